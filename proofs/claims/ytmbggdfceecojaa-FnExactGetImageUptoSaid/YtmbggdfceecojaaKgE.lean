/- Texts GiM GiN TrD TrE GiO, merged. -/
import Derived.Test.YtmbggdfceecojaaKgD
/- An image read: by the program. -/
set_option linter.all false
namespace Go.Proofs.Ytmbggdfceecojaa.Cd
open Go.AM Mc Ho

theorem eqS (xs ys : List Int) (hx : xs.length ≤ maxL) (hy : ys.length ≤ maxL) : ACall Try.prog 89 [.p (.l (rowsK .u8 xs)), .p (.l (rowsK .u8 ys))] [] (fun r H => r = .p (.b (decide (xs = ys)))) := by
  refine call89 (by simp) ?_
  simp only [go_sem, Nat.reduceEqDiff, reduceIte, ↓reduceIte, Nat.reduceAdd, mc89, mr89, rowsK_len]
  intro _ _
  refine condK_split _ (fun hc => ?_) (fun hc => ?_)
  · simp only [go_sem, Nat.reduceEqDiff, reduceIte, ↓reduceIte, Nat.reduceAdd]
    have : xs ≠ ys := by rintro rfl; simp at hc
    simp [this]
  · have hl : xs.length = ys.length := by simp at hc; omega
    simp only [go_sem, Nat.reduceEqDiff, reduceIte, ↓reduceIte, Nat.reduceAdd, rowsK_len]
    intro _
    refine ⟨Nat, [0, 1, 4, 12, 13], fun i st => i ≤ xs.length ∧ xs.take i = ys.take i ∧ st = ⟨[(0, .p (.l (rowsK .u8 xs))), (1, .p (.l (rowsK .u8 ys))), (4, .p (.b false)), (12, .p (.i .i64 xs.length)), (13, .p (.i .i64 i))], [], []⟩, fun i => xs.length - i, ⟨0, ?_⟩, ?_⟩
    · simp only [go_sem, Nat.reduceEqDiff, reduceIte, ↓reduceIte, Nat.reduceAdd]
      exact ⟨Nat.zero_le _, rfl, rfl⟩
    · rintro i st ⟨hi, ht, rfl⟩
      simp only [go_sem, Nat.reduceEqDiff, reduceIte, ↓reduceIte, Nat.reduceAdd]
      refine condK_split _ (fun hc => ?_) (fun hc => ?_)
      · have hil : i < xs.length := by simpa using hc
        have hiy : i < ys.length := by omega
        simp only [go_sem, Nat.reduceEqDiff, reduceIte, ↓reduceIte, Nat.reduceAdd]
        (refine drw_same ?_; simp only [go_sem, Nat.reduceEqDiff, reduceIte, ↓reduceIte, Nat.reduceAdd, rowsK_at _ _ hil, rowsK_at _ _ hiy])
        refine condK_split _ (fun hd => ?_) (fun hd => ?_)
        · simp only [go_sem, Nat.reduceEqDiff, reduceIte, ↓reduceIte, Nat.reduceAdd]
          have : xs ≠ ys := by rintro rfl; simp at hd
          simp [this]
        · simp only [go_sem, Nat.reduceEqDiff, reduceIte, ↓reduceIte, Nat.reduceAdd]
          have he : xs[i] = ys[i] := by simpa using hd
          refine ⟨i + 1, ⟨hil, ?_, ?_⟩, by omega⟩
          · rw [List.take_succ, List.take_succ, ht, List.getElem?_eq_getElem hil, List.getElem?_eq_getElem hiy, he]
          · rw [wr1 hil hx]
      · have hil : i = xs.length := by simp at hc; omega
        simp only [go_sem, Nat.reduceEqDiff, reduceIte, ↓reduceIte, Nat.reduceAdd]
        subst hil
        have : xs = ys := by
          rw [List.take_length, hl, List.take_length] at ht
          exact ht
        simp [this]
theorem eqS_any (xs ys : List Int) (hx : xs.length ≤ maxL) (hy : ys.length ≤ maxL) {H : List AO} {a b : AV} (ha : Lent H a (.p (.l (rowsK .u8 xs)))) (hb : Lent H b (.p (.l (rowsK .u8 ys)))) : ACall Try.prog 89 [a, b] H (fun r H' => r = .p (.b (decide (xs = ys))) ∧ H' = H) :=
  (acall_lend (eqS xs ys hx hy) (fun r H' h => by subst h; exact grnd_b _) (lentAll_cons ha (lentAll_cons hb (lentAll_nil _)))).mono fun r H' ⟨h1, _, h2⟩ => ⟨h2, h1⟩
theorem mark_any {H : List AO} : ACall Try.prog 75 [] H (pureQ (.p (.l (rowsK .u8 [77, 78, 1]))) H) :=
  (acall_fresh mark0 (by simp) (fun r H' h => ⟨_, own_lent (k := .u8) (zs := [77, 78, 1]) (by rw [h.1, h.2]; exact .inr ⟨0, 0, rfl, rfl⟩), rfl⟩)).mono fun r H' ⟨h1, h2⟩ => ⟨h2.symm, h1⟩

set_option maxHeartbeats 4000000 in
theorem implGet0 (bs : List Int) (hb : isB bs) (hl : bs.length ≤ 1048576) : ACall Try.prog 38 [.p (.l (rowsK .u8 bs))] [] (fun r H' => ∃ x, r = .tup [x, .p (.i .i64 (getX (cntI bs) (insI bs) bs).2)] ∧ OwnC H' x (getX (cntI bs) (insI bs) bs).1) := by
  have hlm : bs.length ≤ maxL := by unfold maxL; omega
  refine call38 (by simp) ?_
  simp only [go_sem, Nat.reduceEqDiff, reduceIte, ↓reduceIte, Nat.reduceAdd, List.replicate_succ, List.replicate_zero, List.set_cons_zero, List.set_cons_succ, List.length_cons, List.length_nil, Nat.reduceLT, Nat.lt_add_one, ne_eq, Int.reduceEq, not_false_eq_true, Option.map_some, Nat.reduceLeDiff, Nat.zero_lt_succ, List.map_cons, List.map_nil, List.nil_append, List.cons_append, List.append_nil, bytesOf, List.take_succ_cons, List.take_zero, List.drop_zero, and_self, List.append_assoc, List.length_append, Int.reduceLT, Int.reduceLE, Int.toNat_zero, Int.reduceToNat, Int.cast_ofNat_Int, Int.natCast_zero, Int.natCast_one, Int.reduceAdd, List.map_append, Option.bind_some, mc38, mr38, rowsK_len]
  intro _
  by_cases hlong : 200000 < bs.length
  · have dl : decide ((200000 : Int) < (bs.length : Int)) = true := by simp; omega
    have e : getX (cntI bs) (insI bs) bs = (⟨[], []⟩, 6) := by unfold getX; rw [if_pos hlong]
    rw [e]
    simp only [go_sem, Nat.reduceEqDiff, reduceIte, ↓reduceIte, Nat.reduceAdd, List.replicate_succ, List.replicate_zero, List.set_cons_zero, List.set_cons_succ, List.length_cons, List.length_nil, Nat.reduceLT, Nat.lt_add_one, ne_eq, Int.reduceEq, not_false_eq_true, Option.map_some, Nat.reduceLeDiff, Nat.zero_lt_succ, List.map_cons, List.map_nil, List.nil_append, List.cons_append, List.append_nil, bytesOf, List.take_succ_cons, List.take_zero, List.drop_zero, and_self, List.append_assoc, List.length_append, Int.reduceLT, Int.reduceLE, Int.toNat_zero, Int.reduceToNat, Int.cast_ofNat_Int, Int.natCast_zero, Int.natCast_one, Int.reduceAdd, List.map_append, Option.bind_some, dl]
    exact ⟨_, rfl, ownC_nil _⟩
  have dl : decide ((200000 : Int) < (bs.length : Int)) = false := by simp; omega
  simp only [go_sem, Nat.reduceEqDiff, reduceIte, ↓reduceIte, Nat.reduceAdd, List.replicate_succ, List.replicate_zero, List.set_cons_zero, List.set_cons_succ, List.length_cons, List.length_nil, Nat.reduceLT, Nat.lt_add_one, ne_eq, Int.reduceEq, not_false_eq_true, Option.map_some, Nat.reduceLeDiff, Nat.zero_lt_succ, List.map_cons, List.map_nil, List.nil_append, List.cons_append, List.append_nil, bytesOf, List.take_succ_cons, List.take_zero, List.drop_zero, and_self, List.append_assoc, List.length_append, Int.reduceLT, Int.reduceLE, Int.toNat_zero, Int.reduceToNat, Int.cast_ofNat_Int, Int.natCast_zero, Int.natCast_one, Int.reduceAdd, List.map_append, Option.bind_some, dl]
  refine drw_same ?_
  have hmin : (if (bs.length : Int) < 3 then (bs.length : Int) else 3) = ((min 3 bs.length : Nat) : Int) := by split <;> omega
  simp only [go_sem, Nat.reduceEqDiff, reduceIte, ↓reduceIte, Nat.reduceAdd, List.replicate_succ, List.replicate_zero, List.set_cons_zero, List.set_cons_succ, List.length_cons, List.length_nil, Nat.reduceLT, Nat.lt_add_one, ne_eq, Int.reduceEq, not_false_eq_true, Option.map_some, Nat.reduceLeDiff, Nat.zero_lt_succ, List.map_cons, List.map_nil, List.nil_append, List.cons_append, List.append_nil, bytesOf, List.take_succ_cons, List.take_zero, List.drop_zero, and_self, List.append_assoc, List.length_append, Int.reduceLT, Int.reduceLE, Int.toNat_zero, Int.reduceToNat, Int.cast_ofNat_Int, Int.natCast_zero, Int.natCast_one, Int.reduceAdd, List.map_append, Option.bind_some, rowsK_len, hmin]
  refine ⟨rowsK_one _, by omega, ?_⟩
  rw [Nat.sub_zero, show List.take (min 3 bs.length) (rowsK .u8 bs) = rowsK .u8 (bs.take 3) by simp [rowsK, List.map_take, List.take_eq_take_iff]]
  refine pcall_pure (fun A => mark_any) (Hext.refl _) ?_
  simp only [go_sem, Nat.reduceEqDiff, reduceIte, ↓reduceIte, Nat.reduceAdd, List.replicate_succ, List.replicate_zero, List.set_cons_zero, List.set_cons_succ, List.length_cons, List.length_nil, Nat.reduceLT, Nat.lt_add_one, ne_eq, Int.reduceEq, not_false_eq_true, Option.map_some, Nat.reduceLeDiff, Nat.zero_lt_succ, List.map_cons, List.map_nil, List.nil_append, List.cons_append, List.append_nil, bytesOf, List.take_succ_cons, List.take_zero, List.drop_zero, and_self, List.append_assoc, List.length_append, Int.reduceLT, Int.reduceLE, Int.toNat_zero, Int.reduceToNat, Int.cast_ofNat_Int, Int.natCast_zero, Int.natCast_one, Int.reduceAdd, List.map_append, Option.bind_some]
  refine (eqS_any _ _ (by simp; unfold maxL; omega) (by simp; unfold maxL; omega) (.pure _) (.pure _)).mono ?_
  rintro r H' ⟨rfl, rfl⟩
  by_cases hmk : bs.take 3 ≠ [77, 78, 1]
  · have dm : decide (bs.take 3 = [77, 78, 1]) = false := by simp [hmk]
    have e : getX (cntI bs) (insI bs) bs = (⟨[], []⟩, 1) := by unfold getX; rw [if_neg hlong, if_pos hmk]
    rw [e]
    simp only [go_sem, Nat.reduceEqDiff, reduceIte, ↓reduceIte, Nat.reduceAdd, List.replicate_succ, List.replicate_zero, List.set_cons_zero, List.set_cons_succ, List.length_cons, List.length_nil, Nat.reduceLT, Nat.lt_add_one, ne_eq, Int.reduceEq, not_false_eq_true, Option.map_some, Nat.reduceLeDiff, Nat.zero_lt_succ, List.map_cons, List.map_nil, List.nil_append, List.cons_append, List.append_nil, bytesOf, List.take_succ_cons, List.take_zero, List.drop_zero, and_self, List.append_assoc, List.length_append, Int.reduceLT, Int.reduceLE, Int.toNat_zero, Int.reduceToNat, Int.cast_ofNat_Int, Int.natCast_zero, Int.natCast_one, Int.reduceAdd, List.map_append, Option.bind_some, dm, Bool.not_false]
    exact ⟨_, rfl, ownC_nil _⟩
  have hmk' : bs.take 3 = [77, 78, 1] := Classical.not_not.1 hmk
  have dm : decide (bs.take 3 = [77, 78, 1]) = true := by simp [hmk']
  have h3 : 3 ≤ bs.length := by
    have := congrArg List.length hmk'
    simp at this; omega
  have hB : RdOk bs := ⟨hb, by omega⟩
  simp only [go_sem, Nat.reduceEqDiff, reduceIte, ↓reduceIte, Nat.reduceAdd, List.replicate_succ, List.replicate_zero, List.set_cons_zero, List.set_cons_succ, List.length_cons, List.length_nil, Nat.reduceLT, Nat.lt_add_one, ne_eq, Int.reduceEq, not_false_eq_true, Option.map_some, Nat.reduceLeDiff, Nat.zero_lt_succ, List.map_cons, List.map_nil, List.nil_append, List.cons_append, List.append_nil, bytesOf, List.take_succ_cons, List.take_zero, List.drop_zero, and_self, List.append_assoc, List.length_append, Int.reduceLT, Int.reduceLE, Int.toNat_zero, Int.reduceToNat, Int.cast_ofNat_Int, Int.natCast_zero, Int.natCast_one, Int.reduceAdd, List.map_append, Option.bind_some, dm, Bool.not_true]
  refine (implCount hB (s := (3, 0)) (by simp only; omega) rfl).mono ?_
  rintro r H1 ⟨rfl, rfl⟩
  have la := cntI_le hb (s := (3, 0)) (by simp only; omega)
  simp only [go_sem, Nat.reduceEqDiff, reduceIte, ↓reduceIte, Nat.reduceAdd, List.replicate_succ, List.replicate_zero, List.set_cons_zero, List.set_cons_succ, List.length_cons, List.length_nil, Nat.reduceLT, Nat.lt_add_one, ne_eq, Int.reduceEq, not_false_eq_true, Option.map_some, Nat.reduceLeDiff, Nat.zero_lt_succ, List.map_cons, List.map_nil, List.nil_append, List.cons_append, List.append_nil, bytesOf, List.take_succ_cons, List.take_zero, List.drop_zero, and_self, List.append_assoc, List.length_append, Int.reduceLT, Int.reduceLE, Int.toNat_zero, Int.reduceToNat, Int.cast_ofNat_Int, Int.natCast_zero, Int.natCast_one, Int.reduceAdd, List.map_append, Option.bind_some]
  refine (implCount hB la rfl).mono ?_
  rintro r H1 ⟨rfl, rfl⟩
  have lb := cntI_le hb la
  have hA : (cntI bs (cntI bs (3, 0)).2).2.2 = 0 → (cntI bs (3, 0)).1.toNat ≤ 200000 ∧ 0 ≤ (cntI bs (3, 0)).1 := by
    intro h
    by_cases hz : (cntI bs (3, 0)).2.2 = 0
    · have := cntI_rng hz; omega
    · rw [cntI_bad hz] at h; exact (hz h).elim
  have hBn : (cntI bs (cntI bs (3, 0)).2).2.2 = 0 → (cntI bs (cntI bs (3, 0)).2).1.toNat ≤ 200000 ∧ 0 ≤ (cntI bs (cntI bs (3, 0)).2).1 := fun h => by have := cntI_rng h; omega
  have hX : getX (cntI bs) (insI bs) bs = endD bs (foldR (numD bs) (cntI bs (3, 0)).1.toNat (cntI bs (cntI bs (3, 0)).2).2).1
    (foldR (insI bs) (cntI bs (cntI bs (3, 0)).2).1.toNat (foldR (numD bs) (cntI bs (3, 0)).1.toNat (cntI bs (cntI bs (3, 0)).2).2).2).1
    (foldR (insI bs) (cntI bs (cntI bs (3, 0)).2).1.toNat (foldR (numD bs) (cntI bs (3, 0)).1.toNat (cntI bs (cntI bs (3, 0)).2).2).2).2 := by
    unfold getX; rw [if_neg hlong, if_neg hmk]
  rw [hX]
  clear hX
  generalize cntI bs (cntI bs (3, 0)).2 = nb at *
  generalize cntI bs (3, 0) = na at *
  simp only [go_sem, Nat.reduceEqDiff, reduceIte, ↓reduceIte, Nat.reduceAdd, List.replicate_succ, List.replicate_zero, List.set_cons_zero, List.set_cons_succ, List.length_cons, List.length_nil, Nat.reduceLT, Nat.lt_add_one, ne_eq, Int.reduceEq, not_false_eq_true, Option.map_some, Nat.reduceLeDiff, Nat.zero_lt_succ, List.map_cons, List.map_nil, List.nil_append, List.cons_append, List.append_nil, bytesOf, List.take_succ_cons, List.take_zero, List.drop_zero, and_self, List.append_assoc, List.length_append, Int.reduceLT, Int.reduceLE, Int.toNat_zero, Int.reduceToNat, Int.cast_ofNat_Int, Int.natCast_zero, Int.natCast_one, Int.reduceAdd, List.map_append, Option.bind_some]
  -- the loops
  refine ⟨Nat × List Int × AV × RS × List AO, [0, 2, 3, 4, 5, 6, 7, 8], fun y st => y.2.1.length = y.1 ∧ y.2.2.2.1.1 ≤ bs.length ∧ (y.2.2.2.1.2 = 0 → nb.2.2 = 0) ∧ GI bs 1 2 y.2.2.2.1 (.p .nl) y.2.2.1 [] y.2.1 y.2.2.2.2 ∧
      foldR (numD bs) na.1.toNat nb.2 = (y.2.1 ++ (foldR (numD bs) (na.1.toNat - y.1) y.2.2.2.1).1, (foldR (numD bs) (na.1.toNat - y.1) y.2.2.2.1).2) ∧
      st = ⟨[(0, .p (.l (rowsK .u8 bs))), (2, .ptr 0 0), (3, .p (.i .i64 0)), (4, .ptr 1 0), (5, .p (.i .i64 na.1)), (6, .p (.i .i64 nb.1)), (7, .ptr 2 0), (8, .p (.i .i64 y.1))], [], y.2.2.2.2⟩, fun y => na.1.toNat - y.1, ⟨⟨0, [], .p .nl, nb.2, [.var [.p .nl, .p .nl], rdO bs nb.2, .var [.p .nl, .p .nl]]⟩, ?_⟩, ?_⟩
  · simp only [go_sem, Nat.reduceEqDiff, reduceIte, ↓reduceIte, Nat.reduceAdd, List.replicate_succ, List.replicate_zero, List.set_cons_zero, List.set_cons_succ, List.length_cons, List.length_nil, Nat.reduceLT, Nat.lt_add_one, ne_eq, Int.reduceEq, not_false_eq_true, Option.map_some, Nat.reduceLeDiff, Nat.zero_lt_succ, List.map_cons, List.map_nil, List.nil_append, List.cons_append, List.append_nil, bytesOf, List.take_succ_cons, List.take_zero, List.drop_zero, and_self, List.append_assoc, List.length_append, Int.reduceLT, Int.reduceLE, Int.toNat_zero, Int.reduceToNat, Int.cast_ofNat_Int, Int.natCast_zero, Int.natCast_one, Int.reduceAdd, List.map_append, Option.bind_some]
    exact ⟨lb, fun h => h, ⟨by omega, fun j hj => by match j, hj with | 0, _ => rfl, rfl, rfl, .inl ⟨rfl, rfl⟩, .inl ⟨rfl, rfl⟩⟩, by simp⟩
  rintro ⟨i, acc, b, s, H⟩ st ⟨hacc, hs, hnz, hG, hF, rfl⟩
  simp only at hacc hs hnz hG hF
  have h2 := hG.rd
  unfold rdO at h2
  by_cases hi : (i : Int) < na.1 ∧ s.2 = 0
  · obtain ⟨hi, hz⟩ := hi
    have hA' := hA (hnz hz)
    have d1 : decide ((i : Int) < na.1) = true := by simp [hi]
    have e1 : wr .i64 ((i : Int) + 1) = ((i + 1 : Nat) : Int) := by rw [wr64 (by omega) (by omega)]; omega
    simp only [go_sem, Nat.reduceEqDiff, reduceIte, ↓reduceIte, Nat.reduceAdd, List.replicate_succ, List.replicate_zero, List.set_cons_zero, List.set_cons_succ, List.length_cons, List.length_nil, Nat.reduceLT, Nat.lt_add_one, ne_eq, Int.reduceEq, not_false_eq_true, Option.map_some, Nat.reduceLeDiff, Nat.zero_lt_succ, List.map_cons, List.map_nil, List.nil_append, List.cons_append, List.append_nil, bytesOf, List.take_succ_cons, List.take_zero, List.drop_zero, and_self, List.append_assoc, List.length_append, Int.reduceLT, Int.reduceLE, Int.toNat_zero, Int.reduceToNat, Int.cast_ofNat_Int, Int.natCast_zero, Int.natCast_one, Int.reduceAdd, List.map_append, Option.bind_some, d1, h2, hz]
    have hod : (H.set 1 .dead)[2]? = some (.var [.p .nl, b]) := get_set hG.out (by omega)
    refine ⟨H.set 1 .dead, hext_dead0 _ _, ?_⟩
    simp only [go_sem, Nat.reduceEqDiff, reduceIte, ↓reduceIte, Nat.reduceAdd, List.replicate_succ, List.replicate_zero, List.set_cons_zero, List.set_cons_succ, List.length_cons, List.length_nil, Nat.reduceLT, Nat.lt_add_one, ne_eq, Int.reduceEq, not_false_eq_true, Option.map_some, Nat.reduceLeDiff, Nat.zero_lt_succ, List.map_cons, List.map_nil, List.nil_append, List.cons_append, List.append_nil, bytesOf, List.take_succ_cons, List.take_zero, List.drop_zero, and_self, List.append_assoc, List.length_append, Int.reduceLT, Int.reduceLE, Int.toNat_zero, Int.reduceToNat, Int.cast_ofNat_Int, Int.natCast_zero, Int.natCast_one, Int.reduceAdd, List.map_append, Option.bind_some, hod]
    refine pcall_chain _ (H.set 1 (rdO bs (numD bs s).2)) (by simp) (hext_dead _ _ _) (num_chain (implNum hB) hs hG.rd) ?_
    simp only [go_sem, Nat.reduceEqDiff, reduceIte, ↓reduceIte, Nat.reduceAdd, List.replicate_succ, List.replicate_zero, List.set_cons_zero, List.set_cons_succ, List.length_cons, List.length_nil, Nat.reduceLT, Nat.lt_add_one, ne_eq, Int.reduceEq, not_false_eq_true, Option.map_some, Nat.reduceLeDiff, Nat.zero_lt_succ, List.map_cons, List.map_nil, List.nil_append, List.cons_append, List.append_nil, bytesOf, List.take_succ_cons, List.take_zero, List.drop_zero, and_self, List.append_assoc, List.length_append, Int.reduceLT, Int.reduceLE, Int.toNat_zero, Int.reduceToNat, Int.cast_ofNat_Int, Int.natCast_zero, Int.natCast_one, Int.reduceAdd, List.map_append, Option.bind_some]
    have hG2 := hG.rds (numD bs s).2
    have hle2 := hG2.le
    refine ⟨by simp, app_at (hG2.ob.ext _) (by simp at hle2 ⊢; omega) (by simp [intR_len', hacc]; omega) (by simp [intR_len', hacc]; omega) fun id ver H' p0 p1 p2 p3 p4 => ?_⟩
    rw [show (intR .i64 acc ++ [[AV.p (.i .i64 (numD bs s).1)]]) = intR .i64 (acc ++ [(numD bs s).1]) by rw [← intR_app]; rfl] at p2
    rw [show (intR .i64 acc).length + [[AV.p (.i .i64 (numD bs s).1)]].length = (intR .i64 (acc ++ [(numD bs s).1])).length by simp [intR]]
    have ho' : H'[2]? = some (.var [.p .nl, b]) := p3.1 2 _ (get_ext hG2.out _) (fun f => f)
    have hG3 := hG2.putB _ p0 p1 p2 p3 p4
    simp only [go_sem, Nat.reduceEqDiff, reduceIte, ↓reduceIte, Nat.reduceAdd, List.replicate_succ, List.replicate_zero, List.set_cons_zero, List.set_cons_succ, List.length_cons, List.length_nil, Nat.reduceLT, Nat.lt_add_one, ne_eq, Int.reduceEq, not_false_eq_true, Option.map_some, Nat.reduceLeDiff, Nat.zero_lt_succ, List.map_cons, List.map_nil, List.nil_append, List.cons_append, List.append_nil, bytesOf, List.take_succ_cons, List.take_zero, List.drop_zero, and_self, List.append_assoc, List.length_append, Int.reduceLT, Int.reduceLE, Int.toNat_zero, Int.reduceToNat, Int.cast_ofNat_Int, Int.natCast_zero, Int.natCast_one, Int.reduceAdd, List.map_append, Option.bind_some, ho', e1]
    exact ⟨⟨i + 1, acc ++ [(numD bs s).1], _, (numD bs s).2, _⟩, ⟨by simp [hacc], numD_le hb hs, fun _ => hnz hz, hG3, foldR_step (by omega) hz hF, rfl⟩, by simp only; omega⟩
  have hstop := foldR_stop (by rintro ⟨h1, h2⟩; exact hi ⟨by omega, h2⟩) hF
  rw [hstop]
  simp only
  by_cases h1 : (i : Int) < na.1
  case' pos =>
    have hz : s.2 ≠ 0 := fun h => hi ⟨h1, h⟩
    have d1 : decide ((i : Int) < na.1) = true := by simp [h1]
    have d2 : decide (s.2 = 0) = false := by simp [hz]
    simp only [go_sem, Nat.reduceEqDiff, reduceIte, ↓reduceIte, Nat.reduceAdd, List.replicate_succ, List.replicate_zero, List.set_cons_zero, List.set_cons_succ, List.length_cons, List.length_nil, Nat.reduceLT, Nat.lt_add_one, ne_eq, Int.reduceEq, not_false_eq_true, Option.map_some, Nat.reduceLeDiff, Nat.zero_lt_succ, List.map_cons, List.map_nil, List.nil_append, List.cons_append, List.append_nil, bytesOf, List.take_succ_cons, List.take_zero, List.drop_zero, and_self, List.append_assoc, List.length_append, Int.reduceLT, Int.reduceLE, Int.toNat_zero, Int.reduceToNat, Int.cast_ofNat_Int, Int.natCast_zero, Int.natCast_one, Int.reduceAdd, List.map_append, Option.bind_some, d1, h2, d2]
  case' neg =>
    have d1 : decide ((i : Int) < na.1) = false := by simp [h1]
    simp only [go_sem, Nat.reduceEqDiff, reduceIte, ↓reduceIte, Nat.reduceAdd, List.replicate_succ, List.replicate_zero, List.set_cons_zero, List.set_cons_succ, List.length_cons, List.length_nil, Nat.reduceLT, Nat.lt_add_one, ne_eq, Int.reduceEq, not_false_eq_true, Option.map_some, Nat.reduceLeDiff, Nat.zero_lt_succ, List.map_cons, List.map_nil, List.nil_append, List.cons_append, List.append_nil, bytesOf, List.take_succ_cons, List.take_zero, List.drop_zero, and_self, List.append_assoc, List.length_append, Int.reduceLT, Int.reduceLE, Int.toNat_zero, Int.reduceToNat, Int.cast_ofNat_Int, Int.natCast_zero, Int.natCast_one, Int.reduceAdd, List.map_append, Option.bind_some, d1, h2]
  all_goals
    have hst1 := hstop
    clear hF hstop h1 d1 hi
    refine ⟨Nat × List InsD × AV × RS × List AO, [0, 2, 3, 4, 5, 6, 7, 9], fun y st => y.2.1.length = y.1 ∧ y.2.2.2.1.1 ≤ bs.length ∧ (y.2.2.2.1.2 = 0 → nb.2.2 = 0) ∧ GI bs 1 2 y.2.2.2.1 y.2.2.1 b y.2.1 acc y.2.2.2.2 ∧
        foldR (insI bs) nb.1.toNat s = (y.2.1 ++ (foldR (insI bs) (nb.1.toNat - y.1) y.2.2.2.1).1, (foldR (insI bs) (nb.1.toNat - y.1) y.2.2.2.1).2) ∧
        st = ⟨[(0, .p (.l (rowsK .u8 bs))), (2, .ptr 0 0), (3, .p (.i .i64 0)), (4, .ptr 1 0), (5, .p (.i .i64 na.1)), (6, .p (.i .i64 nb.1)), (7, .ptr 2 0), (9, .p (.i .i64 y.1))], [], y.2.2.2.2⟩, fun y => nb.1.toNat - y.1, ⟨⟨0, [], .p .nl, s, H⟩, ?_⟩, ?_⟩
    · simp only [go_sem, Nat.reduceEqDiff, reduceIte, ↓reduceIte, Nat.reduceAdd, List.replicate_succ, List.replicate_zero, List.set_cons_zero, List.set_cons_succ, List.length_cons, List.length_nil, Nat.reduceLT, Nat.lt_add_one, ne_eq, Int.reduceEq, not_false_eq_true, Option.map_some, Nat.reduceLeDiff, Nat.zero_lt_succ, List.map_cons, List.map_nil, List.nil_append, List.cons_append, List.append_nil, bytesOf, List.take_succ_cons, List.take_zero, List.drop_zero, and_self, List.append_assoc, List.length_append, Int.reduceLT, Int.reduceLE, Int.toNat_zero, Int.reduceToNat, Int.cast_ofNat_Int, Int.natCast_zero, Int.natCast_one, Int.reduceAdd, List.map_append, Option.bind_some]
      exact ⟨hs, hnz, hG, by simp⟩
    clear hG hs hnz hacc h2
    rintro ⟨j, xs, a, u, G⟩ st ⟨hxl, hu, hnz, hG, hF, rfl⟩
    simp only at hxl hu hnz hG hF
    have h2 := hG.rd
    unfold rdO at h2
    by_cases hi : (j : Int) < nb.1 ∧ u.2 = 0
    · obtain ⟨hi, hz⟩ := hi
      have hA' := hBn (hnz hz)
      have d1 : decide ((j : Int) < nb.1) = true := by simp [hi]
      have e1 : wr .i64 ((j : Int) + 1) = ((j + 1 : Nat) : Int) := by rw [wr64 (by omega) (by omega)]; omega
      simp only [go_sem, Nat.reduceEqDiff, reduceIte, ↓reduceIte, Nat.reduceAdd, List.replicate_succ, List.replicate_zero, List.set_cons_zero, List.set_cons_succ, List.length_cons, List.length_nil, Nat.reduceLT, Nat.lt_add_one, ne_eq, Int.reduceEq, not_false_eq_true, Option.map_some, Nat.reduceLeDiff, Nat.zero_lt_succ, List.map_cons, List.map_nil, List.nil_append, List.cons_append, List.append_nil, bytesOf, List.take_succ_cons, List.take_zero, List.drop_zero, and_self, List.append_assoc, List.length_append, Int.reduceLT, Int.reduceLE, Int.toNat_zero, Int.reduceToNat, Int.cast_ofNat_Int, Int.natCast_zero, Int.natCast_one, Int.reduceAdd, List.map_append, Option.bind_some, d1, h2, hz]
      have hod : (G.set 1 .dead)[2]? = some (.var [a, b]) := get_set hG.out (by omega)
      refine ⟨G.set 1 .dead, hext_dead0 _ _, ?_⟩
      simp only [go_sem, Nat.reduceEqDiff, reduceIte, ↓reduceIte, Nat.reduceAdd, List.replicate_succ, List.replicate_zero, List.set_cons_zero, List.set_cons_succ, List.length_cons, List.length_nil, Nat.reduceLT, Nat.lt_add_one, ne_eq, Int.reduceEq, not_false_eq_true, Option.map_some, Nat.reduceLeDiff, Nat.zero_lt_succ, List.map_cons, List.map_nil, List.nil_append, List.cons_append, List.append_nil, bytesOf, List.take_succ_cons, List.take_zero, List.drop_zero, and_self, List.append_assoc, List.length_append, Int.reduceLT, Int.reduceLE, Int.toNat_zero, Int.reduceToNat, Int.cast_ofNat_Int, Int.natCast_zero, Int.natCast_one, Int.reduceAdd, List.map_append, Option.bind_some, hod]
      refine pcall_chain _ (G.set 1 (rdO bs (insI bs u).2)) (by simp) (hext_dead _ _ _) (ins_chain (implIns hB) hu hG.rd) ?_
      simp only [go_sem, Nat.reduceEqDiff, reduceIte, ↓reduceIte, Nat.reduceAdd, List.replicate_succ, List.replicate_zero, List.set_cons_zero, List.set_cons_succ, List.length_cons, List.length_nil, Nat.reduceLT, Nat.lt_add_one, ne_eq, Int.reduceEq, not_false_eq_true, Option.map_some, Nat.reduceLeDiff, Nat.zero_lt_succ, List.map_cons, List.map_nil, List.nil_append, List.cons_append, List.append_nil, bytesOf, List.take_succ_cons, List.take_zero, List.drop_zero, and_self, List.append_assoc, List.length_append, Int.reduceLT, Int.reduceLE, Int.toNat_zero, Int.reduceToNat, Int.cast_ofNat_Int, Int.natCast_zero, Int.natCast_one, Int.reduceAdd, List.map_append, Option.bind_some, InsD.cells]
      have hG2 := hG.rds (insI bs u).2
      have hle2 := hG2.le
      refine ⟨by simp, app_at (hG2.oa.ext _) (by simp at hle2 ⊢; omega) (by simp [insR_len, hxl]; omega) (by simp [insR_len, hxl]; omega) fun id ver H' p0 p1 p2 p3 p4 => ?_⟩
      rw [show (insR xs ++ [[AV.p (.i .i64 (insI bs u).1.op), AV.p (.i .i64 (insI bs u).1.a), AV.p (.i .i64 (insI bs u).1.b), AV.p (.i .i64 (insI bs u).1.c), AV.p (.i .i64 (insI bs u).1.n), AV.p (.s (insI bs u).1.text)]]) = insR (xs ++ [(insI bs u).1]) by rw [← insR_app]; rfl] at p2
      rw [show (insR xs).length + [[AV.p (.i .i64 (insI bs u).1.op), AV.p (.i .i64 (insI bs u).1.a), AV.p (.i .i64 (insI bs u).1.b), AV.p (.i .i64 (insI bs u).1.c), AV.p (.i .i64 (insI bs u).1.n), AV.p (.s (insI bs u).1.text)]].length = (insR (xs ++ [(insI bs u).1])).length by simp [insR]]
      have ho' : H'[2]? = some (.var [a, b]) := p3.1 2 _ (get_ext hG2.out _) (fun f => f)
      have hG3 := hG2.putA _ p0 p1 p2 p3 p4
      simp only [go_sem, Nat.reduceEqDiff, reduceIte, ↓reduceIte, Nat.reduceAdd, List.replicate_succ, List.replicate_zero, List.set_cons_zero, List.set_cons_succ, List.length_cons, List.length_nil, Nat.reduceLT, Nat.lt_add_one, ne_eq, Int.reduceEq, not_false_eq_true, Option.map_some, Nat.reduceLeDiff, Nat.zero_lt_succ, List.map_cons, List.map_nil, List.nil_append, List.cons_append, List.append_nil, bytesOf, List.take_succ_cons, List.take_zero, List.drop_zero, and_self, List.append_assoc, List.length_append, Int.reduceLT, Int.reduceLE, Int.toNat_zero, Int.reduceToNat, Int.cast_ofNat_Int, Int.natCast_zero, Int.natCast_one, Int.reduceAdd, List.map_append, Option.bind_some, ho', e1]
      exact ⟨⟨j + 1, xs ++ [(insI bs u).1], _, (insI bs u).2, _⟩, ⟨by simp [hxl], insI_le hb hu, fun _ => hnz hz, hG3, foldR_step (by omega) hz hF, rfl⟩, by simp only; omega⟩
    have hstop := foldR_stop (by rintro ⟨h1, h2⟩; exact hi ⟨by omega, h2⟩) hF
    rw [hstop]
    simp only
    by_cases h1 : (j : Int) < nb.1
    case' pos =>
      have hz : u.2 ≠ 0 := fun h => hi ⟨h1, h⟩
      have d1 : decide ((j : Int) < nb.1) = true := by simp [h1]
      have d2 : decide (u.2 = 0) = false := by simp [hz]
      simp only [go_sem, Nat.reduceEqDiff, reduceIte, ↓reduceIte, Nat.reduceAdd, List.replicate_succ, List.replicate_zero, List.set_cons_zero, List.set_cons_succ, List.length_cons, List.length_nil, Nat.reduceLT, Nat.lt_add_one, ne_eq, Int.reduceEq, not_false_eq_true, Option.map_some, Nat.reduceLeDiff, Nat.zero_lt_succ, List.map_cons, List.map_nil, List.nil_append, List.cons_append, List.append_nil, bytesOf, List.take_succ_cons, List.take_zero, List.drop_zero, and_self, List.append_assoc, List.length_append, Int.reduceLT, Int.reduceLE, Int.toNat_zero, Int.reduceToNat, Int.cast_ofNat_Int, Int.natCast_zero, Int.natCast_one, Int.reduceAdd, List.map_append, Option.bind_some, d1, h2, d2, rowsK_len]
    case' neg =>
      have d1 : decide ((j : Int) < nb.1) = false := by simp [h1]
      simp only [go_sem, Nat.reduceEqDiff, reduceIte, ↓reduceIte, Nat.reduceAdd, List.replicate_succ, List.replicate_zero, List.set_cons_zero, List.set_cons_succ, List.length_cons, List.length_nil, Nat.reduceLT, Nat.lt_add_one, ne_eq, Int.reduceEq, not_false_eq_true, Option.map_some, Nat.reduceLeDiff, Nat.zero_lt_succ, List.map_cons, List.map_nil, List.nil_append, List.cons_append, List.append_nil, bytesOf, List.take_succ_cons, List.take_zero, List.drop_zero, and_self, List.append_assoc, List.length_append, Int.reduceLT, Int.reduceLE, Int.toNat_zero, Int.reduceToNat, Int.cast_ofNat_Int, Int.natCast_zero, Int.natCast_one, Int.reduceAdd, List.map_append, Option.bind_some, d1, h2, rowsK_len]
    all_goals
      intro _
      have f0 := hG.vk 0 (by omega)
      have fo := hG.out
      have hlt := hG.lt
      by_cases hz : u.2 = 0
      case neg =>
        have dz : decide (u.2 = 0) = false := by simp [hz]
        have e : endD bs acc xs u = (⟨[], []⟩, u.2) := by unfold endD; rw [if_pos hz]
        rw [e]
        simp only [go_sem, Nat.reduceEqDiff, reduceIte, ↓reduceIte, Nat.reduceAdd, List.replicate_succ, List.replicate_zero, List.set_cons_zero, List.set_cons_succ, List.length_cons, List.length_nil, Nat.reduceLT, Nat.lt_add_one, ne_eq, Int.reduceEq, not_false_eq_true, Option.map_some, Nat.reduceLeDiff, Nat.zero_lt_succ, List.map_cons, List.map_nil, List.nil_append, List.cons_append, List.append_nil, bytesOf, List.take_succ_cons, List.take_zero, List.drop_zero, and_self, List.append_assoc, List.length_append, Int.reduceLT, Int.reduceLE, Int.toNat_zero, Int.reduceToNat, Int.cast_ofNat_Int, Int.natCast_zero, Int.natCast_one, Int.reduceAdd, List.map_append, Option.bind_some, dz, Bool.not_false]
        have g2 : (G.set 0 .dead)[1]? = some (.var [.p (.l (rowsK .u8 bs)), .p (.i .i64 u.1), .p (.i .i64 u.2)]) := get_set h2 (by omega)
        refine ⟨G.set 0 .dead, hext_dead0 _ _, ?_⟩
        simp only [go_sem, Nat.reduceEqDiff, reduceIte, ↓reduceIte, Nat.reduceAdd, List.replicate_succ, List.replicate_zero, List.set_cons_zero, List.set_cons_succ, List.length_cons, List.length_nil, Nat.reduceLT, Nat.lt_add_one, ne_eq, Int.reduceEq, not_false_eq_true, Option.map_some, Nat.reduceLeDiff, Nat.zero_lt_succ, List.map_cons, List.map_nil, List.nil_append, List.cons_append, List.append_nil, bytesOf, List.take_succ_cons, List.take_zero, List.drop_zero, and_self, List.append_assoc, List.length_append, Int.reduceLT, Int.reduceLE, Int.toNat_zero, Int.reduceToNat, Int.cast_ofNat_Int, Int.natCast_zero, Int.natCast_one, Int.reduceAdd, List.map_append, Option.bind_some, g2, f0, h2]
        refine ⟨by simp, hext_dead _ _ _, ?_⟩
        simp only [go_sem, Nat.reduceEqDiff, reduceIte, ↓reduceIte, Nat.reduceAdd, List.replicate_succ, List.replicate_zero, List.set_cons_zero, List.set_cons_succ, List.length_cons, List.length_nil, Nat.reduceLT, Nat.lt_add_one, ne_eq, Int.reduceEq, not_false_eq_true, Option.map_some, Nat.reduceLeDiff, Nat.zero_lt_succ, List.map_cons, List.map_nil, List.nil_append, List.cons_append, List.append_nil, bytesOf, List.take_succ_cons, List.take_zero, List.drop_zero, and_self, List.append_assoc, List.length_append, Int.reduceLT, Int.reduceLE, Int.toNat_zero, Int.reduceToNat, Int.cast_ofNat_Int, Int.natCast_zero, Int.natCast_one, Int.reduceAdd, List.map_append, Option.bind_some, set_get f0]
        exact ⟨_, rfl, ownC_nil _⟩
      try exact absurd hz (by assumption)
      all_goals
        have ed : wr .i64 ((bs.length : Int) - (u.1 : Int)) = (bs.length : Int) - (u.1 : Int) := wr64 (by omega) (by omega)
        by_cases hl4 : (bs.length : Int) - (u.1 : Int) < 4
        · have d4 : decide ((bs.length : Int) - (u.1 : Int) < 4) = true := by simp; omega
          have e : endD bs acc xs u = (⟨[], []⟩, 2) := by unfold endD; rw [if_neg (by simp [hz]), if_pos hl4]
          rw [e]
          simp only [go_sem, Nat.reduceEqDiff, reduceIte, ↓reduceIte, Nat.reduceAdd, List.replicate_succ, List.replicate_zero, List.set_cons_zero, List.set_cons_succ, List.length_cons, List.length_nil, Nat.reduceLT, Nat.lt_add_one, ne_eq, Int.reduceEq, not_false_eq_true, Option.map_some, Nat.reduceLeDiff, Nat.zero_lt_succ, List.map_cons, List.map_nil, List.nil_append, List.cons_append, List.append_nil, bytesOf, List.take_succ_cons, List.take_zero, List.drop_zero, and_self, List.append_assoc, List.length_append, Int.reduceLT, Int.reduceLE, Int.toNat_zero, Int.reduceToNat, Int.cast_ofNat_Int, Int.natCast_zero, Int.natCast_one, Int.reduceAdd, List.map_append, Option.bind_some, hz, Bool.not_true, ed, d4, f0, set_get f0]
          exact ⟨_, rfl, ownC_nil _⟩
        have d4 : decide ((bs.length : Int) - (u.1 : Int) < 4) = false := by simp; omega
        by_cases hg4 : 4 < (bs.length : Int) - (u.1 : Int)
        · have d5 : decide (4 < (bs.length : Int) - (u.1 : Int)) = true := by simp; omega
          have e : endD bs acc xs u = (⟨[], []⟩, 3) := by unfold endD; rw [if_neg (by simp [hz]), if_neg hl4, if_pos hg4]
          rw [e]
          simp only [go_sem, Nat.reduceEqDiff, reduceIte, ↓reduceIte, Nat.reduceAdd, List.replicate_succ, List.replicate_zero, List.set_cons_zero, List.set_cons_succ, List.length_cons, List.length_nil, Nat.reduceLT, Nat.lt_add_one, ne_eq, Int.reduceEq, not_false_eq_true, Option.map_some, Nat.reduceLeDiff, Nat.zero_lt_succ, List.map_cons, List.map_nil, List.nil_append, List.cons_append, List.append_nil, bytesOf, List.take_succ_cons, List.take_zero, List.drop_zero, and_self, List.append_assoc, List.length_append, Int.reduceLT, Int.reduceLE, Int.toNat_zero, Int.reduceToNat, Int.cast_ofNat_Int, Int.natCast_zero, Int.natCast_one, Int.reduceAdd, List.map_append, Option.bind_some, hz, Bool.not_true, ed, d4, d5, f0, set_get f0]
          exact ⟨_, rfl, ownC_nil _⟩
        have d5 : decide (4 < (bs.length : Int) - (u.1 : Int)) = false := by simp; omega
        simp only [go_sem, Nat.reduceEqDiff, reduceIte, ↓reduceIte, Nat.reduceAdd, List.replicate_succ, List.replicate_zero, List.set_cons_zero, List.set_cons_succ, List.length_cons, List.length_nil, Nat.reduceLT, Nat.lt_add_one, ne_eq, Int.reduceEq, not_false_eq_true, Option.map_some, Nat.reduceLeDiff, Nat.zero_lt_succ, List.map_cons, List.map_nil, List.nil_append, List.cons_append, List.append_nil, bytesOf, List.take_succ_cons, List.take_zero, List.drop_zero, and_self, List.append_assoc, List.length_append, Int.reduceLT, Int.reduceLE, Int.toNat_zero, Int.reduceToNat, Int.cast_ofNat_Int, Int.natCast_zero, Int.natCast_one, Int.reduceAdd, List.map_append, Option.bind_some, hz, Bool.not_true, ed, d4, d5]
        refine drw_same ?_
        simp only [go_sem, Nat.reduceEqDiff, reduceIte, ↓reduceIte, Nat.reduceAdd, List.replicate_succ, List.replicate_zero, List.set_cons_zero, List.set_cons_succ, List.length_cons, List.length_nil, Nat.reduceLT, Nat.lt_add_one, ne_eq, Int.reduceEq, not_false_eq_true, Option.map_some, Nat.reduceLeDiff, Nat.zero_lt_succ, List.map_cons, List.map_nil, List.nil_append, List.cons_append, List.append_nil, bytesOf, List.take_succ_cons, List.take_zero, List.drop_zero, and_self, List.append_assoc, List.length_append, Int.reduceLT, Int.reduceLE, Int.toNat_zero, Int.reduceToNat, Int.cast_ofNat_Int, Int.natCast_zero, Int.natCast_one, Int.reduceAdd, List.map_append, Option.bind_some, h2, rowsK_len]
        refine ⟨rowsK_one _, by omega, ?_⟩
        rw [Nat.sub_zero, show List.take u.1 (rowsK .u8 bs) = rowsK .u8 (bs.take u.1) by simp [rowsK, List.map_take]]
        refine pcall_pure (fun A => sumOf_any (bs.take u.1) (fun x hx => hb x (List.mem_of_mem_take hx)) (by simp; omega)) (Hext.refl _) ?_
        simp only [go_sem, Nat.reduceEqDiff, reduceIte, ↓reduceIte, Nat.reduceAdd, List.replicate_succ, List.replicate_zero, List.set_cons_zero, List.set_cons_succ, List.length_cons, List.length_nil, Nat.reduceLT, Nat.lt_add_one, ne_eq, Int.reduceEq, not_false_eq_true, Option.map_some, Nat.reduceLeDiff, Nat.zero_lt_succ, List.map_cons, List.map_nil, List.nil_append, List.cons_append, List.append_nil, bytesOf, List.take_succ_cons, List.take_zero, List.drop_zero, and_self, List.append_assoc, List.length_append, Int.reduceLT, Int.reduceLE, Int.toNat_zero, Int.reduceToNat, Int.cast_ofNat_Int, Int.natCast_zero, Int.natCast_one, Int.reduceAdd, List.map_append, Option.bind_some, h2, rowsK_len]
        refine ⟨rowsK_one _, by omega, ?_⟩
        rw [rowsK_slice, List.take_of_length_le (show (bs.drop u.1).length ≤ bs.length - u.1 by simp)]
        refine (eqS_any _ _ (by simp [sumB]; unfold maxL; omega) (by simp; omega) (.pure _) (.pure _)).mono ?_
        rintro r H' ⟨rfl, rfl⟩
        by_cases hsum : sumB (bs.take u.1) = bs.drop u.1
        case neg =>
          have ds : decide (sumB (bs.take u.1) = bs.drop u.1) = false := by simp [hsum]
          have e : endD bs acc xs u = (⟨[], []⟩, 4) := by unfold endD; rw [if_neg (by simp [hz]), if_neg hl4, if_neg hg4, if_pos hsum]
          rw [e]
          simp only [go_sem, Nat.reduceEqDiff, reduceIte, ↓reduceIte, Nat.reduceAdd, List.replicate_succ, List.replicate_zero, List.set_cons_zero, List.set_cons_succ, List.length_cons, List.length_nil, Nat.reduceLT, Nat.lt_add_one, ne_eq, Int.reduceEq, not_false_eq_true, Option.map_some, Nat.reduceLeDiff, Nat.zero_lt_succ, List.map_cons, List.map_nil, List.nil_append, List.cons_append, List.append_nil, bytesOf, List.take_succ_cons, List.take_zero, List.drop_zero, and_self, List.append_assoc, List.length_append, Int.reduceLT, Int.reduceLE, Int.toNat_zero, Int.reduceToNat, Int.cast_ofNat_Int, Int.natCast_zero, Int.natCast_one, Int.reduceAdd, List.map_append, Option.bind_some, ds, Bool.not_false, f0, set_get f0]
          exact ⟨_, rfl, ownC_nil _⟩
        have ds : decide (sumB (bs.take u.1) = bs.drop u.1) = true := by simp [hsum]
        have hxs : xs = (foldR (insI bs) nb.1.toNat s).1 := by rw [hstop]
        have hac : acc = (foldR (numD bs) na.1.toNat nb.2).1 := by rw [hst1]
        have hokc : okCode ⟨xs, acc⟩ := by
          have n0 := hnz hz
          refine ⟨⟨?_, ?_⟩, ?_⟩
          · rw [hxs]
            exact Nat.le_trans (foldR_len _ _ _) (Nat.le_trans (hBn n0).1 (by unfold maxL; omega))
          · rw [hxs]
            exact foldR_all (p := fun x : InsD => x.text.length ≤ maxL) (fun s => insI_text hlm s) _ _
          · rw [hac]
            exact Nat.le_trans (foldR_len _ _ _) (Nat.le_trans (hA n0).1 (by unfold maxL; omega))
        have hlent : Lent H' (.st [a, b]) (.st ((⟨xs, acc⟩ : CodeD).cells.map .p)) := .st _ _ rfl fun j x y hx hy => by
          match j with
          | 0 => cases hx; cases hy; exact ownI_lent hG.oa.own
          | 1 => cases hx; cases hy; exact ownZ_lent hG.ob.own
          | j + 2 => simp [CodeD.cells] at hy
        simp only [go_sem, Nat.reduceEqDiff, reduceIte, ↓reduceIte, Nat.reduceAdd, List.replicate_succ, List.replicate_zero, List.set_cons_zero, List.set_cons_succ, List.length_cons, List.length_nil, Nat.reduceLT, Nat.lt_add_one, ne_eq, Int.reduceEq, not_false_eq_true, Option.map_some, Nat.reduceLeDiff, Nat.zero_lt_succ, List.map_cons, List.map_nil, List.nil_append, List.cons_append, List.append_nil, bytesOf, List.take_succ_cons, List.take_zero, List.drop_zero, and_self, List.append_assoc, List.length_append, Int.reduceLT, Int.reduceLE, Int.toNat_zero, Int.reduceToNat, Int.cast_ofNat_Int, Int.natCast_zero, Int.natCast_one, Int.reduceAdd, List.map_append, Option.bind_some, ds, Bool.not_true, fo]
        refine (acall_lend (implCodeOk ⟨xs, acc⟩ hokc) (fun r H' h => by subst h; exact grnd_b _) (lentAll_cons hlent (lentAll_nil _))).mono ?_
        rintro r H' ⟨rfl, _, rfl⟩
        by_cases hcd : codeOk ⟨xs, acc⟩ = false
        · have e : endD bs acc xs u = (⟨[], []⟩, 5) := by unfold endD; rw [if_neg (by simp [hz]), if_neg hl4, if_neg hg4, if_neg (by simp [hsum]), if_pos hcd]
          rw [e]
          simp only [go_sem, Nat.reduceEqDiff, reduceIte, ↓reduceIte, Nat.reduceAdd, List.replicate_succ, List.replicate_zero, List.set_cons_zero, List.set_cons_succ, List.length_cons, List.length_nil, Nat.reduceLT, Nat.lt_add_one, ne_eq, Int.reduceEq, not_false_eq_true, Option.map_some, Nat.reduceLeDiff, Nat.zero_lt_succ, List.map_cons, List.map_nil, List.nil_append, List.cons_append, List.append_nil, bytesOf, List.take_succ_cons, List.take_zero, List.drop_zero, and_self, List.append_assoc, List.length_append, Int.reduceLT, Int.reduceLE, Int.toNat_zero, Int.reduceToNat, Int.cast_ofNat_Int, Int.natCast_zero, Int.natCast_one, Int.reduceAdd, List.map_append, Option.bind_some, hcd, Bool.not_false, f0, set_get f0]
          exact ⟨_, rfl, ownC_nil _⟩
        · have hcd' : codeOk ⟨xs, acc⟩ = true := by simpa using hcd
          have e : endD bs acc xs u = (⟨xs, acc⟩, 0) := by unfold endD; rw [if_neg (by simp [hz]), if_neg hl4, if_neg hg4, if_neg (by simp [hsum]), if_neg hcd]
          rw [e]
          simp only [go_sem, Nat.reduceEqDiff, reduceIte, ↓reduceIte, Nat.reduceAdd, List.replicate_succ, List.replicate_zero, List.set_cons_zero, List.set_cons_succ, List.length_cons, List.length_nil, Nat.reduceLT, Nat.lt_add_one, ne_eq, Int.reduceEq, not_false_eq_true, Option.map_some, Nat.reduceLeDiff, Nat.zero_lt_succ, List.map_cons, List.map_nil, List.nil_append, List.cons_append, List.append_nil, bytesOf, List.take_succ_cons, List.take_zero, List.drop_zero, and_self, List.append_assoc, List.length_append, Int.reduceLT, Int.reduceLE, Int.toNat_zero, Int.reduceToNat, Int.cast_ofNat_Int, Int.natCast_zero, Int.natCast_one, Int.reduceAdd, List.map_append, Option.bind_some, hcd', Bool.not_true, fo, f0, set_get f0]
          exact ⟨_, rfl, a, b, rfl, (hG.oa.put f0 _).own, (hG.ob.put f0 _).own⟩
end Go.Proofs.Ytmbggdfceecojaa.Cd

/- GetImage: what its law wants. -/
set_option linter.all false
namespace Go.Proofs.Ytmbggdfceecojaa.Cd
open Go.AM Mc Ho

theorem ownC_ren {H H0 : List AO} {x : AV} {t : CodeD} (h : OwnC H0 x t) : ∃ (ids : List Nat) (r' : AV) (os : List AO), ids.Nodup ∧ os.length = ids.length ∧ Ren ids H.length x r' ∧ (∀ (k id : Nat) o, ids[k]? = some id → os[k]? = some o → ∃ o0, H0[id]? = some o0 ∧ RenO ids H.length o0 o) ∧ ∃ A, H ++ os = H ++ A ∧ OwnCAt (H ++ os) r' t H.length (H ++ os).length := by
  obtain ⟨a, b, rfl, ha, hb⟩ := h
  rcases ha with ⟨rfl, e1⟩ | ⟨i, u, rfl, h1⟩
  · rcases hb with ⟨rfl, e2⟩ | ⟨j, v, rfl, h2⟩
    · refine ⟨[], .st [.p .nl, .p .nl], [], by simp, rfl, .st _ _ rfl ?_, fun k id o hk => by simp at hk, [], rfl, _, _, rfl, .inl ⟨rfl, e1⟩, .inl ⟨rfl, e2⟩⟩
      intro k x y hx hy
      rw [hx] at hy; cases hy
      have := List.mem_of_getElem? hx
      simp at this; subst this; exact .g _ grnd_nl
    · refine ⟨[j], .st [.p .nl, .gs (H.length + 0) v 0 (intR .i64 t.starts).length], [.rows 1 v (intR .i64 t.starts)], by simp, rfl, .st _ _ rfl ?_, ?_, _, rfl, _, _, rfl, .inl ⟨rfl, e1⟩, .inr ⟨H.length, v, Nat.le_refl _, by simp, rfl, get_off0 _ _⟩⟩
      · intro k x y hx hy
        match k with
        | 0 => cases hx; cases hy; exact .g _ grnd_nl
        | 1 => cases hx; cases hy; exact .gs 0 j v _ _ rfl
        | k + 2 => simp at hx
      · intro k id o hk ho
        match k with
        | 0 => cases hk; cases ho; exact ⟨_, h2, renO_g (grnd_intR _ _)⟩
        | k + 1 => simp at hk
  · rcases hb with ⟨rfl, e2⟩ | ⟨j, v, rfl, h2⟩
    · refine ⟨[i], .st [.gs (H.length + 0) u 0 (insR t.ins).length, .p .nl], [.rows 6 u (insR t.ins)], by simp, rfl, .st _ _ rfl ?_, ?_, _, rfl, _, _, rfl, .inr ⟨H.length, u, Nat.le_refl _, by simp, rfl, get_off0 _ _⟩, .inl ⟨rfl, e2⟩⟩
      · intro k x y hx hy
        match k with
        | 0 => cases hx; cases hy; exact .gs 0 i u _ _ rfl
        | 1 => cases hx; cases hy; exact .g _ grnd_nl
        | k + 2 => simp at hx
      · intro k id o hk ho
        match k with
        | 0 => cases hk; cases ho; exact ⟨_, h1, renO_g (grnd_insR _)⟩
        | k + 1 => simp at hk
    · have hne : i ≠ j := by rintro rfl; rw [h1] at h2; cases h2
      refine ⟨[i, j], .st [.gs (H.length + 0) u 0 (insR t.ins).length, .gs (H.length + 1) v 0 (intR .i64 t.starts).length], [.rows 6 u (insR t.ins), .rows 1 v (intR .i64 t.starts)], by simp [hne], rfl, .st _ _ rfl ?_, ?_, _, rfl, _, _, rfl, .inr ⟨H.length, u, Nat.le_refl _, by simp, rfl, get_off0 _ _⟩, .inr ⟨H.length + 1, v, by omega, by simp, rfl, get_off _ _ 1⟩⟩
      · intro k x y hx hy
        match k with
        | 0 => cases hx; cases hy; exact .gs 0 i u _ _ rfl
        | 1 => cases hx; cases hy; exact .gs 1 j v _ _ rfl
        | k + 2 => simp at hx
      · intro k id o hk ho
        match k with
        | 0 => cases hk; cases ho; exact ⟨_, h1, renO_g (grnd_insR _)⟩
        | 1 => cases hk; cases ho; exact ⟨_, h2, renO_g (grnd_intR _ _)⟩
        | k + 2 => simp at hk

theorem acall_ownT {f : Nat} {xs bs : List AV} {H : List AO} {t : CodeD} {n : Int} (h : ACall Try.prog f bs [] (fun r H' => ∃ x, r = .tup [x, .p (.i .i64 n)] ∧ OwnC H' x t)) (hl : LentAll H xs bs) :
    ACall Try.prog f xs H (fun r H' => ∃ x, r = .tup [x, .p (.i .i64 n)] ∧ ∃ A, H' = H ++ A ∧ OwnCAt H' x t H.length H'.length) := by
  refine acall_own h hl ?_
  rintro r H0 ⟨x, rfl, hx⟩
  obtain ⟨ids, r', os, h1, h2, h3, h4, h5⟩ := ownC_ren (H := H) hx
  refine ⟨ids, .tup [r', .p (.i .i64 n)], os, h1, h2, .tup _ _ rfl ?_, h4, ⟨r', rfl, h5⟩⟩
  intro j a b ha hb
  match j with
  | 0 => cases ha; cases hb; exact h3
  | 1 => cases ha; cases hb; exact .g _ (grnd_i _ _)
  | j + 2 => simp at ha

theorem byteD_mono (bs : List Int) (s : RS) : s.1 ≤ (byteD bs s).2.1 := by
  unfold byteD
  split
  · split
    · simp only; omega
    · exact Nat.le_refl _
  · exact Nat.le_refl _
theorem numD_mono {bs : List Int} (hb : isB bs) (s : RS) : s.1 ≤ (numD bs s).2.1 := by
  unfold numD
  split
  · split
    · rename_i h; have := (getS_le hb h).1; simp only; omega
    · exact Nat.le_refl _
  · exact Nat.le_refl _
theorem cntS_mono {bs : List Int} (hb : isB bs) (s : RS) : s.1 ≤ (cntS bs s).2.1 := by
  have := numD_mono hb s
  unfold cntS
  split
  · split <;> exact this
  · exact this
theorem insS_mono {bs : List Int} (hb : isB bs) (s : RS) : (insS bs s).1.text.length + s.1 ≤ (insS bs s).2.1 := by
  unfold insS insE
  have h1 := byteD_mono bs s
  have h2 := byteD_mono bs (byteD bs s).2
  have h3 := byteD_mono bs (byteD bs (byteD bs s).2).2
  have h4 := numD_mono hb (byteD bs (byteD bs (byteD bs s).2).2).2
  have h5 := cntS_mono hb (numD bs (byteD bs (byteD bs (byteD bs s).2).2).2).2
  split
  · split
    · simp only [List.length_nil]; omega
    · simp only [strD_len, List.length_take]; omega
  · simp only [List.length_nil]; omega
theorem foldS_texts {bs : List Int} (hb : isB bs) (n : Nat) : ∀ s : RS, texts (foldR (insS bs) n s).1 + s.1 ≤ (foldR (insS bs) n s).2.1 := by
  induction n with
  | zero => intro s; simp [foldR, texts]
  | succ n ih =>
    intro s
    rw [foldR]
    split
    · have h1 := ih (insS bs s).2
      have h2 := insS_mono hb s
      simp only [texts]; omega
    · simp [texts]
theorem foldR_le {α : Type} {f : RS → α × RS} {L : Nat} (h : ∀ s : RS, s.1 ≤ L → (f s).2.1 ≤ L) (n : Nat) : ∀ s : RS, s.1 ≤ L → (foldR f n s).2.1 ≤ L := by
  induction n with
  | zero => intro s hs; exact hs
  | succ n ih =>
    intro s hs
    rw [foldR]
    split
    · exact ih _ (h s hs)
    · exact hs

noncomputable def getD (bs : List Int) : CodeD × Int := getX (cntS bs) (insS bs) bs
theorem getD_sz {bs : List Int} (hb : isB bs) (hl : bs.length ≤ 1048576) : okCode (getD bs).1 ∧ small (getD bs).1 := by
  have nil : okCode ⟨[], []⟩ ∧ small ⟨[], []⟩ := ⟨⟨⟨by simp, fun x hx => by cases hx⟩, by simp⟩, by simp [small, texts]⟩
  unfold getD getX
  split
  · exact nil
  split
  · exact nil
  rename_i h1 h2
  unfold endD
  split
  · exact nil
  split
  · exact nil
  split
  · exact nil
  split
  · exact nil
  split
  · exact nil
  rename_i g1 g2 g3 g4 g5
  have hw := codeOk_wf (by simpa using g5)
  have hle := hw.le
  have hles := hw.les
  simp only at hle hles
  have ht := foldS_texts hb (cntS bs (cntS bs (3, 0)).2).1.toNat (foldR (numD bs) (cntS bs (3, 0)).1.toNat (cntS bs (cntS bs (3, 0)).2).2).2
  have hlen : 3 ≤ bs.length := by
    by_cases h : 3 ≤ bs.length
    · exact h
    · exfalso
      apply h2
      intro e
      have := congrArg List.length e
      simp at this; omega
  have la := cntS_le hb (s := (3, 0)) hlen
  have lb := cntS_le hb la
  have l2 := foldR_le (f := numD bs) (fun s hs => numD_le hb hs) (cntS bs (3, 0)).1.toNat _ lb
  have l3 := foldR_le (f := insS bs) (fun s hs => insS_le hb hs) (cntS bs (cntS bs (3, 0)).2).1.toNat _ l2
  refine ⟨⟨⟨?_, ?_⟩, ?_⟩, ?_⟩
  · unfold maxL; simp only; omega
  · exact foldR_all (p := fun x : InsD => x.text.length ≤ maxL) (fun s => insS_text (by unfold maxL; omega) s) _ _
  · unfold maxL; simp only; omega
  · unfold small; simp only; omega
end Go.Proofs.Ytmbggdfceecojaa.Cd

/- Trim: by the program. -/
set_option linter.all false
namespace Go.Proofs.Ytmbggdfceecojaa.Cd
open Go.AM Mc Ho

/-- what stands while the new code is made -/
structure TI (c : CodeD) (B : List Bool) (sid sver tid P : Nat) (pl : List (List AV)) (H : List AO) : Prop where
  v0 : H[0]? = some (.var [.p (.l (inss c.ins)), .p (.l (ints c.starts))])
  v1 : H[1]? = some (.var [.p .nl, .p .nl])
  sn : H[sid]? = some (.rows 1 sver (boolR B))
  to : H[tid]? = some (.rows 1 0 pl)
  l1 : 1 < P
  ls : sid < tid
  lt : tid < P
  le : P < H.length
theorem TI.sk {c B sid sver tid P pl} {H H' : List AO} (h : TI c B sid sver tid P pl H) (k : SK P (fun _ => False) H H') : TI c B sid sver tid P pl H' where
  v0 := k.1 _ _ h.v0 (fun f => f)
  v1 := k.1 _ _ h.v1 (fun f => f)
  sn := by rw [k.2.1 _ (Nat.lt_trans h.ls h.lt) (fun f => f)]; exact h.sn
  to := by rw [k.2.1 _ h.lt (fun f => f)]; exact h.to
  l1 := h.l1
  ls := h.ls
  lt := h.lt
  le := Nat.lt_of_lt_of_le h.le k.2.2
theorem TI.ext {c B sid sver tid P pl} {H : List AO} (h : TI c B sid sver tid P pl H) (A : List AO) : TI c B sid sver tid P pl (H ++ A) := h.sk (SK.app (Nat.le_of_lt h.le))
theorem TI.set {c B sid sver tid P pl} {H : List AO} (h : TI c B sid sver tid P pl H) {j : Nat} (o : AO) (hj : P ≤ j) : TI c B sid sver tid P pl (H.set j o) where
  v0 := get_set h.v0 (by have := h.l1; omega)
  v1 := get_set h.v1 (by have := h.l1; omega)
  sn := get_set h.sn (by have := h.ls; have := h.lt; omega)
  to := get_set h.to (by have := h.lt; omega)
  l1 := h.l1
  ls := h.ls
  lt := h.lt
  le := by simpa using h.le
theorem TI.put {c B sid sver tid P pl} {H : List AO} (h : TI c B sid sver tid P pl H) (pl' : List (List AV)) (ht : 1 < tid) : TI c B sid sver tid P pl' (H.set tid (.rows 1 0 pl')) where
  v0 := get_set h.v0 (by omega)
  v1 := get_set h.v1 (by omega)
  sn := get_set h.sn (by have := h.ls; omega)
  to := set_get h.to
  l1 := h.l1
  ls := h.ls
  lt := h.lt
  le := by simpa using h.le
end Go.Proofs.Ytmbggdfceecojaa.Cd

/- Trim: the law. -/
set_option linter.all false
namespace Go.Proofs.Ytmbggdfceecojaa.Cd
open Go.AM Mc Ho

theorem OwnCAt.keep {H H' : List AO} {r : AV} {t : CodeD} {lo hi : Nat} (h : OwnCAt H r t lo hi) (k : ∀ (j : Nat) o, H[j]? = some o → lo ≤ j → j < hi → H'[j]? = some o) : OwnCAt H' r t lo hi := by
  obtain ⟨a, b, rfl, ha, hb⟩ := h
  refine ⟨a, b, rfl, ?_, ?_⟩
  · rcases ha with h | ⟨id, ver, h0, h1, h2, h3⟩
    · exact .inl h
    · exact .inr ⟨id, ver, h0, h1, h2, k _ _ h3 h0 h1⟩
  · rcases hb with h | ⟨id, ver, h0, h1, h2, h3⟩
    · exact .inl h
    · exact .inr ⟨id, ver, h0, h1, h2, k _ _ h3 h0 h1⟩
theorem OwnCAt.ext {H : List AO} {r : AV} {t : CodeD} {lo hi : Nat} (h : OwnCAt H r t lo hi) (A : List AO) : OwnCAt (H ++ A) r t lo hi := h.keep fun j o hj _ _ => get_ext hj A
theorem PatAt.ext {H : List AO} {r : AV} {m n : Nat} {lo hi : Nat} (h : PatAt H r m n lo hi) (A : List AO) : PatAt (H ++ A) r m n lo hi := by
  obtain ⟨a, b, rfl, ha, hb⟩ := h
  exact ⟨a, b, rfl, ha.ext A, hb.ext A⟩
theorem OwnCAt.lent {H : List AO} {r : AV} {t : CodeD} {lo hi : Nat} (h : OwnCAt H r t lo hi) : Lent H r (.st (t.cells.map .p)) := by
  obtain ⟨a, b, rfl, ha, hb⟩ := h
  refine .st _ _ rfl fun j x y hx hy => ?_
  match j with
  | 0 => cases hx; cases hy; exact ownI_lent ha.own
  | 1 => cases hx; cases hy; exact ownZ_lent hb.own
  | j + 2 => simp [CodeD.cells] at hy

/-- what the law keeps: the argument, the reference's answer -/
structure LS (c t : CodeD) (wa wb : AV) (iw : Nat) (H : List AO) : Prop where
  v : H[0]? = some (.var (c.cells.map .p))
  wv : H[iw]? = some (.var [wa, wb])
  w : OwnCAt H (.st [wa, wb]) t 1 iw
theorem LS.keep {c t : CodeD} {wa wb : AV} {iw : Nat} {H H' : List AO} (h : LS c t wa wb iw H) (k : ∀ (j : Nat) o, H[j]? = some o → j ≤ iw → H'[j]? = some o) : LS c t wa wb iw H' :=
  ⟨k _ _ h.v (Nat.zero_le _), k _ _ h.wv (Nat.le_refl _), h.w.keep fun j o hj _ h1 => k j o hj (Nat.le_of_lt h1)⟩
theorem LS.ext {c t : CodeD} {wa wb : AV} {iw : Nat} {H : List AO} (h : LS c t wa wb iw H) (A : List AO) : LS c t wa wb iw (H ++ A) := h.keep fun j o hj _ => get_ext hj A

end Go.Proofs.Ytmbggdfceecojaa.Cd

/- GetImage: the law. -/
set_option linter.all false
namespace Go.Proofs.Ytmbggdfceecojaa.Cd
open Go.AM Mc Ho

theorem toByteS (bs : List Int) (hl : bs.length ≤ 1048576) (H : List AO) : ACall Try.prog 37 [.p (.l (rowsK .u8 bs))] H (fun r H' => r = .gs H.length 0 0 bs.length ∧ H' = H ++ [.rows 1 0 (intR .u8 bs)]) := by
  have hlm : bs.length ≤ maxL := by unfold maxL; omega
  refine call37 (by simp) ?_
  simp only [go_sem, Nat.reduceEqDiff, reduceIte, ↓reduceIte, Nat.reduceAdd, List.replicate_succ, List.replicate_zero, List.set_cons_zero, List.set_cons_succ, List.length_cons, List.length_nil, Nat.reduceLT, Nat.lt_add_one, ne_eq, Int.reduceEq, not_false_eq_true, Option.map_some, Nat.reduceLeDiff, Nat.zero_lt_succ, List.map_cons, List.map_nil, List.nil_append, List.cons_append, List.append_nil, bytesOf, List.take_succ_cons, List.take_zero, List.drop_zero, and_self, List.append_assoc, List.length_append, Int.reduceLT, Int.reduceLE, Int.toNat_zero, Int.reduceToNat, Int.cast_ofNat_Int, Int.natCast_zero, Int.natCast_one, Int.reduceAdd, List.map_append, Option.bind_some, mc37, mr37, rowsK_len]
  intro _
  refine ⟨by omega, by omega, by omega, ?_⟩
  refine ⟨Nat, [0, 2, 3, 4], fun i st => i ≤ bs.length ∧ st = ⟨[(0, .p (.l (rowsK .u8 bs))), (2, .p .nl), (3, .gs H.length 0 0 bs.length), (4, .p (.i .i64 i))], [], H ++ [.rows 1 0 (fill (fun b : Int => [AV.p (.i .u8 b)]) [.p (.i .u8 0)] bs i)]⟩, fun i => bs.length - i, ⟨0, ?_⟩, ?_⟩
  · simp only [go_sem, Nat.reduceEqDiff, reduceIte, ↓reduceIte, Nat.reduceAdd]
    exact ⟨Nat.zero_le _, by rw [fill_zero]; rfl⟩
  · rintro i st ⟨hi, rfl⟩
    simp only [go_sem, Nat.reduceEqDiff, reduceIte, ↓reduceIte, Nat.reduceAdd, rowsK_len]
    intro _
    refine condK_split _ (fun hc => ?_) (fun hc => ?_)
    · have hil : i < bs.length := by simpa using hc
      have hci : (i : Int) < (bs.length : Int) := by omega
      simp only [go_sem, Nat.reduceEqDiff, reduceIte, ↓reduceIte, Nat.reduceAdd, List.replicate_succ, List.replicate_zero, List.set_cons_zero, List.set_cons_succ, List.length_cons, List.length_nil, Nat.reduceLT, Nat.lt_add_one, ne_eq, Int.reduceEq, not_false_eq_true, Option.map_some, Nat.reduceLeDiff, Nat.zero_lt_succ, List.map_cons, List.map_nil, List.nil_append, List.cons_append, List.append_nil, bytesOf, List.take_succ_cons, List.take_zero, List.drop_zero, and_self, List.append_assoc, List.length_append, Int.reduceLT, Int.reduceLE, Int.toNat_zero, Int.reduceToNat, Int.cast_ofNat_Int, Int.natCast_zero, Int.natCast_one, Int.reduceAdd, List.map_append, Option.bind_some, rowsK_at _ _ hil, fill_get _ _ _ hil, hci]
      rw [stoR_at (fill_get _ _ _ hil) rfl]
      simp only [go_sem, Nat.reduceEqDiff, reduceIte, ↓reduceIte, Nat.reduceAdd]
      refine ⟨i + 1, ⟨hil, ?_⟩, by omega⟩
      rw [wr1 hil hlm, ← fill_set _ _ _ hil]
    · have hil : i = bs.length := by simp at hc; omega
      simp only [go_sem, Nat.reduceEqDiff, reduceIte, ↓reduceIte, Nat.reduceAdd]
      subst hil
      rw [fill_all]
      rfl
theorem specGet (bs : List Int) (hb : isB bs) (hl : bs.length ≤ 1048576) {H : List AO} {a : AV} (ha : Lent H a (.p (.l (rowsK .u8 bs)))) : ACall Try.prog 36 [a] H (fun r H' => ∃ x, r = .tup [x, .p (.i .i64 (getD bs).2)] ∧ ∃ A, H' = H ++ A ∧ OwnCAt H' x (getD bs).1 H.length H'.length) :=
  acall_ownT (specGet0 bs hb hl) (lentAll_cons ha (lentAll_nil _))
theorem implGet (bs : List Int) (hb : isB bs) (hl : bs.length ≤ 1048576) {H : List AO} {a : AV} (ha : Lent H a (.p (.l (rowsK .u8 bs)))) : ACall Try.prog 38 [a] H (fun r H' => ∃ x, r = .tup [x, .p (.i .i64 (getD bs).2)] ∧ ∃ A, H' = H ++ A ∧ OwnCAt H' x (getD bs).1 H.length H'.length) := by
  have h := implGet0 bs hb hl
  rw [← get_same bs] at h
  exact acall_ownT h (lentAll_cons ha (lentAll_nil _))
/-- what the law keeps: the reference's answer -/
structure LG (t : CodeD) (wa wb : AV) (iw : Nat) (H : List AO) : Prop where
  wv : H[iw]? = some (.var [wa, wb])
  w : OwnCAt H (.st [wa, wb]) t 0 iw
theorem LG.keep {t : CodeD} {wa wb : AV} {iw : Nat} {H H' : List AO} (h : LG t wa wb iw H) (k : ∀ (j : Nat) o, H[j]? = some o → j ≤ iw → H'[j]? = some o) : LG t wa wb iw H' :=
  ⟨k _ _ h.wv (Nat.le_refl _), h.w.keep fun j o hj _ h1 => k j o hj (Nat.le_of_lt h1)⟩
theorem LG.ext {t : CodeD} {wa wb : AV} {iw : Nat} {H : List AO} (h : LG t wa wb iw H) (A : List AO) : LG t wa wb iw (H ++ A) := h.keep fun j o hj _ => get_ext hj A
theorem OwnCAt.lo {H : List AO} {r : AV} {t : CodeD} {lo lo' hi : Nat} (h : OwnCAt H r t lo hi) (hl : lo' ≤ lo) : OwnCAt H r t lo' hi := by
  obtain ⟨a, b, rfl, ha, hb⟩ := h
  refine ⟨a, b, rfl, ?_, ?_⟩
  · rcases ha with h | ⟨id, ver, h0, h1, h2, h3⟩
    · exact .inl h
    · exact .inr ⟨id, ver, by omega, h1, h2, h3⟩
  · rcases hb with h | ⟨id, ver, h0, h1, h2, h3⟩
    · exact .inl h
    · exact .inr ⟨id, ver, by omega, h1, h2, h3⟩

set_option maxHeartbeats 4000000 in
theorem lawGet (bs : List Int) (hb : isB bs) (hlm : bs.length ≤ maxL) : ACall Try.prog 7 [.p (.l (rowsK .u8 bs))] [] (fun r _ => r = .p (.b true)) := by
  refine call7 (by simp) ?_
  simp only [go_sem, Nat.reduceEqDiff, reduceIte, ↓reduceIte, Nat.reduceAdd, List.replicate_succ, List.replicate_zero, List.set_cons_zero, List.set_cons_succ, List.length_cons, List.length_nil, Nat.reduceLT, Nat.lt_add_one, ne_eq, Int.reduceEq, not_false_eq_true, Option.map_some, Nat.reduceLeDiff, Nat.zero_lt_succ, List.map_cons, List.map_nil, List.nil_append, List.cons_append, List.append_nil, bytesOf, List.take_succ_cons, List.take_zero, List.drop_zero, and_self, List.append_assoc, List.length_append, Int.reduceLT, Int.reduceLE, Int.toNat_zero, Int.reduceToNat, Int.cast_ofNat_Int, Int.natCast_zero, Int.natCast_one, Int.reduceAdd, List.map_append, Option.bind_some, mc7, mr7, rowsK_len]
  intro _
  by_cases hlong : 1048576 < bs.length
  · have dl : decide ((1048576 : Int) < (bs.length : Int)) = true := by simp; omega
    simp only [go_sem, Nat.reduceEqDiff, reduceIte, ↓reduceIte, Nat.reduceAdd, List.replicate_succ, List.replicate_zero, List.set_cons_zero, List.set_cons_succ, List.length_cons, List.length_nil, Nat.reduceLT, Nat.lt_add_one, ne_eq, Int.reduceEq, not_false_eq_true, Option.map_some, Nat.reduceLeDiff, Nat.zero_lt_succ, List.map_cons, List.map_nil, List.nil_append, List.cons_append, List.append_nil, bytesOf, List.take_succ_cons, List.take_zero, List.drop_zero, and_self, List.append_assoc, List.length_append, Int.reduceLT, Int.reduceLE, Int.toNat_zero, Int.reduceToNat, Int.cast_ofNat_Int, Int.natCast_zero, Int.natCast_one, Int.reduceAdd, List.map_append, Option.bind_some, dl]
  have dl : decide ((1048576 : Int) < (bs.length : Int)) = false := by simp; omega
  have hl : bs.length ≤ 1048576 := by omega
  obtain ⟨hot, hst⟩ := getD_sz hb hl
  have hst' := hst
  unfold small at hst'
  simp only [go_sem, Nat.reduceEqDiff, reduceIte, ↓reduceIte, Nat.reduceAdd, List.replicate_succ, List.replicate_zero, List.set_cons_zero, List.set_cons_succ, List.length_cons, List.length_nil, Nat.reduceLT, Nat.lt_add_one, ne_eq, Int.reduceEq, not_false_eq_true, Option.map_some, Nat.reduceLeDiff, Nat.zero_lt_succ, List.map_cons, List.map_nil, List.nil_append, List.cons_append, List.append_nil, bytesOf, List.take_succ_cons, List.take_zero, List.drop_zero, and_self, List.append_assoc, List.length_append, Int.reduceLT, Int.reduceLE, Int.toNat_zero, Int.reduceToNat, Int.cast_ofNat_Int, Int.natCast_zero, Int.natCast_one, Int.reduceAdd, List.map_append, Option.bind_some, dl]
  refine (toByteS bs hl _).mono ?_
  rintro r H' ⟨rfl, rfl⟩
  simp only [go_sem, Nat.reduceEqDiff, reduceIte, ↓reduceIte, Nat.reduceAdd, List.replicate_succ, List.replicate_zero, List.set_cons_zero, List.set_cons_succ, List.length_cons, List.length_nil, Nat.reduceLT, Nat.lt_add_one, ne_eq, Int.reduceEq, not_false_eq_true, Option.map_some, Nat.reduceLeDiff, Nat.zero_lt_succ, List.map_cons, List.map_nil, List.nil_append, List.cons_append, List.append_nil, bytesOf, List.take_succ_cons, List.take_zero, List.drop_zero, and_self, List.append_assoc, List.length_append, Int.reduceLT, Int.reduceLE, Int.toNat_zero, Int.reduceToNat, Int.cast_ofNat_Int, Int.natCast_zero, Int.natCast_one, Int.reduceAdd, List.map_append, Option.bind_some]
  refine (specGet bs hb hl (lent_k .u8 bs (H := [AO.rows 1 0 (intR .u8 bs)]) (id := 0) rfl)).mono ?_
  rintro w0 H1 ⟨x, rfl, A1, hH1, hw⟩
  obtain ⟨wa, wb, rfl, hwa, hwb⟩ := hw
  have hw : OwnCAt H1 (.st [wa, wb]) (getD bs).1 0 H1.length := OwnCAt.lo ⟨wa, wb, rfl, hwa, hwb⟩ (Nat.zero_le _)
  clear hH1 hwa hwb
  have hs1 : LG (getD bs).1 wa wb H1.length (H1 ++ [AO.var [wa, wb]]) := ⟨get_off0 _ _, hw.ext _⟩
  have hl1 : (H1 ++ [AO.var [wa, wb]]).length = H1.length + 1 := by simp
  clear hw
  simp only [go_sem, Nat.reduceEqDiff, reduceIte, ↓reduceIte, Nat.reduceAdd, List.replicate_succ, List.replicate_zero, List.set_cons_zero, List.set_cons_succ, List.length_cons, List.length_nil, Nat.reduceLT, Nat.lt_add_one, ne_eq, Int.reduceEq, not_false_eq_true, Option.map_some, Nat.reduceLeDiff, Nat.zero_lt_succ, List.map_cons, List.map_nil, List.nil_append, List.cons_append, List.append_nil, bytesOf, List.take_succ_cons, List.take_zero, List.drop_zero, and_self, List.append_assoc, List.length_append, Int.reduceLT, Int.reduceLE, Int.toNat_zero, Int.reduceToNat, Int.cast_ofNat_Int, Int.natCast_zero, Int.natCast_one, Int.reduceAdd, List.map_append, Option.bind_some]
  generalize H1 ++ [AO.var [wa, wb]] = H2 at hs1 hl1 ⊢
  generalize H1.length = iw at hs1 hl1 ⊢
  refine (toByteS bs hl _).mono ?_
  rintro r H' ⟨rfl, rfl⟩
  simp only [go_sem, Nat.reduceEqDiff, reduceIte, ↓reduceIte, Nat.reduceAdd, List.replicate_succ, List.replicate_zero, List.set_cons_zero, List.set_cons_succ, List.length_cons, List.length_nil, Nat.reduceLT, Nat.lt_add_one, ne_eq, Int.reduceEq, not_false_eq_true, Option.map_some, Nat.reduceLeDiff, Nat.zero_lt_succ, List.map_cons, List.map_nil, List.nil_append, List.cons_append, List.append_nil, bytesOf, List.take_succ_cons, List.take_zero, List.drop_zero, and_self, List.append_assoc, List.length_append, Int.reduceLT, Int.reduceLE, Int.toNat_zero, Int.reduceToNat, Int.cast_ofNat_Int, Int.natCast_zero, Int.natCast_one, Int.reduceAdd, List.map_append, Option.bind_some]
  refine (implGet bs hb hl (lent_k .u8 bs (id := H2.length) (get_off0 _ _))).mono ?_
  rintro g0 H3 ⟨x, rfl, A3, hH3, hg⟩
  have hs3 : LG (getD bs).1 wa wb iw H3 := by rw [hH3]; exact (hs1.ext _).ext _
  have hx3 : H3[H2.length]? = some (.rows 1 0 (intR .u8 bs)) := by rw [hH3]; exact get_ext (get_off0 _ _) _
  have hg3 : OwnCAt H3 x (getD bs).1 (H2.length + 1) H3.length := hg.lo (by simp)
  obtain ⟨ga, gb, rfl, hga, hgb⟩ := hg3
  have hg3 : OwnCAt H3 (.st [ga, gb]) (getD bs).1 (H2.length + 1) H3.length := ⟨ga, gb, rfl, hga, hgb⟩
  have hi3 : H2.length < H3.length := get_lt hx3
  clear hga hgb hH3 hs1 hg
  generalize H2.length = ix at *
  simp only [go_sem, Nat.reduceEqDiff, reduceIte, ↓reduceIte, Nat.reduceAdd, List.replicate_succ, List.replicate_zero, List.set_cons_zero, List.set_cons_succ, List.length_cons, List.length_nil, Nat.reduceLT, Nat.lt_add_one, ne_eq, Int.reduceEq, not_false_eq_true, Option.map_some, Nat.reduceLeDiff, Nat.zero_lt_succ, List.map_cons, List.map_nil, List.nil_append, List.cons_append, List.append_nil, bytesOf, List.take_succ_cons, List.take_zero, List.drop_zero, and_self, List.append_assoc, List.length_append, Int.reduceLT, Int.reduceLE, Int.toNat_zero, Int.reduceToNat, Int.cast_ofNat_Int, Int.natCast_zero, Int.natCast_one, Int.reduceAdd, List.map_append, Option.bind_some]
  have hs4 := hs3.ext [AO.var [ga, gb]]
  have hgv4 : (H3 ++ [AO.var [ga, gb]])[H3.length]? = some (.var [ga, gb]) := get_off0 _ _
  have hg4 := hg3.ext [AO.var [ga, gb]]
  have hx4 := get_ext hx3 [AO.var [ga, gb]]
  clear hs3 hg3 hx3
  generalize H3 ++ [AO.var [ga, gb]] = H4 at *
  generalize H3.length = ig at *
  simp only [go_sem, Nat.reduceEqDiff, reduceIte, ↓reduceIte, Nat.reduceAdd, List.replicate_succ, List.replicate_zero, List.set_cons_zero, List.set_cons_succ, List.length_cons, List.length_nil, Nat.reduceLT, Nat.lt_add_one, ne_eq, Int.reduceEq, not_false_eq_true, Option.map_some, Nat.reduceLeDiff, Nat.zero_lt_succ, List.map_cons, List.map_nil, List.nil_append, List.cons_append, List.append_nil, bytesOf, List.take_succ_cons, List.take_zero, List.drop_zero, and_self, List.append_assoc, List.length_append, Int.reduceLT, Int.reduceLE, Int.toNat_zero, Int.reduceToNat, Int.cast_ofNat_Int, Int.natCast_zero, Int.natCast_one, Int.reduceAdd, List.map_append, Option.bind_some, hgv4, hs4.wv]
  refine (eqCode_any _ _ hot hot hg4.lent hs4.w.lent).mono ?_
  rintro r H' ⟨rfl, rfl⟩
  simp only [go_sem, Nat.reduceEqDiff, reduceIte, ↓reduceIte, Nat.reduceAdd, List.replicate_succ, List.replicate_zero, List.set_cons_zero, List.set_cons_succ, List.length_cons, List.length_nil, Nat.reduceLT, Nat.lt_add_one, ne_eq, Int.reduceEq, not_false_eq_true, Option.map_some, Nat.reduceLeDiff, Nat.zero_lt_succ, List.map_cons, List.map_nil, List.nil_append, List.cons_append, List.append_nil, bytesOf, List.take_succ_cons, List.take_zero, List.drop_zero, and_self, List.append_assoc, List.length_append, Int.reduceLT, Int.reduceLE, Int.toNat_zero, Int.reduceToNat, Int.cast_ofNat_Int, Int.natCast_zero, Int.natCast_one, Int.reduceAdd, List.map_append, Option.bind_some]
  refine (toByteS bs hl _).mono ?_
  rintro r H5 ⟨rfl, rfl⟩
  have hs5 := hs4.ext [AO.rows 1 0 (intR .u8 bs)]
  have hgv5 := get_ext hgv4 [AO.rows 1 0 (intR .u8 bs)]
  have hg5 := hg4.ext [AO.rows 1 0 (intR .u8 bs)]
  have hx5 := get_ext hx4 [AO.rows 1 0 (intR .u8 bs)]
  have hy5 : (H' ++ [AO.rows 1 0 (intR .u8 bs)])[H'.length]? = some (.rows 1 0 (intR .u8 bs)) := get_off0 _ _
  clear hs4 hgv4 hg4 hx4
  generalize H' ++ [AO.rows 1 0 (intR .u8 bs)] = H5 at *
  simp only [go_sem, Nat.reduceEqDiff, reduceIte, ↓reduceIte, Nat.reduceAdd, List.replicate_succ, List.replicate_zero, List.set_cons_zero, List.set_cons_succ, List.length_cons, List.length_nil, Nat.reduceLT, Nat.lt_add_one, ne_eq, Int.reduceEq, not_false_eq_true, Option.map_some, Nat.reduceLeDiff, Nat.zero_lt_succ, List.map_cons, List.map_nil, List.nil_append, List.cons_append, List.append_nil, bytesOf, List.take_succ_cons, List.take_zero, List.drop_zero, and_self, List.append_assoc, List.length_append, Int.reduceLT, Int.reduceLE, Int.toNat_zero, Int.reduceToNat, Int.cast_ofNat_Int, Int.natCast_zero, Int.natCast_one, Int.reduceAdd, List.map_append, Option.bind_some]
  refine (eqByteS_any bs bs hlm hlm (lent_k .u8 bs hx5) (lent_k .u8 bs hy5)).mono ?_
  rintro r H6 ⟨rfl, rfl⟩
  simp only [go_sem, Nat.reduceEqDiff, reduceIte, ↓reduceIte, Nat.reduceAdd, List.replicate_succ, List.replicate_zero, List.set_cons_zero, List.set_cons_succ, List.length_cons, List.length_nil, Nat.reduceLT, Nat.lt_add_one, ne_eq, Int.reduceEq, not_false_eq_true, Option.map_some, Nat.reduceLeDiff, Nat.zero_lt_succ, List.map_cons, List.map_nil, List.nil_append, List.cons_append, List.append_nil, bytesOf, List.take_succ_cons, List.take_zero, List.drop_zero, and_self, List.append_assoc, List.length_append, Int.reduceLT, Int.reduceLE, Int.toNat_zero, Int.reduceToNat, Int.cast_ofNat_Int, Int.natCast_zero, Int.natCast_one, Int.reduceAdd, List.map_append, Option.bind_some]
  have km := markByteS (intR .u8 bs) hx5 (intR_len1 _ _) (by rw [intR_len]; omega) 1 (by omega) (by omega)
  rw [intR_len] at km
  refine km.mono ?_
  rintro r H7 ⟨rfl, hH7⟩
  have hkf : decide (1 + (bs.length : Int) < 0) = false := by simp; omega
  have kp : ∀ (j : Nat) o', H6[j]? = some o' → j ≠ ix → H7[j]? = some o' := fun j o' hj h1 => by rw [hH7]; exact get_set hj (by omega)
  have hs7 := hs5.keep (H' := H7) fun j o hj hl => kp j o hj (by omega)
  have hgv7 := kp _ _ hgv5 (by omega)
  have hg7 := hg5.keep (H' := H7) fun j o hj h0 h1 => kp j o hj (by omega)
  have hl7 : ig ≤ H7.length := by have := get_lt hgv7; omega
  clear hH7 kp hs5 hgv5 hg5 hx5 hy5 km
  simp only [go_sem, Nat.reduceEqDiff, reduceIte, ↓reduceIte, Nat.reduceAdd, List.replicate_succ, List.replicate_zero, List.set_cons_zero, List.set_cons_succ, List.length_cons, List.length_nil, Nat.reduceLT, Nat.lt_add_one, ne_eq, Int.reduceEq, not_false_eq_true, Option.map_some, Nat.reduceLeDiff, Nat.zero_lt_succ, List.map_cons, List.map_nil, List.nil_append, List.cons_append, List.append_nil, bytesOf, List.take_succ_cons, List.take_zero, List.drop_zero, and_self, List.append_assoc, List.length_append, Int.reduceLT, Int.reduceLE, Int.toNat_zero, Int.reduceToNat, Int.cast_ofNat_Int, Int.natCast_zero, Int.natCast_one, Int.reduceAdd, List.map_append, Option.bind_some, hkf, hgv7, hs7.wv]
  refine (eqCode_any _ _ hot hot hg7.lent hs7.w.lent).mono ?_
  rintro r H8 ⟨rfl, rfl⟩
  simp only [go_sem, Nat.reduceEqDiff, reduceIte, ↓reduceIte, Nat.reduceAdd, List.replicate_succ, List.replicate_zero, List.set_cons_zero, List.set_cons_succ, List.length_cons, List.length_nil, Nat.reduceLT, Nat.lt_add_one, ne_eq, Int.reduceEq, not_false_eq_true, Option.map_some, Nat.reduceLeDiff, Nat.zero_lt_succ, List.map_cons, List.map_nil, List.nil_append, List.cons_append, List.append_nil, bytesOf, List.take_succ_cons, List.take_zero, List.drop_zero, and_self, List.append_assoc, List.length_append, Int.reduceLT, Int.reduceLE, Int.toNat_zero, Int.reduceToNat, Int.cast_ofNat_Int, Int.natCast_zero, Int.natCast_one, Int.reduceAdd, List.map_append, Option.bind_some, hkf, hgv7]
  refine (markCodeO hst hl7 hg7).mono ?_
  rintro r H9 ⟨rfl, hp9, hl9, hk9⟩
  have hs9 := hs7.keep (H' := H9) fun j o hj hl => hk9 j o hj (.inl (by omega))
  have hgv9 := hk9 _ _ hgv7 (.inr (Nat.le_refl _))
  have hnn : decide (1 + 6 * ((getD bs).1.ins.length : Int) + ((getD bs).1.starts.length : Int) < 0) = false := by simp; omega
  clear hs7 hgv7 hg7 hk9
  simp only [go_sem, Nat.reduceEqDiff, reduceIte, ↓reduceIte, Nat.reduceAdd, List.replicate_succ, List.replicate_zero, List.set_cons_zero, List.set_cons_succ, List.length_cons, List.length_nil, Nat.reduceLT, Nat.lt_add_one, ne_eq, Int.reduceEq, not_false_eq_true, Option.map_some, Nat.reduceLeDiff, Nat.zero_lt_succ, List.map_cons, List.map_nil, List.nil_append, List.cons_append, List.append_nil, bytesOf, List.take_succ_cons, List.take_zero, List.drop_zero, and_self, List.append_assoc, List.length_append, Int.reduceLT, Int.reduceLE, Int.toNat_zero, Int.reduceToNat, Int.cast_ofNat_Int, Int.natCast_zero, Int.natCast_one, Int.reduceAdd, List.map_append, Option.bind_some, hgv9]
  refine (heldCodeO (by omega) hp9).mono ?_
  rintro r H10 ⟨rfl, o10, rfl⟩
  have hs10 := hs9.ext [o10]
  have hgv10 := get_ext hgv9 [o10]
  have hp10 := hp9.ext [o10]
  clear hs9 hgv9 hp9
  generalize H9 ++ [o10] = H10 at *
  simp only [go_sem, Nat.reduceEqDiff, reduceIte, ↓reduceIte, Nat.reduceAdd, List.replicate_succ, List.replicate_zero, List.set_cons_zero, List.set_cons_succ, List.length_cons, List.length_nil, Nat.reduceLT, Nat.lt_add_one, ne_eq, Int.reduceEq, not_false_eq_true, Option.map_some, Nat.reduceLeDiff, Nat.zero_lt_succ, List.map_cons, List.map_nil, List.nil_append, List.cons_append, List.append_nil, bytesOf, List.take_succ_cons, List.take_zero, List.drop_zero, and_self, List.append_assoc, List.length_append, Int.reduceLT, Int.reduceLE, Int.toNat_zero, Int.reduceToNat, Int.cast_ofNat_Int, Int.natCast_zero, Int.natCast_one, Int.reduceAdd, List.map_append, Option.bind_some, hnn]
  refine (toByteS bs hl _).mono ?_
  rintro r H11 ⟨rfl, rfl⟩
  simp only [go_sem, Nat.reduceEqDiff, reduceIte, ↓reduceIte, Nat.reduceAdd, List.replicate_succ, List.replicate_zero, List.set_cons_zero, List.set_cons_succ, List.length_cons, List.length_nil, Nat.reduceLT, Nat.lt_add_one, ne_eq, Int.reduceEq, not_false_eq_true, Option.map_some, Nat.reduceLeDiff, Nat.zero_lt_succ, List.map_cons, List.map_nil, List.nil_append, List.cons_append, List.append_nil, bytesOf, List.take_succ_cons, List.take_zero, List.drop_zero, and_self, List.append_assoc, List.length_append, Int.reduceLT, Int.reduceLE, Int.toNat_zero, Int.reduceToNat, Int.cast_ofNat_Int, Int.natCast_zero, Int.natCast_one, Int.reduceAdd, List.map_append, Option.bind_some]
  refine (implGet bs hb hl (lent_k .u8 bs (id := H10.length) (get_off0 _ _))).mono ?_
  rintro g1 H12 ⟨x, rfl, A12, hH12, hg12⟩
  have hs12 : LG (getD bs).1 wa wb iw H12 := by rw [hH12]; exact (hs10.ext _).ext _
  have hgv12 : H12[ig]? = some (.var [ga, gb]) := by rw [hH12]; exact get_ext (get_ext hgv10 _) _
  have hp12 : PatAt H12 (.st [ga, gb]) (getD bs).1.ins.length (getD bs).1.starts.length (ix + 1) ig := by rw [hH12]; exact (hp10.ext _).ext _
  obtain ⟨gc, gd, rfl, hgc, hgd⟩ := hg12
  have hg12 : OwnCAt H12 (.st [gc, gd]) (getD bs).1 0 H12.length := OwnCAt.lo ⟨gc, gd, rfl, hgc, hgd⟩ (Nat.zero_le _)
  clear hH12 hs10 hgv10 hp10 hgc hgd
  have hs13 := hs12.ext [AO.var [gc, gd]]
  have hgv13 := get_ext hgv12 [AO.var [gc, gd]]
  have hp13 := hp12.ext [AO.var [gc, gd]]
  have hg13 := hg12.ext [AO.var [gc, gd]]
  simp only [go_sem, Nat.reduceEqDiff, reduceIte, ↓reduceIte, Nat.reduceAdd, List.replicate_succ, List.replicate_zero, List.set_cons_zero, List.set_cons_succ, List.length_cons, List.length_nil, Nat.reduceLT, Nat.lt_add_one, ne_eq, Int.reduceEq, not_false_eq_true, Option.map_some, Nat.reduceLeDiff, Nat.zero_lt_succ, List.map_cons, List.map_nil, List.nil_append, List.cons_append, List.append_nil, bytesOf, List.take_succ_cons, List.take_zero, List.drop_zero, and_self, List.append_assoc, List.length_append, Int.reduceLT, Int.reduceLE, Int.toNat_zero, Int.reduceToNat, Int.cast_ofNat_Int, Int.natCast_zero, Int.natCast_one, Int.reduceAdd, List.map_append, Option.bind_some, hs13.wv]
  refine (eqCode_any _ _ hot hot hg13.lent hs13.w.lent).mono ?_
  rintro r H14 ⟨rfl, rfl⟩
  simp only [go_sem, Nat.reduceEqDiff, reduceIte, ↓reduceIte, Nat.reduceAdd, List.replicate_succ, List.replicate_zero, List.set_cons_zero, List.set_cons_succ, List.length_cons, List.length_nil, Nat.reduceLT, Nat.lt_add_one, ne_eq, Int.reduceEq, not_false_eq_true, Option.map_some, Nat.reduceLeDiff, Nat.zero_lt_succ, List.map_cons, List.map_nil, List.nil_append, List.cons_append, List.append_nil, bytesOf, List.take_succ_cons, List.take_zero, List.drop_zero, and_self, List.append_assoc, List.length_append, Int.reduceLT, Int.reduceLE, Int.toNat_zero, Int.reduceToNat, Int.cast_ofNat_Int, Int.natCast_zero, Int.natCast_one, Int.reduceAdd, List.map_append, Option.bind_some, hgv13]
  refine (heldCodeO (by omega) hp13).mono ?_
  rintro r H15 ⟨rfl, o15, rfl⟩
  simp only [go_sem, Nat.reduceEqDiff, reduceIte, ↓reduceIte, Nat.reduceAdd, List.replicate_succ, List.replicate_zero, List.set_cons_zero, List.set_cons_succ, List.length_cons, List.length_nil, Nat.reduceLT, Nat.lt_add_one, ne_eq, Int.reduceEq, not_false_eq_true, Option.map_some, Nat.reduceLeDiff, Nat.zero_lt_succ, List.map_cons, List.map_nil, List.nil_append, List.cons_append, List.append_nil, bytesOf, List.take_succ_cons, List.take_zero, List.drop_zero, and_self, List.append_assoc, List.length_append, Int.reduceLT, Int.reduceLE, Int.toNat_zero, Int.reduceToNat, Int.cast_ofNat_Int, Int.natCast_zero, Int.natCast_one, Int.reduceAdd, List.map_append, Option.bind_some, hnn]
end Go.Proofs.Ytmbggdfceecojaa.Cd
