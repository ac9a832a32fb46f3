/- Texts MaW MaX MaY, merged. -/
import Derived.Test.YtmbggdfceecojaaKwE
/- RunCode, of both. -/
set_option linter.all false
namespace Go.Proofs.Ytmbggdfceecojaa.Cd
open Go.AM Mc Ho

def outD (c : CodeD) (inp : List Int) (room steps : Int) : Int × Int × List Int :=
  if runOk c inp room steps = true then (finE (finM c inp room steps), finC (finM c inp room steps), (finM c inp room steps).out) else (0, 0, [])
def oC (e : Int × Int × List Int) (a : AV) : List AV := [.p (.i .i64 e.1), .p (.i .i64 e.2.1), a]
def OwnO (H : List AO) (r : AV) (e : Int × Int × List Int) : Prop := ∃ a, r = .st (oC e a) ∧ OwnR H a 1 (intR .i64 e.2.2)
def OwnOAt (H : List AO) (r : AV) (e : Int × Int × List Int) (lo hi : Nat) : Prop := ∃ a, r = .st (oC e a) ∧ OwnAt H a 1 (intR .i64 e.2.2) lo hi

theorem tellKeep {c : CodeD} {f ib : Nat} {o : AO} (hf : ∀ (a : Int) im H, ACall Try.prog f [.p (.i .i64 a), .ptr im 0] H (fun r H' => H' = H)) : Tell c f [] Unit Unit id (fun _ H => H[ib]? = some o) (fun _ j => j = ib) (fun _ _ _ => ()) where
  keep := fun _ _ _ h k => k _ _ h rfl
  bd := fun _ _ _ h e => by rw [e]; exact get_lt h
  call := fun im ids ou H m a s _ _ _ h _ _ _ => (hf a im H).mono fun r H' e => ⟨(), rfl, by rw [e]; exact h, by rw [e]; exact Fr.refl _ _⟩
theorem tell117 (a : Int) (im : Nat) (H : List AO) : ACall Try.prog 117 [.p (.i .i64 a), .ptr im 0] H (fun r H' => H' = H) := by
  refine call117 (by simp) ?_
  simp only [go_sem, Nat.reduceEqDiff, reduceIte, ↓reduceIte, Nat.reduceAdd, List.replicate_succ, List.replicate_zero, List.set_cons_zero, List.set_cons_succ, List.length_cons, List.length_nil, Nat.reduceLT, Nat.lt_add_one, ne_eq, Int.reduceEq, not_false_eq_true, Option.map_some, Nat.reduceLeDiff, Nat.zero_lt_succ, List.map_cons, List.map_nil, List.nil_append, List.cons_append, List.append_nil, bytesOf, List.take_succ_cons, List.take_zero, List.drop_zero, and_self, List.append_assoc, List.length_append, Int.reduceLT, Int.reduceLE, Int.toNat_zero, Int.reduceToNat, Int.cast_ofNat_Int, Int.natCast_zero, Int.natCast_one, Int.reduceAdd, List.map_append, Option.bind_some, mc117, mr117]

theorem steps_out {c : CodeD} (hc : CFacts c) : ∀ (n : Nat) (m : MD), (stepsD c n m).out.length ≤ m.out.length + n
  | 0, m => Nat.le_refl _
  | n + 1, m => by
    unfold stepsD
    split
    · have h1 := steps_out hc n (stepD c m)
      have h2 := stepD_out (c := c) (m := m)
      omega
    · omega
theorem outD_len {c inp room steps} : (outD c inp room steps).2.2.length ≤ 300000 := by
  unfold outD
  split
  · rename_i h
    obtain ⟨hc, h2, h3, N, rfl, hN⟩ := runOk_facts h
    have h1 := steps_out hc N (startD inp room)
    have e : (startD inp room).out.length = 0 := rfl
    have e2 : (finM c inp room N).out = (stepsD c N (startD inp room)).out := by
      unfold finM runD
      rw [Int.toNat_natCast]
      split <;> rfl
    simp only [e2]
    omega
  · simp

set_option maxHeartbeats 1000000 in
theorem implRun0 (c : CodeD) (hok : okCode c) (inp : List Int) (hil : inp.length ≤ 1048576) (room steps : Int) :
    ACall Try.prog 51 [.st (c.cells.map .p), .p (.l (ints inp)), .p (.i .i64 room), .p (.i .i64 steps)] [] (fun r H => OwnO H r (outD c inp room steps)) := by
  refine call51 (by simp) ?_
  simp only [go_sem, Nat.reduceEqDiff, reduceIte, ↓reduceIte, Nat.reduceAdd, List.replicate_succ, List.replicate_zero, List.set_cons_zero, List.set_cons_succ, List.length_cons, List.length_nil, Nat.reduceLT, Nat.lt_add_one, ne_eq, Int.reduceEq, not_false_eq_true, Option.map_some, Nat.reduceLeDiff, Nat.zero_lt_succ, List.map_cons, List.map_nil, List.nil_append, List.cons_append, List.append_nil, bytesOf, List.take_succ_cons, List.take_zero, List.drop_zero, and_self, List.append_assoc, List.length_append, Int.reduceLT, Int.reduceLE, Int.toNat_zero, Int.reduceToNat, Int.cast_ofNat_Int, Int.natCast_zero, Int.natCast_one, Int.reduceAdd, List.map_append, Option.bind_some, mc51, mr51, CodeD.cells]
  refine acall_pure (runOkI c hok inp (by unfold maxL; omega) room steps _) ?_
  cases h : runOk c inp room steps
  · simp only [go_sem, Nat.reduceEqDiff, reduceIte, ↓reduceIte, Nat.reduceAdd, List.replicate_succ, List.replicate_zero, List.set_cons_zero, List.set_cons_succ, List.length_cons, List.length_nil, Nat.reduceLT, Nat.lt_add_one, ne_eq, Int.reduceEq, not_false_eq_true, Option.map_some, Nat.reduceLeDiff, Nat.zero_lt_succ, List.map_cons, List.map_nil, List.nil_append, List.cons_append, List.append_nil, bytesOf, List.take_succ_cons, List.take_zero, List.drop_zero, and_self, List.append_assoc, List.length_append, Int.reduceLT, Int.reduceLE, Int.toNat_zero, Int.reduceToNat, Int.cast_ofNat_Int, Int.natCast_zero, Int.natCast_one, Int.reduceAdd, List.map_append, Option.bind_some, Bool.not_false]
    have eo : outD c inp room steps = (0, 0, []) := by simp [outD, h]
    rw [eo]
    exact ⟨_, rfl, .inl ⟨rfl, rfl⟩⟩
  obtain ⟨hc, h2, h3, N, rfl, hN⟩ := runOk_facts h
  simp only [go_sem, Nat.reduceEqDiff, reduceIte, ↓reduceIte, Nat.reduceAdd, List.replicate_succ, List.replicate_zero, List.set_cons_zero, List.set_cons_succ, List.length_cons, List.length_nil, Nat.reduceLT, Nat.lt_add_one, ne_eq, Int.reduceEq, not_false_eq_true, Option.map_some, Nat.reduceLeDiff, Nat.zero_lt_succ, List.map_cons, List.map_nil, List.nil_append, List.cons_append, List.append_nil, bytesOf, List.take_succ_cons, List.take_zero, List.drop_zero, and_self, List.append_assoc, List.length_append, Int.reduceLT, Int.reduceLE, Int.toNat_zero, Int.reduceToNat, Int.cast_ofNat_Int, Int.natCast_zero, Int.natCast_one, Int.reduceAdd, List.map_append, Option.bind_some, Bool.not_true]
  refine (mRan hok hc hN h2 h3 (tellKeep (c := c) (ib := 1) (o := .var [.p (.i .i64 0), .p (.i .i64 0), .p .nl]) tell117) (s0 := ()) rfl).mono ?_
  rintro r H' ⟨im, ids, ou, rfl, hM, hm, s, _, h4⟩
  have e0 : finM c inp room N = runD c N (startD inp room) := by rw [finM, Int.toNat_natCast]
  rw [← e0] at hM hm
  have e325 : ldV true 3 (some ((imC c ids ou (finM c inp room N)).drop 325)) = some (.st [.p (.i .i64 (finE (finM c inp room N))), .p (.i .i64 (finC (finM c inp room N))), ou]) := by
    rw [imC]; show (takeN 3 _).map _ = _; rw [imR_st325 (lenR hm) (lenS hm)]; rfl
  have hs : ∀ o, (H'.set 1 o)[1]? = some o := fun o => set_get h4
  have eo : outD c inp room N = (finE (finM c inp room N), finC (finM c inp room N), (finM c inp room N).out) := by rw [outD, if_pos h]
  simp only [go_sem, Nat.reduceEqDiff, reduceIte, ↓reduceIte, Nat.reduceAdd, List.replicate_succ, List.replicate_zero, List.set_cons_zero, List.set_cons_succ, List.length_cons, List.length_nil, Nat.reduceLT, Nat.lt_add_one, ne_eq, Int.reduceEq, not_false_eq_true, Option.map_some, Nat.reduceLeDiff, Nat.zero_lt_succ, List.map_cons, List.map_nil, List.nil_append, List.cons_append, List.append_nil, bytesOf, List.take_succ_cons, List.take_zero, List.drop_zero, and_self, List.append_assoc, List.length_append, Int.reduceLT, Int.reduceLE, Int.toNat_zero, Int.reduceToNat, Int.cast_ofNat_Int, Int.natCast_zero, Int.natCast_one, Int.reduceAdd, List.map_append, Option.bind_some, hM.var, e325, h4, hs]
  rw [eo]
  exact ⟨_, rfl, own_keep hM.out fun j o hj ho => by obtain ⟨v, e⟩ := own_gid hM.out hj; rw [e] at ho; cases ho; exact set_ne' h4 e (by intro e; cases e)⟩

set_option maxHeartbeats 1000000 in
theorem specRun0 (c : CodeD) (hok : okCode c) (inp : List Int) (hil : inp.length ≤ 1048576) (room steps : Int) :
    ACall Try.prog 50 [.st (c.cells.map .p), .p (.l (ints inp)), .p (.i .i64 room), .p (.i .i64 steps)] [] (fun r H => OwnO H r (outD c inp room steps)) := by
  refine call50 (by simp) ?_
  simp only [go_sem, Nat.reduceEqDiff, reduceIte, ↓reduceIte, Nat.reduceAdd, List.replicate_succ, List.replicate_zero, List.set_cons_zero, List.set_cons_succ, List.length_cons, List.length_nil, Nat.reduceLT, Nat.lt_add_one, ne_eq, Int.reduceEq, not_false_eq_true, Option.map_some, Nat.reduceLeDiff, Nat.zero_lt_succ, List.map_cons, List.map_nil, List.nil_append, List.cons_append, List.append_nil, bytesOf, List.take_succ_cons, List.take_zero, List.drop_zero, and_self, List.append_assoc, List.length_append, Int.reduceLT, Int.reduceLE, Int.toNat_zero, Int.reduceToNat, Int.cast_ofNat_Int, Int.natCast_zero, Int.natCast_one, Int.reduceAdd, List.map_append, Option.bind_some, mc50, mr50, CodeD.cells]
  refine (sRun hok hil room steps _).mono ?_
  rintro r H' ⟨hk, (⟨h, g, f, rfl, hM, hm⟩ | ⟨h, a, rfl⟩)⟩
  · have e0 : finM c inp room steps = runD c steps.toNat (startD inp room) := rfl
    rw [← e0] at hM hm
    have hmv := hM.mv
    have hwv := hM.wv
    simp only [mCl] at hmv
    simp only [wCl] at hwv
    have h4 : H'[1]? = some (.var [.p (.i .i64 0), .p (.i .i64 0), .p .nl]) := hk 1 _ rfl
    have hs : ∀ o, (H'.set 1 o)[1]? = some o := fun o => set_get h4
    have eo : outD c inp room steps = (finE (finM c inp room steps), finC (finM c inp room steps), (finM c inp room steps).out) := by rw [outD, if_pos h]
    simp only [go_sem, Nat.reduceEqDiff, reduceIte, ↓reduceIte, Nat.reduceAdd, List.replicate_succ, List.replicate_zero, List.set_cons_zero, List.set_cons_succ, List.length_cons, List.length_nil, Nat.reduceLT, Nat.lt_add_one, ne_eq, Int.reduceEq, not_false_eq_true, Option.map_some, Nat.reduceLeDiff, Nat.zero_lt_succ, List.map_cons, List.map_nil, List.nil_append, List.cons_append, List.append_nil, bytesOf, List.take_succ_cons, List.take_zero, List.drop_zero, and_self, List.append_assoc, List.length_append, Int.reduceLT, Int.reduceLE, Int.toNat_zero, Int.reduceToNat, Int.cast_ofNat_Int, Int.natCast_zero, Int.natCast_one, Int.reduceAdd, List.map_append, Option.bind_some, Bool.not_true, hmv, hwv, h4, hs]
    rw [eo]
    exact ⟨_, rfl, own_keep hM.out fun j o hj ho => by obtain ⟨v, e⟩ := own_gid hM.out hj; rw [e] at ho; cases ho; exact set_ne' h4 e (by intro e; cases e)⟩
  · have h4 : H'[1]? = some (.var [.p (.i .i64 0), .p (.i .i64 0), .p .nl]) := hk 1 _ rfl
    have hs : ∀ o, (H'.set 1 o)[1]? = some o := fun o => set_get h4
    have eo : outD c inp room steps = (0, 0, []) := by simp [outD, h]
    simp only [go_sem, Nat.reduceEqDiff, reduceIte, ↓reduceIte, Nat.reduceAdd, List.replicate_succ, List.replicate_zero, List.set_cons_zero, List.set_cons_succ, List.length_cons, List.length_nil, Nat.reduceLT, Nat.lt_add_one, ne_eq, Int.reduceEq, not_false_eq_true, Option.map_some, Nat.reduceLeDiff, Nat.zero_lt_succ, List.map_cons, List.map_nil, List.nil_append, List.cons_append, List.append_nil, bytesOf, List.take_succ_cons, List.take_zero, List.drop_zero, and_self, List.append_assoc, List.length_append, Int.reduceLT, Int.reduceLE, Int.toNat_zero, Int.reduceToNat, Int.cast_ofNat_Int, Int.natCast_zero, Int.natCast_one, Int.reduceAdd, List.map_append, Option.bind_some, Bool.not_false, h4, hs]
    rw [eo]
    exact ⟨_, rfl, .inl ⟨rfl, rfl⟩⟩

theorem acall_ownO {f : Nat} {xs bs : List AV} {H : List AO} {t : Int × Int × List Int} (h : ACall Try.prog f bs [] (fun r H' => OwnO H' r t)) (hl : LentAll H xs bs) :
    ACall Try.prog f xs H (fun r H' => ∃ A, H' = H ++ A ∧ OwnOAt H' r t H.length H'.length) := by
  refine acall_own h hl ?_
  rintro r H0 ⟨a, rfl, ha⟩
  have hp : ∀ (i : Int), Grnd (.p (.i .i64 i)) := fun i => grnd_i _ _
  rcases ha with ⟨rfl, e1⟩ | ⟨i, u, rfl, h1⟩
  · refine ⟨[], .st (oC t (.p .nl)), [], by simp, rfl, .st _ _ rfl ?_, fun k id o hk => by simp at hk, [], rfl, _, rfl, .inl ⟨rfl, e1⟩⟩
    intro k x y hx hy
    rw [hx] at hy; cases hy
    have := List.mem_of_getElem? hx
    simp [oC] at this
    rcases this with rfl | rfl | rfl
    · exact .g _ (hp _)
    · exact .g _ (hp _)
    · exact .g _ grnd_nl
  · refine ⟨[i], .st (oC t (.gs (H.length + 0) u 0 (intR .i64 t.2.2).length)), [.rows 1 u (intR .i64 t.2.2)], by simp, rfl, .st _ _ rfl ?_, ?_, _, rfl, _, rfl, .inr ⟨H.length, u, Nat.le_refl _, by simp, rfl, get_off0 _ _⟩⟩
    · intro k x y hx hy
      match k with
      | 0 => cases hx; cases hy; exact .g _ (hp _)
      | 1 => cases hx; cases hy; exact .g _ (hp _)
      | 2 => cases hx; cases hy; exact .gs 0 i u _ _ rfl
      | k + 3 => simp [oC] at hx
    · intro k id o hk ho
      match k with
      | 0 => cases hk; cases ho; exact ⟨_, h1, renO_g (grnd_intR _ _)⟩
      | k + 1 => simp at hk
end Go.Proofs.Ytmbggdfceecojaa.Cd

/- RunCode: what its law wants. -/
set_option linter.all false
namespace Go.Proofs.Ytmbggdfceecojaa.Cd
open Go.AM Mc Ho

theorem specRun (c : CodeD) (hok : okCode c) (inp : List Int) (hil : inp.length ≤ 1048576) (room steps : Int) {H : List AO} {a b : AV} (ha : Lent H a (.st (c.cells.map .p))) (hb : Lent H b (.p (.l (ints inp)))) :
    ACall Try.prog 50 [a, b, .p (.i .i64 room), .p (.i .i64 steps)] H (fun r H' => ∃ A, H' = H ++ A ∧ OwnOAt H' r (outD c inp room steps) H.length H'.length) :=
  acall_ownO (specRun0 c hok inp hil room steps) (step_args ha hb)
theorem implRun (c : CodeD) (hok : okCode c) (inp : List Int) (hil : inp.length ≤ 1048576) (room steps : Int) {H : List AO} {a b : AV} (ha : Lent H a (.st (c.cells.map .p))) (hb : Lent H b (.p (.l (ints inp)))) :
    ACall Try.prog 51 [a, b, .p (.i .i64 room), .p (.i .i64 steps)] H (fun r H' => ∃ A, H' = H ++ A ∧ OwnOAt H' r (outD c inp room steps) H.length H'.length) :=
  acall_ownO (implRun0 c hok inp hil room steps) (step_args ha hb)

theorem eqOut0 (e f : Int × Int × List Int) (he : e.2.2.length ≤ maxL) (hf : f.2.2.length ≤ maxL) :
    ACall Try.prog 52 [.st (oC e (.p (.l (ints e.2.2)))), .st (oC f (.p (.l (ints f.2.2))))] [] (fun r H => r = .p (.b (decide (e = f)))) := by
  obtain ⟨e1, e2, e3⟩ := e
  obtain ⟨f1, f2, f3⟩ := f
  simp only at he hf
  refine call52 (by simp) ?_
  simp only [go_sem, Nat.reduceEqDiff, reduceIte, ↓reduceIte, Nat.reduceAdd, List.replicate_succ, List.replicate_zero, List.set_cons_zero, List.set_cons_succ, List.length_cons, List.length_nil, Nat.reduceLT, Nat.lt_add_one, ne_eq, Int.reduceEq, not_false_eq_true, Option.map_some, Nat.reduceLeDiff, Nat.zero_lt_succ, List.map_cons, List.map_nil, List.nil_append, List.cons_append, List.append_nil, bytesOf, List.take_succ_cons, List.take_zero, List.drop_zero, and_self, List.append_assoc, List.length_append, Int.reduceLT, Int.reduceLE, Int.toNat_zero, Int.reduceToNat, Int.cast_ofNat_Int, Int.natCast_zero, Int.natCast_one, Int.reduceAdd, List.map_append, Option.bind_some, mc52, mr52, oC]
  by_cases h1 : e1 = f1
  case neg =>
    have d : decide (e1 = f1) = false := by simp [h1]
    simp only [go_sem, Nat.reduceEqDiff, reduceIte, ↓reduceIte, Nat.reduceAdd, List.replicate_succ, List.replicate_zero, List.set_cons_zero, List.set_cons_succ, List.length_cons, List.length_nil, Nat.reduceLT, Nat.lt_add_one, ne_eq, Int.reduceEq, not_false_eq_true, Option.map_some, Nat.reduceLeDiff, Nat.zero_lt_succ, List.map_cons, List.map_nil, List.nil_append, List.cons_append, List.append_nil, bytesOf, List.take_succ_cons, List.take_zero, List.drop_zero, and_self, List.append_assoc, List.length_append, Int.reduceLT, Int.reduceLE, Int.toNat_zero, Int.reduceToNat, Int.cast_ofNat_Int, Int.natCast_zero, Int.natCast_one, Int.reduceAdd, List.map_append, Option.bind_some, d, Bool.not_false]
    simp [h1]
  subst h1
  have d : decide (e1 = e1) = true := by simp
  simp only [go_sem, Nat.reduceEqDiff, reduceIte, ↓reduceIte, Nat.reduceAdd, List.replicate_succ, List.replicate_zero, List.set_cons_zero, List.set_cons_succ, List.length_cons, List.length_nil, Nat.reduceLT, Nat.lt_add_one, ne_eq, Int.reduceEq, not_false_eq_true, Option.map_some, Nat.reduceLeDiff, Nat.zero_lt_succ, List.map_cons, List.map_nil, List.nil_append, List.cons_append, List.append_nil, bytesOf, List.take_succ_cons, List.take_zero, List.drop_zero, and_self, List.append_assoc, List.length_append, Int.reduceLT, Int.reduceLE, Int.toNat_zero, Int.reduceToNat, Int.cast_ofNat_Int, Int.natCast_zero, Int.natCast_one, Int.reduceAdd, List.map_append, Option.bind_some, d, Bool.not_true]
  by_cases h2 : e2 = f2
  case neg =>
    have d : decide (e2 = f2) = false := by simp [h2]
    simp only [go_sem, Nat.reduceEqDiff, reduceIte, ↓reduceIte, Nat.reduceAdd, List.replicate_succ, List.replicate_zero, List.set_cons_zero, List.set_cons_succ, List.length_cons, List.length_nil, Nat.reduceLT, Nat.lt_add_one, ne_eq, Int.reduceEq, not_false_eq_true, Option.map_some, Nat.reduceLeDiff, Nat.zero_lt_succ, List.map_cons, List.map_nil, List.nil_append, List.cons_append, List.append_nil, bytesOf, List.take_succ_cons, List.take_zero, List.drop_zero, and_self, List.append_assoc, List.length_append, Int.reduceLT, Int.reduceLE, Int.toNat_zero, Int.reduceToNat, Int.cast_ofNat_Int, Int.natCast_zero, Int.natCast_one, Int.reduceAdd, List.map_append, Option.bind_some, d, Bool.not_false]
    simp [h2]
  subst h2
  have d : decide (e2 = e2) = true := by simp
  simp only [go_sem, Nat.reduceEqDiff, reduceIte, ↓reduceIte, Nat.reduceAdd, List.replicate_succ, List.replicate_zero, List.set_cons_zero, List.set_cons_succ, List.length_cons, List.length_nil, Nat.reduceLT, Nat.lt_add_one, ne_eq, Int.reduceEq, not_false_eq_true, Option.map_some, Nat.reduceLeDiff, Nat.zero_lt_succ, List.map_cons, List.map_nil, List.nil_append, List.cons_append, List.append_nil, bytesOf, List.take_succ_cons, List.take_zero, List.drop_zero, and_self, List.append_assoc, List.length_append, Int.reduceLT, Int.reduceLE, Int.toNat_zero, Int.reduceToNat, Int.cast_ofNat_Int, Int.natCast_zero, Int.natCast_one, Int.reduceAdd, List.map_append, Option.bind_some, d, Bool.not_true]
  refine acall_pure (eqIntS_any e3 f3 he hf (.pure _) (.pure _)) ?_
  by_cases h3 : e3 = f3
  · have d : decide (e3 = f3) = true := by simp [h3]
    simp only [go_sem, Nat.reduceEqDiff, reduceIte, ↓reduceIte, Nat.reduceAdd, List.replicate_succ, List.replicate_zero, List.set_cons_zero, List.set_cons_succ, List.length_cons, List.length_nil, Nat.reduceLT, Nat.lt_add_one, ne_eq, Int.reduceEq, not_false_eq_true, Option.map_some, Nat.reduceLeDiff, Nat.zero_lt_succ, List.map_cons, List.map_nil, List.nil_append, List.cons_append, List.append_nil, bytesOf, List.take_succ_cons, List.take_zero, List.drop_zero, and_self, List.append_assoc, List.length_append, Int.reduceLT, Int.reduceLE, Int.toNat_zero, Int.reduceToNat, Int.cast_ofNat_Int, Int.natCast_zero, Int.natCast_one, Int.reduceAdd, List.map_append, Option.bind_some, d, Bool.not_true]
    simp [h3]
  · have d : decide (e3 = f3) = false := by simp [h3]
    simp only [go_sem, Nat.reduceEqDiff, reduceIte, ↓reduceIte, Nat.reduceAdd, List.replicate_succ, List.replicate_zero, List.set_cons_zero, List.set_cons_succ, List.length_cons, List.length_nil, Nat.reduceLT, Nat.lt_add_one, ne_eq, Int.reduceEq, not_false_eq_true, Option.map_some, Nat.reduceLeDiff, Nat.zero_lt_succ, List.map_cons, List.map_nil, List.nil_append, List.cons_append, List.append_nil, bytesOf, List.take_succ_cons, List.take_zero, List.drop_zero, and_self, List.append_assoc, List.length_append, Int.reduceLT, Int.reduceLE, Int.toNat_zero, Int.reduceToNat, Int.cast_ofNat_Int, Int.natCast_zero, Int.natCast_one, Int.reduceAdd, List.map_append, Option.bind_some, d, Bool.not_false]
    simp [h3]
theorem out_lent {H : List AO} {r : AV} {e : Int × Int × List Int} {lo hi : Nat} (h : OwnOAt H r e lo hi) : Lent H r (.st (oC e (.p (.l (ints e.2.2))))) := by
  obtain ⟨a, rfl, ha⟩ := h
  refine .st _ _ rfl fun j x y hx hy => ?_
  match j with
  | 0 => cases hx; cases hy; exact .pure _
  | 1 => cases hx; cases hy; exact .pure _
  | 2 => cases hx; cases hy; exact ownZ_lent ha.own
  | j + 3 => simp [oC] at hx
theorem eqOut (e : Int × Int × List Int) (he : e.2.2.length ≤ maxL) {H : List AO} {a b : AV} (ha : Lent H a (.st (oC e (.p (.l (ints e.2.2)))))) (hb : Lent H b (.st (oC e (.p (.l (ints e.2.2)))))) :
    ACall Try.prog 52 [a, b] H (pureQ (.p (.b true)) H) :=
  (acall_lend (eqOut0 e e he he) (fun r H' h => by subst h; exact grnd_b _) (lentAll_cons ha (lentAll_cons hb (lentAll_nil _)))).mono fun r H' ⟨h1, _, h2⟩ => ⟨by rw [h2]; simp, h1⟩

/-- an outcome that is marked -/
def PatO (H : List AO) (r : AV) (e : Int × Int) (n : Nat) (lo hi : Nat) : Prop := ∃ a, r = .st [.p (.i .i64 e.1), .p (.i .i64 e.2), a] ∧ OwnAt H a 1 (intR .i64 (patZ 1 n)) lo hi

theorem markOut {H : List AO} {r : AV} {e : Int × Int × List Int} {lo hi : Nat} (hh : hi ≤ H.length) (h : OwnOAt H r e lo hi) (hn : e.2.2.length ≤ 1000000) :
    ACall Try.prog 53 [r, .p (.i .i64 1)] H (fun q H' => q = .p (.i .i64 (1 + e.2.2.length)) ∧ PatO H' r (e.1, e.2.1) e.2.2.length lo hi ∧ H.length ≤ H'.length ∧ ∀ (j : Nat) o, H[j]? = some o → j < lo ∨ hi ≤ j → H'[j]? = some o) := by
  obtain ⟨e1, e2, l⟩ := e
  obtain ⟨a, rfl, ha⟩ := h
  simp only at ha hn ⊢
  refine call53 (by simp) ?_
  simp only [go_sem, Nat.reduceEqDiff, reduceIte, ↓reduceIte, Nat.reduceAdd, List.replicate_succ, List.replicate_zero, List.set_cons_zero, List.set_cons_succ, List.length_cons, List.length_nil, Nat.reduceLT, Nat.lt_add_one, ne_eq, Int.reduceEq, not_false_eq_true, Option.map_some, Nat.reduceLeDiff, Nat.zero_lt_succ, List.map_cons, List.map_nil, List.nil_append, List.cons_append, List.append_nil, bytesOf, List.take_succ_cons, List.take_zero, List.drop_zero, and_self, List.append_assoc, List.length_append, Int.reduceLT, Int.reduceLE, Int.toNat_zero, Int.reduceToNat, Int.cast_ofNat_Int, Int.natCast_zero, Int.natCast_one, Int.reduceAdd, List.map_append, Option.bind_some, mc53, mr53, oC]
  have ha1 := ha.ext [AO.var [.p (.i .i64 e1), .p (.i .i64 e2), a]]
  have hkk : ∀ (j : Nat) o, H[j]? = some o → (H ++ [AO.var [.p (.i .i64 e1), .p (.i .i64 e2), a]])[j]? = some o := fun j o h => get_ext h _
  have hll : H.length ≤ (H ++ [AO.var [.p (.i .i64 e1), .p (.i .i64 e2), a]]).length := by simp
  refine (markIntS_own ha1 (intR_len1 _ _) (by rw [intR_len]; omega) 1 (by omega) (by omega)).mono ?_
  rintro q H' ⟨rfl, h2, h3⟩
  rw [intR_len] at h2
  simp only [go_sem, Nat.reduceEqDiff, reduceIte, ↓reduceIte, Nat.reduceAdd, List.replicate_succ, List.replicate_zero, List.set_cons_zero, List.set_cons_succ, List.length_cons, List.length_nil, Nat.reduceLT, Nat.lt_add_one, ne_eq, Int.reduceEq, not_false_eq_true, Option.map_some, Nat.reduceLeDiff, Nat.zero_lt_succ, List.map_cons, List.map_nil, List.nil_append, List.cons_append, List.append_nil, bytesOf, List.take_succ_cons, List.take_zero, List.drop_zero, and_self, List.append_assoc, List.length_append, Int.reduceLT, Int.reduceLE, Int.toNat_zero, Int.reduceToNat, Int.cast_ofNat_Int, Int.natCast_zero, Int.natCast_one, Int.reduceAdd, List.map_append, Option.bind_some, intR_len]
  refine ⟨⟨a, rfl, h2⟩, by rw [h3.1]; exact hll, fun j o hj hlh => h3.2 j o (hkk j o hj) fun v o' n e => ?_⟩
  rcases ha with ⟨e', _⟩ | ⟨id, ver, h0, h1, e', _⟩
  · rw [e'] at e; cases e
  · rw [e'] at e; cases e; omega
theorem heldOut {H : List AO} {r : AV} {e : Int × Int} {n lo hi : Nat} (h : PatO H r e n lo hi) (hn : n ≤ 1000000) :
    ACall Try.prog 54 [r, .p (.i .i64 1)] H (fun q H' => q = .p (.i .i64 (1 + n)) ∧ ∃ o, H' = H ++ [o]) := by
  obtain ⟨a, rfl, ha⟩ := h
  refine call54 (by simp) ?_
  simp only [go_sem, Nat.reduceEqDiff, reduceIte, ↓reduceIte, Nat.reduceAdd, List.replicate_succ, List.replicate_zero, List.set_cons_zero, List.set_cons_succ, List.length_cons, List.length_nil, Nat.reduceLT, Nat.lt_add_one, ne_eq, Int.reduceEq, not_false_eq_true, Option.map_some, Nat.reduceLeDiff, Nat.zero_lt_succ, List.map_cons, List.map_nil, List.nil_append, List.cons_append, List.append_nil, bytesOf, List.take_succ_cons, List.take_zero, List.drop_zero, and_self, List.append_assoc, List.length_append, Int.reduceLT, Int.reduceLE, Int.toNat_zero, Int.reduceToNat, Int.cast_ofNat_Int, Int.natCast_zero, Int.natCast_one, Int.reduceAdd, List.map_append, Option.bind_some, mc54, mr54]
  refine (heldIntS_own 1 (ha.ext [AO.var [.p (.i .i64 e.1), .p (.i .i64 e.2), a]]) (by omega) (by omega) (by omega)).mono ?_
  rintro q H' ⟨rfl, rfl⟩
  have hnn : decide (1 + (n : Int) < 0) = false := by simp; omega
  simp only [go_sem, Nat.reduceEqDiff, reduceIte, ↓reduceIte, Nat.reduceAdd, List.replicate_succ, List.replicate_zero, List.set_cons_zero, List.set_cons_succ, List.length_cons, List.length_nil, Nat.reduceLT, Nat.lt_add_one, ne_eq, Int.reduceEq, not_false_eq_true, Option.map_some, Nat.reduceLeDiff, Nat.zero_lt_succ, List.map_cons, List.map_nil, List.nil_append, List.cons_append, List.append_nil, bytesOf, List.take_succ_cons, List.take_zero, List.drop_zero, and_self, List.append_assoc, List.length_append, Int.reduceLT, Int.reduceLE, Int.toNat_zero, Int.reduceToNat, Int.cast_ofNat_Int, Int.natCast_zero, Int.natCast_one, Int.reduceAdd, List.map_append, Option.bind_some, hnn]
  exact ⟨_, rfl⟩
end Go.Proofs.Ytmbggdfceecojaa.Cd

/- RunCode: the law. -/
set_option linter.all false
namespace Go.Proofs.Ytmbggdfceecojaa.Cd
open Go.AM Mc Ho

/-- what the law keeps: the argument, the reference's answer -/
structure LR (c : CodeD) (e : Int × Int × List Int) (wa : AV) (iw : Nat) (H : List AO) : Prop where
  v : H[0]? = some (.var (c.cells.map .p))
  wv : H[iw]? = some (.var [.p (.i .i64 e.1), .p (.i .i64 e.2.1), wa])
  w : OwnAt H wa 1 (intR .i64 e.2.2) 1 iw
theorem LR.keep {c e wa iw H H'} (h : LR c e wa iw H) (k : ∀ (j : Nat) o, H[j]? = some o → j ≤ iw → H'[j]? = some o) : LR c e wa iw H' :=
  ⟨k _ _ h.v (Nat.zero_le _), k _ _ h.wv (Nat.le_refl _), own_kp h.w fun j o hj _ h1 => k j o hj (Nat.le_of_lt h1)⟩
theorem LR.ext {c e wa iw H} (h : LR c e wa iw H) (A : List AO) : LR c e wa iw (H ++ A) := h.keep fun j o hj _ => get_ext hj A
theorem LR.lent {c e wa iw H} (h : LR c e wa iw H) : Lent H (.st [.p (.i .i64 e.1), .p (.i .i64 e.2.1), wa]) (.st (oC e (.p (.l (ints e.2.2))))) := out_lent ⟨wa, rfl, h.w⟩

set_option maxHeartbeats 4000000 in
theorem lawRun (c : CodeD) (hok : okCode c) (inp : List Int) (hil : inp.length ≤ maxL) (room steps : Int) :
    ACall Try.prog 11 [.st (c.cells.map .p), .p (.l (ints inp)), .p (.i .i64 room), .p (.i .i64 steps)] [] (fun r _ => r = .p (.b true)) := by
  refine call11 (by simp) ?_
  simp only [go_sem, Nat.reduceEqDiff, reduceIte, ↓reduceIte, Nat.reduceAdd, List.replicate_succ, List.replicate_zero, List.set_cons_zero, List.set_cons_succ, List.length_cons, List.length_nil, Nat.reduceLT, Nat.lt_add_one, ne_eq, Int.reduceEq, not_false_eq_true, Option.map_some, Nat.reduceLeDiff, Nat.zero_lt_succ, List.map_cons, List.map_nil, List.nil_append, List.cons_append, List.append_nil, bytesOf, List.take_succ_cons, List.take_zero, List.drop_zero, and_self, List.append_assoc, List.length_append, Int.reduceLT, Int.reduceLE, Int.toNat_zero, Int.reduceToNat, Int.cast_ofNat_Int, Int.natCast_zero, Int.natCast_one, Int.reduceAdd, List.map_append, Option.bind_some, mc11, mr11, CodeD.cells, ints_len]
  intro _
  by_cases hlong : 1048576 < inp.length
  · have dl : decide ((1048576 : Int) < (inp.length : Int)) = true := by simp; omega
    simp only [go_sem, Nat.reduceEqDiff, reduceIte, ↓reduceIte, Nat.reduceAdd, List.replicate_succ, List.replicate_zero, List.set_cons_zero, List.set_cons_succ, List.length_cons, List.length_nil, Nat.reduceLT, Nat.lt_add_one, ne_eq, Int.reduceEq, not_false_eq_true, Option.map_some, Nat.reduceLeDiff, Nat.zero_lt_succ, List.map_cons, List.map_nil, List.nil_append, List.cons_append, List.append_nil, bytesOf, List.take_succ_cons, List.take_zero, List.drop_zero, and_self, List.append_assoc, List.length_append, Int.reduceLT, Int.reduceLE, Int.toNat_zero, Int.reduceToNat, Int.cast_ofNat_Int, Int.natCast_zero, Int.natCast_one, Int.reduceAdd, List.map_append, Option.bind_some, dl]
  have dl : decide ((1048576 : Int) < (inp.length : Int)) = false := by simp; omega
  have hl : inp.length ≤ 1048576 := by omega
  simp only [go_sem, Nat.reduceEqDiff, reduceIte, ↓reduceIte, Nat.reduceAdd, List.replicate_succ, List.replicate_zero, List.set_cons_zero, List.set_cons_succ, List.length_cons, List.length_nil, Nat.reduceLT, Nat.lt_add_one, ne_eq, Int.reduceEq, not_false_eq_true, Option.map_some, Nat.reduceLeDiff, Nat.zero_lt_succ, List.map_cons, List.map_nil, List.nil_append, List.cons_append, List.append_nil, bytesOf, List.take_succ_cons, List.take_zero, List.drop_zero, and_self, List.append_assoc, List.length_append, Int.reduceLT, Int.reduceLE, Int.toNat_zero, Int.reduceToNat, Int.cast_ofNat_Int, Int.natCast_zero, Int.natCast_one, Int.reduceAdd, List.map_append, Option.bind_some, dl]
  rw [code_eta]
  refine (szCode_any c hok).mono ?_
  rintro r H' ⟨⟨q, rfl, hq⟩, rfl⟩
  simp only [go_sem, Nat.reduceEqDiff, reduceIte, ↓reduceIte, Nat.reduceAdd, List.replicate_succ, List.replicate_zero, List.set_cons_zero, List.set_cons_succ, List.length_cons, List.length_nil, Nat.reduceLT, Nat.lt_add_one, ne_eq, Int.reduceEq, not_false_eq_true, Option.map_some, Nat.reduceLeDiff, Nat.zero_lt_succ, List.map_cons, List.map_nil, List.nil_append, List.cons_append, List.append_nil, bytesOf, List.take_succ_cons, List.take_zero, List.drop_zero, and_self, List.append_assoc, List.length_append, Int.reduceLT, Int.reduceLE, Int.toNat_zero, Int.reduceToNat, Int.cast_ofNat_Int, Int.natCast_zero, Int.natCast_one, Int.reduceAdd, List.map_append, Option.bind_some]
  refine condK_split _ (fun hq0 => ?_) (fun hq0 => ?_)
  · simp only [go_sem, Nat.reduceEqDiff, reduceIte, ↓reduceIte, Nat.reduceAdd, List.replicate_succ, List.replicate_zero, List.set_cons_zero, List.set_cons_succ, List.length_cons, List.length_nil, Nat.reduceLT, Nat.lt_add_one, ne_eq, Int.reduceEq, not_false_eq_true, Option.map_some, Nat.reduceLeDiff, Nat.zero_lt_succ, List.map_cons, List.map_nil, List.nil_append, List.cons_append, List.append_nil, bytesOf, List.take_succ_cons, List.take_zero, List.drop_zero, and_self, List.append_assoc, List.length_append, Int.reduceLT, Int.reduceLE, Int.toNat_zero, Int.reduceToNat, Int.cast_ofNat_Int, Int.natCast_zero, Int.natCast_one, Int.reduceAdd, List.map_append, Option.bind_some]
  have hq1 : ¬ q < 0 := by simpa using hq0
  have hsm : small c := by rcases hq with h | h; exact (hq1 h).elim; exact h.2
  have hsm' := hsm
  unfold small at hsm'
  have hrl := @outD_len c inp room steps
  have hsp := fun {H a b} => @specRun c hok inp hl room steps H a b
  have hip := fun {H a b} => @implRun c hok inp hl room steps H a b
  generalize outD c inp room steps = e at hrl hsp hip
  have hrm : e.2.2.length ≤ maxL := by unfold maxL; omega
  simp only [go_sem, Nat.reduceEqDiff, reduceIte, ↓reduceIte, Nat.reduceAdd, List.replicate_succ, List.replicate_zero, List.set_cons_zero, List.set_cons_succ, List.length_cons, List.length_nil, Nat.reduceLT, Nat.lt_add_one, ne_eq, Int.reduceEq, not_false_eq_true, Option.map_some, Nat.reduceLeDiff, Nat.zero_lt_succ, List.map_cons, List.map_nil, List.nil_append, List.cons_append, List.append_nil, bytesOf, List.take_succ_cons, List.take_zero, List.drop_zero, and_self, List.append_assoc, List.length_append, Int.reduceLT, Int.reduceLE, Int.toNat_zero, Int.reduceToNat, Int.cast_ofNat_Int, Int.natCast_zero, Int.natCast_one, Int.reduceAdd, List.map_append, Option.bind_some, code_take]
  refine acall_pure (toCode' c hok hsm _) ?_
  simp only [go_sem, Nat.reduceEqDiff, reduceIte, ↓reduceIte, Nat.reduceAdd, List.replicate_succ, List.replicate_zero, List.set_cons_zero, List.set_cons_succ, List.length_cons, List.length_nil, Nat.reduceLT, Nat.lt_add_one, ne_eq, Int.reduceEq, not_false_eq_true, Option.map_some, Nat.reduceLeDiff, Nat.zero_lt_succ, List.map_cons, List.map_nil, List.nil_append, List.cons_append, List.append_nil, bytesOf, List.take_succ_cons, List.take_zero, List.drop_zero, and_self, List.append_assoc, List.length_append, Int.reduceLT, Int.reduceLE, Int.toNat_zero, Int.reduceToNat, Int.cast_ofNat_Int, Int.natCast_zero, Int.natCast_one, Int.reduceAdd, List.map_append, Option.bind_some]
  refine acall_pure (toIntS' inp hl _) ?_
  simp only [go_sem, Nat.reduceEqDiff, reduceIte, ↓reduceIte, Nat.reduceAdd, List.replicate_succ, List.replicate_zero, List.set_cons_zero, List.set_cons_succ, List.length_cons, List.length_nil, Nat.reduceLT, Nat.lt_add_one, ne_eq, Int.reduceEq, not_false_eq_true, Option.map_some, Nat.reduceLeDiff, Nat.zero_lt_succ, List.map_cons, List.map_nil, List.nil_append, List.cons_append, List.append_nil, bytesOf, List.take_succ_cons, List.take_zero, List.drop_zero, and_self, List.append_assoc, List.length_append, Int.reduceLT, Int.reduceLE, Int.toNat_zero, Int.reduceToNat, Int.cast_ofNat_Int, Int.natCast_zero, Int.natCast_one, Int.reduceAdd, List.map_append, Option.bind_some]
  refine (hsp (lent_code' c rfl rfl rfl) (lent_ints' inp rfl)).mono ?_
  rintro w H1 ⟨A1, hH1, wa, rfl, hw⟩
  have hv1 : H1[0]? = some (.var (c.cells.map .p)) := by rw [hH1]; rfl
  have hw1 := own_lo hw (lo' := 1) (by simp)
  clear hH1 hw
  have hs2 : LR c e wa H1.length (H1 ++ [AO.var [.p (.i .i64 e.1), .p (.i .i64 e.2.1), wa]]) := ⟨get_ext hv1 _, get_off0 _ _, hw1.ext _⟩
  have hi2 : (H1 ++ [AO.var [.p (.i .i64 e.1), .p (.i .i64 e.2.1), wa]]).length = H1.length + 1 := by simp
  have hi1 : 0 < H1.length := get_lt hv1
  clear hv1 hw1
  simp only [go_sem, Nat.reduceEqDiff, reduceIte, ↓reduceIte, Nat.reduceAdd, List.replicate_succ, List.replicate_zero, List.set_cons_zero, List.set_cons_succ, List.length_cons, List.length_nil, Nat.reduceLT, Nat.lt_add_one, ne_eq, Int.reduceEq, not_false_eq_true, Option.map_some, Nat.reduceLeDiff, Nat.zero_lt_succ, List.map_cons, List.map_nil, List.nil_append, List.cons_append, List.append_nil, bytesOf, List.take_succ_cons, List.take_zero, List.drop_zero, and_self, List.append_assoc, List.length_append, Int.reduceLT, Int.reduceLE, Int.toNat_zero, Int.reduceToNat, Int.cast_ofNat_Int, Int.natCast_zero, Int.natCast_one, Int.reduceAdd, List.map_append, Option.bind_some, oC]
  generalize H1 ++ [AO.var [.p (.i .i64 e.1), .p (.i .i64 e.2.1), wa]] = H2 at *
  generalize H1.length = iw at *
  simp only [go_sem, Nat.reduceEqDiff, reduceIte, ↓reduceIte, Nat.reduceAdd, List.replicate_succ, List.replicate_zero, List.set_cons_zero, List.set_cons_succ, List.length_cons, List.length_nil, Nat.reduceLT, Nat.lt_add_one, ne_eq, Int.reduceEq, not_false_eq_true, Option.map_some, Nat.reduceLeDiff, Nat.zero_lt_succ, List.map_cons, List.map_nil, List.nil_append, List.cons_append, List.append_nil, bytesOf, List.take_succ_cons, List.take_zero, List.drop_zero, and_self, List.append_assoc, List.length_append, Int.reduceLT, Int.reduceLE, Int.toNat_zero, Int.reduceToNat, Int.cast_ofNat_Int, Int.natCast_zero, Int.natCast_one, Int.reduceAdd, List.map_append, Option.bind_some, hs2.v, code_take]
  refine acall_pure (toCode' c hok hsm _) ?_
  simp only [go_sem, Nat.reduceEqDiff, reduceIte, ↓reduceIte, Nat.reduceAdd, List.replicate_succ, List.replicate_zero, List.set_cons_zero, List.set_cons_succ, List.length_cons, List.length_nil, Nat.reduceLT, Nat.lt_add_one, ne_eq, Int.reduceEq, not_false_eq_true, Option.map_some, Nat.reduceLeDiff, Nat.zero_lt_succ, List.map_cons, List.map_nil, List.nil_append, List.cons_append, List.append_nil, bytesOf, List.take_succ_cons, List.take_zero, List.drop_zero, and_self, List.append_assoc, List.length_append, Int.reduceLT, Int.reduceLE, Int.toNat_zero, Int.reduceToNat, Int.cast_ofNat_Int, Int.natCast_zero, Int.natCast_one, Int.reduceAdd, List.map_append, Option.bind_some]
  refine acall_pure (toIntS' inp hl _) ?_
  simp only [go_sem, Nat.reduceEqDiff, reduceIte, ↓reduceIte, Nat.reduceAdd, List.replicate_succ, List.replicate_zero, List.set_cons_zero, List.set_cons_succ, List.length_cons, List.length_nil, Nat.reduceLT, Nat.lt_add_one, ne_eq, Int.reduceEq, not_false_eq_true, Option.map_some, Nat.reduceLeDiff, Nat.zero_lt_succ, List.map_cons, List.map_nil, List.nil_append, List.cons_append, List.append_nil, bytesOf, List.take_succ_cons, List.take_zero, List.drop_zero, and_self, List.append_assoc, List.length_append, Int.reduceLT, Int.reduceLE, Int.toNat_zero, Int.reduceToNat, Int.cast_ofNat_Int, Int.natCast_zero, Int.natCast_one, Int.reduceAdd, List.map_append, Option.bind_some]
  refine (hip (lent_code' c (by rw [get_off0]; rfl) (by rw [get_off]; rfl) rfl) (lent_ints' inp (by rw [get_off]; rfl))).mono ?_
  rintro g H3 ⟨A3, hH3, ga, rfl, hg⟩
  have hs3 := (hs2.ext [AO.rows 6 0 (insR c.ins), .rows 1 0 (intR .i64 c.starts), .var [.gs H2.length 0 0 c.ins.length, .gs (H2.length + 1) 0 0 c.starts.length], .rows 1 0 (intR .i64 inp)]).ext A3
  rw [← hH3] at hs3
  have h60 : H3[H2.length]? = some (.rows 6 0 (insR c.ins)) := by rw [hH3]; refine get_ext ?_ _; rw [get_off0]; rfl
  have h61 : H3[H2.length + 1]? = some (.rows 1 0 (intR .i64 c.starts)) := by rw [hH3]; refine get_ext ?_ _; rw [get_off]; rfl
  have hx3 : H3[H2.length + 2]? = some (.var [.gs H2.length 0 0 c.ins.length, .gs (H2.length + 1) 0 0 c.starts.length]) := by rw [hH3]; refine get_ext ?_ _; rw [get_off]; rfl
  have hz3 : H3[H2.length + 3]? = some (.rows 1 0 (intR .i64 inp)) := by rw [hH3]; refine get_ext ?_ _; rw [get_off]; rfl
  have hg3 := own_lo hg (lo' := H2.length + 4) (by simp)
  have hl3 : H2.length + 3 < H3.length := get_lt hz3
  clear hg hH3 hs2
  generalize H2.length = ix at *
  have hgv3 : (H3 ++ [AO.var [.p (.i .i64 e.1), .p (.i .i64 e.2.1), ga]])[H3.length]? = some (.var [.p (.i .i64 e.1), .p (.i .i64 e.2.1), ga]) := get_off0 _ _
  have hs4 := hs3.ext [AO.var [.p (.i .i64 e.1), .p (.i .i64 e.2.1), ga]]
  have h604 := get_ext h60 [AO.var [.p (.i .i64 e.1), .p (.i .i64 e.2.1), ga]]
  have h614 := get_ext h61 [AO.var [.p (.i .i64 e.1), .p (.i .i64 e.2.1), ga]]
  have hx4 := get_ext hx3 [AO.var [.p (.i .i64 e.1), .p (.i .i64 e.2.1), ga]]
  have hz4 := get_ext hz3 [AO.var [.p (.i .i64 e.1), .p (.i .i64 e.2.1), ga]]
  have hg4 := hg3.ext [AO.var [.p (.i .i64 e.1), .p (.i .i64 e.2.1), ga]]
  clear hs3 h60 h61 hx3 hz3 hg3
  simp only [go_sem, Nat.reduceEqDiff, reduceIte, ↓reduceIte, Nat.reduceAdd, List.replicate_succ, List.replicate_zero, List.set_cons_zero, List.set_cons_succ, List.length_cons, List.length_nil, Nat.reduceLT, Nat.lt_add_one, ne_eq, Int.reduceEq, not_false_eq_true, Option.map_some, Nat.reduceLeDiff, Nat.zero_lt_succ, List.map_cons, List.map_nil, List.nil_append, List.cons_append, List.append_nil, bytesOf, List.take_succ_cons, List.take_zero, List.drop_zero, and_self, List.append_assoc, List.length_append, Int.reduceLT, Int.reduceLE, Int.toNat_zero, Int.reduceToNat, Int.cast_ofNat_Int, Int.natCast_zero, Int.natCast_one, Int.reduceAdd, List.map_append, Option.bind_some, oC]
  generalize H3 ++ [AO.var [.p (.i .i64 e.1), .p (.i .i64 e.2.1), ga]] = H4 at *
  generalize hig : H3.length = ig at *
  simp only [go_sem, Nat.reduceEqDiff, reduceIte, ↓reduceIte, Nat.reduceAdd, List.replicate_succ, List.replicate_zero, List.set_cons_zero, List.set_cons_succ, List.length_cons, List.length_nil, Nat.reduceLT, Nat.lt_add_one, ne_eq, Int.reduceEq, not_false_eq_true, Option.map_some, Nat.reduceLeDiff, Nat.zero_lt_succ, List.map_cons, List.map_nil, List.nil_append, List.cons_append, List.append_nil, bytesOf, List.take_succ_cons, List.take_zero, List.drop_zero, and_self, List.append_assoc, List.length_append, Int.reduceLT, Int.reduceLE, Int.toNat_zero, Int.reduceToNat, Int.cast_ofNat_Int, Int.natCast_zero, Int.natCast_one, Int.reduceAdd, List.map_append, Option.bind_some, hgv3, hs4.wv]
  refine acall_pure (eqOut e hrm (out_lent ⟨ga, rfl, hg4⟩) hs4.lent) ?_
  simp only [go_sem, Nat.reduceEqDiff, reduceIte, ↓reduceIte, Nat.reduceAdd, List.replicate_succ, List.replicate_zero, List.set_cons_zero, List.set_cons_succ, List.length_cons, List.length_nil, Nat.reduceLT, Nat.lt_add_one, ne_eq, Int.reduceEq, not_false_eq_true, Option.map_some, Nat.reduceLeDiff, Nat.zero_lt_succ, List.map_cons, List.map_nil, List.nil_append, List.cons_append, List.append_nil, bytesOf, List.take_succ_cons, List.take_zero, List.drop_zero, and_self, List.append_assoc, List.length_append, Int.reduceLT, Int.reduceLE, Int.toNat_zero, Int.reduceToNat, Int.cast_ofNat_Int, Int.natCast_zero, Int.natCast_one, Int.reduceAdd, List.map_append, Option.bind_some]
  refine drw_same ?_
  simp only [go_sem, Nat.reduceEqDiff, reduceIte, ↓reduceIte, Nat.reduceAdd, List.replicate_succ, List.replicate_zero, List.set_cons_zero, List.set_cons_succ, List.length_cons, List.length_nil, Nat.reduceLT, Nat.lt_add_one, ne_eq, Int.reduceEq, not_false_eq_true, Option.map_some, Nat.reduceLeDiff, Nat.zero_lt_succ, List.map_cons, List.map_nil, List.nil_append, List.cons_append, List.append_nil, bytesOf, List.take_succ_cons, List.take_zero, List.drop_zero, and_self, List.append_assoc, List.length_append, Int.reduceLT, Int.reduceLE, Int.toNat_zero, Int.reduceToNat, Int.cast_ofNat_Int, Int.natCast_zero, Int.natCast_one, Int.reduceAdd, List.map_append, Option.bind_some, hx4, hs4.v, code_take]
  refine pcall_pure (fun A => (toCode_fresh c hok hsm).mono fun r H' ⟨h1, h2⟩ => ⟨h2, h1⟩) (Hext.refl _) ?_
  simp only [go_sem, Nat.reduceEqDiff, reduceIte, ↓reduceIte, Nat.reduceAdd, List.replicate_succ, List.replicate_zero, List.set_cons_zero, List.set_cons_succ, List.length_cons, List.length_nil, Nat.reduceLT, Nat.lt_add_one, ne_eq, Int.reduceEq, not_false_eq_true, Option.map_some, Nat.reduceLeDiff, Nat.zero_lt_succ, List.map_cons, List.map_nil, List.nil_append, List.cons_append, List.append_nil, bytesOf, List.take_succ_cons, List.take_zero, List.drop_zero, and_self, List.append_assoc, List.length_append, Int.reduceLT, Int.reduceLE, Int.toNat_zero, Int.reduceToNat, Int.cast_ofNat_Int, Int.natCast_zero, Int.natCast_one, Int.reduceAdd, List.map_append, Option.bind_some]
  refine (eqCode_any c c hok hok (lent_code' c h604 h614 rfl) (code_lent c)).mono ?_
  rintro r H' ⟨rfl, rfl⟩
  simp only [go_sem, Nat.reduceEqDiff, reduceIte, ↓reduceIte, Nat.reduceAdd, List.replicate_succ, List.replicate_zero, List.set_cons_zero, List.set_cons_succ, List.length_cons, List.length_nil, Nat.reduceLT, Nat.lt_add_one, ne_eq, Int.reduceEq, not_false_eq_true, Option.map_some, Nat.reduceLeDiff, Nat.zero_lt_succ, List.map_cons, List.map_nil, List.nil_append, List.cons_append, List.append_nil, bytesOf, List.take_succ_cons, List.take_zero, List.drop_zero, and_self, List.append_assoc, List.length_append, Int.reduceLT, Int.reduceLE, Int.toNat_zero, Int.reduceToNat, Int.cast_ofNat_Int, Int.natCast_zero, Int.natCast_one, Int.reduceAdd, List.map_append, Option.bind_some]
  refine acall_pure (toIntS' inp hl _) ?_
  have hs5 := hs4.ext [AO.rows 1 0 (intR .i64 inp)]
  have h605 := get_ext h604 [AO.rows 1 0 (intR .i64 inp)]
  have h615 := get_ext h614 [AO.rows 1 0 (intR .i64 inp)]
  have hx5 := get_ext hx4 [AO.rows 1 0 (intR .i64 inp)]
  have hz5 := get_ext hz4 [AO.rows 1 0 (intR .i64 inp)]
  have hg5 := hg4.ext [AO.rows 1 0 (intR .i64 inp)]
  have hgv5 := get_ext hgv3 [AO.rows 1 0 (intR .i64 inp)]
  have hy5 : (H' ++ [AO.rows 1 0 (intR .i64 inp)])[H'.length]? = some (.rows 1 0 (intR .i64 inp)) := get_off0 _ _
  clear hs4 h604 h614 hx4 hz4 hg4 hgv3
  generalize H' ++ [AO.rows 1 0 (intR .i64 inp)] = H5 at *
  simp only [go_sem, Nat.reduceEqDiff, reduceIte, ↓reduceIte, Nat.reduceAdd, List.replicate_succ, List.replicate_zero, List.set_cons_zero, List.set_cons_succ, List.length_cons, List.length_nil, Nat.reduceLT, Nat.lt_add_one, ne_eq, Int.reduceEq, not_false_eq_true, Option.map_some, Nat.reduceLeDiff, Nat.zero_lt_succ, List.map_cons, List.map_nil, List.nil_append, List.cons_append, List.append_nil, bytesOf, List.take_succ_cons, List.take_zero, List.drop_zero, and_self, List.append_assoc, List.length_append, Int.reduceLT, Int.reduceLE, Int.toNat_zero, Int.reduceToNat, Int.cast_ofNat_Int, Int.natCast_zero, Int.natCast_one, Int.reduceAdd, List.map_append, Option.bind_some]
  refine acall_pure (eqIntS_any inp inp hil hil (lent_ints' inp hz5) (lent_ints' inp hy5)) ?_
  clear hy5
  have hl5 : ig < H5.length := get_lt hgv5
  simp only [go_sem, Nat.reduceEqDiff, reduceIte, ↓reduceIte, Nat.reduceAdd, List.replicate_succ, List.replicate_zero, List.set_cons_zero, List.set_cons_succ, List.length_cons, List.length_nil, Nat.reduceLT, Nat.lt_add_one, ne_eq, Int.reduceEq, not_false_eq_true, Option.map_some, Nat.reduceLeDiff, Nat.zero_lt_succ, List.map_cons, List.map_nil, List.nil_append, List.cons_append, List.append_nil, bytesOf, List.take_succ_cons, List.take_zero, List.drop_zero, and_self, List.append_assoc, List.length_append, Int.reduceLT, Int.reduceLE, Int.toNat_zero, Int.reduceToNat, Int.cast_ofNat_Int, Int.natCast_zero, Int.natCast_one, Int.reduceAdd, List.map_append, Option.bind_some, hx5]
  refine (markCodeO hsm (hi := ix + 2) (by omega) (codeC_at h605 h615 (Nat.le_refl ix) (by omega) (by omega) (by omega))).mono ?_
  rintro r H6 ⟨rfl, _, hl6, hk6⟩
  have hs6 := hs5.keep (H' := H6) fun j o hj h1 => hk6 j o hj (.inl (by omega))
  have hg6 := own_kp hg5 (H' := H6) fun j o hj h0 h1 => hk6 j o hj (.inr (by omega))
  have hz6 := hk6 _ _ hz5 (.inr (by omega))
  have hgv6 := hk6 _ _ hgv5 (.inr (by omega))
  clear hk6 hs5 hg5 hz5 hx5 h605 h615 hgv5
  simp only [go_sem, Nat.reduceEqDiff, reduceIte, ↓reduceIte, Nat.reduceAdd, List.replicate_succ, List.replicate_zero, List.set_cons_zero, List.set_cons_succ, List.length_cons, List.length_nil, Nat.reduceLT, Nat.lt_add_one, ne_eq, Int.reduceEq, not_false_eq_true, Option.map_some, Nat.reduceLeDiff, Nat.zero_lt_succ, List.map_cons, List.map_nil, List.nil_append, List.cons_append, List.append_nil, bytesOf, List.take_succ_cons, List.take_zero, List.drop_zero, and_self, List.append_assoc, List.length_append, Int.reduceLT, Int.reduceLE, Int.toNat_zero, Int.reduceToNat, Int.cast_ofNat_Int, Int.natCast_zero, Int.natCast_one, Int.reduceAdd, List.map_append, Option.bind_some]
  refine (markIntS_own (a := .gs (ix + 3) 0 0 inp.length) (.inr ⟨ix + 3, 0, Nat.le_refl _, Nat.lt_succ_self _, by rw [intR_len], hz6⟩) (intR_len1 _ _) (by rw [intR_len]; omega) _ (by omega) (by omega)).mono ?_
  rintro r H7 ⟨rfl, _, hk7⟩
  have kp : ∀ (j : Nat) o, H6[j]? = some o → j ≠ ix + 3 → H7[j]? = some o := fun j o hj hne => hk7.2 j o hj fun v o' n e => by cases e; exact hne rfl
  have hs7 := hs6.keep (H' := H7) fun j o hj h1 => kp j o hj (by omega)
  have hg7 := own_kp hg6 (H' := H7) fun j o hj h0 h1 => kp j o hj (by omega)
  have hgv7 := kp _ _ hgv6 (by omega)
  clear kp hk7 hs6 hg6 hz6 hgv6
  have hkf : decide (1 + 6 * (c.ins.length : Int) + (c.starts.length : Int) + (inp.length : Int) < 0) = false := by simp; omega
  simp only [go_sem, Nat.reduceEqDiff, reduceIte, ↓reduceIte, Nat.reduceAdd, List.replicate_succ, List.replicate_zero, List.set_cons_zero, List.set_cons_succ, List.length_cons, List.length_nil, Nat.reduceLT, Nat.lt_add_one, ne_eq, Int.reduceEq, not_false_eq_true, Option.map_some, Nat.reduceLeDiff, Nat.zero_lt_succ, List.map_cons, List.map_nil, List.nil_append, List.cons_append, List.append_nil, bytesOf, List.take_succ_cons, List.take_zero, List.drop_zero, and_self, List.append_assoc, List.length_append, Int.reduceLT, Int.reduceLE, Int.toNat_zero, Int.reduceToNat, Int.cast_ofNat_Int, Int.natCast_zero, Int.natCast_one, Int.reduceAdd, List.map_append, Option.bind_some, intR_len, hkf, hgv7, hs7.wv]
  refine acall_pure (eqOut e hrm (out_lent ⟨ga, rfl, hg7⟩) hs7.lent) ?_
  have hl7 := get_lt hgv7
  simp only [go_sem, Nat.reduceEqDiff, reduceIte, ↓reduceIte, Nat.reduceAdd, List.replicate_succ, List.replicate_zero, List.set_cons_zero, List.set_cons_succ, List.length_cons, List.length_nil, Nat.reduceLT, Nat.lt_add_one, ne_eq, Int.reduceEq, not_false_eq_true, Option.map_some, Nat.reduceLeDiff, Nat.zero_lt_succ, List.map_cons, List.map_nil, List.nil_append, List.cons_append, List.append_nil, bytesOf, List.take_succ_cons, List.take_zero, List.drop_zero, and_self, List.append_assoc, List.length_append, Int.reduceLT, Int.reduceLE, Int.toNat_zero, Int.reduceToNat, Int.cast_ofNat_Int, Int.natCast_zero, Int.natCast_one, Int.reduceAdd, List.map_append, Option.bind_some, hkf, hgv7]
  refine (markOut (hi := ig) (by omega) (e := e) ⟨ga, rfl, hg7⟩ (by omega)).mono ?_
  rintro r H8 ⟨rfl, hp8, hl8, hk8⟩
  have hs8 := hs7.keep (H' := H8) fun j o hj h1 => hk8 j o hj (.inl (by omega))
  have hgv8 := hk8 _ _ hgv7 (.inr (Nat.le_refl _))
  have hnn : decide (1 + (e.2.2.length : Int) < 0) = false := by simp; omega
  clear hk8 hs7 hgv7 hg7
  simp only [go_sem, Nat.reduceEqDiff, reduceIte, ↓reduceIte, Nat.reduceAdd, List.replicate_succ, List.replicate_zero, List.set_cons_zero, List.set_cons_succ, List.length_cons, List.length_nil, Nat.reduceLT, Nat.lt_add_one, ne_eq, Int.reduceEq, not_false_eq_true, Option.map_some, Nat.reduceLeDiff, Nat.zero_lt_succ, List.map_cons, List.map_nil, List.nil_append, List.cons_append, List.append_nil, bytesOf, List.take_succ_cons, List.take_zero, List.drop_zero, and_self, List.append_assoc, List.length_append, Int.reduceLT, Int.reduceLE, Int.toNat_zero, Int.reduceToNat, Int.cast_ofNat_Int, Int.natCast_zero, Int.natCast_one, Int.reduceAdd, List.map_append, Option.bind_some, hgv8]
  refine (heldOut hp8 (by omega)).mono ?_
  rintro r H9 ⟨rfl, o9, rfl⟩
  have hs9 := hs8.ext [o9]
  have hgv9 := get_ext hgv8 [o9]
  have hp9 : PatO (H8 ++ [o9]) (.st [.p (.i .i64 e.1), .p (.i .i64 e.2.1), ga]) (e.1, e.2.1) e.2.2.length (ix + 4) ig := by obtain ⟨a, h1, h2⟩ := hp8; exact ⟨a, h1, h2.ext _⟩
  clear hs8 hgv8 hp8
  generalize H8 ++ [o9] = H9 at *
  simp only [go_sem, Nat.reduceEqDiff, reduceIte, ↓reduceIte, Nat.reduceAdd, List.replicate_succ, List.replicate_zero, List.set_cons_zero, List.set_cons_succ, List.length_cons, List.length_nil, Nat.reduceLT, Nat.lt_add_one, ne_eq, Int.reduceEq, not_false_eq_true, Option.map_some, Nat.reduceLeDiff, Nat.zero_lt_succ, List.map_cons, List.map_nil, List.nil_append, List.cons_append, List.append_nil, bytesOf, List.take_succ_cons, List.take_zero, List.drop_zero, and_self, List.append_assoc, List.length_append, Int.reduceLT, Int.reduceLE, Int.toNat_zero, Int.reduceToNat, Int.cast_ofNat_Int, Int.natCast_zero, Int.natCast_one, Int.reduceAdd, List.map_append, Option.bind_some, hnn, hs9.v, code_take]
  refine acall_pure (toCode' c hok hsm _) ?_
  simp only [go_sem, Nat.reduceEqDiff, reduceIte, ↓reduceIte, Nat.reduceAdd, List.replicate_succ, List.replicate_zero, List.set_cons_zero, List.set_cons_succ, List.length_cons, List.length_nil, Nat.reduceLT, Nat.lt_add_one, ne_eq, Int.reduceEq, not_false_eq_true, Option.map_some, Nat.reduceLeDiff, Nat.zero_lt_succ, List.map_cons, List.map_nil, List.nil_append, List.cons_append, List.append_nil, bytesOf, List.take_succ_cons, List.take_zero, List.drop_zero, and_self, List.append_assoc, List.length_append, Int.reduceLT, Int.reduceLE, Int.toNat_zero, Int.reduceToNat, Int.cast_ofNat_Int, Int.natCast_zero, Int.natCast_one, Int.reduceAdd, List.map_append, Option.bind_some]
  refine acall_pure (toIntS' inp hl _) ?_
  simp only [go_sem, Nat.reduceEqDiff, reduceIte, ↓reduceIte, Nat.reduceAdd, List.replicate_succ, List.replicate_zero, List.set_cons_zero, List.set_cons_succ, List.length_cons, List.length_nil, Nat.reduceLT, Nat.lt_add_one, ne_eq, Int.reduceEq, not_false_eq_true, Option.map_some, Nat.reduceLeDiff, Nat.zero_lt_succ, List.map_cons, List.map_nil, List.nil_append, List.cons_append, List.append_nil, bytesOf, List.take_succ_cons, List.take_zero, List.drop_zero, and_self, List.append_assoc, List.length_append, Int.reduceLT, Int.reduceLE, Int.toNat_zero, Int.reduceToNat, Int.cast_ofNat_Int, Int.natCast_zero, Int.natCast_one, Int.reduceAdd, List.map_append, Option.bind_some]
  refine (hip (lent_code' c (by rw [get_off0]; rfl) (by rw [get_off]; rfl) rfl) (lent_ints' inp (by rw [get_off]; rfl))).mono ?_
  rintro g1 H10 ⟨A10, hH10, gb, rfl, hg10⟩
  have hs10 := (hs9.ext [AO.rows 6 0 (insR c.ins), .rows 1 0 (intR .i64 c.starts), .rows 1 0 (intR .i64 inp)]).ext A10
  have hgv10 := get_ext (get_ext hgv9 [AO.rows 6 0 (insR c.ins), .rows 1 0 (intR .i64 c.starts), .rows 1 0 (intR .i64 inp)]) A10
  have hp10 : PatO H10 (.st [.p (.i .i64 e.1), .p (.i .i64 e.2.1), ga]) (e.1, e.2.1) e.2.2.length (ix + 4) ig := by
    obtain ⟨a, h1, h2⟩ := hp9; rw [hH10]; exact ⟨a, h1, (h2.ext _).ext _⟩
  rw [← hH10] at hs10 hgv10
  have hs11 := hs10.ext [AO.var [.p (.i .i64 e.1), .p (.i .i64 e.2.1), gb]]
  have hgv11 := get_ext hgv10 [AO.var [.p (.i .i64 e.1), .p (.i .i64 e.2.1), gb]]
  have hg11 := hg10.ext [AO.var [.p (.i .i64 e.1), .p (.i .i64 e.2.1), gb]]
  have hp11 : PatO (H10 ++ [AO.var [.p (.i .i64 e.1), .p (.i .i64 e.2.1), gb]]) (.st [.p (.i .i64 e.1), .p (.i .i64 e.2.1), ga]) (e.1, e.2.1) e.2.2.length (ix + 4) ig := by
    obtain ⟨a, h1, h2⟩ := hp10; exact ⟨a, h1, h2.ext _⟩
  simp only [go_sem, Nat.reduceEqDiff, reduceIte, ↓reduceIte, Nat.reduceAdd, List.replicate_succ, List.replicate_zero, List.set_cons_zero, List.set_cons_succ, List.length_cons, List.length_nil, Nat.reduceLT, Nat.lt_add_one, ne_eq, Int.reduceEq, not_false_eq_true, Option.map_some, Nat.reduceLeDiff, Nat.zero_lt_succ, List.map_cons, List.map_nil, List.nil_append, List.cons_append, List.append_nil, bytesOf, List.take_succ_cons, List.take_zero, List.drop_zero, and_self, List.append_assoc, List.length_append, Int.reduceLT, Int.reduceLE, Int.toNat_zero, Int.reduceToNat, Int.cast_ofNat_Int, Int.natCast_zero, Int.natCast_one, Int.reduceAdd, List.map_append, Option.bind_some, oC, hs11.wv]
  refine acall_pure (eqOut e hrm (out_lent ⟨gb, rfl, hg11⟩) hs11.lent) ?_
  simp only [go_sem, Nat.reduceEqDiff, reduceIte, ↓reduceIte, Nat.reduceAdd, List.replicate_succ, List.replicate_zero, List.set_cons_zero, List.set_cons_succ, List.length_cons, List.length_nil, Nat.reduceLT, Nat.lt_add_one, ne_eq, Int.reduceEq, not_false_eq_true, Option.map_some, Nat.reduceLeDiff, Nat.zero_lt_succ, List.map_cons, List.map_nil, List.nil_append, List.cons_append, List.append_nil, bytesOf, List.take_succ_cons, List.take_zero, List.drop_zero, and_self, List.append_assoc, List.length_append, Int.reduceLT, Int.reduceLE, Int.toNat_zero, Int.reduceToNat, Int.cast_ofNat_Int, Int.natCast_zero, Int.natCast_one, Int.reduceAdd, List.map_append, Option.bind_some, hgv11]
  refine (heldOut hp11 (by omega)).mono ?_
  rintro r H12 ⟨rfl, o12, rfl⟩
  simp only [go_sem, Nat.reduceEqDiff, reduceIte, ↓reduceIte, Nat.reduceAdd, List.replicate_succ, List.replicate_zero, List.set_cons_zero, List.set_cons_succ, List.length_cons, List.length_nil, Nat.reduceLT, Nat.lt_add_one, ne_eq, Int.reduceEq, not_false_eq_true, Option.map_some, Nat.reduceLeDiff, Nat.zero_lt_succ, List.map_cons, List.map_nil, List.nil_append, List.cons_append, List.append_nil, bytesOf, List.take_succ_cons, List.take_zero, List.drop_zero, and_self, List.append_assoc, List.length_append, Int.reduceLT, Int.reduceLE, Int.toNat_zero, Int.reduceToNat, Int.cast_ofNat_Int, Int.natCast_zero, Int.natCast_one, Int.reduceAdd, List.map_append, Option.bind_some, hnn]
end Go.Proofs.Ytmbggdfceecojaa.Cd
