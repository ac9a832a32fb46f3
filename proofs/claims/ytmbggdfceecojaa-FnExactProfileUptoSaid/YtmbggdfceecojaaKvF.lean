/- Texts MaQ TrC TrD TrE MaU, merged. -/
import Derived.Test.YtmbggdfceecojaaKvE
/- Step1: the law. -/
set_option linter.all false
namespace Go.Proofs.Ytmbggdfceecojaa.Cd
open Go.AM Mc Ho

theorem eqIntS_any (xs ys : List Int) (hx : xs.length ≤ maxL) (hy : ys.length ≤ maxL) {H : List AO} {a b : AV} (ha : Lent H a (.p (.l (ints xs)))) (hb : Lent H b (.p (.l (ints ys)))) :
    ACall Try.prog 18 [a, b] H (pureQ (.p (.b (decide (xs = ys)))) H) :=
  (acall_lend (eqIntS xs ys hx hy) (fun r H' h => by subst h; exact grnd_b _) (lentAll_cons ha (lentAll_cons hb (lentAll_nil _)))).mono fun r H' ⟨h1, _, h2⟩ => ⟨h2, h1⟩
theorem toIntS' (zs : List Int) (hz : zs.length ≤ 1048576) (H : List AO) : ACall Try.prog 16 [.p (.l (ints zs))] H (pureQ (.gs H.length 0 0 zs.length) (H ++ [.rows 1 0 (intR .i64 zs)])) := toIntS zs hz H
theorem toCode' (c : CodeD) (hc : okCode c) (hs : small c) (H : List AO) : ACall Try.prog 21 [.st (c.cells.map .p)] H (pureQ (.st [.gs H.length 0 0 c.ins.length, .gs (H.length + 1) 0 0 c.starts.length]) (H ++ [.rows 6 0 (insR c.ins), .rows 1 0 (intR .i64 c.starts)])) := toCode c hc hs H
theorem lent_ints' (zs : List Int) {H : List AO} {id : Nat} (hid : H[id]? = some (.rows 1 0 (intR .i64 zs))) : Lent H (.gs id 0 0 zs.length) (.p (.l (ints zs))) := lent_ints zs hid
theorem lent_code' (c : CodeD) {H : List AO} {i j : Nat} (h0 : H[i]? = some (.rows 6 0 (insR c.ins))) (h1 : H[j]? = some (.rows 1 0 (intR .i64 c.starts))) (e : j = i + 1) : Lent H (.st [.gs i 0 0 c.ins.length, .gs j 0 0 c.starts.length]) (.st (c.cells.map .p)) := by subst e; exact lent_code c h0 h1

end Go.Proofs.Ytmbggdfceecojaa.Cd

/- Trim: by the reference. -/
set_option linter.all false
namespace Go.Proofs.Ytmbggdfceecojaa.Cd
open Go.AM Mc Ho

def posL (B : List Bool) (i : Nat) : List Int := (List.range i).map fun j => ((pos B j : Nat) : Int)
/-- what stands while the new code is made -/
structure TB (c : CodeD) (B : List Bool) (sid sver tid tver P : Nat) (H : List AO) : Prop where
  v0 : H[0]? = some (.var [.p (.l (inss c.ins)), .p (.l (ints c.starts))])
  v1 : H[1]? = some (.var [.p .nl, .p .nl])
  sn : H[sid]? = some (.rows 1 sver (boolR B))
  to : H[tid]? = some (.rows 1 tver (intR .i64 (posL B c.ins.length)))
  l1 : 1 < P
  ls : sid < P
  lt : tid < P
  le : P < H.length
theorem TB.sk {c B sid sver tid tver P} {H H' : List AO} (h : TB c B sid sver tid tver P H) (k : SK P (fun _ => False) H H') : TB c B sid sver tid tver P H' where
  v0 := k.1 _ _ h.v0 (fun f => f)
  v1 := k.1 _ _ h.v1 (fun f => f)
  sn := by rw [k.2.1 _ h.ls (fun f => f)]; exact h.sn
  to := by rw [k.2.1 _ h.lt (fun f => f)]; exact h.to
  l1 := h.l1
  ls := h.ls
  lt := h.lt
  le := Nat.lt_of_lt_of_le h.le k.2.2
theorem TB.ext {c B sid sver tid tver P} {H : List AO} (h : TB c B sid sver tid tver P H) (A : List AO) : TB c B sid sver tid tver P (H ++ A) := h.sk (SK.app (Nat.le_of_lt h.le))
theorem TB.set {c B sid sver tid tver P} {H : List AO} (h : TB c B sid sver tid tver P H) {j : Nat} (o : AO) (hj : P ≤ j) : TB c B sid sver tid tver P (H.set j o) where
  v0 := get_set h.v0 (by have := h.l1; omega)
  v1 := get_set h.v1 (by have := h.l1; omega)
  sn := get_set h.sn (by have := h.ls; omega)
  to := get_set h.to (by have := h.lt; omega)
  l1 := h.l1
  ls := h.ls
  lt := h.lt
  le := by simpa using h.le
theorem _root_.Go.AM.OwnAt.put {H : List AO} {a : AV} {sz : Nat} {rs : List (List AV)} {lo hi j : Nat} {cs : List AV} (h : OwnAt H a sz rs lo hi) (hj : H[j]? = some (.var cs)) (o : AO) : OwnAt (H.set j o) a sz rs lo hi := by
  rcases h with h | ⟨id, ver, h0, h1, h2, h3⟩
  · exact .inl h
  · exact .inr ⟨id, ver, h0, h1, h2, get_set h3 (by rintro rfl; rw [hj] at h3; cases h3)⟩
end Go.Proofs.Ytmbggdfceecojaa.Cd

/- Trim: by the program. -/
set_option linter.all false
namespace Go.Proofs.Ytmbggdfceecojaa.Cd
open Go.AM Mc Ho

/-- what stands while the new code is made -/
structure TI (c : CodeD) (B : List Bool) (sid sver tid P : Nat) (pl : List (List AV)) (H : List AO) : Prop where
  v0 : H[0]? = some (.var [.p (.l (inss c.ins)), .p (.l (ints c.starts))])
  v1 : H[1]? = some (.var [.p .nl, .p .nl])
  sn : H[sid]? = some (.rows 1 sver (boolR B))
  to : H[tid]? = some (.rows 1 0 pl)
  l1 : 1 < P
  ls : sid < tid
  lt : tid < P
  le : P < H.length
theorem TI.sk {c B sid sver tid P pl} {H H' : List AO} (h : TI c B sid sver tid P pl H) (k : SK P (fun _ => False) H H') : TI c B sid sver tid P pl H' where
  v0 := k.1 _ _ h.v0 (fun f => f)
  v1 := k.1 _ _ h.v1 (fun f => f)
  sn := by rw [k.2.1 _ (Nat.lt_trans h.ls h.lt) (fun f => f)]; exact h.sn
  to := by rw [k.2.1 _ h.lt (fun f => f)]; exact h.to
  l1 := h.l1
  ls := h.ls
  lt := h.lt
  le := Nat.lt_of_lt_of_le h.le k.2.2
theorem TI.ext {c B sid sver tid P pl} {H : List AO} (h : TI c B sid sver tid P pl H) (A : List AO) : TI c B sid sver tid P pl (H ++ A) := h.sk (SK.app (Nat.le_of_lt h.le))
theorem TI.set {c B sid sver tid P pl} {H : List AO} (h : TI c B sid sver tid P pl H) {j : Nat} (o : AO) (hj : P ≤ j) : TI c B sid sver tid P pl (H.set j o) where
  v0 := get_set h.v0 (by have := h.l1; omega)
  v1 := get_set h.v1 (by have := h.l1; omega)
  sn := get_set h.sn (by have := h.ls; have := h.lt; omega)
  to := get_set h.to (by have := h.lt; omega)
  l1 := h.l1
  ls := h.ls
  lt := h.lt
  le := by simpa using h.le
theorem TI.put {c B sid sver tid P pl} {H : List AO} (h : TI c B sid sver tid P pl H) (pl' : List (List AV)) (ht : 1 < tid) : TI c B sid sver tid P pl' (H.set tid (.rows 1 0 pl')) where
  v0 := get_set h.v0 (by omega)
  v1 := get_set h.v1 (by omega)
  sn := get_set h.sn (by have := h.ls; omega)
  to := set_get h.to
  l1 := h.l1
  ls := h.ls
  lt := h.lt
  le := by simpa using h.le
end Go.Proofs.Ytmbggdfceecojaa.Cd

/- Trim: the law. -/
set_option linter.all false
namespace Go.Proofs.Ytmbggdfceecojaa.Cd
open Go.AM Mc Ho

theorem OwnCAt.keep {H H' : List AO} {r : AV} {t : CodeD} {lo hi : Nat} (h : OwnCAt H r t lo hi) (k : ∀ (j : Nat) o, H[j]? = some o → lo ≤ j → j < hi → H'[j]? = some o) : OwnCAt H' r t lo hi := by
  obtain ⟨a, b, rfl, ha, hb⟩ := h
  refine ⟨a, b, rfl, ?_, ?_⟩
  · rcases ha with h | ⟨id, ver, h0, h1, h2, h3⟩
    · exact .inl h
    · exact .inr ⟨id, ver, h0, h1, h2, k _ _ h3 h0 h1⟩
  · rcases hb with h | ⟨id, ver, h0, h1, h2, h3⟩
    · exact .inl h
    · exact .inr ⟨id, ver, h0, h1, h2, k _ _ h3 h0 h1⟩
theorem OwnCAt.ext {H : List AO} {r : AV} {t : CodeD} {lo hi : Nat} (h : OwnCAt H r t lo hi) (A : List AO) : OwnCAt (H ++ A) r t lo hi := h.keep fun j o hj _ _ => get_ext hj A
theorem PatAt.ext {H : List AO} {r : AV} {m n : Nat} {lo hi : Nat} (h : PatAt H r m n lo hi) (A : List AO) : PatAt (H ++ A) r m n lo hi := by
  obtain ⟨a, b, rfl, ha, hb⟩ := h
  exact ⟨a, b, rfl, ha.ext A, hb.ext A⟩
/-- what the law keeps: the argument, the reference's answer -/
structure LS (c t : CodeD) (wa wb : AV) (iw : Nat) (H : List AO) : Prop where
  v : H[0]? = some (.var (c.cells.map .p))
  wv : H[iw]? = some (.var [wa, wb])
  w : OwnCAt H (.st [wa, wb]) t 1 iw
theorem LS.keep {c t : CodeD} {wa wb : AV} {iw : Nat} {H H' : List AO} (h : LS c t wa wb iw H) (k : ∀ (j : Nat) o, H[j]? = some o → j ≤ iw → H'[j]? = some o) : LS c t wa wb iw H' :=
  ⟨k _ _ h.v (Nat.zero_le _), k _ _ h.wv (Nat.le_refl _), h.w.keep fun j o hj _ h1 => k j o hj (Nat.le_of_lt h1)⟩
theorem LS.ext {c t : CodeD} {wa wb : AV} {iw : Nat} {H : List AO} (h : LS c t wa wb iw H) (A : List AO) : LS c t wa wb iw (H ++ A) := h.keep fun j o hj _ => get_ext hj A

end Go.Proofs.Ytmbggdfceecojaa.Cd

/- Profile: the law. -/
set_option linter.all false
namespace Go.Proofs.Ytmbggdfceecojaa.Cd
open Go.AM Mc Ho

theorem own_kp {H H' : List AO} {a : AV} {sz : Nat} {rs : List (List AV)} {lo hi : Nat} (h : OwnAt H a sz rs lo hi) (k : ∀ (j : Nat) o, H[j]? = some o → lo ≤ j → j < hi → H'[j]? = some o) : OwnAt H' a sz rs lo hi := by
  rcases h with h | ⟨id, ver, h0, h1, h2, h3⟩
  · exact .inl h
  · exact .inr ⟨id, ver, h0, h1, h2, k _ _ h3 h0 h1⟩
theorem own_lo {H : List AO} {a : AV} {sz : Nat} {rs : List (List AV)} {lo lo' hi : Nat} (h : OwnAt H a sz rs lo hi) (hl : lo' ≤ lo) : OwnAt H a sz rs lo' hi := by
  rcases h with h | ⟨id, ver, h0, h1, h2, h3⟩
  · exact .inl h
  · exact .inr ⟨id, ver, by omega, h1, h2, h3⟩
theorem specProf (c : CodeD) (hok : okCode c) (inp : List Int) (hil : inp.length ≤ 1048576) (room steps : Int) {H : List AO} {a b : AV} (ha : Lent H a (.st (c.cells.map .p))) (hb : Lent H b (.p (.l (ints inp)))) :
    ACall Try.prog 46 [a, b, .p (.i .i64 room), .p (.i .i64 steps)] H (fun r H' => ∃ A, H' = H ++ A ∧ OwnAt H' r 1 (intR .i64 (profD c inp room steps)) H.length H'.length) :=
  acall_ownAt (specProf0 c hok inp hil room steps) (step_args ha hb) (grnd_intR _ _)
theorem implProf (c : CodeD) (hok : okCode c) (inp : List Int) (hil : inp.length ≤ 1048576) (room steps : Int) {H : List AO} {a b : AV} (ha : Lent H a (.st (c.cells.map .p))) (hb : Lent H b (.p (.l (ints inp)))) :
    ACall Try.prog 47 [a, b, .p (.i .i64 room), .p (.i .i64 steps)] H (fun r H' => ∃ A, H' = H ++ A ∧ OwnAt H' r 1 (intR .i64 (profD c inp room steps)) H.length H'.length) :=
  acall_ownAt (implProf0 c hok inp hil room steps) (step_args ha hb) (grnd_intR _ _)
theorem profD_len {c inp room steps} : (profD c inp room steps).length ≤ 40000 := by
  unfold profD
  split
  · rename_i h
    have := (runOk_facts h).1.len
    rw [tellP_len]; simp; omega
  · simp
theorem codeC_at {c : CodeD} {H : List AO} {i j lo hi : Nat} (h0 : H[i]? = some (.rows 6 0 (insR c.ins))) (h1 : H[j]? = some (.rows 1 0 (intR .i64 c.starts))) (e0 : lo ≤ i) (e1 : lo ≤ j) (e2 : i < hi) (e3 : j < hi) :
    OwnCAt H (.st [.gs i 0 0 c.ins.length, .gs j 0 0 c.starts.length]) c lo hi :=
  ⟨_, _, rfl, .inr ⟨i, 0, e0, e2, by simp [insR], h0⟩, .inr ⟨j, 0, e1, e3, by rw [intR_len], h1⟩⟩

set_option maxHeartbeats 4000000 in
theorem lawProf (c : CodeD) (hok : okCode c) (inp : List Int) (hil : inp.length ≤ maxL) (room steps : Int) :
    ACall Try.prog 10 [.st (c.cells.map .p), .p (.l (ints inp)), .p (.i .i64 room), .p (.i .i64 steps)] [] (fun r _ => r = .p (.b true)) := by
  refine call10 (by simp) ?_
  simp only [go_sem, Nat.reduceEqDiff, reduceIte, ↓reduceIte, Nat.reduceAdd, List.replicate_succ, List.replicate_zero, List.set_cons_zero, List.set_cons_succ, List.length_cons, List.length_nil, Nat.reduceLT, Nat.lt_add_one, ne_eq, Int.reduceEq, not_false_eq_true, Option.map_some, Nat.reduceLeDiff, Nat.zero_lt_succ, List.map_cons, List.map_nil, List.nil_append, List.cons_append, List.append_nil, bytesOf, List.take_succ_cons, List.take_zero, List.drop_zero, and_self, List.append_assoc, List.length_append, Int.reduceLT, Int.reduceLE, Int.toNat_zero, Int.reduceToNat, Int.cast_ofNat_Int, Int.natCast_zero, Int.natCast_one, Int.reduceAdd, List.map_append, Option.bind_some, mc10, mr10, CodeD.cells, ints_len]
  intro _
  by_cases hlong : 1048576 < inp.length
  · have dl : decide ((1048576 : Int) < (inp.length : Int)) = true := by simp; omega
    simp only [go_sem, Nat.reduceEqDiff, reduceIte, ↓reduceIte, Nat.reduceAdd, List.replicate_succ, List.replicate_zero, List.set_cons_zero, List.set_cons_succ, List.length_cons, List.length_nil, Nat.reduceLT, Nat.lt_add_one, ne_eq, Int.reduceEq, not_false_eq_true, Option.map_some, Nat.reduceLeDiff, Nat.zero_lt_succ, List.map_cons, List.map_nil, List.nil_append, List.cons_append, List.append_nil, bytesOf, List.take_succ_cons, List.take_zero, List.drop_zero, and_self, List.append_assoc, List.length_append, Int.reduceLT, Int.reduceLE, Int.toNat_zero, Int.reduceToNat, Int.cast_ofNat_Int, Int.natCast_zero, Int.natCast_one, Int.reduceAdd, List.map_append, Option.bind_some, dl]
  have dl : decide ((1048576 : Int) < (inp.length : Int)) = false := by simp; omega
  have hl : inp.length ≤ 1048576 := by omega
  simp only [go_sem, Nat.reduceEqDiff, reduceIte, ↓reduceIte, Nat.reduceAdd, List.replicate_succ, List.replicate_zero, List.set_cons_zero, List.set_cons_succ, List.length_cons, List.length_nil, Nat.reduceLT, Nat.lt_add_one, ne_eq, Int.reduceEq, not_false_eq_true, Option.map_some, Nat.reduceLeDiff, Nat.zero_lt_succ, List.map_cons, List.map_nil, List.nil_append, List.cons_append, List.append_nil, bytesOf, List.take_succ_cons, List.take_zero, List.drop_zero, and_self, List.append_assoc, List.length_append, Int.reduceLT, Int.reduceLE, Int.toNat_zero, Int.reduceToNat, Int.cast_ofNat_Int, Int.natCast_zero, Int.natCast_one, Int.reduceAdd, List.map_append, Option.bind_some, dl]
  rw [code_eta]
  refine (szCode_any c hok).mono ?_
  rintro r H' ⟨⟨q, rfl, hq⟩, rfl⟩
  simp only [go_sem, Nat.reduceEqDiff, reduceIte, ↓reduceIte, Nat.reduceAdd, List.replicate_succ, List.replicate_zero, List.set_cons_zero, List.set_cons_succ, List.length_cons, List.length_nil, Nat.reduceLT, Nat.lt_add_one, ne_eq, Int.reduceEq, not_false_eq_true, Option.map_some, Nat.reduceLeDiff, Nat.zero_lt_succ, List.map_cons, List.map_nil, List.nil_append, List.cons_append, List.append_nil, bytesOf, List.take_succ_cons, List.take_zero, List.drop_zero, and_self, List.append_assoc, List.length_append, Int.reduceLT, Int.reduceLE, Int.toNat_zero, Int.reduceToNat, Int.cast_ofNat_Int, Int.natCast_zero, Int.natCast_one, Int.reduceAdd, List.map_append, Option.bind_some]
  refine condK_split _ (fun hq0 => ?_) (fun hq0 => ?_)
  · simp only [go_sem, Nat.reduceEqDiff, reduceIte, ↓reduceIte, Nat.reduceAdd, List.replicate_succ, List.replicate_zero, List.set_cons_zero, List.set_cons_succ, List.length_cons, List.length_nil, Nat.reduceLT, Nat.lt_add_one, ne_eq, Int.reduceEq, not_false_eq_true, Option.map_some, Nat.reduceLeDiff, Nat.zero_lt_succ, List.map_cons, List.map_nil, List.nil_append, List.cons_append, List.append_nil, bytesOf, List.take_succ_cons, List.take_zero, List.drop_zero, and_self, List.append_assoc, List.length_append, Int.reduceLT, Int.reduceLE, Int.toNat_zero, Int.reduceToNat, Int.cast_ofNat_Int, Int.natCast_zero, Int.natCast_one, Int.reduceAdd, List.map_append, Option.bind_some]
  have hq1 : ¬ q < 0 := by simpa using hq0
  have hsm : small c := by rcases hq with h | h; exact (hq1 h).elim; exact h.2
  have hsm' := hsm
  unfold small at hsm'
  have hrl := @profD_len c inp room steps
  have hrm : (profD c inp room steps).length ≤ maxL := by unfold maxL; omega
  simp only [go_sem, Nat.reduceEqDiff, reduceIte, ↓reduceIte, Nat.reduceAdd, List.replicate_succ, List.replicate_zero, List.set_cons_zero, List.set_cons_succ, List.length_cons, List.length_nil, Nat.reduceLT, Nat.lt_add_one, ne_eq, Int.reduceEq, not_false_eq_true, Option.map_some, Nat.reduceLeDiff, Nat.zero_lt_succ, List.map_cons, List.map_nil, List.nil_append, List.cons_append, List.append_nil, bytesOf, List.take_succ_cons, List.take_zero, List.drop_zero, and_self, List.append_assoc, List.length_append, Int.reduceLT, Int.reduceLE, Int.toNat_zero, Int.reduceToNat, Int.cast_ofNat_Int, Int.natCast_zero, Int.natCast_one, Int.reduceAdd, List.map_append, Option.bind_some, code_take]
  refine acall_pure (toCode' c hok hsm _) ?_
  simp only [go_sem, Nat.reduceEqDiff, reduceIte, ↓reduceIte, Nat.reduceAdd, List.replicate_succ, List.replicate_zero, List.set_cons_zero, List.set_cons_succ, List.length_cons, List.length_nil, Nat.reduceLT, Nat.lt_add_one, ne_eq, Int.reduceEq, not_false_eq_true, Option.map_some, Nat.reduceLeDiff, Nat.zero_lt_succ, List.map_cons, List.map_nil, List.nil_append, List.cons_append, List.append_nil, bytesOf, List.take_succ_cons, List.take_zero, List.drop_zero, and_self, List.append_assoc, List.length_append, Int.reduceLT, Int.reduceLE, Int.toNat_zero, Int.reduceToNat, Int.cast_ofNat_Int, Int.natCast_zero, Int.natCast_one, Int.reduceAdd, List.map_append, Option.bind_some]
  refine acall_pure (toIntS' inp hl _) ?_
  simp only [go_sem, Nat.reduceEqDiff, reduceIte, ↓reduceIte, Nat.reduceAdd, List.replicate_succ, List.replicate_zero, List.set_cons_zero, List.set_cons_succ, List.length_cons, List.length_nil, Nat.reduceLT, Nat.lt_add_one, ne_eq, Int.reduceEq, not_false_eq_true, Option.map_some, Nat.reduceLeDiff, Nat.zero_lt_succ, List.map_cons, List.map_nil, List.nil_append, List.cons_append, List.append_nil, bytesOf, List.take_succ_cons, List.take_zero, List.drop_zero, and_self, List.append_assoc, List.length_append, Int.reduceLT, Int.reduceLE, Int.toNat_zero, Int.reduceToNat, Int.cast_ofNat_Int, Int.natCast_zero, Int.natCast_one, Int.reduceAdd, List.map_append, Option.bind_some]
  refine (specProf c hok inp hl room steps (lent_code' c rfl rfl rfl) (lent_ints' inp rfl)).mono ?_
  rintro w H1 ⟨A1, hH1, hw⟩
  have hv1 : H1[0]? = some (.var (c.cells.map .p)) := by rw [hH1]; rfl
  have hw1 := own_lo hw (lo' := 1) (by simp)
  have hi1 : 0 < H1.length := get_lt hv1
  clear hH1 hw
  simp only [go_sem, Nat.reduceEqDiff, reduceIte, ↓reduceIte, Nat.reduceAdd, List.replicate_succ, List.replicate_zero, List.set_cons_zero, List.set_cons_succ, List.length_cons, List.length_nil, Nat.reduceLT, Nat.lt_add_one, ne_eq, Int.reduceEq, not_false_eq_true, Option.map_some, Nat.reduceLeDiff, Nat.zero_lt_succ, List.map_cons, List.map_nil, List.nil_append, List.cons_append, List.append_nil, bytesOf, List.take_succ_cons, List.take_zero, List.drop_zero, and_self, List.append_assoc, List.length_append, Int.reduceLT, Int.reduceLE, Int.toNat_zero, Int.reduceToNat, Int.cast_ofNat_Int, Int.natCast_zero, Int.natCast_one, Int.reduceAdd, List.map_append, Option.bind_some, hv1, code_take]
  refine acall_pure (toCode' c hok hsm _) ?_
  simp only [go_sem, Nat.reduceEqDiff, reduceIte, ↓reduceIte, Nat.reduceAdd, List.replicate_succ, List.replicate_zero, List.set_cons_zero, List.set_cons_succ, List.length_cons, List.length_nil, Nat.reduceLT, Nat.lt_add_one, ne_eq, Int.reduceEq, not_false_eq_true, Option.map_some, Nat.reduceLeDiff, Nat.zero_lt_succ, List.map_cons, List.map_nil, List.nil_append, List.cons_append, List.append_nil, bytesOf, List.take_succ_cons, List.take_zero, List.drop_zero, and_self, List.append_assoc, List.length_append, Int.reduceLT, Int.reduceLE, Int.toNat_zero, Int.reduceToNat, Int.cast_ofNat_Int, Int.natCast_zero, Int.natCast_one, Int.reduceAdd, List.map_append, Option.bind_some]
  refine acall_pure (toIntS' inp hl _) ?_
  simp only [go_sem, Nat.reduceEqDiff, reduceIte, ↓reduceIte, Nat.reduceAdd, List.replicate_succ, List.replicate_zero, List.set_cons_zero, List.set_cons_succ, List.length_cons, List.length_nil, Nat.reduceLT, Nat.lt_add_one, ne_eq, Int.reduceEq, not_false_eq_true, Option.map_some, Nat.reduceLeDiff, Nat.zero_lt_succ, List.map_cons, List.map_nil, List.nil_append, List.cons_append, List.append_nil, bytesOf, List.take_succ_cons, List.take_zero, List.drop_zero, and_self, List.append_assoc, List.length_append, Int.reduceLT, Int.reduceLE, Int.toNat_zero, Int.reduceToNat, Int.cast_ofNat_Int, Int.natCast_zero, Int.natCast_one, Int.reduceAdd, List.map_append, Option.bind_some]
  refine (implProf c hok inp hl room steps (lent_code' c (by rw [get_off0]; rfl) (by rw [get_off]; rfl) rfl) (lent_ints' inp (by rw [get_off]; rfl))).mono ?_
  rintro g H3 ⟨A3, hH3, hg⟩
  have hv3 : H3[0]? = some (.var (c.cells.map .p)) := by rw [hH3]; exact get_ext (get_ext hv1 _) _
  have hw3 := (hw1.ext [AO.rows 6 0 (insR c.ins), .rows 1 0 (intR .i64 c.starts), .var [.gs H1.length 0 0 c.ins.length, .gs (H1.length + 1) 0 0 c.starts.length], .rows 1 0 (intR .i64 inp)]).ext A3
  rw [← hH3] at hw3
  have h60 : H3[H1.length]? = some (.rows 6 0 (insR c.ins)) := by rw [hH3]; refine get_ext ?_ _; rw [get_off0]; rfl
  have h61 : H3[H1.length + 1]? = some (.rows 1 0 (intR .i64 c.starts)) := by rw [hH3]; refine get_ext ?_ _; rw [get_off]; rfl
  have hx3 : H3[H1.length + 2]? = some (.var [.gs H1.length 0 0 c.ins.length, .gs (H1.length + 1) 0 0 c.starts.length]) := by rw [hH3]; refine get_ext ?_ _; rw [get_off]; rfl
  have hz3 : H3[H1.length + 3]? = some (.rows 1 0 (intR .i64 inp)) := by rw [hH3]; refine get_ext ?_ _; rw [get_off]; rfl
  have hg3 := own_lo hg (lo' := H1.length + 4) (by simp)
  have hl3 : H1.length + 3 < H3.length := get_lt hz3
  clear hg hH3 hw1 hv1
  generalize H1.length = ix at *
  generalize hig : H3.length = ig at *
  simp only [go_sem, Nat.reduceEqDiff, reduceIte, ↓reduceIte, Nat.reduceAdd, List.replicate_succ, List.replicate_zero, List.set_cons_zero, List.set_cons_succ, List.length_cons, List.length_nil, Nat.reduceLT, Nat.lt_add_one, ne_eq, Int.reduceEq, not_false_eq_true, Option.map_some, Nat.reduceLeDiff, Nat.zero_lt_succ, List.map_cons, List.map_nil, List.nil_append, List.cons_append, List.append_nil, bytesOf, List.take_succ_cons, List.take_zero, List.drop_zero, and_self, List.append_assoc, List.length_append, Int.reduceLT, Int.reduceLE, Int.toNat_zero, Int.reduceToNat, Int.cast_ofNat_Int, Int.natCast_zero, Int.natCast_one, Int.reduceAdd, List.map_append, Option.bind_some]
  refine acall_pure (eqIntS_any _ _ hrm hrm (ownZ_lent hg3.own) (ownZ_lent hw3.own)) ?_
  simp only [go_sem, Nat.reduceEqDiff, reduceIte, ↓reduceIte, Nat.reduceAdd, List.replicate_succ, List.replicate_zero, List.set_cons_zero, List.set_cons_succ, List.length_cons, List.length_nil, Nat.reduceLT, Nat.lt_add_one, ne_eq, Int.reduceEq, not_false_eq_true, Option.map_some, Nat.reduceLeDiff, Nat.zero_lt_succ, List.map_cons, List.map_nil, List.nil_append, List.cons_append, List.append_nil, bytesOf, List.take_succ_cons, List.take_zero, List.drop_zero, and_self, List.append_assoc, List.length_append, Int.reduceLT, Int.reduceLE, Int.toNat_zero, Int.reduceToNat, Int.cast_ofNat_Int, Int.natCast_zero, Int.natCast_one, Int.reduceAdd, List.map_append, Option.bind_some]
  refine drw_same ?_
  simp only [go_sem, Nat.reduceEqDiff, reduceIte, ↓reduceIte, Nat.reduceAdd, List.replicate_succ, List.replicate_zero, List.set_cons_zero, List.set_cons_succ, List.length_cons, List.length_nil, Nat.reduceLT, Nat.lt_add_one, ne_eq, Int.reduceEq, not_false_eq_true, Option.map_some, Nat.reduceLeDiff, Nat.zero_lt_succ, List.map_cons, List.map_nil, List.nil_append, List.cons_append, List.append_nil, bytesOf, List.take_succ_cons, List.take_zero, List.drop_zero, and_self, List.append_assoc, List.length_append, Int.reduceLT, Int.reduceLE, Int.toNat_zero, Int.reduceToNat, Int.cast_ofNat_Int, Int.natCast_zero, Int.natCast_one, Int.reduceAdd, List.map_append, Option.bind_some, hx3, hv3, code_take]
  refine pcall_pure (fun A => (toCode_fresh c hok hsm).mono fun r H' ⟨h1, h2⟩ => ⟨h2, h1⟩) (Hext.refl _) ?_
  simp only [go_sem, Nat.reduceEqDiff, reduceIte, ↓reduceIte, Nat.reduceAdd, List.replicate_succ, List.replicate_zero, List.set_cons_zero, List.set_cons_succ, List.length_cons, List.length_nil, Nat.reduceLT, Nat.lt_add_one, ne_eq, Int.reduceEq, not_false_eq_true, Option.map_some, Nat.reduceLeDiff, Nat.zero_lt_succ, List.map_cons, List.map_nil, List.nil_append, List.cons_append, List.append_nil, bytesOf, List.take_succ_cons, List.take_zero, List.drop_zero, and_self, List.append_assoc, List.length_append, Int.reduceLT, Int.reduceLE, Int.toNat_zero, Int.reduceToNat, Int.cast_ofNat_Int, Int.natCast_zero, Int.natCast_one, Int.reduceAdd, List.map_append, Option.bind_some]
  refine (eqCode_any c c hok hok (lent_code' c h60 h61 rfl) (code_lent c)).mono ?_
  rintro r H' ⟨rfl, rfl⟩
  simp only [go_sem, Nat.reduceEqDiff, reduceIte, ↓reduceIte, Nat.reduceAdd, List.replicate_succ, List.replicate_zero, List.set_cons_zero, List.set_cons_succ, List.length_cons, List.length_nil, Nat.reduceLT, Nat.lt_add_one, ne_eq, Int.reduceEq, not_false_eq_true, Option.map_some, Nat.reduceLeDiff, Nat.zero_lt_succ, List.map_cons, List.map_nil, List.nil_append, List.cons_append, List.append_nil, bytesOf, List.take_succ_cons, List.take_zero, List.drop_zero, and_self, List.append_assoc, List.length_append, Int.reduceLT, Int.reduceLE, Int.toNat_zero, Int.reduceToNat, Int.cast_ofNat_Int, Int.natCast_zero, Int.natCast_one, Int.reduceAdd, List.map_append, Option.bind_some]
  refine acall_pure (toIntS' inp hl _) ?_
  have hv4 := get_ext hv3 [AO.rows 1 0 (intR .i64 inp)]
  have hw4 := hw3.ext [AO.rows 1 0 (intR .i64 inp)]
  have h60' := get_ext h60 [AO.rows 1 0 (intR .i64 inp)]
  have h61' := get_ext h61 [AO.rows 1 0 (intR .i64 inp)]
  have hx4 := get_ext hx3 [AO.rows 1 0 (intR .i64 inp)]
  have hz4 := get_ext hz3 [AO.rows 1 0 (intR .i64 inp)]
  have hg4 := hg3.ext [AO.rows 1 0 (intR .i64 inp)]
  have hy4 : (H' ++ [AO.rows 1 0 (intR .i64 inp)])[H'.length]? = some (.rows 1 0 (intR .i64 inp)) := get_off0 _ _
  have hl4 : ig ≤ (H' ++ [AO.rows 1 0 (intR .i64 inp)]).length := by simp; omega
  clear hv3 hw3 h60 h61 hx3 hz3 hg3
  generalize H' ++ [AO.rows 1 0 (intR .i64 inp)] = H4 at *
  simp only [go_sem, Nat.reduceEqDiff, reduceIte, ↓reduceIte, Nat.reduceAdd, List.replicate_succ, List.replicate_zero, List.set_cons_zero, List.set_cons_succ, List.length_cons, List.length_nil, Nat.reduceLT, Nat.lt_add_one, ne_eq, Int.reduceEq, not_false_eq_true, Option.map_some, Nat.reduceLeDiff, Nat.zero_lt_succ, List.map_cons, List.map_nil, List.nil_append, List.cons_append, List.append_nil, bytesOf, List.take_succ_cons, List.take_zero, List.drop_zero, and_self, List.append_assoc, List.length_append, Int.reduceLT, Int.reduceLE, Int.toNat_zero, Int.reduceToNat, Int.cast_ofNat_Int, Int.natCast_zero, Int.natCast_one, Int.reduceAdd, List.map_append, Option.bind_some]
  refine acall_pure (eqIntS_any inp inp hil hil (lent_ints' inp hz4) (lent_ints' inp hy4)) ?_
  clear hy4
  simp only [go_sem, Nat.reduceEqDiff, reduceIte, ↓reduceIte, Nat.reduceAdd, List.replicate_succ, List.replicate_zero, List.set_cons_zero, List.set_cons_succ, List.length_cons, List.length_nil, Nat.reduceLT, Nat.lt_add_one, ne_eq, Int.reduceEq, not_false_eq_true, Option.map_some, Nat.reduceLeDiff, Nat.zero_lt_succ, List.map_cons, List.map_nil, List.nil_append, List.cons_append, List.append_nil, bytesOf, List.take_succ_cons, List.take_zero, List.drop_zero, and_self, List.append_assoc, List.length_append, Int.reduceLT, Int.reduceLE, Int.toNat_zero, Int.reduceToNat, Int.cast_ofNat_Int, Int.natCast_zero, Int.natCast_one, Int.reduceAdd, List.map_append, Option.bind_some, hx4]
  refine (markCodeO hsm (hi := ix + 2) (by omega) (codeC_at h60' h61' (Nat.le_refl ix) (by omega) (by omega) (by omega))).mono ?_
  rintro r H5 ⟨rfl, _, hl5, hk5⟩
  have hv5 := hk5 _ _ hv4 (.inl (by omega))
  have hw5 := own_kp hw4 (H' := H5) fun j o hj h0 h1 => hk5 j o hj (.inl (by omega))
  have hg5 := own_kp hg4 (H' := H5) fun j o hj h0 h1 => hk5 j o hj (.inr (by omega))
  have hz5 := hk5 _ _ hz4 (.inr (by omega))
  have hl5' : ig ≤ H5.length := by omega
  clear hk5 hv4 hw4 hg4 hz4 hx4 h60' h61'
  simp only [go_sem, Nat.reduceEqDiff, reduceIte, ↓reduceIte, Nat.reduceAdd, List.replicate_succ, List.replicate_zero, List.set_cons_zero, List.set_cons_succ, List.length_cons, List.length_nil, Nat.reduceLT, Nat.lt_add_one, ne_eq, Int.reduceEq, not_false_eq_true, Option.map_some, Nat.reduceLeDiff, Nat.zero_lt_succ, List.map_cons, List.map_nil, List.nil_append, List.cons_append, List.append_nil, bytesOf, List.take_succ_cons, List.take_zero, List.drop_zero, and_self, List.append_assoc, List.length_append, Int.reduceLT, Int.reduceLE, Int.toNat_zero, Int.reduceToNat, Int.cast_ofNat_Int, Int.natCast_zero, Int.natCast_one, Int.reduceAdd, List.map_append, Option.bind_some]
  refine (markIntS_own (a := .gs (ix + 3) 0 0 inp.length) (.inr ⟨ix + 3, 0, Nat.le_refl _, Nat.lt_succ_self _, by rw [intR_len], hz5⟩) (intR_len1 _ _) (by rw [intR_len]; omega) _ (by omega) (by omega)).mono ?_
  rintro r H6 ⟨rfl, _, hk6⟩
  have kp : ∀ (j : Nat) o, H5[j]? = some o → j ≠ ix + 3 → H6[j]? = some o := fun j o hj hne => hk6.2 j o hj fun v o' n e => by cases e; exact hne rfl
  have hv6 := kp _ _ hv5 (by omega)
  have hw6 := own_kp hw5 (H' := H6) fun j o hj h0 h1 => kp j o hj (by omega)
  have hg6 := own_kp hg5 (H' := H6) fun j o hj h0 h1 => kp j o hj (by omega)
  clear kp hk6 hv5 hw5 hg5 hz5
  have hkf : decide (1 + 6 * (c.ins.length : Int) + (c.starts.length : Int) + (inp.length : Int) < 0) = false := by simp; omega
  simp only [go_sem, Nat.reduceEqDiff, reduceIte, ↓reduceIte, Nat.reduceAdd, List.replicate_succ, List.replicate_zero, List.set_cons_zero, List.set_cons_succ, List.length_cons, List.length_nil, Nat.reduceLT, Nat.lt_add_one, ne_eq, Int.reduceEq, not_false_eq_true, Option.map_some, Nat.reduceLeDiff, Nat.zero_lt_succ, List.map_cons, List.map_nil, List.nil_append, List.cons_append, List.append_nil, bytesOf, List.take_succ_cons, List.take_zero, List.drop_zero, and_self, List.append_assoc, List.length_append, Int.reduceLT, Int.reduceLE, Int.toNat_zero, Int.reduceToNat, Int.cast_ofNat_Int, Int.natCast_zero, Int.natCast_one, Int.reduceAdd, List.map_append, Option.bind_some, intR_len, hkf]
  refine acall_pure (eqIntS_any _ _ hrm hrm (ownZ_lent hg6.own) (ownZ_lent hw6.own)) ?_
  simp only [go_sem, Nat.reduceEqDiff, reduceIte, ↓reduceIte, Nat.reduceAdd, List.replicate_succ, List.replicate_zero, List.set_cons_zero, List.set_cons_succ, List.length_cons, List.length_nil, Nat.reduceLT, Nat.lt_add_one, ne_eq, Int.reduceEq, not_false_eq_true, Option.map_some, Nat.reduceLeDiff, Nat.zero_lt_succ, List.map_cons, List.map_nil, List.nil_append, List.cons_append, List.append_nil, bytesOf, List.take_succ_cons, List.take_zero, List.drop_zero, and_self, List.append_assoc, List.length_append, Int.reduceLT, Int.reduceLE, Int.toNat_zero, Int.reduceToNat, Int.cast_ofNat_Int, Int.natCast_zero, Int.natCast_one, Int.reduceAdd, List.map_append, Option.bind_some, hkf]
  refine (markIntS_own hg6 (intR_len1 _ _) (by rw [intR_len]; omega) 1 (by omega) (by omega)).mono ?_
  rintro r H7 ⟨rfl, hg7, hk7⟩
  have hgo := hg6.own
  have hv7 : H7[0]? = some (.var (c.cells.map .p)) := hk7.at hgo hv6 (fun v rs' e => by cases e)
  have hgid : ∀ (j : Nat), (∃ v o n, g = .gs j v o n) → ix + 4 ≤ j := by
    rintro j ⟨v, o, n, rfl⟩
    rcases hg6 with ⟨e, _⟩ | ⟨id, ver, h0, h1, e, _⟩
    · cases e
    · cases e; exact h0
  have hw7 := own_kp hw6 (H' := H7) fun j o hj h0 h1 => hk7.2 j o hj fun v o' n e => by have := hgid j ⟨_, _, _, e⟩; omega
  rw [intR_len] at hg7
  clear hk7 hv6 hw6 hgo
  simp only [go_sem, Nat.reduceEqDiff, reduceIte, ↓reduceIte, Nat.reduceAdd, List.replicate_succ, List.replicate_zero, List.set_cons_zero, List.set_cons_succ, List.length_cons, List.length_nil, Nat.reduceLT, Nat.lt_add_one, ne_eq, Int.reduceEq, not_false_eq_true, Option.map_some, Nat.reduceLeDiff, Nat.zero_lt_succ, List.map_cons, List.map_nil, List.nil_append, List.cons_append, List.append_nil, bytesOf, List.take_succ_cons, List.take_zero, List.drop_zero, and_self, List.append_assoc, List.length_append, Int.reduceLT, Int.reduceLE, Int.toNat_zero, Int.reduceToNat, Int.cast_ofNat_Int, Int.natCast_zero, Int.natCast_one, Int.reduceAdd, List.map_append, Option.bind_some, intR_len]
  refine (heldIntS_own 1 hg7 (by omega) (by omega) (by omega)).mono ?_
  rintro r H8 ⟨rfl, rfl⟩
  have hnn : decide (1 + ((profD c inp room steps).length : Int) < 0) = false := by simp; omega
  simp only [go_sem, Nat.reduceEqDiff, reduceIte, ↓reduceIte, Nat.reduceAdd, List.replicate_succ, List.replicate_zero, List.set_cons_zero, List.set_cons_succ, List.length_cons, List.length_nil, Nat.reduceLT, Nat.lt_add_one, ne_eq, Int.reduceEq, not_false_eq_true, Option.map_some, Nat.reduceLeDiff, Nat.zero_lt_succ, List.map_cons, List.map_nil, List.nil_append, List.cons_append, List.append_nil, bytesOf, List.take_succ_cons, List.take_zero, List.drop_zero, and_self, List.append_assoc, List.length_append, Int.reduceLT, Int.reduceLE, Int.toNat_zero, Int.reduceToNat, Int.cast_ofNat_Int, Int.natCast_zero, Int.natCast_one, Int.reduceAdd, List.map_append, Option.bind_some, hnn, hv7, code_take]
  refine acall_pure (toCode' c hok hsm _) ?_
  simp only [go_sem, Nat.reduceEqDiff, reduceIte, ↓reduceIte, Nat.reduceAdd, List.replicate_succ, List.replicate_zero, List.set_cons_zero, List.set_cons_succ, List.length_cons, List.length_nil, Nat.reduceLT, Nat.lt_add_one, ne_eq, Int.reduceEq, not_false_eq_true, Option.map_some, Nat.reduceLeDiff, Nat.zero_lt_succ, List.map_cons, List.map_nil, List.nil_append, List.cons_append, List.append_nil, bytesOf, List.take_succ_cons, List.take_zero, List.drop_zero, and_self, List.append_assoc, List.length_append, Int.reduceLT, Int.reduceLE, Int.toNat_zero, Int.reduceToNat, Int.cast_ofNat_Int, Int.natCast_zero, Int.natCast_one, Int.reduceAdd, List.map_append, Option.bind_some]
  refine acall_pure (toIntS' inp hl _) ?_
  simp only [go_sem, Nat.reduceEqDiff, reduceIte, ↓reduceIte, Nat.reduceAdd, List.replicate_succ, List.replicate_zero, List.set_cons_zero, List.set_cons_succ, List.length_cons, List.length_nil, Nat.reduceLT, Nat.lt_add_one, ne_eq, Int.reduceEq, not_false_eq_true, Option.map_some, Nat.reduceLeDiff, Nat.zero_lt_succ, List.map_cons, List.map_nil, List.nil_append, List.cons_append, List.append_nil, bytesOf, List.take_succ_cons, List.take_zero, List.drop_zero, and_self, List.append_assoc, List.length_append, Int.reduceLT, Int.reduceLE, Int.toNat_zero, Int.reduceToNat, Int.cast_ofNat_Int, Int.natCast_zero, Int.natCast_one, Int.reduceAdd, List.map_append, Option.bind_some]
  refine (implProf c hok inp hl room steps (lent_code' c (by rw [get_off0]; rfl) (by rw [get_off]; rfl) rfl) (lent_ints' inp (by rw [get_off]; rfl))).mono ?_
  rintro g1 H9 ⟨A9, hH9, hg9⟩
  have hw9 := (hw7.ext [AO.rows 6 0 (insR c.ins), .rows 1 0 (intR .i64 c.starts), .rows 1 0 (intR .i64 inp)]).ext A9
  have hp9 := (hg7.ext [AO.rows 6 0 (insR c.ins), .rows 1 0 (intR .i64 c.starts), .rows 1 0 (intR .i64 inp)]).ext A9
  rw [← hH9] at hw9 hp9
  simp only [go_sem, Nat.reduceEqDiff, reduceIte, ↓reduceIte, Nat.reduceAdd, List.replicate_succ, List.replicate_zero, List.set_cons_zero, List.set_cons_succ, List.length_cons, List.length_nil, Nat.reduceLT, Nat.lt_add_one, ne_eq, Int.reduceEq, not_false_eq_true, Option.map_some, Nat.reduceLeDiff, Nat.zero_lt_succ, List.map_cons, List.map_nil, List.nil_append, List.cons_append, List.append_nil, bytesOf, List.take_succ_cons, List.take_zero, List.drop_zero, and_self, List.append_assoc, List.length_append, Int.reduceLT, Int.reduceLE, Int.toNat_zero, Int.reduceToNat, Int.cast_ofNat_Int, Int.natCast_zero, Int.natCast_one, Int.reduceAdd, List.map_append, Option.bind_some]
  refine acall_pure (eqIntS_any _ _ hrm hrm (ownZ_lent hg9.own) (ownZ_lent hw9.own)) ?_
  simp only [go_sem, Nat.reduceEqDiff, reduceIte, ↓reduceIte, Nat.reduceAdd, List.replicate_succ, List.replicate_zero, List.set_cons_zero, List.set_cons_succ, List.length_cons, List.length_nil, Nat.reduceLT, Nat.lt_add_one, ne_eq, Int.reduceEq, not_false_eq_true, Option.map_some, Nat.reduceLeDiff, Nat.zero_lt_succ, List.map_cons, List.map_nil, List.nil_append, List.cons_append, List.append_nil, bytesOf, List.take_succ_cons, List.take_zero, List.drop_zero, and_self, List.append_assoc, List.length_append, Int.reduceLT, Int.reduceLE, Int.toNat_zero, Int.reduceToNat, Int.cast_ofNat_Int, Int.natCast_zero, Int.natCast_one, Int.reduceAdd, List.map_append, Option.bind_some]
  refine (heldIntS_own 1 hp9 (by omega) (by omega) (by omega)).mono ?_
  rintro r H11 ⟨rfl, rfl⟩
  simp only [go_sem, Nat.reduceEqDiff, reduceIte, ↓reduceIte, Nat.reduceAdd, List.replicate_succ, List.replicate_zero, List.set_cons_zero, List.set_cons_succ, List.length_cons, List.length_nil, Nat.reduceLT, Nat.lt_add_one, ne_eq, Int.reduceEq, not_false_eq_true, Option.map_some, Nat.reduceLeDiff, Nat.zero_lt_succ, List.map_cons, List.map_nil, List.nil_append, List.cons_append, List.append_nil, bytesOf, List.take_succ_cons, List.take_zero, List.drop_zero, and_self, List.append_assoc, List.length_append, Int.reduceLT, Int.reduceLE, Int.toNat_zero, Int.reduceToNat, Int.cast_ofNat_Int, Int.natCast_zero, Int.natCast_one, Int.reduceAdd, List.map_append, Option.bind_some, hnn]
end Go.Proofs.Ytmbggdfceecojaa.Cd
