/- Texts MaK MaL MaM MaN McH BiA PiA PiB PiC PiD PiE PiF RcA RcB McD RcC RcD RcE RcF RcG RcH TrA McE TrB MaO MaP MaQ TrC TrD TrE MaU, merged. -/
import Derived.Test.YtmbggdfceecojaaKwD
import Derived.Test.YtmbggdfceecojaaChecked
import Derived.KernelRfl
/- The machine of the reference: a step. -/
set_option linter.all false
namespace Go.Proofs.Ytmbggdfceecojaa.Cd
open Go.AM Mc Ho

theorem catD_at {x : InsD} {m : MD} {v : Int} {t u : List UInt8} : catD x { m with pc := v } t u = { catD x m t u with pc := v } := by
  unfold catD MD.e
  by_cases h1 : 500 < t.length + u.length
  · simp only [h1, if_true]
  · by_cases h2 : m.room < roomS (t.length + u.length)
    · simp only [h1, h2, if_true, if_false]
    · simp only [h1, h2, if_false]
theorem opD_at {x : InsD} {m : MD} {v : Int} : opD x { m with pc := v } = { opD x m with pc := v } := by
  have hg : ∀ i, ({ m with pc := v } : MD).g i = m.g i := fun _ => rfl
  unfold opD
  simp only [hg]
  by_cases e1 : x.text = [114, 101, 97, 100]
  · simp only [e1, if_true]
  by_cases e2 : x.text = [112, 114, 105, 110, 116]
  · simp only [e1, e2, if_true, if_false]; cases m.g x.b <;> rfl
  by_cases e3 : x.text = [115, 105, 122, 101]
  · simp only [e1, e2, e3, if_true, if_false]; cases m.g x.b <;> rfl
  by_cases e4 : x.text = [94]
  · simp only [e1, e2, e3, e4, if_true, if_false]
    cases m.g x.b <;> cases m.g x.c <;> first | rfl | exact catD_at
  · simp only [e1, e2, e3, e4, if_false]
    cases m.g x.b <;> cases m.g x.c <;> rfl

set_option maxHeartbeats 8000000 in
theorem sDoes {c g f H m} (h : SM g f H m) (hc : CFacts c) (hm : MOk c m) (hf : m.fin = none) {x : InsD} (hx : InsOk c x) (hpc : 0 ≤ m.pc ∧ m.pc ≤ 100000) (hol : m.out.length ≤ 1000000) (hil : m.inp.length ≤ 1000000) :
    ACall Try.prog 115 [.ptr g.im 0, .st (c.cells.map .p), .st (x.cells.map .p)] H (fun r H' => ∃ g', SM g' f H' (effD c x { m with pc := m.pc + 1 }) ∧ Fr (smP g) (smP g') H H' ∧ g'.im = g.im ∧ g'.iw = g.iw) := by
  have a0 := hx.ra.1
  have a1 := hx.ra.2
  have b0 := hx.rb.1
  have b1 := hx.rb.2
  have ep : wr .i64 (m.pc + 1) = m.pc + 1 := wr64 (by omega) (by omega)
  refine call115 (by simp) ?_
  have hmvx : ∀ A, (H ++ A)[g.im]? = _ := fun A => get_ext h.mv A
  simp only [mCl] at hmvx
  simp only [go_sem, Nat.reduceEqDiff, reduceIte, ↓reduceIte, Nat.reduceAdd, List.replicate_succ, List.replicate_zero, List.set_cons_zero, List.set_cons_succ, List.length_cons, List.length_nil, Nat.reduceLT, Nat.lt_add_one, ne_eq, Int.reduceEq, not_false_eq_true, Option.map_some, Nat.reduceLeDiff, Nat.zero_lt_succ, List.map_cons, List.map_nil, List.nil_append, List.cons_append, List.append_nil, bytesOf, List.take_succ_cons, List.take_zero, List.drop_zero, and_self, List.append_assoc, List.length_append, Int.reduceLT, Int.reduceLE, Int.toNat_zero, Int.reduceToNat, Int.cast_ofNat_Int, Int.natCast_zero, Int.natCast_one, Int.reduceAdd, List.map_append, Option.bind_some, mc115, mr115, InsD.cells, CodeD.cells, hmvx, ep]
  have hM := h.ext [.var [.p (.l (inss c.ins)), .p (.l (ints c.starts))], .var (xC x)]
  have hfr := Fr.ext (smP g) H [.var [.p (.l (inss c.ins)), .p (.l (ints c.starts))], .var (xC x)]
  have h4 : (H ++ [.var [.p (.l (inss c.ins)), .p (.l (ints c.starts))], .var (xC x)])[H.length]? = some (.var [.p (.l (inss c.ins)), .p (.l (ints c.starts))]) := by simp
  have h5 : (H ++ [.var [.p (.l (inss c.ins)), .p (.l (ints c.starts))], .var (xC x)])[H.length + 1]? = some (.var (xC x)) := by simp
  rw [xC] at hM hfr h4 h5
  generalize H ++ [AO.var [.p (.l (inss c.ins)), .p (.l (ints c.starts))], .var [AV.p (.i .i64 x.op), .p (.i .i64 x.a), .p (.i .i64 x.b), .p (.i .i64 x.c), .p (.i .i64 x.n), .p (.s x.text)]] = H1 at hM hfr h4 h5 ⊢
  generalize H.length + 1 = b5 at h5 ⊢
  generalize H.length = b4 at h4 ⊢
  clear hmvx
  have hmv := hM.mv
  have hwv := hM.wv
  have hrg := hM.rg
  have hsl := hM.sl
  simp only [mCl] at hmv
  have hga := sreg_g hm a0 a1
  have hgb := sreg_g hm b0 b1
  rw [wS] at hga hgb
  have nt5 : ¬ smP g b5 := hM.notin h5 ne_m (by simp)
  have nt4 : ¬ smP g b4 := hM.notin h4 (by intro e; simp [mCl] at e) (by simp)
  have fin : ∀ (g' : SG) (H' : List AO) (m' : MD), SM g' f H' m' → Fr (smP g) (smP g') H1 H' → g'.im = g.im → g'.iw = g.iw → ∀ v, effD c x { m with pc := m.pc + 1 } = { m' with pc := v } →
      ∃ g2, SM g2 f (H'.set g.im (.var [.ptr g.iw 0, .gs g'.ir 0 0 16, .gs g'.isl 0 0 64, g'.hp, .p (.i .i64 m'.room), .p (.i .i64 v)])) (effD c x { m with pc := m.pc + 1 }) ∧ Fr (smP g) (smP g2) H (H'.set g.im (.var [.ptr g.iw 0, .gs g'.ir 0 0 16, .gs g'.isl 0 0 64, g'.hp, .p (.i .i64 m'.room), .p (.i .i64 v)])) ∧ g2.im = g.im ∧ g2.iw = g.iw := by
    intro g' H' m' q1 q2 q3 q4 v e
    rw [e]
    have q5 := q1.putM m'.room v
    rw [mCl, q3, q4] at q5
    refine ⟨g', q5, (hfr.trans q2).trans ?_, q3, q4⟩
    rw [← q3]; exact frM _
  by_cases k1 : x.op = 1
  · have d1 : decide (x.op = 1) = true := by simp [k1]
    simp only [go_sem, Nat.reduceEqDiff, reduceIte, ↓reduceIte, Nat.reduceAdd, List.replicate_succ, List.replicate_zero, List.set_cons_zero, List.set_cons_succ, List.length_cons, List.length_nil, Nat.reduceLT, Nat.lt_add_one, ne_eq, Int.reduceEq, not_false_eq_true, Option.map_some, Nat.reduceLeDiff, Nat.zero_lt_succ, List.map_cons, List.map_nil, List.nil_append, List.cons_append, List.append_nil, bytesOf, List.take_succ_cons, List.take_zero, List.drop_zero, and_self, List.append_assoc, List.length_append, Int.reduceLT, Int.reduceLE, Int.toNat_zero, Int.reduceToNat, Int.cast_ofNat_Int, Int.natCast_zero, Int.natCast_one, Int.reduceAdd, List.map_append, Option.bind_some, d1]
    refine drw_same ?_
    simp only [go_sem, Nat.reduceEqDiff, reduceIte, ↓reduceIte, Nat.reduceAdd, List.replicate_succ, List.replicate_zero, List.set_cons_zero, List.set_cons_succ, List.length_cons, List.length_nil, Nat.reduceLT, Nat.lt_add_one, ne_eq, Int.reduceEq, not_false_eq_true, Option.map_some, Nat.reduceLeDiff, Nat.zero_lt_succ, List.map_cons, List.map_nil, List.nil_append, List.cons_append, List.append_nil, bytesOf, List.take_succ_cons, List.take_zero, List.drop_zero, and_self, List.append_assoc, List.length_append, Int.reduceLT, Int.reduceLE, Int.toNat_zero, Int.reduceToNat, Int.cast_ofNat_Int, Int.natCast_zero, Int.natCast_one, Int.reduceAdd, List.map_append, Option.bind_some, hmv, hrg, hsl, h5, a0, a1]
    rw [show ([AV.p (.i .i64 0), .p (.i .i64 x.n), .p (.s [])] : List AV) = wS (.n x.n) from rfl, stoR_at (sreg_g hm a0 a1) (show splice (wS _) 0 (wS (.n x.n)) = some (wS (.n x.n)) from rfl)]
    obtain ⟨p1, p2⟩ := hM.putReg x.a.toNat (.n x.n)
    generalize H1.set g.ir _ = H2 at p1 p2 ⊢
    have q := p1.mv
    simp only [mCl] at q
    simp only [go_sem, Nat.reduceEqDiff, reduceIte, ↓reduceIte, Nat.reduceAdd, List.replicate_succ, List.replicate_zero, List.set_cons_zero, List.set_cons_succ, List.length_cons, List.length_nil, Nat.reduceLT, Nat.lt_add_one, ne_eq, Int.reduceEq, not_false_eq_true, Option.map_some, Nat.reduceLeDiff, Nat.zero_lt_succ, List.map_cons, List.map_nil, List.nil_append, List.cons_append, List.append_nil, bytesOf, List.take_succ_cons, List.take_zero, List.drop_zero, and_self, List.append_assoc, List.length_append, Int.reduceLT, Int.reduceLE, Int.toNat_zero, Int.reduceToNat, Int.cast_ofNat_Int, Int.natCast_zero, Int.natCast_one, Int.reduceAdd, List.map_append, Option.bind_some, q]
    exact fin g H2 _ p1 p2 rfl rfl (m.pc + 1) (by simp only [effD, k1, Int.reduceEq, if_true, if_false]; rfl)
  have d1 : decide (x.op = 1) = false := by simp [k1]
  by_cases k2 : x.op = 2
  · have d2 : decide (x.op = 2) = true := by simp [k2]
    simp only [go_sem, Nat.reduceEqDiff, reduceIte, ↓reduceIte, Nat.reduceAdd, List.replicate_succ, List.replicate_zero, List.set_cons_zero, List.set_cons_succ, List.length_cons, List.length_nil, Nat.reduceLT, Nat.lt_add_one, ne_eq, Int.reduceEq, not_false_eq_true, Option.map_some, Nat.reduceLeDiff, Nat.zero_lt_succ, List.map_cons, List.map_nil, List.nil_append, List.cons_append, List.append_nil, bytesOf, List.take_succ_cons, List.take_zero, List.drop_zero, and_self, List.append_assoc, List.length_append, Int.reduceLT, Int.reduceLE, Int.toNat_zero, Int.reduceToNat, Int.cast_ofNat_Int, Int.natCast_zero, Int.natCast_one, Int.reduceAdd, List.map_append, Option.bind_some, d1, d2]
    refine drw_same ?_
    simp only [go_sem, Nat.reduceEqDiff, reduceIte, ↓reduceIte, Nat.reduceAdd, List.replicate_succ, List.replicate_zero, List.set_cons_zero, List.set_cons_succ, List.length_cons, List.length_nil, Nat.reduceLT, Nat.lt_add_one, ne_eq, Int.reduceEq, not_false_eq_true, Option.map_some, Nat.reduceLeDiff, Nat.zero_lt_succ, List.map_cons, List.map_nil, List.nil_append, List.cons_append, List.append_nil, bytesOf, List.take_succ_cons, List.take_zero, List.drop_zero, and_self, List.append_assoc, List.length_append, Int.reduceLT, Int.reduceLE, Int.toNat_zero, Int.reduceToNat, Int.cast_ofNat_Int, Int.natCast_zero, Int.natCast_one, Int.reduceAdd, List.map_append, Option.bind_some, hmv, hrg, hsl, h5, a0, a1]
    rw [show ([AV.p (.i .i64 1), .p (.i .i64 0), .p (.s x.text)] : List AV) = wS (.s x.text) from rfl, stoR_at (sreg_g hm a0 a1) (show splice (wS _) 0 (wS (.s x.text)) = some (wS (.s x.text)) from rfl)]
    obtain ⟨p1, p2⟩ := hM.putReg x.a.toNat (.s x.text)
    generalize H1.set g.ir _ = H2 at p1 p2 ⊢
    have q := p1.mv
    simp only [mCl] at q
    simp only [go_sem, Nat.reduceEqDiff, reduceIte, ↓reduceIte, Nat.reduceAdd, List.replicate_succ, List.replicate_zero, List.set_cons_zero, List.set_cons_succ, List.length_cons, List.length_nil, Nat.reduceLT, Nat.lt_add_one, ne_eq, Int.reduceEq, not_false_eq_true, Option.map_some, Nat.reduceLeDiff, Nat.zero_lt_succ, List.map_cons, List.map_nil, List.nil_append, List.cons_append, List.append_nil, bytesOf, List.take_succ_cons, List.take_zero, List.drop_zero, and_self, List.append_assoc, List.length_append, Int.reduceLT, Int.reduceLE, Int.toNat_zero, Int.reduceToNat, Int.cast_ofNat_Int, Int.natCast_zero, Int.natCast_one, Int.reduceAdd, List.map_append, Option.bind_some, q]
    exact fin g H2 _ p1 p2 rfl rfl (m.pc + 1) (by simp only [effD, k2, Int.reduceEq, if_true, if_false]; rfl)
  have d2 : decide (x.op = 2) = false := by simp [k2]
  by_cases k3 : x.op = 3
  · have d3 : decide (x.op = 3) = true := by simp [k3]
    simp only [go_sem, Nat.reduceEqDiff, reduceIte, ↓reduceIte, Nat.reduceAdd, List.replicate_succ, List.replicate_zero, List.set_cons_zero, List.set_cons_succ, List.length_cons, List.length_nil, Nat.reduceLT, Nat.lt_add_one, ne_eq, Int.reduceEq, not_false_eq_true, Option.map_some, Nat.reduceLeDiff, Nat.zero_lt_succ, List.map_cons, List.map_nil, List.nil_append, List.cons_append, List.append_nil, bytesOf, List.take_succ_cons, List.take_zero, List.drop_zero, and_self, List.append_assoc, List.length_append, Int.reduceLT, Int.reduceLE, Int.toNat_zero, Int.reduceToNat, Int.cast_ofNat_Int, Int.natCast_zero, Int.natCast_one, Int.reduceAdd, List.map_append, Option.bind_some, d1, d2, d3]
    refine drw_same ?_
    simp only [go_sem, Nat.reduceEqDiff, reduceIte, ↓reduceIte, Nat.reduceAdd, List.replicate_succ, List.replicate_zero, List.set_cons_zero, List.set_cons_succ, List.length_cons, List.length_nil, Nat.reduceLT, Nat.lt_add_one, ne_eq, Int.reduceEq, not_false_eq_true, Option.map_some, Nat.reduceLeDiff, Nat.zero_lt_succ, List.map_cons, List.map_nil, List.nil_append, List.cons_append, List.append_nil, bytesOf, List.take_succ_cons, List.take_zero, List.drop_zero, and_self, List.append_assoc, List.length_append, Int.reduceLT, Int.reduceLE, Int.toNat_zero, Int.reduceToNat, Int.cast_ofNat_Int, Int.natCast_zero, Int.natCast_one, Int.reduceAdd, List.map_append, Option.bind_some, hmv, hrg, hsl, h5, a0, a1]
    rw [show ([AV.p (.i .i64 3), .p (.i .i64 x.n), .p (.s [])] : List AV) = wS (.b x.n) from rfl, stoR_at (sreg_g hm a0 a1) (show splice (wS _) 0 (wS (.b x.n)) = some (wS (.b x.n)) from rfl)]
    obtain ⟨p1, p2⟩ := hM.putReg x.a.toNat (.b x.n)
    generalize H1.set g.ir _ = H2 at p1 p2 ⊢
    have q := p1.mv
    simp only [mCl] at q
    simp only [go_sem, Nat.reduceEqDiff, reduceIte, ↓reduceIte, Nat.reduceAdd, List.replicate_succ, List.replicate_zero, List.set_cons_zero, List.set_cons_succ, List.length_cons, List.length_nil, Nat.reduceLT, Nat.lt_add_one, ne_eq, Int.reduceEq, not_false_eq_true, Option.map_some, Nat.reduceLeDiff, Nat.zero_lt_succ, List.map_cons, List.map_nil, List.nil_append, List.cons_append, List.append_nil, bytesOf, List.take_succ_cons, List.take_zero, List.drop_zero, and_self, List.append_assoc, List.length_append, Int.reduceLT, Int.reduceLE, Int.toNat_zero, Int.reduceToNat, Int.cast_ofNat_Int, Int.natCast_zero, Int.natCast_one, Int.reduceAdd, List.map_append, Option.bind_some, q]
    exact fin g H2 _ p1 p2 rfl rfl (m.pc + 1) (by simp only [effD, k3, Int.reduceEq, if_true, if_false]; rfl)
  have d3 : decide (x.op = 3) = false := by simp [k3]
  by_cases k4 : x.op = 4
  · have d4 : decide (x.op = 4) = true := by simp [k4]
    simp only [go_sem, Nat.reduceEqDiff, reduceIte, ↓reduceIte, Nat.reduceAdd, List.replicate_succ, List.replicate_zero, List.set_cons_zero, List.set_cons_succ, List.length_cons, List.length_nil, Nat.reduceLT, Nat.lt_add_one, ne_eq, Int.reduceEq, not_false_eq_true, Option.map_some, Nat.reduceLeDiff, Nat.zero_lt_succ, List.map_cons, List.map_nil, List.nil_append, List.cons_append, List.append_nil, bytesOf, List.take_succ_cons, List.take_zero, List.drop_zero, and_self, List.append_assoc, List.length_append, Int.reduceLT, Int.reduceLE, Int.toNat_zero, Int.reduceToNat, Int.cast_ofNat_Int, Int.natCast_zero, Int.natCast_one, Int.reduceAdd, List.map_append, Option.bind_some, d1, d2, d3, d4]
    refine drw_same ?_
    simp only [go_sem, Nat.reduceEqDiff, reduceIte, ↓reduceIte, Nat.reduceAdd, List.replicate_succ, List.replicate_zero, List.set_cons_zero, List.set_cons_succ, List.length_cons, List.length_nil, Nat.reduceLT, Nat.lt_add_one, ne_eq, Int.reduceEq, not_false_eq_true, Option.map_some, Nat.reduceLeDiff, Nat.zero_lt_succ, List.map_cons, List.map_nil, List.nil_append, List.cons_append, List.append_nil, bytesOf, List.take_succ_cons, List.take_zero, List.drop_zero, and_self, List.append_assoc, List.length_append, Int.reduceLT, Int.reduceLE, Int.toNat_zero, Int.reduceToNat, Int.cast_ofNat_Int, Int.natCast_zero, Int.natCast_one, Int.reduceAdd, List.map_append, Option.bind_some, hmv, hrg, hsl, h5, a0, a1, b0, b1, hgb]
    rw [show ([AV.p (.i .i64 (wKd (m.g x.b))), .p (.i .i64 (wSn (m.g x.b))), .p (.s (wSt (m.g x.b)))] : List AV) = wS (m.g x.b) from rfl, stoR_at (sreg_g hm a0 a1) (show splice (wS _) 0 (wS (m.g x.b)) = some (wS (m.g x.b)) from rfl)]
    obtain ⟨p1, p2⟩ := hM.putReg x.a.toNat (m.g x.b)
    generalize H1.set g.ir _ = H2 at p1 p2 ⊢
    have q := p1.mv
    simp only [mCl] at q
    simp only [go_sem, Nat.reduceEqDiff, reduceIte, ↓reduceIte, Nat.reduceAdd, List.replicate_succ, List.replicate_zero, List.set_cons_zero, List.set_cons_succ, List.length_cons, List.length_nil, Nat.reduceLT, Nat.lt_add_one, ne_eq, Int.reduceEq, not_false_eq_true, Option.map_some, Nat.reduceLeDiff, Nat.zero_lt_succ, List.map_cons, List.map_nil, List.nil_append, List.cons_append, List.append_nil, bytesOf, List.take_succ_cons, List.take_zero, List.drop_zero, and_self, List.append_assoc, List.length_append, Int.reduceLT, Int.reduceLE, Int.toNat_zero, Int.reduceToNat, Int.cast_ofNat_Int, Int.natCast_zero, Int.natCast_one, Int.reduceAdd, List.map_append, Option.bind_some, q]
    exact fin g H2 _ p1 p2 rfl rfl (m.pc + 1) (by simp only [effD, k4, Int.reduceEq, if_true, if_false]; rfl)
  have d4 : decide (x.op = 4) = false := by simp [k4]
  by_cases k5 : x.op = 5
  · have d5 : decide (x.op = 5) = true := by simp [k5]
    obtain ⟨s0, s1⟩ := hx.slot (.inl k5)
    have hgs : (m.slots.map wS)[x.n.toNat]? = some (wS (m.slots.getD x.n.toNat (.n 0))) := by
      have hl : x.n.toNat < m.slots.length := by rw [hm.slots]; omega
      rw [List.getElem?_map, List.getElem?_eq_getElem hl, List.getD_eq_getElem?_getD, List.getElem?_eq_getElem hl]; rfl
    rw [wS] at hgs
    simp only [go_sem, Nat.reduceEqDiff, reduceIte, ↓reduceIte, Nat.reduceAdd, List.replicate_succ, List.replicate_zero, List.set_cons_zero, List.set_cons_succ, List.length_cons, List.length_nil, Nat.reduceLT, Nat.lt_add_one, ne_eq, Int.reduceEq, not_false_eq_true, Option.map_some, Nat.reduceLeDiff, Nat.zero_lt_succ, List.map_cons, List.map_nil, List.nil_append, List.cons_append, List.append_nil, bytesOf, List.take_succ_cons, List.take_zero, List.drop_zero, and_self, List.append_assoc, List.length_append, Int.reduceLT, Int.reduceLE, Int.toNat_zero, Int.reduceToNat, Int.cast_ofNat_Int, Int.natCast_zero, Int.natCast_one, Int.reduceAdd, List.map_append, Option.bind_some, d1, d2, d3, d4, d5]
    refine drw_same ?_
    simp only [go_sem, Nat.reduceEqDiff, reduceIte, ↓reduceIte, Nat.reduceAdd, List.replicate_succ, List.replicate_zero, List.set_cons_zero, List.set_cons_succ, List.length_cons, List.length_nil, Nat.reduceLT, Nat.lt_add_one, ne_eq, Int.reduceEq, not_false_eq_true, Option.map_some, Nat.reduceLeDiff, Nat.zero_lt_succ, List.map_cons, List.map_nil, List.nil_append, List.cons_append, List.append_nil, bytesOf, List.take_succ_cons, List.take_zero, List.drop_zero, and_self, List.append_assoc, List.length_append, Int.reduceLT, Int.reduceLE, Int.toNat_zero, Int.reduceToNat, Int.cast_ofNat_Int, Int.natCast_zero, Int.natCast_one, Int.reduceAdd, List.map_append, Option.bind_some, hmv, hrg, hsl, h5, a0, a1, s0, s1, hgs]
    rw [show ([AV.p (.i .i64 (wKd (m.slots.getD x.n.toNat (.n 0)))), .p (.i .i64 (wSn (m.slots.getD x.n.toNat (.n 0)))), .p (.s (wSt (m.slots.getD x.n.toNat (.n 0))))] : List AV) = wS (m.slots.getD x.n.toNat (.n 0)) from rfl, stoR_at (sreg_g hm a0 a1) (show splice (wS _) 0 (wS (m.slots.getD x.n.toNat (.n 0))) = some (wS (m.slots.getD x.n.toNat (.n 0))) from rfl)]
    obtain ⟨p1, p2⟩ := hM.putReg x.a.toNat (m.slots.getD x.n.toNat (.n 0))
    generalize H1.set g.ir _ = H2 at p1 p2 ⊢
    have q := p1.mv
    simp only [mCl] at q
    simp only [go_sem, Nat.reduceEqDiff, reduceIte, ↓reduceIte, Nat.reduceAdd, List.replicate_succ, List.replicate_zero, List.set_cons_zero, List.set_cons_succ, List.length_cons, List.length_nil, Nat.reduceLT, Nat.lt_add_one, ne_eq, Int.reduceEq, not_false_eq_true, Option.map_some, Nat.reduceLeDiff, Nat.zero_lt_succ, List.map_cons, List.map_nil, List.nil_append, List.cons_append, List.append_nil, bytesOf, List.take_succ_cons, List.take_zero, List.drop_zero, and_self, List.append_assoc, List.length_append, Int.reduceLT, Int.reduceLE, Int.toNat_zero, Int.reduceToNat, Int.cast_ofNat_Int, Int.natCast_zero, Int.natCast_one, Int.reduceAdd, List.map_append, Option.bind_some, q]
    exact fin g H2 _ p1 p2 rfl rfl (m.pc + 1) (by simp only [effD, k5, Int.reduceEq, if_true, if_false]; rfl)
  have d5 : decide (x.op = 5) = false := by simp [k5]
  by_cases k6 : x.op = 6
  · have d6 : decide (x.op = 6) = true := by simp [k6]
    obtain ⟨s0, s1⟩ := hx.slot (.inr k6)
    have hgs : (m.slots.map wS)[x.n.toNat]? = some (wS (m.slots.getD x.n.toNat (.n 0))) := by
      have hl : x.n.toNat < m.slots.length := by rw [hm.slots]; omega
      rw [List.getElem?_map, List.getElem?_eq_getElem hl, List.getD_eq_getElem?_getD, List.getElem?_eq_getElem hl]; rfl
    simp only [go_sem, Nat.reduceEqDiff, reduceIte, ↓reduceIte, Nat.reduceAdd, List.replicate_succ, List.replicate_zero, List.set_cons_zero, List.set_cons_succ, List.length_cons, List.length_nil, Nat.reduceLT, Nat.lt_add_one, ne_eq, Int.reduceEq, not_false_eq_true, Option.map_some, Nat.reduceLeDiff, Nat.zero_lt_succ, List.map_cons, List.map_nil, List.nil_append, List.cons_append, List.append_nil, bytesOf, List.take_succ_cons, List.take_zero, List.drop_zero, and_self, List.append_assoc, List.length_append, Int.reduceLT, Int.reduceLE, Int.toNat_zero, Int.reduceToNat, Int.cast_ofNat_Int, Int.natCast_zero, Int.natCast_one, Int.reduceAdd, List.map_append, Option.bind_some, d1, d2, d3, d4, d5, d6]
    refine drw_same ?_
    simp only [go_sem, Nat.reduceEqDiff, reduceIte, ↓reduceIte, Nat.reduceAdd, List.replicate_succ, List.replicate_zero, List.set_cons_zero, List.set_cons_succ, List.length_cons, List.length_nil, Nat.reduceLT, Nat.lt_add_one, ne_eq, Int.reduceEq, not_false_eq_true, Option.map_some, Nat.reduceLeDiff, Nat.zero_lt_succ, List.map_cons, List.map_nil, List.nil_append, List.cons_append, List.append_nil, bytesOf, List.take_succ_cons, List.take_zero, List.drop_zero, and_self, List.append_assoc, List.length_append, Int.reduceLT, Int.reduceLE, Int.toNat_zero, Int.reduceToNat, Int.cast_ofNat_Int, Int.natCast_zero, Int.natCast_one, Int.reduceAdd, List.map_append, Option.bind_some, hmv, hrg, hsl, h5, a0, a1, s0, s1, hga]
    rw [show ([AV.p (.i .i64 (wKd (m.g x.a))), .p (.i .i64 (wSn (m.g x.a))), .p (.s (wSt (m.g x.a)))] : List AV) = wS (m.g x.a) from rfl, stoR_at hgs (show splice (wS _) 0 (wS (m.g x.a)) = some (wS (m.g x.a)) from rfl)]
    obtain ⟨p1, p2⟩ := hM.putSlot x.n.toNat (m.g x.a)
    generalize H1.set g.isl _ = H2 at p1 p2 ⊢
    have q := p1.mv
    simp only [mCl] at q
    simp only [go_sem, Nat.reduceEqDiff, reduceIte, ↓reduceIte, Nat.reduceAdd, List.replicate_succ, List.replicate_zero, List.set_cons_zero, List.set_cons_succ, List.length_cons, List.length_nil, Nat.reduceLT, Nat.lt_add_one, ne_eq, Int.reduceEq, not_false_eq_true, Option.map_some, Nat.reduceLeDiff, Nat.zero_lt_succ, List.map_cons, List.map_nil, List.nil_append, List.cons_append, List.append_nil, bytesOf, List.take_succ_cons, List.take_zero, List.drop_zero, and_self, List.append_assoc, List.length_append, Int.reduceLT, Int.reduceLE, Int.toNat_zero, Int.reduceToNat, Int.cast_ofNat_Int, Int.natCast_zero, Int.natCast_one, Int.reduceAdd, List.map_append, Option.bind_some, q]
    exact fin g H2 _ p1 p2 rfl rfl (m.pc + 1) (by simp only [effD, k6, Int.reduceEq, if_true, if_false]; rfl)
  have d6 : decide (x.op = 6) = false := by simp [k6]
  by_cases k7 : x.op = 7
  · have d7 : decide (x.op = 7) = true := by simp [k7]
    have eo := sOp hM hm hf hx k7 hol hil
    rw [InsD.cells] at eo
    simp only [go_sem, Nat.reduceEqDiff, reduceIte, ↓reduceIte, Nat.reduceAdd, List.replicate_succ, List.replicate_zero, List.set_cons_zero, List.set_cons_succ, List.length_cons, List.length_nil, Nat.reduceLT, Nat.lt_add_one, ne_eq, Int.reduceEq, not_false_eq_true, Option.map_some, Nat.reduceLeDiff, Nat.zero_lt_succ, List.map_cons, List.map_nil, List.nil_append, List.cons_append, List.append_nil, bytesOf, List.take_succ_cons, List.take_zero, List.drop_zero, and_self, List.append_assoc, List.length_append, Int.reduceLT, Int.reduceLE, Int.toNat_zero, Int.reduceToNat, Int.cast_ofNat_Int, Int.natCast_zero, Int.natCast_one, Int.reduceAdd, List.map_append, Option.bind_some, ] at eo
    simp only [go_sem, Nat.reduceEqDiff, reduceIte, ↓reduceIte, Nat.reduceAdd, List.replicate_succ, List.replicate_zero, List.set_cons_zero, List.set_cons_succ, List.length_cons, List.length_nil, Nat.reduceLT, Nat.lt_add_one, ne_eq, Int.reduceEq, not_false_eq_true, Option.map_some, Nat.reduceLeDiff, Nat.zero_lt_succ, List.map_cons, List.map_nil, List.nil_append, List.cons_append, List.append_nil, bytesOf, List.take_succ_cons, List.take_zero, List.drop_zero, and_self, List.append_assoc, List.length_append, Int.reduceLT, Int.reduceLE, Int.toNat_zero, Int.reduceToNat, Int.cast_ofNat_Int, Int.natCast_zero, Int.natCast_one, Int.reduceAdd, List.map_append, Option.bind_some, d1, d2, d3, d4, d5, d6, d7, h5]
    refine eo.mono ?_
    rintro r H2 ⟨g', p1, p2, p3, p4⟩
    have q := p1.mv
    simp only [mCl] at q
    rw [p3, p4] at q
    simp only [go_sem, Nat.reduceEqDiff, reduceIte, ↓reduceIte, Nat.reduceAdd, List.replicate_succ, List.replicate_zero, List.set_cons_zero, List.set_cons_succ, List.length_cons, List.length_nil, Nat.reduceLT, Nat.lt_add_one, ne_eq, Int.reduceEq, not_false_eq_true, Option.map_some, Nat.reduceLeDiff, Nat.zero_lt_succ, List.map_cons, List.map_nil, List.nil_append, List.cons_append, List.append_nil, bytesOf, List.take_succ_cons, List.take_zero, List.drop_zero, and_self, List.append_assoc, List.length_append, Int.reduceLT, Int.reduceLE, Int.toNat_zero, Int.reduceToNat, Int.cast_ofNat_Int, Int.natCast_zero, Int.natCast_one, Int.reduceAdd, List.map_append, Option.bind_some, q]
    exact fin g' H2 _ p1 p2 p3 p4 (m.pc + 1) (by simp only [effD, k7, Int.reduceEq, if_true, if_false]; exact opD_at)
  have d7 : decide (x.op = 7) = false := by simp [k7]
  by_cases k8 : x.op = 8
  · have d8 : decide (x.op = 8) = true := by simp [k8]
    obtain ⟨n1, n2⟩ := hx.new k8
    have ee : effD c x { m with pc := m.pc + 1 } = newD x { m with pc := m.pc + 1 } := by simp only [effD, k8, Int.reduceEq, if_true, if_false]
    have e1 : wr .i64 (x.n + 1) = x.n + 1 := wr64 (by omega) (by omega)
    simp only [go_sem, Nat.reduceEqDiff, reduceIte, ↓reduceIte, Nat.reduceAdd, List.replicate_succ, List.replicate_zero, List.set_cons_zero, List.set_cons_succ, List.length_cons, List.length_nil, Nat.reduceLT, Nat.lt_add_one, ne_eq, Int.reduceEq, not_false_eq_true, Option.map_some, Nat.reduceLeDiff, Nat.zero_lt_succ, List.map_cons, List.map_nil, List.nil_append, List.cons_append, List.append_nil, bytesOf, List.take_succ_cons, List.take_zero, List.drop_zero, and_self, List.append_assoc, List.length_append, Int.reduceLT, Int.reduceLE, Int.toNat_zero, Int.reduceToNat, Int.cast_ofNat_Int, Int.natCast_zero, Int.natCast_one, Int.reduceAdd, List.map_append, Option.bind_some, d1, d2, d3, d4, d5, d6, d7, d8, h5, e1]
    by_cases hr : m.room < x.n + 1
    · refine acall_pure (sRoomF hM hf hr) ?_
      have P : SM g f (H1.set g.iw (.var (wCl g f (m.e 4 0)))) (m.e 4 0) := hM.putW f (some (4, 0))
      have F : Fr (smP g) (smP g) H1 (H1.set g.iw (.var (wCl g f (m.e 4 0)))) := frW _
      generalize H1.set g.iw (.var (wCl g f (m.e 4 0))) = H2 at P F ⊢
      have q := P.mv
      simp only [mCl] at q
      simp only [go_sem, Nat.reduceEqDiff, reduceIte, ↓reduceIte, Nat.reduceAdd, List.replicate_succ, List.replicate_zero, List.set_cons_zero, List.set_cons_succ, List.length_cons, List.length_nil, Nat.reduceLT, Nat.lt_add_one, ne_eq, Int.reduceEq, not_false_eq_true, Option.map_some, Nat.reduceLeDiff, Nat.zero_lt_succ, List.map_cons, List.map_nil, List.nil_append, List.cons_append, List.append_nil, bytesOf, List.take_succ_cons, List.take_zero, List.drop_zero, and_self, List.append_assoc, List.length_append, Int.reduceLT, Int.reduceLE, Int.toNat_zero, Int.reduceToNat, Int.cast_ofNat_Int, Int.natCast_zero, Int.natCast_one, Int.reduceAdd, List.map_append, Option.bind_some, q]
      exact fin g H2 _ P F rfl rfl (m.pc + 1) (by rw [ee, newD, if_pos hr]; rfl)
    · refine acall_pure (sRoomT hM hm (by omega) hr) ?_
      have ed : ∀ m2 : MD, m2 = { m with room := m.room - (x.n + 1) } → effD c x { m with pc := m.pc + 1 } = { m2 with heap := m2.heap ++ [List.replicate x.n.toNat (.n 0)], regs := m2.regs.set x.a.toNat (.r m2.heap.length), pc := m.pc + 1 } := by rintro _ rfl; rw [ee, newD, if_neg hr]
      have hm2 := roomOk hm (by omega) hr
      have hM2 : SM g f (H1.set g.im (.var (mCl g { m with room := m.room - (x.n + 1) }))) { m with room := m.room - (x.n + 1) } := hM.putM (m.room - (x.n + 1)) m.pc
      have hfr2 : Fr (smP g) (smP g) H1 (H1.set g.im (.var (mCl g { m with room := m.room - (x.n + 1) }))) := frM _
      have h52 := get_set (o' := AO.var (mCl g { m with room := m.room - (x.n + 1) })) h5 (show g.im ≠ b5 from fun e => nt5 (.inl e.symm))
      generalize H1.set g.im (.var (mCl g { m with room := m.room - (x.n + 1) })) = H2 at hM2 hfr2 h52 ⊢
      generalize hem : ({ m with room := m.room - (x.n + 1) } : MD) = m2 at hm2 hM2
      replace ed := ed m2 hem.symm
      clear hmv hwv hrg hsl h5 h4
      have nt52 : ¬ smP g b5 := nt5
      have hmv := hM2.mv
      simp only [mCl] at hmv
      have n0 : (0 : Int) ≤ x.n := by omega
      have n32 : x.n * 32 ≤ 140737488355328 := by omega
      have nm : x.n ≤ 140737488355328 := by omega
      have hroom := hm2.room
      have hroom0 := hm2.room0
      have ehl0 : (hpR g.rs m2.heap).length = m2.heap.length := by simp [hpR, hM2.len]
      simp only [go_sem, Nat.reduceEqDiff, reduceIte, ↓reduceIte, Nat.reduceAdd, List.replicate_succ, List.replicate_zero, List.set_cons_zero, List.set_cons_succ, List.length_cons, List.length_nil, Nat.reduceLT, Nat.lt_add_one, ne_eq, Int.reduceEq, not_false_eq_true, Option.map_some, Nat.reduceLeDiff, Nat.zero_lt_succ, List.map_cons, List.map_nil, List.nil_append, List.cons_append, List.append_nil, bytesOf, List.take_succ_cons, List.take_zero, List.drop_zero, and_self, List.append_assoc, List.length_append, Int.reduceLT, Int.reduceLE, Int.toNat_zero, Int.reduceToNat, Int.cast_ofNat_Int, Int.natCast_zero, Int.natCast_one, Int.reduceAdd, List.map_append, Option.bind_some]
      rcases hM2.hpo with ⟨z1, z2⟩ | ⟨io, vo, z1, z2⟩
      · refine drw_same ?_
        simp only [go_sem, Nat.reduceEqDiff, reduceIte, ↓reduceIte, Nat.reduceAdd, List.replicate_succ, List.replicate_zero, List.set_cons_zero, List.set_cons_succ, List.length_cons, List.length_nil, Nat.reduceLT, Nat.lt_add_one, ne_eq, Int.reduceEq, not_false_eq_true, Option.map_some, Nat.reduceLeDiff, Nat.zero_lt_succ, List.map_cons, List.map_nil, List.nil_append, List.cons_append, List.append_nil, bytesOf, List.take_succ_cons, List.take_zero, List.drop_zero, and_self, List.append_assoc, List.length_append, Int.reduceLT, Int.reduceLE, Int.toNat_zero, Int.reduceToNat, Int.cast_ofNat_Int, Int.natCast_zero, Int.natCast_one, Int.reduceAdd, List.map_append, Option.bind_some, hmv, h52, n0, n32, nm, Int.le_refl, Nat.add_zero]
        refine ⟨by simp, .inl ⟨z1, by simp, by simp, by simp, ?_⟩⟩
        have hmx : ∀ A, (H2 ++ A)[g.im]? = _ := fun A => get_ext hmv A
        obtain ⟨p1, p2⟩ := hM2.newRec x.n.toNat (idr := H2.length) (id := H2.length + 2) (ver := 0) (H' := H2 ++ [AO.rows 3 0 (List.replicate x.n.toNat [.p (.i .i64 0), .p (.i .i64 0), .p (.s [])]), .rows 1 0 [[.gs H2.length 0 0 x.n.toNat]], .rows 1 0 [[.gs H2.length 0 0 x.n.toNat]]]) (by rw [z2]; simp) (by simp) (Nat.le_refl _) (.inr (by omega)) (fun j o hj _ => get_ext hj _) (by simp) (q := 1) (by rw [z2]; rfl)
        have el1 : (hpR g.rs m2.heap).length = 0 := by rw [z2]; rfl
        simp only [go_sem, Nat.reduceEqDiff, reduceIte, ↓reduceIte, Nat.reduceAdd, List.replicate_succ, List.replicate_zero, List.set_cons_zero, List.set_cons_succ, List.length_cons, List.length_nil, Nat.reduceLT, Nat.lt_add_one, ne_eq, Int.reduceEq, not_false_eq_true, Option.map_some, Nat.reduceLeDiff, Nat.zero_lt_succ, List.map_cons, List.map_nil, List.nil_append, List.cons_append, List.append_nil, bytesOf, List.take_succ_cons, List.take_zero, List.drop_zero, and_self, List.append_assoc, List.length_append, Int.reduceLT, Int.reduceLE, Int.toNat_zero, Int.reduceToNat, Int.cast_ofNat_Int, Int.natCast_zero, Int.natCast_one, Int.reduceAdd, List.map_append, Option.bind_some, hmx]
        have ew1 : wr .i64 ((1 : Int) - 1) = ((m2.heap.length : Nat) : Int) := by
          have : m2.heap.length = 0 := by omega
          rw [this]; rfl
        simp only [mCl] at p1 p2
        have h53 := p2.keep _ _ h52 nt52
        have q := p1.mv
        have qr := p1.rg
        simp only [mCl] at q
        generalize List.set _ g.im _ = H3 at p1 p2 h53 q qr ⊢
        refine drw_same ?_
        simp only [go_sem, Nat.reduceEqDiff, reduceIte, ↓reduceIte, Nat.reduceAdd, List.replicate_succ, List.replicate_zero, List.set_cons_zero, List.set_cons_succ, List.length_cons, List.length_nil, Nat.reduceLT, Nat.lt_add_one, ne_eq, Int.reduceEq, not_false_eq_true, Option.map_some, Nat.reduceLeDiff, Nat.zero_lt_succ, List.map_cons, List.map_nil, List.nil_append, List.cons_append, List.append_nil, bytesOf, List.take_succ_cons, List.take_zero, List.drop_zero, and_self, List.append_assoc, List.length_append, Int.reduceLT, Int.reduceLE, Int.toNat_zero, Int.reduceToNat, Int.cast_ofNat_Int, Int.natCast_zero, Int.natCast_one, Int.reduceAdd, List.map_append, Option.bind_some, q, qr, h53, a0, a1, ew1]
        rw [show ([AV.p (.i .i64 2), .p (.i .i64 ((m2.heap.length : Nat) : Int)), .p (.s [])] : List AV) = wS (.r m2.heap.length) from rfl, stoR_at (sreg_g hm2 a0 a1) (show splice (wS _) 0 (wS (.r m2.heap.length)) = some (wS (.r m2.heap.length)) from rfl)]
        obtain ⟨p3, p4⟩ := p1.putReg x.a.toNat (.r m2.heap.length)
        generalize H3.set _ _ = H4 at p3 p4 ⊢
        have q' := p3.mv
        simp only [mCl] at q'
        simp only [go_sem, Nat.reduceEqDiff, reduceIte, ↓reduceIte, Nat.reduceAdd, List.replicate_succ, List.replicate_zero, List.set_cons_zero, List.set_cons_succ, List.length_cons, List.length_nil, Nat.reduceLT, Nat.lt_add_one, ne_eq, Int.reduceEq, not_false_eq_true, Option.map_some, Nat.reduceLeDiff, Nat.zero_lt_succ, List.map_cons, List.map_nil, List.nil_append, List.cons_append, List.append_nil, bytesOf, List.take_succ_cons, List.take_zero, List.drop_zero, and_self, List.append_assoc, List.length_append, Int.reduceLT, Int.reduceLE, Int.toNat_zero, Int.reduceToNat, Int.cast_ofNat_Int, Int.natCast_zero, Int.natCast_one, Int.reduceAdd, List.map_append, Option.bind_some, q']
        exact fin _ H4 _ p3 (hfr2.trans (p2.trans p4)) rfl rfl (m.pc + 1) (by rw [ed])
      · refine ⟨H2.set io .dead, dead_ext _ _, ?_⟩
        have hvd := set_ne' (o := AO.dead) z2 hmv (by intro e; cases e)
        have hxd := set_ne' (o := AO.dead) z2 h52 (by intro e; cases e)
        rw [z1] at hvd
        simp only [go_sem, Nat.reduceEqDiff, reduceIte, ↓reduceIte, Nat.reduceAdd, List.replicate_succ, List.replicate_zero, List.set_cons_zero, List.set_cons_succ, List.length_cons, List.length_nil, Nat.reduceLT, Nat.lt_add_one, ne_eq, Int.reduceEq, not_false_eq_true, Option.map_some, Nat.reduceLeDiff, Nat.zero_lt_succ, List.map_cons, List.map_nil, List.nil_append, List.cons_append, List.append_nil, bytesOf, List.take_succ_cons, List.take_zero, List.drop_zero, and_self, List.append_assoc, List.length_append, Int.reduceLT, Int.reduceLE, Int.toNat_zero, Int.reduceToNat, Int.cast_ofNat_Int, Int.natCast_zero, Int.natCast_one, Int.reduceAdd, List.map_append, Option.bind_some, hvd, hxd, n0, n32, nm, Int.le_refl, Nat.add_zero]
        refine ⟨by simp, .inr (.inl ?_)⟩
        simp only [go_sem, Nat.reduceEqDiff, reduceIte, ↓reduceIte, Nat.reduceAdd, List.replicate_succ, List.replicate_zero, List.set_cons_zero, List.set_cons_succ, List.length_cons, List.length_nil, Nat.reduceLT, Nat.lt_add_one, ne_eq, Int.reduceEq, not_false_eq_true, Option.map_some, Nat.reduceLeDiff, Nat.zero_lt_succ, List.map_cons, List.map_nil, List.nil_append, List.cons_append, List.append_nil, bytesOf, List.take_succ_cons, List.take_zero, List.drop_zero, and_self, List.append_assoc, List.length_append, Int.reduceLT, Int.reduceLE, Int.toNat_zero, Int.reduceToNat, Int.cast_ofNat_Int, Int.natCast_zero, Int.natCast_one, Int.reduceAdd, List.map_append, Option.bind_some, z2]
        refine ⟨Nat.le_refl _, by omega, by omega, by simp, dead_ext' _ _ _, ?_⟩
        rw [List.take_length]
        have hmx : ∀ A o, (H2.set io o ++ A)[g.im]? = _ := fun A o => get_ext (set_ne' (o := o) z2 hmv (by intro e; cases e)) A
        obtain ⟨p1, p2⟩ := hM2.newRec x.n.toNat (idr := H2.length) (id := io) (ver := vo + 1) (H' := H2.set io (AO.rows 1 (vo + 1) (hpR g.rs m2.heap ++ [[.gs H2.length 0 0 x.n.toNat]])) ++ [AO.rows 3 0 (List.replicate x.n.toNat [.p (.i .i64 0), .p (.i .i64 0), .p (.s [])]), .rows 1 0 [[.gs H2.length 0 0 x.n.toNat]]])
          (get_ext (set_get z2) _) (by rw [List.getElem?_append_right (by simp)]; simp) (Nat.le_refl _) (.inl (by rw [z1]; rfl)) (fun j o hj hne => get_ext (get_set hj (by rintro rfl; exact hne (by rw [z1]; rfl))) _) (by simp) (q := (hpR g.rs m2.heap).length + 1) rfl
        have ew1 : wr .i64 ((((hpR g.rs m2.heap).length + 1 : Nat) : Int) - 1) = ((m2.heap.length : Nat) : Int) := by rw [ehl0, wr64 (by omega) (by omega)]; omega
        simp only [go_sem, Nat.reduceEqDiff, reduceIte, ↓reduceIte, Nat.reduceAdd, List.replicate_succ, List.replicate_zero, List.set_cons_zero, List.set_cons_succ, List.length_cons, List.length_nil, Nat.reduceLT, Nat.lt_add_one, ne_eq, Int.reduceEq, not_false_eq_true, Option.map_some, Nat.reduceLeDiff, Nat.zero_lt_succ, List.map_cons, List.map_nil, List.nil_append, List.cons_append, List.append_nil, bytesOf, List.take_succ_cons, List.take_zero, List.drop_zero, and_self, List.append_assoc, List.length_append, Int.reduceLT, Int.reduceLE, Int.toNat_zero, Int.reduceToNat, Int.cast_ofNat_Int, Int.natCast_zero, Int.natCast_one, Int.reduceAdd, List.map_append, Option.bind_some, hmx]
        simp only [mCl] at p1 p2
        have h53 := p2.keep _ _ h52 nt52
        have q := p1.mv
        have qr := p1.rg
        simp only [mCl] at q
        generalize List.set _ g.im _ = H3 at p1 p2 h53 q qr ⊢
        refine drw_same ?_
        simp only [go_sem, Nat.reduceEqDiff, reduceIte, ↓reduceIte, Nat.reduceAdd, List.replicate_succ, List.replicate_zero, List.set_cons_zero, List.set_cons_succ, List.length_cons, List.length_nil, Nat.reduceLT, Nat.lt_add_one, ne_eq, Int.reduceEq, not_false_eq_true, Option.map_some, Nat.reduceLeDiff, Nat.zero_lt_succ, List.map_cons, List.map_nil, List.nil_append, List.cons_append, List.append_nil, bytesOf, List.take_succ_cons, List.take_zero, List.drop_zero, and_self, List.append_assoc, List.length_append, Int.reduceLT, Int.reduceLE, Int.toNat_zero, Int.reduceToNat, Int.cast_ofNat_Int, Int.natCast_zero, Int.natCast_one, Int.reduceAdd, List.map_append, Option.bind_some, q, qr, h53, a0, a1, ew1]
        rw [show ([AV.p (.i .i64 2), .p (.i .i64 ((m2.heap.length : Nat) : Int)), .p (.s [])] : List AV) = wS (.r m2.heap.length) from rfl, stoR_at (sreg_g hm2 a0 a1) (show splice (wS _) 0 (wS (.r m2.heap.length)) = some (wS (.r m2.heap.length)) from rfl)]
        obtain ⟨p3, p4⟩ := p1.putReg x.a.toNat (.r m2.heap.length)
        generalize H3.set _ _ = H4 at p3 p4 ⊢
        have q' := p3.mv
        simp only [mCl] at q'
        simp only [go_sem, Nat.reduceEqDiff, reduceIte, ↓reduceIte, Nat.reduceAdd, List.replicate_succ, List.replicate_zero, List.set_cons_zero, List.set_cons_succ, List.length_cons, List.length_nil, Nat.reduceLT, Nat.lt_add_one, ne_eq, Int.reduceEq, not_false_eq_true, Option.map_some, Nat.reduceLeDiff, Nat.zero_lt_succ, List.map_cons, List.map_nil, List.nil_append, List.cons_append, List.append_nil, bytesOf, List.take_succ_cons, List.take_zero, List.drop_zero, and_self, List.append_assoc, List.length_append, Int.reduceLT, Int.reduceLE, Int.toNat_zero, Int.reduceToNat, Int.cast_ofNat_Int, Int.natCast_zero, Int.natCast_one, Int.reduceAdd, List.map_append, Option.bind_some, q']
        exact fin _ H4 _ p3 (hfr2.trans (p2.trans p4)) rfl rfl (m.pc + 1) (by rw [ed])
  have d8 : decide (x.op = 8) = false := by simp [k8]
  by_cases k9 : x.op = 9
  · have d9 : decide (x.op = 9) = true := by simp [k9]
    have n0 := hx.mem (.inl k9)
    have ee : effD c x { m with pc := m.pc + 1 } = putMD x { m with pc := m.pc + 1 } := by simp only [effD, k9, Int.reduceEq, if_true, if_false]
    simp only [go_sem, Nat.reduceEqDiff, reduceIte, ↓reduceIte, Nat.reduceAdd, List.replicate_succ, List.replicate_zero, List.set_cons_zero, List.set_cons_succ, List.length_cons, List.length_nil, Nat.reduceLT, Nat.lt_add_one, ne_eq, Int.reduceEq, not_false_eq_true, Option.map_some, Nat.reduceLeDiff, Nat.zero_lt_succ, List.map_cons, List.map_nil, List.nil_append, List.cons_append, List.append_nil, bytesOf, List.take_succ_cons, List.take_zero, List.drop_zero, and_self, List.append_assoc, List.length_append, Int.reduceLT, Int.reduceLE, Int.toNat_zero, Int.reduceToNat, Int.cast_ofNat_Int, Int.natCast_zero, Int.natCast_one, Int.reduceAdd, List.map_append, Option.bind_some, d1, d2, d3, d4, d5, d6, d7, d8, d9]
    refine drw_same ?_
    simp only [go_sem, Nat.reduceEqDiff, reduceIte, ↓reduceIte, Nat.reduceAdd, List.replicate_succ, List.replicate_zero, List.set_cons_zero, List.set_cons_succ, List.length_cons, List.length_nil, Nat.reduceLT, Nat.lt_add_one, ne_eq, Int.reduceEq, not_false_eq_true, Option.map_some, Nat.reduceLeDiff, Nat.zero_lt_succ, List.map_cons, List.map_nil, List.nil_append, List.cons_append, List.append_nil, bytesOf, List.take_succ_cons, List.take_zero, List.drop_zero, and_self, List.append_assoc, List.length_append, Int.reduceLT, Int.reduceLE, Int.toNat_zero, Int.reduceToNat, Int.cast_ofNat_Int, Int.natCast_zero, Int.natCast_one, Int.reduceAdd, List.map_append, Option.bind_some, hmv, hrg, h5, a0, a1, hga]
    by_cases hk : ∃ k, m.g x.a = .r k ∧ x.n < (rowD m k).length
    · obtain ⟨k, ek, hlt⟩ := hk
      have hkl : k < m.heap.length := by have := hm.gOk a0 a1; rw [ek] at this; exact this
      obtain ⟨ihp, vh, id, z1, z2, z3, z4, z5⟩ := hM.hpAt hkl
      have hkl' : (k : Int) < (m.heap.length : Int) := by omega
      have hlt' : x.n.toNat < (rowD m k).length := by omega
      refine acall_pure (sMemberT hM hm ek hkl hlt) ?_
      have hmv' := hmv
      rw [z1] at hmv'
      have hga' := hga
      rw [ek] at hga'
      simp only [wKd, wSn, wSt] at hga'
      simp only [go_sem, Nat.reduceEqDiff, reduceIte, ↓reduceIte, Nat.reduceAdd, List.replicate_succ, List.replicate_zero, List.set_cons_zero, List.set_cons_succ, List.length_cons, List.length_nil, Nat.reduceLT, Nat.lt_add_one, ne_eq, Int.reduceEq, not_false_eq_true, Option.map_some, Nat.reduceLeDiff, Nat.zero_lt_succ, List.map_cons, List.map_nil, List.nil_append, List.cons_append, List.append_nil, bytesOf, List.take_succ_cons, List.take_zero, List.drop_zero, and_self, List.append_assoc, List.length_append, Int.reduceLT, Int.reduceLE, Int.toNat_zero, Int.reduceToNat, Int.cast_ofNat_Int, Int.natCast_zero, Int.natCast_one, Int.reduceAdd, List.map_append, Option.bind_some]
      refine drw_same ?_
      simp only [go_sem, Nat.reduceEqDiff, reduceIte, ↓reduceIte, Nat.reduceAdd, List.replicate_succ, List.replicate_zero, List.set_cons_zero, List.set_cons_succ, List.length_cons, List.length_nil, Nat.reduceLT, Nat.lt_add_one, ne_eq, Int.reduceEq, not_false_eq_true, Option.map_some, Nat.reduceLeDiff, Nat.zero_lt_succ, List.map_cons, List.map_nil, List.nil_append, List.cons_append, List.append_nil, bytesOf, List.take_succ_cons, List.take_zero, List.drop_zero, and_self, List.append_assoc, List.length_append, Int.reduceLT, Int.reduceLE, Int.toNat_zero, Int.reduceToNat, Int.cast_ofNat_Int, Int.natCast_zero, Int.natCast_one, Int.reduceAdd, List.map_append, Option.bind_some, hmv', hrg, h5, a0, a1, hga', z2, hkl', z4, b0, b1, hgb, n0, hlt, z5]
      have hget : ((rowD m k).map wS)[x.n.toNat]? = some (wS ((rowD m k).getD x.n.toNat (.n 0))) := by
        rw [List.getElem?_map, List.getElem?_eq_getElem hlt', List.getD_eq_getElem?_getD, List.getElem?_eq_getElem hlt']; rfl
      rw [show ([AV.p (.i .i64 (wKd (m.g x.b))), .p (.i .i64 (wSn (m.g x.b))), .p (.s (wSt (m.g x.b)))] : List AV) = wS (m.g x.b) from rfl, stoR_at hget (show splice (wS _) 0 (wS (m.g x.b)) = some (wS (m.g x.b)) from rfl)]
      obtain ⟨p1, p2⟩ := hM.putRec z3 x.n.toNat (m.g x.b)
      generalize H1.set id _ = H2 at p1 p2 ⊢
      have q := p1.mv
      simp only [mCl] at q
      simp only [go_sem, Nat.reduceEqDiff, reduceIte, ↓reduceIte, Nat.reduceAdd, List.replicate_succ, List.replicate_zero, List.set_cons_zero, List.set_cons_succ, List.length_cons, List.length_nil, Nat.reduceLT, Nat.lt_add_one, ne_eq, Int.reduceEq, not_false_eq_true, Option.map_some, Nat.reduceLeDiff, Nat.zero_lt_succ, List.map_cons, List.map_nil, List.nil_append, List.cons_append, List.append_nil, bytesOf, List.take_succ_cons, List.take_zero, List.drop_zero, and_self, List.append_assoc, List.length_append, Int.reduceLT, Int.reduceLE, Int.toNat_zero, Int.reduceToNat, Int.cast_ofNat_Int, Int.natCast_zero, Int.natCast_one, Int.reduceAdd, List.map_append, Option.bind_some, q]
      refine fin g H2 _ p1 p2 rfl rfl (m.pc + 1) ?_
      rw [ee, putMD]
      have eg : ({ m with pc := m.pc + 1 } : MD).g x.a = .r k := ek
      rw [eg]
      have hlt2 : x.n < ((rowD { m with pc := m.pc + 1 } k).length : Int) := hlt
      simp only [hlt2, if_true]
      rfl
    · refine acall_pure (sMemberF hM hm hf (fun k e => by have := hm.gOk a0 a1; rw [e] at this; exact this) (fun k e h' => hk ⟨k, e, h'⟩)) ?_
      have P : SM g f (H1.set g.iw (.var (wCl g f (m.e 0 0)))) (m.e 0 0) := hM.putW f (some (0, 0))
      have F : Fr (smP g) (smP g) H1 (H1.set g.iw (.var (wCl g f (m.e 0 0)))) := frW _
      generalize H1.set g.iw (.var (wCl g f (m.e 0 0))) = H2 at P F ⊢
      have q := P.mv
      simp only [mCl] at q
      simp only [go_sem, Nat.reduceEqDiff, reduceIte, ↓reduceIte, Nat.reduceAdd, List.replicate_succ, List.replicate_zero, List.set_cons_zero, List.set_cons_succ, List.length_cons, List.length_nil, Nat.reduceLT, Nat.lt_add_one, ne_eq, Int.reduceEq, not_false_eq_true, Option.map_some, Nat.reduceLeDiff, Nat.zero_lt_succ, List.map_cons, List.map_nil, List.nil_append, List.cons_append, List.append_nil, bytesOf, List.take_succ_cons, List.take_zero, List.drop_zero, and_self, List.append_assoc, List.length_append, Int.reduceLT, Int.reduceLE, Int.toNat_zero, Int.reduceToNat, Int.cast_ofNat_Int, Int.natCast_zero, Int.natCast_one, Int.reduceAdd, List.map_append, Option.bind_some, q]
      refine fin g H2 _ P F rfl rfl (m.pc + 1) ?_
      rw [ee, putMD]
      split
      · rename_i k e
        have hno : ¬ x.n < ((rowD { m with pc := m.pc + 1 } k).length : Int) := fun h' => hk ⟨k, e, h'⟩
        rw [if_neg hno]; rfl
      · rfl
  have d9 : decide (x.op = 9) = false := by simp [k9]
  by_cases k10 : x.op = 10
  · have d10 : decide (x.op = 10) = true := by simp [k10]
    have n0 := hx.mem (.inr k10)
    have ee : effD c x { m with pc := m.pc + 1 } = getMD x { m with pc := m.pc + 1 } := by simp only [effD, k10, Int.reduceEq, if_true, if_false]
    simp only [go_sem, Nat.reduceEqDiff, reduceIte, ↓reduceIte, Nat.reduceAdd, List.replicate_succ, List.replicate_zero, List.set_cons_zero, List.set_cons_succ, List.length_cons, List.length_nil, Nat.reduceLT, Nat.lt_add_one, ne_eq, Int.reduceEq, not_false_eq_true, Option.map_some, Nat.reduceLeDiff, Nat.zero_lt_succ, List.map_cons, List.map_nil, List.nil_append, List.cons_append, List.append_nil, bytesOf, List.take_succ_cons, List.take_zero, List.drop_zero, and_self, List.append_assoc, List.length_append, Int.reduceLT, Int.reduceLE, Int.toNat_zero, Int.reduceToNat, Int.cast_ofNat_Int, Int.natCast_zero, Int.natCast_one, Int.reduceAdd, List.map_append, Option.bind_some, d1, d2, d3, d4, d5, d6, d7, d8, d9, d10]
    refine drw_same ?_
    simp only [go_sem, Nat.reduceEqDiff, reduceIte, ↓reduceIte, Nat.reduceAdd, List.replicate_succ, List.replicate_zero, List.set_cons_zero, List.set_cons_succ, List.length_cons, List.length_nil, Nat.reduceLT, Nat.lt_add_one, ne_eq, Int.reduceEq, not_false_eq_true, Option.map_some, Nat.reduceLeDiff, Nat.zero_lt_succ, List.map_cons, List.map_nil, List.nil_append, List.cons_append, List.append_nil, bytesOf, List.take_succ_cons, List.take_zero, List.drop_zero, and_self, List.append_assoc, List.length_append, Int.reduceLT, Int.reduceLE, Int.toNat_zero, Int.reduceToNat, Int.cast_ofNat_Int, Int.natCast_zero, Int.natCast_one, Int.reduceAdd, List.map_append, Option.bind_some, hmv, hrg, h5, b0, b1, hgb]
    by_cases hk : ∃ k, m.g x.b = .r k ∧ x.n < (rowD m k).length
    · obtain ⟨k, ek, hlt⟩ := hk
      have hkl : k < m.heap.length := by have := hm.gOk b0 b1; rw [ek] at this; exact this
      obtain ⟨ihp, vh, id, z1, z2, z3, z4, z5⟩ := hM.hpAt hkl
      have hkl' : (k : Int) < (m.heap.length : Int) := by omega
      have hlt' : x.n.toNat < (rowD m k).length := by omega
      refine acall_pure (sMemberT hM hm ek hkl hlt) ?_
      have hmv' := hmv
      rw [z1] at hmv'
      have hgb' := hgb
      rw [ek] at hgb'
      simp only [wKd, wSn, wSt] at hgb'
      have hget : ((rowD m k).map wS)[x.n.toNat]? = some (wS ((rowD m k).getD x.n.toNat (.n 0))) := by
        rw [List.getElem?_map, List.getElem?_eq_getElem hlt', List.getD_eq_getElem?_getD, List.getElem?_eq_getElem hlt']; rfl
      generalize hw : (rowD m k).getD x.n.toNat (.n 0) = w at hget
      rw [wS] at hget
      simp only [go_sem, Nat.reduceEqDiff, reduceIte, ↓reduceIte, Nat.reduceAdd, List.replicate_succ, List.replicate_zero, List.set_cons_zero, List.set_cons_succ, List.length_cons, List.length_nil, Nat.reduceLT, Nat.lt_add_one, ne_eq, Int.reduceEq, not_false_eq_true, Option.map_some, Nat.reduceLeDiff, Nat.zero_lt_succ, List.map_cons, List.map_nil, List.nil_append, List.cons_append, List.append_nil, bytesOf, List.take_succ_cons, List.take_zero, List.drop_zero, and_self, List.append_assoc, List.length_append, Int.reduceLT, Int.reduceLE, Int.toNat_zero, Int.reduceToNat, Int.cast_ofNat_Int, Int.natCast_zero, Int.natCast_one, Int.reduceAdd, List.map_append, Option.bind_some]
      refine drw_same ?_
      simp only [go_sem, Nat.reduceEqDiff, reduceIte, ↓reduceIte, Nat.reduceAdd, List.replicate_succ, List.replicate_zero, List.set_cons_zero, List.set_cons_succ, List.length_cons, List.length_nil, Nat.reduceLT, Nat.lt_add_one, ne_eq, Int.reduceEq, not_false_eq_true, Option.map_some, Nat.reduceLeDiff, Nat.zero_lt_succ, List.map_cons, List.map_nil, List.nil_append, List.cons_append, List.append_nil, bytesOf, List.take_succ_cons, List.take_zero, List.drop_zero, and_self, List.append_assoc, List.length_append, Int.reduceLT, Int.reduceLE, Int.toNat_zero, Int.reduceToNat, Int.cast_ofNat_Int, Int.natCast_zero, Int.natCast_one, Int.reduceAdd, List.map_append, Option.bind_some, hmv', hrg, h5, a0, a1, hgb', z2, hkl', z4, b0, b1, n0, hlt, z5, hget]
      rw [show ([AV.p (.i .i64 (wKd w)), .p (.i .i64 (wSn w)), .p (.s (wSt w))] : List AV) = wS w from rfl, stoR_at (sreg_g hm a0 a1) (show splice (wS _) 0 (wS w) = some (wS w) from rfl)]
      obtain ⟨p1, p2⟩ := hM.putReg x.a.toNat w
      generalize H1.set g.ir _ = H2 at p1 p2 ⊢
      have q := p1.mv
      simp only [mCl] at q
      simp only [go_sem, Nat.reduceEqDiff, reduceIte, ↓reduceIte, Nat.reduceAdd, List.replicate_succ, List.replicate_zero, List.set_cons_zero, List.set_cons_succ, List.length_cons, List.length_nil, Nat.reduceLT, Nat.lt_add_one, ne_eq, Int.reduceEq, not_false_eq_true, Option.map_some, Nat.reduceLeDiff, Nat.zero_lt_succ, List.map_cons, List.map_nil, List.nil_append, List.cons_append, List.append_nil, bytesOf, List.take_succ_cons, List.take_zero, List.drop_zero, and_self, List.append_assoc, List.length_append, Int.reduceLT, Int.reduceLE, Int.toNat_zero, Int.reduceToNat, Int.cast_ofNat_Int, Int.natCast_zero, Int.natCast_one, Int.reduceAdd, List.map_append, Option.bind_some, q]
      refine fin g H2 _ p1 p2 rfl rfl (m.pc + 1) ?_
      rw [ee, getMD]
      have eg : ({ m with pc := m.pc + 1 } : MD).g x.b = .r k := ek
      rw [eg]
      have hlt2 : x.n < ((rowD { m with pc := m.pc + 1 } k).length : Int) := hlt
      simp only [hlt2, if_true]
      rw [← hw]
      rfl
    · refine acall_pure (sMemberF hM hm hf (fun k e => by have := hm.gOk b0 b1; rw [e] at this; exact this) (fun k e h' => hk ⟨k, e, h'⟩)) ?_
      have P : SM g f (H1.set g.iw (.var (wCl g f (m.e 0 0)))) (m.e 0 0) := hM.putW f (some (0, 0))
      have F : Fr (smP g) (smP g) H1 (H1.set g.iw (.var (wCl g f (m.e 0 0)))) := frW _
      generalize H1.set g.iw (.var (wCl g f (m.e 0 0))) = H2 at P F ⊢
      have q := P.mv
      simp only [mCl] at q
      simp only [go_sem, Nat.reduceEqDiff, reduceIte, ↓reduceIte, Nat.reduceAdd, List.replicate_succ, List.replicate_zero, List.set_cons_zero, List.set_cons_succ, List.length_cons, List.length_nil, Nat.reduceLT, Nat.lt_add_one, ne_eq, Int.reduceEq, not_false_eq_true, Option.map_some, Nat.reduceLeDiff, Nat.zero_lt_succ, List.map_cons, List.map_nil, List.nil_append, List.cons_append, List.append_nil, bytesOf, List.take_succ_cons, List.take_zero, List.drop_zero, and_self, List.append_assoc, List.length_append, Int.reduceLT, Int.reduceLE, Int.toNat_zero, Int.reduceToNat, Int.cast_ofNat_Int, Int.natCast_zero, Int.natCast_one, Int.reduceAdd, List.map_append, Option.bind_some, q]
      refine fin g H2 _ P F rfl rfl (m.pc + 1) ?_
      rw [ee, getMD]
      split
      · rename_i k e
        have hno : ¬ x.n < ((rowD { m with pc := m.pc + 1 } k).length : Int) := fun h' => hk ⟨k, e, h'⟩
        rw [if_neg hno]; rfl
      · rfl
  have d10 : decide (x.op = 10) = false := by simp [k10]
  have h11 : 11 ≤ x.op := by have := hx.op; omega
  have ee := effD_k (c := c) (m := { m with pc := m.pc + 1 }) h11
  by_cases k11 : x.op = 11
  · have d11 : decide (x.op = 11) = true := by simp [k11]
    simp only [go_sem, Nat.reduceEqDiff, reduceIte, ↓reduceIte, Nat.reduceAdd, List.replicate_succ, List.replicate_zero, List.set_cons_zero, List.set_cons_succ, List.length_cons, List.length_nil, Nat.reduceLT, Nat.lt_add_one, ne_eq, Int.reduceEq, not_false_eq_true, Option.map_some, Nat.reduceLeDiff, Nat.zero_lt_succ, List.map_cons, List.map_nil, List.nil_append, List.cons_append, List.append_nil, bytesOf, List.take_succ_cons, List.take_zero, List.drop_zero, and_self, List.append_assoc, List.length_append, Int.reduceLT, Int.reduceLE, Int.toNat_zero, Int.reduceToNat, Int.cast_ofNat_Int, Int.natCast_zero, Int.natCast_one, Int.reduceAdd, List.map_append, Option.bind_some, d1, d2, d3, d4, d5, d6, d7, d8, d9, d10, d11]
    by_cases ea : ∃ t, m.g x.a = .n t
    · obtain ⟨t, ea⟩ := ea
      have hga' := hga
      rw [ea] at hga'
      simp only [wKd, wSn, wSt] at hga'
      refine drw_same ?_
      simp only [go_sem, Nat.reduceEqDiff, reduceIte, ↓reduceIte, Nat.reduceAdd, List.replicate_succ, List.replicate_zero, List.set_cons_zero, List.set_cons_succ, List.length_cons, List.length_nil, Nat.reduceLT, Nat.lt_add_one, ne_eq, Int.reduceEq, not_false_eq_true, Option.map_some, Nat.reduceLeDiff, Nat.zero_lt_succ, List.map_cons, List.map_nil, List.nil_append, List.cons_append, List.append_nil, bytesOf, List.take_succ_cons, List.take_zero, List.drop_zero, and_self, List.append_assoc, List.length_append, Int.reduceLT, Int.reduceLE, Int.toNat_zero, Int.reduceToNat, Int.cast_ofNat_Int, Int.natCast_zero, Int.natCast_one, Int.reduceAdd, List.map_append, Option.bind_some, hmv, hrg, h5, a0, a1, hga']
      refine pcall_pure (fun A => sIsT (hM.ext A) (w := .n t) (k := 0) rfl) (Hext.refl _) ?_
      have q := hM.mv
      simp only [mCl] at q
      simp only [go_sem, Nat.reduceEqDiff, reduceIte, ↓reduceIte, Nat.reduceAdd, List.replicate_succ, List.replicate_zero, List.set_cons_zero, List.set_cons_succ, List.length_cons, List.length_nil, Nat.reduceLT, Nat.lt_add_one, ne_eq, Int.reduceEq, not_false_eq_true, Option.map_some, Nat.reduceLeDiff, Nat.zero_lt_succ, List.map_cons, List.map_nil, List.nil_append, List.cons_append, List.append_nil, bytesOf, List.take_succ_cons, List.take_zero, List.drop_zero, and_self, List.append_assoc, List.length_append, Int.reduceLT, Int.reduceLE, Int.toNat_zero, Int.reduceToNat, Int.cast_ofNat_Int, Int.natCast_zero, Int.natCast_one, Int.reduceAdd, List.map_append, Option.bind_some, hmv, hrg, h5, a0, a1, hga']
      by_cases z : t = 0
      · have z' : decide (t = 0) = true := by simp [z]
        simp only [go_sem, Nat.reduceEqDiff, reduceIte, ↓reduceIte, Nat.reduceAdd, List.replicate_succ, List.replicate_zero, List.set_cons_zero, List.set_cons_succ, List.length_cons, List.length_nil, Nat.reduceLT, Nat.lt_add_one, ne_eq, Int.reduceEq, not_false_eq_true, Option.map_some, Nat.reduceLeDiff, Nat.zero_lt_succ, List.map_cons, List.map_nil, List.nil_append, List.cons_append, List.append_nil, bytesOf, List.take_succ_cons, List.take_zero, List.drop_zero, and_self, List.append_assoc, List.length_append, Int.reduceLT, Int.reduceLE, Int.toNat_zero, Int.reduceToNat, Int.cast_ofNat_Int, Int.natCast_zero, Int.natCast_one, Int.reduceAdd, List.map_append, Option.bind_some, z', h5, q]
        refine fin g H1 m hM (Fr.refl _ _) rfl rfl x.n ?_
        rw [ee, goD, if_pos k11]
        have eg : ({ m with pc := m.pc + 1 } : MD).g x.a = .n t := ea
        rw [eg]; simp only [z, if_true]
      · have z' : decide (t = 0) = false := by simp [z]
        simp only [go_sem, Nat.reduceEqDiff, reduceIte, ↓reduceIte, Nat.reduceAdd, List.replicate_succ, List.replicate_zero, List.set_cons_zero, List.set_cons_succ, List.length_cons, List.length_nil, Nat.reduceLT, Nat.lt_add_one, ne_eq, Int.reduceEq, not_false_eq_true, Option.map_some, Nat.reduceLeDiff, Nat.zero_lt_succ, List.map_cons, List.map_nil, List.nil_append, List.cons_append, List.append_nil, bytesOf, List.take_succ_cons, List.take_zero, List.drop_zero, and_self, List.append_assoc, List.length_append, Int.reduceLT, Int.reduceLE, Int.toNat_zero, Int.reduceToNat, Int.cast_ofNat_Int, Int.natCast_zero, Int.natCast_one, Int.reduceAdd, List.map_append, Option.bind_some, z', q]
        refine fin g H1 m hM (Fr.refl _ _) rfl rfl (m.pc + 1) ?_
        rw [ee, goD, if_pos k11]
        have eg : ({ m with pc := m.pc + 1 } : MD).g x.a = .n t := ea
        rw [eg]; simp only [z, if_false]
    · have hkk : wKd (m.g x.a) ≠ 0 := by
        intro e; apply ea; revert e; cases m.g x.a <;> simp [wKd]
      refine ⟨H1.set g.iw .dead, dead_ext _ _, ?_⟩
      have m1 := set_ne' (o := AO.dead) hwv hmv (by intro e; simp [wCl] at e)
      have m2 := set_ne' (o := AO.dead) hwv hrg (by intro e; cases e)
      have m5 := set_ne' (o := AO.dead) hwv h5 (by intro e; simp [wCl] at e)
      simp only [go_sem, Nat.reduceEqDiff, reduceIte, ↓reduceIte, Nat.reduceAdd, List.replicate_succ, List.replicate_zero, List.set_cons_zero, List.set_cons_succ, List.length_cons, List.length_nil, Nat.reduceLT, Nat.lt_add_one, ne_eq, Int.reduceEq, not_false_eq_true, Option.map_some, Nat.reduceLeDiff, Nat.zero_lt_succ, List.map_cons, List.map_nil, List.nil_append, List.cons_append, List.append_nil, bytesOf, List.take_succ_cons, List.take_zero, List.drop_zero, and_self, List.append_assoc, List.length_append, Int.reduceLT, Int.reduceLE, Int.toNat_zero, Int.reduceToNat, Int.cast_ofNat_Int, Int.natCast_zero, Int.natCast_one, Int.reduceAdd, List.map_append, Option.bind_some, m1, m2, m5, a0, a1, hga]
      refine .inl ⟨.p (.b false), H1.set g.iw (.var (wCl g f (m.e 0 0))), by simp, dead_ext' _ _ _, fun A => ?_, ?_⟩
      · have := sIsF (hM.ext A) hf (w := m.g x.a) (k := 0) hkk
        rw [List.set_append_left _ _ (get_lt hwv)] at this
        exact this
      have P : SM g f (H1.set g.iw (.var (wCl g f (m.e 0 0)))) (m.e 0 0) := hM.putW f (some (0, 0))
      have F : Fr (smP g) (smP g) H1 (H1.set g.iw (.var (wCl g f (m.e 0 0)))) := frW _
      generalize H1.set g.iw (.var (wCl g f (m.e 0 0))) = H2 at P F ⊢
      have q := P.mv
      simp only [mCl] at q
      simp only [go_sem, Nat.reduceEqDiff, reduceIte, ↓reduceIte, Nat.reduceAdd, List.replicate_succ, List.replicate_zero, List.set_cons_zero, List.set_cons_succ, List.length_cons, List.length_nil, Nat.reduceLT, Nat.lt_add_one, ne_eq, Int.reduceEq, not_false_eq_true, Option.map_some, Nat.reduceLeDiff, Nat.zero_lt_succ, List.map_cons, List.map_nil, List.nil_append, List.cons_append, List.append_nil, bytesOf, List.take_succ_cons, List.take_zero, List.drop_zero, and_self, List.append_assoc, List.length_append, Int.reduceLT, Int.reduceLE, Int.toNat_zero, Int.reduceToNat, Int.cast_ofNat_Int, Int.natCast_zero, Int.natCast_one, Int.reduceAdd, List.map_append, Option.bind_some, q]
      refine fin g H2 _ P F rfl rfl (m.pc + 1) ?_
      rw [ee, goD, if_pos k11]
      split
      · rename_i t e; exact absurd ⟨t, e⟩ ea
      · rfl
  have d11 : decide (x.op = 11) = false := by simp [k11]
  by_cases k12 : x.op = 12
  · have d12 : decide (x.op = 12) = true := by simp [k12]
    simp only [go_sem, Nat.reduceEqDiff, reduceIte, ↓reduceIte, Nat.reduceAdd, List.replicate_succ, List.replicate_zero, List.set_cons_zero, List.set_cons_succ, List.length_cons, List.length_nil, Nat.reduceLT, Nat.lt_add_one, ne_eq, Int.reduceEq, not_false_eq_true, Option.map_some, Nat.reduceLeDiff, Nat.zero_lt_succ, List.map_cons, List.map_nil, List.nil_append, List.cons_append, List.append_nil, bytesOf, List.take_succ_cons, List.take_zero, List.drop_zero, and_self, List.append_assoc, List.length_append, Int.reduceLT, Int.reduceLE, Int.toNat_zero, Int.reduceToNat, Int.cast_ofNat_Int, Int.natCast_zero, Int.natCast_one, Int.reduceAdd, List.map_append, Option.bind_some, d1, d2, d3, d4, d5, d6, d7, d8, d9, d10, d11, d12, h5, hmv]
    refine fin g H1 m hM (Fr.refl _ _) rfl rfl x.n ?_
    rw [ee, goD, if_neg k11, if_pos k12]
  have d12 : decide (x.op = 12) = false := by simp [k12]
  by_cases k13 : x.op = 13
  · have d13 : decide (x.op = 13) = true := by simp [k13]
    simp only [go_sem, Nat.reduceEqDiff, reduceIte, ↓reduceIte, Nat.reduceAdd, List.replicate_succ, List.replicate_zero, List.set_cons_zero, List.set_cons_succ, List.length_cons, List.length_nil, Nat.reduceLT, Nat.lt_add_one, ne_eq, Int.reduceEq, not_false_eq_true, Option.map_some, Nat.reduceLeDiff, Nat.zero_lt_succ, List.map_cons, List.map_nil, List.nil_append, List.cons_append, List.append_nil, bytesOf, List.take_succ_cons, List.take_zero, List.drop_zero, and_self, List.append_assoc, List.length_append, Int.reduceLT, Int.reduceLE, Int.toNat_zero, Int.reduceToNat, Int.cast_ofNat_Int, Int.natCast_zero, Int.natCast_one, Int.reduceAdd, List.map_append, Option.bind_some, d1, d2, d3, d4, d5, d6, d7, d8, d9, d10, d11, d12, d13]
    refine drw_same ?_
    simp only [go_sem, Nat.reduceEqDiff, reduceIte, ↓reduceIte, Nat.reduceAdd, List.replicate_succ, List.replicate_zero, List.set_cons_zero, List.set_cons_succ, List.length_cons, List.length_nil, Nat.reduceLT, Nat.lt_add_one, ne_eq, Int.reduceEq, not_false_eq_true, Option.map_some, Nat.reduceLeDiff, Nat.zero_lt_succ, List.map_cons, List.map_nil, List.nil_append, List.cons_append, List.append_nil, bytesOf, List.take_succ_cons, List.take_zero, List.drop_zero, and_self, List.append_assoc, List.length_append, Int.reduceLT, Int.reduceLE, Int.toNat_zero, Int.reduceToNat, Int.cast_ofNat_Int, Int.natCast_zero, Int.natCast_one, Int.reduceAdd, List.map_append, Option.bind_some, hmv, hrg, h5, a0, a1, hga]
    by_cases ea : ∃ t, m.g x.a = .b t
    · obtain ⟨t, ea⟩ := ea
      have ht : 0 ≤ t ∧ t < c.starts.length := by have := hm.gOk a0 a1; rw [ea] at this; exact this
      have ht' : t.toNat < c.starts.length := by omega
      have hga' := hga
      rw [ea] at hga'
      simp only [wKd, wSn, wSt] at hga'
      refine acall_pure (sIsT hM (w := m.g x.a) (k := 3) (by rw [ea]; rfl)) ?_
      simp only [go_sem, Nat.reduceEqDiff, reduceIte, ↓reduceIte, Nat.reduceAdd, List.replicate_succ, List.replicate_zero, List.set_cons_zero, List.set_cons_succ, List.length_cons, List.length_nil, Nat.reduceLT, Nat.lt_add_one, ne_eq, Int.reduceEq, not_false_eq_true, Option.map_some, Nat.reduceLeDiff, Nat.zero_lt_succ, List.map_cons, List.map_nil, List.nil_append, List.cons_append, List.append_nil, bytesOf, List.take_succ_cons, List.take_zero, List.drop_zero, and_self, List.append_assoc, List.length_append, Int.reduceLT, Int.reduceLE, Int.toNat_zero, Int.reduceToNat, Int.cast_ofNat_Int, Int.natCast_zero, Int.natCast_one, Int.reduceAdd, List.map_append, Option.bind_some]
      refine drw_same ?_
      simp only [go_sem, Nat.reduceEqDiff, reduceIte, ↓reduceIte, Nat.reduceAdd, List.replicate_succ, List.replicate_zero, List.set_cons_zero, List.set_cons_succ, List.length_cons, List.length_nil, Nat.reduceLT, Nat.lt_add_one, ne_eq, Int.reduceEq, not_false_eq_true, Option.map_some, Nat.reduceLeDiff, Nat.zero_lt_succ, List.map_cons, List.map_nil, List.nil_append, List.cons_append, List.append_nil, bytesOf, List.take_succ_cons, List.take_zero, List.drop_zero, and_self, List.append_assoc, List.length_append, Int.reduceLT, Int.reduceLE, Int.toNat_zero, Int.reduceToNat, Int.cast_ofNat_Int, Int.natCast_zero, Int.natCast_one, Int.reduceAdd, List.map_append, Option.bind_some, hmv, hrg, h5, h4, a0, a1, hga', ht.1, ints_getD _ ht']
      refine fin g H1 m hM (Fr.refl _ _) rfl rfl _ ?_
      rw [ee, goD, if_neg k11, if_neg k12, if_pos k13]
      have eg : ({ m with pc := m.pc + 1 } : MD).g x.a = .b t := ea
      rw [eg]
    · have hkk : wKd (m.g x.a) ≠ 3 := by
        intro e; apply ea; revert e; cases m.g x.a <;> simp [wKd]
      refine acall_pure (sIsF hM hf (w := m.g x.a) (k := 3) hkk) ?_
      have P : SM g f (H1.set g.iw (.var (wCl g f (m.e 0 0)))) (m.e 0 0) := hM.putW f (some (0, 0))
      have F : Fr (smP g) (smP g) H1 (H1.set g.iw (.var (wCl g f (m.e 0 0)))) := frW _
      generalize H1.set g.iw (.var (wCl g f (m.e 0 0))) = H2 at P F ⊢
      have q := P.mv
      simp only [mCl] at q
      simp only [go_sem, Nat.reduceEqDiff, reduceIte, ↓reduceIte, Nat.reduceAdd, List.replicate_succ, List.replicate_zero, List.set_cons_zero, List.set_cons_succ, List.length_cons, List.length_nil, Nat.reduceLT, Nat.lt_add_one, ne_eq, Int.reduceEq, not_false_eq_true, Option.map_some, Nat.reduceLeDiff, Nat.zero_lt_succ, List.map_cons, List.map_nil, List.nil_append, List.cons_append, List.append_nil, bytesOf, List.take_succ_cons, List.take_zero, List.drop_zero, and_self, List.append_assoc, List.length_append, Int.reduceLT, Int.reduceLE, Int.toNat_zero, Int.reduceToNat, Int.cast_ofNat_Int, Int.natCast_zero, Int.natCast_one, Int.reduceAdd, List.map_append, Option.bind_some, q]
      refine fin g H2 _ P F rfl rfl (m.pc + 1) ?_
      rw [ee, goD, if_neg k11, if_neg k12, if_pos k13]
      split
      · rename_i t e; exact absurd ⟨t, e⟩ ea
      · rfl
  have d13 : decide (x.op = 13) = false := by simp [k13]
  by_cases k14 : x.op = 14
  · have d14 : decide (x.op = 14) = true := by simp [k14]
    simp only [go_sem, Nat.reduceEqDiff, reduceIte, ↓reduceIte, Nat.reduceAdd, List.replicate_succ, List.replicate_zero, List.set_cons_zero, List.set_cons_succ, List.length_cons, List.length_nil, Nat.reduceLT, Nat.lt_add_one, ne_eq, Int.reduceEq, not_false_eq_true, Option.map_some, Nat.reduceLeDiff, Nat.zero_lt_succ, List.map_cons, List.map_nil, List.nil_append, List.cons_append, List.append_nil, bytesOf, List.take_succ_cons, List.take_zero, List.drop_zero, and_self, List.append_assoc, List.length_append, Int.reduceLT, Int.reduceLE, Int.toNat_zero, Int.reduceToNat, Int.cast_ofNat_Int, Int.natCast_zero, Int.natCast_one, Int.reduceAdd, List.map_append, Option.bind_some, d1, d2, d3, d4, d5, d6, d7, d8, d9, d10, d11, d12, d13, d14]
    refine drw_same ?_
    simp only [go_sem, Nat.reduceEqDiff, reduceIte, ↓reduceIte, Nat.reduceAdd, List.replicate_succ, List.replicate_zero, List.set_cons_zero, List.set_cons_succ, List.length_cons, List.length_nil, Nat.reduceLT, Nat.lt_add_one, ne_eq, Int.reduceEq, not_false_eq_true, Option.map_some, Nat.reduceLeDiff, Nat.zero_lt_succ, List.map_cons, List.map_nil, List.nil_append, List.cons_append, List.append_nil, bytesOf, List.take_succ_cons, List.take_zero, List.drop_zero, and_self, List.append_assoc, List.length_append, Int.reduceLT, Int.reduceLE, Int.toNat_zero, Int.reduceToNat, Int.cast_ofNat_Int, Int.natCast_zero, Int.natCast_one, Int.reduceAdd, List.map_append, Option.bind_some, hmv, hrg, h5, a0, a1, hga]
    by_cases ea : ∃ t, m.g x.a = .n t
    · obtain ⟨t, ea⟩ := ea
      have hga' := hga
      rw [ea] at hga'
      simp only [wKd, wSn, wSt] at hga'
      refine acall_pure (sIsT hM (w := m.g x.a) (k := 0) (by rw [ea]; rfl)) ?_
      simp only [go_sem, Nat.reduceEqDiff, reduceIte, ↓reduceIte, Nat.reduceAdd, List.replicate_succ, List.replicate_zero, List.set_cons_zero, List.set_cons_succ, List.length_cons, List.length_nil, Nat.reduceLT, Nat.lt_add_one, ne_eq, Int.reduceEq, not_false_eq_true, Option.map_some, Nat.reduceLeDiff, Nat.zero_lt_succ, List.map_cons, List.map_nil, List.nil_append, List.cons_append, List.append_nil, bytesOf, List.take_succ_cons, List.take_zero, List.drop_zero, and_self, List.append_assoc, List.length_append, Int.reduceLT, Int.reduceLE, Int.toNat_zero, Int.reduceToNat, Int.cast_ofNat_Int, Int.natCast_zero, Int.natCast_one, Int.reduceAdd, List.map_append, Option.bind_some]
      refine drw_same ?_
      simp only [go_sem, Nat.reduceEqDiff, reduceIte, ↓reduceIte, Nat.reduceAdd, List.replicate_succ, List.replicate_zero, List.set_cons_zero, List.set_cons_succ, List.length_cons, List.length_nil, Nat.reduceLT, Nat.lt_add_one, ne_eq, Int.reduceEq, not_false_eq_true, Option.map_some, Nat.reduceLeDiff, Nat.zero_lt_succ, List.map_cons, List.map_nil, List.nil_append, List.cons_append, List.append_nil, bytesOf, List.take_succ_cons, List.take_zero, List.drop_zero, and_self, List.append_assoc, List.length_append, Int.reduceLT, Int.reduceLE, Int.toNat_zero, Int.reduceToNat, Int.cast_ofNat_Int, Int.natCast_zero, Int.natCast_one, Int.reduceAdd, List.map_append, Option.bind_some, hmv, hrg, h5, h4, a0, a1, hga']
      refine acall_pure (sEnds hM hf 1 t) ?_
      have P : SM g f (H1.set g.iw (.var (wCl g f (m.e 1 t)))) (m.e 1 t) := hM.putW f (some (1, t))
      have F : Fr (smP g) (smP g) H1 (H1.set g.iw (.var (wCl g f (m.e 1 t)))) := frW _
      generalize H1.set g.iw (.var (wCl g f (m.e 1 t))) = H2 at P F ⊢
      have q := P.mv
      simp only [mCl] at q
      simp only [go_sem, Nat.reduceEqDiff, reduceIte, ↓reduceIte, Nat.reduceAdd, List.replicate_succ, List.replicate_zero, List.set_cons_zero, List.set_cons_succ, List.length_cons, List.length_nil, Nat.reduceLT, Nat.lt_add_one, ne_eq, Int.reduceEq, not_false_eq_true, Option.map_some, Nat.reduceLeDiff, Nat.zero_lt_succ, List.map_cons, List.map_nil, List.nil_append, List.cons_append, List.append_nil, bytesOf, List.take_succ_cons, List.take_zero, List.drop_zero, and_self, List.append_assoc, List.length_append, Int.reduceLT, Int.reduceLE, Int.toNat_zero, Int.reduceToNat, Int.cast_ofNat_Int, Int.natCast_zero, Int.natCast_one, Int.reduceAdd, List.map_append, Option.bind_some, q]
      refine fin g H2 _ P F rfl rfl (m.pc + 1) ?_
      rw [ee, goD, if_neg k11, if_neg k12, if_neg k13, if_pos k14]
      have eg : ({ m with pc := m.pc + 1 } : MD).g x.a = .n t := ea
      rw [eg]; rfl
    · have hkk : wKd (m.g x.a) ≠ 0 := by
        intro e; apply ea; revert e; cases m.g x.a <;> simp [wKd]
      refine acall_pure (sIsF hM hf (w := m.g x.a) (k := 0) hkk) ?_
      have P : SM g f (H1.set g.iw (.var (wCl g f (m.e 0 0)))) (m.e 0 0) := hM.putW f (some (0, 0))
      have F : Fr (smP g) (smP g) H1 (H1.set g.iw (.var (wCl g f (m.e 0 0)))) := frW _
      generalize H1.set g.iw (.var (wCl g f (m.e 0 0))) = H2 at P F ⊢
      have q := P.mv
      simp only [mCl] at q
      simp only [go_sem, Nat.reduceEqDiff, reduceIte, ↓reduceIte, Nat.reduceAdd, List.replicate_succ, List.replicate_zero, List.set_cons_zero, List.set_cons_succ, List.length_cons, List.length_nil, Nat.reduceLT, Nat.lt_add_one, ne_eq, Int.reduceEq, not_false_eq_true, Option.map_some, Nat.reduceLeDiff, Nat.zero_lt_succ, List.map_cons, List.map_nil, List.nil_append, List.cons_append, List.append_nil, bytesOf, List.take_succ_cons, List.take_zero, List.drop_zero, and_self, List.append_assoc, List.length_append, Int.reduceLT, Int.reduceLE, Int.toNat_zero, Int.reduceToNat, Int.cast_ofNat_Int, Int.natCast_zero, Int.natCast_one, Int.reduceAdd, List.map_append, Option.bind_some, q]
      refine fin g H2 _ P F rfl rfl (m.pc + 1) ?_
      rw [ee, goD, if_neg k11, if_neg k12, if_neg k13, if_pos k14]
      split
      · rename_i t e; exact absurd ⟨t, e⟩ ea
      · rfl
  have d14 : decide (x.op = 14) = false := by simp [k14]
  · have k15 : x.op = 15 := by have := hx.op; omega
    have d15 : decide (x.op = 15) = true := by simp [k15]
    simp only [go_sem, Nat.reduceEqDiff, reduceIte, ↓reduceIte, Nat.reduceAdd, List.replicate_succ, List.replicate_zero, List.set_cons_zero, List.set_cons_succ, List.length_cons, List.length_nil, Nat.reduceLT, Nat.lt_add_one, ne_eq, Int.reduceEq, not_false_eq_true, Option.map_some, Nat.reduceLeDiff, Nat.zero_lt_succ, List.map_cons, List.map_nil, List.nil_append, List.cons_append, List.append_nil, bytesOf, List.take_succ_cons, List.take_zero, List.drop_zero, and_self, List.append_assoc, List.length_append, Int.reduceLT, Int.reduceLE, Int.toNat_zero, Int.reduceToNat, Int.cast_ofNat_Int, Int.natCast_zero, Int.natCast_one, Int.reduceAdd, List.map_append, Option.bind_some, d1, d2, d3, d4, d5, d6, d7, d8, d9, d10, d11, d12, d13, d14, d15]
    refine drw_same ?_
    simp only [go_sem, Nat.reduceEqDiff, reduceIte, ↓reduceIte, Nat.reduceAdd, List.replicate_succ, List.replicate_zero, List.set_cons_zero, List.set_cons_succ, List.length_cons, List.length_nil, Nat.reduceLT, Nat.lt_add_one, ne_eq, Int.reduceEq, not_false_eq_true, Option.map_some, Nat.reduceLeDiff, Nat.zero_lt_succ, List.map_cons, List.map_nil, List.nil_append, List.cons_append, List.append_nil, bytesOf, List.take_succ_cons, List.take_zero, List.drop_zero, and_self, List.append_assoc, List.length_append, Int.reduceLT, Int.reduceLE, Int.toNat_zero, Int.reduceToNat, Int.cast_ofNat_Int, Int.natCast_zero, Int.natCast_one, Int.reduceAdd, List.map_append, Option.bind_some, hmv, h5]
    · refine acall_pure (sEnds hM hf 2 x.n) ?_
      have P : SM g f (H1.set g.iw (.var (wCl g f (m.e 2 x.n)))) (m.e 2 x.n) := hM.putW f (some (2, x.n))
      have F : Fr (smP g) (smP g) H1 (H1.set g.iw (.var (wCl g f (m.e 2 x.n)))) := frW _
      generalize H1.set g.iw (.var (wCl g f (m.e 2 x.n))) = H2 at P F ⊢
      have q := P.mv
      simp only [mCl] at q
      simp only [go_sem, Nat.reduceEqDiff, reduceIte, ↓reduceIte, Nat.reduceAdd, List.replicate_succ, List.replicate_zero, List.set_cons_zero, List.set_cons_succ, List.length_cons, List.length_nil, Nat.reduceLT, Nat.lt_add_one, ne_eq, Int.reduceEq, not_false_eq_true, Option.map_some, Nat.reduceLeDiff, Nat.zero_lt_succ, List.map_cons, List.map_nil, List.nil_append, List.cons_append, List.append_nil, bytesOf, List.take_succ_cons, List.take_zero, List.drop_zero, and_self, List.append_assoc, List.length_append, Int.reduceLT, Int.reduceLE, Int.toNat_zero, Int.reduceToNat, Int.cast_ofNat_Int, Int.natCast_zero, Int.natCast_one, Int.reduceAdd, List.map_append, Option.bind_some, q]
      refine fin g H2 _ P F rfl rfl (m.pc + 1) ?_
      rw [ee, goD, if_neg k11, if_neg k12, if_neg k13, if_neg k14]
      rfl
end Go.Proofs.Ytmbggdfceecojaa.Cd

/- The machine of the program: it runs. -/
set_option linter.all false
namespace Go.Proofs.Ytmbggdfceecojaa.Cd
open Go.AM Mc Ho

theorem implCodeOk_any (c : CodeD) (hc : okCode c) (H : List AO) : ACall Try.prog 74 [.st (c.cells.map .p)] H (pureQ (.p (.b (codeOk c))) H) :=
  (acall_lend (implCodeOk c hc) (fun r H' h => by subst h; exact grnd_b _) (lentAll_cons (code_lent c) (lentAll_nil _))).mono fun r H' ⟨h1, _, h2⟩ => ⟨h2, h1⟩
theorem within_p (x a b : Int) (H : List AO) : ACall Try.prog 124 [.p (.i .i64 x), .p (.i .i64 a), .p (.i .i64 b)] H (pureQ (.p (.b (inD x a b))) H) := (within_any x a b).mono fun r H' h => h

theorem runOkI0 (c : CodeD) (hc : okCode c) (inp : List Int) (hi : inp.length ≤ maxL) (room steps : Int) :
    ACall Try.prog 110 [.st (c.cells.map .p), .p (.l (ints inp)), .p (.i .i64 room), .p (.i .i64 steps)] [] (fun r H => r = .p (.b (runOk c inp room steps))) := by
  refine call110 (by simp) ?_
  simp only [go_sem, Nat.reduceEqDiff, reduceIte, ↓reduceIte, Nat.reduceAdd, List.replicate_succ, List.replicate_zero, List.set_cons_zero, List.set_cons_succ, List.length_cons, List.length_nil, Nat.reduceLT, Nat.lt_add_one, ne_eq, Int.reduceEq, not_false_eq_true, Option.map_some, Nat.reduceLeDiff, Nat.zero_lt_succ, List.map_cons, List.map_nil, List.nil_append, List.cons_append, List.append_nil, bytesOf, List.take_succ_cons, List.take_zero, List.drop_zero, and_self, List.append_assoc, List.length_append, Int.reduceLT, Int.reduceLE, Int.toNat_zero, Int.reduceToNat, Int.cast_ofNat_Int, Int.natCast_zero, Int.natCast_one, Int.reduceAdd, List.map_append, Option.bind_some, mc110, mr110, CodeD.cells]
  refine acall_pure (implCodeOk_any c hc _) ?_
  unfold runOk
  cases h1 : codeOk c
  · simp only [go_sem, Nat.reduceEqDiff, reduceIte, ↓reduceIte, Nat.reduceAdd, List.replicate_succ, List.replicate_zero, List.set_cons_zero, List.set_cons_succ, List.length_cons, List.length_nil, Nat.reduceLT, Nat.lt_add_one, ne_eq, Int.reduceEq, not_false_eq_true, Option.map_some, Nat.reduceLeDiff, Nat.zero_lt_succ, List.map_cons, List.map_nil, List.nil_append, List.cons_append, List.append_nil, bytesOf, List.take_succ_cons, List.take_zero, List.drop_zero, and_self, List.append_assoc, List.length_append, Int.reduceLT, Int.reduceLE, Int.toNat_zero, Int.reduceToNat, Int.cast_ofNat_Int, Int.natCast_zero, Int.natCast_one, Int.reduceAdd, List.map_append, Option.bind_some]
    rfl
  · simp only [go_sem, Nat.reduceEqDiff, reduceIte, ↓reduceIte, Nat.reduceAdd, List.replicate_succ, List.replicate_zero, List.set_cons_zero, List.set_cons_succ, List.length_cons, List.length_nil, Nat.reduceLT, Nat.lt_add_one, ne_eq, Int.reduceEq, not_false_eq_true, Option.map_some, Nat.reduceLeDiff, Nat.zero_lt_succ, List.map_cons, List.map_nil, List.nil_append, List.cons_append, List.append_nil, bytesOf, List.take_succ_cons, List.take_zero, List.drop_zero, and_self, List.append_assoc, List.length_append, Int.reduceLT, Int.reduceLE, Int.toNat_zero, Int.reduceToNat, Int.cast_ofNat_Int, Int.natCast_zero, Int.natCast_one, Int.reduceAdd, List.map_append, Option.bind_some, ints_len]
    intro _
    have e2 : decide ((inp.length : Int) ≤ 200) = decide (inp.length ≤ 200) := by rw [decide_eq_decide]; omega
    rw [e2]
    cases h2 : decide (inp.length ≤ 200)
    · simp only [go_sem, Nat.reduceEqDiff, reduceIte, ↓reduceIte, Nat.reduceAdd, List.replicate_succ, List.replicate_zero, List.set_cons_zero, List.set_cons_succ, List.length_cons, List.length_nil, Nat.reduceLT, Nat.lt_add_one, ne_eq, Int.reduceEq, not_false_eq_true, Option.map_some, Nat.reduceLeDiff, Nat.zero_lt_succ, List.map_cons, List.map_nil, List.nil_append, List.cons_append, List.append_nil, bytesOf, List.take_succ_cons, List.take_zero, List.drop_zero, and_self, List.append_assoc, List.length_append, Int.reduceLT, Int.reduceLE, Int.toNat_zero, Int.reduceToNat, Int.cast_ofNat_Int, Int.natCast_zero, Int.natCast_one, Int.reduceAdd, List.map_append, Option.bind_some]
      rfl
    · simp only [go_sem, Nat.reduceEqDiff, reduceIte, ↓reduceIte, Nat.reduceAdd, List.replicate_succ, List.replicate_zero, List.set_cons_zero, List.set_cons_succ, List.length_cons, List.length_nil, Nat.reduceLT, Nat.lt_add_one, ne_eq, Int.reduceEq, not_false_eq_true, Option.map_some, Nat.reduceLeDiff, Nat.zero_lt_succ, List.map_cons, List.map_nil, List.nil_append, List.cons_append, List.append_nil, bytesOf, List.take_succ_cons, List.take_zero, List.drop_zero, and_self, List.append_assoc, List.length_append, Int.reduceLT, Int.reduceLE, Int.toNat_zero, Int.reduceToNat, Int.cast_ofNat_Int, Int.natCast_zero, Int.natCast_one, Int.reduceAdd, List.map_append, Option.bind_some]
      refine acall_pure (within_p _ _ _ _) ?_
      cases h3 : inD room 0 100000
      · simp only [go_sem, Nat.reduceEqDiff, reduceIte, ↓reduceIte, Nat.reduceAdd, List.replicate_succ, List.replicate_zero, List.set_cons_zero, List.set_cons_succ, List.length_cons, List.length_nil, Nat.reduceLT, Nat.lt_add_one, ne_eq, Int.reduceEq, not_false_eq_true, Option.map_some, Nat.reduceLeDiff, Nat.zero_lt_succ, List.map_cons, List.map_nil, List.nil_append, List.cons_append, List.append_nil, bytesOf, List.take_succ_cons, List.take_zero, List.drop_zero, and_self, List.append_assoc, List.length_append, Int.reduceLT, Int.reduceLE, Int.toNat_zero, Int.reduceToNat, Int.cast_ofNat_Int, Int.natCast_zero, Int.natCast_one, Int.reduceAdd, List.map_append, Option.bind_some]
        rfl
      · simp only [go_sem, Nat.reduceEqDiff, reduceIte, ↓reduceIte, Nat.reduceAdd, List.replicate_succ, List.replicate_zero, List.set_cons_zero, List.set_cons_succ, List.length_cons, List.length_nil, Nat.reduceLT, Nat.lt_add_one, ne_eq, Int.reduceEq, not_false_eq_true, Option.map_some, Nat.reduceLeDiff, Nat.zero_lt_succ, List.map_cons, List.map_nil, List.nil_append, List.cons_append, List.append_nil, bytesOf, List.take_succ_cons, List.take_zero, List.drop_zero, and_self, List.append_assoc, List.length_append, Int.reduceLT, Int.reduceLE, Int.toNat_zero, Int.reduceToNat, Int.cast_ofNat_Int, Int.natCast_zero, Int.natCast_one, Int.reduceAdd, List.map_append, Option.bind_some]
        refine acall_pure (within_p _ _ _ _) ?_
        simp only [go_sem, Nat.reduceEqDiff, reduceIte, ↓reduceIte, Nat.reduceAdd, List.replicate_succ, List.replicate_zero, List.set_cons_zero, List.set_cons_succ, List.length_cons, List.length_nil, Nat.reduceLT, Nat.lt_add_one, ne_eq, Int.reduceEq, not_false_eq_true, Option.map_some, Nat.reduceLeDiff, Nat.zero_lt_succ, List.map_cons, List.map_nil, List.nil_append, List.cons_append, List.append_nil, bytesOf, List.take_succ_cons, List.take_zero, List.drop_zero, and_self, List.append_assoc, List.length_append, Int.reduceLT, Int.reduceLE, Int.toNat_zero, Int.reduceToNat, Int.cast_ofNat_Int, Int.natCast_zero, Int.natCast_one, Int.reduceAdd, List.map_append, Option.bind_some]
theorem runOkI (c : CodeD) (hc : okCode c) (inp : List Int) (hi : inp.length ≤ maxL) (room steps : Int) (H : List AO) :
    ACall Try.prog 110 [.st (c.cells.map .p), .p (.l (ints inp)), .p (.i .i64 room), .p (.i .i64 steps)] H (pureQ (.p (.b (runOk c inp room steps))) H) :=
  (acall_lend (runOkI0 c hc inp hi room steps) (fun r H' h => by subst h; exact grnd_b _) (lentAll_cons (code_lent c) (lentAll_cons (.pure _) (lentAll_cons (.pure _) (lentAll_cons (.pure _) (lentAll_nil _)))))).mono fun r H' ⟨h1, _, h2⟩ => ⟨h2, h1⟩

theorem opD_out (x : InsD) (m : MD) : (opD x m).out.length ≤ m.out.length + 1 ∧ (opD x m).inp.length ≤ m.inp.length := by
  unfold opD catD MD.p MD.e
  repeat' split
  all_goals first | (simp; done) | (simp; omega)
theorem effD_out (c : CodeD) (x : InsD) (m : MD) : (effD c x m).out.length ≤ m.out.length + 1 ∧ (effD c x m).inp.length ≤ m.inp.length := by
  by_cases h7 : x.op = 7
  · have e : effD c x m = opD x m := by simp only [effD, h7, Int.reduceEq, if_true, if_false]
    rw [e]; exact opD_out x m
  · have go : (goD c x m).out = m.out ∧ (goD c x m).inp = m.inp := by
      unfold goD MD.e
      repeat' split
      all_goals exact ⟨rfl, rfl⟩
    have : (effD c x m).out = m.out ∧ (effD c x m).inp = m.inp := by
      by_cases h : x.op = 1 ∨ x.op = 2 ∨ x.op = 3 ∨ x.op = 4 ∨ x.op = 5 ∨ x.op = 6 ∨ x.op = 8 ∨ x.op = 9 ∨ x.op = 10
      · unfold effD
        rcases h with e | e | e | e | e | e | e | e | e <;> simp only [e, Int.reduceEq, if_true, if_false]
        all_goals first | (exact ⟨trivial, trivial⟩) | (exact ⟨rfl, rfl⟩) | skip
        · unfold newD; split <;> exact ⟨rfl, rfl⟩
        · unfold putMD; split
          · split <;> exact ⟨rfl, rfl⟩
          · exact ⟨rfl, rfl⟩
        · unfold getMD; split
          · split <;> exact ⟨rfl, rfl⟩
          · exact ⟨rfl, rfl⟩
      · have e : effD c x m = goD c x m := by
          unfold effD
          simp only [show ¬ x.op = 1 by omega, show ¬ x.op = 2 by omega, show ¬ x.op = 3 by omega, show ¬ x.op = 4 by omega, show ¬ x.op = 5 by omega, show ¬ x.op = 6 by omega, h7, show ¬ x.op = 8 by omega, show ¬ x.op = 9 by omega, show ¬ x.op = 10 by omega, if_false]
        rw [e]; exact go
    rw [this.1, this.2]; omega
theorem stepD_out {c : CodeD} {m : MD} : (stepD c m).out.length ≤ m.out.length + 1 := (effD_out c _ _).1
theorem stepD_inp {c : CodeD} {m : MD} : (stepD c m).inp.length ≤ m.inp.length := (effD_out c _ _).2

/-- one who is told each instruction that was done -/
structure Tell (c : CodeD) (f : Nat) (caps : List AV) (σ : Type) (τ : Type) (vw : σ → τ) (T : σ → List AO → Prop) (P : σ → Nat → Prop) (next : Int → MD → τ → τ) : Prop where
  keep : ∀ s H H', T s H → (∀ (j : Nat) o, H[j]? = some o → P s j → H'[j]? = some o) → T s H'
  bd : ∀ s H j, T s H → P s j → j < H.length
  call : ∀ im ids ou H m (a : Int) s, IM c im ids ou H m → MOk c m → (∀ j, imP im ids ou j → ¬ P s j) → T s H → 0 ≤ a → a < c.ins.length → m.out.length ≤ 1000000 →
    ACall Try.prog f ([.p (.i .i64 a), .ptr im 0] ++ caps) H (fun r H' => ∃ s', vw s' = next a m (vw s) ∧ T s' H' ∧ Fr (P s) (P s') H H')
def tellD (c : CodeD) {σ : Type} (next : Int → MD → σ → σ) : Nat → MD → σ → σ
  | 0, _, s => s
  | n + 1, m, s => if m.fin = none then tellD c next n (stepD c m) (next m.pc (stepD c m) s) else s

theorem imP_lt {c im ids ou H m} (h : IM c im ids ou H m) {j : Nat} (hj : imP im ids ou j) : j < H.length := by
  rcases hj with rfl | ⟨n, hn⟩ | ⟨v, o, n, e⟩
  · exact get_lt h.var
  · obtain ⟨k, hk⟩ := List.getElem?_of_mem hn
    exact get_lt (h.rcs k _ _ hk).2
  · rcases h.out with ⟨e1, e2⟩ | ⟨id, ver, e1, e2⟩
    · rw [e1] at e; cases e
    · rw [e1] at e; cases e; exact get_lt e2

def R0 : List AV := (List.replicate 16 (WD.n 0)).flatMap (wI [])
def S0 : List AV := (List.replicate 64 (WD.n 0)).flatMap (wI [])
set_option maxRecDepth 100000 in
theorem zM_eq : zl45_2 = imR (.p .nl) (.p .nl) (.p .nl) (.p (.i .i64 0)) (.p (.i .i64 0)) R0 S0 (.p (.i .i64 0)) (.p (.i .i64 0)) (.p .nl) (.p (.b false)) := by rfl
theorem imR_s01 {a b inp room pc e cd ou fl v w : AV} {R S : List AV} : splice (imR a b inp room pc R S e cd ou fl) 0 [v, w] = some (imR v w inp room pc R S e cd ou fl) := by
  have := @splice_mid [] [a, b] [v, w] (inp :: room :: pc :: (R ++ (S ++ [e, cd, ou, fl]))) 0 rfl rfl
  exact this
set_option maxRecDepth 100000 in
theorem R0_len : R0.length = 64 := by rfl
set_option maxRecDepth 100000 in
theorem S0_len : S0.length = 256 := by rfl
theorem imR_len {a b inp room pc e cd ou fl : AV} {R S : List AV} (hR : R.length = 64) (hS : S.length = 256) : ((imR a b inp room pc R S e cd ou fl).length == 329) = true := by
  simp [imR, hR, hS]

set_option maxHeartbeats 4000000 in
theorem mRan {c : CodeD} (hok : okCode c) (hc : CFacts c) {inp : List Int} {room : Int} {N : Nat} (hN : N ≤ 300000) (hi : inp.length ≤ 200) (hroom : inD room 0 100000 = true) {f : Nat} {caps : List AV} {σ τ : Type} {vw : σ → τ} {T : σ → List AO → Prop} {P : σ → Nat → Prop} {next : Int → MD → τ → τ}
    (hT : Tell c f caps σ τ vw T P next) {H : List AO} {s0 : σ} (h0 : T s0 H) :
    ACall Try.prog 111 [.st (c.cells.map .p), .p (.l (ints inp)), .p (.i .i64 room), .p (.i .i64 N), .clo f caps] H (fun r H' => ∃ im ids ou, r = .ptr im 0 ∧ IM c im ids ou H' (runD c N (startD inp room)) ∧ MOk c (runD c N (startD inp room)) ∧ ∃ s, vw s = tellD c next N (startD inp room) (vw s0) ∧ T s H') := by
  refine call111 (by simp) ?_
  simp only [go_sem, Nat.reduceEqDiff, reduceIte, ↓reduceIte, Nat.reduceAdd, List.replicate_succ, List.replicate_zero, List.set_cons_zero, List.set_cons_succ, List.length_cons, List.length_nil, Nat.reduceLT, Nat.lt_add_one, ne_eq, Int.reduceEq, not_false_eq_true, Option.map_some, Nat.reduceLeDiff, Nat.zero_lt_succ, List.map_cons, List.map_nil, List.nil_append, List.cons_append, List.append_nil, bytesOf, List.take_succ_cons, List.take_zero, List.drop_zero, and_self, List.append_assoc, List.length_append, Int.reduceLT, Int.reduceLE, Int.toNat_zero, Int.reduceToNat, Int.cast_ofNat_Int, Int.natCast_zero, Int.natCast_one, Int.reduceAdd, List.map_append, Option.bind_some, mc111, mr111, CodeD.cells, zM_eq, imR_s01, imR_s2, imR_s3, imR_len R0_len S0_len]
  have hI : IM c (H.length + 1) [] (.p .nl) (H ++ [.var [.p (.l (inss c.ins)), .p (.l (ints c.starts))], .var (imC c [] (.p .nl) (startD inp room))]) (startD inp room) := by
    refine ⟨by simp, by simp, by simp [startD], fun k id n hk => by simp at hk, .inl ⟨rfl, rfl⟩⟩
  have hT0 : T s0 (H ++ [.var [.p (.l (inss c.ins)), .p (.l (ints c.starts))], .var (imC c [] (.p .nl) (startD inp room))]) := hT.keep _ _ _ h0 fun j o hj _ => get_ext hj _
  have hdis : ∀ j, imP (H.length + 1) [] (.p .nl) j → ¬ P s0 j := by
    rintro j (rfl | ⟨n, hn⟩ | ⟨v, o, n, e⟩) hp
    · have := hT.bd _ _ _ h0 hp; omega
    · simp at hn
    · cases e
  have ee : imC c [] (.p .nl) (startD inp room) = imR (.p (.l (inss c.ins))) (.p (.l (ints c.starts))) (.p (.l (ints inp))) (.p (.i .i64 room)) (.p (.i .i64 0)) R0 S0 (.p (.i .i64 0)) (.p (.i .i64 0)) (.p .nl) (.p (.b false)) := rfl
  rw [← ee]
  generalize H ++ [AO.var [.p (.l (inss c.ins)), .p (.l (ints c.starts))], .var (imC c [] (.p .nl) (startD inp room))] = H1 at hI hT0 ⊢
  generalize H.length + 1 = im at hI hdis ⊢
  have hm0 := startD_ok (c := c) (inp := inp) hroom
  have hp0 := startD_pc hc (inp := inp) (room := room)
  have ho0 : (startD inp room).out.length = 0 := rfl
  have hi0 : (startD inp room).inp.length ≤ 200 := hi
  generalize startD inp room = m0 at *
  clear h0 ee
  refine ⟨Nat × MD × List (Nat × Nat) × AV × σ × List AO, [0, 1, 2, 3, 4, 5, 10, 11], fun x st => IM c im x.2.2.1 x.2.2.2.1 x.2.2.2.2.2 x.2.1 ∧ MOk c x.2.1 ∧ PcOk c x.2.1 ∧ T x.2.2.2.2.1 x.2.2.2.2.2 ∧ (∀ j, imP im x.2.2.1 x.2.2.2.1 j → ¬ P x.2.2.2.2.1 j) ∧ x.2.1.out.length + x.1 ≤ 300000 ∧ x.2.1.inp.length ≤ 200 ∧
      stepsD c x.1 x.2.1 = stepsD c N m0 ∧ tellD c next x.1 x.2.1 (vw x.2.2.2.2.1) = tellD c next N m0 (vw s0) ∧
      st = ⟨[(0, .st [.p (.l (inss c.ins)), .p (.l (ints c.starts))]), (1, .p (.l (ints inp))), (2, .p (.i .i64 room)), (3, .p (.i .i64 x.1)), (4, .clo f caps), (5, .ptr H.length 0), (10, .p .np), (11, .ptr im 0)], [], x.2.2.2.2.2⟩, fun x => x.1, ⟨(N, m0, [], .p .nl, s0, H1), ?_⟩, ?_⟩
  · simp only [go_sem, Nat.reduceEqDiff, reduceIte, ↓reduceIte, Nat.reduceAdd, List.replicate_succ, List.replicate_zero, List.set_cons_zero, List.set_cons_succ, List.length_cons, List.length_nil, Nat.reduceLT, Nat.lt_add_one, ne_eq, Int.reduceEq, not_false_eq_true, Option.map_some, Nat.reduceLeDiff, Nat.zero_lt_succ, List.map_cons, List.map_nil, List.nil_append, List.cons_append, List.append_nil, bytesOf, List.take_succ_cons, List.take_zero, List.drop_zero, and_self, List.append_assoc, List.length_append, Int.reduceLT, Int.reduceLE, Int.toNat_zero, Int.reduceToNat, Int.cast_ofNat_Int, Int.natCast_zero, Int.natCast_one, Int.reduceAdd, List.map_append, Option.bind_some]
    exact ⟨hI, hm0, hp0, hT0, hdis, by omega, hi0⟩
  rintro ⟨n, m, ids, ou, s, H'⟩ st ⟨hM, hm, hpc, hTs, hd, hol, hil, hst, htl, rfl⟩
  simp only at hM hm hpc hTs hd hol hil hst htl
  have stop : (n = 0 ∨ m.fin ≠ none) → stepsD c N m0 = m ∧ tellD c next N m0 (vw s0) = vw s := by
    intro h
    rw [← hst, ← htl]
    cases n with
    | zero => exact ⟨rfl, rfl⟩
    | succ n =>
      rcases h with h | h
      · cases h
      · simp only [stepsD, tellD, h, if_false]
        exact ⟨trivial, trivial⟩
  have finT : m.fin ≠ none → ∃ im' ids ou, AV.ptr im 0 = .ptr im' 0 ∧ IM c im' ids ou H' (runD c N m0) ∧ MOk c (runD c N m0) ∧ ∃ s, vw s = tellD c next N m0 (vw s0) ∧ T s H' := by
    intro hne
    obtain ⟨e1, e2⟩ := stop (.inr hne)
    rw [runD, e1, e2, if_neg hne]
    exact ⟨im, ids, ou, rfl, hM, hm, s, rfl, hTs⟩
  have finF : n = 0 → m.fin = none → ∃ im' ids' ou', AV.ptr im 0 = .ptr im' 0 ∧ IM c im' ids' ou' (H'.set im (.var (imC c ids ou (m.e 3 0)))) (runD c N m0) ∧ MOk c (runD c N m0) ∧ ∃ s, vw s = tellD c next N m0 (vw s0) ∧ T s (H'.set im (.var (imC c ids ou (m.e 3 0)))) := by
    intro h he
    obtain ⟨e1, e2⟩ := stop (.inl h)
    rw [runD, e1, e2, if_pos he]
    exact ⟨im, ids, ou, rfl, hM.put (m.e 3 0) rfl rfl, hm.eOk _ _, s, rfl, hT.keep _ _ _ hTs fun j o hj hp => get_set hj (fun e => hd im (.inl rfl) (e ▸ hp))⟩
  have h328 := @imC_fl c m ids ou hm
  have fsome : m.fin.isSome = true → m.fin ≠ none := by intro h e; rw [e] at h; cases h
  have fnone : m.fin.isSome = false → m.fin = none := by intro h; cases e : m.fin with | none => rfl | some p => rw [e] at h; cases h
  by_cases hn : n = 0
  · have dn : decide ((0 : Int) < (n : Int)) = false := by simp; omega
    cases hb : m.fin.isSome with
    | true =>
      rw [hb] at h328
      simp only [go_sem, Nat.reduceEqDiff, reduceIte, ↓reduceIte, Nat.reduceAdd, List.replicate_succ, List.replicate_zero, List.set_cons_zero, List.set_cons_succ, List.length_cons, List.length_nil, Nat.reduceLT, Nat.lt_add_one, ne_eq, Int.reduceEq, not_false_eq_true, Option.map_some, Nat.reduceLeDiff, Nat.zero_lt_succ, List.map_cons, List.map_nil, List.nil_append, List.cons_append, List.append_nil, bytesOf, List.take_succ_cons, List.take_zero, List.drop_zero, and_self, List.append_assoc, List.length_append, Int.reduceLT, Int.reduceLE, Int.toNat_zero, Int.reduceToNat, Int.cast_ofNat_Int, Int.natCast_zero, Int.natCast_one, Int.reduceAdd, List.map_append, Option.bind_some, dn, hM.var, h328]
      exact finT (fsome hb)
    | false =>
      rw [hb] at h328
      simp only [go_sem, Nat.reduceEqDiff, reduceIte, ↓reduceIte, Nat.reduceAdd, List.replicate_succ, List.replicate_zero, List.set_cons_zero, List.set_cons_succ, List.length_cons, List.length_nil, Nat.reduceLT, Nat.lt_add_one, ne_eq, Int.reduceEq, not_false_eq_true, Option.map_some, Nat.reduceLeDiff, Nat.zero_lt_succ, List.map_cons, List.map_nil, List.nil_append, List.cons_append, List.append_nil, bytesOf, List.take_succ_cons, List.take_zero, List.drop_zero, and_self, List.append_assoc, List.length_append, Int.reduceLT, Int.reduceLE, Int.toNat_zero, Int.reduceToNat, Int.cast_ofNat_Int, Int.natCast_zero, Int.natCast_one, Int.reduceAdd, List.map_append, Option.bind_some, dn, hM.var, h328]
      refine (mEnd hM hm 3 0).mono ?_
      rintro r H2 rfl
      simp only [go_sem, Nat.reduceEqDiff, reduceIte, ↓reduceIte, Nat.reduceAdd, List.replicate_succ, List.replicate_zero, List.set_cons_zero, List.set_cons_succ, List.length_cons, List.length_nil, Nat.reduceLT, Nat.lt_add_one, ne_eq, Int.reduceEq, not_false_eq_true, Option.map_some, Nat.reduceLeDiff, Nat.zero_lt_succ, List.map_cons, List.map_nil, List.nil_append, List.cons_append, List.append_nil, bytesOf, List.take_succ_cons, List.take_zero, List.drop_zero, and_self, List.append_assoc, List.length_append, Int.reduceLT, Int.reduceLE, Int.toNat_zero, Int.reduceToNat, Int.cast_ofNat_Int, Int.natCast_zero, Int.natCast_one, Int.reduceAdd, List.map_append, Option.bind_some]
      exact finF hn (fnone hb)
  have dn : decide ((0 : Int) < (n : Int)) = true := by simp; omega
  cases hb : m.fin.isSome with
  | true =>
    rw [hb] at h328
    simp only [go_sem, Nat.reduceEqDiff, reduceIte, ↓reduceIte, Nat.reduceAdd, List.replicate_succ, List.replicate_zero, List.set_cons_zero, List.set_cons_succ, List.length_cons, List.length_nil, Nat.reduceLT, Nat.lt_add_one, ne_eq, Int.reduceEq, not_false_eq_true, Option.map_some, Nat.reduceLeDiff, Nat.zero_lt_succ, List.map_cons, List.map_nil, List.nil_append, List.cons_append, List.append_nil, bytesOf, List.take_succ_cons, List.take_zero, List.drop_zero, and_self, List.append_assoc, List.length_append, Int.reduceLT, Int.reduceLE, Int.toNat_zero, Int.reduceToNat, Int.cast_ofNat_Int, Int.natCast_zero, Int.natCast_one, Int.reduceAdd, List.map_append, Option.bind_some, dn, hM.var, h328]
    exact finT (fsome hb)
  | false =>
    rw [hb] at h328
    have hf := fnone hb
    obtain ⟨k, rfl⟩ : ∃ k, n = k + 1 := ⟨n - 1, by omega⟩
    obtain ⟨p0, p1⟩ := hpc hf
    simp only [go_sem, Nat.reduceEqDiff, reduceIte, ↓reduceIte, Nat.reduceAdd, List.replicate_succ, List.replicate_zero, List.set_cons_zero, List.set_cons_succ, List.length_cons, List.length_nil, Nat.reduceLT, Nat.lt_add_one, ne_eq, Int.reduceEq, not_false_eq_true, Option.map_some, Nat.reduceLeDiff, Nat.zero_lt_succ, List.map_cons, List.map_nil, List.nil_append, List.cons_append, List.append_nil, bytesOf, List.take_succ_cons, List.take_zero, List.drop_zero, and_self, List.append_assoc, List.length_append, Int.reduceLT, Int.reduceLE, Int.toNat_zero, Int.reduceToNat, Int.cast_ofNat_Int, Int.natCast_zero, Int.natCast_one, Int.reduceAdd, List.map_append, Option.bind_some, dn, hM.var, h328, imC_pc]
    refine (mStep hM hc hm p0 p1 (by omega) (by omega)).mono ?_
    rintro r H2 ⟨ids2, ou2, hM2, hF2⟩
    obtain ⟨hm2, hpc2⟩ := stepD_ok hc hm p0 p1
    have hTs2 : T s H2 := hT.keep _ _ _ hTs fun j o hj hp => hF2.keep j o hj (fun h => hd j h hp)
    have hd2 : ∀ j, imP im ids2 ou2 j → ¬ P s j := by
      intro j hj hp
      rcases hF2.new j hj with h | h
      · exact hd j h hp
      · have := hT.bd _ _ _ hTs hp; omega
    have hlen := stepD_out (c := c) (m := m)
    have hinl := stepD_inp (c := c) (m := m)
    simp only [go_sem, Nat.reduceEqDiff, reduceIte, ↓reduceIte, Nat.reduceAdd, List.replicate_succ, List.replicate_zero, List.set_cons_zero, List.set_cons_succ, List.length_cons, List.length_nil, Nat.reduceLT, Nat.lt_add_one, ne_eq, Int.reduceEq, not_false_eq_true, Option.map_some, Nat.reduceLeDiff, Nat.zero_lt_succ, List.map_cons, List.map_nil, List.nil_append, List.cons_append, List.append_nil, bytesOf, List.take_succ_cons, List.take_zero, List.drop_zero, and_self, List.append_assoc, List.length_append, Int.reduceLT, Int.reduceLE, Int.toNat_zero, Int.reduceToNat, Int.cast_ofNat_Int, Int.natCast_zero, Int.natCast_one, Int.reduceAdd, List.map_append, Option.bind_some]
    refine (hT.call im ids2 ou2 H2 (stepD c m) m.pc s hM2 hm2 hd2 hTs2 p0 p1 (by omega)).mono ?_
    rintro r H3 ⟨s', hvs, hTs3, hF3⟩
    have hM3 : IM c im ids2 ou2 H3 (stepD c m) := hM2.keep fun j o hj hp => hF3.keep j o hj (hd2 j hp)
    have hd3 : ∀ j, imP im ids2 ou2 j → ¬ P s' j := by
      intro j hj hp
      rcases hF3.new j hp with h | h
      · exact hd2 j hj h
      · have := imP_lt hM2 hj; omega
    have es : wr .i64 (((k + 1 : Nat) : Int) - 1) = (k : Int) := by rw [wr64 (by omega) (by omega)]; omega
    simp only [go_sem, Nat.reduceEqDiff, reduceIte, ↓reduceIte, Nat.reduceAdd, List.replicate_succ, List.replicate_zero, List.set_cons_zero, List.set_cons_succ, List.length_cons, List.length_nil, Nat.reduceLT, Nat.lt_add_one, ne_eq, Int.reduceEq, not_false_eq_true, Option.map_some, Nat.reduceLeDiff, Nat.zero_lt_succ, List.map_cons, List.map_nil, List.nil_append, List.cons_append, List.append_nil, bytesOf, List.take_succ_cons, List.take_zero, List.drop_zero, and_self, List.append_assoc, List.length_append, Int.reduceLT, Int.reduceLE, Int.toNat_zero, Int.reduceToNat, Int.cast_ofNat_Int, Int.natCast_zero, Int.natCast_one, Int.reduceAdd, List.map_append, Option.bind_some, es]
    refine ⟨(k, stepD c m, ids2, ou2, s', H3), ⟨hM3, hm2, hpc2, hTs3, hd3, ?_, ?_, ?_, ?_, rfl⟩, by simp⟩
    · simp only; omega
    · simp only; omega
    · simp only
      rw [← hst]
      simp only [stepsD, hf, if_true]
    · simp only
      rw [← htl]
      simp only [tellD, hf, if_true, hvs]
end Go.Proofs.Ytmbggdfceecojaa.Cd

/- The machine of the reference: it runs; Step1 of both. -/
set_option linter.all false
namespace Go.Proofs.Ytmbggdfceecojaa.Cd
open Go.AM Mc Ho

theorem specCodeOk_any (c : CodeD) (hc : okCode c) (H : List AO) : ACall Try.prog 70 [.st (c.cells.map .p)] H (pureQ (.p (.b (codeOk c))) H) :=
  (acall_lend (specCodeOk c hc) (fun r H' h => by subst h; exact grnd_b _) (lentAll_cons (code_lent c) (lentAll_nil _))).mono fun r H' ⟨h1, _, h2⟩ => ⟨h2, h1⟩
theorem l1In_p (x a b : Int) (H : List AO) : ACall Try.prog 122 [.p (.i .i64 x), .p (.i .i64 a), .p (.i .i64 b)] H (pureQ (.p (.b (inD x a b))) H) := (l1In_any x a b).mono fun r H' h => h

def gS (L n : Nat) : SG := ⟨L + 4, L + 1, L + 2, L + 3, [], .p .nl, .p .nl, .gs L 1 0 n⟩
def hS (L n : Nat) (inp : List Int) (room f : Int) : List AO :=
  [.rows 1 1 (intR .i64 inp), .var [.p (.i .i64 f), .gs L 1 0 n, .p .nl, .p (.i .i64 0), .p (.i .i64 0), .p .nl, .p (.b false)], .rows 3 0 (List.replicate 16 [.p (.i .i64 0), .p (.i .i64 0), .p (.s [])]), .rows 3 0 (List.replicate 64 [.p (.i .i64 0), .p (.i .i64 0), .p (.s [])]),
    .var [.ptr (L + 1) 0, .gs (L + 2) 0 0 16, .gs (L + 3) 0 0 64, .p .nl, .p (.i .i64 room), .p (.i .i64 0)]]
theorem smStart (H : List AO) (inp : List Int) (room f : Int) : SM (gS H.length inp.length) f (H ++ hS H.length inp.length inp room f) (startD inp room) where
  mv := by simp [gS, hS]; rfl
  wv := by simp [gS, hS]; rfl
  nd := by simp [gS, SG.ids]
  len := rfl
  rg := by simp [gS, hS]; rfl
  sl := by simp [gS, hS]; rfl
  rc := fun k id hk => by simp [gS] at hk
  hpo := .inl ⟨rfl, rfl⟩
  out := .inl ⟨rfl, rfl⟩
  inp := ⟨H.length, 1, 0, inp, rfl, by simp [hS], rfl⟩
  d1 := fun j h => by cases h
  d2 := fun j h => by cases h
  d3 := fun j h => by cases h

theorem gS_lo {L n j : Nat} (h : smP (gS L n) j) : L ≤ j := by
  rcases h with rfl | rfl | h | h | h | h
  · simp [gS]
  · simp [gS]
  · simp [gS, SG.ids] at h; omega
  · simp [gS, gid] at h
  · simp [gS, gid] at h
  · simp [gS, gid] at h; omega

theorem ints_map (l : List Int) : List.map (fun x => List.map AV.p x) (ints l) = intR .i64 l := by simp [ints, intR]

set_option maxHeartbeats 4000000 in
theorem sRun {c : CodeD} (hok : okCode c) {inp : List Int} (hil : inp.length ≤ 1048576) (room steps : Int) (H : List AO) :
    ACall Try.prog 109 [.st (c.cells.map .p), .p (.l (ints inp)), .p (.i .i64 room), .p (.i .i64 steps)] H (fun r H' => (∀ (j : Nat) o, H[j]? = some o → H'[j]? = some o) ∧ ((runOk c inp room steps = true ∧ ∃ g f, r = .tup [.ptr g.im 0, .p (.b true)] ∧ SM g f H' (runD c steps.toNat (startD inp room)) ∧ MOk c (runD c steps.toNat (startD inp room))) ∨ (runOk c inp room steps = false ∧ ∃ a, r = .tup [a, .p (.b false)]))) := by
  refine call109 (by simp) ?_
  simp only [go_sem, Nat.reduceEqDiff, reduceIte, ↓reduceIte, Nat.reduceAdd, List.replicate_succ, List.replicate_zero, List.set_cons_zero, List.set_cons_succ, List.length_cons, List.length_nil, Nat.reduceLT, Nat.lt_add_one, ne_eq, Int.reduceEq, not_false_eq_true, Option.map_some, Nat.reduceLeDiff, Nat.zero_lt_succ, List.map_cons, List.map_nil, List.nil_append, List.cons_append, List.append_nil, bytesOf, List.take_succ_cons, List.take_zero, List.drop_zero, and_self, List.append_assoc, List.length_append, Int.reduceLT, Int.reduceLE, Int.toNat_zero, Int.reduceToNat, Int.cast_ofNat_Int, Int.natCast_zero, Int.natCast_one, Int.reduceAdd, List.map_append, Option.bind_some, mc109, mr109, CodeD.cells]
  have h4 : (H ++ [.var [.p (.l (inss c.ins)), .p (.l (ints c.starts))]])[H.length]? = some (.var [.p (.l (inss c.ins)), .p (.l (ints c.starts))]) := get_off0 _ _
  have hk1 : ∀ (j : Nat) o, H[j]? = some o → (H ++ [AO.var [.p (.l (inss c.ins)), .p (.l (ints c.starts))]])[j]? = some o := fun j o h => get_ext h _
  have hl1 : H.length ≤ (H ++ [AO.var [.p (.l (inss c.ins)), .p (.l (ints c.starts))]]).length := by simp
  have hlH : ∀ (j : Nat) o, H[j]? = some o → j < H.length := fun j o h => get_lt h
  generalize H ++ [AO.var [.p (.l (inss c.ins)), .p (.l (ints c.starts))]] = H1 at h4 hk1 hl1 ⊢
  generalize hLb : H.length = b4 at h4 ⊢
  generalize hLn : H.length = L0 at hl1 hlH
  clear hLb
  refine drw_same ?_
  simp only [go_sem, Nat.reduceEqDiff, reduceIte, ↓reduceIte, Nat.reduceAdd, List.replicate_succ, List.replicate_zero, List.set_cons_zero, List.set_cons_succ, List.length_cons, List.length_nil, Nat.reduceLT, Nat.lt_add_one, ne_eq, Int.reduceEq, not_false_eq_true, Option.map_some, Nat.reduceLeDiff, Nat.zero_lt_succ, List.map_cons, List.map_nil, List.nil_append, List.cons_append, List.append_nil, bytesOf, List.take_succ_cons, List.take_zero, List.drop_zero, and_self, List.append_assoc, List.length_append, Int.reduceLT, Int.reduceLE, Int.toNat_zero, Int.reduceToNat, Int.cast_ofNat_Int, Int.natCast_zero, Int.natCast_one, Int.reduceAdd, List.map_append, Option.bind_some, ints_map, Nat.add_zero, zl45_0, zl45_1]
  refine appnR_new 1 8 0 0 0 (intR .i64 inp) [] rfl (intR_len1 _ _) (Nat.le_refl _) (by simp [intR]; omega) (by simp [intR]; omega) ?_
  have hlen : (intR .i64 inp).length = inp.length := by simp [intR]
  have hs0 := smStart H1 inp room steps
  have h40 := get_ext h4 (hS H1.length inp.length inp room steps)
  have hk2 : ∀ (j : Nat) o, H[j]? = some o → (H1 ++ hS H1.length inp.length inp room steps)[j]? = some o := fun j o h => get_ext (hk1 j o h) _
  have hl2 : L0 ≤ (H1 ++ hS H1.length inp.length inp room steps).length := by simp; omega
  have hlo0 : ∀ j, smP (gS H1.length inp.length) j → L0 ≤ j := fun j h => by have := gS_lo h; omega
  clear hk1 hl1
  simp only [hS] at hs0 h40 hk2 hl2
  simp only [go_sem, Nat.reduceEqDiff, reduceIte, ↓reduceIte, Nat.reduceAdd, List.set_cons_zero, List.set_cons_succ, List.length_cons, List.length_nil, Nat.reduceLT, Nat.lt_add_one, ne_eq, Int.reduceEq, not_false_eq_true, Option.map_some, Nat.reduceLeDiff, Nat.zero_lt_succ, List.map_cons, List.map_nil, List.nil_append, List.cons_append, List.append_nil, bytesOf, List.take_succ_cons, List.take_zero, List.drop_zero, and_self, List.append_assoc, List.length_append, Int.reduceLT, Int.reduceLE, Int.toNat_zero, Int.reduceToNat, Int.cast_ofNat_Int, Int.natCast_zero, Int.natCast_one, Int.reduceAdd, List.map_append, Option.bind_some, Nat.add_zero, hlen, Nat.zero_add, List.set_cons_zero, Int.reduceMul]
  generalize H1 ++ [AO.rows 1 1 (intR .i64 inp), .var [.p (.i .i64 steps), .gs H1.length 1 0 inp.length, .p .nl, .p (.i .i64 0), .p (.i .i64 0), .p .nl, .p (.b false)], .rows 3 0 (List.replicate 16 [.p (.i .i64 0), .p (.i .i64 0), .p (.s [])]), .rows 3 0 (List.replicate 64 [.p (.i .i64 0), .p (.i .i64 0), .p (.s [])]),
    .var [.ptr (H1.length + 1) 0, .gs (H1.length + 2) 0 0 16, .gs (H1.length + 3) 0 0 64, .p .nl, .p (.i .i64 room), .p (.i .i64 0)]] = H2 at hs0 h40 hk2 hl2 ⊢
  have hg4 : (gS H1.length inp.length).im = H1.length + 4 := rfl
  rw [← hg4]
  generalize gS H1.length inp.length = g0 at hs0 hlo0 ⊢
  have hilm : inp.length ≤ maxL := by unfold maxL; omega
  simp only [go_sem, Nat.reduceEqDiff, reduceIte, ↓reduceIte, Nat.reduceAdd, List.replicate_succ, List.replicate_zero, List.set_cons_zero, List.set_cons_succ, List.length_cons, List.length_nil, Nat.reduceLT, Nat.lt_add_one, ne_eq, Int.reduceEq, not_false_eq_true, Option.map_some, Nat.reduceLeDiff, Nat.zero_lt_succ, List.map_cons, List.map_nil, List.nil_append, List.cons_append, List.append_nil, bytesOf, List.take_succ_cons, List.take_zero, List.drop_zero, and_self, List.append_assoc, List.length_append, Int.reduceLT, Int.reduceLE, Int.toNat_zero, Int.reduceToNat, Int.cast_ofNat_Int, Int.natCast_zero, Int.natCast_one, Int.reduceAdd, List.map_append, Option.bind_some, h40]
  refine acall_pure (specCodeOk_any c hok _) ?_
  cases h1 : codeOk c
  · simp only [go_sem, Nat.reduceEqDiff, reduceIte, ↓reduceIte, Nat.reduceAdd, List.replicate_succ, List.replicate_zero, List.set_cons_zero, List.set_cons_succ, List.length_cons, List.length_nil, Nat.reduceLT, Nat.lt_add_one, ne_eq, Int.reduceEq, not_false_eq_true, Option.map_some, Nat.reduceLeDiff, Nat.zero_lt_succ, List.map_cons, List.map_nil, List.nil_append, List.cons_append, List.append_nil, bytesOf, List.take_succ_cons, List.take_zero, List.drop_zero, and_self, List.append_assoc, List.length_append, Int.reduceLT, Int.reduceLE, Int.toNat_zero, Int.reduceToNat, Int.cast_ofNat_Int, Int.natCast_zero, Int.natCast_one, Int.reduceAdd, List.map_append, Option.bind_some]
    exact ⟨hk2, .inr ⟨by simp [runOk, h1], _, rfl⟩⟩
  simp only [go_sem, Nat.reduceEqDiff, reduceIte, ↓reduceIte, Nat.reduceAdd, List.replicate_succ, List.replicate_zero, List.set_cons_zero, List.set_cons_succ, List.length_cons, List.length_nil, Nat.reduceLT, Nat.lt_add_one, ne_eq, Int.reduceEq, not_false_eq_true, Option.map_some, Nat.reduceLeDiff, Nat.zero_lt_succ, List.map_cons, List.map_nil, List.nil_append, List.cons_append, List.append_nil, bytesOf, List.take_succ_cons, List.take_zero, List.drop_zero, and_self, List.append_assoc, List.length_append, Int.reduceLT, Int.reduceLE, Int.toNat_zero, Int.reduceToNat, Int.cast_ofNat_Int, Int.natCast_zero, Int.natCast_one, Int.reduceAdd, List.map_append, Option.bind_some, ints_len]
  intro _
  by_cases h2 : inp.length ≤ 200
  case neg =>
    have d2 : decide ((200 : Int) < (inp.length : Int)) = true := by simp; omega
    simp only [go_sem, Nat.reduceEqDiff, reduceIte, ↓reduceIte, Nat.reduceAdd, List.replicate_succ, List.replicate_zero, List.set_cons_zero, List.set_cons_succ, List.length_cons, List.length_nil, Nat.reduceLT, Nat.lt_add_one, ne_eq, Int.reduceEq, not_false_eq_true, Option.map_some, Nat.reduceLeDiff, Nat.zero_lt_succ, List.map_cons, List.map_nil, List.nil_append, List.cons_append, List.append_nil, bytesOf, List.take_succ_cons, List.take_zero, List.drop_zero, and_self, List.append_assoc, List.length_append, Int.reduceLT, Int.reduceLE, Int.toNat_zero, Int.reduceToNat, Int.cast_ofNat_Int, Int.natCast_zero, Int.natCast_one, Int.reduceAdd, List.map_append, Option.bind_some, d2]
    exact ⟨hk2, .inr ⟨by simp [runOk, h2], _, rfl⟩⟩
  have d2 : decide ((200 : Int) < (inp.length : Int)) = false := by simp; omega
  simp only [go_sem, Nat.reduceEqDiff, reduceIte, ↓reduceIte, Nat.reduceAdd, List.replicate_succ, List.replicate_zero, List.set_cons_zero, List.set_cons_succ, List.length_cons, List.length_nil, Nat.reduceLT, Nat.lt_add_one, ne_eq, Int.reduceEq, not_false_eq_true, Option.map_some, Nat.reduceLeDiff, Nat.zero_lt_succ, List.map_cons, List.map_nil, List.nil_append, List.cons_append, List.append_nil, bytesOf, List.take_succ_cons, List.take_zero, List.drop_zero, and_self, List.append_assoc, List.length_append, Int.reduceLT, Int.reduceLE, Int.toNat_zero, Int.reduceToNat, Int.cast_ofNat_Int, Int.natCast_zero, Int.natCast_one, Int.reduceAdd, List.map_append, Option.bind_some, d2]
  refine acall_pure (l1In_p _ _ _ _) ?_
  cases h3 : inD room 0 100000
  · simp only [go_sem, Nat.reduceEqDiff, reduceIte, ↓reduceIte, Nat.reduceAdd, List.replicate_succ, List.replicate_zero, List.set_cons_zero, List.set_cons_succ, List.length_cons, List.length_nil, Nat.reduceLT, Nat.lt_add_one, ne_eq, Int.reduceEq, not_false_eq_true, Option.map_some, Nat.reduceLeDiff, Nat.zero_lt_succ, List.map_cons, List.map_nil, List.nil_append, List.cons_append, List.append_nil, bytesOf, List.take_succ_cons, List.take_zero, List.drop_zero, and_self, List.append_assoc, List.length_append, Int.reduceLT, Int.reduceLE, Int.toNat_zero, Int.reduceToNat, Int.cast_ofNat_Int, Int.natCast_zero, Int.natCast_one, Int.reduceAdd, List.map_append, Option.bind_some]
    exact ⟨hk2, .inr ⟨by simp [runOk, h3], _, rfl⟩⟩
  simp only [go_sem, Nat.reduceEqDiff, reduceIte, ↓reduceIte, Nat.reduceAdd, List.replicate_succ, List.replicate_zero, List.set_cons_zero, List.set_cons_succ, List.length_cons, List.length_nil, Nat.reduceLT, Nat.lt_add_one, ne_eq, Int.reduceEq, not_false_eq_true, Option.map_some, Nat.reduceLeDiff, Nat.zero_lt_succ, List.map_cons, List.map_nil, List.nil_append, List.cons_append, List.append_nil, bytesOf, List.take_succ_cons, List.take_zero, List.drop_zero, and_self, List.append_assoc, List.length_append, Int.reduceLT, Int.reduceLE, Int.toNat_zero, Int.reduceToNat, Int.cast_ofNat_Int, Int.natCast_zero, Int.natCast_one, Int.reduceAdd, List.map_append, Option.bind_some]
  refine acall_pure (l1In_p _ _ _ _) ?_
  cases h5 : inD steps 0 300000
  · simp only [go_sem, Nat.reduceEqDiff, reduceIte, ↓reduceIte, Nat.reduceAdd, List.replicate_succ, List.replicate_zero, List.set_cons_zero, List.set_cons_succ, List.length_cons, List.length_nil, Nat.reduceLT, Nat.lt_add_one, ne_eq, Int.reduceEq, not_false_eq_true, Option.map_some, Nat.reduceLeDiff, Nat.zero_lt_succ, List.map_cons, List.map_nil, List.nil_append, List.cons_append, List.append_nil, bytesOf, List.take_succ_cons, List.take_zero, List.drop_zero, and_self, List.append_assoc, List.length_append, Int.reduceLT, Int.reduceLE, Int.toNat_zero, Int.reduceToNat, Int.cast_ofNat_Int, Int.natCast_zero, Int.natCast_one, Int.reduceAdd, List.map_append, Option.bind_some]
    exact ⟨hk2, .inr ⟨by simp [runOk, h5], _, rfl⟩⟩
  have hro : runOk c inp room steps = true := by simp [runOk, h1, h2, h3, h5]
  have hc := codeOk_facts h1
  obtain ⟨N, rfl⟩ : ∃ N : Nat, steps = (N : Int) := by
    simp only [inD, Bool.and_eq_true, decide_eq_true_eq] at h5
    exact ⟨steps.toNat, by omega⟩
  have hN : N ≤ 300000 := by simp only [inD, Bool.and_eq_true, decide_eq_true_eq] at h5; omega
  rw [hro, Int.toNat_natCast]
  have hm0 := startD_ok (c := c) (inp := inp) h3
  have hp0 := startD_pc hc (inp := inp) (room := room)
  have ho0 : (startD inp room).out.length = 0 := rfl
  have hi0 : (startD inp room).inp.length ≤ 200 := h2
  generalize startD inp room = m0 at *
  simp only [go_sem, Nat.reduceEqDiff, reduceIte, ↓reduceIte, Nat.reduceAdd, List.replicate_succ, List.replicate_zero, List.set_cons_zero, List.set_cons_succ, List.length_cons, List.length_nil, Nat.reduceLT, Nat.lt_add_one, ne_eq, Int.reduceEq, not_false_eq_true, Option.map_some, Nat.reduceLeDiff, Nat.zero_lt_succ, List.map_cons, List.map_nil, List.nil_append, List.cons_append, List.append_nil, bytesOf, List.take_succ_cons, List.take_zero, List.drop_zero, and_self, List.append_assoc, List.length_append, Int.reduceLT, Int.reduceLE, Int.toNat_zero, Int.reduceToNat, Int.cast_ofNat_Int, Int.natCast_zero, Int.natCast_one, Int.reduceAdd, List.map_append, Option.bind_some]
  refine ⟨Nat × MD × SG × List AO, [0, 1, 2, 3, 4, 8, 9, 10], fun x st => SM x.2.2.1 x.1 x.2.2.2 x.2.1 ∧ x.2.2.1.im = g0.im ∧ x.2.2.1.iw = g0.iw ∧ MOk c x.2.1 ∧ PcOk c x.2.1 ∧ x.2.1.out.length + x.1 ≤ 300000 ∧ x.2.1.inp.length ≤ 200 ∧ x.2.2.2[b4]? = some (.var [.p (.l (inss c.ins)), .p (.l (ints c.starts))]) ∧
      stepsD c x.1 x.2.1 = stepsD c N m0 ∧ (∀ (j : Nat) o, H[j]? = some o → x.2.2.2[j]? = some o) ∧ L0 ≤ x.2.2.2.length ∧ (∀ j, smP x.2.2.1 j → L0 ≤ j) ∧
      st = ⟨[(0, .st [.p (.l (inss c.ins)), .p (.l (ints c.starts))]), (1, .p (.l (ints inp))), (2, .p (.i .i64 room)), (3, .p (.i .i64 N)), (4, .ptr b4 0), (8, .p .np), (9, .p (.b false)), (10, .ptr g0.im 0)], [], x.2.2.2⟩, fun x => x.1, ⟨(N, m0, g0, H2), ?_⟩, ?_⟩
  · simp only [go_sem, Nat.reduceEqDiff, reduceIte, ↓reduceIte, Nat.reduceAdd, List.replicate_succ, List.replicate_zero, List.set_cons_zero, List.set_cons_succ, List.length_cons, List.length_nil, Nat.reduceLT, Nat.lt_add_one, ne_eq, Int.reduceEq, not_false_eq_true, Option.map_some, Nat.reduceLeDiff, Nat.zero_lt_succ, List.map_cons, List.map_nil, List.nil_append, List.cons_append, List.append_nil, bytesOf, List.take_succ_cons, List.take_zero, List.drop_zero, and_self, List.append_assoc, List.length_append, Int.reduceLT, Int.reduceLE, Int.toNat_zero, Int.reduceToNat, Int.cast_ofNat_Int, Int.natCast_zero, Int.natCast_one, Int.reduceAdd, List.map_append, Option.bind_some]
    exact ⟨hs0, hm0, hp0, by omega, hi0, h40, hk2, hl2, hlo0⟩
  rintro ⟨n, m, g, H'⟩ st ⟨hM, him, hiw, hm, hpc, hol, hil, hb4, hst, hkp, hlL, hlo, rfl⟩
  simp only at hM him hiw hm hpc hol hil hb4 hst hkp hlL hlo
  have stop : (n = 0 ∨ m.fin ≠ none) → stepsD c N m0 = m := by
    intro h
    rw [← hst]
    cases n with
    | zero => rfl
    | succ n =>
      rcases h with h | h
      · cases h
      · simp only [stepsD, h, if_false]
  have hmv := hM.mv
  have hwv := hM.wv
  simp only [mCl] at hmv
  simp only [wCl] at hwv
  rw [him, hiw] at hmv
  rw [hiw] at hwv
  have nt4 : ¬ smP g b4 := hM.notin hb4 (by intro e; simp [mCl] at e) (by simp)
  by_cases hf : m.fin = none
  case neg =>
    have hb : m.fin.isSome = true := by cases e : m.fin with | none => exact absurd e hf | some p => rfl
    rw [hb] at hwv
    simp only [go_sem, Nat.reduceEqDiff, reduceIte, ↓reduceIte, Nat.reduceAdd, List.replicate_succ, List.replicate_zero, List.set_cons_zero, List.set_cons_succ, List.length_cons, List.length_nil, Nat.reduceLT, Nat.lt_add_one, ne_eq, Int.reduceEq, not_false_eq_true, Option.map_some, Nat.reduceLeDiff, Nat.zero_lt_succ, List.map_cons, List.map_nil, List.nil_append, List.cons_append, List.append_nil, bytesOf, List.take_succ_cons, List.take_zero, List.drop_zero, and_self, List.append_assoc, List.length_append, Int.reduceLT, Int.reduceLE, Int.toNat_zero, Int.reduceToNat, Int.cast_ofNat_Int, Int.natCast_zero, Int.natCast_one, Int.reduceAdd, List.map_append, Option.bind_some, hmv, hwv]
    rw [runD, stop (.inr hf), if_neg hf]
    exact ⟨hkp, .inl ⟨g, n, by rw [him], hM, hm⟩⟩
  have hb : m.fin.isSome = false := by rw [hf]; rfl
  rw [hb] at hwv
  by_cases hn : n = 0
  · simp only [go_sem, Nat.reduceEqDiff, reduceIte, ↓reduceIte, Nat.reduceAdd, List.replicate_succ, List.replicate_zero, List.set_cons_zero, List.set_cons_succ, List.length_cons, List.length_nil, Nat.reduceLT, Nat.lt_add_one, ne_eq, Int.reduceEq, not_false_eq_true, Option.map_some, Nat.reduceLeDiff, Nat.zero_lt_succ, List.map_cons, List.map_nil, List.nil_append, List.cons_append, List.append_nil, bytesOf, List.take_succ_cons, List.take_zero, List.drop_zero, and_self, List.append_assoc, List.length_append, Int.reduceLT, Int.reduceLE, Int.toNat_zero, Int.reduceToNat, Int.cast_ofNat_Int, Int.natCast_zero, Int.natCast_one, Int.reduceAdd, List.map_append, Option.bind_some, hmv, hwv]
    have hsp := sSpends0 hM hf (by rw [hn]; rfl)
    rw [hiw] at hsp
    refine acall_pure hsp ?_
    simp only [go_sem, Nat.reduceEqDiff, reduceIte, ↓reduceIte, Nat.reduceAdd, List.replicate_succ, List.replicate_zero, List.set_cons_zero, List.set_cons_succ, List.length_cons, List.length_nil, Nat.reduceLT, Nat.lt_add_one, ne_eq, Int.reduceEq, not_false_eq_true, Option.map_some, Nat.reduceLeDiff, Nat.zero_lt_succ, List.map_cons, List.map_nil, List.nil_append, List.cons_append, List.append_nil, bytesOf, List.take_succ_cons, List.take_zero, List.drop_zero, and_self, List.append_assoc, List.length_append, Int.reduceLT, Int.reduceLE, Int.toNat_zero, Int.reduceToNat, Int.cast_ofNat_Int, Int.natCast_zero, Int.natCast_one, Int.reduceAdd, List.map_append, Option.bind_some]
    rw [runD, stop (.inl hn), if_pos hf]
    refine ⟨fun j o h => get_set (hkp j o h) (fun e => by have := hlo _ (.inr (.inl hiw.symm)); have := hlH j o h; omega), .inl ⟨g, 0, by rw [him], ?_, hm.eOk _ _⟩⟩
    rw [hn, ← hiw]
    exact hM.putW 0 (some (3, 0))
  · obtain ⟨k, rfl⟩ : ∃ k, n = k + 1 := ⟨n - 1, by omega⟩
    obtain ⟨p0, p1⟩ := hpc hf
    simp only [go_sem, Nat.reduceEqDiff, reduceIte, ↓reduceIte, Nat.reduceAdd, List.replicate_succ, List.replicate_zero, List.set_cons_zero, List.set_cons_succ, List.length_cons, List.length_nil, Nat.reduceLT, Nat.lt_add_one, ne_eq, Int.reduceEq, not_false_eq_true, Option.map_some, Nat.reduceLeDiff, Nat.zero_lt_succ, List.map_cons, List.map_nil, List.nil_append, List.cons_append, List.append_nil, bytesOf, List.take_succ_cons, List.take_zero, List.drop_zero, and_self, List.append_assoc, List.length_append, Int.reduceLT, Int.reduceLE, Int.toNat_zero, Int.reduceToNat, Int.cast_ofNat_Int, Int.natCast_zero, Int.natCast_one, Int.reduceAdd, List.map_append, Option.bind_some, hmv, hwv]
    have hsp := sSpends1 hM (f := ((k + 1 : Nat) : Int)) (by omega) (by omega)
    have ek : (((k + 1 : Nat) : Int) - 1) = (k : Int) := by omega
    rw [hiw, ek] at hsp
    refine acall_pure hsp ?_
    have hM2 : SM g k (H'.set g.iw (.var (wCl g k m))) m := hM.putW k m.fin
    rw [hiw] at hM2
    have hb42 : (H'.set g0.iw (.var (wCl g k m)))[b4]? = _ := get_set hb4 (fun e => nt4 (.inr (.inl (by rw [hiw]; exact e.symm))))
    have hkp2 : ∀ (j : Nat) o, H[j]? = some o → (H'.set g0.iw (.var (wCl g k m)))[j]? = some o := fun j o h => get_set (hkp j o h) (fun e => by have := hlo _ (.inr (.inl hiw.symm)); have := hlH j o h; omega)
    have hlL2 : L0 ≤ (H'.set g0.iw (.var (wCl g k m))).length := by simp; exact hlL
    generalize H'.set g0.iw (.var (wCl g k m)) = H3 at hM2 hb42 hkp2 hlL2 ⊢
    have hmv2 := hM2.mv
    simp only [mCl] at hmv2
    rw [him, hiw] at hmv2
    have hg : (inss c.ins)[m.pc.toNat]? = some (insAt c m.pc).cells := by rw [inss, List.getElem?_map, insAt_get p0 p1]; rfl
    have hx := hc.ins _ (insAt_mem p0 p1)
    have hle := hc.len
    simp only [go_sem, Nat.reduceEqDiff, reduceIte, ↓reduceIte, Nat.reduceAdd, List.replicate_succ, List.replicate_zero, List.set_cons_zero, List.set_cons_succ, List.length_cons, List.length_nil, Nat.reduceLT, Nat.lt_add_one, ne_eq, Int.reduceEq, not_false_eq_true, Option.map_some, Nat.reduceLeDiff, Nat.zero_lt_succ, List.map_cons, List.map_nil, List.nil_append, List.cons_append, List.append_nil, bytesOf, List.take_succ_cons, List.take_zero, List.drop_zero, and_self, List.append_assoc, List.length_append, Int.reduceLT, Int.reduceLE, Int.toNat_zero, Int.reduceToNat, Int.cast_ofNat_Int, Int.natCast_zero, Int.natCast_one, Int.reduceAdd, List.map_append, Option.bind_some]
    refine drw_same ?_
    simp only [go_sem, Nat.reduceEqDiff, reduceIte, ↓reduceIte, Nat.reduceAdd, List.replicate_succ, List.replicate_zero, List.set_cons_zero, List.set_cons_succ, List.length_cons, List.length_nil, Nat.reduceLT, Nat.lt_add_one, ne_eq, Int.reduceEq, not_false_eq_true, Option.map_some, Nat.reduceLeDiff, Nat.zero_lt_succ, List.map_cons, List.map_nil, List.nil_append, List.cons_append, List.append_nil, bytesOf, List.take_succ_cons, List.take_zero, List.drop_zero, and_self, List.append_assoc, List.length_append, Int.reduceLT, Int.reduceLE, Int.toNat_zero, Int.reduceToNat, Int.cast_ofNat_Int, Int.natCast_zero, Int.natCast_one, Int.reduceAdd, List.map_append, Option.bind_some, hb42, hmv2, p0, hg, ins_clen, List.length_map, ins_take]
    have hdo := sDoes hM2 hc hm hf hx ⟨p0, by omega⟩ (by omega) (by omega)
    rw [him] at hdo
    refine hdo.mono ?_
    rintro r H4 ⟨g', q1, q2, q3, q4⟩
    obtain ⟨hm3, hpc3⟩ := stepD_ok hc hm p0 p1
    have hlen := stepD_out (c := c) (m := m)
    have hinl := stepD_inp (c := c) (m := m)
    simp only [go_sem, Nat.reduceEqDiff, reduceIte, ↓reduceIte, Nat.reduceAdd, List.replicate_succ, List.replicate_zero, List.set_cons_zero, List.set_cons_succ, List.length_cons, List.length_nil, Nat.reduceLT, Nat.lt_add_one, ne_eq, Int.reduceEq, not_false_eq_true, Option.map_some, Nat.reduceLeDiff, Nat.zero_lt_succ, List.map_cons, List.map_nil, List.nil_append, List.cons_append, List.append_nil, bytesOf, List.take_succ_cons, List.take_zero, List.drop_zero, and_self, List.append_assoc, List.length_append, Int.reduceLT, Int.reduceLE, Int.toNat_zero, Int.reduceToNat, Int.cast_ofNat_Int, Int.natCast_zero, Int.natCast_one, Int.reduceAdd, List.map_append, Option.bind_some]
    refine ⟨(k, stepD c m, g', H4), ⟨q1, q3, by rw [q4, hiw], hm3, hpc3, by simp only; omega, by simp only; omega, q2.keep _ _ hb42 nt4, ?_, fun j o h => q2.keep _ _ (hkp2 j o h) (fun hp => by have := hlo _ hp; have := hlH j o h; omega), Nat.le_trans hlL2 q2.len, fun j hp => (q2.new _ hp).elim (hlo j) (fun h => Nat.le_trans hlL2 h), rfl⟩, by simp⟩
    simp only
    rw [← hst]
    simp only [stepsD, hf, if_true]
end Go.Proofs.Ytmbggdfceecojaa.Cd

/- Step1, of both. -/
set_option linter.all false
namespace Go.Proofs.Ytmbggdfceecojaa.Cd
open Go.AM Mc Ho

def finM (c : CodeD) (inp : List Int) (room steps : Int) : MD := runD c steps.toNat (startD inp room)
theorem runOk_facts {c : CodeD} {inp : List Int} {room steps : Int} (h : runOk c inp room steps = true) :
    CFacts c ∧ inp.length ≤ 200 ∧ inD room 0 100000 = true ∧ ∃ N : Nat, steps = N ∧ N ≤ 300000 := by
  unfold runOk at h
  simp only [Bool.and_eq_true, decide_eq_true_eq] at h
  obtain ⟨⟨⟨h1, h2⟩, h3⟩, h4⟩ := h
  refine ⟨codeOk_facts h1, h2, h3, steps.toNat, ?_⟩
  simp only [inD, Bool.and_eq_true, decide_eq_true_eq] at h4
  omega

theorem step_args {H : List AO} {c : CodeD} {inp : List Int} {room steps : Int} {a b : AV} (ha : Lent H a (.st (c.cells.map .p))) (hb : Lent H b (.p (.l (ints inp)))) :
    LentAll H [a, b, .p (.i .i64 room), .p (.i .i64 steps)] [.st (c.cells.map .p), .p (.l (ints inp)), .p (.i .i64 room), .p (.i .i64 steps)] :=
  lentAll_cons ha (lentAll_cons hb (lentAll_cons (.pure _) (lentAll_cons (.pure _) (lentAll_nil _))))
end Go.Proofs.Ytmbggdfceecojaa.Cd

/- THE SMALL CODES of functions 9 10 11 13 46 47 50 51 52 53 54 59 60 61 62 63 113 116 117 120 121, and their ties to the program (printed by wip/tools/mkties2.py). -/
set_option linter.all false
namespace Go.Proofs.Ytmbggdfceecojaa.Mc
open Go.AM
/- laws.FnExactStep1 -/
/- laws.FnExactProfile -/
/- laws.FnExactRunCode -/
def lv11 : List Nat := [0, 1, 2, 3, 4, 8, 9, 10, 11, 12, 13, 14, 15, 16, 17, 20, 25, 45, 50, 55, 69, 77, 80, 91, 96, 99]
def mc11 : MC :=
.seq (.reg [
 ⟨.l 4, .box 2 (.l 0), none⟩,
 ⟨.l 8, .mv (.c (.p (.b false))), none⟩]) (
 .seq (.seq (.reg [
 ⟨.t 18, .mv (.l 1), none⟩,
 ⟨.t 19, .len false (.t 18), none⟩,
 ⟨.l 20, .bin .gtr (.t 19) (.c (.p (.i .i64 1048576))), none⟩]) (
 .cond (.l 20) (
 .seq (.reg [
 ⟨.l 8, .mv (.c (.p (.b true))), none⟩]) (
 .ret)) (
 .skip))) (
 .seq (.reg [
 ⟨.l 9, .mv (.c (.p (.i .i64 1048576))), none⟩]) (
 .seq (.reg [
 ⟨.t 21, .ld true 2 (.l 4), none⟩,
 ⟨.t 22, .mv (.l 9), none⟩,
 ⟨.t 23, .call 19 [.t 21, .t 22], none⟩,
 ⟨.l 9, .mv (.t 23), none⟩]) (
 .seq (.seq (.reg [
 ⟨.t 24, .mv (.l 9), none⟩,
 ⟨.l 25, .bin .lss (.t 24) (.c (.p (.i .i64 0))), none⟩]) (
 .cond (.l 25) (
 .seq (.reg [
 ⟨.l 8, .mv (.c (.p (.b true))), none⟩]) (
 .ret)) (
 .skip))) (
 .seq (.reg [
 ⟨.t 26, .ld true 2 (.l 4), none⟩,
 ⟨.t 27, .call 21 [.t 26], none⟩,
 ⟨.t 28, .mv (.l 1), none⟩,
 ⟨.t 29, .call 16 [.t 28], none⟩,
 ⟨.t 30, .mv (.l 2), none⟩,
 ⟨.t 31, .mv (.l 3), none⟩,
 ⟨.t 32, .call 50 [.t 27, .t 29, .t 30, .t 31], none⟩,
 ⟨.l 10, .alloc [.p (.i .i64 0), .p (.i .i64 0), .p (.nl)], none⟩,
 ⟨.no, .sto 3 (.l 10) (.t 32), none⟩]) (
 .seq (.reg [
 ⟨.t 33, .ld true 2 (.l 4), none⟩,
 ⟨.t 34, .call 21 [.t 33], none⟩,
 ⟨.l 11, .alloc [.p (.nl), .p (.nl)], none⟩,
 ⟨.no, .sto 2 (.l 11) (.t 34), none⟩]) (
 .seq (.reg [
 ⟨.t 35, .mv (.l 1), none⟩,
 ⟨.t 36, .call 16 [.t 35], none⟩,
 ⟨.l 12, .mv (.t 36), none⟩]) (
 .seq (.reg [
 ⟨.t 37, .ld true 2 (.l 11), none⟩,
 ⟨.t 38, .mv (.l 12), none⟩,
 ⟨.t 39, .mv (.l 2), none⟩,
 ⟨.t 40, .mv (.l 3), none⟩,
 ⟨.t 41, .call 51 [.t 37, .t 38, .t 39, .t 40], none⟩,
 ⟨.l 13, .alloc [.p (.i .i64 0), .p (.i .i64 0), .p (.nl)], none⟩,
 ⟨.no, .sto 3 (.l 13) (.t 41), none⟩]) (
 .seq (.seq (.reg [
 ⟨.t 42, .ld true 3 (.l 13), none⟩,
 ⟨.t 43, .ld true 3 (.l 10), none⟩,
 ⟨.t 44, .call 52 [.t 42, .t 43], none⟩,
 ⟨.l 45, .un .not (.t 44), none⟩]) (
 .cond (.l 45) (
 .seq (.reg [
 ⟨.l 8, .mv (.c (.p (.b false))), none⟩]) (
 .ret)) (
 .skip))) (
 .seq (.seq (.drw [
 ⟨.t 46, .ld true 2 (.l 11), none⟩,
 ⟨.t 47, .ld true 2 (.l 4), none⟩,
 ⟨.t 48, .call 21 [.t 47], none⟩] [
 ⟨.t 49, .call 24 [.t 46, .t 48], none⟩,
 ⟨.l 50, .un .not (.t 49), none⟩]) (
 .cond (.l 50) (
 .seq (.reg [
 ⟨.l 8, .mv (.c (.p (.b false))), none⟩]) (
 .ret)) (
 .skip))) (
 .seq (.seq (.reg [
 ⟨.t 51, .mv (.l 12), none⟩,
 ⟨.t 52, .mv (.l 1), none⟩,
 ⟨.t 53, .call 16 [.t 52], none⟩,
 ⟨.t 54, .call 18 [.t 51, .t 53], none⟩,
 ⟨.l 55, .un .not (.t 54), none⟩]) (
 .cond (.l 55) (
 .seq (.reg [
 ⟨.l 8, .mv (.c (.p (.b false))), none⟩]) (
 .ret)) (
 .skip))) (
 .seq (.reg [
 ⟨.l 14, .mv (.c (.p (.i .i64 1))), none⟩]) (
 .seq (.reg [
 ⟨.t 56, .ld true 2 (.l 11), none⟩,
 ⟨.t 57, .mv (.l 14), none⟩,
 ⟨.t 58, .call 25 [.t 56, .t 57], none⟩,
 ⟨.l 14, .mv (.t 58), none⟩]) (
 .seq (.reg [
 ⟨.t 59, .mv (.l 12), none⟩,
 ⟨.t 60, .mv (.l 14), none⟩,
 ⟨.t 61, .call 48 [.t 59, .t 60], none⟩,
 ⟨.l 14, .mv (.t 61), none⟩]) (
 .seq (.seq (.reg [
 ⟨.t 62, .mv (.l 14), none⟩,
 ⟨.t 63, .bin .lss (.t 62) (.c (.p (.i .i64 0))), none⟩,
 ⟨.t 64, .mv (.t 63), none⟩,
 ⟨.t 65, .ld true 3 (.l 13), some ((.t 64), false)⟩,
 ⟨.t 66, .ld true 3 (.l 10), some ((.t 64), false)⟩,
 ⟨.t 67, .call 52 [.t 65, .t 66], some ((.t 64), false)⟩,
 ⟨.t 68, .un .not (.t 67), some ((.t 64), false)⟩,
 ⟨.l 69, .pick (.t 64) (.c (.p (.b true))) (.t 68), none⟩]) (
 .cond (.l 69) (
 .seq (.reg [
 ⟨.l 8, .mv (.c (.p (.b false))), none⟩]) (
 .ret)) (
 .skip))) (
 .seq (.reg [
 ⟨.l 15, .mv (.c (.p (.i .i64 1))), none⟩]) (
 .seq (.reg [
 ⟨.t 70, .ld true 3 (.l 13), none⟩,
 ⟨.t 71, .mv (.l 15), none⟩,
 ⟨.t 72, .call 53 [.t 70, .t 71], none⟩,
 ⟨.l 15, .mv (.t 72), none⟩]) (
 .seq (.reg [
 ⟨.l 16, .mv (.c (.p (.i .i64 1))), none⟩]) (
 .seq (.reg [
 ⟨.t 73, .ld true 3 (.l 13), none⟩,
 ⟨.t 74, .mv (.l 16), none⟩,
 ⟨.t 75, .call 54 [.t 73, .t 74], none⟩,
 ⟨.l 16, .mv (.t 75), none⟩]) (
 .seq (.seq (.reg [
 ⟨.t 76, .mv (.l 16), none⟩,
 ⟨.l 77, .bin .lss (.t 76) (.c (.p (.i .i64 0))), none⟩]) (
 .cond (.l 77) (
 .seq (.reg [
 ⟨.l 8, .mv (.c (.p (.b false))), none⟩]) (
 .ret)) (
 .skip))) (
 .seq (.seq (.reg [
 ⟨.t 78, .mv (.l 16), none⟩,
 ⟨.t 79, .mv (.l 15), none⟩,
 ⟨.l 80, .bin .neq (.t 78) (.t 79), none⟩]) (
 .cond (.l 80) (
 .seq (.reg [
 ⟨.l 8, .mv (.c (.p (.b false))), none⟩]) (
 .ret)) (
 .skip))) (
 .seq (.reg [
 ⟨.t 81, .ld true 2 (.l 4), none⟩,
 ⟨.t 82, .call 21 [.t 81], none⟩,
 ⟨.t 83, .mv (.l 1), none⟩,
 ⟨.t 84, .call 16 [.t 83], none⟩,
 ⟨.t 85, .mv (.l 2), none⟩,
 ⟨.t 86, .mv (.l 3), none⟩,
 ⟨.t 87, .call 51 [.t 82, .t 84, .t 85, .t 86], none⟩,
 ⟨.l 17, .alloc [.p (.i .i64 0), .p (.i .i64 0), .p (.nl)], none⟩,
 ⟨.no, .sto 3 (.l 17) (.t 87), none⟩]) (
 .seq (.seq (.reg [
 ⟨.t 88, .ld true 3 (.l 17), none⟩,
 ⟨.t 89, .ld true 3 (.l 10), none⟩,
 ⟨.t 90, .call 52 [.t 88, .t 89], none⟩,
 ⟨.l 91, .un .not (.t 90), none⟩]) (
 .cond (.l 91) (
 .seq (.reg [
 ⟨.l 8, .mv (.c (.p (.b false))), none⟩]) (
 .ret)) (
 .skip))) (
 .seq (.reg [
 ⟨.l 16, .mv (.c (.p (.i .i64 1))), none⟩]) (
 .seq (.reg [
 ⟨.t 92, .ld true 3 (.l 13), none⟩,
 ⟨.t 93, .mv (.l 16), none⟩,
 ⟨.t 94, .call 54 [.t 92, .t 93], none⟩,
 ⟨.l 16, .mv (.t 94), none⟩]) (
 .seq (.seq (.reg [
 ⟨.t 95, .mv (.l 16), none⟩,
 ⟨.l 96, .bin .lss (.t 95) (.c (.p (.i .i64 0))), none⟩]) (
 .cond (.l 96) (
 .seq (.reg [
 ⟨.l 8, .mv (.c (.p (.b false))), none⟩]) (
 .ret)) (
 .skip))) (
 .seq (.seq (.reg [
 ⟨.t 97, .mv (.l 16), none⟩,
 ⟨.t 98, .mv (.l 15), none⟩,
 ⟨.l 99, .bin .neq (.t 97) (.t 98), none⟩]) (
 .cond (.l 99) (
 .seq (.reg [
 ⟨.l 8, .mv (.c (.p (.b false))), none⟩]) (
 .ret)) (
 .skip))) (
 .seq (.reg [
 ⟨.l 8, .mv (.c (.p (.b true))), none⟩]) (
 .ret)))))))))))))))))))))))))))))
theorem mc11_eq : (Try.f11.body.map (compile lv11 Try.prog 100)) = some mc11 := by kernel_rfl
def mr11 : List MR := [.t 8]
theorem mr11_eq : cRess lv11 Try.prog Try.f11.results.toList = some mr11 := by kernel_rfl
theorem call11 {args : List AV} {H : List AO} {Q : AV → List AO → Prop} (hla : args.length ≤ 100) (h : wpm (ACall Try.prog) mc11 (finK mr11 Q) ⟨argEnv 0 args, [], H⟩) : ACall Try.prog 11 args H Q :=
  acall_mc (by kernel_rfl) Try.func11 mc11_eq Try.ntmps11 (by kernel_rfl) mr11_eq hla h
/- laws.FnExactTrace -/
/- spec.Profile -/
/- impl.Profile -/
/- spec.RunCode -/
def lv50 : List Nat := [0, 1, 2, 3, 4, 8, 9, 10, 20]
def mc50 : MC :=
.seq (.reg [
 ⟨.l 4, .box 2 (.l 0), none⟩,
 ⟨.l 8, .alloc [.p (.i .i64 0), .p (.i .i64 0), .p (.nl)], none⟩]) (
 .seq (.reg [
 ⟨.t 12, .ld true 2 (.l 4), none⟩,
 ⟨.t 13, .mv (.l 1), none⟩,
 ⟨.t 14, .mv (.l 2), none⟩,
 ⟨.t 15, .mv (.l 3), none⟩,
 ⟨.t 16, .call 109 [.t 12, .t 13, .t 14, .t 15], none⟩,
 ⟨.t 11, .mv (.t 16), none⟩,
 ⟨.t 17, .ext (.t 11) 0, none⟩,
 ⟨.t 18, .ext (.t 11) 1, none⟩,
 ⟨.l 9, .mv (.t 17), none⟩,
 ⟨.l 10, .mv (.t 18), none⟩]) (
 .seq (.seq (.reg [
 ⟨.t 19, .mv (.l 10), none⟩,
 ⟨.l 20, .un .not (.t 19), none⟩]) (
 .cond (.l 20) (
 .seq (.reg [
 ⟨.t 21, .build [.p (.i .i64 0), .p (.i .i64 0), .p (.nl)] [], none⟩,
 ⟨.no, .sto 3 (.l 8) (.t 21), none⟩]) (
 .ret)) (
 .skip))) (
 .seq (.reg [
 ⟨.t 22, .mv (.l 9), none⟩,
 ⟨.t 23, .nilc (.t 22), none⟩,
 ⟨.t 24, .fad 0 (.t 23), none⟩,
 ⟨.t 25, .ld false 1 (.t 24), none⟩,
 ⟨.t 26, .nilc (.t 25), none⟩,
 ⟨.t 27, .fad 3 (.t 26), none⟩,
 ⟨.t 28, .ld true 3 (.t 27), none⟩,
 ⟨.no, .sto 3 (.l 8) (.t 28), none⟩]) (
 .ret))))
theorem mc50_eq : (Try.f50.body.map (compile lv50 Try.prog 29)) = some mc50 := by kernel_rfl
def mr50 : List MR := [.cell true 3 8]
theorem mr50_eq : cRess lv50 Try.prog Try.f50.results.toList = some mr50 := by kernel_rfl
theorem call50 {args : List AV} {H : List AO} {Q : AV → List AO → Prop} (hla : args.length ≤ 29) (h : wpm (ACall Try.prog) mc50 (finK mr50 Q) ⟨argEnv 0 args, [], H⟩) : ACall Try.prog 50 args H Q :=
  acall_mc (by kernel_rfl) Try.func50 mc50_eq Try.ntmps50 (by kernel_rfl) mr50_eq hla h
/- impl.RunCode -/
def lv51 : List Nat := [0, 1, 2, 3, 4, 8, 14]
def mc51 : MC :=
.seq (.reg [
 ⟨.l 4, .box 2 (.l 0), none⟩,
 ⟨.l 8, .alloc [.p (.i .i64 0), .p (.i .i64 0), .p (.nl)], none⟩]) (
 .seq (.seq (.reg [
 ⟨.t 9, .ld true 2 (.l 4), none⟩,
 ⟨.t 10, .mv (.l 1), none⟩,
 ⟨.t 11, .mv (.l 2), none⟩,
 ⟨.t 12, .mv (.l 3), none⟩,
 ⟨.t 13, .call 110 [.t 9, .t 10, .t 11, .t 12], none⟩,
 ⟨.l 14, .un .not (.t 13), none⟩]) (
 .cond (.l 14) (
 .seq (.reg [
 ⟨.t 15, .build [.p (.i .i64 0), .p (.i .i64 0), .p (.nl)] [], none⟩,
 ⟨.no, .sto 3 (.l 8) (.t 15), none⟩]) (
 .ret)) (
 .skip))) (
 .seq (.reg [
 ⟨.t 16, .ld true 2 (.l 4), none⟩,
 ⟨.t 17, .mv (.l 1), none⟩,
 ⟨.t 18, .mv (.l 2), none⟩,
 ⟨.t 19, .mv (.l 3), none⟩,
 ⟨.t 20, .call 111 [.t 16, .t 17, .t 18, .t 19, .c (.clo 117 [])], none⟩,
 ⟨.t 21, .nilc (.t 20), none⟩,
 ⟨.t 22, .fad 325 (.t 21), none⟩,
 ⟨.t 23, .ld true 3 (.t 22), none⟩,
 ⟨.no, .sto 3 (.l 8) (.t 23), none⟩]) (
 .ret)))
theorem mc51_eq : (Try.f51.body.map (compile lv51 Try.prog 24)) = some mc51 := by kernel_rfl
def mr51 : List MR := [.cell true 3 8]
theorem mr51_eq : cRess lv51 Try.prog Try.f51.results.toList = some mr51 := by kernel_rfl
theorem call51 {args : List AV} {H : List AO} {Q : AV → List AO → Prop} (hla : args.length ≤ 24) (h : wpm (ACall Try.prog) mc51 (finK mr51 Q) ⟨argEnv 0 args, [], H⟩) : ACall Try.prog 51 args H Q :=
  acall_mc (by kernel_rfl) Try.func51 mc51_eq Try.ntmps51 (by kernel_rfl) mr51_eq hla h
/- laws.eqOutcome -/
def lv52 : List Nat := [0, 1, 2, 3, 4, 9, 14, 20]
def mc52 : MC :=
.seq (.reg [
 ⟨.l 2, .box 3 (.l 0), none⟩,
 ⟨.l 3, .box 3 (.l 1), none⟩,
 ⟨.l 4, .mv (.c (.p (.b false))), none⟩]) (
 .seq (.seq (.reg [
 ⟨.t 5, .fad 0 (.l 2), none⟩,
 ⟨.t 6, .ld false 1 (.t 5), none⟩,
 ⟨.t 7, .fad 0 (.l 3), none⟩,
 ⟨.t 8, .ld false 1 (.t 7), none⟩,
 ⟨.l 9, .bin .neq (.t 6) (.t 8), none⟩]) (
 .cond (.l 9) (
 .seq (.reg [
 ⟨.l 4, .mv (.c (.p (.b false))), none⟩]) (
 .ret)) (
 .skip))) (
 .seq (.seq (.reg [
 ⟨.t 10, .fad 1 (.l 2), none⟩,
 ⟨.t 11, .ld false 1 (.t 10), none⟩,
 ⟨.t 12, .fad 1 (.l 3), none⟩,
 ⟨.t 13, .ld false 1 (.t 12), none⟩,
 ⟨.l 14, .bin .neq (.t 11) (.t 13), none⟩]) (
 .cond (.l 14) (
 .seq (.reg [
 ⟨.l 4, .mv (.c (.p (.b false))), none⟩]) (
 .ret)) (
 .skip))) (
 .seq (.seq (.reg [
 ⟨.t 15, .fad 2 (.l 2), none⟩,
 ⟨.t 16, .ld false 1 (.t 15), none⟩,
 ⟨.t 17, .fad 2 (.l 3), none⟩,
 ⟨.t 18, .ld false 1 (.t 17), none⟩,
 ⟨.t 19, .call 18 [.t 16, .t 18], none⟩,
 ⟨.l 20, .un .not (.t 19), none⟩]) (
 .cond (.l 20) (
 .seq (.reg [
 ⟨.l 4, .mv (.c (.p (.b false))), none⟩]) (
 .ret)) (
 .skip))) (
 .seq (.reg [
 ⟨.l 4, .mv (.c (.p (.b true))), none⟩]) (
 .ret)))))
theorem mc52_eq : (Try.f52.body.map (compile lv52 Try.prog 21)) = some mc52 := by kernel_rfl
def mr52 : List MR := [.t 4]
theorem mr52_eq : cRess lv52 Try.prog Try.f52.results.toList = some mr52 := by kernel_rfl
theorem call52 {args : List AV} {H : List AO} {Q : AV → List AO → Prop} (hla : args.length ≤ 21) (h : wpm (ACall Try.prog) mc52 (finK mr52 Q) ⟨argEnv 0 args, [], H⟩) : ACall Try.prog 52 args H Q :=
  acall_mc (by kernel_rfl) Try.func52 mc52_eq Try.ntmps52 (by kernel_rfl) mr52_eq hla h
/- laws.markOutcome -/
def lv53 : List Nat := [0, 1, 2, 4]
def mc53 : MC :=
.seq (.reg [
 ⟨.l 2, .box 3 (.l 0), none⟩,
 ⟨.l 4, .mv (.c (.p (.i .i64 0))), none⟩]) (
 .seq (.reg [
 ⟨.t 5, .fad 2 (.l 2), none⟩,
 ⟨.t 6, .ld false 1 (.t 5), none⟩,
 ⟨.t 7, .mv (.l 1), none⟩,
 ⟨.t 8, .call 48 [.t 6, .t 7], none⟩,
 ⟨.l 1, .mv (.t 8), none⟩]) (
 .seq (.reg [
 ⟨.t 9, .mv (.l 1), none⟩,
 ⟨.l 4, .mv (.t 9), none⟩]) (
 .ret)))
theorem mc53_eq : (Try.f53.body.map (compile lv53 Try.prog 10)) = some mc53 := by kernel_rfl
def mr53 : List MR := [.t 4]
theorem mr53_eq : cRess lv53 Try.prog Try.f53.results.toList = some mr53 := by kernel_rfl
theorem call53 {args : List AV} {H : List AO} {Q : AV → List AO → Prop} (hla : args.length ≤ 10) (h : wpm (ACall Try.prog) mc53 (finK mr53 Q) ⟨argEnv 0 args, [], H⟩) : ACall Try.prog 53 args H Q :=
  acall_mc (by kernel_rfl) Try.func53 mc53_eq Try.ntmps53 (by kernel_rfl) mr53_eq hla h
/- laws.heldOutcome -/
def lv54 : List Nat := [0, 1, 2, 4, 10]
def mc54 : MC :=
.seq (.reg [
 ⟨.l 2, .box 3 (.l 0), none⟩,
 ⟨.l 4, .mv (.c (.p (.i .i64 0))), none⟩]) (
 .seq (.reg [
 ⟨.t 5, .fad 2 (.l 2), none⟩,
 ⟨.t 6, .ld false 1 (.t 5), none⟩,
 ⟨.t 7, .mv (.l 1), none⟩,
 ⟨.t 8, .call 49 [.t 6, .t 7], none⟩,
 ⟨.l 1, .mv (.t 8), none⟩]) (
 .seq (.seq (.reg [
 ⟨.t 9, .mv (.l 1), none⟩,
 ⟨.l 10, .bin .lss (.t 9) (.c (.p (.i .i64 0))), none⟩]) (
 .cond (.l 10) (
 .seq (.reg [
 ⟨.l 4, .mv (.c (.p (.i .i64 (-1)))), none⟩]) (
 .ret)) (
 .skip))) (
 .seq (.reg [
 ⟨.t 11, .mv (.l 1), none⟩,
 ⟨.l 4, .mv (.t 11), none⟩]) (
 .ret))))
theorem mc54_eq : (Try.f54.body.map (compile lv54 Try.prog 12)) = some mc54 := by kernel_rfl
def mr54 : List MR := [.t 4]
theorem mr54_eq : cRess lv54 Try.prog Try.f54.results.toList = some mr54 := by kernel_rfl
theorem call54 {args : List AV} {H : List AO} {Q : AV → List AO → Prop} (hla : args.length ≤ 12) (h : wpm (ACall Try.prog) mc54 (finK mr54 Q) ⟨argEnv 0 args, [], H⟩) : ACall Try.prog 54 args H Q :=
  acall_mc (by kernel_rfl) Try.func54 mc54_eq Try.ntmps54 (by kernel_rfl) mr54_eq hla h
/- laws.eqEventS -/
/- spec.Trace -/
/- impl.Trace -/
/- laws.markEventS -/
/- laws.heldEventS -/
/- spec.l21Start -/
/- impl.Profile$1 -/
/- impl.RunCode$1 -/
def lv117 : List Nat := []
def mc117 : MC :=
.skip
theorem mc117_eq : (Try.f117.body.map (compile lv117 Try.prog 4)) = some mc117 := by kernel_rfl
def mr117 : List MR := []
theorem mr117_eq : cRess lv117 Try.prog Try.f117.results.toList = some mr117 := by kernel_rfl
theorem call117 {args : List AV} {H : List AO} {Q : AV → List AO → Prop} (hla : args.length ≤ 4) (h : wpm (ACall Try.prog) mc117 (finK mr117 Q) ⟨argEnv 0 args, [], H⟩) : ACall Try.prog 117 args H Q :=
  acall_mc (by kernel_rfl) Try.func117 mc117_eq Try.ntmps117 (by kernel_rfl) mr117_eq hla h
/- laws.eqEvent -/
/- impl.Trace$1 -/
end Go.Proofs.Ytmbggdfceecojaa.Mc

/- Numbers as bytes: bits. -/
set_option linter.all false
namespace Go.Proofs.Ytmbggdfceecojaa.Cd
open Go.AM

/-- a number as one from 0 on -/
def zig (n : Int) : Nat := if 0 ≤ n then 2 * n.toNat else (-2 * n - 1).toNat
/-- seven bits a byte, the lowest first -/
def enc (z : Nat) : List Int := if h : z < 128 then [(z : Int)] else ((z % 128 + 128 : Nat) : Int) :: enc (z / 128)
termination_by z
decreasing_by omega
theorem enc_lt {z : Nat} (h : z < 128) : enc z = [(z : Int)] := by rw [enc, dif_pos h]
theorem enc_ge {z : Nat} (h : ¬ z < 128) : enc z = ((z % 128 + 128 : Nat) : Int) :: enc (z / 128) := by rw [enc, dif_neg h]
theorem enc_len (k : Nat) : ∀ z : Nat, z < 128 ^ (k + 1) → (enc z).length ≤ k + 1 := by
  induction k with
  | zero => intro z hz; rw [enc_lt (by simpa using hz)]; simp
  | succ k ih =>
    intro z hz
    by_cases h : z < 128
    · rw [enc_lt h]; simp
    · rw [enc_ge h]
      have := ih (z / 128) (by rw [Nat.div_lt_iff_lt_mul (by omega)]; rw [Nat.pow_succ] at hz; exact hz)
      simp; omega
theorem zig_lt {n : Int} (h1 : -9223372036854775808 ≤ n) (h2 : n ≤ 9223372036854775807) : zig n < 18446744073709551616 := by
  unfold zig; split <;> omega
theorem enc10 {n : Int} (h1 : -9223372036854775808 ≤ n) (h2 : n ≤ 9223372036854775807) : (enc (zig n)).length ≤ 10 := by
  have := zig_lt h1 h2
  exact enc_len 9 _ (by omega)
end Go.Proofs.Ytmbggdfceecojaa.Cd

/- Images of codes: short numbers. -/
set_option linter.all false
namespace Go.Proofs.Ytmbggdfceecojaa.Cd
open Go.AM Mc Ho

theorem intR_len (k : IntKind) (a : List Int) : (intR k a).length = a.length := by simp [intR]

end Go.Proofs.Ytmbggdfceecojaa.Cd

/- Images of codes: short numbers and sums, by both. -/
set_option linter.all false
namespace Go.Proofs.Ytmbggdfceecojaa.Cd
open Go.AM Mc Ho

end Go.Proofs.Ytmbggdfceecojaa.Cd

/- Images of codes: bytes compared and marked; what an image is. -/
set_option linter.all false
namespace Go.Proofs.Ytmbggdfceecojaa.Cd
open Go.AM Mc Ho

end Go.Proofs.Ytmbggdfceecojaa.Cd

/- Images of codes: what an image is; by the program. -/
set_option linter.all false
namespace Go.Proofs.Ytmbggdfceecojaa.Cd
open Go.AM Mc Ho

def strI (s : List UInt8) : List Int := s.map fun c => (c.toNat : Int)
def encI (n : Int) : List Int := enc (zig n)
def insB (x : InsD) : List Int := [wr .u8 x.op, wr .u8 (wr .i64 (wr .i64 (16 * x.a) + x.b)), wr .u8 x.c] ++ encI x.n ++ encI x.text.length ++ strI x.text
def rng (n : Int) : Prop := -9223372036854775808 ≤ n ∧ n ≤ 9223372036854775807
def rngCode (c : CodeD) : Prop := (∀ n ∈ c.starts, rng n) ∧ ∀ x ∈ c.ins, rng x.n

theorem rng_len {n : Nat} (h : n ≤ maxL) : rng n := by unfold maxL at h; unfold rng; omega
theorem encI_len {n : Int} (h : rng n) : (encI n).length ≤ 10 := enc10 h.1 h.2
theorem flat_enc_len (l : List Int) (h : ∀ n ∈ l, rng n) : (l.flatMap encI).length ≤ 10 * l.length := by
  induction l with
  | nil => simp
  | cons n l ih =>
    have h1 := encI_len (h n (by simp))
    have h2 := ih (fun m hm => h m (List.mem_cons_of_mem _ hm))
    simp only [List.flatMap_cons, List.length_append, List.length_cons]; omega
theorem insB_len (x : InsD) (h : rng x.n) (ht : x.text.length ≤ maxL) : (insB x).length ≤ 23 + x.text.length := by
  have h1 := encI_len h
  have h2 := encI_len (rng_len ht)
  simp [insB, strI]; omega
theorem flat_ins_len (l : List InsD) (h : ∀ x ∈ l, rng x.n ∧ x.text.length ≤ maxL) : (l.flatMap insB).length ≤ 23 * l.length + texts l := by
  induction l with
  | nil => simp [texts]
  | cons x l ih =>
    have h1 := insB_len x (h x (by simp)).1 (h x (by simp)).2
    have h2 := ih (fun m hm => h m (List.mem_cons_of_mem _ hm))
    simp only [List.flatMap_cons, List.length_append, List.length_cons, texts]; omega
theorem texts_take_le (l : List InsD) (i : Nat) : texts (l.take i) ≤ texts l := by
  induction l generalizing i with
  | nil => simp
  | cons x l ih =>
    cases i with
    | zero => simp [texts]
    | succ i => simp [texts]; exact ih i

/-- how much room is wanted at most -/
structure Fits (c : CodeD) : Prop where
  ok : okCode c
  sm : small c
  rg : rngCode c
theorem Fits.starts {c : CodeD} (h : Fits c) (i : Nat) : ((c.starts.take i).flatMap encI).length ≤ 10485760 := by
  have h1 := flat_enc_len (c.starts.take i) (fun n hn => h.rg.1 n (List.mem_of_mem_take hn))
  have h2 := h.sm
  unfold small at h2
  have : (c.starts.take i).length ≤ c.starts.length := by simp; omega
  omega
theorem Fits.ins {c : CodeD} (h : Fits c) (i : Nat) : ((c.ins.take i).flatMap insB).length ≤ 25165824 := by
  have h1 := flat_ins_len (c.ins.take i) (fun x hx => ⟨h.rg.2 x (List.mem_of_mem_take hx), h.ok.1.2 x (List.mem_of_mem_take hx)⟩)
  have h2 := h.sm
  unfold small at h2
  have h3 : (c.ins.take i).length ≤ c.ins.length := by simp; omega
  have h4 := texts_take_le c.ins i
  omega
theorem Fits.text {c : CodeD} (h : Fits c) {x : InsD} (hx : x ∈ c.ins) : x.text.length ≤ 1048576 := by
  have key : ∀ l : List InsD, x ∈ l → x.text.length ≤ texts l := by
    intro l
    induction l with
    | nil => intro h; cases h
    | cons y l ih =>
      intro hx
      rcases List.mem_cons.1 hx with rfl | hx
      · simp [texts]
      · have := ih hx; simp [texts]; omega
  have h1 := key _ hx
  have h2 := h.sm
  unfold small at h2
  omega

end Go.Proofs.Ytmbggdfceecojaa.Cd

/- Images of codes: by the reference. -/
set_option linter.all false
namespace Go.Proofs.Ytmbggdfceecojaa.Cd
open Go.AM Mc Ho

end Go.Proofs.Ytmbggdfceecojaa.Cd

/- PutImage: the law. -/
set_option linter.all false
namespace Go.Proofs.Ytmbggdfceecojaa.Cd
open Go.AM Mc Ho

theorem toCode_fresh (c : CodeD) (hc : okCode c) (hs : small c) {H : List AO} : ACall Try.prog 21 [.st (c.cells.map .p)] H (fun r H' => H' = H ∧ r = .st (c.cells.map .p)) := by
  refine acall_fresh (toCode0 c hc hs) ?_ ?_
  · intro b hb
    simp only [List.mem_singleton] at hb
    subst hb
    refine noid_st _ ?_
    intro a ha
    obtain ⟨q, _, rfl⟩ := List.mem_map.1 ha
    exact noid_p q
  · rintro r H' ⟨rfl, h3, h4⟩
    exact ⟨_, lent_code c (i := 3) h3 h4, rfl⟩

theorem szCode_any (c : CodeD) (hc : okCode c) {H : List AO} : ACall Try.prog 19 [.st (c.cells.map .p), .p (.i .i64 1048576)] H (fun r H' => (∃ q : Int, r = .p (.i .i64 q) ∧ (q < 0 ∨ (0 ≤ q ∧ small c))) ∧ H' = H) :=
  (acall_lend (szCode c hc) (fun r H' ⟨q, h, _⟩ => by subst h; exact grnd_i _ _) (lentAll_cons (code_lent c) (lentAll_cons (.pure _) (lentAll_nil _)))).mono fun r H' ⟨h1, _, h2⟩ => ⟨h2, h1⟩
theorem eqCode_any (c d : CodeD) (hc : okCode c) (hd : okCode d) {H : List AO} {a b : AV} (ha : Lent H a (.st (c.cells.map .p))) (hb : Lent H b (.st (d.cells.map .p))) : ACall Try.prog 24 [a, b] H (fun r H' => r = .p (.b (decide (c = d))) ∧ H' = H) :=
  (acall_lend (eqCode c d hc hd) (fun r H' h => by subst h; exact grnd_b _) (lentAll_cons ha (lentAll_cons hb (lentAll_nil _)))).mono fun r H' ⟨h1, _, h2⟩ => ⟨h2, h1⟩

end Go.Proofs.Ytmbggdfceecojaa.Cd

/- What is reached in a code: the plain law. -/
set_option linter.all false
namespace Go.Proofs.Ytmbggdfceecojaa.Cd
open Go.AM Mc Ho

def falls (op : Int) : Prop := op ≠ 12 ∧ op ≠ 13 ∧ op ≠ 14 ∧ op ≠ 15

inductive Rch (c : CodeD) : Nat → Prop
  | zero : Rch c 0
  | jump (i : Nat) (x : InsD) (h : Rch c i) (hx : c.ins[i]? = some x) (ho : x.op = 12 ∨ x.op = 11) : Rch c x.n.toNat
  | next (i : Nat) (x : InsD) (h : Rch c i) (hx : c.ins[i]? = some x) (ho : falls x.op) : Rch c (i + 1)
  | go (i : Nat) (x : InsD) (j : Nat) (y : InsD) (s : Int) (h : Rch c i) (hx : c.ins[i]? = some x) (ho : x.op = 13) (k : Rch c j) (hy : c.ins[j]? = some y) (hq : y.op = 3) (hs : c.starts[y.n.toNat]? = some s) : Rch c s.toNat

def Done (c : CodeD) (seen named : List Bool) (g : Bool) (i : Nat) : Prop := ∀ x : InsD, c.ins[i]? = some x →
  ((x.op = 12 ∨ x.op = 11) → seen[x.n.toNat]? = some true) ∧ (falls x.op → seen[i + 1]? = some true) ∧ (x.op = 13 → g = true) ∧ (x.op = 3 → named[x.n.toNat]? = some true)

/-- the state of a search; E: where what follows is not yet looked at -/
structure Inv (c : CodeD) (E : Nat → Prop) (seen named : List Bool) (todo : List Nat) (g : Bool) : Prop where
  ls : seen.length = c.ins.length
  ln : named.length = c.starts.length
  z : seen[0]? = some true
  ss : ∀ i : Nat, seen[i]? = some true → Rch c i
  sn : ∀ k : Nat, named[k]? = some true → ∃ (i : Nat) (x : InsD), Rch c i ∧ c.ins[i]? = some x ∧ x.op = 3 ∧ x.n.toNat = k
  sg : g = true → ∃ (i : Nat) (x : InsD), Rch c i ∧ c.ins[i]? = some x ∧ x.op = 13
  st : ∀ i ∈ todo, seen[i]? = some true
  cc : ∀ i : Nat, seen[i]? = some true → i ∉ todo → ¬ E i → Done c seen named g i
/-- of the blocks below n -/
def Gd (c : CodeD) (seen named : List Bool) (g : Bool) (n : Nat) : Prop := ∀ k : Nat, k < n → named[k]? = some true → g = true → ∀ s : Int, c.starts[k]? = some s → seen[s.toNat]? = some true

theorem set_true {l : List Bool} {i j : Nat} (h : l[j]? = some true) : (l.set i true)[j]? = some true := by
  have hj := (List.getElem?_eq_some_iff.1 h).1
  rw [List.getElem?_set]
  split
  · rename_i e; subst e; simp [hj]
  · exact h
theorem set_inv {l : List Bool} {i j : Nat} (h : (l.set i true)[j]? = some true) : l[j]? = some true ∨ j = i := by
  rw [List.getElem?_set] at h
  split at h
  · rename_i e; exact .inr e.symm
  · exact .inl h
theorem set_at {l : List Bool} {i : Nat} (h : i < l.length) : (l.set i true)[i]? = some true := by simp [h]

theorem Done.mono {c : CodeD} {seen named : List Bool} {g : Bool} {i j k : Nat} (h : Done c seen named g i) : Done c (seen.set j true) named g i :=
  fun x hx => ⟨fun ho => set_true ((h x hx).1 ho), fun ho => set_true ((h x hx).2.1 ho), (h x hx).2.2.1, (h x hx).2.2.2⟩

theorem Inv.mark {c : CodeD} {E : Nat → Prop} {seen named : List Bool} {todo : List Nat} {g : Bool} (h : Inv c E seen named todo g) {i : Nat} (hi : i < c.ins.length) (hr : Rch c i) (hn : seen[i]? = some false) : Inv c E (seen.set i true) named (todo ++ [i]) g where
  ls := by simp [h.ls]
  ln := h.ln
  z := set_true h.z
  ss := fun j hj => (set_inv hj).elim (h.ss j) (fun e => e ▸ hr)
  sn := h.sn
  sg := h.sg
  st := fun j hj => by
    rcases List.mem_append.1 hj with hj | hj
    · exact set_true (h.st j hj)
    · simp at hj; subst hj; exact set_at (by rw [h.ls]; exact hi)
  cc := fun j hj hm he => by
    rcases set_inv hj with hj' | rfl
    · exact Done.mono (k := 0) (h.cc j hj' (fun hm' => hm (List.mem_append.2 (.inl hm'))) he)
    · exact (hm (List.mem_append.2 (.inr (by simp)))).elim
theorem Gd.mark {c : CodeD} {seen named : List Bool} {g : Bool} {n i : Nat} (h : Gd c seen named g n) : Gd c (seen.set i true) named g n :=
  fun k hk hn hg s hs => set_true (h k hk hn hg s hs)

end Go.Proofs.Ytmbggdfceecojaa.Cd

/- What is reached in a code: lists of bools and of places, as slices that are owned. -/
set_option linter.all false
namespace Go.Proofs.Ytmbggdfceecojaa.Cd
open Go.AM Mc Ho

def boolR (bs : List Bool) : List (List AV) := bs.map fun b => [.p (.b b)]
def natI (l : List Nat) : List Int := l.map Int.ofNat
theorem set_true_same {l : List Bool} {i : Nat} (h : l[i]? = some true) : l.set i true = l := by
  obtain ⟨hlt, he⟩ := List.getElem?_eq_some_iff.1 h
  rw [← he]; exact List.set_getElem_self hlt

/-- places that are owned, or nil; behind them there may be more -/
def OwnP (H : List AO) (a : AV) (zs : List Int) (lo : Nat) : Prop :=
  (a = .p .nl ∧ zs = []) ∨ ∃ id ver rs, lo ≤ id ∧ a = .gs id ver 0 zs.length ∧ H[id]? = some (.rows 1 ver rs) ∧ rs.take zs.length = intR .i64 zs ∧ zs.length ≤ rs.length

/-- what is kept: variables and what lies below lo, but for X -/
def SK (lo : Nat) (X : Nat → Prop) (H H' : List AO) : Prop :=
  (∀ (k : Nat) cs, H[k]? = some (.var cs) → ¬ X k → H'[k]? = some (.var cs)) ∧ (∀ k, k < lo → ¬ X k → H'[k]? = H[k]?) ∧ H.length ≤ H'.length
theorem SK.refl (lo X H) : SK lo X H H := ⟨fun _ _ h _ => h, fun _ _ _ => rfl, Nat.le_refl _⟩
theorem SK.trans {lo : Nat} {X : Nat → Prop} {A B C : List AO} (h : SK lo X A B) (k : SK lo X B C) : SK lo X A C :=
  ⟨fun i cs hi hx => k.1 i cs (h.1 i cs hi hx) hx, fun i hi hx => (k.2.1 i hi hx).trans (h.2.1 i hi hx), Nat.le_trans h.2.2 k.2.2⟩
theorem SK.app {lo : Nat} {X : Nat → Prop} {A B : List AO} (hl : lo ≤ A.length) : SK lo X A (A ++ B) :=
  ⟨fun i cs hi _ => by rw [List.getElem?_append_left (List.getElem?_eq_some_iff.1 hi).1]; exact hi, fun i hi _ => List.getElem?_append_left (by omega), by simp⟩
theorem SK.set {lo : Nat} {X : Nat → Prop} {A : List AO} {i : Nat} {o : AO} (hx : X i) : SK lo X A (A.set i o) :=
  ⟨fun k cs hk hn => by rw [List.getElem?_set_ne (fun (e : i = k) => hn (e ▸ hx))]; exact hk, fun k hk hn => List.getElem?_set_ne (fun (e : i = k) => hn (e ▸ hx)), by simp⟩

theorem OwnP.keep {lo : Nat} {X : Nat → Prop} {A B : List AO} {a : AV} {zs : List Int} (h : OwnP A a zs lo) (hk : ∀ (k : Nat) sz ver rs, A[k]? = some (.rows sz ver rs) → lo ≤ k → B[k]? = some (.rows sz ver rs)) : OwnP B a zs lo := by
  rcases h with h | ⟨id, ver, rs, h1, h2, h3, h4⟩
  · exact .inl h
  · exact .inr ⟨id, ver, rs, h1, h2, hk _ _ _ _ h3 h1, h4⟩

/-- how much is left to do -/
def cnt (seen : List Bool) (todo : List Nat) : Nat := 2 * seen.count false + todo.length
theorem count_set {l : List Bool} {i : Nat} (h : l[i]? = some false) : (l.set i true).count false + 1 = l.count false := by
  induction l generalizing i with
  | nil => simp at h
  | cons b l ih =>
    cases i with
    | zero => simp at h; subst h; simp
    | succ i =>
      have := ih (i := i) (by simpa using h)
      rw [List.set_cons_succ, List.count_cons, List.count_cons]
      omega

theorem Inv.named {c : CodeD} {E : Nat → Prop} {seen named : List Bool} {todo : List Nat} {g : Bool} (h : Inv c E seen named todo g) {i : Nat} {x : InsD} (hr : Rch c i) (hx : c.ins[i]? = some x) (ho : x.op = 3) : Inv c E seen (named.set x.n.toNat true) todo g where
  ls := h.ls
  ln := by simp [h.ln]
  z := h.z
  ss := h.ss
  sn := fun k hk => (set_inv hk).elim (h.sn k) (fun e => ⟨i, x, hr, hx, ho, e.symm⟩)
  sg := h.sg
  st := h.st
  cc := fun j hj hm he y hy => ⟨(h.cc j hj hm he y hy).1, (h.cc j hj hm he y hy).2.1, (h.cc j hj hm he y hy).2.2.1, fun ho => set_true ((h.cc j hj hm he y hy).2.2.2 ho)⟩
theorem Inv.goes {c : CodeD} {E : Nat → Prop} {seen named : List Bool} {todo : List Nat} {g : Bool} (h : Inv c E seen named todo g) {i : Nat} {x : InsD} (hr : Rch c i) (hx : c.ins[i]? = some x) (ho : x.op = 13) : Inv c E seen named todo true where
  ls := h.ls
  ln := h.ln
  z := h.z
  ss := h.ss
  sn := h.sn
  sg := fun _ => ⟨i, x, hr, hx, ho⟩
  st := h.st
  cc := fun j hj hm he y hy => ⟨(h.cc j hj hm he y hy).1, (h.cc j hj hm he y hy).2.1, fun _ => rfl, (h.cc j hj hm he y hy).2.2.2⟩
theorem Inv.done {c : CodeD} {i : Nat} {seen named : List Bool} {todo : List Nat} {g : Bool} (h : Inv c (fun k => k = i) seen named todo g) (hd : Done c seen named g i) : Inv c (fun _ => False) seen named todo g where
  ls := h.ls
  ln := h.ln
  z := h.z
  ss := h.ss
  sn := h.sn
  sg := h.sg
  st := h.st
  cc := fun j hj hm _ => by
    by_cases e : j = i
    · subst e; exact hd
    · exact h.cc j hj hm e
/-- one mark: the state behind it -/
structure Marked (c : CodeD) (E : Nat → Prop) (seen named : List Bool) (todo : List Nat) (g : Bool) (i : Nat) (seen' : List Bool) (todo' : List Nat) : Prop where
  inv : Inv c E seen' named todo' g
  at' : seen'[i]? = some true
  mono : ∀ k : Nat, seen[k]? = some true → seen'[k]? = some true
  cnt : cnt seen' todo' ≤ cnt seen todo
theorem marked {c : CodeD} {E : Nat → Prop} {seen named : List Bool} {todo : List Nat} {g : Bool} (h : Inv c E seen named todo g) {i : Nat} (hi : i < c.ins.length) (hr : Rch c i) :
    Marked c E seen named todo g i (seen.set i true) (if seen[i]? = some true then todo else todo ++ [i]) := by
  have hil : i < seen.length := by rw [h.ls]; exact hi
  by_cases hs : seen[i]? = some true
  · rw [if_pos hs, set_true_same hs]
    exact ⟨h, hs, fun _ h => h, Nat.le_refl _⟩
  · rw [if_neg hs]
    have hf : seen[i]? = some false := by
      rw [List.getElem?_eq_getElem hil] at hs ⊢
      cases hb : seen[i] with
      | true => rw [hb] at hs; exact (hs rfl).elim
      | false => rfl
    refine ⟨h.mark hi hr hf, set_at hil, fun _ h => set_true h, ?_⟩
    have := count_set hf
    unfold Cd.cnt
    simp; omega
end Go.Proofs.Ytmbggdfceecojaa.Cd

/- THE SMALL CODES of functions 5 28 29 30 31 32 80 81 82 83, and their ties to the program (printed by wip/tools/mkties.sh). -/
set_option linter.all false
namespace Go.Proofs.Ytmbggdfceecojaa.Mc
open Go.AM
end Go.Proofs.Ytmbggdfceecojaa.Mc

/- What is reached in a code: by the reference: a mark, a look. -/
set_option linter.all false
namespace Go.Proofs.Ytmbggdfceecojaa.Cd
open Go.AM Mc Ho

/-- the reference's state: at j; its lists at ids, idn; its places from lo on -/
structure WS (H : List AO) (j ids vs idn vn lo : Nat) (seen named : List Bool) (todo : List Nat) (g : Bool) : Prop where
  hj : ∃ t, H[j]? = some (.var [.gs ids vs 0 seen.length, t, .gs idn vn 0 named.length, .p (.b g)]) ∧ OwnP H t (natI todo) lo
  hs : H[ids]? = some (.rows 1 vs (boolR seen))
  hn : H[idn]? = some (.rows 1 vn (boolR named))
  ne : ids ≠ idn
  l1 : ids < lo
  l2 : idn < lo
  l3 : j < lo
  l4 : lo ≤ H.length

theorem WS.ext {H : List AO} {j ids vs idn vn lo : Nat} {seen named : List Bool} {todo : List Nat} {g : Bool} (h : WS H j ids vs idn vn lo seen named todo g) (A : List AO) : WS (H ++ A) j ids vs idn vn lo seen named todo g := by
  obtain ⟨t, h1, h2⟩ := h.hj
  exact ⟨⟨t, get_ext h1 _, h2.keep (X := fun _ => False) (fun k sz ver rs hk _ => get_ext hk _)⟩, get_ext h.hs _, get_ext h.hn _, h.ne, h.l1, h.l2, h.l3, by have := h.l4; simp; omega⟩
theorem WS.jn {H : List AO} {j ids vs idn vn lo : Nat} {seen named : List Bool} {todo : List Nat} {g : Bool} (h : WS H j ids vs idn vn lo seen named todo g) : ids ≠ j ∧ idn ≠ j := by
  obtain ⟨t, h1, _⟩ := h.hj
  exact ⟨fun e => (by have := h.hs; rw [e, h1] at this; cases this), fun e => (by have := h.hn; rw [e, h1] at this; cases this)⟩

end Go.Proofs.Ytmbggdfceecojaa.Cd

/- What is reached in a code: by the reference: a look. -/
set_option linter.all false
namespace Go.Proofs.Ytmbggdfceecojaa.Cd
open Go.AM Mc Ho

theorem WS.named {H : List AO} {j ids vs idn vn lo : Nat} {seen named : List Bool} {todo : List Nat} {g : Bool} (h : WS H j ids vs idn vn lo seen named todo g) (i : Nat) : WS (H.set idn (.rows 1 vn (boolR (named.set i true)))) j ids vs idn vn lo seen (named.set i true) todo g := by
  obtain ⟨t, h1, h2⟩ := h.hj
  obtain ⟨n1, n2⟩ := h.jn
  exact ⟨⟨t, by rw [List.length_set]; exact get_set h1 n2, h2.keep (X := fun _ => False) (fun k sz ver rs hk hlo => get_set hk (by have := h.l2; omega))⟩, get_set h.hs (fun e => h.ne e.symm), set_get h.hn, h.ne, h.l1, h.l2, h.l3, by have := h.l4; simp; omega⟩

theorem Gd.mono {c : CodeD} {seen seen' named : List Bool} {g : Bool} {n : Nat} (h : Gd c seen named g n) (hm : ∀ k : Nat, seen[k]? = some true → seen'[k]? = some true) : Gd c seen' named g n :=
  fun k hk hn hg s hs => hm _ (h k hk hn hg s hs)
theorem WS.goes {H : List AO} {j ids vs idn vn lo : Nat} {seen named : List Bool} {todo : List Nat} {g : Bool} (h : WS H j ids vs idn vn lo seen named todo g) {t : AV} (h1 : H[j]? = some (.var [.gs ids vs 0 seen.length, t, .gs idn vn 0 named.length, .p (.b g)])) (g' : Bool) :
    WS (H.set j (.var [.gs ids vs 0 seen.length, t, .gs idn vn 0 named.length, .p (.b g')])) j ids vs idn vn lo seen named todo g' := by
  obtain ⟨t', h1', h2⟩ := h.hj
  rw [h1] at h1'
  cases h1'
  obtain ⟨n1, n2⟩ := h.jn
  exact ⟨⟨t, set_get h1, h2.keep (X := fun _ => False) (fun k sz ver rs hk hlo => get_set hk (by have := h.l3; omega))⟩, get_set h.hs (fun e => n1 e.symm), get_set h.hn (fun e => n2 e.symm), h.ne, h.l1, h.l2, h.l3, by have := h.l4; simp; omega⟩

end Go.Proofs.Ytmbggdfceecojaa.Cd

/- What is reached in a code: by the reference. -/
set_option linter.all false
namespace Go.Proofs.Ytmbggdfceecojaa.Cd
open Go.AM Mc Ho

end Go.Proofs.Ytmbggdfceecojaa.Cd

/- What is reached in a code: by the program: a mark, the starts. -/
set_option linter.all false
namespace Go.Proofs.Ytmbggdfceecojaa.Cd
open Go.AM Mc Ho

/-- the program's state -/
structure IS (c : CodeD) (H : List AO) (seen named : List Bool) (todo : List Nat) (g : Bool) : Prop where
  c0 : H[0]? = some (.var [.p (.l (inss c.ins)), .p (.l (ints c.starts))])
  s1 : H[1]? = some (.rows 1 0 (boolR seen))
  o2 : H[2]? = some (.var [.gs 1 0 0 seen.length])
  n3 : H[3]? = some (.rows 1 0 (boolR named))
  n4 : H[4]? = some (.var [.gs 3 0 0 named.length])
  g5 : H[5]? = some (.var [.p (.b g)])
  l6 : ∃ t, H[6]? = some (.var [t]) ∧ OwnP H t (natI todo) 8
  r7 : H[7]? = some (.var [.clo 82 [.ptr 2 0, .ptr 6 0]])
  ln : 8 ≤ H.length

theorem IS.ext {c : CodeD} {H : List AO} {seen named : List Bool} {todo : List Nat} {g : Bool} (h : IS c H seen named todo g) (A : List AO) : IS c (H ++ A) seen named todo g := by
  obtain ⟨t, h1, h2⟩ := h.l6
  exact ⟨get_ext h.c0 _, get_ext h.s1 _, get_ext h.o2 _, get_ext h.n3 _, get_ext h.n4 _, get_ext h.g5 _, ⟨t, get_ext h1 _, h2.keep (X := fun _ => False) (fun k sz ver rs hk _ => get_ext hk _)⟩, get_ext h.r7 _, by have := h.ln; simp; omega⟩

end Go.Proofs.Ytmbggdfceecojaa.Cd

/- What is reached in a code: by the program. -/
set_option linter.all false
namespace Go.Proofs.Ytmbggdfceecojaa.Cd
open Go.AM Mc Ho

theorem IS.named {c : CodeD} {H : List AO} {seen named : List Bool} {todo : List Nat} {g : Bool} (h : IS c H seen named todo g) (i : Nat) : IS c (H.set 3 (.rows 1 0 (boolR (named.set i true)))) seen (named.set i true) todo g := by
  obtain ⟨t, h1, h2⟩ := h.l6
  exact ⟨get_set h.c0 (by omega), get_set h.s1 (by omega), get_set h.o2 (by omega), set_get h.n3, by rw [List.length_set]; exact get_set h.n4 (by omega), get_set h.g5 (by omega), ⟨t, get_set h1 (by omega), h2.keep (X := fun _ => False) (fun k sz ver rs hk hlo => get_set hk (by omega))⟩, get_set h.r7 (by omega), by have := h.ln; simp; exact this⟩
theorem IS.goes {c : CodeD} {H : List AO} {seen named : List Bool} {todo : List Nat} {g : Bool} (h : IS c H seen named todo g) (g' : Bool) : IS c (H.set 5 (.var [.p (.b g')])) seen named todo g' := by
  obtain ⟨t, h1, h2⟩ := h.l6
  exact ⟨get_set h.c0 (by omega), get_set h.s1 (by omega), get_set h.o2 (by omega), get_set h.n3 (by omega), get_set h.n4 (by omega), set_get h.g5, ⟨t, get_set h1 (by omega), h2.keep (X := fun _ => False) (fun k sz ver rs hk hlo => get_set hk (by omega))⟩, get_set h.r7 (by omega), by have := h.ln; simp; exact this⟩

end Go.Proofs.Ytmbggdfceecojaa.Cd

/- Reached: the law. -/
set_option linter.all false
namespace Go.Proofs.Ytmbggdfceecojaa.Cd
open Go.AM Mc Ho

end Go.Proofs.Ytmbggdfceecojaa.Cd

/- Trim: the plain law; marks that are still held. -/
set_option linter.all false
namespace Go.Proofs.Ytmbggdfceecojaa.Cd
open Go.AM Mc Ho

/-- how many are reached ahead of a place -/
def pos (B : List Bool) : Nat → Nat
  | 0 => 0
  | i + 1 => pos B i + (if B[i]? = some true then 1 else 0)
def kept (B : List Bool) (l : List InsD) : Nat → List InsD
  | 0 => []
  | i + 1 => kept B l i ++ (match l[i]? with | some x => if B[i]? = some true then [x] else [] | none => [])
/-! a code whose slices are owned -/
def OwnCAt (H : List AO) (r : AV) (t : CodeD) (lo hi : Nat) : Prop := ∃ a b, r = .st [a, b] ∧ OwnAt H a 6 (insR t.ins) lo hi ∧ OwnAt H b 1 (intR .i64 t.starts) lo hi

theorem lent_insv (l : List InsD) {H : List AO} {id ver : Nat} (hid : H[id]? = some (.rows 6 ver (insR l))) : Lent H (.gs id ver 0 l.length) (.p (.l (inss l))) := by
  refine .gs id ver 0 _ 6 _ (inss l) hid (by simp [insR]) (inss_len l) (fun y hy => by obtain ⟨z, _, rfl⟩ := List.mem_map.1 hy; rfl) ?_
  intro i r y j c q hr hy hc hq
  rw [Nat.zero_add, insR, List.getElem?_map] at hr
  rw [inss, List.getElem?_map] at hy
  cases hz : l[i]? with
  | none => rw [hz] at hr; cases hr
  | some z =>
    rw [hz] at hr hy
    cases hr; cases hy
    rw [List.getElem?_map, hq] at hc
    cases hc
    exact .pure _
theorem insR_len (l : List InsD) : (insR l).length = l.length := by simp [insR]
theorem intR_len' (k) (l : List Int) : (intR k l).length = l.length := by simp [intR]
theorem ownI_lent {H : List AO} {a : AV} {l : List InsD} (h : OwnR H a 6 (insR l)) : Lent H a (.p (.l (inss l))) := by
  rcases h with ⟨rfl, h⟩ | ⟨id, ver, rfl, h⟩
  · have : l = [] := by simpa [insR] using h
    subst this
    exact .nl
  · rw [insR_len]
    exact lent_insv l h
theorem ownZ_lent {H : List AO} {a : AV} {l : List Int} (h : OwnR H a 1 (intR .i64 l)) : Lent H a (.p (.l (ints l))) := by
  rcases h with ⟨rfl, h⟩ | ⟨id, ver, rfl, h⟩
  · have : l = [] := by simpa [intR] using h
    subst this
    exact .nl
  · rw [intR_len']
    exact lent_k .i64 l h
end Go.Proofs.Ytmbggdfceecojaa.Cd

/- THE SMALL CODES of functions 6 33 34 35 49 84, and their ties to the program (printed by wip/tools/mkties.sh). -/
set_option linter.all false
namespace Go.Proofs.Ytmbggdfceecojaa.Mc
open Go.AM
def lv49 : List Nat := [0, 1, 4, 5, 9, 17]
def mc49 : MC :=
.seq (.reg [
    ⟨.l 4, .mv (.c (.p (.i .i64 0))), none⟩]) (
  .seq (.seq (.reg [
    ⟨.l 5, .mv (.c (.p (.i .i64 0))), none⟩]) (
  .blk 0 (
    .loop (
      .seq (.seq (.reg [
        ⟨.t 6, .mv (.l 5), none⟩,
        ⟨.t 7, .mv (.l 0), none⟩,
        ⟨.t 8, .len false (.t 7), none⟩,
        ⟨.l 9, .bin .lss (.t 6) (.t 8), none⟩]) (
      .cond (.l 9) (
        .skip) (
        .exit 0))) (
      .seq (.blk 1 (
        .seq (.seq (.reg [
          ⟨.t 12, .mv (.l 0), none⟩,
          ⟨.t 13, .mv (.l 5), none⟩,
          ⟨.t 14, .ixs 1 (.t 12) (.t 13), none⟩,
          ⟨.t 15, .ld false 1 (.t 14), none⟩,
          ⟨.t 16, .mv (.l 1), none⟩,
          ⟨.l 17, .bin .neq (.t 15) (.t 16), none⟩]) (
        .cond (.l 17) (
          .seq (.reg [
            ⟨.l 4, .mv (.c (.p (.i .i64 (-1)))), none⟩]) (
          .ret)) (
          .skip))) (
        .reg [
          ⟨.t 18, .mv (.l 1), none⟩,
          ⟨.t 19, .bin .add (.t 18) (.c (.p (.i .i64 1))), none⟩,
          ⟨.l 1, .mv (.t 19), none⟩]))) (
      .reg [
        ⟨.t 10, .mv (.l 5), none⟩,
        ⟨.t 11, .bin .add (.t 10) (.c (.p (.i .i64 1))), none⟩,
        ⟨.l 5, .mv (.t 11), none⟩])))))) (
  .seq (.reg [
    ⟨.t 20, .mv (.l 1), none⟩,
    ⟨.l 4, .mv (.t 20), none⟩]) (
  .ret)))
theorem mc49_eq : (Try.f49.body.map (compile lv49 Try.prog 21)) = some mc49 := by kernel_rfl
def mr49 : List MR := [.t 4]
theorem mr49_eq : cRess lv49 Try.prog Try.f49.results.toList = some mr49 := by kernel_rfl
theorem call49 {args : List AV} {H : List AO} {Q : AV → List AO → Prop} (hla : args.length ≤ 21) (h : wpm (ACall Try.prog) mc49 (finK mr49 Q) ⟨argEnv 0 args, [], H⟩) : ACall Try.prog 49 args H Q :=
  acall_mc (by kernel_rfl) Try.func49 mc49_eq Try.ntmps49 (by kernel_rfl) mr49_eq hla h
end Go.Proofs.Ytmbggdfceecojaa.Mc

/- Trim: marks by which a code is known, and that they are still held. -/
set_option linter.all false
namespace Go.Proofs.Ytmbggdfceecojaa.Cd
open Go.AM Mc Ho

theorem patIR_len (k n) : (patIR k n).length = n := by simp [patIR]
def patZ (k : Int) (n : Nat) : List Int := (List.range n).map fun j => k + (j : Nat)
theorem patZ_len (k n) : (patZ k n).length = n := by simp [patZ]
theorem patZ_get (k : Int) (n : Nat) {i : Nat} (h : i < n) : (intR .i64 (patZ k n))[i]? = some [.p (.i .i64 (k + i))] := by simp [intR, patZ, h]
theorem heldIntS {H : List AO} {id ver : Nat} (n : Nat) (k : Int) (hid : H[id]? = some (.rows 1 ver (intR .i64 (patZ k n)))) (hn : n ≤ 100000000) (hk0 : 0 ≤ k) (hk : k ≤ 100000000) :
    ACall Try.prog 49 [.gs id ver 0 n, .p (.i .i64 k)] H (fun r H' => r = .p (.i .i64 (k + n)) ∧ H' = H) := by
  have hm : n ≤ maxL := by unfold maxL; omega
  refine call49 (by simp) ?_
  simp only [go_sem, Nat.reduceEqDiff, reduceIte, ↓reduceIte, Nat.reduceAdd, mc49, mr49]
  refine ⟨Nat, [0, 1, 4, 5], fun i st => i ≤ n ∧ st = ⟨[(0, .gs id ver 0 n), (1, .p (.i .i64 (k + i))), (4, .p (.i .i64 0)), (5, .p (.i .i64 i))], [], H⟩, fun i => n - i, ⟨0, ?_⟩, ?_⟩
  · simp only [go_sem, Nat.reduceEqDiff, reduceIte, ↓reduceIte, Nat.reduceAdd]
    exact ⟨Nat.zero_le _, by simp⟩
  · rintro i st ⟨hi, rfl⟩
    simp only [go_sem, Nat.reduceEqDiff, reduceIte, ↓reduceIte, Nat.reduceAdd]
    intro _
    refine condK_split _ (fun hc => ?_) (fun hc => ?_)
    · have hil : i < n := by simpa using hc
      have hci : (i : Int) < (n : Int) := by omega
      simp only [go_sem, Nat.reduceEqDiff, reduceIte, ↓reduceIte, Nat.reduceAdd, List.replicate_succ, List.replicate_zero, List.set_cons_zero, List.set_cons_succ, List.length_cons, List.length_nil, Nat.reduceLT, Nat.lt_add_one, ne_eq, Int.reduceEq, not_false_eq_true, Option.map_some, Nat.reduceLeDiff, Nat.zero_lt_succ, List.map_cons, List.map_nil, List.nil_append, List.cons_append, List.append_nil, bytesOf, List.take_succ_cons, List.take_zero, List.drop_zero, and_self, List.append_assoc, List.length_append, Int.reduceLT, Int.reduceLE, Int.toNat_zero, Int.reduceToNat, Int.cast_ofNat_Int, Int.natCast_zero, Int.natCast_one, Int.reduceAdd, List.map_append, Option.bind_some, hid, patZ_get k n hil, hci]
      refine ⟨i + 1, ⟨hil, ?_⟩, by omega⟩
      rw [wr1 hil hm, wr64 (by omega) (by omega)]
      simp only [Int.natCast_add, Int.natCast_one, Int.add_assoc]
    · have hil : i = n := by simp at hc; omega
      simp only [go_sem, Nat.reduceEqDiff, reduceIte, ↓reduceIte, Nat.reduceAdd]
      subst hil
      rfl

/-! the same, of slices that are owned -/
/-- what a call keeps that writes into one slice -/
def KeptO (a : AV) (H H' : List AO) : Prop := H'.length = H.length ∧ ∀ (j : Nat) o, H[j]? = some o → (∀ ver off n, a ≠ .gs j ver off n) → H'[j]? = some o
theorem KeptO.refl (a : AV) (H : List AO) : KeptO a H H := ⟨rfl, fun j o h _ => h⟩
theorem KeptO.at {a : AV} {H H' : List AO} (h : KeptO a H H') {sz : Nat} {rs : List (List AV)} (ha : OwnR H a sz rs) {j : Nat} {o : AO} (hj : H[j]? = some o) (hne : ∀ ver rs', o ≠ .rows sz ver rs') : H'[j]? = some o := by
  refine h.2 j o hj fun ver off n e => ?_
  rcases ha with ⟨rfl, _⟩ | ⟨id, v, rfl, h2⟩
  · cases e
  · cases e
    rw [hj] at h2; cases h2
    exact hne _ _ rfl
theorem KeptO.out {a : AV} {H H' : List AO} (h : KeptO a H H') {sz : Nat} {rs : List (List AV)} {lo hi : Nat} (ha : OwnAt H a sz rs lo hi) {j : Nat} {o : AO} (hj : H[j]? = some o) (hlt : j < lo ∨ hi ≤ j) : H'[j]? = some o := by
  refine h.2 j o hj fun ver off n e => ?_
  rcases ha with ⟨rfl, _⟩ | ⟨id, v, h0, h1, rfl, h2⟩
  · cases e
  · cases e; omega
theorem KeptO.own {a : AV} {H H' : List AO} (h : KeptO a H H') {sz sz' : Nat} {rs rs' : List (List AV)} {lo hi lo' hi' : Nat} (ha : OwnAt H a sz rs lo hi) {b : AV} (hb : OwnAt H b sz' rs' lo' hi') (hne : sz ≠ sz') : OwnAt H' b sz' rs' lo' hi' := by
  rcases hb with hb | ⟨id, v, h0, h1, e, h2⟩
  · exact .inl hb
  · exact .inr ⟨id, v, h0, h1, e, h.at ha.own h2 (fun ver rs' e => by cases e; exact hne rfl)⟩

theorem markInstrS_own {H : List AO} {a : AV} {rs : List (List AV)} {lo hi : Nat} (h : OwnAt H a 6 rs lo hi) (h6 : ∀ r ∈ rs, r.length = 6) (hn : rs.length ≤ 1048576) (k : Int) (hk0 : 0 ≤ k) (hk : k ≤ 100000000) :
    ACall Try.prog 79 [a, .p (.i .i64 k)] H (fun r H' => r = .p (.i .i64 (k + 6 * rs.length)) ∧ OwnAt H' a 6 (patIR k rs.length) lo hi ∧ KeptO a H H') := by
  rcases h with ⟨rfl, rfl⟩ | ⟨id, ver, h0, h1, rfl, h3⟩
  · refine call79 (by simp) ?_
    simp only [go_sem, Nat.reduceEqDiff, reduceIte, ↓reduceIte, Nat.reduceAdd, List.replicate_succ, List.replicate_zero, List.set_cons_zero, List.set_cons_succ, List.length_cons, List.length_nil, Nat.reduceLT, Nat.lt_add_one, ne_eq, Int.reduceEq, not_false_eq_true, Option.map_some, Nat.reduceLeDiff, Nat.zero_lt_succ, List.map_cons, List.map_nil, List.nil_append, List.cons_append, List.append_nil, bytesOf, List.take_succ_cons, List.take_zero, List.drop_zero, and_self, List.append_assoc, List.length_append, Int.reduceLT, Int.reduceLE, Int.toNat_zero, Int.reduceToNat, Int.cast_ofNat_Int, Int.natCast_zero, Int.natCast_one, Int.reduceAdd, List.map_append, Option.bind_some, mc79, mr79]
    refine ⟨Unit, [0, 1, 4, 5], fun _ st => st = ⟨[(0, .p .nl), (1, .p (.i .i64 k)), (4, .p (.i .i64 0)), (5, .p (.i .i64 0))], [], H⟩, fun _ => 0, ⟨(), ?_⟩, ?_⟩
    · simp only [go_sem, Nat.reduceEqDiff, reduceIte, ↓reduceIte, Nat.reduceAdd, List.replicate_succ, List.replicate_zero, List.set_cons_zero, List.set_cons_succ, List.length_cons, List.length_nil, Nat.reduceLT, Nat.lt_add_one, ne_eq, Int.reduceEq, not_false_eq_true, Option.map_some, Nat.reduceLeDiff, Nat.zero_lt_succ, List.map_cons, List.map_nil, List.nil_append, List.cons_append, List.append_nil, bytesOf, List.take_succ_cons, List.take_zero, List.drop_zero, and_self, List.append_assoc, List.length_append, Int.reduceLT, Int.reduceLE, Int.toNat_zero, Int.reduceToNat, Int.cast_ofNat_Int, Int.natCast_zero, Int.natCast_one, Int.reduceAdd, List.map_append, Option.bind_some]
    · rintro _ st rfl
      simp only [go_sem, Nat.reduceEqDiff, reduceIte, ↓reduceIte, Nat.reduceAdd, List.replicate_succ, List.replicate_zero, List.set_cons_zero, List.set_cons_succ, List.length_cons, List.length_nil, Nat.reduceLT, Nat.lt_add_one, ne_eq, Int.reduceEq, not_false_eq_true, Option.map_some, Nat.reduceLeDiff, Nat.zero_lt_succ, List.map_cons, List.map_nil, List.nil_append, List.cons_append, List.append_nil, bytesOf, List.take_succ_cons, List.take_zero, List.drop_zero, and_self, List.append_assoc, List.length_append, Int.reduceLT, Int.reduceLE, Int.toNat_zero, Int.reduceToNat, Int.cast_ofNat_Int, Int.natCast_zero, Int.natCast_one, Int.reduceAdd, List.map_append, Option.bind_some, Int.reduceLT, decide_false]
      exact ⟨by simp, .inl ⟨rfl, rfl⟩, KeptO.refl _ _⟩
  · refine (markInstrS rs h3 h6 hn k hk0 hk).mono ?_
    rintro r H' ⟨rfl, rfl⟩
    refine ⟨rfl, .inr ⟨id, ver, h0, h1, by rw [patIR_len], set_get h3⟩, by simp, fun j o h hj => ?_⟩
    rw [List.getElem?_set_ne (by rintro rfl; exact hj _ _ _ rfl)]; exact h
theorem markIntS_own {H : List AO} {a : AV} {rs : List (List AV)} {lo hi : Nat} (h : OwnAt H a 1 rs lo hi) (h6 : ∀ r ∈ rs, r.length = 1) (hn : rs.length ≤ 100000000) (k : Int) (hk0 : 0 ≤ k) (hk : k ≤ 100000000) :
    ACall Try.prog 48 [a, .p (.i .i64 k)] H (fun r H' => r = .p (.i .i64 (k + rs.length)) ∧ OwnAt H' a 1 (intR .i64 (patZ k rs.length)) lo hi ∧ KeptO a H H') := by
  rcases h with ⟨rfl, rfl⟩ | ⟨id, ver, h0, h1, rfl, h3⟩
  · refine call48 (by simp) ?_
    simp only [go_sem, Nat.reduceEqDiff, reduceIte, ↓reduceIte, Nat.reduceAdd, List.replicate_succ, List.replicate_zero, List.set_cons_zero, List.set_cons_succ, List.length_cons, List.length_nil, Nat.reduceLT, Nat.lt_add_one, ne_eq, Int.reduceEq, not_false_eq_true, Option.map_some, Nat.reduceLeDiff, Nat.zero_lt_succ, List.map_cons, List.map_nil, List.nil_append, List.cons_append, List.append_nil, bytesOf, List.take_succ_cons, List.take_zero, List.drop_zero, and_self, List.append_assoc, List.length_append, Int.reduceLT, Int.reduceLE, Int.toNat_zero, Int.reduceToNat, Int.cast_ofNat_Int, Int.natCast_zero, Int.natCast_one, Int.reduceAdd, List.map_append, Option.bind_some, mc48, mr48]
    refine ⟨Unit, [0, 1, 4, 5], fun _ st => st = ⟨[(0, .p .nl), (1, .p (.i .i64 k)), (4, .p (.i .i64 0)), (5, .p (.i .i64 0))], [], H⟩, fun _ => 0, ⟨(), ?_⟩, ?_⟩
    · simp only [go_sem, Nat.reduceEqDiff, reduceIte, ↓reduceIte, Nat.reduceAdd, List.replicate_succ, List.replicate_zero, List.set_cons_zero, List.set_cons_succ, List.length_cons, List.length_nil, Nat.reduceLT, Nat.lt_add_one, ne_eq, Int.reduceEq, not_false_eq_true, Option.map_some, Nat.reduceLeDiff, Nat.zero_lt_succ, List.map_cons, List.map_nil, List.nil_append, List.cons_append, List.append_nil, bytesOf, List.take_succ_cons, List.take_zero, List.drop_zero, and_self, List.append_assoc, List.length_append, Int.reduceLT, Int.reduceLE, Int.toNat_zero, Int.reduceToNat, Int.cast_ofNat_Int, Int.natCast_zero, Int.natCast_one, Int.reduceAdd, List.map_append, Option.bind_some]
    · rintro _ st rfl
      simp only [go_sem, Nat.reduceEqDiff, reduceIte, ↓reduceIte, Nat.reduceAdd, List.replicate_succ, List.replicate_zero, List.set_cons_zero, List.set_cons_succ, List.length_cons, List.length_nil, Nat.reduceLT, Nat.lt_add_one, ne_eq, Int.reduceEq, not_false_eq_true, Option.map_some, Nat.reduceLeDiff, Nat.zero_lt_succ, List.map_cons, List.map_nil, List.nil_append, List.cons_append, List.append_nil, bytesOf, List.take_succ_cons, List.take_zero, List.drop_zero, and_self, List.append_assoc, List.length_append, Int.reduceLT, Int.reduceLE, Int.toNat_zero, Int.reduceToNat, Int.cast_ofNat_Int, Int.natCast_zero, Int.natCast_one, Int.reduceAdd, List.map_append, Option.bind_some, Int.reduceLT, decide_false]
      exact ⟨by simp, .inl ⟨rfl, rfl⟩, KeptO.refl _ _⟩
  · refine (markIntS rs h3 h6 hn k hk0 hk).mono ?_
    rintro r H' ⟨rfl, rfl⟩
    refine ⟨rfl, .inr ⟨id, ver, h0, h1, by rw [intR_len', patZ_len], set_get h3⟩, by simp, fun j o h hj => ?_⟩
    rw [List.getElem?_set_ne (by rintro rfl; exact hj _ _ _ rfl)]; exact h
theorem heldIntS_own {H : List AO} {a : AV} {n : Nat} {lo hi : Nat} (k : Int) (h : OwnAt H a 1 (intR .i64 (patZ k n)) lo hi) (hn : n ≤ 100000000) (hk0 : 0 ≤ k) (hk : k ≤ 100000000) :
    ACall Try.prog 49 [a, .p (.i .i64 k)] H (fun r H' => r = .p (.i .i64 (k + n)) ∧ H' = H) := by
  rcases h with ⟨rfl, he⟩ | ⟨id, ver, h0, h1, rfl, h3⟩
  · have hz : n = 0 := by
      have : (intR .i64 (patZ k n)).length = 0 := by rw [he]; rfl
      rw [intR_len', patZ_len] at this; exact this
    subst hz
    refine call49 (by simp) ?_
    simp only [go_sem, Nat.reduceEqDiff, reduceIte, ↓reduceIte, Nat.reduceAdd, List.replicate_succ, List.replicate_zero, List.set_cons_zero, List.set_cons_succ, List.length_cons, List.length_nil, Nat.reduceLT, Nat.lt_add_one, ne_eq, Int.reduceEq, not_false_eq_true, Option.map_some, Nat.reduceLeDiff, Nat.zero_lt_succ, List.map_cons, List.map_nil, List.nil_append, List.cons_append, List.append_nil, bytesOf, List.take_succ_cons, List.take_zero, List.drop_zero, and_self, List.append_assoc, List.length_append, Int.reduceLT, Int.reduceLE, Int.toNat_zero, Int.reduceToNat, Int.cast_ofNat_Int, Int.natCast_zero, Int.natCast_one, Int.reduceAdd, List.map_append, Option.bind_some, mc49, mr49]
    refine ⟨Unit, [0, 1, 4, 5], fun _ st => st = ⟨[(0, .p .nl), (1, .p (.i .i64 k)), (4, .p (.i .i64 0)), (5, .p (.i .i64 0))], [], H⟩, fun _ => 0, ⟨(), ?_⟩, ?_⟩
    · simp only [go_sem, Nat.reduceEqDiff, reduceIte, ↓reduceIte, Nat.reduceAdd, List.replicate_succ, List.replicate_zero, List.set_cons_zero, List.set_cons_succ, List.length_cons, List.length_nil, Nat.reduceLT, Nat.lt_add_one, ne_eq, Int.reduceEq, not_false_eq_true, Option.map_some, Nat.reduceLeDiff, Nat.zero_lt_succ, List.map_cons, List.map_nil, List.nil_append, List.cons_append, List.append_nil, bytesOf, List.take_succ_cons, List.take_zero, List.drop_zero, and_self, List.append_assoc, List.length_append, Int.reduceLT, Int.reduceLE, Int.toNat_zero, Int.reduceToNat, Int.cast_ofNat_Int, Int.natCast_zero, Int.natCast_one, Int.reduceAdd, List.map_append, Option.bind_some]
    · rintro _ st rfl
      simp only [go_sem, Nat.reduceEqDiff, reduceIte, ↓reduceIte, Nat.reduceAdd, List.replicate_succ, List.replicate_zero, List.set_cons_zero, List.set_cons_succ, List.length_cons, List.length_nil, Nat.reduceLT, Nat.lt_add_one, ne_eq, Int.reduceEq, not_false_eq_true, Option.map_some, Nat.reduceLeDiff, Nat.zero_lt_succ, List.map_cons, List.map_nil, List.nil_append, List.cons_append, List.append_nil, bytesOf, List.take_succ_cons, List.take_zero, List.drop_zero, and_self, List.append_assoc, List.length_append, Int.reduceLT, Int.reduceLE, Int.toNat_zero, Int.reduceToNat, Int.cast_ofNat_Int, Int.natCast_zero, Int.natCast_one, Int.reduceAdd, List.map_append, Option.bind_some, Int.reduceLT, decide_false]
      simp
  · rw [intR_len', patZ_len]
    exact heldIntS n k h3 hn hk0 hk

/-- a code that is marked -/
def PatAt (H : List AO) (r : AV) (m n : Nat) (lo hi : Nat) : Prop := ∃ a b, r = .st [a, b] ∧ OwnAt H a 6 (patIR 1 m) lo hi ∧ OwnAt H b 1 (intR .i64 (patZ (1 + 6 * m) n)) lo hi

theorem markCodeO {t : CodeD} (hs : small t) {H : List AO} {r : AV} {lo hi : Nat} (hh : hi ≤ H.length) (h : OwnCAt H r t lo hi) :
    ACall Try.prog 25 [r, .p (.i .i64 1)] H (fun q H' => q = .p (.i .i64 (1 + 6 * t.ins.length + t.starts.length)) ∧ PatAt H' r t.ins.length t.starts.length lo hi ∧ H.length ≤ H'.length ∧ ∀ (j : Nat) o, H[j]? = some o → j < lo ∨ hi ≤ j → H'[j]? = some o) := by
  unfold small at hs
  obtain ⟨a, b, rfl, ha, hb⟩ := h
  refine call25 (by simp) ?_
  simp only [go_sem, Nat.reduceEqDiff, reduceIte, ↓reduceIte, Nat.reduceAdd, List.replicate_succ, List.replicate_zero, List.set_cons_zero, List.set_cons_succ, List.length_cons, List.length_nil, Nat.reduceLT, Nat.lt_add_one, ne_eq, Int.reduceEq, not_false_eq_true, Option.map_some, Nat.reduceLeDiff, Nat.zero_lt_succ, List.map_cons, List.map_nil, List.nil_append, List.cons_append, List.append_nil, bytesOf, List.take_succ_cons, List.take_zero, List.drop_zero, and_self, List.append_assoc, List.length_append, Int.reduceLT, Int.reduceLE, Int.toNat_zero, Int.reduceToNat, Int.cast_ofNat_Int, Int.natCast_zero, Int.natCast_one, Int.reduceAdd, List.map_append, Option.bind_some, mc25, mr25]
  have ha1 := ha.ext [AO.var [a, b]]
  have hb1 := hb.ext [AO.var [a, b]]
  have hv1 : (H ++ [AO.var [a, b]])[H.length]? = some (.var [a, b]) := get_off0 _ _
  have hk1 : ∀ (j : Nat) o, H[j]? = some o → (H ++ [AO.var [a, b]])[j]? = some o := fun j o h => get_ext h _
  have hl1 : (H ++ [AO.var [a, b]]).length = H.length + 1 := by simp
  generalize H ++ [AO.var [a, b]] = H1 at ha1 hb1 hv1 hk1 hl1 ⊢
  refine (markInstrS_own ha1 (insR_len6 _) (by rw [insR_len]; omega) 1 (by omega) (by omega)).mono ?_
  rintro r H2 ⟨rfl, ha2, hk2⟩
  have hv2 := hk2.at ha1.own hv1 (fun _ _ e => by cases e)
  have hb2 := hk2.own ha1 hb1 (by omega)
  rw [insR_len] at ha2 ⊢
  simp only [go_sem, Nat.reduceEqDiff, reduceIte, ↓reduceIte, Nat.reduceAdd, List.replicate_succ, List.replicate_zero, List.set_cons_zero, List.set_cons_succ, List.length_cons, List.length_nil, Nat.reduceLT, Nat.lt_add_one, ne_eq, Int.reduceEq, not_false_eq_true, Option.map_some, Nat.reduceLeDiff, Nat.zero_lt_succ, List.map_cons, List.map_nil, List.nil_append, List.cons_append, List.append_nil, bytesOf, List.take_succ_cons, List.take_zero, List.drop_zero, and_self, List.append_assoc, List.length_append, Int.reduceLT, Int.reduceLE, Int.toNat_zero, Int.reduceToNat, Int.cast_ofNat_Int, Int.natCast_zero, Int.natCast_one, Int.reduceAdd, List.map_append, Option.bind_some, hv2]
  refine (markIntS_own hb2 (intR_len1 _ _) (by rw [intR_len']; omega) (1 + 6 * (t.ins.length : Int)) (by omega) (by omega)).mono ?_
  rintro r H3 ⟨rfl, hb3, hk3⟩
  have ha3 := hk3.own hb2 ha2 (by omega)
  rw [intR_len'] at hb3 ⊢
  simp only [go_sem, Nat.reduceEqDiff, reduceIte, ↓reduceIte, Nat.reduceAdd, List.replicate_succ, List.replicate_zero, List.set_cons_zero, List.set_cons_succ, List.length_cons, List.length_nil, Nat.reduceLT, Nat.lt_add_one, ne_eq, Int.reduceEq, not_false_eq_true, Option.map_some, Nat.reduceLeDiff, Nat.zero_lt_succ, List.map_cons, List.map_nil, List.nil_append, List.cons_append, List.append_nil, bytesOf, List.take_succ_cons, List.take_zero, List.drop_zero, and_self, List.append_assoc, List.length_append, Int.reduceLT, Int.reduceLE, Int.toNat_zero, Int.reduceToNat, Int.cast_ofNat_Int, Int.natCast_zero, Int.natCast_one, Int.reduceAdd, List.map_append, Option.bind_some]
  refine ⟨⟨a, b, rfl, ha3, hb3⟩, by rw [hk3.1, hk2.1, hl1]; omega, fun j o hj hlt => ?_⟩
  exact hk3.out hb2 (hk2.out ha1 (hk1 j o hj) hlt) hlt

end Go.Proofs.Ytmbggdfceecojaa.Cd

/- Profile, of both. -/
set_option linter.all false
namespace Go.Proofs.Ytmbggdfceecojaa.Cd
open Go.AM Mc Ho

end Go.Proofs.Ytmbggdfceecojaa.Cd

/- Trace, of both. -/
set_option linter.all false
namespace Go.Proofs.Ytmbggdfceecojaa.Cd
open Go.AM Mc Ho

end Go.Proofs.Ytmbggdfceecojaa.Cd

/- Step1: the law. -/
set_option linter.all false
namespace Go.Proofs.Ytmbggdfceecojaa.Cd
open Go.AM Mc Ho

theorem eqIntS_any (xs ys : List Int) (hx : xs.length ≤ maxL) (hy : ys.length ≤ maxL) {H : List AO} {a b : AV} (ha : Lent H a (.p (.l (ints xs)))) (hb : Lent H b (.p (.l (ints ys)))) :
    ACall Try.prog 18 [a, b] H (pureQ (.p (.b (decide (xs = ys)))) H) :=
  (acall_lend (eqIntS xs ys hx hy) (fun r H' h => by subst h; exact grnd_b _) (lentAll_cons ha (lentAll_cons hb (lentAll_nil _)))).mono fun r H' ⟨h1, _, h2⟩ => ⟨h2, h1⟩
theorem toIntS' (zs : List Int) (hz : zs.length ≤ 1048576) (H : List AO) : ACall Try.prog 16 [.p (.l (ints zs))] H (pureQ (.gs H.length 0 0 zs.length) (H ++ [.rows 1 0 (intR .i64 zs)])) := toIntS zs hz H
theorem toCode' (c : CodeD) (hc : okCode c) (hs : small c) (H : List AO) : ACall Try.prog 21 [.st (c.cells.map .p)] H (pureQ (.st [.gs H.length 0 0 c.ins.length, .gs (H.length + 1) 0 0 c.starts.length]) (H ++ [.rows 6 0 (insR c.ins), .rows 1 0 (intR .i64 c.starts)])) := toCode c hc hs H
theorem lent_ints' (zs : List Int) {H : List AO} {id : Nat} (hid : H[id]? = some (.rows 1 0 (intR .i64 zs))) : Lent H (.gs id 0 0 zs.length) (.p (.l (ints zs))) := lent_ints zs hid
theorem lent_code' (c : CodeD) {H : List AO} {i j : Nat} (h0 : H[i]? = some (.rows 6 0 (insR c.ins))) (h1 : H[j]? = some (.rows 1 0 (intR .i64 c.starts))) (e : j = i + 1) : Lent H (.st [.gs i 0 0 c.ins.length, .gs j 0 0 c.starts.length]) (.st (c.cells.map .p)) := by subst e; exact lent_code c h0 h1

end Go.Proofs.Ytmbggdfceecojaa.Cd

/- Trim: by the reference. -/
set_option linter.all false
namespace Go.Proofs.Ytmbggdfceecojaa.Cd
open Go.AM Mc Ho

def posL (B : List Bool) (i : Nat) : List Int := (List.range i).map fun j => ((pos B j : Nat) : Int)
/-- what stands while the new code is made -/
structure TB (c : CodeD) (B : List Bool) (sid sver tid tver P : Nat) (H : List AO) : Prop where
  v0 : H[0]? = some (.var [.p (.l (inss c.ins)), .p (.l (ints c.starts))])
  v1 : H[1]? = some (.var [.p .nl, .p .nl])
  sn : H[sid]? = some (.rows 1 sver (boolR B))
  to : H[tid]? = some (.rows 1 tver (intR .i64 (posL B c.ins.length)))
  l1 : 1 < P
  ls : sid < P
  lt : tid < P
  le : P < H.length
theorem TB.sk {c B sid sver tid tver P} {H H' : List AO} (h : TB c B sid sver tid tver P H) (k : SK P (fun _ => False) H H') : TB c B sid sver tid tver P H' where
  v0 := k.1 _ _ h.v0 (fun f => f)
  v1 := k.1 _ _ h.v1 (fun f => f)
  sn := by rw [k.2.1 _ h.ls (fun f => f)]; exact h.sn
  to := by rw [k.2.1 _ h.lt (fun f => f)]; exact h.to
  l1 := h.l1
  ls := h.ls
  lt := h.lt
  le := Nat.lt_of_lt_of_le h.le k.2.2
theorem TB.ext {c B sid sver tid tver P} {H : List AO} (h : TB c B sid sver tid tver P H) (A : List AO) : TB c B sid sver tid tver P (H ++ A) := h.sk (SK.app (Nat.le_of_lt h.le))
theorem TB.set {c B sid sver tid tver P} {H : List AO} (h : TB c B sid sver tid tver P H) {j : Nat} (o : AO) (hj : P ≤ j) : TB c B sid sver tid tver P (H.set j o) where
  v0 := get_set h.v0 (by have := h.l1; omega)
  v1 := get_set h.v1 (by have := h.l1; omega)
  sn := get_set h.sn (by have := h.ls; omega)
  to := get_set h.to (by have := h.lt; omega)
  l1 := h.l1
  ls := h.ls
  lt := h.lt
  le := by simpa using h.le
theorem _root_.Go.AM.OwnAt.put {H : List AO} {a : AV} {sz : Nat} {rs : List (List AV)} {lo hi j : Nat} {cs : List AV} (h : OwnAt H a sz rs lo hi) (hj : H[j]? = some (.var cs)) (o : AO) : OwnAt (H.set j o) a sz rs lo hi := by
  rcases h with h | ⟨id, ver, h0, h1, h2, h3⟩
  · exact .inl h
  · exact .inr ⟨id, ver, h0, h1, h2, get_set h3 (by rintro rfl; rw [hj] at h3; cases h3)⟩
end Go.Proofs.Ytmbggdfceecojaa.Cd

/- Trim: by the program. -/
set_option linter.all false
namespace Go.Proofs.Ytmbggdfceecojaa.Cd
open Go.AM Mc Ho

/-- what stands while the new code is made -/
structure TI (c : CodeD) (B : List Bool) (sid sver tid P : Nat) (pl : List (List AV)) (H : List AO) : Prop where
  v0 : H[0]? = some (.var [.p (.l (inss c.ins)), .p (.l (ints c.starts))])
  v1 : H[1]? = some (.var [.p .nl, .p .nl])
  sn : H[sid]? = some (.rows 1 sver (boolR B))
  to : H[tid]? = some (.rows 1 0 pl)
  l1 : 1 < P
  ls : sid < tid
  lt : tid < P
  le : P < H.length
theorem TI.sk {c B sid sver tid P pl} {H H' : List AO} (h : TI c B sid sver tid P pl H) (k : SK P (fun _ => False) H H') : TI c B sid sver tid P pl H' where
  v0 := k.1 _ _ h.v0 (fun f => f)
  v1 := k.1 _ _ h.v1 (fun f => f)
  sn := by rw [k.2.1 _ (Nat.lt_trans h.ls h.lt) (fun f => f)]; exact h.sn
  to := by rw [k.2.1 _ h.lt (fun f => f)]; exact h.to
  l1 := h.l1
  ls := h.ls
  lt := h.lt
  le := Nat.lt_of_lt_of_le h.le k.2.2
theorem TI.ext {c B sid sver tid P pl} {H : List AO} (h : TI c B sid sver tid P pl H) (A : List AO) : TI c B sid sver tid P pl (H ++ A) := h.sk (SK.app (Nat.le_of_lt h.le))
theorem TI.set {c B sid sver tid P pl} {H : List AO} (h : TI c B sid sver tid P pl H) {j : Nat} (o : AO) (hj : P ≤ j) : TI c B sid sver tid P pl (H.set j o) where
  v0 := get_set h.v0 (by have := h.l1; omega)
  v1 := get_set h.v1 (by have := h.l1; omega)
  sn := get_set h.sn (by have := h.ls; have := h.lt; omega)
  to := get_set h.to (by have := h.lt; omega)
  l1 := h.l1
  ls := h.ls
  lt := h.lt
  le := by simpa using h.le
theorem TI.put {c B sid sver tid P pl} {H : List AO} (h : TI c B sid sver tid P pl H) (pl' : List (List AV)) (ht : 1 < tid) : TI c B sid sver tid P pl' (H.set tid (.rows 1 0 pl')) where
  v0 := get_set h.v0 (by omega)
  v1 := get_set h.v1 (by omega)
  sn := get_set h.sn (by have := h.ls; omega)
  to := set_get h.to
  l1 := h.l1
  ls := h.ls
  lt := h.lt
  le := by simpa using h.le
end Go.Proofs.Ytmbggdfceecojaa.Cd

/- Trim: the law. -/
set_option linter.all false
namespace Go.Proofs.Ytmbggdfceecojaa.Cd
open Go.AM Mc Ho

theorem OwnCAt.keep {H H' : List AO} {r : AV} {t : CodeD} {lo hi : Nat} (h : OwnCAt H r t lo hi) (k : ∀ (j : Nat) o, H[j]? = some o → lo ≤ j → j < hi → H'[j]? = some o) : OwnCAt H' r t lo hi := by
  obtain ⟨a, b, rfl, ha, hb⟩ := h
  refine ⟨a, b, rfl, ?_, ?_⟩
  · rcases ha with h | ⟨id, ver, h0, h1, h2, h3⟩
    · exact .inl h
    · exact .inr ⟨id, ver, h0, h1, h2, k _ _ h3 h0 h1⟩
  · rcases hb with h | ⟨id, ver, h0, h1, h2, h3⟩
    · exact .inl h
    · exact .inr ⟨id, ver, h0, h1, h2, k _ _ h3 h0 h1⟩
theorem OwnCAt.ext {H : List AO} {r : AV} {t : CodeD} {lo hi : Nat} (h : OwnCAt H r t lo hi) (A : List AO) : OwnCAt (H ++ A) r t lo hi := h.keep fun j o hj _ _ => get_ext hj A
theorem PatAt.ext {H : List AO} {r : AV} {m n : Nat} {lo hi : Nat} (h : PatAt H r m n lo hi) (A : List AO) : PatAt (H ++ A) r m n lo hi := by
  obtain ⟨a, b, rfl, ha, hb⟩ := h
  exact ⟨a, b, rfl, ha.ext A, hb.ext A⟩
theorem OwnCAt.lent {H : List AO} {r : AV} {t : CodeD} {lo hi : Nat} (h : OwnCAt H r t lo hi) : Lent H r (.st (t.cells.map .p)) := by
  obtain ⟨a, b, rfl, ha, hb⟩ := h
  refine .st _ _ rfl fun j x y hx hy => ?_
  match j with
  | 0 => cases hx; cases hy; exact ownI_lent ha.own
  | 1 => cases hx; cases hy; exact ownZ_lent hb.own
  | j + 2 => simp [CodeD.cells] at hy

/-- what the law keeps: the argument, the reference's answer -/
structure LS (c t : CodeD) (wa wb : AV) (iw : Nat) (H : List AO) : Prop where
  v : H[0]? = some (.var (c.cells.map .p))
  wv : H[iw]? = some (.var [wa, wb])
  w : OwnCAt H (.st [wa, wb]) t 1 iw
theorem LS.keep {c t : CodeD} {wa wb : AV} {iw : Nat} {H H' : List AO} (h : LS c t wa wb iw H) (k : ∀ (j : Nat) o, H[j]? = some o → j ≤ iw → H'[j]? = some o) : LS c t wa wb iw H' :=
  ⟨k _ _ h.v (Nat.zero_le _), k _ _ h.wv (Nat.le_refl _), h.w.keep fun j o hj _ h1 => k j o hj (Nat.le_of_lt h1)⟩
theorem LS.ext {c t : CodeD} {wa wb : AV} {iw : Nat} {H : List AO} (h : LS c t wa wb iw H) (A : List AO) : LS c t wa wb iw (H ++ A) := h.keep fun j o hj _ => get_ext hj A

end Go.Proofs.Ytmbggdfceecojaa.Cd

/- Profile: the law. -/
set_option linter.all false
namespace Go.Proofs.Ytmbggdfceecojaa.Cd
open Go.AM Mc Ho

theorem own_kp {H H' : List AO} {a : AV} {sz : Nat} {rs : List (List AV)} {lo hi : Nat} (h : OwnAt H a sz rs lo hi) (k : ∀ (j : Nat) o, H[j]? = some o → lo ≤ j → j < hi → H'[j]? = some o) : OwnAt H' a sz rs lo hi := by
  rcases h with h | ⟨id, ver, h0, h1, h2, h3⟩
  · exact .inl h
  · exact .inr ⟨id, ver, h0, h1, h2, k _ _ h3 h0 h1⟩
theorem own_lo {H : List AO} {a : AV} {sz : Nat} {rs : List (List AV)} {lo lo' hi : Nat} (h : OwnAt H a sz rs lo hi) (hl : lo' ≤ lo) : OwnAt H a sz rs lo' hi := by
  rcases h with h | ⟨id, ver, h0, h1, h2, h3⟩
  · exact .inl h
  · exact .inr ⟨id, ver, by omega, h1, h2, h3⟩
theorem codeC_at {c : CodeD} {H : List AO} {i j lo hi : Nat} (h0 : H[i]? = some (.rows 6 0 (insR c.ins))) (h1 : H[j]? = some (.rows 1 0 (intR .i64 c.starts))) (e0 : lo ≤ i) (e1 : lo ≤ j) (e2 : i < hi) (e3 : j < hi) :
    OwnCAt H (.st [.gs i 0 0 c.ins.length, .gs j 0 0 c.starts.length]) c lo hi :=
  ⟨_, _, rfl, .inr ⟨i, 0, e0, e2, by simp [insR], h0⟩, .inr ⟨j, 0, e1, e3, by rw [intR_len], h1⟩⟩

end Go.Proofs.Ytmbggdfceecojaa.Cd
