/- Trace: the law. -/
import Derived.Test.YtmbggdfceecojaaKyD
set_option linter.all false
namespace Go.Proofs.Ytmbggdfceecojaa.Cd
open Go.AM Mc Ho

theorem specTrace (c : CodeD) (hok : okCode c) (inp : List Int) (hil : inp.length ≤ 1048576) (room steps : Int) {H : List AO} {a b : AV} (ha : Lent H a (.st (c.cells.map .p))) (hb : Lent H b (.p (.l (ints inp)))) :
    ACall Try.prog 60 [a, b, .p (.i .i64 room), .p (.i .i64 steps)] H (fun r H' => ∃ A, H' = H ++ A ∧ OwnAt H' r 3 (evR (traceD c inp room steps)) H.length H'.length) :=
  acall_ownAt (specTrace0 c hok inp hil room steps) (step_args ha hb) (grnd_evR _)
theorem implTrace (c : CodeD) (hok : okCode c) (inp : List Int) (hil : inp.length ≤ 1048576) (room steps : Int) {H : List AO} {a b : AV} (ha : Lent H a (.st (c.cells.map .p))) (hb : Lent H b (.p (.l (ints inp)))) :
    ACall Try.prog 61 [a, b, .p (.i .i64 room), .p (.i .i64 steps)] H (fun r H' => ∃ A, H' = H ++ A ∧ OwnAt H' r 3 (evR (traceD c inp room steps)) H.length H'.length) :=
  acall_ownAt (implTrace0 c hok inp hil room steps) (step_args ha hb) (grnd_evR _)

set_option maxHeartbeats 4000000 in
theorem lawTrace (c : CodeD) (hok : okCode c) (inp : List Int) (hil : inp.length ≤ maxL) (room steps : Int) :
    ACall Try.prog 13 [.st (c.cells.map .p), .p (.l (ints inp)), .p (.i .i64 room), .p (.i .i64 steps)] [] (fun r _ => r = .p (.b true)) := by
  refine call13 (by simp) ?_
  simp only [go_sem, Nat.reduceEqDiff, reduceIte, ↓reduceIte, Nat.reduceAdd, Z0, Z1, Z2, Z3, Z4, Z5, Nat.reduceLT, Z6, Z7, Int.reduceEq, Z8, Z9, Nat.reduceLeDiff, Za, Zb, Zc, Zd, Ze, Zf, bytesOf, Zg, Zh, Zi, Zj, Zk, Zl, Int.reduceLT, Int.reduceLE, Zm, Int.reduceToNat, Zn, Zo, Zp, Int.reduceAdd, Zq, Zr, mc13, mr13, CodeD.cells, ints_len]
  intro _
  by_cases hlong : 1048576 < inp.length
  · have dl : decide ((1048576 : Int) < (inp.length : Int)) = true := by simp; omega
    simp only [go_sem, Nat.reduceEqDiff, reduceIte, ↓reduceIte, Nat.reduceAdd, Z0, Z1, Z2, Z3, Z4, Z5, Nat.reduceLT, Z6, Z7, Int.reduceEq, Z8, Z9, Nat.reduceLeDiff, Za, Zb, Zc, Zd, Ze, Zf, bytesOf, Zg, Zh, Zi, Zj, Zk, Zl, Int.reduceLT, Int.reduceLE, Zm, Int.reduceToNat, Zn, Zo, Zp, Int.reduceAdd, Zq, Zr, dl]
  have dl : decide ((1048576 : Int) < (inp.length : Int)) = false := by simp; omega
  have hl : inp.length ≤ 1048576 := by omega
  simp only [go_sem, Nat.reduceEqDiff, reduceIte, ↓reduceIte, Nat.reduceAdd, Z0, Z1, Z2, Z3, Z4, Z5, Nat.reduceLT, Z6, Z7, Int.reduceEq, Z8, Z9, Nat.reduceLeDiff, Za, Zb, Zc, Zd, Ze, Zf, bytesOf, Zg, Zh, Zi, Zj, Zk, Zl, Int.reduceLT, Int.reduceLE, Zm, Int.reduceToNat, Zn, Zo, Zp, Int.reduceAdd, Zq, Zr, dl]
  rw [code_eta]
  refine (szCode_any c hok).mono ?_
  rintro r H' ⟨⟨q, rfl, hq⟩, rfl⟩
  simp only [go_sem, Nat.reduceEqDiff, reduceIte, ↓reduceIte, Nat.reduceAdd, Z0, Z1, Z2, Z3, Z4, Z5, Nat.reduceLT, Z6, Z7, Int.reduceEq, Z8, Z9, Nat.reduceLeDiff, Za, Zb, Zc, Zd, Ze, Zf, bytesOf, Zg, Zh, Zi, Zj, Zk, Zl, Int.reduceLT, Int.reduceLE, Zm, Int.reduceToNat, Zn, Zo, Zp, Int.reduceAdd, Zq, Zr]
  refine condK_split _ (fun hq0 => ?_) (fun hq0 => ?_)
  · simp only [go_sem, Nat.reduceEqDiff, reduceIte, ↓reduceIte, Nat.reduceAdd, Z0, Z1, Z2, Z3, Z4, Z5, Nat.reduceLT, Z6, Z7, Int.reduceEq, Z8, Z9, Nat.reduceLeDiff, Za, Zb, Zc, Zd, Ze, Zf, bytesOf, Zg, Zh, Zi, Zj, Zk, Zl, Int.reduceLT, Int.reduceLE, Zm, Int.reduceToNat, Zn, Zo, Zp, Int.reduceAdd, Zq, Zr]
  have hq1 : ¬ q < 0 := by simpa using hq0
  have hsm : small c := by rcases hq with h | h; exact (hq1 h).elim; exact h.2
  have hsm' := hsm
  unfold small at hsm'
  have hrl := traceD_len c inp room steps
  have hrm : (traceD c inp room steps).length ≤ maxL := by unfold maxL; omega
  simp only [go_sem, Nat.reduceEqDiff, reduceIte, ↓reduceIte, Nat.reduceAdd, Z0, Z1, Z2, Z3, Z4, Z5, Nat.reduceLT, Z6, Z7, Int.reduceEq, Z8, Z9, Nat.reduceLeDiff, Za, Zb, Zc, Zd, Ze, Zf, bytesOf, Zg, Zh, Zi, Zj, Zk, Zl, Int.reduceLT, Int.reduceLE, Zm, Int.reduceToNat, Zn, Zo, Zp, Int.reduceAdd, Zq, Zr, code_take]
  refine acall_pure (toCode' c hok hsm _) ?_
  simp only [go_sem, Nat.reduceEqDiff, reduceIte, ↓reduceIte, Nat.reduceAdd, Z0, Z1, Z2, Z3, Z4, Z5, Nat.reduceLT, Z6, Z7, Int.reduceEq, Z8, Z9, Nat.reduceLeDiff, Za, Zb, Zc, Zd, Ze, Zf, bytesOf, Zg, Zh, Zi, Zj, Zk, Zl, Int.reduceLT, Int.reduceLE, Zm, Int.reduceToNat, Zn, Zo, Zp, Int.reduceAdd, Zq, Zr]
  refine acall_pure (toIntS' inp hl _) ?_
  simp only [go_sem, Nat.reduceEqDiff, reduceIte, ↓reduceIte, Nat.reduceAdd, Z0, Z1, Z2, Z3, Z4, Z5, Nat.reduceLT, Z6, Z7, Int.reduceEq, Z8, Z9, Nat.reduceLeDiff, Za, Zb, Zc, Zd, Ze, Zf, bytesOf, Zg, Zh, Zi, Zj, Zk, Zl, Int.reduceLT, Int.reduceLE, Zm, Int.reduceToNat, Zn, Zo, Zp, Int.reduceAdd, Zq, Zr]
  refine (specTrace c hok inp hl room steps (lent_code' c rfl rfl rfl) (lent_ints' inp rfl)).mono ?_
  rintro w H1 ⟨A1, hH1, hw⟩
  have hv1 : H1[0]? = some (.var (c.cells.map .p)) := by rw [hH1]; rfl
  have hw1 := own_lo hw (lo' := 1) (by simp)
  have hi1 : 0 < H1.length := get_lt hv1
  clear hH1 hw
  simp only [go_sem, Nat.reduceEqDiff, reduceIte, ↓reduceIte, Nat.reduceAdd, Z0, Z1, Z2, Z3, Z4, Z5, Nat.reduceLT, Z6, Z7, Int.reduceEq, Z8, Z9, Nat.reduceLeDiff, Za, Zb, Zc, Zd, Ze, Zf, bytesOf, Zg, Zh, Zi, Zj, Zk, Zl, Int.reduceLT, Int.reduceLE, Zm, Int.reduceToNat, Zn, Zo, Zp, Int.reduceAdd, Zq, Zr, hv1, code_take]
  refine acall_pure (toCode' c hok hsm _) ?_
  simp only [go_sem, Nat.reduceEqDiff, reduceIte, ↓reduceIte, Nat.reduceAdd, Z0, Z1, Z2, Z3, Z4, Z5, Nat.reduceLT, Z6, Z7, Int.reduceEq, Z8, Z9, Nat.reduceLeDiff, Za, Zb, Zc, Zd, Ze, Zf, bytesOf, Zg, Zh, Zi, Zj, Zk, Zl, Int.reduceLT, Int.reduceLE, Zm, Int.reduceToNat, Zn, Zo, Zp, Int.reduceAdd, Zq, Zr]
  refine acall_pure (toIntS' inp hl _) ?_
  simp only [go_sem, Nat.reduceEqDiff, reduceIte, ↓reduceIte, Nat.reduceAdd, Z0, Z1, Z2, Z3, Z4, Z5, Nat.reduceLT, Z6, Z7, Int.reduceEq, Z8, Z9, Nat.reduceLeDiff, Za, Zb, Zc, Zd, Ze, Zf, bytesOf, Zg, Zh, Zi, Zj, Zk, Zl, Int.reduceLT, Int.reduceLE, Zm, Int.reduceToNat, Zn, Zo, Zp, Int.reduceAdd, Zq, Zr]
  refine (implTrace c hok inp hl room steps (lent_code' c (by rw [get_off0]; rfl) (by rw [get_off]; rfl) rfl) (lent_ints' inp (by rw [get_off]; rfl))).mono ?_
  rintro g H3 ⟨A3, hH3, hg⟩
  have hv3 : H3[0]? = some (.var (c.cells.map .p)) := by rw [hH3]; exact get_ext (get_ext hv1 _) _
  have hw3 := (hw1.ext [AO.rows 6 0 (insR c.ins), .rows 1 0 (intR .i64 c.starts), .var [.gs H1.length 0 0 c.ins.length, .gs (H1.length + 1) 0 0 c.starts.length], .rows 1 0 (intR .i64 inp)]).ext A3
  rw [← hH3] at hw3
  have h60 : H3[H1.length]? = some (.rows 6 0 (insR c.ins)) := by rw [hH3]; refine get_ext ?_ _; rw [get_off0]; rfl
  have h61 : H3[H1.length + 1]? = some (.rows 1 0 (intR .i64 c.starts)) := by rw [hH3]; refine get_ext ?_ _; rw [get_off]; rfl
  have hx3 : H3[H1.length + 2]? = some (.var [.gs H1.length 0 0 c.ins.length, .gs (H1.length + 1) 0 0 c.starts.length]) := by rw [hH3]; refine get_ext ?_ _; rw [get_off]; rfl
  have hz3 : H3[H1.length + 3]? = some (.rows 1 0 (intR .i64 inp)) := by rw [hH3]; refine get_ext ?_ _; rw [get_off]; rfl
  have hg3 := own_lo hg (lo' := H1.length + 4) (by simp)
  have hl3 : H1.length + 3 < H3.length := get_lt hz3
  clear hg hH3 hw1 hv1
  generalize H1.length = ix at *
  generalize hig : H3.length = ig at *
  simp only [go_sem, Nat.reduceEqDiff, reduceIte, ↓reduceIte, Nat.reduceAdd, Z0, Z1, Z2, Z3, Z4, Z5, Nat.reduceLT, Z6, Z7, Int.reduceEq, Z8, Z9, Nat.reduceLeDiff, Za, Zb, Zc, Zd, Ze, Zf, bytesOf, Zg, Zh, Zi, Zj, Zk, Zl, Int.reduceLT, Int.reduceLE, Zm, Int.reduceToNat, Zn, Zo, Zp, Int.reduceAdd, Zq, Zr]
  refine acall_pure (eqEvS_any _ _ hrm hrm (ownE_lent hg3.own) (ownE_lent hw3.own)) ?_
  simp only [go_sem, Nat.reduceEqDiff, reduceIte, ↓reduceIte, Nat.reduceAdd, Z0, Z1, Z2, Z3, Z4, Z5, Nat.reduceLT, Z6, Z7, Int.reduceEq, Z8, Z9, Nat.reduceLeDiff, Za, Zb, Zc, Zd, Ze, Zf, bytesOf, Zg, Zh, Zi, Zj, Zk, Zl, Int.reduceLT, Int.reduceLE, Zm, Int.reduceToNat, Zn, Zo, Zp, Int.reduceAdd, Zq, Zr]
  refine drw_same ?_
  simp only [go_sem, Nat.reduceEqDiff, reduceIte, ↓reduceIte, Nat.reduceAdd, Z0, Z1, Z2, Z3, Z4, Z5, Nat.reduceLT, Z6, Z7, Int.reduceEq, Z8, Z9, Nat.reduceLeDiff, Za, Zb, Zc, Zd, Ze, Zf, bytesOf, Zg, Zh, Zi, Zj, Zk, Zl, Int.reduceLT, Int.reduceLE, Zm, Int.reduceToNat, Zn, Zo, Zp, Int.reduceAdd, Zq, Zr, hx3, hv3, code_take]
  refine pcall_pure (fun A => (toCode_fresh c hok hsm).mono fun r H' ⟨h1, h2⟩ => ⟨h2, h1⟩) (Hext.refl _) ?_
  simp only [go_sem, Nat.reduceEqDiff, reduceIte, ↓reduceIte, Nat.reduceAdd, Z0, Z1, Z2, Z3, Z4, Z5, Nat.reduceLT, Z6, Z7, Int.reduceEq, Z8, Z9, Nat.reduceLeDiff, Za, Zb, Zc, Zd, Ze, Zf, bytesOf, Zg, Zh, Zi, Zj, Zk, Zl, Int.reduceLT, Int.reduceLE, Zm, Int.reduceToNat, Zn, Zo, Zp, Int.reduceAdd, Zq, Zr]
  refine (eqCode_any c c hok hok (lent_code' c h60 h61 rfl) (code_lent c)).mono ?_
  rintro r H' ⟨rfl, rfl⟩
  simp only [go_sem, Nat.reduceEqDiff, reduceIte, ↓reduceIte, Nat.reduceAdd, Z0, Z1, Z2, Z3, Z4, Z5, Nat.reduceLT, Z6, Z7, Int.reduceEq, Z8, Z9, Nat.reduceLeDiff, Za, Zb, Zc, Zd, Ze, Zf, bytesOf, Zg, Zh, Zi, Zj, Zk, Zl, Int.reduceLT, Int.reduceLE, Zm, Int.reduceToNat, Zn, Zo, Zp, Int.reduceAdd, Zq, Zr]
  refine acall_pure (toIntS' inp hl _) ?_
  have hv4 := get_ext hv3 [AO.rows 1 0 (intR .i64 inp)]
  have hw4 := hw3.ext [AO.rows 1 0 (intR .i64 inp)]
  have h60' := get_ext h60 [AO.rows 1 0 (intR .i64 inp)]
  have h61' := get_ext h61 [AO.rows 1 0 (intR .i64 inp)]
  have hx4 := get_ext hx3 [AO.rows 1 0 (intR .i64 inp)]
  have hz4 := get_ext hz3 [AO.rows 1 0 (intR .i64 inp)]
  have hg4 := hg3.ext [AO.rows 1 0 (intR .i64 inp)]
  have hy4 : (H' ++ [AO.rows 1 0 (intR .i64 inp)])[H'.length]? = some (.rows 1 0 (intR .i64 inp)) := get_off0 _ _
  have hl4 : ig ≤ (H' ++ [AO.rows 1 0 (intR .i64 inp)]).length := by simp; omega
  clear hv3 hw3 h60 h61 hx3 hz3 hg3
  generalize H' ++ [AO.rows 1 0 (intR .i64 inp)] = H4 at *
  simp only [go_sem, Nat.reduceEqDiff, reduceIte, ↓reduceIte, Nat.reduceAdd, Z0, Z1, Z2, Z3, Z4, Z5, Nat.reduceLT, Z6, Z7, Int.reduceEq, Z8, Z9, Nat.reduceLeDiff, Za, Zb, Zc, Zd, Ze, Zf, bytesOf, Zg, Zh, Zi, Zj, Zk, Zl, Int.reduceLT, Int.reduceLE, Zm, Int.reduceToNat, Zn, Zo, Zp, Int.reduceAdd, Zq, Zr]
  refine acall_pure (eqIntS_any inp inp hil hil (lent_ints' inp hz4) (lent_ints' inp hy4)) ?_
  clear hy4
  simp only [go_sem, Nat.reduceEqDiff, reduceIte, ↓reduceIte, Nat.reduceAdd, Z0, Z1, Z2, Z3, Z4, Z5, Nat.reduceLT, Z6, Z7, Int.reduceEq, Z8, Z9, Nat.reduceLeDiff, Za, Zb, Zc, Zd, Ze, Zf, bytesOf, Zg, Zh, Zi, Zj, Zk, Zl, Int.reduceLT, Int.reduceLE, Zm, Int.reduceToNat, Zn, Zo, Zp, Int.reduceAdd, Zq, Zr, hx4]
  refine (markCodeO hsm (hi := ix + 2) (by omega) (codeC_at h60' h61' (Nat.le_refl ix) (by omega) (by omega) (by omega))).mono ?_
  rintro r H5 ⟨rfl, _, hl5, hk5⟩
  have hv5 := hk5 _ _ hv4 (.inl (by omega))
  have hw5 := own_kp hw4 (H' := H5) fun j o hj h0 h1 => hk5 j o hj (.inl (by omega))
  have hg5 := own_kp hg4 (H' := H5) fun j o hj h0 h1 => hk5 j o hj (.inr (by omega))
  have hz5 := hk5 _ _ hz4 (.inr (by omega))
  have hl5' : ig ≤ H5.length := by omega
  clear hk5 hv4 hw4 hg4 hz4 hx4 h60' h61'
  simp only [go_sem, Nat.reduceEqDiff, reduceIte, ↓reduceIte, Nat.reduceAdd, Z0, Z1, Z2, Z3, Z4, Z5, Nat.reduceLT, Z6, Z7, Int.reduceEq, Z8, Z9, Nat.reduceLeDiff, Za, Zb, Zc, Zd, Ze, Zf, bytesOf, Zg, Zh, Zi, Zj, Zk, Zl, Int.reduceLT, Int.reduceLE, Zm, Int.reduceToNat, Zn, Zo, Zp, Int.reduceAdd, Zq, Zr]
  refine (markIntS_own (a := .gs (ix + 3) 0 0 inp.length) (.inr ⟨ix + 3, 0, Nat.le_refl _, Nat.lt_succ_self _, by rw [intR_len], hz5⟩) (intR_len1 _ _) (by rw [intR_len]; omega) _ (by omega) (by omega)).mono ?_
  rintro r H6 ⟨rfl, _, hk6⟩
  have kp : ∀ (j : Nat) o, H5[j]? = some o → j ≠ ix + 3 → H6[j]? = some o := fun j o hj hne => hk6.2 j o hj fun v o' n e => by cases e; exact hne rfl
  have hv6 := kp _ _ hv5 (by omega)
  have hw6 := own_kp hw5 (H' := H6) fun j o hj h0 h1 => kp j o hj (by omega)
  have hg6 := own_kp hg5 (H' := H6) fun j o hj h0 h1 => kp j o hj (by omega)
  clear kp hk6 hv5 hw5 hg5 hz5
  have hkf : decide (1 + 6 * (c.ins.length : Int) + (c.starts.length : Int) + (inp.length : Int) < 0) = false := by simp; omega
  simp only [go_sem, Nat.reduceEqDiff, reduceIte, ↓reduceIte, Nat.reduceAdd, Z0, Z1, Z2, Z3, Z4, Z5, Nat.reduceLT, Z6, Z7, Int.reduceEq, Z8, Z9, Nat.reduceLeDiff, Za, Zb, Zc, Zd, Ze, Zf, bytesOf, Zg, Zh, Zi, Zj, Zk, Zl, Int.reduceLT, Int.reduceLE, Zm, Int.reduceToNat, Zn, Zo, Zp, Int.reduceAdd, Zq, Zr, intR_len, hkf]
  refine acall_pure (eqEvS_any _ _ hrm hrm (ownE_lent hg6.own) (ownE_lent hw6.own)) ?_
  simp only [go_sem, Nat.reduceEqDiff, reduceIte, ↓reduceIte, Nat.reduceAdd, Z0, Z1, Z2, Z3, Z4, Z5, Nat.reduceLT, Z6, Z7, Int.reduceEq, Z8, Z9, Nat.reduceLeDiff, Za, Zb, Zc, Zd, Ze, Zf, bytesOf, Zg, Zh, Zi, Zj, Zk, Zl, Int.reduceLT, Int.reduceLE, Zm, Int.reduceToNat, Zn, Zo, Zp, Int.reduceAdd, Zq, Zr, hkf]
  refine (markEvS_own hg6 (evR_len3 _) (by rw [evR_len]; omega) 1 (by omega) (by omega)).mono ?_
  rintro r H7 ⟨rfl, hg7, hk7⟩
  have hgo := hg6.own
  have hv7 : H7[0]? = some (.var (c.cells.map .p)) := hk7.at hgo hv6 (fun v rs' e => by cases e)
  have hgid : ∀ (j : Nat), (∃ v o n, g = .gs j v o n) → ix + 4 ≤ j := by
    rintro j ⟨v, o, n, rfl⟩
    rcases hg6 with ⟨e, _⟩ | ⟨id, ver, h0, h1, e, _⟩
    · cases e
    · cases e; exact h0
  have hw7 := own_kp hw6 (H' := H7) fun j o hj h0 h1 => hk7.2 j o hj fun v o' n e => by have := hgid j ⟨_, _, _, e⟩; omega
  rw [evR_len] at hg7
  clear hk7 hv6 hw6 hgo
  simp only [go_sem, Nat.reduceEqDiff, reduceIte, ↓reduceIte, Nat.reduceAdd, Z0, Z1, Z2, Z3, Z4, Z5, Nat.reduceLT, Z6, Z7, Int.reduceEq, Z8, Z9, Nat.reduceLeDiff, Za, Zb, Zc, Zd, Ze, Zf, bytesOf, Zg, Zh, Zi, Zj, Zk, Zl, Int.reduceLT, Int.reduceLE, Zm, Int.reduceToNat, Zn, Zo, Zp, Int.reduceAdd, Zq, Zr, evR_len]
  refine (heldEvS_own 1 hg7 (by omega) (by omega) (by omega)).mono ?_
  rintro r H8 ⟨rfl, rfl⟩
  have hnn : decide (1 + 3 * ((traceD c inp room steps).length : Int) < 0) = false := by simp; omega
  simp only [go_sem, Nat.reduceEqDiff, reduceIte, ↓reduceIte, Nat.reduceAdd, Z0, Z1, Z2, Z3, Z4, Z5, Nat.reduceLT, Z6, Z7, Int.reduceEq, Z8, Z9, Nat.reduceLeDiff, Za, Zb, Zc, Zd, Ze, Zf, bytesOf, Zg, Zh, Zi, Zj, Zk, Zl, Int.reduceLT, Int.reduceLE, Zm, Int.reduceToNat, Zn, Zo, Zp, Int.reduceAdd, Zq, Zr, hnn, hv7, code_take]
  refine acall_pure (toCode' c hok hsm _) ?_
  simp only [go_sem, Nat.reduceEqDiff, reduceIte, ↓reduceIte, Nat.reduceAdd, Z0, Z1, Z2, Z3, Z4, Z5, Nat.reduceLT, Z6, Z7, Int.reduceEq, Z8, Z9, Nat.reduceLeDiff, Za, Zb, Zc, Zd, Ze, Zf, bytesOf, Zg, Zh, Zi, Zj, Zk, Zl, Int.reduceLT, Int.reduceLE, Zm, Int.reduceToNat, Zn, Zo, Zp, Int.reduceAdd, Zq, Zr]
  refine acall_pure (toIntS' inp hl _) ?_
  simp only [go_sem, Nat.reduceEqDiff, reduceIte, ↓reduceIte, Nat.reduceAdd, Z0, Z1, Z2, Z3, Z4, Z5, Nat.reduceLT, Z6, Z7, Int.reduceEq, Z8, Z9, Nat.reduceLeDiff, Za, Zb, Zc, Zd, Ze, Zf, bytesOf, Zg, Zh, Zi, Zj, Zk, Zl, Int.reduceLT, Int.reduceLE, Zm, Int.reduceToNat, Zn, Zo, Zp, Int.reduceAdd, Zq, Zr]
  refine (implTrace c hok inp hl room steps (lent_code' c (by rw [get_off0]; rfl) (by rw [get_off]; rfl) rfl) (lent_ints' inp (by rw [get_off]; rfl))).mono ?_
  rintro g1 H9 ⟨A9, hH9, hg9⟩
  have hw9 := (hw7.ext [AO.rows 6 0 (insR c.ins), .rows 1 0 (intR .i64 c.starts), .rows 1 0 (intR .i64 inp)]).ext A9
  have hp9 := (hg7.ext [AO.rows 6 0 (insR c.ins), .rows 1 0 (intR .i64 c.starts), .rows 1 0 (intR .i64 inp)]).ext A9
  rw [← hH9] at hw9 hp9
  simp only [go_sem, Nat.reduceEqDiff, reduceIte, ↓reduceIte, Nat.reduceAdd, Z0, Z1, Z2, Z3, Z4, Z5, Nat.reduceLT, Z6, Z7, Int.reduceEq, Z8, Z9, Nat.reduceLeDiff, Za, Zb, Zc, Zd, Ze, Zf, bytesOf, Zg, Zh, Zi, Zj, Zk, Zl, Int.reduceLT, Int.reduceLE, Zm, Int.reduceToNat, Zn, Zo, Zp, Int.reduceAdd, Zq, Zr]
  refine acall_pure (eqEvS_any _ _ hrm hrm (ownE_lent hg9.own) (ownE_lent hw9.own)) ?_
  simp only [go_sem, Nat.reduceEqDiff, reduceIte, ↓reduceIte, Nat.reduceAdd, Z0, Z1, Z2, Z3, Z4, Z5, Nat.reduceLT, Z6, Z7, Int.reduceEq, Z8, Z9, Nat.reduceLeDiff, Za, Zb, Zc, Zd, Ze, Zf, bytesOf, Zg, Zh, Zi, Zj, Zk, Zl, Int.reduceLT, Int.reduceLE, Zm, Int.reduceToNat, Zn, Zo, Zp, Int.reduceAdd, Zq, Zr]
  refine (heldEvS_own 1 hp9 (by omega) (by omega) (by omega)).mono ?_
  rintro r H11 ⟨rfl, rfl⟩
  simp only [go_sem, Nat.reduceEqDiff, reduceIte, ↓reduceIte, Nat.reduceAdd, Z0, Z1, Z2, Z3, Z4, Z5, Nat.reduceLT, Z6, Z7, Int.reduceEq, Z8, Z9, Nat.reduceLeDiff, Za, Zb, Zc, Zd, Ze, Zf, bytesOf, Zg, Zh, Zi, Zj, Zk, Zl, Int.reduceLT, Int.reduceLE, Zm, Int.reduceToNat, Zn, Zo, Zp, Int.reduceAdd, Zq, Zr, hnn]
end Go.Proofs.Ytmbggdfceecojaa.Cd
