/- Texts MaL MaM MaN McH BiA PiA PiB PiC PiD PiE PiF RcA RcB McD RcC RcD RcE RcF RcG RcH TrA McE TrB MaO MaP MaQ TrC TrD TrE MaU MbE MbF McI MbI MbJ, merged. -/
import Derived.Test.YtmbggdfceecojaaKzC
import Derived.Test.YtmbggdfceecojaaChecked
import Derived.KernelRfl
/- The machine of the program: it runs. -/
set_option linter.all false
namespace Go.Proofs.Ytmbggdfceecojaa.Cd
open Go.AM Mc Ho

theorem implCodeOk_any (c : CodeD) (hc : okCode c) (H : List AO) : ACall Try.prog 74 [.st (c.cells.map .p)] H (pureQ (.p (.b (codeOk c))) H) :=
  (acall_lend (implCodeOk c hc) (fun r H' h => by subst h; exact grnd_b _) (lentAll_cons (code_lent c) (lentAll_nil _))).mono fun r H' ⟨h1, _, h2⟩ => ⟨h2, h1⟩
theorem within_p (x a b : Int) (H : List AO) : ACall Try.prog 124 [.p (.i .i64 x), .p (.i .i64 a), .p (.i .i64 b)] H (pureQ (.p (.b (inD x a b))) H) := (within_any x a b).mono fun r H' h => h

theorem runOkI0 (c : CodeD) (hc : okCode c) (inp : List Int) (hi : inp.length ≤ maxL) (room steps : Int) :
    ACall Try.prog 110 [.st (c.cells.map .p), .p (.l (ints inp)), .p (.i .i64 room), .p (.i .i64 steps)] [] (fun r H => r = .p (.b (runOk c inp room steps))) := by
  refine call110 (by simp) ?_
  simp only [go_sem, Nat.reduceEqDiff, reduceIte, ↓reduceIte, Nat.reduceAdd, Z0, Z1, Z2, Z3, Z4, Z5, Nat.reduceLT, Z6, Z7, Int.reduceEq, Z8, Z9, Nat.reduceLeDiff, Za, Zb, Zc, Zd, Ze, Zf, bytesOf, Zg, Zh, Zi, Zj, Zk, Zl, Int.reduceLT, Int.reduceLE, Zm, Int.reduceToNat, Zn, Zo, Zp, Int.reduceAdd, Zq, Zr, mc110, mr110, CodeD.cells]
  refine acall_pure (implCodeOk_any c hc _) ?_
  unfold runOk
  cases h1 : codeOk c
  · simp only [go_sem, Nat.reduceEqDiff, reduceIte, ↓reduceIte, Nat.reduceAdd, Z0, Z1, Z2, Z3, Z4, Z5, Nat.reduceLT, Z6, Z7, Int.reduceEq, Z8, Z9, Nat.reduceLeDiff, Za, Zb, Zc, Zd, Ze, Zf, bytesOf, Zg, Zh, Zi, Zj, Zk, Zl, Int.reduceLT, Int.reduceLE, Zm, Int.reduceToNat, Zn, Zo, Zp, Int.reduceAdd, Zq, Zr]
    rfl
  · simp only [go_sem, Nat.reduceEqDiff, reduceIte, ↓reduceIte, Nat.reduceAdd, Z0, Z1, Z2, Z3, Z4, Z5, Nat.reduceLT, Z6, Z7, Int.reduceEq, Z8, Z9, Nat.reduceLeDiff, Za, Zb, Zc, Zd, Ze, Zf, bytesOf, Zg, Zh, Zi, Zj, Zk, Zl, Int.reduceLT, Int.reduceLE, Zm, Int.reduceToNat, Zn, Zo, Zp, Int.reduceAdd, Zq, Zr, ints_len]
    intro _
    have e2 : decide ((inp.length : Int) ≤ 200) = decide (inp.length ≤ 200) := by rw [decide_eq_decide]; omega
    rw [e2]
    cases h2 : decide (inp.length ≤ 200)
    · simp only [go_sem, Nat.reduceEqDiff, reduceIte, ↓reduceIte, Nat.reduceAdd, Z0, Z1, Z2, Z3, Z4, Z5, Nat.reduceLT, Z6, Z7, Int.reduceEq, Z8, Z9, Nat.reduceLeDiff, Za, Zb, Zc, Zd, Ze, Zf, bytesOf, Zg, Zh, Zi, Zj, Zk, Zl, Int.reduceLT, Int.reduceLE, Zm, Int.reduceToNat, Zn, Zo, Zp, Int.reduceAdd, Zq, Zr]
      rfl
    · simp only [go_sem, Nat.reduceEqDiff, reduceIte, ↓reduceIte, Nat.reduceAdd, Z0, Z1, Z2, Z3, Z4, Z5, Nat.reduceLT, Z6, Z7, Int.reduceEq, Z8, Z9, Nat.reduceLeDiff, Za, Zb, Zc, Zd, Ze, Zf, bytesOf, Zg, Zh, Zi, Zj, Zk, Zl, Int.reduceLT, Int.reduceLE, Zm, Int.reduceToNat, Zn, Zo, Zp, Int.reduceAdd, Zq, Zr]
      refine acall_pure (within_p _ _ _ _) ?_
      cases h3 : inD room 0 100000
      · simp only [go_sem, Nat.reduceEqDiff, reduceIte, ↓reduceIte, Nat.reduceAdd, Z0, Z1, Z2, Z3, Z4, Z5, Nat.reduceLT, Z6, Z7, Int.reduceEq, Z8, Z9, Nat.reduceLeDiff, Za, Zb, Zc, Zd, Ze, Zf, bytesOf, Zg, Zh, Zi, Zj, Zk, Zl, Int.reduceLT, Int.reduceLE, Zm, Int.reduceToNat, Zn, Zo, Zp, Int.reduceAdd, Zq, Zr]
        rfl
      · simp only [go_sem, Nat.reduceEqDiff, reduceIte, ↓reduceIte, Nat.reduceAdd, Z0, Z1, Z2, Z3, Z4, Z5, Nat.reduceLT, Z6, Z7, Int.reduceEq, Z8, Z9, Nat.reduceLeDiff, Za, Zb, Zc, Zd, Ze, Zf, bytesOf, Zg, Zh, Zi, Zj, Zk, Zl, Int.reduceLT, Int.reduceLE, Zm, Int.reduceToNat, Zn, Zo, Zp, Int.reduceAdd, Zq, Zr]
        refine acall_pure (within_p _ _ _ _) ?_
        simp only [go_sem, Nat.reduceEqDiff, reduceIte, ↓reduceIte, Nat.reduceAdd, Z0, Z1, Z2, Z3, Z4, Z5, Nat.reduceLT, Z6, Z7, Int.reduceEq, Z8, Z9, Nat.reduceLeDiff, Za, Zb, Zc, Zd, Ze, Zf, bytesOf, Zg, Zh, Zi, Zj, Zk, Zl, Int.reduceLT, Int.reduceLE, Zm, Int.reduceToNat, Zn, Zo, Zp, Int.reduceAdd, Zq, Zr]
theorem runOkI (c : CodeD) (hc : okCode c) (inp : List Int) (hi : inp.length ≤ maxL) (room steps : Int) (H : List AO) :
    ACall Try.prog 110 [.st (c.cells.map .p), .p (.l (ints inp)), .p (.i .i64 room), .p (.i .i64 steps)] H (pureQ (.p (.b (runOk c inp room steps))) H) :=
  (acall_lend (runOkI0 c hc inp hi room steps) (fun r H' h => by subst h; exact grnd_b _) (lentAll_cons (code_lent c) (lentAll_cons (.pure _) (lentAll_cons (.pure _) (lentAll_cons (.pure _) (lentAll_nil _)))))).mono fun r H' ⟨h1, _, h2⟩ => ⟨h2, h1⟩

theorem opD_out (x : InsD) (m : MD) : (opD x m).out.length ≤ m.out.length + 1 ∧ (opD x m).inp.length ≤ m.inp.length := by
  unfold opD catD MD.p MD.e
  repeat' split
  all_goals first | (simp; done) | (simp; omega)
theorem effD_out (c : CodeD) (x : InsD) (m : MD) : (effD c x m).out.length ≤ m.out.length + 1 ∧ (effD c x m).inp.length ≤ m.inp.length := by
  by_cases h7 : x.op = 7
  · have e : effD c x m = opD x m := by simp only [effD, h7, Int.reduceEq, if_true, if_false]
    rw [e]; exact opD_out x m
  · have go : (goD c x m).out = m.out ∧ (goD c x m).inp = m.inp := by
      unfold goD MD.e
      repeat' split
      all_goals exact ⟨rfl, rfl⟩
    have : (effD c x m).out = m.out ∧ (effD c x m).inp = m.inp := by
      by_cases h : x.op = 1 ∨ x.op = 2 ∨ x.op = 3 ∨ x.op = 4 ∨ x.op = 5 ∨ x.op = 6 ∨ x.op = 8 ∨ x.op = 9 ∨ x.op = 10
      · unfold effD
        rcases h with e | e | e | e | e | e | e | e | e <;> simp only [e, Int.reduceEq, if_true, if_false]
        all_goals first | (exact ⟨trivial, trivial⟩) | (exact ⟨rfl, rfl⟩) | skip
        · unfold newD; split <;> exact ⟨rfl, rfl⟩
        · unfold putMD; split
          · split <;> exact ⟨rfl, rfl⟩
          · exact ⟨rfl, rfl⟩
        · unfold getMD; split
          · split <;> exact ⟨rfl, rfl⟩
          · exact ⟨rfl, rfl⟩
      · have e : effD c x m = goD c x m := by
          unfold effD
          simp only [show ¬ x.op = 1 by omega, show ¬ x.op = 2 by omega, show ¬ x.op = 3 by omega, show ¬ x.op = 4 by omega, show ¬ x.op = 5 by omega, show ¬ x.op = 6 by omega, h7, show ¬ x.op = 8 by omega, show ¬ x.op = 9 by omega, show ¬ x.op = 10 by omega, if_false]
        rw [e]; exact go
    rw [this.1, this.2]; omega
theorem stepD_out {c : CodeD} {m : MD} : (stepD c m).out.length ≤ m.out.length + 1 := (effD_out c _ _).1
theorem stepD_inp {c : CodeD} {m : MD} : (stepD c m).inp.length ≤ m.inp.length := (effD_out c _ _).2

/-- one who is told each instruction that was done -/
structure Tell (c : CodeD) (f : Nat) (caps : List AV) (σ : Type) (τ : Type) (vw : σ → τ) (T : σ → List AO → Prop) (P : σ → Nat → Prop) (next : Int → MD → τ → τ) : Prop where
  keep : ∀ s H H', T s H → (∀ (j : Nat) o, H[j]? = some o → P s j → H'[j]? = some o) → T s H'
  bd : ∀ s H j, T s H → P s j → j < H.length
  call : ∀ im ids ou H m (a : Int) s, IM c im ids ou H m → MOk c m → (∀ j, imP im ids ou j → ¬ P s j) → T s H → 0 ≤ a → a < c.ins.length → m.out.length ≤ 1000000 →
    ACall Try.prog f ([.p (.i .i64 a), .ptr im 0] ++ caps) H (fun r H' => ∃ s', vw s' = next a m (vw s) ∧ T s' H' ∧ Fr (P s) (P s') H H')
def tellD (c : CodeD) {σ : Type} (next : Int → MD → σ → σ) : Nat → MD → σ → σ
  | 0, _, s => s
  | n + 1, m, s => if m.fin = none then tellD c next n (stepD c m) (next m.pc (stepD c m) s) else s

theorem imP_lt {c im ids ou H m} (h : IM c im ids ou H m) {j : Nat} (hj : imP im ids ou j) : j < H.length := by
  rcases hj with rfl | ⟨n, hn⟩ | ⟨v, o, n, e⟩
  · exact get_lt h.var
  · obtain ⟨k, hk⟩ := List.getElem?_of_mem hn
    exact get_lt (h.rcs k _ _ hk).2
  · rcases h.out with ⟨e1, e2⟩ | ⟨id, ver, e1, e2⟩
    · rw [e1] at e; cases e
    · rw [e1] at e; cases e; exact get_lt e2

def R0 : List AV := (List.replicate 16 (WD.n 0)).flatMap (wI [])
def S0 : List AV := (List.replicate 64 (WD.n 0)).flatMap (wI [])
set_option maxRecDepth 100000 in
theorem zM_eq : zl45_2 = imR (.p .nl) (.p .nl) (.p .nl) (.p (.i .i64 0)) (.p (.i .i64 0)) R0 S0 (.p (.i .i64 0)) (.p (.i .i64 0)) (.p .nl) (.p (.b false)) := by rfl
theorem imR_s01 {a b inp room pc e cd ou fl v w : AV} {R S : List AV} : splice (imR a b inp room pc R S e cd ou fl) 0 [v, w] = some (imR v w inp room pc R S e cd ou fl) := by
  have := @splice_mid [] [a, b] [v, w] (inp :: room :: pc :: (R ++ (S ++ [e, cd, ou, fl]))) 0 rfl rfl
  exact this
set_option maxRecDepth 100000 in
theorem R0_len : R0.length = 64 := by rfl
set_option maxRecDepth 100000 in
theorem S0_len : S0.length = 256 := by rfl
theorem imR_len {a b inp room pc e cd ou fl : AV} {R S : List AV} (hR : R.length = 64) (hS : S.length = 256) : ((imR a b inp room pc R S e cd ou fl).length == 329) = true := by
  simp [imR, hR, hS]

set_option maxHeartbeats 4000000 in
theorem mRan {c : CodeD} (hok : okCode c) (hc : CFacts c) {inp : List Int} {room : Int} {N : Nat} (hN : N ≤ 300000) (hi : inp.length ≤ 200) (hroom : inD room 0 100000 = true) {f : Nat} {caps : List AV} {σ τ : Type} {vw : σ → τ} {T : σ → List AO → Prop} {P : σ → Nat → Prop} {next : Int → MD → τ → τ}
    (hT : Tell c f caps σ τ vw T P next) {H : List AO} {s0 : σ} (h0 : T s0 H) :
    ACall Try.prog 111 [.st (c.cells.map .p), .p (.l (ints inp)), .p (.i .i64 room), .p (.i .i64 N), .clo f caps] H (fun r H' => ∃ im ids ou, r = .ptr im 0 ∧ IM c im ids ou H' (runD c N (startD inp room)) ∧ MOk c (runD c N (startD inp room)) ∧ ∃ s, vw s = tellD c next N (startD inp room) (vw s0) ∧ T s H') := by
  refine call111 (by simp) ?_
  simp only [go_sem, Nat.reduceEqDiff, reduceIte, ↓reduceIte, Nat.reduceAdd, Z0, Z1, Z2, Z3, Z4, Z5, Nat.reduceLT, Z6, Z7, Int.reduceEq, Z8, Z9, Nat.reduceLeDiff, Za, Zb, Zc, Zd, Ze, Zf, bytesOf, Zg, Zh, Zi, Zj, Zk, Zl, Int.reduceLT, Int.reduceLE, Zm, Int.reduceToNat, Zn, Zo, Zp, Int.reduceAdd, Zq, Zr, mc111, mr111, CodeD.cells, zM_eq, imR_s01, imR_s2, imR_s3, imR_len R0_len S0_len]
  have hI : IM c (H.length + 1) [] (.p .nl) (H ++ [.var [.p (.l (inss c.ins)), .p (.l (ints c.starts))], .var (imC c [] (.p .nl) (startD inp room))]) (startD inp room) := by
    refine ⟨by simp, by simp, by simp [startD], fun k id n hk => by simp at hk, .inl ⟨rfl, rfl⟩⟩
  have hT0 : T s0 (H ++ [.var [.p (.l (inss c.ins)), .p (.l (ints c.starts))], .var (imC c [] (.p .nl) (startD inp room))]) := hT.keep _ _ _ h0 fun j o hj _ => get_ext hj _
  have hdis : ∀ j, imP (H.length + 1) [] (.p .nl) j → ¬ P s0 j := by
    rintro j (rfl | ⟨n, hn⟩ | ⟨v, o, n, e⟩) hp
    · have := hT.bd _ _ _ h0 hp; omega
    · simp at hn
    · cases e
  have ee : imC c [] (.p .nl) (startD inp room) = imR (.p (.l (inss c.ins))) (.p (.l (ints c.starts))) (.p (.l (ints inp))) (.p (.i .i64 room)) (.p (.i .i64 0)) R0 S0 (.p (.i .i64 0)) (.p (.i .i64 0)) (.p .nl) (.p (.b false)) := rfl
  rw [← ee]
  generalize H ++ [AO.var [.p (.l (inss c.ins)), .p (.l (ints c.starts))], .var (imC c [] (.p .nl) (startD inp room))] = H1 at hI hT0 ⊢
  generalize H.length + 1 = im at hI hdis ⊢
  have hm0 := startD_ok (c := c) (inp := inp) hroom
  have hp0 := startD_pc hc (inp := inp) (room := room)
  have ho0 : (startD inp room).out.length = 0 := rfl
  have hi0 : (startD inp room).inp.length ≤ 200 := hi
  generalize startD inp room = m0 at *
  clear h0 ee
  refine ⟨Nat × MD × List (Nat × Nat) × AV × σ × List AO, [0, 1, 2, 3, 4, 5, 10, 11], fun x st => IM c im x.2.2.1 x.2.2.2.1 x.2.2.2.2.2 x.2.1 ∧ MOk c x.2.1 ∧ PcOk c x.2.1 ∧ T x.2.2.2.2.1 x.2.2.2.2.2 ∧ (∀ j, imP im x.2.2.1 x.2.2.2.1 j → ¬ P x.2.2.2.2.1 j) ∧ x.2.1.out.length + x.1 ≤ 300000 ∧ x.2.1.inp.length ≤ 200 ∧
      stepsD c x.1 x.2.1 = stepsD c N m0 ∧ tellD c next x.1 x.2.1 (vw x.2.2.2.2.1) = tellD c next N m0 (vw s0) ∧
      st = ⟨[(0, .st [.p (.l (inss c.ins)), .p (.l (ints c.starts))]), (1, .p (.l (ints inp))), (2, .p (.i .i64 room)), (3, .p (.i .i64 x.1)), (4, .clo f caps), (5, .ptr H.length 0), (10, .p .np), (11, .ptr im 0)], [], x.2.2.2.2.2⟩, fun x => x.1, ⟨(N, m0, [], .p .nl, s0, H1), ?_⟩, ?_⟩
  · simp only [go_sem, Nat.reduceEqDiff, reduceIte, ↓reduceIte, Nat.reduceAdd, Z0, Z1, Z2, Z3, Z4, Z5, Nat.reduceLT, Z6, Z7, Int.reduceEq, Z8, Z9, Nat.reduceLeDiff, Za, Zb, Zc, Zd, Ze, Zf, bytesOf, Zg, Zh, Zi, Zj, Zk, Zl, Int.reduceLT, Int.reduceLE, Zm, Int.reduceToNat, Zn, Zo, Zp, Int.reduceAdd, Zq, Zr]
    exact ⟨hI, hm0, hp0, hT0, hdis, by omega, hi0⟩
  rintro ⟨n, m, ids, ou, s, H'⟩ st ⟨hM, hm, hpc, hTs, hd, hol, hil, hst, htl, rfl⟩
  simp only at hM hm hpc hTs hd hol hil hst htl
  have stop : (n = 0 ∨ m.fin ≠ none) → stepsD c N m0 = m ∧ tellD c next N m0 (vw s0) = vw s := by
    intro h
    rw [← hst, ← htl]
    cases n with
    | zero => exact ⟨rfl, rfl⟩
    | succ n =>
      rcases h with h | h
      · cases h
      · simp only [stepsD, tellD, h, if_false]
        exact ⟨trivial, trivial⟩
  have finT : m.fin ≠ none → ∃ im' ids ou, AV.ptr im 0 = .ptr im' 0 ∧ IM c im' ids ou H' (runD c N m0) ∧ MOk c (runD c N m0) ∧ ∃ s, vw s = tellD c next N m0 (vw s0) ∧ T s H' := by
    intro hne
    obtain ⟨e1, e2⟩ := stop (.inr hne)
    rw [runD, e1, e2, if_neg hne]
    exact ⟨im, ids, ou, rfl, hM, hm, s, rfl, hTs⟩
  have finF : n = 0 → m.fin = none → ∃ im' ids' ou', AV.ptr im 0 = .ptr im' 0 ∧ IM c im' ids' ou' (H'.set im (.var (imC c ids ou (m.e 3 0)))) (runD c N m0) ∧ MOk c (runD c N m0) ∧ ∃ s, vw s = tellD c next N m0 (vw s0) ∧ T s (H'.set im (.var (imC c ids ou (m.e 3 0)))) := by
    intro h he
    obtain ⟨e1, e2⟩ := stop (.inl h)
    rw [runD, e1, e2, if_pos he]
    exact ⟨im, ids, ou, rfl, hM.put (m.e 3 0) rfl rfl, hm.eOk _ _, s, rfl, hT.keep _ _ _ hTs fun j o hj hp => get_set hj (fun e => hd im (.inl rfl) (e ▸ hp))⟩
  have h328 := @imC_fl c m ids ou hm
  have fsome : m.fin.isSome = true → m.fin ≠ none := by intro h e; rw [e] at h; cases h
  have fnone : m.fin.isSome = false → m.fin = none := by intro h; cases e : m.fin with | none => rfl | some p => rw [e] at h; cases h
  by_cases hn : n = 0
  · have dn : decide ((0 : Int) < (n : Int)) = false := by simp; omega
    cases hb : m.fin.isSome with
    | true =>
      rw [hb] at h328
      simp only [go_sem, Nat.reduceEqDiff, reduceIte, ↓reduceIte, Nat.reduceAdd, Z0, Z1, Z2, Z3, Z4, Z5, Nat.reduceLT, Z6, Z7, Int.reduceEq, Z8, Z9, Nat.reduceLeDiff, Za, Zb, Zc, Zd, Ze, Zf, bytesOf, Zg, Zh, Zi, Zj, Zk, Zl, Int.reduceLT, Int.reduceLE, Zm, Int.reduceToNat, Zn, Zo, Zp, Int.reduceAdd, Zq, Zr, dn, hM.var, h328]
      exact finT (fsome hb)
    | false =>
      rw [hb] at h328
      simp only [go_sem, Nat.reduceEqDiff, reduceIte, ↓reduceIte, Nat.reduceAdd, Z0, Z1, Z2, Z3, Z4, Z5, Nat.reduceLT, Z6, Z7, Int.reduceEq, Z8, Z9, Nat.reduceLeDiff, Za, Zb, Zc, Zd, Ze, Zf, bytesOf, Zg, Zh, Zi, Zj, Zk, Zl, Int.reduceLT, Int.reduceLE, Zm, Int.reduceToNat, Zn, Zo, Zp, Int.reduceAdd, Zq, Zr, dn, hM.var, h328]
      refine (mEnd hM hm 3 0).mono ?_
      rintro r H2 rfl
      simp only [go_sem, Nat.reduceEqDiff, reduceIte, ↓reduceIte, Nat.reduceAdd, Z0, Z1, Z2, Z3, Z4, Z5, Nat.reduceLT, Z6, Z7, Int.reduceEq, Z8, Z9, Nat.reduceLeDiff, Za, Zb, Zc, Zd, Ze, Zf, bytesOf, Zg, Zh, Zi, Zj, Zk, Zl, Int.reduceLT, Int.reduceLE, Zm, Int.reduceToNat, Zn, Zo, Zp, Int.reduceAdd, Zq, Zr]
      exact finF hn (fnone hb)
  have dn : decide ((0 : Int) < (n : Int)) = true := by simp; omega
  cases hb : m.fin.isSome with
  | true =>
    rw [hb] at h328
    simp only [go_sem, Nat.reduceEqDiff, reduceIte, ↓reduceIte, Nat.reduceAdd, Z0, Z1, Z2, Z3, Z4, Z5, Nat.reduceLT, Z6, Z7, Int.reduceEq, Z8, Z9, Nat.reduceLeDiff, Za, Zb, Zc, Zd, Ze, Zf, bytesOf, Zg, Zh, Zi, Zj, Zk, Zl, Int.reduceLT, Int.reduceLE, Zm, Int.reduceToNat, Zn, Zo, Zp, Int.reduceAdd, Zq, Zr, dn, hM.var, h328]
    exact finT (fsome hb)
  | false =>
    rw [hb] at h328
    have hf := fnone hb
    obtain ⟨k, rfl⟩ : ∃ k, n = k + 1 := ⟨n - 1, by omega⟩
    obtain ⟨p0, p1⟩ := hpc hf
    simp only [go_sem, Nat.reduceEqDiff, reduceIte, ↓reduceIte, Nat.reduceAdd, Z0, Z1, Z2, Z3, Z4, Z5, Nat.reduceLT, Z6, Z7, Int.reduceEq, Z8, Z9, Nat.reduceLeDiff, Za, Zb, Zc, Zd, Ze, Zf, bytesOf, Zg, Zh, Zi, Zj, Zk, Zl, Int.reduceLT, Int.reduceLE, Zm, Int.reduceToNat, Zn, Zo, Zp, Int.reduceAdd, Zq, Zr, dn, hM.var, h328, imC_pc]
    refine (mStep hM hc hm p0 p1 (by omega) (by omega)).mono ?_
    rintro r H2 ⟨ids2, ou2, hM2, hF2⟩
    obtain ⟨hm2, hpc2⟩ := stepD_ok hc hm p0 p1
    have hTs2 : T s H2 := hT.keep _ _ _ hTs fun j o hj hp => hF2.keep j o hj (fun h => hd j h hp)
    have hd2 : ∀ j, imP im ids2 ou2 j → ¬ P s j := by
      intro j hj hp
      rcases hF2.new j hj with h | h
      · exact hd j h hp
      · have := hT.bd _ _ _ hTs hp; omega
    have hlen := stepD_out (c := c) (m := m)
    have hinl := stepD_inp (c := c) (m := m)
    simp only [go_sem, Nat.reduceEqDiff, reduceIte, ↓reduceIte, Nat.reduceAdd, Z0, Z1, Z2, Z3, Z4, Z5, Nat.reduceLT, Z6, Z7, Int.reduceEq, Z8, Z9, Nat.reduceLeDiff, Za, Zb, Zc, Zd, Ze, Zf, bytesOf, Zg, Zh, Zi, Zj, Zk, Zl, Int.reduceLT, Int.reduceLE, Zm, Int.reduceToNat, Zn, Zo, Zp, Int.reduceAdd, Zq, Zr]
    refine (hT.call im ids2 ou2 H2 (stepD c m) m.pc s hM2 hm2 hd2 hTs2 p0 p1 (by omega)).mono ?_
    rintro r H3 ⟨s', hvs, hTs3, hF3⟩
    have hM3 : IM c im ids2 ou2 H3 (stepD c m) := hM2.keep fun j o hj hp => hF3.keep j o hj (hd2 j hp)
    have hd3 : ∀ j, imP im ids2 ou2 j → ¬ P s' j := by
      intro j hj hp
      rcases hF3.new j hp with h | h
      · exact hd2 j hj h
      · have := imP_lt hM2 hj; omega
    have es : wr .i64 (((k + 1 : Nat) : Int) - 1) = (k : Int) := by rw [wr64 (by omega) (by omega)]; omega
    simp only [go_sem, Nat.reduceEqDiff, reduceIte, ↓reduceIte, Nat.reduceAdd, Z0, Z1, Z2, Z3, Z4, Z5, Nat.reduceLT, Z6, Z7, Int.reduceEq, Z8, Z9, Nat.reduceLeDiff, Za, Zb, Zc, Zd, Ze, Zf, bytesOf, Zg, Zh, Zi, Zj, Zk, Zl, Int.reduceLT, Int.reduceLE, Zm, Int.reduceToNat, Zn, Zo, Zp, Int.reduceAdd, Zq, Zr, es]
    refine ⟨(k, stepD c m, ids2, ou2, s', H3), ⟨hM3, hm2, hpc2, hTs3, hd3, ?_, ?_, ?_, ?_, rfl⟩, by simp⟩
    · simp only; omega
    · simp only; omega
    · simp only
      rw [← hst]
      simp only [stepsD, hf, if_true]
    · simp only
      rw [← htl]
      simp only [tellD, hf, if_true, hvs]
end Go.Proofs.Ytmbggdfceecojaa.Cd

/- The machine of the reference: it runs; Step1 of both. -/
set_option linter.all false
namespace Go.Proofs.Ytmbggdfceecojaa.Cd
open Go.AM Mc Ho

theorem specCodeOk_any (c : CodeD) (hc : okCode c) (H : List AO) : ACall Try.prog 70 [.st (c.cells.map .p)] H (pureQ (.p (.b (codeOk c))) H) :=
  (acall_lend (specCodeOk c hc) (fun r H' h => by subst h; exact grnd_b _) (lentAll_cons (code_lent c) (lentAll_nil _))).mono fun r H' ⟨h1, _, h2⟩ => ⟨h2, h1⟩
theorem l1In_p (x a b : Int) (H : List AO) : ACall Try.prog 122 [.p (.i .i64 x), .p (.i .i64 a), .p (.i .i64 b)] H (pureQ (.p (.b (inD x a b))) H) := (l1In_any x a b).mono fun r H' h => h

def gS (L n : Nat) : SG := ⟨L + 4, L + 1, L + 2, L + 3, [], .p .nl, .p .nl, .gs L 1 0 n⟩
def hS (L n : Nat) (inp : List Int) (room f : Int) : List AO :=
  [.rows 1 1 (intR .i64 inp), .var [.p (.i .i64 f), .gs L 1 0 n, .p .nl, .p (.i .i64 0), .p (.i .i64 0), .p .nl, .p (.b false)], .rows 3 0 (List.replicate 16 [.p (.i .i64 0), .p (.i .i64 0), .p (.s [])]), .rows 3 0 (List.replicate 64 [.p (.i .i64 0), .p (.i .i64 0), .p (.s [])]),
    .var [.ptr (L + 1) 0, .gs (L + 2) 0 0 16, .gs (L + 3) 0 0 64, .p .nl, .p (.i .i64 room), .p (.i .i64 0)]]
theorem smStart (H : List AO) (inp : List Int) (room f : Int) : SM (gS H.length inp.length) f (H ++ hS H.length inp.length inp room f) (startD inp room) where
  mv := by simp [gS, hS]; rfl
  wv := by simp [gS, hS]; rfl
  nd := by simp [gS, SG.ids]
  len := rfl
  rg := by simp [gS, hS]; rfl
  sl := by simp [gS, hS]; rfl
  rc := fun k id hk => by simp [gS] at hk
  hpo := .inl ⟨rfl, rfl⟩
  out := .inl ⟨rfl, rfl⟩
  inp := ⟨H.length, 1, 0, inp, rfl, by simp [hS], rfl⟩
  d1 := fun j h => by cases h
  d2 := fun j h => by cases h
  d3 := fun j h => by cases h

theorem gS_lo {L n j : Nat} (h : smP (gS L n) j) : L ≤ j := by
  rcases h with rfl | rfl | h | h | h | h
  · simp [gS]
  · simp [gS]
  · simp [gS, SG.ids] at h; omega
  · simp [gS, gid] at h
  · simp [gS, gid] at h
  · simp [gS, gid] at h; omega

theorem ints_map (l : List Int) : List.map (fun x => List.map AV.p x) (ints l) = intR .i64 l := by simp [ints, intR]

end Go.Proofs.Ytmbggdfceecojaa.Cd

/- Step1, of both. -/
set_option linter.all false
namespace Go.Proofs.Ytmbggdfceecojaa.Cd
open Go.AM Mc Ho

theorem runOk_facts {c : CodeD} {inp : List Int} {room steps : Int} (h : runOk c inp room steps = true) :
    CFacts c ∧ inp.length ≤ 200 ∧ inD room 0 100000 = true ∧ ∃ N : Nat, steps = N ∧ N ≤ 300000 := by
  unfold runOk at h
  simp only [Bool.and_eq_true, decide_eq_true_eq] at h
  obtain ⟨⟨⟨h1, h2⟩, h3⟩, h4⟩ := h
  refine ⟨codeOk_facts h1, h2, h3, steps.toNat, ?_⟩
  simp only [inD, Bool.and_eq_true, decide_eq_true_eq] at h4
  omega

theorem step_args {H : List AO} {c : CodeD} {inp : List Int} {room steps : Int} {a b : AV} (ha : Lent H a (.st (c.cells.map .p))) (hb : Lent H b (.p (.l (ints inp)))) :
    LentAll H [a, b, .p (.i .i64 room), .p (.i .i64 steps)] [.st (c.cells.map .p), .p (.l (ints inp)), .p (.i .i64 room), .p (.i .i64 steps)] :=
  lentAll_cons ha (lentAll_cons hb (lentAll_cons (.pure _) (lentAll_cons (.pure _) (lentAll_nil _))))
end Go.Proofs.Ytmbggdfceecojaa.Cd

/- THE SMALL CODES of functions 9 10 11 13 46 47 50 51 52 53 54 59 60 61 62 63 113 116 117 120 121, and their ties to the program (printed by wip/tools/mkties2.py). -/
set_option linter.all false
namespace Go.Proofs.Ytmbggdfceecojaa.Mc
open Go.AM
def zl9_0 : List AV := [.p (.i .i64 0), .p (.nl), .p (.nl), .p (.i .i64 0), .p (.i .i64 0), .p (.nl), .p (.b false)]
def zl9_1 : List AV := [.p (.np), .p (.nl), .p (.nl), .p (.nl), .p (.i .i64 0), .p (.i .i64 0)]
/- laws.FnExactStep1 -/
/- laws.FnExactProfile -/
/- laws.FnExactRunCode -/
/- laws.FnExactTrace -/
/- spec.Profile -/
/- impl.Profile -/
/- spec.RunCode -/
/- impl.RunCode -/
/- laws.eqOutcome -/
/- laws.markOutcome -/
/- laws.heldOutcome -/
/- laws.eqEventS -/
def lv59 : List Nat := [0, 1, 4, 5, 10, 14, 26]
def mc59 : MC :=
.seq (.reg [
 ⟨.l 4, .mv (.c (.p (.b false))), none⟩]) (
 .seq (.seq (.reg [
 ⟨.t 6, .mv (.l 0), none⟩,
 ⟨.t 7, .len false (.t 6), none⟩,
 ⟨.t 8, .mv (.l 1), none⟩,
 ⟨.t 9, .len false (.t 8), none⟩,
 ⟨.l 10, .bin .neq (.t 7) (.t 9), none⟩]) (
 .cond (.l 10) (
 .seq (.reg [
 ⟨.l 4, .mv (.c (.p (.b false))), none⟩]) (
 .ret)) (
 .skip))) (
 .seq (.seq (.reg [
 ⟨.l 5, .mv (.c (.p (.i .i64 0))), none⟩]) (
 .blk 0 (
 .loop (
 .seq (.seq (.reg [
 ⟨.t 11, .mv (.l 5), none⟩,
 ⟨.t 12, .mv (.l 0), none⟩,
 ⟨.t 13, .len false (.t 12), none⟩,
 ⟨.l 14, .bin .lss (.t 11) (.t 13), none⟩]) (
 .cond (.l 14) (
 .skip) (
 .exit 0))) (
 .seq (.blk 1 (
 .seq (.drw [
 ⟨.t 17, .mv (.l 0), none⟩,
 ⟨.t 18, .mv (.l 5), none⟩,
 ⟨.t 19, .ixs 3 (.t 17) (.t 18), none⟩,
 ⟨.t 20, .ld true 3 (.t 19), none⟩,
 ⟨.t 21, .mv (.l 1), none⟩,
 ⟨.t 22, .mv (.l 5), none⟩,
 ⟨.t 23, .ixs 3 (.t 21) (.t 22), none⟩,
 ⟨.t 24, .ld true 3 (.t 23), none⟩] [
 ⟨.t 25, .call 120 [.t 20, .t 24], none⟩,
 ⟨.l 26, .un .not (.t 25), none⟩]) (
 .cond (.l 26) (
 .seq (.reg [
 ⟨.l 4, .mv (.c (.p (.b false))), none⟩]) (
 .ret)) (
 .skip)))) (
 .reg [
 ⟨.t 15, .mv (.l 5), none⟩,
 ⟨.t 16, .bin .add (.t 15) (.c (.p (.i .i64 1))), none⟩,
 ⟨.l 5, .mv (.t 16), none⟩])))))) (
 .seq (.reg [
 ⟨.l 4, .mv (.c (.p (.b true))), none⟩]) (
 .ret))))
theorem mc59_eq : (Try.f59.body.map (compile lv59 Try.prog 27)) = some mc59 := by kernel_rfl
def mr59 : List MR := [.t 4]
theorem mr59_eq : cRess lv59 Try.prog Try.f59.results.toList = some mr59 := by kernel_rfl
theorem call59 {args : List AV} {H : List AO} {Q : AV → List AO → Prop} (hla : args.length ≤ 27) (h : wpm (ACall Try.prog) mc59 (finK mr59 Q) ⟨argEnv 0 args, [], H⟩) : ACall Try.prog 59 args H Q :=
  acall_mc (by kernel_rfl) Try.func59 mc59_eq Try.ntmps59 (by kernel_rfl) mr59_eq hla h
/- spec.Trace -/
def lv60 : List Nat := [0, 1, 2, 3, 4, 8, 9, 10, 11, 12, 44]
def mc60 : MC :=
.seq (.reg [
 ⟨.l 4, .box 2 (.l 0), none⟩,
 ⟨.l 8, .mv (.c (.p (.nl))), none⟩]) (
 .seq (.reg [
 ⟨.t 13, .bsl 3 [.p (.i .i64 0), .p (.i .i64 0), .p (.i .i64 0)] 0 [], none⟩,
 ⟨.l 9, .mv (.t 13), none⟩]) (
 .seq (.reg [
 ⟨.t 15, .ld true 2 (.l 4), none⟩,
 ⟨.t 16, .mv (.l 1), none⟩,
 ⟨.t 17, .mv (.l 2), none⟩,
 ⟨.t 18, .mv (.l 3), none⟩,
 ⟨.t 19, .call 113 [.t 15, .t 16, .t 17, .t 18], none⟩,
 ⟨.t 14, .mv (.t 19), none⟩,
 ⟨.t 20, .ext (.t 14) 0, none⟩,
 ⟨.t 21, .ext (.t 14) 1, none⟩,
 ⟨.l 10, .mv (.t 20), none⟩,
 ⟨.l 11, .mv (.t 21), none⟩]) (
 .seq (.blk 0 (
 .loop (
 .seq (.seq (.reg [
 ⟨.t 22, .mv (.l 11), none⟩,
 ⟨.t 23, .mv (.t 22), none⟩,
 ⟨.t 24, .mv (.l 10), some ((.t 23), true)⟩,
 ⟨.t 25, .nilc (.t 24), some ((.t 23), true)⟩,
 ⟨.t 26, .fad 0 (.t 25), some ((.t 23), true)⟩,
 ⟨.t 27, .ld false 1 (.t 26), some ((.t 23), true)⟩,
 ⟨.t 28, .nilc (.t 27), some ((.t 23), true)⟩,
 ⟨.t 29, .fad 6 (.t 28), some ((.t 23), true)⟩,
 ⟨.t 30, .ld false 1 (.t 29), some ((.t 23), true)⟩,
 ⟨.t 31, .un .not (.t 30), some ((.t 23), true)⟩,
 ⟨.t 32, .pick (.t 23) (.t 31) (.c (.p (.b false))), none⟩,
 ⟨.t 33, .mv (.t 32), none⟩,
 ⟨.t 34, .mv (.l 9), some ((.t 33), true)⟩,
 ⟨.t 35, .len false (.t 34), some ((.t 33), true)⟩,
 ⟨.t 36, .bin .lss (.t 35) (.c (.p (.i .i64 2000))), some ((.t 33), true)⟩,
 ⟨.t 37, .pick (.t 33) (.t 36) (.c (.p (.b false))), none⟩,
 ⟨.t 38, .mv (.t 37), none⟩,
 ⟨.t 39, .mv (.l 10), some ((.t 38), true)⟩,
 ⟨.t 40, .nilc (.t 39), some ((.t 38), true)⟩,
 ⟨.t 41, .fad 0 (.t 40), some ((.t 38), true)⟩,
 ⟨.t 42, .ld false 1 (.t 41), some ((.t 38), true)⟩,
 ⟨.t 43, .call 114 [.t 42], some ((.t 38), true)⟩,
 ⟨.l 44, .pick (.t 38) (.t 43) (.c (.p (.b false))), none⟩]) (
 .cond (.l 44) (
 .skip) (
 .exit 0))) (
 .blk 1 (
 .seq (.reg [
 ⟨.t 45, .mv (.l 10), none⟩,
 ⟨.t 46, .nilc (.t 45), none⟩,
 ⟨.t 47, .fad 5 (.t 46), none⟩,
 ⟨.t 48, .ld false 1 (.t 47), none⟩,
 ⟨.l 12, .mv (.t 48), none⟩]) (
 .seq (.drw [
 ⟨.t 49, .mv (.l 10), none⟩,
 ⟨.t 50, .ld true 2 (.l 4), none⟩,
 ⟨.t 51, .fad 0 (.l 4), none⟩,
 ⟨.t 52, .ld false 1 (.t 51), none⟩,
 ⟨.t 53, .mv (.l 12), none⟩,
 ⟨.t 54, .ixs 6 (.t 52) (.t 53), none⟩,
 ⟨.t 55, .ld true 6 (.t 54), none⟩] [
 ⟨.t 56, .call 115 [.t 49, .t 50, .t 55], none⟩]) (
 .drw [
 ⟨.t 57, .mv (.l 9), none⟩,
 ⟨.t 58, .mv (.l 12), none⟩,
 ⟨.t 59, .mv (.l 10), none⟩,
 ⟨.t 60, .nilc (.t 59), none⟩,
 ⟨.t 61, .fad 4 (.t 60), none⟩,
 ⟨.t 62, .ld false 1 (.t 61), none⟩,
 ⟨.t 63, .mv (.l 10), none⟩,
 ⟨.t 64, .nilc (.t 63), none⟩,
 ⟨.t 65, .fad 0 (.t 64), none⟩,
 ⟨.t 66, .ld false 1 (.t 65), none⟩,
 ⟨.t 67, .nilc (.t 66), none⟩,
 ⟨.t 68, .fad 3 (.t 67), none⟩,
 ⟨.t 69, .fad 2 (.t 68), none⟩,
 ⟨.t 70, .ld false 1 (.t 69), none⟩,
 ⟨.t 71, .lenq false (.t 70), none⟩,
 ⟨.t 72, .build [.p (.i .i64 0), .p (.i .i64 0), .p (.i .i64 0)] [(0, 1, (.t 58)), (1, 1, (.t 62)), (2, 1, (.t 71))], none⟩,
 ⟨.t 73, .bsl 3 [.p (.i .i64 0), .p (.i .i64 0), .p (.i .i64 0)] 1 [(0, (.t 72))], none⟩] [
 ⟨.t 74, .app 3 24 (.t 57) (.t 73), none⟩,
 ⟨.l 9, .mv (.t 74), none⟩]))))))) (
 .seq (.reg [
 ⟨.t 75, .mv (.l 9), none⟩,
 ⟨.l 8, .mv (.t 75), none⟩]) (
 .ret)))))
theorem mc60_eq : (Try.f60.body.map (compile lv60 Try.prog 76)) = some mc60 := by kernel_rfl
def mr60 : List MR := [.t 8]
theorem mr60_eq : cRess lv60 Try.prog Try.f60.results.toList = some mr60 := by kernel_rfl
theorem call60 {args : List AV} {H : List AO} {Q : AV → List AO → Prop} (hla : args.length ≤ 76) (h : wpm (ACall Try.prog) mc60 (finK mr60 Q) ⟨argEnv 0 args, [], H⟩) : ACall Try.prog 60 args H Q :=
  acall_mc (by kernel_rfl) Try.func60 mc60_eq Try.ntmps60 (by kernel_rfl) mr60_eq hla h
/- impl.Trace -/
def lv61 : List Nat := [0, 1, 2, 3, 4, 8, 9, 15]
def mc61 : MC :=
.seq (.reg [
 ⟨.l 4, .box 2 (.l 0), none⟩,
 ⟨.l 8, .mv (.c (.p (.nl))), none⟩]) (
 .seq (.seq (.reg [
 ⟨.t 10, .ld true 2 (.l 4), none⟩,
 ⟨.t 11, .mv (.l 1), none⟩,
 ⟨.t 12, .mv (.l 2), none⟩,
 ⟨.t 13, .mv (.l 3), none⟩,
 ⟨.t 14, .call 110 [.t 10, .t 11, .t 12, .t 13], none⟩,
 ⟨.l 15, .un .not (.t 14), none⟩]) (
 .cond (.l 15) (
 .seq (.reg [
 ⟨.l 8, .mv (.c (.p (.nl))), none⟩]) (
 .ret)) (
 .skip))) (
 .seq (.reg [
 ⟨.l 9, .alloc [.p (.nl)], none⟩]) (
 .seq (.reg [
 ⟨.t 16, .ld true 2 (.l 4), none⟩,
 ⟨.t 17, .mv (.l 1), none⟩,
 ⟨.t 18, .mv (.l 2), none⟩,
 ⟨.t 19, .mv (.l 3), none⟩,
 ⟨.t 20, .mkf 121 [.l 9], none⟩,
 ⟨.t 21, .call 111 [.t 16, .t 17, .t 18, .t 19, .t 20], none⟩]) (
 .seq (.reg [
 ⟨.t 22, .ld false 1 (.l 9), none⟩,
 ⟨.l 8, .mv (.t 22), none⟩]) (
 .ret)))))
theorem mc61_eq : (Try.f61.body.map (compile lv61 Try.prog 23)) = some mc61 := by kernel_rfl
def mr61 : List MR := [.t 8]
theorem mr61_eq : cRess lv61 Try.prog Try.f61.results.toList = some mr61 := by kernel_rfl
theorem call61 {args : List AV} {H : List AO} {Q : AV → List AO → Prop} (hla : args.length ≤ 23) (h : wpm (ACall Try.prog) mc61 (finK mr61 Q) ⟨argEnv 0 args, [], H⟩) : ACall Try.prog 61 args H Q :=
  acall_mc (by kernel_rfl) Try.func61 mc61_eq Try.ntmps61 (by kernel_rfl) mr61_eq hla h
/- laws.markEventS -/
/- laws.heldEventS -/
/- spec.l21Start -/
def lv113 : List Nat := [0, 1, 2, 3, 4, 8, 9, 10]
def mc113 : MC :=
.seq (.reg [
 ⟨.l 4, .box 2 (.l 0), none⟩,
 ⟨.l 8, .mv (.c (.p (.np))), none⟩,
 ⟨.l 9, .mv (.c (.p (.b false))), none⟩]) (
 .seq (.drw [
 ⟨.t 11, .mv (.l 3), none⟩,
 ⟨.t 12, .bsl 1 [.p (.i .i64 0)] 0 [], none⟩,
 ⟨.t 13, .mv (.l 1), none⟩,
 ⟨.t 14, .appn 1 8 (.t 12) (.t 13), none⟩,
 ⟨.t 15, .build zl9_0 [(0, 1, (.t 11)), (1, 1, (.t 14))], none⟩,
 ⟨.t 16, .box 7 (.t 15), none⟩,
 ⟨.t 17, .mks 3 32 [.p (.i .i64 0), .p (.i .i64 0), .p (.s [])] (.c (.p (.i .i64 16))) (.c (.p (.i .i64 16))), none⟩,
 ⟨.t 18, .mks 3 32 [.p (.i .i64 0), .p (.i .i64 0), .p (.s [])] (.c (.p (.i .i64 64))) (.c (.p (.i .i64 64))), none⟩,
 ⟨.t 19, .mv (.l 2), none⟩] [
 ⟨.t 20, .build zl9_1 [(0, 1, (.t 16)), (1, 1, (.t 17)), (2, 1, (.t 18)), (4, 1, (.t 19))], none⟩,
 ⟨.t 21, .box 6 (.t 20), none⟩,
 ⟨.l 10, .mv (.t 21), none⟩]) (
 .seq (.reg [
 ⟨.t 22, .mv (.l 10), none⟩,
 ⟨.t 23, .ld true 2 (.l 4), none⟩,
 ⟨.t 24, .call 70 [.t 23], none⟩,
 ⟨.t 25, .mv (.t 24), none⟩,
 ⟨.t 26, .mv (.l 1), some ((.t 25), true)⟩,
 ⟨.t 27, .len false (.t 26), some ((.t 25), true)⟩,
 ⟨.t 28, .bin .leq (.t 27) (.c (.p (.i .i64 200))), some ((.t 25), true)⟩,
 ⟨.t 29, .pick (.t 25) (.t 28) (.c (.p (.b false))), none⟩,
 ⟨.t 30, .mv (.t 29), none⟩,
 ⟨.t 31, .mv (.l 2), some ((.t 30), true)⟩,
 ⟨.t 32, .call 122 [.t 31, .c (.p (.i .i64 0)), .c (.p (.i .i64 100000))], some ((.t 30), true)⟩,
 ⟨.t 33, .pick (.t 30) (.t 32) (.c (.p (.b false))), none⟩,
 ⟨.t 34, .mv (.t 33), none⟩,
 ⟨.t 35, .mv (.l 3), some ((.t 34), true)⟩,
 ⟨.t 36, .call 122 [.t 35, .c (.p (.i .i64 0)), .c (.p (.i .i64 300000))], some ((.t 34), true)⟩,
 ⟨.t 37, .pick (.t 34) (.t 36) (.c (.p (.b false))), none⟩,
 ⟨.l 8, .mv (.t 22), none⟩,
 ⟨.l 9, .mv (.t 37), none⟩]) (
 .ret)))
theorem mc113_eq : (Try.f113.body.map (compile lv113 Try.prog 38)) = some mc113 := by kernel_rfl
def mr113 : List MR := [.t 8, .t 9]
theorem mr113_eq : cRess lv113 Try.prog Try.f113.results.toList = some mr113 := by kernel_rfl
theorem call113 {args : List AV} {H : List AO} {Q : AV → List AO → Prop} (hla : args.length ≤ 38) (h : wpm (ACall Try.prog) mc113 (finK mr113 Q) ⟨argEnv 0 args, [], H⟩) : ACall Try.prog 113 args H Q :=
  acall_mc (by kernel_rfl) Try.func113 mc113_eq Try.ntmps113 (by kernel_rfl) mr113_eq hla h
/- impl.Profile$1 -/
/- impl.RunCode$1 -/
/- laws.eqEvent -/
def lv120 : List Nat := [0, 1, 2, 3, 4, 9, 14, 19]
def mc120 : MC :=
.seq (.reg [
 ⟨.l 2, .box 3 (.l 0), none⟩,
 ⟨.l 3, .box 3 (.l 1), none⟩,
 ⟨.l 4, .mv (.c (.p (.b false))), none⟩]) (
 .seq (.seq (.reg [
 ⟨.t 5, .fad 0 (.l 2), none⟩,
 ⟨.t 6, .ld false 1 (.t 5), none⟩,
 ⟨.t 7, .fad 0 (.l 3), none⟩,
 ⟨.t 8, .ld false 1 (.t 7), none⟩,
 ⟨.l 9, .bin .neq (.t 6) (.t 8), none⟩]) (
 .cond (.l 9) (
 .seq (.reg [
 ⟨.l 4, .mv (.c (.p (.b false))), none⟩]) (
 .ret)) (
 .skip))) (
 .seq (.seq (.reg [
 ⟨.t 10, .fad 1 (.l 2), none⟩,
 ⟨.t 11, .ld false 1 (.t 10), none⟩,
 ⟨.t 12, .fad 1 (.l 3), none⟩,
 ⟨.t 13, .ld false 1 (.t 12), none⟩,
 ⟨.l 14, .bin .neq (.t 11) (.t 13), none⟩]) (
 .cond (.l 14) (
 .seq (.reg [
 ⟨.l 4, .mv (.c (.p (.b false))), none⟩]) (
 .ret)) (
 .skip))) (
 .seq (.seq (.reg [
 ⟨.t 15, .fad 2 (.l 2), none⟩,
 ⟨.t 16, .ld false 1 (.t 15), none⟩,
 ⟨.t 17, .fad 2 (.l 3), none⟩,
 ⟨.t 18, .ld false 1 (.t 17), none⟩,
 ⟨.l 19, .bin .neq (.t 16) (.t 18), none⟩]) (
 .cond (.l 19) (
 .seq (.reg [
 ⟨.l 4, .mv (.c (.p (.b false))), none⟩]) (
 .ret)) (
 .skip))) (
 .seq (.reg [
 ⟨.l 4, .mv (.c (.p (.b true))), none⟩]) (
 .ret)))))
theorem mc120_eq : (Try.f120.body.map (compile lv120 Try.prog 20)) = some mc120 := by kernel_rfl
def mr120 : List MR := [.t 4]
theorem mr120_eq : cRess lv120 Try.prog Try.f120.results.toList = some mr120 := by kernel_rfl
theorem call120 {args : List AV} {H : List AO} {Q : AV → List AO → Prop} (hla : args.length ≤ 20) (h : wpm (ACall Try.prog) mc120 (finK mr120 Q) ⟨argEnv 0 args, [], H⟩) : ACall Try.prog 120 args H Q :=
  acall_mc (by kernel_rfl) Try.func120 mc120_eq Try.ntmps120 (by kernel_rfl) mr120_eq hla h
/- impl.Trace$1 -/
def lv121 : List Nat := [0, 1, 2, 7]
def mc121 : MC :=
.seq (.reg [
 ⟨.t 5, .ld false 1 (.l 2), none⟩,
 ⟨.t 6, .len false (.t 5), none⟩,
 ⟨.l 7, .bin .lss (.t 6) (.c (.p (.i .i64 2000))), none⟩]) (
 .cond (.l 7) (
 .drw [
 ⟨.t 8, .ld false 1 (.l 2), none⟩,
 ⟨.t 9, .mv (.l 0), none⟩,
 ⟨.t 10, .mv (.l 1), none⟩,
 ⟨.t 11, .nilc (.t 10), none⟩,
 ⟨.t 12, .fad 3 (.t 11), none⟩,
 ⟨.t 13, .ld false 1 (.t 12), none⟩,
 ⟨.t 14, .mv (.l 1), none⟩,
 ⟨.t 15, .nilc (.t 14), none⟩,
 ⟨.t 16, .fad 325 (.t 15), none⟩,
 ⟨.t 17, .fad 2 (.t 16), none⟩,
 ⟨.t 18, .ld false 1 (.t 17), none⟩,
 ⟨.t 19, .lenq false (.t 18), none⟩,
 ⟨.t 20, .build [.p (.i .i64 0), .p (.i .i64 0), .p (.i .i64 0)] [(0, 1, (.t 9)), (1, 1, (.t 13)), (2, 1, (.t 19))], none⟩,
 ⟨.t 21, .bsl 3 [.p (.i .i64 0), .p (.i .i64 0), .p (.i .i64 0)] 1 [(0, (.t 20))], none⟩] [
 ⟨.t 22, .app 3 24 (.t 8) (.t 21), none⟩,
 ⟨.no, .sto 1 (.l 2) (.t 22), none⟩]) (
 .skip))
theorem mc121_eq : (Try.f121.body.map (compile lv121 Try.prog 23)) = some mc121 := by kernel_rfl
def mr121 : List MR := []
theorem mr121_eq : cRess lv121 Try.prog Try.f121.results.toList = some mr121 := by kernel_rfl
theorem call121 {args : List AV} {H : List AO} {Q : AV → List AO → Prop} (hla : args.length ≤ 23) (h : wpm (ACall Try.prog) mc121 (finK mr121 Q) ⟨argEnv 0 args, [], H⟩) : ACall Try.prog 121 args H Q :=
  acall_mc (by kernel_rfl) Try.func121 mc121_eq Try.ntmps121 (by kernel_rfl) mr121_eq hla h
end Go.Proofs.Ytmbggdfceecojaa.Mc

/- Numbers as bytes: bits. -/
set_option linter.all false
namespace Go.Proofs.Ytmbggdfceecojaa.Cd
open Go.AM

/-- a number as one from 0 on -/
def zig (n : Int) : Nat := if 0 ≤ n then 2 * n.toNat else (-2 * n - 1).toNat
/-- seven bits a byte, the lowest first -/
def enc (z : Nat) : List Int := if h : z < 128 then [(z : Int)] else ((z % 128 + 128 : Nat) : Int) :: enc (z / 128)
termination_by z
decreasing_by omega
theorem enc_lt {z : Nat} (h : z < 128) : enc z = [(z : Int)] := by rw [enc, dif_pos h]
theorem enc_ge {z : Nat} (h : ¬ z < 128) : enc z = ((z % 128 + 128 : Nat) : Int) :: enc (z / 128) := by rw [enc, dif_neg h]
theorem enc_len (k : Nat) : ∀ z : Nat, z < 128 ^ (k + 1) → (enc z).length ≤ k + 1 := by
  induction k with
  | zero => intro z hz; rw [enc_lt (by simpa using hz)]; simp
  | succ k ih =>
    intro z hz
    by_cases h : z < 128
    · rw [enc_lt h]; simp
    · rw [enc_ge h]
      have := ih (z / 128) (by rw [Nat.div_lt_iff_lt_mul (by omega)]; rw [Nat.pow_succ] at hz; exact hz)
      simp; omega
theorem zig_lt {n : Int} (h1 : -9223372036854775808 ≤ n) (h2 : n ≤ 9223372036854775807) : zig n < 18446744073709551616 := by
  unfold zig; split <;> omega
theorem enc10 {n : Int} (h1 : -9223372036854775808 ≤ n) (h2 : n ≤ 9223372036854775807) : (enc (zig n)).length ≤ 10 := by
  have := zig_lt h1 h2
  exact enc_len 9 _ (by omega)
end Go.Proofs.Ytmbggdfceecojaa.Cd

/- Images of codes: short numbers. -/
set_option linter.all false
namespace Go.Proofs.Ytmbggdfceecojaa.Cd
open Go.AM Mc Ho

theorem intR_len (k : IntKind) (a : List Int) : (intR k a).length = a.length := by simp [intR]

end Go.Proofs.Ytmbggdfceecojaa.Cd

/- Images of codes: short numbers and sums, by both. -/
set_option linter.all false
namespace Go.Proofs.Ytmbggdfceecojaa.Cd
open Go.AM Mc Ho

end Go.Proofs.Ytmbggdfceecojaa.Cd

/- Images of codes: bytes compared and marked; what an image is. -/
set_option linter.all false
namespace Go.Proofs.Ytmbggdfceecojaa.Cd
open Go.AM Mc Ho

end Go.Proofs.Ytmbggdfceecojaa.Cd

/- Images of codes: what an image is; by the program. -/
set_option linter.all false
namespace Go.Proofs.Ytmbggdfceecojaa.Cd
open Go.AM Mc Ho

def strI (s : List UInt8) : List Int := s.map fun c => (c.toNat : Int)
def encI (n : Int) : List Int := enc (zig n)
def insB (x : InsD) : List Int := [wr .u8 x.op, wr .u8 (wr .i64 (wr .i64 (16 * x.a) + x.b)), wr .u8 x.c] ++ encI x.n ++ encI x.text.length ++ strI x.text
def rng (n : Int) : Prop := -9223372036854775808 ≤ n ∧ n ≤ 9223372036854775807
def rngCode (c : CodeD) : Prop := (∀ n ∈ c.starts, rng n) ∧ ∀ x ∈ c.ins, rng x.n

theorem rng_len {n : Nat} (h : n ≤ maxL) : rng n := by unfold maxL at h; unfold rng; omega
theorem encI_len {n : Int} (h : rng n) : (encI n).length ≤ 10 := enc10 h.1 h.2
theorem flat_enc_len (l : List Int) (h : ∀ n ∈ l, rng n) : (l.flatMap encI).length ≤ 10 * l.length := by
  induction l with
  | nil => simp
  | cons n l ih =>
    have h1 := encI_len (h n (by simp))
    have h2 := ih (fun m hm => h m (List.mem_cons_of_mem _ hm))
    simp only [List.flatMap_cons, List.length_append, List.length_cons]; omega
theorem insB_len (x : InsD) (h : rng x.n) (ht : x.text.length ≤ maxL) : (insB x).length ≤ 23 + x.text.length := by
  have h1 := encI_len h
  have h2 := encI_len (rng_len ht)
  simp [insB, strI]; omega
theorem flat_ins_len (l : List InsD) (h : ∀ x ∈ l, rng x.n ∧ x.text.length ≤ maxL) : (l.flatMap insB).length ≤ 23 * l.length + texts l := by
  induction l with
  | nil => simp [texts]
  | cons x l ih =>
    have h1 := insB_len x (h x (by simp)).1 (h x (by simp)).2
    have h2 := ih (fun m hm => h m (List.mem_cons_of_mem _ hm))
    simp only [List.flatMap_cons, List.length_append, List.length_cons, texts]; omega
theorem texts_take_le (l : List InsD) (i : Nat) : texts (l.take i) ≤ texts l := by
  induction l generalizing i with
  | nil => simp
  | cons x l ih =>
    cases i with
    | zero => simp [texts]
    | succ i => simp [texts]; exact ih i

/-- how much room is wanted at most -/
structure Fits (c : CodeD) : Prop where
  ok : okCode c
  sm : small c
  rg : rngCode c
theorem Fits.starts {c : CodeD} (h : Fits c) (i : Nat) : ((c.starts.take i).flatMap encI).length ≤ 10485760 := by
  have h1 := flat_enc_len (c.starts.take i) (fun n hn => h.rg.1 n (List.mem_of_mem_take hn))
  have h2 := h.sm
  unfold small at h2
  have : (c.starts.take i).length ≤ c.starts.length := by simp; omega
  omega
theorem Fits.ins {c : CodeD} (h : Fits c) (i : Nat) : ((c.ins.take i).flatMap insB).length ≤ 25165824 := by
  have h1 := flat_ins_len (c.ins.take i) (fun x hx => ⟨h.rg.2 x (List.mem_of_mem_take hx), h.ok.1.2 x (List.mem_of_mem_take hx)⟩)
  have h2 := h.sm
  unfold small at h2
  have h3 : (c.ins.take i).length ≤ c.ins.length := by simp; omega
  have h4 := texts_take_le c.ins i
  omega
theorem Fits.text {c : CodeD} (h : Fits c) {x : InsD} (hx : x ∈ c.ins) : x.text.length ≤ 1048576 := by
  have key : ∀ l : List InsD, x ∈ l → x.text.length ≤ texts l := by
    intro l
    induction l with
    | nil => intro h; cases h
    | cons y l ih =>
      intro hx
      rcases List.mem_cons.1 hx with rfl | hx
      · simp [texts]
      · have := ih hx; simp [texts]; omega
  have h1 := key _ hx
  have h2 := h.sm
  unfold small at h2
  omega

end Go.Proofs.Ytmbggdfceecojaa.Cd

/- Images of codes: by the reference. -/
set_option linter.all false
namespace Go.Proofs.Ytmbggdfceecojaa.Cd
open Go.AM Mc Ho

end Go.Proofs.Ytmbggdfceecojaa.Cd

/- PutImage: the law. -/
set_option linter.all false
namespace Go.Proofs.Ytmbggdfceecojaa.Cd
open Go.AM Mc Ho

theorem toCode_fresh (c : CodeD) (hc : okCode c) (hs : small c) {H : List AO} : ACall Try.prog 21 [.st (c.cells.map .p)] H (fun r H' => H' = H ∧ r = .st (c.cells.map .p)) := by
  refine acall_fresh (toCode0 c hc hs) ?_ ?_
  · intro b hb
    simp only [List.mem_singleton] at hb
    subst hb
    refine noid_st _ ?_
    intro a ha
    obtain ⟨q, _, rfl⟩ := List.mem_map.1 ha
    exact noid_p q
  · rintro r H' ⟨rfl, h3, h4⟩
    exact ⟨_, lent_code c (i := 3) h3 h4, rfl⟩

theorem szCode_any (c : CodeD) (hc : okCode c) {H : List AO} : ACall Try.prog 19 [.st (c.cells.map .p), .p (.i .i64 1048576)] H (fun r H' => (∃ q : Int, r = .p (.i .i64 q) ∧ (q < 0 ∨ (0 ≤ q ∧ small c))) ∧ H' = H) :=
  (acall_lend (szCode c hc) (fun r H' ⟨q, h, _⟩ => by subst h; exact grnd_i _ _) (lentAll_cons (code_lent c) (lentAll_cons (.pure _) (lentAll_nil _)))).mono fun r H' ⟨h1, _, h2⟩ => ⟨h2, h1⟩
theorem eqCode_any (c d : CodeD) (hc : okCode c) (hd : okCode d) {H : List AO} {a b : AV} (ha : Lent H a (.st (c.cells.map .p))) (hb : Lent H b (.st (d.cells.map .p))) : ACall Try.prog 24 [a, b] H (fun r H' => r = .p (.b (decide (c = d))) ∧ H' = H) :=
  (acall_lend (eqCode c d hc hd) (fun r H' h => by subst h; exact grnd_b _) (lentAll_cons ha (lentAll_cons hb (lentAll_nil _)))).mono fun r H' ⟨h1, _, h2⟩ => ⟨h2, h1⟩

end Go.Proofs.Ytmbggdfceecojaa.Cd

/- What is reached in a code: the plain law. -/
set_option linter.all false
namespace Go.Proofs.Ytmbggdfceecojaa.Cd
open Go.AM Mc Ho

def falls (op : Int) : Prop := op ≠ 12 ∧ op ≠ 13 ∧ op ≠ 14 ∧ op ≠ 15

inductive Rch (c : CodeD) : Nat → Prop
  | zero : Rch c 0
  | jump (i : Nat) (x : InsD) (h : Rch c i) (hx : c.ins[i]? = some x) (ho : x.op = 12 ∨ x.op = 11) : Rch c x.n.toNat
  | next (i : Nat) (x : InsD) (h : Rch c i) (hx : c.ins[i]? = some x) (ho : falls x.op) : Rch c (i + 1)
  | go (i : Nat) (x : InsD) (j : Nat) (y : InsD) (s : Int) (h : Rch c i) (hx : c.ins[i]? = some x) (ho : x.op = 13) (k : Rch c j) (hy : c.ins[j]? = some y) (hq : y.op = 3) (hs : c.starts[y.n.toNat]? = some s) : Rch c s.toNat

def Done (c : CodeD) (seen named : List Bool) (g : Bool) (i : Nat) : Prop := ∀ x : InsD, c.ins[i]? = some x →
  ((x.op = 12 ∨ x.op = 11) → seen[x.n.toNat]? = some true) ∧ (falls x.op → seen[i + 1]? = some true) ∧ (x.op = 13 → g = true) ∧ (x.op = 3 → named[x.n.toNat]? = some true)

/-- the state of a search; E: where what follows is not yet looked at -/
structure Inv (c : CodeD) (E : Nat → Prop) (seen named : List Bool) (todo : List Nat) (g : Bool) : Prop where
  ls : seen.length = c.ins.length
  ln : named.length = c.starts.length
  z : seen[0]? = some true
  ss : ∀ i : Nat, seen[i]? = some true → Rch c i
  sn : ∀ k : Nat, named[k]? = some true → ∃ (i : Nat) (x : InsD), Rch c i ∧ c.ins[i]? = some x ∧ x.op = 3 ∧ x.n.toNat = k
  sg : g = true → ∃ (i : Nat) (x : InsD), Rch c i ∧ c.ins[i]? = some x ∧ x.op = 13
  st : ∀ i ∈ todo, seen[i]? = some true
  cc : ∀ i : Nat, seen[i]? = some true → i ∉ todo → ¬ E i → Done c seen named g i
/-- of the blocks below n -/
def Gd (c : CodeD) (seen named : List Bool) (g : Bool) (n : Nat) : Prop := ∀ k : Nat, k < n → named[k]? = some true → g = true → ∀ s : Int, c.starts[k]? = some s → seen[s.toNat]? = some true

theorem set_true {l : List Bool} {i j : Nat} (h : l[j]? = some true) : (l.set i true)[j]? = some true := by
  have hj := (List.getElem?_eq_some_iff.1 h).1
  rw [List.getElem?_set]
  split
  · rename_i e; subst e; simp [hj]
  · exact h
theorem set_inv {l : List Bool} {i j : Nat} (h : (l.set i true)[j]? = some true) : l[j]? = some true ∨ j = i := by
  rw [List.getElem?_set] at h
  split at h
  · rename_i e; exact .inr e.symm
  · exact .inl h
theorem set_at {l : List Bool} {i : Nat} (h : i < l.length) : (l.set i true)[i]? = some true := by simp [h]

theorem Done.mono {c : CodeD} {seen named : List Bool} {g : Bool} {i j k : Nat} (h : Done c seen named g i) : Done c (seen.set j true) named g i :=
  fun x hx => ⟨fun ho => set_true ((h x hx).1 ho), fun ho => set_true ((h x hx).2.1 ho), (h x hx).2.2.1, (h x hx).2.2.2⟩

theorem Inv.mark {c : CodeD} {E : Nat → Prop} {seen named : List Bool} {todo : List Nat} {g : Bool} (h : Inv c E seen named todo g) {i : Nat} (hi : i < c.ins.length) (hr : Rch c i) (hn : seen[i]? = some false) : Inv c E (seen.set i true) named (todo ++ [i]) g where
  ls := by simp [h.ls]
  ln := h.ln
  z := set_true h.z
  ss := fun j hj => (set_inv hj).elim (h.ss j) (fun e => e ▸ hr)
  sn := h.sn
  sg := h.sg
  st := fun j hj => by
    rcases List.mem_append.1 hj with hj | hj
    · exact set_true (h.st j hj)
    · simp at hj; subst hj; exact set_at (by rw [h.ls]; exact hi)
  cc := fun j hj hm he => by
    rcases set_inv hj with hj' | rfl
    · exact Done.mono (k := 0) (h.cc j hj' (fun hm' => hm (List.mem_append.2 (.inl hm'))) he)
    · exact (hm (List.mem_append.2 (.inr (by simp)))).elim
theorem Gd.mark {c : CodeD} {seen named : List Bool} {g : Bool} {n i : Nat} (h : Gd c seen named g n) : Gd c (seen.set i true) named g n :=
  fun k hk hn hg s hs => set_true (h k hk hn hg s hs)

end Go.Proofs.Ytmbggdfceecojaa.Cd

/- What is reached in a code: lists of bools and of places, as slices that are owned. -/
set_option linter.all false
namespace Go.Proofs.Ytmbggdfceecojaa.Cd
open Go.AM Mc Ho

def boolR (bs : List Bool) : List (List AV) := bs.map fun b => [.p (.b b)]
def natI (l : List Nat) : List Int := l.map Int.ofNat
theorem set_true_same {l : List Bool} {i : Nat} (h : l[i]? = some true) : l.set i true = l := by
  obtain ⟨hlt, he⟩ := List.getElem?_eq_some_iff.1 h
  rw [← he]; exact List.set_getElem_self hlt

/-- places that are owned, or nil; behind them there may be more -/
def OwnP (H : List AO) (a : AV) (zs : List Int) (lo : Nat) : Prop :=
  (a = .p .nl ∧ zs = []) ∨ ∃ id ver rs, lo ≤ id ∧ a = .gs id ver 0 zs.length ∧ H[id]? = some (.rows 1 ver rs) ∧ rs.take zs.length = intR .i64 zs ∧ zs.length ≤ rs.length

/-- what is kept: variables and what lies below lo, but for X -/
def SK (lo : Nat) (X : Nat → Prop) (H H' : List AO) : Prop :=
  (∀ (k : Nat) cs, H[k]? = some (.var cs) → ¬ X k → H'[k]? = some (.var cs)) ∧ (∀ k, k < lo → ¬ X k → H'[k]? = H[k]?) ∧ H.length ≤ H'.length
theorem SK.refl (lo X H) : SK lo X H H := ⟨fun _ _ h _ => h, fun _ _ _ => rfl, Nat.le_refl _⟩
theorem SK.trans {lo : Nat} {X : Nat → Prop} {A B C : List AO} (h : SK lo X A B) (k : SK lo X B C) : SK lo X A C :=
  ⟨fun i cs hi hx => k.1 i cs (h.1 i cs hi hx) hx, fun i hi hx => (k.2.1 i hi hx).trans (h.2.1 i hi hx), Nat.le_trans h.2.2 k.2.2⟩
theorem SK.app {lo : Nat} {X : Nat → Prop} {A B : List AO} (hl : lo ≤ A.length) : SK lo X A (A ++ B) :=
  ⟨fun i cs hi _ => by rw [List.getElem?_append_left (List.getElem?_eq_some_iff.1 hi).1]; exact hi, fun i hi _ => List.getElem?_append_left (by omega), by simp⟩
theorem SK.set {lo : Nat} {X : Nat → Prop} {A : List AO} {i : Nat} {o : AO} (hx : X i) : SK lo X A (A.set i o) :=
  ⟨fun k cs hk hn => by rw [List.getElem?_set_ne (fun (e : i = k) => hn (e ▸ hx))]; exact hk, fun k hk hn => List.getElem?_set_ne (fun (e : i = k) => hn (e ▸ hx)), by simp⟩

theorem OwnP.keep {lo : Nat} {X : Nat → Prop} {A B : List AO} {a : AV} {zs : List Int} (h : OwnP A a zs lo) (hk : ∀ (k : Nat) sz ver rs, A[k]? = some (.rows sz ver rs) → lo ≤ k → B[k]? = some (.rows sz ver rs)) : OwnP B a zs lo := by
  rcases h with h | ⟨id, ver, rs, h1, h2, h3, h4⟩
  · exact .inl h
  · exact .inr ⟨id, ver, rs, h1, h2, hk _ _ _ _ h3 h1, h4⟩

/-- how much is left to do -/
def cnt (seen : List Bool) (todo : List Nat) : Nat := 2 * seen.count false + todo.length
theorem count_set {l : List Bool} {i : Nat} (h : l[i]? = some false) : (l.set i true).count false + 1 = l.count false := by
  induction l generalizing i with
  | nil => simp at h
  | cons b l ih =>
    cases i with
    | zero => simp at h; subst h; simp
    | succ i =>
      have := ih (i := i) (by simpa using h)
      rw [List.set_cons_succ, List.count_cons, List.count_cons]
      omega

theorem Inv.named {c : CodeD} {E : Nat → Prop} {seen named : List Bool} {todo : List Nat} {g : Bool} (h : Inv c E seen named todo g) {i : Nat} {x : InsD} (hr : Rch c i) (hx : c.ins[i]? = some x) (ho : x.op = 3) : Inv c E seen (named.set x.n.toNat true) todo g where
  ls := h.ls
  ln := by simp [h.ln]
  z := h.z
  ss := h.ss
  sn := fun k hk => (set_inv hk).elim (h.sn k) (fun e => ⟨i, x, hr, hx, ho, e.symm⟩)
  sg := h.sg
  st := h.st
  cc := fun j hj hm he y hy => ⟨(h.cc j hj hm he y hy).1, (h.cc j hj hm he y hy).2.1, (h.cc j hj hm he y hy).2.2.1, fun ho => set_true ((h.cc j hj hm he y hy).2.2.2 ho)⟩
theorem Inv.goes {c : CodeD} {E : Nat → Prop} {seen named : List Bool} {todo : List Nat} {g : Bool} (h : Inv c E seen named todo g) {i : Nat} {x : InsD} (hr : Rch c i) (hx : c.ins[i]? = some x) (ho : x.op = 13) : Inv c E seen named todo true where
  ls := h.ls
  ln := h.ln
  z := h.z
  ss := h.ss
  sn := h.sn
  sg := fun _ => ⟨i, x, hr, hx, ho⟩
  st := h.st
  cc := fun j hj hm he y hy => ⟨(h.cc j hj hm he y hy).1, (h.cc j hj hm he y hy).2.1, fun _ => rfl, (h.cc j hj hm he y hy).2.2.2⟩
theorem Inv.done {c : CodeD} {i : Nat} {seen named : List Bool} {todo : List Nat} {g : Bool} (h : Inv c (fun k => k = i) seen named todo g) (hd : Done c seen named g i) : Inv c (fun _ => False) seen named todo g where
  ls := h.ls
  ln := h.ln
  z := h.z
  ss := h.ss
  sn := h.sn
  sg := h.sg
  st := h.st
  cc := fun j hj hm _ => by
    by_cases e : j = i
    · subst e; exact hd
    · exact h.cc j hj hm e
/-- one mark: the state behind it -/
structure Marked (c : CodeD) (E : Nat → Prop) (seen named : List Bool) (todo : List Nat) (g : Bool) (i : Nat) (seen' : List Bool) (todo' : List Nat) : Prop where
  inv : Inv c E seen' named todo' g
  at' : seen'[i]? = some true
  mono : ∀ k : Nat, seen[k]? = some true → seen'[k]? = some true
  cnt : cnt seen' todo' ≤ cnt seen todo
theorem marked {c : CodeD} {E : Nat → Prop} {seen named : List Bool} {todo : List Nat} {g : Bool} (h : Inv c E seen named todo g) {i : Nat} (hi : i < c.ins.length) (hr : Rch c i) :
    Marked c E seen named todo g i (seen.set i true) (if seen[i]? = some true then todo else todo ++ [i]) := by
  have hil : i < seen.length := by rw [h.ls]; exact hi
  by_cases hs : seen[i]? = some true
  · rw [if_pos hs, set_true_same hs]
    exact ⟨h, hs, fun _ h => h, Nat.le_refl _⟩
  · rw [if_neg hs]
    have hf : seen[i]? = some false := by
      rw [List.getElem?_eq_getElem hil] at hs ⊢
      cases hb : seen[i] with
      | true => rw [hb] at hs; exact (hs rfl).elim
      | false => rfl
    refine ⟨h.mark hi hr hf, set_at hil, fun _ h => set_true h, ?_⟩
    have := count_set hf
    unfold Cd.cnt
    simp; omega
end Go.Proofs.Ytmbggdfceecojaa.Cd

/- THE SMALL CODES of functions 5 28 29 30 31 32 80 81 82 83, and their ties to the program (printed by wip/tools/mkties.sh). -/
set_option linter.all false
namespace Go.Proofs.Ytmbggdfceecojaa.Mc
open Go.AM
end Go.Proofs.Ytmbggdfceecojaa.Mc

/- What is reached in a code: by the reference: a mark, a look. -/
set_option linter.all false
namespace Go.Proofs.Ytmbggdfceecojaa.Cd
open Go.AM Mc Ho

/-- the reference's state: at j; its lists at ids, idn; its places from lo on -/
structure WS (H : List AO) (j ids vs idn vn lo : Nat) (seen named : List Bool) (todo : List Nat) (g : Bool) : Prop where
  hj : ∃ t, H[j]? = some (.var [.gs ids vs 0 seen.length, t, .gs idn vn 0 named.length, .p (.b g)]) ∧ OwnP H t (natI todo) lo
  hs : H[ids]? = some (.rows 1 vs (boolR seen))
  hn : H[idn]? = some (.rows 1 vn (boolR named))
  ne : ids ≠ idn
  l1 : ids < lo
  l2 : idn < lo
  l3 : j < lo
  l4 : lo ≤ H.length

theorem WS.ext {H : List AO} {j ids vs idn vn lo : Nat} {seen named : List Bool} {todo : List Nat} {g : Bool} (h : WS H j ids vs idn vn lo seen named todo g) (A : List AO) : WS (H ++ A) j ids vs idn vn lo seen named todo g := by
  obtain ⟨t, h1, h2⟩ := h.hj
  exact ⟨⟨t, get_ext h1 _, h2.keep (X := fun _ => False) (fun k sz ver rs hk _ => get_ext hk _)⟩, get_ext h.hs _, get_ext h.hn _, h.ne, h.l1, h.l2, h.l3, by have := h.l4; simp; omega⟩
theorem WS.jn {H : List AO} {j ids vs idn vn lo : Nat} {seen named : List Bool} {todo : List Nat} {g : Bool} (h : WS H j ids vs idn vn lo seen named todo g) : ids ≠ j ∧ idn ≠ j := by
  obtain ⟨t, h1, _⟩ := h.hj
  exact ⟨fun e => (by have := h.hs; rw [e, h1] at this; cases this), fun e => (by have := h.hn; rw [e, h1] at this; cases this)⟩

end Go.Proofs.Ytmbggdfceecojaa.Cd

/- What is reached in a code: by the reference: a look. -/
set_option linter.all false
namespace Go.Proofs.Ytmbggdfceecojaa.Cd
open Go.AM Mc Ho

theorem WS.named {H : List AO} {j ids vs idn vn lo : Nat} {seen named : List Bool} {todo : List Nat} {g : Bool} (h : WS H j ids vs idn vn lo seen named todo g) (i : Nat) : WS (H.set idn (.rows 1 vn (boolR (named.set i true)))) j ids vs idn vn lo seen (named.set i true) todo g := by
  obtain ⟨t, h1, h2⟩ := h.hj
  obtain ⟨n1, n2⟩ := h.jn
  exact ⟨⟨t, by rw [List.length_set]; exact get_set h1 n2, h2.keep (X := fun _ => False) (fun k sz ver rs hk hlo => get_set hk (by have := h.l2; omega))⟩, get_set h.hs (fun e => h.ne e.symm), set_get h.hn, h.ne, h.l1, h.l2, h.l3, by have := h.l4; simp; omega⟩

theorem Gd.mono {c : CodeD} {seen seen' named : List Bool} {g : Bool} {n : Nat} (h : Gd c seen named g n) (hm : ∀ k : Nat, seen[k]? = some true → seen'[k]? = some true) : Gd c seen' named g n :=
  fun k hk hn hg s hs => hm _ (h k hk hn hg s hs)
theorem WS.goes {H : List AO} {j ids vs idn vn lo : Nat} {seen named : List Bool} {todo : List Nat} {g : Bool} (h : WS H j ids vs idn vn lo seen named todo g) {t : AV} (h1 : H[j]? = some (.var [.gs ids vs 0 seen.length, t, .gs idn vn 0 named.length, .p (.b g)])) (g' : Bool) :
    WS (H.set j (.var [.gs ids vs 0 seen.length, t, .gs idn vn 0 named.length, .p (.b g')])) j ids vs idn vn lo seen named todo g' := by
  obtain ⟨t', h1', h2⟩ := h.hj
  rw [h1] at h1'
  cases h1'
  obtain ⟨n1, n2⟩ := h.jn
  exact ⟨⟨t, set_get h1, h2.keep (X := fun _ => False) (fun k sz ver rs hk hlo => get_set hk (by have := h.l3; omega))⟩, get_set h.hs (fun e => n1 e.symm), get_set h.hn (fun e => n2 e.symm), h.ne, h.l1, h.l2, h.l3, by have := h.l4; simp; omega⟩

end Go.Proofs.Ytmbggdfceecojaa.Cd

/- What is reached in a code: by the reference. -/
set_option linter.all false
namespace Go.Proofs.Ytmbggdfceecojaa.Cd
open Go.AM Mc Ho

end Go.Proofs.Ytmbggdfceecojaa.Cd

/- What is reached in a code: by the program: a mark, the starts. -/
set_option linter.all false
namespace Go.Proofs.Ytmbggdfceecojaa.Cd
open Go.AM Mc Ho

/-- the program's state -/
structure IS (c : CodeD) (H : List AO) (seen named : List Bool) (todo : List Nat) (g : Bool) : Prop where
  c0 : H[0]? = some (.var [.p (.l (inss c.ins)), .p (.l (ints c.starts))])
  s1 : H[1]? = some (.rows 1 0 (boolR seen))
  o2 : H[2]? = some (.var [.gs 1 0 0 seen.length])
  n3 : H[3]? = some (.rows 1 0 (boolR named))
  n4 : H[4]? = some (.var [.gs 3 0 0 named.length])
  g5 : H[5]? = some (.var [.p (.b g)])
  l6 : ∃ t, H[6]? = some (.var [t]) ∧ OwnP H t (natI todo) 8
  r7 : H[7]? = some (.var [.clo 82 [.ptr 2 0, .ptr 6 0]])
  ln : 8 ≤ H.length

theorem IS.ext {c : CodeD} {H : List AO} {seen named : List Bool} {todo : List Nat} {g : Bool} (h : IS c H seen named todo g) (A : List AO) : IS c (H ++ A) seen named todo g := by
  obtain ⟨t, h1, h2⟩ := h.l6
  exact ⟨get_ext h.c0 _, get_ext h.s1 _, get_ext h.o2 _, get_ext h.n3 _, get_ext h.n4 _, get_ext h.g5 _, ⟨t, get_ext h1 _, h2.keep (X := fun _ => False) (fun k sz ver rs hk _ => get_ext hk _)⟩, get_ext h.r7 _, by have := h.ln; simp; omega⟩

end Go.Proofs.Ytmbggdfceecojaa.Cd

/- What is reached in a code: by the program. -/
set_option linter.all false
namespace Go.Proofs.Ytmbggdfceecojaa.Cd
open Go.AM Mc Ho

theorem IS.named {c : CodeD} {H : List AO} {seen named : List Bool} {todo : List Nat} {g : Bool} (h : IS c H seen named todo g) (i : Nat) : IS c (H.set 3 (.rows 1 0 (boolR (named.set i true)))) seen (named.set i true) todo g := by
  obtain ⟨t, h1, h2⟩ := h.l6
  exact ⟨get_set h.c0 (by omega), get_set h.s1 (by omega), get_set h.o2 (by omega), set_get h.n3, by rw [List.length_set]; exact get_set h.n4 (by omega), get_set h.g5 (by omega), ⟨t, get_set h1 (by omega), h2.keep (X := fun _ => False) (fun k sz ver rs hk hlo => get_set hk (by omega))⟩, get_set h.r7 (by omega), by have := h.ln; simp; exact this⟩
theorem IS.goes {c : CodeD} {H : List AO} {seen named : List Bool} {todo : List Nat} {g : Bool} (h : IS c H seen named todo g) (g' : Bool) : IS c (H.set 5 (.var [.p (.b g')])) seen named todo g' := by
  obtain ⟨t, h1, h2⟩ := h.l6
  exact ⟨get_set h.c0 (by omega), get_set h.s1 (by omega), get_set h.o2 (by omega), get_set h.n3 (by omega), get_set h.n4 (by omega), set_get h.g5, ⟨t, get_set h1 (by omega), h2.keep (X := fun _ => False) (fun k sz ver rs hk hlo => get_set hk (by omega))⟩, get_set h.r7 (by omega), by have := h.ln; simp; exact this⟩

end Go.Proofs.Ytmbggdfceecojaa.Cd

/- Reached: the law. -/
set_option linter.all false
namespace Go.Proofs.Ytmbggdfceecojaa.Cd
open Go.AM Mc Ho

end Go.Proofs.Ytmbggdfceecojaa.Cd

/- Trim: the plain law; marks that are still held. -/
set_option linter.all false
namespace Go.Proofs.Ytmbggdfceecojaa.Cd
open Go.AM Mc Ho

/-- how many are reached ahead of a place -/
def pos (B : List Bool) : Nat → Nat
  | 0 => 0
  | i + 1 => pos B i + (if B[i]? = some true then 1 else 0)
def kept (B : List Bool) (l : List InsD) : Nat → List InsD
  | 0 => []
  | i + 1 => kept B l i ++ (match l[i]? with | some x => if B[i]? = some true then [x] else [] | none => [])
/-! a code whose slices are owned -/
def OwnCAt (H : List AO) (r : AV) (t : CodeD) (lo hi : Nat) : Prop := ∃ a b, r = .st [a, b] ∧ OwnAt H a 6 (insR t.ins) lo hi ∧ OwnAt H b 1 (intR .i64 t.starts) lo hi

end Go.Proofs.Ytmbggdfceecojaa.Cd

/- THE SMALL CODES of functions 6 33 34 35 49 84, and their ties to the program (printed by wip/tools/mkties.sh). -/
set_option linter.all false
namespace Go.Proofs.Ytmbggdfceecojaa.Mc
open Go.AM
end Go.Proofs.Ytmbggdfceecojaa.Mc

/- Trim: marks by which a code is known, and that they are still held. -/
set_option linter.all false
namespace Go.Proofs.Ytmbggdfceecojaa.Cd
open Go.AM Mc Ho

def patZ (k : Int) (n : Nat) : List Int := (List.range n).map fun j => k + (j : Nat)
/-! the same, of slices that are owned -/
/-- what a call keeps that writes into one slice -/
def KeptO (a : AV) (H H' : List AO) : Prop := H'.length = H.length ∧ ∀ (j : Nat) o, H[j]? = some o → (∀ ver off n, a ≠ .gs j ver off n) → H'[j]? = some o
theorem KeptO.refl (a : AV) (H : List AO) : KeptO a H H := ⟨rfl, fun j o h _ => h⟩
theorem KeptO.at {a : AV} {H H' : List AO} (h : KeptO a H H') {sz : Nat} {rs : List (List AV)} (ha : OwnR H a sz rs) {j : Nat} {o : AO} (hj : H[j]? = some o) (hne : ∀ ver rs', o ≠ .rows sz ver rs') : H'[j]? = some o := by
  refine h.2 j o hj fun ver off n e => ?_
  rcases ha with ⟨rfl, _⟩ | ⟨id, v, rfl, h2⟩
  · cases e
  · cases e
    rw [hj] at h2; cases h2
    exact hne _ _ rfl
theorem KeptO.out {a : AV} {H H' : List AO} (h : KeptO a H H') {sz : Nat} {rs : List (List AV)} {lo hi : Nat} (ha : OwnAt H a sz rs lo hi) {j : Nat} {o : AO} (hj : H[j]? = some o) (hlt : j < lo ∨ hi ≤ j) : H'[j]? = some o := by
  refine h.2 j o hj fun ver off n e => ?_
  rcases ha with ⟨rfl, _⟩ | ⟨id, v, h0, h1, rfl, h2⟩
  · cases e
  · cases e; omega
theorem KeptO.own {a : AV} {H H' : List AO} (h : KeptO a H H') {sz sz' : Nat} {rs rs' : List (List AV)} {lo hi lo' hi' : Nat} (ha : OwnAt H a sz rs lo hi) {b : AV} (hb : OwnAt H b sz' rs' lo' hi') (hne : sz ≠ sz') : OwnAt H' b sz' rs' lo' hi' := by
  rcases hb with hb | ⟨id, v, h0, h1, e, h2⟩
  · exact .inl hb
  · exact .inr ⟨id, v, h0, h1, e, h.at ha.own h2 (fun ver rs' e => by cases e; exact hne rfl)⟩

/-- a code that is marked -/
def PatAt (H : List AO) (r : AV) (m n : Nat) (lo hi : Nat) : Prop := ∃ a b, r = .st [a, b] ∧ OwnAt H a 6 (patIR 1 m) lo hi ∧ OwnAt H b 1 (intR .i64 (patZ (1 + 6 * m) n)) lo hi

end Go.Proofs.Ytmbggdfceecojaa.Cd

/- Profile, of both. -/
set_option linter.all false
namespace Go.Proofs.Ytmbggdfceecojaa.Cd
open Go.AM Mc Ho

set_option maxHeartbeats 4000000 in
theorem sStart {c : CodeD} (hok : okCode c) {inp : List Int} (hil : inp.length ≤ 1048576) (room steps : Int) (H : List AO) :
    ACall Try.prog 113 [.st (c.cells.map .p), .p (.l (ints inp)), .p (.i .i64 room), .p (.i .i64 steps)] H (fun r H' => ∃ g, r = .tup [.ptr g.im 0, .p (.b (runOk c inp room steps))] ∧ SM g steps H' (startD inp room) ∧ (∀ j, smP g j → H.length ≤ j) ∧ ∃ A, H' = H ++ A) := by
  refine call113 (by simp) ?_
  simp only [go_sem, Nat.reduceEqDiff, reduceIte, ↓reduceIte, Nat.reduceAdd, Z0, Z1, Z2, Z3, Z4, Z5, Nat.reduceLT, Z6, Z7, Int.reduceEq, Z8, Z9, Nat.reduceLeDiff, Za, Zb, Zc, Zd, Ze, Zf, bytesOf, Zg, Zh, Zi, Zj, Zk, Zl, Int.reduceLT, Int.reduceLE, Zm, Int.reduceToNat, Zn, Zo, Zp, Int.reduceAdd, Zq, Zr, mc113, mr113, CodeD.cells]
  have h4 : (H ++ [.var [.p (.l (inss c.ins)), .p (.l (ints c.starts))]])[H.length]? = some (.var [.p (.l (inss c.ins)), .p (.l (ints c.starts))]) := get_off0 _ _
  have hx1 : ∃ A, H ++ [AO.var [.p (.l (inss c.ins)), .p (.l (ints c.starts))]] = H ++ A := ⟨_, rfl⟩
  have hb4 : H.length = H.length := rfl
  have hl1 : H.length ≤ (H ++ [AO.var [.p (.l (inss c.ins)), .p (.l (ints c.starts))]]).length := by simp
  revert hb4
  generalize H ++ [AO.var [.p (.l (inss c.ins)), .p (.l (ints c.starts))]] = H1 at h4 hx1 hl1 ⊢
  generalize hb : H.length = b4 at h4 ⊢
  intro _
  refine drw_same ?_
  simp only [go_sem, Nat.reduceEqDiff, reduceIte, ↓reduceIte, Nat.reduceAdd, Z0, Z1, Z2, Z3, Z4, Z5, Nat.reduceLT, Z6, Z7, Int.reduceEq, Z8, Z9, Nat.reduceLeDiff, Za, Zb, Zc, Zd, Ze, Zf, bytesOf, Zg, Zh, Zi, Zj, Zk, Zl, Int.reduceLT, Int.reduceLE, Zm, Int.reduceToNat, Zn, Zo, Zp, Int.reduceAdd, Zq, Zr, ints_map, Nat.add_zero, zl45_0, zl45_1, zl9_0, zl9_1]
  refine appnR_new 1 8 0 0 0 (intR .i64 inp) [] rfl (intR_len1 _ _) (Nat.le_refl _) (by simp [intR]; omega) (by simp [intR]; omega) ?_
  have hlen : (intR .i64 inp).length = inp.length := by simp [intR]
  have hs0 := smStart H1 inp room steps
  have h40 := get_ext h4 (hS H1.length inp.length inp room steps)
  have hlo : ∀ j, smP (gS H1.length inp.length) j → b4 ≤ j := fun j hj => by have := gS_lo hj; omega
  have hx2 : ∃ A, H1 ++ hS H1.length inp.length inp room steps = H ++ A := by obtain ⟨A, e⟩ := hx1; exact ⟨A ++ hS H1.length inp.length inp room steps, by rw [e, List.append_assoc]⟩
  simp only [hS] at hs0 h40 hx2
  simp only [go_sem, Nat.reduceEqDiff, reduceIte, ↓reduceIte, Nat.reduceAdd, Z2, Z3, Z4, Z5, Nat.reduceLT, Z6, Z7, Int.reduceEq, Z8, Z9, Nat.reduceLeDiff, Za, Zb, Zc, Zd, Ze, Zf, bytesOf, Zg, Zh, Zi, Zj, Zk, Zl, Int.reduceLT, Int.reduceLE, Zm, Int.reduceToNat, Zn, Zo, Zp, Int.reduceAdd, Zq, Zr, Nat.add_zero, hlen, Nat.zero_add, List.set_cons_zero, Int.reduceMul]
  generalize H1 ++ [AO.rows 1 1 (intR .i64 inp), .var [.p (.i .i64 steps), .gs H1.length 1 0 inp.length, .p .nl, .p (.i .i64 0), .p (.i .i64 0), .p .nl, .p (.b false)], .rows 3 0 (List.replicate 16 [.p (.i .i64 0), .p (.i .i64 0), .p (.s [])]), .rows 3 0 (List.replicate 64 [.p (.i .i64 0), .p (.i .i64 0), .p (.s [])]),
    .var [.ptr (H1.length + 1) 0, .gs (H1.length + 2) 0 0 16, .gs (H1.length + 3) 0 0 64, .p .nl, .p (.i .i64 room), .p (.i .i64 0)]] = H2 at hs0 h40 hx2 ⊢
  have hg4 : (gS H1.length inp.length).im = H1.length + 4 := rfl
  rw [← hg4]
  generalize gS H1.length inp.length = g0 at hs0 hlo ⊢
  have hilm : inp.length ≤ maxL := by unfold maxL; omega
  simp only [go_sem, Nat.reduceEqDiff, reduceIte, ↓reduceIte, Nat.reduceAdd, Z0, Z1, Z2, Z3, Z4, Z5, Nat.reduceLT, Z6, Z7, Int.reduceEq, Z8, Z9, Nat.reduceLeDiff, Za, Zb, Zc, Zd, Ze, Zf, bytesOf, Zg, Zh, Zi, Zj, Zk, Zl, Int.reduceLT, Int.reduceLE, Zm, Int.reduceToNat, Zn, Zo, Zp, Int.reduceAdd, Zq, Zr, h40]
  refine acall_pure (specCodeOk_any c hok _) ?_
  have fin : ∀ b, runOk c inp room steps = b → ∃ g : SG, AV.tup [.ptr g0.im 0, .p (.b b)] = .tup [.ptr g.im 0, .p (.b (runOk c inp room steps))] ∧ SM g steps H2 (startD inp room) ∧ (∀ j, smP g j → b4 ≤ j) ∧ ∃ A, H2 = H ++ A :=
    fun b e => ⟨g0, by rw [e], hs0, hlo, hx2⟩
  cases h1 : codeOk c
  · simp only [go_sem, Nat.reduceEqDiff, reduceIte, ↓reduceIte, Nat.reduceAdd, Z0, Z1, Z2, Z3, Z4, Z5, Nat.reduceLT, Z6, Z7, Int.reduceEq, Z8, Z9, Nat.reduceLeDiff, Za, Zb, Zc, Zd, Ze, Zf, bytesOf, Zg, Zh, Zi, Zj, Zk, Zl, Int.reduceLT, Int.reduceLE, Zm, Int.reduceToNat, Zn, Zo, Zp, Int.reduceAdd, Zq, Zr]
    exact fin _ (by simp [runOk, h1])
  simp only [go_sem, Nat.reduceEqDiff, reduceIte, ↓reduceIte, Nat.reduceAdd, Z0, Z1, Z2, Z3, Z4, Z5, Nat.reduceLT, Z6, Z7, Int.reduceEq, Z8, Z9, Nat.reduceLeDiff, Za, Zb, Zc, Zd, Ze, Zf, bytesOf, Zg, Zh, Zi, Zj, Zk, Zl, Int.reduceLT, Int.reduceLE, Zm, Int.reduceToNat, Zn, Zo, Zp, Int.reduceAdd, Zq, Zr, ints_len]
  intro _
  by_cases h2 : inp.length ≤ 200
  case neg =>
    have d2 : decide ((inp.length : Int) ≤ 200) = false := by simp; omega
    simp only [go_sem, Nat.reduceEqDiff, reduceIte, ↓reduceIte, Nat.reduceAdd, Z0, Z1, Z2, Z3, Z4, Z5, Nat.reduceLT, Z6, Z7, Int.reduceEq, Z8, Z9, Nat.reduceLeDiff, Za, Zb, Zc, Zd, Ze, Zf, bytesOf, Zg, Zh, Zi, Zj, Zk, Zl, Int.reduceLT, Int.reduceLE, Zm, Int.reduceToNat, Zn, Zo, Zp, Int.reduceAdd, Zq, Zr, d2]
    exact fin _ (by simp [runOk, h2])
  have d2 : decide ((inp.length : Int) ≤ 200) = true := by simp; omega
  simp only [go_sem, Nat.reduceEqDiff, reduceIte, ↓reduceIte, Nat.reduceAdd, Z0, Z1, Z2, Z3, Z4, Z5, Nat.reduceLT, Z6, Z7, Int.reduceEq, Z8, Z9, Nat.reduceLeDiff, Za, Zb, Zc, Zd, Ze, Zf, bytesOf, Zg, Zh, Zi, Zj, Zk, Zl, Int.reduceLT, Int.reduceLE, Zm, Int.reduceToNat, Zn, Zo, Zp, Int.reduceAdd, Zq, Zr, d2]
  refine acall_pure (l1In_p _ _ _ _) ?_
  cases h3 : inD room 0 100000
  · simp only [go_sem, Nat.reduceEqDiff, reduceIte, ↓reduceIte, Nat.reduceAdd, Z0, Z1, Z2, Z3, Z4, Z5, Nat.reduceLT, Z6, Z7, Int.reduceEq, Z8, Z9, Nat.reduceLeDiff, Za, Zb, Zc, Zd, Ze, Zf, bytesOf, Zg, Zh, Zi, Zj, Zk, Zl, Int.reduceLT, Int.reduceLE, Zm, Int.reduceToNat, Zn, Zo, Zp, Int.reduceAdd, Zq, Zr]
    exact fin _ (by simp [runOk, h3])
  simp only [go_sem, Nat.reduceEqDiff, reduceIte, ↓reduceIte, Nat.reduceAdd, Z0, Z1, Z2, Z3, Z4, Z5, Nat.reduceLT, Z6, Z7, Int.reduceEq, Z8, Z9, Nat.reduceLeDiff, Za, Zb, Zc, Zd, Ze, Zf, bytesOf, Zg, Zh, Zi, Zj, Zk, Zl, Int.reduceLT, Int.reduceLE, Zm, Int.reduceToNat, Zn, Zo, Zp, Int.reduceAdd, Zq, Zr]
  refine acall_pure (l1In_p _ _ _ _) ?_
  simp only [go_sem, Nat.reduceEqDiff, reduceIte, ↓reduceIte, Nat.reduceAdd, Z0, Z1, Z2, Z3, Z4, Z5, Nat.reduceLT, Z6, Z7, Int.reduceEq, Z8, Z9, Nat.reduceLeDiff, Za, Zb, Zc, Zd, Ze, Zf, bytesOf, Zg, Zh, Zi, Zj, Zk, Zl, Int.reduceLT, Int.reduceLE, Zm, Int.reduceToNat, Zn, Zo, Zp, Int.reduceAdd, Zq, Zr]
  exact fin _ (by simp [runOk, h1, h2, h3])

end Go.Proofs.Ytmbggdfceecojaa.Cd

/- Trace, of both. -/
set_option linter.all false
namespace Go.Proofs.Ytmbggdfceecojaa.Cd
open Go.AM Mc Ho

abbrev EvD := Int × Int × Int
def evC (e : EvD) : List AV := [.p (.i .i64 e.1), .p (.i .i64 e.2.1), .p (.i .i64 e.2.2)]
def evR (l : List EvD) : List (List AV) := l.map evC
theorem evR_len (l) : (evR l).length = l.length := by simp [evR]
theorem evR_snoc (l : List EvD) (a r p : Int) : evR l ++ [[.p (.i .i64 a), .p (.i .i64 r), .p (.i .i64 p)]] = evR (l ++ [(a, r, p)]) := by simp [evR, evC]

/-- one more event, where there is room for it -/
def nextT (a : Int) (m : MD) (s : List EvD) : List EvD := if s.length < 2000 then s ++ [(a, m.room, (m.out.length : Int))] else s
def traceD (c : CodeD) (inp : List Int) (room steps : Int) : List EvD :=
  if runOk c inp room steps = true then tellD c nextT steps.toNat (startD inp room) [] else []
theorem tellT_full {c : CodeD} : ∀ (n : Nat) (m : MD) (s : List EvD), 2000 ≤ s.length → tellD c nextT n m s = s
  | 0, _, _, _ => rfl
  | n + 1, m, s, h => by
    unfold tellD
    have e : nextT m.pc (stepD c m) s = s := by unfold nextT; rw [if_neg (by omega)]
    split
    · rw [e, tellT_full n _ s h]
    · rfl
theorem tellT_len {c : CodeD} : ∀ (n : Nat) (m : MD) (s : List EvD), s.length ≤ 2000 → (tellD c nextT n m s).length ≤ 2000
  | 0, _, _, h => h
  | n + 1, m, s, h => by
    unfold tellD
    split
    · refine tellT_len n _ _ ?_
      unfold nextT
      split
      · simp; omega
      · exact h
    · exact h
theorem traceD_len (c inp room steps) : (traceD c inp room steps).length ≤ 2000 := by
  unfold traceD
  split
  · exact tellT_len _ _ _ (by simp)
  · simp

theorem lenq_own {H : List AO} {a : AV} {sz : Nat} {rs : List (List AV)} (h : OwnR H a sz rs) : lenqV false a = some (.p (.i .i64 rs.length)) := by
  rcases h with ⟨rfl, rfl⟩ | ⟨id, ver, rfl, _⟩ <;> rfl

theorem tellT {c : CodeD} {ib : Nat} : Tell c 121 [.ptr ib 0] (List EvD × AV) (List EvD) Prod.fst (fun s H => H[ib]? = some (.var [s.2]) ∧ OwnR H s.2 3 (evR s.1) ∧ s.1.length ≤ 2000) (fun s j => j = ib ∨ gid s.2 = some j) nextT where
  keep := fun s H H' ⟨h1, h2, h3⟩ k => ⟨k _ _ h1 (.inl rfl), own_keep h2 fun j o hj ho => k _ _ ho (.inr hj), h3⟩
  bd := fun s H j ⟨h1, h2, h3⟩ hj => by
    rcases hj with rfl | hj
    · exact get_lt h1
    · obtain ⟨v, e⟩ := own_gid h2 hj; exact get_lt e
  call := fun im ids ou H m a s hM hm hd ⟨h1, h2, h3⟩ a0 a1 hol => by
    obtain ⟨s, b⟩ := s
    simp only at h1 h2 h3
    have hlen : ∀ {K : St → Prop} {st : St} {d : Go.AM.MD}, K (st.put d (.p (.i .i64 s.length))) → lenK false b d K st := by
      intro K st d k
      rw [← evR_len s] at k
      rcases h2 with ⟨rfl, e⟩ | ⟨id, ver, rfl, _⟩
      · rw [e] at k; exact k
      · exact fun _ => k
    refine call121 (by simp) ?_
    simp only [go_sem, Nat.reduceEqDiff, reduceIte, ↓reduceIte, Nat.reduceAdd, Z0, Z1, Z2, Z3, Z4, Z5, Nat.reduceLT, Z6, Z7, Int.reduceEq, Z8, Z9, Nat.reduceLeDiff, Za, Zb, Zc, Zd, Ze, Zf, bytesOf, Zg, Zh, Zi, Zj, Zk, Zl, Int.reduceLT, Int.reduceLE, Zm, Int.reduceToNat, Zn, Zo, Zp, Int.reduceAdd, Zq, Zr, mc121, mr121, h1]
    refine hlen ?_
    by_cases hl : s.length < 2000
    case neg =>
      have d : decide ((s.length : Int) < 2000) = false := by simp; omega
      simp only [go_sem, Nat.reduceEqDiff, reduceIte, ↓reduceIte, Nat.reduceAdd, Z0, Z1, Z2, Z3, Z4, Z5, Nat.reduceLT, Z6, Z7, Int.reduceEq, Z8, Z9, Nat.reduceLeDiff, Za, Zb, Zc, Zd, Ze, Zf, bytesOf, Zg, Zh, Zi, Zj, Zk, Zl, Int.reduceLT, Int.reduceLE, Zm, Int.reduceToNat, Zn, Zo, Zp, Int.reduceAdd, Zq, Zr, d]
      exact ⟨(s, b), by unfold nextT; rw [if_neg hl], ⟨h1, h2, h3⟩, Fr.refl _ _⟩
    have d : decide ((s.length : Int) < 2000) = true := by simp; omega
    have eo := lenq_own hM.out
    rw [intR_len] at eo
    simp only [go_sem, Nat.reduceEqDiff, reduceIte, ↓reduceIte, Nat.reduceAdd, Z0, Z1, Z2, Z3, Z4, Z5, Nat.reduceLT, Z6, Z7, Int.reduceEq, Z8, Z9, Nat.reduceLeDiff, Za, Zb, Zc, Zd, Ze, Zf, bytesOf, Zg, Zh, Zi, Zj, Zk, Zl, Int.reduceLT, Int.reduceLE, Zm, Int.reduceToNat, Zn, Zo, Zp, Int.reduceAdd, Zq, Zr, d]
    refine drw_same ?_
    simp only [go_sem, Nat.reduceEqDiff, reduceIte, ↓reduceIte, Nat.reduceAdd, Z0, Z1, Z2, Z3, Z4, Z5, Nat.reduceLT, Z6, Z7, Int.reduceEq, Z8, Z9, Nat.reduceLeDiff, Za, Zb, Zc, Zd, Ze, Zf, bytesOf, Zg, Zh, Zi, Zj, Zk, Zl, Int.reduceLT, Int.reduceLE, Zm, Int.reduceToNat, Zn, Zo, Zp, Int.reduceAdd, Zq, Zr, h1, hM.var, imC_room, imC_ou hm, eo]
    have h1x := get_ext h1 [AO.rows 3 0 [evC (a, m.room, m.out.length)]]
    have h2x := OwnR.ext (A := [AO.rows 3 0 [evC (a, m.room, m.out.length)]]) h2
    have hrx : (H ++ [AO.rows 3 0 [evC (a, m.room, m.out.length)]])[H.length]? = some (.rows 3 0 [evC (a, m.room, m.out.length)]) := get_off0 _ _
    have frx := Fr.ext (fun j => j = ib ∨ gid b = some j) H [AO.rows 3 0 [evC (a, m.room, m.out.length)]]
    simp only [evC] at h1x h2x hrx frx
    generalize H ++ [AO.rows 3 0 [[.p (.i .i64 a), .p (.i .i64 m.room), .p (.i .i64 m.out.length)]]] = H1 at h1x h2x hrx frx ⊢
    refine ⟨by simp, ?_⟩
    refine app_fr h2x (by simp [evR]; omega) (by simp [evR]; omega) ?_
    intro id ver H2 g hn k hl2
    have h12 : H2[ib]? = some (.var [b]) := k _ _ h1x (by
      rintro v o' n rfl
      rcases h2x with ⟨e, _⟩ | ⟨i, vv, e, e2⟩
      · cases e
      · cases e; rw [h1x] at e2; cases e2)
    have hne : ib ≠ id := by rintro rfl; rw [h12] at g; cases g
    simp only [go_sem, Nat.reduceEqDiff, reduceIte, ↓reduceIte, Nat.reduceAdd, Z0, Z1, Z2, Z3, Z4, Z5, Nat.reduceLT, Z6, Z7, Int.reduceEq, Z8, Z9, Nat.reduceLeDiff, Za, Zb, Zc, Zd, Ze, Zf, bytesOf, Zg, Zh, Zi, Zj, Zk, Zl, Int.reduceLT, Int.reduceLE, Zm, Int.reduceToNat, Zn, Zo, Zp, Int.reduceAdd, Zq, Zr, h12]
    rw [evR_snoc] at g
    refine ⟨(s ++ [(a, m.room, (m.out.length : Int))], .gs id ver 0 ((evR s).length + 1)), by unfold nextT; rw [if_pos hl], ⟨set_get h12, .inr ⟨id, ver, by simp [evR], get_set g hne⟩, by simp; omega⟩, ?_⟩
    refine ⟨fun j o hj hp => ?_, fun j hj => ?_, ?_⟩
    · refine get_set (k j o (frx.keep _ _ hj hp) fun v o' n e => hp (.inr (by rw [e]; rfl))) (fun e => hp (.inl e.symm))
    · rcases hj with rfl | hj
      · exact .inl (.inl rfl)
      · cases hj
        rcases hn with ⟨v, o, n, e⟩ | h'
        · exact .inl (.inr (by rw [e]; rfl))
        · exact .inr (Nat.le_trans frx.len h')
    · simp only [List.length_set]; exact Nat.le_trans frx.len hl2

set_option maxHeartbeats 1000000 in
theorem implTrace0 (c : CodeD) (hok : okCode c) (inp : List Int) (hil : inp.length ≤ 1048576) (room steps : Int) :
    ACall Try.prog 61 [.st (c.cells.map .p), .p (.l (ints inp)), .p (.i .i64 room), .p (.i .i64 steps)] [] (fun r H => OwnR H r 3 (evR (traceD c inp room steps))) := by
  refine call61 (by simp) ?_
  simp only [go_sem, Nat.reduceEqDiff, reduceIte, ↓reduceIte, Nat.reduceAdd, Z0, Z1, Z2, Z3, Z4, Z5, Nat.reduceLT, Z6, Z7, Int.reduceEq, Z8, Z9, Nat.reduceLeDiff, Za, Zb, Zc, Zd, Ze, Zf, bytesOf, Zg, Zh, Zi, Zj, Zk, Zl, Int.reduceLT, Int.reduceLE, Zm, Int.reduceToNat, Zn, Zo, Zp, Int.reduceAdd, Zq, Zr, mc61, mr61, CodeD.cells]
  refine acall_pure (runOkI c hok inp (by unfold maxL; omega) room steps _) ?_
  cases h : runOk c inp room steps
  · simp only [go_sem, Nat.reduceEqDiff, reduceIte, ↓reduceIte, Nat.reduceAdd, Z0, Z1, Z2, Z3, Z4, Z5, Nat.reduceLT, Z6, Z7, Int.reduceEq, Z8, Z9, Nat.reduceLeDiff, Za, Zb, Zc, Zd, Ze, Zf, bytesOf, Zg, Zh, Zi, Zj, Zk, Zl, Int.reduceLT, Int.reduceLE, Zm, Int.reduceToNat, Zn, Zo, Zp, Int.reduceAdd, Zq, Zr, Bool.not_false]
    exact .inl ⟨rfl, by simp [traceD, h, evR]⟩
  obtain ⟨hc, h2, h3, N, rfl, hN⟩ := runOk_facts h
  simp only [go_sem, Nat.reduceEqDiff, reduceIte, ↓reduceIte, Nat.reduceAdd, Z0, Z1, Z2, Z3, Z4, Z5, Nat.reduceLT, Z6, Z7, Int.reduceEq, Z8, Z9, Nat.reduceLeDiff, Za, Zb, Zc, Zd, Ze, Zf, bytesOf, Zg, Zh, Zi, Zj, Zk, Zl, Int.reduceLT, Int.reduceLE, Zm, Int.reduceToNat, Zn, Zo, Zp, Int.reduceAdd, Zq, Zr, Bool.not_true]
  refine (mRan hok hc hN h2 h3 (tellT (c := c) (ib := 1)) (s0 := ([], .p .nl)) ⟨rfl, .inl ⟨rfl, rfl⟩, by simp⟩).mono ?_
  rintro r H' ⟨im, ids, ou, rfl, hM, hm, s, hs, h4, h5, h6⟩
  obtain ⟨s, b⟩ := s
  simp only at hs h4 h5 h6
  have hs' : s = traceD c inp room N := by rw [traceD, if_pos h, Int.toNat_natCast]; exact hs
  subst hs'
  simp only [go_sem, Nat.reduceEqDiff, reduceIte, ↓reduceIte, Nat.reduceAdd, Z0, Z1, Z2, Z3, Z4, Z5, Nat.reduceLT, Z6, Z7, Int.reduceEq, Z8, Z9, Nat.reduceLeDiff, Za, Zb, Zc, Zd, Ze, Zf, bytesOf, Zg, Zh, Zi, Zj, Zk, Zl, Int.reduceLT, Int.reduceLE, Zm, Int.reduceToNat, Zn, Zo, Zp, Int.reduceAdd, Zq, Zr, h4]
  exact h5

set_option maxHeartbeats 4000000 in
theorem specTrace0 (c : CodeD) (hok : okCode c) (inp : List Int) (hil : inp.length ≤ 1048576) (room steps : Int) :
    ACall Try.prog 60 [.st (c.cells.map .p), .p (.l (ints inp)), .p (.i .i64 room), .p (.i .i64 steps)] [] (fun r H => OwnR H r 3 (evR (traceD c inp room steps))) := by
  refine call60 (by simp) ?_
  simp only [go_sem, Nat.reduceEqDiff, reduceIte, ↓reduceIte, Nat.reduceAdd, Z0, Z1, Z2, Z3, Z4, Z5, Nat.reduceLT, Z6, Z7, Int.reduceEq, Z8, Z9, Nat.reduceLeDiff, Za, Zb, Zc, Zd, Ze, Zf, bytesOf, Zg, Zh, Zi, Zj, Zk, Zl, Int.reduceLT, Int.reduceLE, Zm, Int.reduceToNat, Zn, Zo, Zp, Int.reduceAdd, Zq, Zr, mc60, mr60, CodeD.cells]
  refine (sStart hok hil room steps _).mono ?_
  rintro r H1 ⟨g0, rfl, hs0, hlo, A, hH1⟩
  have h40 : H1[0]? = some (.var [.p (.l (inss c.ins)), .p (.l (ints c.starts))]) := by rw [hH1]; rfl
  have h41 : H1[1]? = some (.rows 3 0 []) := by rw [hH1]; rfl
  have hlo1 : ∀ j, smP g0 j → 2 ≤ j := hlo
  clear hH1 hlo
  cases h1 : runOk c inp room steps
  · simp only [go_sem, Nat.reduceEqDiff, reduceIte, ↓reduceIte, Nat.reduceAdd, Z0, Z1, Z2, Z3, Z4, Z5, Nat.reduceLT, Z6, Z7, Int.reduceEq, Z8, Z9, Nat.reduceLeDiff, Za, Zb, Zc, Zd, Ze, Zf, bytesOf, Zg, Zh, Zi, Zj, Zk, Zl, Int.reduceLT, Int.reduceLE, Zm, Int.reduceToNat, Zn, Zo, Zp, Int.reduceAdd, Zq, Zr]
    refine ⟨Unit, [0, 1, 2, 3, 4, 8, 9, 10, 11], fun _ st => st = ⟨[(0, .st [.p (.l (inss c.ins)), .p (.l (ints c.starts))]), (1, .p (.l (ints inp))), (2, .p (.i .i64 room)), (3, .p (.i .i64 steps)), (4, .ptr 0 0), (8, .p .nl), (9, .gs 1 0 0 0), (10, .ptr g0.im 0), (11, .p (.b false))], [], H1⟩, fun _ => 0, ⟨(), ?_⟩, ?_⟩
    · simp only [go_sem, Nat.reduceEqDiff, reduceIte, ↓reduceIte, Nat.reduceAdd, Z0, Z1, Z2, Z3, Z4, Z5, Nat.reduceLT, Z6, Z7, Int.reduceEq, Z8, Z9, Nat.reduceLeDiff, Za, Zb, Zc, Zd, Ze, Zf, bytesOf, Zg, Zh, Zi, Zj, Zk, Zl, Int.reduceLT, Int.reduceLE, Zm, Int.reduceToNat, Zn, Zo, Zp, Int.reduceAdd, Zq, Zr]
    · rintro _ st rfl
      simp only [go_sem, Nat.reduceEqDiff, reduceIte, ↓reduceIte, Nat.reduceAdd, Z0, Z1, Z2, Z3, Z4, Z5, Nat.reduceLT, Z6, Z7, Int.reduceEq, Z8, Z9, Nat.reduceLeDiff, Za, Zb, Zc, Zd, Ze, Zf, bytesOf, Zg, Zh, Zi, Zj, Zk, Zl, Int.reduceLT, Int.reduceLE, Zm, Int.reduceToNat, Zn, Zo, Zp, Int.reduceAdd, Zq, Zr]
      rw [traceD, if_neg (by simp [h1])]
      exact .inr ⟨_, _, rfl, h41⟩
  obtain ⟨hc, h2, h3, N, rfl, hN⟩ := runOk_facts h1
  have hm0 := startD_ok (c := c) (inp := inp) h3
  have hp0 := startD_pc hc (inp := inp) (room := room)
  have ho0 : (startD inp room).out.length = 0 := rfl
  have hi0 : (startD inp room).inp.length ≤ 200 := h2
  have epr : traceD c inp room N = tellD c nextT N (startD inp room) [] := by rw [traceD, if_pos h1, Int.toNat_natCast]
  rw [epr]
  clear epr h1
  generalize startD inp room = m0 at *
  have hn1 : ¬ smP g0 1 := fun h => by have := hlo1 _ h; omega
  have hn4 : ¬ smP g0 0 := fun h => by have := hlo1 _ h; omega
  have hm12 : g0.im ≠ 1 := fun e => hn1 (.inl e.symm)
  clear hlo1
  simp only [go_sem, Nat.reduceEqDiff, reduceIte, ↓reduceIte, Nat.reduceAdd, Z0, Z1, Z2, Z3, Z4, Z5, Nat.reduceLT, Z6, Z7, Int.reduceEq, Z8, Z9, Nat.reduceLeDiff, Za, Zb, Zc, Zd, Ze, Zf, bytesOf, Zg, Zh, Zi, Zj, Zk, Zl, Int.reduceLT, Int.reduceLE, Zm, Int.reduceToNat, Zn, Zo, Zp, Int.reduceAdd, Zq, Zr]
  refine ⟨Nat × MD × SG × List EvD × AV × List AO, [0, 1, 2, 3, 4, 8, 9, 10, 11], fun x st => SM x.2.2.1 x.1 x.2.2.2.2.2 x.2.1 ∧ x.2.2.1.im = g0.im ∧ x.2.2.1.iw = g0.iw ∧ MOk c x.2.1 ∧ PcOk c x.2.1 ∧ x.2.1.out.length + x.1 ≤ 300000 ∧ x.2.1.inp.length ≤ 200 ∧ x.2.2.2.2.2[0]? = some (.var [.p (.l (inss c.ins)), .p (.l (ints c.starts))]) ∧
      OwnR x.2.2.2.2.2 x.2.2.2.2.1 3 (evR x.2.2.2.1) ∧ x.2.2.2.1.length ≤ 2000 ∧ (∀ j, gid x.2.2.2.2.1 = some j → ¬ smP x.2.2.1 j) ∧ ¬ smP x.2.2.1 0 ∧
      tellD c nextT x.1 x.2.1 x.2.2.2.1 = tellD c nextT N m0 [] ∧
      st = ⟨[(0, .st [.p (.l (inss c.ins)), .p (.l (ints c.starts))]), (1, .p (.l (ints inp))), (2, .p (.i .i64 room)), (3, .p (.i .i64 N)), (4, .ptr 0 0), (8, .p .nl), (9, x.2.2.2.2.1), (10, .ptr g0.im 0), (11, .p (.b true))], [], x.2.2.2.2.2⟩, fun x => x.1, ⟨(N, m0, g0, [], .gs 1 0 0 0, H1), ?_⟩, ?_⟩
  · simp only [go_sem, Nat.reduceEqDiff, reduceIte, ↓reduceIte, Nat.reduceAdd, Z0, Z1, Z2, Z3, Z4, Z5, Nat.reduceLT, Z6, Z7, Int.reduceEq, Z8, Z9, Nat.reduceLeDiff, Za, Zb, Zc, Zd, Ze, Zf, bytesOf, Zg, Zh, Zi, Zj, Zk, Zl, Int.reduceLT, Int.reduceLE, Zm, Int.reduceToNat, Zn, Zo, Zp, Int.reduceAdd, Zq, Zr]
    exact ⟨hs0, hm0, hp0, by omega, hi0, h40, .inr ⟨1, 0, rfl, h41⟩, by rintro j h; cases h; exact hn1, hn4⟩
  rintro ⟨n, m, g, s, b, H'⟩ st ⟨hM, him, hiw, hm, hpc, hol, hil, hb4, hro, hsl, hn1, hn2, htl, rfl⟩
  simp only at hM him hiw hm hpc hol hil hb4 hro hsl hn1 hn2 htl
  have hmv := hM.mv
  have hwv := hM.wv
  simp only [mCl] at hmv
  simp only [wCl] at hwv
  rw [him, hiw] at hmv
  rw [hiw] at hwv
  have hlen : ∀ {K : St → Prop} {st : St} {d : Go.AM.MD}, K (st.put d (.p (.i .i64 s.length))) → lenK false b d K st := by
    intro K st d k
    rw [← evR_len s] at k
    rcases hro with ⟨rfl, e⟩ | ⟨id, ver, rfl, _⟩
    · rw [e] at k; exact k
    · exact fun _ => k
  have stop : (n = 0 ∨ m.fin ≠ none ∨ ¬ s.length < 2000) → ∀ H'', (∀ j o, H'[j]? = some o → j ≠ g0.iw → H''[j]? = some o) → OwnR H'' b 3 (evR (tellD c nextT N m0 [])) := by
    intro h H'' k
    rw [← htl]
    have e : tellD c nextT n m s = s := by
      rcases h with h | h | h
      · subst h; rfl
      · cases n with
        | zero => rfl
        | succ n => simp only [tellD, h, if_false]
      · exact tellT_full _ _ _ (by omega)
    rw [e]
    refine own_keep hro fun j o hj ho => k j o ho ?_
    rintro rfl
    exact hn1 _ hj (.inr (.inl hiw.symm))
  by_cases hf : m.fin = none
  case neg =>
    have hb : m.fin.isSome = true := by cases e : m.fin with | none => exact absurd e hf | some p => rfl
    rw [hb] at hwv
    simp only [go_sem, Nat.reduceEqDiff, reduceIte, ↓reduceIte, Nat.reduceAdd, Z0, Z1, Z2, Z3, Z4, Z5, Nat.reduceLT, Z6, Z7, Int.reduceEq, Z8, Z9, Nat.reduceLeDiff, Za, Zb, Zc, Zd, Ze, Zf, bytesOf, Zg, Zh, Zi, Zj, Zk, Zl, Int.reduceLT, Int.reduceLE, Zm, Int.reduceToNat, Zn, Zo, Zp, Int.reduceAdd, Zq, Zr, hmv, hwv, Bool.not_true]
    exact stop (.inr (.inl hf)) _ fun _ _ h _ => h
  have hb : m.fin.isSome = false := by rw [hf]; rfl
  rw [hb] at hwv
  simp only [go_sem, Nat.reduceEqDiff, reduceIte, ↓reduceIte, Nat.reduceAdd, Z0, Z1, Z2, Z3, Z4, Z5, Nat.reduceLT, Z6, Z7, Int.reduceEq, Z8, Z9, Nat.reduceLeDiff, Za, Zb, Zc, Zd, Ze, Zf, bytesOf, Zg, Zh, Zi, Zj, Zk, Zl, Int.reduceLT, Int.reduceLE, Zm, Int.reduceToNat, Zn, Zo, Zp, Int.reduceAdd, Zq, Zr, hmv, hwv, Bool.not_false]
  refine hlen ?_
  by_cases hl : s.length < 2000
  case neg =>
    have d : decide ((s.length : Int) < 2000) = false := by simp; omega
    simp only [go_sem, Nat.reduceEqDiff, reduceIte, ↓reduceIte, Nat.reduceAdd, Z0, Z1, Z2, Z3, Z4, Z5, Nat.reduceLT, Z6, Z7, Int.reduceEq, Z8, Z9, Nat.reduceLeDiff, Za, Zb, Zc, Zd, Ze, Zf, bytesOf, Zg, Zh, Zi, Zj, Zk, Zl, Int.reduceLT, Int.reduceLE, Zm, Int.reduceToNat, Zn, Zo, Zp, Int.reduceAdd, Zq, Zr, d]
    exact stop (.inr (.inr hl)) _ fun _ _ h _ => h
  have d : decide ((s.length : Int) < 2000) = true := by simp; omega
  by_cases hn : n = 0
  · simp only [go_sem, Nat.reduceEqDiff, reduceIte, ↓reduceIte, Nat.reduceAdd, Z0, Z1, Z2, Z3, Z4, Z5, Nat.reduceLT, Z6, Z7, Int.reduceEq, Z8, Z9, Nat.reduceLeDiff, Za, Zb, Zc, Zd, Ze, Zf, bytesOf, Zg, Zh, Zi, Zj, Zk, Zl, Int.reduceLT, Int.reduceLE, Zm, Int.reduceToNat, Zn, Zo, Zp, Int.reduceAdd, Zq, Zr, d, hmv, hwv]
    have hsp := sSpends0 hM hf (by rw [hn]; rfl)
    rw [hiw] at hsp
    refine acall_pure hsp ?_
    simp only [go_sem, Nat.reduceEqDiff, reduceIte, ↓reduceIte, Nat.reduceAdd, Z0, Z1, Z2, Z3, Z4, Z5, Nat.reduceLT, Z6, Z7, Int.reduceEq, Z8, Z9, Nat.reduceLeDiff, Za, Zb, Zc, Zd, Ze, Zf, bytesOf, Zg, Zh, Zi, Zj, Zk, Zl, Int.reduceLT, Int.reduceLE, Zm, Int.reduceToNat, Zn, Zo, Zp, Int.reduceAdd, Zq, Zr]
    exact stop (.inl hn) _ fun j o h k => get_set h (fun e => k e.symm)
  · obtain ⟨k, rfl⟩ : ∃ k, n = k + 1 := ⟨n - 1, by omega⟩
    obtain ⟨p0, p1⟩ := hpc hf
    simp only [go_sem, Nat.reduceEqDiff, reduceIte, ↓reduceIte, Nat.reduceAdd, Z0, Z1, Z2, Z3, Z4, Z5, Nat.reduceLT, Z6, Z7, Int.reduceEq, Z8, Z9, Nat.reduceLeDiff, Za, Zb, Zc, Zd, Ze, Zf, bytesOf, Zg, Zh, Zi, Zj, Zk, Zl, Int.reduceLT, Int.reduceLE, Zm, Int.reduceToNat, Zn, Zo, Zp, Int.reduceAdd, Zq, Zr, d, hmv, hwv]
    have hsp := sSpends1 hM (f := ((k + 1 : Nat) : Int)) (by omega) (by omega)
    have ek : (((k + 1 : Nat) : Int) - 1) = (k : Int) := by omega
    rw [hiw, ek] at hsp
    refine acall_pure hsp ?_
    have hM2 : SM g k (H'.set g.iw (.var (wCl g k m))) m := hM.putW k m.fin
    rw [hiw] at hM2
    have hb42 : (H'.set g0.iw (.var (wCl g k m)))[0]? = _ := get_set hb4 (fun e => hn2 (.inr (.inl (by rw [hiw]; exact e.symm))))
    have hro2 : OwnR (H'.set g0.iw (.var (wCl g k m))) b 3 (evR s) := own_keep hro fun j o hj ho => get_set ho (by rintro rfl; exact hn1 _ hj (.inr (.inl hiw.symm)))
    generalize H'.set g0.iw (.var (wCl g k m)) = H3 at hM2 hb42 hro2 ⊢
    have hmv2 := hM2.mv
    simp only [mCl] at hmv2
    rw [him, hiw] at hmv2
    have hg : (inss c.ins)[m.pc.toNat]? = some (insAt c m.pc).cells := by rw [inss, List.getElem?_map, insAt_get p0 p1]; rfl
    have hx := hc.ins _ (insAt_mem p0 p1)
    have hle := hc.len
    have hdo := sDoes hM2 hc hm hf hx ⟨p0, by omega⟩ (by omega) (by omega)
    rw [him] at hdo
    obtain ⟨hm3, hpc3⟩ := stepD_ok hc hm p0 p1
    have hlen := stepD_out (c := c) (m := m)
    have hinl := stepD_inp (c := c) (m := m)
    have hlt0 := get_lt hb42
    next =>
      simp only [go_sem, Nat.reduceEqDiff, reduceIte, ↓reduceIte, Nat.reduceAdd, Z0, Z1, Z2, Z3, Z4, Z5, Nat.reduceLT, Z6, Z7, Int.reduceEq, Z8, Z9, Nat.reduceLeDiff, Za, Zb, Zc, Zd, Ze, Zf, bytesOf, Zg, Zh, Zi, Zj, Zk, Zl, Int.reduceLT, Int.reduceLE, Zm, Int.reduceToNat, Zn, Zo, Zp, Int.reduceAdd, Zq, Zr, hmv2]
      refine drw_same ?_
      simp only [go_sem, Nat.reduceEqDiff, reduceIte, ↓reduceIte, Nat.reduceAdd, Z0, Z1, Z2, Z3, Z4, Z5, Nat.reduceLT, Z6, Z7, Int.reduceEq, Z8, Z9, Nat.reduceLeDiff, Za, Zb, Zc, Zd, Ze, Zf, bytesOf, Zg, Zh, Zi, Zj, Zk, Zl, Int.reduceLT, Int.reduceLE, Zm, Int.reduceToNat, Zn, Zo, Zp, Int.reduceAdd, Zq, Zr, hb42, hmv2, p0, hg, ins_clen, List.length_map, ins_take]
      refine hdo.mono ?_
      rintro r H5 ⟨g', q1, q2, q3, q4⟩
      have hmv5 := q1.mv
      have hwv5 := q1.wv
      simp only [mCl] at hmv5
      simp only [wCl] at hwv5
      rw [q3, q4, hiw] at hmv5
      rw [q4, hiw] at hwv5
      have es : effD c (insAt c m.pc) { m with pc := m.pc + 1 } = stepD c m := rfl
      rw [es] at q1 hmv5 hwv5
      have eo := lenq_own q1.out
      rw [intR_len] at eo
      have hro5 : OwnR H5 b 3 (evR s) := own_keep hro2 fun j o hj ho => q2.keep _ _ ho (hn1 _ hj)
      have hb45 := q2.keep _ _ hb42 hn2
      have hbl : ∀ j, gid b = some j → j < H3.length := fun j hj => by obtain ⟨v, e⟩ := own_gid hro2 hj; exact get_lt e
      have hn15 : ∀ j, gid b = some j → ¬ smP g' j := fun j hj h => by
        rcases q2.new _ h with h | h
        · exact hn1 _ hj h
        · have := hbl _ hj; omega
      have hn25 : ¬ smP g' 0 := fun h => by rcases q2.new _ h with h | h; exact hn2 h; omega
      simp only [go_sem, Nat.reduceEqDiff, reduceIte, ↓reduceIte, Nat.reduceAdd, Z0, Z1, Z2, Z3, Z4, Z5, Nat.reduceLT, Z6, Z7, Int.reduceEq, Z8, Z9, Nat.reduceLeDiff, Za, Zb, Zc, Zd, Ze, Zf, bytesOf, Zg, Zh, Zi, Zj, Zk, Zl, Int.reduceLT, Int.reduceLE, Zm, Int.reduceToNat, Zn, Zo, Zp, Int.reduceAdd, Zq, Zr]
      refine drw_same ?_
      simp only [go_sem, Nat.reduceEqDiff, reduceIte, ↓reduceIte, Nat.reduceAdd, Z0, Z1, Z2, Z3, Z4, Z5, Nat.reduceLT, Z6, Z7, Int.reduceEq, Z8, Z9, Nat.reduceLeDiff, Za, Zb, Zc, Zd, Ze, Zf, bytesOf, Zg, Zh, Zi, Zj, Zk, Zl, Int.reduceLT, Int.reduceLE, Zm, Int.reduceToNat, Zn, Zo, Zp, Int.reduceAdd, Zq, Zr, hmv5, hwv5, eo]
      have q1x := q1.ext [AO.rows 3 0 [evC (m.pc, (stepD c m).room, (stepD c m).out.length)]]
      have hrox := OwnR.ext (A := [AO.rows 3 0 [evC (m.pc, (stepD c m).room, (stepD c m).out.length)]]) hro5
      have hb4x := get_ext hb45 [AO.rows 3 0 [evC (m.pc, (stepD c m).room, (stepD c m).out.length)]]
      have hrx : (H5 ++ [AO.rows 3 0 [evC (m.pc, (stepD c m).room, (stepD c m).out.length)]])[H5.length]? = some (.rows 3 0 [evC (m.pc, (stepD c m).room, (stepD c m).out.length)]) := get_off0 _ _
      have hlx : H5.length ≤ (H5 ++ [AO.rows 3 0 [evC (m.pc, (stepD c m).room, (stepD c m).out.length)]]).length := by simp
      simp only [evC] at q1x hrox hb4x hrx hlx
      generalize H5 ++ [AO.rows 3 0 [[.p (.i .i64 m.pc), .p (.i .i64 (stepD c m).room), .p (.i .i64 (stepD c m).out.length)]]] = H6 at q1x hrox hb4x hrx hlx ⊢
      refine ⟨by simp, ?_⟩
      refine app_fr hrox (by simp [evR]; omega) (by simp [evR]; omega) ?_
      intro id ver H7 gg hnn kk hl7
      rw [evR_snoc] at gg
      have hq7 : SM g' k H7 (stepD c m) := q1x.keep fun j o hj hp => kk j o hj fun v o' n e => hn15 j (by rw [e]; rfl) hp
      have hb47 : H7[0]? = _ := kk _ _ hb4x fun v o' n e => by
        obtain ⟨v, e2⟩ := own_gid hrox (j := 0) (by rw [e]; rfl)
        rw [hb4x] at e2; cases e2
      simp only [go_sem, Nat.reduceEqDiff, reduceIte, ↓reduceIte, Nat.reduceAdd, Z0, Z1, Z2, Z3, Z4, Z5, Nat.reduceLT, Z6, Z7, Int.reduceEq, Z8, Z9, Nat.reduceLeDiff, Za, Zb, Zc, Zd, Ze, Zf, bytesOf, Zg, Zh, Zi, Zj, Zk, Zl, Int.reduceLT, Int.reduceLE, Zm, Int.reduceToNat, Zn, Zo, Zp, Int.reduceAdd, Zq, Zr]
      refine ⟨(k, stepD c m, g', s ++ [(m.pc, (stepD c m).room, ((stepD c m).out.length : Int))], .gs id ver 0 ((evR s).length + 1), H7), ⟨hq7, q3, by rw [q4, hiw], hm3, hpc3, by simp only; omega, by simp only; omega, hb47, .inr ⟨id, ver, by simp [evR], gg⟩, by simp; omega, ?_, hn25, ?_, rfl⟩, by simp⟩
      · intro j hj hp
        cases hj
        rcases hnn with ⟨v, o, n, e⟩ | h'
        · exact hn15 _ (by rw [e]; rfl) hp
        · have h2 : id < H6.length := by
            rcases hp with e | e | e | e | e | e
            · rw [e]; exact get_lt q1x.mv
            · rw [e]; exact get_lt q1x.wv
            · simp only [SG.ids, List.mem_cons] at e
              rcases e with e | e | e
              · rw [e]; exact get_lt q1x.rg
              · rw [e]; exact get_lt q1x.sl
              · obtain ⟨i, hi⟩ := List.getElem?_of_mem e; exact get_lt (q1x.rc i _ hi)
            · obtain ⟨v, e⟩ := own_gid q1x.hpo e; exact get_lt e
            · obtain ⟨v, e⟩ := own_gid q1x.out e; exact get_lt e
            · obtain ⟨ii, ver, off, all, e1, e2, e3⟩ := q1x.inp
              rw [e1] at e; cases e; exact get_lt e2
          omega
      · simp only
        rw [← htl]
        simp only [tellD, hf, if_true]
        unfold nextT
        rw [if_pos hl]
end Go.Proofs.Ytmbggdfceecojaa.Cd

/- Step1: the law. -/
set_option linter.all false
namespace Go.Proofs.Ytmbggdfceecojaa.Cd
open Go.AM Mc Ho

theorem eqIntS_any (xs ys : List Int) (hx : xs.length ≤ maxL) (hy : ys.length ≤ maxL) {H : List AO} {a b : AV} (ha : Lent H a (.p (.l (ints xs)))) (hb : Lent H b (.p (.l (ints ys)))) :
    ACall Try.prog 18 [a, b] H (pureQ (.p (.b (decide (xs = ys)))) H) :=
  (acall_lend (eqIntS xs ys hx hy) (fun r H' h => by subst h; exact grnd_b _) (lentAll_cons ha (lentAll_cons hb (lentAll_nil _)))).mono fun r H' ⟨h1, _, h2⟩ => ⟨h2, h1⟩
theorem toIntS' (zs : List Int) (hz : zs.length ≤ 1048576) (H : List AO) : ACall Try.prog 16 [.p (.l (ints zs))] H (pureQ (.gs H.length 0 0 zs.length) (H ++ [.rows 1 0 (intR .i64 zs)])) := toIntS zs hz H
theorem toCode' (c : CodeD) (hc : okCode c) (hs : small c) (H : List AO) : ACall Try.prog 21 [.st (c.cells.map .p)] H (pureQ (.st [.gs H.length 0 0 c.ins.length, .gs (H.length + 1) 0 0 c.starts.length]) (H ++ [.rows 6 0 (insR c.ins), .rows 1 0 (intR .i64 c.starts)])) := toCode c hc hs H
theorem lent_ints' (zs : List Int) {H : List AO} {id : Nat} (hid : H[id]? = some (.rows 1 0 (intR .i64 zs))) : Lent H (.gs id 0 0 zs.length) (.p (.l (ints zs))) := lent_ints zs hid
theorem lent_code' (c : CodeD) {H : List AO} {i j : Nat} (h0 : H[i]? = some (.rows 6 0 (insR c.ins))) (h1 : H[j]? = some (.rows 1 0 (intR .i64 c.starts))) (e : j = i + 1) : Lent H (.st [.gs i 0 0 c.ins.length, .gs j 0 0 c.starts.length]) (.st (c.cells.map .p)) := by subst e; exact lent_code c h0 h1

end Go.Proofs.Ytmbggdfceecojaa.Cd

/- Trim: by the reference. -/
set_option linter.all false
namespace Go.Proofs.Ytmbggdfceecojaa.Cd
open Go.AM Mc Ho

def posL (B : List Bool) (i : Nat) : List Int := (List.range i).map fun j => ((pos B j : Nat) : Int)
/-- what stands while the new code is made -/
structure TB (c : CodeD) (B : List Bool) (sid sver tid tver P : Nat) (H : List AO) : Prop where
  v0 : H[0]? = some (.var [.p (.l (inss c.ins)), .p (.l (ints c.starts))])
  v1 : H[1]? = some (.var [.p .nl, .p .nl])
  sn : H[sid]? = some (.rows 1 sver (boolR B))
  to : H[tid]? = some (.rows 1 tver (intR .i64 (posL B c.ins.length)))
  l1 : 1 < P
  ls : sid < P
  lt : tid < P
  le : P < H.length
theorem TB.sk {c B sid sver tid tver P} {H H' : List AO} (h : TB c B sid sver tid tver P H) (k : SK P (fun _ => False) H H') : TB c B sid sver tid tver P H' where
  v0 := k.1 _ _ h.v0 (fun f => f)
  v1 := k.1 _ _ h.v1 (fun f => f)
  sn := by rw [k.2.1 _ h.ls (fun f => f)]; exact h.sn
  to := by rw [k.2.1 _ h.lt (fun f => f)]; exact h.to
  l1 := h.l1
  ls := h.ls
  lt := h.lt
  le := Nat.lt_of_lt_of_le h.le k.2.2
theorem TB.ext {c B sid sver tid tver P} {H : List AO} (h : TB c B sid sver tid tver P H) (A : List AO) : TB c B sid sver tid tver P (H ++ A) := h.sk (SK.app (Nat.le_of_lt h.le))
theorem TB.set {c B sid sver tid tver P} {H : List AO} (h : TB c B sid sver tid tver P H) {j : Nat} (o : AO) (hj : P ≤ j) : TB c B sid sver tid tver P (H.set j o) where
  v0 := get_set h.v0 (by have := h.l1; omega)
  v1 := get_set h.v1 (by have := h.l1; omega)
  sn := get_set h.sn (by have := h.ls; omega)
  to := get_set h.to (by have := h.lt; omega)
  l1 := h.l1
  ls := h.ls
  lt := h.lt
  le := by simpa using h.le
theorem _root_.Go.AM.OwnAt.put {H : List AO} {a : AV} {sz : Nat} {rs : List (List AV)} {lo hi j : Nat} {cs : List AV} (h : OwnAt H a sz rs lo hi) (hj : H[j]? = some (.var cs)) (o : AO) : OwnAt (H.set j o) a sz rs lo hi := by
  rcases h with h | ⟨id, ver, h0, h1, h2, h3⟩
  · exact .inl h
  · exact .inr ⟨id, ver, h0, h1, h2, get_set h3 (by rintro rfl; rw [hj] at h3; cases h3)⟩
end Go.Proofs.Ytmbggdfceecojaa.Cd

/- Trim: by the program. -/
set_option linter.all false
namespace Go.Proofs.Ytmbggdfceecojaa.Cd
open Go.AM Mc Ho

/-- what stands while the new code is made -/
structure TI (c : CodeD) (B : List Bool) (sid sver tid P : Nat) (pl : List (List AV)) (H : List AO) : Prop where
  v0 : H[0]? = some (.var [.p (.l (inss c.ins)), .p (.l (ints c.starts))])
  v1 : H[1]? = some (.var [.p .nl, .p .nl])
  sn : H[sid]? = some (.rows 1 sver (boolR B))
  to : H[tid]? = some (.rows 1 0 pl)
  l1 : 1 < P
  ls : sid < tid
  lt : tid < P
  le : P < H.length
theorem TI.sk {c B sid sver tid P pl} {H H' : List AO} (h : TI c B sid sver tid P pl H) (k : SK P (fun _ => False) H H') : TI c B sid sver tid P pl H' where
  v0 := k.1 _ _ h.v0 (fun f => f)
  v1 := k.1 _ _ h.v1 (fun f => f)
  sn := by rw [k.2.1 _ (Nat.lt_trans h.ls h.lt) (fun f => f)]; exact h.sn
  to := by rw [k.2.1 _ h.lt (fun f => f)]; exact h.to
  l1 := h.l1
  ls := h.ls
  lt := h.lt
  le := Nat.lt_of_lt_of_le h.le k.2.2
theorem TI.ext {c B sid sver tid P pl} {H : List AO} (h : TI c B sid sver tid P pl H) (A : List AO) : TI c B sid sver tid P pl (H ++ A) := h.sk (SK.app (Nat.le_of_lt h.le))
theorem TI.set {c B sid sver tid P pl} {H : List AO} (h : TI c B sid sver tid P pl H) {j : Nat} (o : AO) (hj : P ≤ j) : TI c B sid sver tid P pl (H.set j o) where
  v0 := get_set h.v0 (by have := h.l1; omega)
  v1 := get_set h.v1 (by have := h.l1; omega)
  sn := get_set h.sn (by have := h.ls; have := h.lt; omega)
  to := get_set h.to (by have := h.lt; omega)
  l1 := h.l1
  ls := h.ls
  lt := h.lt
  le := by simpa using h.le
theorem TI.put {c B sid sver tid P pl} {H : List AO} (h : TI c B sid sver tid P pl H) (pl' : List (List AV)) (ht : 1 < tid) : TI c B sid sver tid P pl' (H.set tid (.rows 1 0 pl')) where
  v0 := get_set h.v0 (by omega)
  v1 := get_set h.v1 (by omega)
  sn := get_set h.sn (by have := h.ls; omega)
  to := set_get h.to
  l1 := h.l1
  ls := h.ls
  lt := h.lt
  le := by simpa using h.le
end Go.Proofs.Ytmbggdfceecojaa.Cd

/- Trim: the law. -/
set_option linter.all false
namespace Go.Proofs.Ytmbggdfceecojaa.Cd
open Go.AM Mc Ho

theorem OwnCAt.keep {H H' : List AO} {r : AV} {t : CodeD} {lo hi : Nat} (h : OwnCAt H r t lo hi) (k : ∀ (j : Nat) o, H[j]? = some o → lo ≤ j → j < hi → H'[j]? = some o) : OwnCAt H' r t lo hi := by
  obtain ⟨a, b, rfl, ha, hb⟩ := h
  refine ⟨a, b, rfl, ?_, ?_⟩
  · rcases ha with h | ⟨id, ver, h0, h1, h2, h3⟩
    · exact .inl h
    · exact .inr ⟨id, ver, h0, h1, h2, k _ _ h3 h0 h1⟩
  · rcases hb with h | ⟨id, ver, h0, h1, h2, h3⟩
    · exact .inl h
    · exact .inr ⟨id, ver, h0, h1, h2, k _ _ h3 h0 h1⟩
theorem OwnCAt.ext {H : List AO} {r : AV} {t : CodeD} {lo hi : Nat} (h : OwnCAt H r t lo hi) (A : List AO) : OwnCAt (H ++ A) r t lo hi := h.keep fun j o hj _ _ => get_ext hj A
theorem PatAt.ext {H : List AO} {r : AV} {m n : Nat} {lo hi : Nat} (h : PatAt H r m n lo hi) (A : List AO) : PatAt (H ++ A) r m n lo hi := by
  obtain ⟨a, b, rfl, ha, hb⟩ := h
  exact ⟨a, b, rfl, ha.ext A, hb.ext A⟩
/-- what the law keeps: the argument, the reference's answer -/
structure LS (c t : CodeD) (wa wb : AV) (iw : Nat) (H : List AO) : Prop where
  v : H[0]? = some (.var (c.cells.map .p))
  wv : H[iw]? = some (.var [wa, wb])
  w : OwnCAt H (.st [wa, wb]) t 1 iw
theorem LS.keep {c t : CodeD} {wa wb : AV} {iw : Nat} {H H' : List AO} (h : LS c t wa wb iw H) (k : ∀ (j : Nat) o, H[j]? = some o → j ≤ iw → H'[j]? = some o) : LS c t wa wb iw H' :=
  ⟨k _ _ h.v (Nat.zero_le _), k _ _ h.wv (Nat.le_refl _), h.w.keep fun j o hj _ h1 => k j o hj (Nat.le_of_lt h1)⟩
theorem LS.ext {c t : CodeD} {wa wb : AV} {iw : Nat} {H : List AO} (h : LS c t wa wb iw H) (A : List AO) : LS c t wa wb iw (H ++ A) := h.keep fun j o hj _ => get_ext hj A

end Go.Proofs.Ytmbggdfceecojaa.Cd

/- Profile: the law. -/
set_option linter.all false
namespace Go.Proofs.Ytmbggdfceecojaa.Cd
open Go.AM Mc Ho

end Go.Proofs.Ytmbggdfceecojaa.Cd

/- Events: alike, marks. -/
set_option linter.all false
namespace Go.Proofs.Ytmbggdfceecojaa.Cd
open Go.AM Mc Ho

def evP (e : EvD) : List PV := [.i .i64 e.1, .i .i64 e.2.1, .i .i64 e.2.2]
def evs (l : List EvD) : List (List PV) := l.map evP
theorem evs_len (l) : (evs l).length = l.length := by simp [evs]
theorem evs_at (l : List EvD) {i : Nat} (h : i < l.length) : (evs l)[i]? = some (evP l[i]) := by simp [evs, h]
theorem ev_take (x : EvD) : takeN 3 ((evP x).map .p) = some ((evP x).map .p) := rfl
theorem ev_clen (x : EvD) : (evP x).length = 3 := rfl
theorem ev_lent {H : List AO} (x : EvD) : Lent H (.st ((evP x).map .p)) (.st ((evP x).map .p)) :=
  .st _ _ rfl fun j a b ha hb => by
    rw [ha] at hb; cases hb
    rw [List.getElem?_map] at ha
    cases hq : (evP x)[j]? with
    | none => rw [hq] at ha; cases ha
    | some q => rw [hq] at ha; cases ha; exact .pure _

theorem eqEv (x y : EvD) : ACall Try.prog 120 [.st ((evP x).map .p), .st ((evP y).map .p)] [] (fun r H => r = .p (.b (decide (x = y)))) := by
  obtain ⟨a, b, c⟩ := x
  obtain ⟨a', b', c'⟩ := y
  refine call120 (by simp) ?_
  simp only [go_sem, Nat.reduceEqDiff, reduceIte, ↓reduceIte, Nat.reduceAdd, Z0, Z1, Z2, Z3, Z4, Z5, Nat.reduceLT, Z6, Z7, Int.reduceEq, Z8, Z9, Nat.reduceLeDiff, Za, Zb, Zc, Zd, Ze, Zf, bytesOf, Zg, Zh, Zi, Zj, Zk, Zl, Int.reduceLT, Int.reduceLE, Zm, Int.reduceToNat, Zn, Zo, Zp, Int.reduceAdd, Zq, Zr, mc120, mr120, evP]
  by_cases h1 : a = a'
  case neg =>
    have d : decide (a = a') = false := by simp [h1]
    simp only [go_sem, Nat.reduceEqDiff, reduceIte, ↓reduceIte, Nat.reduceAdd, Z0, Z1, Z2, Z3, Z4, Z5, Nat.reduceLT, Z6, Z7, Int.reduceEq, Z8, Z9, Nat.reduceLeDiff, Za, Zb, Zc, Zd, Ze, Zf, bytesOf, Zg, Zh, Zi, Zj, Zk, Zl, Int.reduceLT, Int.reduceLE, Zm, Int.reduceToNat, Zn, Zo, Zp, Int.reduceAdd, Zq, Zr, d, Bool.not_false]
    simp [h1]
  subst h1
  have d : decide (a = a) = true := by simp
  simp only [go_sem, Nat.reduceEqDiff, reduceIte, ↓reduceIte, Nat.reduceAdd, Z0, Z1, Z2, Z3, Z4, Z5, Nat.reduceLT, Z6, Z7, Int.reduceEq, Z8, Z9, Nat.reduceLeDiff, Za, Zb, Zc, Zd, Ze, Zf, bytesOf, Zg, Zh, Zi, Zj, Zk, Zl, Int.reduceLT, Int.reduceLE, Zm, Int.reduceToNat, Zn, Zo, Zp, Int.reduceAdd, Zq, Zr, d, Bool.not_true]
  by_cases h2 : b = b'
  case neg =>
    have d : decide (b = b') = false := by simp [h2]
    simp only [go_sem, Nat.reduceEqDiff, reduceIte, ↓reduceIte, Nat.reduceAdd, Z0, Z1, Z2, Z3, Z4, Z5, Nat.reduceLT, Z6, Z7, Int.reduceEq, Z8, Z9, Nat.reduceLeDiff, Za, Zb, Zc, Zd, Ze, Zf, bytesOf, Zg, Zh, Zi, Zj, Zk, Zl, Int.reduceLT, Int.reduceLE, Zm, Int.reduceToNat, Zn, Zo, Zp, Int.reduceAdd, Zq, Zr, d, Bool.not_false]
    simp [h2]
  subst h2
  have d : decide (b = b) = true := by simp
  simp only [go_sem, Nat.reduceEqDiff, reduceIte, ↓reduceIte, Nat.reduceAdd, Z0, Z1, Z2, Z3, Z4, Z5, Nat.reduceLT, Z6, Z7, Int.reduceEq, Z8, Z9, Nat.reduceLeDiff, Za, Zb, Zc, Zd, Ze, Zf, bytesOf, Zg, Zh, Zi, Zj, Zk, Zl, Int.reduceLT, Int.reduceLE, Zm, Int.reduceToNat, Zn, Zo, Zp, Int.reduceAdd, Zq, Zr, d, Bool.not_true]
  by_cases h3 : c = c'
  · have d : decide (c = c') = true := by simp [h3]
    simp only [go_sem, Nat.reduceEqDiff, reduceIte, ↓reduceIte, Nat.reduceAdd, Z0, Z1, Z2, Z3, Z4, Z5, Nat.reduceLT, Z6, Z7, Int.reduceEq, Z8, Z9, Nat.reduceLeDiff, Za, Zb, Zc, Zd, Ze, Zf, bytesOf, Zg, Zh, Zi, Zj, Zk, Zl, Int.reduceLT, Int.reduceLE, Zm, Int.reduceToNat, Zn, Zo, Zp, Int.reduceAdd, Zq, Zr, d, Bool.not_true]
    simp [h3]
  · have d : decide (c = c') = false := by simp [h3]
    simp only [go_sem, Nat.reduceEqDiff, reduceIte, ↓reduceIte, Nat.reduceAdd, Z0, Z1, Z2, Z3, Z4, Z5, Nat.reduceLT, Z6, Z7, Int.reduceEq, Z8, Z9, Nat.reduceLeDiff, Za, Zb, Zc, Zd, Ze, Zf, bytesOf, Zg, Zh, Zi, Zj, Zk, Zl, Int.reduceLT, Int.reduceLE, Zm, Int.reduceToNat, Zn, Zo, Zp, Int.reduceAdd, Zq, Zr, d, Bool.not_false]
    simp [h3]

theorem eqEvS0 (xs ys : List EvD) (hx : xs.length ≤ maxL) (hy : ys.length ≤ maxL) : ACall Try.prog 59 [.p (.l (evs xs)), .p (.l (evs ys))] [] (fun r H => r = .p (.b (decide (xs = ys)))) := by
  refine call59 (by simp) ?_
  simp only [go_sem, Nat.reduceEqDiff, reduceIte, ↓reduceIte, Nat.reduceAdd, mc59, mr59, evs_len]
  intro _ _
  refine condK_split _ (fun hc => ?_) (fun hc => ?_)
  · simp only [go_sem, Nat.reduceEqDiff, reduceIte, ↓reduceIte, Nat.reduceAdd]
    have : xs ≠ ys := by rintro rfl; simp at hc
    simp [this]
  · have hl : xs.length = ys.length := by simp at hc; omega
    simp only [go_sem, Nat.reduceEqDiff, reduceIte, ↓reduceIte, Nat.reduceAdd]
    refine ⟨Nat, [0, 1, 4, 5], fun i st => i ≤ xs.length ∧ xs.take i = ys.take i ∧ st = ⟨[(0, .p (.l (evs xs))), (1, .p (.l (evs ys))), (4, .p (.b false)), (5, .p (.i .i64 i))], [], []⟩, fun i => xs.length - i, ⟨0, ?_⟩, ?_⟩
    · simp only [go_sem, Nat.reduceEqDiff, reduceIte, ↓reduceIte, Nat.reduceAdd]
      exact ⟨Nat.zero_le _, rfl, rfl⟩
    · rintro i st ⟨hi, ht, rfl⟩
      simp only [go_sem, Nat.reduceEqDiff, reduceIte, ↓reduceIte, Nat.reduceAdd, evs_len]
      intro _
      refine condK_split _ (fun hc => ?_) (fun hc => ?_)
      · have hil : i < xs.length := by simpa using hc
        have hiy : i < ys.length := by omega
        simp only [go_sem, Nat.reduceEqDiff, reduceIte, ↓reduceIte, Nat.reduceAdd]
        (refine drw_same ?_; simp only [go_sem, Nat.reduceEqDiff, reduceIte, ↓reduceIte, Nat.reduceAdd, evs_at _ hil, evs_at _ hiy, ev_clen, ev_take])
        refine (acall_lend (eqEv xs[i] ys[i]) (fun r H' h => by subst h; exact grnd_b _) (lentAll_cons (ev_lent _) (lentAll_cons (ev_lent _) (lentAll_nil _)))).mono ?_
        rintro r H' ⟨rfl, _, rfl⟩
        simp only [go_sem, Nat.reduceEqDiff, reduceIte, ↓reduceIte, Nat.reduceAdd]
        refine condK_split _ (fun hd => ?_) (fun hd => ?_)
        · simp only [go_sem, Nat.reduceEqDiff, reduceIte, ↓reduceIte, Nat.reduceAdd]
          have : xs ≠ ys := by rintro rfl; simp at hd
          simp [this]
        · simp only [go_sem, Nat.reduceEqDiff, reduceIte, ↓reduceIte, Nat.reduceAdd]
          have he : xs[i] = ys[i] := by simpa using hd
          refine ⟨i + 1, ⟨hil, ?_, ?_⟩, by omega⟩
          · rw [List.take_succ, List.take_succ, ht, List.getElem?_eq_getElem hil, List.getElem?_eq_getElem hiy, he]
          · rw [wr1 hil hx]
      · have hil : i = xs.length := by simp at hc; omega
        simp only [go_sem, Nat.reduceEqDiff, reduceIte, ↓reduceIte, Nat.reduceAdd]
        subst hil
        have : xs = ys := by
          rw [List.take_length, hl, List.take_length] at ht
          exact ht
        simp [this]
theorem eqEvS_any (xs ys : List EvD) (hx : xs.length ≤ maxL) (hy : ys.length ≤ maxL) {H : List AO} {a b : AV} (ha : Lent H a (.p (.l (evs xs)))) (hb : Lent H b (.p (.l (evs ys)))) :
    ACall Try.prog 59 [a, b] H (pureQ (.p (.b (decide (xs = ys)))) H) :=
  (acall_lend (eqEvS0 xs ys hx hy) (fun r H' h => by subst h; exact grnd_b _) (lentAll_cons ha (lentAll_cons hb (lentAll_nil _)))).mono fun r H' ⟨h1, _, h2⟩ => ⟨h2, h1⟩
theorem ownE_lent {H : List AO} {a : AV} {l : List EvD} (h : OwnR H a 3 (evR l)) : Lent H a (.p (.l (evs l))) := by
  rcases h with ⟨rfl, h⟩ | ⟨id, ver, rfl, h⟩
  · have : l = [] := by simpa [evR] using h
    subst this
    exact .nl
  · rw [evR_len]
    refine .gs id ver 0 _ 3 _ (evs l) h (by simp [evR]) (evs_len l) (fun y hy => by obtain ⟨z, _, rfl⟩ := List.mem_map.1 hy; rfl) ?_
    intro i r y j c q hr hy hc hq
    rw [Nat.zero_add, evR, List.getElem?_map] at hr
    rw [evs, List.getElem?_map] at hy
    cases hz : l[i]? with
    | none => rw [hz] at hr; cases hr
    | some z =>
      rw [hz] at hr hy
      cases hr; cases hy
      match j with
      | 0 => cases hc; cases hq; exact .pure _
      | 1 => cases hc; cases hq; exact .pure _
      | 2 => cases hc; cases hq; exact .pure _
      | j + 3 => simp [evC] at hc
theorem grnd_evR (l : List EvD) : ∀ r ∈ evR l, ∀ c ∈ r, Grnd c := by
  intro r hr c hc
  obtain ⟨x, _, rfl⟩ := List.mem_map.1 hr
  simp only [evC, List.mem_cons, List.not_mem_nil, or_false] at hc
  rcases hc with rfl | rfl | rfl <;> exact grnd_i _ _
end Go.Proofs.Ytmbggdfceecojaa.Cd

/- Trace: the law. -/
set_option linter.all false
namespace Go.Proofs.Ytmbggdfceecojaa.Cd
open Go.AM Mc Ho

theorem specTrace (c : CodeD) (hok : okCode c) (inp : List Int) (hil : inp.length ≤ 1048576) (room steps : Int) {H : List AO} {a b : AV} (ha : Lent H a (.st (c.cells.map .p))) (hb : Lent H b (.p (.l (ints inp)))) :
    ACall Try.prog 60 [a, b, .p (.i .i64 room), .p (.i .i64 steps)] H (fun r H' => ∃ A, H' = H ++ A ∧ OwnAt H' r 3 (evR (traceD c inp room steps)) H.length H'.length) :=
  acall_ownAt (specTrace0 c hok inp hil room steps) (step_args ha hb) (grnd_evR _)
theorem implTrace (c : CodeD) (hok : okCode c) (inp : List Int) (hil : inp.length ≤ 1048576) (room steps : Int) {H : List AO} {a b : AV} (ha : Lent H a (.st (c.cells.map .p))) (hb : Lent H b (.p (.l (ints inp)))) :
    ACall Try.prog 61 [a, b, .p (.i .i64 room), .p (.i .i64 steps)] H (fun r H' => ∃ A, H' = H ++ A ∧ OwnAt H' r 3 (evR (traceD c inp room steps)) H.length H'.length) :=
  acall_ownAt (implTrace0 c hok inp hil room steps) (step_args ha hb) (grnd_evR _)

end Go.Proofs.Ytmbggdfceecojaa.Cd

/- THE SMALL CODES of functions 12 55 56 57 58 118 119, and their ties to the program (printed by wip/tools/mkties2.py). -/
set_option linter.all false
namespace Go.Proofs.Ytmbggdfceecojaa.Mc
open Go.AM
/- laws.FnExactTraceOk -/
def lv12 : List Nat := [0, 1, 2, 3, 4, 8, 9, 10, 11, 12, 13, 14, 17, 22, 27, 49, 54, 59, 64]
def mc12 : MC :=
.seq (.reg [
 ⟨.l 4, .box 2 (.l 0), none⟩,
 ⟨.l 8, .mv (.c (.p (.b false))), none⟩]) (
 .seq (.seq (.reg [
 ⟨.t 15, .mv (.l 1), none⟩,
 ⟨.t 16, .len false (.t 15), none⟩,
 ⟨.l 17, .bin .gtr (.t 16) (.c (.p (.i .i64 1048576))), none⟩]) (
 .cond (.l 17) (
 .seq (.reg [
 ⟨.l 8, .mv (.c (.p (.b true))), none⟩]) (
 .ret)) (
 .skip))) (
 .seq (.reg [
 ⟨.l 9, .mv (.c (.p (.i .i64 1048576))), none⟩]) (
 .seq (.reg [
 ⟨.t 18, .ld true 2 (.l 4), none⟩,
 ⟨.t 19, .mv (.l 9), none⟩,
 ⟨.t 20, .call 19 [.t 18, .t 19], none⟩,
 ⟨.l 9, .mv (.t 20), none⟩]) (
 .seq (.seq (.reg [
 ⟨.t 21, .mv (.l 9), none⟩,
 ⟨.l 22, .bin .lss (.t 21) (.c (.p (.i .i64 0))), none⟩]) (
 .cond (.l 22) (
 .seq (.reg [
 ⟨.l 8, .mv (.c (.p (.b true))), none⟩]) (
 .ret)) (
 .skip))) (
 .seq (.reg [
 ⟨.t 23, .mv (.l 3), none⟩,
 ⟨.t 24, .mv (.l 9), none⟩,
 ⟨.t 25, .call 55 [.t 23, .t 24], none⟩,
 ⟨.l 9, .mv (.t 25), none⟩]) (
 .seq (.seq (.reg [
 ⟨.t 26, .mv (.l 9), none⟩,
 ⟨.l 27, .bin .lss (.t 26) (.c (.p (.i .i64 0))), none⟩]) (
 .cond (.l 27) (
 .seq (.reg [
 ⟨.l 8, .mv (.c (.p (.b true))), none⟩]) (
 .ret)) (
 .skip))) (
 .seq (.reg [
 ⟨.t 28, .ld true 2 (.l 4), none⟩,
 ⟨.t 29, .call 21 [.t 28], none⟩,
 ⟨.t 30, .mv (.l 1), none⟩,
 ⟨.t 31, .call 16 [.t 30], none⟩,
 ⟨.t 32, .mv (.l 2), none⟩,
 ⟨.t 33, .mv (.l 3), none⟩,
 ⟨.t 34, .call 57 [.t 33], none⟩,
 ⟨.t 35, .call 56 [.t 29, .t 31, .t 32, .t 34], none⟩,
 ⟨.l 10, .mv (.t 35), none⟩]) (
 .seq (.reg [
 ⟨.t 36, .ld true 2 (.l 4), none⟩,
 ⟨.t 37, .call 21 [.t 36], none⟩,
 ⟨.l 11, .alloc [.p (.nl), .p (.nl)], none⟩,
 ⟨.no, .sto 2 (.l 11) (.t 37), none⟩]) (
 .seq (.reg [
 ⟨.t 38, .mv (.l 1), none⟩,
 ⟨.t 39, .call 16 [.t 38], none⟩,
 ⟨.l 12, .mv (.t 39), none⟩]) (
 .seq (.reg [
 ⟨.t 40, .mv (.l 3), none⟩,
 ⟨.t 41, .call 57 [.t 40], none⟩,
 ⟨.l 13, .mv (.t 41), none⟩]) (
 .seq (.reg [
 ⟨.t 42, .ld true 2 (.l 11), none⟩,
 ⟨.t 43, .mv (.l 12), none⟩,
 ⟨.t 44, .mv (.l 2), none⟩,
 ⟨.t 45, .mv (.l 13), none⟩,
 ⟨.t 46, .call 58 [.t 42, .t 43, .t 44, .t 45], none⟩,
 ⟨.l 14, .mv (.t 46), none⟩]) (
 .seq (.seq (.reg [
 ⟨.t 47, .mv (.l 14), none⟩,
 ⟨.t 48, .mv (.l 10), none⟩,
 ⟨.l 49, .beq true (.t 47) (.t 48), none⟩]) (
 .cond (.l 49) (
 .seq (.reg [
 ⟨.l 8, .mv (.c (.p (.b false))), none⟩]) (
 .ret)) (
 .skip))) (
 .seq (.seq (.drw [
 ⟨.t 50, .ld true 2 (.l 11), none⟩,
 ⟨.t 51, .ld true 2 (.l 4), none⟩,
 ⟨.t 52, .call 21 [.t 51], none⟩] [
 ⟨.t 53, .call 24 [.t 50, .t 52], none⟩,
 ⟨.l 54, .un .not (.t 53), none⟩]) (
 .cond (.l 54) (
 .seq (.reg [
 ⟨.l 8, .mv (.c (.p (.b false))), none⟩]) (
 .ret)) (
 .skip))) (
 .seq (.seq (.reg [
 ⟨.t 55, .mv (.l 12), none⟩,
 ⟨.t 56, .mv (.l 1), none⟩,
 ⟨.t 57, .call 16 [.t 56], none⟩,
 ⟨.t 58, .call 18 [.t 55, .t 57], none⟩,
 ⟨.l 59, .un .not (.t 58), none⟩]) (
 .cond (.l 59) (
 .seq (.reg [
 ⟨.l 8, .mv (.c (.p (.b false))), none⟩]) (
 .ret)) (
 .skip))) (
 .seq (.seq (.reg [
 ⟨.t 60, .mv (.l 13), none⟩,
 ⟨.t 61, .mv (.l 3), none⟩,
 ⟨.t 62, .call 57 [.t 61], none⟩,
 ⟨.t 63, .call 59 [.t 60, .t 62], none⟩,
 ⟨.l 64, .un .not (.t 63), none⟩]) (
 .cond (.l 64) (
 .seq (.reg [
 ⟨.l 8, .mv (.c (.p (.b false))), none⟩]) (
 .ret)) (
 .skip))) (
 .seq (.reg [
 ⟨.l 8, .mv (.c (.p (.b true))), none⟩]) (
 .ret)))))))))))))))))
theorem mc12_eq : (Try.f12.body.map (compile lv12 Try.prog 65)) = some mc12 := by kernel_rfl
def mr12 : List MR := [.t 8]
theorem mr12_eq : cRess lv12 Try.prog Try.f12.results.toList = some mr12 := by kernel_rfl
theorem call12 {args : List AV} {H : List AO} {Q : AV → List AO → Prop} (hla : args.length ≤ 65) (h : wpm (ACall Try.prog) mc12 (finK mr12 Q) ⟨argEnv 0 args, [], H⟩) : ACall Try.prog 12 args H Q :=
  acall_mc (by kernel_rfl) Try.func12 mc12_eq Try.ntmps12 (by kernel_rfl) mr12_eq hla h
/- laws.szEventS -/
def lv55 : List Nat := [0, 1, 4, 10]
def mc55 : MC :=
.seq (.reg [
 ⟨.l 4, .mv (.c (.p (.i .i64 0))), none⟩]) (
 .seq (.reg [
 ⟨.t 5, .mv (.l 1), none⟩,
 ⟨.t 6, .mv (.l 0), none⟩,
 ⟨.t 7, .len false (.t 6), none⟩,
 ⟨.t 8, .bin .sub (.t 5) (.t 7), none⟩,
 ⟨.l 1, .mv (.t 8), none⟩]) (
 .seq (.seq (.reg [
 ⟨.t 9, .mv (.l 1), none⟩,
 ⟨.l 10, .bin .lss (.t 9) (.c (.p (.i .i64 0))), none⟩]) (
 .cond (.l 10) (
 .seq (.reg [
 ⟨.l 4, .mv (.c (.p (.i .i64 (-1)))), none⟩]) (
 .ret)) (
 .skip))) (
 .seq (.reg [
 ⟨.t 11, .mv (.l 1), none⟩,
 ⟨.l 4, .mv (.t 11), none⟩]) (
 .ret))))
theorem mc55_eq : (Try.f55.body.map (compile lv55 Try.prog 12)) = some mc55 := by kernel_rfl
def mr55 : List MR := [.t 4]
theorem mr55_eq : cRess lv55 Try.prog Try.f55.results.toList = some mr55 := by kernel_rfl
theorem call55 {args : List AV} {H : List AO} {Q : AV → List AO → Prop} (hla : args.length ≤ 12) (h : wpm (ACall Try.prog) mc55 (finK mr55 Q) ⟨argEnv 0 args, [], H⟩) : ACall Try.prog 55 args H Q :=
  acall_mc (by kernel_rfl) Try.func55 mc55_eq Try.ntmps55 (by kernel_rfl) mr55_eq hla h
/- spec.TraceOk -/
def lv56 : List Nat := [0, 1, 2, 3, 4, 8, 10, 11, 12, 26, 37, 41, 52]
def mc56 : MC :=
.seq (.reg [
 ⟨.l 4, .box 2 (.l 0), none⟩,
 ⟨.l 8, .mv (.c (.p (.b false))), none⟩]) (
 .seq (.seq (.reg [
 ⟨.t 14, .ld true 2 (.l 4), none⟩,
 ⟨.t 15, .mv (.l 1), none⟩,
 ⟨.t 16, .mv (.l 2), none⟩,
 ⟨.t 17, .call 113 [.t 14, .t 15, .t 16, .c (.p (.i .i64 0))], none⟩,
 ⟨.t 13, .mv (.t 17), none⟩,
 ⟨.t 18, .ext (.t 13) 0, none⟩,
 ⟨.t 19, .ext (.t 13) 1, none⟩,
 ⟨.t 9, .mv (.t 18), none⟩,
 ⟨.l 10, .mv (.t 19), none⟩]) (
 .seq (.reg [
 ⟨.t 20, .mv (.l 10), none⟩,
 ⟨.t 21, .un .not (.t 20), none⟩,
 ⟨.t 22, .mv (.t 21), none⟩,
 ⟨.t 23, .mv (.l 3), some ((.t 22), false)⟩,
 ⟨.t 24, .len false (.t 23), some ((.t 22), false)⟩,
 ⟨.t 25, .bin .gtr (.t 24) (.c (.p (.i .i64 2000))), some ((.t 22), false)⟩,
 ⟨.l 26, .pick (.t 22) (.c (.p (.b true))) (.t 25), none⟩]) (
 .cond (.l 26) (
 .seq (.reg [
 ⟨.l 8, .mv (.c (.p (.b false))), none⟩]) (
 .ret)) (
 .skip)))) (
 .seq (.reg [
 ⟨.t 27, .ld true 2 (.l 4), none⟩,
 ⟨.t 28, .mv (.l 1), none⟩,
 ⟨.t 29, .mv (.l 2), none⟩,
 ⟨.t 30, .mv (.l 3), none⟩,
 ⟨.t 31, .len false (.t 30), none⟩,
 ⟨.t 32, .call 60 [.t 27, .t 28, .t 29, .t 31], none⟩,
 ⟨.l 11, .mv (.t 32), none⟩]) (
 .seq (.seq (.reg [
 ⟨.t 33, .mv (.l 11), none⟩,
 ⟨.t 34, .len false (.t 33), none⟩,
 ⟨.t 35, .mv (.l 3), none⟩,
 ⟨.t 36, .len false (.t 35), none⟩,
 ⟨.l 37, .bin .neq (.t 34) (.t 36), none⟩]) (
 .cond (.l 37) (
 .seq (.reg [
 ⟨.l 8, .mv (.c (.p (.b false))), none⟩]) (
 .ret)) (
 .skip))) (
 .seq (.seq (.reg [
 ⟨.l 12, .mv (.c (.p (.i .i64 0))), none⟩]) (
 .blk 0 (
 .loop (
 .seq (.seq (.reg [
 ⟨.t 38, .mv (.l 12), none⟩,
 ⟨.t 39, .mv (.l 3), none⟩,
 ⟨.t 40, .len false (.t 39), none⟩,
 ⟨.l 41, .bin .lss (.t 38) (.t 40), none⟩]) (
 .cond (.l 41) (
 .skip) (
 .exit 0))) (
 .seq (.blk 1 (
 .seq (.drw [
 ⟨.t 44, .mv (.l 11), none⟩,
 ⟨.t 45, .mv (.l 12), none⟩,
 ⟨.t 46, .ixs 3 (.t 44) (.t 45), none⟩,
 ⟨.t 47, .ld true 3 (.t 46), none⟩,
 ⟨.t 48, .mv (.l 3), none⟩,
 ⟨.t 49, .mv (.l 12), none⟩,
 ⟨.t 50, .ixs 3 (.t 48) (.t 49), none⟩,
 ⟨.t 51, .ld true 3 (.t 50), none⟩] [
 ⟨.l 52, .sq true 3 (.t 47) (.t 51), none⟩]) (
 .cond (.l 52) (
 .seq (.reg [
 ⟨.l 8, .mv (.c (.p (.b false))), none⟩]) (
 .ret)) (
 .skip)))) (
 .reg [
 ⟨.t 42, .mv (.l 12), none⟩,
 ⟨.t 43, .bin .add (.t 42) (.c (.p (.i .i64 1))), none⟩,
 ⟨.l 12, .mv (.t 43), none⟩])))))) (
 .seq (.reg [
 ⟨.l 8, .mv (.c (.p (.b true))), none⟩]) (
 .ret))))))
theorem mc56_eq : (Try.f56.body.map (compile lv56 Try.prog 53)) = some mc56 := by kernel_rfl
def mr56 : List MR := [.t 8]
theorem mr56_eq : cRess lv56 Try.prog Try.f56.results.toList = some mr56 := by kernel_rfl
theorem call56 {args : List AV} {H : List AO} {Q : AV → List AO → Prop} (hla : args.length ≤ 53) (h : wpm (ACall Try.prog) mc56 (finK mr56 Q) ⟨argEnv 0 args, [], H⟩) : ACall Try.prog 56 args H Q :=
  acall_mc (by kernel_rfl) Try.func56 mc56_eq Try.ntmps56 (by kernel_rfl) mr56_eq hla h
/- laws.toEventS -/
def lv57 : List Nat := [0, 2, 3, 4, 11]
def mc57 : MC :=
.seq (.reg [
 ⟨.l 2, .mv (.c (.p (.nl))), none⟩]) (
 .seq (.reg [
 ⟨.t 5, .mv (.l 0), none⟩,
 ⟨.t 6, .len false (.t 5), none⟩,
 ⟨.t 7, .mks 3 24 [.p (.i .i64 0), .p (.i .i64 0), .p (.i .i64 0)] (.t 6) (.t 6), none⟩,
 ⟨.l 3, .mv (.t 7), none⟩]) (
 .seq (.seq (.reg [
 ⟨.l 4, .mv (.c (.p (.i .i64 0))), none⟩]) (
 .blk 0 (
 .loop (
 .seq (.seq (.reg [
 ⟨.t 8, .mv (.l 4), none⟩,
 ⟨.t 9, .mv (.l 0), none⟩,
 ⟨.t 10, .len false (.t 9), none⟩,
 ⟨.l 11, .bin .lss (.t 8) (.t 10), none⟩]) (
 .cond (.l 11) (
 .skip) (
 .exit 0))) (
 .seq (.blk 1 (
 .reg [
 ⟨.t 14, .mv (.l 3), none⟩,
 ⟨.t 15, .mv (.l 4), none⟩,
 ⟨.t 16, .mv (.l 0), none⟩,
 ⟨.t 17, .mv (.l 4), none⟩,
 ⟨.t 18, .ixs 3 (.t 16) (.t 17), none⟩,
 ⟨.t 19, .ld true 3 (.t 18), none⟩,
 ⟨.t 20, .call 118 [.t 19], none⟩,
 ⟨.t 21, .ixs 3 (.t 14) (.t 15), none⟩,
 ⟨.no, .sto 3 (.t 21) (.t 20), none⟩])) (
 .reg [
 ⟨.t 12, .mv (.l 4), none⟩,
 ⟨.t 13, .bin .add (.t 12) (.c (.p (.i .i64 1))), none⟩,
 ⟨.l 4, .mv (.t 13), none⟩])))))) (
 .seq (.reg [
 ⟨.t 22, .mv (.l 3), none⟩,
 ⟨.l 2, .mv (.t 22), none⟩]) (
 .ret))))
theorem mc57_eq : (Try.f57.body.map (compile lv57 Try.prog 23)) = some mc57 := by kernel_rfl
def mr57 : List MR := [.t 2]
theorem mr57_eq : cRess lv57 Try.prog Try.f57.results.toList = some mr57 := by kernel_rfl
theorem call57 {args : List AV} {H : List AO} {Q : AV → List AO → Prop} (hla : args.length ≤ 23) (h : wpm (ACall Try.prog) mc57 (finK mr57 Q) ⟨argEnv 0 args, [], H⟩) : ACall Try.prog 57 args H Q :=
  acall_mc (by kernel_rfl) Try.func57 mc57_eq Try.ntmps57 (by kernel_rfl) mr57_eq hla h
/- impl.TraceOk -/
def lv58 : List Nat := [0, 1, 2, 3, 4, 8, 20]
def mc58 : MC :=
.seq (.reg [
 ⟨.l 4, .box 2 (.l 0), none⟩,
 ⟨.l 8, .mv (.c (.p (.b false))), none⟩]) (
 .seq (.seq (.reg [
 ⟨.t 9, .mv (.l 3), none⟩,
 ⟨.t 10, .len false (.t 9), none⟩,
 ⟨.t 11, .bin .gtr (.t 10) (.c (.p (.i .i64 2000))), none⟩,
 ⟨.t 12, .mv (.t 11), none⟩,
 ⟨.t 13, .ld true 2 (.l 4), some ((.t 12), false)⟩,
 ⟨.t 14, .mv (.l 1), some ((.t 12), false)⟩,
 ⟨.t 15, .mv (.l 2), some ((.t 12), false)⟩,
 ⟨.t 16, .mv (.l 3), some ((.t 12), false)⟩,
 ⟨.t 17, .len false (.t 16), some ((.t 12), false)⟩,
 ⟨.t 18, .call 110 [.t 13, .t 14, .t 15, .t 17], some ((.t 12), false)⟩,
 ⟨.t 19, .un .not (.t 18), some ((.t 12), false)⟩,
 ⟨.l 20, .pick (.t 12) (.c (.p (.b true))) (.t 19), none⟩]) (
 .cond (.l 20) (
 .seq (.reg [
 ⟨.l 8, .mv (.c (.p (.b false))), none⟩]) (
 .ret)) (
 .skip))) (
 .seq (.reg [
 ⟨.t 21, .ld true 2 (.l 4), none⟩,
 ⟨.t 22, .mv (.l 1), none⟩,
 ⟨.t 23, .mv (.l 2), none⟩,
 ⟨.t 24, .mv (.l 3), none⟩,
 ⟨.t 25, .len false (.t 24), none⟩,
 ⟨.t 26, .call 61 [.t 21, .t 22, .t 23, .t 25], none⟩,
 ⟨.t 27, .mv (.l 3), none⟩,
 ⟨.t 28, .call 119 [.t 26, .t 27], none⟩,
 ⟨.l 8, .mv (.t 28), none⟩]) (
 .ret)))
theorem mc58_eq : (Try.f58.body.map (compile lv58 Try.prog 29)) = some mc58 := by kernel_rfl
def mr58 : List MR := [.t 8]
theorem mr58_eq : cRess lv58 Try.prog Try.f58.results.toList = some mr58 := by kernel_rfl
theorem call58 {args : List AV} {H : List AO} {Q : AV → List AO → Prop} (hla : args.length ≤ 29) (h : wpm (ACall Try.prog) mc58 (finK mr58 Q) ⟨argEnv 0 args, [], H⟩) : ACall Try.prog 58 args H Q :=
  acall_mc (by kernel_rfl) Try.func58 mc58_eq Try.ntmps58 (by kernel_rfl) mr58_eq hla h
/- laws.toEvent -/
def lv118 : List Nat := [0, 1, 2, 3]
def mc118 : MC :=
.seq (.reg [
 ⟨.l 1, .box 3 (.l 0), none⟩,
 ⟨.l 2, .alloc [.p (.i .i64 0), .p (.i .i64 0), .p (.i .i64 0)], none⟩]) (
 .seq (.reg [
 ⟨.l 3, .alloc [.p (.i .i64 0), .p (.i .i64 0), .p (.i .i64 0)], none⟩]) (
 .seq (.reg [
 ⟨.t 4, .fad 0 (.l 1), none⟩,
 ⟨.t 5, .ld false 1 (.t 4), none⟩,
 ⟨.t 6, .fad 0 (.l 3), none⟩,
 ⟨.no, .sto 1 (.t 6) (.t 5), none⟩]) (
 .seq (.reg [
 ⟨.t 7, .fad 1 (.l 1), none⟩,
 ⟨.t 8, .ld false 1 (.t 7), none⟩,
 ⟨.t 9, .fad 1 (.l 3), none⟩,
 ⟨.no, .sto 1 (.t 9) (.t 8), none⟩]) (
 .seq (.reg [
 ⟨.t 10, .fad 2 (.l 1), none⟩,
 ⟨.t 11, .ld false 1 (.t 10), none⟩,
 ⟨.t 12, .fad 2 (.l 3), none⟩,
 ⟨.no, .sto 1 (.t 12) (.t 11), none⟩]) (
 .seq (.reg [
 ⟨.t 13, .ld true 3 (.l 3), none⟩,
 ⟨.no, .sto 3 (.l 2) (.t 13), none⟩]) (
 .ret))))))
theorem mc118_eq : (Try.f118.body.map (compile lv118 Try.prog 14)) = some mc118 := by kernel_rfl
def mr118 : List MR := [.cell true 3 2]
theorem mr118_eq : cRess lv118 Try.prog Try.f118.results.toList = some mr118 := by kernel_rfl
theorem call118 {args : List AV} {H : List AO} {Q : AV → List AO → Prop} (hla : args.length ≤ 14) (h : wpm (ACall Try.prog) mc118 (finK mr118 Q) ⟨argEnv 0 args, [], H⟩) : ACall Try.prog 118 args H Q :=
  acall_mc (by kernel_rfl) Try.func118 mc118_eq Try.ntmps118 (by kernel_rfl) mr118_eq hla h
/- slices.Equal[[]impl.Event,impl.Event] -/
def lv119 : List Nat := [0, 1, 4, 5, 10, 12, 13, 14, 24]
def mc119 : MC :=
.seq (.reg [
 ⟨.l 4, .mv (.c (.p (.b false))), none⟩]) (
 .seq (.seq (.reg [
 ⟨.t 6, .mv (.l 0), none⟩,
 ⟨.t 7, .len false (.t 6), none⟩,
 ⟨.t 8, .mv (.l 1), none⟩,
 ⟨.t 9, .len false (.t 8), none⟩,
 ⟨.l 10, .bin .neq (.t 7) (.t 9), none⟩]) (
 .cond (.l 10) (
 .seq (.reg [
 ⟨.l 4, .mv (.c (.p (.b false))), none⟩]) (
 .ret)) (
 .skip))) (
 .seq (.seq (.reg [
 ⟨.t 11, .mv (.l 0), none⟩,
 ⟨.l 12, .len false (.t 11), none⟩,
 ⟨.l 13, .mv (.c (.p (.i .i64 0))), none⟩]) (
 .blk 0 (
 .loop (
 .seq (.reg [
 ⟨.l 14, .bin .lss (.l 13) (.l 12), none⟩]) (
 .seq (.cond (.l 14) (
 .skip) (
 .exit 0)) (
 .seq (.blk 1 (
 .seq (.reg [
 ⟨.t 15, .mv (.l 13), none⟩,
 ⟨.l 5, .mv (.t 15), none⟩]) (
 .seq (.drw [
 ⟨.t 16, .mv (.l 0), none⟩,
 ⟨.t 17, .mv (.l 5), none⟩,
 ⟨.t 18, .ixs 3 (.t 16) (.t 17), none⟩,
 ⟨.t 19, .ld true 3 (.t 18), none⟩,
 ⟨.t 20, .mv (.l 1), none⟩,
 ⟨.t 21, .mv (.l 5), none⟩,
 ⟨.t 22, .ixs 3 (.t 20) (.t 21), none⟩,
 ⟨.t 23, .ld true 3 (.t 22), none⟩] [
 ⟨.l 24, .sq true 3 (.t 19) (.t 23), none⟩]) (
 .cond (.l 24) (
 .seq (.reg [
 ⟨.l 4, .mv (.c (.p (.b false))), none⟩]) (
 .ret)) (
 .skip))))) (
 .reg [
 ⟨.t 25, .bin .add (.l 13) (.c (.p (.i .i64 1))), none⟩,
 ⟨.l 13, .mv (.t 25), none⟩]))))))) (
 .seq (.reg [
 ⟨.l 4, .mv (.c (.p (.b true))), none⟩]) (
 .ret))))
theorem mc119_eq : (Try.f119.body.map (compile lv119 Try.prog 26)) = some mc119 := by kernel_rfl
def mr119 : List MR := [.t 4]
theorem mr119_eq : cRess lv119 Try.prog Try.f119.results.toList = some mr119 := by kernel_rfl
theorem call119 {args : List AV} {H : List AO} {Q : AV → List AO → Prop} (hla : args.length ≤ 26) (h : wpm (ACall Try.prog) mc119 (finK mr119 Q) ⟨argEnv 0 args, [], H⟩) : ACall Try.prog 119 args H Q :=
  acall_mc (by kernel_rfl) Try.func119 mc119_eq Try.ntmps119 (by kernel_rfl) mr119_eq hla h
end Go.Proofs.Ytmbggdfceecojaa.Mc

/- TraceOk, of both. -/
set_option linter.all false
namespace Go.Proofs.Ytmbggdfceecojaa.Cd
open Go.AM Mc Ho

theorem evC_len (x : EvD) : (evC x).length = 3 := rfl
theorem evC_take (x : EvD) : takeN 3 (evC x) = some (evC x) := rfl
theorem ev_pc (x : EvD) : (evP x).map .p = evC x := rfl
theorem sqC_ev (x y : EvD) : sqC (evC x) (evC y) = some (decide (x = y)) := by
  obtain ⟨a, b, c⟩ := x
  obtain ⟨a', b', c'⟩ := y
  simp [sqC, evC]
theorem evR_at (l : List EvD) {i : Nat} (h : i < l.length) : (evR l)[i]? = some (evC l[i]) := by simp [evR, h]

theorem eqSl0 (xs ys : List EvD) (hx : xs.length ≤ maxL) (hy : ys.length ≤ maxL) : ACall Try.prog 119 [.p (.l (evs xs)), .p (.l (evs ys))] [] (fun r H => r = .p (.b (decide (xs = ys)))) := by
  refine call119 (by simp) ?_
  simp only [go_sem, Nat.reduceEqDiff, reduceIte, ↓reduceIte, Nat.reduceAdd, mc119, mr119, evs_len]
  intro _ _
  refine condK_split _ (fun hc => ?_) (fun hc => ?_)
  · simp only [go_sem, Nat.reduceEqDiff, reduceIte, ↓reduceIte, Nat.reduceAdd]
    have : xs ≠ ys := by rintro rfl; simp at hc
    simp [this]
  · have hl : xs.length = ys.length := by simp at hc; omega
    simp only [go_sem, Nat.reduceEqDiff, reduceIte, ↓reduceIte, Nat.reduceAdd, evs_len]
    intro _
    refine ⟨Nat, [0, 1, 4, 12, 13], fun i st => i ≤ xs.length ∧ xs.take i = ys.take i ∧ st = ⟨[(0, .p (.l (evs xs))), (1, .p (.l (evs ys))), (4, .p (.b false)), (12, .p (.i .i64 xs.length)), (13, .p (.i .i64 i))], [], []⟩, fun i => xs.length - i, ⟨0, ?_⟩, ?_⟩
    · simp only [go_sem, Nat.reduceEqDiff, reduceIte, ↓reduceIte, Nat.reduceAdd]
      exact ⟨Nat.zero_le _, rfl, rfl⟩
    · rintro i st ⟨hi, ht, rfl⟩
      simp only [go_sem, Nat.reduceEqDiff, reduceIte, ↓reduceIte, Nat.reduceAdd]
      refine condK_split _ (fun hc => ?_) (fun hc => ?_)
      · have hil : i < xs.length := by simpa using hc
        have hiy : i < ys.length := by omega
        simp only [go_sem, Nat.reduceEqDiff, reduceIte, ↓reduceIte, Nat.reduceAdd]
        (refine drw_same ?_; simp only [go_sem, Nat.reduceEqDiff, reduceIte, ↓reduceIte, Nat.reduceAdd, evs_at _ hil, evs_at _ hiy, ev_clen, ev_take, ev_pc, evC_len, evC_take, sqC_ev, Option.map_some])
        refine condK_split _ (fun hd => ?_) (fun hd => ?_)
        · simp only [go_sem, Nat.reduceEqDiff, reduceIte, ↓reduceIte, Nat.reduceAdd]
          have : xs ≠ ys := by rintro rfl; simp at hd
          simp [this]
        · simp only [go_sem, Nat.reduceEqDiff, reduceIte, ↓reduceIte, Nat.reduceAdd]
          have he : xs[i] = ys[i] := by simpa using hd
          refine ⟨i + 1, ⟨hil, ?_, ?_⟩, by omega⟩
          · rw [List.take_succ, List.take_succ, ht, List.getElem?_eq_getElem hil, List.getElem?_eq_getElem hiy, he]
          · rw [wr1 hil hx]
      · have hil : i = xs.length := by simp at hc; omega
        simp only [go_sem, Nat.reduceEqDiff, reduceIte, ↓reduceIte, Nat.reduceAdd]
        subst hil
        have : xs = ys := by
          rw [List.take_length, hl, List.take_length] at ht
          exact ht
        simp [this]
theorem eqSl (xs ys : List EvD) (hx : xs.length ≤ maxL) (hy : ys.length ≤ maxL) {H : List AO} {a b : AV} (ha : Lent H a (.p (.l (evs xs)))) (hb : Lent H b (.p (.l (evs ys)))) :
    ACall Try.prog 119 [a, b] H (pureQ (.p (.b (decide (xs = ys)))) H) :=
  (acall_lend (eqSl0 xs ys hx hy) (fun r H' h => by subst h; exact grnd_b _) (lentAll_cons ha (lentAll_cons hb (lentAll_nil _)))).mono fun r H' ⟨h1, _, h2⟩ => ⟨h2, h1⟩

def traceOkD (c : CodeD) (inp : List Int) (room : Int) (l : List EvD) : Bool :=
  runOk c inp room l.length && decide (l.length ≤ 2000) && decide (traceD c inp room l.length = l)

theorem implTok0 (c : CodeD) (hok : okCode c) (inp : List Int) (hil : inp.length ≤ 1048576) (room : Int) (l : List EvD) (hll : l.length ≤ maxL) :
    ACall Try.prog 58 [.st (c.cells.map .p), .p (.l (ints inp)), .p (.i .i64 room), .p (.l (evs l))] [] (fun r H => r = .p (.b (traceOkD c inp room l))) := by
  refine call58 (by simp) ?_
  simp only [go_sem, Nat.reduceEqDiff, reduceIte, ↓reduceIte, Nat.reduceAdd, Z0, Z1, Z2, Z3, Z4, Z5, Nat.reduceLT, Z6, Z7, Int.reduceEq, Z8, Z9, Nat.reduceLeDiff, Za, Zb, Zc, Zd, Ze, Zf, bytesOf, Zg, Zh, Zi, Zj, Zk, Zl, Int.reduceLT, Int.reduceLE, Zm, Int.reduceToNat, Zn, Zo, Zp, Int.reduceAdd, Zq, Zr, mc58, mr58, CodeD.cells, evs_len]
  intro _
  by_cases h1 : l.length ≤ 2000
  case neg =>
    have d : decide ((2000 : Int) < (l.length : Int)) = true := by simp; omega
    simp only [go_sem, Nat.reduceEqDiff, reduceIte, ↓reduceIte, Nat.reduceAdd, Z0, Z1, Z2, Z3, Z4, Z5, Nat.reduceLT, Z6, Z7, Int.reduceEq, Z8, Z9, Nat.reduceLeDiff, Za, Zb, Zc, Zd, Ze, Zf, bytesOf, Zg, Zh, Zi, Zj, Zk, Zl, Int.reduceLT, Int.reduceLE, Zm, Int.reduceToNat, Zn, Zo, Zp, Int.reduceAdd, Zq, Zr, d]
    simp [traceOkD, h1]
  have d : decide ((2000 : Int) < (l.length : Int)) = false := by simp; omega
  simp only [go_sem, Nat.reduceEqDiff, reduceIte, ↓reduceIte, Nat.reduceAdd, Z0, Z1, Z2, Z3, Z4, Z5, Nat.reduceLT, Z6, Z7, Int.reduceEq, Z8, Z9, Nat.reduceLeDiff, Za, Zb, Zc, Zd, Ze, Zf, bytesOf, Zg, Zh, Zi, Zj, Zk, Zl, Int.reduceLT, Int.reduceLE, Zm, Int.reduceToNat, Zn, Zo, Zp, Int.reduceAdd, Zq, Zr, d, evs_len]
  intro _
  refine acall_pure (runOkI c hok inp (by unfold maxL; omega) room _ _) ?_
  cases h : runOk c inp room l.length
  · simp only [go_sem, Nat.reduceEqDiff, reduceIte, ↓reduceIte, Nat.reduceAdd, Z0, Z1, Z2, Z3, Z4, Z5, Nat.reduceLT, Z6, Z7, Int.reduceEq, Z8, Z9, Nat.reduceLeDiff, Za, Zb, Zc, Zd, Ze, Zf, bytesOf, Zg, Zh, Zi, Zj, Zk, Zl, Int.reduceLT, Int.reduceLE, Zm, Int.reduceToNat, Zn, Zo, Zp, Int.reduceAdd, Zq, Zr, Bool.not_false]
    simp [traceOkD, h]
  simp only [go_sem, Nat.reduceEqDiff, reduceIte, ↓reduceIte, Nat.reduceAdd, Z0, Z1, Z2, Z3, Z4, Z5, Nat.reduceLT, Z6, Z7, Int.reduceEq, Z8, Z9, Nat.reduceLeDiff, Za, Zb, Zc, Zd, Ze, Zf, bytesOf, Zg, Zh, Zi, Zj, Zk, Zl, Int.reduceLT, Int.reduceLE, Zm, Int.reduceToNat, Zn, Zo, Zp, Int.reduceAdd, Zq, Zr, Bool.not_true, evs_len]
  intro _
  refine (implTrace c hok inp hil room _ (code_lent c) (.pure _)).mono ?_
  rintro r H' ⟨A, rfl, hw⟩
  have hlen := traceD_len c inp room l.length
  simp only [go_sem, Nat.reduceEqDiff, reduceIte, ↓reduceIte, Nat.reduceAdd, Z0, Z1, Z2, Z3, Z4, Z5, Nat.reduceLT, Z6, Z7, Int.reduceEq, Z8, Z9, Nat.reduceLeDiff, Za, Zb, Zc, Zd, Ze, Zf, bytesOf, Zg, Zh, Zi, Zj, Zk, Zl, Int.reduceLT, Int.reduceLE, Zm, Int.reduceToNat, Zn, Zo, Zp, Int.reduceAdd, Zq, Zr]
  refine acall_pure (eqSl _ _ (by unfold maxL; omega) hll (ownE_lent hw.own) (.pure _)) ?_
  simp only [go_sem, Nat.reduceEqDiff, reduceIte, ↓reduceIte, Nat.reduceAdd, Z0, Z1, Z2, Z3, Z4, Z5, Nat.reduceLT, Z6, Z7, Int.reduceEq, Z8, Z9, Nat.reduceLeDiff, Za, Zb, Zc, Zd, Ze, Zf, bytesOf, Zg, Zh, Zi, Zj, Zk, Zl, Int.reduceLT, Int.reduceLE, Zm, Int.reduceToNat, Zn, Zo, Zp, Int.reduceAdd, Zq, Zr]
  simp [traceOkD, h, h1]

theorem runOk_zero {c : CodeD} {inp : List Int} {room n : Int} (h0 : 0 ≤ n) (h1 : n ≤ 300000) : runOk c inp room 0 = runOk c inp room n := by
  have : inD 0 0 300000 = inD n 0 300000 := by simp [inD, h0, h1]
  unfold runOk
  rw [this]

set_option maxHeartbeats 1000000 in
theorem specTok0 (c : CodeD) (hok : okCode c) (inp : List Int) (hil : inp.length ≤ 1048576) (room : Int) (l : List EvD) (hll : l.length ≤ maxL) :
    ACall Try.prog 56 [.st (c.cells.map .p), .p (.l (ints inp)), .p (.i .i64 room), .p (.l (evs l))] [] (fun r H => r = .p (.b (traceOkD c inp room l))) := by
  refine call56 (by simp) ?_
  simp only [go_sem, Nat.reduceEqDiff, reduceIte, ↓reduceIte, Nat.reduceAdd, Z0, Z1, Z2, Z3, Z4, Z5, Nat.reduceLT, Z6, Z7, Int.reduceEq, Z8, Z9, Nat.reduceLeDiff, Za, Zb, Zc, Zd, Ze, Zf, bytesOf, Zg, Zh, Zi, Zj, Zk, Zl, Int.reduceLT, Int.reduceLE, Zm, Int.reduceToNat, Zn, Zo, Zp, Int.reduceAdd, Zq, Zr, mc56, mr56, CodeD.cells]
  refine (sStart hok hil room 0 _).mono ?_
  rintro r H1 ⟨g0, rfl, hs0, hlo, A, hH1⟩
  have h40 : H1[0]? = some (.var [.p (.l (inss c.ins)), .p (.l (ints c.starts))]) := by rw [hH1]; rfl
  clear hs0 hlo hH1
  cases h : runOk c inp room 0
  · simp only [go_sem, Nat.reduceEqDiff, reduceIte, ↓reduceIte, Nat.reduceAdd, Z0, Z1, Z2, Z3, Z4, Z5, Nat.reduceLT, Z6, Z7, Int.reduceEq, Z8, Z9, Nat.reduceLeDiff, Za, Zb, Zc, Zd, Ze, Zf, bytesOf, Zg, Zh, Zi, Zj, Zk, Zl, Int.reduceLT, Int.reduceLE, Zm, Int.reduceToNat, Zn, Zo, Zp, Int.reduceAdd, Zq, Zr, Bool.not_false]
    have e : runOk c inp room l.length = false ∨ ¬ l.length ≤ 2000 := by
      by_cases h1 : l.length ≤ 2000
      · left; rw [← runOk_zero (by omega) (by omega), h]
      · exact .inr h1
    rcases e with e | e <;> simp [traceOkD, e]
  simp only [go_sem, Nat.reduceEqDiff, reduceIte, ↓reduceIte, Nat.reduceAdd, Z0, Z1, Z2, Z3, Z4, Z5, Nat.reduceLT, Z6, Z7, Int.reduceEq, Z8, Z9, Nat.reduceLeDiff, Za, Zb, Zc, Zd, Ze, Zf, bytesOf, Zg, Zh, Zi, Zj, Zk, Zl, Int.reduceLT, Int.reduceLE, Zm, Int.reduceToNat, Zn, Zo, Zp, Int.reduceAdd, Zq, Zr, Bool.not_true, evs_len]
  intro _
  by_cases h1 : l.length ≤ 2000
  case neg =>
    have d : decide ((2000 : Int) < (l.length : Int)) = true := by simp; omega
    simp only [go_sem, Nat.reduceEqDiff, reduceIte, ↓reduceIte, Nat.reduceAdd, Z0, Z1, Z2, Z3, Z4, Z5, Nat.reduceLT, Z6, Z7, Int.reduceEq, Z8, Z9, Nat.reduceLeDiff, Za, Zb, Zc, Zd, Ze, Zf, bytesOf, Zg, Zh, Zi, Zj, Zk, Zl, Int.reduceLT, Int.reduceLE, Zm, Int.reduceToNat, Zn, Zo, Zp, Int.reduceAdd, Zq, Zr, d]
    simp [traceOkD, h1]
  have d : decide ((2000 : Int) < (l.length : Int)) = false := by simp; omega
  have hr : runOk c inp room l.length = true := by rw [← runOk_zero (by omega) (by omega), h]
  simp only [go_sem, Nat.reduceEqDiff, reduceIte, ↓reduceIte, Nat.reduceAdd, Z0, Z1, Z2, Z3, Z4, Z5, Nat.reduceLT, Z6, Z7, Int.reduceEq, Z8, Z9, Nat.reduceLeDiff, Za, Zb, Zc, Zd, Ze, Zf, bytesOf, Zg, Zh, Zi, Zj, Zk, Zl, Int.reduceLT, Int.reduceLE, Zm, Int.reduceToNat, Zn, Zo, Zp, Int.reduceAdd, Zq, Zr, d, h40, evs_len]
  intro _
  refine (specTrace c hok inp hil room _ (code_lent c) (.pure _)).mono ?_
  rintro w H2 ⟨A2, rfl, hw⟩
  have hlen := traceD_len c inp room l.length
  have htk : traceOkD c inp room l = decide (traceD c inp room l.length = l) := by simp [traceOkD, hr, h1]
  rw [htk]
  generalize traceD c inp room l.length = t at hw hlen ⊢
  have hwo := hw.own
  generalize H1 ++ A2 = H2 at hwo ⊢
  clear hw h40
  have hlenK : ∀ {K : St → Prop} {st : St} {d : Go.AM.MD}, K (st.put d (.p (.i .i64 t.length))) → lenK false w d K st := by
    intro K st d k
    rw [← evR_len t] at k
    rcases hwo with ⟨rfl, e⟩ | ⟨id, ver, rfl, _⟩
    · rw [e] at k; exact k
    · exact fun _ => k
  simp only [go_sem, Nat.reduceEqDiff, reduceIte, ↓reduceIte, Nat.reduceAdd, Z0, Z1, Z2, Z3, Z4, Z5, Nat.reduceLT, Z6, Z7, Int.reduceEq, Z8, Z9, Nat.reduceLeDiff, Za, Zb, Zc, Zd, Ze, Zf, bytesOf, Zg, Zh, Zi, Zj, Zk, Zl, Int.reduceLT, Int.reduceLE, Zm, Int.reduceToNat, Zn, Zo, Zp, Int.reduceAdd, Zq, Zr]
  refine hlenK ?_
  simp only [go_sem, Nat.reduceEqDiff, reduceIte, ↓reduceIte, Nat.reduceAdd, Z0, Z1, Z2, Z3, Z4, Z5, Nat.reduceLT, Z6, Z7, Int.reduceEq, Z8, Z9, Nat.reduceLeDiff, Za, Zb, Zc, Zd, Ze, Zf, bytesOf, Zg, Zh, Zi, Zj, Zk, Zl, Int.reduceLT, Int.reduceLE, Zm, Int.reduceToNat, Zn, Zo, Zp, Int.reduceAdd, Zq, Zr, evs_len]
  intro _
  by_cases h2 : t.length = l.length
  case neg =>
    have d : decide ((t.length : Int) = (l.length : Int)) = false := by simp; omega
    have : t ≠ l := by rintro rfl; exact h2 rfl
    simp only [go_sem, Nat.reduceEqDiff, reduceIte, ↓reduceIte, Nat.reduceAdd, Z0, Z1, Z2, Z3, Z4, Z5, Nat.reduceLT, Z6, Z7, Int.reduceEq, Z8, Z9, Nat.reduceLeDiff, Za, Zb, Zc, Zd, Ze, Zf, bytesOf, Zg, Zh, Zi, Zj, Zk, Zl, Int.reduceLT, Int.reduceLE, Zm, Int.reduceToNat, Zn, Zo, Zp, Int.reduceAdd, Zq, Zr, d, Bool.not_false]
    simp [this]
  have d : decide ((t.length : Int) = (l.length : Int)) = true := by simp; omega
  simp only [go_sem, Nat.reduceEqDiff, reduceIte, ↓reduceIte, Nat.reduceAdd, Z0, Z1, Z2, Z3, Z4, Z5, Nat.reduceLT, Z6, Z7, Int.reduceEq, Z8, Z9, Nat.reduceLeDiff, Za, Zb, Zc, Zd, Ze, Zf, bytesOf, Zg, Zh, Zi, Zj, Zk, Zl, Int.reduceLT, Int.reduceLE, Zm, Int.reduceToNat, Zn, Zo, Zp, Int.reduceAdd, Zq, Zr, d, Bool.not_true]
  refine ⟨Nat, [0, 1, 2, 3, 4, 8, 11, 12], fun i st => i ≤ l.length ∧ t.take i = l.take i ∧ st = ⟨[(0, .st [.p (.l (inss c.ins)), .p (.l (ints c.starts))]), (1, .p (.l (ints inp))), (2, .p (.i .i64 room)), (3, .p (.l (evs l))), (4, .ptr 0 0), (8, .p (.b false)), (11, w), (12, .p (.i .i64 i))], [], H2⟩, fun i => l.length - i, ⟨0, ?_⟩, ?_⟩
  · simp only [go_sem, Nat.reduceEqDiff, reduceIte, ↓reduceIte, Nat.reduceAdd, Z0, Z1, Z2, Z3, Z4, Z5, Nat.reduceLT, Z6, Z7, Int.reduceEq, Z8, Z9, Nat.reduceLeDiff, Za, Zb, Zc, Zd, Ze, Zf, bytesOf, Zg, Zh, Zi, Zj, Zk, Zl, Int.reduceLT, Int.reduceLE, Zm, Int.reduceToNat, Zn, Zo, Zp, Int.reduceAdd, Zq, Zr]
    exact Nat.zero_le _
  · rintro i st ⟨hi, ht, rfl⟩
    simp only [go_sem, Nat.reduceEqDiff, reduceIte, ↓reduceIte, Nat.reduceAdd, Z0, Z1, Z2, Z3, Z4, Z5, Nat.reduceLT, Z6, Z7, Int.reduceEq, Z8, Z9, Nat.reduceLeDiff, Za, Zb, Zc, Zd, Ze, Zf, bytesOf, Zg, Zh, Zi, Zj, Zk, Zl, Int.reduceLT, Int.reduceLE, Zm, Int.reduceToNat, Zn, Zo, Zp, Int.reduceAdd, Zq, Zr, evs_len]
    intro _
    by_cases hil2 : i < l.length
    · have hit : i < t.length := by omega
      have d : decide ((i : Int) < (l.length : Int)) = true := by simp; exact hil2
      rcases hwo with ⟨_, e⟩ | ⟨id, ver, rfl, hid⟩
      · have : t = [] := by simpa [evR] using e
        rw [this] at hit; simp at hit
      have hci : (i : Int) < (((evR t).length : Nat) : Int) := by rw [evR_len]; omega
      simp only [go_sem, Nat.reduceEqDiff, reduceIte, ↓reduceIte, Nat.reduceAdd, Z0, Z1, Z2, Z3, Z4, Z5, Nat.reduceLT, Z6, Z7, Int.reduceEq, Z8, Z9, Nat.reduceLeDiff, Za, Zb, Zc, Zd, Ze, Zf, bytesOf, Zg, Zh, Zi, Zj, Zk, Zl, Int.reduceLT, Int.reduceLE, Zm, Int.reduceToNat, Zn, Zo, Zp, Int.reduceAdd, Zq, Zr, d]
      (refine drw_same ?_; simp only [go_sem, Nat.reduceEqDiff, reduceIte, ↓reduceIte, Nat.reduceAdd, hid, evR_at t hit, hci, evs_at _ hil2, ev_clen, ev_take, ev_pc, evC_len, evC_take, sqC_ev, Option.map_some, Nat.zero_add, List.drop_zero])
      by_cases he : t[i] = l[i]
      · have d2 : decide (t[i] = l[i]) = true := by simp [he]
        simp only [go_sem, Nat.reduceEqDiff, reduceIte, ↓reduceIte, Nat.reduceAdd, Z0, Z1, Z2, Z3, Z4, Z5, Nat.reduceLT, Z6, Z7, Int.reduceEq, Z8, Z9, Nat.reduceLeDiff, Za, Zb, Zc, Zd, Ze, Zf, bytesOf, Zg, Zh, Zi, Zj, Zk, Zl, Int.reduceLT, Int.reduceLE, Zm, Int.reduceToNat, Zn, Zo, Zp, Int.reduceAdd, Zq, Zr, d2, Bool.not_true]
        refine ⟨i + 1, ⟨hil2, ?_, ?_⟩, by omega⟩
        · rw [List.take_succ, List.take_succ, ht, List.getElem?_eq_getElem hit, List.getElem?_eq_getElem hil2, he]
        · rw [wr1 hil2 hll]
      · have d2 : decide (t[i] = l[i]) = false := by simp [he]
        have : t ≠ l := by rintro rfl; exact he rfl
        simp only [go_sem, Nat.reduceEqDiff, reduceIte, ↓reduceIte, Nat.reduceAdd, Z0, Z1, Z2, Z3, Z4, Z5, Nat.reduceLT, Z6, Z7, Int.reduceEq, Z8, Z9, Nat.reduceLeDiff, Za, Zb, Zc, Zd, Ze, Zf, bytesOf, Zg, Zh, Zi, Zj, Zk, Zl, Int.reduceLT, Int.reduceLE, Zm, Int.reduceToNat, Zn, Zo, Zp, Int.reduceAdd, Zq, Zr, d2, Bool.not_false]
        simp [this]
    · have d : decide ((i : Int) < (l.length : Int)) = false := by simp; omega
      have hil3 : i = l.length := by omega
      subst hil3
      have : t = l := by
        rw [List.take_length, ← h2, List.take_length] at ht
        exact ht
      simp only [go_sem, Nat.reduceEqDiff, reduceIte, ↓reduceIte, Nat.reduceAdd, Z0, Z1, Z2, Z3, Z4, Z5, Nat.reduceLT, Z6, Z7, Int.reduceEq, Z8, Z9, Nat.reduceLeDiff, Za, Zb, Zc, Zd, Ze, Zf, bytesOf, Zg, Zh, Zi, Zj, Zk, Zl, Int.reduceLT, Int.reduceLE, Zm, Int.reduceToNat, Zn, Zo, Zp, Int.reduceAdd, Zq, Zr, d]
      simp [this]
end Go.Proofs.Ytmbggdfceecojaa.Cd

/- TraceOk: the law. -/
set_option linter.all false
namespace Go.Proofs.Ytmbggdfceecojaa.Cd
open Go.AM Mc Ho

theorem toEv (x : EvD) : ACall Try.prog 118 [.st ((evP x).map .p)] [] (fun r H => r = .st ((evP x).map .p)) := by
  refine call118 (by simp) ?_
  simp only [go_sem, Nat.reduceEqDiff, reduceIte, ↓reduceIte, Nat.reduceAdd, Z0, Z1, Z2, Z3, Z4, Z5, Nat.reduceLT, Z6, Z7, Int.reduceEq, Z8, Z9, Nat.reduceLeDiff, Za, Zb, Zc, Zd, Ze, Zf, bytesOf, Zg, Zh, Zi, Zj, Zk, Zl, Int.reduceLT, Int.reduceLE, Zm, Int.reduceToNat, Zn, Zo, Zp, Int.reduceAdd, Zq, Zr, mc118, mr118, evP]
theorem grnd_ev (x : EvD) : Grnd (.st ((evP x).map .p)) := grnd_st _ (by
  simp [evP]
  exact ⟨grnd_i _ _, grnd_i _ _, grnd_i _ _⟩)
theorem toEvS (l : List EvD) (hn : l.length ≤ 1048576) (H : List AO) : ACall Try.prog 57 [.p (.l (evs l))] H (pureQ (.gs H.length 0 0 l.length) (H ++ [.rows 3 0 (evR l)])) := by
  have hm : l.length ≤ maxL := by unfold maxL; omega
  refine call57 (by simp) ?_
  simp only [go_sem, Nat.reduceEqDiff, reduceIte, ↓reduceIte, Nat.reduceAdd, mc57, mr57, evs_len]
  intro _
  refine ⟨by omega, by omega, by omega, ?_⟩
  refine ⟨Nat, [0, 2, 3, 4], fun i st => i ≤ l.length ∧ st = ⟨[(0, .p (.l (evs l))), (2, .p .nl), (3, .gs H.length 0 0 l.length), (4, .p (.i .i64 i))], [], H ++ [.rows 3 0 (fill evC [.p (.i .i64 0), .p (.i .i64 0), .p (.i .i64 0)] l i)]⟩, fun i => l.length - i, ⟨0, ?_⟩, ?_⟩
  · simp only [go_sem, Nat.reduceEqDiff, reduceIte, ↓reduceIte, Nat.reduceAdd]
    exact ⟨Nat.zero_le _, by rw [fill_zero]; rfl⟩
  · rintro i st ⟨hi, rfl⟩
    simp only [go_sem, Nat.reduceEqDiff, reduceIte, ↓reduceIte, Nat.reduceAdd, evs_len]
    intro _
    refine condK_split _ (fun hc => ?_) (fun hc => ?_)
    · have hil : i < l.length := by simpa using hc
      simp only [go_sem, Nat.reduceEqDiff, reduceIte, ↓reduceIte, Nat.reduceAdd, evs_at _ hil, ev_take, ev_clen]
      refine (acall_lend (toEv l[i]) (fun r H' h => by subst h; exact grnd_ev _) (lentAll_cons (ev_lent _) (lentAll_nil _))).mono ?_
      rintro r H' ⟨rfl, _, rfl⟩
      simp only [go_sem, Nat.reduceEqDiff, reduceIte, ↓reduceIte, Nat.reduceAdd, List.getElem?_append_right (Nat.le_refl _), Nat.sub_self, fill_get _ _ _ hil]
      refine ⟨by omega, ?_⟩
      rw [if_pos (show ((List.map AV.p (evP l[i])).length == 3) = true from rfl), stoR_at (r' := evC l[i]) (fill_get _ _ _ hil) rfl]
      simp only [go_sem, Nat.reduceEqDiff, reduceIte, ↓reduceIte, Nat.reduceAdd]
      refine ⟨i + 1, ⟨hil, ?_⟩, by omega⟩
      rw [wr1 hil hm, ← fill_set _ _ _ hil]
    · have hil : i = l.length := by simp at hc; omega
      simp only [go_sem, Nat.reduceEqDiff, reduceIte, ↓reduceIte, Nat.reduceAdd]
      subst hil
      rw [fill_all]
      exact ⟨rfl, rfl⟩
theorem lent_ev (l : List EvD) {H : List AO} {id : Nat} (hid : H[id]? = some (.rows 3 0 (evR l))) : Lent H (.gs id 0 0 l.length) (.p (.l (evs l))) := by
  have := ownE_lent (H := H) (a := .gs id 0 0 (evR l).length) (.inr ⟨id, 0, rfl, hid⟩)
  rwa [evR_len] at this

theorem tok_args {H : List AO} {c : CodeD} {inp : List Int} {room : Int} {l : List EvD} {a b d : AV} (ha : Lent H a (.st (c.cells.map .p))) (hb : Lent H b (.p (.l (ints inp)))) (hd : Lent H d (.p (.l (evs l)))) :
    LentAll H [a, b, .p (.i .i64 room), d] [.st (c.cells.map .p), .p (.l (ints inp)), .p (.i .i64 room), .p (.l (evs l))] :=
  lentAll_cons ha (lentAll_cons hb (lentAll_cons (.pure _) (lentAll_cons hd (lentAll_nil _))))
theorem implTok (c : CodeD) (hok : okCode c) (inp : List Int) (hil : inp.length ≤ 1048576) (room : Int) (l : List EvD) (hll : l.length ≤ maxL) {H : List AO} {a b d : AV} (ha : Lent H a (.st (c.cells.map .p))) (hb : Lent H b (.p (.l (ints inp)))) (hd : Lent H d (.p (.l (evs l)))) :
    ACall Try.prog 58 [a, b, .p (.i .i64 room), d] H (pureQ (.p (.b (traceOkD c inp room l))) H) :=
  (acall_lend (implTok0 c hok inp hil room l hll) (fun r H' h => by subst h; exact grnd_b _) (tok_args ha hb hd)).mono fun r H' ⟨h1, _, h2⟩ => ⟨h2, h1⟩
theorem specTok (c : CodeD) (hok : okCode c) (inp : List Int) (hil : inp.length ≤ 1048576) (room : Int) (l : List EvD) (hll : l.length ≤ maxL) {H : List AO} {a b d : AV} (ha : Lent H a (.st (c.cells.map .p))) (hb : Lent H b (.p (.l (ints inp)))) (hd : Lent H d (.p (.l (evs l)))) :
    ACall Try.prog 56 [a, b, .p (.i .i64 room), d] H (pureQ (.p (.b (traceOkD c inp room l))) H) :=
  (acall_lend (specTok0 c hok inp hil room l hll) (fun r H' h => by subst h; exact grnd_b _) (tok_args ha hb hd)).mono fun r H' ⟨h1, _, h2⟩ => ⟨h2, h1⟩
theorem szEvS (l : List EvD) (hll : l.length ≤ maxL) (q : Int) (H : List AO) : ACall Try.prog 55 [.p (.l (evs l)), .p (.i .i64 q)] H (fun r H' => (∃ z : Int, r = .p (.i .i64 z)) ∧ H' = H) := by
  refine call55 (by simp) ?_
  simp only [go_sem, Nat.reduceEqDiff, reduceIte, ↓reduceIte, Nat.reduceAdd, Z0, Z1, Z2, Z3, Z4, Z5, Nat.reduceLT, Z6, Z7, Int.reduceEq, Z8, Z9, Nat.reduceLeDiff, Za, Zb, Zc, Zd, Ze, Zf, bytesOf, Zg, Zh, Zi, Zj, Zk, Zl, Int.reduceLT, Int.reduceLE, Zm, Int.reduceToNat, Zn, Zo, Zp, Int.reduceAdd, Zq, Zr, mc55, mr55, evs_len]
  intro _
  refine condK_split _ (fun hc => ?_) (fun hc => ?_)
  · simp only [go_sem, Nat.reduceEqDiff, reduceIte, ↓reduceIte, Nat.reduceAdd, Z0, Z1, Z2, Z3, Z4, Z5, Nat.reduceLT, Z6, Z7, Int.reduceEq, Z8, Z9, Nat.reduceLeDiff, Za, Zb, Zc, Zd, Ze, Zf, bytesOf, Zg, Zh, Zi, Zj, Zk, Zl, Int.reduceLT, Int.reduceLE, Zm, Int.reduceToNat, Zn, Zo, Zp, Int.reduceAdd, Zq, Zr]
    exact ⟨_, rfl⟩
  · simp only [go_sem, Nat.reduceEqDiff, reduceIte, ↓reduceIte, Nat.reduceAdd, Z0, Z1, Z2, Z3, Z4, Z5, Nat.reduceLT, Z6, Z7, Int.reduceEq, Z8, Z9, Nat.reduceLeDiff, Za, Zb, Zc, Zd, Ze, Zf, bytesOf, Zg, Zh, Zi, Zj, Zk, Zl, Int.reduceLT, Int.reduceLE, Zm, Int.reduceToNat, Zn, Zo, Zp, Int.reduceAdd, Zq, Zr]
    exact ⟨_, rfl⟩

set_option maxHeartbeats 4000000 in
theorem lawTok (c : CodeD) (hok : okCode c) (inp : List Int) (hil : inp.length ≤ maxL) (room : Int) (l : List EvD) (hln : l.length ≤ 1048576) :
    ACall Try.prog 12 [.st (c.cells.map .p), .p (.l (ints inp)), .p (.i .i64 room), .p (.l (evs l))] [] (fun r _ => r = .p (.b true)) := by
  have hll : l.length ≤ maxL := by unfold maxL; omega
  refine call12 (by simp) ?_
  simp only [go_sem, Nat.reduceEqDiff, reduceIte, ↓reduceIte, Nat.reduceAdd, Z0, Z1, Z2, Z3, Z4, Z5, Nat.reduceLT, Z6, Z7, Int.reduceEq, Z8, Z9, Nat.reduceLeDiff, Za, Zb, Zc, Zd, Ze, Zf, bytesOf, Zg, Zh, Zi, Zj, Zk, Zl, Int.reduceLT, Int.reduceLE, Zm, Int.reduceToNat, Zn, Zo, Zp, Int.reduceAdd, Zq, Zr, mc12, mr12, CodeD.cells, ints_len]
  intro _
  by_cases hlong : 1048576 < inp.length
  · have dl : decide ((1048576 : Int) < (inp.length : Int)) = true := by simp; omega
    simp only [go_sem, Nat.reduceEqDiff, reduceIte, ↓reduceIte, Nat.reduceAdd, Z0, Z1, Z2, Z3, Z4, Z5, Nat.reduceLT, Z6, Z7, Int.reduceEq, Z8, Z9, Nat.reduceLeDiff, Za, Zb, Zc, Zd, Ze, Zf, bytesOf, Zg, Zh, Zi, Zj, Zk, Zl, Int.reduceLT, Int.reduceLE, Zm, Int.reduceToNat, Zn, Zo, Zp, Int.reduceAdd, Zq, Zr, dl]
  have dl : decide ((1048576 : Int) < (inp.length : Int)) = false := by simp; omega
  have hl : inp.length ≤ 1048576 := by omega
  simp only [go_sem, Nat.reduceEqDiff, reduceIte, ↓reduceIte, Nat.reduceAdd, Z0, Z1, Z2, Z3, Z4, Z5, Nat.reduceLT, Z6, Z7, Int.reduceEq, Z8, Z9, Nat.reduceLeDiff, Za, Zb, Zc, Zd, Ze, Zf, bytesOf, Zg, Zh, Zi, Zj, Zk, Zl, Int.reduceLT, Int.reduceLE, Zm, Int.reduceToNat, Zn, Zo, Zp, Int.reduceAdd, Zq, Zr, dl]
  rw [code_eta]
  refine (szCode_any c hok).mono ?_
  rintro r H' ⟨⟨q, rfl, hq⟩, rfl⟩
  simp only [go_sem, Nat.reduceEqDiff, reduceIte, ↓reduceIte, Nat.reduceAdd, Z0, Z1, Z2, Z3, Z4, Z5, Nat.reduceLT, Z6, Z7, Int.reduceEq, Z8, Z9, Nat.reduceLeDiff, Za, Zb, Zc, Zd, Ze, Zf, bytesOf, Zg, Zh, Zi, Zj, Zk, Zl, Int.reduceLT, Int.reduceLE, Zm, Int.reduceToNat, Zn, Zo, Zp, Int.reduceAdd, Zq, Zr]
  refine condK_split _ (fun hq0 => ?_) (fun hq0 => ?_)
  · simp only [go_sem, Nat.reduceEqDiff, reduceIte, ↓reduceIte, Nat.reduceAdd, Z0, Z1, Z2, Z3, Z4, Z5, Nat.reduceLT, Z6, Z7, Int.reduceEq, Z8, Z9, Nat.reduceLeDiff, Za, Zb, Zc, Zd, Ze, Zf, bytesOf, Zg, Zh, Zi, Zj, Zk, Zl, Int.reduceLT, Int.reduceLE, Zm, Int.reduceToNat, Zn, Zo, Zp, Int.reduceAdd, Zq, Zr]
  have hq1 : ¬ q < 0 := by simpa using hq0
  have hsm : small c := by rcases hq with h | h; exact (hq1 h).elim; exact h.2
  simp only [go_sem, Nat.reduceEqDiff, reduceIte, ↓reduceIte, Nat.reduceAdd, Z0, Z1, Z2, Z3, Z4, Z5, Nat.reduceLT, Z6, Z7, Int.reduceEq, Z8, Z9, Nat.reduceLeDiff, Za, Zb, Zc, Zd, Ze, Zf, bytesOf, Zg, Zh, Zi, Zj, Zk, Zl, Int.reduceLT, Int.reduceLE, Zm, Int.reduceToNat, Zn, Zo, Zp, Int.reduceAdd, Zq, Zr]
  refine (szEvS l hll q _).mono ?_
  rintro r H' ⟨⟨z, rfl⟩, rfl⟩
  simp only [go_sem, Nat.reduceEqDiff, reduceIte, ↓reduceIte, Nat.reduceAdd, Z0, Z1, Z2, Z3, Z4, Z5, Nat.reduceLT, Z6, Z7, Int.reduceEq, Z8, Z9, Nat.reduceLeDiff, Za, Zb, Zc, Zd, Ze, Zf, bytesOf, Zg, Zh, Zi, Zj, Zk, Zl, Int.reduceLT, Int.reduceLE, Zm, Int.reduceToNat, Zn, Zo, Zp, Int.reduceAdd, Zq, Zr]
  refine condK_split _ (fun hz0 => ?_) (fun hz0 => ?_)
  · simp only [go_sem, Nat.reduceEqDiff, reduceIte, ↓reduceIte, Nat.reduceAdd, Z0, Z1, Z2, Z3, Z4, Z5, Nat.reduceLT, Z6, Z7, Int.reduceEq, Z8, Z9, Nat.reduceLeDiff, Za, Zb, Zc, Zd, Ze, Zf, bytesOf, Zg, Zh, Zi, Zj, Zk, Zl, Int.reduceLT, Int.reduceLE, Zm, Int.reduceToNat, Zn, Zo, Zp, Int.reduceAdd, Zq, Zr]
  simp only [go_sem, Nat.reduceEqDiff, reduceIte, ↓reduceIte, Nat.reduceAdd, Z0, Z1, Z2, Z3, Z4, Z5, Nat.reduceLT, Z6, Z7, Int.reduceEq, Z8, Z9, Nat.reduceLeDiff, Za, Zb, Zc, Zd, Ze, Zf, bytesOf, Zg, Zh, Zi, Zj, Zk, Zl, Int.reduceLT, Int.reduceLE, Zm, Int.reduceToNat, Zn, Zo, Zp, Int.reduceAdd, Zq, Zr, code_take]
  refine acall_pure (toCode' c hok hsm _) ?_
  simp only [go_sem, Nat.reduceEqDiff, reduceIte, ↓reduceIte, Nat.reduceAdd, Z0, Z1, Z2, Z3, Z4, Z5, Nat.reduceLT, Z6, Z7, Int.reduceEq, Z8, Z9, Nat.reduceLeDiff, Za, Zb, Zc, Zd, Ze, Zf, bytesOf, Zg, Zh, Zi, Zj, Zk, Zl, Int.reduceLT, Int.reduceLE, Zm, Int.reduceToNat, Zn, Zo, Zp, Int.reduceAdd, Zq, Zr]
  refine acall_pure (toIntS' inp hl _) ?_
  simp only [go_sem, Nat.reduceEqDiff, reduceIte, ↓reduceIte, Nat.reduceAdd, Z0, Z1, Z2, Z3, Z4, Z5, Nat.reduceLT, Z6, Z7, Int.reduceEq, Z8, Z9, Nat.reduceLeDiff, Za, Zb, Zc, Zd, Ze, Zf, bytesOf, Zg, Zh, Zi, Zj, Zk, Zl, Int.reduceLT, Int.reduceLE, Zm, Int.reduceToNat, Zn, Zo, Zp, Int.reduceAdd, Zq, Zr]
  refine acall_pure (toEvS l hln _) ?_
  simp only [go_sem, Nat.reduceEqDiff, reduceIte, ↓reduceIte, Nat.reduceAdd, Z0, Z1, Z2, Z3, Z4, Z5, Nat.reduceLT, Z6, Z7, Int.reduceEq, Z8, Z9, Nat.reduceLeDiff, Za, Zb, Zc, Zd, Ze, Zf, bytesOf, Zg, Zh, Zi, Zj, Zk, Zl, Int.reduceLT, Int.reduceLE, Zm, Int.reduceToNat, Zn, Zo, Zp, Int.reduceAdd, Zq, Zr]
  refine acall_pure (specTok c hok inp hl room l hll (lent_code' c rfl rfl rfl) (lent_ints' inp rfl) (lent_ev l rfl)) ?_
  simp only [go_sem, Nat.reduceEqDiff, reduceIte, ↓reduceIte, Nat.reduceAdd, Z0, Z1, Z2, Z3, Z4, Z5, Nat.reduceLT, Z6, Z7, Int.reduceEq, Z8, Z9, Nat.reduceLeDiff, Za, Zb, Zc, Zd, Ze, Zf, bytesOf, Zg, Zh, Zi, Zj, Zk, Zl, Int.reduceLT, Int.reduceLE, Zm, Int.reduceToNat, Zn, Zo, Zp, Int.reduceAdd, Zq, Zr, code_take]
  refine acall_pure (toCode' c hok hsm _) ?_
  simp only [go_sem, Nat.reduceEqDiff, reduceIte, ↓reduceIte, Nat.reduceAdd, Z0, Z1, Z2, Z3, Z4, Z5, Nat.reduceLT, Z6, Z7, Int.reduceEq, Z8, Z9, Nat.reduceLeDiff, Za, Zb, Zc, Zd, Ze, Zf, bytesOf, Zg, Zh, Zi, Zj, Zk, Zl, Int.reduceLT, Int.reduceLE, Zm, Int.reduceToNat, Zn, Zo, Zp, Int.reduceAdd, Zq, Zr]
  refine acall_pure (toIntS' inp hl _) ?_
  simp only [go_sem, Nat.reduceEqDiff, reduceIte, ↓reduceIte, Nat.reduceAdd, Z0, Z1, Z2, Z3, Z4, Z5, Nat.reduceLT, Z6, Z7, Int.reduceEq, Z8, Z9, Nat.reduceLeDiff, Za, Zb, Zc, Zd, Ze, Zf, bytesOf, Zg, Zh, Zi, Zj, Zk, Zl, Int.reduceLT, Int.reduceLE, Zm, Int.reduceToNat, Zn, Zo, Zp, Int.reduceAdd, Zq, Zr]
  refine acall_pure (toEvS l hln _) ?_
  simp only [go_sem, Nat.reduceEqDiff, reduceIte, ↓reduceIte, Nat.reduceAdd, Z0, Z1, Z2, Z3, Z4, Z5, Nat.reduceLT, Z6, Z7, Int.reduceEq, Z8, Z9, Nat.reduceLeDiff, Za, Zb, Zc, Zd, Ze, Zf, bytesOf, Zg, Zh, Zi, Zj, Zk, Zl, Int.reduceLT, Int.reduceLE, Zm, Int.reduceToNat, Zn, Zo, Zp, Int.reduceAdd, Zq, Zr]
  refine acall_pure (implTok c hok inp hl room l hll (lent_code' c rfl rfl rfl) (lent_ints' inp rfl) (lent_ev l rfl)) ?_
  simp only [go_sem, Nat.reduceEqDiff, reduceIte, ↓reduceIte, Nat.reduceAdd, Z0, Z1, Z2, Z3, Z4, Z5, Nat.reduceLT, Z6, Z7, Int.reduceEq, Z8, Z9, Nat.reduceLeDiff, Za, Zb, Zc, Zd, Ze, Zf, bytesOf, Zg, Zh, Zi, Zj, Zk, Zl, Int.reduceLT, Int.reduceLE, Zm, Int.reduceToNat, Zn, Zo, Zp, Int.reduceAdd, Zq, Zr]
  refine drw_same ?_
  simp only [go_sem, Nat.reduceEqDiff, reduceIte, ↓reduceIte, Nat.reduceAdd, Z0, Z1, Z2, Z3, Z4, Z5, Nat.reduceLT, Z6, Z7, Int.reduceEq, Z8, Z9, Nat.reduceLeDiff, Za, Zb, Zc, Zd, Ze, Zf, bytesOf, Zg, Zh, Zi, Zj, Zk, Zl, Int.reduceLT, Int.reduceLE, Zm, Int.reduceToNat, Zn, Zo, Zp, Int.reduceAdd, Zq, Zr, code_take]
  refine pcall_pure (fun A => (toCode_fresh c hok hsm).mono fun r H' ⟨h1, h2⟩ => ⟨h2, h1⟩) (Hext.refl _) ?_
  simp only [go_sem, Nat.reduceEqDiff, reduceIte, ↓reduceIte, Nat.reduceAdd, Z0, Z1, Z2, Z3, Z4, Z5, Nat.reduceLT, Z6, Z7, Int.reduceEq, Z8, Z9, Nat.reduceLeDiff, Za, Zb, Zc, Zd, Ze, Zf, bytesOf, Zg, Zh, Zi, Zj, Zk, Zl, Int.reduceLT, Int.reduceLE, Zm, Int.reduceToNat, Zn, Zo, Zp, Int.reduceAdd, Zq, Zr]
  refine (eqCode_any c c hok hok (lent_code' c rfl rfl rfl) (code_lent c)).mono ?_
  rintro r H' ⟨rfl, rfl⟩
  simp only [go_sem, Nat.reduceEqDiff, reduceIte, ↓reduceIte, Nat.reduceAdd, Z0, Z1, Z2, Z3, Z4, Z5, Nat.reduceLT, Z6, Z7, Int.reduceEq, Z8, Z9, Nat.reduceLeDiff, Za, Zb, Zc, Zd, Ze, Zf, bytesOf, Zg, Zh, Zi, Zj, Zk, Zl, Int.reduceLT, Int.reduceLE, Zm, Int.reduceToNat, Zn, Zo, Zp, Int.reduceAdd, Zq, Zr]
  refine acall_pure (toIntS' inp hl _) ?_
  simp only [go_sem, Nat.reduceEqDiff, reduceIte, ↓reduceIte, Nat.reduceAdd, Z0, Z1, Z2, Z3, Z4, Z5, Nat.reduceLT, Z6, Z7, Int.reduceEq, Z8, Z9, Nat.reduceLeDiff, Za, Zb, Zc, Zd, Ze, Zf, bytesOf, Zg, Zh, Zi, Zj, Zk, Zl, Int.reduceLT, Int.reduceLE, Zm, Int.reduceToNat, Zn, Zo, Zp, Int.reduceAdd, Zq, Zr]
  refine acall_pure (eqIntS_any inp inp hil hil (lent_ints' inp rfl) (lent_ints' inp rfl)) ?_
  simp only [go_sem, Nat.reduceEqDiff, reduceIte, ↓reduceIte, Nat.reduceAdd, Z0, Z1, Z2, Z3, Z4, Z5, Nat.reduceLT, Z6, Z7, Int.reduceEq, Z8, Z9, Nat.reduceLeDiff, Za, Zb, Zc, Zd, Ze, Zf, bytesOf, Zg, Zh, Zi, Zj, Zk, Zl, Int.reduceLT, Int.reduceLE, Zm, Int.reduceToNat, Zn, Zo, Zp, Int.reduceAdd, Zq, Zr]
  refine acall_pure (toEvS l hln _) ?_
  simp only [go_sem, Nat.reduceEqDiff, reduceIte, ↓reduceIte, Nat.reduceAdd, Z0, Z1, Z2, Z3, Z4, Z5, Nat.reduceLT, Z6, Z7, Int.reduceEq, Z8, Z9, Nat.reduceLeDiff, Za, Zb, Zc, Zd, Ze, Zf, bytesOf, Zg, Zh, Zi, Zj, Zk, Zl, Int.reduceLT, Int.reduceLE, Zm, Int.reduceToNat, Zn, Zo, Zp, Int.reduceAdd, Zq, Zr]
  refine acall_pure (eqEvS_any l l hll hll (lent_ev l rfl) (lent_ev l rfl)) ?_
  simp only [go_sem, Nat.reduceEqDiff, reduceIte, ↓reduceIte, Nat.reduceAdd, Z0, Z1, Z2, Z3, Z4, Z5, Nat.reduceLT, Z6, Z7, Int.reduceEq, Z8, Z9, Nat.reduceLeDiff, Za, Zb, Zc, Zd, Ze, Zf, bytesOf, Zg, Zh, Zi, Zj, Zk, Zl, Int.reduceLT, Int.reduceLE, Zm, Int.reduceToNat, Zn, Zo, Zp, Int.reduceAdd, Zq, Zr]
end Go.Proofs.Ytmbggdfceecojaa.Cd
