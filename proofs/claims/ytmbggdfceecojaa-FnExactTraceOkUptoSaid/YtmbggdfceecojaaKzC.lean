/- Texts MaI MaB MaC MaJ MaD MaE MaF MaK, merged. -/
import Derived.Test.YtmbggdfceecojaaKzB
/- The machine of the reference: what is put; its operations. -/
set_option linter.all false
namespace Go.Proofs.Ytmbggdfceecojaa.Cd
open Go.AM Mc Ho

theorem SM.setV {g f H m} (h : SM g f H m) {b : Nat} {cs : List AV} (hb : H[b]? = some (.var cs)) (h6 : cs.length ≠ 6) (h7 : cs.length ≠ 7) (o : AO) : SM g f (H.set b o) m :=
  h.keep fun j o' hj hp => by
    refine get_set hj ?_
    rintro rfl
    rw [hb] at hj; cases hj
    rcases hp with rfl | rfl | e | e | e | e
    · rw [h.mv] at hb; cases hb; simp [mCl] at h6
    · rw [h.wv] at hb; cases hb; simp [wCl] at h7
    · simp only [SG.ids, List.mem_cons] at e
      rcases e with rfl | rfl | e
      · rw [h.rg] at hb; cases hb
      · rw [h.sl] at hb; cases hb
      · obtain ⟨i, hi⟩ := List.getElem?_of_mem e; rw [h.rc i _ hi] at hb; cases hb
    · obtain ⟨v, e⟩ := own_gid h.hpo e; rw [e] at hb; cases hb
    · obtain ⟨v, e⟩ := own_gid h.out e; rw [e] at hb; cases hb
    · obtain ⟨ii, ver, off, all, e1, e2, e3⟩ := h.inp
      rw [e1] at e; cases e; rw [e2] at hb; cases hb

set_option maxHeartbeats 1000000 in
theorem sPrint {g f H m} (h : SM g f H m) {id ver : Nat} {k a : Int} {t : List UInt8} (hid : H[id]? = some (.rows 18 ver [vL k a t])) (hol : m.out.length ≤ 1000000) :
    ACall Try.prog 201 [.ptr g.iw 0, .p (.s [112, 114, 105, 110, 116]), .gs id ver 0 1] H (fun r H' => ∃ ou', SM { g with ou := ou' } f H' { m with out := m.out ++ [a] } ∧ Fr (smP g) (smP { g with ou := ou' }) H H') := by
  have q1 : decide (([112, 114, 105, 110, 116] : List UInt8) = [114, 101, 97, 100]) = false := by decide
  have hvl : vL k a t = [.p (.i .i64 k), .p (.i .i64 a), .p (.s t), .p .nl, .p (.b false), .p (.i .i64 0), .p (.i .i64 0), .p (.i .i64 0), .p (.s []), .p (.s []), .p (.i .i64 0), .p (.i .i64 0), .p (.s []), .p .nl, .p .nl, .p .nl, .p .nl, .p .nl] := rfl
  refine call201 (by simp) ?_
  simp only [go_sem, Nat.reduceEqDiff, reduceIte, ↓reduceIte, Nat.reduceAdd, Z0, Z1, Z2, Z3, Z4, Z5, Nat.reduceLT, Z6, Z7, Int.reduceEq, Z8, Z9, Nat.reduceLeDiff, Za, Zb, Zc, Zd, Ze, Zf, bytesOf, Zg, Zh, Zi, Zj, Zk, Zl, Int.reduceLT, Int.reduceLE, Zm, Int.reduceToNat, Zn, Zo, Zp, Int.reduceAdd, Zq, Zr, mc201, mr201, zl45_4, q1]
  have h1 := h.ext [AO.var [.p (.i .i64 0), .p (.i .i64 0), .p (.s []), .p .nl, .p (.b false), .p (.i .i64 0), .p (.i .i64 0), .p (.i .i64 0), .p (.s []), .p (.s []), .p (.i .i64 0), .p (.i .i64 0), .p (.s []), .p .nl, .p .nl, .p .nl, .p .nl, .p .nl]]
  have fr1 := Fr.ext (smP g) H [AO.var [.p (.i .i64 0), .p (.i .i64 0), .p (.s []), .p .nl, .p (.b false), .p (.i .i64 0), .p (.i .i64 0), .p (.i .i64 0), .p (.s []), .p (.s []), .p (.i .i64 0), .p (.i .i64 0), .p (.s []), .p .nl, .p .nl, .p .nl, .p .nl, .p .nl]]
  have hid1 := get_ext hid [AO.var [.p (.i .i64 0), .p (.i .i64 0), .p (.s []), .p .nl, .p (.b false), .p (.i .i64 0), .p (.i .i64 0), .p (.i .i64 0), .p (.s []), .p (.s []), .p (.i .i64 0), .p (.i .i64 0), .p (.s []), .p .nl, .p .nl, .p .nl, .p .nl, .p .nl]]
  have hl6 : (H ++ [AO.var [.p (.i .i64 0), .p (.i .i64 0), .p (.s []), .p .nl, .p (.b false), .p (.i .i64 0), .p (.i .i64 0), .p (.i .i64 0), .p (.s []), .p (.s []), .p (.i .i64 0), .p (.i .i64 0), .p (.s []), .p .nl, .p .nl, .p .nl, .p .nl, .p .nl]])[H.length]? = _ := get_off0 _ _
  have hbH : H.length ≤ H.length := Nat.le_refl _
  generalize H ++ [AO.var [.p (.i .i64 0), .p (.i .i64 0), .p (.s []), .p .nl, .p (.b false), .p (.i .i64 0), .p (.i .i64 0), .p (.i .i64 0), .p (.s []), .p (.s []), .p (.i .i64 0), .p (.i .i64 0), .p (.s []), .p .nl, .p .nl, .p .nl, .p .nl, .p .nl]] = H1 at h1 fr1 hid1 hl6 ⊢
  revert hbH
  generalize hbe : H.length = b at hl6 ⊢
  intro hbH
  rw [← hbe] at hbH
  have hbH : H.length ≤ b := by omega
  have hw := h1.wv
  rw [wCl] at hw
  have fin : ∀ (idn vern n : Nat) (H' : List AO), H'[idn]? = some (.rows 1 vern (intR .i64 m.out ++ [[.p (.i .i64 a)]])) → (gid g.ou = some idn ∨ H1.length ≤ idn) → (∀ (j : Nat) o, H1[j]? = some o → gid g.ou ≠ some j → H'[j]? = some o) → H1.length ≤ H'.length → n = (intR .i64 m.out).length + 1 →
      ∀ X, ∃ ou', SM { g with ou := ou' } f ((H'.set g.iw (.var [.p (.i .i64 f), g.ip, .p .nl, .p (.i .i64 (finE' m)), .p (.i .i64 (finC' m)), .gs idn vern 0 n, .p (.b m.fin.isSome)])).set b X) { m with out := m.out ++ [a] } ∧ Fr (smP g) (smP { g with ou := ou' }) H ((H'.set g.iw (.var [.p (.i .i64 f), g.ip, .p .nl, .p (.i .i64 (finE' m)), .p (.i .i64 (finC' m)), .gs idn vern 0 n, .p (.b m.fin.isSome)])).set b X) := by
    intro idn vern n H' gg hn kk hl en X
    obtain ⟨p1, p2⟩ := h1.print a gg hn kk hl en
    have hb' : (H'.set g.iw (.var (wCl { g with ou := .gs idn vern 0 n } f m)))[b]? = _ := set_ne' (kk _ _ h1.wv (gid_ne h1.out h1.wv (fun ver e => by cases e))) (kk _ _ hl6 (gid_ne h1.out hl6 (fun ver e => by cases e))) (by intro e; simp [wCl] at e)
    exact ⟨_, p1.setV hb' (by simp) (by simp) X, (fr1.trans p2).setNew hbH _⟩
  have hlr : (intR .i64 m.out).length = m.out.length := by simp [intR]
  rcases h1.out with ⟨e1, e2⟩ | ⟨io, vo, e1, e2⟩
  · refine drw_same ?_
    simp only [go_sem, Nat.reduceEqDiff, reduceIte, ↓reduceIte, Nat.reduceAdd, Z0, Z1, Z2, Z3, Z4, Z5, Nat.reduceLT, Z6, Z7, Int.reduceEq, Z8, Z9, Nat.reduceLeDiff, Za, Zb, Zc, Zd, Ze, Zf, bytesOf, Zg, Zh, Zi, Zj, Zk, Zl, Int.reduceLT, Int.reduceLE, Zm, Int.reduceToNat, Zn, Zo, Zp, Int.reduceAdd, Zq, Zr, hw, hid1, hvl]
    have em : intR .i64 m.out = [] := e2
    refine ⟨by simp, .inl ⟨e1, by simp, by simp, by simp, ?_⟩⟩
    have hb6 : ∀ A o, ((H1 ++ A).set g.iw o)[b]? = _ := fun A o => set_ne' (get_ext h1.wv A) (get_ext hl6 A) (by intro e; simp [wCl] at e)
    have hwx : ∀ A, (H1 ++ A)[g.iw]? = _ := fun A => get_ext hw A
    have hbb : ∀ A o o', (((H1 ++ A).set g.iw o).set b o')[b]? = _ := fun A o o' => set_get (hb6 A o)
    simp only [go_sem, Nat.reduceEqDiff, reduceIte, ↓reduceIte, Nat.reduceAdd, Z0, Z1, Z2, Z3, Z4, Z5, Nat.reduceLT, Z6, Z7, Int.reduceEq, Z8, Z9, Nat.reduceLeDiff, Za, Zb, Zc, Zd, Ze, Zf, bytesOf, Zg, Zh, Zi, Zj, Zk, Zl, Int.reduceLT, Int.reduceLE, Zm, Int.reduceToNat, Zn, Zo, Zp, Int.reduceAdd, Zq, Zr, hwx, hb6, hbb]
    refine fin (H1.length + 1) 0 1 (H1 ++ [AO.rows 1 0 [[.p (.i .i64 a)]], AO.rows 1 0 [[.p (.i .i64 a)]]]) ?_ (.inr (by omega)) (fun j o hj _ => get_ext hj _) (by simp) (by rw [em]; rfl) _
    rw [em]; simp
  · have hdv : ∀ (j : Nat) cs, H1[j]? = some (.var cs) → (H1.set io .dead)[j]? = some (.var cs) := fun j cs hj => set_ne' e2 hj (by intro e; cases e)
    have hdr : (H1.set io .dead)[id]? = _ := set_ne' e2 hid1 (by intro e; cases e)
    refine ⟨H1.set io .dead, dead_ext _ _, ?_⟩
    have hwd := hdv _ _ hw
    rw [e1] at hwd
    simp only [go_sem, Nat.reduceEqDiff, reduceIte, ↓reduceIte, Nat.reduceAdd, Z0, Z1, Z2, Z3, Z4, Z5, Nat.reduceLT, Z6, Z7, Int.reduceEq, Z8, Z9, Nat.reduceLeDiff, Za, Zb, Zc, Zd, Ze, Zf, bytesOf, Zg, Zh, Zi, Zj, Zk, Zl, Int.reduceLT, Int.reduceLE, Zm, Int.reduceToNat, Zn, Zo, Zp, Int.reduceAdd, Zq, Zr, hwd, hdr, hvl, e1]
    refine ⟨by simp, .inr (.inl ?_)⟩
    simp only [go_sem, Nat.reduceEqDiff, reduceIte, ↓reduceIte, Nat.reduceAdd, Z0, Z1, Z2, Z3, Z4, Z5, Nat.reduceLT, Z6, Z7, Int.reduceEq, Z8, Z9, Nat.reduceLeDiff, Za, Zb, Zc, Zd, Ze, Zf, bytesOf, Zg, Zh, Zi, Zj, Zk, Zl, Int.reduceLT, Int.reduceLE, Zm, Int.reduceToNat, Zn, Zo, Zp, Int.reduceAdd, Zq, Zr, e2]
    refine ⟨Nat.le_refl _, by rw [hlr]; omega, by rw [hlr]; omega, by simp, dead_ext' _ _ _, ?_⟩
    rw [List.take_length]
    have hw2 : ∀ A o, (H1.set io o ++ A)[g.iw]? = _ := fun A o => get_ext (set_ne' (o := o) e2 hw (by intro e; cases e)) A
    have hb2 : ∀ A o, (H1.set io o ++ A)[b]? = _ := fun A o => get_ext (set_ne' (o := o) e2 hl6 (by intro e; cases e)) A
    have hb6 : ∀ A o o', ((H1.set io o ++ A).set g.iw o')[b]? = _ := fun A o o' => set_ne' (hw2 A o) (hb2 A o) (by intro e; simp at e)
    have hbb : ∀ A o o' o'', (((H1.set io o ++ A).set g.iw o').set b o'')[b]? = _ := fun A o o' o'' => set_get (hb6 A o o')
    simp only [go_sem, Nat.reduceEqDiff, reduceIte, ↓reduceIte, Nat.reduceAdd, Z0, Z1, Z2, Z3, Z4, Z5, Nat.reduceLT, Z6, Z7, Int.reduceEq, Z8, Z9, Nat.reduceLeDiff, Za, Zb, Zc, Zd, Ze, Zf, bytesOf, Zg, Zh, Zi, Zj, Zk, Zl, Int.reduceLT, Int.reduceLE, Zm, Int.reduceToNat, Zn, Zo, Zp, Int.reduceAdd, Zq, Zr, hw2, hb6, hbb]
    refine fin io (vo + 1) _ (H1.set io (AO.rows 1 (vo + 1) (intR .i64 m.out ++ [[.p (.i .i64 a)]])) ++ [AO.rows 1 0 [[.p (.i .i64 a)]]]) ?_ (.inl (by rw [e1]; rfl)) (fun j o hj hne => ?_) (by simp) rfl _
    · exact get_ext (set_get e2) _
    · exact get_ext (get_set hj (by rintro rfl; exact hne (by rw [e1]; rfl))) _
end Go.Proofs.Ytmbggdfceecojaa.Cd

/- The machine of the program: its state, as it lies in memory. -/
set_option linter.all false
namespace Go.Proofs.Ytmbggdfceecojaa.Cd
open Go.AM Mc Ho

def wI (ids : List (Nat × Nat)) : WD → List AV
  | .n z => [.p (.i .i64 0), .p (.i .i64 z), .p (.s []), .p .nl]
  | .s t => [.p (.i .i64 1), .p (.i .i64 0), .p (.s t), .p .nl]
  | .r k => [.p (.i .i64 2), .p (.i .i64 0), .p (.s []), .gs (ids.getD k (0, 0)).1 0 0 (ids.getD k (0, 0)).2]
  | .b z => [.p (.i .i64 3), .p (.i .i64 z), .p (.s []), .p .nl]
theorem wI_len (ids) (w : WD) : (wI ids w).length = 4 := by cases w <;> rfl
theorem wI_len' (ids) (w : WD) : ((wI ids w).length == 4) = true := by cases w <;> rfl
def wKind : WD → Int | .n _ => 0 | .s _ => 1 | .r _ => 2 | .b _ => 3
def wNum : WD → Int | .n z => z | .s _ => 0 | .r _ => 0 | .b z => z
def wText : WD → List UInt8 | .s t => t | _ => []
def wRec (ids : List (Nat × Nat)) : WD → AV | .r k => .gs (ids.getD k (0, 0)).1 0 0 (ids.getD k (0, 0)).2 | _ => .p .nl
theorem wI_eta (ids) (w : WD) : wI ids w = [.p (.i .i64 (wKind w)), .p (.i .i64 (wNum w)), .p (.s (wText w)), wRec ids w] := by cases w <;> rfl

/-- the cells of the machine -/
def imR (a b inp room pc : AV) (R S : List AV) (e cd ou fl : AV) : List AV := [a, b, inp, room, pc] ++ (R ++ (S ++ [e, cd, ou, fl]))
section
variable {a b inp room pc e cd ou fl v : AV} {R S : List AV}
theorem imR_s2 : splice (imR a b inp room pc R S e cd ou fl) 2 [v] = some (imR a b v room pc R S e cd ou fl) := by
  have := @splice_mid [a, b] [inp] [v] (room :: pc :: (R ++ (S ++ [e, cd, ou, fl]))) 2 rfl rfl
  exact this
theorem imR_s3 : splice (imR a b inp room pc R S e cd ou fl) 3 [v] = some (imR a b inp v pc R S e cd ou fl) := by
  have := @splice_mid [a, b, inp] [room] [v] (pc :: (R ++ (S ++ [e, cd, ou, fl]))) 3 rfl rfl
  exact this
theorem imR_s4 : splice (imR a b inp room pc R S e cd ou fl) 4 [v] = some (imR a b inp room v R S e cd ou fl) := by
  have := @splice_mid [a, b, inp, room] [pc] [v] (R ++ (S ++ [e, cd, ou, fl])) 4 rfl rfl
  exact this
theorem imR_end (hR : R.length = 64) (hS : S.length = 256) {n : Nat} : (imR a b inp room pc R S e cd ou fl).drop (325 + n) = [e, cd, ou, fl].drop n := by
  have e1 : imR a b inp room pc R S e cd ou fl = ([a, b, inp, room, pc] ++ (R ++ S)) ++ [e, cd, ou, fl] := by simp [imR]
  rw [e1, ← List.drop_drop, drop_mid (by simp [hR, hS])]
theorem imR_327 (hR : R.length = 64) (hS : S.length = 256) : ((imR a b inp room pc R S e cd ou fl).drop 327).head? = some ou := by rw [show 327 = 325 + 2 from rfl, imR_end hR hS]; rfl
theorem imR_328 (hR : R.length = 64) (hS : S.length = 256) : ((imR a b inp room pc R S e cd ou fl).drop 328).head? = some fl := by rw [show 328 = 325 + 3 from rfl, imR_end hR hS]; rfl
theorem imR_s325 (hR : R.length = 64) (hS : S.length = 256) : splice (imR a b inp room pc R S e cd ou fl) 325 [v] = some (imR a b inp room pc R S v cd ou fl) := by
  have := @splice_mid ([a, b, inp, room, pc] ++ (R ++ S)) [e] [v] [cd, ou, fl] 325 (by simp [hR, hS]) rfl
  simpa [imR] using this
theorem imR_s326 (hR : R.length = 64) (hS : S.length = 256) : splice (imR a b inp room pc R S e cd ou fl) 326 [v] = some (imR a b inp room pc R S e v ou fl) := by
  have := @splice_mid ([a, b, inp, room, pc] ++ (R ++ (S ++ [e]))) [cd] [v] [ou, fl] 326 (by simp [hR, hS]) rfl
  simpa [imR] using this
theorem imR_s327 (hR : R.length = 64) (hS : S.length = 256) : splice (imR a b inp room pc R S e cd ou fl) 327 [v] = some (imR a b inp room pc R S e cd v fl) := by
  have := @splice_mid ([a, b, inp, room, pc] ++ (R ++ (S ++ [e, cd]))) [ou] [v] [fl] 327 (by simp [hR, hS]) rfl
  simpa [imR] using this
theorem imR_s328 (hR : R.length = 64) (hS : S.length = 256) : splice (imR a b inp room pc R S e cd ou fl) 328 [v] = some (imR a b inp room pc R S e cd ou v) := by
  have := @splice_mid ([a, b, inp, room, pc] ++ (R ++ (S ++ [e, cd, ou]))) [fl] [v] [] 328 (by simp [hR, hS]) rfl
  simpa [imR] using this
theorem imR_reg {ids} {l : List WD} {i : Nat} (h : i < l.length) : (imR a b inp room pc (l.flatMap (wI ids)) S e cd ou fl).drop (5 + i * 4) = wI ids l[i] ++ ((l.drop (i + 1)).flatMap (wI ids) ++ (S ++ [e, cd, ou, fl])) := by
  rw [imR, ← List.drop_drop, drop_mid (show 5 = [a, b, inp, room, pc].length from rfl), flat_drop (wI_len ids) h]
theorem imR_sreg {ids} {l : List WD} {i : Nat} (h : i < l.length) (w : WD) : splice (imR a b inp room pc (l.flatMap (wI ids)) S e cd ou fl) (5 + i * 4) (wI ids w) = some (imR a b inp room pc ((l.set i w).flatMap (wI ids)) S e cd ou fl) :=
  flat_splice (wI_len ids) h w [a, b, inp, room, pc] _ rfl
theorem imR_slot {ids} {l : List WD} (hR : R.length = 64) {i : Nat} (h : i < l.length) : (imR a b inp room pc R (l.flatMap (wI ids)) e cd ou fl).drop (69 + i * 4) = wI ids l[i] ++ ((l.drop (i + 1)).flatMap (wI ids) ++ [e, cd, ou, fl]) := by
  rw [imR, ← List.append_assoc, ← List.drop_drop, drop_mid (by simp [hR]), flat_drop (wI_len ids) h]
theorem imR_sslot {ids} {l : List WD} (hR : R.length = 64) {i : Nat} (h : i < l.length) (w : WD) : splice (imR a b inp room pc R (l.flatMap (wI ids)) e cd ou fl) (69 + i * 4) (wI ids w) = some (imR a b inp room pc R ((l.set i w).flatMap (wI ids)) e cd ou fl) := by
  have := flat_splice (wI_len ids) h w ([a, b, inp, room, pc] ++ R) [e, cd, ou, fl] (off := 69 + i * 4) (by simp [hR])
  simpa [imR] using this
end

def finE (m : MD) : Int := (m.fin.getD (0, 0)).1
def finC (m : MD) : Int := (m.fin.getD (0, 0)).2
def imC (c : CodeD) (ids : List (Nat × Nat)) (ou : AV) (m : MD) : List AV :=
  imR (.p (.l (inss c.ins))) (.p (.l (ints c.starts))) (.p (.l (ints m.inp))) (.p (.i .i64 m.room)) (.p (.i .i64 m.pc)) (m.regs.flatMap (wI ids)) (m.slots.flatMap (wI ids)) (.p (.i .i64 (finE m))) (.p (.i .i64 (finC m))) ou (.p (.b m.fin.isSome))

/-- the machine in memory: its cells at im, its records at ids, what it has put behind ou -/
structure IM (c : CodeD) (im : Nat) (ids : List (Nat × Nat)) (ou : AV) (H : List AO) (m : MD) : Prop where
  var : H[im]? = some (.var (imC c ids ou m))
  nd : (ids.map (·.1)).Nodup
  len : ids.length = m.heap.length
  rcs : ∀ (k : Nat) id n, ids[k]? = some (id, n) → n = (rowD m k).length ∧ H[id]? = some (.rows 4 0 ((rowD m k).map (wI ids)))
  out : OwnR H ou 1 (intR .i64 m.out)
/-- the objects that it owns -/
def imP (im : Nat) (ids : List (Nat × Nat)) (ou : AV) (j : Nat) : Prop := j = im ∨ (∃ n, (j, n) ∈ ids) ∨ ∃ v o n, ou = .gs j v o n

theorem IM.keep {c im ids ou H H' m} (h : IM c im ids ou H m) (k : ∀ (j : Nat) o, H[j]? = some o → imP im ids ou j → H'[j]? = some o) : IM c im ids ou H' m where
  var := k _ _ h.var (.inl rfl)
  nd := h.nd
  len := h.len
  rcs := fun i id n hi => ⟨(h.rcs i id n hi).1, k _ _ (h.rcs i id n hi).2 (.inr (.inl ⟨n, List.mem_of_getElem? hi⟩))⟩
  out := by
    rcases h.out with ⟨e1, e2⟩ | ⟨id, ver, e1, e2⟩
    · exact .inl ⟨e1, e2⟩
    · exact .inr ⟨id, ver, e1, k _ _ e2 (.inr (.inr ⟨_, _, _, e1⟩))⟩
theorem IM.ext {c im ids ou H m} (h : IM c im ids ou H m) (A : List AO) : IM c im ids ou (H ++ A) m := h.keep fun j o hj _ => get_ext hj A
/-- the machine's cells are written -/
theorem IM.put {c im ids ou H m} (h : IM c im ids ou H m) (m' : MD) (e1 : m'.heap = m.heap) (e2 : m'.out = m.out) : IM c im ids ou (H.set im (.var (imC c ids ou m'))) m' where
  var := set_get h.var
  nd := h.nd
  len := by rw [e1]; exact h.len
  rcs := fun i id n hi => by
    have e : rowD m' i = rowD m i := by unfold rowD; rw [e1]
    rw [e]
    refine ⟨(h.rcs i id n hi).1, get_set (h.rcs i id n hi).2 ?_⟩
    rintro rfl
    have := (h.rcs i _ n hi).2
    rw [h.var] at this; cases this
  out := by
    rw [e2]
    rcases h.out with ⟨e1, e2⟩ | ⟨id, ver, e1, e2⟩
    · exact .inl ⟨e1, e2⟩
    · refine .inr ⟨id, ver, e1, get_set e2 ?_⟩
      rintro rfl
      rw [h.var] at e2; cases e2
theorem IM.self {c im ids ou H m} (h : IM c im ids ou H m) : H.set im (.var (imC c ids ou m)) = H := set_same h.var
theorem fr_var {im ids ou} {H : List AO} (o : AO) : Fr (imP im ids ou) (imP im ids ou) H (H.set im o) := Fr.set o (.inl rfl)

theorem lenR {c m ids} (h : MOk c m) : (m.regs.flatMap (wI ids)).length = 64 := by rw [flat_len (wI_len ids), h.regs]
theorem lenS {c m ids} (h : MOk c m) : (m.slots.flatMap (wI ids)).length = 256 := by rw [flat_len (wI_len ids), h.slots]
theorem regAt {c m} (h : MOk c m) {i : Int} (h0 : 0 ≤ i) (h1 : i < 16) : i.toNat < m.regs.length := by rw [h.regs]; omega
theorem reg_eq {m : MD} {i : Int} (h : i.toNat < m.regs.length) : m.regs[i.toNat] = m.g i := by
  unfold MD.g; rw [List.getD_eq_getElem?_getD, List.getElem?_eq_getElem h]; rfl
theorem slotAt {c m} (h : MOk c m) {i : Int} (h0 : 0 ≤ i) (h1 : i < 64) : i.toNat < m.slots.length := by rw [h.slots]; omega
theorem slot_eq {m : MD} {i : Int} (h : i.toNat < m.slots.length) : m.slots[i.toNat] = m.slots.getD i.toNat (.n 0) := by
  rw [List.getD_eq_getElem?_getD, List.getElem?_eq_getElem h]; rfl

/-! what the machine's cells read as, and how they are written -/
section
variable {c : CodeD} {m : MD} {ids : List (Nat × Nat)} {ou : AV}
theorem imC_reg (h : MOk c m) {i : Int} (h0 : 0 ≤ i) (h1 : i < 16) : ∃ X, (imC c ids ou m).drop (5 + i.toNat * 4) = wI ids (m.g i) ++ X := ⟨_, by rw [imC, imR_reg (regAt h h0 h1), reg_eq]⟩
theorem imC_kind (h : MOk c m) {i : Int} (h0 : 0 ≤ i) (h1 : i < 16) : ldV false 1 (some ((imC c ids ou m).drop (5 + i.toNat * 4))) = some (.p (.i .i64 (wKind (m.g i)))) := by
  obtain ⟨X, e⟩ := @imC_reg c m ids ou h i h0 h1; rw [e, wI_eta]; rfl
theorem imC_num (h : MOk c m) {i : Int} (h0 : 0 ≤ i) (h1 : i < 16) : ldV false 1 (some ((imC c ids ou m).drop (5 + i.toNat * 4 + 1))) = some (.p (.i .i64 (wNum (m.g i)))) := by
  obtain ⟨X, e⟩ := @imC_reg c m ids ou h i h0 h1; rw [← List.drop_drop, e, wI_eta]; rfl
theorem imC_text (h : MOk c m) {i : Int} (h0 : 0 ≤ i) (h1 : i < 16) : ldV false 1 (some ((imC c ids ou m).drop (5 + i.toNat * 4 + 2))) = some (.p (.s (wText (m.g i)))) := by
  obtain ⟨X, e⟩ := @imC_reg c m ids ou h i h0 h1; rw [← List.drop_drop, e, wI_eta]; rfl
theorem imC_rec (h : MOk c m) {i : Int} (h0 : 0 ≤ i) (h1 : i < 16) : ldV false 1 (some ((imC c ids ou m).drop (5 + i.toNat * 4 + 3))) = some (wRec ids (m.g i)) := by
  obtain ⟨X, e⟩ := @imC_reg c m ids ou h i h0 h1; rw [← List.drop_drop, e, wI_eta]; rfl
theorem imC_word (h : MOk c m) {i : Int} (h0 : 0 ≤ i) (h1 : i < 16) : ldV true 4 (some ((imC c ids ou m).drop (5 + i.toNat * 4))) = some (.st (wI ids (m.g i))) := by
  obtain ⟨X, e⟩ := @imC_reg c m ids ou h i h0 h1; rw [e]; show (takeN 4 _).map _ = _; rw [takeN_app' (wI_len _ _)]; rfl
theorem imC_slot (h : MOk c m) {i : Int} (h0 : 0 ≤ i) (h1 : i < 64) : ldV true 4 (some ((imC c ids ou m).drop (69 + i.toNat * 4))) = some (.st (wI ids (m.slots.getD i.toNat (.n 0)))) := by
  rw [imC, imR_slot (lenR h) (slotAt h h0 h1)]; show (takeN 4 _).map _ = _; rw [takeN_app' (wI_len _ _), slot_eq]; rfl
theorem imC_sreg (h : MOk c m) {i : Int} (h0 : 0 ≤ i) (h1 : i < 16) (w : WD) : splice (imC c ids ou m) (5 + i.toNat * 4) (wI ids w) = some (imC c ids ou (m.p i w)) := by
  rw [imC, imR_sreg (regAt h h0 h1) w]; rfl
theorem imC_sslot (h : MOk c m) {i : Int} (h0 : 0 ≤ i) (h1 : i < 64) (w : WD) : splice (imC c ids ou m) (69 + i.toNat * 4) (wI ids w) = some (imC c ids ou { m with slots := m.slots.set i.toNat w }) := by
  rw [imC, imR_sslot (lenR h) (slotAt h h0 h1) w]; rfl
theorem imC_room : ldV false 1 (some ((imC c ids ou m).drop 3)) = some (.p (.i .i64 m.room)) := rfl
theorem imC_pc : ldV false 1 (some ((imC c ids ou m).drop 4)) = some (.p (.i .i64 m.pc)) := rfl
theorem imC_ins' : ldV false 1 (some (imC c ids ou m)) = some (.p (.l (inss c.ins))) := rfl
theorem imC_starts : ldV false 1 (some ((imC c ids ou m).drop 1)) = some (.p (.l (ints c.starts))) := rfl
theorem imC_inp : ldV false 1 (some ((imC c ids ou m).drop 2)) = some (.p (.l (ints m.inp))) := rfl
theorem imC_sroom {v : Int} : splice (imC c ids ou m) 3 [.p (.i .i64 v)] = some (imC c ids ou { m with room := v }) := imR_s3
theorem imC_spc {v : Int} : splice (imC c ids ou m) 4 [.p (.i .i64 v)] = some (imC c ids ou { m with pc := v }) := imR_s4
theorem imC_sinp {v : List Int} : splice (imC c ids ou m) 2 [.p (.l (ints v))] = some (imC c ids ou { m with inp := v }) := imR_s2
theorem imC_ou (h : MOk c m) : ldV false 1 (some ((imC c ids ou m).drop 327)) = some ou := imR_327 (lenR h) (lenS h)
theorem imC_fl (h : MOk c m) : ldV false 1 (some ((imC c ids ou m).drop 328)) = some (.p (.b m.fin.isSome)) := imR_328 (lenR h) (lenS h)
end

/-- the end -/
theorem mEnd {c im ids ou H m} (h : IM c im ids ou H m) (hm : MOk c m) (a b : Int) :
    ACall Try.prog 153 [.ptr im 0, .p (.i .i64 a), .p (.i .i64 b)] H (fun r H' => H' = H.set im (.var (imC c ids ou (m.e a b)))) := by
  have hs : ∀ o, (H.set im o)[im]? = some o := fun o => set_get h.var
  refine call153 (by simp) ?_
  simp only [go_sem, Nat.reduceEqDiff, reduceIte, ↓reduceIte, Nat.reduceAdd, Z0, Z1, Z2, Z3, Z4, Z5, Nat.reduceLT, Z6, Z7, Int.reduceEq, Z8, Z9, Nat.reduceLeDiff, Za, Zb, Zc, Zd, Ze, Zf, bytesOf, Zg, Zh, Zi, Zj, Zk, Zl, Int.reduceLT, Int.reduceLE, Zm, Int.reduceToNat, Zn, Zo, Zp, Int.reduceAdd, Zq, Zr, mc153, mr153, h.var, imC, imR_s325 (lenR hm) (lenS hm), imR_s326 (lenR hm) (lenS hm), imR_s328 (lenR hm) (lenS hm), hs, List.set_set]
  rfl
end Go.Proofs.Ytmbggdfceecojaa.Cd

/- The machine of the program: its smaller methods. -/
set_option linter.all false
namespace Go.Proofs.Ytmbggdfceecojaa.Cd
open Go.AM Mc Ho

theorem mWantT {c im ids ou H m} (h : IM c im ids ou H m) (hm : MOk c m) {i : Int} (h0 : 0 ≤ i) (h1 : i < 16) {k : Int} (e : wKind (m.g i) = k) :
    ACall Try.prog 227 [.ptr im 0, .p (.i .i64 i), .p (.i .i64 k)] H (pureQ (.p (.b true)) H) := by
  refine call227 (by simp) ?_
  simp only [go_sem, Nat.reduceEqDiff, reduceIte, ↓reduceIte, Nat.reduceAdd, Z0, Z1, Z2, Z3, Z4, Z5, Nat.reduceLT, Z6, Z7, Int.reduceEq, Z8, Z9, Nat.reduceLeDiff, Za, Zb, Zc, Zd, Ze, Zf, bytesOf, Zg, Zh, Zi, Zj, Zk, Zl, Int.reduceLT, Int.reduceLE, Zm, Int.reduceToNat, Zn, Zo, Zp, Int.reduceAdd, Zq, Zr, mc227, mr227, h.var, h0, h1, Nat.add_zero, imC_kind hm h0 h1, e]
  exact ⟨rfl, rfl⟩
theorem mWantF {c im ids ou H m} (h : IM c im ids ou H m) (hm : MOk c m) {i : Int} (h0 : 0 ≤ i) (h1 : i < 16) {k : Int} (e : wKind (m.g i) ≠ k) :
    ACall Try.prog 227 [.ptr im 0, .p (.i .i64 i), .p (.i .i64 k)] H (pureQ (.p (.b false)) (H.set im (.var (imC c ids ou (m.e 0 0))))) := by
  have e' : decide (wKind (m.g i) = k) = false := by simp [e]
  refine call227 (by simp) ?_
  simp only [go_sem, Nat.reduceEqDiff, reduceIte, ↓reduceIte, Nat.reduceAdd, Z0, Z1, Z2, Z3, Z4, Z5, Nat.reduceLT, Z6, Z7, Int.reduceEq, Z8, Z9, Nat.reduceLeDiff, Za, Zb, Zc, Zd, Ze, Zf, bytesOf, Zg, Zh, Zi, Zj, Zk, Zl, Int.reduceLT, Int.reduceLE, Zm, Int.reduceToNat, Zn, Zo, Zp, Int.reduceAdd, Zq, Zr, mc227, mr227, h.var, h0, h1, Nat.add_zero, imC_kind hm h0 h1, e']
  refine (mEnd h hm 0 0).mono ?_
  rintro r H' rfl
  simp only [go_sem, Nat.reduceEqDiff, reduceIte, ↓reduceIte, Nat.reduceAdd, Z0, Z1, Z2, Z3, Z4, Z5, Nat.reduceLT, Z6, Z7, Int.reduceEq, Z8, Z9, Nat.reduceLeDiff, Za, Zb, Zc, Zd, Ze, Zf, bytesOf, Zg, Zh, Zi, Zj, Zk, Zl, Int.reduceLT, Int.reduceLE, Zm, Int.reduceToNat, Zn, Zo, Zp, Int.reduceAdd, Zq, Zr]
  exact ⟨rfl, rfl⟩

theorem mRoomF {c im ids ou H m} (h : IM c im ids ou H m) (hm : MOk c m) {n : Int} (h0 : 0 ≤ n) (e : m.room < n) :
    ACall Try.prog 198 [.ptr im 0, .p (.i .i64 n)] H (pureQ (.p (.b false)) (H.set im (.var (imC c ids ou (m.e 4 0))))) := by
  have e' : decide (m.room < n) = true := by simp [e]
  refine call198 (by simp) ?_
  simp only [go_sem, Nat.reduceEqDiff, reduceIte, ↓reduceIte, Nat.reduceAdd, Z0, Z1, Z2, Z3, Z4, Z5, Nat.reduceLT, Z6, Z7, Int.reduceEq, Z8, Z9, Nat.reduceLeDiff, Za, Zb, Zc, Zd, Ze, Zf, bytesOf, Zg, Zh, Zi, Zj, Zk, Zl, Int.reduceLT, Int.reduceLE, Zm, Int.reduceToNat, Zn, Zo, Zp, Int.reduceAdd, Zq, Zr, mc198, mr198, h.var, imC_room, e']
  refine (mEnd h hm 4 0).mono ?_
  rintro r H' rfl
  simp only [go_sem, Nat.reduceEqDiff, reduceIte, ↓reduceIte, Nat.reduceAdd, Z0, Z1, Z2, Z3, Z4, Z5, Nat.reduceLT, Z6, Z7, Int.reduceEq, Z8, Z9, Nat.reduceLeDiff, Za, Zb, Zc, Zd, Ze, Zf, bytesOf, Zg, Zh, Zi, Zj, Zk, Zl, Int.reduceLT, Int.reduceLE, Zm, Int.reduceToNat, Zn, Zo, Zp, Int.reduceAdd, Zq, Zr]
  exact ⟨rfl, rfl⟩
theorem mRoomT {c im ids ou H m} (h : IM c im ids ou H m) (hm : MOk c m) {n : Int} (h0 : 0 ≤ n) (e : ¬ m.room < n) :
    ACall Try.prog 198 [.ptr im 0, .p (.i .i64 n)] H (pureQ (.p (.b true)) (H.set im (.var (imC c ids ou { m with room := m.room - n })))) := by
  have r0 := hm.room0
  have r1 := hm.room
  have e' : decide (m.room < n) = false := by simp [e]
  have ew : wr .i64 (m.room - n) = m.room - n := wr64 (by omega) (by omega)
  refine call198 (by simp) ?_
  simp only [go_sem, Nat.reduceEqDiff, reduceIte, ↓reduceIte, Nat.reduceAdd, Z0, Z1, Z2, Z3, Z4, Z5, Nat.reduceLT, Z6, Z7, Int.reduceEq, Z8, Z9, Nat.reduceLeDiff, Za, Zb, Zc, Zd, Ze, Zf, bytesOf, Zg, Zh, Zi, Zj, Zk, Zl, Int.reduceLT, Int.reduceLE, Zm, Int.reduceToNat, Zn, Zo, Zp, Int.reduceAdd, Zq, Zr, mc198, mr198, h.var, imC_room, e', ew, imC_sroom]
  exact ⟨rfl, rfl⟩

theorem wKind_r {w : WD} (h : ∀ k, w ≠ .r k) : wKind w ≠ 2 := by cases w <;> simp [wKind] at *
theorem wKind_s {w : WD} (h : ∀ k, w ≠ .s k) : wKind w ≠ 1 := by cases w <;> simp [wKind] at *
theorem wKind_n {w : WD} (h : ∀ k, w ≠ .n k) : wKind w ≠ 0 := by cases w <;> simp [wKind] at *
theorem wKind_b {w : WD} (h : ∀ k, w ≠ .b k) : wKind w ≠ 3 := by cases w <;> simp [wKind] at *

/-- a record that a register has -/
theorem recAt {c im ids ou H m} (h : IM c im ids ou H m) (hm : MOk c m) {i : Int} (h0 : 0 ≤ i) (h1 : i < 16) {k : Nat} (ek : m.g i = .r k) :
    ∃ id l, ids[k]? = some (id, l) ∧ wRec ids (m.g i) = .gs id 0 0 l ∧ l = (rowD m k).length ∧ l ≤ 4000 ∧ H[id]? = some (.rows 4 0 ((rowD m k).map (wI ids))) ∧ k < m.heap.length := by
  have hk : k < m.heap.length := by have := hm.gOk h0 h1; rw [ek] at this; exact this
  obtain ⟨p, hp⟩ : ∃ p, ids[k]? = some p := ⟨_, List.getElem?_eq_getElem (by rw [h.len]; exact hk)⟩
  obtain ⟨id, l⟩ := p
  obtain ⟨hl, hr⟩ := h.rcs k id l hp
  have hrow := (hm.wh _ (rowD_mem hk)).1
  exact ⟨id, l, hp, by rw [ek]; simp [wRec, List.getD_eq_getElem?_getD, hp], hl, by omega, hr, hk⟩

theorem mMemberT {c im ids ou H m} (h : IM c im ids ou H m) (hm : MOk c m) {i : Int} (h0 : 0 ≤ i) (h1 : i < 16) {n : Int} (hn : 0 ≤ n) {k id l : Nat} (ek : m.g i = .r k) (hp : ids[k]? = some (id, l)) (hlt : n < (rowD m k).length) :
    ACall Try.prog 199 [.ptr im 0, .p (.i .i64 i), .p (.i .i64 n)] H (pureQ (.ep id 0 n.toNat 0) H) := by
  obtain ⟨id', l', hp', e1, hl, hl4, hr, hk⟩ := recAt h hm h0 h1 ek
  rw [hp] at hp'; cases hp'
  have hlm : l ≤ maxL := by unfold maxL; omega
  have hlt' : n < (l : Int) := by omega
  have d : decide ((l : Int) ≤ n) = false := by simp; omega
  refine call199 (by simp) ?_
  simp only [go_sem, Nat.reduceEqDiff, reduceIte, ↓reduceIte, Nat.reduceAdd, Z0, Z1, Z2, Z3, Z4, Z5, Nat.reduceLT, Z6, Z7, Int.reduceEq, Z8, Z9, Nat.reduceLeDiff, Za, Zb, Zc, Zd, Ze, Zf, bytesOf, Zg, Zh, Zi, Zj, Zk, Zl, Int.reduceLT, Int.reduceLE, Zm, Int.reduceToNat, Zn, Zo, Zp, Int.reduceAdd, Zq, Zr, mc199, mr199]
  refine acall_pure (mWantT h hm h0 h1 (k := 2) (by rw [ek]; rfl)) ?_
  simp only [go_sem, Nat.reduceEqDiff, reduceIte, ↓reduceIte, Nat.reduceAdd, Z0, Z1, Z2, Z3, Z4, Z5, Nat.reduceLT, Z6, Z7, Int.reduceEq, Z8, Z9, Nat.reduceLeDiff, Za, Zb, Zc, Zd, Ze, Zf, bytesOf, Zg, Zh, Zi, Zj, Zk, Zl, Int.reduceLT, Int.reduceLE, Zm, Int.reduceToNat, Zn, Zo, Zp, Int.reduceAdd, Zq, Zr, h.var, h0, h1, Nat.add_zero, imC_rec hm h0 h1, e1]
  intro _
  simp only [go_sem, Nat.reduceEqDiff, reduceIte, ↓reduceIte, Nat.reduceAdd, Z0, Z1, Z2, Z3, Z4, Z5, Nat.reduceLT, Z6, Z7, Int.reduceEq, Z8, Z9, Nat.reduceLeDiff, Za, Zb, Zc, Zd, Ze, Zf, bytesOf, Zg, Zh, Zi, Zj, Zk, Zl, Int.reduceLT, Int.reduceLE, Zm, Int.reduceToNat, Zn, Zo, Zp, Int.reduceAdd, Zq, Zr, d, h.var, h0, h1, imC_rec hm h0 h1, e1, hn, hlt', hr]
  exact ⟨rfl, rfl⟩
theorem mMemberF {c im ids ou H m} (h : IM c im ids ou H m) (hm : MOk c m) {i : Int} (h0 : 0 ≤ i) (h1 : i < 16) {n : Int} (hn : 0 ≤ n) (hno : ∀ k, m.g i = .r k → ¬ n < (rowD m k).length) :
    ACall Try.prog 199 [.ptr im 0, .p (.i .i64 i), .p (.i .i64 n)] H (pureQ (.p .np) (H.set im (.var (imC c ids ou (m.e 0 0))))) := by
  refine call199 (by simp) ?_
  simp only [go_sem, Nat.reduceEqDiff, reduceIte, ↓reduceIte, Nat.reduceAdd, Z0, Z1, Z2, Z3, Z4, Z5, Nat.reduceLT, Z6, Z7, Int.reduceEq, Z8, Z9, Nat.reduceLeDiff, Za, Zb, Zc, Zd, Ze, Zf, bytesOf, Zg, Zh, Zi, Zj, Zk, Zl, Int.reduceLT, Int.reduceLE, Zm, Int.reduceToNat, Zn, Zo, Zp, Int.reduceAdd, Zq, Zr, mc199, mr199]
  by_cases ek : ∃ k, m.g i = .r k
  · obtain ⟨k, ek⟩ := ek
    obtain ⟨id, l, hp, e1, hl, hl4, hr, hk⟩ := recAt h hm h0 h1 ek
    have hlm : l ≤ maxL := by unfold maxL; omega
    have d : decide ((l : Int) ≤ n) = true := by have := hno k ek; simp; omega
    refine acall_pure (mWantT h hm h0 h1 (k := 2) (by rw [ek]; rfl)) ?_
    simp only [go_sem, Nat.reduceEqDiff, reduceIte, ↓reduceIte, Nat.reduceAdd, Z0, Z1, Z2, Z3, Z4, Z5, Nat.reduceLT, Z6, Z7, Int.reduceEq, Z8, Z9, Nat.reduceLeDiff, Za, Zb, Zc, Zd, Ze, Zf, bytesOf, Zg, Zh, Zi, Zj, Zk, Zl, Int.reduceLT, Int.reduceLE, Zm, Int.reduceToNat, Zn, Zo, Zp, Int.reduceAdd, Zq, Zr, h.var, h0, h1, Nat.add_zero, imC_rec hm h0 h1, e1]
    intro _
    simp only [go_sem, Nat.reduceEqDiff, reduceIte, ↓reduceIte, Nat.reduceAdd, Z0, Z1, Z2, Z3, Z4, Z5, Nat.reduceLT, Z6, Z7, Int.reduceEq, Z8, Z9, Nat.reduceLeDiff, Za, Zb, Zc, Zd, Ze, Zf, bytesOf, Zg, Zh, Zi, Zj, Zk, Zl, Int.reduceLT, Int.reduceLE, Zm, Int.reduceToNat, Zn, Zo, Zp, Int.reduceAdd, Zq, Zr, d]
    refine (mEnd h hm 0 0).mono ?_
    rintro r H' rfl
    simp only [go_sem, Nat.reduceEqDiff, reduceIte, ↓reduceIte, Nat.reduceAdd, Z0, Z1, Z2, Z3, Z4, Z5, Nat.reduceLT, Z6, Z7, Int.reduceEq, Z8, Z9, Nat.reduceLeDiff, Za, Zb, Zc, Zd, Ze, Zf, bytesOf, Zg, Zh, Zi, Zj, Zk, Zl, Int.reduceLT, Int.reduceLE, Zm, Int.reduceToNat, Zn, Zo, Zp, Int.reduceAdd, Zq, Zr]
    exact ⟨rfl, rfl⟩
  · refine acall_pure (mWantF h hm h0 h1 (k := 2) (wKind_r fun k e => ek ⟨k, e⟩)) ?_
    simp only [go_sem, Nat.reduceEqDiff, reduceIte, ↓reduceIte, Nat.reduceAdd, Z0, Z1, Z2, Z3, Z4, Z5, Nat.reduceLT, Z6, Z7, Int.reduceEq, Z8, Z9, Nat.reduceLeDiff, Za, Zb, Zc, Zd, Ze, Zf, bytesOf, Zg, Zh, Zi, Zj, Zk, Zl, Int.reduceLT, Int.reduceLE, Zm, Int.reduceToNat, Zn, Zo, Zp, Int.reduceAdd, Zq, Zr]
    exact ⟨rfl, rfl⟩

theorem mNum (z : Int) (ids : List (Nat × Nat)) (H : List AO) : ACall Try.prog 196 [.p (.i .i64 z)] H (pureQ (.st (wI ids (.n z))) H) := by
  have h : ACall Try.prog 196 [.p (.i .i64 z)] [] (fun r H' => r = .st (wI ids (.n z))) := by
    refine call196 (by simp) ?_
    simp only [go_sem, Nat.reduceEqDiff, reduceIte, ↓reduceIte, Nat.reduceAdd, Z0, Z1, Z2, Z3, Z4, Z5, Nat.reduceLT, Z6, Z7, Int.reduceEq, Z8, Z9, Nat.reduceLeDiff, Za, Zb, Zc, Zd, Ze, Zf, bytesOf, Zg, Zh, Zi, Zj, Zk, Zl, Int.reduceLT, Int.reduceLE, Zm, Int.reduceToNat, Zn, Zo, Zp, Int.reduceAdd, Zq, Zr, mc196, mr196, wI]
  refine (acall_lend h (fun r H' e => ?_) (lentAll_cons (.pure _) (lentAll_nil _))).mono fun r H' ⟨h1, _, h2⟩ => ⟨h2, h1⟩
  subst e
  exact grnd_st _ (by intro a ha; simp [wI] at ha; rcases ha with rfl | rfl | rfl | rfl; exact grnd_i _ _; exact grnd_i _ _; exact grnd_s _; exact grnd_nl)

theorem roomS_eq {n : Nat} (h : n ≤ 100000) : wr .i64 (wr .i64 ((wr .i64 ((n : Int) + 7)).tdiv 8) + 1) = roomS n := by
  have e1 : wr .i64 ((n : Int) + 7) = ((n + 7 : Nat) : Int) := by rw [wr64 (by omega) (by omega)]; omega
  have e2 : (((n + 7 : Nat) : Int)).tdiv 8 = (((n + 7) / 8 : Nat) : Int) := by rw [Int.tdiv_eq_ediv_of_nonneg (by omega)]; omega
  have e3 : wr .i64 (((n + 7) / 8 : Nat) : Int) = (((n + 7) / 8 : Nat) : Int) := wr64 (by omega) (by omega)
  have e4 : wr .i64 ((((n + 7) / 8 : Nat) : Int) + 1) = (((n + 7) / 8 : Nat) : Int) + 1 := wr64 (by omega) (by omega)
  rw [e1, e2, e3, e4]
  unfold roomS; omega
theorem roomS_pos (n : Nat) : 0 ≤ roomS n := by unfold roomS; omega

/-- an instruction's copy, and the machine -/
structure IX (c : CodeD) (im : Nat) (ids : List (Nat × Nat)) (ou : AV) (H0 H : List AO) (m : MD) (b : Nat) (x : InsD) : Prop where
  mm : IM c im ids ou H m
  bx : H[b]? = some (.var [.p (.i .i64 x.op), .p (.i .i64 x.a), .p (.i .i64 x.b), .p (.i .i64 x.c), .p (.i .i64 x.n), .p (.s x.text)])
  ne : im ≠ b
  fr : Fr (imP im ids ou) (imP im ids ou) H0 H
theorem IX.new {c im ids ou H m} (h : IM c im ids ou H m) (x : InsD) : IX c im ids ou H (H ++ [.var [.p (.i .i64 x.op), .p (.i .i64 x.a), .p (.i .i64 x.b), .p (.i .i64 x.c), .p (.i .i64 x.n), .p (.s x.text)]]) m H.length x :=
  ⟨h.ext _, get_off0 _ _, by have := get_lt h.var; omega, Fr.ext _ _ _⟩
theorem IX.put {c im ids ou H0 H m b x} (h : IX c im ids ou H0 H m b x) (m' : MD) (e1 : m'.heap = m.heap) (e2 : m'.out = m.out) : IX c im ids ou H0 (H.set im (.var (imC c ids ou m'))) m' b x :=
  ⟨h.mm.put m' e1 e2, get_set h.bx h.ne, h.ne, h.fr.trans (fr_var _)⟩
theorem IX.self {c im ids ou H0 H m b x} (h : IX c im ids ou H0 H m b x) : H.set im (.var (imC c ids ou m)) = H := set_same h.mm.var

set_option maxHeartbeats 1000000 in
theorem mTexts {c im ids ou H m} (h : IM c im ids ou H m) (hm : MOk c m) {x : InsD} (hx : InsOk c x) (ht : x.text = [94] ∨ x.text = [115, 105, 122, 101]) :
    ACall Try.prog 226 [.ptr im 0, .st (x.cells.map .p)] H (fun r H' => IM c im ids ou H' (opD x m) ∧ Fr (imP im ids ou) (imP im ids ou) H H') := by
  have hX := IX.new h x
  have b0 := hx.rb.1
  have b1 := hx.rb.2
  have c0 := hx.rc.1
  have c1 := hx.rc.2
  have a0 := hx.ra.1
  have a1 := hx.ra.2
  have hd : opD x m = if x.text = [115, 105, 122, 101] then (match m.g x.b with | .s t => m.p x.a (.n t.length) | _ => m.e 0 0) else (match m.g x.b, m.g x.c with | .s t, .s u => catD x m t u | _, _ => m.e 0 0) := by
    unfold opD
    rcases ht with e | e
    · rw [if_neg (by rw [e]; simp), if_neg (by rw [e]; simp), if_neg (by rw [e]; simp), if_pos e, if_neg (by rw [e]; simp)]
      cases m.g x.b <;> cases m.g x.c <;> rfl
    · rw [if_neg (by rw [e]; simp), if_neg (by rw [e]; simp), if_pos e, if_pos e]
      cases m.g x.b <;> rfl
  refine call226 (by simp) ?_
  simp only [go_sem, Nat.reduceEqDiff, reduceIte, ↓reduceIte, Nat.reduceAdd, Z0, Z1, Z2, Z3, Z4, Z5, Nat.reduceLT, Z6, Z7, Int.reduceEq, Z8, Z9, Nat.reduceLeDiff, Za, Zb, Zc, Zd, Ze, Zf, bytesOf, Zg, Zh, Zi, Zj, Zk, Zl, Int.reduceLT, Int.reduceLE, Zm, Int.reduceToNat, Zn, Zo, Zp, Int.reduceAdd, Zq, Zr, mc226, mr226, InsD.cells]
  generalize H ++ [AO.var [AV.p (.i .i64 x.op), .p (.i .i64 x.a), .p (.i .i64 x.b), .p (.i .i64 x.c), .p (.i .i64 x.n), .p (.s x.text)]] = H1 at hX ⊢
  generalize H.length = b at hX ⊢
  have fin : ∀ m', m'.heap = m.heap → m'.out = m.out → opD x m = m' → IM c im ids ou (H1.set im (.var (imC c ids ou m'))) (opD x m) ∧ Fr (imP im ids ou) (imP im ids ou) H (H1.set im (.var (imC c ids ou m'))) := by
    rintro m' e1 e2 e3
    rw [e3]
    exact ⟨(hX.put m' e1 e2).mm, (hX.put m' e1 e2).fr⟩
  have hM := hX.mm
  have hv := hM.var
  have hs : ∀ o, (H1.set im o)[im]? = some o := fun o => set_get hv
  have hbs : ∀ o, (H1.set im o)[b]? = some (.var [.p (.i .i64 x.op), .p (.i .i64 x.a), .p (.i .i64 x.b), .p (.i .i64 x.c), .p (.i .i64 x.n), .p (.s x.text)]) := fun o => get_set hX.bx hX.ne
  by_cases eb : ∃ t, m.g x.b = .s t
  case neg =>
    refine acall_pure (mWantF hM hm b0 b1 (k := 1) (wKind_s fun k e => eb ⟨k, e⟩)) ?_
    simp only [go_sem, Nat.reduceEqDiff, reduceIte, ↓reduceIte, Nat.reduceAdd, Z0, Z1, Z2, Z3, Z4, Z5, Nat.reduceLT, Z6, Z7, Int.reduceEq, Z8, Z9, Nat.reduceLeDiff, Za, Zb, Zc, Zd, Ze, Zf, bytesOf, Zg, Zh, Zi, Zj, Zk, Zl, Int.reduceLT, Int.reduceLE, Zm, Int.reduceToNat, Zn, Zo, Zp, Int.reduceAdd, Zq, Zr]
    refine fin _ rfl rfl ?_
    rw [hd]
    split
    · split
      · rename_i t e; exact absurd ⟨t, e⟩ eb
      · rfl
    · split
      · rename_i t u e _; exact absurd ⟨t, e⟩ eb
      · rfl
  obtain ⟨t, eb⟩ := eb
  have tl : t.length ≤ 4000 := by have := hm.gOk b0 b1; rw [eb] at this; exact this
  refine acall_pure (mWantT hM hm b0 b1 (k := 1) (by rw [eb]; rfl)) ?_
  simp only [go_sem, Nat.reduceEqDiff, reduceIte, ↓reduceIte, Nat.reduceAdd, Z0, Z1, Z2, Z3, Z4, Z5, Nat.reduceLT, Z6, Z7, Int.reduceEq, Z8, Z9, Nat.reduceLeDiff, Za, Zb, Zc, Zd, Ze, Zf, bytesOf, Zg, Zh, Zi, Zj, Zk, Zl, Int.reduceLT, Int.reduceLE, Zm, Int.reduceToNat, Zn, Zo, Zp, Int.reduceAdd, Zq, Zr]
  refine drw_same ?_
  simp only [go_sem, Nat.reduceEqDiff, reduceIte, ↓reduceIte, Nat.reduceAdd, Z0, Z1, Z2, Z3, Z4, Z5, Nat.reduceLT, Z6, Z7, Int.reduceEq, Z8, Z9, Nat.reduceLeDiff, Za, Zb, Zc, Zd, Ze, Zf, bytesOf, Zg, Zh, Zi, Zj, Zk, Zl, Int.reduceLT, Int.reduceLE, Zm, Int.reduceToNat, Zn, Zo, Zp, Int.reduceAdd, Zq, Zr, hX.bx, hv, b0, b1, imC_text hm b0 b1, eb, wText]
  by_cases es : x.text = [115, 105, 122, 101]
  · simp only [go_sem, Nat.reduceEqDiff, reduceIte, ↓reduceIte, Nat.reduceAdd, Z0, Z1, Z2, Z3, Z4, Z5, Nat.reduceLT, Z6, Z7, Int.reduceEq, Z8, Z9, Nat.reduceLeDiff, Za, Zb, Zc, Zd, Ze, Zf, bytesOf, Zg, Zh, Zi, Zj, Zk, Zl, Int.reduceLT, Int.reduceLE, Zm, Int.reduceToNat, Zn, Zo, Zp, Int.reduceAdd, Zq, Zr, hX.bx, hv, es]
    refine drw_same ?_
    simp only [go_sem, Nat.reduceEqDiff, reduceIte, ↓reduceIte, Nat.reduceAdd, Z0, Z1, Z2, Z3, Z4, Z5, Nat.reduceLT, Z6, Z7, Int.reduceEq, Z8, Z9, Nat.reduceLeDiff, Za, Zb, Zc, Zd, Ze, Zf, bytesOf, Zg, Zh, Zi, Zj, Zk, Zl, Int.reduceLT, Int.reduceLE, Zm, Int.reduceToNat, Zn, Zo, Zp, Int.reduceAdd, Zq, Zr, hX.bx, hv]
    refine pcall_pure (fun A => mNum _ ids _) (Hext.refl _) ?_
    simp only [go_sem, Nat.reduceEqDiff, reduceIte, ↓reduceIte, Nat.reduceAdd, Z0, Z1, Z2, Z3, Z4, Z5, Nat.reduceLT, Z6, Z7, Int.reduceEq, Z8, Z9, Nat.reduceLeDiff, Za, Zb, Zc, Zd, Ze, Zf, bytesOf, Zg, Zh, Zi, Zj, Zk, Zl, Int.reduceLT, Int.reduceLE, Zm, Int.reduceToNat, Zn, Zo, Zp, Int.reduceAdd, Zq, Zr, hX.bx, hv, a0, a1, wI_len', imC_sreg hm a0 a1]
    refine fin _ rfl rfl ?_
    rw [hd, if_pos es, eb]
  have de : decide (x.text = [115, 105, 122, 101]) = false := by simp [es]
  simp only [go_sem, Nat.reduceEqDiff, reduceIte, ↓reduceIte, Nat.reduceAdd, Z0, Z1, Z2, Z3, Z4, Z5, Nat.reduceLT, Z6, Z7, Int.reduceEq, Z8, Z9, Nat.reduceLeDiff, Za, Zb, Zc, Zd, Ze, Zf, bytesOf, Zg, Zh, Zi, Zj, Zk, Zl, Int.reduceLT, Int.reduceLE, Zm, Int.reduceToNat, Zn, Zo, Zp, Int.reduceAdd, Zq, Zr, hX.bx, de]
  by_cases ec : ∃ t, m.g x.c = .s t
  case neg =>
    refine acall_pure (mWantF hM hm c0 c1 (k := 1) (wKind_s fun k e => ec ⟨k, e⟩)) ?_
    simp only [go_sem, Nat.reduceEqDiff, reduceIte, ↓reduceIte, Nat.reduceAdd, Z0, Z1, Z2, Z3, Z4, Z5, Nat.reduceLT, Z6, Z7, Int.reduceEq, Z8, Z9, Nat.reduceLeDiff, Za, Zb, Zc, Zd, Ze, Zf, bytesOf, Zg, Zh, Zi, Zj, Zk, Zl, Int.reduceLT, Int.reduceLE, Zm, Int.reduceToNat, Zn, Zo, Zp, Int.reduceAdd, Zq, Zr]
    refine fin _ rfl rfl ?_
    rw [hd, if_neg es]
    split
    · rename_i t u _ e; exact absurd ⟨u, e⟩ ec
    · rfl
  obtain ⟨u, ec⟩ := ec
  have ul : u.length ≤ 4000 := by have := hm.gOk c0 c1; rw [ec] at this; exact this
  refine acall_pure (mWantT hM hm c0 c1 (k := 1) (by rw [ec]; rfl)) ?_
  have hd' : opD x m = catD x m t u := by rw [hd, if_neg es, eb, ec]
  have hsum : t.length + u.length ≤ maxL := by unfold maxL; omega
  simp only [go_sem, Nat.reduceEqDiff, reduceIte, ↓reduceIte, Nat.reduceAdd, Z0, Z1, Z2, Z3, Z4, Z5, Nat.reduceLT, Z6, Z7, Int.reduceEq, Z8, Z9, Nat.reduceLeDiff, Za, Zb, Zc, Zd, Ze, Zf, bytesOf, Zg, Zh, Zi, Zj, Zk, Zl, Int.reduceLT, Int.reduceLE, Zm, Int.reduceToNat, Zn, Zo, Zp, Int.reduceAdd, Zq, Zr]
  refine drw_same ?_
  simp only [go_sem, Nat.reduceEqDiff, reduceIte, ↓reduceIte, Nat.reduceAdd, Z0, Z1, Z2, Z3, Z4, Z5, Nat.reduceLT, Z6, Z7, Int.reduceEq, Z8, Z9, Nat.reduceLeDiff, Za, Zb, Zc, Zd, Ze, Zf, bytesOf, Zg, Zh, Zi, Zj, Zk, Zl, Int.reduceLT, Int.reduceLE, Zm, Int.reduceToNat, Zn, Zo, Zp, Int.reduceAdd, Zq, Zr, hX.bx, hv, c0, c1, imC_text hm c0 c1, ec, wText, hsum]
  intro _
  by_cases h5 : 500 < t.length + u.length
  · have d5 : decide ((500 : Int) < ((t.length + u.length : Nat) : Int)) = true := by simp; omega
    simp only [go_sem, Nat.reduceEqDiff, reduceIte, ↓reduceIte, Nat.reduceAdd, Z0, Z1, Z2, Z3, Z4, Z5, Nat.reduceLT, Z6, Z7, Int.reduceEq, Z8, Z9, Nat.reduceLeDiff, Za, Zb, Zc, Zd, Ze, Zf, bytesOf, Zg, Zh, Zi, Zj, Zk, Zl, Int.reduceLT, Int.reduceLE, Zm, Int.reduceToNat, Zn, Zo, Zp, Int.reduceAdd, Zq, Zr, d5]
    refine (mEnd hM hm 2 2).mono ?_
    rintro r H' rfl
    simp only [go_sem, Nat.reduceEqDiff, reduceIte, ↓reduceIte, Nat.reduceAdd, Z0, Z1, Z2, Z3, Z4, Z5, Nat.reduceLT, Z6, Z7, Int.reduceEq, Z8, Z9, Nat.reduceLeDiff, Za, Zb, Zc, Zd, Ze, Zf, bytesOf, Zg, Zh, Zi, Zj, Zk, Zl, Int.reduceLT, Int.reduceLE, Zm, Int.reduceToNat, Zn, Zo, Zp, Int.reduceAdd, Zq, Zr]
    refine fin _ rfl rfl ?_
    rw [hd', catD, if_pos h5]
  have d5 : decide ((500 : Int) < ((t.length + u.length : Nat) : Int)) = false := by simp; omega
  have er := roomS_eq (n := t.length + u.length) (by omega)
  simp only [go_sem, Nat.reduceEqDiff, reduceIte, ↓reduceIte, Nat.reduceAdd, Z0, Z1, Z2, Z3, Z4, Z5, Nat.reduceLT, Z6, Z7, Int.reduceEq, Z8, Z9, Nat.reduceLeDiff, Za, Zb, Zc, Zd, Ze, Zf, bytesOf, Zg, Zh, Zi, Zj, Zk, Zl, Int.reduceLT, Int.reduceLE, Zm, Int.reduceToNat, Zn, Zo, Zp, Int.reduceAdd, Zq, Zr, d5, hsum]
  intro _
  simp only [go_sem, Nat.reduceEqDiff, reduceIte, ↓reduceIte, Nat.reduceAdd, Z0, Z1, Z2, Z3, Z4, Z5, Nat.reduceLT, Z6, Z7, Int.reduceEq, Z8, Z9, Nat.reduceLeDiff, Za, Zb, Zc, Zd, Ze, Zf, bytesOf, Zg, Zh, Zi, Zj, Zk, Zl, Int.reduceLT, Int.reduceLE, Zm, Int.reduceToNat, Zn, Zo, Zp, Int.reduceAdd, Zq, Zr, er]
  by_cases hr : m.room < roomS (t.length + u.length)
  · refine acall_pure (mRoomF hM hm (roomS_pos _) hr) ?_
    simp only [go_sem, Nat.reduceEqDiff, reduceIte, ↓reduceIte, Nat.reduceAdd, Z0, Z1, Z2, Z3, Z4, Z5, Nat.reduceLT, Z6, Z7, Int.reduceEq, Z8, Z9, Nat.reduceLeDiff, Za, Zb, Zc, Zd, Ze, Zf, bytesOf, Zg, Zh, Zi, Zj, Zk, Zl, Int.reduceLT, Int.reduceLE, Zm, Int.reduceToNat, Zn, Zo, Zp, Int.reduceAdd, Zq, Zr]
    refine fin _ rfl rfl ?_
    rw [hd', catD, if_neg h5, if_pos hr]
  · refine acall_pure (mRoomT hM hm (roomS_pos _) hr) ?_
    have hm2 : MOk c { m with room := m.room - roomS (t.length + u.length) } := by
      have h1 := hm.room
      have h2 := hm.room0
      have h3 := roomS_pos (t.length + u.length)
      exact ⟨hm.regs, hm.slots, by simp only; omega, by simp only; omega, hm.wr, hm.ws, hm.wh⟩
    simp only [go_sem, Nat.reduceEqDiff, reduceIte, ↓reduceIte, Nat.reduceAdd, Z0, Z1, Z2, Z3, Z4, Z5, Nat.reduceLT, Z6, Z7, Int.reduceEq, Z8, Z9, Nat.reduceLeDiff, Za, Zb, Zc, Zd, Ze, Zf, bytesOf, Zg, Zh, Zi, Zj, Zk, Zl, Int.reduceLT, Int.reduceLE, Zm, Int.reduceToNat, Zn, Zo, Zp, Int.reduceAdd, Zq, Zr]
    refine drw_same ?_
    have ew : [AV.p (.i .i64 1), .p (.i .i64 0), .p (.s (t ++ u)), .p .nl] = wI ids (.s (t ++ u)) := rfl
    simp only [go_sem, Nat.reduceEqDiff, reduceIte, ↓reduceIte, Nat.reduceAdd, Z0, Z1, Z2, Z3, Z4, Z5, Nat.reduceLT, Z6, Z7, Int.reduceEq, Z8, Z9, Nat.reduceLeDiff, Za, Zb, Zc, Zd, Ze, Zf, bytesOf, Zg, Zh, Zi, Zj, Zk, Zl, Int.reduceLT, Int.reduceLE, Zm, Int.reduceToNat, Zn, Zo, Zp, Int.reduceAdd, Zq, Zr, hbs, hs, a0, a1, ew, wI_len', imC_sreg hm2 a0 a1, List.set_set]
    refine fin _ rfl rfl ?_
    rw [hd', catD, if_neg h5, if_neg hr]; rfl
end Go.Proofs.Ytmbggdfceecojaa.Cd

/- The machine of the reference: its operations. -/
set_option linter.all false
namespace Go.Proofs.Ytmbggdfceecojaa.Cd
open Go.AM Mc Ho

def xC (x : InsD) : List AV := [.p (.i .i64 x.op), .p (.i .i64 x.a), .p (.i .i64 x.b), .p (.i .i64 x.c), .p (.i .i64 x.n), .p (.s x.text)]
theorem SM.notin {g f H m} (h : SM g f H m) {b : Nat} {cs : List AV} (hb : H[b]? = some (.var cs)) (h6 : cs ≠ mCl g m) (h7 : cs.length ≠ 7) : ¬ smP g b := by
  intro hp
  rcases hp with rfl | rfl | e | e | e | e
  · rw [h.mv] at hb; cases hb; exact h6 rfl
  · rw [h.wv] at hb; cases hb; simp [wCl] at h7
  · simp only [SG.ids, List.mem_cons] at e
    rcases e with rfl | rfl | e
    · rw [h.rg] at hb; cases hb
    · rw [h.sl] at hb; cases hb
    · obtain ⟨i, hi⟩ := List.getElem?_of_mem e; rw [h.rc i _ hi] at hb; cases hb
  · obtain ⟨v, e⟩ := own_gid h.hpo e; rw [e] at hb; cases hb
  · obtain ⟨v, e⟩ := own_gid h.out e; rw [e] at hb; cases hb
  · obtain ⟨ii, ver, off, all, e1, e2, e3⟩ := h.inp
    rw [e1] at e; cases e; rw [e2] at hb; cases hb
theorem ne_m {g : SG} {m : MD} {k : IntKind} {z : Int} {l : List AV} : (AV.p (.i k z) :: l) ≠ mCl g m := by
  intro e; simp [mCl] at e

/-- the machine, and an operation's own variables -/
structure OS (g0 : SG) (H0 : List AO) (g : SG) (f : Int) (H : List AO) (m : MD) (x : InsD) (v4 v5 v6 : List AV) (b3 b4 b5 b6 : Nat) : Prop where
  mm : SM g f H m
  x3 : H[b3]? = some (.var (xC x))
  x4 : H[b4]? = some (.var v4)
  x5 : H[b5]? = some (.var v5)
  x6 : H[b6]? = some (.var v6)
  l4 : ∃ k z t, v4 = [.p (.i .i64 k), .p (.i .i64 z), .p (.s t)]
  l5 : ∃ k z t, v5 = [.p (.i .i64 k), .p (.i .i64 z), .p (.s t)]
  l6 : ∃ k z t, v6 = [.p (.i .i64 k), .p (.i .i64 z), .p (.s t)]
  n3 : b3 ≠ b6
  n4 : b4 ≠ b6
  n5 : b5 ≠ b6
  h6 : H0.length ≤ b6
  fr : Fr (smP g0) (smP g) H0 H
theorem OS.step {g0 H0 g f H m x v4 v5 v6 b3 b4 b5 b6} (h : OS g0 H0 g f H m x v4 v5 v6 b3 b4 b5 b6) {g' f' H' m'} (hm : SM g' f' H' m') (k : Fr (smP g) (smP g') H H') : OS g0 H0 g' f' H' m' x v4 v5 v6 b3 b4 b5 b6 where
  mm := hm
  x3 := k.keep _ _ h.x3 (h.mm.notin h.x3 ne_m (by simp [xC]))
  x4 := by obtain ⟨a, b, c, e⟩ := h.l4; exact k.keep _ _ h.x4 (h.mm.notin h.x4 (by rw [e]; exact ne_m) (by rw [e]; simp))
  x5 := by obtain ⟨a, b, c, e⟩ := h.l5; exact k.keep _ _ h.x5 (h.mm.notin h.x5 (by rw [e]; exact ne_m) (by rw [e]; simp))
  x6 := by obtain ⟨a, b, c, e⟩ := h.l6; exact k.keep _ _ h.x6 (h.mm.notin h.x6 (by rw [e]; exact ne_m) (by rw [e]; simp))
  l4 := h.l4
  l5 := h.l5
  l6 := h.l6
  n3 := h.n3
  n4 := h.n4
  n5 := h.n5
  h6 := h.h6
  fr := h.fr.trans k
theorem OS.ext {g0 H0 g f H m x v4 v5 v6 b3 b4 b5 b6} (h : OS g0 H0 g f H m x v4 v5 v6 b3 b4 b5 b6) (A : List AO) : OS g0 H0 g f (H ++ A) m x v4 v5 v6 b3 b4 b5 b6 := h.step (h.mm.ext A) (Fr.ext _ _ _)
/-- what an operation gives is written -/
theorem OS.wr {g0 H0 g f H m x v4 v5 v6 b3 b4 b5 b6} (h : OS g0 H0 g f H m x v4 v5 v6 b3 b4 b5 b6) (k z : Int) (t : List UInt8) :
    OS g0 H0 g f (H.set b6 (.var [.p (.i .i64 k), .p (.i .i64 z), .p (.s t)])) m x v4 v5 [.p (.i .i64 k), .p (.i .i64 z), .p (.s t)] b3 b4 b5 b6 where
  mm := by obtain ⟨a, b, c, e⟩ := h.l6; exact h.mm.setV h.x6 (by rw [e]; simp) (by rw [e]; simp) _
  x3 := get_set h.x3 (Ne.symm h.n3)
  x4 := get_set h.x4 (Ne.symm h.n4)
  x5 := get_set h.x5 (Ne.symm h.n5)
  x6 := set_get h.x6
  l4 := h.l4
  l5 := h.l5
  l6 := ⟨_, _, _, rfl⟩
  n3 := h.n3
  n4 := h.n4
  n5 := h.n5
  h6 := h.h6
  fr := h.fr.setNew h.h6 _

theorem sreg_get {m : MD} {i : Nat} (h : i < m.regs.length) : (m.regs.map wS)[i]? = some (wS (m.regs.getD i (.n 0))) := by
  rw [List.getElem?_map, List.getElem?_eq_getElem h, List.getD_eq_getElem?_getD, List.getElem?_eq_getElem h]; rfl
theorem sreg_g {c m} (hm : MOk c m) {i : Int} (h0 : 0 ≤ i) (h1 : i < 16) : (m.regs.map wS)[i.toNat]? = some (wS (m.g i)) := sreg_get (by rw [hm.regs]; omega)

set_option maxHeartbeats 4000000 in
theorem sOp {c g f H m} (h : SM g f H m) (hm : MOk c m) (hf : m.fin = none) {x : InsD} (hx : InsOk c x) (h7 : x.op = 7) (hol : m.out.length ≤ 1000000) (hil : m.inp.length ≤ 1000000) :
    ACall Try.prog 155 [.ptr g.im 0, .st (x.cells.map .p)] H (fun r H' => ∃ g', SM g' f H' (opD x m) ∧ Fr (smP g) (smP g') H H' ∧ g'.im = g.im ∧ g'.iw = g.iw) := by
  have b0 := hx.rb.1
  have b1 := hx.rb.2
  have c0 := hx.rc.1
  have c1 := hx.rc.2
  have a0 := hx.ra.1
  have a1 := hx.ra.2
  have hmv : ∀ A, (H ++ A)[g.im]? = _ := fun A => get_ext h.mv A
  have hrg : ∀ A, (H ++ A)[g.ir]? = _ := fun A => get_ext h.rg A
  have hgb := sreg_g hm b0 b1
  have hgc := sreg_g hm c0 c1
  refine call155 (by simp) ?_
  rw [wS] at hgb hgc
  simp only [mCl] at hmv
  simp only [go_sem, Nat.reduceEqDiff, reduceIte, ↓reduceIte, Nat.reduceAdd, Z0, Z1, Z2, Z3, Z4, Z5, Nat.reduceLT, Z6, Z7, Int.reduceEq, Z8, Z9, Nat.reduceLeDiff, Za, Zb, Zc, Zd, Ze, Zf, bytesOf, Zg, Zh, Zi, Zj, Zk, Zl, Int.reduceLT, Int.reduceLE, Zm, Int.reduceToNat, Zn, Zo, Zp, Int.reduceAdd, Zq, Zr, mc155, mr155, InsD.cells]
  refine drw_same ?_
  simp only [go_sem, Nat.reduceEqDiff, reduceIte, ↓reduceIte, Nat.reduceAdd, Z0, Z1, Z2, Z3, Z4, Z5, Nat.reduceLT, Z6, Z7, Int.reduceEq, Z8, Z9, Nat.reduceLeDiff, Za, Zb, Zc, Zd, Ze, Zf, bytesOf, Zg, Zh, Zi, Zj, Zk, Zl, Int.reduceLT, Int.reduceLE, Zm, Int.reduceToNat, Zn, Zo, Zp, Int.reduceAdd, Zq, Zr, hmv, hrg, hgb, b0, b1, Nat.add_zero]
  refine drw_same ?_
  simp only [go_sem, Nat.reduceEqDiff, reduceIte, ↓reduceIte, Nat.reduceAdd, Z0, Z1, Z2, Z3, Z4, Z5, Nat.reduceLT, Z6, Z7, Int.reduceEq, Z8, Z9, Nat.reduceLeDiff, Za, Zb, Zc, Zd, Ze, Zf, bytesOf, Zg, Zh, Zi, Zj, Zk, Zl, Int.reduceLT, Int.reduceLE, Zm, Int.reduceToNat, Zn, Zo, Zp, Int.reduceAdd, Zq, Zr, hmv, hrg, hgc, c0, c1, Nat.add_zero]
  have hO : OS g H g f (H ++ [.var (xC x), .var (wS (m.g x.b)), .var (wS (m.g x.c)), .var [.p (.i .i64 0), .p (.i .i64 0), .p (.s [])]]) m x (wS (m.g x.b)) (wS (m.g x.c)) [.p (.i .i64 0), .p (.i .i64 0), .p (.s [])] H.length (H.length + 1) (H.length + 2) (H.length + 3) :=
    ⟨h.ext _, by simp, by simp, by simp, by simp, ⟨_, _, _, rfl⟩, ⟨_, _, _, rfl⟩, ⟨_, _, _, rfl⟩, by omega, by omega, by omega, by omega, Fr.ext _ _ _⟩
  rw [xC, wS, wS] at hO
  clear hmv hrg hgb hgc
  generalize H ++ [AO.var [AV.p (.i .i64 x.op), .p (.i .i64 x.a), .p (.i .i64 x.b), .p (.i .i64 x.c), .p (.i .i64 x.n), .p (.s x.text)], .var [.p (.i .i64 (wKd (m.g x.b))), .p (.i .i64 (wSn (m.g x.b))), .p (.s (wSt (m.g x.b)))], .var [.p (.i .i64 (wKd (m.g x.c))), .p (.i .i64 (wSn (m.g x.c))), .p (.s (wSt (m.g x.c)))], .var [.p (.i .i64 0), .p (.i .i64 0), .p (.s [])]] = H1 at hO ⊢
  generalize H.length + 3 = b6 at hO ⊢
  generalize H.length + 2 = b5 at hO ⊢
  generalize H.length + 1 = b4 at hO ⊢
  generalize H.length = b3 at hO ⊢
  have hmv := hO.mm.mv
  have hwv := hO.mm.wv
  have h3 := hO.x3
  have h4 := hO.x4
  have h5 := hO.x5
  have h6 := hO.x6
  rw [xC] at h3
  simp only [mCl] at hmv
  have k4 : ∀ k, ACall Try.prog 158 [.ptr g.im 0, .st [.p (.i .i64 (wKd (m.g x.b))), .p (.i .i64 (wSn (m.g x.b))), .p (.s (wSt (m.g x.b)))], .p (.i .i64 k)] H1 (pureQ (.p (.b (decide (wKd (m.g x.b) = k)))) (if wKd (m.g x.b) = k then H1 else H1.set g.iw (.var (wCl g f (m.e 0 0))))) := by
    intro k
    by_cases e : wKd (m.g x.b) = k
    · rw [if_pos e, decide_eq_true e]; exact sIsT hO.mm e
    · rw [if_neg e, decide_eq_false e]; exact sIsF hO.mm hf e
  have k5 : ∀ k, ACall Try.prog 158 [.ptr g.im 0, .st [.p (.i .i64 (wKd (m.g x.c))), .p (.i .i64 (wSn (m.g x.c))), .p (.s (wSt (m.g x.c)))], .p (.i .i64 k)] H1 (pureQ (.p (.b (decide (wKd (m.g x.c) = k)))) (if wKd (m.g x.c) = k then H1 else H1.set g.iw (.var (wCl g f (m.e 0 0))))) := by
    intro k
    by_cases e : wKd (m.g x.c) = k
    · rw [if_pos e, decide_eq_true e]; exact sIsT hO.mm e
    · rw [if_neg e, decide_eq_false e]; exact sIsF hO.mm hf e
  have finE0 : opD x m = m.e 0 0 → ∃ g', SM g' f (H1.set g.iw (.var (wCl g f (m.e 0 0)))) (opD x m) ∧ Fr (smP g) (smP g') H (H1.set g.iw (.var (wCl g f (m.e 0 0)))) ∧ g'.im = g.im ∧ g'.iw = g.iw := by
    intro e
    rw [e]
    exact ⟨g, hO.mm.putW f (some (0, 0)), hO.fr.trans (frW _), rfl, rfl⟩
  have kn : ∀ (w : WD), (∀ z, w ≠ .n z) → wKd w ≠ 0 := fun w h => by cases w <;> simp [wKd] at *
  have ks : ∀ (w : WD), (∀ z, w ≠ .s z) → wKd w ≠ 1 := fun w h => by cases w <;> simp [wKd] at *
  have hw0 := hwv
  rw [wCl, hf] at hw0
  by_cases e1 : x.text = [114, 101, 97, 100]
  · have d1 : decide (x.text = [114, 101, 97, 100]) = true := by simp [e1]
    have ed : opD x m = { m with inp := m.inp.tail, regs := m.regs.set x.a.toNat (.n (m.inp.headD (-1))) } := by rw [opD, if_pos e1]
    simp only [go_sem, Nat.reduceEqDiff, reduceIte, ↓reduceIte, Nat.reduceAdd, Z0, Z1, Z2, Z3, Z4, Z5, Nat.reduceLT, Z6, Z7, Int.reduceEq, Z8, Z9, Nat.reduceLeDiff, Za, Zb, Zc, Zd, Ze, Zf, bytesOf, Zg, Zh, Zi, Zj, Zk, Zl, Int.reduceLT, Int.reduceLE, Zm, Int.reduceToNat, Zn, Zo, Zp, Int.reduceAdd, Zq, Zr, d1, hmv, zl45_4]
    refine (sRead (hO.mm.ext _) hil).mono ?_
    rintro r H2 ⟨rfl, ip', p1, p2⟩
    have hQ0 := (hO.ext _).step p1 p2
    have hx6 := hQ0.x6
    simp only [go_sem, Nat.reduceEqDiff, reduceIte, ↓reduceIte, Nat.reduceAdd, Z0, Z1, Z2, Z3, Z4, Z5, Nat.reduceLT, Z6, Z7, Int.reduceEq, Z8, Z9, Nat.reduceLeDiff, Za, Zb, Zc, Zd, Ze, Zf, bytesOf, Zg, Zh, Zi, Zj, Zk, Zl, Int.reduceLT, Int.reduceLE, Zm, Int.reduceToNat, Zn, Zo, Zp, Int.reduceAdd, Zq, Zr, vL, hx6]
    have hmQ : MOk c { m with inp := m.inp.tail } := ⟨hm.regs, hm.slots, hm.room0, hm.room, hm.wr, hm.ws, hm.wh⟩
    have hQ := hQ0.wr 0 (m.inp.headD (-1)) []
    have q1 := hQ.mm.mv
    have q2 := hQ.mm.rg
    have q3 := hQ.x3
    have q4 := hQ.x6
    simp only [mCl] at q1
    rw [xC] at q3
    refine drw_same ?_
    simp only [go_sem, Nat.reduceEqDiff, reduceIte, ↓reduceIte, Nat.reduceAdd, Z0, Z1, Z2, Z3, Z4, Z5, Nat.reduceLT, Z6, Z7, Int.reduceEq, Z8, Z9, Nat.reduceLeDiff, Za, Zb, Zc, Zd, Ze, Zf, bytesOf, Zg, Zh, Zi, Zj, Zk, Zl, Int.reduceLT, Int.reduceLE, Zm, Int.reduceToNat, Zn, Zo, Zp, Int.reduceAdd, Zq, Zr, q1, q2, q3, q4, a0, a1]
    rw [show (([AV.p (.i .i64 0), .p (.i .i64 ((m.inp.headD (-1)))), .p (.s [])]) : List AV) = wS (WD.n (m.inp.headD (-1))) from rfl, stoR_at (sreg_g hmQ a0 a1) (show splice (wS _) 0 (wS (WD.n (m.inp.headD (-1)))) = some (wS (WD.n (m.inp.headD (-1)))) from rfl)]
    simp only [go_sem, Nat.reduceEqDiff, reduceIte, ↓reduceIte, Nat.reduceAdd, Z0, Z1, Z2, Z3, Z4, Z5, Nat.reduceLT, Z6, Z7, Int.reduceEq, Z8, Z9, Nat.reduceLeDiff, Za, Zb, Zc, Zd, Ze, Zf, bytesOf, Zg, Zh, Zi, Zj, Zk, Zl, Int.reduceLT, Int.reduceLE, Zm, Int.reduceToNat, Zn, Zo, Zp, Int.reduceAdd, Zq, Zr]
    obtain ⟨p1, p2⟩ := hQ.mm.putReg x.a.toNat (WD.n (m.inp.headD (-1)))
    rw [ed]
    exact ⟨_, p1, hQ.fr.trans p2, rfl, rfl⟩
  have d1 : decide (x.text = [114, 101, 97, 100]) = false := by simp [e1]
  by_cases e2 : x.text = [112, 114, 105, 110, 116]
  · have d2 : decide (x.text = [112, 114, 105, 110, 116]) = true := by simp [e2]
    simp only [go_sem, Nat.reduceEqDiff, reduceIte, ↓reduceIte, Nat.reduceAdd, Z0, Z1, Z2, Z3, Z4, Z5, Nat.reduceLT, Z6, Z7, Int.reduceEq, Z8, Z9, Nat.reduceLeDiff, Za, Zb, Zc, Zd, Ze, Zf, bytesOf, Zg, Zh, Zi, Zj, Zk, Zl, Int.reduceLT, Int.reduceLE, Zm, Int.reduceToNat, Zn, Zo, Zp, Int.reduceAdd, Zq, Zr, d1, d2, h4]
    refine acall_pure (k4 0) ?_
    by_cases ek : ∃ z, m.g x.b = .n z
    · obtain ⟨z, ek⟩ := ek
      have e0 : wKd (m.g x.b) = 0 := by rw [ek]; rfl
      have e3 : wSn (m.g x.b) = z := by rw [ek]; rfl
      rw [if_pos e0]
      simp only [go_sem, Nat.reduceEqDiff, reduceIte, ↓reduceIte, Nat.reduceAdd, Z0, Z1, Z2, Z3, Z4, Z5, Nat.reduceLT, Z6, Z7, Int.reduceEq, Z8, Z9, Nat.reduceLeDiff, Za, Zb, Zc, Zd, Ze, Zf, bytesOf, Zg, Zh, Zi, Zj, Zk, Zl, Int.reduceLT, Int.reduceLE, Zm, Int.reduceToNat, Zn, Zo, Zp, Int.reduceAdd, Zq, Zr, e0]
      refine drw_same ?_
      simp only [go_sem, Nat.reduceEqDiff, reduceIte, ↓reduceIte, Nat.reduceAdd, Z0, Z1, Z2, Z3, Z4, Z5, Nat.reduceLT, Z6, Z7, Int.reduceEq, Z8, Z9, Nat.reduceLeDiff, Za, Zb, Zc, Zd, Ze, Zf, bytesOf, Zg, Zh, Zi, Zj, Zk, Zl, Int.reduceLT, Int.reduceLE, Zm, Int.reduceToNat, Zn, Zo, Zp, Int.reduceAdd, Zq, Zr, hmv, h4, zl45_4, e3, Nat.add_zero]
      refine (sPrint (hO.mm.ext _) (get_off0 _ _) hol (k := 0) (a := z) (t := [])).mono ?_
      rintro r H2 ⟨ou', p1, p2⟩
      simp only [go_sem, Nat.reduceEqDiff, reduceIte, ↓reduceIte, Nat.reduceAdd, Z0, Z1, Z2, Z3, Z4, Z5, Nat.reduceLT, Z6, Z7, Int.reduceEq, Z8, Z9, Nat.reduceLeDiff, Za, Zb, Zc, Zd, Ze, Zf, bytesOf, Zg, Zh, Zi, Zj, Zk, Zl, Int.reduceLT, Int.reduceLE, Zm, Int.reduceToNat, Zn, Zo, Zp, Int.reduceAdd, Zq, Zr]
      have ed : opD x m = { m with out := m.out ++ [z] } := by rw [opD, if_neg e1, if_pos e2, ek]
      rw [ed]
      exact ⟨_, p1, (hO.ext _).fr.trans p2, rfl, rfl⟩
    · have e0 := kn _ fun z e => ek ⟨z, e⟩
      rw [if_neg e0]
      have dk : decide (wKd (m.g x.b) = 0) = false := by simp [e0]
      simp only [go_sem, Nat.reduceEqDiff, reduceIte, ↓reduceIte, Nat.reduceAdd, Z0, Z1, Z2, Z3, Z4, Z5, Nat.reduceLT, Z6, Z7, Int.reduceEq, Z8, Z9, Nat.reduceLeDiff, Za, Zb, Zc, Zd, Ze, Zf, bytesOf, Zg, Zh, Zi, Zj, Zk, Zl, Int.reduceLT, Int.reduceLE, Zm, Int.reduceToNat, Zn, Zo, Zp, Int.reduceAdd, Zq, Zr, dk]
      refine finE0 ?_
      rw [opD, if_neg e1, if_pos e2]
      split
      · rename_i z e; exact absurd ⟨z, e⟩ ek
      · rfl
  have d2 : decide (x.text = [112, 114, 105, 110, 116]) = false := by simp [e2]
  by_cases e3 : x.text = [115, 105, 122, 101]
  · have d3 : decide (x.text = [115, 105, 122, 101]) = true := by simp [e3]
    simp only [go_sem, Nat.reduceEqDiff, reduceIte, ↓reduceIte, Nat.reduceAdd, Z0, Z1, Z2, Z3, Z4, Z5, Nat.reduceLT, Z6, Z7, Int.reduceEq, Z8, Z9, Nat.reduceLeDiff, Za, Zb, Zc, Zd, Ze, Zf, bytesOf, Zg, Zh, Zi, Zj, Zk, Zl, Int.reduceLT, Int.reduceLE, Zm, Int.reduceToNat, Zn, Zo, Zp, Int.reduceAdd, Zq, Zr, d1, d2, d3, h4]
    refine acall_pure (k4 1) ?_
    by_cases ek : ∃ z, m.g x.b = .s z
    · obtain ⟨t, ek⟩ := ek
      have e0 : wKd (m.g x.b) = 1 := by rw [ek]; rfl
      have e4 : wSt (m.g x.b) = t := by rw [ek]; rfl
      rw [if_pos e0]
      simp only [go_sem, Nat.reduceEqDiff, reduceIte, ↓reduceIte, Nat.reduceAdd, Z0, Z1, Z2, Z3, Z4, Z5, Nat.reduceLT, Z6, Z7, Int.reduceEq, Z8, Z9, Nat.reduceLeDiff, Za, Zb, Zc, Zd, Ze, Zf, bytesOf, Zg, Zh, Zi, Zj, Zk, Zl, Int.reduceLT, Int.reduceLE, Zm, Int.reduceToNat, Zn, Zo, Zp, Int.reduceAdd, Zq, Zr, e0, h4, e4]
      intro _
      have ed : opD x m = m.p x.a (.n t.length) := by rw [opD, if_neg e1, if_neg e2, if_pos e3, ek]
      simp only [go_sem, Nat.reduceEqDiff, reduceIte, ↓reduceIte, Nat.reduceAdd, Z0, Z1, Z2, Z3, Z4, Z5, Nat.reduceLT, Z6, Z7, Int.reduceEq, Z8, Z9, Nat.reduceLeDiff, Za, Zb, Zc, Zd, Ze, Zf, bytesOf, Zg, Zh, Zi, Zj, Zk, Zl, Int.reduceLT, Int.reduceLE, Zm, Int.reduceToNat, Zn, Zo, Zp, Int.reduceAdd, Zq, Zr, h6]
      have hmQ := hm
      have hQ := hO.wr 0 (t.length : Int) []
      have q1 := hQ.mm.mv
      have q2 := hQ.mm.rg
      have q3 := hQ.x3
      have q4 := hQ.x6
      simp only [mCl] at q1
      rw [xC] at q3
      refine drw_same ?_
      simp only [go_sem, Nat.reduceEqDiff, reduceIte, ↓reduceIte, Nat.reduceAdd, Z0, Z1, Z2, Z3, Z4, Z5, Nat.reduceLT, Z6, Z7, Int.reduceEq, Z8, Z9, Nat.reduceLeDiff, Za, Zb, Zc, Zd, Ze, Zf, bytesOf, Zg, Zh, Zi, Zj, Zk, Zl, Int.reduceLT, Int.reduceLE, Zm, Int.reduceToNat, Zn, Zo, Zp, Int.reduceAdd, Zq, Zr, q1, q2, q3, q4, a0, a1]
      rw [show (([AV.p (.i .i64 0), .p (.i .i64 ((t.length : Int))), .p (.s [])]) : List AV) = wS (WD.n (t.length : Int)) from rfl, stoR_at (sreg_g hmQ a0 a1) (show splice (wS _) 0 (wS (WD.n (t.length : Int))) = some (wS (WD.n (t.length : Int))) from rfl)]
      simp only [go_sem, Nat.reduceEqDiff, reduceIte, ↓reduceIte, Nat.reduceAdd, Z0, Z1, Z2, Z3, Z4, Z5, Nat.reduceLT, Z6, Z7, Int.reduceEq, Z8, Z9, Nat.reduceLeDiff, Za, Zb, Zc, Zd, Ze, Zf, bytesOf, Zg, Zh, Zi, Zj, Zk, Zl, Int.reduceLT, Int.reduceLE, Zm, Int.reduceToNat, Zn, Zo, Zp, Int.reduceAdd, Zq, Zr]
      obtain ⟨p1, p2⟩ := hQ.mm.putReg x.a.toNat (WD.n (t.length : Int))
      rw [ed]
      exact ⟨_, p1, hQ.fr.trans p2, rfl, rfl⟩
    · have e0 := ks _ fun z e => ek ⟨z, e⟩
      rw [if_neg e0]
      have dk : decide (wKd (m.g x.b) = 1) = false := by simp [e0]
      simp only [go_sem, Nat.reduceEqDiff, reduceIte, ↓reduceIte, Nat.reduceAdd, Z0, Z1, Z2, Z3, Z4, Z5, Nat.reduceLT, Z6, Z7, Int.reduceEq, Z8, Z9, Nat.reduceLeDiff, Za, Zb, Zc, Zd, Ze, Zf, bytesOf, Zg, Zh, Zi, Zj, Zk, Zl, Int.reduceLT, Int.reduceLE, Zm, Int.reduceToNat, Zn, Zo, Zp, Int.reduceAdd, Zq, Zr, dk]
      refine finE0 ?_
      rw [opD, if_neg e1, if_neg e2, if_pos e3]
      split
      · rename_i z e; exact absurd ⟨z, e⟩ ek
      · rfl
  have d3 : decide (x.text = [115, 105, 122, 101]) = false := by simp [e3]
  by_cases e4 : x.text = [94]
  · have d4 : decide (x.text = [94]) = true := by simp [e4]
    simp only [go_sem, Nat.reduceEqDiff, reduceIte, ↓reduceIte, Nat.reduceAdd, Z0, Z1, Z2, Z3, Z4, Z5, Nat.reduceLT, Z6, Z7, Int.reduceEq, Z8, Z9, Nat.reduceLeDiff, Za, Zb, Zc, Zd, Ze, Zf, bytesOf, Zg, Zh, Zi, Zj, Zk, Zl, Int.reduceLT, Int.reduceLE, Zm, Int.reduceToNat, Zn, Zo, Zp, Int.reduceAdd, Zq, Zr, d1, d2, d3, d4, h4]
    refine acall_pure (k4 1) ?_
    by_cases ek : ∃ z, m.g x.b = .s z
    case neg =>
      have e0 := ks _ fun z e => ek ⟨z, e⟩
      rw [if_neg e0]
      have dk : decide (wKd (m.g x.b) = 1) = false := by simp [e0]
      simp only [go_sem, Nat.reduceEqDiff, reduceIte, ↓reduceIte, Nat.reduceAdd, Z0, Z1, Z2, Z3, Z4, Z5, Nat.reduceLT, Z6, Z7, Int.reduceEq, Z8, Z9, Nat.reduceLeDiff, Za, Zb, Zc, Zd, Ze, Zf, bytesOf, Zg, Zh, Zi, Zj, Zk, Zl, Int.reduceLT, Int.reduceLE, Zm, Int.reduceToNat, Zn, Zo, Zp, Int.reduceAdd, Zq, Zr, dk]
      refine finE0 ?_
      rw [opD, if_neg e1, if_neg e2, if_neg e3, if_pos e4]
      split
      · rename_i z u e _; exact absurd ⟨z, e⟩ ek
      · rfl
    obtain ⟨t, ek⟩ := ek
    have tl : t.length ≤ 4000 := by have := hm.gOk b0 b1; rw [ek] at this; exact this
    have f0 : wKd (m.g x.b) = 1 := by rw [ek]; rfl
    have f1 : wSt (m.g x.b) = t := by rw [ek]; rfl
    rw [if_pos f0]
    simp only [go_sem, Nat.reduceEqDiff, reduceIte, ↓reduceIte, Nat.reduceAdd, Z0, Z1, Z2, Z3, Z4, Z5, Nat.reduceLT, Z6, Z7, Int.reduceEq, Z8, Z9, Nat.reduceLeDiff, Za, Zb, Zc, Zd, Ze, Zf, bytesOf, Zg, Zh, Zi, Zj, Zk, Zl, Int.reduceLT, Int.reduceLE, Zm, Int.reduceToNat, Zn, Zo, Zp, Int.reduceAdd, Zq, Zr, f0, h5]
    refine acall_pure (k5 1) ?_
    by_cases ec : ∃ z, m.g x.c = .s z
    case neg =>
      have e0 := ks _ fun z e => ec ⟨z, e⟩
      rw [if_neg e0]
      have dk : decide (wKd (m.g x.c) = 1) = false := by simp [e0]
      simp only [go_sem, Nat.reduceEqDiff, reduceIte, ↓reduceIte, Nat.reduceAdd, Z0, Z1, Z2, Z3, Z4, Z5, Nat.reduceLT, Z6, Z7, Int.reduceEq, Z8, Z9, Nat.reduceLeDiff, Za, Zb, Zc, Zd, Ze, Zf, bytesOf, Zg, Zh, Zi, Zj, Zk, Zl, Int.reduceLT, Int.reduceLE, Zm, Int.reduceToNat, Zn, Zo, Zp, Int.reduceAdd, Zq, Zr, dk]
      refine finE0 ?_
      rw [opD, if_neg e1, if_neg e2, if_neg e3, if_pos e4]
      split
      · rename_i z u _ e; exact absurd ⟨u, e⟩ ec
      · rfl
    obtain ⟨u, ec⟩ := ec
    have ul : u.length ≤ 4000 := by have := hm.gOk c0 c1; rw [ec] at this; exact this
    have c0' : wKd (m.g x.c) = 1 := by rw [ec]; rfl
    have c1' : wSt (m.g x.c) = u := by rw [ec]; rfl
    have ed : opD x m = catD x m t u := by rw [opD, if_neg e1, if_neg e2, if_neg e3, if_pos e4, ek, ec]
    rw [if_pos c0']
    simp only [go_sem, Nat.reduceEqDiff, reduceIte, ↓reduceIte, Nat.reduceAdd, Z0, Z1, Z2, Z3, Z4, Z5, Nat.reduceLT, Z6, Z7, Int.reduceEq, Z8, Z9, Nat.reduceLeDiff, Za, Zb, Zc, Zd, Ze, Zf, bytesOf, Zg, Zh, Zi, Zj, Zk, Zl, Int.reduceLT, Int.reduceLE, Zm, Int.reduceToNat, Zn, Zo, Zp, Int.reduceAdd, Zq, Zr, c0']
    by_cases h5' : 500 < t.length + u.length
    · refine ⟨H1.set g.iw .dead, dead_ext _ _, ?_⟩
      have hd : ∀ (j : Nat) cs, H1[j]? = some (.var cs) → cs.length ≠ 7 → (H1.set g.iw .dead)[j]? = some (.var cs) := fun j cs hj hl => set_ne' hwv hj (by intro e; cases e; simp [wCl] at hl)
      have m1 := hd _ _ hmv (by simp)
      have m4 := hd _ _ h4 (by simp)
      have m5 := hd _ _ h5 (by simp)
      simp only [go_sem, Nat.reduceEqDiff, reduceIte, ↓reduceIte, Nat.reduceAdd, Z0, Z1, Z2, Z3, Z4, Z5, Nat.reduceLT, Z6, Z7, Int.reduceEq, Z8, Z9, Nat.reduceLeDiff, Za, Zb, Zc, Zd, Ze, Zf, bytesOf, Zg, Zh, Zi, Zj, Zk, Zl, Int.reduceLT, Int.reduceLE, Zm, Int.reduceToNat, Zn, Zo, Zp, Int.reduceAdd, Zq, Zr, m1, m4, m5, zl45_4, f1, c1']
      refine .inl ⟨.st (vL 0 0 []), H1.set g.iw (.var (wCl g f (m.e 2 2))), by simp, dead_ext' _ _ _, fun A => ?_, ?_⟩
      · have := sCatF (hO.mm.ext A) hf t u tl ul h5'
        rw [List.set_append_left _ _ (get_lt hwv)] at this
        exact this
      have hm2 : (H1.set g.iw (.var (wCl g f (m.e 2 2))))[g.im]? = _ := set_ne' hwv hmv (by intro e; simp [wCl] at e)
      have hw2 : (H1.set g.iw (.var (wCl g f (m.e 2 2))))[g.iw]? = _ := set_get hwv
      have hP := hO.mm.putW f (some (2, 2))
      have hF : Fr (smP g) (smP g) H (H1.set g.iw (.var (wCl g f (m.e 2 2)))) := hO.fr.trans (frW _)
      have hP' : SM g f (H1.set g.iw (.var (wCl g f (m.e 2 2)))) (m.e 2 2) := hP
      have ed2 : opD x m = m.e 2 2 := by rw [ed, catD, if_pos h5']
      rw [ed2]
      clear hP
      generalize H1.set g.iw (.var (wCl g f (m.e 2 2))) = H2 at hm2 hw2 hP' hF ⊢
      rw [wCl] at hw2
      have hm2x : ∀ A, (H2 ++ A)[g.im]? = _ := fun A => get_ext hm2 A
      have hw2x : ∀ A, (H2 ++ A)[g.iw]? = _ := fun A => get_ext hw2 A
      have et : (m.e 2 2).fin.isSome = true := rfl
      rw [et] at hw2x
      simp only [go_sem, Nat.reduceEqDiff, reduceIte, ↓reduceIte, Nat.reduceAdd, Z0, Z1, Z2, Z3, Z4, Z5, Nat.reduceLT, Z6, Z7, Int.reduceEq, Z8, Z9, Nat.reduceLeDiff, Za, Zb, Zc, Zd, Ze, Zf, bytesOf, Zg, Zh, Zi, Zj, Zk, Zl, Int.reduceLT, Int.reduceLE, Zm, Int.reduceToNat, Zn, Zo, Zp, Int.reduceAdd, Zq, Zr, vL, Nat.add_zero, hm2x, hw2x]
      exact ⟨g, hP'.ext _, hF.trans (Fr.ext _ _ _), rfl, rfl⟩
    · refine drw_same ?_
      have er := roomS_eq (n := t.length + u.length) (by omega)
      simp only [go_sem, Nat.reduceEqDiff, reduceIte, ↓reduceIte, Nat.reduceAdd, Z0, Z1, Z2, Z3, Z4, Z5, Nat.reduceLT, Z6, Z7, Int.reduceEq, Z8, Z9, Nat.reduceLeDiff, Za, Zb, Zc, Zd, Ze, Zf, bytesOf, Zg, Zh, Zi, Zj, Zk, Zl, Int.reduceLT, Int.reduceLE, Zm, Int.reduceToNat, Zn, Zo, Zp, Int.reduceAdd, Zq, Zr, hmv, h4, h5, zl45_4, f1, c1']
      refine pcall_pure (fun A => sCatT g.iw t u tl ul h5' _) (Hext.refl _) ?_
      have hm2x : ∀ A, (H1 ++ A)[g.im]? = _ := fun A => get_ext hmv A
      have hw2x : ∀ A, (H1 ++ A)[g.iw]? = _ := fun A => get_ext hw0 A
      simp only [go_sem, Nat.reduceEqDiff, reduceIte, ↓reduceIte, Nat.reduceAdd, Z0, Z1, Z2, Z3, Z4, Z5, Nat.reduceLT, Z6, Z7, Int.reduceEq, Z8, Z9, Nat.reduceLeDiff, Za, Zb, Zc, Zd, Ze, Zf, bytesOf, Zg, Zh, Zi, Zj, Zk, Zl, Int.reduceLT, Int.reduceLE, Zm, Int.reduceToNat, Zn, Zo, Zp, Int.reduceAdd, Zq, Zr, vL, Nat.add_zero, hm2x, hw2x, Option.isSome_none]
      intro _
      simp only [go_sem, Nat.reduceEqDiff, reduceIte, ↓reduceIte, Nat.reduceAdd, Z0, Z1, Z2, Z3, Z4, Z5, Nat.reduceLT, Z6, Z7, Int.reduceEq, Z8, Z9, Nat.reduceLeDiff, Za, Zb, Zc, Zd, Ze, Zf, bytesOf, Zg, Zh, Zi, Zj, Zk, Zl, Int.reduceLT, Int.reduceLE, Zm, Int.reduceToNat, Zn, Zo, Zp, Int.reduceAdd, Zq, Zr, er]
      have hO2 := hO.ext [AO.var (vL 2 0 (t ++ u))]
      have h7 : (H1 ++ [AO.var (vL 2 0 (t ++ u))])[H1.length]? = _ := get_off0 _ _
      rw [vL] at hO2 h7
      generalize H1 ++ [AO.var [AV.p (.i .i64 2), .p (.i .i64 0), .p (.s (t ++ u)), .p .nl, .p (.b false), .p (.i .i64 0), .p (.i .i64 0), .p (.i .i64 0), .p (.s []), .p (.s []), .p (.i .i64 0), .p (.i .i64 0), .p (.s []), .p .nl, .p .nl, .p .nl, .p .nl, .p .nl]] = H2 at hO2 h7 ⊢
      generalize H1.length = b7 at h7 ⊢
      by_cases hr : m.room < roomS (t.length + u.length)
      · refine acall_pure (sRoomF hO2.mm hf hr) ?_
        simp only [go_sem, Nat.reduceEqDiff, reduceIte, ↓reduceIte, Nat.reduceAdd, Z0, Z1, Z2, Z3, Z4, Z5, Nat.reduceLT, Z6, Z7, Int.reduceEq, Z8, Z9, Nat.reduceLeDiff, Za, Zb, Zc, Zd, Ze, Zf, bytesOf, Zg, Zh, Zi, Zj, Zk, Zl, Int.reduceLT, Int.reduceLE, Zm, Int.reduceToNat, Zn, Zo, Zp, Int.reduceAdd, Zq, Zr]
        rw [ed, catD, if_neg h5', if_pos hr]
        exact ⟨g, hO2.mm.putW f (some (4, 0)), hO2.fr.trans (frW _), rfl, rfl⟩
      · refine acall_pure (sRoomT hO2.mm hm (roomS_pos _) hr) ?_
        have hmQ : MOk c { m with room := m.room - roomS (t.length + u.length) } := by
          have h1 := hm.room
          have h2 := hm.room0
          have h3 := roomS_pos (t.length + u.length)
          exact ⟨hm.regs, hm.slots, by simp only; omega, by simp only; omega, hm.wr, hm.ws, hm.wh⟩
        have hO3 := hO2.step (hO2.mm.putM (m.room - roomS (t.length + u.length)) m.pc) (frM _)
        have h73 : (H2.set g.im (.var (mCl g { m with room := m.room - roomS (t.length + u.length) })))[b7]? = _ := set_ne' hO2.mm.mv h7 (by intro e; simp [mCl] at e)
        have hx6 := hO3.x6
        have hQ := hO3.wr 1 0 (t ++ u)
        have e7 : b7 ≠ b6 := by rintro rfl; rw [hO2.x6] at h7; simp at h7
        generalize H2.set g.im (.var (mCl g { m with room := m.room - roomS (t.length + u.length) })) = H3 at hO3 h73 hx6 hQ ⊢
        simp only [go_sem, Nat.reduceEqDiff, reduceIte, ↓reduceIte, Nat.reduceAdd, Z0, Z1, Z2, Z3, Z4, Z5, Nat.reduceLT, Z6, Z7, Int.reduceEq, Z8, Z9, Nat.reduceLeDiff, Za, Zb, Zc, Zd, Ze, Zf, bytesOf, Zg, Zh, Zi, Zj, Zk, Zl, Int.reduceLT, Int.reduceLE, Zm, Int.reduceToNat, Zn, Zo, Zp, Int.reduceAdd, Zq, Zr, h73, hx6]
        have q1 := hQ.mm.mv
        have q2 := hQ.mm.rg
        have q3 := hQ.x3
        have q4 := hQ.x6
        simp only [mCl] at q1
        rw [xC] at q3
        refine drw_same ?_
        simp only [go_sem, Nat.reduceEqDiff, reduceIte, ↓reduceIte, Nat.reduceAdd, Z0, Z1, Z2, Z3, Z4, Z5, Nat.reduceLT, Z6, Z7, Int.reduceEq, Z8, Z9, Nat.reduceLeDiff, Za, Zb, Zc, Zd, Ze, Zf, bytesOf, Zg, Zh, Zi, Zj, Zk, Zl, Int.reduceLT, Int.reduceLE, Zm, Int.reduceToNat, Zn, Zo, Zp, Int.reduceAdd, Zq, Zr, q1, q2, q3, q4, a0, a1]
        rw [show (([AV.p (.i .i64 1), .p (.i .i64 0), .p (.s (t ++ u))]) : List AV) = wS (WD.s (t ++ u)) from rfl, stoR_at (sreg_g hmQ a0 a1) (show splice (wS _) 0 (wS (WD.s (t ++ u))) = some (wS (WD.s (t ++ u))) from rfl)]
        simp only [go_sem, Nat.reduceEqDiff, reduceIte, ↓reduceIte, Nat.reduceAdd, Z0, Z1, Z2, Z3, Z4, Z5, Nat.reduceLT, Z6, Z7, Int.reduceEq, Z8, Z9, Nat.reduceLeDiff, Za, Zb, Zc, Zd, Ze, Zf, bytesOf, Zg, Zh, Zi, Zj, Zk, Zl, Int.reduceLT, Int.reduceLE, Zm, Int.reduceToNat, Zn, Zo, Zp, Int.reduceAdd, Zq, Zr]
        obtain ⟨p1, p2⟩ := hQ.mm.putReg x.a.toNat (WD.s (t ++ u))
        rw [ed, catD, if_neg h5', if_neg hr]
        exact ⟨_, p1, hQ.fr.trans p2, rfl, rfl⟩
  have d4 : decide (x.text = [94]) = false := by simp [e4]
  have ht5 : x.text = [43] ∨ x.text = [45] ∨ x.text = [42] ∨ x.text = [61] ∨ x.text = [60] := by
    rcases hx.text h7 with h | h | h | h | h | h | h | h | h
    · exact .inl h
    · exact .inr (.inl h)
    · exact .inr (.inr (.inl h))
    · exact .inr (.inr (.inr (.inl h)))
    · exact .inr (.inr (.inr (.inr h)))
    · exact absurd h e4
    · exact absurd h e3
    · exact absurd h e1
    · exact absurd h e2
  simp only [go_sem, Nat.reduceEqDiff, reduceIte, ↓reduceIte, Nat.reduceAdd, Z0, Z1, Z2, Z3, Z4, Z5, Nat.reduceLT, Z6, Z7, Int.reduceEq, Z8, Z9, Nat.reduceLeDiff, Za, Zb, Zc, Zd, Ze, Zf, bytesOf, Zg, Zh, Zi, Zj, Zk, Zl, Int.reduceLT, Int.reduceLE, Zm, Int.reduceToNat, Zn, Zo, Zp, Int.reduceAdd, Zq, Zr, d1, d2, d3, d4, h4]
  refine acall_pure (k4 0) ?_
  by_cases ek : ∃ z, m.g x.b = .n z
  case neg =>
    have e0 := kn _ fun z e => ek ⟨z, e⟩
    rw [if_neg e0]
    have dk : decide (wKd (m.g x.b) = 0) = false := by simp [e0]
    simp only [go_sem, Nat.reduceEqDiff, reduceIte, ↓reduceIte, Nat.reduceAdd, Z0, Z1, Z2, Z3, Z4, Z5, Nat.reduceLT, Z6, Z7, Int.reduceEq, Z8, Z9, Nat.reduceLeDiff, Za, Zb, Zc, Zd, Ze, Zf, bytesOf, Zg, Zh, Zi, Zj, Zk, Zl, Int.reduceLT, Int.reduceLE, Zm, Int.reduceToNat, Zn, Zo, Zp, Int.reduceAdd, Zq, Zr, dk]
    refine finE0 ?_
    rw [opD, if_neg e1, if_neg e2, if_neg e3, if_neg e4]
    split
    · rename_i z u e _; exact absurd ⟨z, e⟩ ek
    · rfl
  obtain ⟨z, ek⟩ := ek
  have f0 : wKd (m.g x.b) = 0 := by rw [ek]; rfl
  have f1 : wSn (m.g x.b) = z := by rw [ek]; rfl
  rw [if_pos f0]
  simp only [go_sem, Nat.reduceEqDiff, reduceIte, ↓reduceIte, Nat.reduceAdd, Z0, Z1, Z2, Z3, Z4, Z5, Nat.reduceLT, Z6, Z7, Int.reduceEq, Z8, Z9, Nat.reduceLeDiff, Za, Zb, Zc, Zd, Ze, Zf, bytesOf, Zg, Zh, Zi, Zj, Zk, Zl, Int.reduceLT, Int.reduceLE, Zm, Int.reduceToNat, Zn, Zo, Zp, Int.reduceAdd, Zq, Zr, f0, h5]
  refine acall_pure (k5 0) ?_
  by_cases ec : ∃ z, m.g x.c = .n z
  case neg =>
    have e0 := kn _ fun z e => ec ⟨z, e⟩
    rw [if_neg e0]
    have dk : decide (wKd (m.g x.c) = 0) = false := by simp [e0]
    simp only [go_sem, Nat.reduceEqDiff, reduceIte, ↓reduceIte, Nat.reduceAdd, Z0, Z1, Z2, Z3, Z4, Z5, Nat.reduceLT, Z6, Z7, Int.reduceEq, Z8, Z9, Nat.reduceLeDiff, Za, Zb, Zc, Zd, Ze, Zf, bytesOf, Zg, Zh, Zi, Zj, Zk, Zl, Int.reduceLT, Int.reduceLE, Zm, Int.reduceToNat, Zn, Zo, Zp, Int.reduceAdd, Zq, Zr, dk]
    refine finE0 ?_
    rw [opD, if_neg e1, if_neg e2, if_neg e3, if_neg e4]
    split
    · rename_i z u _ e; exact absurd ⟨u, e⟩ ec
    · rfl
  obtain ⟨y, ec⟩ := ec
  have c0' : wKd (m.g x.c) = 0 := by rw [ec]; rfl
  have c1' : wSn (m.g x.c) = y := by rw [ec]; rfl
  have ed : opD x m = m.p x.a (.n (arD x.text z y)) := by rw [opD, if_neg e1, if_neg e2, if_neg e3, if_neg e4, ek, ec]
  rw [if_pos c0']
  simp only [go_sem, Nat.reduceEqDiff, reduceIte, ↓reduceIte, Nat.reduceAdd, Z0, Z1, Z2, Z3, Z4, Z5, Nat.reduceLT, Z6, Z7, Int.reduceEq, Z8, Z9, Nat.reduceLeDiff, Za, Zb, Zc, Zd, Ze, Zf, bytesOf, Zg, Zh, Zi, Zj, Zk, Zl, Int.reduceLT, Int.reduceLE, Zm, Int.reduceToNat, Zn, Zo, Zp, Int.reduceAdd, Zq, Zr, c0']
  refine drw_same ?_
  simp only [go_sem, Nat.reduceEqDiff, reduceIte, ↓reduceIte, Nat.reduceAdd, Z0, Z1, Z2, Z3, Z4, Z5, Nat.reduceLT, Z6, Z7, Int.reduceEq, Z8, Z9, Nat.reduceLeDiff, Za, Zb, Zc, Zd, Ze, Zf, bytesOf, Zg, Zh, Zi, Zj, Zk, Zl, Int.reduceLT, Int.reduceLE, Zm, Int.reduceToNat, Zn, Zo, Zp, Int.reduceAdd, Zq, Zr, hmv, h3, h4, h5, zl45_4, f1, c1']
  refine acall_pure (sOpNum g.iw x.text ht5 z y _) ?_
  simp only [go_sem, Nat.reduceEqDiff, reduceIte, ↓reduceIte, Nat.reduceAdd, Z0, Z1, Z2, Z3, Z4, Z5, Nat.reduceLT, Z6, Z7, Int.reduceEq, Z8, Z9, Nat.reduceLeDiff, Za, Zb, Zc, Zd, Ze, Zf, bytesOf, Zg, Zh, Zi, Zj, Zk, Zl, Int.reduceLT, Int.reduceLE, Zm, Int.reduceToNat, Zn, Zo, Zp, Int.reduceAdd, Zq, Zr, vL, h6]
  have hmQ := hm
  have hQ := hO.wr 0 (arD x.text z y) []
  have q1 := hQ.mm.mv
  have q2 := hQ.mm.rg
  have q3 := hQ.x3
  have q4 := hQ.x6
  simp only [mCl] at q1
  rw [xC] at q3
  refine drw_same ?_
  simp only [go_sem, Nat.reduceEqDiff, reduceIte, ↓reduceIte, Nat.reduceAdd, Z0, Z1, Z2, Z3, Z4, Z5, Nat.reduceLT, Z6, Z7, Int.reduceEq, Z8, Z9, Nat.reduceLeDiff, Za, Zb, Zc, Zd, Ze, Zf, bytesOf, Zg, Zh, Zi, Zj, Zk, Zl, Int.reduceLT, Int.reduceLE, Zm, Int.reduceToNat, Zn, Zo, Zp, Int.reduceAdd, Zq, Zr, q1, q2, q3, q4, a0, a1]
  rw [show (([AV.p (.i .i64 0), .p (.i .i64 ((arD x.text z y))), .p (.s [])]) : List AV) = wS (WD.n (arD x.text z y)) from rfl, stoR_at (sreg_g hmQ a0 a1) (show splice (wS _) 0 (wS (WD.n (arD x.text z y))) = some (wS (WD.n (arD x.text z y))) from rfl)]
  simp only [go_sem, Nat.reduceEqDiff, reduceIte, ↓reduceIte, Nat.reduceAdd, Z0, Z1, Z2, Z3, Z4, Z5, Nat.reduceLT, Z6, Z7, Int.reduceEq, Z8, Z9, Nat.reduceLeDiff, Za, Zb, Zc, Zd, Ze, Zf, bytesOf, Zg, Zh, Zi, Zj, Zk, Zl, Int.reduceLT, Int.reduceLE, Zm, Int.reduceToNat, Zn, Zo, Zp, Int.reduceAdd, Zq, Zr]
  obtain ⟨p1, p2⟩ := hQ.mm.putReg x.a.toNat (WD.n (arD x.text z y))
  rw [ed]
  exact ⟨_, p1, hQ.fr.trans p2, rfl, rfl⟩
end Go.Proofs.Ytmbggdfceecojaa.Cd

/- The machine of the program: operations, and what goes elsewhere. -/
set_option linter.all false
namespace Go.Proofs.Ytmbggdfceecojaa.Cd
open Go.AM Mc Ho

theorem imC_sou {c m ids ou} (h : MOk c m) (v : AV) : splice (imC c ids ou m) 327 [v] = some (imC c ids v m) := imR_s327 (lenR h) (lenS h)
theorem ints_cons (z : Int) (l : List Int) : ints (z :: l) = [.i .i64 z] :: ints l := rfl
theorem ints_one (l : List Int) : ∀ r ∈ ints l, r.length = 1 := by
  intro r hr
  obtain ⟨x, _, rfl⟩ := List.mem_map.1 hr
  rfl

/-- what is put -/
theorem IM.print {c im ids ou H m} (h : IM c im ids ou H m) (z : Int) {id ver : Nat} {H' : List AO} (g : H'[id]? = some (.rows 1 ver (intR .i64 m.out ++ [[.p (.i .i64 z)]])))
    (hn : (∃ v o n, ou = .gs id v o n) ∨ H.length ≤ id) (k : ∀ (j : Nat) o, H[j]? = some o → (∀ v o' n, ou ≠ .gs j v o' n) → H'[j]? = some o) (hl : H.length ≤ H'.length) {n : Nat} (en : n = (intR .i64 m.out).length + 1) :
    IM c im ids (.gs id ver 0 n) (H'.set im (.var (imC c ids (.gs id ver 0 n) m))) { m with out := m.out ++ [z] } ∧ Fr (imP im ids ou) (imP im ids (.gs id ver 0 n)) H (H'.set im (.var (imC c ids (.gs id ver 0 n) m))) := by
  have o1 : ∀ (j : Nat) cs, H[j]? = some (.var cs) → ∀ v o' n, ou ≠ .gs j v o' n := by
    rintro j cs hj v o' n rfl
    rcases h.out with ⟨e, _⟩ | ⟨i, vv, e, e2⟩
    · cases e
    · cases e; rw [hj] at e2; cases e2
  have o2 : ∀ (j sz vr : Nat) rs, sz ≠ 1 → H[j]? = some (.rows sz vr rs) → ∀ v o' n, ou ≠ .gs j v o' n := by
    rintro j sz vr rs hs hj v o' n rfl
    rcases h.out with ⟨e, _⟩ | ⟨i, vv, e, e2⟩
    · cases e
    · cases e; rw [hj] at e2; cases e2; exact hs rfl
  have hv := k _ _ h.var (o1 _ _ h.var)
  have hne : im ≠ id := by rintro rfl; rw [hv] at g; cases g
  refine ⟨⟨set_get hv, h.nd, h.len, fun i id' n' hi => ⟨(h.rcs i id' n' hi).1, get_set (k _ _ (h.rcs i id' n' hi).2 (o2 _ _ _ _ (by decide) (h.rcs i id' n' hi).2)) ?_⟩, .inr ⟨id, ver, ?_, ?_⟩⟩, ?_⟩
  · rintro rfl
    have := (h.rcs i _ n' hi).2
    rw [h.var] at this; cases this
  · rw [en]; simp [intR]
  · rw [get_set g hne]; simp [intR]
  · refine ⟨fun j o hj hp => ?_, fun j hj => ?_, by simpa using hl⟩
    · exact get_set (k j o hj fun v o' n e => hp (.inr (.inr ⟨v, o', n, e⟩))) (fun e => hp (.inl e.symm))
    · rcases hj with h' | h' | ⟨v, o', n', e⟩
      · exact .inl (.inl h')
      · exact .inl (.inr (.inl h'))
      · cases e
        rcases hn with h' | h'
        · exact .inl (.inr (.inr h'))
        · exact .inr h'

set_option maxHeartbeats 2000000 in
theorem mOp {c im ids ou H m} (h : IM c im ids ou H m) (hm : MOk c m) {x : InsD} (hx : InsOk c x) (hol : m.out.length ≤ 1000000) (hil : m.inp.length ≤ 1000000) :
    ACall Try.prog 197 [.ptr im 0, .st (x.cells.map .p)] H (fun r H' => ∃ ou', IM c im ids ou' H' (opD x m) ∧ Fr (imP im ids ou) (imP im ids ou') H H') := by
  have hX := IX.new h x
  have b0 := hx.rb.1
  have b1 := hx.rb.2
  have c0 := hx.rc.1
  have c1 := hx.rc.2
  have a0 := hx.ra.1
  have a1 := hx.ra.2
  refine call197 (by simp) ?_
  simp only [go_sem, Nat.reduceEqDiff, reduceIte, ↓reduceIte, Nat.reduceAdd, Z0, Z1, Z2, Z3, Z4, Z5, Nat.reduceLT, Z6, Z7, Int.reduceEq, Z8, Z9, Nat.reduceLeDiff, Za, Zb, Zc, Zd, Ze, Zf, bytesOf, Zg, Zh, Zi, Zj, Zk, Zl, Int.reduceLT, Int.reduceLE, Zm, Int.reduceToNat, Zn, Zo, Zp, Int.reduceAdd, Zq, Zr, mc197, mr197, InsD.cells]
  generalize H ++ [AO.var [AV.p (.i .i64 x.op), .p (.i .i64 x.a), .p (.i .i64 x.b), .p (.i .i64 x.c), .p (.i .i64 x.n), .p (.s x.text)]] = H1 at hX ⊢
  generalize H.length = b at hX ⊢
  have fin : ∀ m', m'.heap = m.heap → m'.out = m.out → opD x m = m' → ∃ ou', IM c im ids ou' (H1.set im (.var (imC c ids ou m'))) (opD x m) ∧ Fr (imP im ids ou) (imP im ids ou') H (H1.set im (.var (imC c ids ou m'))) := by
    rintro m' e1 e2 e3
    rw [e3]
    exact ⟨ou, (hX.put m' e1 e2).mm, (hX.put m' e1 e2).fr⟩
  have hM := hX.mm
  have hv := hM.var
  have hs : ∀ o, (H1.set im o)[im]? = some o := fun o => set_get hv
  have hbs : ∀ o, (H1.set im o)[b]? = some (.var [.p (.i .i64 x.op), .p (.i .i64 x.a), .p (.i .i64 x.b), .p (.i .i64 x.c), .p (.i .i64 x.n), .p (.s x.text)]) := fun o => get_set hX.bx hX.ne
  have tx : ∀ (hh : x.text = [94] ∨ x.text = [115, 105, 122, 101]), ACall Try.prog 226 [.ptr im 0, .st [.p (.i .i64 x.op), .p (.i .i64 x.a), .p (.i .i64 x.b), .p (.i .i64 x.c), .p (.i .i64 x.n), .p (.s x.text)]] H1 (fun r H' => IM c im ids ou H' (opD x m) ∧ Fr (imP im ids ou) (imP im ids ou) H1 H') := fun hh => mTexts hM hm hx hh
  by_cases e1 : x.text = [94]
  · have tx1 := tx (.inl e1)
    simp only [go_sem, Nat.reduceEqDiff, reduceIte, ↓reduceIte, Nat.reduceAdd, Z0, Z1, Z2, Z3, Z4, Z5, Nat.reduceLT, Z6, Z7, Int.reduceEq, Z8, Z9, Nat.reduceLeDiff, Za, Zb, Zc, Zd, Ze, Zf, bytesOf, Zg, Zh, Zi, Zj, Zk, Zl, Int.reduceLT, Int.reduceLE, Zm, Int.reduceToNat, Zn, Zo, Zp, Int.reduceAdd, Zq, Zr, e1, hX.bx]
    rw [e1] at tx1
    refine tx1.mono ?_
    rintro r H' ⟨h1, h2⟩
    simp only [go_sem, Nat.reduceEqDiff, reduceIte, ↓reduceIte, Nat.reduceAdd, Z0, Z1, Z2, Z3, Z4, Z5, Nat.reduceLT, Z6, Z7, Int.reduceEq, Z8, Z9, Nat.reduceLeDiff, Za, Zb, Zc, Zd, Ze, Zf, bytesOf, Zg, Zh, Zi, Zj, Zk, Zl, Int.reduceLT, Int.reduceLE, Zm, Int.reduceToNat, Zn, Zo, Zp, Int.reduceAdd, Zq, Zr]
    exact ⟨ou, h1, hX.fr.trans h2⟩
  have d1 : decide (x.text = [94]) = false := by simp [e1]
  by_cases e2 : x.text = [115, 105, 122, 101]
  · have tx1 := tx (.inr e2)
    simp only [go_sem, Nat.reduceEqDiff, reduceIte, ↓reduceIte, Nat.reduceAdd, Z0, Z1, Z2, Z3, Z4, Z5, Nat.reduceLT, Z6, Z7, Int.reduceEq, Z8, Z9, Nat.reduceLeDiff, Za, Zb, Zc, Zd, Ze, Zf, bytesOf, Zg, Zh, Zi, Zj, Zk, Zl, Int.reduceLT, Int.reduceLE, Zm, Int.reduceToNat, Zn, Zo, Zp, Int.reduceAdd, Zq, Zr, d1]
    simp only [go_sem, Nat.reduceEqDiff, reduceIte, ↓reduceIte, Nat.reduceAdd, Z0, Z1, Z2, Z3, Z4, Z5, Nat.reduceLT, Z6, Z7, Int.reduceEq, Z8, Z9, Nat.reduceLeDiff, Za, Zb, Zc, Zd, Ze, Zf, bytesOf, Zg, Zh, Zi, Zj, Zk, Zl, Int.reduceLT, Int.reduceLE, Zm, Int.reduceToNat, Zn, Zo, Zp, Int.reduceAdd, Zq, Zr, e2, hX.bx]
    rw [e2] at tx1
    refine tx1.mono ?_
    rintro r H' ⟨h1, h2⟩
    simp only [go_sem, Nat.reduceEqDiff, reduceIte, ↓reduceIte, Nat.reduceAdd, Z0, Z1, Z2, Z3, Z4, Z5, Nat.reduceLT, Z6, Z7, Int.reduceEq, Z8, Z9, Nat.reduceLeDiff, Za, Zb, Zc, Zd, Ze, Zf, bytesOf, Zg, Zh, Zi, Zj, Zk, Zl, Int.reduceLT, Int.reduceLE, Zm, Int.reduceToNat, Zn, Zo, Zp, Int.reduceAdd, Zq, Zr]
    exact ⟨ou, h1, hX.fr.trans h2⟩
  have d2 : decide (x.text = [115, 105, 122, 101]) = false := by simp [e2]
  by_cases e3 : x.text = [114, 101, 97, 100]
  · have d3 : decide (x.text = [114, 101, 97, 100]) = true := by simp [e3]
    have hil' : m.inp.length ≤ maxL := by unfold maxL; omega
    simp only [go_sem, Nat.reduceEqDiff, reduceIte, ↓reduceIte, Nat.reduceAdd, Z0, Z1, Z2, Z3, Z4, Z5, Nat.reduceLT, Z6, Z7, Int.reduceEq, Z8, Z9, Nat.reduceLeDiff, Za, Zb, Zc, Zd, Ze, Zf, bytesOf, Zg, Zh, Zi, Zj, Zk, Zl, Int.reduceLT, Int.reduceLE, Zm, Int.reduceToNat, Zn, Zo, Zp, Int.reduceAdd, Zq, Zr, d1, d2, d3, hX.bx, hv, imC_inp, ints_len]
    intro _
    cases hin : m.inp with
    | nil =>
      simp only [go_sem, Nat.reduceEqDiff, reduceIte, ↓reduceIte, Nat.reduceAdd, Z0, Z1, Z2, Z3, Z4, Z5, Nat.reduceLT, Z6, Z7, Int.reduceEq, Z8, Z9, Nat.reduceLeDiff, Za, Zb, Zc, Zd, Ze, Zf, bytesOf, Zg, Zh, Zi, Zj, Zk, Zl, Int.reduceLT, Int.reduceLE, Zm, Int.reduceToNat, Zn, Zo, Zp, Int.reduceAdd, Zq, Zr, List.length_nil]
      refine drw_same ?_
      simp only [go_sem, Nat.reduceEqDiff, reduceIte, ↓reduceIte, Nat.reduceAdd, Z0, Z1, Z2, Z3, Z4, Z5, Nat.reduceLT, Z6, Z7, Int.reduceEq, Z8, Z9, Nat.reduceLeDiff, Za, Zb, Zc, Zd, Ze, Zf, bytesOf, Zg, Zh, Zi, Zj, Zk, Zl, Int.reduceLT, Int.reduceLE, Zm, Int.reduceToNat, Zn, Zo, Zp, Int.reduceAdd, Zq, Zr, hX.bx, hv]
      refine pcall_pure (fun A => mNum _ ids _) (Hext.refl _) ?_
      simp only [go_sem, Nat.reduceEqDiff, reduceIte, ↓reduceIte, Nat.reduceAdd, Z0, Z1, Z2, Z3, Z4, Z5, Nat.reduceLT, Z6, Z7, Int.reduceEq, Z8, Z9, Nat.reduceLeDiff, Za, Zb, Zc, Zd, Ze, Zf, bytesOf, Zg, Zh, Zi, Zj, Zk, Zl, Int.reduceLT, Int.reduceLE, Zm, Int.reduceToNat, Zn, Zo, Zp, Int.reduceAdd, Zq, Zr, hX.bx, hv, a0, a1, wI_len', imC_sreg hm a0 a1]
      refine fin _ rfl rfl ?_
      rw [opD, if_pos e3, hin]
      cases m; simp only at hin; subst hin; rfl
    | cons z l =>
      have dp : decide ((0 : Int) < ((l.length + 1 : Nat) : Int)) = true := by simp
      have hl1 : (1 : Int) ≤ ((z :: l).length : Int) := by simp; omega
      simp only [go_sem, Nat.reduceEqDiff, reduceIte, ↓reduceIte, Nat.reduceAdd, Z0, Z1, Z2, Z3, Z4, Z5, Nat.reduceLT, Z6, Z7, Int.reduceEq, Z8, Z9, Nat.reduceLeDiff, Za, Zb, Zc, Zd, Ze, Zf, bytesOf, Zg, Zh, Zi, Zj, Zk, Zl, Int.reduceLT, Int.reduceLE, Zm, Int.reduceToNat, Zn, Zo, Zp, Int.reduceAdd, Zq, Zr, dp]
      refine drw_same ?_
      have hin' : ldV false 1 (some ((imC c ids ou m).drop 2)) = some (.p (.l (ints (z :: l)))) := by rw [imC_inp, hin]
      have hsl : ((ints (z :: l)).drop 1).take ((z :: l).length - 1) = ints l := by
        rw [ints_cons]; show (ints l).take l.length = ints l; exact List.take_of_length_le (by rw [ints_len]; exact Nat.le_refl _)
      have h00 : (ints (z :: l))[0]? = some [.i .i64 z] := rfl
      simp only [go_sem, Nat.reduceEqDiff, reduceIte, ↓reduceIte, Nat.reduceAdd, hX.bx, hv, hin']
      refine ⟨Int.le_refl _, [.i .i64 z], rfl, rfl, ?_⟩
      simp only [go_sem, Nat.reduceEqDiff, reduceIte, ↓reduceIte, Nat.reduceAdd, hX.bx, hv, hin', List.map_cons, List.map_nil, List.head?_cons, List.drop_zero]
      refine ⟨ints_one _, by decide, ?_, ?_⟩
      · rw [ints_len]; exact hl1
      rw [ints_len, show Int.toNat 1 = 1 from rfl, hsl]
      have hm2 : MOk c { m with inp := l } := ⟨hm.regs, hm.slots, hm.room0, hm.room, hm.wr, hm.ws, hm.wh⟩
      simp only [go_sem, Nat.reduceEqDiff, reduceIte, ↓reduceIte, Nat.reduceAdd, Z0, Z1, Z2, Z3, Z4, Z5, Nat.reduceLT, Z6, Z7, Int.reduceEq, Z8, Z9, Nat.reduceLeDiff, Za, Zb, Zc, Zd, Ze, Zf, bytesOf, Zg, Zh, Zi, Zj, Zk, Zl, Int.reduceLT, Int.reduceLE, Zm, Int.reduceToNat, Zn, Zo, Zp, Int.reduceAdd, Zq, Zr, hX.bx, hv, imC_sinp]
      refine drw_same ?_
      simp only [go_sem, Nat.reduceEqDiff, reduceIte, ↓reduceIte, Nat.reduceAdd, Z0, Z1, Z2, Z3, Z4, Z5, Nat.reduceLT, Z6, Z7, Int.reduceEq, Z8, Z9, Nat.reduceLeDiff, Za, Zb, Zc, Zd, Ze, Zf, bytesOf, Zg, Zh, Zi, Zj, Zk, Zl, Int.reduceLT, Int.reduceLE, Zm, Int.reduceToNat, Zn, Zo, Zp, Int.reduceAdd, Zq, Zr, hbs, hs]
      refine pcall_pure (fun A => mNum _ ids _) (Hext.refl _) ?_
      simp only [go_sem, Nat.reduceEqDiff, reduceIte, ↓reduceIte, Nat.reduceAdd, Z0, Z1, Z2, Z3, Z4, Z5, Nat.reduceLT, Z6, Z7, Int.reduceEq, Z8, Z9, Nat.reduceLeDiff, Za, Zb, Zc, Zd, Ze, Zf, bytesOf, Zg, Zh, Zi, Zj, Zk, Zl, Int.reduceLT, Int.reduceLE, Zm, Int.reduceToNat, Zn, Zo, Zp, Int.reduceAdd, Zq, Zr, hs, a0, a1, wI_len', imC_sreg hm2 a0 a1, List.set_set]
      refine fin _ rfl rfl ?_
      rw [opD, if_pos e3, hin]; rfl
  have d3 : decide (x.text = [114, 101, 97, 100]) = false := by simp [e3]
  simp only [go_sem, Nat.reduceEqDiff, reduceIte, ↓reduceIte, Nat.reduceAdd, Z0, Z1, Z2, Z3, Z4, Z5, Nat.reduceLT, Z6, Z7, Int.reduceEq, Z8, Z9, Nat.reduceLeDiff, Za, Zb, Zc, Zd, Ze, Zf, bytesOf, Zg, Zh, Zi, Zj, Zk, Zl, Int.reduceLT, Int.reduceLE, Zm, Int.reduceToNat, Zn, Zo, Zp, Int.reduceAdd, Zq, Zr, d1, d2, d3, hX.bx]
  by_cases eb : ∃ t, m.g x.b = .n t
  case neg =>
    refine acall_pure (mWantF hM hm b0 b1 (k := 0) (wKind_n fun k e => eb ⟨k, e⟩)) ?_
    simp only [go_sem, Nat.reduceEqDiff, reduceIte, ↓reduceIte, Nat.reduceAdd, Z0, Z1, Z2, Z3, Z4, Z5, Nat.reduceLT, Z6, Z7, Int.reduceEq, Z8, Z9, Nat.reduceLeDiff, Za, Zb, Zc, Zd, Ze, Zf, bytesOf, Zg, Zh, Zi, Zj, Zk, Zl, Int.reduceLT, Int.reduceLE, Zm, Int.reduceToNat, Zn, Zo, Zp, Int.reduceAdd, Zq, Zr]
    refine fin _ rfl rfl ?_
    rw [opD, if_neg e3, if_neg e2, if_neg e1]
    split
    · split
      · rename_i t e; exact absurd ⟨t, e⟩ eb
      · rfl
    · split
      · rename_i t u e _; exact absurd ⟨t, e⟩ eb
      · rfl
  obtain ⟨t, eb⟩ := eb
  refine acall_pure (mWantT hM hm b0 b1 (k := 0) (by rw [eb]; rfl)) ?_
  simp only [go_sem, Nat.reduceEqDiff, reduceIte, ↓reduceIte, Nat.reduceAdd, Z0, Z1, Z2, Z3, Z4, Z5, Nat.reduceLT, Z6, Z7, Int.reduceEq, Z8, Z9, Nat.reduceLeDiff, Za, Zb, Zc, Zd, Ze, Zf, bytesOf, Zg, Zh, Zi, Zj, Zk, Zl, Int.reduceLT, Int.reduceLE, Zm, Int.reduceToNat, Zn, Zo, Zp, Int.reduceAdd, Zq, Zr]
  refine drw_same ?_
  simp only [go_sem, Nat.reduceEqDiff, reduceIte, ↓reduceIte, Nat.reduceAdd, Z0, Z1, Z2, Z3, Z4, Z5, Nat.reduceLT, Z6, Z7, Int.reduceEq, Z8, Z9, Nat.reduceLeDiff, Za, Zb, Zc, Zd, Ze, Zf, bytesOf, Zg, Zh, Zi, Zj, Zk, Zl, Int.reduceLT, Int.reduceLE, Zm, Int.reduceToNat, Zn, Zo, Zp, Int.reduceAdd, Zq, Zr, hX.bx, hv, b0, b1, imC_num hm b0 b1, eb, wNum]
  by_cases e4 : x.text = [112, 114, 105, 110, 116]
  · have d4 : decide (x.text = [112, 114, 105, 110, 116]) = true := by simp [e4]
    have hM2 := hM.ext [AO.rows 1 0 [[AV.p (.i .i64 t)]]]
    have hfr := hX.fr.trans (Fr.ext (imP im ids ou) H1 [AO.rows 1 0 [[AV.p (.i .i64 t)]]])
    have hg : (H1 ++ [AO.rows 1 0 [[AV.p (.i .i64 t)]]])[H1.length]? = some (.rows 1 0 [[AV.p (.i .i64 t)]]) := get_off0 _ _
    simp only [go_sem, Nat.reduceEqDiff, reduceIte, ↓reduceIte, Nat.reduceAdd, Z0, Z1, Z2, Z3, Z4, Z5, Nat.reduceLT, Z6, Z7, Int.reduceEq, Z8, Z9, Nat.reduceLeDiff, Za, Zb, Zc, Zd, Ze, Zf, bytesOf, Zg, Zh, Zi, Zj, Zk, Zl, Int.reduceLT, Int.reduceLE, Zm, Int.reduceToNat, Zn, Zo, Zp, Int.reduceAdd, Zq, Zr, d4, hX.bx, hv, imC_ou hm]
    generalize H1 ++ [AO.rows 1 0 [[AV.p (.i .i64 t)]]] = H2 at hM2 hfr hg ⊢
    refine ⟨by simp, ?_⟩
    refine app_fr hM2.out (by simp [intR]; omega) (by simp [intR]; omega) ?_
    intro id ver H3 g hn k hl
    obtain ⟨p1, p2⟩ := hM2.print t g hn k hl (n := (intR .i64 m.out).length + 1) rfl
    have hv3 : H3[im]? = some (.var (imC c ids ou m)) := k _ _ hM2.var (by
      rintro v o' n rfl
      rcases hM2.out with ⟨e, _⟩ | ⟨i, vv, e, e2⟩
      · cases e
      · cases e; rw [hM2.var] at e2; cases e2)
    simp only [go_sem, Nat.reduceEqDiff, reduceIte, ↓reduceIte, Nat.reduceAdd, Z0, Z1, Z2, Z3, Z4, Z5, Nat.reduceLT, Z6, Z7, Int.reduceEq, Z8, Z9, Nat.reduceLeDiff, Za, Zb, Zc, Zd, Ze, Zf, bytesOf, Zg, Zh, Zi, Zj, Zk, Zl, Int.reduceLT, Int.reduceLE, Zm, Int.reduceToNat, Zn, Zo, Zp, Int.reduceAdd, Zq, Zr, hv3, imC_sou hm]
    have ed : opD x m = { m with out := m.out ++ [t] } := by rw [opD, if_neg e3, if_pos e4, eb]
    rw [ed]
    exact ⟨_, p1, hfr.trans p2⟩
  have d4 : decide (x.text = [112, 114, 105, 110, 116]) = false := by simp [e4]
  simp only [go_sem, Nat.reduceEqDiff, reduceIte, ↓reduceIte, Nat.reduceAdd, Z0, Z1, Z2, Z3, Z4, Z5, Nat.reduceLT, Z6, Z7, Int.reduceEq, Z8, Z9, Nat.reduceLeDiff, Za, Zb, Zc, Zd, Ze, Zf, bytesOf, Zg, Zh, Zi, Zj, Zk, Zl, Int.reduceLT, Int.reduceLE, Zm, Int.reduceToNat, Zn, Zo, Zp, Int.reduceAdd, Zq, Zr, d4, hX.bx]
  by_cases ec : ∃ t, m.g x.c = .n t
  case neg =>
    refine acall_pure (mWantF hM hm c0 c1 (k := 0) (wKind_n fun k e => ec ⟨k, e⟩)) ?_
    simp only [go_sem, Nat.reduceEqDiff, reduceIte, ↓reduceIte, Nat.reduceAdd, Z0, Z1, Z2, Z3, Z4, Z5, Nat.reduceLT, Z6, Z7, Int.reduceEq, Z8, Z9, Nat.reduceLeDiff, Za, Zb, Zc, Zd, Ze, Zf, bytesOf, Zg, Zh, Zi, Zj, Zk, Zl, Int.reduceLT, Int.reduceLE, Zm, Int.reduceToNat, Zn, Zo, Zp, Int.reduceAdd, Zq, Zr]
    refine fin _ rfl rfl ?_
    rw [opD, if_neg e3, if_neg e4, if_neg e2, if_neg e1]
    split
    · rename_i t u _ e; exact absurd ⟨u, e⟩ ec
    · rfl
  obtain ⟨u, ec⟩ := ec
  refine acall_pure (mWantT hM hm c0 c1 (k := 0) (by rw [ec]; rfl)) ?_
  have ed : opD x m = m.p x.a (.n (arD x.text t u)) := by rw [opD, if_neg e3, if_neg e4, if_neg e2, if_neg e1, eb, ec]
  simp only [go_sem, Nat.reduceEqDiff, reduceIte, ↓reduceIte, Nat.reduceAdd, Z0, Z1, Z2, Z3, Z4, Z5, Nat.reduceLT, Z6, Z7, Int.reduceEq, Z8, Z9, Nat.reduceLeDiff, Za, Zb, Zc, Zd, Ze, Zf, bytesOf, Zg, Zh, Zi, Zj, Zk, Zl, Int.reduceLT, Int.reduceLE, Zm, Int.reduceToNat, Zn, Zo, Zp, Int.reduceAdd, Zq, Zr]
  refine drw_same ?_
  simp only [go_sem, Nat.reduceEqDiff, reduceIte, ↓reduceIte, Nat.reduceAdd, Z0, Z1, Z2, Z3, Z4, Z5, Nat.reduceLT, Z6, Z7, Int.reduceEq, Z8, Z9, Nat.reduceLeDiff, Za, Zb, Zc, Zd, Ze, Zf, bytesOf, Zg, Zh, Zi, Zj, Zk, Zl, Int.reduceLT, Int.reduceLE, Zm, Int.reduceToNat, Zn, Zo, Zp, Int.reduceAdd, Zq, Zr, hX.bx, hv, c0, c1, imC_num hm c0 c1, ec, wNum]
  have last : ∀ z, arD x.text t u = z → ∃ ou', IM c im ids ou' (H1.set im (.var (imC c ids ou (m.p x.a (.n z))))) (opD x m) ∧ Fr (imP im ids ou) (imP im ids ou') H (H1.set im (.var (imC c ids ou (m.p x.a (.n z))))) := fun z ez => fin _ rfl rfl (by rw [ed, ez])
  by_cases f1 : x.text = [43]
  · have g1 : decide (x.text = [43]) = true := by simp [f1]
    simp only [go_sem, Nat.reduceEqDiff, reduceIte, ↓reduceIte, Nat.reduceAdd, Z0, Z1, Z2, Z3, Z4, Z5, Nat.reduceLT, Z6, Z7, Int.reduceEq, Z8, Z9, Nat.reduceLeDiff, Za, Zb, Zc, Zd, Ze, Zf, bytesOf, Zg, Zh, Zi, Zj, Zk, Zl, Int.reduceLT, Int.reduceLE, Zm, Int.reduceToNat, Zn, Zo, Zp, Int.reduceAdd, Zq, Zr, g1]
    refine drw_same ?_
    simp only [go_sem, Nat.reduceEqDiff, reduceIte, ↓reduceIte, Nat.reduceAdd, Z0, Z1, Z2, Z3, Z4, Z5, Nat.reduceLT, Z6, Z7, Int.reduceEq, Z8, Z9, Nat.reduceLeDiff, Za, Zb, Zc, Zd, Ze, Zf, bytesOf, Zg, Zh, Zi, Zj, Zk, Zl, Int.reduceLT, Int.reduceLE, Zm, Int.reduceToNat, Zn, Zo, Zp, Int.reduceAdd, Zq, Zr, hX.bx, hv]
    refine pcall_pure (fun A => mNum _ ids _) (Hext.refl _) ?_
    simp only [go_sem, Nat.reduceEqDiff, reduceIte, ↓reduceIte, Nat.reduceAdd, Z0, Z1, Z2, Z3, Z4, Z5, Nat.reduceLT, Z6, Z7, Int.reduceEq, Z8, Z9, Nat.reduceLeDiff, Za, Zb, Zc, Zd, Ze, Zf, bytesOf, Zg, Zh, Zi, Zj, Zk, Zl, Int.reduceLT, Int.reduceLE, Zm, Int.reduceToNat, Zn, Zo, Zp, Int.reduceAdd, Zq, Zr, hX.bx, hv, a0, a1, wI_len', imC_sreg hm a0 a1]
    exact last _ (by rw [arD, if_pos f1])
  have g1 : decide (x.text = [43]) = false := by simp [f1]
  by_cases f2 : x.text = [45]
  · have g2 : decide (x.text = [45]) = true := by simp [f2]
    simp only [go_sem, Nat.reduceEqDiff, reduceIte, ↓reduceIte, Nat.reduceAdd, Z0, Z1, Z2, Z3, Z4, Z5, Nat.reduceLT, Z6, Z7, Int.reduceEq, Z8, Z9, Nat.reduceLeDiff, Za, Zb, Zc, Zd, Ze, Zf, bytesOf, Zg, Zh, Zi, Zj, Zk, Zl, Int.reduceLT, Int.reduceLE, Zm, Int.reduceToNat, Zn, Zo, Zp, Int.reduceAdd, Zq, Zr, g1, g2]
    refine drw_same ?_
    simp only [go_sem, Nat.reduceEqDiff, reduceIte, ↓reduceIte, Nat.reduceAdd, Z0, Z1, Z2, Z3, Z4, Z5, Nat.reduceLT, Z6, Z7, Int.reduceEq, Z8, Z9, Nat.reduceLeDiff, Za, Zb, Zc, Zd, Ze, Zf, bytesOf, Zg, Zh, Zi, Zj, Zk, Zl, Int.reduceLT, Int.reduceLE, Zm, Int.reduceToNat, Zn, Zo, Zp, Int.reduceAdd, Zq, Zr, hX.bx, hv]
    refine pcall_pure (fun A => mNum _ ids _) (Hext.refl _) ?_
    simp only [go_sem, Nat.reduceEqDiff, reduceIte, ↓reduceIte, Nat.reduceAdd, Z0, Z1, Z2, Z3, Z4, Z5, Nat.reduceLT, Z6, Z7, Int.reduceEq, Z8, Z9, Nat.reduceLeDiff, Za, Zb, Zc, Zd, Ze, Zf, bytesOf, Zg, Zh, Zi, Zj, Zk, Zl, Int.reduceLT, Int.reduceLE, Zm, Int.reduceToNat, Zn, Zo, Zp, Int.reduceAdd, Zq, Zr, hX.bx, hv, a0, a1, wI_len', imC_sreg hm a0 a1]
    exact last _ (by rw [arD, if_neg f1, if_pos f2])
  have g2 : decide (x.text = [45]) = false := by simp [f2]
  by_cases f3 : x.text = [42]
  · have g3 : decide (x.text = [42]) = true := by simp [f3]
    simp only [go_sem, Nat.reduceEqDiff, reduceIte, ↓reduceIte, Nat.reduceAdd, Z0, Z1, Z2, Z3, Z4, Z5, Nat.reduceLT, Z6, Z7, Int.reduceEq, Z8, Z9, Nat.reduceLeDiff, Za, Zb, Zc, Zd, Ze, Zf, bytesOf, Zg, Zh, Zi, Zj, Zk, Zl, Int.reduceLT, Int.reduceLE, Zm, Int.reduceToNat, Zn, Zo, Zp, Int.reduceAdd, Zq, Zr, g1, g2, g3]
    refine drw_same ?_
    simp only [go_sem, Nat.reduceEqDiff, reduceIte, ↓reduceIte, Nat.reduceAdd, Z0, Z1, Z2, Z3, Z4, Z5, Nat.reduceLT, Z6, Z7, Int.reduceEq, Z8, Z9, Nat.reduceLeDiff, Za, Zb, Zc, Zd, Ze, Zf, bytesOf, Zg, Zh, Zi, Zj, Zk, Zl, Int.reduceLT, Int.reduceLE, Zm, Int.reduceToNat, Zn, Zo, Zp, Int.reduceAdd, Zq, Zr, hX.bx, hv]
    refine pcall_pure (fun A => mNum _ ids _) (Hext.refl _) ?_
    simp only [go_sem, Nat.reduceEqDiff, reduceIte, ↓reduceIte, Nat.reduceAdd, Z0, Z1, Z2, Z3, Z4, Z5, Nat.reduceLT, Z6, Z7, Int.reduceEq, Z8, Z9, Nat.reduceLeDiff, Za, Zb, Zc, Zd, Ze, Zf, bytesOf, Zg, Zh, Zi, Zj, Zk, Zl, Int.reduceLT, Int.reduceLE, Zm, Int.reduceToNat, Zn, Zo, Zp, Int.reduceAdd, Zq, Zr, hX.bx, hv, a0, a1, wI_len', imC_sreg hm a0 a1]
    exact last _ (by rw [arD, if_neg f1, if_neg f2, if_pos f3])
  have g3 : decide (x.text = [42]) = false := by simp [f3]
  by_cases f4 : x.text = [61]
  · have g4 : decide (x.text = [61]) = true := by simp [f4]
    simp only [go_sem, Nat.reduceEqDiff, reduceIte, ↓reduceIte, Nat.reduceAdd, Z0, Z1, Z2, Z3, Z4, Z5, Nat.reduceLT, Z6, Z7, Int.reduceEq, Z8, Z9, Nat.reduceLeDiff, Za, Zb, Zc, Zd, Ze, Zf, bytesOf, Zg, Zh, Zi, Zj, Zk, Zl, Int.reduceLT, Int.reduceLE, Zm, Int.reduceToNat, Zn, Zo, Zp, Int.reduceAdd, Zq, Zr, g1, g2, g3, g4]
    by_cases q : t = u
    · simp only [go_sem, Nat.reduceEqDiff, reduceIte, ↓reduceIte, Nat.reduceAdd, Z0, Z1, Z2, Z3, Z4, Z5, Nat.reduceLT, Z6, Z7, Int.reduceEq, Z8, Z9, Nat.reduceLeDiff, Za, Zb, Zc, Zd, Ze, Zf, bytesOf, Zg, Zh, Zi, Zj, Zk, Zl, Int.reduceLT, Int.reduceLE, Zm, Int.reduceToNat, Zn, Zo, Zp, Int.reduceAdd, Zq, Zr, q]
      refine drw_same ?_
      simp only [go_sem, Nat.reduceEqDiff, reduceIte, ↓reduceIte, Nat.reduceAdd, Z0, Z1, Z2, Z3, Z4, Z5, Nat.reduceLT, Z6, Z7, Int.reduceEq, Z8, Z9, Nat.reduceLeDiff, Za, Zb, Zc, Zd, Ze, Zf, bytesOf, Zg, Zh, Zi, Zj, Zk, Zl, Int.reduceLT, Int.reduceLE, Zm, Int.reduceToNat, Zn, Zo, Zp, Int.reduceAdd, Zq, Zr, hX.bx, hv]
      refine pcall_pure (fun A => mNum _ ids _) (Hext.refl _) ?_
      simp only [go_sem, Nat.reduceEqDiff, reduceIte, ↓reduceIte, Nat.reduceAdd, Z0, Z1, Z2, Z3, Z4, Z5, Nat.reduceLT, Z6, Z7, Int.reduceEq, Z8, Z9, Nat.reduceLeDiff, Za, Zb, Zc, Zd, Ze, Zf, bytesOf, Zg, Zh, Zi, Zj, Zk, Zl, Int.reduceLT, Int.reduceLE, Zm, Int.reduceToNat, Zn, Zo, Zp, Int.reduceAdd, Zq, Zr, hX.bx, hv, a0, a1, wI_len', imC_sreg hm a0 a1]
      exact last _ (by rw [arD, if_neg f1, if_neg f2, if_neg f3, if_pos f4, if_pos q])
    · have q' : decide (t = u) = false := by simp [q]
      simp only [go_sem, Nat.reduceEqDiff, reduceIte, ↓reduceIte, Nat.reduceAdd, Z0, Z1, Z2, Z3, Z4, Z5, Nat.reduceLT, Z6, Z7, Int.reduceEq, Z8, Z9, Nat.reduceLeDiff, Za, Zb, Zc, Zd, Ze, Zf, bytesOf, Zg, Zh, Zi, Zj, Zk, Zl, Int.reduceLT, Int.reduceLE, Zm, Int.reduceToNat, Zn, Zo, Zp, Int.reduceAdd, Zq, Zr, q']
      refine drw_same ?_
      simp only [go_sem, Nat.reduceEqDiff, reduceIte, ↓reduceIte, Nat.reduceAdd, Z0, Z1, Z2, Z3, Z4, Z5, Nat.reduceLT, Z6, Z7, Int.reduceEq, Z8, Z9, Nat.reduceLeDiff, Za, Zb, Zc, Zd, Ze, Zf, bytesOf, Zg, Zh, Zi, Zj, Zk, Zl, Int.reduceLT, Int.reduceLE, Zm, Int.reduceToNat, Zn, Zo, Zp, Int.reduceAdd, Zq, Zr, hX.bx, hv]
      refine pcall_pure (fun A => mNum _ ids _) (Hext.refl _) ?_
      simp only [go_sem, Nat.reduceEqDiff, reduceIte, ↓reduceIte, Nat.reduceAdd, Z0, Z1, Z2, Z3, Z4, Z5, Nat.reduceLT, Z6, Z7, Int.reduceEq, Z8, Z9, Nat.reduceLeDiff, Za, Zb, Zc, Zd, Ze, Zf, bytesOf, Zg, Zh, Zi, Zj, Zk, Zl, Int.reduceLT, Int.reduceLE, Zm, Int.reduceToNat, Zn, Zo, Zp, Int.reduceAdd, Zq, Zr, hX.bx, hv, a0, a1, wI_len', imC_sreg hm a0 a1]
      exact last _ (by rw [arD, if_neg f1, if_neg f2, if_neg f3, if_pos f4, if_neg q])
  have g4 : decide (x.text = [61]) = false := by simp [f4]
  by_cases f5 : x.text = [60]
  · have g5 : decide (x.text = [60]) = true := by simp [f5]
    simp only [go_sem, Nat.reduceEqDiff, reduceIte, ↓reduceIte, Nat.reduceAdd, Z0, Z1, Z2, Z3, Z4, Z5, Nat.reduceLT, Z6, Z7, Int.reduceEq, Z8, Z9, Nat.reduceLeDiff, Za, Zb, Zc, Zd, Ze, Zf, bytesOf, Zg, Zh, Zi, Zj, Zk, Zl, Int.reduceLT, Int.reduceLE, Zm, Int.reduceToNat, Zn, Zo, Zp, Int.reduceAdd, Zq, Zr, g1, g2, g3, g4, g5]
    by_cases q : t < u
    · have q' : decide (t < u) = true := by simp [q]
      simp only [go_sem, Nat.reduceEqDiff, reduceIte, ↓reduceIte, Nat.reduceAdd, Z0, Z1, Z2, Z3, Z4, Z5, Nat.reduceLT, Z6, Z7, Int.reduceEq, Z8, Z9, Nat.reduceLeDiff, Za, Zb, Zc, Zd, Ze, Zf, bytesOf, Zg, Zh, Zi, Zj, Zk, Zl, Int.reduceLT, Int.reduceLE, Zm, Int.reduceToNat, Zn, Zo, Zp, Int.reduceAdd, Zq, Zr, q']
      refine drw_same ?_
      simp only [go_sem, Nat.reduceEqDiff, reduceIte, ↓reduceIte, Nat.reduceAdd, Z0, Z1, Z2, Z3, Z4, Z5, Nat.reduceLT, Z6, Z7, Int.reduceEq, Z8, Z9, Nat.reduceLeDiff, Za, Zb, Zc, Zd, Ze, Zf, bytesOf, Zg, Zh, Zi, Zj, Zk, Zl, Int.reduceLT, Int.reduceLE, Zm, Int.reduceToNat, Zn, Zo, Zp, Int.reduceAdd, Zq, Zr, hX.bx, hv]
      refine pcall_pure (fun A => mNum _ ids _) (Hext.refl _) ?_
      simp only [go_sem, Nat.reduceEqDiff, reduceIte, ↓reduceIte, Nat.reduceAdd, Z0, Z1, Z2, Z3, Z4, Z5, Nat.reduceLT, Z6, Z7, Int.reduceEq, Z8, Z9, Nat.reduceLeDiff, Za, Zb, Zc, Zd, Ze, Zf, bytesOf, Zg, Zh, Zi, Zj, Zk, Zl, Int.reduceLT, Int.reduceLE, Zm, Int.reduceToNat, Zn, Zo, Zp, Int.reduceAdd, Zq, Zr, hX.bx, hv, a0, a1, wI_len', imC_sreg hm a0 a1]
      exact last _ (by rw [arD, if_neg f1, if_neg f2, if_neg f3, if_neg f4, if_pos f5, if_pos q])
    · have q' : decide (t < u) = false := by simp [q]
      simp only [go_sem, Nat.reduceEqDiff, reduceIte, ↓reduceIte, Nat.reduceAdd, Z0, Z1, Z2, Z3, Z4, Z5, Nat.reduceLT, Z6, Z7, Int.reduceEq, Z8, Z9, Nat.reduceLeDiff, Za, Zb, Zc, Zd, Ze, Zf, bytesOf, Zg, Zh, Zi, Zj, Zk, Zl, Int.reduceLT, Int.reduceLE, Zm, Int.reduceToNat, Zn, Zo, Zp, Int.reduceAdd, Zq, Zr, q']
      refine drw_same ?_
      simp only [go_sem, Nat.reduceEqDiff, reduceIte, ↓reduceIte, Nat.reduceAdd, Z0, Z1, Z2, Z3, Z4, Z5, Nat.reduceLT, Z6, Z7, Int.reduceEq, Z8, Z9, Nat.reduceLeDiff, Za, Zb, Zc, Zd, Ze, Zf, bytesOf, Zg, Zh, Zi, Zj, Zk, Zl, Int.reduceLT, Int.reduceLE, Zm, Int.reduceToNat, Zn, Zo, Zp, Int.reduceAdd, Zq, Zr, hX.bx, hv]
      refine pcall_pure (fun A => mNum _ ids _) (Hext.refl _) ?_
      simp only [go_sem, Nat.reduceEqDiff, reduceIte, ↓reduceIte, Nat.reduceAdd, Z0, Z1, Z2, Z3, Z4, Z5, Nat.reduceLT, Z6, Z7, Int.reduceEq, Z8, Z9, Nat.reduceLeDiff, Za, Zb, Zc, Zd, Ze, Zf, bytesOf, Zg, Zh, Zi, Zj, Zk, Zl, Int.reduceLT, Int.reduceLE, Zm, Int.reduceToNat, Zn, Zo, Zp, Int.reduceAdd, Zq, Zr, hX.bx, hv, a0, a1, wI_len', imC_sreg hm a0 a1]
      exact last _ (by rw [arD, if_neg f1, if_neg f2, if_neg f3, if_neg f4, if_pos f5, if_neg q])
  have g5 : decide (x.text = [60]) = false := by simp [f5]
  simp only [go_sem, Nat.reduceEqDiff, reduceIte, ↓reduceIte, Nat.reduceAdd, Z0, Z1, Z2, Z3, Z4, Z5, Nat.reduceLT, Z6, Z7, Int.reduceEq, Z8, Z9, Nat.reduceLeDiff, Za, Zb, Zc, Zd, Ze, Zf, bytesOf, Zg, Zh, Zi, Zj, Zk, Zl, Int.reduceLT, Int.reduceLE, Zm, Int.reduceToNat, Zn, Zo, Zp, Int.reduceAdd, Zq, Zr, g1, g2, g3, g4, g5]
  refine drw_same ?_
  simp only [go_sem, Nat.reduceEqDiff, reduceIte, ↓reduceIte, Nat.reduceAdd, Z0, Z1, Z2, Z3, Z4, Z5, Nat.reduceLT, Z6, Z7, Int.reduceEq, Z8, Z9, Nat.reduceLeDiff, Za, Zb, Zc, Zd, Ze, Zf, bytesOf, Zg, Zh, Zi, Zj, Zk, Zl, Int.reduceLT, Int.reduceLE, Zm, Int.reduceToNat, Zn, Zo, Zp, Int.reduceAdd, Zq, Zr, hX.bx, hv]
  refine pcall_pure (fun A => mNum _ ids _) (Hext.refl _) ?_
  simp only [go_sem, Nat.reduceEqDiff, reduceIte, ↓reduceIte, Nat.reduceAdd, Z0, Z1, Z2, Z3, Z4, Z5, Nat.reduceLT, Z6, Z7, Int.reduceEq, Z8, Z9, Nat.reduceLeDiff, Za, Zb, Zc, Zd, Ze, Zf, bytesOf, Zg, Zh, Zi, Zj, Zk, Zl, Int.reduceLT, Int.reduceLE, Zm, Int.reduceToNat, Zn, Zo, Zp, Int.reduceAdd, Zq, Zr, hX.bx, hv, a0, a1, wI_len', imC_sreg hm a0 a1]
  exact last _ (by rw [arD, if_neg f1, if_neg f2, if_neg f3, if_neg f4, if_neg f5])
end Go.Proofs.Ytmbggdfceecojaa.Cd

/- The machine of the program: what goes elsewhere; a step. -/
set_option linter.all false
namespace Go.Proofs.Ytmbggdfceecojaa.Cd
open Go.AM Mc Ho

theorem ints_getD (l : List Int) {i : Nat} (h : i < l.length) : (ints l)[i]? = some [.i .i64 (l.getD i 0)] := by
  rw [ints_at l h, List.getD_eq_getElem?_getD, List.getElem?_eq_getElem h]; rfl

set_option maxHeartbeats 2000000 in
theorem mGoes {c im ids ou H m} (h : IM c im ids ou H m) (hm : MOk c m) {x : InsD} (hx : InsOk c x) (h11 : 11 ≤ x.op) :
    ACall Try.prog 200 [.ptr im 0, .st (x.cells.map .p)] H (fun r H' => IM c im ids ou H' (goD c x m) ∧ Fr (imP im ids ou) (imP im ids ou) H H') := by
  have hX := IX.new h x
  have a0 := hx.ra.1
  have a1 := hx.ra.2
  refine call200 (by simp) ?_
  simp only [go_sem, Nat.reduceEqDiff, reduceIte, ↓reduceIte, Nat.reduceAdd, Z0, Z1, Z2, Z3, Z4, Z5, Nat.reduceLT, Z6, Z7, Int.reduceEq, Z8, Z9, Nat.reduceLeDiff, Za, Zb, Zc, Zd, Ze, Zf, bytesOf, Zg, Zh, Zi, Zj, Zk, Zl, Int.reduceLT, Int.reduceLE, Zm, Int.reduceToNat, Zn, Zo, Zp, Int.reduceAdd, Zq, Zr, mc200, mr200, InsD.cells]
  generalize H ++ [AO.var [AV.p (.i .i64 x.op), .p (.i .i64 x.a), .p (.i .i64 x.b), .p (.i .i64 x.c), .p (.i .i64 x.n), .p (.s x.text)]] = H1 at hX ⊢
  generalize H.length = b at hX ⊢
  have fin : ∀ m', m'.heap = m.heap → m'.out = m.out → goD c x m = m' → IM c im ids ou (H1.set im (.var (imC c ids ou m'))) (goD c x m) ∧ Fr (imP im ids ou) (imP im ids ou) H (H1.set im (.var (imC c ids ou m'))) := by
    rintro m' e1 e2 e3
    rw [e3]
    exact ⟨(hX.put m' e1 e2).mm, (hX.put m' e1 e2).fr⟩
  have hM := hX.mm
  have hv := hM.var
  have hs : ∀ o, (H1.set im o)[im]? = some o := fun o => set_get hv
  have hbs : ∀ o, (H1.set im o)[b]? = some (.var [.p (.i .i64 x.op), .p (.i .i64 x.a), .p (.i .i64 x.b), .p (.i .i64 x.c), .p (.i .i64 x.n), .p (.s x.text)]) := fun o => get_set hX.bx hX.ne
  by_cases e1 : x.op = 11
  · have d1 : decide (x.op = 11) = true := by simp [e1]
    simp only [go_sem, Nat.reduceEqDiff, reduceIte, ↓reduceIte, Nat.reduceAdd, Z0, Z1, Z2, Z3, Z4, Z5, Nat.reduceLT, Z6, Z7, Int.reduceEq, Z8, Z9, Nat.reduceLeDiff, Za, Zb, Zc, Zd, Ze, Zf, bytesOf, Zg, Zh, Zi, Zj, Zk, Zl, Int.reduceLT, Int.reduceLE, Zm, Int.reduceToNat, Zn, Zo, Zp, Int.reduceAdd, Zq, Zr, d1]
    by_cases ea : ∃ t, m.g x.a = .n t
    · obtain ⟨t, ea⟩ := ea
      refine drw_same ?_
      simp only [go_sem, Nat.reduceEqDiff, reduceIte, ↓reduceIte, Nat.reduceAdd, Z0, Z1, Z2, Z3, Z4, Z5, Nat.reduceLT, Z6, Z7, Int.reduceEq, Z8, Z9, Nat.reduceLeDiff, Za, Zb, Zc, Zd, Ze, Zf, bytesOf, Zg, Zh, Zi, Zj, Zk, Zl, Int.reduceLT, Int.reduceLE, Zm, Int.reduceToNat, Zn, Zo, Zp, Int.reduceAdd, Zq, Zr, hX.bx]
      refine pcall_pure (fun A => mWantT (hM.ext A) hm a0 a1 (k := 0) (by rw [ea]; rfl)) (Hext.refl _) ?_
      simp only [go_sem, Nat.reduceEqDiff, reduceIte, ↓reduceIte, Nat.reduceAdd, Z0, Z1, Z2, Z3, Z4, Z5, Nat.reduceLT, Z6, Z7, Int.reduceEq, Z8, Z9, Nat.reduceLeDiff, Za, Zb, Zc, Zd, Ze, Zf, bytesOf, Zg, Zh, Zi, Zj, Zk, Zl, Int.reduceLT, Int.reduceLE, Zm, Int.reduceToNat, Zn, Zo, Zp, Int.reduceAdd, Zq, Zr, hX.bx, hv, a0, a1, imC_num hm a0 a1, ea, wNum]
      by_cases q : t = 0
      · have q' : decide (t = 0) = true := by simp [q]
        simp only [go_sem, Nat.reduceEqDiff, reduceIte, ↓reduceIte, Nat.reduceAdd, Z0, Z1, Z2, Z3, Z4, Z5, Nat.reduceLT, Z6, Z7, Int.reduceEq, Z8, Z9, Nat.reduceLeDiff, Za, Zb, Zc, Zd, Ze, Zf, bytesOf, Zg, Zh, Zi, Zj, Zk, Zl, Int.reduceLT, Int.reduceLE, Zm, Int.reduceToNat, Zn, Zo, Zp, Int.reduceAdd, Zq, Zr, q', hX.bx, hv, imC_spc]
        refine fin _ rfl rfl ?_
        rw [goD, if_pos e1, ea]; simp only [q, if_true]
      · have q' : decide (t = 0) = false := by simp [q]
        simp only [go_sem, Nat.reduceEqDiff, reduceIte, ↓reduceIte, Nat.reduceAdd, Z0, Z1, Z2, Z3, Z4, Z5, Nat.reduceLT, Z6, Z7, Int.reduceEq, Z8, Z9, Nat.reduceLeDiff, Za, Zb, Zc, Zd, Ze, Zf, bytesOf, Zg, Zh, Zi, Zj, Zk, Zl, Int.reduceLT, Int.reduceLE, Zm, Int.reduceToNat, Zn, Zo, Zp, Int.reduceAdd, Zq, Zr, q']
        rw [← hX.self]
        refine fin _ rfl rfl ?_
        rw [goD, if_pos e1, ea]; simp only [q, if_false]
    · refine ⟨H1.set im .dead, dead_ext _ _, ?_⟩
      simp only [go_sem, Nat.reduceEqDiff, reduceIte, ↓reduceIte, Nat.reduceAdd, Z0, Z1, Z2, Z3, Z4, Z5, Nat.reduceLT, Z6, Z7, Int.reduceEq, Z8, Z9, Nat.reduceLeDiff, Za, Zb, Zc, Zd, Ze, Zf, bytesOf, Zg, Zh, Zi, Zj, Zk, Zl, Int.reduceLT, Int.reduceLE, Zm, Int.reduceToNat, Zn, Zo, Zp, Int.reduceAdd, Zq, Zr, hbs]
      refine .inl ⟨.p (.b false), H1.set im (.var (imC c ids ou (m.e 0 0))), by simp, dead_ext' _ _ _, fun A => ?_, ?_⟩
      · have := mWantF (hM.ext A) hm a0 a1 (k := 0) (wKind_n fun k e => ea ⟨k, e⟩)
        rw [List.set_append_left _ _ (get_lt hv)] at this
        exact this
      simp only [go_sem, Nat.reduceEqDiff, reduceIte, ↓reduceIte, Nat.reduceAdd, Z0, Z1, Z2, Z3, Z4, Z5, Nat.reduceLT, Z6, Z7, Int.reduceEq, Z8, Z9, Nat.reduceLeDiff, Za, Zb, Zc, Zd, Ze, Zf, bytesOf, Zg, Zh, Zi, Zj, Zk, Zl, Int.reduceLT, Int.reduceLE, Zm, Int.reduceToNat, Zn, Zo, Zp, Int.reduceAdd, Zq, Zr]
      refine fin _ rfl rfl ?_
      rw [goD, if_pos e1]
      split
      · rename_i t e; exact absurd ⟨t, e⟩ ea
      · rfl
  have d1 : decide (x.op = 11) = false := by simp [e1]
  by_cases e2 : x.op = 12
  · have d2 : decide (x.op = 12) = true := by simp [e2]
    simp only [go_sem, Nat.reduceEqDiff, reduceIte, ↓reduceIte, Nat.reduceAdd, Z0, Z1, Z2, Z3, Z4, Z5, Nat.reduceLT, Z6, Z7, Int.reduceEq, Z8, Z9, Nat.reduceLeDiff, Za, Zb, Zc, Zd, Ze, Zf, bytesOf, Zg, Zh, Zi, Zj, Zk, Zl, Int.reduceLT, Int.reduceLE, Zm, Int.reduceToNat, Zn, Zo, Zp, Int.reduceAdd, Zq, Zr, d1, d2, hX.bx, hv, imC_spc]
    refine fin _ rfl rfl ?_
    rw [goD, if_neg e1, if_pos e2]
  have d2 : decide (x.op = 12) = false := by simp [e2]
  by_cases e3 : x.op = 13
  · have d3 : decide (x.op = 13) = true := by simp [e3]
    simp only [go_sem, Nat.reduceEqDiff, reduceIte, ↓reduceIte, Nat.reduceAdd, Z0, Z1, Z2, Z3, Z4, Z5, Nat.reduceLT, Z6, Z7, Int.reduceEq, Z8, Z9, Nat.reduceLeDiff, Za, Zb, Zc, Zd, Ze, Zf, bytesOf, Zg, Zh, Zi, Zj, Zk, Zl, Int.reduceLT, Int.reduceLE, Zm, Int.reduceToNat, Zn, Zo, Zp, Int.reduceAdd, Zq, Zr, d1, d2, d3, hX.bx]
    by_cases ea : ∃ t, m.g x.a = .b t
    · obtain ⟨t, ea⟩ := ea
      have ht : 0 ≤ t ∧ t < c.starts.length := by have := hm.gOk a0 a1; rw [ea] at this; exact this
      have ht' : t.toNat < c.starts.length := by omega
      refine acall_pure (mWantT hM hm a0 a1 (k := 3) (by rw [ea]; rfl)) ?_
      simp only [go_sem, Nat.reduceEqDiff, reduceIte, ↓reduceIte, Nat.reduceAdd, Z0, Z1, Z2, Z3, Z4, Z5, Nat.reduceLT, Z6, Z7, Int.reduceEq, Z8, Z9, Nat.reduceLeDiff, Za, Zb, Zc, Zd, Ze, Zf, bytesOf, Zg, Zh, Zi, Zj, Zk, Zl, Int.reduceLT, Int.reduceLE, Zm, Int.reduceToNat, Zn, Zo, Zp, Int.reduceAdd, Zq, Zr]
      refine drw_same ?_
      simp only [go_sem, Nat.reduceEqDiff, reduceIte, ↓reduceIte, Nat.reduceAdd, Z0, Z1, Z2, Z3, Z4, Z5, Nat.reduceLT, Z6, Z7, Int.reduceEq, Z8, Z9, Nat.reduceLeDiff, Za, Zb, Zc, Zd, Ze, Zf, bytesOf, Zg, Zh, Zi, Zj, Zk, Zl, Int.reduceLT, Int.reduceLE, Zm, Int.reduceToNat, Zn, Zo, Zp, Int.reduceAdd, Zq, Zr, hX.bx, hv, imC_starts, a0, a1, imC_num hm a0 a1, ea, wNum, ht.1, ints_getD _ ht', imC_spc]
      refine fin _ rfl rfl ?_
      rw [goD, if_neg e1, if_neg e2, if_pos e3, ea]
    · refine acall_pure (mWantF hM hm a0 a1 (k := 3) (wKind_b fun k e => ea ⟨k, e⟩)) ?_
      simp only [go_sem, Nat.reduceEqDiff, reduceIte, ↓reduceIte, Nat.reduceAdd, Z0, Z1, Z2, Z3, Z4, Z5, Nat.reduceLT, Z6, Z7, Int.reduceEq, Z8, Z9, Nat.reduceLeDiff, Za, Zb, Zc, Zd, Ze, Zf, bytesOf, Zg, Zh, Zi, Zj, Zk, Zl, Int.reduceLT, Int.reduceLE, Zm, Int.reduceToNat, Zn, Zo, Zp, Int.reduceAdd, Zq, Zr]
      refine fin _ rfl rfl ?_
      rw [goD, if_neg e1, if_neg e2, if_pos e3]
      split
      · rename_i t e; exact absurd ⟨t, e⟩ ea
      · rfl
  have d3 : decide (x.op = 13) = false := by simp [e3]
  by_cases e4 : x.op = 14
  · have d4 : decide (x.op = 14) = true := by simp [e4]
    simp only [go_sem, Nat.reduceEqDiff, reduceIte, ↓reduceIte, Nat.reduceAdd, Z0, Z1, Z2, Z3, Z4, Z5, Nat.reduceLT, Z6, Z7, Int.reduceEq, Z8, Z9, Nat.reduceLeDiff, Za, Zb, Zc, Zd, Ze, Zf, bytesOf, Zg, Zh, Zi, Zj, Zk, Zl, Int.reduceLT, Int.reduceLE, Zm, Int.reduceToNat, Zn, Zo, Zp, Int.reduceAdd, Zq, Zr, d1, d2, d3, d4, hX.bx]
    by_cases ea : ∃ t, m.g x.a = .n t
    · obtain ⟨t, ea⟩ := ea
      refine acall_pure (mWantT hM hm a0 a1 (k := 0) (by rw [ea]; rfl)) ?_
      simp only [go_sem, Nat.reduceEqDiff, reduceIte, ↓reduceIte, Nat.reduceAdd, Z0, Z1, Z2, Z3, Z4, Z5, Nat.reduceLT, Z6, Z7, Int.reduceEq, Z8, Z9, Nat.reduceLeDiff, Za, Zb, Zc, Zd, Ze, Zf, bytesOf, Zg, Zh, Zi, Zj, Zk, Zl, Int.reduceLT, Int.reduceLE, Zm, Int.reduceToNat, Zn, Zo, Zp, Int.reduceAdd, Zq, Zr]
      refine drw_same ?_
      simp only [go_sem, Nat.reduceEqDiff, reduceIte, ↓reduceIte, Nat.reduceAdd, Z0, Z1, Z2, Z3, Z4, Z5, Nat.reduceLT, Z6, Z7, Int.reduceEq, Z8, Z9, Nat.reduceLeDiff, Za, Zb, Zc, Zd, Ze, Zf, bytesOf, Zg, Zh, Zi, Zj, Zk, Zl, Int.reduceLT, Int.reduceLE, Zm, Int.reduceToNat, Zn, Zo, Zp, Int.reduceAdd, Zq, Zr, hX.bx, hv, a0, a1, imC_num hm a0 a1, ea, wNum]
      refine (mEnd hM hm 1 t).mono ?_
      rintro r H' rfl
      simp only [go_sem, Nat.reduceEqDiff, reduceIte, ↓reduceIte, Nat.reduceAdd, Z0, Z1, Z2, Z3, Z4, Z5, Nat.reduceLT, Z6, Z7, Int.reduceEq, Z8, Z9, Nat.reduceLeDiff, Za, Zb, Zc, Zd, Ze, Zf, bytesOf, Zg, Zh, Zi, Zj, Zk, Zl, Int.reduceLT, Int.reduceLE, Zm, Int.reduceToNat, Zn, Zo, Zp, Int.reduceAdd, Zq, Zr]
      refine fin _ rfl rfl ?_
      rw [goD, if_neg e1, if_neg e2, if_neg e3, if_pos e4, ea]
    · refine acall_pure (mWantF hM hm a0 a1 (k := 0) (wKind_n fun k e => ea ⟨k, e⟩)) ?_
      simp only [go_sem, Nat.reduceEqDiff, reduceIte, ↓reduceIte, Nat.reduceAdd, Z0, Z1, Z2, Z3, Z4, Z5, Nat.reduceLT, Z6, Z7, Int.reduceEq, Z8, Z9, Nat.reduceLeDiff, Za, Zb, Zc, Zd, Ze, Zf, bytesOf, Zg, Zh, Zi, Zj, Zk, Zl, Int.reduceLT, Int.reduceLE, Zm, Int.reduceToNat, Zn, Zo, Zp, Int.reduceAdd, Zq, Zr]
      refine fin _ rfl rfl ?_
      rw [goD, if_neg e1, if_neg e2, if_neg e3, if_pos e4]
      split
      · rename_i t e; exact absurd ⟨t, e⟩ ea
      · rfl
  have d4 : decide (x.op = 14) = false := by simp [e4]
  have e5 : x.op = 15 := by have := hx.op; omega
  have d5 : decide (x.op = 15) = true := by simp [e5]
  simp only [go_sem, Nat.reduceEqDiff, reduceIte, ↓reduceIte, Nat.reduceAdd, Z0, Z1, Z2, Z3, Z4, Z5, Nat.reduceLT, Z6, Z7, Int.reduceEq, Z8, Z9, Nat.reduceLeDiff, Za, Zb, Zc, Zd, Ze, Zf, bytesOf, Zg, Zh, Zi, Zj, Zk, Zl, Int.reduceLT, Int.reduceLE, Zm, Int.reduceToNat, Zn, Zo, Zp, Int.reduceAdd, Zq, Zr, d1, d2, d3, d4, d5, hX.bx]
  refine (mEnd hM hm 2 x.n).mono ?_
  rintro r H' rfl
  simp only [go_sem, Nat.reduceEqDiff, reduceIte, ↓reduceIte, Nat.reduceAdd, Z0, Z1, Z2, Z3, Z4, Z5, Nat.reduceLT, Z6, Z7, Int.reduceEq, Z8, Z9, Nat.reduceLeDiff, Za, Zb, Zc, Zd, Ze, Zf, bytesOf, Zg, Zh, Zi, Zj, Zk, Zl, Int.reduceLT, Int.reduceLE, Zm, Int.reduceToNat, Zn, Zo, Zp, Int.reduceAdd, Zq, Zr]
  refine fin _ rfl rfl ?_
  rw [goD, if_neg e1, if_neg e2, if_neg e3, if_neg e4]

/-! records -/
theorem wI_ext {ids ids' : List (Nat × Nat)} {nb : Nat} {w : WD} (hw : wOk ids.length nb w) : wI (ids ++ ids') w = wI ids w := by
  cases w with
  | r k =>
    have hk : k < ids.length := hw
    simp only [wI, List.getD_eq_getElem?_getD, List.getElem?_append_left hk]
  | _ => rfl
theorem flat_congr {α : Type} {f g : α → List AV} : ∀ {l : List α}, (∀ a ∈ l, f a = g a) → l.flatMap f = l.flatMap g
  | [], _ => rfl
  | a :: l, h => by rw [List.flatMap_cons, List.flatMap_cons, h a (List.mem_cons_self), flat_congr (fun b hb => h b (List.mem_cons_of_mem _ hb))]
theorem imC_ext {c m ids ids' ou} (hm : MOk c m) (hl : ids.length = m.heap.length) : imC c (ids ++ ids') ou m = imC c ids ou m := by
  have e1 : m.regs.flatMap (wI (ids ++ ids')) = m.regs.flatMap (wI ids) := flat_congr fun a ha => wI_ext (by rw [hl]; exact hm.wr a ha)
  have e2 : m.slots.flatMap (wI (ids ++ ids')) = m.slots.flatMap (wI ids) := flat_congr fun a ha => wI_ext (by rw [hl]; exact hm.ws a ha)
  unfold imC; rw [e1, e2]

/-- a new record -/
theorem IM.new {c im ids ou H m} (h : IM c im ids ou H m) (hm : MOk c m) (a : Int) (n : Nat) :
    IM c im (ids ++ [(H.length, n)]) ou ((H ++ [AO.rows 4 0 (List.replicate n [.p (.i .i64 0), .p (.i .i64 0), .p (.s []), .p .nl])]).set im (.var (imC c (ids ++ [(H.length, n)]) ou (m.p a (.r m.heap.length)))))
      { m with heap := m.heap ++ [List.replicate n (.n 0)], regs := m.regs.set a.toNat (.r m.heap.length) } ∧
    Fr (imP im ids ou) (imP im (ids ++ [(H.length, n)]) ou) H ((H ++ [AO.rows 4 0 (List.replicate n [.p (.i .i64 0), .p (.i .i64 0), .p (.s []), .p .nl])]).set im (.var (imC c (ids ++ [(H.length, n)]) ou (m.p a (.r m.heap.length))))) := by
  have hE := h.ext [AO.rows 4 0 (List.replicate n [.p (.i .i64 0), .p (.i .i64 0), .p (.s []), .p .nl])]
  have hlt := get_lt h.var
  refine ⟨⟨set_get hE.var, ?_, by simp [h.len], ?_, ?_⟩, ?_⟩
  · rw [List.map_append]
    refine List.nodup_append.2 ⟨h.nd, by simp, fun i hi j hj => ?_⟩
    simp at hj
    obtain ⟨⟨i', n'⟩, hm', rfl⟩ := List.mem_map.1 hi
    obtain ⟨k, hk⟩ := List.getElem?_of_mem hm'
    have := get_lt (h.rcs k _ _ hk).2
    simp only; omega
  · intro k id n' hk
    by_cases hkl : k < ids.length
    · rw [List.getElem?_append_left hkl] at hk
      have e : rowD { m with heap := m.heap ++ [List.replicate n (WD.n 0)], regs := m.regs.set a.toNat (.r m.heap.length) } k = rowD m k := by
        unfold rowD
        simp only [List.getD_eq_getElem?_getD]
        rw [List.getElem?_append_left (by rw [← h.len]; exact hkl)]
      rw [e]
      obtain ⟨e1, e2⟩ := h.rcs k id n' hk
      refine ⟨e1, ?_⟩
      have ek : (rowD m k).map (wI (ids ++ [(H.length, n)])) = (rowD m k).map (wI ids) := by
        refine List.map_congr_left fun w hw => wI_ext (nb := c.starts.length) ?_
        rw [h.len]; exact (hm.wh _ (rowD_mem (by rw [← h.len]; exact hkl))).2 w hw
      rw [ek]
      refine get_set (get_ext e2 _) ?_
      rintro rfl
      rw [h.var] at e2; cases e2
    · have hke : k = ids.length := by
        have := (List.getElem?_eq_some_iff.1 hk).1
        simp at this; omega
      subst hke
      simp at hk
      obtain ⟨rfl, rfl⟩ := hk
      have e : rowD { m with heap := m.heap ++ [List.replicate n (WD.n 0)], regs := m.regs.set a.toNat (.r m.heap.length) } ids.length = List.replicate n (.n 0) := by
        unfold rowD
        simp [List.getD_eq_getElem?_getD, h.len]
      rw [e]
      refine ⟨by simp, ?_⟩
      rw [List.map_replicate]
      exact get_set (get_off0 _ _) (by omega)
  · rcases h.out with ⟨e1, e2⟩ | ⟨i, ver, e1, e2⟩
    · exact .inl ⟨e1, e2⟩
    · refine .inr ⟨i, ver, e1, get_set (get_ext e2 _) ?_⟩
      rintro rfl; rw [h.var] at e2; cases e2
  · refine ⟨fun j o hj hp => get_set (get_ext hj _) (fun e => hp (.inl e.symm)), fun j hj => ?_, by simp⟩
    rcases hj with h' | ⟨n', h'⟩ | h'
    · exact .inl (.inl h')
    · rcases List.mem_append.1 h' with h2 | h2
      · exact .inl (.inr (.inl ⟨n', h2⟩))
      · simp at h2
        exact .inr (by omega)
    · exact .inl (.inr (.inr h'))
end Go.Proofs.Ytmbggdfceecojaa.Cd

/- The machine of the program: a step. -/
set_option linter.all false
namespace Go.Proofs.Ytmbggdfceecojaa.Cd
open Go.AM Mc Ho

/-- a record is written -/
theorem IM.putr {c im ids ou H m} (h : IM c im ids ou H m) {k id l n : Nat} (hk : ids[k]? = some (id, l)) (hn : n < (rowD m k).length) (w : WD) :
    IM c im ids ou (H.set id (.rows 4 0 ((rowD m k).map (wI ids) |>.set n (wI ids w)))) { m with heap := m.heap.set k ((rowD m k).set n w) } ∧ Fr (imP im ids ou) (imP im ids ou) H (H.set id (.rows 4 0 ((rowD m k).map (wI ids) |>.set n (wI ids w)))) := by
  obtain ⟨hl, hr⟩ := h.rcs k id l hk
  have hkl : k < m.heap.length := by rw [← h.len]; exact (List.getElem?_eq_some_iff.1 hk).1
  refine ⟨⟨get_set h.var ?_, h.nd, by simp [h.len], fun i id' l' hi => ?_, ?_⟩, Fr.set _ (.inr (.inl ⟨l, List.mem_of_getElem? hk⟩))⟩
  · rintro rfl; rw [h.var] at hr; cases hr
  · obtain ⟨e1, e2⟩ := h.rcs i id' l' hi
    by_cases e : i = k
    · subst e
      rw [hk] at hi; cases hi
      have er : rowD { m with heap := m.heap.set i ((rowD m i).set n w) } i = (rowD m i).set n w := by
        unfold rowD
        simp [List.getD_eq_getElem?_getD, hkl]
      rw [er]
      refine ⟨by simpa using e1, ?_⟩
      rw [set_get hr, List.map_set]
    · have er : rowD { m with heap := m.heap.set k ((rowD m k).set n w) } i = rowD m i := by
        show (m.heap.set k _).getD i [] = m.heap.getD i []
        rw [List.getD_eq_getElem?_getD, List.getD_eq_getElem?_getD, List.getElem?_set_ne (fun e' => e e'.symm)]
      rw [er]
      refine ⟨e1, get_set e2 ?_⟩
      rintro rfl
      have h1 := (List.getElem?_eq_some_iff.1 hi).1
      have h2 := (List.getElem?_eq_some_iff.1 hk).1
      have := ((List.getElem?_inj (l := ids.map (·.1)) (by simpa using h1) h.nd).1 (by rw [List.getElem?_map, List.getElem?_map, hi, hk]; rfl) : i = k)
      exact e this
  · rcases h.out with ⟨e1, e2⟩ | ⟨i, ver, e1, e2⟩
    · exact .inl ⟨e1, e2⟩
    · refine .inr ⟨i, ver, e1, get_set e2 ?_⟩
      rintro rfl; rw [hr] at e2; cases e2

theorem effD_k {c : CodeD} {x : InsD} {m : MD} (h : 11 ≤ x.op) : effD c x m = goD c x m := by
  unfold effD
  simp only [show ¬ x.op = 1 by omega, show ¬ x.op = 2 by omega, show ¬ x.op = 3 by omega, show ¬ x.op = 4 by omega, show ¬ x.op = 5 by omega, show ¬ x.op = 6 by omega, show ¬ x.op = 7 by omega, show ¬ x.op = 8 by omega, show ¬ x.op = 9 by omega, show ¬ x.op = 10 by omega, if_false]

theorem roomOk {c m} (hm : MOk c m) {n : Int} (h0 : 0 ≤ n) (h : ¬ m.room < n) : MOk c { m with room := m.room - n } := by
  have h1 := hm.room
  have h2 := hm.room0
  exact ⟨hm.regs, hm.slots, by simp only; omega, by simp only; omega, hm.wr, hm.ws, hm.wh⟩
theorem wI_getD {ids : List (Nat × Nat)} {l : List WD} {n : Nat} (h : n < l.length) : (l.map (wI ids))[n]? = some (wI ids (l.getD n (.n 0))) := by
  rw [List.getElem?_map, List.getElem?_eq_getElem h, List.getD_eq_getElem?_getD, List.getElem?_eq_getElem h]; rfl
theorem wI_take (ids) (w : WD) : ldV true 4 (some ((wI ids w).drop 0)) = some (.st (wI ids w)) := by cases w <;> rfl
theorem wI_take' (ids) (w : WD) : ldV true 4 (some (wI ids w)) = some (.st (wI ids w)) := by cases w <;> rfl
theorem wI_splice (ids) (v w : WD) : splice (wI ids v) 0 (wI ids w) = some (wI ids w) := by
  have := splice_here (wI ids v) (wI ids w) [] (by rw [wI_len, wI_len])
  simpa using this

set_option maxHeartbeats 4000000 in
theorem mStep {c im ids ou H m} (h : IM c im ids ou H m) (hc : CFacts c) (hm : MOk c m) (p0 : 0 ≤ m.pc) (p1 : m.pc < c.ins.length) (hol : m.out.length ≤ 1000000) (hil : m.inp.length ≤ 1000000) :
    ACall Try.prog 152 [.ptr im 0] H (fun r H' => ∃ ids' ou', IM c im ids' ou' H' (stepD c m) ∧ Fr (imP im ids ou) (imP im ids' ou') H H') := by
  have hx := hc.ins _ (insAt_mem p0 p1)
  have hg : (inss c.ins)[m.pc.toNat]? = some (insAt c m.pc).cells := by rw [inss, List.getElem?_map, insAt_get p0 p1]; rfl
  have hsd : stepD c m = effD c (insAt c m.pc) { m with pc := m.pc + 1 } := rfl
  rw [hsd]
  have ep : wr .i64 (m.pc + 1) = m.pc + 1 := by have := hc.len; rw [wr64 (by omega) (by omega)]
  generalize insAt c m.pc = x at hx hg hsd ⊢
  have hX := IX.new h x
  refine call152 (by simp) ?_
  rw [InsD.cells] at hg
  simp only [go_sem, Nat.reduceEqDiff, reduceIte, ↓reduceIte, Nat.reduceAdd, Z0, Z1, Z2, Z3, Z4, Z5, Nat.reduceLT, Z6, Z7, Int.reduceEq, Z8, Z9, Nat.reduceLeDiff, Za, Zb, Zc, Zd, Ze, Zf, bytesOf, Zg, Zh, Zi, Zj, Zk, Zl, Int.reduceLT, Int.reduceLE, Zm, Int.reduceToNat, Zn, Zo, Zp, Int.reduceAdd, Zq, Zr, mc152, mr152]
  refine drw_same ?_
  have hbo : ∀ o, ((H ++ [AO.var [AV.p (.i .i64 x.op), .p (.i .i64 x.a), .p (.i .i64 x.b), .p (.i .i64 x.c), .p (.i .i64 x.n), .p (.s x.text)]]).set im o)[H.length]? = _ := fun o => get_set hX.bx hX.ne
  simp only [go_sem, Nat.reduceEqDiff, reduceIte, ↓reduceIte, Nat.reduceAdd, Z0, Z1, Z2, Z3, Z4, Z5, Nat.reduceLT, Z6, Z7, Int.reduceEq, Z8, Z9, Nat.reduceLeDiff, Za, Zb, Zc, Zd, Ze, Zf, bytesOf, Zg, Zh, Zi, Zj, Zk, Zl, Int.reduceLT, Int.reduceLE, Zm, Int.reduceToNat, Zn, Zo, Zp, Int.reduceAdd, Zq, Zr, h.var, imC_ins', imC_pc, p0, hg, zl45_3, hX.mm.var, ep, imC_spc, hbo, Nat.add_zero]
  have hY := hX.put { m with pc := m.pc + 1 } rfl rfl
  clear hX hbo
  generalize (H ++ [AO.var [AV.p (.i .i64 x.op), .p (.i .i64 x.a), .p (.i .i64 x.b), .p (.i .i64 x.c), .p (.i .i64 x.n), .p (.s x.text)]]).set im (AO.var (imC c ids ou { m with pc := m.pc + 1 })) = H1 at hY ⊢
  generalize H.length = b at hY ⊢
  have hm1 : MOk c { m with pc := m.pc + 1 } := hm.pcOk _
  clear hsd hg ep p0 p1
  replace hol : ({ m with pc := m.pc + 1 } : MD).out.length ≤ 1000000 := hol
  replace hil : ({ m with pc := m.pc + 1 } : MD).inp.length ≤ 1000000 := hil
  clear hm h
  generalize ({ m with pc := m.pc + 1 } : MD) = m1 at *
  obtain ⟨hM, hb, hne, hfr⟩ := hY
  have hv := hM.var
  have a0 := hx.ra.1
  have a1 := hx.ra.2
  have b0 := hx.rb.1
  have b1 := hx.rb.2
  have hs : ∀ o, (H1.set im o)[im]? = some o := fun o => set_get hv
  have hbs : ∀ o, (H1.set im o)[b]? = some (.var [.p (.i .i64 x.op), .p (.i .i64 x.a), .p (.i .i64 x.b), .p (.i .i64 x.c), .p (.i .i64 x.n), .p (.s x.text)]) := fun o => get_set hb hne
  have fin : ∀ m', m'.heap = m1.heap → m'.out = m1.out → effD c x m1 = m' → ∃ ids' ou', IM c im ids' ou' (H1.set im (.var (imC c ids ou m'))) (effD c x m1) ∧ Fr (imP im ids ou) (imP im ids' ou') H (H1.set im (.var (imC c ids ou m'))) := by
    rintro m' e1 e2 e3
    rw [e3]
    exact ⟨ids, ou, hM.put m' e1 e2, hfr.trans (fr_var _)⟩
  by_cases k1 : x.op = 1
  · have d1 : decide (x.op = 1) = true := by simp [k1]
    simp only [go_sem, Nat.reduceEqDiff, reduceIte, ↓reduceIte, Nat.reduceAdd, Z0, Z1, Z2, Z3, Z4, Z5, Nat.reduceLT, Z6, Z7, Int.reduceEq, Z8, Z9, Nat.reduceLeDiff, Za, Zb, Zc, Zd, Ze, Zf, bytesOf, Zg, Zh, Zi, Zj, Zk, Zl, Int.reduceLT, Int.reduceLE, Zm, Int.reduceToNat, Zn, Zo, Zp, Int.reduceAdd, Zq, Zr, d1]
    refine drw_same ?_
    simp only [go_sem, Nat.reduceEqDiff, reduceIte, ↓reduceIte, Nat.reduceAdd, Z0, Z1, Z2, Z3, Z4, Z5, Nat.reduceLT, Z6, Z7, Int.reduceEq, Z8, Z9, Nat.reduceLeDiff, Za, Zb, Zc, Zd, Ze, Zf, bytesOf, Zg, Zh, Zi, Zj, Zk, Zl, Int.reduceLT, Int.reduceLE, Zm, Int.reduceToNat, Zn, Zo, Zp, Int.reduceAdd, Zq, Zr, hb, hv]
    refine pcall_pure (fun A => mNum _ ids _) (Hext.refl _) ?_
    simp only [go_sem, Nat.reduceEqDiff, reduceIte, ↓reduceIte, Nat.reduceAdd, Z0, Z1, Z2, Z3, Z4, Z5, Nat.reduceLT, Z6, Z7, Int.reduceEq, Z8, Z9, Nat.reduceLeDiff, Za, Zb, Zc, Zd, Ze, Zf, bytesOf, Zg, Zh, Zi, Zj, Zk, Zl, Int.reduceLT, Int.reduceLE, Zm, Int.reduceToNat, Zn, Zo, Zp, Int.reduceAdd, Zq, Zr, hb, hv, a0, a1, wI_len', imC_sreg hm1 a0 a1]
    exact fin _ rfl rfl (by simp only [effD, k1, Int.reduceEq, if_true, if_false])
  have d1 : decide (x.op = 1) = false := by simp [k1]
  by_cases k2 : x.op = 2
  · have d2 : decide (x.op = 2) = true := by simp [k2]
    have ew : [AV.p (.i .i64 1), .p (.i .i64 0), .p (.s x.text), .p .nl] = wI ids (.s x.text) := rfl
    simp only [go_sem, Nat.reduceEqDiff, reduceIte, ↓reduceIte, Nat.reduceAdd, Z0, Z1, Z2, Z3, Z4, Z5, Nat.reduceLT, Z6, Z7, Int.reduceEq, Z8, Z9, Nat.reduceLeDiff, Za, Zb, Zc, Zd, Ze, Zf, bytesOf, Zg, Zh, Zi, Zj, Zk, Zl, Int.reduceLT, Int.reduceLE, Zm, Int.reduceToNat, Zn, Zo, Zp, Int.reduceAdd, Zq, Zr, d1, d2]
    refine drw_same ?_
    simp only [go_sem, Nat.reduceEqDiff, reduceIte, ↓reduceIte, Nat.reduceAdd, Z0, Z1, Z2, Z3, Z4, Z5, Nat.reduceLT, Z6, Z7, Int.reduceEq, Z8, Z9, Nat.reduceLeDiff, Za, Zb, Zc, Zd, Ze, Zf, bytesOf, Zg, Zh, Zi, Zj, Zk, Zl, Int.reduceLT, Int.reduceLE, Zm, Int.reduceToNat, Zn, Zo, Zp, Int.reduceAdd, Zq, Zr, hb, hv, a0, a1, ew, wI_len', imC_sreg hm1 a0 a1]
    exact fin _ rfl rfl (by simp only [effD, k2, Int.reduceEq, if_true, if_false])
  have d2 : decide (x.op = 2) = false := by simp [k2]
  by_cases k3 : x.op = 3
  · have d3 : decide (x.op = 3) = true := by simp [k3]
    have ew : [AV.p (.i .i64 3), .p (.i .i64 x.n), .p (.s []), .p .nl] = wI ids (.b x.n) := rfl
    simp only [go_sem, Nat.reduceEqDiff, reduceIte, ↓reduceIte, Nat.reduceAdd, Z0, Z1, Z2, Z3, Z4, Z5, Nat.reduceLT, Z6, Z7, Int.reduceEq, Z8, Z9, Nat.reduceLeDiff, Za, Zb, Zc, Zd, Ze, Zf, bytesOf, Zg, Zh, Zi, Zj, Zk, Zl, Int.reduceLT, Int.reduceLE, Zm, Int.reduceToNat, Zn, Zo, Zp, Int.reduceAdd, Zq, Zr, d1, d2, d3]
    refine drw_same ?_
    simp only [go_sem, Nat.reduceEqDiff, reduceIte, ↓reduceIte, Nat.reduceAdd, Z0, Z1, Z2, Z3, Z4, Z5, Nat.reduceLT, Z6, Z7, Int.reduceEq, Z8, Z9, Nat.reduceLeDiff, Za, Zb, Zc, Zd, Ze, Zf, bytesOf, Zg, Zh, Zi, Zj, Zk, Zl, Int.reduceLT, Int.reduceLE, Zm, Int.reduceToNat, Zn, Zo, Zp, Int.reduceAdd, Zq, Zr, hb, hv, a0, a1, ew, wI_len', imC_sreg hm1 a0 a1]
    exact fin _ rfl rfl (by simp only [effD, k3, Int.reduceEq, if_true, if_false])
  have d3 : decide (x.op = 3) = false := by simp [k3]
  by_cases k4 : x.op = 4
  · have d4 : decide (x.op = 4) = true := by simp [k4]
    simp only [go_sem, Nat.reduceEqDiff, reduceIte, ↓reduceIte, Nat.reduceAdd, Z0, Z1, Z2, Z3, Z4, Z5, Nat.reduceLT, Z6, Z7, Int.reduceEq, Z8, Z9, Nat.reduceLeDiff, Za, Zb, Zc, Zd, Ze, Zf, bytesOf, Zg, Zh, Zi, Zj, Zk, Zl, Int.reduceLT, Int.reduceLE, Zm, Int.reduceToNat, Zn, Zo, Zp, Int.reduceAdd, Zq, Zr, d1, d2, d3, d4]
    refine drw_same ?_
    simp only [go_sem, Nat.reduceEqDiff, reduceIte, ↓reduceIte, Nat.reduceAdd, Z0, Z1, Z2, Z3, Z4, Z5, Nat.reduceLT, Z6, Z7, Int.reduceEq, Z8, Z9, Nat.reduceLeDiff, Za, Zb, Zc, Zd, Ze, Zf, bytesOf, Zg, Zh, Zi, Zj, Zk, Zl, Int.reduceLT, Int.reduceLE, Zm, Int.reduceToNat, Zn, Zo, Zp, Int.reduceAdd, Zq, Zr, hb, hv, a0, a1, b0, b1, imC_word hm1 b0 b1, wI_len', imC_sreg hm1 a0 a1]
    exact fin _ rfl rfl (by simp only [effD, k4, Int.reduceEq, if_true, if_false])
  have d4 : decide (x.op = 4) = false := by simp [k4]
  by_cases k5 : x.op = 5
  · have d5 : decide (x.op = 5) = true := by simp [k5]
    obtain ⟨s0, s1⟩ := hx.slot (.inl k5)
    simp only [go_sem, Nat.reduceEqDiff, reduceIte, ↓reduceIte, Nat.reduceAdd, Z0, Z1, Z2, Z3, Z4, Z5, Nat.reduceLT, Z6, Z7, Int.reduceEq, Z8, Z9, Nat.reduceLeDiff, Za, Zb, Zc, Zd, Ze, Zf, bytesOf, Zg, Zh, Zi, Zj, Zk, Zl, Int.reduceLT, Int.reduceLE, Zm, Int.reduceToNat, Zn, Zo, Zp, Int.reduceAdd, Zq, Zr, d1, d2, d3, d4, d5]
    refine drw_same ?_
    simp only [go_sem, Nat.reduceEqDiff, reduceIte, ↓reduceIte, Nat.reduceAdd, Z0, Z1, Z2, Z3, Z4, Z5, Nat.reduceLT, Z6, Z7, Int.reduceEq, Z8, Z9, Nat.reduceLeDiff, Za, Zb, Zc, Zd, Ze, Zf, bytesOf, Zg, Zh, Zi, Zj, Zk, Zl, Int.reduceLT, Int.reduceLE, Zm, Int.reduceToNat, Zn, Zo, Zp, Int.reduceAdd, Zq, Zr, hb, hv, a0, a1, s0, s1, imC_slot hm1 s0 s1, wI_len', imC_sreg hm1 a0 a1]
    exact fin _ rfl rfl (by simp only [effD, k5, Int.reduceEq, if_true, if_false])
  have d5 : decide (x.op = 5) = false := by simp [k5]
  by_cases k6 : x.op = 6
  · have d6 : decide (x.op = 6) = true := by simp [k6]
    obtain ⟨s0, s1⟩ := hx.slot (.inr k6)
    simp only [go_sem, Nat.reduceEqDiff, reduceIte, ↓reduceIte, Nat.reduceAdd, Z0, Z1, Z2, Z3, Z4, Z5, Nat.reduceLT, Z6, Z7, Int.reduceEq, Z8, Z9, Nat.reduceLeDiff, Za, Zb, Zc, Zd, Ze, Zf, bytesOf, Zg, Zh, Zi, Zj, Zk, Zl, Int.reduceLT, Int.reduceLE, Zm, Int.reduceToNat, Zn, Zo, Zp, Int.reduceAdd, Zq, Zr, d1, d2, d3, d4, d5, d6]
    refine drw_same ?_
    simp only [go_sem, Nat.reduceEqDiff, reduceIte, ↓reduceIte, Nat.reduceAdd, Z0, Z1, Z2, Z3, Z4, Z5, Nat.reduceLT, Z6, Z7, Int.reduceEq, Z8, Z9, Nat.reduceLeDiff, Za, Zb, Zc, Zd, Ze, Zf, bytesOf, Zg, Zh, Zi, Zj, Zk, Zl, Int.reduceLT, Int.reduceLE, Zm, Int.reduceToNat, Zn, Zo, Zp, Int.reduceAdd, Zq, Zr, hb, hv, a0, a1, s0, s1, imC_word hm1 a0 a1, wI_len', imC_sslot hm1 s0 s1]
    exact fin _ rfl rfl (by simp only [effD, k6, Int.reduceEq, if_true, if_false])
  have d6 : decide (x.op = 6) = false := by simp [k6]
  by_cases k7 : x.op = 7
  · have d7 : decide (x.op = 7) = true := by simp [k7]
    have eo := mOp hM hm1 hx hol hil
    rw [InsD.cells] at eo
    simp only [go_sem, Nat.reduceEqDiff, reduceIte, ↓reduceIte, Nat.reduceAdd, Z0, Z1, Z2, Z3, Z4, Z5, Nat.reduceLT, Z6, Z7, Int.reduceEq, Z8, Z9, Nat.reduceLeDiff, Za, Zb, Zc, Zd, Ze, Zf, bytesOf, Zg, Zh, Zi, Zj, Zk, Zl, Int.reduceLT, Int.reduceLE, Zm, Int.reduceToNat, Zn, Zo, Zp, Int.reduceAdd, Zq, Zr, ] at eo
    simp only [go_sem, Nat.reduceEqDiff, reduceIte, ↓reduceIte, Nat.reduceAdd, Z0, Z1, Z2, Z3, Z4, Z5, Nat.reduceLT, Z6, Z7, Int.reduceEq, Z8, Z9, Nat.reduceLeDiff, Za, Zb, Zc, Zd, Ze, Zf, bytesOf, Zg, Zh, Zi, Zj, Zk, Zl, Int.reduceLT, Int.reduceLE, Zm, Int.reduceToNat, Zn, Zo, Zp, Int.reduceAdd, Zq, Zr, d1, d2, d3, d4, d5, d6, d7, hb]
    refine eo.mono ?_
    rintro r H' ⟨ou', h1, h2⟩
    simp only [go_sem, Nat.reduceEqDiff, reduceIte, ↓reduceIte, Nat.reduceAdd, Z0, Z1, Z2, Z3, Z4, Z5, Nat.reduceLT, Z6, Z7, Int.reduceEq, Z8, Z9, Nat.reduceLeDiff, Za, Zb, Zc, Zd, Ze, Zf, bytesOf, Zg, Zh, Zi, Zj, Zk, Zl, Int.reduceLT, Int.reduceLE, Zm, Int.reduceToNat, Zn, Zo, Zp, Int.reduceAdd, Zq, Zr]
    have ee : effD c x m1 = opD x m1 := by simp only [effD, k7, Int.reduceEq, if_true, if_false]
    rw [ee]
    exact ⟨ids, ou', h1, hfr.trans h2⟩
  have d7 : decide (x.op = 7) = false := by simp [k7]
  by_cases k8 : x.op = 8
  · have d8 : decide (x.op = 8) = true := by simp [k8]
    obtain ⟨n1, n2⟩ := hx.new k8
    have ee : effD c x m1 = newD x m1 := by simp only [effD, k8, Int.reduceEq, if_true, if_false]
    have e1 : wr .i64 (x.n + 1) = x.n + 1 := wr64 (by omega) (by omega)
    simp only [go_sem, Nat.reduceEqDiff, reduceIte, ↓reduceIte, Nat.reduceAdd, Z0, Z1, Z2, Z3, Z4, Z5, Nat.reduceLT, Z6, Z7, Int.reduceEq, Z8, Z9, Nat.reduceLeDiff, Za, Zb, Zc, Zd, Ze, Zf, bytesOf, Zg, Zh, Zi, Zj, Zk, Zl, Int.reduceLT, Int.reduceLE, Zm, Int.reduceToNat, Zn, Zo, Zp, Int.reduceAdd, Zq, Zr, d1, d2, d3, d4, d5, d6, d7, d8, hb, e1]
    by_cases hr : m1.room < x.n + 1
    · refine acall_pure (mRoomF hM hm1 (by omega) hr) ?_
      simp only [go_sem, Nat.reduceEqDiff, reduceIte, ↓reduceIte, Nat.reduceAdd, Z0, Z1, Z2, Z3, Z4, Z5, Nat.reduceLT, Z6, Z7, Int.reduceEq, Z8, Z9, Nat.reduceLeDiff, Za, Zb, Zc, Zd, Ze, Zf, bytesOf, Zg, Zh, Zi, Zj, Zk, Zl, Int.reduceLT, Int.reduceLE, Zm, Int.reduceToNat, Zn, Zo, Zp, Int.reduceAdd, Zq, Zr]
      exact fin _ rfl rfl (by rw [ee, newD, if_pos hr])
    · refine acall_pure (mRoomT hM hm1 (by omega) hr) ?_
      have hm2 := roomOk hm1 (by omega) hr
      have hM2 := hM.put { m1 with room := m1.room - (x.n + 1) } rfl rfl
      have hfr2 := hfr.trans (fr_var (im := im) (ids := ids) (ou := ou) (H := H1) (AO.var (imC c ids ou { m1 with room := m1.room - (x.n + 1) })))
      have hb2 := hbs (AO.var (imC c ids ou { m1 with room := m1.room - (x.n + 1) }))
      have ed : effD c x m1 = { ({ m1 with room := m1.room - (x.n + 1) } : MD) with heap := m1.heap ++ [List.replicate x.n.toNat (.n 0)], regs := m1.regs.set x.a.toNat (.r m1.heap.length) } := by rw [ee, newD, if_neg hr]
      rw [ed]
      clear ed ee fin hs hbs hv
      have eh : ({ m1 with room := m1.room - (x.n + 1) } : MD).heap = m1.heap := rfl
      have er : ({ m1 with room := m1.room - (x.n + 1) } : MD).regs = m1.regs := rfl
      rw [← eh, ← er]
      generalize ({ m1 with room := m1.room - (x.n + 1) } : MD) = m2 at *
      generalize H1.set im (AO.var (imC c ids ou m2)) = H2 at *
      obtain ⟨q1, q2⟩ := hM2.new hm2 x.a x.n.toNat
      have hb3 := get_ext hb2 [AO.rows 4 0 (List.replicate x.n.toNat [AV.p (.i .i64 0), .p (.i .i64 0), .p (.s []), .p .nl])]
      have hv3 := get_ext hM2.var [AO.rows 4 0 (List.replicate x.n.toNat [AV.p (.i .i64 0), .p (.i .i64 0), .p (.s []), .p .nl])]
      have ew : [AV.p (.i .i64 2), .p (.i .i64 0), .p (.s []), .gs H2.length 0 0 x.n.toNat] = wI (ids ++ [(H2.length, x.n.toNat)]) (.r m2.heap.length) := by
        simp [wI, List.getD_eq_getElem?_getD, ← hM2.len]
      have n0 : (0 : Int) ≤ x.n := by omega
      have n56 : x.n * 56 ≤ 140737488355328 := by omega
      have nm : x.n ≤ 140737488355328 := by omega
      have es := @imC_sreg c m2 (ids ++ [(H2.length, x.n.toNat)]) ou hm2 x.a a0 a1 (.r m2.heap.length)
      rw [imC_ext hm2 hM2.len] at es
      simp only [go_sem, Nat.reduceEqDiff, reduceIte, ↓reduceIte, Nat.reduceAdd, Z0, Z1, Z2, Z3, Z4, Z5, Nat.reduceLT, Z6, Z7, Int.reduceEq, Z8, Z9, Nat.reduceLeDiff, Za, Zb, Zc, Zd, Ze, Zf, bytesOf, Zg, Zh, Zi, Zj, Zk, Zl, Int.reduceLT, Int.reduceLE, Zm, Int.reduceToNat, Zn, Zo, Zp, Int.reduceAdd, Zq, Zr]
      refine drw_same ?_
      simp only [go_sem, Nat.reduceEqDiff, reduceIte, ↓reduceIte, Nat.reduceAdd, Z0, Z1, Z2, Z3, Z4, Z5, Nat.reduceLT, Z6, Z7, Int.reduceEq, Z8, Z9, Nat.reduceLeDiff, Za, Zb, Zc, Zd, Ze, Zf, bytesOf, Zg, Zh, Zi, Zj, Zk, Zl, Int.reduceLT, Int.reduceLE, Zm, Int.reduceToNat, Zn, Zo, Zp, Int.reduceAdd, Zq, Zr, hb2, n0, n56, nm, hM2.var, hv3, a0, a1, Int.le_refl, ew, wI_len', es, Nat.add_zero, List.length_nil]
      exact ⟨_, _, q1, hfr2.trans q2⟩
  have d8 : decide (x.op = 8) = false := by simp [k8]
  by_cases k9 : x.op = 9
  · have d9 : decide (x.op = 9) = true := by simp [k9]
    have n0 := hx.mem (.inl k9)
    have ee : effD c x m1 = putMD x m1 := by simp only [effD, k9, Int.reduceEq, if_true, if_false]
    simp only [go_sem, Nat.reduceEqDiff, reduceIte, ↓reduceIte, Nat.reduceAdd, Z0, Z1, Z2, Z3, Z4, Z5, Nat.reduceLT, Z6, Z7, Int.reduceEq, Z8, Z9, Nat.reduceLeDiff, Za, Zb, Zc, Zd, Ze, Zf, bytesOf, Zg, Zh, Zi, Zj, Zk, Zl, Int.reduceLT, Int.reduceLE, Zm, Int.reduceToNat, Zn, Zo, Zp, Int.reduceAdd, Zq, Zr, d1, d2, d3, d4, d5, d6, d7, d8, d9, hb]
    by_cases hk : ∃ k, m1.g x.a = .r k ∧ x.n < (rowD m1 k).length
    · obtain ⟨k, ek, hlt⟩ := hk
      obtain ⟨id, l, hp, e1, hl, hl4, hr, hkl⟩ := recAt hM hm1 a0 a1 ek
      have hlt' : x.n.toNat < (rowD m1 k).length := by omega
      obtain ⟨q1, q2⟩ := hM.putr hp hlt' (m1.g x.b)
      refine acall_pure (mMemberT hM hm1 a0 a1 n0 ek hp hlt) ?_
      simp only [go_sem, Nat.reduceEqDiff, reduceIte, ↓reduceIte, Nat.reduceAdd, Z0, Z1, Z2, Z3, Z4, Z5, Nat.reduceLT, Z6, Z7, Int.reduceEq, Z8, Z9, Nat.reduceLeDiff, Za, Zb, Zc, Zd, Ze, Zf, bytesOf, Zg, Zh, Zi, Zj, Zk, Zl, Int.reduceLT, Int.reduceLE, Zm, Int.reduceToNat, Zn, Zo, Zp, Int.reduceAdd, Zq, Zr]
      refine drw_same ?_
      simp only [go_sem, Nat.reduceEqDiff, reduceIte, ↓reduceIte, Nat.reduceAdd, Z0, Z1, Z2, Z3, Z4, Z5, Nat.reduceLT, Z6, Z7, Int.reduceEq, Z8, Z9, Nat.reduceLeDiff, Za, Zb, Zc, Zd, Ze, Zf, bytesOf, Zg, Zh, Zi, Zj, Zk, Zl, Int.reduceLT, Int.reduceLE, Zm, Int.reduceToNat, Zn, Zo, Zp, Int.reduceAdd, Zq, Zr, hb, hv, b0, b1, imC_word hm1 b0 b1, wI_len', hr, wI_getD hlt', wI_splice]
      rw [ee, putMD, ek]
      simp only [hlt, if_true]
      rw [stoR_at (wI_getD hlt') (wI_splice _ _ _)]
      simp only [go_sem, Nat.reduceEqDiff, reduceIte, ↓reduceIte, Nat.reduceAdd, Z0, Z1, Z2, Z3, Z4, Z5, Nat.reduceLT, Z6, Z7, Int.reduceEq, Z8, Z9, Nat.reduceLeDiff, Za, Zb, Zc, Zd, Ze, Zf, bytesOf, Zg, Zh, Zi, Zj, Zk, Zl, Int.reduceLT, Int.reduceLE, Zm, Int.reduceToNat, Zn, Zo, Zp, Int.reduceAdd, Zq, Zr]
      exact ⟨_, _, q1, hfr.trans q2⟩
    · refine acall_pure (mMemberF hM hm1 a0 a1 n0 (fun k e h' => hk ⟨k, e, h'⟩)) ?_
      simp only [go_sem, Nat.reduceEqDiff, reduceIte, ↓reduceIte, Nat.reduceAdd, Z0, Z1, Z2, Z3, Z4, Z5, Nat.reduceLT, Z6, Z7, Int.reduceEq, Z8, Z9, Nat.reduceLeDiff, Za, Zb, Zc, Zd, Ze, Zf, bytesOf, Zg, Zh, Zi, Zj, Zk, Zl, Int.reduceLT, Int.reduceLE, Zm, Int.reduceToNat, Zn, Zo, Zp, Int.reduceAdd, Zq, Zr]
      refine fin _ rfl rfl ?_
      rw [ee, putMD]
      split
      · rename_i k e
        rw [if_neg (fun h' => hk ⟨k, e, h'⟩)]
      · rfl
  have d9 : decide (x.op = 9) = false := by simp [k9]
  by_cases k10 : x.op = 10
  · have d10 : decide (x.op = 10) = true := by simp [k10]
    have n0 := hx.mem (.inr k10)
    have ee : effD c x m1 = getMD x m1 := by simp only [effD, k10, Int.reduceEq, if_true, if_false]
    simp only [go_sem, Nat.reduceEqDiff, reduceIte, ↓reduceIte, Nat.reduceAdd, Z0, Z1, Z2, Z3, Z4, Z5, Nat.reduceLT, Z6, Z7, Int.reduceEq, Z8, Z9, Nat.reduceLeDiff, Za, Zb, Zc, Zd, Ze, Zf, bytesOf, Zg, Zh, Zi, Zj, Zk, Zl, Int.reduceLT, Int.reduceLE, Zm, Int.reduceToNat, Zn, Zo, Zp, Int.reduceAdd, Zq, Zr, d1, d2, d3, d4, d5, d6, d7, d8, d9, d10, hb]
    by_cases hk : ∃ k, m1.g x.b = .r k ∧ x.n < (rowD m1 k).length
    · obtain ⟨k, ek, hlt⟩ := hk
      obtain ⟨id, l, hp, e1, hl, hl4, hr, hkl⟩ := recAt hM hm1 b0 b1 ek
      have hlt' : x.n.toNat < (rowD m1 k).length := by omega
      refine acall_pure (mMemberT hM hm1 b0 b1 n0 ek hp hlt) ?_
      simp only [go_sem, Nat.reduceEqDiff, reduceIte, ↓reduceIte, Nat.reduceAdd, Z0, Z1, Z2, Z3, Z4, Z5, Nat.reduceLT, Z6, Z7, Int.reduceEq, Z8, Z9, Nat.reduceLeDiff, Za, Zb, Zc, Zd, Ze, Zf, bytesOf, Zg, Zh, Zi, Zj, Zk, Zl, Int.reduceLT, Int.reduceLE, Zm, Int.reduceToNat, Zn, Zo, Zp, Int.reduceAdd, Zq, Zr]
      refine drw_same ?_
      simp only [go_sem, Nat.reduceEqDiff, reduceIte, ↓reduceIte, Nat.reduceAdd, Z0, Z1, Z2, Z3, Z4, Z5, Nat.reduceLT, Z6, Z7, Int.reduceEq, Z8, Z9, Nat.reduceLeDiff, Za, Zb, Zc, Zd, Ze, Zf, bytesOf, Zg, Zh, Zi, Zj, Zk, Zl, Int.reduceLT, Int.reduceLE, Zm, Int.reduceToNat, Zn, Zo, Zp, Int.reduceAdd, Zq, Zr, hb, hv, a0, a1, hr, wI_getD hlt', wI_take, wI_take', wI_len', imC_sreg hm1 a0 a1]
      refine fin _ rfl rfl ?_
      rw [ee, getMD, ek]
      simp only [hlt, if_true]
    · refine acall_pure (mMemberF hM hm1 b0 b1 n0 (fun k e h' => hk ⟨k, e, h'⟩)) ?_
      simp only [go_sem, Nat.reduceEqDiff, reduceIte, ↓reduceIte, Nat.reduceAdd, Z0, Z1, Z2, Z3, Z4, Z5, Nat.reduceLT, Z6, Z7, Int.reduceEq, Z8, Z9, Nat.reduceLeDiff, Za, Zb, Zc, Zd, Ze, Zf, bytesOf, Zg, Zh, Zi, Zj, Zk, Zl, Int.reduceLT, Int.reduceLE, Zm, Int.reduceToNat, Zn, Zo, Zp, Int.reduceAdd, Zq, Zr]
      refine fin _ rfl rfl ?_
      rw [ee, getMD]
      split
      · rename_i k e
        rw [if_neg (fun h' => hk ⟨k, e, h'⟩)]
      · rfl
  have d10 : decide (x.op = 10) = false := by simp [k10]
  have h11 : 11 ≤ x.op := by have := hx.op; omega
  have eo := mGoes hM hm1 hx h11
  rw [InsD.cells] at eo
  simp only [go_sem, Nat.reduceEqDiff, reduceIte, ↓reduceIte, Nat.reduceAdd, Z0, Z1, Z2, Z3, Z4, Z5, Nat.reduceLT, Z6, Z7, Int.reduceEq, Z8, Z9, Nat.reduceLeDiff, Za, Zb, Zc, Zd, Ze, Zf, bytesOf, Zg, Zh, Zi, Zj, Zk, Zl, Int.reduceLT, Int.reduceLE, Zm, Int.reduceToNat, Zn, Zo, Zp, Int.reduceAdd, Zq, Zr, ] at eo
  simp only [go_sem, Nat.reduceEqDiff, reduceIte, ↓reduceIte, Nat.reduceAdd, Z0, Z1, Z2, Z3, Z4, Z5, Nat.reduceLT, Z6, Z7, Int.reduceEq, Z8, Z9, Nat.reduceLeDiff, Za, Zb, Zc, Zd, Ze, Zf, bytesOf, Zg, Zh, Zi, Zj, Zk, Zl, Int.reduceLT, Int.reduceLE, Zm, Int.reduceToNat, Zn, Zo, Zp, Int.reduceAdd, Zq, Zr, d1, d2, d3, d4, d5, d6, d7, d8, d9, d10, hb]
  refine eo.mono ?_
  rintro r H' ⟨h1, h2⟩
  simp only [go_sem, Nat.reduceEqDiff, reduceIte, ↓reduceIte, Nat.reduceAdd, Z0, Z1, Z2, Z3, Z4, Z5, Nat.reduceLT, Z6, Z7, Int.reduceEq, Z8, Z9, Nat.reduceLeDiff, Za, Zb, Zc, Zd, Ze, Zf, bytesOf, Zg, Zh, Zi, Zj, Zk, Zl, Int.reduceLT, Int.reduceLE, Zm, Int.reduceToNat, Zn, Zo, Zp, Int.reduceAdd, Zq, Zr]
  rw [effD_k h11]
  exact ⟨ids, ou, h1, hfr.trans h2⟩
end Go.Proofs.Ytmbggdfceecojaa.Cd

/- The machine of the reference: a step. -/
set_option linter.all false
namespace Go.Proofs.Ytmbggdfceecojaa.Cd
open Go.AM Mc Ho

theorem catD_at {x : InsD} {m : MD} {v : Int} {t u : List UInt8} : catD x { m with pc := v } t u = { catD x m t u with pc := v } := by
  unfold catD MD.e
  by_cases h1 : 500 < t.length + u.length
  · simp only [h1, if_true]
  · by_cases h2 : m.room < roomS (t.length + u.length)
    · simp only [h1, h2, if_true, if_false]
    · simp only [h1, h2, if_false]
theorem opD_at {x : InsD} {m : MD} {v : Int} : opD x { m with pc := v } = { opD x m with pc := v } := by
  have hg : ∀ i, ({ m with pc := v } : MD).g i = m.g i := fun _ => rfl
  unfold opD
  simp only [hg]
  by_cases e1 : x.text = [114, 101, 97, 100]
  · simp only [e1, if_true]
  by_cases e2 : x.text = [112, 114, 105, 110, 116]
  · simp only [e1, e2, if_true, if_false]; cases m.g x.b <;> rfl
  by_cases e3 : x.text = [115, 105, 122, 101]
  · simp only [e1, e2, e3, if_true, if_false]; cases m.g x.b <;> rfl
  by_cases e4 : x.text = [94]
  · simp only [e1, e2, e3, e4, if_true, if_false]
    cases m.g x.b <;> cases m.g x.c <;> first | rfl | exact catD_at
  · simp only [e1, e2, e3, e4, if_false]
    cases m.g x.b <;> cases m.g x.c <;> rfl

set_option maxHeartbeats 8000000 in
theorem sDoes {c g f H m} (h : SM g f H m) (hc : CFacts c) (hm : MOk c m) (hf : m.fin = none) {x : InsD} (hx : InsOk c x) (hpc : 0 ≤ m.pc ∧ m.pc ≤ 100000) (hol : m.out.length ≤ 1000000) (hil : m.inp.length ≤ 1000000) :
    ACall Try.prog 115 [.ptr g.im 0, .st (c.cells.map .p), .st (x.cells.map .p)] H (fun r H' => ∃ g', SM g' f H' (effD c x { m with pc := m.pc + 1 }) ∧ Fr (smP g) (smP g') H H' ∧ g'.im = g.im ∧ g'.iw = g.iw) := by
  have a0 := hx.ra.1
  have a1 := hx.ra.2
  have b0 := hx.rb.1
  have b1 := hx.rb.2
  have ep : wr .i64 (m.pc + 1) = m.pc + 1 := wr64 (by omega) (by omega)
  refine call115 (by simp) ?_
  have hmvx : ∀ A, (H ++ A)[g.im]? = _ := fun A => get_ext h.mv A
  simp only [mCl] at hmvx
  simp only [go_sem, Nat.reduceEqDiff, reduceIte, ↓reduceIte, Nat.reduceAdd, Z0, Z1, Z2, Z3, Z4, Z5, Nat.reduceLT, Z6, Z7, Int.reduceEq, Z8, Z9, Nat.reduceLeDiff, Za, Zb, Zc, Zd, Ze, Zf, bytesOf, Zg, Zh, Zi, Zj, Zk, Zl, Int.reduceLT, Int.reduceLE, Zm, Int.reduceToNat, Zn, Zo, Zp, Int.reduceAdd, Zq, Zr, mc115, mr115, InsD.cells, CodeD.cells, hmvx, ep]
  have hM := h.ext [.var [.p (.l (inss c.ins)), .p (.l (ints c.starts))], .var (xC x)]
  have hfr := Fr.ext (smP g) H [.var [.p (.l (inss c.ins)), .p (.l (ints c.starts))], .var (xC x)]
  have h4 : (H ++ [.var [.p (.l (inss c.ins)), .p (.l (ints c.starts))], .var (xC x)])[H.length]? = some (.var [.p (.l (inss c.ins)), .p (.l (ints c.starts))]) := by simp
  have h5 : (H ++ [.var [.p (.l (inss c.ins)), .p (.l (ints c.starts))], .var (xC x)])[H.length + 1]? = some (.var (xC x)) := by simp
  rw [xC] at hM hfr h4 h5
  generalize H ++ [AO.var [.p (.l (inss c.ins)), .p (.l (ints c.starts))], .var [AV.p (.i .i64 x.op), .p (.i .i64 x.a), .p (.i .i64 x.b), .p (.i .i64 x.c), .p (.i .i64 x.n), .p (.s x.text)]] = H1 at hM hfr h4 h5 ⊢
  generalize H.length + 1 = b5 at h5 ⊢
  generalize H.length = b4 at h4 ⊢
  clear hmvx
  have hmv := hM.mv
  have hwv := hM.wv
  have hrg := hM.rg
  have hsl := hM.sl
  simp only [mCl] at hmv
  have hga := sreg_g hm a0 a1
  have hgb := sreg_g hm b0 b1
  rw [wS] at hga hgb
  have nt5 : ¬ smP g b5 := hM.notin h5 ne_m (by simp)
  have nt4 : ¬ smP g b4 := hM.notin h4 (by intro e; simp [mCl] at e) (by simp)
  have fin : ∀ (g' : SG) (H' : List AO) (m' : MD), SM g' f H' m' → Fr (smP g) (smP g') H1 H' → g'.im = g.im → g'.iw = g.iw → ∀ v, effD c x { m with pc := m.pc + 1 } = { m' with pc := v } →
      ∃ g2, SM g2 f (H'.set g.im (.var [.ptr g.iw 0, .gs g'.ir 0 0 16, .gs g'.isl 0 0 64, g'.hp, .p (.i .i64 m'.room), .p (.i .i64 v)])) (effD c x { m with pc := m.pc + 1 }) ∧ Fr (smP g) (smP g2) H (H'.set g.im (.var [.ptr g.iw 0, .gs g'.ir 0 0 16, .gs g'.isl 0 0 64, g'.hp, .p (.i .i64 m'.room), .p (.i .i64 v)])) ∧ g2.im = g.im ∧ g2.iw = g.iw := by
    intro g' H' m' q1 q2 q3 q4 v e
    rw [e]
    have q5 := q1.putM m'.room v
    rw [mCl, q3, q4] at q5
    refine ⟨g', q5, (hfr.trans q2).trans ?_, q3, q4⟩
    rw [← q3]; exact frM _
  by_cases k1 : x.op = 1
  · have d1 : decide (x.op = 1) = true := by simp [k1]
    simp only [go_sem, Nat.reduceEqDiff, reduceIte, ↓reduceIte, Nat.reduceAdd, Z0, Z1, Z2, Z3, Z4, Z5, Nat.reduceLT, Z6, Z7, Int.reduceEq, Z8, Z9, Nat.reduceLeDiff, Za, Zb, Zc, Zd, Ze, Zf, bytesOf, Zg, Zh, Zi, Zj, Zk, Zl, Int.reduceLT, Int.reduceLE, Zm, Int.reduceToNat, Zn, Zo, Zp, Int.reduceAdd, Zq, Zr, d1]
    refine drw_same ?_
    simp only [go_sem, Nat.reduceEqDiff, reduceIte, ↓reduceIte, Nat.reduceAdd, Z0, Z1, Z2, Z3, Z4, Z5, Nat.reduceLT, Z6, Z7, Int.reduceEq, Z8, Z9, Nat.reduceLeDiff, Za, Zb, Zc, Zd, Ze, Zf, bytesOf, Zg, Zh, Zi, Zj, Zk, Zl, Int.reduceLT, Int.reduceLE, Zm, Int.reduceToNat, Zn, Zo, Zp, Int.reduceAdd, Zq, Zr, hmv, hrg, hsl, h5, a0, a1]
    rw [show ([AV.p (.i .i64 0), .p (.i .i64 x.n), .p (.s [])] : List AV) = wS (.n x.n) from rfl, stoR_at (sreg_g hm a0 a1) (show splice (wS _) 0 (wS (.n x.n)) = some (wS (.n x.n)) from rfl)]
    obtain ⟨p1, p2⟩ := hM.putReg x.a.toNat (.n x.n)
    generalize H1.set g.ir _ = H2 at p1 p2 ⊢
    have q := p1.mv
    simp only [mCl] at q
    simp only [go_sem, Nat.reduceEqDiff, reduceIte, ↓reduceIte, Nat.reduceAdd, Z0, Z1, Z2, Z3, Z4, Z5, Nat.reduceLT, Z6, Z7, Int.reduceEq, Z8, Z9, Nat.reduceLeDiff, Za, Zb, Zc, Zd, Ze, Zf, bytesOf, Zg, Zh, Zi, Zj, Zk, Zl, Int.reduceLT, Int.reduceLE, Zm, Int.reduceToNat, Zn, Zo, Zp, Int.reduceAdd, Zq, Zr, q]
    exact fin g H2 _ p1 p2 rfl rfl (m.pc + 1) (by simp only [effD, k1, Int.reduceEq, if_true, if_false]; rfl)
  have d1 : decide (x.op = 1) = false := by simp [k1]
  by_cases k2 : x.op = 2
  · have d2 : decide (x.op = 2) = true := by simp [k2]
    simp only [go_sem, Nat.reduceEqDiff, reduceIte, ↓reduceIte, Nat.reduceAdd, Z0, Z1, Z2, Z3, Z4, Z5, Nat.reduceLT, Z6, Z7, Int.reduceEq, Z8, Z9, Nat.reduceLeDiff, Za, Zb, Zc, Zd, Ze, Zf, bytesOf, Zg, Zh, Zi, Zj, Zk, Zl, Int.reduceLT, Int.reduceLE, Zm, Int.reduceToNat, Zn, Zo, Zp, Int.reduceAdd, Zq, Zr, d1, d2]
    refine drw_same ?_
    simp only [go_sem, Nat.reduceEqDiff, reduceIte, ↓reduceIte, Nat.reduceAdd, Z0, Z1, Z2, Z3, Z4, Z5, Nat.reduceLT, Z6, Z7, Int.reduceEq, Z8, Z9, Nat.reduceLeDiff, Za, Zb, Zc, Zd, Ze, Zf, bytesOf, Zg, Zh, Zi, Zj, Zk, Zl, Int.reduceLT, Int.reduceLE, Zm, Int.reduceToNat, Zn, Zo, Zp, Int.reduceAdd, Zq, Zr, hmv, hrg, hsl, h5, a0, a1]
    rw [show ([AV.p (.i .i64 1), .p (.i .i64 0), .p (.s x.text)] : List AV) = wS (.s x.text) from rfl, stoR_at (sreg_g hm a0 a1) (show splice (wS _) 0 (wS (.s x.text)) = some (wS (.s x.text)) from rfl)]
    obtain ⟨p1, p2⟩ := hM.putReg x.a.toNat (.s x.text)
    generalize H1.set g.ir _ = H2 at p1 p2 ⊢
    have q := p1.mv
    simp only [mCl] at q
    simp only [go_sem, Nat.reduceEqDiff, reduceIte, ↓reduceIte, Nat.reduceAdd, Z0, Z1, Z2, Z3, Z4, Z5, Nat.reduceLT, Z6, Z7, Int.reduceEq, Z8, Z9, Nat.reduceLeDiff, Za, Zb, Zc, Zd, Ze, Zf, bytesOf, Zg, Zh, Zi, Zj, Zk, Zl, Int.reduceLT, Int.reduceLE, Zm, Int.reduceToNat, Zn, Zo, Zp, Int.reduceAdd, Zq, Zr, q]
    exact fin g H2 _ p1 p2 rfl rfl (m.pc + 1) (by simp only [effD, k2, Int.reduceEq, if_true, if_false]; rfl)
  have d2 : decide (x.op = 2) = false := by simp [k2]
  by_cases k3 : x.op = 3
  · have d3 : decide (x.op = 3) = true := by simp [k3]
    simp only [go_sem, Nat.reduceEqDiff, reduceIte, ↓reduceIte, Nat.reduceAdd, Z0, Z1, Z2, Z3, Z4, Z5, Nat.reduceLT, Z6, Z7, Int.reduceEq, Z8, Z9, Nat.reduceLeDiff, Za, Zb, Zc, Zd, Ze, Zf, bytesOf, Zg, Zh, Zi, Zj, Zk, Zl, Int.reduceLT, Int.reduceLE, Zm, Int.reduceToNat, Zn, Zo, Zp, Int.reduceAdd, Zq, Zr, d1, d2, d3]
    refine drw_same ?_
    simp only [go_sem, Nat.reduceEqDiff, reduceIte, ↓reduceIte, Nat.reduceAdd, Z0, Z1, Z2, Z3, Z4, Z5, Nat.reduceLT, Z6, Z7, Int.reduceEq, Z8, Z9, Nat.reduceLeDiff, Za, Zb, Zc, Zd, Ze, Zf, bytesOf, Zg, Zh, Zi, Zj, Zk, Zl, Int.reduceLT, Int.reduceLE, Zm, Int.reduceToNat, Zn, Zo, Zp, Int.reduceAdd, Zq, Zr, hmv, hrg, hsl, h5, a0, a1]
    rw [show ([AV.p (.i .i64 3), .p (.i .i64 x.n), .p (.s [])] : List AV) = wS (.b x.n) from rfl, stoR_at (sreg_g hm a0 a1) (show splice (wS _) 0 (wS (.b x.n)) = some (wS (.b x.n)) from rfl)]
    obtain ⟨p1, p2⟩ := hM.putReg x.a.toNat (.b x.n)
    generalize H1.set g.ir _ = H2 at p1 p2 ⊢
    have q := p1.mv
    simp only [mCl] at q
    simp only [go_sem, Nat.reduceEqDiff, reduceIte, ↓reduceIte, Nat.reduceAdd, Z0, Z1, Z2, Z3, Z4, Z5, Nat.reduceLT, Z6, Z7, Int.reduceEq, Z8, Z9, Nat.reduceLeDiff, Za, Zb, Zc, Zd, Ze, Zf, bytesOf, Zg, Zh, Zi, Zj, Zk, Zl, Int.reduceLT, Int.reduceLE, Zm, Int.reduceToNat, Zn, Zo, Zp, Int.reduceAdd, Zq, Zr, q]
    exact fin g H2 _ p1 p2 rfl rfl (m.pc + 1) (by simp only [effD, k3, Int.reduceEq, if_true, if_false]; rfl)
  have d3 : decide (x.op = 3) = false := by simp [k3]
  by_cases k4 : x.op = 4
  · have d4 : decide (x.op = 4) = true := by simp [k4]
    simp only [go_sem, Nat.reduceEqDiff, reduceIte, ↓reduceIte, Nat.reduceAdd, Z0, Z1, Z2, Z3, Z4, Z5, Nat.reduceLT, Z6, Z7, Int.reduceEq, Z8, Z9, Nat.reduceLeDiff, Za, Zb, Zc, Zd, Ze, Zf, bytesOf, Zg, Zh, Zi, Zj, Zk, Zl, Int.reduceLT, Int.reduceLE, Zm, Int.reduceToNat, Zn, Zo, Zp, Int.reduceAdd, Zq, Zr, d1, d2, d3, d4]
    refine drw_same ?_
    simp only [go_sem, Nat.reduceEqDiff, reduceIte, ↓reduceIte, Nat.reduceAdd, Z0, Z1, Z2, Z3, Z4, Z5, Nat.reduceLT, Z6, Z7, Int.reduceEq, Z8, Z9, Nat.reduceLeDiff, Za, Zb, Zc, Zd, Ze, Zf, bytesOf, Zg, Zh, Zi, Zj, Zk, Zl, Int.reduceLT, Int.reduceLE, Zm, Int.reduceToNat, Zn, Zo, Zp, Int.reduceAdd, Zq, Zr, hmv, hrg, hsl, h5, a0, a1, b0, b1, hgb]
    rw [show ([AV.p (.i .i64 (wKd (m.g x.b))), .p (.i .i64 (wSn (m.g x.b))), .p (.s (wSt (m.g x.b)))] : List AV) = wS (m.g x.b) from rfl, stoR_at (sreg_g hm a0 a1) (show splice (wS _) 0 (wS (m.g x.b)) = some (wS (m.g x.b)) from rfl)]
    obtain ⟨p1, p2⟩ := hM.putReg x.a.toNat (m.g x.b)
    generalize H1.set g.ir _ = H2 at p1 p2 ⊢
    have q := p1.mv
    simp only [mCl] at q
    simp only [go_sem, Nat.reduceEqDiff, reduceIte, ↓reduceIte, Nat.reduceAdd, Z0, Z1, Z2, Z3, Z4, Z5, Nat.reduceLT, Z6, Z7, Int.reduceEq, Z8, Z9, Nat.reduceLeDiff, Za, Zb, Zc, Zd, Ze, Zf, bytesOf, Zg, Zh, Zi, Zj, Zk, Zl, Int.reduceLT, Int.reduceLE, Zm, Int.reduceToNat, Zn, Zo, Zp, Int.reduceAdd, Zq, Zr, q]
    exact fin g H2 _ p1 p2 rfl rfl (m.pc + 1) (by simp only [effD, k4, Int.reduceEq, if_true, if_false]; rfl)
  have d4 : decide (x.op = 4) = false := by simp [k4]
  by_cases k5 : x.op = 5
  · have d5 : decide (x.op = 5) = true := by simp [k5]
    obtain ⟨s0, s1⟩ := hx.slot (.inl k5)
    have hgs : (m.slots.map wS)[x.n.toNat]? = some (wS (m.slots.getD x.n.toNat (.n 0))) := by
      have hl : x.n.toNat < m.slots.length := by rw [hm.slots]; omega
      rw [List.getElem?_map, List.getElem?_eq_getElem hl, List.getD_eq_getElem?_getD, List.getElem?_eq_getElem hl]; rfl
    rw [wS] at hgs
    simp only [go_sem, Nat.reduceEqDiff, reduceIte, ↓reduceIte, Nat.reduceAdd, Z0, Z1, Z2, Z3, Z4, Z5, Nat.reduceLT, Z6, Z7, Int.reduceEq, Z8, Z9, Nat.reduceLeDiff, Za, Zb, Zc, Zd, Ze, Zf, bytesOf, Zg, Zh, Zi, Zj, Zk, Zl, Int.reduceLT, Int.reduceLE, Zm, Int.reduceToNat, Zn, Zo, Zp, Int.reduceAdd, Zq, Zr, d1, d2, d3, d4, d5]
    refine drw_same ?_
    simp only [go_sem, Nat.reduceEqDiff, reduceIte, ↓reduceIte, Nat.reduceAdd, Z0, Z1, Z2, Z3, Z4, Z5, Nat.reduceLT, Z6, Z7, Int.reduceEq, Z8, Z9, Nat.reduceLeDiff, Za, Zb, Zc, Zd, Ze, Zf, bytesOf, Zg, Zh, Zi, Zj, Zk, Zl, Int.reduceLT, Int.reduceLE, Zm, Int.reduceToNat, Zn, Zo, Zp, Int.reduceAdd, Zq, Zr, hmv, hrg, hsl, h5, a0, a1, s0, s1, hgs]
    rw [show ([AV.p (.i .i64 (wKd (m.slots.getD x.n.toNat (.n 0)))), .p (.i .i64 (wSn (m.slots.getD x.n.toNat (.n 0)))), .p (.s (wSt (m.slots.getD x.n.toNat (.n 0))))] : List AV) = wS (m.slots.getD x.n.toNat (.n 0)) from rfl, stoR_at (sreg_g hm a0 a1) (show splice (wS _) 0 (wS (m.slots.getD x.n.toNat (.n 0))) = some (wS (m.slots.getD x.n.toNat (.n 0))) from rfl)]
    obtain ⟨p1, p2⟩ := hM.putReg x.a.toNat (m.slots.getD x.n.toNat (.n 0))
    generalize H1.set g.ir _ = H2 at p1 p2 ⊢
    have q := p1.mv
    simp only [mCl] at q
    simp only [go_sem, Nat.reduceEqDiff, reduceIte, ↓reduceIte, Nat.reduceAdd, Z0, Z1, Z2, Z3, Z4, Z5, Nat.reduceLT, Z6, Z7, Int.reduceEq, Z8, Z9, Nat.reduceLeDiff, Za, Zb, Zc, Zd, Ze, Zf, bytesOf, Zg, Zh, Zi, Zj, Zk, Zl, Int.reduceLT, Int.reduceLE, Zm, Int.reduceToNat, Zn, Zo, Zp, Int.reduceAdd, Zq, Zr, q]
    exact fin g H2 _ p1 p2 rfl rfl (m.pc + 1) (by simp only [effD, k5, Int.reduceEq, if_true, if_false]; rfl)
  have d5 : decide (x.op = 5) = false := by simp [k5]
  by_cases k6 : x.op = 6
  · have d6 : decide (x.op = 6) = true := by simp [k6]
    obtain ⟨s0, s1⟩ := hx.slot (.inr k6)
    have hgs : (m.slots.map wS)[x.n.toNat]? = some (wS (m.slots.getD x.n.toNat (.n 0))) := by
      have hl : x.n.toNat < m.slots.length := by rw [hm.slots]; omega
      rw [List.getElem?_map, List.getElem?_eq_getElem hl, List.getD_eq_getElem?_getD, List.getElem?_eq_getElem hl]; rfl
    simp only [go_sem, Nat.reduceEqDiff, reduceIte, ↓reduceIte, Nat.reduceAdd, Z0, Z1, Z2, Z3, Z4, Z5, Nat.reduceLT, Z6, Z7, Int.reduceEq, Z8, Z9, Nat.reduceLeDiff, Za, Zb, Zc, Zd, Ze, Zf, bytesOf, Zg, Zh, Zi, Zj, Zk, Zl, Int.reduceLT, Int.reduceLE, Zm, Int.reduceToNat, Zn, Zo, Zp, Int.reduceAdd, Zq, Zr, d1, d2, d3, d4, d5, d6]
    refine drw_same ?_
    simp only [go_sem, Nat.reduceEqDiff, reduceIte, ↓reduceIte, Nat.reduceAdd, Z0, Z1, Z2, Z3, Z4, Z5, Nat.reduceLT, Z6, Z7, Int.reduceEq, Z8, Z9, Nat.reduceLeDiff, Za, Zb, Zc, Zd, Ze, Zf, bytesOf, Zg, Zh, Zi, Zj, Zk, Zl, Int.reduceLT, Int.reduceLE, Zm, Int.reduceToNat, Zn, Zo, Zp, Int.reduceAdd, Zq, Zr, hmv, hrg, hsl, h5, a0, a1, s0, s1, hga]
    rw [show ([AV.p (.i .i64 (wKd (m.g x.a))), .p (.i .i64 (wSn (m.g x.a))), .p (.s (wSt (m.g x.a)))] : List AV) = wS (m.g x.a) from rfl, stoR_at hgs (show splice (wS _) 0 (wS (m.g x.a)) = some (wS (m.g x.a)) from rfl)]
    obtain ⟨p1, p2⟩ := hM.putSlot x.n.toNat (m.g x.a)
    generalize H1.set g.isl _ = H2 at p1 p2 ⊢
    have q := p1.mv
    simp only [mCl] at q
    simp only [go_sem, Nat.reduceEqDiff, reduceIte, ↓reduceIte, Nat.reduceAdd, Z0, Z1, Z2, Z3, Z4, Z5, Nat.reduceLT, Z6, Z7, Int.reduceEq, Z8, Z9, Nat.reduceLeDiff, Za, Zb, Zc, Zd, Ze, Zf, bytesOf, Zg, Zh, Zi, Zj, Zk, Zl, Int.reduceLT, Int.reduceLE, Zm, Int.reduceToNat, Zn, Zo, Zp, Int.reduceAdd, Zq, Zr, q]
    exact fin g H2 _ p1 p2 rfl rfl (m.pc + 1) (by simp only [effD, k6, Int.reduceEq, if_true, if_false]; rfl)
  have d6 : decide (x.op = 6) = false := by simp [k6]
  by_cases k7 : x.op = 7
  · have d7 : decide (x.op = 7) = true := by simp [k7]
    have eo := sOp hM hm hf hx k7 hol hil
    rw [InsD.cells] at eo
    simp only [go_sem, Nat.reduceEqDiff, reduceIte, ↓reduceIte, Nat.reduceAdd, Z0, Z1, Z2, Z3, Z4, Z5, Nat.reduceLT, Z6, Z7, Int.reduceEq, Z8, Z9, Nat.reduceLeDiff, Za, Zb, Zc, Zd, Ze, Zf, bytesOf, Zg, Zh, Zi, Zj, Zk, Zl, Int.reduceLT, Int.reduceLE, Zm, Int.reduceToNat, Zn, Zo, Zp, Int.reduceAdd, Zq, Zr, ] at eo
    simp only [go_sem, Nat.reduceEqDiff, reduceIte, ↓reduceIte, Nat.reduceAdd, Z0, Z1, Z2, Z3, Z4, Z5, Nat.reduceLT, Z6, Z7, Int.reduceEq, Z8, Z9, Nat.reduceLeDiff, Za, Zb, Zc, Zd, Ze, Zf, bytesOf, Zg, Zh, Zi, Zj, Zk, Zl, Int.reduceLT, Int.reduceLE, Zm, Int.reduceToNat, Zn, Zo, Zp, Int.reduceAdd, Zq, Zr, d1, d2, d3, d4, d5, d6, d7, h5]
    refine eo.mono ?_
    rintro r H2 ⟨g', p1, p2, p3, p4⟩
    have q := p1.mv
    simp only [mCl] at q
    rw [p3, p4] at q
    simp only [go_sem, Nat.reduceEqDiff, reduceIte, ↓reduceIte, Nat.reduceAdd, Z0, Z1, Z2, Z3, Z4, Z5, Nat.reduceLT, Z6, Z7, Int.reduceEq, Z8, Z9, Nat.reduceLeDiff, Za, Zb, Zc, Zd, Ze, Zf, bytesOf, Zg, Zh, Zi, Zj, Zk, Zl, Int.reduceLT, Int.reduceLE, Zm, Int.reduceToNat, Zn, Zo, Zp, Int.reduceAdd, Zq, Zr, q]
    exact fin g' H2 _ p1 p2 p3 p4 (m.pc + 1) (by simp only [effD, k7, Int.reduceEq, if_true, if_false]; exact opD_at)
  have d7 : decide (x.op = 7) = false := by simp [k7]
  by_cases k8 : x.op = 8
  · have d8 : decide (x.op = 8) = true := by simp [k8]
    obtain ⟨n1, n2⟩ := hx.new k8
    have ee : effD c x { m with pc := m.pc + 1 } = newD x { m with pc := m.pc + 1 } := by simp only [effD, k8, Int.reduceEq, if_true, if_false]
    have e1 : wr .i64 (x.n + 1) = x.n + 1 := wr64 (by omega) (by omega)
    simp only [go_sem, Nat.reduceEqDiff, reduceIte, ↓reduceIte, Nat.reduceAdd, Z0, Z1, Z2, Z3, Z4, Z5, Nat.reduceLT, Z6, Z7, Int.reduceEq, Z8, Z9, Nat.reduceLeDiff, Za, Zb, Zc, Zd, Ze, Zf, bytesOf, Zg, Zh, Zi, Zj, Zk, Zl, Int.reduceLT, Int.reduceLE, Zm, Int.reduceToNat, Zn, Zo, Zp, Int.reduceAdd, Zq, Zr, d1, d2, d3, d4, d5, d6, d7, d8, h5, e1]
    by_cases hr : m.room < x.n + 1
    · refine acall_pure (sRoomF hM hf hr) ?_
      have P : SM g f (H1.set g.iw (.var (wCl g f (m.e 4 0)))) (m.e 4 0) := hM.putW f (some (4, 0))
      have F : Fr (smP g) (smP g) H1 (H1.set g.iw (.var (wCl g f (m.e 4 0)))) := frW _
      generalize H1.set g.iw (.var (wCl g f (m.e 4 0))) = H2 at P F ⊢
      have q := P.mv
      simp only [mCl] at q
      simp only [go_sem, Nat.reduceEqDiff, reduceIte, ↓reduceIte, Nat.reduceAdd, Z0, Z1, Z2, Z3, Z4, Z5, Nat.reduceLT, Z6, Z7, Int.reduceEq, Z8, Z9, Nat.reduceLeDiff, Za, Zb, Zc, Zd, Ze, Zf, bytesOf, Zg, Zh, Zi, Zj, Zk, Zl, Int.reduceLT, Int.reduceLE, Zm, Int.reduceToNat, Zn, Zo, Zp, Int.reduceAdd, Zq, Zr, q]
      exact fin g H2 _ P F rfl rfl (m.pc + 1) (by rw [ee, newD, if_pos hr]; rfl)
    · refine acall_pure (sRoomT hM hm (by omega) hr) ?_
      have ed : ∀ m2 : MD, m2 = { m with room := m.room - (x.n + 1) } → effD c x { m with pc := m.pc + 1 } = { m2 with heap := m2.heap ++ [List.replicate x.n.toNat (.n 0)], regs := m2.regs.set x.a.toNat (.r m2.heap.length), pc := m.pc + 1 } := by rintro _ rfl; rw [ee, newD, if_neg hr]
      have hm2 := roomOk hm (by omega) hr
      have hM2 : SM g f (H1.set g.im (.var (mCl g { m with room := m.room - (x.n + 1) }))) { m with room := m.room - (x.n + 1) } := hM.putM (m.room - (x.n + 1)) m.pc
      have hfr2 : Fr (smP g) (smP g) H1 (H1.set g.im (.var (mCl g { m with room := m.room - (x.n + 1) }))) := frM _
      have h52 := get_set (o' := AO.var (mCl g { m with room := m.room - (x.n + 1) })) h5 (show g.im ≠ b5 from fun e => nt5 (.inl e.symm))
      generalize H1.set g.im (.var (mCl g { m with room := m.room - (x.n + 1) })) = H2 at hM2 hfr2 h52 ⊢
      generalize hem : ({ m with room := m.room - (x.n + 1) } : MD) = m2 at hm2 hM2
      replace ed := ed m2 hem.symm
      clear hmv hwv hrg hsl h5 h4
      have nt52 : ¬ smP g b5 := nt5
      have hmv := hM2.mv
      simp only [mCl] at hmv
      have n0 : (0 : Int) ≤ x.n := by omega
      have n32 : x.n * 32 ≤ 140737488355328 := by omega
      have nm : x.n ≤ 140737488355328 := by omega
      have hroom := hm2.room
      have hroom0 := hm2.room0
      have ehl0 : (hpR g.rs m2.heap).length = m2.heap.length := by simp [hpR, hM2.len]
      simp only [go_sem, Nat.reduceEqDiff, reduceIte, ↓reduceIte, Nat.reduceAdd, Z0, Z1, Z2, Z3, Z4, Z5, Nat.reduceLT, Z6, Z7, Int.reduceEq, Z8, Z9, Nat.reduceLeDiff, Za, Zb, Zc, Zd, Ze, Zf, bytesOf, Zg, Zh, Zi, Zj, Zk, Zl, Int.reduceLT, Int.reduceLE, Zm, Int.reduceToNat, Zn, Zo, Zp, Int.reduceAdd, Zq, Zr]
      rcases hM2.hpo with ⟨z1, z2⟩ | ⟨io, vo, z1, z2⟩
      · refine drw_same ?_
        simp only [go_sem, Nat.reduceEqDiff, reduceIte, ↓reduceIte, Nat.reduceAdd, Z0, Z1, Z2, Z3, Z4, Z5, Nat.reduceLT, Z6, Z7, Int.reduceEq, Z8, Z9, Nat.reduceLeDiff, Za, Zb, Zc, Zd, Ze, Zf, bytesOf, Zg, Zh, Zi, Zj, Zk, Zl, Int.reduceLT, Int.reduceLE, Zm, Int.reduceToNat, Zn, Zo, Zp, Int.reduceAdd, Zq, Zr, hmv, h52, n0, n32, nm, Int.le_refl, Nat.add_zero]
        refine ⟨by simp, .inl ⟨z1, by simp, by simp, by simp, ?_⟩⟩
        have hmx : ∀ A, (H2 ++ A)[g.im]? = _ := fun A => get_ext hmv A
        obtain ⟨p1, p2⟩ := hM2.newRec x.n.toNat (idr := H2.length) (id := H2.length + 2) (ver := 0) (H' := H2 ++ [AO.rows 3 0 (List.replicate x.n.toNat [.p (.i .i64 0), .p (.i .i64 0), .p (.s [])]), .rows 1 0 [[.gs H2.length 0 0 x.n.toNat]], .rows 1 0 [[.gs H2.length 0 0 x.n.toNat]]]) (by rw [z2]; simp) (by simp) (Nat.le_refl _) (.inr (by omega)) (fun j o hj _ => get_ext hj _) (by simp) (q := 1) (by rw [z2]; rfl)
        have el1 : (hpR g.rs m2.heap).length = 0 := by rw [z2]; rfl
        simp only [go_sem, Nat.reduceEqDiff, reduceIte, ↓reduceIte, Nat.reduceAdd, Z0, Z1, Z2, Z3, Z4, Z5, Nat.reduceLT, Z6, Z7, Int.reduceEq, Z8, Z9, Nat.reduceLeDiff, Za, Zb, Zc, Zd, Ze, Zf, bytesOf, Zg, Zh, Zi, Zj, Zk, Zl, Int.reduceLT, Int.reduceLE, Zm, Int.reduceToNat, Zn, Zo, Zp, Int.reduceAdd, Zq, Zr, hmx]
        have ew1 : wr .i64 ((1 : Int) - 1) = ((m2.heap.length : Nat) : Int) := by
          have : m2.heap.length = 0 := by omega
          rw [this]; rfl
        simp only [mCl] at p1 p2
        have h53 := p2.keep _ _ h52 nt52
        have q := p1.mv
        have qr := p1.rg
        simp only [mCl] at q
        generalize List.set _ g.im _ = H3 at p1 p2 h53 q qr ⊢
        refine drw_same ?_
        simp only [go_sem, Nat.reduceEqDiff, reduceIte, ↓reduceIte, Nat.reduceAdd, Z0, Z1, Z2, Z3, Z4, Z5, Nat.reduceLT, Z6, Z7, Int.reduceEq, Z8, Z9, Nat.reduceLeDiff, Za, Zb, Zc, Zd, Ze, Zf, bytesOf, Zg, Zh, Zi, Zj, Zk, Zl, Int.reduceLT, Int.reduceLE, Zm, Int.reduceToNat, Zn, Zo, Zp, Int.reduceAdd, Zq, Zr, q, qr, h53, a0, a1, ew1]
        rw [show ([AV.p (.i .i64 2), .p (.i .i64 ((m2.heap.length : Nat) : Int)), .p (.s [])] : List AV) = wS (.r m2.heap.length) from rfl, stoR_at (sreg_g hm2 a0 a1) (show splice (wS _) 0 (wS (.r m2.heap.length)) = some (wS (.r m2.heap.length)) from rfl)]
        obtain ⟨p3, p4⟩ := p1.putReg x.a.toNat (.r m2.heap.length)
        generalize H3.set _ _ = H4 at p3 p4 ⊢
        have q' := p3.mv
        simp only [mCl] at q'
        simp only [go_sem, Nat.reduceEqDiff, reduceIte, ↓reduceIte, Nat.reduceAdd, Z0, Z1, Z2, Z3, Z4, Z5, Nat.reduceLT, Z6, Z7, Int.reduceEq, Z8, Z9, Nat.reduceLeDiff, Za, Zb, Zc, Zd, Ze, Zf, bytesOf, Zg, Zh, Zi, Zj, Zk, Zl, Int.reduceLT, Int.reduceLE, Zm, Int.reduceToNat, Zn, Zo, Zp, Int.reduceAdd, Zq, Zr, q']
        exact fin _ H4 _ p3 (hfr2.trans (p2.trans p4)) rfl rfl (m.pc + 1) (by rw [ed])
      · refine ⟨H2.set io .dead, dead_ext _ _, ?_⟩
        have hvd := set_ne' (o := AO.dead) z2 hmv (by intro e; cases e)
        have hxd := set_ne' (o := AO.dead) z2 h52 (by intro e; cases e)
        rw [z1] at hvd
        simp only [go_sem, Nat.reduceEqDiff, reduceIte, ↓reduceIte, Nat.reduceAdd, Z0, Z1, Z2, Z3, Z4, Z5, Nat.reduceLT, Z6, Z7, Int.reduceEq, Z8, Z9, Nat.reduceLeDiff, Za, Zb, Zc, Zd, Ze, Zf, bytesOf, Zg, Zh, Zi, Zj, Zk, Zl, Int.reduceLT, Int.reduceLE, Zm, Int.reduceToNat, Zn, Zo, Zp, Int.reduceAdd, Zq, Zr, hvd, hxd, n0, n32, nm, Int.le_refl, Nat.add_zero]
        refine ⟨by simp, .inr (.inl ?_)⟩
        simp only [go_sem, Nat.reduceEqDiff, reduceIte, ↓reduceIte, Nat.reduceAdd, Z0, Z1, Z2, Z3, Z4, Z5, Nat.reduceLT, Z6, Z7, Int.reduceEq, Z8, Z9, Nat.reduceLeDiff, Za, Zb, Zc, Zd, Ze, Zf, bytesOf, Zg, Zh, Zi, Zj, Zk, Zl, Int.reduceLT, Int.reduceLE, Zm, Int.reduceToNat, Zn, Zo, Zp, Int.reduceAdd, Zq, Zr, z2]
        refine ⟨Nat.le_refl _, by omega, by omega, by simp, dead_ext' _ _ _, ?_⟩
        rw [List.take_length]
        have hmx : ∀ A o, (H2.set io o ++ A)[g.im]? = _ := fun A o => get_ext (set_ne' (o := o) z2 hmv (by intro e; cases e)) A
        obtain ⟨p1, p2⟩ := hM2.newRec x.n.toNat (idr := H2.length) (id := io) (ver := vo + 1) (H' := H2.set io (AO.rows 1 (vo + 1) (hpR g.rs m2.heap ++ [[.gs H2.length 0 0 x.n.toNat]])) ++ [AO.rows 3 0 (List.replicate x.n.toNat [.p (.i .i64 0), .p (.i .i64 0), .p (.s [])]), .rows 1 0 [[.gs H2.length 0 0 x.n.toNat]]])
          (get_ext (set_get z2) _) (by rw [List.getElem?_append_right (by simp)]; simp) (Nat.le_refl _) (.inl (by rw [z1]; rfl)) (fun j o hj hne => get_ext (get_set hj (by rintro rfl; exact hne (by rw [z1]; rfl))) _) (by simp) (q := (hpR g.rs m2.heap).length + 1) rfl
        have ew1 : wr .i64 ((((hpR g.rs m2.heap).length + 1 : Nat) : Int) - 1) = ((m2.heap.length : Nat) : Int) := by rw [ehl0, wr64 (by omega) (by omega)]; omega
        simp only [go_sem, Nat.reduceEqDiff, reduceIte, ↓reduceIte, Nat.reduceAdd, Z0, Z1, Z2, Z3, Z4, Z5, Nat.reduceLT, Z6, Z7, Int.reduceEq, Z8, Z9, Nat.reduceLeDiff, Za, Zb, Zc, Zd, Ze, Zf, bytesOf, Zg, Zh, Zi, Zj, Zk, Zl, Int.reduceLT, Int.reduceLE, Zm, Int.reduceToNat, Zn, Zo, Zp, Int.reduceAdd, Zq, Zr, hmx]
        simp only [mCl] at p1 p2
        have h53 := p2.keep _ _ h52 nt52
        have q := p1.mv
        have qr := p1.rg
        simp only [mCl] at q
        generalize List.set _ g.im _ = H3 at p1 p2 h53 q qr ⊢
        refine drw_same ?_
        simp only [go_sem, Nat.reduceEqDiff, reduceIte, ↓reduceIte, Nat.reduceAdd, Z0, Z1, Z2, Z3, Z4, Z5, Nat.reduceLT, Z6, Z7, Int.reduceEq, Z8, Z9, Nat.reduceLeDiff, Za, Zb, Zc, Zd, Ze, Zf, bytesOf, Zg, Zh, Zi, Zj, Zk, Zl, Int.reduceLT, Int.reduceLE, Zm, Int.reduceToNat, Zn, Zo, Zp, Int.reduceAdd, Zq, Zr, q, qr, h53, a0, a1, ew1]
        rw [show ([AV.p (.i .i64 2), .p (.i .i64 ((m2.heap.length : Nat) : Int)), .p (.s [])] : List AV) = wS (.r m2.heap.length) from rfl, stoR_at (sreg_g hm2 a0 a1) (show splice (wS _) 0 (wS (.r m2.heap.length)) = some (wS (.r m2.heap.length)) from rfl)]
        obtain ⟨p3, p4⟩ := p1.putReg x.a.toNat (.r m2.heap.length)
        generalize H3.set _ _ = H4 at p3 p4 ⊢
        have q' := p3.mv
        simp only [mCl] at q'
        simp only [go_sem, Nat.reduceEqDiff, reduceIte, ↓reduceIte, Nat.reduceAdd, Z0, Z1, Z2, Z3, Z4, Z5, Nat.reduceLT, Z6, Z7, Int.reduceEq, Z8, Z9, Nat.reduceLeDiff, Za, Zb, Zc, Zd, Ze, Zf, bytesOf, Zg, Zh, Zi, Zj, Zk, Zl, Int.reduceLT, Int.reduceLE, Zm, Int.reduceToNat, Zn, Zo, Zp, Int.reduceAdd, Zq, Zr, q']
        exact fin _ H4 _ p3 (hfr2.trans (p2.trans p4)) rfl rfl (m.pc + 1) (by rw [ed])
  have d8 : decide (x.op = 8) = false := by simp [k8]
  by_cases k9 : x.op = 9
  · have d9 : decide (x.op = 9) = true := by simp [k9]
    have n0 := hx.mem (.inl k9)
    have ee : effD c x { m with pc := m.pc + 1 } = putMD x { m with pc := m.pc + 1 } := by simp only [effD, k9, Int.reduceEq, if_true, if_false]
    simp only [go_sem, Nat.reduceEqDiff, reduceIte, ↓reduceIte, Nat.reduceAdd, Z0, Z1, Z2, Z3, Z4, Z5, Nat.reduceLT, Z6, Z7, Int.reduceEq, Z8, Z9, Nat.reduceLeDiff, Za, Zb, Zc, Zd, Ze, Zf, bytesOf, Zg, Zh, Zi, Zj, Zk, Zl, Int.reduceLT, Int.reduceLE, Zm, Int.reduceToNat, Zn, Zo, Zp, Int.reduceAdd, Zq, Zr, d1, d2, d3, d4, d5, d6, d7, d8, d9]
    refine drw_same ?_
    simp only [go_sem, Nat.reduceEqDiff, reduceIte, ↓reduceIte, Nat.reduceAdd, Z0, Z1, Z2, Z3, Z4, Z5, Nat.reduceLT, Z6, Z7, Int.reduceEq, Z8, Z9, Nat.reduceLeDiff, Za, Zb, Zc, Zd, Ze, Zf, bytesOf, Zg, Zh, Zi, Zj, Zk, Zl, Int.reduceLT, Int.reduceLE, Zm, Int.reduceToNat, Zn, Zo, Zp, Int.reduceAdd, Zq, Zr, hmv, hrg, h5, a0, a1, hga]
    by_cases hk : ∃ k, m.g x.a = .r k ∧ x.n < (rowD m k).length
    · obtain ⟨k, ek, hlt⟩ := hk
      have hkl : k < m.heap.length := by have := hm.gOk a0 a1; rw [ek] at this; exact this
      obtain ⟨ihp, vh, id, z1, z2, z3, z4, z5⟩ := hM.hpAt hkl
      have hkl' : (k : Int) < (m.heap.length : Int) := by omega
      have hlt' : x.n.toNat < (rowD m k).length := by omega
      refine acall_pure (sMemberT hM hm ek hkl hlt) ?_
      have hmv' := hmv
      rw [z1] at hmv'
      have hga' := hga
      rw [ek] at hga'
      simp only [wKd, wSn, wSt] at hga'
      simp only [go_sem, Nat.reduceEqDiff, reduceIte, ↓reduceIte, Nat.reduceAdd, Z0, Z1, Z2, Z3, Z4, Z5, Nat.reduceLT, Z6, Z7, Int.reduceEq, Z8, Z9, Nat.reduceLeDiff, Za, Zb, Zc, Zd, Ze, Zf, bytesOf, Zg, Zh, Zi, Zj, Zk, Zl, Int.reduceLT, Int.reduceLE, Zm, Int.reduceToNat, Zn, Zo, Zp, Int.reduceAdd, Zq, Zr]
      refine drw_same ?_
      simp only [go_sem, Nat.reduceEqDiff, reduceIte, ↓reduceIte, Nat.reduceAdd, Z0, Z1, Z2, Z3, Z4, Z5, Nat.reduceLT, Z6, Z7, Int.reduceEq, Z8, Z9, Nat.reduceLeDiff, Za, Zb, Zc, Zd, Ze, Zf, bytesOf, Zg, Zh, Zi, Zj, Zk, Zl, Int.reduceLT, Int.reduceLE, Zm, Int.reduceToNat, Zn, Zo, Zp, Int.reduceAdd, Zq, Zr, hmv', hrg, h5, a0, a1, hga', z2, hkl', z4, b0, b1, hgb, n0, hlt, z5]
      have hget : ((rowD m k).map wS)[x.n.toNat]? = some (wS ((rowD m k).getD x.n.toNat (.n 0))) := by
        rw [List.getElem?_map, List.getElem?_eq_getElem hlt', List.getD_eq_getElem?_getD, List.getElem?_eq_getElem hlt']; rfl
      rw [show ([AV.p (.i .i64 (wKd (m.g x.b))), .p (.i .i64 (wSn (m.g x.b))), .p (.s (wSt (m.g x.b)))] : List AV) = wS (m.g x.b) from rfl, stoR_at hget (show splice (wS _) 0 (wS (m.g x.b)) = some (wS (m.g x.b)) from rfl)]
      obtain ⟨p1, p2⟩ := hM.putRec z3 x.n.toNat (m.g x.b)
      generalize H1.set id _ = H2 at p1 p2 ⊢
      have q := p1.mv
      simp only [mCl] at q
      simp only [go_sem, Nat.reduceEqDiff, reduceIte, ↓reduceIte, Nat.reduceAdd, Z0, Z1, Z2, Z3, Z4, Z5, Nat.reduceLT, Z6, Z7, Int.reduceEq, Z8, Z9, Nat.reduceLeDiff, Za, Zb, Zc, Zd, Ze, Zf, bytesOf, Zg, Zh, Zi, Zj, Zk, Zl, Int.reduceLT, Int.reduceLE, Zm, Int.reduceToNat, Zn, Zo, Zp, Int.reduceAdd, Zq, Zr, q]
      refine fin g H2 _ p1 p2 rfl rfl (m.pc + 1) ?_
      rw [ee, putMD]
      have eg : ({ m with pc := m.pc + 1 } : MD).g x.a = .r k := ek
      rw [eg]
      have hlt2 : x.n < ((rowD { m with pc := m.pc + 1 } k).length : Int) := hlt
      simp only [hlt2, if_true]
      rfl
    · refine acall_pure (sMemberF hM hm hf (fun k e => by have := hm.gOk a0 a1; rw [e] at this; exact this) (fun k e h' => hk ⟨k, e, h'⟩)) ?_
      have P : SM g f (H1.set g.iw (.var (wCl g f (m.e 0 0)))) (m.e 0 0) := hM.putW f (some (0, 0))
      have F : Fr (smP g) (smP g) H1 (H1.set g.iw (.var (wCl g f (m.e 0 0)))) := frW _
      generalize H1.set g.iw (.var (wCl g f (m.e 0 0))) = H2 at P F ⊢
      have q := P.mv
      simp only [mCl] at q
      simp only [go_sem, Nat.reduceEqDiff, reduceIte, ↓reduceIte, Nat.reduceAdd, Z0, Z1, Z2, Z3, Z4, Z5, Nat.reduceLT, Z6, Z7, Int.reduceEq, Z8, Z9, Nat.reduceLeDiff, Za, Zb, Zc, Zd, Ze, Zf, bytesOf, Zg, Zh, Zi, Zj, Zk, Zl, Int.reduceLT, Int.reduceLE, Zm, Int.reduceToNat, Zn, Zo, Zp, Int.reduceAdd, Zq, Zr, q]
      refine fin g H2 _ P F rfl rfl (m.pc + 1) ?_
      rw [ee, putMD]
      split
      · rename_i k e
        have hno : ¬ x.n < ((rowD { m with pc := m.pc + 1 } k).length : Int) := fun h' => hk ⟨k, e, h'⟩
        rw [if_neg hno]; rfl
      · rfl
  have d9 : decide (x.op = 9) = false := by simp [k9]
  by_cases k10 : x.op = 10
  · have d10 : decide (x.op = 10) = true := by simp [k10]
    have n0 := hx.mem (.inr k10)
    have ee : effD c x { m with pc := m.pc + 1 } = getMD x { m with pc := m.pc + 1 } := by simp only [effD, k10, Int.reduceEq, if_true, if_false]
    simp only [go_sem, Nat.reduceEqDiff, reduceIte, ↓reduceIte, Nat.reduceAdd, Z0, Z1, Z2, Z3, Z4, Z5, Nat.reduceLT, Z6, Z7, Int.reduceEq, Z8, Z9, Nat.reduceLeDiff, Za, Zb, Zc, Zd, Ze, Zf, bytesOf, Zg, Zh, Zi, Zj, Zk, Zl, Int.reduceLT, Int.reduceLE, Zm, Int.reduceToNat, Zn, Zo, Zp, Int.reduceAdd, Zq, Zr, d1, d2, d3, d4, d5, d6, d7, d8, d9, d10]
    refine drw_same ?_
    simp only [go_sem, Nat.reduceEqDiff, reduceIte, ↓reduceIte, Nat.reduceAdd, Z0, Z1, Z2, Z3, Z4, Z5, Nat.reduceLT, Z6, Z7, Int.reduceEq, Z8, Z9, Nat.reduceLeDiff, Za, Zb, Zc, Zd, Ze, Zf, bytesOf, Zg, Zh, Zi, Zj, Zk, Zl, Int.reduceLT, Int.reduceLE, Zm, Int.reduceToNat, Zn, Zo, Zp, Int.reduceAdd, Zq, Zr, hmv, hrg, h5, b0, b1, hgb]
    by_cases hk : ∃ k, m.g x.b = .r k ∧ x.n < (rowD m k).length
    · obtain ⟨k, ek, hlt⟩ := hk
      have hkl : k < m.heap.length := by have := hm.gOk b0 b1; rw [ek] at this; exact this
      obtain ⟨ihp, vh, id, z1, z2, z3, z4, z5⟩ := hM.hpAt hkl
      have hkl' : (k : Int) < (m.heap.length : Int) := by omega
      have hlt' : x.n.toNat < (rowD m k).length := by omega
      refine acall_pure (sMemberT hM hm ek hkl hlt) ?_
      have hmv' := hmv
      rw [z1] at hmv'
      have hgb' := hgb
      rw [ek] at hgb'
      simp only [wKd, wSn, wSt] at hgb'
      have hget : ((rowD m k).map wS)[x.n.toNat]? = some (wS ((rowD m k).getD x.n.toNat (.n 0))) := by
        rw [List.getElem?_map, List.getElem?_eq_getElem hlt', List.getD_eq_getElem?_getD, List.getElem?_eq_getElem hlt']; rfl
      generalize hw : (rowD m k).getD x.n.toNat (.n 0) = w at hget
      rw [wS] at hget
      simp only [go_sem, Nat.reduceEqDiff, reduceIte, ↓reduceIte, Nat.reduceAdd, Z0, Z1, Z2, Z3, Z4, Z5, Nat.reduceLT, Z6, Z7, Int.reduceEq, Z8, Z9, Nat.reduceLeDiff, Za, Zb, Zc, Zd, Ze, Zf, bytesOf, Zg, Zh, Zi, Zj, Zk, Zl, Int.reduceLT, Int.reduceLE, Zm, Int.reduceToNat, Zn, Zo, Zp, Int.reduceAdd, Zq, Zr]
      refine drw_same ?_
      simp only [go_sem, Nat.reduceEqDiff, reduceIte, ↓reduceIte, Nat.reduceAdd, Z0, Z1, Z2, Z3, Z4, Z5, Nat.reduceLT, Z6, Z7, Int.reduceEq, Z8, Z9, Nat.reduceLeDiff, Za, Zb, Zc, Zd, Ze, Zf, bytesOf, Zg, Zh, Zi, Zj, Zk, Zl, Int.reduceLT, Int.reduceLE, Zm, Int.reduceToNat, Zn, Zo, Zp, Int.reduceAdd, Zq, Zr, hmv', hrg, h5, a0, a1, hgb', z2, hkl', z4, b0, b1, n0, hlt, z5, hget]
      rw [show ([AV.p (.i .i64 (wKd w)), .p (.i .i64 (wSn w)), .p (.s (wSt w))] : List AV) = wS w from rfl, stoR_at (sreg_g hm a0 a1) (show splice (wS _) 0 (wS w) = some (wS w) from rfl)]
      obtain ⟨p1, p2⟩ := hM.putReg x.a.toNat w
      generalize H1.set g.ir _ = H2 at p1 p2 ⊢
      have q := p1.mv
      simp only [mCl] at q
      simp only [go_sem, Nat.reduceEqDiff, reduceIte, ↓reduceIte, Nat.reduceAdd, Z0, Z1, Z2, Z3, Z4, Z5, Nat.reduceLT, Z6, Z7, Int.reduceEq, Z8, Z9, Nat.reduceLeDiff, Za, Zb, Zc, Zd, Ze, Zf, bytesOf, Zg, Zh, Zi, Zj, Zk, Zl, Int.reduceLT, Int.reduceLE, Zm, Int.reduceToNat, Zn, Zo, Zp, Int.reduceAdd, Zq, Zr, q]
      refine fin g H2 _ p1 p2 rfl rfl (m.pc + 1) ?_
      rw [ee, getMD]
      have eg : ({ m with pc := m.pc + 1 } : MD).g x.b = .r k := ek
      rw [eg]
      have hlt2 : x.n < ((rowD { m with pc := m.pc + 1 } k).length : Int) := hlt
      simp only [hlt2, if_true]
      rw [← hw]
      rfl
    · refine acall_pure (sMemberF hM hm hf (fun k e => by have := hm.gOk b0 b1; rw [e] at this; exact this) (fun k e h' => hk ⟨k, e, h'⟩)) ?_
      have P : SM g f (H1.set g.iw (.var (wCl g f (m.e 0 0)))) (m.e 0 0) := hM.putW f (some (0, 0))
      have F : Fr (smP g) (smP g) H1 (H1.set g.iw (.var (wCl g f (m.e 0 0)))) := frW _
      generalize H1.set g.iw (.var (wCl g f (m.e 0 0))) = H2 at P F ⊢
      have q := P.mv
      simp only [mCl] at q
      simp only [go_sem, Nat.reduceEqDiff, reduceIte, ↓reduceIte, Nat.reduceAdd, Z0, Z1, Z2, Z3, Z4, Z5, Nat.reduceLT, Z6, Z7, Int.reduceEq, Z8, Z9, Nat.reduceLeDiff, Za, Zb, Zc, Zd, Ze, Zf, bytesOf, Zg, Zh, Zi, Zj, Zk, Zl, Int.reduceLT, Int.reduceLE, Zm, Int.reduceToNat, Zn, Zo, Zp, Int.reduceAdd, Zq, Zr, q]
      refine fin g H2 _ P F rfl rfl (m.pc + 1) ?_
      rw [ee, getMD]
      split
      · rename_i k e
        have hno : ¬ x.n < ((rowD { m with pc := m.pc + 1 } k).length : Int) := fun h' => hk ⟨k, e, h'⟩
        rw [if_neg hno]; rfl
      · rfl
  have d10 : decide (x.op = 10) = false := by simp [k10]
  have h11 : 11 ≤ x.op := by have := hx.op; omega
  have ee := effD_k (c := c) (m := { m with pc := m.pc + 1 }) h11
  by_cases k11 : x.op = 11
  · have d11 : decide (x.op = 11) = true := by simp [k11]
    simp only [go_sem, Nat.reduceEqDiff, reduceIte, ↓reduceIte, Nat.reduceAdd, Z0, Z1, Z2, Z3, Z4, Z5, Nat.reduceLT, Z6, Z7, Int.reduceEq, Z8, Z9, Nat.reduceLeDiff, Za, Zb, Zc, Zd, Ze, Zf, bytesOf, Zg, Zh, Zi, Zj, Zk, Zl, Int.reduceLT, Int.reduceLE, Zm, Int.reduceToNat, Zn, Zo, Zp, Int.reduceAdd, Zq, Zr, d1, d2, d3, d4, d5, d6, d7, d8, d9, d10, d11]
    by_cases ea : ∃ t, m.g x.a = .n t
    · obtain ⟨t, ea⟩ := ea
      have hga' := hga
      rw [ea] at hga'
      simp only [wKd, wSn, wSt] at hga'
      refine drw_same ?_
      simp only [go_sem, Nat.reduceEqDiff, reduceIte, ↓reduceIte, Nat.reduceAdd, Z0, Z1, Z2, Z3, Z4, Z5, Nat.reduceLT, Z6, Z7, Int.reduceEq, Z8, Z9, Nat.reduceLeDiff, Za, Zb, Zc, Zd, Ze, Zf, bytesOf, Zg, Zh, Zi, Zj, Zk, Zl, Int.reduceLT, Int.reduceLE, Zm, Int.reduceToNat, Zn, Zo, Zp, Int.reduceAdd, Zq, Zr, hmv, hrg, h5, a0, a1, hga']
      refine pcall_pure (fun A => sIsT (hM.ext A) (w := .n t) (k := 0) rfl) (Hext.refl _) ?_
      have q := hM.mv
      simp only [mCl] at q
      simp only [go_sem, Nat.reduceEqDiff, reduceIte, ↓reduceIte, Nat.reduceAdd, Z0, Z1, Z2, Z3, Z4, Z5, Nat.reduceLT, Z6, Z7, Int.reduceEq, Z8, Z9, Nat.reduceLeDiff, Za, Zb, Zc, Zd, Ze, Zf, bytesOf, Zg, Zh, Zi, Zj, Zk, Zl, Int.reduceLT, Int.reduceLE, Zm, Int.reduceToNat, Zn, Zo, Zp, Int.reduceAdd, Zq, Zr, hmv, hrg, h5, a0, a1, hga']
      by_cases z : t = 0
      · have z' : decide (t = 0) = true := by simp [z]
        simp only [go_sem, Nat.reduceEqDiff, reduceIte, ↓reduceIte, Nat.reduceAdd, Z0, Z1, Z2, Z3, Z4, Z5, Nat.reduceLT, Z6, Z7, Int.reduceEq, Z8, Z9, Nat.reduceLeDiff, Za, Zb, Zc, Zd, Ze, Zf, bytesOf, Zg, Zh, Zi, Zj, Zk, Zl, Int.reduceLT, Int.reduceLE, Zm, Int.reduceToNat, Zn, Zo, Zp, Int.reduceAdd, Zq, Zr, z', h5, q]
        refine fin g H1 m hM (Fr.refl _ _) rfl rfl x.n ?_
        rw [ee, goD, if_pos k11]
        have eg : ({ m with pc := m.pc + 1 } : MD).g x.a = .n t := ea
        rw [eg]; simp only [z, if_true]
      · have z' : decide (t = 0) = false := by simp [z]
        simp only [go_sem, Nat.reduceEqDiff, reduceIte, ↓reduceIte, Nat.reduceAdd, Z0, Z1, Z2, Z3, Z4, Z5, Nat.reduceLT, Z6, Z7, Int.reduceEq, Z8, Z9, Nat.reduceLeDiff, Za, Zb, Zc, Zd, Ze, Zf, bytesOf, Zg, Zh, Zi, Zj, Zk, Zl, Int.reduceLT, Int.reduceLE, Zm, Int.reduceToNat, Zn, Zo, Zp, Int.reduceAdd, Zq, Zr, z', q]
        refine fin g H1 m hM (Fr.refl _ _) rfl rfl (m.pc + 1) ?_
        rw [ee, goD, if_pos k11]
        have eg : ({ m with pc := m.pc + 1 } : MD).g x.a = .n t := ea
        rw [eg]; simp only [z, if_false]
    · have hkk : wKd (m.g x.a) ≠ 0 := by
        intro e; apply ea; revert e; cases m.g x.a <;> simp [wKd]
      refine ⟨H1.set g.iw .dead, dead_ext _ _, ?_⟩
      have m1 := set_ne' (o := AO.dead) hwv hmv (by intro e; simp [wCl] at e)
      have m2 := set_ne' (o := AO.dead) hwv hrg (by intro e; cases e)
      have m5 := set_ne' (o := AO.dead) hwv h5 (by intro e; simp [wCl] at e)
      simp only [go_sem, Nat.reduceEqDiff, reduceIte, ↓reduceIte, Nat.reduceAdd, Z0, Z1, Z2, Z3, Z4, Z5, Nat.reduceLT, Z6, Z7, Int.reduceEq, Z8, Z9, Nat.reduceLeDiff, Za, Zb, Zc, Zd, Ze, Zf, bytesOf, Zg, Zh, Zi, Zj, Zk, Zl, Int.reduceLT, Int.reduceLE, Zm, Int.reduceToNat, Zn, Zo, Zp, Int.reduceAdd, Zq, Zr, m1, m2, m5, a0, a1, hga]
      refine .inl ⟨.p (.b false), H1.set g.iw (.var (wCl g f (m.e 0 0))), by simp, dead_ext' _ _ _, fun A => ?_, ?_⟩
      · have := sIsF (hM.ext A) hf (w := m.g x.a) (k := 0) hkk
        rw [List.set_append_left _ _ (get_lt hwv)] at this
        exact this
      have P : SM g f (H1.set g.iw (.var (wCl g f (m.e 0 0)))) (m.e 0 0) := hM.putW f (some (0, 0))
      have F : Fr (smP g) (smP g) H1 (H1.set g.iw (.var (wCl g f (m.e 0 0)))) := frW _
      generalize H1.set g.iw (.var (wCl g f (m.e 0 0))) = H2 at P F ⊢
      have q := P.mv
      simp only [mCl] at q
      simp only [go_sem, Nat.reduceEqDiff, reduceIte, ↓reduceIte, Nat.reduceAdd, Z0, Z1, Z2, Z3, Z4, Z5, Nat.reduceLT, Z6, Z7, Int.reduceEq, Z8, Z9, Nat.reduceLeDiff, Za, Zb, Zc, Zd, Ze, Zf, bytesOf, Zg, Zh, Zi, Zj, Zk, Zl, Int.reduceLT, Int.reduceLE, Zm, Int.reduceToNat, Zn, Zo, Zp, Int.reduceAdd, Zq, Zr, q]
      refine fin g H2 _ P F rfl rfl (m.pc + 1) ?_
      rw [ee, goD, if_pos k11]
      split
      · rename_i t e; exact absurd ⟨t, e⟩ ea
      · rfl
  have d11 : decide (x.op = 11) = false := by simp [k11]
  by_cases k12 : x.op = 12
  · have d12 : decide (x.op = 12) = true := by simp [k12]
    simp only [go_sem, Nat.reduceEqDiff, reduceIte, ↓reduceIte, Nat.reduceAdd, Z0, Z1, Z2, Z3, Z4, Z5, Nat.reduceLT, Z6, Z7, Int.reduceEq, Z8, Z9, Nat.reduceLeDiff, Za, Zb, Zc, Zd, Ze, Zf, bytesOf, Zg, Zh, Zi, Zj, Zk, Zl, Int.reduceLT, Int.reduceLE, Zm, Int.reduceToNat, Zn, Zo, Zp, Int.reduceAdd, Zq, Zr, d1, d2, d3, d4, d5, d6, d7, d8, d9, d10, d11, d12, h5, hmv]
    refine fin g H1 m hM (Fr.refl _ _) rfl rfl x.n ?_
    rw [ee, goD, if_neg k11, if_pos k12]
  have d12 : decide (x.op = 12) = false := by simp [k12]
  by_cases k13 : x.op = 13
  · have d13 : decide (x.op = 13) = true := by simp [k13]
    simp only [go_sem, Nat.reduceEqDiff, reduceIte, ↓reduceIte, Nat.reduceAdd, Z0, Z1, Z2, Z3, Z4, Z5, Nat.reduceLT, Z6, Z7, Int.reduceEq, Z8, Z9, Nat.reduceLeDiff, Za, Zb, Zc, Zd, Ze, Zf, bytesOf, Zg, Zh, Zi, Zj, Zk, Zl, Int.reduceLT, Int.reduceLE, Zm, Int.reduceToNat, Zn, Zo, Zp, Int.reduceAdd, Zq, Zr, d1, d2, d3, d4, d5, d6, d7, d8, d9, d10, d11, d12, d13]
    refine drw_same ?_
    simp only [go_sem, Nat.reduceEqDiff, reduceIte, ↓reduceIte, Nat.reduceAdd, Z0, Z1, Z2, Z3, Z4, Z5, Nat.reduceLT, Z6, Z7, Int.reduceEq, Z8, Z9, Nat.reduceLeDiff, Za, Zb, Zc, Zd, Ze, Zf, bytesOf, Zg, Zh, Zi, Zj, Zk, Zl, Int.reduceLT, Int.reduceLE, Zm, Int.reduceToNat, Zn, Zo, Zp, Int.reduceAdd, Zq, Zr, hmv, hrg, h5, a0, a1, hga]
    by_cases ea : ∃ t, m.g x.a = .b t
    · obtain ⟨t, ea⟩ := ea
      have ht : 0 ≤ t ∧ t < c.starts.length := by have := hm.gOk a0 a1; rw [ea] at this; exact this
      have ht' : t.toNat < c.starts.length := by omega
      have hga' := hga
      rw [ea] at hga'
      simp only [wKd, wSn, wSt] at hga'
      refine acall_pure (sIsT hM (w := m.g x.a) (k := 3) (by rw [ea]; rfl)) ?_
      simp only [go_sem, Nat.reduceEqDiff, reduceIte, ↓reduceIte, Nat.reduceAdd, Z0, Z1, Z2, Z3, Z4, Z5, Nat.reduceLT, Z6, Z7, Int.reduceEq, Z8, Z9, Nat.reduceLeDiff, Za, Zb, Zc, Zd, Ze, Zf, bytesOf, Zg, Zh, Zi, Zj, Zk, Zl, Int.reduceLT, Int.reduceLE, Zm, Int.reduceToNat, Zn, Zo, Zp, Int.reduceAdd, Zq, Zr]
      refine drw_same ?_
      simp only [go_sem, Nat.reduceEqDiff, reduceIte, ↓reduceIte, Nat.reduceAdd, Z0, Z1, Z2, Z3, Z4, Z5, Nat.reduceLT, Z6, Z7, Int.reduceEq, Z8, Z9, Nat.reduceLeDiff, Za, Zb, Zc, Zd, Ze, Zf, bytesOf, Zg, Zh, Zi, Zj, Zk, Zl, Int.reduceLT, Int.reduceLE, Zm, Int.reduceToNat, Zn, Zo, Zp, Int.reduceAdd, Zq, Zr, hmv, hrg, h5, h4, a0, a1, hga', ht.1, ints_getD _ ht']
      refine fin g H1 m hM (Fr.refl _ _) rfl rfl _ ?_
      rw [ee, goD, if_neg k11, if_neg k12, if_pos k13]
      have eg : ({ m with pc := m.pc + 1 } : MD).g x.a = .b t := ea
      rw [eg]
    · have hkk : wKd (m.g x.a) ≠ 3 := by
        intro e; apply ea; revert e; cases m.g x.a <;> simp [wKd]
      refine acall_pure (sIsF hM hf (w := m.g x.a) (k := 3) hkk) ?_
      have P : SM g f (H1.set g.iw (.var (wCl g f (m.e 0 0)))) (m.e 0 0) := hM.putW f (some (0, 0))
      have F : Fr (smP g) (smP g) H1 (H1.set g.iw (.var (wCl g f (m.e 0 0)))) := frW _
      generalize H1.set g.iw (.var (wCl g f (m.e 0 0))) = H2 at P F ⊢
      have q := P.mv
      simp only [mCl] at q
      simp only [go_sem, Nat.reduceEqDiff, reduceIte, ↓reduceIte, Nat.reduceAdd, Z0, Z1, Z2, Z3, Z4, Z5, Nat.reduceLT, Z6, Z7, Int.reduceEq, Z8, Z9, Nat.reduceLeDiff, Za, Zb, Zc, Zd, Ze, Zf, bytesOf, Zg, Zh, Zi, Zj, Zk, Zl, Int.reduceLT, Int.reduceLE, Zm, Int.reduceToNat, Zn, Zo, Zp, Int.reduceAdd, Zq, Zr, q]
      refine fin g H2 _ P F rfl rfl (m.pc + 1) ?_
      rw [ee, goD, if_neg k11, if_neg k12, if_pos k13]
      split
      · rename_i t e; exact absurd ⟨t, e⟩ ea
      · rfl
  have d13 : decide (x.op = 13) = false := by simp [k13]
  by_cases k14 : x.op = 14
  · have d14 : decide (x.op = 14) = true := by simp [k14]
    simp only [go_sem, Nat.reduceEqDiff, reduceIte, ↓reduceIte, Nat.reduceAdd, Z0, Z1, Z2, Z3, Z4, Z5, Nat.reduceLT, Z6, Z7, Int.reduceEq, Z8, Z9, Nat.reduceLeDiff, Za, Zb, Zc, Zd, Ze, Zf, bytesOf, Zg, Zh, Zi, Zj, Zk, Zl, Int.reduceLT, Int.reduceLE, Zm, Int.reduceToNat, Zn, Zo, Zp, Int.reduceAdd, Zq, Zr, d1, d2, d3, d4, d5, d6, d7, d8, d9, d10, d11, d12, d13, d14]
    refine drw_same ?_
    simp only [go_sem, Nat.reduceEqDiff, reduceIte, ↓reduceIte, Nat.reduceAdd, Z0, Z1, Z2, Z3, Z4, Z5, Nat.reduceLT, Z6, Z7, Int.reduceEq, Z8, Z9, Nat.reduceLeDiff, Za, Zb, Zc, Zd, Ze, Zf, bytesOf, Zg, Zh, Zi, Zj, Zk, Zl, Int.reduceLT, Int.reduceLE, Zm, Int.reduceToNat, Zn, Zo, Zp, Int.reduceAdd, Zq, Zr, hmv, hrg, h5, a0, a1, hga]
    by_cases ea : ∃ t, m.g x.a = .n t
    · obtain ⟨t, ea⟩ := ea
      have hga' := hga
      rw [ea] at hga'
      simp only [wKd, wSn, wSt] at hga'
      refine acall_pure (sIsT hM (w := m.g x.a) (k := 0) (by rw [ea]; rfl)) ?_
      simp only [go_sem, Nat.reduceEqDiff, reduceIte, ↓reduceIte, Nat.reduceAdd, Z0, Z1, Z2, Z3, Z4, Z5, Nat.reduceLT, Z6, Z7, Int.reduceEq, Z8, Z9, Nat.reduceLeDiff, Za, Zb, Zc, Zd, Ze, Zf, bytesOf, Zg, Zh, Zi, Zj, Zk, Zl, Int.reduceLT, Int.reduceLE, Zm, Int.reduceToNat, Zn, Zo, Zp, Int.reduceAdd, Zq, Zr]
      refine drw_same ?_
      simp only [go_sem, Nat.reduceEqDiff, reduceIte, ↓reduceIte, Nat.reduceAdd, Z0, Z1, Z2, Z3, Z4, Z5, Nat.reduceLT, Z6, Z7, Int.reduceEq, Z8, Z9, Nat.reduceLeDiff, Za, Zb, Zc, Zd, Ze, Zf, bytesOf, Zg, Zh, Zi, Zj, Zk, Zl, Int.reduceLT, Int.reduceLE, Zm, Int.reduceToNat, Zn, Zo, Zp, Int.reduceAdd, Zq, Zr, hmv, hrg, h5, h4, a0, a1, hga']
      refine acall_pure (sEnds hM hf 1 t) ?_
      have P : SM g f (H1.set g.iw (.var (wCl g f (m.e 1 t)))) (m.e 1 t) := hM.putW f (some (1, t))
      have F : Fr (smP g) (smP g) H1 (H1.set g.iw (.var (wCl g f (m.e 1 t)))) := frW _
      generalize H1.set g.iw (.var (wCl g f (m.e 1 t))) = H2 at P F ⊢
      have q := P.mv
      simp only [mCl] at q
      simp only [go_sem, Nat.reduceEqDiff, reduceIte, ↓reduceIte, Nat.reduceAdd, Z0, Z1, Z2, Z3, Z4, Z5, Nat.reduceLT, Z6, Z7, Int.reduceEq, Z8, Z9, Nat.reduceLeDiff, Za, Zb, Zc, Zd, Ze, Zf, bytesOf, Zg, Zh, Zi, Zj, Zk, Zl, Int.reduceLT, Int.reduceLE, Zm, Int.reduceToNat, Zn, Zo, Zp, Int.reduceAdd, Zq, Zr, q]
      refine fin g H2 _ P F rfl rfl (m.pc + 1) ?_
      rw [ee, goD, if_neg k11, if_neg k12, if_neg k13, if_pos k14]
      have eg : ({ m with pc := m.pc + 1 } : MD).g x.a = .n t := ea
      rw [eg]; rfl
    · have hkk : wKd (m.g x.a) ≠ 0 := by
        intro e; apply ea; revert e; cases m.g x.a <;> simp [wKd]
      refine acall_pure (sIsF hM hf (w := m.g x.a) (k := 0) hkk) ?_
      have P : SM g f (H1.set g.iw (.var (wCl g f (m.e 0 0)))) (m.e 0 0) := hM.putW f (some (0, 0))
      have F : Fr (smP g) (smP g) H1 (H1.set g.iw (.var (wCl g f (m.e 0 0)))) := frW _
      generalize H1.set g.iw (.var (wCl g f (m.e 0 0))) = H2 at P F ⊢
      have q := P.mv
      simp only [mCl] at q
      simp only [go_sem, Nat.reduceEqDiff, reduceIte, ↓reduceIte, Nat.reduceAdd, Z0, Z1, Z2, Z3, Z4, Z5, Nat.reduceLT, Z6, Z7, Int.reduceEq, Z8, Z9, Nat.reduceLeDiff, Za, Zb, Zc, Zd, Ze, Zf, bytesOf, Zg, Zh, Zi, Zj, Zk, Zl, Int.reduceLT, Int.reduceLE, Zm, Int.reduceToNat, Zn, Zo, Zp, Int.reduceAdd, Zq, Zr, q]
      refine fin g H2 _ P F rfl rfl (m.pc + 1) ?_
      rw [ee, goD, if_neg k11, if_neg k12, if_neg k13, if_pos k14]
      split
      · rename_i t e; exact absurd ⟨t, e⟩ ea
      · rfl
  have d14 : decide (x.op = 14) = false := by simp [k14]
  · have k15 : x.op = 15 := by have := hx.op; omega
    have d15 : decide (x.op = 15) = true := by simp [k15]
    simp only [go_sem, Nat.reduceEqDiff, reduceIte, ↓reduceIte, Nat.reduceAdd, Z0, Z1, Z2, Z3, Z4, Z5, Nat.reduceLT, Z6, Z7, Int.reduceEq, Z8, Z9, Nat.reduceLeDiff, Za, Zb, Zc, Zd, Ze, Zf, bytesOf, Zg, Zh, Zi, Zj, Zk, Zl, Int.reduceLT, Int.reduceLE, Zm, Int.reduceToNat, Zn, Zo, Zp, Int.reduceAdd, Zq, Zr, d1, d2, d3, d4, d5, d6, d7, d8, d9, d10, d11, d12, d13, d14, d15]
    refine drw_same ?_
    simp only [go_sem, Nat.reduceEqDiff, reduceIte, ↓reduceIte, Nat.reduceAdd, Z0, Z1, Z2, Z3, Z4, Z5, Nat.reduceLT, Z6, Z7, Int.reduceEq, Z8, Z9, Nat.reduceLeDiff, Za, Zb, Zc, Zd, Ze, Zf, bytesOf, Zg, Zh, Zi, Zj, Zk, Zl, Int.reduceLT, Int.reduceLE, Zm, Int.reduceToNat, Zn, Zo, Zp, Int.reduceAdd, Zq, Zr, hmv, h5]
    · refine acall_pure (sEnds hM hf 2 x.n) ?_
      have P : SM g f (H1.set g.iw (.var (wCl g f (m.e 2 x.n)))) (m.e 2 x.n) := hM.putW f (some (2, x.n))
      have F : Fr (smP g) (smP g) H1 (H1.set g.iw (.var (wCl g f (m.e 2 x.n)))) := frW _
      generalize H1.set g.iw (.var (wCl g f (m.e 2 x.n))) = H2 at P F ⊢
      have q := P.mv
      simp only [mCl] at q
      simp only [go_sem, Nat.reduceEqDiff, reduceIte, ↓reduceIte, Nat.reduceAdd, Z0, Z1, Z2, Z3, Z4, Z5, Nat.reduceLT, Z6, Z7, Int.reduceEq, Z8, Z9, Nat.reduceLeDiff, Za, Zb, Zc, Zd, Ze, Zf, bytesOf, Zg, Zh, Zi, Zj, Zk, Zl, Int.reduceLT, Int.reduceLE, Zm, Int.reduceToNat, Zn, Zo, Zp, Int.reduceAdd, Zq, Zr, q]
      refine fin g H2 _ P F rfl rfl (m.pc + 1) ?_
      rw [ee, goD, if_neg k11, if_neg k12, if_neg k13, if_neg k14]
      rfl
end Go.Proofs.Ytmbggdfceecojaa.Cd
