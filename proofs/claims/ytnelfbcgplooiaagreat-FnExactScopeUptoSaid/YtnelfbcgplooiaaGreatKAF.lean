/- Texts PhN PhO, merged. -/
import Derived.Test.YtnelfbcgplooiaaGreatKAE
/- The reference: expressions; its Scope. -/
set_option linter.all false
namespace Go.Proofs.YtnelfbcgplooiaaGreat.Pg
open Go.AM Mc

theorem eftL_none {infos : List InfoD} {env : List (List UInt8)} {k : Int} {n t : List UInt8} {l : List ExpD} : ∀ {i x : Nat} (h : (ExpD.ftL infos env k n t i (l.take x)).1 ≠ 0), ExpD.ftL infos env k n t i l = ExpD.ftL infos env k n t i (l.take x) := by
  induction l with
  | nil => intro i x h; simp
  | cons e l ih =>
    intro i x h
    cases x with
    | zero => simp [ExpD.ftL] at h
    | succ x =>
      simp only [List.take_succ_cons, ExpD.ftL] at h ⊢
      by_cases e0 : (e.ft infos (env ++ bindsD k n t i)).1 = 0
      · simp only [firstF, e0, if_true] at h ⊢
        exact ih h
      · rw [firstF_ne e0, firstF_ne e0]
theorem eftA_none {infos : List InfoD} {env : List (List UInt8)} {l : List ArmD} : ∀ {x : Nat} (h : (ExpD.ftA infos env (l.take x)).1 ≠ 0), ExpD.ftA infos env l = ExpD.ftA infos env (l.take x) := by
  induction l with
  | nil => intro x h; simp
  | cons e l ih =>
    intro x h
    cases x with
    | zero => simp [ExpD.ftA] at h
    | succ x =>
      simp only [List.take_succ_cons, ExpD.ftA] at h ⊢
      by_cases e0 : (e.ft infos env).1 = 0
      · simp only [firstF, e0, if_true] at h ⊢
        exact ih h
      · rw [firstF_ne e0, firstF_ne e0]
def ExpS (infos : List InfoD) (e : ExpD) : Prop := ∀ (env : List (List UInt8)) (H : List AO), env.length + 2 * e.sz + 4 ≤ 4194304 →
  ACall Tryz.prog 19 [.p (.l (infos.map InfoD.cells)), av e.cells, .p (.l (namesC env))] H (pureQ (av (e.ft infos env).cells) H)
theorem expArmsS {infos : List InfoD} {k : Int} {n : List UInt8} {u : Int} {t : List UInt8} {p : Int} {ks : List ExpD} {as' : List ArmD} (ha : ∀ q e, ArmD.mk q e ∈ as' → PatS infos q ∧ ExpS infos e) {L : En} {H H1 : List AO} {b c : Nat} {env : List (List UInt8)} {F : Ft} (hF : F = ExpD.ftA infos env as')
    (h0 : eget L 0 = .p (.l (infos.map InfoD.cells))) (h2 : eget L 2 = .p (.l (namesC env))) (h4 : eget L 4 = .ptr b 0) (h6 : eget L 6 = .ptr c 0) (hG : ∃ G, H1 = H ++ G) (hb : H1[b]? = some (.var ((ExpD.cells (.mk k n u t p ks as')).map .p))) (hc : H1[c]? = some (.var [.p (.i .i64 0), .p (.i .i64 0)])) (hbl : H.length ≤ b) (hcl : H.length ≤ c) (hbnd : env.length + 2 * ExpD.szA as' + 4 ≤ 4194304) :
    wpm (ACall Tryz.prog) mc19a (finK mr19 (fun r H' => r = av F.cells ∧ ∃ G, H' = H ++ G)) ⟨L, [], H1⟩ := by
  have hb' : H1[b]? = some (.var [.p (.i .i64 k), .p (.s n), .p (.i .i64 u), .p (.s t), .p (.i .i64 p), .p (.l (ExpD.cellsL ks)), .p (.l (ExpD.cellsA as'))]) := hb
  rw [ExpD.cellsA_eq] at hb'
  rw [ExpD.szA_eq] at hbnd
  simp only [go_sem, reduceIte, ↓reduceIte, sevalprocAttr, Z0, Z1, bytesOf, mc19a, mr19]
  refine ⟨Nat × List AO, [0, 2, 4, 6, 11], fun x st => st.T = [] ∧ st.H = x.2 ∧ eget st.L 0 = .p (.l (infos.map InfoD.cells)) ∧ eget st.L 2 = .p (.l (namesC env)) ∧ eget st.L 4 = .ptr b 0 ∧ eget st.L 6 = .ptr c 0 ∧ eget st.L 11 = .p (.i .i64 x.1) ∧
    x.1 ≤ as'.length ∧ ExpD.ftA infos env (as'.take x.1) = (0, 0) ∧ (∃ G, x.2 = H ++ G) ∧ x.2[b]? = some (.var [.p (.i .i64 k), .p (.s n), .p (.i .i64 u), .p (.s t), .p (.i .i64 p), .p (.l (ExpD.cellsL ks)), .p (.l (as'.map ArmD.cells))]) ∧ x.2[c]? = some (.var [.p (.i .i64 0), .p (.i .i64 0)]), fun x => as'.length - x.1, ⟨(0, H1), ?_⟩, ?_⟩
  · simp only [go_sem, reduceIte, ↓reduceIte, sevalprocAttr, Z0, Z1, bytesOf, eget_keep, eget_same, eget_ne, h0, h2, h4, h6, hb', hc]
    exact ⟨Nat.zero_le _, rfl, hG⟩
  rintro ⟨x, HG⟩ st ⟨hT, hH, q0, q2, q4, q6, q11, hx, hz, hfar, gb, gc⟩
  obtain ⟨SL, ST, SH⟩ := st
  simp only at hT hH q0 q2 q4 q6 q11 hx hz hfar gb gc
  subst hT hH
  simp only [go_sem, reduceIte, ↓reduceIte, sevalprocAttr, Z0, Z1, bytesOf, q4, q11, gb, eget_same, eget_ne, List.length_map]
  intro hl
  by_cases hlt : x < as'.length
  · have d1 : decide ((x : Int) < (as'.length : Int)) = true := by simp; omega
    have hlt' : ((x : Int) < (as'.length : Int)) := by omega
    have ex := wrN x (by rw [maxLe] at hl; omega)
    have hg : (as'.map ArmD.cells)[x]? = some (ArmD.cells as'[x]) := by simp [hlt]
    have hmem := List.getElem_mem hlt
    have hft := eftA_step (infos := infos) (env := env) hlt
    rw [hz, firstF_z] at hft
    have hnone := fun h => eftA_none (infos := infos) (env := env) (l := as') (x := x + 1) h
    have hsx := sumSz_get ArmD.sz hlt
    generalize as'[x] = d at hg hmem hft hsx
    obtain ⟨⟨pk, pn, pu, pp, pks⟩, ⟨ck, cn, cu, ct, cp, cks, cas⟩⟩ := d
    obtain ⟨hpat, hcall⟩ := ha _ _ hmem
    rw [ArmD.sz] at hsx
    rw [ArmD.ft] at hft
    have hbn := PatD.boundLen (.mk pk pn pu pp pks)
    have hpz := PatD.ft_z infos [] (.mk pk pn pu pp pks)
    have hez := ExpD.ft_z infos (env ++ PatD.bound (.mk pk pn pu pp pks)) (.mk ck cn cu ct cp cks cas)
    have hexp := fun H => hcall (env ++ PatD.bound (.mk pk pn pu pp pks)) H (by rw [List.length_append]; omega)
    simp only [go_sem, reduceIte, ↓reduceIte, sevalprocAttr, Z0, Z1, bytesOf, q0, q4, q11, d1, hlt', hg, gb, eget_same, eget_ne, ArmD.cells, PatD.cells, ExpD.cells, List.length_map]
    refine (hpat (SH ++ [AO.rows 1 0 []]) (.gs SH.length 0 0 0) [] (.inr ⟨SH.length, 0, rfl, by simp [nmR]⟩) (by simp only [List.length_nil]; omega)).mono ?_
    rintro r H' ⟨a', nm', rfl, hS, hnm'⟩
    rw [List.nil_append] at hnm'
    have kp : ∀ (i : Nat) o, SH[i]? = some o → H'[i]? = some o := fun i o hi => hS.keep _ _ (get_ext hi _) (by
      rintro v q n e
      cases e
      have := get_lt hi
      omega)
    have hb2 := kp _ _ gb
    have hc2 := kp _ _ gc
    have hfar2 : ∃ G, H' = H ++ G := by
      obtain ⟨G, hG'⟩ := hfar
      exact pre_of fun i o hi => kp i o (by rw [hG']; exact get_ext hi _)
    generalize PatD.ft infos [] (.mk pk pn pu pp pks) = fp at hft hpz hnm' ⊢
    obtain ⟨f1, f2⟩ := fp
    by_cases h0 : f1 = 0
    case neg =>
      rw [firstF_ne h0] at hft
      have e0 : F = (f1, f2) := by rw [hF, hnone (by rw [hft]; exact h0), hft]
      subst e0
      simp only [go_sem, reduceIte, ↓reduceIte, sevalprocAttr, Z0, Z1, bytesOf, Ft.cells, eget_keep, eget_same, eget_ne, q6, dF h0, get_ext hc2 _]
      rw [set_get (get_ext hc2 _)]
      simp only [go_sem, reduceIte, ↓reduceIte, sevalprocAttr, Z0, Z1, bytesOf]
      exact ⟨rfl, set_far (app_far hfar2 _) hcl _⟩
    subst h0
    have h0' : f2 = 0 := by have := hpz rfl; simpa using this
    subst h0'
    have hnm2 := hnm' rfl
    subst hnm2
    rw [firstF_z] at hft
    simp only [go_sem, reduceIte, ↓reduceIte, sevalprocAttr, Z0, Z1, bytesOf, Ft.cells, eget_same, eget_ne]
    refine drw_same ?_
    simp only [go_sem, reduceIte, ↓reduceIte, sevalprocAttr, Z0, Z1, bytesOf, q0, q2, q4, q11, hlt', hg, get_ext hb2 _, eget_same, eget_ne, ArmD.cells, PatD.cells, ExpD.cells, List.length_map]
    refine pcall_pure (fun A => withC (a := env) (b := PatD.bound (.mk pk pn pu pp pks)) (by omega) (.pure _) (lent_nm (OwnR.ext (OwnR.ext hS.own)))) (Hext.refl _) ?_
    simp only [go_sem, reduceIte, ↓reduceIte, sevalprocAttr, Z0, Z1, bytesOf]
    refine acall_pure (hexp _) ?_
    have hl2 := get_lt hb2
    generalize ExpD.ft infos (env ++ PatD.bound (.mk pk pn pu pp pks)) (.mk ck cn cu ct cp cks cas) = fe at hft hez ⊢
    obtain ⟨g1, g2⟩ := fe
    by_cases h1 : g1 = 0
    · subst h1
      have h1' : g2 = 0 := by have := hez rfl; simpa using this
      subst h1'
      simp only [go_sem, reduceIte, ↓reduceIte, sevalprocAttr, Z0, Z1, bytesOf, Ft.cells, eget_keep, eget_same, eget_ne, q0, q2, q4, q6, q11, ex]
      exact ⟨(x + 1, _), ⟨rfl, rfl, by simp only; omega, hft, app_far hfar2 _, get_ext hb2 _, get_ext hc2 _⟩, by simp only; omega⟩
    · have e0 : F = (g1, g2) := by rw [hF, hnone (by rw [hft]; exact h1), hft]
      subst e0
      simp only [go_sem, reduceIte, ↓reduceIte, sevalprocAttr, Z0, Z1, bytesOf, Ft.cells, eget_keep, eget_same, eget_ne, q6, dF h1, get_ext hc2 _]
      rw [set_get (get_ext hc2 _)]
      simp only [go_sem, reduceIte, ↓reduceIte, sevalprocAttr, Z0, Z1, bytesOf]
      exact ⟨rfl, set_far (app_far hfar2 _) hcl _⟩
  · have : x = as'.length := by omega
    subst this
    have d1 : decide ((as'.length : Int) < (as'.length : Int)) = false := by simp
    rw [List.take_length] at hz
    have e0 : F = (0, 0) := by rw [hF, hz]
    subst e0
    simp only [go_sem, reduceIte, ↓reduceIte, sevalprocAttr, Z0, Z1, bytesOf, q6, d1, eget_same, eget_ne, gc]
    rw [set_get gc]
    simp only [go_sem, reduceIte, ↓reduceIte, sevalprocAttr, Z0, Z1, bytesOf]
    exact ⟨rfl, set_far hfar hcl _⟩
theorem expTailS {infos : List InfoD} {k : Int} {n : List UInt8} {u : Int} {t : List UInt8} {p : Int} {ks : List ExpD} {as' : List ArmD} (hk : ∀ x ∈ ks, ExpS infos x) (ha : ∀ q e, ArmD.mk q e ∈ as' → PatS infos q ∧ ExpS infos e) {L : En} {H H1 : List AO} {b c : Nat} {env : List (List UInt8)} {F : Ft} (hF : F = firstF (ExpD.ftL infos env k n t 0 ks) (ExpD.ftA infos env as'))
    (h0 : eget L 0 = .p (.l (infos.map InfoD.cells))) (h2 : eget L 2 = .p (.l (namesC env))) (h4 : eget L 4 = .ptr b 0) (h6 : eget L 6 = .ptr c 0) (hG : ∃ G, H1 = H ++ G) (hb : H1[b]? = some (.var ((ExpD.cells (.mk k n u t p ks as')).map .p))) (hc : H1[c]? = some (.var [.p (.i .i64 0), .p (.i .i64 0)])) (hbl : H.length ≤ b) (hcl : H.length ≤ c) (hbnd : env.length + 2 * (ExpD.szL ks + ExpD.szA as') + 4 ≤ 4194304) :
    wpm (ACall Tryz.prog) mc19t (finK mr19 (fun r H' => r = av F.cells ∧ ∃ G, H' = H ++ G)) ⟨L, [], H1⟩ := by
  have hb' : H1[b]? = some (.var [.p (.i .i64 k), .p (.s n), .p (.i .i64 u), .p (.s t), .p (.i .i64 p), .p (.l (ExpD.cellsL ks)), .p (.l (ExpD.cellsA as'))]) := hb
  rw [ExpD.cellsL_eq] at hb'
  rw [ExpD.szL_eq] at hbnd
  simp only [go_sem, reduceIte, ↓reduceIte, sevalprocAttr, Z0, Z1, bytesOf, mc19t, mr19]
  refine ⟨Nat × List AO, [0, 2, 4, 6, 8], fun x st => st.T = [] ∧ st.H = x.2 ∧ eget st.L 0 = .p (.l (infos.map InfoD.cells)) ∧ eget st.L 2 = .p (.l (namesC env)) ∧ eget st.L 4 = .ptr b 0 ∧ eget st.L 6 = .ptr c 0 ∧ eget st.L 8 = .p (.i .i64 x.1) ∧
    x.1 ≤ ks.length ∧ ExpD.ftL infos env k n t 0 (ks.take x.1) = (0, 0) ∧ (∃ G, x.2 = H ++ G) ∧ x.2[b]? = some (.var [.p (.i .i64 k), .p (.s n), .p (.i .i64 u), .p (.s t), .p (.i .i64 p), .p (.l (ks.map ExpD.cells)), .p (.l (ExpD.cellsA as'))]) ∧ x.2[c]? = some (.var [.p (.i .i64 0), .p (.i .i64 0)]), fun x => ks.length - x.1, ⟨(0, H1), ?_⟩, ?_⟩
  · simp only [go_sem, reduceIte, ↓reduceIte, sevalprocAttr, Z0, Z1, bytesOf, eget_keep, eget_same, eget_ne, h0, h2, h4, h6, hb', hc]
    exact ⟨Nat.zero_le _, rfl, hG⟩
  rintro ⟨x, HG⟩ st ⟨hT, hH, q0, q2, q4, q6, q8, hx, hz, hfar, gb, gc⟩
  obtain ⟨SL, ST, SH⟩ := st
  simp only at hT hH q0 q2 q4 q6 q8 hx hz hfar gb gc
  subst hT hH
  simp only [go_sem, reduceIte, ↓reduceIte, sevalprocAttr, Z0, Z1, bytesOf, q4, q8, gb, eget_same, eget_ne, List.length_map]
  intro hl
  by_cases hlt : x < ks.length
  · have d1 : decide ((x : Int) < (ks.length : Int)) = true := by simp; omega
    have hlt' : ((x : Int) < (ks.length : Int)) := by omega
    have ex := wrN x (by rw [maxLe] at hl; omega)
    have di : decide ((x : Int) = 1) = decide (x = 1) := by rw [decide_eq_decide]; omega
    have hg : (ks.map ExpD.cells)[x]? = some (ExpD.cells ks[x]) := by simp [hlt]
    have hft := eftL_step (infos := infos) (env := env) (k := k) (n := n) (t := t) (i := 0) hlt
    rw [hz, firstF_z, Nat.zero_add] at hft
    have hnone := fun h => eftL_none (infos := infos) (env := env) (k := k) (n := n) (t := t) (i := 0) (l := ks) (x := x + 1) h
    have hsx := sumSz_get ExpD.sz hlt
    have hcall := hk ks[x] (List.getElem_mem hlt)
    have hez := ExpD.ft_z infos (env ++ bindsD k n t x) ks[x]
    have hbn := bindsLen k n t x
    generalize ks[x] = d at hg hft hsx hcall hez
    obtain ⟨ck, cn, cu, ct, cp, cks, cas⟩ := d
    have hexp := fun H => hcall (env ++ bindsD k n t x) H (by rw [List.length_append]; omega)
    have fin : ∀ (L2 : En) (H2 : List AO) (Q : Ex → St → Prop), (∀ t, t = 0 ∨ t = 2 ∨ t = 4 ∨ t = 6 ∨ t = 8 → eget L2 t = eget SL t) → eget L2 9 = .p (.l (namesC (env ++ bindsD k n t x))) → (∃ A, H2 = SH ++ A) →
        ((ExpD.ft infos (env ++ bindsD k n t x) (.mk ck cn cu ct cp cks cas)) = (0, 0) → ∀ L3 A, (∀ t, t = 0 ∨ t = 2 ∨ t = 4 ∨ t = 6 ∨ t = 8 → eget L3 t = eget SL t) → Q .nm ⟨L3, [], SH ++ A⟩) →
        (F.1 ≠ 0 → ∀ L3 H3, eget L3 6 = .ptr c 0 → H3[c]? = some (.var (F.cells.map .p)) → (∃ G, H3 = H ++ G) → Q .rt ⟨L3, [], H3⟩) → wpm (ACall Tryz.prog) mc19b Q ⟨L2, [], H2⟩ := by
      rintro L2 H2 Q hL2 h9 ⟨A, rfl⟩ kn kr
      have b0 := (hL2 0 (by simp)).trans q0
      have b4 := (hL2 4 (by simp)).trans q4
      have b6 := (hL2 6 (by simp)).trans q6
      have b8 := (hL2 8 (by simp)).trans q8
      have gbX := get_ext gb A
      have gcX := get_ext gc A
      have gcY := fun B => get_ext gc B
      have hfX := app_far hfar A
      simp only [go_sem, reduceIte, ↓reduceIte, sevalprocAttr, Z0, Z1, bytesOf, mc19b, b0, b4, b8, gbX, hlt', hg, h9, eget_same, eget_ne, ExpD.cells, List.length_map]
      refine acall_pure (hexp _) ?_
      generalize ExpD.ft infos (env ++ bindsD k n t x) (.mk ck cn cu ct cp cks cas) = fe at hft hez kn ⊢
      obtain ⟨g1, g2⟩ := fe
      by_cases h1 : g1 = 0
      · subst h1
        have h1' : g2 = 0 := by have := hez rfl; simpa using this
        subst h1'
        simp only [go_sem, reduceIte, ↓reduceIte, sevalprocAttr, Z0, Z1, bytesOf, Ft.cells, eget_same, eget_ne]
        refine kn rfl _ _ fun t ht => ?_
        rw [← hL2 t ht]
        rcases ht with rfl | rfl | rfl | rfl | rfl <;> simp only [go_sem, reduceIte, ↓reduceIte, sevalprocAttr, Z0, Z1, bytesOf, eget_ne]
      · have e0 : F = (g1, g2) := by rw [hF, hnone (by rw [hft]; exact h1), hft, firstF_ne h1]
        subst e0
        simp only [go_sem, reduceIte, ↓reduceIte, sevalprocAttr, Z0, Z1, bytesOf, Ft.cells, eget_same, eget_ne, b6, dF h1, gcY]
        refine kr h1 _ _ ?_ (set_get (gcY _)) (set_far (app_far hfar _) hcl _)
        simp only [go_sem, reduceIte, ↓reduceIte, sevalprocAttr, Z0, Z1, bytesOf, eget_same, eget_ne, b6]
    have next : (ExpD.ft infos (env ++ bindsD k n t x) (.mk ck cn cu ct cp cks cas)) = (0, 0) → ExpD.ftL infos env k n t 0 (ks.take (x + 1)) = (0, 0) := fun h => hft.trans h
    by_cases h8 : k = 8
    case' pos =>
      have eb : bindsD k n t x = [n] := by unfold bindsD; rw [if_pos (.inl h8)]
      simp only [go_sem, reduceIte, ↓reduceIte, sevalprocAttr, Z0, Z1, bytesOf, d1, q2, q4, gb, dT h8, eget_same, eget_ne]
      refine acall_pure (withC (a := env) (b := [n]) (by simp; omega) (.pure _) (lent_nm (.inr ⟨SH.length, 0, rfl, by rw [get_off0]; rfl⟩))) ?_
      simp only [go_sem, reduceIte, ↓reduceIte, sevalprocAttr, Z0, Z1, bytesOf]
      rw [eb] at fin next
      refine fin _ _ _ ?_ ?_ ⟨_, rfl⟩ ?_ ?_
    case' neg =>
      by_cases h10 : k = 10
      case' pos =>
        have d11 : decide (k = 11) = false := decide_eq_false (by omega)
        by_cases hi : x = 1
        case' pos =>
          have eb : bindsD k n t x = [n] := by unfold bindsD; rw [if_pos (.inr (.inl ⟨h10, hi⟩))]
          simp only [go_sem, reduceIte, ↓reduceIte, sevalprocAttr, Z0, Z1, bytesOf, d1, q2, q4, q8, gb, dF h8, dT h10, di, dT hi, eget_same, eget_ne]
          refine acall_pure (withC (a := env) (b := [n]) (by simp; omega) (.pure _) (lent_nm (.inr ⟨SH.length, 0, rfl, by rw [get_off0]; rfl⟩))) ?_
          simp only [go_sem, reduceIte, ↓reduceIte, sevalprocAttr, Z0, Z1, bytesOf]
          rw [eb] at fin next
          refine fin _ _ _ ?_ ?_ ⟨_, rfl⟩ ?_ ?_
        case' neg =>
          have eb : bindsD k n t x = [] := by unfold bindsD; rw [if_neg (by simp [h8, hi]), if_neg (by omega)]
          simp only [go_sem, reduceIte, ↓reduceIte, sevalprocAttr, Z0, Z1, bytesOf, d1, q2, q4, q8, gb, dF h8, dT h10, di, dF hi, d11, eget_same, eget_ne]
          rw [eb, List.append_nil] at fin next
          refine fin _ _ _ ?_ ?_ ⟨[], by simp⟩ ?_ ?_
      case' neg =>
        by_cases h11 : k = 11
        case' pos =>
          by_cases hi : x = 1
          case' pos =>
            have eb : bindsD k n t x = [n] := by unfold bindsD; rw [if_pos (.inr (.inr ⟨h11, hi⟩))]
            simp only [go_sem, reduceIte, ↓reduceIte, sevalprocAttr, Z0, Z1, bytesOf, d1, q2, q4, q8, gb, dF h8, dF h10, dT h11, di, dT hi, eget_same, eget_ne]
            refine acall_pure (withC (a := env) (b := [n]) (by simp; omega) (.pure _) (lent_nm (.inr ⟨SH.length, 0, rfl, by rw [get_off0]; rfl⟩))) ?_
            simp only [go_sem, reduceIte, ↓reduceIte, sevalprocAttr, Z0, Z1, bytesOf]
            rw [eb] at fin next
            refine fin _ _ _ ?_ ?_ ⟨_, rfl⟩ ?_ ?_
          case' neg =>
            have eb : bindsD k n t x = [n, t] := by unfold bindsD; rw [if_neg (by simp [h8, hi]), if_pos h11]
            simp only [go_sem, reduceIte, ↓reduceIte, sevalprocAttr, Z0, Z1, bytesOf, d1, q2, q4, q8, gb, dF h8, dF h10, dT h11, di, dF hi, eget_same, eget_ne]
            refine acall_pure (withC (a := env) (b := [n, t]) (by simp; omega) (.pure _) (lent_nm (.inr ⟨SH.length, 0, rfl, by rw [get_off0]; rfl⟩))) ?_
            simp only [go_sem, reduceIte, ↓reduceIte, sevalprocAttr, Z0, Z1, bytesOf]
            rw [eb] at fin next
            refine fin _ _ _ ?_ ?_ ⟨_, rfl⟩ ?_ ?_
        case' neg =>
          have eb : bindsD k n t x = [] := by unfold bindsD; rw [if_neg (by simp [h8, h10, h11]), if_neg h11]
          simp only [go_sem, reduceIte, ↓reduceIte, sevalprocAttr, Z0, Z1, bytesOf, d1, q2, q4, q8, gb, dF h8, dF h10, dF h11, eget_same, eget_ne]
          rw [eb, List.append_nil] at fin next
          refine fin _ _ _ ?_ ?_ ⟨[], by simp⟩ ?_ ?_
    all_goals first
      | (rintro t (rfl | rfl | rfl | rfl | rfl) <;> simp only [go_sem, reduceIte, ↓reduceIte, sevalprocAttr, Z0, Z1, bytesOf, eget_ne]; done)
      | (simp only [go_sem, reduceIte, ↓reduceIte, sevalprocAttr, Z0, Z1, bytesOf, eget_same, eget_ne, q2]; done)
      | (intro hfz L3 A hL3
         have b0 := (hL3 0 (by simp)).trans q0
         have b2 := (hL3 2 (by simp)).trans q2
         have b4 := (hL3 4 (by simp)).trans q4
         have b6 := (hL3 6 (by simp)).trans q6
         have b8 := (hL3 8 (by simp)).trans q8
         simp only [go_sem, reduceIte, ↓reduceIte, sevalprocAttr, Z0, Z1, bytesOf, eget_same, eget_ne, eget_keep, b0, b2, b4, b6, b8, ex]
         exact ⟨(x + 1, _), ⟨rfl, rfl, by simp only; omega, next hfz, app_far hfar A, get_ext gb A, get_ext gc A⟩, by simp only; omega⟩)
      | (intro hne L3 H3 h6 hc3 hG3
         simp only [go_sem, reduceIte, ↓reduceIte, sevalprocAttr, Z0, Z1, bytesOf, h6]
         rw [hc3]
         simp only [go_sem, reduceIte, ↓reduceIte, sevalprocAttr, Z0, Z1, bytesOf, Ft.cells]
         exact ⟨rfl, hG3⟩)
  · have : x = ks.length := by omega
    subst this
    have d1 : decide ((ks.length : Int) < (ks.length : Int)) = false := by simp
    rw [List.take_length] at hz
    rw [hz, firstF_z] at hF
    simp only [go_sem, reduceIte, ↓reduceIte, sevalprocAttr, Z0, Z1, bytesOf, d1, eget_same]
    refine expArmsS (k := k) (n := n) (u := u) (t := t) (p := p) (ks := ks) (b := b) (c := c) ha hF ?_ ?_ ?_ ?_ hfar ?_ gc hbl hcl (by omega)
    · simp only [go_sem, reduceIte, ↓reduceIte, sevalprocAttr, Z0, Z1, bytesOf, eget_same, eget_ne, q0]
    · simp only [go_sem, reduceIte, ↓reduceIte, sevalprocAttr, Z0, Z1, bytesOf, eget_same, eget_ne, q2]
    · simp only [go_sem, reduceIte, ↓reduceIte, sevalprocAttr, Z0, Z1, bytesOf, eget_same, eget_ne, q4]
    · simp only [go_sem, reduceIte, ↓reduceIte, sevalprocAttr, Z0, Z1, bytesOf, eget_same, eget_ne, q6]
    · rw [gb, ExpD.cells, ExpD.cellsL_eq]; rfl
theorem exp_S (infos : List InfoD) (k : Int) (n : List UInt8) (u : Int) (t : List UInt8) (p : Int) (ks : List ExpD) (as' : List ArmD) (hk6 : k = 6 → ks.length ≤ 1) (hk : ∀ x ∈ ks, ExpS infos x) (ha : ∀ q e, ArmD.mk q e ∈ as' → PatS infos q ∧ ExpS infos e) : ExpS infos (.mk k n u t p ks as') := by
  intro env H hbnd
  refine acall_drop1 ?_ (tf_av _)
  rw [ExpD.sz] at hbnd
  refine call19 (by simp) ?_
  have hb : (H ++ [AO.var [.p (.i .i64 k), .p (.s n), .p (.i .i64 u), .p (.s t), .p (.i .i64 p), .p (.l (ExpD.cellsL ks)), .p (.l (ExpD.cellsA as'))], AO.var [.p (.i .i64 0), .p (.i .i64 0)]])[H.length]? = some (AO.var [.p (.i .i64 k), .p (.s n), .p (.i .i64 u), .p (.s t), .p (.i .i64 p), .p (.l (ExpD.cellsL ks)), .p (.l (ExpD.cellsA as'))]) := by rw [get_off0]; rfl
  have hc : (H ++ [AO.var [.p (.i .i64 k), .p (.s n), .p (.i .i64 u), .p (.s t), .p (.i .i64 p), .p (.l (ExpD.cellsL ks)), .p (.l (ExpD.cellsA as'))], AO.var [.p (.i .i64 0), .p (.i .i64 0)]])[H.length + 1]? = some (AO.var [.p (.i .i64 0), .p (.i .i64 0)]) := by rw [get_off]; rfl
  have hG : ∃ G, (H ++ [AO.var [.p (.i .i64 k), .p (.s n), .p (.i .i64 u), .p (.s t), .p (.i .i64 p), .p (.l (ExpD.cellsL ks)), .p (.l (ExpD.cellsA as'))], AO.var [.p (.i .i64 0), .p (.i .i64 0)]]) = H ++ G := ⟨_, rfl⟩
  simp only [go_sem, reduceIte, ↓reduceIte, sevalprocAttr, Z0, Z1, bytesOf, mc19, mr19, ExpD.cells]
  generalize H ++ [AO.var [.p (.i .i64 k), .p (.s n), .p (.i .i64 u), .p (.s t), .p (.i .i64 p), .p (.l (ExpD.cellsL ks)), .p (.l (ExpD.cellsA as'))], AO.var [.p (.i .i64 0), .p (.i .i64 0)]] = H1 at hG hb hc ⊢
  have fin : ∀ (L : En) (A : List AO) (F : Ft), (if k = 5 then (if n ∈ env then ((0, 0) : Ft) else (27, p)) else if k = 6 then ctorF infos n ks.length p else (0, 0)) = (0, 0) → eget L 0 = .p (.l (infos.map InfoD.cells)) → eget L 2 = .p (.l (namesC env)) → eget L 4 = .ptr H.length 0 → eget L 6 = .ptr (H.length + 1) 0 → F = ExpD.ft infos env (.mk k n u t p ks as') →
      wpm (ACall Tryz.prog) mc19t (finK mr19 (fun r H' => r = av F.cells ∧ ∃ G, H' = H ++ G)) ⟨L, [], H1 ++ A⟩ := by
    rintro L A F hz a0 a2 a4 a6 hF
    rw [ExpD.ft, hz, firstF_z] at hF
    exact expTailS (b := H.length) (c := H.length + 1) hk ha hF a0 a2 a4 a6 (app_far hG A) (get_ext hb A) (get_ext hc A) (Nat.le_refl _) (by omega) (by omega)
  have fin0 := fun L F => fin L [] F
  simp only [List.append_nil] at fin0
  by_cases h5 : k = 5
  · subst h5
    simp only [go_sem, reduceIte, ↓reduceIte, sevalprocAttr, Z0, Z1, bytesOf, hb]
    refine acall_pure (l5FindC env n _) ?_
    simp only [go_sem, reduceIte, ↓reduceIte, sevalprocAttr, Z0, Z1, bytesOf, idxI_neg]
    by_cases hm : idx n env = .none
    · have hn : n ∉ env := idx_none.1 hm
      have ef : ExpD.ft infos env (.mk 5 n u t p ks as') = (27, p) := by rw [ExpD.ft, if_pos rfl, if_neg hn, firstF_ne (by simp)]
      simp only [go_sem, reduceIte, ↓reduceIte, sevalprocAttr, Z0, Z1, bytesOf, dT hm, hb, hc]
      rw [set_get hc, ef]
      simp only [go_sem, reduceIte, ↓reduceIte, sevalprocAttr, Z0, Z1, bytesOf, Ft.cells]
      exact ⟨rfl, set_far hG (by omega) _⟩
    · have hn : n ∈ env := by
        apply Classical.byContradiction
        intro h; exact hm (idx_none.2 h)
      simp only [go_sem, reduceIte, ↓reduceIte, sevalprocAttr, Z0, Z1, bytesOf, dF hm, hb]
      exact fin0 _ _ (by rw [if_pos rfl, if_pos hn]) rfl rfl rfl rfl rfl
  have d5 : decide (k = 5) = false := decide_eq_false h5
  by_cases h6 : k = 6
  · subst h6
    simp only [go_sem, reduceIte, ↓reduceIte, sevalprocAttr, Z0, Z1, bytesOf, hb, ExpD.cellsL_len]
    intro _
    refine acall_pure (ctorFaultS (infos := infos) n ks.length (hk6 rfl) p _) ?_
    have hcz := ctorF_z infos n ks.length p
    have ef : ExpD.ft infos env (.mk 6 n u t p ks as') = firstF (ctorF infos n ks.length p) (firstF (ExpD.ftL infos env 6 n t 0 ks) (ExpD.ftA infos env as')) := by rw [ExpD.ft, if_neg (by decide), if_pos rfl]
    rw [if_neg (by decide), if_pos rfl] at fin
    generalize ctorF infos n ks.length p = fc at ef hcz fin ⊢
    obtain ⟨f1, f2⟩ := fc
    by_cases h0 : f1 = 0
    · subst h0
      have h0' : f2 = 0 := by have := hcz rfl; simpa using this
      subst h0'
      simp only [go_sem, reduceIte, ↓reduceIte, sevalprocAttr, Z0, Z1, bytesOf, Ft.cells]
      exact fin _ _ _ rfl rfl rfl rfl rfl rfl
    · rw [firstF_ne h0] at ef
      simp only [go_sem, reduceIte, ↓reduceIte, sevalprocAttr, Z0, Z1, bytesOf, Ft.cells, dF h0, get_ext hc _]
      rw [set_get (get_ext hc _), ef]
      simp only [go_sem, reduceIte, ↓reduceIte, sevalprocAttr, Z0, Z1, bytesOf, Ft.cells]
      exact ⟨rfl, set_far (app_far hG _) (by omega) _⟩
  have d6 : decide (k = 6) = false := decide_eq_false h6
  simp only [go_sem, reduceIte, ↓reduceIte, sevalprocAttr, Z0, Z1, bytesOf, hb, d5, d6]
  exact fin0 _ _ (by rw [if_neg h5, if_neg h6]) rfl rfl rfl rfl rfl
theorem expHead6 {n : List UInt8} {u : Int} {t : List UInt8} {p : Int} {nk na : Nat} (h : expHead 6 n u t p nk na = true) : nk ≤ 1 := by
  unfold expHead at h
  simp at h
  exact h.2.1
theorem expS (infos : List InfoD) : ∀ (m : Nat) (e : ExpD), e.sz < m → e.ok = true → ExpS infos e := by
  intro m
  induction m with
  | zero => intro e h; omega
  | succ m ih =>
    intro e h hok
    obtain ⟨k, n, u, t, p, ks, as'⟩ := e
    rw [ExpD.sz, ExpD.szL_eq, ExpD.szA_eq] at h
    rw [ExpD.ok, ExpD.okL_eq, ExpD.okA_eq, Bool.and_eq_true, Bool.and_eq_true] at hok
    refine exp_S infos k n u t p ks as' (fun e => by subst e; exact expHead6 hok.1) (fun a ha => ih a (by have := sumSz_mem ExpD.sz ha; omega) (List.all_eq_true.1 hok.2.1 a ha)) (fun q e ha => ?_)
    have := sumSz_mem ArmD.sz ha
    rw [ArmD.sz] at this
    have ho := List.all_eq_true.1 hok.2.2 _ ha
    rw [ArmD.ok, Bool.and_eq_true] at ho
    exact ⟨patS infos _ q (Nat.lt_succ_self _) ho.1, ih e (by omega) ho.2⟩
theorem acall_lend2 {f : Nat} {x y a : AV} {q : PV} {cs : List PV} {H : List AO} (h : ∀ H, ACall Tryz.prog f [x, y, .p q] H (pureQ (av cs) H)) (hl : Lent H a (.p q)) {x' y' : AV} (hx : Lent H x' x) (hy : Lent H y' y) (hg : Grnd (av cs)) : ACall Tryz.prog f [x', y', a] H (pureQ (av cs) H) :=
  acall_lendP h hg (lentAll_cons hx (lentAll_cons hy (lentAll_cons hl (lentAll_nil _))))
theorem scopeS (g : ProgD) (hb : g.sz ≤ 1048576) (H : List AO) : ACall Tryz.prog 6 [av g.cells] H (pureQ (av (scopeF g).cells) H) := by
  refine acall_drop1 ?_ (tf_av _)
  have hz : g.body.sz ≤ 1048576 := by rw [ProgD.sz] at hb; omega
  have hexp : g.ok = true → ExpS (tableV g.types) g.body := fun h => by
    rw [ProgD.ok, Bool.and_eq_true] at h
    exact expS _ _ _ (Nat.lt_succ_self _) h.2
  have htab := tableS g hb
  have hgc : ∃ b0 b1 b2 b3 b4 b5 b6, g.body.cells = [b0, b1, b2, b3, b4, b5, b6] := by
    obtain ⟨ts, ⟨k, n, u, t, p, ks, as'⟩⟩ := g
    exact ⟨_, _, _, _, _, _, _, rfl⟩
  obtain ⟨b0, b1, b2, b3, b4, b5, b6, hgc⟩ := hgc
  have hgg : g.cells = [.l (g.types.map DataD.cells), b0, b1, b2, b3, b4, b5, b6] := by rw [ProgD.cells, hgc]
  rw [hgg] at htab
  simp only [ExpS, hgc] at hexp
  rw [hgg]
  refine call6 (by simp) ?_
  simp only [go_sem, reduceIte, ↓reduceIte, sevalprocAttr, Z0, Z1, bytesOf, mc6, mr6]
  refine acall_pure (htab _) ?_
  have hfz : (tableF g.types).1 = 0 → tableF g.types = (0, 0) := tableF_z _
  cases hok : g.ok
  · have e : tableR g = ([], (20, 0)) := by rw [tableR, hok]; rfl
    have e2 : scopeF g = (20, 0) := by rw [scopeF, hok]; rfl
    simp only [go_sem, reduceIte, ↓reduceIte, sevalprocAttr, Z0, Z1, bytesOf, tabAV, e, e2, Ft.cells]
    exact ⟨rfl, _, rfl⟩
  have e : tableR g = (if (tableF g.types).1 = 0 then (tableV g.types, (0, 0)) else ([], tableF g.types)) := by rw [tableR, hok]; rfl
  have e2 : scopeF g = firstF (tableF g.types) (g.body.ft (tableV g.types) []) := by rw [scopeF, hok]; rfl
  by_cases h0 : (tableF g.types).1 = 0
  · rw [if_pos h0] at e
    rw [hfz h0, firstF_z] at e2
    simp only [go_sem, reduceIte, ↓reduceIte, sevalprocAttr, Z0, Z1, bytesOf, tabAV, e, e2, Ft.cells]
    refine acall_pure (acall_lend2 (fun H => hexp hok [] H (by simp; omega)) (lent_nm (l := []) (.inr ⟨H.length + 3, 0, rfl, by rw [get_off]; rfl⟩)) (.pure _) ?_ ?_) ?_
    · refine .st _ _ rfl fun j y z hy hz => ?_
      have hjl := (List.getElem?_eq_some_iff.1 hy).1
      have hz' : [AV.p b0, AV.p b1, AV.p b2, AV.p b3, AV.p b4, AV.p b5, AV.p b6][j]? = some z := hz
      rw [hy] at hz'
      cases hz'
      match j, hy with
      | 0, hy => cases hy; exact .pure _
      | 1, hy => cases hy; exact .pure _
      | 2, hy => cases hy; exact .pure _
      | 3, hy => cases hy; exact .pure _
      | 4, hy => cases hy; exact .pure _
      | 5, hy => cases hy; exact .pure _
      | 6, hy => cases hy; exact .pure _
      | j + 7, hy => simp at hy
    · exact grnd_st _ (by intro a ha; simp [Ft.cells] at ha; rcases ha with rfl | rfl <;> exact grnd_i _ _)
    · simp only [go_sem, reduceIte, ↓reduceIte, sevalprocAttr, Z0, Z1, bytesOf, Ft.cells]
      exact ⟨rfl, _, rfl⟩
  · rw [if_neg h0] at e
    rw [firstF_ne h0] at e2
    simp only [go_sem, reduceIte, ↓reduceIte, sevalprocAttr, Z0, Z1, bytesOf, tabAV, e, e2, Ft.cells, dF h0]
    exact ⟨rfl, _, rfl⟩
end Go.Proofs.YtnelfbcgplooiaaGreat.Pg

/- Scope: the law on the abstract machine. -/
set_option linter.all false
namespace Go.Proofs.YtnelfbcgplooiaaGreat.Pg
open Go.AM Mc

theorem eqFaultC (f : Ft) (H : List AO) : ACall Tryz.prog 9 [av f.cells, av f.cells] H (pureQ (.p (.b true)) H) := by
  refine acall_drop1 ?_ (tf_p _)
  refine call9 (by simp) ?_
  simp only [go_sem, reduceIte, ↓reduceIte, sevalprocAttr, Z0, Z1, bytesOf, mc9, mr9, Ft.cells, decide_true, Bool.not_true, Bool.and_self]
  exact ⟨_, rfl⟩
theorem lawScope (g : ProgD) : ACall Tryz.prog 3 [av g.cells] [] (fun r _ => r = .p (.b true)) := by
  have hsz := szProgC g
  have hgc : ∃ c0 c1 c2 c3 c4 c5 c6 c7, g.cells = [c0, c1, c2, c3, c4, c5, c6, c7] := by
    obtain ⟨ts, ⟨k, n, u, t, p, ks, as'⟩⟩ := g
    exact ⟨_, _, _, _, _, _, _, _, rfl⟩
  obtain ⟨c0, c1, c2, c3, c4, c5, c6, c7, hgc⟩ := hgc
  have hto := toProgC g
  have heq := eqProgC g
  have hS := scopeS g
  have hC := scopeC g
  rw [hgc] at hsz hto heq hS hC ⊢
  refine call3 (by simp) ?_
  simp only [go_sem, reduceIte, ↓reduceIte, sevalprocAttr, Z0, Z1, bytesOf, mc3, mr3]
  refine acall_pure (hsz 1048576 (by decide) (by decide) _) ?_
  by_cases hb : ((g.sz : Nat) : Int) ≤ 1048576
  · have hle : g.sz ≤ 1048576 := by omega
    have h0 : decide ((1048576 : Int) - (g.sz : Int) < 0) = false := decide_eq_false (by omega)
    rw [szR_le hb]
    simp only [go_sem, reduceIte, ↓reduceIte, sevalprocAttr, Z0, Z1, bytesOf, h0]
    refine acall_pure (hto hle _) ?_
    simp only [go_sem, reduceIte, ↓reduceIte, sevalprocAttr, Z0, Z1, bytesOf]
    refine acall_pure (hS hle _) ?_
    simp only [go_sem, reduceIte, ↓reduceIte, sevalprocAttr, Z0, Z1, bytesOf, Ft.cells]
    refine acall_pure (hto hle _) ?_
    simp only [go_sem, reduceIte, ↓reduceIte, sevalprocAttr, Z0, Z1, bytesOf, zl3_0]
    refine acall_pure (hC hle _) ?_
    simp only [go_sem, reduceIte, ↓reduceIte, sevalprocAttr, Z0, Z1, bytesOf, Ft.cells]
    refine acall_pure (eqFaultC (scopeF g) _) ?_
    simp only [go_sem, reduceIte, ↓reduceIte, sevalprocAttr, Z0, Z1, bytesOf, Bool.not_true]
    refine drw_same ?_
    simp only [go_sem, reduceIte, ↓reduceIte, sevalprocAttr, Z0, Z1, bytesOf]
    refine pcall_pure (fun A => hto hle _) (Hext.refl _) ?_
    simp only [go_sem, reduceIte, ↓reduceIte, sevalprocAttr, Z0, Z1, bytesOf]
    refine acall_pure (heq _) ?_
    simp only [go_sem, reduceIte, ↓reduceIte, sevalprocAttr, Z0, Z1, bytesOf, Bool.not_true]
  · rw [szR_gt hb]
    simp only [go_sem, reduceIte, ↓reduceIte, sevalprocAttr, Z0, Z1, bytesOf]
end Go.Proofs.YtnelfbcgplooiaaGreat.Pg
