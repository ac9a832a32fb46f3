/- Texts PgY PgZ PhA PhB PhC PhD PhE PhF PhG PhH PhI PhJ PhK PhL PhM, merged. -/
import Derived.Test.YtnelfbcgplooiaaGreatKAD
import Derived.Test.YtnelfbcgplooiaaGreatChecked
import Derived.KernelRfl
/- The reference's finders of words; its many. -/
set_option linter.all false
namespace Go.Proofs.YtnelfbcgplooiaaGreat.Pg
open Go.AM Mc

theorem l5FindC (l : List (List UInt8)) (s : List UInt8) (H : List AO) : ACall Tryz.prog 27 [.p (.l (namesC l)), .p (.s s)] H (pureQ (.p (.i .i64 (idxI l s))) H) := by
  refine call27 (by simp) ?_
  simp only [go_sem, reduceIte, ↓reduceIte, sevalprocAttr, Z0, Z1, bytesOf, mc27, mr27]
  refine ⟨Nat, [0, 1, 5], fun x st => (x ≤ l.length ∧ idxI l s = match idx s (l.drop x) with | .none => -1 | some k => ((x + k : Nat) : Int)) ∧ st = ⟨[(0, .p (.l (namesC l))), (1, .p (.s s)), (5, .p (.i .i64 x))], [], H⟩, fun x => l.length - x, ⟨0, ?_⟩, ?_⟩
  · simp only [go_sem, reduceIte, ↓reduceIte, sevalprocAttr, Z0, Z1, bytesOf, List.drop_zero]
    refine ⟨Nat.zero_le _, ?_⟩
    unfold idxI
    cases idx s l <;> simp
  · rintro x _ ⟨⟨hx, hv⟩, rfl⟩
    simp only [go_sem, reduceIte, ↓reduceIte, sevalprocAttr, Z0, Z1, bytesOf, namesC_len]
    intro hl
    rw [maxLe] at hl
    by_cases hlt : x < l.length
    · have d1 : decide ((x : Int) < (l.length : Int)) = true := by simp; omega
      have ex := wrN x (by omega)
      have hlt' : ((x : Int) < (l.length : Int)) := by omega
      rw [List.drop_eq_getElem_cons hlt, idx] at hv
      simp only [go_sem, reduceIte, ↓reduceIte, sevalprocAttr, Z0, Z1, bytesOf, d1, hlt', namesC_get _ hlt, namesC_len]
      by_cases he : l[x] = s
      · rw [if_pos he] at hv
        have d2 : decide (l[x] = s) = true := by simp [he]
        simp only [go_sem, reduceIte, ↓reduceIte, sevalprocAttr, Z0, Z1, bytesOf, d2]
        rw [hv]
        exact ⟨by simp, rfl⟩
      · rw [if_neg he] at hv
        have d2 : decide (l[x] = s) = false := by simp [he]
        simp only [go_sem, reduceIte, ↓reduceIte, sevalprocAttr, Z0, Z1, bytesOf, d2, ex]
        refine ⟨x + 1, ⟨⟨by omega, ?_⟩, rfl⟩, by omega⟩
        rw [hv]
        cases idx s (l.drop (x + 1)) with
        | none => rfl
        | some k =>
          show ((x + (k + 1) : Nat) : Int) = ((x + 1 + k : Nat) : Int)
          rw [show x + (k + 1) = x + 1 + k by omega]
    · have : x = l.length := by omega
      subst this
      have d1 : decide ((l.length : Int) < (l.length : Int)) = false := by simp
      rw [List.drop_length] at hv
      simp only [go_sem, reduceIte, ↓reduceIte, sevalprocAttr, Z0, Z1, bytesOf, d1]
      rw [hv]
      exact ⟨rfl, rfl⟩
theorem l5FindO {l : List (List UInt8)} {s : List UInt8} {H : List AO} {j ver : Nat} (hj : H[j]? = some (.rows 1 ver (nmR l))) : ACall Tryz.prog 27 [.gs j ver 0 l.length, .p (.s s)] H (pureQ (.p (.i .i64 (idxI l s))) H) := by
  rw [← nmR_eq] at hj
  refine acall_lendP (l5FindC l s) (grnd_i _ _) (lentAll_cons ?_ (lentAll_cons (.pure _) (lentAll_nil _)))
  have := lent_rows (l := namesC l) hj (by intro y hy; simp [namesC] at hy; obtain ⟨a, _, rfl⟩ := hy; rfl)
  rwa [namesC_len] at this
def builtI (s : List UInt8) : Int := match idx s fourL with | .none => 0 | some k => ((k + 1 : Nat) : Int)
theorem l5BuiltC (s : List UInt8) (H : List AO) : ACall Tryz.prog 65 [.p (.s s)] H (pureQ (.p (.i .i64 (builtI s))) H) := by
  refine acall_drop1 ?_ (tf_p _)
  refine call65 (by simp) ?_
  have hL : (H ++ [AO.rows 1 0 (fourL.map fun x => [.p (.s x)])])[H.length]? = some (.rows 1 0 (fourL.map fun x => [.p (.s x)])) := by rw [get_off0]; rfl
  simp only [go_sem, reduceIte, ↓reduceIte, sevalprocAttr, Z0, Z1, bytesOf, mc65, mr65]
  refine ⟨Nat, [0, 3, 4], fun x st => (x ≤ 4 ∧ builtI s = match idx s (fourL.drop x) with | .none => 0 | some k => ((x + k + 1 : Nat) : Int)) ∧ st = ⟨[(0, .p (.s s)), (3, .gs H.length 0 0 4), (4, .p (.i .i64 x))], [], H ++ [.rows 1 0 (fourL.map fun x => [.p (.s x)])]⟩, fun x => 4 - x, ⟨0, ?_⟩, ?_⟩
  · simp only [go_sem, reduceIte, ↓reduceIte, sevalprocAttr, Z0, Z1, bytesOf, List.drop_zero]
    refine ⟨?_, rfl⟩
    unfold builtI
    cases idx s fourL <;> simp
  · rintro x _ ⟨⟨hx, hv⟩, rfl⟩
    have hkl : fourL.length = 4 := rfl
    by_cases hlt : x < 4
    · have d1 : decide ((x : Int) < (4 : Int)) = true := by simp; omega
      have hlt' : ((x : Int) < (4 : Int)) := by omega
      have ex := wrN x (by omega)
      have hg : (fourL.map fun x => [AV.p (.s x)])[x]? = some [.p (.s (fourL[x]'hlt))] := by
        rw [List.getElem?_map, List.getElem?_eq_getElem hlt]; rfl
      rw [List.drop_eq_getElem_cons hlt, idx] at hv
      simp only [go_sem, reduceIte, ↓reduceIte, sevalprocAttr, Z0, Z1, bytesOf, d1, hL, hg, hlt']
      intros
      by_cases he : fourL[x]'hlt = s
      · rw [if_pos he] at hv
        have d2 : decide (fourL[x]'hlt = s) = true := by simp [he]
        simp only [go_sem, reduceIte, ↓reduceIte, sevalprocAttr, Z0, Z1, bytesOf, d2, ex]
        rw [hv]
        exact ⟨rfl, _, rfl⟩
      · rw [if_neg he] at hv
        have d2 : decide (fourL[x]'hlt = s) = false := by simp [he]
        simp only [go_sem, reduceIte, ↓reduceIte, sevalprocAttr, Z0, Z1, bytesOf, d2, ex]
        refine ⟨x + 1, ⟨⟨by omega, ?_⟩, rfl⟩, by omega⟩
        rw [hv]
        cases idx s (fourL.drop (x + 1)) with
        | none => rfl
        | some k =>
          show ((x + (k + 1) + 1 : Nat) : Int) = ((x + 1 + k + 1 : Nat) : Int)
          rw [show x + (k + 1) + 1 = x + 1 + k + 1 by omega]
    · have : x = 4 := by omega
      subst this
      have d1 : decide (((4 : Nat) : Int) < (4 : Int)) = false := by decide
      rw [show fourL.drop 4 = [] from rfl] at hv
      simp only [go_sem, reduceIte, ↓reduceIte, sevalprocAttr, Z0, Z1, bytesOf, d1]
      intros
      rw [hv]
      exact ⟨rfl, _, rfl⟩
theorem l5DataC (g : ProgD) (s : List UInt8) (H : List AO) : ACall Tryz.prog 66 [av g.cells, .p (.s s)] H (pureQ (.p (.i .i64 (idxI (g.types.map DataD.name) s))) H) := by
  obtain ⟨ts, ⟨k, n, u, t, p, ks, as'⟩⟩ := g
  simp only
  refine acall_drop1 ?_ (tf_p _)
  refine call66 (by simp) ?_
  have hb : (H ++ [AO.var [.p (.l (ts.map DataD.cells)), .p (.i .i64 k), .p (.s n), .p (.i .i64 u), .p (.s t), .p (.i .i64 p), .p (.l (ExpD.cellsL ks)), .p (.l (ExpD.cellsA as'))]])[H.length]? = some (.var [.p (.l (ts.map DataD.cells)), .p (.i .i64 k), .p (.s n), .p (.i .i64 u), .p (.s t), .p (.i .i64 p), .p (.l (ExpD.cellsL ks)), .p (.l (ExpD.cellsA as'))]) := by rw [get_off0]; rfl
  have hH : ∃ G, (H ++ [AO.var [.p (.l (ts.map DataD.cells)), .p (.i .i64 k), .p (.s n), .p (.i .i64 u), .p (.s t), .p (.i .i64 p), .p (.l (ExpD.cellsL ks)), .p (.l (ExpD.cellsA as'))]]) = H ++ G := ⟨_, rfl⟩
  simp only [go_sem, reduceIte, ↓reduceIte, sevalprocAttr, Z0, Z1, bytesOf, mc66, mr66, ProgD.cells, ExpD.cells]
  generalize H ++ [AO.var [.p (.l (ts.map DataD.cells)), .p (.i .i64 k), .p (.s n), .p (.i .i64 u), .p (.s t), .p (.i .i64 p), .p (.l (ExpD.cellsL ks)), .p (.l (ExpD.cellsA as'))]] = H1 at hb hH ⊢
  refine ⟨Nat, [1, 2, 5], fun x st => (x ≤ ts.length ∧ idxI (ts.map DataD.name) s = match idx s ((ts.map DataD.name).drop x) with | .none => -1 | some k => ((x + k : Nat) : Int)) ∧ st = ⟨[(1, .p (.s s)), (2, .ptr H.length 0), (5, .p (.i .i64 x))], [], H1⟩, fun x => ts.length - x, ⟨0, ?_⟩, ?_⟩
  · simp only [go_sem, reduceIte, ↓reduceIte, sevalprocAttr, Z0, Z1, bytesOf, List.drop_zero]
    refine ⟨Nat.zero_le _, ?_⟩
    unfold idxI
    cases idx s (ts.map DataD.name) <;> simp
  · rintro x _ ⟨⟨hx, hv⟩, rfl⟩
    simp only [go_sem, reduceIte, ↓reduceIte, sevalprocAttr, Z0, Z1, bytesOf, hb, List.length_map]
    intro hl
    rw [maxLe] at hl
    by_cases hlt : x < ts.length
    · have d1 : decide ((x : Int) < (ts.length : Int)) = true := by simp; omega
      have ex := wrN x (by omega)
      have hlt' : ((x : Int) < (ts.length : Int)) := by omega
      have hg : (ts.map DataD.cells)[x]? = some (DataD.cells ts[x]) := by simp [hlt]
      rw [List.drop_eq_getElem_cons (by simpa using hlt), idx, List.getElem_map] at hv
      generalize ts[x] = d at hg hv
      obtain ⟨dn, vs, cs, dp⟩ := d
      simp only at hv
      simp only [go_sem, reduceIte, ↓reduceIte, sevalprocAttr, Z0, Z1, bytesOf, d1, hlt', hg, hb, List.length_map, DataD.cells]
      by_cases he : dn = s
      · rw [if_pos he] at hv
        have d2 : decide (dn = s) = true := by simp [he]
        simp only [go_sem, reduceIte, ↓reduceIte, sevalprocAttr, Z0, Z1, bytesOf, d2]
        rw [hv]
        exact ⟨by simp, hH⟩
      · rw [if_neg he] at hv
        have d2 : decide (dn = s) = false := by simp [he]
        simp only [go_sem, reduceIte, ↓reduceIte, sevalprocAttr, Z0, Z1, bytesOf, d2, ex]
        refine ⟨x + 1, ⟨⟨by omega, ?_⟩, rfl⟩, by omega⟩
        rw [hv]
        cases idx s ((ts.map DataD.name).drop (x + 1)) with
        | none => rfl
        | some k =>
          show ((x + (k + 1) : Nat) : Int) = ((x + 1 + k : Nat) : Int)
          rw [show x + (k + 1) = x + 1 + k by omega]
    · have : x = ts.length := by omega
      subst this
      have d1 : decide ((ts.length : Int) < (ts.length : Int)) = false := by simp
      rw [show (ts.map DataD.name).drop ts.length = [] by simp] at hv
      simp only [go_sem, reduceIte, ↓reduceIte, sevalprocAttr, Z0, Z1, bytesOf, d1]
      rw [hv]
      exact ⟨rfl, hH⟩
end Go.Proofs.YtnelfbcgplooiaaGreat.Pg

/- The reference's first look at datatypes: too many, names that are taken. -/
set_option linter.all false
namespace Go.Proofs.YtnelfbcgplooiaaGreat.Pg
open Go.AM Mc

theorem builtPos (s : List UInt8) : decide (0 < builtI s) = decide (s ∈ fourL) := by
  unfold builtI
  cases h : idx s fourL with
  | none => simp [idx_none.1 h]
  | some k =>
    have : s ∈ fourL := List.mem_of_getElem? (idx_some h).1
    simp only [this, decide_true]
    exact decide_eq_true (by omega)
theorem idx_mem {s : List UInt8} {l : List (List UInt8)} (h : s ∈ l) : ∃ k, idx s l = some k := by
  cases hi : idx s l with
  | none => exact (idx_none.1 hi h).elim
  | some k => exact ⟨k, rfl⟩
theorem idxLt {l : List (List UInt8)} {x : Nat} {s : List UInt8} (h : l[x]? = some s) : decide (idxI l s < (x : Int)) = decide (s ∈ l.take x) := by
  obtain ⟨k, hk⟩ := idx_mem (List.mem_of_getElem? h)
  obtain ⟨h1, h2⟩ := idx_some hk
  unfold idxI
  rw [hk, decide_eq_decide]
  constructor
  · intro hlt
    have hlt' : k < x := by simpa using hlt
    have : (l.take x)[k]? = some s := by rw [List.getElem?_take_of_lt hlt']; exact h1
    exact List.mem_of_getElem? this
  · intro hm
    obtain ⟨i, hi, he⟩ := List.mem_iff_getElem.1 hm
    rw [List.length_take] at hi
    have : l[i]? = some s := by
      have := List.getElem?_eq_getElem (l := l.take x) (i := i) (by rw [List.length_take]; exact hi)
      rw [List.getElem?_take_of_lt (by omega)] at this
      rw [this, he]
    have hik : ¬ i < k := fun hl => h2 i hl this
    show (k : Int) < (x : Int)
    omega
theorem l5ManyC (g : ProgD) (H : List AO) : ACall Tryz.prog 26 [av g.cells] H (pureQ (av (Ft.cells (firstF (manyF 0 g.types) (typesF [] g.types)))) H) := by
  have hgc : ∃ b0 b1 b2 b3 b4 b5 b6, g.body.cells = [b0, b1, b2, b3, b4, b5, b6] := by
    obtain ⟨ts, ⟨k, n, u, t, p, ks, as'⟩⟩ := g
    exact ⟨_, _, _, _, _, _, _, rfl⟩
  obtain ⟨b0, b1, b2, b3, b4, b5, b6, hgc⟩ := hgc
  have hgg : g.cells = [.l (g.types.map DataD.cells), b0, b1, b2, b3, b4, b5, b6] := by rw [ProgD.cells, hgc]
  have hdat := l5DataC g
  rw [hgg] at hdat
  rw [hgg]
  generalize g.types = ts at hdat ⊢
  refine acall_drop1 ?_ (tf_av _)
  refine call26 (by simp) ?_
  have hb0 : (H ++ [AO.var [.p (.l (ts.map DataD.cells)), .p b0, .p b1, .p b2, .p b3, .p b4, .p b5, .p b6], AO.var [.p (.i .i64 0), .p (.i .i64 0)]])[H.length]? = some (AO.var [.p (.l (ts.map DataD.cells)), .p b0, .p b1, .p b2, .p b3, .p b4, .p b5, .p b6]) := by rw [get_off0]; rfl
  have hb1 : (H ++ [AO.var [.p (.l (ts.map DataD.cells)), .p b0, .p b1, .p b2, .p b3, .p b4, .p b5, .p b6], AO.var [.p (.i .i64 0), .p (.i .i64 0)]])[H.length + 1]? = some (AO.var [.p (.i .i64 0), .p (.i .i64 0)]) := by rw [get_off]; rfl
  have hH : ∃ G, (H ++ [AO.var [.p (.l (ts.map DataD.cells)), .p b0, .p b1, .p b2, .p b3, .p b4, .p b5, .p b6], AO.var [.p (.i .i64 0), .p (.i .i64 0)]]) = H ++ G := ⟨_, rfl⟩
  simp only [go_sem, reduceIte, ↓reduceIte, sevalprocAttr, Z0, Z1, bytesOf, mc26, mr26]
  generalize H ++ [AO.var [.p (.l (ts.map DataD.cells)), .p b0, .p b1, .p b2, .p b3, .p b4, .p b5, .p b6], AO.var [.p (.i .i64 0), .p (.i .i64 0)]] = H1 at hb0 hb1 hH ⊢
  refine ⟨Nat, [1, 2, 3], fun x st => (x ≤ ts.length ∧ manyF 0 ts = manyF x (ts.drop x)) ∧ st = ⟨[(1, .ptr H.length 0), (2, .ptr (H.length + 1) 0), (3, .p (.i .i64 x))], [], H1⟩, fun x => ts.length - x, ⟨0, ?_⟩, ?_⟩
  · simp only [go_sem, reduceIte, ↓reduceIte, sevalprocAttr, Z0, Z1, bytesOf, List.drop_zero]
    exact Nat.zero_le _
  rintro x _ ⟨⟨hx, hn⟩, rfl⟩
  simp only [go_sem, reduceIte, ↓reduceIte, sevalprocAttr, Z0, Z1, bytesOf, hb0, List.length_map]
  intro hl
  rw [maxLe] at hl
  by_cases hlt : x < ts.length
  · have d1 : decide ((x : Int) < (ts.length : Int)) = true := by simp; omega
    have hlt' : ((x : Int) < (ts.length : Int)) := by omega
    have ex := wrN x (by omega)
    have hg : (ts.map DataD.cells)[x]? = some (DataD.cells ts[x]) := by simp [hlt]
    rw [manyF_step hlt] at hn
    generalize ts[x] = d at hg hn
    obtain ⟨dn, vs, cs, dp⟩ := d
    have d12 : decide ((x : Int) = 12) = decide (x = 12) := by rw [decide_eq_decide]; omega
    have d16 : decide ((16 : Int) < (cs.length : Int)) = decide (16 < cs.length) := by rw [decide_eq_decide]; omega
    simp only at hn
    simp only [go_sem, reduceIte, ↓reduceIte, sevalprocAttr, Z0, Z1, bytesOf, d1, d12]
    cases h12 : decide (x = 12)
    case true =>
      rw [if_pos (of_decide_eq_true h12)] at hn
      rw [hn, firstF_ne (by simp)]
      simp only [go_sem, reduceIte, ↓reduceIte, sevalprocAttr, Z0, Z1, bytesOf, h12, hb0, hb1, hlt', hg, DataD.cells, List.length_map]
      rw [set_get hb1]
      simp only [go_sem, reduceIte, ↓reduceIte, sevalprocAttr, Z0, Z1, bytesOf, Ft.cells]
      exact ⟨rfl, set_far hH (by omega) _⟩
    rw [if_neg (of_decide_eq_false h12)] at hn
    simp only [go_sem, reduceIte, ↓reduceIte, sevalprocAttr, Z0, Z1, bytesOf, h12, hb0, hb1, hlt', hg, DataD.cells, List.length_map, d16]
    intro hl2
    cases h16 : decide (16 < cs.length)
    · have e16 : cs[16]? = .none := List.getElem?_eq_none (by have := of_decide_eq_false h16; omega)
      rw [e16] at hn
      simp only [go_sem, reduceIte, ↓reduceIte, sevalprocAttr, Z0, Z1, bytesOf, h16, ex]
      exact ⟨x + 1, ⟨⟨by omega, hn⟩, rfl⟩, by omega⟩
    · have h16' := of_decide_eq_true h16
      have e16 : cs[16]? = some cs[16] := List.getElem?_eq_getElem h16'
      have e16' : (cs.map CtorD.cells)[16]? = some (CtorD.cells cs[16]) := by simp [h16']
      have l16 : ((16 : Int) < (cs.length : Int)) := by omega
      rw [e16] at hn
      generalize cs[16] = c at hn e16'
      obtain ⟨cn, ch, ⟨ak, an, ap, aks⟩, cp⟩ := c
      simp only at hn
      rw [hn, firstF_ne (by simp)]
      simp only [go_sem, reduceIte, ↓reduceIte, sevalprocAttr, Z0, Z1, bytesOf, h16, l16, e16', hb0, hb1, hlt', hg, DataD.cells, CtorD.cells, TyE.cells, List.length_map]
      rw [set_get hb1]
      simp only [go_sem, reduceIte, ↓reduceIte, sevalprocAttr, Z0, Z1, bytesOf, Ft.cells]
      exact ⟨rfl, set_far hH (by omega) _⟩
  have : x = ts.length := by omega
  subst this
  have d1 : decide ((ts.length : Int) < (ts.length : Int)) = false := by simp
  rw [List.drop_length, manyF] at hn
  simp only [go_sem, reduceIte, ↓reduceIte, sevalprocAttr, Z0, Z1, bytesOf, d1]
  rw [hn, firstF_z]
  refine ⟨Nat × List AO, [1, 2, 4], fun x st => (x.1 ≤ ts.length ∧ typesF [] (ts.take x.1) = (0, 0) ∧ x.2[H.length]? = some (AO.var [.p (.l (ts.map DataD.cells)), .p b0, .p b1, .p b2, .p b3, .p b4, .p b5, .p b6]) ∧ x.2[H.length + 1]? = some (AO.var [.p (.i .i64 0), .p (.i .i64 0)]) ∧ ∃ G, x.2 = H ++ G) ∧ st = ⟨[(1, .ptr H.length 0), (2, .ptr (H.length + 1) 0), (4, .p (.i .i64 x.1))], [], x.2⟩, fun x => ts.length - x.1, ⟨(0, H1), ?_⟩, ?_⟩
  · simp only [go_sem, reduceIte, ↓reduceIte, sevalprocAttr, Z0, Z1, bytesOf, List.take_zero, typesF]
    exact ⟨Nat.zero_le _, hb0, hb1, hH⟩
  rintro ⟨x, HG⟩ _ ⟨⟨hx, hn, g0, g1, hG⟩, rfl⟩
  simp only at hx hn g0 g1 hG
  simp only [go_sem, reduceIte, ↓reduceIte, sevalprocAttr, Z0, Z1, bytesOf, g0, List.length_map]
  intro hl
  rw [maxLe] at hl
  by_cases hlt : x < ts.length
  · have d1 : decide ((x : Int) < (ts.length : Int)) = true := by simp; omega
    have hlt' : ((x : Int) < (ts.length : Int)) := by omega
    have ex := wrN x (by omega)
    have hg : (ts.map DataD.cells)[x]? = some (DataD.cells ts[x]) := by simp [hlt]
    have hvf := typesF_step (ah := []) hlt
    rw [List.nil_append, hn, firstF_z] at hvf
    have hlt2 := idxLt (l := ts.map DataD.name) (x := x) (s := ts[x].name) (by simp [hlt])
    have hany : decide (ts[x].name ∈ (ts.map DataD.name).take x) = ((ts.take x).any fun y => decide (y.name = ts[x].name)) := by
      rw [← List.map_take]
      generalize ts[x].name = s
      generalize ts.take x = l
      induction l with
      | nil => simp
      | cons d l ih => simp only [List.map_cons, List.mem_cons, List.any_cons, Bool.decide_or, ih, eq_comm]
    rw [hany] at hlt2
    have hz : typesF [] (ts.take (x + 1)) ≠ (0, 0) → typesF [] ts = typesF [] (ts.take (x + 1)) := by
      intro hne
      have key : ∀ m, typesF [] (ts.take (x + 1 + m)) = typesF [] (ts.take (x + 1)) := by
        intro m
        induction m with
        | zero => rfl
        | succ m ih =>
          by_cases hm : x + 1 + m < ts.length
          · rw [← Nat.add_assoc, typesF_step hm, ih, firstF_ne (fun h => hne (typesF_z _ _ h))]
          · rw [← ih, List.take_of_length_le (by omega), List.take_of_length_le (by omega)]
      have := key ts.length
      rwa [List.take_of_length_le (by omega)] at this
    generalize ts[x] = d at hg hvf hlt2
    obtain ⟨dn, vs, cs, dp⟩ := d
    simp only at hvf hlt2
    have nx : (ts.take x).any (fun y => decide (y.name = dn)) = false → dn ∉ fourL → ∃ y : Nat × List AO, ((y.1 ≤ ts.length ∧ typesF [] (ts.take y.1) = (0, 0) ∧ y.2[H.length]? = some (AO.var [.p (.l (ts.map DataD.cells)), .p b0, .p b1, .p b2, .p b3, .p b4, .p b5, .p b6]) ∧ y.2[H.length + 1]? = some (AO.var [.p (.i .i64 0), .p (.i .i64 0)]) ∧ ∃ G, y.2 = H ++ G) ∧ (⟨[(1, .ptr H.length 0), (2, .ptr (H.length + 1) 0), (4, .p (.i .i64 ((x + 1 : Nat) : Int)))], [], HG⟩ : St) = ⟨[(1, .ptr H.length 0), (2, .ptr (H.length + 1) 0), (4, .p (.i .i64 y.1))], [], y.2⟩) ∧ ts.length - y.1 < ts.length - x := by
      intro ha hf
      rw [if_neg (by simp [ha, hf])] at hvf
      exact ⟨(x + 1, HG), ⟨⟨by simp only; omega, hvf, g0, g1, hG⟩, rfl⟩, by simp only; omega⟩
    simp only [go_sem, reduceIte, ↓reduceIte, sevalprocAttr, Z0, Z1, bytesOf, d1]
    refine drw_same ?_
    simp only [go_sem, reduceIte, ↓reduceIte, sevalprocAttr, Z0, Z1, bytesOf, g0, hlt', hg, DataD.cells, List.length_map]
    refine pcall_pure (fun A => l5BuiltC _ _) (Hext.refl _) ?_
    simp only [go_sem, reduceIte, ↓reduceIte, sevalprocAttr, Z0, Z1, bytesOf, builtPos]
    by_cases hm : dn ∈ fourL
    · rw [if_pos (.inr hm)] at hvf
      have := hz (by rw [hvf]; simp)
      simp only [go_sem, reduceIte, ↓reduceIte, sevalprocAttr, Z0, Z1, bytesOf, dT hm, g0, g1, hlt', hg, DataD.cells, List.length_map]
      rw [set_get g1, this, hvf]
      simp only [go_sem, reduceIte, ↓reduceIte, sevalprocAttr, Z0, Z1, bytesOf, Ft.cells]
      exact ⟨rfl, set_far hG (by omega) _⟩
    simp only [go_sem, reduceIte, ↓reduceIte, sevalprocAttr, Z0, Z1, bytesOf, dF hm, g0, hlt', hg, DataD.cells, List.length_map]
    refine pcall_pure (fun A => hdat _ _) (Hext.refl _) ?_
    simp only [go_sem, reduceIte, ↓reduceIte, sevalprocAttr, Z0, Z1, bytesOf, hlt2]
    cases ha : (ts.take x).any fun y => decide (y.name = dn)
    · simp only [go_sem, reduceIte, ↓reduceIte, sevalprocAttr, Z0, Z1, bytesOf, ha, ex]
      exact nx ha hm
    · rw [if_pos (.inl ha)] at hvf
      have := hz (by rw [hvf]; simp)
      simp only [go_sem, reduceIte, ↓reduceIte, sevalprocAttr, Z0, Z1, bytesOf, ha, g0, g1, hlt', hg, DataD.cells, List.length_map]
      rw [set_get g1, this, hvf]
      simp only [go_sem, reduceIte, ↓reduceIte, sevalprocAttr, Z0, Z1, bytesOf, Ft.cells]
      exact ⟨rfl, set_far hG (by omega) _⟩
  have : x = ts.length := by omega
  subst this
  have d1 : decide ((ts.length : Int) < (ts.length : Int)) = false := by simp
  rw [List.take_length] at hn
  simp only [go_sem, reduceIte, ↓reduceIte, sevalprocAttr, Z0, Z1, bytesOf, d1, g1]
  rw [set_get g1, hn]
  simp only [go_sem, reduceIte, ↓reduceIte, sevalprocAttr, Z0, Z1, bytesOf, Ft.cells]
  exact ⟨rfl, set_far hG (by omega) _⟩
end Go.Proofs.YtnelfbcgplooiaaGreat.Pg

/- The reference's types of datatypes. -/
set_option linter.all false
namespace Go.Proofs.YtnelfbcgplooiaaGreat.Pg
open Go.AM Mc

/-- names are apart, none is taken -/
structure Apart (ts : List DataD) : Prop where
  four : ∀ d ∈ ts, d.name ∉ fourL
  pair : ts.Pairwise fun a b => a.name ≠ b.name
theorem typesF_apart : ∀ (ah ts : List DataD), typesF ah ts = (0, 0) → Apart ts ∧ ∀ d ∈ ts, ∀ a ∈ ah, a.name ≠ d.name
  | ah, [], _ => ⟨⟨by simp, List.Pairwise.nil⟩, by simp⟩
  | ah, d :: ts, h => by
    rw [typesF] at h
    split at h
    · cases h
    · rename_i hn
      simp only [not_or] at hn
      obtain ⟨hn, hf⟩ := hn
      obtain ⟨⟨h1, h2⟩, h3⟩ := typesF_apart (ah ++ [d]) ts h
      have ha : ∀ a ∈ ah, a.name ≠ d.name := by
        intro a hm e
        exact hn (List.any_eq_true.2 ⟨a, hm, decide_eq_true e⟩)
      refine ⟨⟨?_, List.Pairwise.cons (fun b hb => ?_) h2⟩, ?_⟩
      · intro c hc
        rcases List.mem_cons.1 hc with rfl | hc
        · exact hf
        · exact h1 c hc
      · exact h3 b hb d (by simp)
      · intro c hc a hm
        rcases List.mem_cons.1 hc with rfl | hc
        · exact ha a hm
        · exact h3 c hc a (by simp [hm])
theorem hasData_idx {ts : List DataD} (h : ts.Pairwise fun a b => a.name ≠ b.name) (n : List UInt8) (nk : Nat) :
    hasData ts n nk = match idx n (ts.map DataD.name) with | .none => false | some k => match ts[k]? with | some d => decide (d.vars.length = nk) | .none => false := by
  induction ts with
  | nil => rfl
  | cons d l ih =>
    obtain ⟨h1, h2⟩ := List.pairwise_cons.1 h
    have ih := ih h2
    simp only [hasData, List.any_cons, List.map_cons, idx] at ih ⊢
    by_cases e : d.name = n
    · have hl : (l.any fun y => decide (y.name = n) && decide (y.vars.length = nk)) = false := by
        apply Bool.eq_false_iff.2
        intro ha
        obtain ⟨y, hy, hyn⟩ := List.any_eq_true.1 ha
        simp at hyn
        exact h1 y hy (e.trans hyn.1.symm)
      rw [hl]
      simp [e]
    · rw [ih]
      simp only [e, decide_false, Bool.false_and, Bool.false_or, if_false]
      cases idx n (l.map DataD.name) with
      | none => rfl
      | some k => rfl
theorem hasData_four {ts : List DataD} (h : Apart ts) {n : List UInt8} (hn : n ∈ fourL) (nk : Nat) : hasData ts n nk = false := by
  apply Bool.eq_false_iff.2
  intro ha
  obtain ⟨y, hy, hyn⟩ := List.any_eq_true.1 ha
  simp at hyn
  exact h.four y hy (hyn.1 ▸ hn)
def tyR (t : TyD) (f : Ft) : AV := .tup [av (if f.1 = 0 then t else tyZ).cells, av f.cells]
def TyS (g : ProgD) (d : DataD) (x : TyE) : Prop := ∀ (H : List AO), ACall Tryz.prog 28 [av g.cells, av d.cells, av x.cells] H (pureQ (tyR (x.ty d.vars) (x.ft g.types d.vars)) H)
/-- a type with its fault, as it was made -/
def RawTyF (t : TyD) (f : Ft) (r : AV) (H' : List AO) : Prop := ∃ K N S kids kv, (if f.1 = 0 then t else tyZ) = .mk K N S kids ∧ r = .tup [.st [.p (.i .i64 K), .p (.i .i64 N), .p (.s S), kv], av f.cells] ∧ OwnR H' kv 4 (kids.map fun t => (TyD.cells t).map .p)
theorem rawTyF_pure {x1 x2 x3 : List PV} {H : List AO} {t : TyD} {f : Ft} (h : ACall Tryz.prog 28 [av x1, av x2, av x3] [] (RawTyF t f)) : ACall Tryz.prog 28 [av x1, av x2, av x3] H (pureQ (tyR t f) H) := by
  refine (acall_fresh (R := fun r => r = tyR t f) h ?_ ?_).mono (fun r H' ⟨h1, h2⟩ => ⟨h2, h1⟩)
  · intro b hb
    simp only [List.mem_cons, List.not_mem_nil, or_false] at hb
    rcases hb with rfl | rfl | rfl <;> exact noid_st _ (by intro a ha; obtain ⟨p, _, rfl⟩ := List.mem_map.1 ha; exact noid_p p)
  · rintro r H' ⟨K, N, S, kids, kv, e, rfl, ho⟩
    refine ⟨_, ?_, rfl⟩
    rw [tyR, e, TyD.cells, TyD.cellsL_eq]
    have lt : ∀ {a : AV} {q : PV} (h : Lent H' a (.p q)), Lent H' (.tup [.st [.p (.i .i64 K), .p (.i .i64 N), .p (.s S), a], av f.cells]) (.tup [av [.i .i64 K, .i .i64 N, .s S, q], av f.cells]) := by
      intro a q h
      refine .tup _ _ rfl fun j y z hy hz => ?_
      match j with
      | 0 => cases hy; cases hz; exact lent_st4 h _ _ _
      | 1 =>
        cases hy; cases hz
        refine .st _ _ rfl fun j y z hy hz => ?_
        match j with
        | 0 => cases hy; cases hz; exact .pure _
        | 1 => cases hy; cases hz; exact .pure _
        | j + 2 => simp [Ft.cells] at hy
      | j + 2 => simp at hy
    rcases ho with ⟨rfl, hk⟩ | ⟨id, ver, rfl, h2⟩
    · have : kids = [] := by simpa using hk
      subst this
      exact lt .nl
    · have e : (kids.map fun t => (TyD.cells t).map AV.p) = (kids.map TyD.cells).map fun y => y.map AV.p := by rw [List.map_map]; rfl
      rw [e] at h2 ⊢
      refine lt ?_
      rw [List.length_map]
      exact lent_rows h2 (by intro y hy; obtain ⟨a, _, rfl⟩ := List.mem_map.1 hy; exact TyD.cells_len a)
theorem ftL_none {types : List DataD} {vs : List (List UInt8)} {l : List TyE} {x : Nat} (h : (TyE.ftL types vs (l.take x)).1 ≠ 0) : TyE.ftL types vs l = TyE.ftL types vs (l.take x) := by
  induction l generalizing x with
  | nil => simp
  | cons t l ih =>
    cases x with
    | zero => simp [TyE.ftL] at h
    | succ x =>
      simp only [List.take_succ_cons, TyE.ftL] at h ⊢
      by_cases e : (t.ft types vs).1 = 0
      · simp only [firstF, e, if_true] at h ⊢
        exact ih h
      · rw [firstF_ne e, firstF_ne e]
theorem ownR_setVar {H : List AO} {a : AV} {sz : Nat} {rs : List (List AV)} {j : Nat} {cs : List AV} {o : AO} (h : OwnR H a sz rs) (hj : H[j]? = some (.var cs)) : OwnR (H.set j o) a sz rs := by
  rcases h with h | ⟨id, ver, h2, h3⟩
  · exact .inl h
  · exact .inr ⟨id, ver, h2, get_set h3 (by rintro rfl; rw [h3] at hj; cases hj)⟩
theorem ownR_ne {H : List AO} {a : AV} {sz : Nat} {rs : List (List AV)} {i : Nat} {cs : List AV} (h : OwnR H a sz rs) (hi : H[i]? = some (.var cs)) : ∀ v o n, a ≠ .gs i v o n := by
  rintro v o n rfl
  rcases h with ⟨h, _⟩ | ⟨id, ver, h2, h3⟩
  · cases h
  · cases h2; rw [h3] at hi; cases hi
theorem l5Tail {g : ProgD} {d : DataD} {n : List UInt8} {k p : Int} {ks : List TyE} (hs : ks.length ≤ 1048576) (hk : ∀ x ∈ ks, TyS g d x) {L : En} {HX : List AO} {K : Int} {S : List UInt8} {t : TyD} {f : Ft}
    (h3 : eget L 3 = .ptr 0 0) (h4 : eget L 4 = .ptr 1 0) (h5 : eget L 5 = .ptr 2 0) (h6 : eget L 6 = .ptr 3 0) (h7 : eget L 7 = .ptr 4 0) (h8 : eget L 8 = .ptr 5 0)
    (e0 : HX[0]? = some (.var (g.cells.map .p))) (e1 : HX[1]? = some (.var (d.cells.map .p))) (e2 : HX[2]? = some (.var ((TyE.cells (.mk k n p ks)).map .p)))
    (e3 : HX[3]? = some (.var [.p (.i .i64 0), .p (.i .i64 0), .p (.s []), .p .nl])) (e4 : HX[4]? = some (.var [.p (.i .i64 0), .p (.i .i64 0)])) (e5 : HX[5]? = some (.var [.p (.i .i64 K), .p (.i .i64 0), .p (.s S), .p .nl]))
    (ht : f.1 = 0 → t = .mk K 0 S (TyE.tyL d.vars ks)) (hf : f = TyE.ftL g.types d.vars ks) :
    wpm (ACall Tryz.prog) mc28t (finK mr28 (RawTyF t f)) ⟨L, [], HX⟩ := by
  obtain ⟨dn, vs, cs, dp⟩ := d
  have hgc : ∃ c0 c1 c2 c3 c4 c5 c6 c7, g.cells = [c0, c1, c2, c3, c4, c5, c6, c7] := by
    obtain ⟨ts, ⟨k, n, u, t, p, ks, as'⟩⟩ := g
    exact ⟨_, _, _, _, _, _, _, _, rfl⟩
  obtain ⟨c0, c1, c2, c3, c4, c5, c6, c7, hgc⟩ := hgc
  rw [hgc] at e0
  simp only at ht hf
  have e1' : HX[1]? = some (.var [.p (.s dn), .p (.l (namesC vs)), .p (.l (cs.map CtorD.cells)), .p (.i .i64 dp)]) := e1
  have e2' : HX[2]? = some (.var [.p (.i .i64 k), .p (.s n), .p (.i .i64 p), .p (.l (TyE.cellsL ks))]) := e2
  rw [TyE.cellsL_eq] at e2'
  simp only [go_sem, reduceIte, ↓reduceIte, sevalprocAttr, Z0, Z1, bytesOf, mc28t, mr28, eget_same, eget_ne, List.length_map]
  refine ⟨Nat × AV × List AO, [3, 4, 5, 6, 7, 8, 12], fun x st => st.T = [] ∧ st.H = x.2.2 ∧ eget st.L 3 = .ptr 0 0 ∧ eget st.L 4 = .ptr 1 0 ∧ eget st.L 5 = .ptr 2 0 ∧ eget st.L 6 = .ptr 3 0 ∧ eget st.L 7 = .ptr 4 0 ∧ eget st.L 8 = .ptr 5 0 ∧ eget st.L 12 = .p (.i .i64 x.1) ∧
    x.1 ≤ ks.length ∧ TyE.ftL g.types vs (ks.take x.1) = (0, 0) ∧ x.2.2[0]? = some (.var ([c0, c1, c2, c3, c4, c5, c6, c7].map .p)) ∧ x.2.2[1]? = some (.var [.p (.s dn), .p (.l (namesC vs)), .p (.l (cs.map CtorD.cells)), .p (.i .i64 dp)]) ∧ x.2.2[2]? = some (.var [.p (.i .i64 k), .p (.s n), .p (.i .i64 p), .p (.l (ks.map TyE.cells))]) ∧
    x.2.2[3]? = some (.var [.p (.i .i64 0), .p (.i .i64 0), .p (.s []), .p .nl]) ∧ x.2.2[4]? = some (.var [.p (.i .i64 0), .p (.i .i64 0)]) ∧ x.2.2[5]? = some (.var [.p (.i .i64 K), .p (.i .i64 0), .p (.s S), x.2.1]) ∧
    OwnR x.2.2 x.2.1 4 ((ks.take x.1).map fun t => (TyD.cells (t.ty vs)).map .p), fun x => ks.length - x.1, ⟨(0, .p .nl, HX), ?_⟩, ?_⟩
  · simp only [go_sem, reduceIte, ↓reduceIte, sevalprocAttr, Z0, Z1, bytesOf, eget_keep, eget_same, eget_ne, h3, h4, h5, h6, h7, h8, e0, e1', e2', e3, e4, e5]
    exact ⟨Nat.zero_le _, rfl, .inl ⟨rfl, rfl⟩⟩
  · rintro ⟨x, kv, HG⟩ st ⟨hT, hH, q3, q4, q5, q6, q7, q8, q12, hx, hz, g0, g1, g2, g3, g4, g5, hown⟩
    obtain ⟨SL, ST, SH⟩ := st
    simp only at hT hH q3 q4 q5 q6 q7 q8 q12 hx hz g0 g1 g2 g3 g4 g5 hown
    subst hT hH
    simp only [go_sem, reduceIte, ↓reduceIte, sevalprocAttr, Z0, Z1, bytesOf, q5, q12, g2, eget_same, List.length_map]
    intro hl
    by_cases hlt : x < ks.length
    · have d1 : decide ((x : Int) < (ks.length : Int)) = true := by simp; omega
      have hlt' : ((x : Int) < (ks.length : Int)) := by omega
      have ex := wrN x (by omega)
      have hg : (ks.map TyE.cells)[x]? = some (TyE.cells ks[x]) := by simp [hlt]
      have hcall := hk ks[x] (List.getElem_mem hlt)
      have hft := ftL_step (types := g.types) (vs := vs) hlt
      rw [hz, firstF_z] at hft
      have hnone := fun h => ftL_none (types := g.types) (vs := vs) (l := ks) (x := x + 1) h
      have hty : (ks.take (x + 1)).map (fun t => (TyD.cells (t.ty vs)).map AV.p) = (ks.take x).map (fun t => (TyD.cells (t.ty vs)).map AV.p) ++ [(TyD.cells (ks[x].ty vs)).map AV.p] := by
        rw [List.take_succ, List.getElem?_eq_getElem hlt, List.map_append]; rfl
      have hfz := TyE.ft_z g.types vs ks[x]
      generalize ks[x] = c at hg hcall hft hty hfz
      obtain ⟨ck, cn, cp, cks⟩ := c
      have hRl : ((ks.take x).map fun t => (TyD.cells (t.ty vs)).map AV.p).length = x := by rw [List.length_map, List.length_take]; omega
      simp only [TyS, hgc] at hcall
      simp only [go_sem, reduceIte, ↓reduceIte, sevalprocAttr, Z0, Z1, bytesOf, d1]
      refine drw_same ?_
      simp only [go_sem, reduceIte, ↓reduceIte, sevalprocAttr, Z0, Z1, bytesOf, q3, q4, q5, q12, g0, g1, g2, hlt', hg, eget_same, eget_ne, TyE.cells, List.length_map]
      refine pcall_pure (fun A => hcall _) (Hext.refl _) ?_
      generalize TyE.ty vs (.mk ck cn cp cks) = tc at hty ⊢
      generalize TyE.ft g.types vs (.mk ck cn cp cks) = fc at hft hfz ⊢
      obtain ⟨f1, f2⟩ := fc
      by_cases h0 : f1 = 0
      · subst h0
        have h0' : f2 = 0 := by have := hfz rfl; simpa using this
        subst h0'
        obtain ⟨tk, tn, tS, tks⟩ := tc
        simp only [go_sem, reduceIte, ↓reduceIte, sevalprocAttr, Z0, Z1, bytesOf, tyR, TyD.cells, Ft.cells, eget_same, eget_ne]
        have x5 := fun A => get_ext g5 A
        refine ston_at (k := 0) rfl rfl rfl ?_
        simp only [go_sem, reduceIte, ↓reduceIte, sevalprocAttr, Z0, Z1, bytesOf, eget_same, eget_ne, q8, x5]
        refine ⟨by intro r hr; simp at hr; subst hr; rfl, ?_⟩
        have ho1 := OwnR.ext (A := [AO.var [.p (.i .i64 tk), .p (.i .i64 tn), .p (.s tS), .p (.l (TyD.cellsL tks))], AO.var [.p (.i .i64 0), .p (.i .i64 0)], AO.rows 4 0 [[.p (.i .i64 tk), .p (.i .i64 tn), .p (.s tS), .p (.l (TyD.cellsL tks))]]]) hown
        have y0 := get_ext g0 [AO.var [.p (.i .i64 tk), .p (.i .i64 tn), .p (.s tS), .p (.l (TyD.cellsL tks))], AO.var [.p (.i .i64 0), .p (.i .i64 0)], AO.rows 4 0 [[.p (.i .i64 tk), .p (.i .i64 tn), .p (.s tS), .p (.l (TyD.cellsL tks))]]]
        have y1 := get_ext g1 [AO.var [.p (.i .i64 tk), .p (.i .i64 tn), .p (.s tS), .p (.l (TyD.cellsL tks))], AO.var [.p (.i .i64 0), .p (.i .i64 0)], AO.rows 4 0 [[.p (.i .i64 tk), .p (.i .i64 tn), .p (.s tS), .p (.l (TyD.cellsL tks))]]]
        have y2 := get_ext g2 [AO.var [.p (.i .i64 tk), .p (.i .i64 tn), .p (.s tS), .p (.l (TyD.cellsL tks))], AO.var [.p (.i .i64 0), .p (.i .i64 0)], AO.rows 4 0 [[.p (.i .i64 tk), .p (.i .i64 tn), .p (.s tS), .p (.l (TyD.cellsL tks))]]]
        have y3 := get_ext g3 [AO.var [.p (.i .i64 tk), .p (.i .i64 tn), .p (.s tS), .p (.l (TyD.cellsL tks))], AO.var [.p (.i .i64 0), .p (.i .i64 0)], AO.rows 4 0 [[.p (.i .i64 tk), .p (.i .i64 tn), .p (.s tS), .p (.l (TyD.cellsL tks))]]]
        have y4 := get_ext g4 [AO.var [.p (.i .i64 tk), .p (.i .i64 tn), .p (.s tS), .p (.l (TyD.cellsL tks))], AO.var [.p (.i .i64 0), .p (.i .i64 0)], AO.rows 4 0 [[.p (.i .i64 tk), .p (.i .i64 tn), .p (.s tS), .p (.l (TyD.cellsL tks))]]]
        have y5 := get_ext g5 [AO.var [.p (.i .i64 tk), .p (.i .i64 tn), .p (.s tS), .p (.l (TyD.cellsL tks))], AO.var [.p (.i .i64 0), .p (.i .i64 0)], AO.rows 4 0 [[.p (.i .i64 tk), .p (.i .i64 tn), .p (.s tS), .p (.l (TyD.cellsL tks))]]]
        generalize SH ++ [AO.var [.p (.i .i64 tk), .p (.i .i64 tn), .p (.s tS), .p (.l (TyD.cellsL tks))], AO.var [.p (.i .i64 0), .p (.i .i64 0)], AO.rows 4 0 [[.p (.i .i64 tk), .p (.i .i64 tn), .p (.s tS), .p (.l (TyD.cellsL tks))]]] = H1 at ho1 y0 y1 y2 y3 y4 y5 ⊢
        refine app_fr ho1 (by rw [hRl]; simp; omega) (by rw [hRl]; simp; omega) ?_
        intro id ver H2 hid hside hkeep hlen
        have z0 := hkeep _ _ y0 (ownR_ne ho1 y0)
        have z1 := hkeep _ _ y1 (ownR_ne ho1 y1)
        have z2 := hkeep _ _ y2 (ownR_ne ho1 y2)
        have z3 := hkeep _ _ y3 (ownR_ne ho1 y3)
        have z4 := hkeep _ _ y4 (ownR_ne ho1 y4)
        have z5 := hkeep _ _ y5 (ownR_ne ho1 y5)
        simp only [go_sem, reduceIte, ↓reduceIte, sevalprocAttr, Z0, Z1, bytesOf, eget_same, eget_ne, q3, q4, q5, q6, q7, q8, q12, z5, ex, eget_keep]
        refine ⟨(x + 1, _, _), ⟨rfl, rfl, by simp only; omega, by simp only; rw [hft], get_set z0 (by omega), get_set z1 (by omega), get_set z2 (by omega), get_set z3 (by omega), get_set z4 (by omega), set_get z5, ?_⟩, by simp only; omega⟩
        simp only
        rw [hty]
        refine ownR_setVar (.inr ⟨id, ver, by simp, hid⟩) z5
      · have e0 : f = (f1, f2) := by rw [hf, hnone (by rw [hft]; exact h0), hft]
        have h0' : (f1, f2).1 ≠ 0 := h0
        simp only [go_sem, reduceIte, ↓reduceIte, sevalprocAttr, Z0, Z1, bytesOf, tyR, h0, tyZ, TyD.cells, TyD.cellsL, Ft.cells, eget_same, eget_ne]
        refine ston_at (k := 0) rfl rfl rfl ?_
        simp only [go_sem, reduceIte, ↓reduceIte, sevalprocAttr, Z0, Z1, bytesOf, eget_same, eget_ne, dF h0]
        have y3 := get_ext g3 [AO.var [.p (.i .i64 0), .p (.i .i64 0), .p (.s []), .p (.l [])], AO.var [.p (.i .i64 f1), .p (.i .i64 f2)]]
        have y4 := get_ext g4 [AO.var [.p (.i .i64 0), .p (.i .i64 0), .p (.s []), .p (.l [])], AO.var [.p (.i .i64 f1), .p (.i .i64 f2)]]
        have hl3 := get_lt g3
        have y6 : (SH ++ [AO.var [.p (.i .i64 0), .p (.i .i64 0), .p (.s []), .p (.l [])], AO.var [.p (.i .i64 f1), .p (.i .i64 f2)]])[SH.length + 1]? = some (AO.var [.p (.i .i64 f1), .p (.i .i64 f2)]) := by rw [get_off]; rfl
        generalize hm : SH.length + 1 = m at y6 ⊢
        generalize SH ++ [AO.var [.p (.i .i64 0), .p (.i .i64 0), .p (.s []), .p (.l [])], AO.var [.p (.i .i64 f1), .p (.i .i64 f2)]] = H1 at y3 y4 y6 ⊢
        have y7 : (H1.set 3 .dead)[m]? = _ := get_set y6 (by omega)
        refine ⟨H1.set 3 .dead, hext_dead0 _ _, ?_⟩
        simp only [go_sem, reduceIte, ↓reduceIte, sevalprocAttr, Z0, Z1, bytesOf, eget_same, eget_ne, q6, q7, y7, y3]
        refine ⟨by simp, dead_ext' _ _ _, ?_⟩
        have w3 := set_get (o' := AO.var [.p (.i .i64 0), .p (.i .i64 0), .p (.s []), .p .nl]) y3
        have w4 := get_set (i := 3) (o' := AO.var [.p (.i .i64 0), .p (.i .i64 0), .p (.s []), .p .nl]) y4 (by omega)
        generalize H1.set 3 (AO.var [.p (.i .i64 0), .p (.i .i64 0), .p (.s []), .p .nl]) = H3 at w3 w4 ⊢
        have w5 := get_set (i := 4) (o' := AO.var [.p (.i .i64 f1), .p (.i .i64 f2)]) w3 (by omega)
        simp only [go_sem, reduceIte, ↓reduceIte, sevalprocAttr, Z0, Z1, bytesOf, eget_same, eget_ne, q6, q7, w3, w4]
        rw [set_get w4]
        simp only [go_sem, reduceIte, ↓reduceIte, sevalprocAttr, Z0, Z1, bytesOf, w5]
        rw [e0]
        exact ⟨0, 0, [], [], .p .nl, by rw [if_neg h0']; rfl, rfl, .inl ⟨rfl, rfl⟩⟩
    · have : x = ks.length := by omega
      subst this
      have d1 : decide ((ks.length : Int) < (ks.length : Int)) = false := by simp
      rw [List.take_length] at hz hown
      rw [hz] at hf
      subst hf
      have w3 := fun o => get_set (i := 4) (o' := o) (set_get (o' := AO.var [.p (.i .i64 K), .p (.i .i64 0), .p (.s S), kv]) g3) (by omega)
      have w4 := get_set (i := 3) (o' := AO.var [.p (.i .i64 K), .p (.i .i64 0), .p (.s S), kv]) g4 (by omega)
      simp only [go_sem, reduceIte, ↓reduceIte, sevalprocAttr, Z0, Z1, bytesOf, eget_same, eget_ne, q6, q7, q8, g3, g5, d1, w4]
      rw [set_get w4]
      simp only [go_sem, reduceIte, ↓reduceIte, sevalprocAttr, Z0, Z1, bytesOf, w3]
      refine ⟨K, 0, S, TyE.tyL vs ks, kv, by rw [if_pos rfl]; exact ht rfl, rfl, ?_⟩
      rw [TyE.tyL_eq, List.map_map]
      exact ownR_setVar (ownR_setVar hown g3) w4
end Go.Proofs.YtnelfbcgplooiaaGreat.Pg

/- The reference's types of datatypes: the whole. -/
set_option linter.all false
namespace Go.Proofs.YtnelfbcgplooiaaGreat.Pg
open Go.AM Mc

theorem hext6 (a b c o e f : AO) : Hext [a, b, c, .dead, e, f] [a, b, c, o, e, f] := dead_ext' [a, b, c, o, e, f] 3 o
theorem ty_S (g : ProgD) (hA : Apart g.types) (d : DataD) (k : Int) (n : List UInt8) (p : Int) (ks : List TyE) (hok : k = 1 ∨ k = 2 ∨ k = 3 ∨ k = 4 ∨ k = 5) (hs : ks.length ≤ 1048576) (hk : ∀ x ∈ ks, TyS g d x) : TyS g d (.mk k n p ks) := by
  intro H
  refine rawTyF_pure ?_
  have hgc : ∃ c1 c2 c3 c4 c5 c6 c7, g.cells = [.l (g.types.map DataD.cells), c1, c2, c3, c4, c5, c6, c7] := by
    obtain ⟨ts, ⟨k, n, u, t, p, ks, as'⟩⟩ := g
    exact ⟨_, _, _, _, _, _, _, rfl⟩
  obtain ⟨c1, c2, c3, c4, c5, c6, c7, hgc⟩ := hgc
  have hdat := l5DataC g n
  have htail := fun L HX K S t f => l5Tail (L := L) (HX := HX) (K := K) (S := S) (t := t) (f := f) (g := g) (d := d) (n := n) (k := k) (p := p) hs hk
  rw [hgc] at hdat htail ⊢
  obtain ⟨dn, vs, cs, dp⟩ := d
  simp only at htail ⊢
  refine call28 (by simp) ?_
  simp only [go_sem, reduceIte, ↓reduceIte, sevalprocAttr, Z0, Z1, bytesOf, mc28, DataD.cells, TyE.cells]
  rcases hok with rfl | rfl | rfl | rfl | rfl
  · simp only [go_sem, reduceIte, ↓reduceIte, sevalprocAttr, Z0, Z1, bytesOf]
    refine acall_pure (l5BuiltC n _) ?_
    simp only [go_sem, reduceIte, ↓reduceIte, sevalprocAttr, Z0, Z1, bytesOf]
    refine acall_pure (hdat _) ?_
    simp only [go_sem, reduceIte, ↓reduceIte, sevalprocAttr, Z0, Z1, bytesOf, builtPos]
    have hE : ∀ H' , RawTyF (TyE.ty vs (.mk 1 n p ks)) (24, p) (.tup [.st [.p (.i .i64 0), .p (.i .i64 0), .p (.s []), .p .nl], .st [.p (.i .i64 24), .p (.i .i64 p)]]) H' := fun H' => ⟨0, 0, [], [], .p .nl, by rw [if_neg (by simp)]; rfl, rfl, .inl ⟨rfl, rfl⟩⟩
    by_cases hm : n ∈ fourL
    · obtain ⟨m, hmi⟩ := idx_mem hm
      have eb : builtI n = ((m + 1 : Nat) : Int) := by unfold builtI; rw [hmi]
      simp only [go_sem, reduceIte, ↓reduceIte, sevalprocAttr, Z0, Z1, bytesOf, dT hm, TyE.cellsL_len, dN0]
      intro _
      by_cases hq : ks.length = 0
      · have hks : ks = [] := List.length_eq_zero_iff.1 hq
        have ev : TyE.ty vs (.mk 1 n p ks) = .mk (1 + m) 0 [] [] := by subst hks; unfold TyE.ty; simp [hmi]
        have ef : TyE.ft g.types vs (.mk 1 n p ks) = (0, 0) := by rw [TyE.ft, if_neg (by decide), if_neg (by decide), if_pos ⟨hm, hq⟩]
        simp only [go_sem, reduceIte, ↓reduceIte, sevalprocAttr, Z0, Z1, bytesOf, dT hq]
        rw [ev, ef, eb]
        exact ⟨1 + m, 0, [], [], .p .nl, by simp, by rw [show ((m + 1 : Nat) : Int) = 1 + (m : Int) by omega]; rfl, .inl ⟨rfl, rfl⟩⟩
      · have ef : TyE.ft g.types vs (.mk 1 n p ks) = (24, p) := by rw [TyE.ft, if_neg (by decide), if_neg (by decide), if_neg (fun h => hq h.2), hasData_four hA hm]; rfl
        simp only [go_sem, reduceIte, ↓reduceIte, sevalprocAttr, Z0, Z1, bytesOf, dF hq]
        refine drw_same ?_
        simp only [go_sem, reduceIte, ↓reduceIte, sevalprocAttr, Z0, Z1, bytesOf, builtPos, dT hm]
        refine ⟨_, hext_dead0 _ 3, ?_⟩
        simp only [go_sem, reduceIte, ↓reduceIte, sevalprocAttr, Z0, Z1, bytesOf]
        refine ⟨hext6 _ _ _ _ _ _, ?_⟩
        rw [ef]
        exact hE _
    · simp only [go_sem, reduceIte, ↓reduceIte, sevalprocAttr, Z0, Z1, bytesOf, dF hm]
      have hA2 := hasData_idx hA.pair n ks.length
      refine drw_same ?_
      simp only [go_sem, reduceIte, ↓reduceIte, sevalprocAttr, Z0, Z1, bytesOf, builtPos, dF hm, idxI_neg]
      cases hi : idx n (g.types.map DataD.name) with
      | none =>
        rw [hi] at hA2
        have ef : TyE.ft g.types vs (.mk 1 n p ks) = (24, p) := by rw [TyE.ft, if_neg (by decide), if_neg (by decide), if_neg (fun h => hm h.1), hA2]; rfl
        simp only [go_sem, reduceIte, ↓reduceIte, sevalprocAttr, Z0, Z1, bytesOf]
        refine ⟨_, hext_dead0 _ 3, ?_⟩
        simp only [go_sem, reduceIte, ↓reduceIte, sevalprocAttr, Z0, Z1, bytesOf]
        refine ⟨hext6 _ _ _ _ _ _, ?_⟩
        rw [ef]
        exact hE _
      | some j =>
        rw [hi] at hA2
        obtain ⟨hj1, _⟩ := idx_some hi
        rw [List.getElem?_map] at hj1
        cases hd : g.types[j]? with
        | none => rw [hd] at hj1; cases hj1
        | some d' =>
          simp only [hd] at hA2
          have eN : decide ((some j : Option Nat) = .none) = false := by simp
          have hjl : j < g.types.length := (List.getElem?_eq_some_iff.1 hd).1
          have hjl' : ((j : Int) < (g.types.length : Int)) := by omega
          have hg : (g.types.map DataD.cells)[j]? = some (DataD.cells d') := by rw [List.getElem?_map, hd]; rfl
          have ei : idxI (g.types.map DataD.name) n = (j : Int) := by unfold idxI; rw [hi]
          have dEqN : ∀ a b : Nat, decide ((a : Int) = (b : Int)) = decide (a = b) := fun a b => by rw [decide_eq_decide]; omega
          obtain ⟨dn', vs', cs', dp'⟩ := d'
          simp only at hA2
          simp only [go_sem, reduceIte, ↓reduceIte, sevalprocAttr, Z0, Z1, bytesOf, eN, ei, hjl', hg, DataD.cells, List.length_map, namesC_len, TyE.cellsL_len, dEqN]
          by_cases hv : vs'.length = ks.length
          · have ef : TyE.ft g.types vs (.mk 1 n p ks) = TyE.ftL g.types vs ks := by rw [TyE.ft, if_neg (by decide), if_neg (by decide), if_neg (fun h => hm h.1), hA2, decide_eq_true hv, if_pos rfl]
            have ev : TyE.ty vs (.mk 1 n p ks) = .mk 7 0 n (TyE.tyL vs ks) := by unfold TyE.ty; simp [idx_none.2 hm]
            simp only [go_sem, reduceIte, ↓reduceIte, sevalprocAttr, Z0, Z1, bytesOf, dT hv]
            rw [ev, ef]
            exact htail _ _ 7 n _ _ rfl rfl rfl rfl rfl rfl rfl rfl rfl rfl rfl rfl (fun _ => rfl) rfl
          · have ef : TyE.ft g.types vs (.mk 1 n p ks) = (24, p) := by rw [TyE.ft, if_neg (by decide), if_neg (by decide), if_neg (fun h => hm h.1), hA2, decide_eq_false hv]; rfl
            simp only [go_sem, reduceIte, ↓reduceIte, sevalprocAttr, Z0, Z1, bytesOf, dF hv]
            refine ⟨_, hext_dead0 _ 3, ?_⟩
            simp only [go_sem, reduceIte, ↓reduceIte, sevalprocAttr, Z0, Z1, bytesOf]
            refine ⟨hext6 _ _ _ _ _ _, ?_⟩
            rw [ef]
            exact hE _
  · simp only [go_sem, reduceIte, ↓reduceIte, sevalprocAttr, Z0, Z1, bytesOf]
    refine acall_pure (l5FindC vs n _) ?_
    simp only [go_sem, reduceIte, ↓reduceIte, sevalprocAttr, Z0, Z1, bytesOf, idxI_neg]
    by_cases hi : idx n vs = .none
    · have ef : TyE.ft g.types vs (.mk 2 n p ks) = (25, p) := by rw [TyE.ft, if_pos rfl, if_pos hi]
      simp only [go_sem, reduceIte, ↓reduceIte, sevalprocAttr, Z0, Z1, bytesOf, dT hi]
      refine ⟨_, hext_dead0 _ 3, ?_⟩
      simp only [go_sem, reduceIte, ↓reduceIte, sevalprocAttr, Z0, Z1, bytesOf]
      refine ⟨hext6 _ _ _ _ _ _, ?_⟩
      rw [ef]
      exact ⟨0, 0, [], [], .p .nl, by rw [if_neg (by simp)]; rfl, rfl, .inl ⟨rfl, rfl⟩⟩
    · have ef : TyE.ft g.types vs (.mk 2 n p ks) = (0, 0) := by rw [TyE.ft, if_pos rfl, if_neg hi]
      have ev : TyE.ty vs (.mk 2 n p ks) = .mk 10 (idxI vs n) [] [] := by unfold TyE.ty; rw [if_pos rfl]
      simp only [go_sem, reduceIte, ↓reduceIte, sevalprocAttr, Z0, Z1, bytesOf, dF hi]
      rw [ev, ef]
      exact ⟨10, idxI vs n, [], [], .p .nl, by rw [if_pos rfl], rfl, .inl ⟨rfl, rfl⟩⟩
  · have ef : TyE.ft g.types vs (.mk 3 n p ks) = TyE.ftL g.types vs ks := by rw [TyE.ft, if_neg (by decide), if_pos (by decide)]
    have ev : TyE.ty vs (.mk 3 n p ks) = .mk 5 0 [] (TyE.tyL vs ks) := by unfold TyE.ty; rw [if_neg (by decide), if_pos rfl]
    simp only [go_sem, reduceIte, ↓reduceIte, sevalprocAttr, Z0, Z1, bytesOf]
    rw [ev, ef]
    exact htail _ _ 5 [] _ _ rfl rfl rfl rfl rfl rfl rfl rfl rfl rfl rfl rfl (fun _ => rfl) rfl
  · have ef : TyE.ft g.types vs (.mk 4 n p ks) = TyE.ftL g.types vs ks := by rw [TyE.ft, if_neg (by decide), if_pos (by decide)]
    have ev : TyE.ty vs (.mk 4 n p ks) = .mk 6 0 [] (TyE.tyL vs ks) := by unfold TyE.ty; rw [if_neg (by decide), if_neg (by decide), if_pos rfl]
    simp only [go_sem, reduceIte, ↓reduceIte, sevalprocAttr, Z0, Z1, bytesOf]
    rw [ev, ef]
    exact htail _ _ 6 [] _ _ rfl rfl rfl rfl rfl rfl rfl rfl rfl rfl rfl rfl (fun _ => rfl) rfl
  · have ef : TyE.ft g.types vs (.mk 5 n p ks) = TyE.ftL g.types vs ks := by rw [TyE.ft, if_neg (by decide), if_pos (by decide)]
    have ev : TyE.ty vs (.mk 5 n p ks) = .mk 8 0 [] (TyE.tyL vs ks) := by unfold TyE.ty; rw [if_neg (by decide), if_neg (by decide), if_neg (by decide), if_pos rfl]
    simp only [go_sem, reduceIte, ↓reduceIte, sevalprocAttr, Z0, Z1, bytesOf]
    rw [ev, ef]
    exact htail _ _ 8 [] _ _ rfl rfl rfl rfl rfl rfl rfl rfl rfl rfl rfl rfl (fun _ => rfl) rfl
theorem typeHead_k {k : Int} {n : List UInt8} {p : Int} {nk : Nat} (h : typeHead k n p nk = true) : k = 1 ∨ k = 2 ∨ k = 3 ∨ k = 4 ∨ k = 5 := by
  unfold typeHead at h
  simp only [Bool.and_eq_true] at h
  obtain ⟨_, h⟩ := h
  by_cases h1 : k = 1
  · exact .inl h1
  by_cases h2 : k = 2
  · exact .inr (.inl h2)
  by_cases h3 : k = 3
  · exact .inr (.inr (.inl h3))
  by_cases h4 : k = 4
  · exact .inr (.inr (.inr (.inl h4)))
  by_cases h5 : k = 5
  · exact .inr (.inr (.inr (.inr h5)))
  simp [h1, h2, h3, h4, h5] at h
theorem tyS (g : ProgD) (hA : Apart g.types) (d : DataD) : ∀ (m : Nat) (t : TyE), t.sz < m → t.sz ≤ 1048576 → t.ok = true → TyS g d t := by
  intro m
  induction m with
  | zero => intro t h; omega
  | succ m ih =>
    intro t h hb hok
    obtain ⟨k, n, p, ks⟩ := t
    rw [TyE.sz, TyE.szL_eq] at h hb
    rw [TyE.ok, TyE.okL_eq, Bool.and_eq_true] at hok
    have hl := sumSz_len TyE.sz ks
    exact ty_S g hA d k n p ks (typeHead_k hok.1) (by omega) fun a ha => ih a (by have := sumSz_mem TyE.sz ha; omega) (by have := sumSz_mem TyE.sz ha; omega) (List.all_eq_true.1 hok.2 a ha)
end Go.Proofs.YtnelfbcgplooiaaGreat.Pg

/- The reference's table: a constructor. -/
set_option linter.all false
namespace Go.Proofs.YtnelfbcgplooiaaGreat.Pg
open Go.AM Mc

theorem eE {L : En} {H : List AO} {q z lo : Nat} {n : List UInt8} {V : Int} {iv : AV} {x : List PV} (hx : x.length = 6) {rs : List (List AV)} {Q : Ex → St → Prop}
    (h11 : eget L 11 = .ptr q 0) (h14 : eget L 14 = .ptr z 0) (hq : H[q]? = some (.var [.p (.s n), .p (.i .i64 V), iv])) (hz : H[z]? = some (.var (x.map .p))) (ho : OwnAt H iv 6 rs lo H.length) (hn : rs.length ≤ 1048576) (hlo : lo ≤ H.length)
    (k : ∀ L' H' iv', (∀ t, eget L' t = eget L t) → H'[q]? = some (.var [.p (.s n), .p (.i .i64 V), iv']) → OwnAt H' iv' 6 (rs ++ [x.map .p]) lo H'.length → (∀ (i : Nat) o, H[i]? = some o → i ≠ q → (∀ v o' n, iv ≠ .gs i v o' n) → H'[i]? = some o) → H.length ≤ H'.length → Q .nm ⟨L', [], H'⟩) : wpm (ACall Tryz.prog) mc11e Q ⟨L, [], H⟩ := by
  obtain ⟨x1, x2, x3, x4, x5, x6, rfl⟩ : ∃ x1 x2 x3 x4 x5 x6, x = [x1, x2, x3, x4, x5, x6] := by
    match x, hx with
    | [x1, x2, x3, x4, x5, x6], _ => exact ⟨_, _, _, _, _, _, rfl⟩
  simp only [List.map_cons, List.map_nil] at hz
  simp only [go_sem, reduceIte, ↓reduceIte, sevalprocAttr, Z0, Z1, bytesOf, mc11e, h11, h14, hq, hz]
  refine ⟨by intro r hr; simp at hr; subst hr; rfl, ?_⟩
  have ho2 := ho.ext [AO.rows 6 0 [[.p x1, .p x2, .p x3, .p x4, .p x5, .p x6]]]
  refine app_fr ho2.own (by simp; omega) (by simp; omega) ?_
  intro id ver H2 hid hside hkeep hlen
  have zq := hkeep _ _ (get_ext hq _) (own_ne ho2 (get_ext hq _))
  simp only [go_sem, reduceIte, ↓reduceIte, sevalprocAttr, Z0, Z1, bytesOf, h11, zq]
  have hne : q ≠ id := by rintro rfl; rw [hid] at zq; cases zq
  rw [List.length_append, List.length_singleton] at hlen
  refine k _ _ _ (fun t => rfl) (set_get zq) (.inr ⟨id, ver, ?_, by simpa using get_lt hid, by simp, get_set hid hne⟩) ?_ (by simp; omega)
  · rcases hside with ⟨v, o, n', hkv⟩ | h
    · apply Classical.byContradiction
      intro hlt2
      exact own_lo ho2 (by omega) _ _ _ hkv
    · simp at h; omega
  · intro i o hi hiq hni
    exact get_set (hkeep _ _ (get_ext hi _) hni) (Ne.symm hiq)
/-- what the reference's table is made with -/
structure SpH (g : ProgD) (H : List AO) (seen : List (List UInt8)) (v5 : Nat) : Prop where
  o0 : H[0]? = some (.var (g.cells.map .p))
  o1 : H[1]? = some (.var [.p (.i .i64 0), .p (.i .i64 0)])
  o2 : H[2]? = some (.rows 3 0 [])
  o5 : H[5]? = some (.rows 1 v5 (nmR seen))
theorem SpH.step {g : ProgD} {H H' : List AO} {seen : List (List UInt8)} {v5 : Nat} (h : SpH g H seen v5) (hk : ∀ (i : Nat) o, i ≤ 5 → H[i]? = some o → H'[i]? = some o) : SpH g H' seen v5 :=
  ⟨hk _ _ (by omega) h.o0, hk _ _ (by omega) h.o1, hk _ _ (by omega) h.o2, hk _ _ (by omega) h.o5⟩
theorem eN {g : ProgD} {d : DataD} {c : CtorD} (hc : c.has = true → TyS g d c.arg) {L : En} {H : List AO} {b q y lo v5 : Nat} {n : List UInt8} {V : Int} {iv : AV} {seen : List (List UInt8)} {rs : List (List AV)} {Q : Ex → St → Prop}
    (h1 : eget L 1 = .ptr 0 0) (h3 : eget L 3 = .ptr 1 0) (h4 : eget L 4 = .gs 2 0 0 0) (h7 : eget L 7 = .gs 5 v5 0 seen.length) (h9 : eget L 9 = .ptr b 0) (h11 : eget L 11 = .ptr q 0) (h13 : eget L 13 = .ptr y 0) (hM : SpH g H seen v5)
    (hb : H[b]? = some (.var (d.cells.map .p))) (hy : H[y]? = some (.var (c.cells.map .p))) (hq : H[q]? = some (.var [.p (.s n), .p (.i .i64 V), iv])) (ho : OwnAt H iv 6 rs lo H.length) (hn : rs.length ≤ 1048576) (hs : seen.length ≤ 4194304) (hlo : 5 < lo) (hlo2 : lo ≤ H.length) (hq5 : 5 < q) (hyq : y ≠ q)
    (k1 : c.has = true → (c.arg.ft g.types d.vars).1 ≠ 0 → ∀ L' H', eget L' 2 = .gs 2 0 0 0 → eget L' 3 = .ptr 1 0 → H'[1]? = some (.var ((c.arg.ft g.types d.vars).cells.map .p)) → H'[2]? = some (.rows 3 0 []) → Q .rt ⟨L', [], H'⟩)
    (k2 : (if c.has then c.arg.ft g.types d.vars else (0, 0)) = (0, 0) → ∀ L' H' iv' v5', (∀ t, t ≠ 7 → t ≠ 14 → t ≠ 103 → t ≠ 15 → t ≠ 16 → t ≠ 114 → eget L' t = eget L t) → eget L' 7 = .gs 5 v5' 0 (seen.length + 1) → SpH g H' (seen ++ [c.name]) v5' → H'[q]? = some (.var [.p (.s n), .p (.i .i64 V), iv']) → OwnAt H' iv' 6 (rs ++ [(rawC d.vars c).map .p]) lo H'.length →
      (∀ (i : Nat) o, H[i]? = some o → i ≠ 5 → i ≠ q → (∀ v o' n, iv ≠ .gs i v o' n) → H'[i]? = some o) → H.length ≤ H'.length → Q .nm ⟨L', [], H'⟩) : wpm (ACall Tryz.prog) mc11n Q ⟨L, [], H⟩ := by
  obtain ⟨dn, vs, cs, dp⟩ := d
  obtain ⟨cn, ch, ⟨ak, an, ap, aks⟩, cp⟩ := c
  have hgc : ∃ c0 c1 c2 c3 c4 c5 c6 c7, g.cells = [c0, c1, c2, c3, c4, c5, c6, c7] := by
    obtain ⟨ts, ⟨k, n, u, t, p, ks, as'⟩⟩ := g
    exact ⟨_, _, _, _, _, _, _, _, rfl⟩
  obtain ⟨c0, c1, c2, c3, c4, c5, c6, c7, hgc⟩ := hgc
  have hy' : H[y]? = some (.var [.p (.s cn), .p (.b ch), .p (.i .i64 ak), .p (.s an), .p (.i .i64 ap), .p (.l (TyE.cellsL aks)), .p (.i .i64 cp)]) := hy
  have hyX := fun A => get_ext hy' A
  have h5X := fun A => get_ext hM.o5 A
  have hsl : (nmR seen).length = seen.length := by simp [nmR]
  simp only [go_sem, reduceIte, ↓reduceIte, sevalprocAttr, Z0, Z1, bytesOf, mc11n, h7, h13, hyX, hy', h5X, hM.o5, hsl]
  refine ⟨by intro r hr; simp at hr; subst hr; rfl, by omega, by omega, by omega, ?_⟩
  have htk : (nmR seen).take seen.length = nmR seen := by rw [← hsl, List.take_length]
  rw [htk]
  have kp : ∀ (i : Nat) o, H[i]? = some o → i ≠ 5 → ((H ++ [AO.rows 1 0 [[.p (.s cn)]]]).set 5 (.rows 1 (v5 + 1) (nmR seen ++ [[.p (.s cn)]])))[i]? = some o := fun i o hi hne => get_set (get_ext hi _) (Ne.symm hne)
  have k5 : ((H ++ [AO.rows 1 0 [[.p (.s cn)]]]).set 5 (.rows 1 (v5 + 1) (nmR seen ++ [[.p (.s cn)]])))[5]? = some (.rows 1 (v5 + 1) (nmR seen ++ [[.p (.s cn)]])) := set_get (h5X _)
  have kl : ((H ++ [AO.rows 1 0 [[.p (.s cn)]]]).set 5 (.rows 1 (v5 + 1) (nmR seen ++ [[.p (.s cn)]]))).length = H.length + 1 := by simp
  have iv5 : ∀ v o n, iv ≠ .gs 5 v o n := own_lo ho hlo
  have ko : OwnAt ((H ++ [AO.rows 1 0 [[.p (.s cn)]]]).set 5 (.rows 1 (v5 + 1) (nmR seen ++ [[.p (.s cn)]]))) iv 6 rs lo (H.length + 1) := ownAt_keep ho (fun id v q n e o ho => get_set (get_ext ho _) (by rintro rfl; exact iv5 _ _ _ e)) (by omega)
  generalize (H ++ [AO.rows 1 0 [[.p (.s cn)]]]).set 5 (.rows 1 (v5 + 1) (nmR seen ++ [[.p (.s cn)]])) = H1 at kp k5 kl ko ⊢
  have y1 := fun A => get_ext (kp _ _ hy' (by rintro rfl; rw [hM.o5] at hy'; cases hy')) A
  have y1' := kp _ _ hy' (by rintro rfl; rw [hM.o5] at hy'; cases hy')
  have b1 := fun A => get_ext (kp _ _ hb (by rintro rfl; rw [hM.o5] at hb; cases hb)) A
  have q1 := fun A => get_ext (kp _ _ hq (by omega)) A
  have o0 := fun A => get_ext (kp _ _ hM.o0 (by omega)) A
  rw [hgc] at o0
  simp only [go_sem, reduceIte, ↓reduceIte, sevalprocAttr, Z0, Z1, bytesOf, eget_same, eget_ne, h13, y1, y1', zl6_1]
  have fin : ∀ (L1 : En) (H2 : List AO) (A : List AO) (x : List PV), H2 = H1 ++ (AO.var (x.map .p) :: A) → (∀ t, t ≠ 7 → t ≠ 14 → t ≠ 103 → t ≠ 15 → t ≠ 16 → t ≠ 114 → eget L1 t = eget L t) → eget L1 7 = .gs 5 (v5 + 1) 0 (seen.length + 1) → eget L1 14 = .ptr H1.length 0 → x = rawC vs ⟨cn, ch, ⟨ak, an, ap, aks⟩, cp⟩ → (if ch then TyE.ft g.types vs ⟨ak, an, ap, aks⟩ else (0, 0)) = (0, 0) →
      wpm (ACall Tryz.prog) mc11e Q ⟨L1, [], H2⟩ := by
    rintro L1 H2 A x rfl hL h7' h14 rfl hz
    have oX := own_up (show OwnAt H1 iv 6 rs lo H1.length by rw [kl]; exact ko) (AO.var ((rawC vs ⟨cn, ch, ⟨ak, an, ap, aks⟩, cp⟩).map .p) :: A)
    rw [← List.length_append] at oX
    refine eE (rawC_len _ _) (by rw [hL _ (by decide) (by decide) (by decide) (by decide) (by decide) (by decide)]; exact h11) h14 (q1 _) (by rw [get_off0]; rfl) oX hn (by rw [List.length_append]; omega) ?_
    intro L' H' iv' hL' hq' ho' hk hl
    rw [List.length_append] at hl
    refine k2 hz L' H' iv' (v5 + 1) (fun t a1 a2 a3 a4 a5 a6 => (hL' t).trans (hL t a1 a2 a3 a4 a5 a6)) ((hL' _).trans h7') ?_ hq' ho' ?_ (by omega)
    · refine ⟨?_, ?_, ?_, ?_⟩
      · exact hk _ _ (get_ext (kp _ _ hM.o0 (by omega)) _) (by omega) (own_lo ho (by omega))
      · exact hk _ _ (get_ext (kp _ _ hM.o1 (by omega)) _) (by omega) (own_lo ho (by omega))
      · exact hk _ _ (get_ext (kp _ _ hM.o2 (by omega)) _) (by omega) (own_lo ho (by omega))
      · rw [nmR_app]
        exact hk _ _ (get_ext k5 _) (by omega) (own_lo ho (by omega))
    · intro i o hi h5 hiq hni
      exact hk _ _ (get_ext (kp _ _ hi h5) _) hiq hni
  cases ch
  · simp only [go_sem, reduceIte, ↓reduceIte, sevalprocAttr, Z0, Z1, bytesOf]
    exact fin _ _ [] (rawC vs ⟨cn, false, ⟨ak, an, ap, aks⟩, cp⟩) rfl (fun t a1 a2 a3 a4 a5 a6 => by rw [eget_ne (Ne.symm a3), eget_ne (Ne.symm a2), eget_ne (Ne.symm a1)]) (by simp only [go_sem, reduceIte, ↓reduceIte, sevalprocAttr, Z0, Z1, bytesOf, eget_ne, eget_same]) (by simp only [go_sem, reduceIte, ↓reduceIte, sevalprocAttr, Z0, Z1, bytesOf, eget_ne, eget_same]) rfl rfl
  · have hcall := hc rfl
    simp only [TyS, hgc] at hcall
    have b1' : ∀ A, (H1 ++ A)[b]? = some (.var [.p (.s dn), .p (.l (namesC vs)), .p (.l (cs.map CtorD.cells)), .p (.i .i64 dp)]) := b1
    simp only [go_sem, reduceIte, ↓reduceIte, sevalprocAttr, Z0, Z1, bytesOf, eget_same, eget_ne, h1, h9, h13, o0, b1', y1]
    refine acall_pure (hcall _) ?_
    have hz := TyE.ft_z g.types vs (.mk ak an ap aks)
    have k1' := k1 rfl
    simp only at k1' k2
    have fin' := fun L1 H2 A x e1 e2 e3 e4 (hx : x = [.s cn, .b true] ++ (TyE.ty vs (.mk ak an ap aks)).cells) (hf1 : TyE.ft g.types vs ⟨ak, an, ap, aks⟩ = (0, 0)) => fin L1 H2 A x e1 e2 e3 e4 hx (by rw [if_pos rfl]; exact hf1)
    clear fin k1 k2
    generalize TyE.ty vs (.mk ak an ap aks) = tc at fin' ⊢
    generalize TyE.ft g.types vs (.mk ak an ap aks) = fc at fin' hz k1' ⊢
    obtain ⟨f1, f2⟩ := fc
    by_cases h0 : f1 = 0
    · subst h0
      have h0' : f2 = 0 := by have := hz rfl; simpa using this
      subst h0'
      obtain ⟨tk, tn, tS, tks⟩ := tc
      simp only [go_sem, reduceIte, ↓reduceIte, sevalprocAttr, Z0, Z1, bytesOf, tyR, TyD.cells, Ft.cells, eget_same, eget_ne]
      refine fin' _ _ [_, _] ([.s cn, .b true] ++ (TyD.mk tk tn tS tks).cells) rfl (fun t a1 a2 a3 a4 a5 a6 => ?_) ?_ ?_ rfl rfl
      · simp only [go_sem, reduceIte, ↓reduceIte, sevalprocAttr, Z0, Z1, bytesOf, eget_ne (Ne.symm a1), eget_ne (Ne.symm a2), eget_ne (Ne.symm a3), eget_ne (Ne.symm a4), eget_ne (Ne.symm a5), eget_ne (Ne.symm a6)]
      · simp only [go_sem, reduceIte, ↓reduceIte, sevalprocAttr, Z0, Z1, bytesOf, eget_ne, eget_same]
      · simp only [go_sem, reduceIte, ↓reduceIte, sevalprocAttr, Z0, Z1, bytesOf, eget_ne, eget_same]
    · have o1 := fun A => get_ext (kp _ _ hM.o1 (by omega)) A
      have o2 := fun A => get_ext (kp _ _ hM.o2 (by omega)) A
      simp only [go_sem, reduceIte, ↓reduceIte, sevalprocAttr, Z0, Z1, bytesOf, tyR, h0, tyZ, TyD.cells, TyD.cellsL, Ft.cells, eget_same, eget_ne, dF h0]
      refine drw_same ?_
      simp only [go_sem, reduceIte, ↓reduceIte, sevalprocAttr, Z0, Z1, bytesOf, eget_same, eget_ne, h3, h4, o1]
      refine k1' h0 _ _ ?_ ?_ (set_get (o1 _)) (get_set (o2 _) (by omega))
      · simp only [go_sem, reduceIte, ↓reduceIte, sevalprocAttr, Z0, Z1, bytesOf, eget_ne, eget_same]
      · simp only [go_sem, reduceIte, ↓reduceIte, sevalprocAttr, Z0, Z1, bytesOf, eget_ne, eget_same, h3]
end Go.Proofs.YtnelfbcgplooiaaGreat.Pg

/- The reference's table: a datatype's constructors. -/
set_option linter.all false
namespace Go.Proofs.YtnelfbcgplooiaaGreat.Pg
open Go.AM Mc

theorem ctorsF_none {types : List DataD} {vs : List (List UInt8)} {seen : List (List UInt8)} {l : List CtorD} {x : Nat} (h : (ctorsF types vs seen (l.take x)).1 ≠ 0) : ctorsF types vs seen l = ctorsF types vs seen (l.take x) := by
  induction l generalizing x seen with
  | nil => simp
  | cons t l ih =>
    cases x with
    | zero => simp [ctorsF] at h
    | succ x =>
      simp only [List.take_succ_cons, ctorsF] at h ⊢
      generalize (if t.name ∈ seen then ((23, t.pos) : Ft) else (0, 0)) = A at h ⊢
      generalize (if t.has = true then TyE.ft types vs t.arg else (0, 0)) = B at h ⊢
      by_cases e : A.1 = 0
      · by_cases e2 : B.1 = 0
        · simp only [firstF, e, e2, if_true] at h ⊢
          exact ih h
        · simp only [firstF, e, e2, if_true, if_false]
      · rw [firstF_ne e, firstF_ne e]
theorem eL {g : ProgD} {d : DataD} (hc : ∀ c ∈ d.ctors, c.has = true → TyS g d c.arg) (hn : d.ctors.length ≤ 1048576) {L : En} {H : List AO} {b v4 v5 : Nat} {seen : List (List UInt8)} {out : List (List AV)} {Q : Ex → St → Prop} {FT : Ft} (hFT : FT = ctorsF g.types d.vars seen d.ctors)
    (h1 : eget L 1 = .ptr 0 0) (h3 : eget L 3 = .ptr 1 0) (h4 : eget L 4 = .gs 2 0 0 0) (h6 : eget L 6 = .gs 4 v4 0 out.length) (h7 : eget L 7 = .gs 5 v5 0 seen.length) (h9 : eget L 9 = .ptr b 0) (h11 : eget L 11 = .ptr (b + 1) 0) (hM : SpH g H seen v5)
    (hb : H[b]? = some (.var (d.cells.map .p))) (hq : H[b + 1]? = some (.var [.p (.s d.name), .p (.i .i64 d.vars.length), .p .nl])) (hb5 : 5 < b) (hbl : b + 2 = H.length) (h4o : H[4]? = some (.rows 3 v4 out)) (hol : out.length ≤ 1048576) (hs : seen.length + d.ctors.length ≤ 4194304)
    (k1 : FT.1 ≠ 0 → ∀ L' H', eget L' 2 = .gs 2 0 0 0 → eget L' 3 = .ptr 1 0 → H'[1]? = some (.var (FT.cells.map .p)) → H'[2]? = some (.rows 3 0 []) → Q .rt ⟨L', [], H'⟩)
    (k2 : FT = (0, 0) → ∀ L' H' iv v4' v5', (∀ t, t = 1 ∨ t = 3 ∨ t = 4 ∨ t = 8 → eget L' t = eget L t) → eget L' 6 = .gs 4 v4' 0 (out.length + 1) → eget L' 7 = .gs 5 v5' 0 (seen ++ d.ctors.map CtorD.name).length → SpH g H' (seen ++ d.ctors.map CtorD.name) v5' →
      H'[4]? = some (.rows 3 v4' (out ++ [[.p (.s d.name), .p (.i .i64 d.vars.length), iv]])) → OwnAt H' iv 6 (d.ctors.map fun c => (rawC d.vars c).map .p) (b + 2) H'.length → (∀ (i : Nat) o, H[i]? = some o → i < b → i ≠ 4 → i ≠ 5 → H'[i]? = some o) → H.length ≤ H'.length → Q .nm ⟨L', [], H'⟩) : wpm (ACall Tryz.prog) mc11l Q ⟨L, [], H⟩ := by
  obtain ⟨dn, vs, cs, dp⟩ := d
  have hb' : H[b]? = some (.var [.p (.s dn), .p (.l (namesC vs)), .p (.l (cs.map CtorD.cells)), .p (.i .i64 dp)]) := hb
  simp only at hc hn hs hFT hq k2
  simp only [go_sem, reduceIte, ↓reduceIte, sevalprocAttr, Z0, Z1, bytesOf, mc11l]
  refine ⟨Nat × Nat × AV × List AO, [1, 3, 4, 6, 7, 8, 9, 11, 12], fun x st => st.T = [] ∧ st.H = x.2.2.2 ∧ eget st.L 1 = .ptr 0 0 ∧ eget st.L 3 = .ptr 1 0 ∧ eget st.L 4 = .gs 2 0 0 0 ∧ eget st.L 6 = .gs 4 v4 0 out.length ∧ eget st.L 7 = .gs 5 x.2.1 0 (seen.length + x.1) ∧ eget st.L 8 = eget L 8 ∧ eget st.L 9 = .ptr b 0 ∧ eget st.L 11 = .ptr (b + 1) 0 ∧ eget st.L 12 = .p (.i .i64 x.1) ∧
    x.1 ≤ cs.length ∧ ctorsF g.types vs seen (cs.take x.1) = (0, 0) ∧ SpH g x.2.2.2 (seen ++ (cs.take x.1).map CtorD.name) x.2.1 ∧ x.2.2.2[b]? = some (.var [.p (.s dn), .p (.l (namesC vs)), .p (.l (cs.map CtorD.cells)), .p (.i .i64 dp)]) ∧ x.2.2.2[b + 1]? = some (.var [.p (.s dn), .p (.i .i64 vs.length), x.2.2.1]) ∧
    OwnAt x.2.2.2 x.2.2.1 6 ((cs.take x.1).map fun c => (rawC vs c).map .p) (b + 2) x.2.2.2.length ∧ (∀ (i : Nat) o, H[i]? = some o → i ≤ b → i ≠ 5 → x.2.2.2[i]? = some o) ∧ H.length ≤ x.2.2.2.length, fun x => cs.length - x.1, ⟨(0, v5, .p .nl, H), ?_⟩, ?_⟩
  · simp only [go_sem, reduceIte, ↓reduceIte, sevalprocAttr, Z0, Z1, bytesOf, eget_keep, eget_same, eget_ne, h1, h3, h4, h6, h7, h9, h11, hb', hq]
    exact ⟨rfl, Nat.zero_le _, rfl, hM, .inl ⟨rfl, rfl⟩, fun i o h _ _ => h, Nat.le_refl _⟩
  rintro ⟨x, w5, iv, HG⟩ st ⟨hT, hH, q1, q3, q4, q6, q7, q8, q9, q11, q12, hx, hz, hMG, gb, gq, hown, hkp, hlen⟩
  obtain ⟨SL, ST, SH⟩ := st
  simp only at hT hH q1 q3 q4 q6 q7 q8 q9 q11 q12 hx hz hMG gb gq hown hkp hlen
  subst hT hH
  simp only [go_sem, reduceIte, ↓reduceIte, sevalprocAttr, Z0, Z1, bytesOf, q9, q12, gb, eget_same, eget_ne, List.length_map]
  intro hl
  by_cases hlt : x < cs.length
  · have d1 : decide ((x : Int) < (cs.length : Int)) = true := by simp; omega
    have hlt' : ((x : Int) < (cs.length : Int)) := by omega
    have ex := wrN x (by omega)
    have hg : (cs.map CtorD.cells)[x]? = some (CtorD.cells cs[x]) := by simp [hlt]
    have hcall := hc cs[x] (List.getElem_mem hlt)
    have hft := ctorsF_step (types := g.types) (vs := vs) (seen := seen) hlt
    rw [hz, firstF_z] at hft
    have hnone := fun h => ctorsF_none (types := g.types) (vs := vs) (seen := seen) (l := cs) (x := x + 1) h
    have hnm : (cs.take (x + 1)).map CtorD.name = (cs.take x).map CtorD.name ++ [cs[x].name] := by rw [List.take_succ, List.getElem?_eq_getElem hlt, List.map_append]; rfl
    have hrw : (cs.take (x + 1)).map (fun c => (rawC vs c).map AV.p) = (cs.take x).map (fun c => (rawC vs c).map AV.p) ++ [(rawC vs cs[x]).map AV.p] := by rw [List.take_succ, List.getElem?_eq_getElem hlt, List.map_append]; rfl
    generalize cs[x] = c at hg hcall hft hnm hrw
    have hSl : ((cs.take x).map CtorD.name).length = x := by rw [List.length_map, List.length_take]; omega
    have hRl : ((cs.take x).map fun c => (rawC vs c).map AV.p).length = x := by rw [List.length_map, List.length_take]; omega
    generalize hS : seen ++ (cs.take x).map CtorD.name = S at hMG hft
    have hSlen : S.length = seen.length + x := by rw [← hS, List.length_append, hSl]
    obtain ⟨cn, ch, ⟨ak, an, ap, aks⟩, cp⟩ := c
    simp only at hft hnm hcall
    have hXl := fun A => get_ext hMG.o5 A
    rw [← hSlen] at q7
    simp only [go_sem, reduceIte, ↓reduceIte, sevalprocAttr, Z0, Z1, bytesOf, q7, q9, q12, d1, hlt', hg, gb, eget_same, eget_ne, CtorD.cells, TyE.cells, List.length_map, zl6_0]
    refine acall_pure (l5FindO (hXl _)) ?_
    simp only [go_sem, reduceIte, ↓reduceIte, sevalprocAttr, Z0, Z1, bytesOf, idxI_nonneg]
    have hyX : (SH ++ [AO.var [.p (.s cn), .p (.b ch), .p (.i .i64 ak), .p (.s an), .p (.i .i64 ap), .p (.l (TyE.cellsL aks)), .p (.i .i64 cp)]])[SH.length]? = some (AO.var [.p (.s cn), .p (.b ch), .p (.i .i64 ak), .p (.s an), .p (.i .i64 ap), .p (.l (TyE.cellsL aks)), .p (.i .i64 cp)]) := by rw [get_off0]; rfl
    have kX : ∀ (i : Nat) o, SH[i]? = some o → (SH ++ [AO.var [.p (.s cn), .p (.b ch), .p (.i .i64 ak), .p (.s an), .p (.i .i64 ap), .p (.l (TyE.cellsL aks)), .p (.i .i64 cp)]])[i]? = some o := fun i o h => get_ext h _
    have hoX := own_up hown [AO.var [.p (.s cn), .p (.b ch), .p (.i .i64 ak), .p (.s an), .p (.i .i64 ap), .p (.l (TyE.cellsL aks)), .p (.i .i64 cp)]]
    rw [← List.length_append] at hoX
    have hlX : (SH ++ [AO.var [.p (.s cn), .p (.b ch), .p (.i .i64 ak), .p (.s an), .p (.i .i64 ap), .p (.l (TyE.cellsL aks)), .p (.i .i64 cp)]]).length = SH.length + 1 := by simp
    generalize SH ++ [AO.var [.p (.s cn), .p (.b ch), .p (.i .i64 ak), .p (.s an), .p (.i .i64 ap), .p (.l (TyE.cellsL aks)), .p (.i .i64 cp)]] = H1 at hyX kX hoX hlX ⊢
    have hMX : SpH g H1 S w5 := hMG.step fun i o _ h => kX i o h
    by_cases hm : cn ∈ S
    · rw [if_pos hm, firstF_ne (by simp)] at hft
      have e0 : FT = (23, cp) := by rw [hFT, hnone (by rw [hft]; simp), hft]
      simp only [go_sem, reduceIte, ↓reduceIte, sevalprocAttr, Z0, Z1, bytesOf, dT hm, eget_same]
      refine drw_same ?_
      simp only [go_sem, reduceIte, ↓reduceIte, sevalprocAttr, Z0, Z1, bytesOf, eget_same, eget_ne, q3, q4, hyX, hMX.o1]
      subst e0
      refine k1 (by simp) _ _ ?_ ?_ (set_get hMX.o1) (get_set hMX.o2 (by omega))
      · simp only [go_sem, reduceIte, ↓reduceIte, sevalprocAttr, Z0, Z1, bytesOf, eget_ne, eget_same]
      · simp only [go_sem, reduceIte, ↓reduceIte, sevalprocAttr, Z0, Z1, bytesOf, eget_ne, eget_same, q3]
    · rw [if_neg hm, firstF_z] at hft
      simp only [go_sem, reduceIte, ↓reduceIte, sevalprocAttr, Z0, Z1, bytesOf, dF hm, eget_same]
      refine eN (d := ⟨dn, vs, cs, dp⟩) (c := ⟨cn, ch, ⟨ak, an, ap, aks⟩, cp⟩) (y := SH.length) (lo := b + 2) hcall ?_ ?_ ?_ ?_ ?_ ?_ ?_ hMX (kX _ _ gb) hyX (kX _ _ gq) hoX (by rw [hRl]; omega) (by omega) (by omega) (by omega) (by omega) (by have := get_lt gq; omega) ?_ ?_
      · simp only [go_sem, reduceIte, ↓reduceIte, sevalprocAttr, Z0, Z1, bytesOf, eget_same, eget_ne, q1]
      · simp only [go_sem, reduceIte, ↓reduceIte, sevalprocAttr, Z0, Z1, bytesOf, eget_same, eget_ne, q3]
      · simp only [go_sem, reduceIte, ↓reduceIte, sevalprocAttr, Z0, Z1, bytesOf, eget_same, eget_ne, q4]
      · simp only [go_sem, reduceIte, ↓reduceIte, sevalprocAttr, Z0, Z1, bytesOf, eget_same, eget_ne, q7]
      · simp only [go_sem, reduceIte, ↓reduceIte, sevalprocAttr, Z0, Z1, bytesOf, eget_same, eget_ne, q9]
      · simp only [go_sem, reduceIte, ↓reduceIte, sevalprocAttr, Z0, Z1, bytesOf, eget_same, eget_ne, q11]
      · simp only [go_sem, reduceIte, ↓reduceIte, sevalprocAttr, Z0, Z1, bytesOf, eget_same, eget_ne]
      · intro hch hne L' H' r2 r3 r4 r5
        simp only at hch hne r4
        rw [if_pos hch] at hft
        have e0 : FT = TyE.ft g.types vs (.mk ak an ap aks) := by rw [hFT, hnone (by rw [hft]; exact hne), hft]
        simp only [go_sem, reduceIte, ↓reduceIte, sevalprocAttr, Z0, Z1, bytesOf]
        rw [← e0] at hne r4
        exact k1 hne L' H' r2 r3 r4 r5
      · intro hz0 L' H' iv' w5' hL h7' hM' hq' ho' hk' hl'
        simp only at hz0
        rw [hz0] at hft
        simp only [go_sem, reduceIte, ↓reduceIte, sevalprocAttr, Z0, Z1, bytesOf, eget_same, eget_ne, eget_keep, hL, q1, q3, q4, q6, q8, q9, q11, q12, ex, h7']
        refine ⟨(x + 1, w5', iv', H'), ⟨rfl, ?_, rfl, by simp only; omega, hft, ?_, hk' _ _ (kX _ _ gb) (by omega) (by omega) (own_ne hoX (kX _ _ gb)), hq', ?_, ?_, ?_⟩, by simp only; omega⟩
        · rw [hSlen]; rfl
        · simp only
          rw [hnm, ← List.append_assoc, hS]
          exact hM'
        · simp only
          rw [hrw]
          exact ho'
        · intro i o hi hib hi5
          exact hk' _ _ (kX _ _ (hkp i o hi hib hi5)) hi5 (by omega) (own_lo hoX (by omega))
        · simp only; omega
  · have : x = cs.length := by omega
    subst this
    have d1 : decide ((cs.length : Int) < (cs.length : Int)) = false := by simp
    rw [List.take_length] at hz hMG hown
    have e0 : FT = (0, 0) := by rw [hFT, hz]
    have g4 := hkp _ _ h4o (by omega) (by omega)
    have g4X := fun A => get_ext g4 A
    have htk : out.take out.length = out := List.take_length
    simp only [go_sem, reduceIte, ↓reduceIte, sevalprocAttr, Z0, Z1, bytesOf, q6, q11, q12, gq, d1, eget_same, eget_ne, g4, g4X]
    refine ⟨by intro r hr; simp at hr; subst hr; rfl, by omega, by omega, by omega, ?_⟩
    rw [htk]
    have kX : ∀ (i : Nat) o, SH[i]? = some o → i ≠ 4 → ((SH ++ [AO.rows 3 0 [[.p (.s dn), .p (.i .i64 vs.length), iv]]]).set 4 (.rows 3 (v4 + 1) (out ++ [[.p (.s dn), .p (.i .i64 vs.length), iv]])))[i]? = some o := fun i o h hne => get_set (get_ext h _) (Ne.symm hne)
    have lX : ((SH ++ [AO.rows 3 0 [[.p (.s dn), .p (.i .i64 vs.length), iv]]]).set 4 (.rows 3 (v4 + 1) (out ++ [[.p (.s dn), .p (.i .i64 vs.length), iv]]))).length = SH.length + 1 := by simp
    have k4 := set_get (o' := AO.rows 3 (v4 + 1) (out ++ [[.p (.s dn), .p (.i .i64 vs.length), iv]])) (g4X [AO.rows 3 0 [[.p (.s dn), .p (.i .i64 vs.length), iv]]])
    generalize (SH ++ [AO.rows 3 0 [[.p (.s dn), .p (.i .i64 vs.length), iv]]]).set 4 (.rows 3 (v4 + 1) (out ++ [[.p (.s dn), .p (.i .i64 vs.length), iv]])) = H2 at kX lX k4 ⊢
    refine k2 e0 _ H2 iv (v4 + 1) w5 ?_ ?_ ?_ ⟨kX _ _ hMG.o0 (by omega), kX _ _ hMG.o1 (by omega), kX _ _ hMG.o2 (by omega), kX _ _ hMG.o5 (by omega)⟩ k4 (ownAt_keep hown (fun id v q n e o ho => kX _ _ ho (by rintro rfl; exact own_lo hown (by omega) _ _ _ e)) (by omega)) ?_ (by omega)
    · rintro t (rfl | rfl | rfl | rfl)
      · simp only [go_sem, reduceIte, ↓reduceIte, sevalprocAttr, Z0, Z1, bytesOf, eget_ne, eget_same, q1, h1]
      · simp only [go_sem, reduceIte, ↓reduceIte, sevalprocAttr, Z0, Z1, bytesOf, eget_ne, eget_same, q3, h3]
      · simp only [go_sem, reduceIte, ↓reduceIte, sevalprocAttr, Z0, Z1, bytesOf, eget_ne, eget_same, q4, h4]
      · simp only [go_sem, reduceIte, ↓reduceIte, sevalprocAttr, Z0, Z1, bytesOf, eget_ne, eget_same, q8]
    · simp only [go_sem, reduceIte, ↓reduceIte, sevalprocAttr, Z0, Z1, bytesOf, eget_ne, eget_same]
    · simp only [go_sem, reduceIte, ↓reduceIte, sevalprocAttr, Z0, Z1, bytesOf, eget_ne, eget_same, q7, List.length_append, List.length_map]
    · intro i o hi hib hi4 hi5
      exact kX _ _ (hkp i o hi (by omega) hi5) hi4
end Go.Proofs.YtnelfbcgplooiaaGreat.Pg

/- The reference's table. -/
set_option linter.all false
namespace Go.Proofs.YtnelfbcgplooiaaGreat.Pg
open Go.AM Mc

theorem lent_rawL {H : List AO} {vs : List (List UInt8)} {cs : List CtorD} {iv : AV} (h : OwnR H iv 6 (cs.map fun c => (rawC vs c).map .p)) : Lent H iv (.p (.l ((cs.map (CtorD.info vs)).map InfoC.cells))) := by
  rcases h with ⟨rfl, hk⟩ | ⟨id, ver, rfl, h2⟩
  · have : cs = [] := by simpa using hk
    subst this
    exact .nl
  · refine .gs _ _ _ _ 6 _ _ h2 (by simp) (by simp) ?_ ?_
    · intro y hy
      obtain ⟨c, hc, rfl⟩ := List.mem_map.1 hy
      exact InfoC.cells_len c
    · intro i r y q c p hr hy hq hp
      simp only [Nat.zero_add, List.getElem?_map] at hr hy
      cases hci : cs[i]? with
      | none => rw [hci] at hr; cases hr
      | some ci =>
        rw [hci] at hr hy
        cases hr
        simp only [Option.map_some, Option.some.injEq] at hy
        subst hy
        exact lent_rawC _ vs ci q c p hq hp
/-- the rows of a table, as they were made -/
def RowsOk (H : List AO) (hi : Nat) (ds : List DataD) (rs : List (List AV)) : Prop :=
  rs.length = ds.length ∧ ∀ (i : Nat) d r, ds[i]? = some d → rs[i]? = some r → ∃ iv, r = [.p (.s d.name), .p (.i .i64 d.vars.length), iv] ∧ OwnAt H iv 6 (d.ctors.map fun c => (rawC d.vars c).map .p) 6 hi
theorem RowsOk.step {H H' : List AO} {hi hi' : Nat} {ds : List DataD} {rs : List (List AV)} (h : RowsOk H hi ds rs) (hk : ∀ (i : Nat) o, 6 ≤ i → i < hi → H[i]? = some o → H'[i]? = some o) (hl : hi ≤ hi') : RowsOk H' hi' ds rs := by
  refine ⟨h.1, fun i d r hd hr => ?_⟩
  obtain ⟨iv, e, ho⟩ := h.2 i d r hd hr
  refine ⟨iv, e, ?_⟩
  rcases ho with ho | ⟨id, ver, h0, h1, h2, h3⟩
  · exact .inl ho
  · exact .inr ⟨id, ver, h0, by omega, h2, hk _ _ h0 h1 h3⟩
theorem RowsOk.snoc {H : List AO} {hi : Nat} {ds : List DataD} {rs : List (List AV)} (h : RowsOk H hi ds rs) {d : DataD} {iv : AV} (ho : OwnAt H iv 6 (d.ctors.map fun c => (rawC d.vars c).map .p) 6 hi) : RowsOk H hi (ds ++ [d]) (rs ++ [[.p (.s d.name), .p (.i .i64 d.vars.length), iv]]) := by
  refine ⟨by simp [h.1], fun i e r hd hr => ?_⟩
  by_cases hlt : i < ds.length
  · rw [List.getElem?_append_left hlt] at hd
    rw [List.getElem?_append_left (by rw [h.1]; exact hlt)] at hr
    exact h.2 i e r hd hr
  · rw [List.getElem?_append_right (by omega)] at hd
    rw [List.getElem?_append_right (by rw [h.1]; omega), h.1] at hr
    cases hi' : i - ds.length with
    | zero => rw [hi'] at hd hr; cases hd; cases hr; exact ⟨iv, rfl, ho⟩
    | succ m => rw [hi'] at hd; simp at hd
theorem lent_out {H : List AO} {hi : Nat} {ds : List DataD} {rs : List (List AV)} (h : RowsOk H hi ds rs) {id ver : Nat} (hid : H[id]? = some (.rows 3 ver rs)) : Lent H (.gs id ver 0 rs.length) (.p (.l ((ds.map DataD.info).map InfoD.cells))) := by
  refine .gs _ _ _ _ 3 rs _ hid (by simp) (by simp [h.1]) ?_ ?_
  · intro y hy
    obtain ⟨c, hc, rfl⟩ := List.mem_map.1 hy
    rfl
  · intro i r y q c p hr hy hq hp
    simp only [Nat.zero_add, List.getElem?_map] at hr hy
    cases hci : ds[i]? with
    | none => rw [hci] at hy; cases hy
    | some d =>
      rw [hci] at hy
      simp only [Option.map_some, Option.some.injEq] at hy
      subst hy
      obtain ⟨iv, rfl, ho⟩ := h.2 i d r hci hr
      match q, hq, hp with
      | 0, hq, hp => cases hq; cases hp; exact .pure _
      | 1, hq, hp => cases hq; cases hp; exact .pure _
      | 2, hq, hp => cases hq; cases hp; exact lent_rawL ho.own
      | q + 3, hq, hp => simp at hq
theorem lent_tab {H : List AO} {a : AV} {x : List InfoD × Ft} (h : Lent H a (.p (.l (x.1.map InfoD.cells)))) : Lent H (.tup [a, av (Ft.cells x.2)]) (tabAV x) := by
  refine .tup _ _ rfl fun j y z hy hz => ?_
  match j with
  | 0 => cases hy; cases hz; exact h
  | 1 =>
    cases hy; cases hz
    refine .st _ _ rfl fun j y z hy hz => ?_
    match j with
    | 0 => cases hy; cases hz; exact .pure _
    | 1 => cases hy; cases hz; exact .pure _
    | j + 2 => simp [Ft.cells] at hy
  | j + 2 => simp at hy
theorem lent_none {H : List AO} (h : H[2]? = some (.rows 3 0 [])) (f : Ft) : Lent H (.tup [.gs 2 0 0 0, av (Ft.cells f)]) (tabAV ([], f)) :=
  lent_tab (x := ([], f)) (.gs _ _ _ _ 3 [] [] h (by simp) rfl (by simp) (by intro i r y q c p hr; simp at hr))
theorem datasF_none {types : List DataD} {seen : List (List UInt8)} {l : List DataD} {x : Nat} (h : (datasF types seen (l.take x)).1 ≠ 0) : datasF types seen l = datasF types seen (l.take x) := by
  induction l generalizing x seen with
  | nil => simp
  | cons t l ih =>
    cases x with
    | zero => simp [datasF] at h
    | succ x =>
      simp only [List.take_succ_cons, datasF] at h ⊢
      generalize dataF types seen t = A at h ⊢
      by_cases e : A.1 = 0
      · simp only [firstF, e, if_true] at h ⊢
        exact ih h
      · rw [firstF_ne e, firstF_ne e]
theorem varsF_none {p : Int} {ah l : List (List UInt8)} {x : Nat} (h : (varsF p ah (l.take x)).1 ≠ 0) : varsF p ah l = varsF p ah (l.take x) := by
  induction l generalizing x ah with
  | nil => simp
  | cons t l ih =>
    cases x with
    | zero => simp [varsF] at h
    | succ x =>
      simp only [List.take_succ_cons, varsF] at h ⊢
      split
      · rfl
      · rename_i hn
        rw [if_neg hn] at h
        exact ih h
theorem tableS (g : ProgD) (hb : g.sz ≤ 1048576) (H : List AO) : ACall Tryz.prog 11 [av g.cells] H (pureQ (tabAV (tableR g)) H) := by
  refine (acall_fresh (R := fun r => r = tabAV (tableR g)) (Q := fun r H' => Lent H' r (tabAV (tableR g))) ?_ ?_ (fun r H' h => ⟨_, h, rfl⟩)).mono (fun r H' ⟨h1, h2⟩ => ⟨h2, h1⟩)
  rotate_left
  · intro b hb
    simp only [List.mem_cons, List.not_mem_nil, or_false] at hb
    subst hb
    exact noid_st _ (by intro a ha; obtain ⟨p, _, rfl⟩ := List.mem_map.1 ha; exact noid_p p)
  rw [ProgD.sz, datasSz_eq] at hb
  have htl := sumSz_len DataD.sz g.types
  have hgc : ∃ b0 b1 b2 b3 b4 b5 b6, g.body.cells = [b0, b1, b2, b3, b4, b5, b6] := by
    obtain ⟨ts, ⟨k, n, u, t, p, ks, as'⟩⟩ := g
    exact ⟨_, _, _, _, _, _, _, rfl⟩
  obtain ⟨b0, b1, b2, b3, b4, b5, b6, hgc⟩ := hgc
  have hgg : g.cells = [.l (g.types.map DataD.cells), b0, b1, b2, b3, b4, b5, b6] := by rw [ProgD.cells, hgc]
  have hok := progOkS g
  have hmany := l5ManyC g
  rw [hgg] at hok hmany ⊢
  refine call11 (by simp) ?_
  simp only [go_sem, reduceIte, ↓reduceIte, sevalprocAttr, Z0, Z1, bytesOf, mc11, mr11]
  refine acall_pure (hok _) ?_
  cases h1 : g.ok
  · have e : tableR g = ([], (20, 0)) := by rw [tableR, h1]; rfl
    simp only [go_sem, reduceIte, ↓reduceIte, sevalprocAttr, Z0, Z1, bytesOf, h1]
    rw [e]
    exact lent_none rfl (20, 0)
  have e : tableR g = (if (tableF g.types).1 = 0 then (tableV g.types, (0, 0)) else ([], tableF g.types)) := by rw [tableR, h1]; rfl
  simp only [go_sem, reduceIte, ↓reduceIte, sevalprocAttr, Z0, Z1, bytesOf, h1]
  refine acall_pure (hmany _) ?_
  have hmz := firstF_zz (manyF_z 0 g.types) (typesF_z [] g.types)
  have htf : tableF g.types = firstF (firstF (manyF 0 g.types) (typesF [] g.types)) (datasF g.types [] g.types) := by rw [tableF, firstF_assoc]
  generalize hm1 : firstF (manyF 0 g.types) (typesF [] g.types) = m1 at hmz htf ⊢
  obtain ⟨m1, m2⟩ := m1
  by_cases hm0 : m1 = 0
  case neg =>
    have et : tableF g.types = (m1, m2) := by rw [htf, firstF_ne hm0]
    simp only [go_sem, reduceIte, ↓reduceIte, sevalprocAttr, Z0, Z1, bytesOf, Ft.cells, dF hm0]
    refine drw_same ?_
    simp only [go_sem, reduceIte, ↓reduceIte, sevalprocAttr, Z0, Z1, bytesOf]
    rw [e, et, if_neg hm0]
    exact lent_none rfl (m1, m2)
  subst hm0
  have : m2 = 0 := by have := hmz rfl; simpa using this
  subst this
  rw [firstF_z] at htf
  have hty0 : typesF [] g.types = (0, 0) := by
    have := hm1
    unfold firstF at this
    split at this
    · exact this
    · rename_i h; rw [this] at h; exact (h rfl).elim
  have hA := (typesF_apart [] g.types hty0).1
  have hoks : ∀ d ∈ g.types, d.ok = true := by
    rw [ProgD.ok, Bool.and_eq_true] at h1
    exact List.all_eq_true.1 h1.1
  simp only [go_sem, reduceIte, ↓reduceIte, sevalprocAttr, Z0, Z1, bytesOf, Ft.cells]
  have hM0 : SpH g [AO.var [.p (.l (g.types.map DataD.cells)), .p b0, .p b1, .p b2, .p b3, .p b4, .p b5, .p b6], AO.var [.p (.i .i64 0), .p (.i .i64 0)], AO.rows 3 0 [], AO.var [.p (.i .i64 0), .p (.i .i64 0)], AO.rows 3 0 [], AO.rows 1 0 []] [] 0 := ⟨by rw [hgg]; rfl, rfl, rfl, rfl⟩
  have h40 : [AO.var [.p (.l (g.types.map DataD.cells)), .p b0, .p b1, .p b2, .p b3, .p b4, .p b5, .p b6], AO.var [.p (.i .i64 0), .p (.i .i64 0)], AO.rows 3 0 [], AO.var [.p (.i .i64 0), .p (.i .i64 0)], AO.rows 3 0 [], AO.rows 1 0 []][4]? = some (AO.rows 3 0 []) := rfl
  have hl0 : 6 ≤ [AO.var [.p (.l (g.types.map DataD.cells)), .p b0, .p b1, .p b2, .p b3, .p b4, .p b5, .p b6], AO.var [.p (.i .i64 0), .p (.i .i64 0)], AO.rows 3 0 [], AO.var [.p (.i .i64 0), .p (.i .i64 0)], AO.rows 3 0 [], AO.rows 1 0 []].length := by simp
  generalize [AO.var [.p (.l (g.types.map DataD.cells)), .p b0, .p b1, .p b2, .p b3, .p b4, .p b5, .p b6], AO.var [.p (.i .i64 0), .p (.i .i64 0)], AO.rows 3 0 [], AO.var [.p (.i .i64 0), .p (.i .i64 0)], AO.rows 3 0 [], AO.rows 1 0 []] = HZ at hM0 h40 hl0 ⊢
  refine ⟨Nat × Nat × Nat × List (List AV) × List AO, [1, 3, 4, 6, 7, 8], fun x st => (x.1 ≤ g.types.length ∧ datasF g.types [] (g.types.take x.1) = (0, 0) ∧ SpH g x.2.2.2.2 ((g.types.take x.1).flatMap fun d => d.ctors.map CtorD.name) x.2.2.1 ∧ x.2.2.2.2[4]? = some (.rows 3 x.2.1 x.2.2.2.1) ∧ RowsOk x.2.2.2.2 x.2.2.2.2.length (g.types.take x.1) x.2.2.2.1 ∧ 6 ≤ x.2.2.2.2.length) ∧
    st.T = [] ∧ st.H = x.2.2.2.2 ∧ eget st.L 1 = .ptr 0 0 ∧ eget st.L 3 = .ptr 1 0 ∧ eget st.L 4 = .gs 2 0 0 0 ∧ eget st.L 6 = .gs 4 x.2.1 0 x.2.2.2.1.length ∧ eget st.L 7 = .gs 5 x.2.2.1 0 ((g.types.take x.1).flatMap fun d => d.ctors.map CtorD.name).length ∧ eget st.L 8 = .p (.i .i64 x.1), fun x => g.types.length - x.1, ⟨(0, 0, 0, [], HZ), ?_⟩, ?_⟩
  · simp only [go_sem, reduceIte, ↓reduceIte, sevalprocAttr, Z0, Z1, bytesOf, List.take_zero, List.flatMap_nil, datasF]
    exact ⟨Nat.zero_le _, hM0, h40, ⟨rfl, fun i d r hd => by simp at hd⟩, hl0⟩
  rintro ⟨x, v4, v5, out, HG⟩ st ⟨⟨hx, hz, hM, h4, hR, hl6⟩, hT, hH, q1, q3, q4, q6, q7, q8⟩
  obtain ⟨SL, ST, SH⟩ := st
  simp only at hx hz hM h4 hR hl6 hT hH q1 q3 q4 q6 q7 q8
  subst hT hH
  have g0 := hM.o0
  rw [hgg] at g0
  simp only [List.map_cons, List.map_nil] at g0
  simp only [go_sem, reduceIte, ↓reduceIte, sevalprocAttr, Z0, Z1, bytesOf, g0, q1, q8, eget_same, eget_ne, List.length_map]
  intro hl
  rw [maxLe] at hl
  by_cases hlt : x < g.types.length
  · have d1 : decide ((x : Int) < (g.types.length : Int)) = true := by simp; omega
    have hlt' : ((x : Int) < (g.types.length : Int)) := by omega
    have ex := wrN x (by omega)
    have hg : (g.types.map DataD.cells)[x]? = some (DataD.cells g.types[x]) := by simp [hlt]
    have hvf := datasF_step (types := g.types) (seen := []) hlt
    rw [List.nil_append, hz, firstF_z] at hvf
    have hnone := fun h => datasF_none (types := g.types) (seen := []) (l := g.types) (x := x + 1) h
    have hnm : ((g.types.take (x + 1)).flatMap fun d => d.ctors.map CtorD.name) = ((g.types.take x).flatMap fun d => d.ctors.map CtorD.name) ++ g.types[x].ctors.map CtorD.name := by
      rw [List.take_succ, List.getElem?_eq_getElem hlt, List.flatMap_append]; simp
    have htk : g.types.take (x + 1) = g.types.take x ++ [g.types[x]] := by rw [List.take_succ, List.getElem?_eq_getElem hlt]; rfl
    have hsl : ((g.types.take x).flatMap fun d => d.ctors.map CtorD.name).length ≤ 2097152 := by
      have := namesLen (l := g.types.take x)
      have := sumSz_take DataD.sz g.types x
      omega
    have hdz : g.types[x].sz ≤ 1048576 := by have := sumSz_mem DataD.sz (List.getElem_mem hlt); omega
    have hdok := hoks _ (List.getElem_mem hlt)
    have hol : out.length = x := by rw [hR.1, List.length_take]; omega
    generalize g.types[x] = d at hg hvf hnm htk hdz hdok
    generalize (g.types.take x).flatMap (fun d => d.ctors.map CtorD.name) = S at hM hvf hnm hsl q7 ⊢
    obtain ⟨dn, vs, cs, dp⟩ := d
    rw [DataD.sz, namesSz_eq, ctorsSz_eq] at hdz
    simp only at hnm hdz
    have hcl := sumSz_len CtorD.sz cs
    have hvl := sumSz_len List.length vs
    have hc : ∀ c ∈ cs, c.has = true → TyS g ⟨dn, vs, cs, dp⟩ c.arg := fun c hc hch => tyS g hA _ _ c.arg (Nat.lt_succ_self _) (by have := sumSz_mem CtorD.sz hc; rw [CtorD.sz] at this; omega) (by
      rw [DataD.ok, Bool.and_eq_true] at hdok
      have := List.all_eq_true.1 hdok.1 c hc
      rw [CtorD.ok, hch] at this
      simp at this
      exact this.2.2)
    simp only [go_sem, reduceIte, ↓reduceIte, sevalprocAttr, Z0, Z1, bytesOf, d1, hlt', hg, g0, q1, q8, eget_same, eget_ne, DataD.cells, List.length_map]
    have kX : ∀ (i : Nat) o, SH[i]? = some o → (SH ++ [AO.var [.p (.s dn), .p (.l (namesC vs)), .p (.l (cs.map CtorD.cells)), .p (.i .i64 dp)]])[i]? = some o := fun i o h => get_ext h _
    have bX : (SH ++ [AO.var [.p (.s dn), .p (.l (namesC vs)), .p (.l (cs.map CtorD.cells)), .p (.i .i64 dp)]])[SH.length]? = some (AO.var [.p (.s dn), .p (.l (namesC vs)), .p (.l (cs.map CtorD.cells)), .p (.i .i64 dp)]) := by rw [get_off0]; rfl
    have lX : (SH ++ [AO.var [.p (.s dn), .p (.l (namesC vs)), .p (.l (cs.map CtorD.cells)), .p (.i .i64 dp)]]).length = SH.length + 1 := by simp
    generalize SH ++ [AO.var [.p (.s dn), .p (.l (namesC vs)), .p (.l (cs.map CtorD.cells)), .p (.i .i64 dp)]] = H1 at kX bX lX ⊢
    have hM1 : SpH g H1 S v5 := hM.step fun i o _ h => kX i o h
    rw [dataF] at hvf
    refine ⟨Nat, [1, 3, 4, 6, 7, 8, 9, 10], fun y st => (y ≤ vs.length ∧ varsF dp [] (vs.take y) = (0, 0)) ∧ st.T = [] ∧ st.H = H1 ∧ eget st.L 1 = .ptr 0 0 ∧ eget st.L 3 = .ptr 1 0 ∧ eget st.L 4 = .gs 2 0 0 0 ∧ eget st.L 6 = .gs 4 v4 0 out.length ∧ eget st.L 7 = .gs 5 v5 0 S.length ∧ eget st.L 8 = .p (.i .i64 x) ∧ eget st.L 9 = .ptr SH.length 0 ∧ eget st.L 10 = .p (.i .i64 y), fun y => vs.length - y, ⟨0, ?_⟩, ?_⟩
    · simp only [go_sem, reduceIte, ↓reduceIte, sevalprocAttr, Z0, Z1, bytesOf, List.take_zero, varsF, eget_keep, eget_same, eget_ne, q1, q3, q4, q6, q7, q8]
      exact Nat.zero_le _
    rintro y st ⟨⟨hy, hv⟩, hT, hH, w1, w3, w4, w6, w7, w8, w9, w10⟩
    obtain ⟨TL, TT, TH⟩ := st
    simp only at hT hH w1 w3 w4 w6 w7 w8 w9 w10
    subst hT hH
    simp only [go_sem, reduceIte, ↓reduceIte, sevalprocAttr, Z0, Z1, bytesOf, bX, w9, w10, eget_same, eget_ne, namesC_len]
    intro hl2
    by_cases hylt : y < vs.length
    · have d2 : decide ((y : Int) < (vs.length : Int)) = true := by simp; omega
      have hylt' : ((y : Int) < (vs.length : Int)) := by omega
      have ey := wrN y (by omega)
      have hgv := namesC_get vs hylt
      have hstep := varsF_step (p := dp) (ah := []) hylt
      rw [List.nil_append, hv, firstF_z] at hstep
      have hvn := fun h => varsF_none (p := dp) (ah := []) (l := vs) (x := y + 1) h
      have hil := idxLt (l := vs) (x := y) (s := vs[y]) (by simp [hylt])
      generalize vs[y] = v at hgv hstep hil
      simp only [go_sem, reduceIte, ↓reduceIte, sevalprocAttr, Z0, Z1, bytesOf, d2, eget_same]
      refine drw_same ?_
      simp only [go_sem, reduceIte, ↓reduceIte, sevalprocAttr, Z0, Z1, bytesOf, bX, w9, w10, eget_same, eget_ne, hylt', hgv, namesC_len]
      refine pcall_pure (fun A => l5FindC vs v _) (Hext.refl _) ?_
      simp only [go_sem, reduceIte, ↓reduceIte, sevalprocAttr, Z0, Z1, bytesOf, hil, eget_same, eget_ne, w10]
      by_cases hmv : v ∈ vs.take y
      · rw [if_pos hmv] at hstep
        have et : tableF g.types = (22, dp) := by
          have e1 : varsF dp [] vs = (22, dp) := by rw [hvn (by rw [hstep]; simp), hstep]
          rw [htf, hnone (by rw [hvf, e1]; simp [firstF]), hvf, e1, firstF_ne (by simp)]
        simp only [go_sem, reduceIte, ↓reduceIte, sevalprocAttr, Z0, Z1, bytesOf, dT hmv, eget_same]
        refine drw_same ?_
        simp only [go_sem, reduceIte, ↓reduceIte, sevalprocAttr, Z0, Z1, bytesOf, bX, w3, w4, w9, hM1.o1, eget_same, eget_ne]
        rw [set_get hM1.o1]
        simp only [go_sem, reduceIte, ↓reduceIte, sevalprocAttr, Z0, Z1, bytesOf, eget_same, eget_ne, w4]
        rw [e, et, if_neg (by simp)]
        exact lent_none (get_set hM1.o2 (by omega)) (22, dp)
      · rw [if_neg hmv] at hstep
        simp only [go_sem, reduceIte, ↓reduceIte, sevalprocAttr, Z0, Z1, bytesOf, dF hmv, ey, eget_same, eget_ne, eget_keep, w1, w3, w4, w6, w7, w8, w9, w10]
        exact ⟨y + 1, ⟨⟨by omega, hstep⟩, rfl⟩, by omega⟩
    · have : y = vs.length := by omega
      subst this
      have d2 : decide ((vs.length : Int) < (vs.length : Int)) = false := by simp
      rw [List.take_length] at hv
      rw [hv, firstF_z] at hvf
      simp only [go_sem, reduceIte, ↓reduceIte, sevalprocAttr, Z0, Z1, bytesOf, d2, bX, w9, eget_same, eget_ne, namesC_len]
      intro _
      refine eL (d := ⟨dn, vs, cs, dp⟩) (b := SH.length) (v4 := v4) (v5 := v5) (seen := S) (out := out) (g := g) hc (by simp only; omega) rfl ?_ ?_ ?_ ?_ ?_ ?_ ?_ (hM1.step fun i o _ h => get_ext h _) (get_ext bX _) ?_ (by omega) (by simp [lX]) (get_ext (kX _ _ h4) _) (by omega) (by simp only; omega) ?_ ?_
      · simp only [go_sem, reduceIte, ↓reduceIte, sevalprocAttr, Z0, Z1, bytesOf, eget_same, eget_ne, w1]
      · simp only [go_sem, reduceIte, ↓reduceIte, sevalprocAttr, Z0, Z1, bytesOf, eget_same, eget_ne, w3]
      · simp only [go_sem, reduceIte, ↓reduceIte, sevalprocAttr, Z0, Z1, bytesOf, eget_same, eget_ne, w4]
      · simp only [go_sem, reduceIte, ↓reduceIte, sevalprocAttr, Z0, Z1, bytesOf, eget_same, eget_ne, w6]
      · simp only [go_sem, reduceIte, ↓reduceIte, sevalprocAttr, Z0, Z1, bytesOf, eget_same, eget_ne, w7]
      · simp only [go_sem, reduceIte, ↓reduceIte, sevalprocAttr, Z0, Z1, bytesOf, eget_same, eget_ne, w9]
      · simp only [go_sem, reduceIte, ↓reduceIte, sevalprocAttr, Z0, Z1, bytesOf, eget_same, eget_ne, lX]
      · rw [← lX, get_off0]; rfl
      · intro hne L' H' r2 r3 r1 rn
        have et : tableF g.types = ctorsF g.types vs S cs := by rw [htf, hnone (by rw [hvf]; exact hne), hvf]
        have hne' : (ctorsF g.types vs S cs).1 ≠ 0 := hne
        simp only [go_sem, reduceIte, ↓reduceIte, sevalprocAttr, Z0, Z1, bytesOf, r2, r3]
        rw [r1]
        simp only [go_sem, reduceIte, ↓reduceIte, sevalprocAttr, Z0, Z1, bytesOf, Ft.cells]
        rw [e, et, if_neg hne']
        exact lent_none rn _
      · intro hFz L' H' iv v4' v5' hL' h6' h7' hM' h4' ho' hk' hl'
        simp only at hFz hM' h4' ho' h7'
        have r1 : eget L' 1 = .ptr 0 0 := by rw [hL' 1 (by simp)]; simp only [go_sem, reduceIte, ↓reduceIte, sevalprocAttr, Z0, Z1, bytesOf, eget_same, eget_ne, w1]
        have r3 : eget L' 3 = .ptr 1 0 := by rw [hL' 3 (by simp)]; simp only [go_sem, reduceIte, ↓reduceIte, sevalprocAttr, Z0, Z1, bytesOf, eget_same, eget_ne, w3]
        have r4 : eget L' 4 = .gs 2 0 0 0 := by rw [hL' 4 (by simp)]; simp only [go_sem, reduceIte, ↓reduceIte, sevalprocAttr, Z0, Z1, bytesOf, eget_same, eget_ne, w4]
        have r8 : eget L' 8 = .p (.i .i64 x) := by rw [hL' 8 (by simp)]; simp only [go_sem, reduceIte, ↓reduceIte, sevalprocAttr, Z0, Z1, bytesOf, eget_same, eget_ne, w8]
        simp only [go_sem, reduceIte, ↓reduceIte, sevalprocAttr, Z0, Z1, bytesOf, eget_same, eget_ne, eget_keep, r1, r3, r4, r8, h6', h7', ex]
        refine ⟨(x + 1, v4', v5', _, H'), ⟨⟨by simp only; omega, ?_, ?_, h4', ?_, by simp only; rw [List.length_append] at hl'; omega⟩, rfl, ?_, ?_, rfl⟩, by simp only; omega⟩
        · simp only
          rw [hvf]; exact hFz
        · simp only
          rw [hnm]; exact hM'
        · simp only
          rw [htk]
          refine RowsOk.snoc (hR.step (fun i o h1 h2 h3 => hk' i o (get_ext (kX _ _ h3) _) h2 (by omega) (by omega)) ?_) ?_
          · rw [List.length_append] at hl'; omega
          · rcases ho' with h | ⟨id, ver, h0, h1, h2, h3⟩
            · exact .inl h
            · exact .inr ⟨id, ver, by omega, h1, h2, h3⟩
        · simp
        · simp only [hnm, List.length_append]
  · have : x = g.types.length := by omega
    subst this
    have d1 : decide ((g.types.length : Int) < (g.types.length : Int)) = false := by simp
    rw [List.take_length] at hz hR
    simp only [go_sem, reduceIte, ↓reduceIte, sevalprocAttr, Z0, Z1, bytesOf, d1, hM.o1, q3, q6, eget_same, eget_ne]
    rw [set_get hM.o1]
    simp only [go_sem, reduceIte, ↓reduceIte, sevalprocAttr, Z0, Z1, bytesOf, eget_same, eget_ne, q6]
    rw [e, htf, hz, if_pos rfl]
    have := lent_out (hR.step (H' := SH.set 1 (.var [.p (.i .i64 0), .p (.i .i64 0)])) (fun i o h1 h2 h3 => get_set h3 (by omega)) (Nat.le_refl _)) (id := 4) (ver := v4) (get_set h4 (by omega))
    exact lent_tab (x := (tableV g.types, (0, 0))) this
end Go.Proofs.YtnelfbcgplooiaaGreat.Pg

/- THE SMALL CODES of functions 88, and their ties to the program (printed by wip/tools/mkties2.py). -/
set_option linter.all false
namespace Go.Proofs.YtnelfbcgplooiaaGreat.Mc
open Go.AM
/- slices.Grow[[]string,string] -/
def lv88 : List Nat := [0, 1, 4, 6, 16]
def mc88 : MC :=
.seq (.reg [
 iL 4 (.mv (.c (.p (.nl))))]) (
 .seq (.seq (.reg [
 iT 5 (.mv (.l 1)),
 iL 6 (.bin .lss (.t 5) (cI 0))]) (
 .cond (.l 6) (
 .reg [
 iN (.stop),
 iN (.stop)]) (
 .skip))) (
 .seq (.seq (.reg [
 iT 8 (.mv (.l 1)),
 iT 9 (.mv (.l 0)),
 iT 10 (.cap (.t 9)),
 iT 11 (.mv (.l 0)),
 iT 12 (.len false (.t 11)),
 iT 13 (.bin .sub (.t 10) (.t 12)),
 iT 14 (.bin .sub (.t 8) (.t 13)),
 iL 1 (.mv (.t 14))]) (
 .seq (.reg [
 iT 15 (.mv (.l 1)),
 iL 16 (.bin .gtr (.t 15) (cI 0))]) (
 .cond (.l 16) (
 .reg [
 iT 17 (.mv (.l 0)),
 iT 18 (.mv (.l 0)),
 iT 19 (.cap (.t 18)),
 iT 20 (.slc (some 1) (.t 17) none (some (.t 19))),
 iT 21 (.mv (.l 1)),
 iT 22 (.appz 1 16 (.t 20) (.t 21)),
 iT 23 (.mv (.l 0)),
 iT 24 (.len false (.t 23)),
 iT 25 (.slc (some 1) (.t 22) none (some (.t 24))),
 iL 0 (.mv (.t 25))]) (
 .skip)))) (
 .seq (.reg [
 iT 26 (.mv (.l 0)),
 iL 4 (.mv (.t 26))]) (
 .ret))))
theorem mc88_eq : (Tryz.f88.body.map (compile lv88 Tryz.prog 27)) = some mc88 := by kernel_rfl
def mr88 : List MR := [.t 4]
theorem mr88_eq : cRess lv88 Tryz.prog Tryz.f88.results.toList = some mr88 := by kernel_rfl
theorem call88 : CallT Tryz.prog 88 27 mc88 mr88 := acall_mc (by kernel_rfl) Tryz.func88 mc88_eq Tryz.ntmps88 (by kernel_rfl) mr88_eq
end Go.Proofs.YtnelfbcgplooiaaGreat.Mc

/- slices.Concat of words. -/
set_option linter.all false
namespace Go.Proofs.YtnelfbcgplooiaaGreat.Pg
open Go.AM Mc

theorem acall_weak {P : Program} {f : Nat} {xs bs : List AV} {H : List AO} {Q : AV → List AO → Prop} (h : ACall P f bs H Q) (hl : xs.length = bs.length) (hw : ∀ (j : Nat) a b, xs[j]? = some a → bs[j]? = some b → ∀ θ W v, ARel θ W a v → ARel θ W b v) : ACall P f xs H Q := by
  refine ⟨h.1, fun w θ W vs hSR hrel => h.2 w θ W vs hSR ⟨hrel.1.trans hl, fun j b v hb hv => ?_⟩⟩
  have hlt : j < xs.length := by rw [hl]; exact (List.getElem?_eq_some_iff.1 hb).1
  exact hw j xs[j] b (by simp [hlt]) hb _ _ _ (hrel.2 j xs[j] v (by simp [hlt]) hv)
theorem nl_weak : ∀ θ W v, ARel θ W (.p .nl) v → ARel θ W (.p (.l [])) v := by
  intro θ W v hv
  cases hv.p_inv
  exact .p _ _ (.l [] none 0 0 (fun _ _ => undef) (Nat.le_refl _) (Nat.zero_le _) (fun _ => rfl) (fun _ x hx => by cases hx) (fun r hr => by cases hr) (fun i r j q hi => by simp at hi) (fun i r j q hi => by simp at hi))
theorem growC (n : Nat) (hn : n ≤ 4398046511104) (H : List AO) : ACall Tryz.prog 88 [.p .nl, .p (.i .i64 n)] H (fun r H' => ∃ A, H' = H ++ A ∧ OwnR H' r 1 []) := by
  refine call88 (by simp) ?_
  have h0 : decide ((n : Int) < 0) = false := by simp
  have h1 : wr .i64 (0 : Int) = 0 := by decide
  have h2 : wr .i64 ((n : Int) - 0) = n := by rw [wr64 (by omega) (by omega)]; omega
  by_cases hz : n = 0
  · subst hz
    simp only [go_sem, reduceIte, ↓reduceIte, sevalprocAttr, Z0, Z1, bytesOf, mc88, mr88, h0, h1, h2]
    exact ⟨[], by simp, .inl ⟨rfl, rfl⟩⟩
  · have h3 : decide ((0 : Int) < (n : Int)) = true := by simp; omega
    have h4 : ((0 : Int) < (n : Int)) := by omega
    simp only [go_sem, reduceIte, ↓reduceIte, sevalprocAttr, Z0, Z1, bytesOf, mc88, mr88, h0, h1, h2, h3]
    exact ⟨h4, by omega, by omega, _, rfl, .inr ⟨H.length, 0, rfl, by simp⟩⟩
def listsC (ss : List (List (List UInt8))) : List (List PV) := ss.map fun s => [.l (namesC s)]
theorem listsC_len (ss) : (listsC ss).length = ss.length := by simp [listsC]
theorem listsC_get {ss : List (List (List UInt8))} {x : Nat} (h : x < ss.length) : (listsC ss)[x]? = some [.l (namesC ss[x])] := by simp [listsC, h]
theorem flat_step {α : Type} {l : List (List α)} {x : Nat} (h : x < l.length) : (l.take (x + 1)).flatten = (l.take x).flatten ++ l[x] := by
  rw [List.take_succ, List.getElem?_eq_getElem h, List.flatten_append]; simp
theorem flat_le {α : Type} (l : List (List α)) (x : Nat) : (l.take x).flatten.length ≤ l.flatten.length := by
  conv => rhs; rw [← List.take_append_drop x l, List.flatten_append, List.length_append]
  omega
theorem concat0 (ss : List (List (List UInt8))) (hb : ss.flatten.length ≤ 4398046511104) : ACall Tryz.prog 54 [.p (.l (listsC ss))] [] (fun r H' => OwnR H' r 1 (nmR ss.flatten)) := by
  refine call54 (by simp) ?_
  simp only [go_sem, reduceIte, ↓reduceIte, sevalprocAttr, Z0, Z1, bytesOf, mc54, mr54, listsC_len]
  intro hl
  rw [maxLe] at hl
  refine ⟨Nat, [0, 3, 9, 10, 11], fun x st => x ≤ ss.length ∧ st = ⟨[(0, .p (.l (listsC ss))), (3, .p (.i .i64 (ss.take x).flatten.length)), (9, .p (.l (listsC ss))), (10, .p (.i .i64 ss.length)), (11, .p (.i .i64 x))], [], []⟩, fun x => ss.length - x, ⟨0, Nat.zero_le _, rfl⟩, ?_⟩
  rintro x _ ⟨hx, rfl⟩
  by_cases hlt : x < ss.length
  · have d1 : decide ((x : Int) < (ss.length : Int)) = true := by simp; omega
    have hlt' : ((x : Int) < (ss.length : Int)) := by omega
    have ex := wrN x (by omega)
    have hg := listsC_get hlt
    have hfs := flat_step hlt
    have hfl := flat_le ss (x + 1)
    rw [hfs, List.length_append] at hfl
    have hfs' := congrArg List.length hfs
    rw [List.length_append] at hfs'
    generalize ss[x] = s at hg hfl hfs'
    have ew : wr .i64 (((ss.take x).flatten.length : Int) + (s.length : Int)) = (((ss.take (x + 1)).flatten.length : Nat) : Int) := by rw [wr64 (by omega) (by omega), hfs']; omega
    have hnn : decide ((((ss.take (x + 1)).flatten.length : Nat) : Int) < 0) = false := by simp
    simp only [go_sem, reduceIte, ↓reduceIte, sevalprocAttr, Z0, Z1, bytesOf, d1, hlt', hg, listsC_len, namesC_len]
    intro _
    simp only [go_sem, reduceIte, ↓reduceIte, sevalprocAttr, Z0, Z1, bytesOf, ew, hnn, ex]
    exact ⟨x + 1, ⟨by omega, rfl⟩, by omega⟩
  have : x = ss.length := by omega
  subst this
  have d1 : decide ((ss.length : Int) < (ss.length : Int)) = false := by simp
  rw [List.take_length]
  simp only [go_sem, reduceIte, ↓reduceIte, sevalprocAttr, Z0, Z1, bytesOf, d1]
  refine (growC ss.flatten.length hb _).mono ?_
  rintro r H' ⟨A, rfl, ho⟩
  simp only [go_sem, reduceIte, ↓reduceIte, sevalprocAttr, Z0, Z1, bytesOf, listsC_len]
  intro _
  refine ⟨Nat × AV × List AO, [6, 25, 26, 27], fun x st => (x.1 ≤ ss.length ∧ OwnR x.2.2 x.2.1 1 (nmR (ss.take x.1).flatten)) ∧ st = ⟨[(6, x.2.1), (25, .p (.l (listsC ss))), (26, .p (.i .i64 ss.length)), (27, .p (.i .i64 x.1))], [], x.2.2⟩, fun x => ss.length - x.1, ⟨(0, r, _), ⟨Nat.zero_le _, ho⟩, rfl⟩, ?_⟩
  rintro ⟨x, v, HG⟩ _ ⟨⟨hx, hown⟩, rfl⟩
  simp only at hx hown
  by_cases hlt : x < ss.length
  · have d1 : decide ((x : Int) < (ss.length : Int)) = true := by simp; omega
    have hlt' : ((x : Int) < (ss.length : Int)) := by omega
    have ex := wrN x (by omega)
    have hg := listsC_get hlt
    have hfs := flat_step hlt
    have hfl := flat_le ss (x + 1)
    rw [hfs, List.length_append] at hfl
    generalize ss[x] = s at hg hfl hfs
    have e1 : (namesC s).map (fun y => y.map AV.p) = nmR s := nmR_eq s
    have l1 : (nmR (ss.take x).flatten).length = (ss.take x).flatten.length := List.length_map _
    have l2 : (nmR s).length = s.length := List.length_map _
    simp only [go_sem, reduceIte, ↓reduceIte, sevalprocAttr, Z0, Z1, bytesOf, d1, hlt', hg, listsC_len, e1]
    refine ⟨by intro r hr; simp [nmR] at hr; obtain ⟨a, _, rfl⟩ := hr; rfl, ?_⟩
    refine app_fr hown (by rw [l1, l2]; omega) (by rw [l1, l2]; omega) ?_
    intro id ver H2 hid hside hkeep hlen
    simp only [go_sem, reduceIte, ↓reduceIte, sevalprocAttr, Z0, Z1, bytesOf, ex]
    refine ⟨(x + 1, _, H2), ⟨⟨by omega, ?_⟩, rfl⟩, by simp only; omega⟩
    simp only
    rw [hfs, nmR_app]
    exact .inr ⟨id, ver, by rw [List.length_append], hid⟩
  have : x = ss.length := by omega
  subst this
  have d1 : decide ((ss.length : Int) < (ss.length : Int)) = false := by simp
  rw [List.take_length] at hown
  simp only [go_sem, reduceIte, ↓reduceIte, sevalprocAttr, Z0, Z1, bytesOf, d1]
  exact hown
theorem concatC {ss : List (List (List UInt8))} (hb : ss.flatten.length ≤ 4398046511104) {H : List AO} {x : AV} (hx : Lent H x (.p (.l (listsC ss)))) :
    ACall Tryz.prog 54 [x] H (pureQ (.p (.l (namesC ss.flatten))) H) := by
  refine acall_drop1 (acall_kill (acall_ownAt (concat0 ss hb) (lentAll_cons hx (lentAll_nil _)) ?_) ?_) (tf_p _)
  · intro r hr c hc
    obtain ⟨s, _, rfl⟩ := List.mem_map.1 hr
    simp only [List.mem_cons, List.not_mem_nil, or_false] at hc
    subst hc
    exact grnd_s _
  · rintro r H' ⟨A, rfl, ho⟩
    rcases ho with ⟨rfl, hk⟩ | ⟨id, ver, h0, h1, rfl, h2⟩
    · have : ss.flatten = [] := by simpa [nmR] using hk
      exact .inl ⟨_, .nl, by rw [this]; rfl, _, rfl⟩
    · rw [← nmR_eq] at h2 ⊢
      refine .inr ⟨id, _, _, h2, tfO_rows _ _ _, ?_, rfl, _, List.set_append_right _ _ h0⟩
      rw [List.length_map]
      exact lent_one (by intro y hy; obtain ⟨a, _, rfl⟩ := List.mem_map.1 hy; rfl)
end Go.Proofs.YtnelfbcgplooiaaGreat.Pg

/- Constructors are found, by both. -/
set_option linter.all false
namespace Go.Proofs.YtnelfbcgplooiaaGreat.Pg
open Go.AM Mc

theorem findK_F (s : List UInt8) (l : List InfoC) : idxF (fun c => decide (c.name = s)) l = findK s l := by
  induction l with
  | nil => rfl
  | cons c l ih =>
    simp only [idxF, findK, ih, decide_eq_true_eq]
def findI (s : List UInt8) (l : List InfoD) : Int × Int := match findC s l with | .none => (-1, -1) | some x => ((x.1 : Int), (x.2.1 : Int))
def fiAV (x : Int × Int) : AV := .tup [.p (.i .i64 x.1), .p (.i .i64 x.2)]
theorem tf_fi (x) : Tf (fiAV x) := tf_tup _ (by intro c hc; simp at hc; rcases hc with rfl | rfl <;> exact tf_p _)
theorem findC_drop {s : List UInt8} {l : List InfoD} {x : Nat} (h : x < l.length) : findC s (l.drop x) = match findK s l[x].ctors with
    | some k => some (0, k, ((l[x].ctors[k]?).map InfoC.has).getD false)
    | .none => (findC s (l.drop (x + 1))).map fun y => (y.1 + 1, y.2) := by
  rw [List.drop_eq_getElem_cons h, findC]
  rfl
theorem findK_get {s : List UInt8} {l : List InfoC} {k : Nat} (h : findK s l = some k) : ∃ c, l[k]? = some c := by
  induction l generalizing k with
  | nil => cases h
  | cons c l ih =>
    simp only [findK] at h
    split at h
    · cases h; exact ⟨c, rfl⟩
    · obtain ⟨k', hk, rfl⟩ := Option.map_eq_some_iff.1 h
      exact ih hk
theorem findC_get {s : List UInt8} {l : List InfoD} {x : Nat × Nat × Bool} (h : findC s l = some x) : ∃ d c, l[x.1]? = some d ∧ d.ctors[x.2.1]? = some c ∧ c.has = x.2.2 := by
  induction l generalizing x with
  | nil => cases h
  | cons d l ih =>
    simp only [findC] at h
    split at h
    · rename_i k hk
      cases h
      obtain ⟨c, hc⟩ := findK_get hk
      exact ⟨d, c, rfl, hc, by simp [hc]⟩
    · obtain ⟨y, hy, rfl⟩ := Option.map_eq_some_iff.1 h
      exact ih hy
theorem findFn {s : List UInt8} {H : List AO} {i : Nat} (hi : H[i]? = some (.var [.p (.s s)])) (c : InfoC) : ACall Tryz.prog 118 [av c.cells, .ptr i 0] H (pureQ (.p (.b (decide (c.name = s)))) H) := by
  obtain ⟨cn, ch, ⟨k, n, m, ks⟩⟩ := c
  have hiX := fun A => get_ext hi A
  refine acall_drop1 ?_ (tf_p _)
  refine call118 (by simp) ?_
  simp only [go_sem, reduceIte, ↓reduceIte, sevalprocAttr, Z0, Z1, bytesOf, mc118, mr118, InfoC.cells, TyD.cells, hiX]
  exact ⟨_, rfl⟩
theorem idxFI_K (s : List UInt8) (l : List InfoC) : idxFI (fun c => decide (c.name = s)) l = match findK s l with | .none => -1 | some k => (k : Int) := by
  unfold idxFI
  rw [findK_F]
  cases findK s l <;> rfl
theorem findCtorC (l : List InfoD) (s : List UInt8) (H : List AO) : ACall Tryz.prog 87 [.p (.l (l.map InfoD.cells)), .p (.s s)] H (pureQ (fiAV (findI s l)) H) := by
  refine acall_drop1 ?_ (tf_fi _)
  refine call87 (by simp) ?_
  simp only [go_sem, reduceIte, ↓reduceIte, sevalprocAttr, Z0, Z1, bytesOf, mc87, mr87, List.length_map]
  intro hl
  rw [maxLe] at hl
  refine ⟨Nat × List AO, [0, 3, 9, 10, 11], fun x st => (x.1 ≤ l.length ∧ findC s l = (findC s (l.drop x.1)).map (fun y => (x.1 + y.1, y.2)) ∧ x.2[H.length]? = some (.var [.p (.s s)]) ∧ ∃ G, x.2 = H ++ G) ∧ st = ⟨[(0, .p (.l (l.map InfoD.cells))), (3, .ptr H.length 0), (9, .p (.l (l.map InfoD.cells))), (10, .p (.i .i64 l.length)), (11, .p (.i .i64 x.1))], [], x.2⟩, fun x => l.length - x.1, ⟨(0, H ++ [.var [.p (.s s)]]), ⟨Nat.zero_le _, ?_, by rw [get_off0]; rfl, _, rfl⟩, rfl⟩, ?_⟩
  · simp
  rintro ⟨x, HG⟩ _ ⟨⟨hx, hv, hg0, G, hG⟩, rfl⟩
  simp only at hx hv hg0 hG
  by_cases hlt : x < l.length
  · have d1 : decide ((x : Int) < (l.length : Int)) = true := by simp; omega
    have hlt' : ((x : Int) < (l.length : Int)) := by omega
    have ex := wrN x (by omega)
    have hg : (l.map InfoD.cells)[x]? = some (InfoD.cells l[x]) := by simp [hlt]
    rw [findC_drop hlt] at hv
    generalize l[x] = d at hg hv
    obtain ⟨dn, dv, dc⟩ := d
    simp only at hv
    simp only [go_sem, reduceIte, ↓reduceIte, sevalprocAttr, Z0, Z1, bytesOf, d1, hlt', hg, InfoD.cells, List.length_map]
    have hgX := get_ext hg0 [AO.var [.p (.s dn), .p (.i .i64 dv), .p (.l (dc.map InfoC.cells))]]
    refine acall_pure (indexF_CtorInfo (l := dc) (g := fun c => decide (c.name = s)) (f := 118) (caps := [.ptr H.length 0]) fun c _ => findFn hgX c) ?_
    rw [idxFI_K]
    cases hk : findK s dc with
    | none =>
      rw [hk] at hv
      simp only [go_sem, reduceIte, ↓reduceIte, sevalprocAttr, Z0, Z1, bytesOf, ex]
      refine ⟨(x + 1, HG ++ _), ⟨⟨by simp only; omega, ?_, hgX, _, by rw [hG, List.append_assoc]⟩, rfl⟩, by simp only; omega⟩
      simp only
      rw [hv, Option.map_map]
      congr 1
      funext y
      simp only [Function.comp]
      congr 1
      omega
    | some k =>
      rw [hk] at hv
      have h0 : decide ((0 : Int) ≤ (k : Int)) = true := by simp
      have e : findI s l = ((x : Int), (k : Int)) := by unfold findI; rw [hv]; rfl
      simp only [go_sem, reduceIte, ↓reduceIte, sevalprocAttr, Z0, Z1, bytesOf, h0]
      rw [e]
      exact ⟨rfl, _, by rw [hG, List.append_assoc]⟩
  · have : x = l.length := by omega
    subst this
    have d1 : decide ((l.length : Int) < (l.length : Int)) = false := by simp
    rw [List.drop_length] at hv
    have e : findI s l = (-1, -1) := by unfold findI; rw [hv]; rfl
    simp only [go_sem, reduceIte, ↓reduceIte, sevalprocAttr, Z0, Z1, bytesOf, d1]
    rw [e]
    exact ⟨rfl, _, hG⟩
theorem findCtorS (l : List InfoD) (s : List UInt8) (H : List AO) : ACall Tryz.prog 83 [.p (.l (l.map InfoD.cells)), .p (.s s)] H (pureQ (fiAV (findI s l)) H) := by
  refine call83 (by simp) ?_
  simp only [go_sem, reduceIte, ↓reduceIte, sevalprocAttr, Z0, Z1, bytesOf, mc83, mr83]
  refine ⟨Nat, [0, 1, 6], fun x st => (x ≤ l.length ∧ findC s l = (findC s (l.drop x)).map (fun y => (x + y.1, y.2))) ∧ st = ⟨[(0, .p (.l (l.map InfoD.cells))), (1, .p (.s s)), (6, .p (.i .i64 x))], [], H⟩, fun x => l.length - x, ⟨0, ?_⟩, ?_⟩
  · simp only [go_sem, reduceIte, ↓reduceIte, sevalprocAttr, Z0, Z1, bytesOf, List.drop_zero]
    exact ⟨Nat.zero_le _, by simp⟩
  rintro x _ ⟨⟨hx, hv⟩, rfl⟩
  simp only [go_sem, reduceIte, ↓reduceIte, sevalprocAttr, Z0, Z1, bytesOf, List.length_map]
  intro hl
  rw [maxLe] at hl
  by_cases hlt : x < l.length
  · have d1 : decide ((x : Int) < (l.length : Int)) = true := by simp; omega
    have hlt' : ((x : Int) < (l.length : Int)) := by omega
    have ex := wrN x (by omega)
    have hg : (l.map InfoD.cells)[x]? = some (InfoD.cells l[x]) := by simp [hlt]
    rw [findC_drop hlt] at hv
    generalize l[x] = d at hg hv
    obtain ⟨dn, dv, dc⟩ := d
    simp only at hv
    simp only [go_sem, reduceIte, ↓reduceIte, sevalprocAttr, Z0, Z1, bytesOf, d1]
    refine ⟨Nat, [0, 1, 6, 7], fun y st => (y ≤ dc.length ∧ findK s dc = (findK s (dc.drop y)).map (y + ·)) ∧ st = ⟨[(0, .p (.l (l.map InfoD.cells))), (1, .p (.s s)), (6, .p (.i .i64 x)), (7, .p (.i .i64 y))], [], H⟩, fun y => dc.length - y, ⟨0, ?_⟩, ?_⟩
    · simp only [go_sem, reduceIte, ↓reduceIte, sevalprocAttr, Z0, Z1, bytesOf, List.drop_zero]
      exact ⟨Nat.zero_le _, by simp⟩
    rintro y _ ⟨⟨hy, hkv⟩, rfl⟩
    simp only [go_sem, reduceIte, ↓reduceIte, sevalprocAttr, Z0, Z1, bytesOf, hlt', hg, InfoD.cells, List.length_map]
    intro hl2
    rw [maxLe] at hl2
    by_cases hyl : y < dc.length
    · have d2 : decide ((y : Int) < (dc.length : Int)) = true := by simp; omega
      have hyl' : ((y : Int) < (dc.length : Int)) := by omega
      have ey := wrN y (by omega)
      have hg2 : (dc.map InfoC.cells)[y]? = some (InfoC.cells dc[y]) := by simp [hyl]
      rw [List.drop_eq_getElem_cons hyl, findK] at hkv
      generalize dc[y] = c at hg2 hkv
      obtain ⟨cn, ch, ⟨k, n, m, ks⟩⟩ := c
      simp only at hkv
      simp only [go_sem, reduceIte, ↓reduceIte, sevalprocAttr, Z0, Z1, bytesOf, d2, hlt', hg, hyl', hg2, InfoD.cells, InfoC.cells, TyD.cells, List.length_map]
      by_cases hc : cn = s
      · rw [if_pos hc] at hkv
        have hkv' : findK s dc = some y := by rw [hkv]; simp
        rw [hkv'] at hv
        have e : findI s l = ((x : Int), (y : Int)) := by unfold findI; rw [hv]; rfl
        simp only [go_sem, reduceIte, ↓reduceIte, sevalprocAttr, Z0, Z1, bytesOf, dT hc]
        rw [e]
        exact ⟨rfl, rfl⟩
      · rw [if_neg hc] at hkv
        simp only [go_sem, reduceIte, ↓reduceIte, sevalprocAttr, Z0, Z1, bytesOf, dF hc, ey]
        refine ⟨y + 1, ⟨⟨by omega, ?_⟩, rfl⟩, by omega⟩
        rw [hkv, Option.map_map]
        congr 1
        funext z
        simp only [Function.comp]
        omega
    · have : y = dc.length := by omega
      subst this
      have d2 : decide ((dc.length : Int) < (dc.length : Int)) = false := by simp
      rw [List.drop_length] at hkv
      have hkv' : findK s dc = .none := by rw [hkv]; rfl
      rw [hkv'] at hv
      simp only [go_sem, reduceIte, ↓reduceIte, sevalprocAttr, Z0, Z1, bytesOf, d2, ex]
      refine ⟨x + 1, ⟨⟨by omega, ?_⟩, rfl⟩, by omega⟩
      rw [hv, Option.map_map]
      congr 1
      funext y
      simp only [Function.comp]
      congr 1
      omega
  · have : x = l.length := by omega
    subst this
    have d1 : decide ((l.length : Int) < (l.length : Int)) = false := by simp
    rw [List.drop_length] at hv
    have e : findI s l = (-1, -1) := by unfold findI; rw [hv]; rfl
    simp only [go_sem, reduceIte, ↓reduceIte, sevalprocAttr, Z0, Z1, bytesOf, d1]
    rw [e]
    exact ⟨rfl, rfl⟩
end Go.Proofs.YtnelfbcgplooiaaGreat.Pg

/- The looker for names: its smaller methods; the reference's. -/
set_option linter.all false
namespace Go.Proofs.YtnelfbcgplooiaaGreat.Pg
open Go.AM Mc

def scO (infos : List InfoD) (f : Ft) : AO := .var [.p (.l (infos.map InfoD.cells)), .p (.i .i64 f.1), .p (.i .i64 f.2)]
theorem scO_in {infos : List InfoD} {f f' : Ft} : ∀ c, InO c (scO infos f') → Tf c ∨ InO c (scO infos f) := by
  intro c hc
  simp only [scO, InO, List.mem_cons, List.not_mem_nil, or_false] at hc
  rcases hc with rfl | rfl | rfl <;> exact .inl (tf_p _)
theorem failS {infos : List InfoD} {f : Ft} {H : List AO} {j : Nat} (hj : H[j]? = some (scO infos f)) (c q : Int) :
    ACall Tryz.prog 52 [.ptr j 0, .p (.i .i64 c), .p (.i .i64 q)] H (pureQ (.tup []) (H.set j (scO infos (firstF f (c, q))))) := by
  obtain ⟨f1, f2⟩ := f
  have hv := hj
  simp only [scO] at hv
  refine call52 (by simp) ?_
  cases h1 : decide (f1 = 0)
  · have e : firstF (f1, f2) (c, q) = (f1, f2) := firstF_ne (of_decide_eq_false h1)
    simp only [go_sem, reduceIte, ↓reduceIte, sevalprocAttr, Z0, Z1, bytesOf, mc52, mr52, hv, h1]
    rw [e, set_id hj]
    exact ⟨rfl, rfl⟩
  · have e : firstF (f1, f2) (c, q) = (c, q) := by simp [firstF, of_decide_eq_true h1]
    rw [e]
    simp only [go_sem, reduceIte, ↓reduceIte, sevalprocAttr, Z0, Z1, bytesOf, mc52, mr52, hv, h1]
    exact ⟨rfl, rfl⟩
theorem ctorF_z (infos n nk p) : Fz (ctorF infos n nk p) := by
  unfold ctorF
  split
  · intro h; simp at h
  · split
    · intro _; rfl
    · intro h; simp at h
theorem ctorC {infos : List InfoD} {f : Ft} (hf : Fz f) {H : List AO} {j : Nat} (hj : H[j]? = some (scO infos f)) (n : List UInt8) (nk : Nat) (p : Int) :
    ACall Tryz.prog 53 [.ptr j 0, .p (.s n), .p (.i .i64 nk), .p (.i .i64 p)] H (pureQ (.tup []) (H.set j (scO infos (firstF f (ctorF infos n nk p))))) := by
  have hv := hj
  simp only [scO] at hv
  refine call53 (by simp) ?_
  simp only [go_sem, reduceIte, ↓reduceIte, sevalprocAttr, Z0, Z1, bytesOf, mc53, mr53, hv]
  refine acall_pure (findCtorC infos n _) ?_
  cases hc : findC n infos with
  | none =>
    have e : findI n infos = (-1, -1) := by unfold findI; rw [hc]
    have e2 : ctorF infos n nk p = (28, p) := by unfold ctorF; rw [hc]
    simp only [go_sem, reduceIte, ↓reduceIte, sevalprocAttr, Z0, Z1, bytesOf, fiAV, e]
    refine acall_pure (failS hj 28 p) ?_
    simp only [go_sem, reduceIte, ↓reduceIte, sevalprocAttr, Z0, Z1, bytesOf]
    rw [e2]
    exact ⟨rfl, rfl⟩
  | some x =>
    obtain ⟨i, k, h⟩ := x
    have e : findI n infos = ((i : Int), (k : Int)) := by unfold findI; rw [hc]
    have e2 : ctorF infos n nk p = if h = decide (0 < nk) then (0, 0) else (29, p) := by unfold ctorF; rw [hc]
    obtain ⟨d, c, h1, h2, h3⟩ := findC_get hc
    simp only at h1 h2 h3
    have hil : ((i : Int) < (infos.length : Int)) := by have := (List.getElem?_eq_some_iff.1 h1).1; omega
    have hkl : ((k : Int) < (d.ctors.length : Int)) := by have := (List.getElem?_eq_some_iff.1 h2).1; omega
    have hg1 : (infos.map InfoD.cells)[i]? = some d.cells := by rw [List.getElem?_map, h1]; rfl
    have hg2 : (d.ctors.map InfoC.cells)[k]? = some c.cells := by rw [List.getElem?_map, h2]; rfl
    have h0 : decide ((i : Int) < 0) = false := by simp
    obtain ⟨dn, dv, dc⟩ := d
    obtain ⟨cn, ch, ⟨ck, cN, cS, cks⟩⟩ := c
    simp only at h3 hkl hg2
    subst h3
    simp only [go_sem, reduceIte, ↓reduceIte, sevalprocAttr, Z0, Z1, bytesOf, fiAV, e, h0, hv, hil, hkl, hg1, hg2, InfoD.cells, InfoC.cells, TyD.cells, List.length_map, dPos]
    rw [e2]
    by_cases hq : ch = decide (0 < nk)
    · have hb : (ch == decide (0 < nk)) = true := by simp [hq]
      rw [if_pos hq, firstF_r hf, set_id hj]
      simp only [go_sem, reduceIte, ↓reduceIte, sevalprocAttr, Z0, Z1, bytesOf, hb, Bool.not_true]
      exact ⟨rfl, rfl⟩
    · have hb : (ch == decide (0 < nk)) = false := by simpa using hq
      rw [if_neg hq]
      simp only [go_sem, reduceIte, ↓reduceIte, sevalprocAttr, Z0, Z1, bytesOf, hb, Bool.not_false]
      refine acall_pure (failS hj 29 p) ?_
      simp only [go_sem, reduceIte, ↓reduceIte, sevalprocAttr, Z0, Z1, bytesOf]
      exact ⟨rfl, rfl⟩
theorem ctorFaultS {infos : List InfoD} (n : List UInt8) (nk : Nat) (hn : nk ≤ 1) (p : Int) (H : List AO) :
    ACall Tryz.prog 46 [.p (.l (infos.map InfoD.cells)), .p (.s n), .p (.i .i64 nk), .p (.i .i64 p)] H (pureQ (av (ctorF infos n nk p).cells) H) := by
  refine acall_drop1 ?_ (tf_av _)
  refine call46 (by simp) ?_
  simp only [go_sem, reduceIte, ↓reduceIte, sevalprocAttr, Z0, Z1, bytesOf, mc46, mr46]
  refine acall_pure (findCtorS infos n _) ?_
  cases hc : findC n infos with
  | none =>
    have e : findI n infos = (-1, -1) := by unfold findI; rw [hc]
    have e2 : ctorF infos n nk p = (28, p) := by unfold ctorF; rw [hc]
    simp only [go_sem, reduceIte, ↓reduceIte, sevalprocAttr, Z0, Z1, bytesOf, fiAV, e]
    rw [e2]
    exact ⟨rfl, _, rfl⟩
  | some x =>
    obtain ⟨i, k, h⟩ := x
    have e : findI n infos = ((i : Int), (k : Int)) := by unfold findI; rw [hc]
    have e2 : ctorF infos n nk p = if h = decide (0 < nk) then (0, 0) else (29, p) := by unfold ctorF; rw [hc]
    obtain ⟨d, c, h1, h2, h3⟩ := findC_get hc
    simp only at h1 h2 h3
    have hil : ((i : Int) < (infos.length : Int)) := by have := (List.getElem?_eq_some_iff.1 h1).1; omega
    have hkl : ((k : Int) < (d.ctors.length : Int)) := by have := (List.getElem?_eq_some_iff.1 h2).1; omega
    have hg1 : (infos.map InfoD.cells)[i]? = some d.cells := by rw [List.getElem?_map, h1]; rfl
    have hg2 : (d.ctors.map InfoC.cells)[k]? = some c.cells := by rw [List.getElem?_map, h2]; rfl
    have h0 : decide ((i : Int) < 0) = false := by simp
    have hnk : decide (0 < nk) = decide (nk = 1) := by rw [decide_eq_decide]; omega
    obtain ⟨dn, dv, dc⟩ := d
    obtain ⟨cn, ch, ⟨ck, cN, cS, cks⟩⟩ := c
    simp only at h3 hkl hg2
    subst h3
    simp only [go_sem, reduceIte, ↓reduceIte, sevalprocAttr, Z0, Z1, bytesOf, fiAV, e, h0, hil, hkl, hg1, hg2, InfoD.cells, InfoC.cells, TyD.cells, List.length_map, dE1]
    rw [e2, hnk]
    by_cases hq : ch = decide (nk = 1)
    · have hb : (ch == decide (nk = 1)) = true := by simp [hq]
      rw [if_pos hq]
      simp only [go_sem, reduceIte, ↓reduceIte, sevalprocAttr, Z0, Z1, bytesOf, hb, Bool.not_true]
      exact ⟨rfl, _, rfl⟩
    · have hb : (ch == decide (nk = 1)) = false := by simpa using hq
      rw [if_neg hq]
      simp only [go_sem, reduceIte, ↓reduceIte, sevalprocAttr, Z0, Z1, bytesOf, hb, Bool.not_false]
      exact ⟨rfl, _, rfl⟩
end Go.Proofs.YtnelfbcgplooiaaGreat.Pg

/- The looker for names: patterns. -/
set_option linter.all false
namespace Go.Proofs.YtnelfbcgplooiaaGreat.Pg
open Go.AM Mc

mutual
theorem PatD.boundLen : ∀ (p : PatD), p.bound.length ≤ p.sz + 1
  | .mk k n u q ks => by
    have := PatD.boundLenL ks
    rw [PatD.bound, PatD.sz, List.length_append]
    split
    · simp; omega
    · simp; omega
theorem PatD.boundLenL : ∀ (l : List PatD), (PatD.boundL l).length ≤ PatD.szL l
  | [] => by simp [PatD.boundL]
  | t :: l => by
    have h1 := PatD.boundLen t
    have h2 := PatD.boundLenL l
    rw [PatD.boundL, PatD.szL, List.length_append]
    omega
end
theorem boundL_step {l : List PatD} {x : Nat} (h : x < l.length) : PatD.boundL (l.take (x + 1)) = PatD.boundL (l.take x) ++ l[x].bound := by
  induction l generalizing x with
  | nil => simp at h
  | cons t l ih =>
    cases x with
    | zero => simp [PatD.boundL]
    | succ x => simp only [List.take_succ_cons, PatD.boundL, List.getElem_cons_succ, ih (by simpa using h), List.append_assoc]
mutual
theorem PatD.ft_z (infos : List InfoD) : ∀ (names : List (List UInt8)) (p : PatD), Fz (p.ft infos names)
  | names, .mk k n u q ks => by
    rw [PatD.ft]
    refine firstF_zz (a := ite _ _ _) ?_ (PatD.ftL_z infos _ ks)
    split
    · split
      · intro h; simp at h
      · intro _; rfl
    · split
      · exact ctorF_z _ _ _ _
      · intro _; rfl
theorem PatD.ftL_z (infos : List InfoD) : ∀ (names : List (List UInt8)) (l : List PatD), Fz (PatD.ftL infos names l)
  | names, [] => by rw [PatD.ftL]; intro _; rfl
  | names, t :: l => by
    rw [PatD.ftL]
    exact firstF_zz (PatD.ft_z infos names t) (PatD.ftL_z infos _ l)
end
theorem pftL_step {infos : List InfoD} {l : List PatD} : ∀ {names : List (List UInt8)} {x : Nat} (h : x < l.length), PatD.ftL infos names (l.take (x + 1)) = firstF (PatD.ftL infos names (l.take x)) (l[x].ft infos (names ++ PatD.boundL (l.take x))) := by
  induction l with
  | nil => intro names x h; simp at h
  | cons t l ih =>
    intro names x h
    cases x with
    | zero =>
      simp only [List.take_succ_cons, List.take_zero, PatD.ftL, PatD.boundL, List.getElem_cons_zero, firstF_z, List.append_nil]
      exact firstF_r (PatD.ft_z infos names t)
    | succ x =>
      simp only [List.take_succ_cons, PatD.ftL, PatD.boundL, List.getElem_cons_succ]
      rw [ih (by simpa using h), firstF_assoc, List.append_assoc]
theorem pftL_none {infos : List InfoD} {l : List PatD} : ∀ {names : List (List UInt8)} {x : Nat} (h : (PatD.ftL infos names (l.take x)).1 ≠ 0), PatD.ftL infos names l = PatD.ftL infos names (l.take x) := by
  induction l with
  | nil => intro names x h; simp
  | cons t l ih =>
    intro names x h
    cases x with
    | zero => simp [PatD.ftL] at h
    | succ x =>
      simp only [List.take_succ_cons, PatD.ftL] at h ⊢
      by_cases e : (t.ft infos names).1 = 0
      · simp only [firstF, e, if_true] at h ⊢
        exact ih h
      · rw [firstF_ne e, firstF_ne e]
/-- the looker at work -/
structure ScS (infos : List InfoD) (H0 H : List AO) (j : Nat) (a0 a : AV) (names : List (List UInt8)) (f : Ft) : Prop where
  hj : j < H0.length
  mkr : H[j]? = some (scO infos f)
  own : OwnR H a 1 (nmR names)
  len : H0.length ≤ H.length
  keep : ∀ (i : Nat) o, H0[i]? = some o → i ≠ j → (∀ v q n, a0 ≠ .gs i v q n) → H[i]? = some o
  id : ∀ id v q n, a = .gs id v q n → H0.length ≤ id ∨ ∃ v' q' n', a0 = .gs id v' q' n'
  z : Fz f
section
variable {infos : List InfoD} {H0 H H' : List AO} {j : Nat} {a0 a : AV} {names : List (List UInt8)} {f f' : Ft}
theorem scO_ne (h : H[j]? = some (scO infos f)) (ho : OwnR H a 1 (nmR names)) : ∀ v q n, a ≠ .gs j v q n := ownR_ne ho h
theorem ScS.refl (hj : H[j]? = some (scO infos f)) (ho : OwnR H a 1 (nmR names)) (hz : Fz f) : ScS infos H H j a a names f :=
  ⟨get_lt hj, hj, ho, Nat.le_refl _, fun _ _ h _ _ => h, fun _ _ _ _ h => .inr ⟨_, _, _, h⟩, hz⟩
theorem ScS.ext (h : ScS infos H0 H j a0 a names f) (A : List AO) : ScS infos H0 (H ++ A) j a0 a names f :=
  ⟨h.hj, get_ext h.mkr A, h.own.ext, by rw [List.length_append]; have := h.len; omega, fun i o hi h1 h2 => get_ext (h.keep i o hi h1 h2) A, h.id, h.z⟩
theorem ScS.fail (h : ScS infos H0 H j a0 a names f) (hz : Fz f') : ScS infos H0 (H.set j (scO infos f')) j a0 a names f' :=
  ⟨h.hj, set_get h.mkr, ownR_setVar h.own h.mkr, by simpa using h.len, fun i o hi hne hna => get_set (h.keep i o hi hne hna) (Ne.symm hne), h.id, hz⟩
theorem ScS.trans {H1 : List AO} {a1 : AV} {n1 : List (List UInt8)} {f1 : Ft} (h : ScS infos H0 H1 j a0 a1 n1 f1) (h2 : ScS infos H1 H' j a1 a names f) : ScS infos H0 H' j a0 a names f :=
  ⟨h.hj, h2.mkr, h2.own, Nat.le_trans h.len h2.len, fun i o hi hne hna => h2.keep i o (h.keep i o hi hne hna) hne (fun v q n e => by
    rcases h.id i v q n e with h3 | ⟨v', q', n', h3⟩
    · have := get_lt hi; omega
    · exact hna _ _ _ h3), fun id v q n e => by
    rcases h2.id id v q n e with h3 | ⟨v', q', n', h3⟩
    · have := h.len; exact .inl (by omega)
    · exact h.id _ _ _ _ h3, h2.z⟩
/-- a name is bound -/
theorem ScS.name (h : ScS infos H0 H j a0 a names f) {X : List AO} {id ver n0 : Nat} {s : List UInt8} (hk : ∀ (i : Nat) o, H[i]? = some o → (∀ v q n, a ≠ .gs i v q n) → X[i]? = some o) (hx : X[id]? = some (.rows 1 ver (nmR (names ++ [s]))))
    (hs : (∃ v o n, a = .gs id v o n) ∨ H.length ≤ id) (hl : H.length ≤ X.length) (hn : n0 = (names ++ [s]).length) : ScS infos H0 X j a0 (.gs id ver 0 n0) (names ++ [s]) f := by
  subst hn
  refine ⟨h.hj, hk _ _ h.mkr (scO_ne h.mkr h.own), .inr ⟨id, ver, by rw [show (nmR (names ++ [s])).length = (names ++ [s]).length from List.length_map _], hx⟩, Nat.le_trans h.len hl, ?_, ?_, h.z⟩
  · intro i o hi hne hna
    refine hk _ _ (h.keep i o hi hne hna) ?_
    intro v q n e
    rcases h.id _ _ _ _ e with h' | ⟨_, _, _, h'⟩
    · have := get_lt hi; omega
    · exact hna _ _ _ h'
  · rintro i v q n e
    cases e
    rcases hs with ⟨_, _, _, e⟩ | h'
    · exact h.id _ _ _ _ e
    · exact .inl (Nat.le_trans h.len h')
end
def PatC (infos : List InfoD) (p : PatD) : Prop := ∀ (f : Ft) (H : List AO) (j : Nat) (nv : AV) (names : List (List UInt8)), Fz f → H[j]? = some (scO infos f) → OwnR H nv 1 (nmR names) → names.length + p.sz + 2 ≤ 4194304 →
  ACall Tryz.prog 56 [.ptr j 0, av p.cells, nv] H (fun r H' => ScS infos H H' j nv r (names ++ p.bound) (firstF f (p.ft infos names)))
theorem patTail {infos : List InfoD} {k : Int} {n : List UInt8} {u p : Int} {ks : List PatD} (hk : ∀ x ∈ ks, PatC infos x) {L : En} {H H1 : List AO} {j b : Nat} {nv a : AV} {names : List (List UInt8)} {f : Ft} {R : AV → List AO → Prop}
    (h0 : eget L 0 = .ptr j 0) (h2 : eget L 2 = a) (h4 : eget L 4 = .ptr b 0) (hM : ScS infos H H1 j nv a names f) (hb : H1[b]? = some (.var ((PatD.cells (.mk k n u p ks)).map .p))) (hbl : H.length ≤ b) (hbnd : names.length + PatD.szL ks + 1 ≤ 4194304)
    (kk : ∀ r H', ScS infos H H' j nv r (names ++ PatD.boundL ks) (firstF f (PatD.ftL infos names ks)) → R r H') : wpm (ACall Tryz.prog) mc56t (finK mr56 R) ⟨L, [], H1⟩ := by
  have hb' : H1[b]? = some (.var [.p (.i .i64 k), .p (.s n), .p (.i .i64 u), .p (.i .i64 p), .p (.l (PatD.cellsL ks))]) := hb
  rw [PatD.cellsL_eq] at hb'
  rw [PatD.szL_eq] at hbnd
  have hsl := sumSz_len PatD.sz ks
  simp only [go_sem, reduceIte, ↓reduceIte, sevalprocAttr, Z0, Z1, bytesOf, mc56t, mr56, h4, hb', eget_same, eget_ne, List.length_map]
  intro hl
  refine ⟨Nat × AV × List AO, [0, 2, 4, 38, 39, 40], fun x st => st.T = [] ∧ st.H = x.2.2 ∧ eget st.L 0 = .ptr j 0 ∧ eget st.L 2 = x.2.1 ∧ eget st.L 4 = .ptr b 0 ∧ eget st.L 38 = .p (.l (ks.map PatD.cells)) ∧ eget st.L 39 = .p (.i .i64 ks.length) ∧ eget st.L 40 = .p (.i .i64 x.1) ∧
    x.1 ≤ ks.length ∧ ScS infos H x.2.2 j nv x.2.1 (names ++ PatD.boundL (ks.take x.1)) (firstF f (PatD.ftL infos names (ks.take x.1))), fun x => ks.length - x.1, ⟨(0, a, H1), ?_⟩, ?_⟩
  · simp only [go_sem, reduceIte, ↓reduceIte, sevalprocAttr, Z0, Z1, bytesOf, eget_keep, eget_same, eget_ne, h0, h2, h4]
    exact ⟨Nat.zero_le _, by simp only [List.take_zero, PatD.boundL, PatD.ftL, List.append_nil, firstF_r hM.z]; exact hM⟩
  rintro ⟨x, v, HG⟩ st ⟨hT, hH, q0, q2, q4, q38, q39, q40, hx, hMG⟩
  obtain ⟨SL, ST, SH⟩ := st
  simp only at hT hH q0 q2 q4 q38 q39 q40 hx hMG
  subst hT hH
  by_cases hlt : x < ks.length
  · have d1 : decide ((x : Int) < (ks.length : Int)) = true := by simp; omega
    have hlt' : ((x : Int) < (ks.length : Int)) := by omega
    have ex := wrN x (by omega)
    have hg : (ks.map PatD.cells)[x]? = some (PatD.cells ks[x]) := by simp [hlt]
    have hcall := hk ks[x] (List.getElem_mem hlt)
    have hft := pftL_step (infos := infos) (names := names) hlt
    have hbd := boundL_step hlt
    have hbx := PatD.boundLenL (ks.take x)
    rw [PatD.szL_eq] at hbx
    have hsx := sumSz_get PatD.sz hlt
    generalize ks[x] = c at hg hcall hft hbd hsx
    obtain ⟨ck, cn, cu, cp, cks⟩ := c
    simp only [go_sem, reduceIte, ↓reduceIte, sevalprocAttr, Z0, Z1, bytesOf, q38, q39, q40, d1, hlt', hg, eget_same, eget_ne, PatD.cells, List.length_map, q0, q2]
    have hMX := hMG.ext [AO.var [.p (.i .i64 ck), .p (.s cn), .p (.i .i64 cu), .p (.i .i64 cp), .p (.l (PatD.cellsL cks))]]
    refine (hcall _ _ j v _ hMX.z hMX.mkr hMX.own (by rw [List.length_append]; omega)).mono ?_
    intro r H' hS
    have hS2 := hMX.trans hS
    simp only [go_sem, reduceIte, ↓reduceIte, sevalprocAttr, Z0, Z1, bytesOf, eget_keep, eget_same, eget_ne, q0, q4, q38, q39, q40, ex]
    refine ⟨(x + 1, r, H'), ⟨rfl, rfl, rfl, by simp only; omega, ?_⟩, by simp only; omega⟩
    simp only
    rw [hbd, hft, ← firstF_assoc, ← List.append_assoc]
    exact hS2
  · have : x = ks.length := by omega
    subst this
    have d1 : decide ((ks.length : Int) < (ks.length : Int)) = false := by simp
    rw [List.take_length] at hMG
    simp only [go_sem, reduceIte, ↓reduceIte, sevalprocAttr, Z0, Z1, bytesOf, q39, q40, d1, eget_same, eget_ne, q2]
    exact kk _ _ hMG
theorem pat_C (infos : List InfoD) (k : Int) (n : List UInt8) (u p : Int) (ks : List PatD) (hk : ∀ x ∈ ks, PatC infos x) : PatC infos (.mk k n u p ks) := by
  intro f H j nv names hf hj ho hbnd
  rw [PatD.sz] at hbnd
  refine call56 (by simp) ?_
  have hjl := get_lt hj
  have hM := (ScS.refl hj ho hf).ext [AO.var [.p (.i .i64 k), .p (.s n), .p (.i .i64 u), .p (.i .i64 p), .p (.l (PatD.cellsL ks))]]
  have hb : (H ++ [AO.var [.p (.i .i64 k), .p (.s n), .p (.i .i64 u), .p (.i .i64 p), .p (.l (PatD.cellsL ks))]])[H.length]? = some (AO.var [.p (.i .i64 k), .p (.s n), .p (.i .i64 u), .p (.i .i64 p), .p (.l (PatD.cellsL ks))]) := by rw [get_off0]; rfl
  simp only [go_sem, reduceIte, ↓reduceIte, sevalprocAttr, Z0, Z1, bytesOf, mc56, PatD.cells]
  generalize H ++ [AO.var [.p (.i .i64 k), .p (.s n), .p (.i .i64 u), .p (.i .i64 p), .p (.l (PatD.cellsL ks))]] = H1 at hM hb ⊢
  have hjb : j ≠ H.length := by omega
  by_cases h7 : k = 7
  · subst h7
    have eb : PatD.bound (.mk 7 n u p ks) = PatD.boundL ks := by rw [PatD.bound]; rfl
    have ef : PatD.ft infos names (.mk 7 n u p ks) = firstF (ctorF infos n ks.length p) (PatD.ftL infos names ks) := by
      rw [PatD.ft, if_neg (by decide), if_pos rfl, if_neg (by decide), List.append_nil]
    simp only [go_sem, reduceIte, ↓reduceIte, sevalprocAttr, Z0, Z1, bytesOf, hb, PatD.cellsL_len]
    intro _
    refine acall_pure (ctorC hM.z hM.mkr n ks.length p) ?_
    simp only [go_sem, reduceIte, ↓reduceIte, sevalprocAttr, Z0, Z1, bytesOf]
    have hM2 := hM.fail (f' := firstF f (ctorF infos n ks.length p)) (firstF_zz hf (ctorF_z _ _ _ _))
    refine patTail hk rfl rfl rfl hM2 (get_set hb hjb) (Nat.le_refl _) (by omega) ?_
    intro r H' hS
    rw [eb, ef, ← firstF_assoc]
    exact hS
  have d7 : decide (k = 7) = false := decide_eq_false h7
  by_cases h2 : k = 2
  · subst h2
    have eb : PatD.bound (.mk 2 n u p ks) = [n] ++ PatD.boundL ks := by rw [PatD.bound]; rfl
    have ef : PatD.ft infos names (.mk 2 n u p ks) = firstF (if n ∈ names then (30, p) else (0, 0)) (PatD.ftL infos (names ++ [n]) ks) := by
      rw [PatD.ft, if_pos rfl, if_pos rfl]
    have nl : (nmR names).length = names.length := List.length_map _
    rw [eb, ef]
    simp only [go_sem, reduceIte, ↓reduceIte, sevalprocAttr, Z0, Z1, bytesOf, hb]
    refine acall_pure (containsO hM.own) ?_
    by_cases hm : n ∈ names
    case' pos =>
      rw [if_pos hm, ← firstF_assoc]
      simp only [go_sem, reduceIte, ↓reduceIte, sevalprocAttr, Z0, Z1, bytesOf, dT hm, hb]
      refine acall_pure (failS hM.mkr 30 p) ?_
      have hM2 := hM.fail (f' := firstF f (30, p)) (firstF_zz hf (by intro h; simp at h))
      have hb2 := get_set (o' := scO infos (firstF f (30, p))) hb hjb
      generalize H1.set j (scO infos (firstF f (30, p))) = H2 at hM2 hb2 ⊢
      simp only [go_sem, reduceIte, ↓reduceIte, sevalprocAttr, Z0, Z1, bytesOf]
    case' neg =>
      rw [if_neg hm, firstF_z]
      simp only [go_sem, reduceIte, ↓reduceIte, sevalprocAttr, Z0, Z1, bytesOf, dF hm]
      have hM2 := hM
      have hb2 := hb
    all_goals
      simp only [go_sem, reduceIte, ↓reduceIte, sevalprocAttr, Z0, Z1, bytesOf, hb2]
      refine ⟨by intro r hr; simp at hr; subst hr; rfl, ?_⟩
      have hM3 := hM2.ext [AO.rows 1 0 [[.p (.s n)]]]
      have hb3 := get_ext hb2 [AO.rows 1 0 [[.p (.s n)]]]
      refine app_fr hM3.own (by rw [nl]; simp; omega) (by rw [nl]; simp; omega) ?_
      intro id ver H3 hid hside hkeep hlen
      simp only [go_sem, reduceIte, ↓reduceIte, sevalprocAttr, Z0, Z1, bytesOf]
      rw [show nmR names ++ [[AV.p (.s n)]] = nmR (names ++ [n]) from (nmR_app names [n]).symm] at hid
      have hM4 := hM3.name (n0 := (nmR names).length + 1) hkeep hid hside hlen (by rw [nl, List.length_append]; rfl)
      refine patTail hk rfl rfl rfl hM4 (hkeep _ _ hb3 (ownR_ne hM3.own hb3)) (Nat.le_refl _) (by rw [List.length_append, List.length_singleton]; omega) ?_
      intro r H' hS
      rw [List.append_assoc] at hS
      exact hS
  have d2 : decide (k = 2) = false := decide_eq_false h2
  have eb : PatD.bound (.mk k n u p ks) = PatD.boundL ks := by rw [PatD.bound, if_neg h2]; rfl
  have ef : PatD.ft infos names (.mk k n u p ks) = PatD.ftL infos names ks := by
    rw [PatD.ft, if_neg h2, if_neg h7, if_neg h2, List.append_nil, firstF_z]
  simp only [go_sem, reduceIte, ↓reduceIte, sevalprocAttr, Z0, Z1, bytesOf, hb, d7, d2]
  refine patTail hk rfl rfl rfl hM hb (Nat.le_refl _) (by omega) ?_
  intro r H' hS
  rw [eb, ef]
  exact hS
theorem patC (infos : List InfoD) : ∀ (m : Nat) (p : PatD), p.sz < m → PatC infos p := by
  intro m
  induction m with
  | zero => intro p h; omega
  | succ m ih =>
    intro p h
    obtain ⟨k, n, u, q, ks⟩ := p
    rw [PatD.sz, PatD.szL_eq] at h
    exact pat_C infos k n u q ks fun a ha => ih a (by have := sumSz_mem PatD.sz ha; omega)
/-- the names that a pattern binds, as data -/
theorem patP {infos : List InfoD} (p : PatD) (hb : p.sz + 2 ≤ 4194304) {f : Ft} (hf : Fz f) {H : List AO} {j : Nat} (hj : H[j]? = some (scO infos f)) :
    ACall Tryz.prog 56 [.ptr j 0, av p.cells, .p .nl] H (pureQ (.p (.l (namesC p.bound))) (H.set j (scO infos (firstF f (p.ft infos []))))) := by
  refine acall_drop_set ?_ hj scO_in (tf_p _)
  refine acall_kill (patC infos _ p (Nat.lt_succ_self _) f H j (.p .nl) [] hf hj (.inl ⟨rfl, rfl⟩) (by simpa using hb)) ?_
  intro r H' hS
  rw [List.nil_append] at hS
  have hfar : ∃ G, H' = H.set j (scO infos (firstF f (p.ft infos []))) ++ G := pre_of fun i o hi => by
    by_cases e : j = i
    · subst e
      rw [set_get hj] at hi
      cases hi
      exact hS.mkr
    · rw [List.getElem?_set_ne e] at hi
      exact hS.keep i o hi (Ne.symm e) (by rintro _ _ _ ⟨⟩)
  rcases hS.own with ⟨rfl, hk⟩ | ⟨id, ver, rfl, h2⟩
  · have : p.bound = [] := by simpa [nmR] using hk
    exact .inl ⟨_, .nl, by rw [this]; rfl, hfar⟩
  · have hid : H.length ≤ id := by
      rcases hS.id id _ _ _ rfl with h | ⟨_, _, _, h⟩
      · exact h
      · cases h
    rw [← nmR_eq] at h2 ⊢
    refine .inr ⟨id, _, _, h2, tfO_rows _ _ _, ?_, rfl, ?_⟩
    · rw [List.length_map]
      exact lent_one (by intro y hy; obtain ⟨a, _, rfl⟩ := List.mem_map.1 hy; rfl)
    · exact set_far2 hfar (by rw [List.length_set]; exact hid) _
end Go.Proofs.YtnelfbcgplooiaaGreat.Pg

/- The looker for names: expressions. -/
set_option linter.all false
namespace Go.Proofs.YtnelfbcgplooiaaGreat.Pg
open Go.AM Mc

theorem bindsInC (k : Int) (n : List UInt8) (u : Int) (t : List UInt8) (p : Int) (ks : List ExpD) (as' : List ArmD) (i : Nat) (H : List AO) :
    ACall Tryz.prog 55 [av (ExpD.cells (.mk k n u t p ks as')), .p (.i .i64 i)] H (pureQ (.p (.l (namesC (bindsD k n t i)))) H) := by
  refine (acall_fresh (R := fun r => r = .p (.l (namesC (bindsD k n t i)))) (Q := fun r H' => OwnR H' r 1 (nmR (bindsD k n t i))) ?_ ?_ ?_).mono (fun r H' ⟨h1, h2⟩ => ⟨h2, h1⟩)
  · refine call55 (by simp) ?_
    have di : decide ((i : Int) = 1) = decide (i = 1) := by rw [decide_eq_decide]; omega
    simp only [go_sem, reduceIte, ↓reduceIte, sevalprocAttr, Z0, Z1, bytesOf, mc55, mr55, ExpD.cells]
    by_cases h8 : k = 8
    · have e : bindsD k n t i = [n] := by unfold bindsD; rw [if_pos (.inl h8)]
      simp only [go_sem, reduceIte, ↓reduceIte, sevalprocAttr, Z0, Z1, bytesOf, dT h8]
      rw [e]
      exact .inr ⟨_, _, rfl, rfl⟩
    by_cases h10 : k = 10
    · have d11 : decide (k = 11) = false := decide_eq_false (by omega)
      by_cases hi : i = 1
      · have e : bindsD k n t i = [n] := by unfold bindsD; rw [if_pos (.inr (.inl ⟨h10, hi⟩))]
        simp only [go_sem, reduceIte, ↓reduceIte, sevalprocAttr, Z0, Z1, bytesOf, dF h8, dT h10, di, dT hi]
        rw [e]
        exact .inr ⟨_, _, rfl, rfl⟩
      · have e : bindsD k n t i = [] := by unfold bindsD; rw [if_neg (by simp [h8, hi]), if_neg (by omega)]
        simp only [go_sem, reduceIte, ↓reduceIte, sevalprocAttr, Z0, Z1, bytesOf, dF h8, dT h10, di, dF hi, d11]
        rw [e]
        exact .inl ⟨rfl, rfl⟩
    by_cases h11 : k = 11
    · by_cases hi : i = 1
      · have e : bindsD k n t i = [n] := by unfold bindsD; rw [if_pos (.inr (.inr ⟨h11, hi⟩))]
        simp only [go_sem, reduceIte, ↓reduceIte, sevalprocAttr, Z0, Z1, bytesOf, dF h8, dF h10, dT h11, di, dT hi]
        rw [e]
        exact .inr ⟨_, _, rfl, rfl⟩
      · have e : bindsD k n t i = [n, t] := by unfold bindsD; rw [if_neg (by simp [h8, hi]), if_pos h11]
        simp only [go_sem, reduceIte, ↓reduceIte, sevalprocAttr, Z0, Z1, bytesOf, dF h8, dF h10, dT h11, di, dF hi]
        rw [e]
        exact .inr ⟨_, _, rfl, rfl⟩
    · have e : bindsD k n t i = [] := by unfold bindsD; rw [if_neg (by simp [h8, h10, h11]), if_neg h11]
      simp only [go_sem, reduceIte, ↓reduceIte, sevalprocAttr, Z0, Z1, bytesOf, dF h8, dF h10, dF h11]
      rw [e]
      exact .inl ⟨rfl, rfl⟩
  · intro b hb
    simp only [List.mem_cons, List.not_mem_nil, or_false] at hb
    rcases hb with rfl | rfl
    · exact noid_st _ (by intro a ha; obtain ⟨p, _, rfl⟩ := List.mem_map.1 ha; exact noid_p p)
    · exact noid_p _
  · rintro r H' ho
    refine ⟨_, ?_, rfl⟩
    rcases ho with ⟨rfl, hk⟩ | ⟨id, ver, rfl, h2⟩
    · have : bindsD k n t i = [] := by simpa [nmR] using hk
      rw [this]; exact .nl
    · rw [← nmR_eq] at h2 ⊢
      rw [List.length_map]
      exact lent_rows h2 (by intro y hy; obtain ⟨a, _, rfl⟩ := List.mem_map.1 hy; rfl)
theorem bindsLen (k n t i) : (bindsD k n t i).length ≤ 2 := by
  unfold bindsD
  split
  · simp
  · split <;> simp
mutual
theorem ExpD.ft_z (infos : List InfoD) : ∀ (env : List (List UInt8)) (e : ExpD), Fz (e.ft infos env)
  | env, .mk k n u t p ks as' => by
    rw [ExpD.ft]
    refine firstF_zz (a := ite _ _ _) ?_ (firstF_zz (ExpD.ftL_z infos env k n t 0 ks) (ExpD.ftA_z infos env as'))
    split
    · split
      · intro _; rfl
      · intro h; simp at h
    · split
      · exact ctorF_z _ _ _ _
      · intro _; rfl
theorem ExpD.ftL_z (infos : List InfoD) : ∀ (env : List (List UInt8)) (k : Int) (n t : List UInt8) (i : Nat) (l : List ExpD), Fz (ExpD.ftL infos env k n t i l)
  | env, k, n, t, i, [] => by rw [ExpD.ftL]; intro _; rfl
  | env, k, n, t, i, e :: l => by
    rw [ExpD.ftL]
    exact firstF_zz (ExpD.ft_z infos _ e) (ExpD.ftL_z infos env k n t (i + 1) l)
theorem ArmD.ft_z (infos : List InfoD) : ∀ (env : List (List UInt8)) (a : ArmD), Fz (a.ft infos env)
  | env, .mk p e => by
    rw [ArmD.ft]
    exact firstF_zz (PatD.ft_z infos _ p) (ExpD.ft_z infos _ e)
theorem ExpD.ftA_z (infos : List InfoD) : ∀ (env : List (List UInt8)) (l : List ArmD), Fz (ExpD.ftA infos env l)
  | env, [] => by rw [ExpD.ftA]; intro _; rfl
  | env, a :: l => by
    rw [ExpD.ftA]
    exact firstF_zz (ArmD.ft_z infos env a) (ExpD.ftA_z infos env l)
end
theorem eftL_step {infos : List InfoD} {env : List (List UInt8)} {k : Int} {n t : List UInt8} {l : List ExpD} : ∀ {i x : Nat} (h : x < l.length), ExpD.ftL infos env k n t i (l.take (x + 1)) = firstF (ExpD.ftL infos env k n t i (l.take x)) (l[x].ft infos (env ++ bindsD k n t (i + x))) := by
  induction l with
  | nil => intro i x h; simp at h
  | cons e l ih =>
    intro i x h
    cases x with
    | zero =>
      simp only [List.take_succ_cons, List.take_zero, ExpD.ftL, List.getElem_cons_zero, firstF_z, Nat.add_zero]
      exact firstF_r (ExpD.ft_z infos _ e)
    | succ x =>
      simp only [List.take_succ_cons, ExpD.ftL, List.getElem_cons_succ]
      rw [ih (by simpa using h), firstF_assoc, show i + 1 + x = i + (x + 1) by omega]
theorem eftA_step {infos : List InfoD} {env : List (List UInt8)} {l : List ArmD} : ∀ {x : Nat} (h : x < l.length), ExpD.ftA infos env (l.take (x + 1)) = firstF (ExpD.ftA infos env (l.take x)) (l[x].ft infos env) := by
  induction l with
  | nil => intro x h; simp at h
  | cons e l ih =>
    intro x h
    cases x with
    | zero =>
      simp only [List.take_succ_cons, List.take_zero, ExpD.ftA, List.getElem_cons_zero, firstF_z]
      exact firstF_r (ArmD.ft_z infos _ e)
    | succ x =>
      simp only [List.take_succ_cons, ExpD.ftA, List.getElem_cons_succ]
      rw [ih (by simpa using h), firstF_assoc]
def ExpC (infos : List InfoD) (e : ExpD) : Prop := ∀ (env : List (List UInt8)) (f : Ft) (H : List AO) (j : Nat), Fz f → H[j]? = some (scO infos f) → env.length + 2 * e.sz + 4 ≤ 4194304 →
  ACall Tryz.prog 22 [.ptr j 0, av e.cells, .p (.l (namesC env))] H (pureQ (.tup []) (H.set j (scO infos (firstF f (e.ft infos env)))))
/-- words put behind one another, in a region whose order is drawn -/
theorem concatFill {a b : List (List UInt8)} (hb : a.length + b.length ≤ 4398046511104) {Hc : List AO} (A : List AO) (hA : FillA [.gs (Hc.length + 0) 0 0 2] [AO.rows 1 0 [[.p (.l (namesC a))], [.p (.l (namesC b))]]] A Hc.length) :
    ACall Tryz.prog 54 [.gs (Hc.length + 0) 0 0 2] (Hc ++ A) (pureQ (.p (.l (namesC (a ++ b)))) (Hc ++ A)) := by
  have h0 := hA _ (List.mem_singleton_self _) _ (AO.rows 1 0 [[.p (.l (namesC a))], [.p (.l (namesC b))]]) rfl (by omega) (by rw [Nat.add_sub_cancel_left]; rfl)
  rw [Nat.add_sub_cancel_left] at h0
  have h1 : (Hc ++ A)[Hc.length + 0]? = some (AO.rows 1 0 ((listsC [a, b]).map fun y => y.map .p)) := by rw [get_off, h0]; rfl
  have := concatC (ss := [a, b]) (by simpa using hb) (H := Hc ++ A) (x := .gs (Hc.length + 0) 0 0 2) (lent_rows (l := listsC [a, b]) h1 (by intro y hy; obtain ⟨a, _, rfl⟩ := List.mem_map.1 hy; rfl))
  simpa using this
theorem far_set {H HG : List AO} {j : Nat} {o : AO} (hj : j < H.length) (h : ∃ G, HG = H.set j o ++ G) (A : List AO) (o' : AO) : ∃ G, (HG ++ A).set j o' = H.set j o' ++ G := by
  obtain ⟨G, rfl⟩ := h
  rw [List.append_assoc, set_app (by simpa using hj), List.set_set]
  exact ⟨_, rfl⟩
theorem far_get {H HG : List AO} {j : Nat} {o : AO} (hj : j < H.length) (h : ∃ G, HG = H.set j o ++ G) : HG[j]? = some o := by
  obtain ⟨G, rfl⟩ := h
  rw [List.getElem?_append_left (by simpa using hj), List.getElem?_set_self hj]
theorem expArms {infos : List InfoD} {k : Int} {n : List UInt8} {u : Int} {t : List UInt8} {p : Int} {ks : List ExpD} {as' : List ArmD} (ha : ∀ q e, ArmD.mk q e ∈ as' → ExpC infos e) {L : En} {H H1 : List AO} {j b : Nat} {env : List (List UInt8)} {f : Ft} (hf : Fz f)
    (h0 : eget L 0 = .ptr j 0) (h2 : eget L 2 = .p (.l (namesC env))) (h4 : eget L 4 = .ptr b 0) (hj : j < H.length) (hG : ∃ G, H1 = H.set j (scO infos f) ++ G) (hb : H1[b]? = some (.var ((ExpD.cells (.mk k n u t p ks as')).map .p))) (hbl : H.length ≤ b) (hbnd : env.length + 2 * ExpD.szA as' + 4 ≤ 4194304) :
    wpm (ACall Tryz.prog) mc22a (finK mr22 (fun r H' => r = .tup [] ∧ ∃ G, H' = H.set j (scO infos (firstF f (ExpD.ftA infos env as'))) ++ G)) ⟨L, [], H1⟩ := by
  have hb' : H1[b]? = some (.var [.p (.i .i64 k), .p (.s n), .p (.i .i64 u), .p (.s t), .p (.i .i64 p), .p (.l (ExpD.cellsL ks)), .p (.l (ExpD.cellsA as'))]) := hb
  rw [ExpD.cellsA_eq] at hb'
  rw [ExpD.szA_eq] at hbnd
  simp only [go_sem, reduceIte, ↓reduceIte, sevalprocAttr, Z0, Z1, bytesOf, mc22a, mr22, h4, hb', eget_same, eget_ne, List.length_map]
  intro hl
  refine ⟨Nat × List AO, [0, 2, 53, 54, 55], fun x st => st.T = [] ∧ st.H = x.2 ∧ eget st.L 0 = .ptr j 0 ∧ eget st.L 2 = .p (.l (namesC env)) ∧ eget st.L 53 = .p (.l (as'.map ArmD.cells)) ∧ eget st.L 54 = .p (.i .i64 as'.length) ∧ eget st.L 55 = .p (.i .i64 x.1) ∧
    x.1 ≤ as'.length ∧ ∃ G, x.2 = H.set j (scO infos (firstF f (ExpD.ftA infos env (as'.take x.1)))) ++ G, fun x => as'.length - x.1, ⟨(0, H1), ?_⟩, ?_⟩
  · simp only [go_sem, reduceIte, ↓reduceIte, sevalprocAttr, Z0, Z1, bytesOf, eget_keep, eget_same, eget_ne, h0, h2]
    exact ⟨Nat.zero_le _, by simp only [List.take_zero, ExpD.ftA, firstF_r hf]; exact hG⟩
  rintro ⟨x, HG⟩ st ⟨hT, hH, q0, q2, q53, q54, q55, hx, hfar⟩
  obtain ⟨SL, ST, SH⟩ := st
  simp only at hT hH q0 q2 q53 q54 q55 hx hfar
  subst hT hH
  by_cases hlt : x < as'.length
  · have d1 : decide ((x : Int) < (as'.length : Int)) = true := by simp; omega
    have hlt' : ((x : Int) < (as'.length : Int)) := by omega
    have ex := wrN x (by rw [maxLe] at hl; omega)
    have hg : (as'.map ArmD.cells)[x]? = some (ArmD.cells as'[x]) := by simp [hlt]
    have hmem := List.getElem_mem hlt
    have hft := eftA_step (infos := infos) (env := env) hlt
    have hsx := sumSz_get ArmD.sz hlt
    generalize as'[x] = c at hg hmem hft hsx
    obtain ⟨⟨pk, pn, pu, pp, pks⟩, ⟨ck, cn, cu, ct, cp, cks, cas⟩⟩ := c
    have hcall := ha _ _ hmem
    rw [ArmD.sz] at hsx
    rw [ArmD.ft] at hft
    have hbn := PatD.boundLen (.mk pk pn pu pp pks)
    have hz1 := firstF_zz hf (ExpD.ftA_z infos env (as'.take x))
    have hjS := far_get hj hfar
    have hSl : H.length ≤ SH.length := by obtain ⟨G, rfl⟩ := hfar; simp
    simp only [go_sem, reduceIte, ↓reduceIte, sevalprocAttr, Z0, Z1, bytesOf, q53, q54, q55, d1, hlt', hg, eget_same, eget_ne, ArmD.cells, PatD.cells, ExpD.cells, List.length_map, zl8_2]
    have hcX : (SH ++ [AO.var [.p (.i .i64 pk), .p (.s pn), .p (.i .i64 pu), .p (.i .i64 pp), .p (.l (PatD.cellsL pks)), .p (.i .i64 ck), .p (.s cn), .p (.i .i64 cu), .p (.s ct), .p (.i .i64 cp), .p (.l (ExpD.cellsL cks)), .p (.l (ExpD.cellsA cas))]])[SH.length]? = some (AO.var [.p (.i .i64 pk), .p (.s pn), .p (.i .i64 pu), .p (.i .i64 pp), .p (.l (PatD.cellsL pks)), .p (.i .i64 ck), .p (.s cn), .p (.i .i64 cu), .p (.s ct), .p (.i .i64 cp), .p (.l (ExpD.cellsL cks)), .p (.l (ExpD.cellsA cas))]) := by rw [get_off0]; rfl
    have hfX : ∃ G, (SH ++ [AO.var [.p (.i .i64 pk), .p (.s pn), .p (.i .i64 pu), .p (.i .i64 pp), .p (.l (PatD.cellsL pks)), .p (.i .i64 ck), .p (.s cn), .p (.i .i64 cu), .p (.s ct), .p (.i .i64 cp), .p (.l (ExpD.cellsL cks)), .p (.l (ExpD.cellsA cas))]]) = H.set j (scO infos (firstF f (ExpD.ftA infos env (as'.take x)))) ++ G := app_far hfar _
    have hyj : SH.length ≠ j := by omega
    generalize SH.length = y at hcX hyj ⊢
    generalize SH ++ [AO.var [.p (.i .i64 pk), .p (.s pn), .p (.i .i64 pu), .p (.i .i64 pp), .p (.l (PatD.cellsL pks)), .p (.i .i64 ck), .p (.s cn), .p (.i .i64 cu), .p (.s ct), .p (.i .i64 cp), .p (.l (ExpD.cellsL cks)), .p (.l (ExpD.cellsA cas))]] = H2 at hcX hfX ⊢
    have hj2 := far_get hj hfX
    have hcD := get_set (i := j) (o' := .dead) hcX (Ne.symm hyj)
    refine ⟨H2.set j .dead, hext_dead0 _ _, ?_⟩
    simp only [go_sem, reduceIte, ↓reduceIte, sevalprocAttr, Z0, Z1, bytesOf, q0, q2, eget_same, eget_ne, hcD]
    have hpat := fun A => patP (infos := infos) (.mk pk pn pu pp pks) (by omega) hz1 (H := H2 ++ A) (get_ext hj2 A)
    have hj2l := get_lt hj2
    refine pcall_chain _ (H2.set j (scO infos (firstF (firstF f (ExpD.ftA infos env (as'.take x))) (PatD.ft infos [] (.mk pk pn pu pp pks))))) (by simp) (dead_ext' _ _ _) (fun A => by have := hpat A; rw [set_app hj2l] at this; exact this) ?_
    simp only [go_sem, reduceIte, ↓reduceIte, sevalprocAttr, Z0, Z1, bytesOf]
    refine pcall_fill (fun A hA => concatFill (by omega) A hA) (dead_ext' _ _ _) ?_
    simp only [go_sem, reduceIte, ↓reduceIte, sevalprocAttr, Z0, Z1, bytesOf]
    have hz2 := firstF_zz hz1 (PatD.ft_z infos [] (.mk pk pn pu pp pks))
    have hcall2 := fun H3 h => hcall (env ++ PatD.bound (.mk pk pn pu pp pks)) _ H3 j hz2 h (by rw [List.length_append]; omega)
    refine acall_pure (hcall2 _ (get_ext (set_get hj2) _)) ?_
    simp only [go_sem, reduceIte, ↓reduceIte, sevalprocAttr, Z0, Z1, bytesOf, eget_keep, eget_same, eget_ne, q0, q2, q53, q54, q55, ex]
    refine ⟨(x + 1, _), ⟨rfl, rfl, by simp only; omega, ?_⟩, by simp only; omega⟩
    simp only
    rw [hft, ← firstF_assoc, ← firstF_assoc]
    have := far_set hj (far_set hj hfX [] (scO infos (firstF (firstF f (ExpD.ftA infos env (as'.take x))) (PatD.ft infos [] (.mk pk pn pu pp pks))))) [AO.rows 1 0 [[.p (.l (namesC env))], [.p (.l (namesC (PatD.bound (.mk pk pn pu pp pks))))]]] (scO infos (firstF (firstF (firstF f (ExpD.ftA infos env (as'.take x))) (PatD.ft infos [] (.mk pk pn pu pp pks))) (ExpD.ft infos (env ++ PatD.bound (.mk pk pn pu pp pks)) (.mk ck cn cu ct cp cks cas))))
    rw [List.append_nil] at this
    exact this
  · have : x = as'.length := by omega
    subst this
    have d1 : decide ((as'.length : Int) < (as'.length : Int)) = false := by simp
    rw [List.take_length] at hfar
    simp only [go_sem, reduceIte, ↓reduceIte, sevalprocAttr, Z0, Z1, bytesOf, q54, q55, d1, eget_same, eget_ne]
    exact hfar
end Go.Proofs.YtnelfbcgplooiaaGreat.Pg

/- The looker for names: expressions, the whole; Scope. -/
set_option linter.all false
namespace Go.Proofs.YtnelfbcgplooiaaGreat.Pg
open Go.AM Mc

theorem expTail {infos : List InfoD} {k : Int} {n : List UInt8} {u : Int} {t : List UInt8} {p : Int} {ks : List ExpD} {as' : List ArmD} (hk : ∀ x ∈ ks, ExpC infos x) (ha : ∀ q e, ArmD.mk q e ∈ as' → ExpC infos e) {L : En} {H H1 : List AO} {j b : Nat} {env : List (List UInt8)} {f : Ft} (hf : Fz f)
    (h0 : eget L 0 = .ptr j 0) (h2 : eget L 2 = .p (.l (namesC env))) (h4 : eget L 4 = .ptr b 0) (hj : j < H.length) (hG : ∃ G, H1 = H.set j (scO infos f) ++ G) (hb : H1[b]? = some (.var ((ExpD.cells (.mk k n u t p ks as')).map .p))) (hbl : H.length ≤ b) (hbnd : env.length + 2 * (ExpD.szL ks + ExpD.szA as') + 4 ≤ 4194304) :
    wpm (ACall Tryz.prog) mc22t (finK mr22 (fun r H' => r = .tup [] ∧ ∃ G, H' = H.set j (scO infos (firstF f (firstF (ExpD.ftL infos env k n t 0 ks) (ExpD.ftA infos env as')))) ++ G)) ⟨L, [], H1⟩ := by
  have hb' : H1[b]? = some (.var [.p (.i .i64 k), .p (.s n), .p (.i .i64 u), .p (.s t), .p (.i .i64 p), .p (.l (ExpD.cellsL ks)), .p (.l (ExpD.cellsA as'))]) := hb
  have hbinds := fun i H => bindsInC k n u t p ks as' i H
  simp only [ExpD.cells, List.map_cons, List.map_nil] at hbinds
  rw [ExpD.cellsL_eq] at hb' hbinds
  rw [ExpD.szL_eq] at hbnd
  simp only [go_sem, reduceIte, ↓reduceIte, sevalprocAttr, Z0, Z1, bytesOf, mc22t, mr22, h4, hb', eget_same, eget_ne, List.length_map]
  intro hl
  refine ⟨Nat × List AO, [0, 2, 4, 35, 36, 37], fun x st => st.T = [] ∧ st.H = x.2 ∧ eget st.L 0 = .ptr j 0 ∧ eget st.L 2 = .p (.l (namesC env)) ∧ eget st.L 4 = .ptr b 0 ∧ eget st.L 35 = .p (.l (ks.map ExpD.cells)) ∧ eget st.L 36 = .p (.i .i64 ks.length) ∧ eget st.L 37 = .p (.i .i64 x.1) ∧
    x.1 ≤ ks.length ∧ (∃ G, x.2 = H.set j (scO infos (firstF f (ExpD.ftL infos env k n t 0 (ks.take x.1)))) ++ G) ∧ x.2[b]? = some (.var [.p (.i .i64 k), .p (.s n), .p (.i .i64 u), .p (.s t), .p (.i .i64 p), .p (.l (ks.map ExpD.cells)), .p (.l (ExpD.cellsA as'))]), fun x => ks.length - x.1, ⟨(0, H1), ?_⟩, ?_⟩
  · simp only [go_sem, reduceIte, ↓reduceIte, sevalprocAttr, Z0, Z1, bytesOf, eget_keep, eget_same, eget_ne, h0, h2, h4, hb']
    exact ⟨Nat.zero_le _, by simp only [List.take_zero, ExpD.ftL, firstF_r hf]; exact hG⟩
  rintro ⟨x, HG⟩ st ⟨hT, hH, q0, q2, q4, q35, q36, q37, hx, hfar, gb⟩
  obtain ⟨SL, ST, SH⟩ := st
  simp only at hT hH q0 q2 q4 q35 q36 q37 hx hfar gb
  subst hT hH
  by_cases hlt : x < ks.length
  · have d1 : decide ((x : Int) < (ks.length : Int)) = true := by simp; omega
    have hlt' : ((x : Int) < (ks.length : Int)) := by omega
    have ex := wrN x (by rw [maxLe] at hl; omega)
    have hg : (ks.map ExpD.cells)[x]? = some (ExpD.cells ks[x]) := by simp [hlt]
    have hcall := hk ks[x] (List.getElem_mem hlt)
    have hft := eftL_step (infos := infos) (env := env) (k := k) (n := n) (t := t) (i := 0) hlt
    rw [Nat.zero_add] at hft
    have hsx := sumSz_get ExpD.sz hlt
    generalize ks[x] = c at hg hcall hft hsx
    obtain ⟨ck, cn, cu, ct, cp, cks, cas⟩ := c
    have hbn := bindsLen k n t x
    have hz1 := firstF_zz hf (ExpD.ftL_z infos env k n t 0 (ks.take x))
    have hjS := far_get hj hfar
    have hSl : H.length ≤ SH.length := by obtain ⟨G, rfl⟩ := hfar; simp
    simp only [go_sem, reduceIte, ↓reduceIte, sevalprocAttr, Z0, Z1, bytesOf, q35, q36, q37, d1, hlt', hg, eget_same, eget_ne, ExpD.cells, List.length_map, zl8_1]
    have hcX : (SH ++ [AO.var [.p (.i .i64 ck), .p (.s cn), .p (.i .i64 cu), .p (.s ct), .p (.i .i64 cp), .p (.l (ExpD.cellsL cks)), .p (.l (ExpD.cellsA cas))]])[SH.length]? = some (AO.var [.p (.i .i64 ck), .p (.s cn), .p (.i .i64 cu), .p (.s ct), .p (.i .i64 cp), .p (.l (ExpD.cellsL cks)), .p (.l (ExpD.cellsA cas))]) := by rw [get_off0]; rfl
    have hfX : ∃ G, (SH ++ [AO.var [.p (.i .i64 ck), .p (.s cn), .p (.i .i64 cu), .p (.s ct), .p (.i .i64 cp), .p (.l (ExpD.cellsL cks)), .p (.l (ExpD.cellsA cas))]]) = H.set j (scO infos (firstF f (ExpD.ftL infos env k n t 0 (ks.take x)))) ++ G := app_far hfar _
    have hbX := get_ext gb [AO.var [.p (.i .i64 ck), .p (.s cn), .p (.i .i64 cu), .p (.s ct), .p (.i .i64 cp), .p (.l (ExpD.cellsL cks)), .p (.l (ExpD.cellsA cas))]]
    have hyj : SH.length ≠ j := by omega
    generalize SH.length = y at hcX hyj ⊢
    generalize SH ++ [AO.var [.p (.i .i64 ck), .p (.s cn), .p (.i .i64 cu), .p (.s ct), .p (.i .i64 cp), .p (.l (ExpD.cellsL cks)), .p (.l (ExpD.cellsA cas))]] = H2 at hcX hfX hbX ⊢
    have hj2 := far_get hj hfX
    refine drw_same ?_
    simp only [go_sem, reduceIte, ↓reduceIte, sevalprocAttr, Z0, Z1, bytesOf, q0, q2, q4, eget_same, eget_ne, hcX, hbX]
    refine pcall_pure (fun A => hbinds x _) (Hext.refl _) ?_
    simp only [go_sem, reduceIte, ↓reduceIte, sevalprocAttr, Z0, Z1, bytesOf]
    refine pcall_fill (fun A hA => concatFill (by omega) A hA) (Hext.refl _) ?_
    simp only [go_sem, reduceIte, ↓reduceIte, sevalprocAttr, Z0, Z1, bytesOf]
    refine acall_pure (hcall (env ++ bindsD k n t x) _ _ j hz1 (get_ext hj2 _) (by rw [List.length_append]; rw [ExpD.sz] at hsx ⊢; omega)) ?_
    simp only [go_sem, reduceIte, ↓reduceIte, sevalprocAttr, Z0, Z1, bytesOf, eget_keep, eget_same, eget_ne, q0, q2, q4, q35, q36, q37, ex]
    refine ⟨(x + 1, _), ⟨rfl, rfl, by simp only; omega, ?_, get_set (get_ext hbX _) (by omega)⟩, by simp only; omega⟩
    simp only
    rw [hft, ← firstF_assoc]
    exact far_set hj hfX _ _
  · have : x = ks.length := by omega
    subst this
    have d1 : decide ((ks.length : Int) < (ks.length : Int)) = false := by simp
    rw [List.take_length] at hfar
    simp only [go_sem, reduceIte, ↓reduceIte, sevalprocAttr, Z0, Z1, bytesOf, q36, q37, d1, eget_same, eget_ne]
    rw [← firstF_assoc]
    refine expArms (k := k) (n := n) (u := u) (t := t) (p := p) (ks := ks) (b := b) ha (firstF_zz hf (ExpD.ftL_z _ _ _ _ _ _ _)) ?_ ?_ ?_ hj hfar ?_ hbl (by omega)
    · simp only [go_sem, reduceIte, ↓reduceIte, sevalprocAttr, Z0, Z1, bytesOf, eget_same, eget_ne, q0]
    · simp only [go_sem, reduceIte, ↓reduceIte, sevalprocAttr, Z0, Z1, bytesOf, eget_same, eget_ne, q2]
    · simp only [go_sem, reduceIte, ↓reduceIte, sevalprocAttr, Z0, Z1, bytesOf, eget_same, eget_ne, q4]
    · rw [gb, ExpD.cells, ExpD.cellsL_eq]; rfl
theorem exp_C (infos : List InfoD) (k : Int) (n : List UInt8) (u : Int) (t : List UInt8) (p : Int) (ks : List ExpD) (as' : List ArmD) (hk : ∀ x ∈ ks, ExpC infos x) (ha : ∀ q e, ArmD.mk q e ∈ as' → ExpC infos e) : ExpC infos (.mk k n u t p ks as') := by
  intro env f H j hf hj hbnd
  refine acall_drop_set ?_ hj scO_in (tf_tup _ (by simp))
  rw [ExpD.sz] at hbnd
  have hjl := get_lt hj
  refine call22 (by simp) ?_
  have hG : ∃ G, H ++ [AO.var [.p (.i .i64 k), .p (.s n), .p (.i .i64 u), .p (.s t), .p (.i .i64 p), .p (.l (ExpD.cellsL ks)), .p (.l (ExpD.cellsA as'))]] = H.set j (scO infos f) ++ G := by rw [set_id hj]; exact ⟨_, rfl⟩
  have hb : (H ++ [AO.var [.p (.i .i64 k), .p (.s n), .p (.i .i64 u), .p (.s t), .p (.i .i64 p), .p (.l (ExpD.cellsL ks)), .p (.l (ExpD.cellsA as'))]])[H.length]? = some (AO.var [.p (.i .i64 k), .p (.s n), .p (.i .i64 u), .p (.s t), .p (.i .i64 p), .p (.l (ExpD.cellsL ks)), .p (.l (ExpD.cellsA as'))]) := by rw [get_off0]; rfl
  have hjb : j ≠ H.length := by omega
  simp only [go_sem, reduceIte, ↓reduceIte, sevalprocAttr, Z0, Z1, bytesOf, mc22, ExpD.cells]
  generalize H ++ [AO.var [.p (.i .i64 k), .p (.s n), .p (.i .i64 u), .p (.s t), .p (.i .i64 p), .p (.l (ExpD.cellsL ks)), .p (.l (ExpD.cellsA as'))]] = H1 at hG hb ⊢
  have hj1 := far_get hjl hG
  have fin : ∀ (L : En) (H2 : List AO) (h : Ft), Fz h → eget L 0 = .ptr j 0 → eget L 2 = .p (.l (namesC env)) → eget L 4 = .ptr H.length 0 → (∃ G, H2 = H.set j (scO infos (firstF f h)) ++ G) → H2[H.length]? = some (.var ((ExpD.cells (.mk k n u t p ks as')).map .p)) →
      (if k = 5 then (if n ∈ env then ((0, 0) : Ft) else (27, p)) else if k = 6 then ctorF infos n ks.length p else (0, 0)) = h →
      wpm (ACall Tryz.prog) mc22t (finK mr22 (fun r H' => r = .tup [] ∧ ∃ G, H' = H.set j (scO infos (firstF f (ExpD.ft infos env (.mk k n u t p ks as')))) ++ G)) ⟨L, [], H2⟩ := by
    rintro L H2 h hhz a0 a2 a4 aG ab rfl
    rw [ExpD.ft, ← firstF_assoc]
    exact expTail hk ha (firstF_zz hf hhz) a0 a2 a4 hjl aG ab (Nat.le_refl _) (by omega)
  by_cases h5 : k = 5
  · subst h5
    simp only [go_sem, reduceIte, ↓reduceIte, sevalprocAttr, Z0, Z1, bytesOf, hb]
    refine acall_pure (containsC env n _) ?_
    by_cases hm : n ∈ env
    · simp only [go_sem, reduceIte, ↓reduceIte, sevalprocAttr, Z0, Z1, bytesOf, dT hm, Bool.not_true]
      exact fin _ _ (0, 0) (fun _ => rfl) rfl rfl rfl (by rw [firstF_r hf]; exact hG) hb (by rw [if_pos rfl, if_pos hm])
    · simp only [go_sem, reduceIte, ↓reduceIte, sevalprocAttr, Z0, Z1, bytesOf, dF hm, Bool.not_false, hb]
      refine acall_pure (failS hj1 27 p) ?_
      simp only [go_sem, reduceIte, ↓reduceIte, sevalprocAttr, Z0, Z1, bytesOf]
      have := far_set hjl hG [] (scO infos (firstF f (27, p)))
      rw [List.append_nil] at this
      exact fin _ _ (27, p) (fun h => by simp at h) rfl rfl rfl this (get_set hb hjb) (by rw [if_pos rfl, if_neg hm])
  have d5 : decide (k = 5) = false := decide_eq_false h5
  by_cases h6 : k = 6
  · subst h6
    simp only [go_sem, reduceIte, ↓reduceIte, sevalprocAttr, Z0, Z1, bytesOf, hb, ExpD.cellsL_len]
    intro _
    refine acall_pure (ctorC hf hj1 n ks.length p) ?_
    simp only [go_sem, reduceIte, ↓reduceIte, sevalprocAttr, Z0, Z1, bytesOf]
    have := far_set hjl hG [] (scO infos (firstF f (ctorF infos n ks.length p)))
    rw [List.append_nil] at this
    exact fin _ _ (ctorF infos n ks.length p) (ctorF_z _ _ _ _) rfl rfl rfl this (get_set hb hjb) (by rw [if_neg (by decide), if_pos rfl])
  have d6 : decide (k = 6) = false := decide_eq_false h6
  simp only [go_sem, reduceIte, ↓reduceIte, sevalprocAttr, Z0, Z1, bytesOf, hb, d5, d6]
  exact fin _ _ (0, 0) (fun _ => rfl) rfl rfl rfl (by rw [firstF_r hf]; exact hG) hb (by rw [if_neg h5, if_neg h6])
theorem expC (infos : List InfoD) : ∀ (m : Nat) (e : ExpD), e.sz < m → ExpC infos e := by
  intro m
  induction m with
  | zero => intro e h; omega
  | succ m ih =>
    intro e h
    obtain ⟨k, n, u, t, p, ks, as'⟩ := e
    rw [ExpD.sz, ExpD.szL_eq, ExpD.szA_eq] at h
    refine exp_C infos k n u t p ks as' (fun a ha => ih a (by have := sumSz_mem ExpD.sz ha; omega)) (fun q e ha => ih e ?_)
    have := sumSz_mem ArmD.sz ha
    rw [ArmD.sz] at this
    omega
theorem scopeC (g : ProgD) (hb : g.sz ≤ 1048576) (H : List AO) : ACall Tryz.prog 8 [av g.cells] H (pureQ (av (scopeF g).cells) H) := by
  refine acall_drop1 ?_ (tf_av _)
  have hz : g.body.sz ≤ 1048576 := by rw [ProgD.sz] at hb; omega
  have hexp := fun f H j h1 h2 => expC (tableV g.types) _ g.body (Nat.lt_succ_self _) [] f H j h1 h2 (by simp; omega)
  have htab := tableC g hb
  have hgc : ∃ b0 b1 b2 b3 b4 b5 b6, g.body.cells = [b0, b1, b2, b3, b4, b5, b6] := by
    obtain ⟨ts, ⟨k, n, u, t, p, ks, as'⟩⟩ := g
    exact ⟨_, _, _, _, _, _, _, rfl⟩
  obtain ⟨b0, b1, b2, b3, b4, b5, b6, hgc⟩ := hgc
  have hgg : g.cells = [.l (g.types.map DataD.cells), b0, b1, b2, b3, b4, b5, b6] := by rw [ProgD.cells, hgc]
  rw [hgg] at htab
  rw [hgc] at hexp
  rw [hgg]
  refine call8 (by simp) ?_
  simp only [go_sem, reduceIte, ↓reduceIte, sevalprocAttr, Z0, Z1, bytesOf, mc8, mr8]
  refine acall_pure (htab _) ?_
  have hfz : (tableF g.types).1 = 0 → tableF g.types = (0, 0) := tableF_z _
  cases hok : g.ok
  · have e : tableR g = ([], (20, 0)) := by rw [tableR, hok]; rfl
    have e2 : scopeF g = (20, 0) := by rw [scopeF, hok]; rfl
    simp only [go_sem, reduceIte, ↓reduceIte, sevalprocAttr, Z0, Z1, bytesOf, tabAV, e, e2, Ft.cells]
    exact ⟨rfl, _, rfl⟩
  have e : tableR g = (if (tableF g.types).1 = 0 then (tableV g.types, (0, 0)) else ([], tableF g.types)) := by rw [tableR, hok]; rfl
  have e2 : scopeF g = firstF (tableF g.types) (g.body.ft (tableV g.types) []) := by rw [scopeF, hok]; rfl
  by_cases h0 : (tableF g.types).1 = 0
  · rw [if_pos h0] at e
    rw [hfz h0, firstF_z] at e2
    simp only [go_sem, reduceIte, ↓reduceIte, sevalprocAttr, Z0, Z1, bytesOf, tabAV, e, e2, Ft.cells]
    refine acall_pure (acall_weak (hexp (0, 0) _ (H.length + 3) (fun _ => rfl) (by rw [get_off]; rfl)) rfl ?_) ?_
    · intro j a b h1 h2
      match j with
      | 0 => cases h1; cases h2; exact fun _ _ _ h => h
      | 1 => cases h1; cases h2; exact fun _ _ _ h => h
      | 2 => cases h1; cases h2; exact nl_weak
      | j + 3 => simp at h1
    · rw [firstF_z]
      simp only [go_sem, reduceIte, ↓reduceIte, sevalprocAttr, Z0, Z1, bytesOf, scO]
      exact ⟨rfl, _, rfl⟩
  · rw [if_neg h0] at e
    rw [firstF_ne h0] at e2
    simp only [go_sem, reduceIte, ↓reduceIte, sevalprocAttr, Z0, Z1, bytesOf, tabAV, e, e2, Ft.cells, dF h0]
    exact ⟨rfl, _, rfl⟩
end Go.Proofs.YtnelfbcgplooiaaGreat.Pg

/- The reference: words with others behind them; patterns. -/
set_option linter.all false
namespace Go.Proofs.YtnelfbcgplooiaaGreat.Pg
open Go.AM Mc

theorem with0 (a b : List (List UInt8)) (hb : a.length + b.length ≤ 4398046511104) : ACall Tryz.prog 47 [.p (.l (namesC a)), .p (.l (namesC b))] [] (fun r H' => OwnR H' r 1 (nmR (a ++ b))) := by
  refine call47 (by simp) ?_
  have l1 : (nmR a).length = a.length := List.length_map _
  have l2 : (nmR b).length = b.length := List.length_map _
  have e1 : (namesC a).map (fun y => y.map AV.p) = nmR a := nmR_eq a
  have e2 : (namesC b).map (fun y => y.map AV.p) = nmR b := nmR_eq b
  simp only [go_sem, reduceIte, ↓reduceIte, sevalprocAttr, Z0, Z1, bytesOf, mc47, mr47, e1, e2, l1, l2, Nat.zero_add]
  have h1 : ∀ r ∈ nmR a, r.length = 1 := by intro r hr; obtain ⟨s, _, rfl⟩ := List.mem_map.1 hr; rfl
  have h2 : ∀ r ∈ nmR b, r.length = 1 := by intro r hr; obtain ⟨s, _, rfl⟩ := List.mem_map.1 hr; rfl
  refine ⟨h1, by omega, by omega, h2, by omega, by omega, ?_⟩
  have ht : (nmR a).take a.length = nmR a := by rw [← l1, List.take_length]
  rw [ht, ← nmR_app]
  exact ⟨by omega, .inr ⟨0, 2, by simp [nmR], rfl⟩⟩
theorem withC {a b : List (List UInt8)} (hb : a.length + b.length ≤ 4398046511104) {H : List AO} {x y : AV} (hx : Lent H x (.p (.l (namesC a)))) (hy : Lent H y (.p (.l (namesC b)))) :
    ACall Tryz.prog 47 [x, y] H (pureQ (.p (.l (namesC (a ++ b)))) H) := by
  refine acall_drop1 (acall_kill (acall_ownAt (with0 a b hb) (lentAll_cons hx (lentAll_cons hy (lentAll_nil _))) ?_) ?_) (tf_p _)
  · intro r hr c hc
    obtain ⟨s, _, rfl⟩ := List.mem_map.1 hr
    simp only [List.mem_cons, List.not_mem_nil, or_false] at hc
    subst hc
    exact grnd_s _
  · rintro r H' ⟨A, rfl, ho⟩
    rcases ho with ⟨rfl, hk⟩ | ⟨id, ver, h0, h1, rfl, h2⟩
    · have : a ++ b = [] := List.map_eq_nil_iff.1 hk
      exact .inl ⟨_, .nl, by rw [this]; rfl, _, rfl⟩
    · rw [← nmR_eq] at h2 ⊢
      refine .inr ⟨id, _, _, h2, tfO_rows _ _ _, ?_, rfl, _, List.set_append_right _ _ h0⟩
      rw [List.length_map]
      exact lent_one (by intro y hy; obtain ⟨a, _, rfl⟩ := List.mem_map.1 hy; rfl)
/-- names that are owned, lent -/
theorem lent_nm {H : List AO} {a : AV} {l : List (List UInt8)} (h : OwnR H a 1 (nmR l)) : Lent H a (.p (.l (namesC l))) := by
  rcases h with ⟨rfl, hk⟩ | ⟨id, ver, rfl, h2⟩
  · have : l = [] := List.map_eq_nil_iff.1 hk
    rw [this]; exact .nl
  · rw [← nmR_eq] at h2 ⊢
    rw [List.length_map]
    exact lent_rows h2 (by intro y hy; obtain ⟨a, _, rfl⟩ := List.mem_map.1 hy; rfl)
theorem findOwn {H : List AO} {a : AV} {l : List (List UInt8)} (h : OwnR H a 1 (nmR l)) (s : List UInt8) : ACall Tryz.prog 27 [a, .p (.s s)] H (pureQ (.p (.i .i64 (idxI l s))) H) :=
  acall_lendP (l5FindC l s) (grnd_i _ _) (lentAll_cons (lent_nm h) (lentAll_cons (.pure _) (lentAll_nil _)))
/-- names at work -/
structure NmS (H0 H : List AO) (a0 a : AV) (names : List (List UInt8)) : Prop where
  own : OwnR H a 1 (nmR names)
  len : H0.length ≤ H.length
  keep : ∀ (i : Nat) o, H0[i]? = some o → (∀ v q n, a0 ≠ .gs i v q n) → H[i]? = some o
  id : ∀ id v q n, a = .gs id v q n → H0.length ≤ id ∨ ∃ v' q' n', a0 = .gs id v' q' n'
section
variable {H0 H H' : List AO} {a0 a : AV} {names : List (List UInt8)}
theorem NmS.refl (ho : OwnR H a 1 (nmR names)) : NmS H H a a names := ⟨ho, Nat.le_refl _, fun _ _ h _ => h, fun _ _ _ _ h => .inr ⟨_, _, _, h⟩⟩
theorem NmS.ext (h : NmS H0 H a0 a names) (A : List AO) : NmS H0 (H ++ A) a0 a names :=
  ⟨h.own.ext, by rw [List.length_append]; have := h.len; omega, fun i o hi h1 => get_ext (h.keep i o hi h1) A, h.id⟩
theorem NmS.setV (h : NmS H0 H a0 a names) {i : Nat} {cs : List AV} (hi : H0.length ≤ i) (hv : H[i]? = some (.var cs)) (o : AO) : NmS H0 (H.set i o) a0 a names :=
  ⟨ownR_setVar h.own hv, by simpa using h.len, fun k o' hk hna => get_set (h.keep k o' hk hna) (by have := get_lt hk; omega), h.id⟩
theorem NmS.trans {H1 : List AO} {a1 : AV} {n1 : List (List UInt8)} (h : NmS H0 H1 a0 a1 n1) (h2 : NmS H1 H' a1 a names) : NmS H0 H' a0 a names :=
  ⟨h2.own, Nat.le_trans h.len h2.len, fun i o hi hna => h2.keep i o (h.keep i o hi hna) (fun v q n e => by
    rcases h.id i v q n e with h3 | ⟨v', q', n', h3⟩
    · have := get_lt hi; omega
    · exact hna _ _ _ h3), fun id v q n e => by
    rcases h2.id id v q n e with h3 | ⟨v', q', n', h3⟩
    · have := h.len; exact .inl (by omega)
    · exact h.id _ _ _ _ h3⟩
theorem NmS.name (h : NmS H0 H a0 a names) {X : List AO} {id ver n0 : Nat} {s : List UInt8} (hk : ∀ (i : Nat) o, H[i]? = some o → (∀ v q n, a ≠ .gs i v q n) → X[i]? = some o) (hx : X[id]? = some (.rows 1 ver (nmR (names ++ [s]))))
    (hs : (∃ v o n, a = .gs id v o n) ∨ H.length ≤ id) (hl : H.length ≤ X.length) (hn : n0 = (names ++ [s]).length) : NmS H0 X a0 (.gs id ver 0 n0) (names ++ [s]) := by
  subst hn
  refine ⟨.inr ⟨id, ver, by rw [show (nmR (names ++ [s])).length = (names ++ [s]).length from List.length_map _], hx⟩, Nat.le_trans h.len hl, ?_, ?_⟩
  · intro i o hi hna
    refine hk _ _ (h.keep i o hi hna) ?_
    intro v q n e
    rcases h.id _ _ _ _ e with h' | ⟨_, _, _, h'⟩
    · have := get_lt hi; omega
    · exact hna _ _ _ h'
  · rintro i v q n e
    cases e
    rcases hs with ⟨_, _, _, e⟩ | h'
    · exact h.id _ _ _ _ e
    · exact .inl (Nat.le_trans h.len h')
end
def PatQ (H : List AO) (nv : AV) (f : Ft) (names : List (List UInt8)) (r : AV) (H' : List AO) : Prop := ∃ a names', r = .tup [a, av f.cells] ∧ NmS H H' nv a names' ∧ (f.1 = 0 → names' = names)
def PatS (infos : List InfoD) (p : PatD) : Prop := ∀ (H : List AO) (nv : AV) (names : List (List UInt8)), OwnR H nv 1 (nmR names) → names.length + p.sz + 2 ≤ 4194304 →
  ACall Tryz.prog 48 [.p (.l (infos.map InfoD.cells)), av p.cells, nv] H (PatQ H nv (p.ft infos names) (names ++ p.bound))
theorem patTailS {infos : List InfoD} {k : Int} {n : List UInt8} {u p : Int} {ks : List PatD} (hk : ∀ x ∈ ks, PatS infos x) {L : En} {H H1 : List AO} {b c : Nat} {nv a : AV} {names : List (List UInt8)} {F : Ft} (hF : F = PatD.ftL infos names ks)
    (h0 : eget L 0 = .p (.l (infos.map InfoD.cells))) (h2 : eget L 2 = a) (h4 : eget L 4 = .ptr b 0) (h7 : eget L 7 = .ptr c 0) (hM : NmS H H1 nv a names) (hb : H1[b]? = some (.var ((PatD.cells (.mk k n u p ks)).map .p))) (hc : H1[c]? = some (.var [.p (.i .i64 0), .p (.i .i64 0)])) (hbl : H.length ≤ b) (hcl : H.length ≤ c) (hbnd : names.length + PatD.szL ks + 1 ≤ 4194304)
    {nm : List (List UInt8)} (hnm : nm = names ++ PatD.boundL ks) : wpm (ACall Tryz.prog) mc48t (finK mr48 (PatQ H nv F nm)) ⟨L, [], H1⟩ := by
  have hb' : H1[b]? = some (.var [.p (.i .i64 k), .p (.s n), .p (.i .i64 u), .p (.i .i64 p), .p (.l (PatD.cellsL ks))]) := hb
  rw [PatD.cellsL_eq] at hb'
  rw [PatD.szL_eq] at hbnd
  have hsl := sumSz_len PatD.sz ks
  simp only [go_sem, reduceIte, ↓reduceIte, sevalprocAttr, Z0, Z1, bytesOf, mc48t, mr48]
  refine ⟨Nat × AV × List AO, [0, 2, 4, 7, 9], fun x st => st.T = [] ∧ st.H = x.2.2 ∧ eget st.L 0 = .p (.l (infos.map InfoD.cells)) ∧ eget st.L 2 = x.2.1 ∧ eget st.L 4 = .ptr b 0 ∧ eget st.L 7 = .ptr c 0 ∧ eget st.L 9 = .p (.i .i64 x.1) ∧
    x.1 ≤ ks.length ∧ NmS H x.2.2 nv x.2.1 (names ++ PatD.boundL (ks.take x.1)) ∧ PatD.ftL infos names (ks.take x.1) = (0, 0) ∧ x.2.2[b]? = some (.var [.p (.i .i64 k), .p (.s n), .p (.i .i64 u), .p (.i .i64 p), .p (.l (ks.map PatD.cells))]) ∧ x.2.2[c]? = some (.var [.p (.i .i64 0), .p (.i .i64 0)]), fun x => ks.length - x.1, ⟨(0, a, H1), ?_⟩, ?_⟩
  · simp only [go_sem, reduceIte, ↓reduceIte, sevalprocAttr, Z0, Z1, bytesOf, eget_keep, eget_same, eget_ne, h0, h2, h4, h7, hb', hc]
    exact ⟨Nat.zero_le _, by simp only [List.take_zero, PatD.boundL, List.append_nil]; exact hM, rfl⟩
  rintro ⟨x, v, HG⟩ st ⟨hT, hH, q0, q2, q4, q7, q9, hx, hMG, hz, gb, gc⟩
  obtain ⟨SL, ST, SH⟩ := st
  simp only at hT hH q0 q2 q4 q7 q9 hx hMG hz gb gc
  subst hT hH
  simp only [go_sem, reduceIte, ↓reduceIte, sevalprocAttr, Z0, Z1, bytesOf, q4, q9, gb, eget_same, eget_ne, List.length_map]
  intro hl
  by_cases hlt : x < ks.length
  · have d1 : decide ((x : Int) < (ks.length : Int)) = true := by simp; omega
    have hlt' : ((x : Int) < (ks.length : Int)) := by omega
    have ex := wrN x (by omega)
    have hg : (ks.map PatD.cells)[x]? = some (PatD.cells ks[x]) := by simp [hlt]
    have hcall := hk ks[x] (List.getElem_mem hlt)
    have hft := pftL_step (infos := infos) (names := names) hlt
    rw [hz, firstF_z] at hft
    have hnone := fun h => pftL_none (infos := infos) (l := ks) (names := names) (x := x + 1) h
    have hbd := boundL_step hlt
    have hbx := PatD.boundLenL (ks.take x)
    rw [PatD.szL_eq] at hbx
    have hsx := sumSz_get PatD.sz hlt
    have hcz := PatD.ft_z infos (names ++ PatD.boundL (ks.take x)) ks[x]
    generalize ks[x] = d at hg hcall hft hbd hsx hcz
    obtain ⟨ck, cn, cu, cp, cks⟩ := d
    simp only [go_sem, reduceIte, ↓reduceIte, sevalprocAttr, Z0, Z1, bytesOf, q0, q2, q4, q9, d1, hlt', hg, gb, eget_same, eget_ne, PatD.cells, List.length_map]
    refine (hcall SH v _ hMG.own (by rw [List.length_append]; omega)).mono ?_
    rintro r H' ⟨a', nm', rfl, hS, hnm'⟩
    have hS2 := hMG.trans hS
    have hb2 := hS.keep _ _ gb (ownR_ne hMG.own gb)
    have hc2 := hS.keep _ _ gc (ownR_ne hMG.own gc)
    have hn : ∀ v q n, a' ≠ .gs c v q n := ownR_ne hS2.own hc2
    generalize PatD.ft infos (names ++ PatD.boundL (ks.take x)) (.mk ck cn cu cp cks) = fc at hft hcz hnm' ⊢
    obtain ⟨f1, f2⟩ := fc
    by_cases h0 : f1 = 0
    · subst h0
      have h0' : f2 = 0 := by have := hcz rfl; simpa using this
      subst h0'
      have hnm2 := hnm' rfl
      simp only [go_sem, reduceIte, ↓reduceIte, sevalprocAttr, Z0, Z1, bytesOf, Ft.cells, eget_keep, eget_same, eget_ne, q0, q2, q4, q7, q9, ex]
      refine ⟨(x + 1, a', _), ⟨rfl, rfl, rfl, by simp only; omega, ?_, hft, get_ext hb2 _, get_ext hc2 _⟩, by simp only; omega⟩
      simp only
      rw [hbd, ← List.append_assoc, ← hnm2]
      exact hS2.ext _
    · have e0 : F = (f1, f2) := by rw [hF, hnone (by rw [hft]; exact h0), hft]
      subst e0
      simp only [go_sem, reduceIte, ↓reduceIte, sevalprocAttr, Z0, Z1, bytesOf, Ft.cells, eget_keep, eget_same, eget_ne, q0, q2, q4, q7, q9, dF h0]
      refine drw_same ?_
      simp only [go_sem, reduceIte, ↓reduceIte, sevalprocAttr, Z0, Z1, bytesOf, eget_keep, eget_same, eget_ne, q7, get_ext hc2 _]
      rw [set_get (get_ext hc2 _)]
      simp only [go_sem, reduceIte, ↓reduceIte, sevalprocAttr, Z0, Z1, bytesOf]
      exact ⟨a', nm', rfl, (hS2.ext _).setV hcl (get_ext hc2 _) _, fun h => (h0 h).elim⟩
  · have : x = ks.length := by omega
    subst this
    have d1 : decide ((ks.length : Int) < (ks.length : Int)) = false := by simp
    rw [List.take_length] at hMG hz
    have e0 : F = (0, 0) := by rw [hF, hz]
    subst e0
    simp only [go_sem, reduceIte, ↓reduceIte, sevalprocAttr, Z0, Z1, bytesOf, q2, q7, d1, eget_same, eget_ne, gc]
    rw [set_get gc]
    simp only [go_sem, reduceIte, ↓reduceIte, sevalprocAttr, Z0, Z1, bytesOf]
    exact ⟨v, _, rfl, hMG.setV hcl gc _, fun _ => hnm.symm⟩
theorem pat_S (infos : List InfoD) (k : Int) (n : List UInt8) (u p : Int) (ks : List PatD) (hk1 : k = 7 → ks.length ≤ 1) (hk : ∀ x ∈ ks, PatS infos x) : PatS infos (.mk k n u p ks) := by
  intro H nv names ho hbnd
  rw [PatD.sz] at hbnd
  refine call48 (by simp) ?_
  have hM := (NmS.refl ho).ext [AO.var [.p (.i .i64 k), .p (.s n), .p (.i .i64 u), .p (.i .i64 p), .p (.l (PatD.cellsL ks))], AO.var [.p (.i .i64 0), .p (.i .i64 0)]]
  have hb : (H ++ [AO.var [.p (.i .i64 k), .p (.s n), .p (.i .i64 u), .p (.i .i64 p), .p (.l (PatD.cellsL ks))], AO.var [.p (.i .i64 0), .p (.i .i64 0)]])[H.length]? = some (AO.var [.p (.i .i64 k), .p (.s n), .p (.i .i64 u), .p (.i .i64 p), .p (.l (PatD.cellsL ks))]) := by rw [get_off0]; rfl
  have hc : (H ++ [AO.var [.p (.i .i64 k), .p (.s n), .p (.i .i64 u), .p (.i .i64 p), .p (.l (PatD.cellsL ks))], AO.var [.p (.i .i64 0), .p (.i .i64 0)]])[H.length + 1]? = some (AO.var [.p (.i .i64 0), .p (.i .i64 0)]) := by rw [get_off]; rfl
  simp only [go_sem, reduceIte, ↓reduceIte, sevalprocAttr, Z0, Z1, bytesOf, mc48, mr48, PatD.cells]
  generalize H ++ [AO.var [.p (.i .i64 k), .p (.s n), .p (.i .i64 u), .p (.i .i64 p), .p (.l (PatD.cellsL ks))], AO.var [.p (.i .i64 0), .p (.i .i64 0)]] = H1 at hM hb hc ⊢
  have nl : (nmR names).length = names.length := List.length_map _
  by_cases h2 : k = 2
  · subst h2
    have eb : PatD.bound (.mk 2 n u p ks) = [n] ++ PatD.boundL ks := by rw [PatD.bound]; rfl
    have ef : PatD.ft infos names (.mk 2 n u p ks) = firstF (if n ∈ names then (30, p) else (0, 0)) (PatD.ftL infos (names ++ [n]) ks) := by
      rw [PatD.ft, if_pos rfl, if_pos rfl]
    simp only [go_sem, reduceIte, ↓reduceIte, sevalprocAttr, Z0, Z1, bytesOf, hb]
    refine acall_pure (findOwn hM.own n) ?_
    simp only [go_sem, reduceIte, ↓reduceIte, sevalprocAttr, Z0, Z1, bytesOf, idxI_nonneg]
    by_cases hm : n ∈ names
    · rw [if_pos hm, firstF_ne (by simp)] at ef
      simp only [go_sem, reduceIte, ↓reduceIte, sevalprocAttr, Z0, Z1, bytesOf, dT hm]
      refine drw_same ?_
      simp only [go_sem, reduceIte, ↓reduceIte, sevalprocAttr, Z0, Z1, bytesOf, hb, hc]
      rw [set_get hc, ef]
      simp only [go_sem, reduceIte, ↓reduceIte, sevalprocAttr, Z0, Z1, bytesOf]
      exact ⟨nv, names, rfl, hM.setV (by omega) hc _, fun h => by simp at h⟩
    · rw [if_neg hm, firstF_z] at ef
      simp only [go_sem, reduceIte, ↓reduceIte, sevalprocAttr, Z0, Z1, bytesOf, dF hm, hb]
      refine ⟨by intro r hr; simp at hr; subst hr; rfl, ?_⟩
      have hM3 := hM.ext [AO.rows 1 0 [[.p (.s n)]]]
      have hb3 := get_ext hb [AO.rows 1 0 [[.p (.s n)]]]
      have hc3 := get_ext hc [AO.rows 1 0 [[.p (.s n)]]]
      refine app_fr hM3.own (by rw [nl]; simp; omega) (by rw [nl]; simp; omega) ?_
      intro id ver H3 hid hside hkeep hlen
      have hb4 := hkeep _ _ hb3 (ownR_ne hM3.own hb3)
      have hc4 := hkeep _ _ hc3 (ownR_ne hM3.own hc3)
      simp only [go_sem, reduceIte, ↓reduceIte, sevalprocAttr, Z0, Z1, bytesOf, hb4]
      rw [show nmR names ++ [[AV.p (.s n)]] = nmR (names ++ [n]) from (nmR_app names [n]).symm] at hid
      have hM4 := hM3.name (n0 := (nmR names).length + 1) hkeep hid hside hlen (by rw [nl, List.length_append]; rfl)
      exact patTailS (c := H.length + 1) hk ef rfl rfl rfl rfl hM4 hb4 hc4 (Nat.le_refl _) (by omega) (by rw [List.length_append, List.length_singleton]; omega) (by rw [eb, List.append_assoc])
  have d2 : decide (k = 2) = false := decide_eq_false h2
  have eb : PatD.bound (.mk k n u p ks) = PatD.boundL ks := by rw [PatD.bound, if_neg h2]; rfl
  by_cases h7 : k = 7
  · subst h7
    have ef : PatD.ft infos names (.mk 7 n u p ks) = firstF (ctorF infos n ks.length p) (PatD.ftL infos names ks) := by
      rw [PatD.ft, if_neg (by decide), if_pos rfl, if_neg (by decide), List.append_nil]
    simp only [go_sem, reduceIte, ↓reduceIte, sevalprocAttr, Z0, Z1, bytesOf, hb, PatD.cellsL_len]
    intro _
    refine acall_pure (ctorFaultS (infos := infos) n ks.length (hk1 rfl) p _) ?_
    have hcz := ctorF_z infos n ks.length p
    have e7 : (H1 ++ [AO.var [.p (.i .i64 0), .p (.i .i64 0)]]).length = H1.length + 1 := by simp
    generalize ctorF infos n ks.length p = fc at ef hcz ⊢
    obtain ⟨f1, f2⟩ := fc
    have hcl := get_lt hc
    by_cases h0 : f1 = 0
    · subst h0
      have h0' : f2 = 0 := by have := hcz rfl; simpa using this
      subst h0'
      rw [firstF_z] at ef
      simp only [go_sem, reduceIte, ↓reduceIte, sevalprocAttr, Z0, Z1, bytesOf, Ft.cells]
      exact patTailS (c := H.length + 1) hk ef rfl rfl rfl rfl (hM.ext _) (get_ext hb _) (get_ext hc _) (Nat.le_refl _) (by omega) (by omega) (by rw [eb])
    · rw [firstF_ne h0] at ef
      simp only [go_sem, reduceIte, ↓reduceIte, sevalprocAttr, Z0, Z1, bytesOf, Ft.cells, dF h0]
      refine drw_same ?_
      simp only [go_sem, reduceIte, ↓reduceIte, sevalprocAttr, Z0, Z1, bytesOf, get_ext hc _]
      rw [set_get (get_ext hc _), ef]
      simp only [go_sem, reduceIte, ↓reduceIte, sevalprocAttr, Z0, Z1, bytesOf]
      exact ⟨nv, names, rfl, (hM.ext _).setV (by omega) (get_ext hc _) _, fun h => (h0 h).elim⟩
  have d7 : decide (k = 7) = false := decide_eq_false h7
  have ef : PatD.ft infos names (.mk k n u p ks) = PatD.ftL infos names ks := by
    rw [PatD.ft, if_neg h2, if_neg h7, if_neg h2, List.append_nil, firstF_z]
  simp only [go_sem, reduceIte, ↓reduceIte, sevalprocAttr, Z0, Z1, bytesOf, hb, d7, d2]
  exact patTailS (c := H.length + 1) hk ef rfl rfl rfl rfl hM hb hc (Nat.le_refl _) (by omega) (by omega) (by rw [eb])
theorem patHead7 {n : List UInt8} {u p : Int} {nk : Nat} (h : patHead 7 n u p nk = true) : nk ≤ 1 := by
  unfold patHead at h
  simp at h
  exact h.2.1
theorem patS (infos : List InfoD) : ∀ (m : Nat) (p : PatD), p.sz < m → p.ok = true → PatS infos p := by
  intro m
  induction m with
  | zero => intro p h; omega
  | succ m ih =>
    intro p h hok
    obtain ⟨k, n, u, q, ks⟩ := p
    rw [PatD.sz, PatD.szL_eq] at h
    rw [PatD.ok, PatD.okL_eq, Bool.and_eq_true] at hok
    exact pat_S infos k n u q ks (fun e => by subst e; exact patHead7 hok.1) fun a ha => ih a (by have := sumSz_mem PatD.sz ha; omega) (List.all_eq_true.1 hok.2 a ha)
end Go.Proofs.YtnelfbcgplooiaaGreat.Pg
