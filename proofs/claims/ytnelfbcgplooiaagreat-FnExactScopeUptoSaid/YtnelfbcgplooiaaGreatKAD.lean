/- Texts PgQ PgR PgS PgT PgU PgV PgW PgX, merged. -/
import Derived.Test.YtnelfbcgplooiaaGreatKAC
/- Patterns and types that are right, as the reference judges. -/
set_option linter.all false
namespace Go.Proofs.YtnelfbcgplooiaaGreat.Pg
open Go.AM Mc

theorem all_take_false {α : Type} {p : α → Bool} {s : List α} {x : Nat} (h : (s.take x).all p = false) : s.all p = false := by
  rw [List.all_eq_false] at h ⊢
  obtain ⟨a, ha, hp⟩ := h
  exact ⟨a, List.mem_of_mem_take ha, hp⟩
theorem and_take_false {α : Type} {p : α → Bool} {s : List α} {x : Nat} {B : Bool} (h : (B && (s.take x).all p) = false) : (B && s.all p) = false := by
  cases B
  · rfl
  · rw [Bool.true_and] at h ⊢
    exact all_take_false h
theorem all_step {α : Type} {p : α → Bool} {s : List α} {x : Nat} {B : Bool} (hB : (B && (s.take x).all p) = true) (h : x < s.length) : (B && (s.take (x + 1)).all p) = p s[x] := by
  rw [all_takeA h, ← Bool.and_assoc, hB, Bool.true_and]
theorem pat_OkS (k : Int) (n : List UInt8) (u p : Int) (ks : List PatD) (hk : ∀ a ∈ ks, OkC 98 (av a.cells) a.ok) : OkC 98 (av (PatD.cells (.mk k n u p ks))) (PatD.ok (.mk k n u p ks)) := by
  intro H
  refine acall_drop1 ?_ (tf_p _)
  refine call98 (by simp) ?_
  rw [PatD.ok, PatD.okL_eq]
  by_cases h1 : k = 1 ∨ k = 5
  · have e : patHead k n u p ks.length = (decide (0 ≤ p) && (decide (n = []) && (decide (u = 0) && decide (ks.length = 0)))) := by
      unfold patHead
      rw [if_pos h1]
      all_goals generalize decide (0 ≤ p) = b0
      all_goals generalize decide (n = []) = b1
      all_goals generalize decide (u = 0) = b2
      all_goals generalize decide (ks.length = 0) = b3
      all_goals cases b0 <;> cases b1 <;> cases b2 <;> cases b3 <;> rfl
    rw [e]
    rcases h1 with rfl | rfl
    · simp only [go_sem, reduceIte, ↓reduceIte, sevalprocAttr, Z0, Z1, bytesOf, mc98, mr98, PatD.cells, PatD.cellsL_eq, List.length_map, dN0, dN1, dN2, dE1, dE2, dE3, dPos]
      intro hl
      rw [maxLe] at hl
      try (simp only [go_sem, reduceIte, ↓reduceIte, sevalprocAttr, Z0, Z1, bytesOf, PatD.cellsL_eq, List.length_map, dN0, dN1, dN2, dE1, dE2, dE3, dPos])
      cases ha0 : decide (0 ≤ p)
      · simp only [go_sem, reduceIte, ↓reduceIte, sevalprocAttr, Z0, Z1, bytesOf, ha0, Bool.false_and]
        refine ⟨Unit, [1, 3, 4, 7], fun _ st => st = ⟨[(1, .ptr H.length 0), (3, .p (.i .i64 ks.length)), (4, .p (.b false)), (7, .p (.i .i64 0))], [], H ++ [AO.var [.p (.i .i64 1), .p (.s n), .p (.i .i64 u), .p (.i .i64 p), .p (.l (ks.map PatD.cells))]]⟩, fun _ => 0, ⟨(), ?_⟩, ?_⟩
        · simp only [go_sem, reduceIte, ↓reduceIte, sevalprocAttr, Z0, Z1, bytesOf]
        · rintro _ _ rfl
          cases h0 : decide ((0 : Int) < (ks.length : Int)) <;> (simp only [go_sem, reduceIte, ↓reduceIte, sevalprocAttr, Z0, Z1, bytesOf, h0]; exact ⟨_, rfl⟩)
      · simp only [go_sem, reduceIte, ↓reduceIte, sevalprocAttr, Z0, Z1, bytesOf, ha0, Bool.true_and, PatD.cellsL_eq, List.length_map, dN0, dN1, dN2, dE1, dE2, dE3, dPos]
        cases ha1 : decide (n = [])
        · simp only [go_sem, reduceIte, ↓reduceIte, sevalprocAttr, Z0, Z1, bytesOf, ha1, Bool.false_and]
          refine ⟨Unit, [1, 3, 4, 7], fun _ st => st = ⟨[(1, .ptr H.length 0), (3, .p (.i .i64 ks.length)), (4, .p (.b false)), (7, .p (.i .i64 0))], [], H ++ [AO.var [.p (.i .i64 1), .p (.s n), .p (.i .i64 u), .p (.i .i64 p), .p (.l (ks.map PatD.cells))]]⟩, fun _ => 0, ⟨(), ?_⟩, ?_⟩
          · simp only [go_sem, reduceIte, ↓reduceIte, sevalprocAttr, Z0, Z1, bytesOf]
          · rintro _ _ rfl
            cases h0 : decide ((0 : Int) < (ks.length : Int)) <;> (simp only [go_sem, reduceIte, ↓reduceIte, sevalprocAttr, Z0, Z1, bytesOf, h0]; exact ⟨_, rfl⟩)
        · simp only [go_sem, reduceIte, ↓reduceIte, sevalprocAttr, Z0, Z1, bytesOf, ha1, Bool.true_and, PatD.cellsL_eq, List.length_map, dN0, dN1, dN2, dE1, dE2, dE3, dPos]
          cases ha2 : decide (u = 0)
          · simp only [go_sem, reduceIte, ↓reduceIte, sevalprocAttr, Z0, Z1, bytesOf, ha2, Bool.false_and]
            refine ⟨Unit, [1, 3, 4, 7], fun _ st => st = ⟨[(1, .ptr H.length 0), (3, .p (.i .i64 ks.length)), (4, .p (.b false)), (7, .p (.i .i64 0))], [], H ++ [AO.var [.p (.i .i64 1), .p (.s n), .p (.i .i64 u), .p (.i .i64 p), .p (.l (ks.map PatD.cells))]]⟩, fun _ => 0, ⟨(), ?_⟩, ?_⟩
            · simp only [go_sem, reduceIte, ↓reduceIte, sevalprocAttr, Z0, Z1, bytesOf]
            · rintro _ _ rfl
              cases h0 : decide ((0 : Int) < (ks.length : Int)) <;> (simp only [go_sem, reduceIte, ↓reduceIte, sevalprocAttr, Z0, Z1, bytesOf, h0]; exact ⟨_, rfl⟩)
          · simp only [go_sem, reduceIte, ↓reduceIte, sevalprocAttr, Z0, Z1, bytesOf, ha2, Bool.true_and, PatD.cellsL_eq, List.length_map, dN0, dN1, dN2, dE1, dE2, dE3, dPos]
            try (simp only [go_sem, reduceIte, ↓reduceIte, sevalprocAttr, Z0, Z1, bytesOf, Bool.true_and, PatD.cellsL_eq, List.length_map, dN0, dN1, dN2, dE1, dE2, dE3, dPos])
            refine ⟨Nat × List AO, [1, 3, 4, 7], fun x st => (x.1 ≤ ks.length ∧ x.2[H.length]? = some (.var [.p (.i .i64 1), .p (.s n), .p (.i .i64 u), .p (.i .i64 p), .p (.l (ks.map PatD.cells))]) ∧ ∃ G, x.2 = H ++ G) ∧ st = ⟨[(1, .ptr H.length 0), (3, .p (.i .i64 ks.length)), (4, .p (.b (decide (ks.length = 0) && (ks.take x.1).all PatD.ok))), (7, .p (.i .i64 x.1))], [], x.2⟩, fun x => ks.length - x.1, ⟨(0, H ++ [AO.var [.p (.i .i64 1), .p (.s n), .p (.i .i64 u), .p (.i .i64 p), .p (.l (ks.map PatD.cells))]]), ?_⟩, ?_⟩
            · simp only [go_sem, reduceIte, ↓reduceIte, sevalprocAttr, Z0, Z1, bytesOf, List.take_zero, List.all_nil, Bool.and_true]
              exact ⟨Nat.zero_le _, _, rfl⟩
            · rintro ⟨x, HG⟩ _ ⟨⟨hx, hbG, G', hG'⟩, rfl⟩
              simp only at hx hbG hG'
              by_cases hlt : x < ks.length
              · have d1 : decide ((x : Int) < (ks.length : Int)) = true := by simp; omega
                have hlt' : ((x : Int) < (ks.length : Int)) := by omega
                have ex := wrN x (by omega)
                have hg : (ks.map PatD.cells)[x]? = some (PatD.cells ks[x]) := by simp [hlt]
                cases hB : (decide (ks.length = 0) && (ks.take x).all PatD.ok)
                · simp only [go_sem, reduceIte, ↓reduceIte, sevalprocAttr, Z0, Z1, bytesOf, d1]
                  rw [and_take_false hB]
                  exact ⟨rfl, _, hG'⟩
                · have hok := all_step hB hlt
                  have hcall := hk ks[x] (List.getElem_mem hlt)
                  generalize ks[x] = c at hg hok hcall
                  obtain ⟨ck, cn, cu, cp, cks⟩ := c
                  simp only [go_sem, reduceIte, ↓reduceIte, sevalprocAttr, Z0, Z1, bytesOf, d1, hbG, hlt', hg, PatD.cells, zl8_0, zl8_1, zl8_2, zl8_3]
                  refine acall_pure (hcall _) ?_
                  simp only [go_sem, reduceIte, ↓reduceIte, sevalprocAttr, Z0, Z1, bytesOf, ex]
                  rw [← hok]
                  exact ⟨(x + 1, HG), ⟨⟨by simp only; omega, hbG, _, hG'⟩, rfl⟩, by simp only; omega⟩
              · have : x = ks.length := by omega
                subst this
                have d1 : decide ((ks.length : Int) < (ks.length : Int)) = false := by simp
                simp only [go_sem, reduceIte, ↓reduceIte, sevalprocAttr, Z0, Z1, bytesOf, d1, List.take_length]
                exact ⟨_, hG'⟩
    · simp only [go_sem, reduceIte, ↓reduceIte, sevalprocAttr, Z0, Z1, bytesOf, mc98, mr98, PatD.cells, PatD.cellsL_eq, List.length_map, dN0, dN1, dN2, dE1, dE2, dE3, dPos]
      intro hl
      rw [maxLe] at hl
      try (simp only [go_sem, reduceIte, ↓reduceIte, sevalprocAttr, Z0, Z1, bytesOf, PatD.cellsL_eq, List.length_map, dN0, dN1, dN2, dE1, dE2, dE3, dPos])
      cases ha0 : decide (0 ≤ p)
      · simp only [go_sem, reduceIte, ↓reduceIte, sevalprocAttr, Z0, Z1, bytesOf, ha0, Bool.false_and]
        refine ⟨Unit, [1, 3, 4, 7], fun _ st => st = ⟨[(1, .ptr H.length 0), (3, .p (.i .i64 ks.length)), (4, .p (.b false)), (7, .p (.i .i64 0))], [], H ++ [AO.var [.p (.i .i64 5), .p (.s n), .p (.i .i64 u), .p (.i .i64 p), .p (.l (ks.map PatD.cells))]]⟩, fun _ => 0, ⟨(), ?_⟩, ?_⟩
        · simp only [go_sem, reduceIte, ↓reduceIte, sevalprocAttr, Z0, Z1, bytesOf]
        · rintro _ _ rfl
          cases h0 : decide ((0 : Int) < (ks.length : Int)) <;> (simp only [go_sem, reduceIte, ↓reduceIte, sevalprocAttr, Z0, Z1, bytesOf, h0]; exact ⟨_, rfl⟩)
      · simp only [go_sem, reduceIte, ↓reduceIte, sevalprocAttr, Z0, Z1, bytesOf, ha0, Bool.true_and, PatD.cellsL_eq, List.length_map, dN0, dN1, dN2, dE1, dE2, dE3, dPos]
        cases ha1 : decide (n = [])
        · simp only [go_sem, reduceIte, ↓reduceIte, sevalprocAttr, Z0, Z1, bytesOf, ha1, Bool.false_and]
          refine ⟨Unit, [1, 3, 4, 7], fun _ st => st = ⟨[(1, .ptr H.length 0), (3, .p (.i .i64 ks.length)), (4, .p (.b false)), (7, .p (.i .i64 0))], [], H ++ [AO.var [.p (.i .i64 5), .p (.s n), .p (.i .i64 u), .p (.i .i64 p), .p (.l (ks.map PatD.cells))]]⟩, fun _ => 0, ⟨(), ?_⟩, ?_⟩
          · simp only [go_sem, reduceIte, ↓reduceIte, sevalprocAttr, Z0, Z1, bytesOf]
          · rintro _ _ rfl
            cases h0 : decide ((0 : Int) < (ks.length : Int)) <;> (simp only [go_sem, reduceIte, ↓reduceIte, sevalprocAttr, Z0, Z1, bytesOf, h0]; exact ⟨_, rfl⟩)
        · simp only [go_sem, reduceIte, ↓reduceIte, sevalprocAttr, Z0, Z1, bytesOf, ha1, Bool.true_and, PatD.cellsL_eq, List.length_map, dN0, dN1, dN2, dE1, dE2, dE3, dPos]
          cases ha2 : decide (u = 0)
          · simp only [go_sem, reduceIte, ↓reduceIte, sevalprocAttr, Z0, Z1, bytesOf, ha2, Bool.false_and]
            refine ⟨Unit, [1, 3, 4, 7], fun _ st => st = ⟨[(1, .ptr H.length 0), (3, .p (.i .i64 ks.length)), (4, .p (.b false)), (7, .p (.i .i64 0))], [], H ++ [AO.var [.p (.i .i64 5), .p (.s n), .p (.i .i64 u), .p (.i .i64 p), .p (.l (ks.map PatD.cells))]]⟩, fun _ => 0, ⟨(), ?_⟩, ?_⟩
            · simp only [go_sem, reduceIte, ↓reduceIte, sevalprocAttr, Z0, Z1, bytesOf]
            · rintro _ _ rfl
              cases h0 : decide ((0 : Int) < (ks.length : Int)) <;> (simp only [go_sem, reduceIte, ↓reduceIte, sevalprocAttr, Z0, Z1, bytesOf, h0]; exact ⟨_, rfl⟩)
          · simp only [go_sem, reduceIte, ↓reduceIte, sevalprocAttr, Z0, Z1, bytesOf, ha2, Bool.true_and, PatD.cellsL_eq, List.length_map, dN0, dN1, dN2, dE1, dE2, dE3, dPos]
            try (simp only [go_sem, reduceIte, ↓reduceIte, sevalprocAttr, Z0, Z1, bytesOf, Bool.true_and, PatD.cellsL_eq, List.length_map, dN0, dN1, dN2, dE1, dE2, dE3, dPos])
            refine ⟨Nat × List AO, [1, 3, 4, 7], fun x st => (x.1 ≤ ks.length ∧ x.2[H.length]? = some (.var [.p (.i .i64 5), .p (.s n), .p (.i .i64 u), .p (.i .i64 p), .p (.l (ks.map PatD.cells))]) ∧ ∃ G, x.2 = H ++ G) ∧ st = ⟨[(1, .ptr H.length 0), (3, .p (.i .i64 ks.length)), (4, .p (.b (decide (ks.length = 0) && (ks.take x.1).all PatD.ok))), (7, .p (.i .i64 x.1))], [], x.2⟩, fun x => ks.length - x.1, ⟨(0, H ++ [AO.var [.p (.i .i64 5), .p (.s n), .p (.i .i64 u), .p (.i .i64 p), .p (.l (ks.map PatD.cells))]]), ?_⟩, ?_⟩
            · simp only [go_sem, reduceIte, ↓reduceIte, sevalprocAttr, Z0, Z1, bytesOf, List.take_zero, List.all_nil, Bool.and_true]
              exact ⟨Nat.zero_le _, _, rfl⟩
            · rintro ⟨x, HG⟩ _ ⟨⟨hx, hbG, G', hG'⟩, rfl⟩
              simp only at hx hbG hG'
              by_cases hlt : x < ks.length
              · have d1 : decide ((x : Int) < (ks.length : Int)) = true := by simp; omega
                have hlt' : ((x : Int) < (ks.length : Int)) := by omega
                have ex := wrN x (by omega)
                have hg : (ks.map PatD.cells)[x]? = some (PatD.cells ks[x]) := by simp [hlt]
                cases hB : (decide (ks.length = 0) && (ks.take x).all PatD.ok)
                · simp only [go_sem, reduceIte, ↓reduceIte, sevalprocAttr, Z0, Z1, bytesOf, d1]
                  rw [and_take_false hB]
                  exact ⟨rfl, _, hG'⟩
                · have hok := all_step hB hlt
                  have hcall := hk ks[x] (List.getElem_mem hlt)
                  generalize ks[x] = c at hg hok hcall
                  obtain ⟨ck, cn, cu, cp, cks⟩ := c
                  simp only [go_sem, reduceIte, ↓reduceIte, sevalprocAttr, Z0, Z1, bytesOf, d1, hbG, hlt', hg, PatD.cells, zl8_0, zl8_1, zl8_2, zl8_3]
                  refine acall_pure (hcall _) ?_
                  simp only [go_sem, reduceIte, ↓reduceIte, sevalprocAttr, Z0, Z1, bytesOf, ex]
                  rw [← hok]
                  exact ⟨(x + 1, HG), ⟨⟨by simp only; omega, hbG, _, hG'⟩, rfl⟩, by simp only; omega⟩
              · have : x = ks.length := by omega
                subst this
                have d1 : decide ((ks.length : Int) < (ks.length : Int)) = false := by simp
                simp only [go_sem, reduceIte, ↓reduceIte, sevalprocAttr, Z0, Z1, bytesOf, d1, List.take_length]
                exact ⟨_, hG'⟩
  by_cases h2 : k = 2
  · have e : patHead k n u p ks.length = (decide (0 ≤ p) && (lowD n && (decide (u = 0) && decide (ks.length = 0)))) := by
      unfold patHead
      rw [if_neg h1, if_pos h2]
      all_goals generalize decide (0 ≤ p) = b0
      all_goals generalize lowD n = b1
      all_goals generalize decide (u = 0) = b2
      all_goals generalize decide (ks.length = 0) = b3
      all_goals cases b0 <;> cases b1 <;> cases b2 <;> cases b3 <;> rfl
    rw [e]
    subst h2
    · simp only [go_sem, reduceIte, ↓reduceIte, sevalprocAttr, Z0, Z1, bytesOf, mc98, mr98, PatD.cells, PatD.cellsL_eq, List.length_map, dN0, dN1, dN2, dE1, dE2, dE3, dPos]
      intro hl
      rw [maxLe] at hl
      try (simp only [go_sem, reduceIte, ↓reduceIte, sevalprocAttr, Z0, Z1, bytesOf, PatD.cellsL_eq, List.length_map, dN0, dN1, dN2, dE1, dE2, dE3, dPos])
      cases ha0 : decide (0 ≤ p)
      · simp only [go_sem, reduceIte, ↓reduceIte, sevalprocAttr, Z0, Z1, bytesOf, ha0, Bool.false_and]
        refine ⟨Unit, [1, 3, 4, 7], fun _ st => st = ⟨[(1, .ptr H.length 0), (3, .p (.i .i64 ks.length)), (4, .p (.b false)), (7, .p (.i .i64 0))], [], H ++ [AO.var [.p (.i .i64 2), .p (.s n), .p (.i .i64 u), .p (.i .i64 p), .p (.l (ks.map PatD.cells))]]⟩, fun _ => 0, ⟨(), ?_⟩, ?_⟩
        · simp only [go_sem, reduceIte, ↓reduceIte, sevalprocAttr, Z0, Z1, bytesOf]
        · rintro _ _ rfl
          cases h0 : decide ((0 : Int) < (ks.length : Int)) <;> (simp only [go_sem, reduceIte, ↓reduceIte, sevalprocAttr, Z0, Z1, bytesOf, h0]; exact ⟨_, rfl⟩)
      · simp only [go_sem, reduceIte, ↓reduceIte, sevalprocAttr, Z0, Z1, bytesOf, ha0, Bool.true_and, PatD.cellsL_eq, List.length_map, dN0, dN1, dN2, dE1, dE2, dE3, dPos]
        refine acall_pure (lowS n _) ?_
        (try (simp only [go_sem, reduceIte, ↓reduceIte, sevalprocAttr, Z0, Z1, bytesOf, Bool.true_and]))
        cases ha1 : lowD n
        · simp only [go_sem, reduceIte, ↓reduceIte, sevalprocAttr, Z0, Z1, bytesOf, ha1, Bool.false_and]
          refine ⟨Unit, [1, 3, 4, 7], fun _ st => st = ⟨[(1, .ptr H.length 0), (3, .p (.i .i64 ks.length)), (4, .p (.b false)), (7, .p (.i .i64 0))], [], H ++ [AO.var [.p (.i .i64 2), .p (.s n), .p (.i .i64 u), .p (.i .i64 p), .p (.l (ks.map PatD.cells))]]⟩, fun _ => 0, ⟨(), ?_⟩, ?_⟩
          · simp only [go_sem, reduceIte, ↓reduceIte, sevalprocAttr, Z0, Z1, bytesOf]
          · rintro _ _ rfl
            cases h0 : decide ((0 : Int) < (ks.length : Int)) <;> (simp only [go_sem, reduceIte, ↓reduceIte, sevalprocAttr, Z0, Z1, bytesOf, h0]; exact ⟨_, rfl⟩)
        · simp only [go_sem, reduceIte, ↓reduceIte, sevalprocAttr, Z0, Z1, bytesOf, ha1, Bool.true_and, PatD.cellsL_eq, List.length_map, dN0, dN1, dN2, dE1, dE2, dE3, dPos]
          cases ha2 : decide (u = 0)
          · simp only [go_sem, reduceIte, ↓reduceIte, sevalprocAttr, Z0, Z1, bytesOf, ha2, Bool.false_and]
            refine ⟨Unit, [1, 3, 4, 7], fun _ st => st = ⟨[(1, .ptr H.length 0), (3, .p (.i .i64 ks.length)), (4, .p (.b false)), (7, .p (.i .i64 0))], [], H ++ [AO.var [.p (.i .i64 2), .p (.s n), .p (.i .i64 u), .p (.i .i64 p), .p (.l (ks.map PatD.cells))]]⟩, fun _ => 0, ⟨(), ?_⟩, ?_⟩
            · simp only [go_sem, reduceIte, ↓reduceIte, sevalprocAttr, Z0, Z1, bytesOf]
            · rintro _ _ rfl
              cases h0 : decide ((0 : Int) < (ks.length : Int)) <;> (simp only [go_sem, reduceIte, ↓reduceIte, sevalprocAttr, Z0, Z1, bytesOf, h0]; exact ⟨_, rfl⟩)
          · simp only [go_sem, reduceIte, ↓reduceIte, sevalprocAttr, Z0, Z1, bytesOf, ha2, Bool.true_and, PatD.cellsL_eq, List.length_map, dN0, dN1, dN2, dE1, dE2, dE3, dPos]
            try (simp only [go_sem, reduceIte, ↓reduceIte, sevalprocAttr, Z0, Z1, bytesOf, Bool.true_and, PatD.cellsL_eq, List.length_map, dN0, dN1, dN2, dE1, dE2, dE3, dPos])
            refine ⟨Nat × List AO, [1, 3, 4, 7], fun x st => (x.1 ≤ ks.length ∧ x.2[H.length]? = some (.var [.p (.i .i64 2), .p (.s n), .p (.i .i64 u), .p (.i .i64 p), .p (.l (ks.map PatD.cells))]) ∧ ∃ G, x.2 = H ++ G) ∧ st = ⟨[(1, .ptr H.length 0), (3, .p (.i .i64 ks.length)), (4, .p (.b (decide (ks.length = 0) && (ks.take x.1).all PatD.ok))), (7, .p (.i .i64 x.1))], [], x.2⟩, fun x => ks.length - x.1, ⟨(0, H ++ [AO.var [.p (.i .i64 2), .p (.s n), .p (.i .i64 u), .p (.i .i64 p), .p (.l (ks.map PatD.cells))]]), ?_⟩, ?_⟩
            · simp only [go_sem, reduceIte, ↓reduceIte, sevalprocAttr, Z0, Z1, bytesOf, List.take_zero, List.all_nil, Bool.and_true]
              exact ⟨Nat.zero_le _, _, rfl⟩
            · rintro ⟨x, HG⟩ _ ⟨⟨hx, hbG, G', hG'⟩, rfl⟩
              simp only at hx hbG hG'
              by_cases hlt : x < ks.length
              · have d1 : decide ((x : Int) < (ks.length : Int)) = true := by simp; omega
                have hlt' : ((x : Int) < (ks.length : Int)) := by omega
                have ex := wrN x (by omega)
                have hg : (ks.map PatD.cells)[x]? = some (PatD.cells ks[x]) := by simp [hlt]
                cases hB : (decide (ks.length = 0) && (ks.take x).all PatD.ok)
                · simp only [go_sem, reduceIte, ↓reduceIte, sevalprocAttr, Z0, Z1, bytesOf, d1]
                  rw [and_take_false hB]
                  exact ⟨rfl, _, hG'⟩
                · have hok := all_step hB hlt
                  have hcall := hk ks[x] (List.getElem_mem hlt)
                  generalize ks[x] = c at hg hok hcall
                  obtain ⟨ck, cn, cu, cp, cks⟩ := c
                  simp only [go_sem, reduceIte, ↓reduceIte, sevalprocAttr, Z0, Z1, bytesOf, d1, hbG, hlt', hg, PatD.cells, zl8_0, zl8_1, zl8_2, zl8_3]
                  refine acall_pure (hcall _) ?_
                  simp only [go_sem, reduceIte, ↓reduceIte, sevalprocAttr, Z0, Z1, bytesOf, ex]
                  rw [← hok]
                  exact ⟨(x + 1, HG), ⟨⟨by simp only; omega, hbG, _, hG'⟩, rfl⟩, by simp only; omega⟩
              · have : x = ks.length := by omega
                subst this
                have d1 : decide ((ks.length : Int) < (ks.length : Int)) = false := by simp
                simp only [go_sem, reduceIte, ↓reduceIte, sevalprocAttr, Z0, Z1, bytesOf, d1, List.take_length]
                exact ⟨_, hG'⟩
  by_cases h3 : k = 3
  · have e : patHead k n u p ks.length = (decide (0 ≤ p) && (decide (n = []) && (decide (0 ≤ u) && decide (ks.length = 0)))) := by
      unfold patHead
      rw [if_neg h1, if_neg h2, if_pos h3]
      all_goals generalize decide (0 ≤ p) = b0
      all_goals generalize decide (n = []) = b1
      all_goals generalize decide (0 ≤ u) = b2
      all_goals generalize decide (ks.length = 0) = b3
      all_goals cases b0 <;> cases b1 <;> cases b2 <;> cases b3 <;> rfl
    rw [e]
    subst h3
    · simp only [go_sem, reduceIte, ↓reduceIte, sevalprocAttr, Z0, Z1, bytesOf, mc98, mr98, PatD.cells, PatD.cellsL_eq, List.length_map, dN0, dN1, dN2, dE1, dE2, dE3, dPos]
      intro hl
      rw [maxLe] at hl
      try (simp only [go_sem, reduceIte, ↓reduceIte, sevalprocAttr, Z0, Z1, bytesOf, PatD.cellsL_eq, List.length_map, dN0, dN1, dN2, dE1, dE2, dE3, dPos])
      cases ha0 : decide (0 ≤ p)
      · simp only [go_sem, reduceIte, ↓reduceIte, sevalprocAttr, Z0, Z1, bytesOf, ha0, Bool.false_and]
        refine ⟨Unit, [1, 3, 4, 7], fun _ st => st = ⟨[(1, .ptr H.length 0), (3, .p (.i .i64 ks.length)), (4, .p (.b false)), (7, .p (.i .i64 0))], [], H ++ [AO.var [.p (.i .i64 3), .p (.s n), .p (.i .i64 u), .p (.i .i64 p), .p (.l (ks.map PatD.cells))]]⟩, fun _ => 0, ⟨(), ?_⟩, ?_⟩
        · simp only [go_sem, reduceIte, ↓reduceIte, sevalprocAttr, Z0, Z1, bytesOf]
        · rintro _ _ rfl
          cases h0 : decide ((0 : Int) < (ks.length : Int)) <;> (simp only [go_sem, reduceIte, ↓reduceIte, sevalprocAttr, Z0, Z1, bytesOf, h0]; exact ⟨_, rfl⟩)
      · simp only [go_sem, reduceIte, ↓reduceIte, sevalprocAttr, Z0, Z1, bytesOf, ha0, Bool.true_and, PatD.cellsL_eq, List.length_map, dN0, dN1, dN2, dE1, dE2, dE3, dPos]
        cases ha1 : decide (n = [])
        · simp only [go_sem, reduceIte, ↓reduceIte, sevalprocAttr, Z0, Z1, bytesOf, ha1, Bool.false_and]
          refine ⟨Unit, [1, 3, 4, 7], fun _ st => st = ⟨[(1, .ptr H.length 0), (3, .p (.i .i64 ks.length)), (4, .p (.b false)), (7, .p (.i .i64 0))], [], H ++ [AO.var [.p (.i .i64 3), .p (.s n), .p (.i .i64 u), .p (.i .i64 p), .p (.l (ks.map PatD.cells))]]⟩, fun _ => 0, ⟨(), ?_⟩, ?_⟩
          · simp only [go_sem, reduceIte, ↓reduceIte, sevalprocAttr, Z0, Z1, bytesOf]
          · rintro _ _ rfl
            cases h0 : decide ((0 : Int) < (ks.length : Int)) <;> (simp only [go_sem, reduceIte, ↓reduceIte, sevalprocAttr, Z0, Z1, bytesOf, h0]; exact ⟨_, rfl⟩)
        · simp only [go_sem, reduceIte, ↓reduceIte, sevalprocAttr, Z0, Z1, bytesOf, ha1, Bool.true_and, PatD.cellsL_eq, List.length_map, dN0, dN1, dN2, dE1, dE2, dE3, dPos]
          cases ha2 : decide (0 ≤ u)
          · simp only [go_sem, reduceIte, ↓reduceIte, sevalprocAttr, Z0, Z1, bytesOf, ha2, Bool.false_and]
            refine ⟨Unit, [1, 3, 4, 7], fun _ st => st = ⟨[(1, .ptr H.length 0), (3, .p (.i .i64 ks.length)), (4, .p (.b false)), (7, .p (.i .i64 0))], [], H ++ [AO.var [.p (.i .i64 3), .p (.s n), .p (.i .i64 u), .p (.i .i64 p), .p (.l (ks.map PatD.cells))]]⟩, fun _ => 0, ⟨(), ?_⟩, ?_⟩
            · simp only [go_sem, reduceIte, ↓reduceIte, sevalprocAttr, Z0, Z1, bytesOf]
            · rintro _ _ rfl
              cases h0 : decide ((0 : Int) < (ks.length : Int)) <;> (simp only [go_sem, reduceIte, ↓reduceIte, sevalprocAttr, Z0, Z1, bytesOf, h0]; exact ⟨_, rfl⟩)
          · simp only [go_sem, reduceIte, ↓reduceIte, sevalprocAttr, Z0, Z1, bytesOf, ha2, Bool.true_and, PatD.cellsL_eq, List.length_map, dN0, dN1, dN2, dE1, dE2, dE3, dPos]
            try (simp only [go_sem, reduceIte, ↓reduceIte, sevalprocAttr, Z0, Z1, bytesOf, Bool.true_and, PatD.cellsL_eq, List.length_map, dN0, dN1, dN2, dE1, dE2, dE3, dPos])
            refine ⟨Nat × List AO, [1, 3, 4, 7], fun x st => (x.1 ≤ ks.length ∧ x.2[H.length]? = some (.var [.p (.i .i64 3), .p (.s n), .p (.i .i64 u), .p (.i .i64 p), .p (.l (ks.map PatD.cells))]) ∧ ∃ G, x.2 = H ++ G) ∧ st = ⟨[(1, .ptr H.length 0), (3, .p (.i .i64 ks.length)), (4, .p (.b (decide (ks.length = 0) && (ks.take x.1).all PatD.ok))), (7, .p (.i .i64 x.1))], [], x.2⟩, fun x => ks.length - x.1, ⟨(0, H ++ [AO.var [.p (.i .i64 3), .p (.s n), .p (.i .i64 u), .p (.i .i64 p), .p (.l (ks.map PatD.cells))]]), ?_⟩, ?_⟩
            · simp only [go_sem, reduceIte, ↓reduceIte, sevalprocAttr, Z0, Z1, bytesOf, List.take_zero, List.all_nil, Bool.and_true]
              exact ⟨Nat.zero_le _, _, rfl⟩
            · rintro ⟨x, HG⟩ _ ⟨⟨hx, hbG, G', hG'⟩, rfl⟩
              simp only at hx hbG hG'
              by_cases hlt : x < ks.length
              · have d1 : decide ((x : Int) < (ks.length : Int)) = true := by simp; omega
                have hlt' : ((x : Int) < (ks.length : Int)) := by omega
                have ex := wrN x (by omega)
                have hg : (ks.map PatD.cells)[x]? = some (PatD.cells ks[x]) := by simp [hlt]
                cases hB : (decide (ks.length = 0) && (ks.take x).all PatD.ok)
                · simp only [go_sem, reduceIte, ↓reduceIte, sevalprocAttr, Z0, Z1, bytesOf, d1]
                  rw [and_take_false hB]
                  exact ⟨rfl, _, hG'⟩
                · have hok := all_step hB hlt
                  have hcall := hk ks[x] (List.getElem_mem hlt)
                  generalize ks[x] = c at hg hok hcall
                  obtain ⟨ck, cn, cu, cp, cks⟩ := c
                  simp only [go_sem, reduceIte, ↓reduceIte, sevalprocAttr, Z0, Z1, bytesOf, d1, hbG, hlt', hg, PatD.cells, zl8_0, zl8_1, zl8_2, zl8_3]
                  refine acall_pure (hcall _) ?_
                  simp only [go_sem, reduceIte, ↓reduceIte, sevalprocAttr, Z0, Z1, bytesOf, ex]
                  rw [← hok]
                  exact ⟨(x + 1, HG), ⟨⟨by simp only; omega, hbG, _, hG'⟩, rfl⟩, by simp only; omega⟩
              · have : x = ks.length := by omega
                subst this
                have d1 : decide ((ks.length : Int) < (ks.length : Int)) = false := by simp
                simp only [go_sem, reduceIte, ↓reduceIte, sevalprocAttr, Z0, Z1, bytesOf, d1, List.take_length]
                exact ⟨_, hG'⟩
  by_cases h4 : k = 4
  · have e : patHead k n u p ks.length = (decide (0 ≤ p) && (decide (n = []) && (decide (0 ≤ u ∧ u ≤ 1) && decide (ks.length = 0)))) := by
      unfold patHead
      rw [if_neg h1, if_neg h2, if_neg h3, if_pos h4]
      all_goals generalize decide (0 ≤ p) = b0
      all_goals generalize decide (n = []) = b1
      all_goals generalize decide (0 ≤ u ∧ u ≤ 1) = b2
      all_goals generalize decide (ks.length = 0) = b3
      all_goals cases b0 <;> cases b1 <;> cases b2 <;> cases b3 <;> rfl
    rw [e]
    subst h4
    · simp only [go_sem, reduceIte, ↓reduceIte, sevalprocAttr, Z0, Z1, bytesOf, mc98, mr98, PatD.cells, PatD.cellsL_eq, List.length_map, dN0, dN1, dN2, dE1, dE2, dE3, dPos]
      intro hl
      rw [maxLe] at hl
      try (simp only [go_sem, reduceIte, ↓reduceIte, sevalprocAttr, Z0, Z1, bytesOf, PatD.cellsL_eq, List.length_map, dN0, dN1, dN2, dE1, dE2, dE3, dPos])
      cases ha0 : decide (0 ≤ p)
      · simp only [go_sem, reduceIte, ↓reduceIte, sevalprocAttr, Z0, Z1, bytesOf, ha0, Bool.false_and]
        refine ⟨Unit, [1, 3, 4, 7], fun _ st => st = ⟨[(1, .ptr H.length 0), (3, .p (.i .i64 ks.length)), (4, .p (.b false)), (7, .p (.i .i64 0))], [], H ++ [AO.var [.p (.i .i64 4), .p (.s n), .p (.i .i64 u), .p (.i .i64 p), .p (.l (ks.map PatD.cells))]]⟩, fun _ => 0, ⟨(), ?_⟩, ?_⟩
        · simp only [go_sem, reduceIte, ↓reduceIte, sevalprocAttr, Z0, Z1, bytesOf]
        · rintro _ _ rfl
          cases h0 : decide ((0 : Int) < (ks.length : Int)) <;> (simp only [go_sem, reduceIte, ↓reduceIte, sevalprocAttr, Z0, Z1, bytesOf, h0]; exact ⟨_, rfl⟩)
      · simp only [go_sem, reduceIte, ↓reduceIte, sevalprocAttr, Z0, Z1, bytesOf, ha0, Bool.true_and, PatD.cellsL_eq, List.length_map, dN0, dN1, dN2, dE1, dE2, dE3, dPos]
        cases ha1 : decide (n = [])
        · simp only [go_sem, reduceIte, ↓reduceIte, sevalprocAttr, Z0, Z1, bytesOf, ha1, Bool.false_and]
          refine ⟨Unit, [1, 3, 4, 7], fun _ st => st = ⟨[(1, .ptr H.length 0), (3, .p (.i .i64 ks.length)), (4, .p (.b false)), (7, .p (.i .i64 0))], [], H ++ [AO.var [.p (.i .i64 4), .p (.s n), .p (.i .i64 u), .p (.i .i64 p), .p (.l (ks.map PatD.cells))]]⟩, fun _ => 0, ⟨(), ?_⟩, ?_⟩
          · simp only [go_sem, reduceIte, ↓reduceIte, sevalprocAttr, Z0, Z1, bytesOf]
          · rintro _ _ rfl
            cases h0 : decide ((0 : Int) < (ks.length : Int)) <;> (simp only [go_sem, reduceIte, ↓reduceIte, sevalprocAttr, Z0, Z1, bytesOf, h0]; exact ⟨_, rfl⟩)
        · simp only [go_sem, reduceIte, ↓reduceIte, sevalprocAttr, Z0, Z1, bytesOf, ha1, Bool.true_and, PatD.cellsL_eq, List.length_map, dN0, dN1, dN2, dE1, dE2, dE3, dPos]
          refine acall_pure (inC u 0 1 _) ?_
          rw [e01]
          (try (simp only [go_sem, reduceIte, ↓reduceIte, sevalprocAttr, Z0, Z1, bytesOf, Bool.true_and]))
          cases ha2 : decide (0 ≤ u ∧ u ≤ 1)
          · simp only [go_sem, reduceIte, ↓reduceIte, sevalprocAttr, Z0, Z1, bytesOf, ha2, Bool.false_and]
            refine ⟨Unit, [1, 3, 4, 7], fun _ st => st = ⟨[(1, .ptr H.length 0), (3, .p (.i .i64 ks.length)), (4, .p (.b false)), (7, .p (.i .i64 0))], [], H ++ [AO.var [.p (.i .i64 4), .p (.s n), .p (.i .i64 u), .p (.i .i64 p), .p (.l (ks.map PatD.cells))]]⟩, fun _ => 0, ⟨(), ?_⟩, ?_⟩
            · simp only [go_sem, reduceIte, ↓reduceIte, sevalprocAttr, Z0, Z1, bytesOf]
            · rintro _ _ rfl
              cases h0 : decide ((0 : Int) < (ks.length : Int)) <;> (simp only [go_sem, reduceIte, ↓reduceIte, sevalprocAttr, Z0, Z1, bytesOf, h0]; exact ⟨_, rfl⟩)
          · simp only [go_sem, reduceIte, ↓reduceIte, sevalprocAttr, Z0, Z1, bytesOf, ha2, Bool.true_and, PatD.cellsL_eq, List.length_map, dN0, dN1, dN2, dE1, dE2, dE3, dPos]
            try (simp only [go_sem, reduceIte, ↓reduceIte, sevalprocAttr, Z0, Z1, bytesOf, Bool.true_and, PatD.cellsL_eq, List.length_map, dN0, dN1, dN2, dE1, dE2, dE3, dPos])
            refine ⟨Nat × List AO, [1, 3, 4, 7], fun x st => (x.1 ≤ ks.length ∧ x.2[H.length]? = some (.var [.p (.i .i64 4), .p (.s n), .p (.i .i64 u), .p (.i .i64 p), .p (.l (ks.map PatD.cells))]) ∧ ∃ G, x.2 = H ++ G) ∧ st = ⟨[(1, .ptr H.length 0), (3, .p (.i .i64 ks.length)), (4, .p (.b (decide (ks.length = 0) && (ks.take x.1).all PatD.ok))), (7, .p (.i .i64 x.1))], [], x.2⟩, fun x => ks.length - x.1, ⟨(0, H ++ [AO.var [.p (.i .i64 4), .p (.s n), .p (.i .i64 u), .p (.i .i64 p), .p (.l (ks.map PatD.cells))]]), ?_⟩, ?_⟩
            · simp only [go_sem, reduceIte, ↓reduceIte, sevalprocAttr, Z0, Z1, bytesOf, List.take_zero, List.all_nil, Bool.and_true]
              exact ⟨Nat.zero_le _, _, rfl⟩
            · rintro ⟨x, HG⟩ _ ⟨⟨hx, hbG, G', hG'⟩, rfl⟩
              simp only at hx hbG hG'
              by_cases hlt : x < ks.length
              · have d1 : decide ((x : Int) < (ks.length : Int)) = true := by simp; omega
                have hlt' : ((x : Int) < (ks.length : Int)) := by omega
                have ex := wrN x (by omega)
                have hg : (ks.map PatD.cells)[x]? = some (PatD.cells ks[x]) := by simp [hlt]
                cases hB : (decide (ks.length = 0) && (ks.take x).all PatD.ok)
                · simp only [go_sem, reduceIte, ↓reduceIte, sevalprocAttr, Z0, Z1, bytesOf, d1]
                  rw [and_take_false hB]
                  exact ⟨rfl, _, hG'⟩
                · have hok := all_step hB hlt
                  have hcall := hk ks[x] (List.getElem_mem hlt)
                  generalize ks[x] = c at hg hok hcall
                  obtain ⟨ck, cn, cu, cp, cks⟩ := c
                  simp only [go_sem, reduceIte, ↓reduceIte, sevalprocAttr, Z0, Z1, bytesOf, d1, hbG, hlt', hg, PatD.cells, zl8_0, zl8_1, zl8_2, zl8_3]
                  refine acall_pure (hcall _) ?_
                  simp only [go_sem, reduceIte, ↓reduceIte, sevalprocAttr, Z0, Z1, bytesOf, ex]
                  rw [← hok]
                  exact ⟨(x + 1, HG), ⟨⟨by simp only; omega, hbG, _, hG'⟩, rfl⟩, by simp only; omega⟩
              · have : x = ks.length := by omega
                subst this
                have d1 : decide ((ks.length : Int) < (ks.length : Int)) = false := by simp
                simp only [go_sem, reduceIte, ↓reduceIte, sevalprocAttr, Z0, Z1, bytesOf, d1, List.take_length]
                exact ⟨_, hG'⟩
  by_cases h6 : k = 6
  · have e : patHead k n u p ks.length = (decide (0 ≤ p) && (decide (n = []) && (decide (u = 0) && decide (2 ≤ ks.length)))) := by
      unfold patHead
      rw [if_neg h1, if_neg h2, if_neg h3, if_neg h4, if_pos h6]
      all_goals generalize decide (0 ≤ p) = b0
      all_goals generalize decide (n = []) = b1
      all_goals generalize decide (u = 0) = b2
      all_goals generalize decide (2 ≤ ks.length) = b3
      all_goals cases b0 <;> cases b1 <;> cases b2 <;> cases b3 <;> rfl
    rw [e]
    subst h6
    · simp only [go_sem, reduceIte, ↓reduceIte, sevalprocAttr, Z0, Z1, bytesOf, mc98, mr98, PatD.cells, PatD.cellsL_eq, List.length_map, dN0, dN1, dN2, dE1, dE2, dE3, dPos]
      intro hl
      rw [maxLe] at hl
      try (simp only [go_sem, reduceIte, ↓reduceIte, sevalprocAttr, Z0, Z1, bytesOf, PatD.cellsL_eq, List.length_map, dN0, dN1, dN2, dE1, dE2, dE3, dPos])
      cases ha0 : decide (0 ≤ p)
      · simp only [go_sem, reduceIte, ↓reduceIte, sevalprocAttr, Z0, Z1, bytesOf, ha0, Bool.false_and]
        refine ⟨Unit, [1, 3, 4, 7], fun _ st => st = ⟨[(1, .ptr H.length 0), (3, .p (.i .i64 ks.length)), (4, .p (.b false)), (7, .p (.i .i64 0))], [], H ++ [AO.var [.p (.i .i64 6), .p (.s n), .p (.i .i64 u), .p (.i .i64 p), .p (.l (ks.map PatD.cells))]]⟩, fun _ => 0, ⟨(), ?_⟩, ?_⟩
        · simp only [go_sem, reduceIte, ↓reduceIte, sevalprocAttr, Z0, Z1, bytesOf]
        · rintro _ _ rfl
          cases h0 : decide ((0 : Int) < (ks.length : Int)) <;> (simp only [go_sem, reduceIte, ↓reduceIte, sevalprocAttr, Z0, Z1, bytesOf, h0]; exact ⟨_, rfl⟩)
      · simp only [go_sem, reduceIte, ↓reduceIte, sevalprocAttr, Z0, Z1, bytesOf, ha0, Bool.true_and, PatD.cellsL_eq, List.length_map, dN0, dN1, dN2, dE1, dE2, dE3, dPos]
        cases ha1 : decide (n = [])
        · simp only [go_sem, reduceIte, ↓reduceIte, sevalprocAttr, Z0, Z1, bytesOf, ha1, Bool.false_and]
          refine ⟨Unit, [1, 3, 4, 7], fun _ st => st = ⟨[(1, .ptr H.length 0), (3, .p (.i .i64 ks.length)), (4, .p (.b false)), (7, .p (.i .i64 0))], [], H ++ [AO.var [.p (.i .i64 6), .p (.s n), .p (.i .i64 u), .p (.i .i64 p), .p (.l (ks.map PatD.cells))]]⟩, fun _ => 0, ⟨(), ?_⟩, ?_⟩
          · simp only [go_sem, reduceIte, ↓reduceIte, sevalprocAttr, Z0, Z1, bytesOf]
          · rintro _ _ rfl
            cases h0 : decide ((0 : Int) < (ks.length : Int)) <;> (simp only [go_sem, reduceIte, ↓reduceIte, sevalprocAttr, Z0, Z1, bytesOf, h0]; exact ⟨_, rfl⟩)
        · simp only [go_sem, reduceIte, ↓reduceIte, sevalprocAttr, Z0, Z1, bytesOf, ha1, Bool.true_and, PatD.cellsL_eq, List.length_map, dN0, dN1, dN2, dE1, dE2, dE3, dPos]
          cases ha2 : decide (u = 0)
          · simp only [go_sem, reduceIte, ↓reduceIte, sevalprocAttr, Z0, Z1, bytesOf, ha2, Bool.false_and]
            refine ⟨Unit, [1, 3, 4, 7], fun _ st => st = ⟨[(1, .ptr H.length 0), (3, .p (.i .i64 ks.length)), (4, .p (.b false)), (7, .p (.i .i64 0))], [], H ++ [AO.var [.p (.i .i64 6), .p (.s n), .p (.i .i64 u), .p (.i .i64 p), .p (.l (ks.map PatD.cells))]]⟩, fun _ => 0, ⟨(), ?_⟩, ?_⟩
            · simp only [go_sem, reduceIte, ↓reduceIte, sevalprocAttr, Z0, Z1, bytesOf]
            · rintro _ _ rfl
              cases h0 : decide ((0 : Int) < (ks.length : Int)) <;> (simp only [go_sem, reduceIte, ↓reduceIte, sevalprocAttr, Z0, Z1, bytesOf, h0]; exact ⟨_, rfl⟩)
          · simp only [go_sem, reduceIte, ↓reduceIte, sevalprocAttr, Z0, Z1, bytesOf, ha2, Bool.true_and, PatD.cellsL_eq, List.length_map, dN0, dN1, dN2, dE1, dE2, dE3, dPos]
            try (simp only [go_sem, reduceIte, ↓reduceIte, sevalprocAttr, Z0, Z1, bytesOf, Bool.true_and, PatD.cellsL_eq, List.length_map, dN0, dN1, dN2, dE1, dE2, dE3, dPos])
            refine ⟨Nat × List AO, [1, 3, 4, 7], fun x st => (x.1 ≤ ks.length ∧ x.2[H.length]? = some (.var [.p (.i .i64 6), .p (.s n), .p (.i .i64 u), .p (.i .i64 p), .p (.l (ks.map PatD.cells))]) ∧ ∃ G, x.2 = H ++ G) ∧ st = ⟨[(1, .ptr H.length 0), (3, .p (.i .i64 ks.length)), (4, .p (.b (decide (2 ≤ ks.length) && (ks.take x.1).all PatD.ok))), (7, .p (.i .i64 x.1))], [], x.2⟩, fun x => ks.length - x.1, ⟨(0, H ++ [AO.var [.p (.i .i64 6), .p (.s n), .p (.i .i64 u), .p (.i .i64 p), .p (.l (ks.map PatD.cells))]]), ?_⟩, ?_⟩
            · simp only [go_sem, reduceIte, ↓reduceIte, sevalprocAttr, Z0, Z1, bytesOf, List.take_zero, List.all_nil, Bool.and_true]
              exact ⟨Nat.zero_le _, _, rfl⟩
            · rintro ⟨x, HG⟩ _ ⟨⟨hx, hbG, G', hG'⟩, rfl⟩
              simp only at hx hbG hG'
              by_cases hlt : x < ks.length
              · have d1 : decide ((x : Int) < (ks.length : Int)) = true := by simp; omega
                have hlt' : ((x : Int) < (ks.length : Int)) := by omega
                have ex := wrN x (by omega)
                have hg : (ks.map PatD.cells)[x]? = some (PatD.cells ks[x]) := by simp [hlt]
                cases hB : (decide (2 ≤ ks.length) && (ks.take x).all PatD.ok)
                · simp only [go_sem, reduceIte, ↓reduceIte, sevalprocAttr, Z0, Z1, bytesOf, d1]
                  rw [and_take_false hB]
                  exact ⟨rfl, _, hG'⟩
                · have hok := all_step hB hlt
                  have hcall := hk ks[x] (List.getElem_mem hlt)
                  generalize ks[x] = c at hg hok hcall
                  obtain ⟨ck, cn, cu, cp, cks⟩ := c
                  simp only [go_sem, reduceIte, ↓reduceIte, sevalprocAttr, Z0, Z1, bytesOf, d1, hbG, hlt', hg, PatD.cells, zl8_0, zl8_1, zl8_2, zl8_3]
                  refine acall_pure (hcall _) ?_
                  simp only [go_sem, reduceIte, ↓reduceIte, sevalprocAttr, Z0, Z1, bytesOf, ex]
                  rw [← hok]
                  exact ⟨(x + 1, HG), ⟨⟨by simp only; omega, hbG, _, hG'⟩, rfl⟩, by simp only; omega⟩
              · have : x = ks.length := by omega
                subst this
                have d1 : decide ((ks.length : Int) < (ks.length : Int)) = false := by simp
                simp only [go_sem, reduceIte, ↓reduceIte, sevalprocAttr, Z0, Z1, bytesOf, d1, List.take_length]
                exact ⟨_, hG'⟩
  by_cases h7 : k = 7
  · have e : patHead k n u p ks.length = (decide (0 ≤ p) && (isNameD true n && (decide (u = 0) && decide (ks.length ≤ 1)))) := by
      unfold patHead
      rw [if_neg h1, if_neg h2, if_neg h3, if_neg h4, if_neg h6, if_pos h7]
      all_goals generalize decide (0 ≤ p) = b0
      all_goals generalize isNameD true n = b1
      all_goals generalize decide (u = 0) = b2
      all_goals generalize decide (ks.length ≤ 1) = b3
      all_goals cases b0 <;> cases b1 <;> cases b2 <;> cases b3 <;> rfl
    rw [e]
    subst h7
    · simp only [go_sem, reduceIte, ↓reduceIte, sevalprocAttr, Z0, Z1, bytesOf, mc98, mr98, PatD.cells, PatD.cellsL_eq, List.length_map, dN0, dN1, dN2, dE1, dE2, dE3, dPos]
      intro hl
      rw [maxLe] at hl
      try (simp only [go_sem, reduceIte, ↓reduceIte, sevalprocAttr, Z0, Z1, bytesOf, PatD.cellsL_eq, List.length_map, dN0, dN1, dN2, dE1, dE2, dE3, dPos])
      cases ha0 : decide (0 ≤ p)
      · simp only [go_sem, reduceIte, ↓reduceIte, sevalprocAttr, Z0, Z1, bytesOf, ha0, Bool.false_and]
        refine ⟨Unit, [1, 3, 4, 7], fun _ st => st = ⟨[(1, .ptr H.length 0), (3, .p (.i .i64 ks.length)), (4, .p (.b false)), (7, .p (.i .i64 0))], [], H ++ [AO.var [.p (.i .i64 7), .p (.s n), .p (.i .i64 u), .p (.i .i64 p), .p (.l (ks.map PatD.cells))]]⟩, fun _ => 0, ⟨(), ?_⟩, ?_⟩
        · simp only [go_sem, reduceIte, ↓reduceIte, sevalprocAttr, Z0, Z1, bytesOf]
        · rintro _ _ rfl
          cases h0 : decide ((0 : Int) < (ks.length : Int)) <;> (simp only [go_sem, reduceIte, ↓reduceIte, sevalprocAttr, Z0, Z1, bytesOf, h0]; exact ⟨_, rfl⟩)
      · simp only [go_sem, reduceIte, ↓reduceIte, sevalprocAttr, Z0, Z1, bytesOf, ha0, Bool.true_and, PatD.cellsL_eq, List.length_map, dN0, dN1, dN2, dE1, dE2, dE3, dPos]
        refine acall_pure (nameS true n _) ?_
        (try (simp only [go_sem, reduceIte, ↓reduceIte, sevalprocAttr, Z0, Z1, bytesOf, Bool.true_and]))
        cases ha1 : isNameD true n
        · simp only [go_sem, reduceIte, ↓reduceIte, sevalprocAttr, Z0, Z1, bytesOf, ha1, Bool.false_and]
          refine ⟨Unit, [1, 3, 4, 7], fun _ st => st = ⟨[(1, .ptr H.length 0), (3, .p (.i .i64 ks.length)), (4, .p (.b false)), (7, .p (.i .i64 0))], [], H ++ [AO.var [.p (.i .i64 7), .p (.s n), .p (.i .i64 u), .p (.i .i64 p), .p (.l (ks.map PatD.cells))]]⟩, fun _ => 0, ⟨(), ?_⟩, ?_⟩
          · simp only [go_sem, reduceIte, ↓reduceIte, sevalprocAttr, Z0, Z1, bytesOf]
          · rintro _ _ rfl
            cases h0 : decide ((0 : Int) < (ks.length : Int)) <;> (simp only [go_sem, reduceIte, ↓reduceIte, sevalprocAttr, Z0, Z1, bytesOf, h0]; exact ⟨_, rfl⟩)
        · simp only [go_sem, reduceIte, ↓reduceIte, sevalprocAttr, Z0, Z1, bytesOf, ha1, Bool.true_and, PatD.cellsL_eq, List.length_map, dN0, dN1, dN2, dE1, dE2, dE3, dPos]
          cases ha2 : decide (u = 0)
          · simp only [go_sem, reduceIte, ↓reduceIte, sevalprocAttr, Z0, Z1, bytesOf, ha2, Bool.false_and]
            refine ⟨Unit, [1, 3, 4, 7], fun _ st => st = ⟨[(1, .ptr H.length 0), (3, .p (.i .i64 ks.length)), (4, .p (.b false)), (7, .p (.i .i64 0))], [], H ++ [AO.var [.p (.i .i64 7), .p (.s n), .p (.i .i64 u), .p (.i .i64 p), .p (.l (ks.map PatD.cells))]]⟩, fun _ => 0, ⟨(), ?_⟩, ?_⟩
            · simp only [go_sem, reduceIte, ↓reduceIte, sevalprocAttr, Z0, Z1, bytesOf]
            · rintro _ _ rfl
              cases h0 : decide ((0 : Int) < (ks.length : Int)) <;> (simp only [go_sem, reduceIte, ↓reduceIte, sevalprocAttr, Z0, Z1, bytesOf, h0]; exact ⟨_, rfl⟩)
          · simp only [go_sem, reduceIte, ↓reduceIte, sevalprocAttr, Z0, Z1, bytesOf, ha2, Bool.true_and, PatD.cellsL_eq, List.length_map, dN0, dN1, dN2, dE1, dE2, dE3, dPos]
            try (simp only [go_sem, reduceIte, ↓reduceIte, sevalprocAttr, Z0, Z1, bytesOf, Bool.true_and, PatD.cellsL_eq, List.length_map, dN0, dN1, dN2, dE1, dE2, dE3, dPos])
            refine ⟨Nat × List AO, [1, 3, 4, 7], fun x st => (x.1 ≤ ks.length ∧ x.2[H.length]? = some (.var [.p (.i .i64 7), .p (.s n), .p (.i .i64 u), .p (.i .i64 p), .p (.l (ks.map PatD.cells))]) ∧ ∃ G, x.2 = H ++ G) ∧ st = ⟨[(1, .ptr H.length 0), (3, .p (.i .i64 ks.length)), (4, .p (.b (decide (ks.length ≤ 1) && (ks.take x.1).all PatD.ok))), (7, .p (.i .i64 x.1))], [], x.2⟩, fun x => ks.length - x.1, ⟨(0, H ++ [AO.var [.p (.i .i64 7), .p (.s n), .p (.i .i64 u), .p (.i .i64 p), .p (.l (ks.map PatD.cells))]]), ?_⟩, ?_⟩
            · simp only [go_sem, reduceIte, ↓reduceIte, sevalprocAttr, Z0, Z1, bytesOf, List.take_zero, List.all_nil, Bool.and_true]
              exact ⟨Nat.zero_le _, _, rfl⟩
            · rintro ⟨x, HG⟩ _ ⟨⟨hx, hbG, G', hG'⟩, rfl⟩
              simp only at hx hbG hG'
              by_cases hlt : x < ks.length
              · have d1 : decide ((x : Int) < (ks.length : Int)) = true := by simp; omega
                have hlt' : ((x : Int) < (ks.length : Int)) := by omega
                have ex := wrN x (by omega)
                have hg : (ks.map PatD.cells)[x]? = some (PatD.cells ks[x]) := by simp [hlt]
                cases hB : (decide (ks.length ≤ 1) && (ks.take x).all PatD.ok)
                · simp only [go_sem, reduceIte, ↓reduceIte, sevalprocAttr, Z0, Z1, bytesOf, d1]
                  rw [and_take_false hB]
                  exact ⟨rfl, _, hG'⟩
                · have hok := all_step hB hlt
                  have hcall := hk ks[x] (List.getElem_mem hlt)
                  generalize ks[x] = c at hg hok hcall
                  obtain ⟨ck, cn, cu, cp, cks⟩ := c
                  simp only [go_sem, reduceIte, ↓reduceIte, sevalprocAttr, Z0, Z1, bytesOf, d1, hbG, hlt', hg, PatD.cells, zl8_0, zl8_1, zl8_2, zl8_3]
                  refine acall_pure (hcall _) ?_
                  simp only [go_sem, reduceIte, ↓reduceIte, sevalprocAttr, Z0, Z1, bytesOf, ex]
                  rw [← hok]
                  exact ⟨(x + 1, HG), ⟨⟨by simp only; omega, hbG, _, hG'⟩, rfl⟩, by simp only; omega⟩
              · have : x = ks.length := by omega
                subst this
                have d1 : decide ((ks.length : Int) < (ks.length : Int)) = false := by simp
                simp only [go_sem, reduceIte, ↓reduceIte, sevalprocAttr, Z0, Z1, bytesOf, d1, List.take_length]
                exact ⟨_, hG'⟩
  · have e : patHead k n u p ks.length = false := by unfold patHead; rw [if_neg h1, if_neg h2, if_neg h3, if_neg h4, if_neg h6, if_neg h7, Bool.and_false]
    rw [e, Bool.false_and]
    have d1 : decide (k = 1) = false := decide_eq_false (by omega)
    have d2 : decide (k = 2) = false := decide_eq_false (by omega)
    have d3 : decide (k = 3) = false := decide_eq_false (by omega)
    have d4 : decide (k = 4) = false := decide_eq_false (by omega)
    have d5 : decide (k = 5) = false := decide_eq_false (by omega)
    have d6 : decide (k = 6) = false := decide_eq_false (by omega)
    have d7 : decide (k = 7) = false := decide_eq_false (by omega)
    simp only [go_sem, reduceIte, ↓reduceIte, sevalprocAttr, Z0, Z1, bytesOf, mc98, mr98, PatD.cells, PatD.cellsL_eq, List.length_map, dN0, dN1, dN2, dE1, dE2, dE3, dPos]
    intros
    simp only [go_sem, reduceIte, ↓reduceIte, sevalprocAttr, Z0, Z1, bytesOf, d1, d2, d3, d4, d5, d6, d7]
    exact ⟨_, rfl⟩
theorem patOkS : ∀ (m : Nat) (t : PatD), t.sz < m → OkC 98 (av t.cells) t.ok := by
  intro m
  induction m with
  | zero => intro t h; omega
  | succ m ih =>
    intro t h
    obtain ⟨k, n, u, p, ks⟩ := t
    rw [PatD.sz, PatD.szL_eq] at h
    exact pat_OkS k n u p ks fun a ha => ih a (by have := sumSz_mem PatD.sz ha; omega)
theorem type_OkS (k : Int) (n : List UInt8) (p : Int) (ks : List TyE) (hk : ∀ a ∈ ks, OkC 62 (av a.cells) a.ok) : OkC 62 (av (TyE.cells (.mk k n p ks))) (TyE.ok (.mk k n p ks)) := by
  intro H
  refine acall_drop1 ?_ (tf_p _)
  refine call62 (by simp) ?_
  rw [TyE.ok, TyE.okL_eq]
  by_cases h1 : k = 1
  · have e : typeHead k n p ks.length = (decide (0 ≤ p) && lowD n) := by
      unfold typeHead
      rw [if_pos h1]
      all_goals generalize decide (0 ≤ p) = b0
      all_goals generalize lowD n = b1
      all_goals cases b0 <;> cases b1 <;> rfl
    rw [e]
    subst h1
    · simp only [go_sem, reduceIte, ↓reduceIte, sevalprocAttr, Z0, Z1, bytesOf, mc62, mr62, TyE.cells, TyE.cellsL_eq, List.length_map, dN0, dN1, dN2, dE1, dE2, dE3, dPos]
      intro hl
      rw [maxLe] at hl
      try (simp only [go_sem, reduceIte, ↓reduceIte, sevalprocAttr, Z0, Z1, bytesOf, TyE.cellsL_eq, List.length_map, dN0, dN1, dN2, dE1, dE2, dE3, dPos])
      cases ha0 : decide (0 ≤ p)
      · simp only [go_sem, reduceIte, ↓reduceIte, sevalprocAttr, Z0, Z1, bytesOf, ha0, Bool.false_and]
        refine ⟨Unit, [1, 3, 4, 5], fun _ st => st = ⟨[(1, .ptr H.length 0), (3, .p (.i .i64 ks.length)), (4, .p (.b false)), (5, .p (.i .i64 0))], [], H ++ [AO.var [.p (.i .i64 1), .p (.s n), .p (.i .i64 p), .p (.l (ks.map TyE.cells))]]⟩, fun _ => 0, ⟨(), ?_⟩, ?_⟩
        · simp only [go_sem, reduceIte, ↓reduceIte, sevalprocAttr, Z0, Z1, bytesOf]
        · rintro _ _ rfl
          cases h0 : decide ((0 : Int) < (ks.length : Int)) <;> (simp only [go_sem, reduceIte, ↓reduceIte, sevalprocAttr, Z0, Z1, bytesOf, h0]; exact ⟨_, rfl⟩)
      · simp only [go_sem, reduceIte, ↓reduceIte, sevalprocAttr, Z0, Z1, bytesOf, ha0, Bool.true_and, TyE.cellsL_eq, List.length_map, dN0, dN1, dN2, dE1, dE2, dE3, dPos]
        refine acall_pure (lowS n _) ?_
        (try (simp only [go_sem, reduceIte, ↓reduceIte, sevalprocAttr, Z0, Z1, bytesOf, Bool.true_and]))
        try (simp only [go_sem, reduceIte, ↓reduceIte, sevalprocAttr, Z0, Z1, bytesOf, Bool.true_and, TyE.cellsL_eq, List.length_map, dN0, dN1, dN2, dE1, dE2, dE3, dPos])
        refine ⟨Nat × List AO, [1, 3, 4, 5], fun x st => (x.1 ≤ ks.length ∧ x.2[H.length]? = some (.var [.p (.i .i64 1), .p (.s n), .p (.i .i64 p), .p (.l (ks.map TyE.cells))]) ∧ ∃ G, x.2 = H ++ G) ∧ st = ⟨[(1, .ptr H.length 0), (3, .p (.i .i64 ks.length)), (4, .p (.b (lowD n && (ks.take x.1).all TyE.ok))), (5, .p (.i .i64 x.1))], [], x.2⟩, fun x => ks.length - x.1, ⟨(0, H ++ [AO.var [.p (.i .i64 1), .p (.s n), .p (.i .i64 p), .p (.l (ks.map TyE.cells))]]), ?_⟩, ?_⟩
        · simp only [go_sem, reduceIte, ↓reduceIte, sevalprocAttr, Z0, Z1, bytesOf, List.take_zero, List.all_nil, Bool.and_true]
          exact ⟨Nat.zero_le _, _, rfl⟩
        · rintro ⟨x, HG⟩ _ ⟨⟨hx, hbG, G', hG'⟩, rfl⟩
          simp only at hx hbG hG'
          by_cases hlt : x < ks.length
          · have d1 : decide ((x : Int) < (ks.length : Int)) = true := by simp; omega
            have hlt' : ((x : Int) < (ks.length : Int)) := by omega
            have ex := wrN x (by omega)
            have hg : (ks.map TyE.cells)[x]? = some (TyE.cells ks[x]) := by simp [hlt]
            cases hB : (lowD n && (ks.take x).all TyE.ok)
            · simp only [go_sem, reduceIte, ↓reduceIte, sevalprocAttr, Z0, Z1, bytesOf, d1]
              rw [and_take_false hB]
              exact ⟨rfl, _, hG'⟩
            · have hok := all_step hB hlt
              have hcall := hk ks[x] (List.getElem_mem hlt)
              generalize ks[x] = c at hg hok hcall
              obtain ⟨ck, cn, cp, cks⟩ := c
              simp only [go_sem, reduceIte, ↓reduceIte, sevalprocAttr, Z0, Z1, bytesOf, d1, hbG, hlt', hg, TyE.cells, zl8_0, zl8_1, zl8_2, zl8_3]
              refine acall_pure (hcall _) ?_
              simp only [go_sem, reduceIte, ↓reduceIte, sevalprocAttr, Z0, Z1, bytesOf, ex]
              rw [← hok]
              exact ⟨(x + 1, HG), ⟨⟨by simp only; omega, hbG, _, hG'⟩, rfl⟩, by simp only; omega⟩
          · have : x = ks.length := by omega
            subst this
            have d1 : decide ((ks.length : Int) < (ks.length : Int)) = false := by simp
            simp only [go_sem, reduceIte, ↓reduceIte, sevalprocAttr, Z0, Z1, bytesOf, d1, List.take_length]
            exact ⟨_, hG'⟩
  by_cases h2 : k = 2
  · have e : typeHead k n p ks.length = (decide (0 ≤ p) && (isNameD false n && decide (ks.length = 0))) := by
      unfold typeHead
      rw [if_neg h1, if_pos h2]
      all_goals generalize decide (0 ≤ p) = b0
      all_goals generalize isNameD false n = b1
      all_goals generalize decide (ks.length = 0) = b2
      all_goals cases b0 <;> cases b1 <;> cases b2 <;> rfl
    rw [e]
    subst h2
    · simp only [go_sem, reduceIte, ↓reduceIte, sevalprocAttr, Z0, Z1, bytesOf, mc62, mr62, TyE.cells, TyE.cellsL_eq, List.length_map, dN0, dN1, dN2, dE1, dE2, dE3, dPos]
      intro hl
      rw [maxLe] at hl
      try (simp only [go_sem, reduceIte, ↓reduceIte, sevalprocAttr, Z0, Z1, bytesOf, TyE.cellsL_eq, List.length_map, dN0, dN1, dN2, dE1, dE2, dE3, dPos])
      cases ha0 : decide (0 ≤ p)
      · simp only [go_sem, reduceIte, ↓reduceIte, sevalprocAttr, Z0, Z1, bytesOf, ha0, Bool.false_and]
        refine ⟨Unit, [1, 3, 4, 5], fun _ st => st = ⟨[(1, .ptr H.length 0), (3, .p (.i .i64 ks.length)), (4, .p (.b false)), (5, .p (.i .i64 0))], [], H ++ [AO.var [.p (.i .i64 2), .p (.s n), .p (.i .i64 p), .p (.l (ks.map TyE.cells))]]⟩, fun _ => 0, ⟨(), ?_⟩, ?_⟩
        · simp only [go_sem, reduceIte, ↓reduceIte, sevalprocAttr, Z0, Z1, bytesOf]
        · rintro _ _ rfl
          cases h0 : decide ((0 : Int) < (ks.length : Int)) <;> (simp only [go_sem, reduceIte, ↓reduceIte, sevalprocAttr, Z0, Z1, bytesOf, h0]; exact ⟨_, rfl⟩)
      · simp only [go_sem, reduceIte, ↓reduceIte, sevalprocAttr, Z0, Z1, bytesOf, ha0, Bool.true_and, TyE.cellsL_eq, List.length_map, dN0, dN1, dN2, dE1, dE2, dE3, dPos]
        refine acall_pure (nameS false n _) ?_
        (try (simp only [go_sem, reduceIte, ↓reduceIte, sevalprocAttr, Z0, Z1, bytesOf, Bool.true_and]))
        cases ha1 : isNameD false n
        · simp only [go_sem, reduceIte, ↓reduceIte, sevalprocAttr, Z0, Z1, bytesOf, ha1, Bool.false_and]
          refine ⟨Unit, [1, 3, 4, 5], fun _ st => st = ⟨[(1, .ptr H.length 0), (3, .p (.i .i64 ks.length)), (4, .p (.b false)), (5, .p (.i .i64 0))], [], H ++ [AO.var [.p (.i .i64 2), .p (.s n), .p (.i .i64 p), .p (.l (ks.map TyE.cells))]]⟩, fun _ => 0, ⟨(), ?_⟩, ?_⟩
          · simp only [go_sem, reduceIte, ↓reduceIte, sevalprocAttr, Z0, Z1, bytesOf]
          · rintro _ _ rfl
            cases h0 : decide ((0 : Int) < (ks.length : Int)) <;> (simp only [go_sem, reduceIte, ↓reduceIte, sevalprocAttr, Z0, Z1, bytesOf, h0]; exact ⟨_, rfl⟩)
        · simp only [go_sem, reduceIte, ↓reduceIte, sevalprocAttr, Z0, Z1, bytesOf, ha1, Bool.true_and, TyE.cellsL_eq, List.length_map, dN0, dN1, dN2, dE1, dE2, dE3, dPos]
          try (simp only [go_sem, reduceIte, ↓reduceIte, sevalprocAttr, Z0, Z1, bytesOf, Bool.true_and, TyE.cellsL_eq, List.length_map, dN0, dN1, dN2, dE1, dE2, dE3, dPos])
          refine ⟨Nat × List AO, [1, 3, 4, 5], fun x st => (x.1 ≤ ks.length ∧ x.2[H.length]? = some (.var [.p (.i .i64 2), .p (.s n), .p (.i .i64 p), .p (.l (ks.map TyE.cells))]) ∧ ∃ G, x.2 = H ++ G) ∧ st = ⟨[(1, .ptr H.length 0), (3, .p (.i .i64 ks.length)), (4, .p (.b (decide (ks.length = 0) && (ks.take x.1).all TyE.ok))), (5, .p (.i .i64 x.1))], [], x.2⟩, fun x => ks.length - x.1, ⟨(0, H ++ [AO.var [.p (.i .i64 2), .p (.s n), .p (.i .i64 p), .p (.l (ks.map TyE.cells))]]), ?_⟩, ?_⟩
          · simp only [go_sem, reduceIte, ↓reduceIte, sevalprocAttr, Z0, Z1, bytesOf, List.take_zero, List.all_nil, Bool.and_true]
            exact ⟨Nat.zero_le _, _, rfl⟩
          · rintro ⟨x, HG⟩ _ ⟨⟨hx, hbG, G', hG'⟩, rfl⟩
            simp only at hx hbG hG'
            by_cases hlt : x < ks.length
            · have d1 : decide ((x : Int) < (ks.length : Int)) = true := by simp; omega
              have hlt' : ((x : Int) < (ks.length : Int)) := by omega
              have ex := wrN x (by omega)
              have hg : (ks.map TyE.cells)[x]? = some (TyE.cells ks[x]) := by simp [hlt]
              cases hB : (decide (ks.length = 0) && (ks.take x).all TyE.ok)
              · simp only [go_sem, reduceIte, ↓reduceIte, sevalprocAttr, Z0, Z1, bytesOf, d1]
                rw [and_take_false hB]
                exact ⟨rfl, _, hG'⟩
              · have hok := all_step hB hlt
                have hcall := hk ks[x] (List.getElem_mem hlt)
                generalize ks[x] = c at hg hok hcall
                obtain ⟨ck, cn, cp, cks⟩ := c
                simp only [go_sem, reduceIte, ↓reduceIte, sevalprocAttr, Z0, Z1, bytesOf, d1, hbG, hlt', hg, TyE.cells, zl8_0, zl8_1, zl8_2, zl8_3]
                refine acall_pure (hcall _) ?_
                simp only [go_sem, reduceIte, ↓reduceIte, sevalprocAttr, Z0, Z1, bytesOf, ex]
                rw [← hok]
                exact ⟨(x + 1, HG), ⟨⟨by simp only; omega, hbG, _, hG'⟩, rfl⟩, by simp only; omega⟩
            · have : x = ks.length := by omega
              subst this
              have d1 : decide ((ks.length : Int) < (ks.length : Int)) = false := by simp
              simp only [go_sem, reduceIte, ↓reduceIte, sevalprocAttr, Z0, Z1, bytesOf, d1, List.take_length]
              exact ⟨_, hG'⟩
  by_cases h3 : k = 3
  · have e : typeHead k n p ks.length = (decide (0 ≤ p) && (decide (n = []) && decide (ks.length = 2))) := by
      unfold typeHead
      rw [if_neg h1, if_neg h2, if_pos h3]
      all_goals generalize decide (0 ≤ p) = b0
      all_goals generalize decide (n = []) = b1
      all_goals generalize decide (ks.length = 2) = b2
      all_goals cases b0 <;> cases b1 <;> cases b2 <;> rfl
    rw [e]
    subst h3
    · simp only [go_sem, reduceIte, ↓reduceIte, sevalprocAttr, Z0, Z1, bytesOf, mc62, mr62, TyE.cells, TyE.cellsL_eq, List.length_map, dN0, dN1, dN2, dE1, dE2, dE3, dPos]
      intro hl
      rw [maxLe] at hl
      try (simp only [go_sem, reduceIte, ↓reduceIte, sevalprocAttr, Z0, Z1, bytesOf, TyE.cellsL_eq, List.length_map, dN0, dN1, dN2, dE1, dE2, dE3, dPos])
      cases ha0 : decide (0 ≤ p)
      · simp only [go_sem, reduceIte, ↓reduceIte, sevalprocAttr, Z0, Z1, bytesOf, ha0, Bool.false_and]
        refine ⟨Unit, [1, 3, 4, 5], fun _ st => st = ⟨[(1, .ptr H.length 0), (3, .p (.i .i64 ks.length)), (4, .p (.b false)), (5, .p (.i .i64 0))], [], H ++ [AO.var [.p (.i .i64 3), .p (.s n), .p (.i .i64 p), .p (.l (ks.map TyE.cells))]]⟩, fun _ => 0, ⟨(), ?_⟩, ?_⟩
        · simp only [go_sem, reduceIte, ↓reduceIte, sevalprocAttr, Z0, Z1, bytesOf]
        · rintro _ _ rfl
          cases h0 : decide ((0 : Int) < (ks.length : Int)) <;> (simp only [go_sem, reduceIte, ↓reduceIte, sevalprocAttr, Z0, Z1, bytesOf, h0]; exact ⟨_, rfl⟩)
      · simp only [go_sem, reduceIte, ↓reduceIte, sevalprocAttr, Z0, Z1, bytesOf, ha0, Bool.true_and, TyE.cellsL_eq, List.length_map, dN0, dN1, dN2, dE1, dE2, dE3, dPos]
        cases ha1 : decide (n = [])
        · simp only [go_sem, reduceIte, ↓reduceIte, sevalprocAttr, Z0, Z1, bytesOf, ha1, Bool.false_and]
          refine ⟨Unit, [1, 3, 4, 5], fun _ st => st = ⟨[(1, .ptr H.length 0), (3, .p (.i .i64 ks.length)), (4, .p (.b false)), (5, .p (.i .i64 0))], [], H ++ [AO.var [.p (.i .i64 3), .p (.s n), .p (.i .i64 p), .p (.l (ks.map TyE.cells))]]⟩, fun _ => 0, ⟨(), ?_⟩, ?_⟩
          · simp only [go_sem, reduceIte, ↓reduceIte, sevalprocAttr, Z0, Z1, bytesOf]
          · rintro _ _ rfl
            cases h0 : decide ((0 : Int) < (ks.length : Int)) <;> (simp only [go_sem, reduceIte, ↓reduceIte, sevalprocAttr, Z0, Z1, bytesOf, h0]; exact ⟨_, rfl⟩)
        · simp only [go_sem, reduceIte, ↓reduceIte, sevalprocAttr, Z0, Z1, bytesOf, ha1, Bool.true_and, TyE.cellsL_eq, List.length_map, dN0, dN1, dN2, dE1, dE2, dE3, dPos]
          try (simp only [go_sem, reduceIte, ↓reduceIte, sevalprocAttr, Z0, Z1, bytesOf, Bool.true_and, TyE.cellsL_eq, List.length_map, dN0, dN1, dN2, dE1, dE2, dE3, dPos])
          refine ⟨Nat × List AO, [1, 3, 4, 5], fun x st => (x.1 ≤ ks.length ∧ x.2[H.length]? = some (.var [.p (.i .i64 3), .p (.s n), .p (.i .i64 p), .p (.l (ks.map TyE.cells))]) ∧ ∃ G, x.2 = H ++ G) ∧ st = ⟨[(1, .ptr H.length 0), (3, .p (.i .i64 ks.length)), (4, .p (.b (decide (ks.length = 2) && (ks.take x.1).all TyE.ok))), (5, .p (.i .i64 x.1))], [], x.2⟩, fun x => ks.length - x.1, ⟨(0, H ++ [AO.var [.p (.i .i64 3), .p (.s n), .p (.i .i64 p), .p (.l (ks.map TyE.cells))]]), ?_⟩, ?_⟩
          · simp only [go_sem, reduceIte, ↓reduceIte, sevalprocAttr, Z0, Z1, bytesOf, List.take_zero, List.all_nil, Bool.and_true]
            exact ⟨Nat.zero_le _, _, rfl⟩
          · rintro ⟨x, HG⟩ _ ⟨⟨hx, hbG, G', hG'⟩, rfl⟩
            simp only at hx hbG hG'
            by_cases hlt : x < ks.length
            · have d1 : decide ((x : Int) < (ks.length : Int)) = true := by simp; omega
              have hlt' : ((x : Int) < (ks.length : Int)) := by omega
              have ex := wrN x (by omega)
              have hg : (ks.map TyE.cells)[x]? = some (TyE.cells ks[x]) := by simp [hlt]
              cases hB : (decide (ks.length = 2) && (ks.take x).all TyE.ok)
              · simp only [go_sem, reduceIte, ↓reduceIte, sevalprocAttr, Z0, Z1, bytesOf, d1]
                rw [and_take_false hB]
                exact ⟨rfl, _, hG'⟩
              · have hok := all_step hB hlt
                have hcall := hk ks[x] (List.getElem_mem hlt)
                generalize ks[x] = c at hg hok hcall
                obtain ⟨ck, cn, cp, cks⟩ := c
                simp only [go_sem, reduceIte, ↓reduceIte, sevalprocAttr, Z0, Z1, bytesOf, d1, hbG, hlt', hg, TyE.cells, zl8_0, zl8_1, zl8_2, zl8_3]
                refine acall_pure (hcall _) ?_
                simp only [go_sem, reduceIte, ↓reduceIte, sevalprocAttr, Z0, Z1, bytesOf, ex]
                rw [← hok]
                exact ⟨(x + 1, HG), ⟨⟨by simp only; omega, hbG, _, hG'⟩, rfl⟩, by simp only; omega⟩
            · have : x = ks.length := by omega
              subst this
              have d1 : decide ((ks.length : Int) < (ks.length : Int)) = false := by simp
              simp only [go_sem, reduceIte, ↓reduceIte, sevalprocAttr, Z0, Z1, bytesOf, d1, List.take_length]
              exact ⟨_, hG'⟩
  by_cases h4 : k = 4
  · have e : typeHead k n p ks.length = (decide (0 ≤ p) && (decide (n = []) && decide (2 ≤ ks.length))) := by
      unfold typeHead
      rw [if_neg h1, if_neg h2, if_neg h3, if_pos h4]
      all_goals generalize decide (0 ≤ p) = b0
      all_goals generalize decide (n = []) = b1
      all_goals generalize decide (2 ≤ ks.length) = b2
      all_goals cases b0 <;> cases b1 <;> cases b2 <;> rfl
    rw [e]
    subst h4
    · simp only [go_sem, reduceIte, ↓reduceIte, sevalprocAttr, Z0, Z1, bytesOf, mc62, mr62, TyE.cells, TyE.cellsL_eq, List.length_map, dN0, dN1, dN2, dE1, dE2, dE3, dPos]
      intro hl
      rw [maxLe] at hl
      try (simp only [go_sem, reduceIte, ↓reduceIte, sevalprocAttr, Z0, Z1, bytesOf, TyE.cellsL_eq, List.length_map, dN0, dN1, dN2, dE1, dE2, dE3, dPos])
      cases ha0 : decide (0 ≤ p)
      · simp only [go_sem, reduceIte, ↓reduceIte, sevalprocAttr, Z0, Z1, bytesOf, ha0, Bool.false_and]
        refine ⟨Unit, [1, 3, 4, 5], fun _ st => st = ⟨[(1, .ptr H.length 0), (3, .p (.i .i64 ks.length)), (4, .p (.b false)), (5, .p (.i .i64 0))], [], H ++ [AO.var [.p (.i .i64 4), .p (.s n), .p (.i .i64 p), .p (.l (ks.map TyE.cells))]]⟩, fun _ => 0, ⟨(), ?_⟩, ?_⟩
        · simp only [go_sem, reduceIte, ↓reduceIte, sevalprocAttr, Z0, Z1, bytesOf]
        · rintro _ _ rfl
          cases h0 : decide ((0 : Int) < (ks.length : Int)) <;> (simp only [go_sem, reduceIte, ↓reduceIte, sevalprocAttr, Z0, Z1, bytesOf, h0]; exact ⟨_, rfl⟩)
      · simp only [go_sem, reduceIte, ↓reduceIte, sevalprocAttr, Z0, Z1, bytesOf, ha0, Bool.true_and, TyE.cellsL_eq, List.length_map, dN0, dN1, dN2, dE1, dE2, dE3, dPos]
        cases ha1 : decide (n = [])
        · simp only [go_sem, reduceIte, ↓reduceIte, sevalprocAttr, Z0, Z1, bytesOf, ha1, Bool.false_and]
          refine ⟨Unit, [1, 3, 4, 5], fun _ st => st = ⟨[(1, .ptr H.length 0), (3, .p (.i .i64 ks.length)), (4, .p (.b false)), (5, .p (.i .i64 0))], [], H ++ [AO.var [.p (.i .i64 4), .p (.s n), .p (.i .i64 p), .p (.l (ks.map TyE.cells))]]⟩, fun _ => 0, ⟨(), ?_⟩, ?_⟩
          · simp only [go_sem, reduceIte, ↓reduceIte, sevalprocAttr, Z0, Z1, bytesOf]
          · rintro _ _ rfl
            cases h0 : decide ((0 : Int) < (ks.length : Int)) <;> (simp only [go_sem, reduceIte, ↓reduceIte, sevalprocAttr, Z0, Z1, bytesOf, h0]; exact ⟨_, rfl⟩)
        · simp only [go_sem, reduceIte, ↓reduceIte, sevalprocAttr, Z0, Z1, bytesOf, ha1, Bool.true_and, TyE.cellsL_eq, List.length_map, dN0, dN1, dN2, dE1, dE2, dE3, dPos]
          try (simp only [go_sem, reduceIte, ↓reduceIte, sevalprocAttr, Z0, Z1, bytesOf, Bool.true_and, TyE.cellsL_eq, List.length_map, dN0, dN1, dN2, dE1, dE2, dE3, dPos])
          refine ⟨Nat × List AO, [1, 3, 4, 5], fun x st => (x.1 ≤ ks.length ∧ x.2[H.length]? = some (.var [.p (.i .i64 4), .p (.s n), .p (.i .i64 p), .p (.l (ks.map TyE.cells))]) ∧ ∃ G, x.2 = H ++ G) ∧ st = ⟨[(1, .ptr H.length 0), (3, .p (.i .i64 ks.length)), (4, .p (.b (decide (2 ≤ ks.length) && (ks.take x.1).all TyE.ok))), (5, .p (.i .i64 x.1))], [], x.2⟩, fun x => ks.length - x.1, ⟨(0, H ++ [AO.var [.p (.i .i64 4), .p (.s n), .p (.i .i64 p), .p (.l (ks.map TyE.cells))]]), ?_⟩, ?_⟩
          · simp only [go_sem, reduceIte, ↓reduceIte, sevalprocAttr, Z0, Z1, bytesOf, List.take_zero, List.all_nil, Bool.and_true]
            exact ⟨Nat.zero_le _, _, rfl⟩
          · rintro ⟨x, HG⟩ _ ⟨⟨hx, hbG, G', hG'⟩, rfl⟩
            simp only at hx hbG hG'
            by_cases hlt : x < ks.length
            · have d1 : decide ((x : Int) < (ks.length : Int)) = true := by simp; omega
              have hlt' : ((x : Int) < (ks.length : Int)) := by omega
              have ex := wrN x (by omega)
              have hg : (ks.map TyE.cells)[x]? = some (TyE.cells ks[x]) := by simp [hlt]
              cases hB : (decide (2 ≤ ks.length) && (ks.take x).all TyE.ok)
              · simp only [go_sem, reduceIte, ↓reduceIte, sevalprocAttr, Z0, Z1, bytesOf, d1]
                rw [and_take_false hB]
                exact ⟨rfl, _, hG'⟩
              · have hok := all_step hB hlt
                have hcall := hk ks[x] (List.getElem_mem hlt)
                generalize ks[x] = c at hg hok hcall
                obtain ⟨ck, cn, cp, cks⟩ := c
                simp only [go_sem, reduceIte, ↓reduceIte, sevalprocAttr, Z0, Z1, bytesOf, d1, hbG, hlt', hg, TyE.cells, zl8_0, zl8_1, zl8_2, zl8_3]
                refine acall_pure (hcall _) ?_
                simp only [go_sem, reduceIte, ↓reduceIte, sevalprocAttr, Z0, Z1, bytesOf, ex]
                rw [← hok]
                exact ⟨(x + 1, HG), ⟨⟨by simp only; omega, hbG, _, hG'⟩, rfl⟩, by simp only; omega⟩
            · have : x = ks.length := by omega
              subst this
              have d1 : decide ((ks.length : Int) < (ks.length : Int)) = false := by simp
              simp only [go_sem, reduceIte, ↓reduceIte, sevalprocAttr, Z0, Z1, bytesOf, d1, List.take_length]
              exact ⟨_, hG'⟩
  by_cases h5 : k = 5
  · have e : typeHead k n p ks.length = (decide (0 ≤ p) && (decide (n = []) && decide (ks.length = 1))) := by
      unfold typeHead
      rw [if_neg h1, if_neg h2, if_neg h3, if_neg h4, if_pos h5]
      all_goals generalize decide (0 ≤ p) = b0
      all_goals generalize decide (n = []) = b1
      all_goals generalize decide (ks.length = 1) = b2
      all_goals cases b0 <;> cases b1 <;> cases b2 <;> rfl
    rw [e]
    subst h5
    · simp only [go_sem, reduceIte, ↓reduceIte, sevalprocAttr, Z0, Z1, bytesOf, mc62, mr62, TyE.cells, TyE.cellsL_eq, List.length_map, dN0, dN1, dN2, dE1, dE2, dE3, dPos]
      intro hl
      rw [maxLe] at hl
      try (simp only [go_sem, reduceIte, ↓reduceIte, sevalprocAttr, Z0, Z1, bytesOf, TyE.cellsL_eq, List.length_map, dN0, dN1, dN2, dE1, dE2, dE3, dPos])
      cases ha0 : decide (0 ≤ p)
      · simp only [go_sem, reduceIte, ↓reduceIte, sevalprocAttr, Z0, Z1, bytesOf, ha0, Bool.false_and]
        refine ⟨Unit, [1, 3, 4, 5], fun _ st => st = ⟨[(1, .ptr H.length 0), (3, .p (.i .i64 ks.length)), (4, .p (.b false)), (5, .p (.i .i64 0))], [], H ++ [AO.var [.p (.i .i64 5), .p (.s n), .p (.i .i64 p), .p (.l (ks.map TyE.cells))]]⟩, fun _ => 0, ⟨(), ?_⟩, ?_⟩
        · simp only [go_sem, reduceIte, ↓reduceIte, sevalprocAttr, Z0, Z1, bytesOf]
        · rintro _ _ rfl
          cases h0 : decide ((0 : Int) < (ks.length : Int)) <;> (simp only [go_sem, reduceIte, ↓reduceIte, sevalprocAttr, Z0, Z1, bytesOf, h0]; exact ⟨_, rfl⟩)
      · simp only [go_sem, reduceIte, ↓reduceIte, sevalprocAttr, Z0, Z1, bytesOf, ha0, Bool.true_and, TyE.cellsL_eq, List.length_map, dN0, dN1, dN2, dE1, dE2, dE3, dPos]
        cases ha1 : decide (n = [])
        · simp only [go_sem, reduceIte, ↓reduceIte, sevalprocAttr, Z0, Z1, bytesOf, ha1, Bool.false_and]
          refine ⟨Unit, [1, 3, 4, 5], fun _ st => st = ⟨[(1, .ptr H.length 0), (3, .p (.i .i64 ks.length)), (4, .p (.b false)), (5, .p (.i .i64 0))], [], H ++ [AO.var [.p (.i .i64 5), .p (.s n), .p (.i .i64 p), .p (.l (ks.map TyE.cells))]]⟩, fun _ => 0, ⟨(), ?_⟩, ?_⟩
          · simp only [go_sem, reduceIte, ↓reduceIte, sevalprocAttr, Z0, Z1, bytesOf]
          · rintro _ _ rfl
            cases h0 : decide ((0 : Int) < (ks.length : Int)) <;> (simp only [go_sem, reduceIte, ↓reduceIte, sevalprocAttr, Z0, Z1, bytesOf, h0]; exact ⟨_, rfl⟩)
        · simp only [go_sem, reduceIte, ↓reduceIte, sevalprocAttr, Z0, Z1, bytesOf, ha1, Bool.true_and, TyE.cellsL_eq, List.length_map, dN0, dN1, dN2, dE1, dE2, dE3, dPos]
          try (simp only [go_sem, reduceIte, ↓reduceIte, sevalprocAttr, Z0, Z1, bytesOf, Bool.true_and, TyE.cellsL_eq, List.length_map, dN0, dN1, dN2, dE1, dE2, dE3, dPos])
          refine ⟨Nat × List AO, [1, 3, 4, 5], fun x st => (x.1 ≤ ks.length ∧ x.2[H.length]? = some (.var [.p (.i .i64 5), .p (.s n), .p (.i .i64 p), .p (.l (ks.map TyE.cells))]) ∧ ∃ G, x.2 = H ++ G) ∧ st = ⟨[(1, .ptr H.length 0), (3, .p (.i .i64 ks.length)), (4, .p (.b (decide (ks.length = 1) && (ks.take x.1).all TyE.ok))), (5, .p (.i .i64 x.1))], [], x.2⟩, fun x => ks.length - x.1, ⟨(0, H ++ [AO.var [.p (.i .i64 5), .p (.s n), .p (.i .i64 p), .p (.l (ks.map TyE.cells))]]), ?_⟩, ?_⟩
          · simp only [go_sem, reduceIte, ↓reduceIte, sevalprocAttr, Z0, Z1, bytesOf, List.take_zero, List.all_nil, Bool.and_true]
            exact ⟨Nat.zero_le _, _, rfl⟩
          · rintro ⟨x, HG⟩ _ ⟨⟨hx, hbG, G', hG'⟩, rfl⟩
            simp only at hx hbG hG'
            by_cases hlt : x < ks.length
            · have d1 : decide ((x : Int) < (ks.length : Int)) = true := by simp; omega
              have hlt' : ((x : Int) < (ks.length : Int)) := by omega
              have ex := wrN x (by omega)
              have hg : (ks.map TyE.cells)[x]? = some (TyE.cells ks[x]) := by simp [hlt]
              cases hB : (decide (ks.length = 1) && (ks.take x).all TyE.ok)
              · simp only [go_sem, reduceIte, ↓reduceIte, sevalprocAttr, Z0, Z1, bytesOf, d1]
                rw [and_take_false hB]
                exact ⟨rfl, _, hG'⟩
              · have hok := all_step hB hlt
                have hcall := hk ks[x] (List.getElem_mem hlt)
                generalize ks[x] = c at hg hok hcall
                obtain ⟨ck, cn, cp, cks⟩ := c
                simp only [go_sem, reduceIte, ↓reduceIte, sevalprocAttr, Z0, Z1, bytesOf, d1, hbG, hlt', hg, TyE.cells, zl8_0, zl8_1, zl8_2, zl8_3]
                refine acall_pure (hcall _) ?_
                simp only [go_sem, reduceIte, ↓reduceIte, sevalprocAttr, Z0, Z1, bytesOf, ex]
                rw [← hok]
                exact ⟨(x + 1, HG), ⟨⟨by simp only; omega, hbG, _, hG'⟩, rfl⟩, by simp only; omega⟩
            · have : x = ks.length := by omega
              subst this
              have d1 : decide ((ks.length : Int) < (ks.length : Int)) = false := by simp
              simp only [go_sem, reduceIte, ↓reduceIte, sevalprocAttr, Z0, Z1, bytesOf, d1, List.take_length]
              exact ⟨_, hG'⟩
  · have e : typeHead k n p ks.length = false := by unfold typeHead; rw [if_neg h1, if_neg h2, if_neg h3, if_neg h4, if_neg h5, Bool.and_false]
    rw [e, Bool.false_and]
    have d1 : decide (k = 1) = false := decide_eq_false (by omega)
    have d2 : decide (k = 2) = false := decide_eq_false (by omega)
    have d3 : decide (k = 3) = false := decide_eq_false (by omega)
    have d4 : decide (k = 4) = false := decide_eq_false (by omega)
    have d5 : decide (k = 5) = false := decide_eq_false (by omega)
    simp only [go_sem, reduceIte, ↓reduceIte, sevalprocAttr, Z0, Z1, bytesOf, mc62, mr62, TyE.cells, TyE.cellsL_eq, List.length_map, dN0, dN1, dN2, dE1, dE2, dE3, dPos]
    intros
    simp only [go_sem, reduceIte, ↓reduceIte, sevalprocAttr, Z0, Z1, bytesOf, d1, d2, d3, d4, d5]
    exact ⟨_, rfl⟩
theorem typeOkS : ∀ (m : Nat) (t : TyE), t.sz < m → OkC 62 (av t.cells) t.ok := by
  intro m
  induction m with
  | zero => intro t h; omega
  | succ m ih =>
    intro t h
    obtain ⟨k, n, p, ks⟩ := t
    rw [TyE.sz, TyE.szL_eq] at h
    exact type_OkS k n p ks fun a ha => ih a (by have := sumSz_mem TyE.sz ha; omega)
theorem noTypeS (t : TyE) : OkC 63 (av t.cells) t.none := by
  intro H
  obtain ⟨k, n, p, ks⟩ := t
  refine acall_drop1 ?_ (tf_p _)
  refine call63 (by simp) ?_
  rw [TyE.none]
  simp only [go_sem, reduceIte, ↓reduceIte, sevalprocAttr, Z0, Z1, bytesOf, mc63, mr63, TyE.cells]
  cases ha3 : decide (k = 0)
  · simp only [go_sem, reduceIte, ↓reduceIte, sevalprocAttr, Z0, Z1, bytesOf, ha3, Bool.false_and]
    exact ⟨_, rfl⟩
  · simp only [go_sem, reduceIte, ↓reduceIte, sevalprocAttr, Z0, Z1, bytesOf, ha3, Bool.true_and]
    cases ha2 : decide (n = [])
    · simp only [go_sem, reduceIte, ↓reduceIte, sevalprocAttr, Z0, Z1, bytesOf, ha2, Bool.false_and]
      exact ⟨_, rfl⟩
    · simp only [go_sem, reduceIte, ↓reduceIte, sevalprocAttr, Z0, Z1, bytesOf, ha2, Bool.true_and]
      cases ha1 : decide (p = 0)
      · simp only [go_sem, reduceIte, ↓reduceIte, sevalprocAttr, Z0, Z1, bytesOf, ha1, Bool.false_and]
        exact ⟨_, rfl⟩
      · simp only [go_sem, reduceIte, ↓reduceIte, sevalprocAttr, Z0, Z1, bytesOf, ha1, Bool.true_and]
        simp only [go_sem, reduceIte, ↓reduceIte, sevalprocAttr, Z0, Z1, bytesOf, TyE.cellsL_len, dN0]
        intros
        exact ⟨_, rfl⟩
end Go.Proofs.YtnelfbcgplooiaaGreat.Pg

/- Expressions that are right, as the reference judges. -/
set_option linter.all false
namespace Go.Proofs.YtnelfbcgplooiaaGreat.Pg
open Go.AM Mc

theorem exp_OkS (k : Int) (n : List UInt8) (u : Int) (t : List UInt8) (p : Int) (ks : List ExpD) (as' : List ArmD) (hk : ∀ a ∈ ks, OkC 64 (av a.cells) a.ok) (ha : ∀ q e, ArmD.mk q e ∈ as' → OkC 98 (av q.cells) q.ok ∧ OkC 64 (av e.cells) e.ok) :
    OkC 64 (av (ExpD.cells (.mk k n u t p ks as'))) (ExpD.ok (.mk k n u t p ks as')) := by
  intro H
  have hh := node_Ok k n u t p ks as'
  rw [ExpD.ok, ExpD.okL_eq, ExpD.okA_eq]
  refine acall_drop1 ?_ (tf_p _)
  refine call64 (by simp) ?_
  simp only [go_sem, reduceIte, ↓reduceIte, sevalprocAttr, Z0, Z1, bytesOf, mc64, mr64, ExpD.cells]
  refine acall_pure (hh _) ?_
  cases h1 : expHead k n u t p ks.length as'.length
  · simp only [go_sem, reduceIte, ↓reduceIte, sevalprocAttr, Z0, Z1, bytesOf, h1, Bool.false_and]
    exact ⟨_, rfl⟩
  simp only [go_sem, reduceIte, ↓reduceIte, sevalprocAttr, Z0, Z1, bytesOf, h1, Bool.true_and, ExpD.cellsL_eq, ExpD.cellsA_eq]
  have hb0 : (H ++ [AO.var [.p (.i .i64 k), .p (.s n), .p (.i .i64 u), .p (.s t), .p (.i .i64 p), .p (.l (ks.map ExpD.cells)), .p (.l (as'.map ArmD.cells))]])[H.length]? = some (.var [.p (.i .i64 k), .p (.s n), .p (.i .i64 u), .p (.s t), .p (.i .i64 p), .p (.l (ks.map ExpD.cells)), .p (.l (as'.map ArmD.cells))]) := by rw [get_off0]; rfl
  refine ⟨Nat × List AO, [1, 3], fun x st => (x.1 ≤ ks.length ∧ (ks.take x.1).all ExpD.ok = true ∧ x.2[H.length]? = some (.var [.p (.i .i64 k), .p (.s n), .p (.i .i64 u), .p (.s t), .p (.i .i64 p), .p (.l (ks.map ExpD.cells)), .p (.l (as'.map ArmD.cells))]) ∧ ∃ G, x.2 = H ++ G) ∧ st = ⟨[(1, .ptr H.length 0), (3, .p (.i .i64 x.1))], [], x.2⟩, fun x => ks.length - x.1, ⟨(0, H ++ [AO.var [.p (.i .i64 k), .p (.s n), .p (.i .i64 u), .p (.s t), .p (.i .i64 p), .p (.l (ks.map ExpD.cells)), .p (.l (as'.map ArmD.cells))]]), ?_⟩, ?_⟩
  · simp only [go_sem, reduceIte, ↓reduceIte, sevalprocAttr, Z0, Z1, bytesOf, List.take_zero]
    exact ⟨Nat.zero_le _, rfl, _, rfl⟩
  · rintro ⟨x, HG⟩ _ ⟨⟨hx, hn, hbG, G', hG'⟩, rfl⟩
    simp only at hx hn hbG hG'
    simp only [go_sem, reduceIte, ↓reduceIte, sevalprocAttr, Z0, Z1, bytesOf, hbG, List.length_map]
    intro hl
    rw [maxLe] at hl
    by_cases hlt : x < ks.length
    · have d1 : decide ((x : Int) < (ks.length : Int)) = true := by simp; omega
      have hlt' : ((x : Int) < (ks.length : Int)) := by omega
      have ex := wrN x (by omega)
      have hg : (ks.map ExpD.cells)[x]? = some (ExpD.cells ks[x]) := by simp [hlt]
      have hok : (ks.take (x + 1)).all ExpD.ok = ExpD.ok ks[x] := by rw [all_takeA hlt, hn, Bool.true_and]
      have hnot : ExpD.ok ks[x] = false → ks.all ExpD.ok = false := fun h => all_notA hlt h
      have hcall := hk ks[x] (List.getElem_mem hlt)
      generalize ks[x] = c at hg hok hnot hcall
      obtain ⟨ck, cn, cu, ct, cp, cks, cas⟩ := c
      simp only [go_sem, reduceIte, ↓reduceIte, sevalprocAttr, Z0, Z1, bytesOf, d1, hlt', hg, hbG, List.length_map, ExpD.cells, zl8_0, zl8_1, zl8_2, zl8_3]
      refine acall_pure (hcall _) ?_
      cases h2 : ExpD.ok (.mk ck cn cu ct cp cks cas)
      · have ev := hnot h2
        simp only [go_sem, reduceIte, ↓reduceIte, sevalprocAttr, Z0, Z1, bytesOf, h2, ev, Bool.false_and]
        exact ⟨_, hG'⟩
      · simp only [go_sem, reduceIte, ↓reduceIte, sevalprocAttr, Z0, Z1, bytesOf, h2, ex]
        exact ⟨(x + 1, HG), ⟨⟨by simp only; omega, by simp only; rw [hok, h2], hbG, _, hG'⟩, rfl⟩, by simp only; omega⟩
    · have : x = ks.length := by omega
      subst this
      have d1 : decide ((ks.length : Int) < (ks.length : Int)) = false := by simp
      rw [List.take_length] at hn
      simp only [go_sem, reduceIte, ↓reduceIte, sevalprocAttr, Z0, Z1, bytesOf, d1]
      rw [hn, Bool.true_and]
      refine ⟨Nat × List AO, [1, 4], fun x st => (x.1 ≤ as'.length ∧ (as'.take x.1).all ArmD.ok = true ∧ x.2[H.length]? = some (.var [.p (.i .i64 k), .p (.s n), .p (.i .i64 u), .p (.s t), .p (.i .i64 p), .p (.l (ks.map ExpD.cells)), .p (.l (as'.map ArmD.cells))]) ∧ ∃ G, x.2 = H ++ G) ∧ st = ⟨[(1, .ptr H.length 0), (4, .p (.i .i64 x.1))], [], x.2⟩, fun x => as'.length - x.1, ⟨(0, HG), ?_⟩, ?_⟩
      · simp only [go_sem, reduceIte, ↓reduceIte, sevalprocAttr, Z0, Z1, bytesOf, List.take_zero, hbG]
        exact ⟨Nat.zero_le _, rfl, _, hG'⟩
      · rintro ⟨y, HK⟩ _ ⟨⟨hy, hm, hbK, K', hK'⟩, rfl⟩
        simp only at hy hm hbK hK'
        simp only [go_sem, reduceIte, ↓reduceIte, sevalprocAttr, Z0, Z1, bytesOf, hbK, List.length_map]
        intro hl2
        rw [maxLe] at hl2
        by_cases hlt : y < as'.length
        · have d1 : decide ((y : Int) < (as'.length : Int)) = true := by simp; omega
          have hlt' : ((y : Int) < (as'.length : Int)) := by omega
          have ex := wrN y (by omega)
          have hg : (as'.map ArmD.cells)[y]? = some (ArmD.cells as'[y]) := by simp [hlt]
          have hok : (as'.take (y + 1)).all ArmD.ok = ArmD.ok as'[y] := by rw [all_takeA hlt, hm, Bool.true_and]
          have hnot : ArmD.ok as'[y] = false → as'.all ArmD.ok = false := fun h => all_notA hlt h
          have hmem := List.getElem_mem hlt
          generalize as'[y] = c at hg hok hnot hmem
          obtain ⟨⟨pk, pn, pu, pp, pks⟩, ⟨ck, cn, cu, ct, cp, cks, cas⟩⟩ := c
          obtain ⟨hc1, hc2⟩ := ha _ _ hmem
          simp only [go_sem, reduceIte, ↓reduceIte, sevalprocAttr, Z0, Z1, bytesOf, d1, hlt', hg, hbK, List.length_map, ArmD.cells, PatD.cells, ExpD.cells, zl8_0, zl8_1, zl8_2, zl8_3]
          refine acall_pure (hc1 _) ?_
          cases h2 : PatD.ok (.mk pk pn pu pp pks)
          · have ev := hnot (by rw [ArmD.ok, h2]; rfl)
            simp only [go_sem, reduceIte, ↓reduceIte, sevalprocAttr, Z0, Z1, bytesOf, h2, ev]
            exact ⟨_, hK'⟩
          · simp only [go_sem, reduceIte, ↓reduceIte, sevalprocAttr, Z0, Z1, bytesOf, h2, hlt', hg, hbK, List.length_map, ArmD.cells, PatD.cells, ExpD.cells, zl8_0, zl8_1, zl8_2, zl8_3]
            refine acall_pure (hc2 _) ?_
            cases h3 : ExpD.ok (.mk ck cn cu ct cp cks cas)
            · have ev := hnot (by rw [ArmD.ok, h2, h3]; rfl)
              simp only [go_sem, reduceIte, ↓reduceIte, sevalprocAttr, Z0, Z1, bytesOf, h3, ev]
              exact ⟨_, hK'⟩
            · simp only [go_sem, reduceIte, ↓reduceIte, sevalprocAttr, Z0, Z1, bytesOf, h3, ex]
              exact ⟨(y + 1, HK), ⟨⟨by simp only; omega, by simp only; rw [hok, ArmD.ok, h2, h3]; rfl, hbK, _, hK'⟩, rfl⟩, by simp only; omega⟩
        · have : y = as'.length := by omega
          subst this
          have d1 : decide ((as'.length : Int) < (as'.length : Int)) = false := by simp
          rw [List.take_length] at hm
          simp only [go_sem, reduceIte, ↓reduceIte, sevalprocAttr, Z0, Z1, bytesOf, d1, hm]
          exact ⟨_, hK'⟩
theorem expOkS : ∀ (m : Nat) (t : ExpD), t.sz < m → OkC 64 (av t.cells) t.ok := by
  intro m
  induction m with
  | zero => intro t h; omega
  | succ m ih =>
    intro t h
    obtain ⟨k, n, u, x, p, ks, as'⟩ := t
    rw [ExpD.sz, ExpD.szL_eq, ExpD.szA_eq] at h
    refine exp_OkS k n u x p ks as' (fun a ha => ih a (by have := sumSz_mem ExpD.sz ha; omega)) (fun q e ha => ?_)
    have hm := sumSz_mem ArmD.sz ha
    rw [ArmD.sz] at hm
    exact ⟨patOkS _ q (Nat.lt_succ_self _), ih e (by omega)⟩
end Go.Proofs.YtnelfbcgplooiaaGreat.Pg

/- Programs that are right, as the reference judges. -/
set_option linter.all false
namespace Go.Proofs.YtnelfbcgplooiaaGreat.Pg
open Go.AM Mc

theorem progOkS (g : ProgD) : OkC 25 (av g.cells) g.ok := by
  intro H
  have he := expOkS _ g.body (Nat.lt_succ_self _)
  obtain ⟨ts, ⟨k, n, u, t, p, ks, as'⟩⟩ := g
  refine acall_drop1 ?_ (tf_p _)
  refine call25 (by simp) ?_
  rw [ProgD.ok]
  simp only [go_sem, reduceIte, ↓reduceIte, sevalprocAttr, Z0, Z1, bytesOf, mc25, mr25, ProgD.cells, ExpD.cells]
  generalize hB : AO.var [.p (.l (ts.map DataD.cells)), .p (.i .i64 k), .p (.s n), .p (.i .i64 u), .p (.s t), .p (.i .i64 p), .p (.l (ExpD.cellsL ks)), .p (.l (ExpD.cellsA as'))] = B
  have fin : ∀ HX : List AO, (∃ G, HX = H ++ G) → ∃ G, HX = H ++ G := fun _ h => h
  refine ⟨Nat × List AO, [1, 3], fun x st => (x.1 ≤ ts.length ∧ (ts.take x.1).all DataD.ok = true ∧ x.2[H.length]? = some B ∧ ∃ G, x.2 = H ++ G) ∧ st = ⟨[(1, .ptr H.length 0), (3, .p (.i .i64 x.1))], [], x.2⟩, fun x => ts.length - x.1, ⟨(0, H ++ [B]), ?_⟩, ?_⟩
  · simp only [go_sem, reduceIte, ↓reduceIte, sevalprocAttr, Z0, Z1, bytesOf, List.take_zero]
    exact ⟨Nat.zero_le _, rfl, _, rfl⟩
  · rintro ⟨x, HG⟩ _ ⟨⟨hx, hn, hbG, G', hG'⟩, rfl⟩
    simp only at hx hn hbG hG'
    have hbG1 := hbG
    rw [← hB] at hbG1
    simp only [go_sem, reduceIte, ↓reduceIte, sevalprocAttr, Z0, Z1, bytesOf, hbG1, List.length_map]
    intro hl
    rw [maxLe] at hl
    by_cases hlt : x < ts.length
    · have d1 : decide ((x : Int) < (ts.length : Int)) = true := by simp; omega
      have hlt' : ((x : Int) < (ts.length : Int)) := by omega
      have ex := wrN x (by omega)
      have hg : (ts.map DataD.cells)[x]? = some (DataD.cells ts[x]) := by simp [hlt]
      have hok : (ts.take (x + 1)).all DataD.ok = DataD.ok ts[x] := by rw [all_takeA hlt, hn, Bool.true_and]
      have hnot : DataD.ok ts[x] = false → ts.all DataD.ok = false := fun h => all_notA hlt h
      generalize ts[x] = d at hg hok hnot
      obtain ⟨dn, vs, cs, dp⟩ := d
      simp only [go_sem, reduceIte, ↓reduceIte, sevalprocAttr, Z0, Z1, bytesOf, d1, hlt', hg, hbG1, List.length_map, DataD.cells, zl6_0]
      have hbD : (HG ++ [AO.var [.p (.s dn), .p (.l (namesC vs)), .p (.l (cs.map CtorD.cells)), .p (.i .i64 dp)]])[HG.length]? = some (.var [.p (.s dn), .p (.l (namesC vs)), .p (.l (cs.map CtorD.cells)), .p (.i .i64 dp)]) := by rw [get_off0]; rfl
      have hbP := get_ext hbG [AO.var [.p (.s dn), .p (.l (namesC vs)), .p (.l (cs.map CtorD.cells)), .p (.i .i64 dp)]]
      have hH1 : ∃ G, HG ++ [AO.var [.p (.s dn), .p (.l (namesC vs)), .p (.l (cs.map CtorD.cells)), .p (.i .i64 dp)]] = H ++ G := ⟨_, by rw [hG', List.append_assoc]⟩
      generalize hj : HG.length = j at hbD ⊢
      generalize HG ++ [AO.var [.p (.s dn), .p (.l (namesC vs)), .p (.l (cs.map CtorD.cells)), .p (.i .i64 dp)]] = H1 at hbD hbP hH1 ⊢

      refine acall_pure (lowS dn _) ?_
      cases h1 : lowD dn
      · have ev := hnot (by simp [DataD.ok, h1])
        simp only [go_sem, reduceIte, ↓reduceIte, sevalprocAttr, Z0, Z1, bytesOf, h1, ev, Bool.false_and]
        exact hH1
      simp only [go_sem, reduceIte, ↓reduceIte, sevalprocAttr, Z0, Z1, bytesOf, h1, dLt, hbD]
      cases h2 : decide (0 ≤ dp)
      · have ev := hnot (by simp [DataD.ok, h2])
        simp only [go_sem, reduceIte, ↓reduceIte, sevalprocAttr, Z0, Z1, bytesOf, h2, ev, Bool.false_and]
        exact hH1
      simp only [go_sem, reduceIte, ↓reduceIte, sevalprocAttr, Z0, Z1, bytesOf, h2, hbD, List.length_map, dN0]
      intro hl3
      cases h3 : decide (cs.length = 0)
      case true =>
        have h3' : cs.length = 0 := of_decide_eq_true h3
        have ev := hnot (by simp [DataD.ok, h3'])
        simp only [go_sem, reduceIte, ↓reduceIte, sevalprocAttr, Z0, Z1, bytesOf, h3, ev, Bool.false_and]
        exact hH1
      have h3' : 0 < cs.length := by have := of_decide_eq_false h3; omega
      rw [maxLe] at hl3
      simp only [go_sem, reduceIte, ↓reduceIte, sevalprocAttr, Z0, Z1, bytesOf, h3]
      refine ⟨Nat, [1, 3, 4, 5], fun y st => (y ≤ vs.length ∧ (vs.take y).all (isNameD false) = true) ∧ st = ⟨[(1, .ptr H.length 0), (3, .p (.i .i64 x)), (4, .ptr j 0), (5, .p (.i .i64 y))], [], H1⟩, fun y => vs.length - y, ⟨0, ?_⟩, ?_⟩
      · simp only [go_sem, reduceIte, ↓reduceIte, sevalprocAttr, Z0, Z1, bytesOf, List.take_zero]
        exact ⟨Nat.zero_le _, rfl⟩
      · rintro y _ ⟨⟨hy, hm⟩, rfl⟩
        simp only [go_sem, reduceIte, ↓reduceIte, sevalprocAttr, Z0, Z1, bytesOf, hbD, namesC_len]
        intro hl4
        rw [maxLe] at hl4
        by_cases hyl : y < vs.length
        · have d2 : decide ((y : Int) < (vs.length : Int)) = true := by simp; omega
          have hyl' : ((y : Int) < (vs.length : Int)) := by omega
          have ey := wrN y (by omega)
          have hg2 := namesC_get vs hyl
          have hok2 : (vs.take (y + 1)).all (isNameD false) = isNameD false vs[y] := by rw [all_takeA hyl, hm, Bool.true_and]
          have hnot2 : isNameD false vs[y] = false → vs.all (isNameD false) = false := fun h => all_notA hyl h
          generalize vs[y] = v at hg2 hok2 hnot2
          simp only [go_sem, reduceIte, ↓reduceIte, sevalprocAttr, Z0, Z1, bytesOf, d2, hyl', hg2, hbD, namesC_len]
          refine acall_pure (nameS false v _) ?_
          cases h4 : isNameD false v
          · have ev := hnot (by simp [DataD.ok, hnot2 h4])
            simp only [go_sem, reduceIte, ↓reduceIte, sevalprocAttr, Z0, Z1, bytesOf, h4, ev, Bool.false_and]
            exact hH1
          · simp only [go_sem, reduceIte, ↓reduceIte, sevalprocAttr, Z0, Z1, bytesOf, h4, ey]
            exact ⟨y + 1, ⟨⟨by omega, by rw [hok2, h4]⟩, rfl⟩, by omega⟩
        · have : y = vs.length := by omega
          subst this
          have d2 : decide ((vs.length : Int) < (vs.length : Int)) = false := by simp
          rw [List.take_length] at hm
          simp only [go_sem, reduceIte, ↓reduceIte, sevalprocAttr, Z0, Z1, bytesOf, d2]
          refine ⟨Nat × List AO, [1, 3, 4, 6], fun z st => (z.1 ≤ cs.length ∧ (cs.take z.1).all CtorD.ok = true ∧ z.2[H.length]? = some B ∧ z.2[j]? = some (.var [.p (.s dn), .p (.l (namesC vs)), .p (.l (cs.map CtorD.cells)), .p (.i .i64 dp)]) ∧ ∃ G, z.2 = H ++ G) ∧ st = ⟨[(1, .ptr H.length 0), (3, .p (.i .i64 x)), (4, .ptr j 0), (6, .p (.i .i64 z.1))], [], z.2⟩, fun z => cs.length - z.1, ⟨(0, H1), ?_⟩, ?_⟩
          · simp only [go_sem, reduceIte, ↓reduceIte, sevalprocAttr, Z0, Z1, bytesOf, List.take_zero]
            exact ⟨Nat.zero_le _, rfl, hbP, hbD, hH1⟩
          · rintro ⟨z, HK⟩ _ ⟨⟨hz, hc, hbK, hbE, K', hK'⟩, rfl⟩
            simp only at hz hc hbK hbE hK'
            simp only [go_sem, reduceIte, ↓reduceIte, sevalprocAttr, Z0, Z1, bytesOf, hbE, List.length_map]
            intro hl5
            by_cases hzl : z < cs.length
            · have d3 : decide ((z : Int) < (cs.length : Int)) = true := by simp; omega
              have hzl' : ((z : Int) < (cs.length : Int)) := by omega
              have ez := wrN z (by omega)
              have hg3 : (cs.map CtorD.cells)[z]? = some (CtorD.cells cs[z]) := by simp [hzl]
              have hok3 : (cs.take (z + 1)).all CtorD.ok = CtorD.ok cs[z] := by rw [all_takeA hzl, hc, Bool.true_and]
              have hnot3 : CtorD.ok cs[z] = false → cs.all CtorD.ok = false := fun h => all_notA hzl h
              generalize cs[z] = c at hg3 hok3 hnot3
              obtain ⟨cn, ch, ⟨ak, an, ap, aks⟩, cp⟩ := c
              have hty := typeOkS _ (.mk ak an ap aks) (Nat.lt_succ_self _)
              have hem := noTypeS (.mk ak an ap aks)
              have next : ∀ A, CtorD.ok ⟨cn, ch, .mk ak an ap aks, cp⟩ = true → ∃ y : Nat × List AO, ((y.1 ≤ cs.length ∧ (cs.take y.1).all CtorD.ok = true ∧ y.2[H.length]? = some B ∧ y.2[j]? = some (.var [.p (.s dn), .p (.l (namesC vs)), .p (.l (cs.map CtorD.cells)), .p (.i .i64 dp)]) ∧ ∃ G, y.2 = H ++ G) ∧ (⟨[(1, .ptr H.length 0), (3, .p (.i .i64 x)), (4, .ptr j 0), (6, .p (.i .i64 ((z + 1 : Nat) : Int)))], [], HK ++ A⟩ : St) = ⟨[(1, .ptr H.length 0), (3, .p (.i .i64 x)), (4, .ptr j 0), (6, .p (.i .i64 y.1))], [], y.2⟩) ∧ cs.length - y.1 < cs.length - z := fun A h => ⟨(z + 1, HK ++ A), ⟨⟨by simp only; omega, by simp only; rw [hok3]; exact h, get_ext hbK A, get_ext hbE A, _, by rw [hK', List.append_assoc]⟩, rfl⟩, by simp only; omega⟩
              have bad : CtorD.ok ⟨cn, ch, .mk ak an ap aks, cp⟩ = false → ts.all DataD.ok = false := fun h => hnot (by simp [DataD.ok, hnot3 h])
              have hfin : ∀ A, ∃ G, HK ++ A = H ++ G := fun A => ⟨_, by rw [hK', List.append_assoc]⟩
              simp only [go_sem, reduceIte, ↓reduceIte, sevalprocAttr, Z0, Z1, bytesOf, d3, hzl', hg3, hbE, List.length_map, CtorD.cells, TyE.cells, zl6_0]
              refine acall_pure (nameS true cn _) ?_
              cases h5 : isNameD true cn
              · have ev := bad (by simp [CtorD.ok, h5])
                simp only [go_sem, reduceIte, ↓reduceIte, sevalprocAttr, Z0, Z1, bytesOf, h5, ev, Bool.false_and]
                exact hfin _
              simp only [go_sem, reduceIte, ↓reduceIte, sevalprocAttr, Z0, Z1, bytesOf, h5, dLt]
              cases h6 : decide (0 ≤ cp)
              · have ev := bad (by simp [CtorD.ok, h6])
                simp only [go_sem, reduceIte, ↓reduceIte, sevalprocAttr, Z0, Z1, bytesOf, h6, ev, Bool.false_and]
                exact hfin _
              simp only [go_sem, reduceIte, ↓reduceIte, sevalprocAttr, Z0, Z1, bytesOf, h6]
              cases ch
              · simp only [go_sem, reduceIte, ↓reduceIte, sevalprocAttr, Z0, Z1, bytesOf]
                refine acall_pure (hem _) ?_
                cases h7 : TyE.none (.mk ak an ap aks)
                · have ev := bad (by simp [CtorD.ok, h7])
                  simp only [go_sem, reduceIte, ↓reduceIte, sevalprocAttr, Z0, Z1, bytesOf, h7, ev, Bool.false_and]
                  exact hfin _
                · simp only [go_sem, reduceIte, ↓reduceIte, sevalprocAttr, Z0, Z1, bytesOf, h7, ez]
                  exact next _ (by simp [CtorD.ok, h5, h6, h7])
              · simp only [go_sem, reduceIte, ↓reduceIte, sevalprocAttr, Z0, Z1, bytesOf]
                refine acall_pure (hty _) ?_
                cases h7 : TyE.ok (.mk ak an ap aks)
                · have ev := bad (by simp [CtorD.ok, h7])
                  simp only [go_sem, reduceIte, ↓reduceIte, sevalprocAttr, Z0, Z1, bytesOf, h7, ev, Bool.false_and]
                  exact hfin _
                · simp only [go_sem, reduceIte, ↓reduceIte, sevalprocAttr, Z0, Z1, bytesOf, h7, ez]
                  exact next _ (by simp [CtorD.ok, h5, h6, h7])
            · have : z = cs.length := by omega
              subst this
              have d3 : decide ((cs.length : Int) < (cs.length : Int)) = false := by simp
              rw [List.take_length] at hc
              simp only [go_sem, reduceIte, ↓reduceIte, sevalprocAttr, Z0, Z1, bytesOf, d3, ex]
              refine ⟨(x + 1, HK), ⟨⟨by simp only; omega, by simp only; rw [hok]; simp [DataD.ok, h1, h2, h3', hm, hc], hbK, _, hK'⟩, rfl⟩, by simp only; omega⟩
    · have : x = ts.length := by omega
      subst this
      have d1 : decide ((ts.length : Int) < (ts.length : Int)) = false := by simp
      rw [List.take_length] at hn
      simp only [go_sem, reduceIte, ↓reduceIte, sevalprocAttr, Z0, Z1, bytesOf, d1, hbG1]
      refine acall_pure (he _) ?_
      simp only [go_sem, reduceIte, ↓reduceIte, sevalprocAttr, Z0, Z1, bytesOf, hn, Bool.true_and]
      exact ⟨_, hG'⟩
end Go.Proofs.YtnelfbcgplooiaaGreat.Pg

/- The program's maker of tables: its smaller methods. -/
set_option linter.all false
namespace Go.Proofs.YtnelfbcgplooiaaGreat.Pg
open Go.AM Mc

def tmO (g : ProgD) (a : AV) (f : Ft) : AO := .var (g.cells.map .p ++ [a, .p (.i .i64 f.1), .p (.i .i64 f.2)])
theorem tmO_in {g : ProgD} {a : AV} {f f' : Ft} : ∀ c, InO c (tmO g a f') → Tf c ∨ InO c (tmO g a f) := by
  intro c hc
  simp only [tmO, InO, List.mem_append, List.mem_map, List.mem_cons, List.not_mem_nil, or_false] at hc ⊢
  rcases hc with ⟨q, _, rfl⟩ | rfl | rfl | rfl
  · exact .inl (tf_p _)
  · exact .inr (.inr (.inl rfl))
  · exact .inl (tf_p _)
  · exact .inl (tf_p _)
theorem set_id {H : List AO} {j : Nat} {o : AO} (h : H[j]? = some o) : H.set j o = H := by
  apply List.ext_getElem?
  intro i
  by_cases e : j = i
  · subst e; rw [set_get h, h]
  · rw [List.getElem?_set_ne e]
theorem failT {g : ProgD} {a : AV} {f : Ft} {H : List AO} {j : Nat} (hj : H[j]? = some (tmO g a f)) (c q : Int) :
    ACall Tryz.prog 35 [.ptr j 0, .p (.i .i64 c), .p (.i .i64 q)] H (pureQ (.tup []) (H.set j (tmO g a (firstF f (c, q))))) := by
  obtain ⟨f1, f2⟩ := f
  have hv := hj
  obtain ⟨ts, ⟨k, n, u, t, p, ks, as'⟩⟩ := g
  simp only [tmO, ProgD.cells, ExpD.cells, List.map_cons, List.map_nil, List.cons_append, List.nil_append] at hv
  refine call35 (by simp) ?_
  cases h1 : decide (f1 = 0)
  · have e : firstF (f1, f2) (c, q) = (f1, f2) := firstF_ne (of_decide_eq_false h1)
    simp only [go_sem, reduceIte, ↓reduceIte, sevalprocAttr, Z0, Z1, bytesOf, mc35, mr35, hv, h1]
    rw [e, set_id hj]
    exact ⟨rfl, rfl⟩
  · have e : firstF (f1, f2) (c, q) = (c, q) := by simp [firstF, of_decide_eq_true h1]
    rw [e]
    simp only [go_sem, reduceIte, ↓reduceIte, sevalprocAttr, Z0, Z1, bytesOf, mc35, mr35, hv, h1]
    exact ⟨rfl, rfl⟩
theorem fourC (H : List AO) : ACall Tryz.prog 34 [] H (pureQ (.p (.l (namesC fourL))) H) := by
  refine (acall_fresh (R := fun r => r = .p (.l (namesC fourL))) (Q := fun r H' => ∃ id ver, r = .gs id ver 0 (namesC fourL).length ∧ H'[id]? = some (.rows 1 ver ((namesC fourL).map fun y => y.map .p))) ?_ (by intro b hb; simp at hb) ?_).mono (fun r H' ⟨h1, h2⟩ => ⟨h2, h1⟩)
  · refine call34 (by simp) ?_
    simp only [go_sem, reduceIte, ↓reduceIte, sevalprocAttr, Z0, Z1, bytesOf, mc34, mr34]
    exact ⟨0, 0, rfl, rfl⟩
  · rintro r H' ⟨id, ver, rfl, hid⟩
    exact ⟨_, lent_rows hid (by intro y hy; obtain ⟨a, _, rfl⟩ := List.mem_map.1 hy; rfl), rfl⟩
theorem tyFn1 {k : Int} {n : List UInt8} {p : Int} {ks : List TyE} {H : List AO} {i : Nat} (hi : H[i]? = some (.var ((TyE.cells (.mk k n p ks)).map .p))) (d : DataD) :
    ACall Tryz.prog 109 [av d.cells, .ptr i 0] H (pureQ (.p (.b (decide (d.name = n) && decide (d.vars.length = ks.length)))) H) := by
  obtain ⟨dn, vs, cs, dp⟩ := d
  have hiX : ∀ A, (H ++ A)[i]? = some (.var [.p (.i .i64 k), .p (.s n), .p (.i .i64 p), .p (.l (TyE.cellsL ks))]) := fun A => get_ext hi A
  have hd : decide ((vs.length : Int) = (ks.length : Int)) = decide (vs.length = ks.length) := by rw [decide_eq_decide]; omega
  refine acall_drop1 ?_ (tf_p _)
  refine call109 (by simp) ?_
  simp only [go_sem, reduceIte, ↓reduceIte, sevalprocAttr, Z0, Z1, bytesOf, mc109, mr109, DataD.cells, hiX]
  cases h1 : decide (dn = n)
  · simp only [go_sem, reduceIte, ↓reduceIte, sevalprocAttr, Z0, Z1, bytesOf, h1, Bool.false_and]
    exact ⟨_, rfl⟩
  · simp only [go_sem, reduceIte, ↓reduceIte, sevalprocAttr, Z0, Z1, bytesOf, h1, Bool.true_and, namesC_len, TyE.cellsL_len, hiX, hd]
    intros
    exact ⟨_, rfl⟩
theorem tblFn1 {e : DataD} {H : List AO} {i : Nat} (hi : H[i]? = some (.var (e.cells.map .p))) (d : DataD) :
    ACall Tryz.prog 32 [av d.cells, .ptr i 0] H (pureQ (.p (.b (decide (d.name = e.name)))) H) := by
  obtain ⟨dn, vs, cs, dp⟩ := d
  obtain ⟨en, evs, ecs, ep⟩ := e
  have hiX : ∀ A, (H ++ A)[i]? = some (.var [.p (.s en), .p (.l (namesC evs)), .p (.l (ecs.map CtorD.cells)), .p (.i .i64 ep)]) := fun A => get_ext hi A
  refine acall_drop1 ?_ (tf_p _)
  refine call32 (by simp) ?_
  simp only [go_sem, reduceIte, ↓reduceIte, sevalprocAttr, Z0, Z1, bytesOf, mc32, mr32, DataD.cells, hiX]
  exact ⟨_, rfl⟩
theorem manyF_step {ts : List DataD} {x : Nat} (h : x < ts.length) : manyF x (ts.drop x) = if x = 12 then (26, ts[x].pos) else match ts[x].ctors[16]? with
    | some c => (26, c.pos)
    | .none => manyF (x + 1) (ts.drop (x + 1)) := by
  rw [List.drop_eq_getElem_cons h, manyF]
  rfl
theorem set_far {H X : List AO} {i : Nat} (h : ∃ G, X = H ++ G) (hi : H.length ≤ i) (o : AO) : ∃ G, X.set i o = H ++ G := by
  obtain ⟨G, rfl⟩ := h
  exact ⟨_, List.set_append_right _ _ hi⟩
theorem app_far {H X : List AO} (h : ∃ G, X = H ++ G) (A : List AO) : ∃ G, X ++ A = H ++ G := by
  obtain ⟨G, rfl⟩ := h
  exact ⟨_, List.append_assoc _ _ _⟩
theorem tooManyC (g : ProgD) (H : List AO) : ACall Tryz.prog 30 [av g.cells] H (pureQ (av (Ft.cells (manyF 0 g.types))) H) := by
  obtain ⟨ts, ⟨k, n, u, t, p, ks, as'⟩⟩ := g
  refine acall_drop1 ?_ (tf_av _)
  refine call30 (by simp) ?_
  simp only [go_sem, reduceIte, ↓reduceIte, sevalprocAttr, Z0, Z1, bytesOf, mc30, mr30, ProgD.cells, ExpD.cells, List.length_map]
  intro hl
  rw [maxLe] at hl
  refine ⟨Nat × List AO, [1, 2, 6, 7, 8], fun x st => st = ⟨[(1, .ptr H.length 0), (2, .ptr (H.length + 1) 0), (6, .p (.l (ts.map DataD.cells))), (7, .p (.i .i64 ts.length)), (8, .p (.i .i64 x.1))], [], x.2⟩ ∧ x.1 ≤ ts.length ∧ manyF 0 ts = manyF x.1 (ts.drop x.1) ∧ x.2[H.length + 1]? = some (.var [.p (.i .i64 0), .p (.i .i64 0)]) ∧ ∃ G, x.2 = H ++ G, fun x => ts.length - x.1, ⟨(0, _), rfl, Nat.zero_le _, rfl, by rw [get_off]; rfl, _, rfl⟩, ?_⟩
  · rintro ⟨x, HG⟩ _ ⟨rfl, hx, hn, hbG, G', hG'⟩
    simp only at hx hn hbG hG'
    by_cases hlt : x < ts.length
    · have d1 : decide ((x : Int) < (ts.length : Int)) = true := by simp; omega
      have hlt' : ((x : Int) < (ts.length : Int)) := by omega
      have ex := wrN x (by omega)
      have hg : (ts.map DataD.cells)[x]? = some (DataD.cells ts[x]) := by simp [hlt]
      rw [manyF_step hlt] at hn
      have hlen : HG.length = H.length + G'.length := by rw [hG', List.length_append]
      generalize ts[x] = d at hg hn
      obtain ⟨dn, vs, cs, dp⟩ := d
      have d12 : decide ((x : Int) = 12) = decide (x = 12) := by rw [decide_eq_decide]; omega
      have d16 : decide ((16 : Int) < (cs.length : Int)) = decide (16 < cs.length) := by rw [decide_eq_decide]; omega
      simp only at hn
      have hK : ∀ A, (HG ++ A)[H.length + 1]? = some (.var [.p (.i .i64 0), .p (.i .i64 0)]) := fun A => get_ext hbG A
      simp only [go_sem, reduceIte, ↓reduceIte, sevalprocAttr, Z0, Z1, bytesOf, d1, hlt', hg, DataD.cells, zl6_0, d12]
      cases h12 : decide (x = 12)
      case true =>
        rw [if_pos (of_decide_eq_true h12)] at hn
        simp only [go_sem, reduceIte, ↓reduceIte, sevalprocAttr, Z0, Z1, bytesOf, h12, hK, hn, Ft.cells]
        rw [set_get (hK _)]
        simp only [go_sem, reduceIte, ↓reduceIte, sevalprocAttr, Z0, Z1, bytesOf]
        exact ⟨rfl, set_far (app_far ⟨_, hG'⟩ _) (by omega) _⟩
      rw [if_neg (of_decide_eq_false h12)] at hn
      simp only [go_sem, reduceIte, ↓reduceIte, sevalprocAttr, Z0, Z1, bytesOf, h12, List.length_map, d16]
      intro hl2
      cases h16 : decide (16 < cs.length)
      · have e16 : cs[16]? = .none := List.getElem?_eq_none (by have := of_decide_eq_false h16; omega)
        rw [e16] at hn
        simp only [go_sem, reduceIte, ↓reduceIte, sevalprocAttr, Z0, Z1, bytesOf, h16, ex]
        refine ⟨(x + 1, HG ++ _), ⟨rfl, by simp only; omega, hn, hK _, _, by rw [hG', List.append_assoc]⟩, by simp only; omega⟩
      · have h16' := of_decide_eq_true h16
        have e16 : cs[16]? = some cs[16] := List.getElem?_eq_getElem h16'
        have e16' : (cs.map CtorD.cells)[16]? = some (CtorD.cells cs[16]) := by simp [h16']
        have l16 : ((16 : Int) < (cs.length : Int)) := by omega
        rw [e16] at hn
        generalize cs[16] = c at hn e16'
        obtain ⟨cn, ch, ⟨ak, an, ap, aks⟩, cp⟩ := c
        simp only at hn
        simp only [go_sem, reduceIte, ↓reduceIte, sevalprocAttr, Z0, Z1, bytesOf, h16, l16, e16', hK, hn, Ft.cells, CtorD.cells, TyE.cells, List.length_map]
        rw [set_get (hK _)]
        simp only [go_sem, reduceIte, ↓reduceIte, sevalprocAttr, Z0, Z1, bytesOf]
        exact ⟨rfl, set_far (app_far ⟨_, hG'⟩ _) (by omega) _⟩
    · have : x = ts.length := by omega
      subst this
      have d1 : decide ((ts.length : Int) < (ts.length : Int)) = false := by simp
      rw [List.drop_length, manyF] at hn
      simp only [go_sem, reduceIte, ↓reduceIte, sevalprocAttr, Z0, Z1, bytesOf, d1, hbG, hn, Ft.cells]
      rw [set_get hbG]
      simp only [go_sem, reduceIte, ↓reduceIte, sevalprocAttr, Z0, Z1, bytesOf]
      exact ⟨rfl, set_far ⟨_, hG'⟩ (by omega) _⟩
end Go.Proofs.YtnelfbcgplooiaaGreat.Pg

/- The program's maker of tables: types. -/
set_option linter.all false
namespace Go.Proofs.YtnelfbcgplooiaaGreat.Pg
open Go.AM Mc

def Fz (f : Ft) : Prop := f.1 = 0 → f = (0, 0)
def TyC (d : DataD) (x : TyE) : Prop := ∀ (g : ProgD) (a : AV) (f : Ft) (H : List AO) (j : Nat), Fz f → H[j]? = some (tmO g a f) →
  ACall Tryz.prog 72 [.ptr j 0, av d.cells, av x.cells] H (pureQ (av (x.ty d.vars).cells) (H.set j (tmO g a (firstF f (x.ft g.types d.vars)))))
/-- a type as it was made: its kids are owned -/
def RawTy (lo : Nat) : TyD → AV → List AO → Prop
  | .mk K N S kids, r, H' => ∃ kv, r = .st [.p (.i .i64 K), .p (.i .i64 N), .p (.s S), kv] ∧ OwnAt H' kv 4 (kids.map fun t => (TyD.cells t).map .p) lo H'.length
theorem TyD.cells_len (t : TyD) : t.cells.length = 4 := by obtain ⟨k, n, s, ks⟩ := t; rfl
theorem lent_one {id ver sz : Nat} {l : List (List PV)} (hl : ∀ y ∈ l, y.length = sz) : Lent (List.replicate id .dead ++ [.rows sz ver (l.map fun y => y.map .p)]) (.gs id ver 0 l.length) (.p (.l l)) :=
  lent_rows (by rw [List.getElem?_append_right (by simp)]; simp) hl
theorem lent_st4 {H : List AO} {a b : AV} (h : Lent H a b) (c1 c2 c3 : PV) : Lent H (.st [.p c1, .p c2, .p c3, a]) (.st [.p c1, .p c2, .p c3, b]) := by
  refine .st _ _ rfl fun j x y hx hy => ?_
  match j with
  | 0 => cases hx; cases hy; exact .pure _
  | 1 => cases hx; cases hy; exact .pure _
  | 2 => cases hx; cases hy; exact .pure _
  | 3 => cases hx; cases hy; exact h
  | j + 4 => simp at hx
theorem tfO_rows (sz ver : Nat) (l : List (List PV)) : TfO (.rows sz ver (l.map fun y => y.map .p)) := by
  intro r hr c hc
  obtain ⟨y, _, rfl⟩ := List.mem_map.1 hr
  obtain ⟨q, _, rfl⟩ := List.mem_map.1 hc
  exact tf_p _
/-- .. and as data, where nothing more is written -/
theorem rawTy_pure {f : Nat} {args : List AV} {H : List AO} {j : Nat} {o o' : AO} {t : TyD} (h : ACall Tryz.prog f args H (fun r H' => RawTy H.length t r H' ∧ ∃ G, H' = H.set j o' ++ G)) (hj : H[j]? = some o) (hc : ∀ c, InO c o' → Tf c ∨ InO c o) :
    ACall Tryz.prog f args H (pureQ (av t.cells) (H.set j o')) := by
  refine acall_drop_set ?_ hj hc (tf_av _)
  obtain ⟨K, N, S, kids⟩ := t
  refine acall_kill h ?_
  rintro r H' ⟨⟨kv, rfl, hk⟩, hG⟩
  rw [TyD.cells, TyD.cellsL_eq]
  rcases hk with ⟨rfl, hk⟩ | ⟨id, ver, h0, h1, rfl, h2⟩
  · have : kids = [] := by simpa using hk
    subst this
    exact .inl ⟨_, lent_st4 .nl _ _ _, rfl, hG⟩
  · have e : (kids.map fun t => (TyD.cells t).map AV.p) = (kids.map TyD.cells).map fun y => y.map AV.p := by rw [List.map_map]; rfl
    rw [e] at h2 ⊢
    refine .inr ⟨id, _, _, h2, tfO_rows _ _ _, ?_, rfl, ?_⟩
    · rw [List.length_map]
      exact lent_st4 (lent_one (by intro y hy; obtain ⟨a, _, rfl⟩ := List.mem_map.1 hy; exact TyD.cells_len a)) _ _ _
    · obtain ⟨G, rfl⟩ := hG
      exact ⟨_, List.set_append_right _ _ (by simpa using h0)⟩
theorem idxI_neg (l : List (List UInt8)) (s : List UInt8) : decide (idxI l s < 0) = decide (idx s l = .none) := by
  unfold idxI
  cases idx s l with
  | none => rfl
  | some k => simp
theorem idxI_nonneg (l : List (List UInt8)) (s : List UInt8) : decide (0 ≤ idxI l s) = decide (s ∈ l) := by
  unfold idxI
  cases h : idx s l with
  | none => simp [idx_none.1 h]
  | some k =>
    have : s ∈ l := by
      apply Classical.byContradiction
      intro hn
      rw [idx_none.2 hn] at h
      cases h
    simp [this]
theorem eget_same (L : En) (t : Nat) (v : AV) : eget (eset L t v) t = v := by
  induction L with
  | nil => simp [eset, eget]
  | cons x L ih =>
    obtain ⟨k, u⟩ := x
    simp only [eset]
    split
    · simp [eget]
    · rename_i h; simp [eget, h, ih]
theorem eget_ne {L : En} {k t : Nat} {v : AV} (h : k ≠ t) : eget (eset L k v) t = eget L t := by
  induction L with
  | nil => simp [eset, eget, h]
  | cons x L ih =>
    obtain ⟨m, u⟩ := x
    simp only [eset]
    split
    · rename_i e; subst e; simp [eget, h]
    · simp only [eget, ih]
theorem eget_keep {lv : List Nat} {L : En} {t : Nat} (h : lmem lv t = true) : eget (ekeep lv L) t = eget L t := by
  induction L with
  | nil => rfl
  | cons x L ih =>
    obtain ⟨m, u⟩ := x
    simp only [ekeep]
    by_cases e : m = t
    · subst e; simp [h, eget]
    · split
      · simp [eget, e, ih]
      · simp [eget, e, ih]
theorem TyE.tyL_eq (vs l) : TyE.tyL vs l = l.map (TyE.ty vs) := by
  induction l with
  | nil => rfl
  | cons t l ih => rw [TyE.tyL, ih]; rfl
theorem firstF_zz {a b : Ft} (ha : a.1 = 0 → a = (0, 0)) (hb : b.1 = 0 → b = (0, 0)) : (firstF a b).1 = 0 → firstF a b = (0, 0) := by
  unfold firstF
  split
  · exact hb
  · exact ha
mutual
theorem TyE.ft_z (types : List DataD) (vs : List (List UInt8)) : ∀ (t : TyE), (t.ft types vs).1 = 0 → t.ft types vs = (0, 0)
  | .mk k n p ks => by
    have := TyE.ftL_z types vs ks
    rw [TyE.ft]
    split
    · split
      · simp
      · simp
    · split
      · exact this
      · split
        · simp
        · split
          · exact this
          · simp
theorem TyE.ftL_z (types : List DataD) (vs : List (List UInt8)) : ∀ (l : List TyE), (TyE.ftL types vs l).1 = 0 → TyE.ftL types vs l = (0, 0)
  | [] => by simp [TyE.ftL]
  | t :: l => by
    rw [TyE.ftL]
    exact firstF_zz (TyE.ft_z types vs t) (TyE.ftL_z types vs l)
end
theorem firstF_r {a : Ft} (h : a.1 = 0 → a = (0, 0)) : firstF a (0, 0) = a := by
  unfold firstF
  split
  · rename_i e; exact (h e).symm
  · rfl
theorem ftL_step {types : List DataD} {vs : List (List UInt8)} {l : List TyE} {x : Nat} (h : x < l.length) : TyE.ftL types vs (l.take (x + 1)) = firstF (TyE.ftL types vs (l.take x)) (l[x].ft types vs) := by
  induction l generalizing x with
  | nil => simp at h
  | cons t l ih =>
    cases x with
    | zero =>
      simp only [List.take_succ_cons, List.take_zero, TyE.ftL, List.getElem_cons_zero, firstF_z]
      exact firstF_r (TyE.ft_z types vs t)
    | succ x =>
      simp only [List.take_succ_cons, TyE.ftL, List.getElem_cons_succ]
      rw [ih (by simpa using h), firstF_assoc]
theorem set_app {H G : List AO} {j : Nat} {o : AO} (h : j < H.length) : (H ++ G).set j o = H.set j o ++ G := List.set_append_left _ _ h
theorem own_setVar {H : List AO} {a : AV} {sz : Nat} {rs : List (List AV)} {lo hi j : Nat} {cs : List AV} {o : AO} (h : OwnAt H a sz rs lo hi) (hj : H[j]? = some (.var cs)) : OwnAt (H.set j o) a sz rs lo hi := by
  rcases h with h | ⟨id, ver, h0, h1, h2, h3⟩
  · exact .inl h
  · refine .inr ⟨id, ver, h0, h1, h2, ?_⟩
    rw [List.getElem?_set_ne (by rintro rfl; rw [h3] at hj; cases hj)]
    exact h3
theorem own_ne {H : List AO} {a : AV} {sz : Nat} {rs : List (List AV)} {lo hi i : Nat} {cs : List AV} (h : OwnAt H a sz rs lo hi) (hi' : H[i]? = some (.var cs)) : ∀ v o n, a ≠ .gs i v o n := by
  rintro v o n rfl
  rcases h with ⟨h, _⟩ | ⟨id, ver, h0, h1, h2, h3⟩
  · cases h
  · cases h2; rw [h3] at hi'; cases hi'
theorem own_lo {H : List AO} {a : AV} {sz : Nat} {rs : List (List AV)} {lo hi i : Nat} (h : OwnAt H a sz rs lo hi) (hi' : i < lo) : ∀ v o n, a ≠ .gs i v o n := by
  rintro v o n rfl
  rcases h with ⟨h, _⟩ | ⟨id, ver, h0, h1, h2, h3⟩
  · cases h
  · cases h2; omega
theorem pre_of {A H : List AO} (h : ∀ (i : Nat) o, A[i]? = some o → H[i]? = some o) : ∃ G, H = A ++ G := by
  refine ⟨H.drop A.length, ?_⟩
  have : A = H.take A.length := by
    apply List.ext_getElem?
    intro i
    rw [List.getElem?_take]
    split
    · rename_i hl; rw [List.getElem?_eq_getElem hl]; exact (h i _ (List.getElem?_eq_getElem hl)).symm
    · rename_i hl; exact List.getElem?_eq_none (by omega)
  rw [show A ++ H.drop A.length = H.take A.length ++ H.drop A.length by rw [← this], List.take_append_drop]
theorem set_far2 {A X : List AO} {i : Nat} (h : ∃ G, X = A ++ G) (hi : A.length ≤ i) (o : AO) : ∃ G, X.set i o = A ++ G := set_far h hi o
theorem tyTail {d : DataD} {n : List UInt8} {k p : Int} {ks : List TyE} (hs : ks.length ≤ 1048576) (hk : ∀ x ∈ ks, TyC d x) {g : ProgD} {a : AV} {H0 : List AO} {j b : Nat} {L : En} {HX : List AO} {K : Int} {S : List UInt8} {f1 : Ft}
    (h0 : eget L 0 = .ptr j 0) (h4 : eget L 4 = .ptr b 0) (h5 : eget L 5 = .ptr (b + 1) 0) (h6 : eget L 6 = .ptr (b + 2) 0) (h7 : eget L 7 = .ptr (b + 3) 0) (hb : H0.length ≤ b) (hj : j < H0.length) (hf : Fz f1)
    (hX : ∃ G, HX = H0.set j (tmO g a f1) ++ G) (e4 : HX[b]? = some (.var (d.cells.map .p))) (e5 : HX[b + 1]? = some (.var ((TyE.cells (.mk k n p ks)).map .p)))
    (e6 : HX[b + 2]? = some (.var [.p (.i .i64 0), .p (.i .i64 0), .p (.s []), .p .nl])) (e7 : HX[b + 3]? = some (.var [.p (.i .i64 K), .p (.i .i64 0), .p (.s S), .p .nl])) :
    wpm (ACall Tryz.prog) mc72t (finK mr72 fun r H' => RawTy H0.length (.mk K 0 S (TyE.tyL d.vars ks)) r H' ∧ ∃ G, H' = H0.set j (tmO g a (firstF f1 (TyE.ftL g.types d.vars ks))) ++ G) ⟨L, [], HX⟩ := by
  obtain ⟨dn, vs, cs, dp⟩ := d
  have e5' : HX[b + 1]? = some (.var [.p (.i .i64 k), .p (.s n), .p (.i .i64 p), .p (.l (TyE.cellsL ks))]) := e5
  rw [TyE.cellsL_eq] at e5'
  simp only [go_sem, reduceIte, ↓reduceIte, sevalprocAttr, Z0, Z1, bytesOf, mc72t, mr72, h5, e5', eget_same, eget_ne, List.length_map]
  intro hl
  refine ⟨Nat × AV × List AO, [0, 4, 5, 6, 7, 69, 70, 71], fun x st => st.T = [] ∧ st.H = x.2.2 ∧ eget st.L 0 = .ptr j 0 ∧ eget st.L 4 = .ptr b 0 ∧ eget st.L 5 = .ptr (b + 1) 0 ∧ eget st.L 6 = .ptr (b + 2) 0 ∧ eget st.L 7 = .ptr (b + 3) 0 ∧ eget st.L 69 = .p (.l (ks.map TyE.cells)) ∧ eget st.L 70 = .p (.i .i64 ks.length) ∧ eget st.L 71 = .p (.i .i64 x.1) ∧
    x.1 ≤ ks.length ∧ (∃ G, x.2.2 = H0.set j (tmO g a (firstF f1 (TyE.ftL g.types vs (ks.take x.1)))) ++ G) ∧ x.2.2[b]? = some (.var (DataD.cells ⟨dn, vs, cs, dp⟩ |>.map .p)) ∧ x.2.2[b + 2]? = some (.var [.p (.i .i64 0), .p (.i .i64 0), .p (.s []), .p .nl]) ∧ x.2.2[b + 3]? = some (.var [.p (.i .i64 K), .p (.i .i64 0), .p (.s S), x.2.1]) ∧
    OwnAt x.2.2 x.2.1 4 ((ks.take x.1).map fun t => (TyD.cells (t.ty vs)).map .p) H0.length x.2.2.length, fun x => ks.length - x.1, ⟨(0, .p .nl, HX), ?_⟩, ?_⟩
  · simp only [go_sem, reduceIte, ↓reduceIte, sevalprocAttr, Z0, Z1, bytesOf, eget_keep, eget_same, eget_ne, h0, h4, h5, h6, h7, e4, e6, e7]
    exact ⟨Nat.zero_le _, by rw [TyE.ftL, firstF_r hf]; exact hX, .inl ⟨rfl, rfl⟩⟩
  · rintro ⟨x, kv, HG⟩ st ⟨hT, hH, q0, q4, q5, q6, q7, q69, q70, q71, hx, ⟨G, hG⟩, g4, g6, g7, hown⟩
    obtain ⟨SL, ST, SH⟩ := st
    simp only at hT hH q0 q4 q5 q6 q7 q69 q70 q71 hx hG g4 g6 g7 hown
    subst hT hH
    by_cases hlt : x < ks.length
    · have d1 : decide ((x : Int) < (ks.length : Int)) = true := by simp; omega
      have hlt' : ((x : Int) < (ks.length : Int)) := by omega
      have ex := wrN x (by omega)
      have hg : (ks.map TyE.cells)[x]? = some (TyE.cells ks[x]) := by simp [hlt]
      have hcall := hk ks[x] (List.getElem_mem hlt)
      have hft := ftL_step (types := g.types) (vs := vs) hlt
      have hty : (ks.take (x + 1)).map (fun t => (TyD.cells (t.ty vs)).map AV.p) = (ks.take x).map (fun t => (TyD.cells (t.ty vs)).map AV.p) ++ [(TyD.cells (ks[x].ty vs)).map AV.p] := by
        rw [List.take_succ, List.getElem?_eq_getElem hlt, List.map_append]; rfl
      generalize ks[x] = c at hg hcall hft hty
      obtain ⟨ck, cn, cp, cks⟩ := c
      simp only [go_sem, reduceIte, ↓reduceIte, sevalprocAttr, Z0, Z1, bytesOf, q71, q70, q69, d1, hlt', hg, eget_same, eget_ne, TyE.cells, List.length_map]
      have hjb : j ≠ b := by omega
      have hjb3 : j ≠ b + 3 := by omega
      have hSl : SH.length = H0.length + G.length := by rw [hG, List.length_append, List.length_set]
      have hjS : SH[j]? = some (tmO g a (firstF f1 (TyE.ftL g.types vs (ks.take x)))) := by rw [hG, List.getElem?_append_left (by simpa using hj), List.getElem?_set_self hj]
      have hCj : ∀ A, (SH ++ A)[j]? = _ := fun A => get_ext hjS A
      have g4' : SH[b]? = some (.var [.p (.s dn), .p (.l (namesC vs)), .p (.l (cs.map CtorD.cells)), .p (.i .i64 dp)]) := g4
      have x4 : ∀ A, ((SH ++ A).set j .dead)[b]? = _ := fun A => get_set (get_ext g4' A) hjb
      have x7 : ∀ A, ((SH ++ A).set j .dead)[b + 3]? = _ := fun A => get_set (get_ext g7 A) hjb3
      have xc : ((SH ++ [AO.var [.p (.i .i64 ck), .p (.s cn), .p (.i .i64 cp), .p (.l (TyE.cellsL cks))]]).set j .dead)[SH.length]? = some (AO.var [.p (.i .i64 ck), .p (.s cn), .p (.i .i64 cp), .p (.l (TyE.cellsL cks))]) := get_set (get_off0 _ _) (by omega)
      refine ⟨(SH ++ [AO.var [.p (.i .i64 ck), .p (.s cn), .p (.i .i64 cp), .p (.l (TyE.cellsL cks))]]).set j .dead, hext_dead0 _ _, ?_⟩
      simp only [go_sem, reduceIte, ↓reduceIte, sevalprocAttr, Z0, Z1, bytesOf, q7, q0, q4, x7, x4, xc, eget_same, eget_ne]
      have hcl := fun A => hcall g a _ ((SH ++ [AO.var [.p (.i .i64 ck), .p (.s cn), .p (.i .i64 cp), .p (.l (TyE.cellsL cks))]]) ++ A) j (firstF_zz hf (TyE.ftL_z _ _ _)) (get_ext (hCj _) A)
      dsimp only at hcl
      rw [firstF_assoc, ← hft] at hcl
      generalize TyE.ty vs (.mk ck cn cp cks) = tc at hcl hty
      obtain ⟨tk, tn, tS, tks⟩ := tc
      refine pcall_chain _ ((SH ++ [AO.var [.p (.i .i64 ck), .p (.s cn), .p (.i .i64 cp), .p (.l (TyE.cellsL cks))]]).set j (tmO g a (firstF f1 (TyE.ftL g.types vs (ks.take (x + 1)))))) (by simp) (hext_dead _ _ _) (fun A => by have := hcl A; rw [set_app (by simp; omega)] at this; exact this) ?_
      have hSn : ∃ G, (SH ++ [AO.var [.p (.i .i64 ck), .p (.s cn), .p (.i .i64 cp), .p (.l (TyE.cellsL cks))]]).set j (tmO g a (firstF f1 (TyE.ftL g.types vs (ks.take (x + 1))))) = H0.set j (tmO g a (firstF f1 (TyE.ftL g.types vs (ks.take (x + 1))))) ++ G := by
        rw [hG, List.append_assoc, set_app (by simpa using hj)]
        exact ⟨_, by rw [List.set_set]⟩
      have y4 := get_set (o' := tmO g a (firstF f1 (TyE.ftL g.types vs (ks.take (x + 1))))) (get_ext g4 [AO.var [.p (.i .i64 ck), .p (.s cn), .p (.i .i64 cp), .p (.l (TyE.cellsL cks))]]) hjb
      have y6 := get_set (o' := tmO g a (firstF f1 (TyE.ftL g.types vs (ks.take (x + 1))))) (get_ext g6 [AO.var [.p (.i .i64 ck), .p (.s cn), .p (.i .i64 cp), .p (.l (TyE.cellsL cks))]]) (show j ≠ b + 2 by omega)
      have y7 := get_set (o' := tmO g a (firstF f1 (TyE.ftL g.types vs (ks.take (x + 1))))) (get_ext g7 [AO.var [.p (.i .i64 ck), .p (.s cn), .p (.i .i64 cp), .p (.l (TyE.cellsL cks))]]) hjb3
      have yo := own_setVar (o := tmO g a (firstF f1 (TyE.ftL g.types vs (ks.take (x + 1))))) (hown.ext [AO.var [.p (.i .i64 ck), .p (.s cn), .p (.i .i64 cp), .p (.l (TyE.cellsL cks))]]) (get_ext hjS _)
      have yl : ((SH ++ [AO.var [.p (.i .i64 ck), .p (.s cn), .p (.i .i64 cp), .p (.l (TyE.cellsL cks))]]).set j (tmO g a (firstF f1 (TyE.ftL g.types vs (ks.take (x + 1)))))).length = SH.length + 1 := by simp
      generalize (SH ++ [AO.var [.p (.i .i64 ck), .p (.s cn), .p (.i .i64 cp), .p (.l (TyE.cellsL cks))]]).set j (tmO g a (firstF f1 (TyE.ftL g.types vs (ks.take (x + 1))))) = H1 at hSn y4 y6 y7 yo yl ⊢
      simp only [go_sem, reduceIte, ↓reduceIte, sevalprocAttr, Z0, Z1, bytesOf, TyD.cells]
      refine ⟨by intro r hr; simp at hr; subst hr; rfl, ?_⟩
      have yo2 := yo.ext [AO.rows 4 0 [[.p (.i .i64 tk), .p (.i .i64 tn), .p (.s tS), .p (.l (TyD.cellsL tks))]]]
      refine app_fr yo2.own (by simp; omega) (by simp; omega) ?_
      intro id ver H2 hid hside hkeep hlen
      have z4 := hkeep _ _ (get_ext y4 _) (own_ne yo2 (get_ext y4 _))
      have z6 := hkeep _ _ (get_ext y6 _) (own_ne yo2 (get_ext y6 _))
      have z7 := hkeep _ _ (get_ext y7 _) (own_ne yo2 (get_ext y7 _))
      have zp : ∃ G, H2 = H0.set j (tmO g a (firstF f1 (TyE.ftL g.types vs (ks.take (x + 1))))) ++ G := by
        obtain ⟨G2, hG2⟩ := hSn
        refine pre_of fun i o hi => hkeep i o (by rw [hG2]; exact get_ext (get_ext hi _) _) (own_lo yo2 ?_)
        have := get_lt hi
        simpa using this
      simp only [go_sem, reduceIte, ↓reduceIte, sevalprocAttr, Z0, Z1, bytesOf, q7, z7, q71, ex, eget_keep, eget_same, eget_ne, q0, q4, q5, q6, q69, q70]
      have hyb : H0.length ≤ b + 3 := by omega
      refine ⟨(x + 1, _, _), ⟨rfl, rfl, by simp only; omega, set_far2 zp (by simpa using hyb) _, get_set z4 (by omega), get_set z6 (by omega), set_get z7, ?_⟩, by simp only; omega⟩
      rw [hty]
      have hne : b + 3 ≠ id := by rintro rfl; rw [hid] at z7; cases z7
      have hidl := get_lt hid
      refine .inr ⟨id, ver, ?_, by simpa using hidl, by simp, get_set hid hne⟩
      rcases hside with ⟨v, o, n', hkv⟩ | h
      · apply Classical.byContradiction
        intro hlt2
        exact own_lo yo2 (by omega) _ _ _ hkv
      · simp [yl, hSl] at h; omega
    · have : x = ks.length := by omega
      subst this
      have d1 : decide ((ks.length : Int) < (ks.length : Int)) = false := by simp
      rw [List.take_length] at hG hown
      simp only [go_sem, reduceIte, ↓reduceIte, sevalprocAttr, Z0, Z1, bytesOf, q71, q70, d1, eget_same, eget_ne, q7, g7, q6, g6]
      rw [set_get g6]
      simp only [go_sem, reduceIte, ↓reduceIte, sevalprocAttr, Z0, Z1, bytesOf]
      refine ⟨⟨kv, rfl, ?_⟩, set_far ⟨_, hG⟩ (by simp; omega) _⟩
      rw [TyE.tyL_eq, List.map_map, List.length_set]
      exact own_setVar hown g6
theorem ty_T (d : DataD) (k : Int) (n : List UInt8) (p : Int) (ks : List TyE) (hs : ks.length ≤ 1048576) (hk : ∀ x ∈ ks, TyC d x) : TyC d (.mk k n p ks) := by
  intro g a f H j hf hj
  refine rawTy_pure ?_ hj tmO_in
  obtain ⟨dn, vs, cs, dp⟩ := d
  have hjl := get_lt hj
  refine call72 (by simp) ?_
  simp only [go_sem, reduceIte, ↓reduceIte, sevalprocAttr, Z0, Z1, bytesOf, mc72, mr72, DataD.cells, TyE.cells]
  by_cases h2 : k = 2
  · subst h2
    simp only [go_sem, reduceIte, ↓reduceIte, sevalprocAttr, Z0, Z1, bytesOf]
    refine acall_pure (indexC vs n _) ?_
    have ev : TyE.ty vs (.mk 2 n p ks) = .mk 10 (idxI vs n) [] [] := by unfold TyE.ty; rw [if_pos rfl]
    have ef : TyE.ft g.types vs (.mk 2 n p ks) = if idx n vs = .none then (25, p) else (0, 0) := by rw [TyE.ft, if_pos rfl]
    simp only [go_sem, reduceIte, ↓reduceIte, sevalprocAttr, Z0, Z1, bytesOf, idxI_neg]
    by_cases hi : idx n vs = .none
    · simp only [go_sem, reduceIte, ↓reduceIte, sevalprocAttr, Z0, Z1, bytesOf, dT hi]
      refine acall_pure (failT (get_ext hj _) 25 p) ?_
      rw [set_app hjl, ev, ef, if_pos hi]
      have hl : H.length = (H.set j (tmO g a (firstF f (25, p)))).length := by simp
      generalize H.set j (tmO g a (firstF f (25, p))) = Hs at hl ⊢
      rw [hl]
      simp only [go_sem, reduceIte, ↓reduceIte, sevalprocAttr, Z0, Z1, bytesOf]
      exact ⟨⟨_, rfl, .inl ⟨rfl, rfl⟩⟩, _, rfl⟩
    · simp only [go_sem, reduceIte, ↓reduceIte, sevalprocAttr, Z0, Z1, bytesOf, dF hi]
      rw [ev, ef, if_neg hi, firstF_r hf, set_id hj]
      refine ⟨⟨_, rfl, .inl ⟨rfl, rfl⟩⟩, _, rfl⟩
  have d2 : decide (k = 2) = false := decide_eq_false h2
  by_cases h3 : k = 3
  · subst h3
    have ev : TyE.ty vs (.mk 3 n p ks) = .mk 5 0 [] (TyE.tyL vs ks) := by unfold TyE.ty; rw [if_neg h2, if_pos rfl]
    have ef : TyE.ft g.types vs (.mk 3 n p ks) = TyE.ftL g.types vs ks := by rw [TyE.ft, if_neg h2, if_pos (by simp)]
    simp only [go_sem, reduceIte, ↓reduceIte, sevalprocAttr, Z0, Z1, bytesOf]
    rw [ev, ef]
    refine tyTail (b := H.length) (f1 := f) (d := ⟨dn, vs, cs, dp⟩) (k := 3) (n := n) (p := p) hs hk rfl rfl rfl rfl rfl (Nat.le_refl _) hjl hf ?_ ?_ ?_ ?_ ?_
    · rw [set_id hj]; exact ⟨_, rfl⟩
    · rw [get_off0]; rfl
    · rw [get_off]; rfl
    · rw [get_off]; rfl
    · rw [get_off]; rfl
  have d3 : decide (k = 3) = false := decide_eq_false h3
  by_cases h4 : k = 4
  · subst h4
    have ev : TyE.ty vs (.mk 4 n p ks) = .mk 6 0 [] (TyE.tyL vs ks) := by unfold TyE.ty; rw [if_neg h2, if_neg h3, if_pos rfl]
    have ef : TyE.ft g.types vs (.mk 4 n p ks) = TyE.ftL g.types vs ks := by rw [TyE.ft, if_neg h2, if_pos (by simp)]
    simp only [go_sem, reduceIte, ↓reduceIte, sevalprocAttr, Z0, Z1, bytesOf]
    rw [ev, ef]
    refine tyTail (b := H.length) (f1 := f) (d := ⟨dn, vs, cs, dp⟩) (k := 4) (n := n) (p := p) hs hk rfl rfl rfl rfl rfl (Nat.le_refl _) hjl hf ?_ ?_ ?_ ?_ ?_
    · rw [set_id hj]; exact ⟨_, rfl⟩
    · rw [get_off0]; rfl
    · rw [get_off]; rfl
    · rw [get_off]; rfl
    · rw [get_off]; rfl
  have d4 : decide (k = 4) = false := decide_eq_false h4
  by_cases h5 : k = 5
  · subst h5
    have ev : TyE.ty vs (.mk 5 n p ks) = .mk 8 0 [] (TyE.tyL vs ks) := by unfold TyE.ty; rw [if_neg h2, if_neg h3, if_neg h4, if_pos rfl]
    have ef : TyE.ft g.types vs (.mk 5 n p ks) = TyE.ftL g.types vs ks := by rw [TyE.ft, if_neg h2, if_pos (by simp)]
    simp only [go_sem, reduceIte, ↓reduceIte, sevalprocAttr, Z0, Z1, bytesOf]
    rw [ev, ef]
    refine tyTail (b := H.length) (f1 := f) (d := ⟨dn, vs, cs, dp⟩) (k := 5) (n := n) (p := p) hs hk rfl rfl rfl rfl rfl (Nat.le_refl _) hjl hf ?_ ?_ ?_ ?_ ?_
    · rw [set_id hj]; exact ⟨_, rfl⟩
    · rw [get_off0]; rfl
    · rw [get_off]; rfl
    · rw [get_off]; rfl
    · rw [get_off]; rfl
  have d5 : decide (k = 5) = false := decide_eq_false h5
  have hjX : ∀ A, (H ++ A)[j]? = some (.var (.p (.l (g.types.map DataD.cells)) :: (g.body.cells.map .p ++ [a, .p (.i .i64 f.1), .p (.i .i64 f.2)]))) := fun A => get_ext hj A
  have hn345 : ¬ (k = 3 ∨ k = 4 ∨ k = 5) := by simp [h3, h4, h5]
  simp only [go_sem, reduceIte, ↓reduceIte, sevalprocAttr, Z0, Z1, bytesOf, d2, d3, d4, d5]
  refine drw_same ?_
  simp only [go_sem, reduceIte, ↓reduceIte, sevalprocAttr, Z0, Z1, bytesOf]
  refine pcall_pure (fun A => fourC _) (Hext.refl _) ?_
  simp only [go_sem, reduceIte, ↓reduceIte, sevalprocAttr, Z0, Z1, bytesOf]
  refine acall_pure (indexC fourL n _) ?_
  have idxs : n ∈ fourL → ∃ m, idx n fourL = some m ∧ m < 4 := fun hm => by
    cases hi : idx n fourL with
    | none => exact (idx_none.1 hi hm).elim
    | some m => exact ⟨m, rfl, by have := (List.getElem?_eq_some_iff.1 (idx_some hi).1).1; simpa [fourL] using this⟩
  by_cases hq : n ∈ fourL ∧ ks.length = 0
  · obtain ⟨m, hm, hm4⟩ := idxs hq.1
    have hks : ks = [] := List.length_eq_zero_iff.1 hq.2
    have ev : TyE.ty vs (.mk k n p ks) = .mk (1 + m) 0 [] [] := by subst hks; unfold TyE.ty; rw [if_neg h2, if_neg h3, if_neg h4, if_neg h5, hm]
    have ef : TyE.ft g.types vs (.mk k n p ks) = (0, 0) := by rw [TyE.ft, if_neg h2, if_neg hn345, if_pos hq]
    have ei : idxI fourL n = m := by unfold idxI; rw [hm]
    have e1 : decide ((0 : Int) ≤ (m : Int)) = true := decide_eq_true (by omega)
    have ew : wr .i64 (1 + (m : Int)) = 1 + (m : Int) := wr64 (by omega) (by omega)
    rw [ev, ef, firstF_r hf, set_id hj]
    simp only [go_sem, reduceIte, ↓reduceIte, sevalprocAttr, Z0, Z1, bytesOf, ei, e1, TyE.cellsL_len, hq.2, ew]
    intro _
    exact ⟨⟨_, rfl, .inl ⟨rfl, rfl⟩⟩, _, rfl⟩
  have ev : TyE.ty vs (.mk k n p ks) = .mk 7 0 n (TyE.tyL vs ks) := by
    unfold TyE.ty
    rw [if_neg h2, if_neg h3, if_neg h4, if_neg h5]
    split
    · rename_i hi
      refine (hq ⟨?_, rfl⟩).elim
      apply Classical.byContradiction
      intro hn
      rw [idx_none.2 hn] at hi
      cases hi
    · rfl
  have ef : TyE.ft g.types vs (.mk k n p ks) = if hasData g.types n ks.length then TyE.ftL g.types vs ks else (24, p) := by rw [TyE.ft, if_neg h2, if_neg hn345, if_neg hq]
  rw [ev, ef]
  have hcf := fun (HX : List AO) (i : Nat) (hi : HX[i]? = some (.var ((TyE.cells (.mk k n p ks)).map .p))) => containsF_Data (H := HX) (l := g.types) (g := fun y => decide (y.name = n) && decide (y.vars.length = ks.length)) (f := 109) (caps := [.ptr i 0]) fun y _ => tyFn1 hi y
  by_cases hm : n ∈ fourL
  case' pos =>
    have e0 : decide ((ks.length : Int) = 0) = false := decide_eq_false (by have : ks.length ≠ 0 := fun h => hq ⟨hm, h⟩; omega)
    simp only [go_sem, reduceIte, ↓reduceIte, sevalprocAttr, Z0, Z1, bytesOf, idxI_nonneg, dT hm, TyE.cellsL_len]
    intro _
    simp only [go_sem, reduceIte, ↓reduceIte, sevalprocAttr, Z0, Z1, bytesOf, e0, hjX]
  case' neg => simp only [go_sem, reduceIte, ↓reduceIte, sevalprocAttr, Z0, Z1, bytesOf, idxI_nonneg, dF hm, hjX]
  all_goals
    refine acall_pure (hcf _ _ (by rw [get_off]; rfl)) ?_
    cases hd : hasData g.types n ks.length
    · have hd' : (g.types.any fun y => decide (y.name = n) && decide (y.vars.length = ks.length)) = false := hd
      simp only [go_sem, reduceIte, ↓reduceIte, sevalprocAttr, Z0, Z1, bytesOf, hd']
      refine acall_pure (failT (get_ext hj _) 24 p) ?_
      rw [set_app hjl]
      simp only [go_sem, reduceIte, ↓reduceIte, sevalprocAttr, Z0, Z1, bytesOf]
      have hz : (firstF f (24, p)).1 ≠ 0 := by
        unfold firstF; split
        · simp
        · assumption
      have hgo : ∀ (A : List AO) (i : Nat), (H.set j (tmO g a (firstF f (24, p))) ++ A)[H.length + i]? = A[i]? := fun A i => by
        rw [List.getElem?_append_right (by simp), List.length_set, Nat.add_sub_cancel_left]
      have ht := fun (L : En) => tyTail (L := L) (b := H.length) (f1 := firstF f (24, p)) (d := ⟨dn, vs, cs, dp⟩) (g := g) (a := a) (K := 7) (S := n) (k := k) (n := n) (p := p) hs hk (H0 := H) (j := j) (HX := H.set j (tmO g a (firstF f (24, p))) ++ [.var ((DataD.cells ⟨dn, vs, cs, dp⟩).map .p), .var ((TyE.cells (.mk k n p ks)).map .p), .var [.p (.i .i64 0), .p (.i .i64 0), .p (.s []), .p .nl], .var [.p (.i .i64 7), .p (.i .i64 0), .p (.s n), .p .nl]])
      rw [firstF_ne hz] at ht
      exact ht _ rfl rfl rfl rfl rfl (Nat.le_refl _) hjl (fun h => (hz h).elim) ⟨_, rfl⟩ (hgo _ 0) (hgo _ 1) (hgo _ 2) (hgo _ 3)
    · have hd' : (g.types.any fun y => decide (y.name = n) && decide (y.vars.length = ks.length)) = true := hd
      simp only [go_sem, reduceIte, ↓reduceIte, sevalprocAttr, Z0, Z1, bytesOf, hd']
      refine tyTail (b := H.length) (f1 := f) (d := ⟨dn, vs, cs, dp⟩) (k := k) (n := n) (p := p) hs hk rfl rfl rfl rfl rfl (Nat.le_refl _) hjl hf ?_ ?_ ?_ ?_ ?_
      · rw [set_id hj]; exact ⟨_, rfl⟩
      · rw [get_off0]; rfl
      · rw [get_off]; rfl
      · rw [get_off]; rfl
      · rw [get_off]; rfl
theorem tyC (d : DataD) : ∀ (m : Nat) (t : TyE), t.sz < m → t.sz ≤ 1048576 → TyC d t := by
  intro m
  induction m with
  | zero => intro t h; omega
  | succ m ih =>
    intro t h hb
    obtain ⟨k, n, p, ks⟩ := t
    rw [TyE.sz, TyE.szL_eq] at h hb
    have hl := sumSz_len TyE.sz ks
    exact ty_T d k n p ks (by omega) fun a ha => ih a (by have := sumSz_mem TyE.sz ha; omega) (by have := sumSz_mem TyE.sz ha; omega)
end Go.Proofs.YtnelfbcgplooiaaGreat.Pg

/- The program's maker of tables: datatypes. -/
set_option linter.all false
namespace Go.Proofs.YtnelfbcgplooiaaGreat.Pg
open Go.AM Mc

def nmR (l : List (List UInt8)) : List (List AV) := l.map fun s => [.p (.s s)]
theorem nmR_eq (l : List (List UInt8)) : (namesC l).map (fun y => y.map AV.p) = nmR l := by
  unfold namesC nmR; rw [List.map_map]; rfl
theorem nmR_app (l k) : nmR (l ++ k) = nmR l ++ nmR k := List.map_append
theorem containsO {l : List (List UInt8)} {s : List UInt8} {H : List AO} {a : AV} (h : OwnR H a 1 (nmR l)) : ACall Tryz.prog 33 [a, .p (.s s)] H (pureQ (.p (.b (decide (s ∈ l)))) H) := by
  rw [← nmR_eq] at h
  rcases h with ⟨rfl, h⟩ | ⟨id, ver, rfl, h⟩
  · have : l = [] := by unfold namesC at h; simpa using h
    subst this
    exact acall_lendP (containsC [] s) (grnd_b _) (lentAll_cons .nl (lentAll_cons (.pure _) (lentAll_nil _)))
  · rw [List.length_map, namesC_len]
    exact containsG h

/-- the maker at work: what it holds, what it keeps -/
structure MkS (g : ProgD) (H0 H : List AO) (j : Nat) (a0 a : AV) (seen : List (List UInt8)) (f : Ft) : Prop where
  hj : j < H0.length
  mkr : H[j]? = some (tmO g a f)
  own : OwnR H a 1 (nmR seen)
  len : H0.length ≤ H.length
  keep : ∀ (i : Nat) o, H0[i]? = some o → i ≠ j → (∀ v q n, a0 ≠ .gs i v q n) → H[i]? = some o
  id : ∀ id v q n, a = .gs id v q n → H0.length ≤ id ∨ ∃ v' q' n', a0 = .gs id v' q' n'
  z : Fz f
theorem tmO_ne {g : ProgD} {a : AV} {f : Ft} {H : List AO} {j sz : Nat} {rs : List (List AV)} (h : H[j]? = some (tmO g a f)) (ho : OwnR H a sz rs) : ∀ id v q n, a = .gs id v q n → id ≠ j := by
  rintro id v q n rfl rfl
  rcases ho with ⟨h1, _⟩ | ⟨i, ver, h1, h2⟩
  · cases h1
  · cases h1; rw [h2] at h; cases h
theorem ownR_keep {H H' : List AO} {a : AV} {sz : Nat} {rs : List (List AV)} (h : OwnR H a sz rs) (hk : ∀ id v q n, a = .gs id v q n → ∀ o, H[id]? = some o → H'[id]? = some o) : OwnR H' a sz rs := by
  rcases h with h | ⟨id, ver, rfl, h⟩
  · exact .inl h
  · exact .inr ⟨id, ver, rfl, hk _ _ _ _ rfl _ h⟩
variable {g : ProgD} {H0 H H' : List AO} {j : Nat} {a0 a : AV} {seen : List (List UInt8)} {f f' : Ft}
theorem MkS.refl (hj : H[j]? = some (tmO g a f)) (ho : OwnR H a 1 (nmR seen)) (hz : Fz f) : MkS g H H j a a seen f :=
  ⟨get_lt hj, hj, ho, Nat.le_refl _, fun _ _ h _ _ => h, fun _ _ _ _ h => .inr ⟨_, _, _, h⟩, hz⟩
theorem MkS.step (h : MkS g H0 H j a0 a seen f) (P : Nat → Prop) (hk : ∀ (i : Nat) o, H[i]? = some o → P i → H'[i]? = some o) (hP : ∀ i, i < H0.length → P i) (ha : ∀ id v q n, a = .gs id v q n → P id) (hl : H.length ≤ H'.length) : MkS g H0 H' j a0 a seen f :=
  ⟨h.hj, hk _ _ h.mkr (hP _ h.hj), ownR_keep h.own fun id v q n e o ho => hk _ _ ho (ha _ _ _ _ e), Nat.le_trans h.len hl, fun i o hi hne hna => hk _ _ (h.keep i o hi hne hna) (hP _ (get_lt hi)), h.id, h.z⟩
theorem MkS.ext (h : MkS g H0 H j a0 a seen f) (A : List AO) : MkS g H0 (H ++ A) j a0 a seen f :=
  h.step (fun _ => True) (fun i o hi _ => get_ext hi A) (fun _ _ => trivial) (fun _ _ _ _ _ => trivial) (by simp)
theorem MkS.setV (h : MkS g H0 H j a0 a seen f) {i : Nat} {cs : List AV} (hi : H0.length ≤ i) (hv : H[i]? = some (.var cs)) (o : AO) : MkS g H0 (H.set i o) j a0 a seen f :=
  h.step (fun k => k ≠ i) (fun k o hk hne => get_set hk (Ne.symm hne)) (fun k hk => by omega) (fun id v q n e hx => by
    subst hx; subst e
    rcases h.own with ⟨h1, _⟩ | ⟨i', ver, h1, h2⟩
    · cases h1
    · cases h1; rw [h2] at hv; cases hv) (by simp)
theorem MkS.fail (h : MkS g H0 H j a0 a seen f) (hz : Fz f') : MkS g H0 (H.set j (tmO g a f')) j a0 a seen f' :=
  ⟨h.hj, set_get h.mkr, ownR_keep h.own fun id v q n e o ho => get_set ho (Ne.symm (tmO_ne h.mkr h.own _ _ _ _ e)), by simpa using h.len, fun i o hi hne hna => get_set (h.keep i o hi hne hna) (Ne.symm hne), h.id, hz⟩
theorem MkS.trans {H1 : List AO} {a1 : AV} {seen1 : List (List UInt8)} {f1 : Ft} (h : MkS g H0 H1 j a0 a1 seen1 f1) (h2 : MkS g H1 H' j a1 a seen f) : MkS g H0 H' j a0 a seen f :=
  ⟨h.hj, h2.mkr, h2.own, Nat.le_trans h.len h2.len, fun i o hi hne hna => h2.keep i o (h.keep i o hi hne hna) hne (fun v q n e => by
    rcases h.id i v q n e with h3 | ⟨v', q', n', h3⟩
    · have := get_lt hi; omega
    · exact hna _ _ _ h3), fun id v q n e => by
    rcases h2.id id v q n e with h3 | ⟨v', q', n', h3⟩
    · have := h.len; exact .inl (by omega)
    · exact h.id _ _ _ _ h3, h2.z⟩
/-- two slices of which each has its own object -/
def Sep (a b : AV) : Prop := ∀ id v q n v' q' n', a = .gs id v q n → b ≠ .gs id v' q' n'

def rawC (vs : List (List UInt8)) (c : CtorD) : List PV := [.s c.name, .b c.has] ++ (if c.has then (c.arg.ty vs).cells else [.i .i64 0, .i .i64 0, .s [], .nl])
theorem rawC_len (vs : List (List UInt8)) (c : CtorD) : (rawC vs c).length = 6 := by
  obtain ⟨cn, ch, t, cp⟩ := c
  cases ch
  · rfl
  · show ([PV.s cn, .b true] ++ (t.ty vs).cells).length = 6
    rw [List.length_append, TyD.cells_len]; rfl
theorem dD {L : En} {H : List AO} {q z lo : Nat} {n : List UInt8} {V : Int} {iv : AV} {x : List PV} (hx : x.length = 6) {rs : List (List AV)} {Q : Ex → St → Prop}
    (h5 : eget L 5 = .ptr q 0) (h10 : eget L 10 = .ptr z 0) (hq : H[q]? = some (.var [.p (.s n), .p (.i .i64 V), iv])) (hz : H[z]? = some (.var (x.map .p))) (ho : OwnAt H iv 6 rs lo H.length) (hn : rs.length ≤ 1048576) (hlo : lo ≤ H.length)
    (k : ∀ L' H' iv', (∀ t, eget L' t = eget L t) → H'[q]? = some (.var [.p (.s n), .p (.i .i64 V), iv']) → OwnAt H' iv' 6 (rs ++ [x.map .p]) lo H'.length → (∀ (i : Nat) o, H[i]? = some o → i ≠ q → (∀ v o' n, iv ≠ .gs i v o' n) → H'[i]? = some o) → H.length ≤ H'.length →
      (∀ id v o n, iv' = .gs id v o n → H.length ≤ id ∨ ∃ v' o' n', iv = .gs id v' o' n') → Q .nm ⟨L', [], H'⟩) : wpm (ACall Tryz.prog) mc36d Q ⟨L, [], H⟩ := by
  obtain ⟨x1, x2, x3, x4, x5, x6, rfl⟩ : ∃ x1 x2 x3 x4 x5 x6, x = [x1, x2, x3, x4, x5, x6] := by
    match x, hx with
    | [x1, x2, x3, x4, x5, x6], _ => exact ⟨_, _, _, _, _, _, rfl⟩
  simp only [List.map_cons, List.map_nil] at hz
  simp only [go_sem, reduceIte, ↓reduceIte, sevalprocAttr, Z0, Z1, bytesOf, mc36d, h5, h10, hq, hz]
  refine ⟨by intro r hr; simp at hr; subst hr; rfl, ?_⟩
  have ho2 := ho.ext [AO.rows 6 0 [[.p x1, .p x2, .p x3, .p x4, .p x5, .p x6]]]
  refine app_fr ho2.own (by simp; omega) (by simp; omega) ?_
  intro id ver H2 hid hside hkeep hlen
  have zq := hkeep _ _ (get_ext hq _) (own_ne ho2 (get_ext hq _))
  simp only [go_sem, reduceIte, ↓reduceIte, sevalprocAttr, Z0, Z1, bytesOf, h5, zq]
  have hne : q ≠ id := by rintro rfl; rw [hid] at zq; cases zq
  rw [List.length_append, List.length_singleton] at hlen
  refine k _ _ _ (fun t => rfl) (set_get zq) (.inr ⟨id, ver, ?_, by simpa using get_lt hid, by simp, get_set hid hne⟩) ?_ (by simp; omega) ?_
  · rcases hside with ⟨v, o, n', hkv⟩ | h
    · apply Classical.byContradiction
      intro hlt2
      exact own_lo ho2 (by omega) _ _ _ hkv
    · simp at h; omega
  · intro i o hi hiq hni
    exact get_set (hkeep _ _ (get_ext hi _) hni) (Ne.symm hiq)
  · rintro id' v o n' e
    cases e
    rcases hside with h | h
    · exact .inr h
    · simp at h; exact .inl (by omega)
theorem own_up {H : List AO} {a : AV} {sz : Nat} {rs : List (List AV)} {lo : Nat} (h : OwnAt H a sz rs lo H.length) (A : List AO) : OwnAt (H ++ A) a sz rs lo (H.length + A.length) := by
  rcases h with h | ⟨id, ver, h0, h1, h2, h3⟩
  · exact .inl h
  · exact .inr ⟨id, ver, h0, by omega, h2, get_ext h3 A⟩
theorem dC {d : DataD} {c : CtorD} (hc : c.has = true → TyC d c.arg) {L : En} {b q y : Nat} {n : List UInt8} {V : Int} {iv : AV} {rs : List (List AV)} {Q : Ex → St → Prop}
    (h0 : eget L 0 = .ptr j 0) (h3 : eget L 3 = .ptr b 0) (h5 : eget L 5 = .ptr q 0) (h9 : eget L 9 = .ptr y 0) (hM : MkS g H0 H j a0 a seen f) (hb : H[b]? = some (.var (d.cells.map .p))) (hy : H[y]? = some (.var (c.cells.map .p)))
    (hq : H[q]? = some (.var [.p (.s n), .p (.i .i64 V), iv])) (ho : OwnAt H iv 6 rs H0.length H.length) (hn : rs.length ≤ 1048576) (hsep : Sep a iv) (hbl : H0.length ≤ b) (hql : H0.length ≤ q) (hbq : b ≠ q)
    (k : ∀ L' H' iv', (∀ t, t ≠ 10 → t ≠ 71 → eget L' t = eget L t) → MkS g H0 H' j a0 a seen (firstF f (if c.has then c.arg.ft g.types d.vars else (0, 0))) → (∀ (i : Nat) cs, H[i]? = some (.var cs) → i ≠ j → i ≠ q → H'[i]? = some (.var cs)) → H'[q]? = some (.var [.p (.s n), .p (.i .i64 V), iv']) →
      OwnAt H' iv' 6 (rs ++ [(rawC d.vars c).map .p]) H0.length H'.length → Sep a iv' → Q .nm ⟨L', [], H'⟩) : wpm (ACall Tryz.prog) mc36c Q ⟨L, [], H⟩ := by
  obtain ⟨dn, vs, cs, dp⟩ := d
  obtain ⟨cn, ch, ⟨ak, an, ap, aks⟩, cp⟩ := c
  have hy' : H[y]? = some (.var [.p (.s cn), .p (.b ch), .p (.i .i64 ak), .p (.s an), .p (.i .i64 ap), .p (.l (TyE.cellsL aks)), .p (.i .i64 cp)]) := hy
  have hyX : ∀ A, (H ++ A)[y]? = _ := fun A => get_ext hy' A
  have hb' : H[b]? = some (.var [.p (.s dn), .p (.l (namesC vs)), .p (.l (cs.map CtorD.cells)), .p (.i .i64 dp)]) := hb
  have hbX : ∀ A, (H ++ A)[b]? = _ := fun A => get_ext hb' A
  have hnq := own_ne ho hq
  have hnb := own_ne ho hb
  have hnj : ∀ v o n, iv ≠ .gs j v o n := own_lo ho hM.hj
  have hna : ∀ id v o n, a = .gs id v o n → id ≠ q := by
    rintro id v o n rfl rfl
    rcases hM.own with ⟨h1, _⟩ | ⟨i', ver, h1, h2⟩
    · cases h1
    · cases h1; rw [h2] at hq; cases hq
  simp only [go_sem, reduceIte, ↓reduceIte, sevalprocAttr, Z0, Z1, bytesOf, mc36c, h0, h3, h5, h9, hy', hyX, zl8_4, eget_ne, eget_same]
  have fin : ∀ (H1 : List AO) (L1 : En) (x : List PV) (f1 : Ft), (∀ t, t ≠ 10 → t ≠ 71 → eget L1 t = eget L t) → eget L1 10 = .ptr H.length 0 → MkS g H0 H1 j a0 a seen f1 → (∀ (i : Nat) cs, H[i]? = some (.var cs) → i ≠ j → H1[i]? = some (.var cs)) → H1[q]? = some (.var [.p (.s n), .p (.i .i64 V), iv]) → H1[H.length]? = some (.var (x.map .p)) →
      OwnAt H1 iv 6 rs H0.length H1.length → x = rawC vs ⟨cn, ch, ⟨ak, an, ap, aks⟩, cp⟩ → f1 = (firstF f (if ch then TyE.ft g.types vs ⟨ak, an, ap, aks⟩ else (0, 0))) → wpm (ACall Tryz.prog) mc36d Q ⟨L1, [], H1⟩ := by
    rintro H1 L1 x f1 hL h10 hM1 hb1 hq1 hz1 ho1 rfl rfl
    refine dD (rawC_len _ _) (by rw [hL _ (by decide) (by decide)]; exact h5) h10 hq1 hz1 ho1 hn hM1.len ?_
    intro L' H' iv' hL' hq' ho' hk hl hid
    have hna' : ∀ id v o n, a = .gs id v o n → ∀ v' o' n', iv ≠ .gs id v' o' n' := fun id v o n e v' o' n' => hsep _ _ _ _ _ _ _ e
    refine k L' H' iv' (fun t h1 h2 => (hL' t).trans (hL t h1 h2)) ?_ (fun i cs hi hij hiq => hk _ _ (hb1 _ _ hi hij) hiq (own_ne ho hi)) hq' ho' ?_
    · exact hM1.step (fun i => i ≠ q ∧ ∀ v o n, iv ≠ .gs i v o n) (fun i o hi hp => hk i o hi hp.1 hp.2) (fun i hi => ⟨by omega, own_lo ho hi⟩) (fun id v q n e => ⟨hna _ _ _ _ e, hna' _ _ _ _ e⟩) hl
    · intro id v o n v' o' n' e e'
      rcases hid _ _ _ _ e' with h | ⟨_, _, _, h⟩
      · subst e
        rcases hM1.own with ⟨h1, _⟩ | ⟨i', ver, h1, h2⟩
        · cases h1
        · cases h1
          have := get_lt h2
          omega
      · exact hsep _ _ _ _ _ _ _ e h
  have hMX := fun A => hM.ext A
  cases ch
  · simp only [go_sem, reduceIte, ↓reduceIte, sevalprocAttr, Z0, Z1, bytesOf]
    refine fin _ _ (rawC vs ⟨cn, false, ⟨ak, an, ap, aks⟩, cp⟩) f (fun t h1 h2 => by rw [eget_ne (Ne.symm h2), eget_ne (Ne.symm h1)]) (by simp only [go_sem, reduceIte, ↓reduceIte, sevalprocAttr, Z0, Z1, bytesOf, eget_ne, eget_same]) (hM.ext _) (fun i cs hi _ => get_ext hi _) (get_ext hq _) (by rw [get_off0]; rfl) (by rw [List.length_append]; exact own_up ho _) rfl (firstF_r hM.z).symm
  · simp only [go_sem, reduceIte, ↓reduceIte, sevalprocAttr, Z0, Z1, bytesOf, h0, h3, h9, hbX, hyX, eget_ne, eget_same]
    refine acall_pure (hc rfl g a f _ j hM.z (hMX _).mkr) ?_
    have fin' := fun H1 L1 x f1 hL h10 hM1 hb1 hq1 hz1 ho1 (hx : x = [.s cn, .b true] ++ (TyE.ty vs (.mk ak an ap aks)).cells) (hf1 : f1 = firstF f (TyE.ft g.types vs ⟨ak, an, ap, aks⟩)) => fin H1 L1 x f1 hL h10 hM1 hb1 hq1 hz1 ho1 hx hf1
    clear fin
    dsimp only
    have hz' := firstF_zz hM.z (TyE.ft_z g.types vs (.mk ak an ap aks))
    generalize TyE.ty vs (.mk ak an ap aks) = tc at fin' ⊢
    generalize firstF f (TyE.ft g.types vs (.mk ak an ap aks)) = fc at fin' hz' ⊢
    obtain ⟨tk, tn, tS, tks⟩ := tc
    have hM1 := (hM.ext [AO.var [.p (.s cn), .p (.b true), .p (.i .i64 0), .p (.i .i64 0), .p (.s []), .p .nl]]).fail (f' := fc) hz'
    have hjl := Nat.lt_of_lt_of_le hM.hj hM.len
    have hb1 : ∀ (i : Nat) cs, H[i]? = some (.var cs) → i ≠ j → ((H ++ [AO.var [.p (.s cn), .p (.b true), .p (.i .i64 0), .p (.i .i64 0), .p (.s []), .p .nl]]).set j (tmO g a fc))[i]? = some (.var cs) := fun i cs hi hij => get_set (get_ext hi _) (Ne.symm hij)
    have hq1 := get_set (o' := tmO g a fc) (get_ext hq [AO.var [.p (.s cn), .p (.b true), .p (.i .i64 0), .p (.i .i64 0), .p (.s []), .p .nl]]) (show j ≠ q by have := hM.hj; omega)
    have hz1 : ((H ++ [AO.var [.p (.s cn), .p (.b true), .p (.i .i64 0), .p (.i .i64 0), .p (.s []), .p .nl]]).set j (tmO g a fc))[H.length]? = some (AO.var [.p (.s cn), .p (.b true), .p (.i .i64 0), .p (.i .i64 0), .p (.s []), .p .nl]) := get_set (get_off0 _ _) (by omega)
    have ho1 := own_setVar (o := tmO g a fc) (own_up ho [AO.var [.p (.s cn), .p (.b true), .p (.i .i64 0), .p (.i .i64 0), .p (.s []), .p .nl]]) (hM.ext _).mkr
    have hl1 : ((H ++ [AO.var [.p (.s cn), .p (.b true), .p (.i .i64 0), .p (.i .i64 0), .p (.s []), .p .nl]]).set j (tmO g a fc)).length = H.length + 1 := by simp
    generalize (H ++ [AO.var [.p (.s cn), .p (.b true), .p (.i .i64 0), .p (.i .i64 0), .p (.s []), .p .nl]]).set j (tmO g a fc) = H1 at hM1 hb1 hq1 hz1 ho1 hl1 ⊢
    simp only [go_sem, reduceIte, ↓reduceIte, sevalprocAttr, Z0, Z1, bytesOf, TyD.cells, hz1, eget_ne, eget_same]
    refine fin' _ _ ([.s cn, .b true] ++ (TyD.mk tk tn tS tks).cells) fc (fun t h1 h2 => by rw [eget_ne (Ne.symm h2), eget_ne (Ne.symm h1)]) (by simp only [go_sem, reduceIte, ↓reduceIte, sevalprocAttr, Z0, Z1, bytesOf, eget_ne, eget_same]) (hM1.setV hM.len hz1 _) (fun i cs hi hij => get_set (hb1 i cs hi hij) (by have := get_lt hi; omega)) (get_set hq1 ?_) (set_get hz1) ?_ rfl rfl
    · have := get_lt hq; omega
    · rw [List.length_set, hl1]; exact own_setVar ho1 hz1
theorem app_drwG {J : PK} {L T : En} {H N : List AO} {d : MD} {sz bytes id ver : Nat} {rs ys : List (List AV)} (hid : H[id]? = some (.rows sz ver rs))
    (hb : (rs.length + ys.length) * bytes ≤ 140737488355328) (hl : rs.length + ys.length ≤ 140737488355328)
    (k : J (H.set id (.rows sz (ver + 1) (rs ++ ys))) ⟨(St.put ⟨L, T, H.set id (.rows sz (ver + 1) (rs ++ ys))⟩ d (.gs id (ver + 1) 0 (rs.length + ys.length))).L, (St.put ⟨L, T, H.set id (.rows sz (ver + 1) (rs ++ ys))⟩ d (.gs id (ver + 1) 0 (rs.length + ys.length))).T, N⟩) :
    appX sz bytes (.gs id ver 0 rs.length) ys d (effK (H.set id .dead) H N J) ⟨L, T, H⟩ := by
  show appR sz bytes id ver 0 rs.length ys d _ ⟨L, T, H⟩ H[id]?
  rw [hid]
  refine ⟨rfl, rfl, rfl, Nat.le_refl _, hb, hl, ?_⟩
  rw [List.take_length]
  cases d <;> exact ⟨List.length_set, hext_dead _ _ _, k⟩
theorem ownAt_keep {H H' : List AO} {a : AV} {sz lo hi hi' : Nat} {rs : List (List AV)} (h : OwnAt H a sz rs lo hi) (hk : ∀ id v q n, a = .gs id v q n → ∀ o, H[id]? = some o → H'[id]? = some o) (hl : hi ≤ hi') : OwnAt H' a sz rs lo hi' := by
  rcases h with h | ⟨id, ver, h0, h1, rfl, h⟩
  · exact .inl h
  · exact .inr ⟨id, ver, h0, by omega, rfl, hk _ _ _ _ rfl _ h⟩
theorem own_lt {H : List AO} {a : AV} {sz : Nat} {rs : List (List AV)} (h : OwnR H a sz rs) : ∀ id v q n, a = .gs id v q n → id < H.length := by
  rintro id v q n rfl
  rcases h with ⟨h1, _⟩ | ⟨i, ver, h1, h2⟩
  · cases h1
  · cases h1; exact get_lt h2
theorem own_ltAt {H : List AO} {a : AV} {sz lo hi : Nat} {rs : List (List AV)} (h : OwnAt H a sz rs lo hi) : ∀ id v q n, a = .gs id v q n → id < hi := by
  rintro id v q n rfl
  rcases h with ⟨h1, _⟩ | ⟨i, ver, _, h0, h1, h2⟩
  · cases h1
  · cases h1; exact h0
theorem MkS.name (h : MkS g H0 H j a0 a seen f) {X : List AO} {id ver : Nat} {s : List UInt8} (hk : ∀ (i : Nat) o, H[i]? = some o → (∀ v q n, a ≠ .gs i v q n) → X[i]? = some o) (hx : X[id]? = some (.rows 1 ver (nmR (seen ++ [s]))))
    (hs : (∃ v o n, a = .gs id v o n) ∨ H.length ≤ id) (hl : H.length ≤ X.length) : MkS g H0 (X.set j (tmO g (.gs id ver 0 (seen ++ [s]).length) f)) j a0 (.gs id ver 0 (seen ++ [s]).length) (seen ++ [s]) f := by
  have haj : ∀ v q n, a ≠ .gs j v q n := fun v q n e => tmO_ne h.mkr h.own _ _ _ _ e rfl
  have hij : j ≠ id := by
    rintro rfl
    rcases hs with ⟨v, o, n, e⟩ | h'
    · exact haj _ _ _ e
    · have := get_lt h.mkr; omega
  refine ⟨h.hj, set_get (hk _ _ h.mkr haj), .inr ⟨id, ver, by simp [nmR], get_set hx hij⟩, by rw [List.length_set]; exact Nat.le_trans h.len hl, ?_, ?_, h.z⟩
  · intro i o hi hne hna
    refine get_set (hk _ _ (h.keep i o hi hne hna) ?_) (Ne.symm hne)
    intro v q n e
    rcases h.id _ _ _ _ e with h' | ⟨_, _, _, h'⟩
    · have := get_lt hi; omega
    · exact hna _ _ _ h'
  · rintro i v q n e
    cases e
    rcases hs with ⟨_, _, _, e⟩ | h'
    · exact h.id _ _ _ _ e
    · exact .inl (Nat.le_trans h.len h')
theorem dB {d : DataD} {c : CtorD} (hc : c.has = true → TyC d c.arg) {L : En} {b q y : Nat} {n : List UInt8} {V : Int} {iv : AV} {rs : List (List AV)} {Q : Ex → St → Prop}
    (h0 : eget L 0 = .ptr j 0) (h3 : eget L 3 = .ptr b 0) (h5 : eget L 5 = .ptr q 0) (h9 : eget L 9 = .ptr y 0) (hM : MkS g H0 H j a0 a seen f) (hb : H[b]? = some (.var (d.cells.map .p))) (hy : H[y]? = some (.var (c.cells.map .p)))
    (hq : H[q]? = some (.var [.p (.s n), .p (.i .i64 V), iv])) (ho : OwnAt H iv 6 rs H0.length H.length) (hn : rs.length ≤ 1048576) (hs : seen.length ≤ 4194304) (hsep : Sep a iv) (hbl : H0.length ≤ b) (hql : H0.length ≤ q) (hbq : b ≠ q)
    (k : ∀ L' H' iv' a', (∀ t, t ≠ 10 → t ≠ 71 → eget L' t = eget L t) → MkS g H0 H' j a0 a' (seen ++ [c.name]) (firstF f (if c.has then c.arg.ft g.types d.vars else (0, 0))) → (∀ (i : Nat) cs, H[i]? = some (.var cs) → i ≠ j → i ≠ q → H'[i]? = some (.var cs)) → H'[q]? = some (.var [.p (.s n), .p (.i .i64 V), iv']) →
      OwnAt H' iv' 6 (rs ++ [(rawC d.vars c).map .p]) H0.length H'.length → Sep a' iv' → Q .nm ⟨L', [], H'⟩) : wpm (ACall Tryz.prog) mc36b Q ⟨L, [], H⟩ := by
  have fin : ∀ (a1 : AV) (H1 : List AO) (L1 : En), MkS g H0 H1 j a0 a1 (seen ++ [c.name]) f → (∀ (i : Nat) cs, H[i]? = some (.var cs) → i ≠ j → H1[i]? = some (.var cs)) → H1[y]? = some (.var (c.cells.map .p)) → H1[q]? = some (.var [.p (.s n), .p (.i .i64 V), iv]) → OwnAt H1 iv 6 rs H0.length H1.length → Sep a1 iv → (∀ t, eget L1 t = eget L t) →
      wpm (ACall Tryz.prog) mc36c Q ⟨L1, [], H1⟩ := fun a1 H1 L1 hM1 hb1 hy1 hq1 ho1 hs1 hL =>
    dC hc ((hL _).trans h0) ((hL _).trans h3) ((hL _).trans h5) ((hL _).trans h9) hM1 (hb1 _ _ hb (by have := hM.hj; omega)) hy1 hq1 ho1 hn hs1 hbl hql hbq fun L' H' iv' hL' h1 h2 h3 h4 h5 => k L' H' iv' a1 (fun t ht ht' => (hL' t ht ht').trans (hL t)) h1 (fun i cs hi hij hiq => h2 i cs (hb1 i cs hi hij) hij hiq) h3 h4 h5
  obtain ⟨ts, ⟨gk, gn, gu, gt, gp, gks, gas⟩⟩ := g
  obtain ⟨cn, ch, ⟨ak, an, ap, aks⟩, cp⟩ := c
  have hy' : H[y]? = some (.var [.p (.s cn), .p (.b ch), .p (.i .i64 ak), .p (.s an), .p (.i .i64 ap), .p (.l (TyE.cellsL aks)), .p (.i .i64 cp)]) := hy
  have hv := hM.mkr
  simp only [tmO, ProgD.cells, ExpD.cells, List.map_cons, List.map_nil, List.cons_append, List.nil_append] at hv
  rcases hM.own with ⟨rfl, hr⟩ | ⟨id, ver, rfl, hid⟩
  · have hvX : ∀ A, (H ++ A)[j]? = _ := fun A => get_ext hv A
    have he : seen = [] := by simpa [nmR] using hr
    subst he
    simp only [go_sem, reduceIte, ↓reduceIte, sevalprocAttr, Z0, Z1, bytesOf, mc36b]
    refine drw_same ?_
    simp only [go_sem, reduceIte, ↓reduceIte, sevalprocAttr, Z0, Z1, bytesOf, h0, h9, hv, hy']
    refine ⟨by intro r hr; simp at hr; subst hr; rfl, .inl ⟨rfl, by simp, by simp, by simp, ?_⟩⟩
    simp only [go_sem, reduceIte, ↓reduceIte, sevalprocAttr, Z0, Z1, bytesOf, hvX]
    have hname := hM.name (X := H ++ [AO.rows 1 0 [[.p (.s cn)]], AO.rows 1 0 [[.p (.s cn)]]]) (id := H.length + 1) (ver := 0) (s := cn) (fun i o hi _ => get_ext hi _) (by rw [get_off]; rfl) (.inr (by omega)) (by simp)
    refine fin _ _ _ hname (fun i cs hi hij => get_set (get_ext hi _) (Ne.symm hij)) (get_set (get_ext hy _) ?_) (get_set (get_ext hq _) ?_) ?_ ?_ (fun t => rfl)
    · rintro rfl; rw [hv] at hy'; simp at hy'
    · have := hM.hj; omega
    · rw [List.length_set]; exact own_setVar (ownAt_keep ho (fun id v q n _ o ho => get_ext ho _) (by simp)) (hM.ext _).mkr
    · rintro id v o n v' o' n' e e'
      cases e
      have := own_ltAt ho _ _ _ _ e'
      omega
  · have hij : id ≠ j := tmO_ne hM.mkr hM.own _ _ _ _ rfl
    have hiy : id ≠ y := by rintro rfl; rw [hid] at hy; cases hy
    have hib : id ≠ b := by rintro rfl; rw [hid] at hb; cases hb
    have hiq : id ≠ q := by rintro rfl; rw [hid] at hq; cases hq
    have hvd := get_set (o' := .dead) hv hij
    have hyd := get_set (o' := .dead) hy' hiy
    simp only [go_sem, reduceIte, ↓reduceIte, sevalprocAttr, Z0, Z1, bytesOf, mc36b]
    refine ⟨H.set id .dead, hext_dead0 _ _, ?_⟩
    simp only [go_sem, reduceIte, ↓reduceIte, sevalprocAttr, Z0, Z1, bytesOf, h0, h9, hvd, hyd]
    refine ⟨by intro r hr; simp at hr; subst hr; rfl, .inr (.inl (app_drwG hid (by simp [nmR]; omega) (by simp [nmR]; omega) ?_))⟩
    have hv1 := get_set (o' := AO.rows 1 (ver + 1) (nmR seen ++ [[.p (.s cn)]])) hv hij
    have hname := hM.name (X := H.set id (AO.rows 1 (ver + 1) (nmR seen ++ [[.p (.s cn)]])) ++ [AO.rows 1 0 [[.p (.s cn)]]]) (id := id) (ver := ver + 1) (s := cn) (fun i o hi hna => get_ext (get_set hi (fun e => hna _ _ _ (by rw [e]))) _) (get_ext (by rw [nmR_app]; exact set_get hid) _) (.inl ⟨_, _, _, rfl⟩) (by simp)
    have hb1 : ∀ (i : Nat) cs, H[i]? = some (.var cs) → (H.set id (AO.rows 1 (ver + 1) (nmR seen ++ [[.p (.s cn)]])) ++ [AO.rows 1 0 [[.p (.s cn)]]])[i]? = some (.var cs) := fun i cs hi => get_ext (get_set hi (by rintro rfl; rw [hid] at hi; cases hi)) _
    have hy1 := get_ext (get_set (o' := AO.rows 1 (ver + 1) (nmR seen ++ [[.p (.s cn)]])) hy hiy) [AO.rows 1 0 [[.p (.s cn)]]]
    have hq1 := get_ext (get_set (o' := AO.rows 1 (ver + 1) (nmR seen ++ [[.p (.s cn)]])) hq hiq) [AO.rows 1 0 [[.p (.s cn)]]]
    have ho1 : OwnAt (H.set id (AO.rows 1 (ver + 1) (nmR seen ++ [[.p (.s cn)]])) ++ [AO.rows 1 0 [[.p (.s cn)]]]) iv 6 rs H0.length (H.set id (AO.rows 1 (ver + 1) (nmR seen ++ [[.p (.s cn)]])) ++ [AO.rows 1 0 [[.p (.s cn)]]]).length := ownAt_keep ho (fun i v q n e o ho => get_ext (get_set ho (fun e' => hsep _ _ _ _ _ _ _ rfl (by rw [e, e']))) _) (by simp)
    generalize H.set id (AO.rows 1 (ver + 1) (nmR seen ++ [[.p (.s cn)]])) = H1 at hv1 hname hb1 hy1 hq1 ho1 ⊢
    have hvX : ∀ A, (H1 ++ A)[j]? = _ := fun A => get_ext hv1 A
    simp only [go_sem, reduceIte, ↓reduceIte, sevalprocAttr, Z0, Z1, bytesOf, hvX]
    have el : (nmR seen).length + 1 = (seen ++ [cn]).length := by simp [nmR]
    rw [el]
    refine fin _ _ _ hname (fun i cs hi hij => get_set (hb1 i cs hi) (Ne.symm hij)) (get_set hy1 ?_) (get_set hq1 ?_) ?_ ?_ (fun t => rfl)
    · rintro rfl; rw [hv] at hy'; simp at hy'
    · have := hM.hj; omega
    · rw [List.length_set]; exact own_setVar ho1 (hvX _)
    · rintro i v o n v' o' n' e e'
      cases e
      exact hsep _ _ _ _ _ _ _ rfl e'
end Go.Proofs.YtnelfbcgplooiaaGreat.Pg

/- The program's maker of tables: a datatype's constructors, a datatype. -/
set_option linter.all false
namespace Go.Proofs.YtnelfbcgplooiaaGreat.Pg
open Go.AM Mc
variable {g : ProgD} {H0 H H' : List AO} {j : Nat} {a0 a : AV} {seen : List (List UInt8)} {f f' : Ft}

theorem ctorsF_step {types : List DataD} {vs : List (List UInt8)} : ∀ {seen : List (List UInt8)} {l : List CtorD} {x : Nat} (h : x < l.length), ctorsF types vs seen (l.take (x + 1)) = firstF (ctorsF types vs seen (l.take x)) (firstF (if l[x].name ∈ seen ++ (l.take x).map CtorD.name then (23, l[x].pos) else (0, 0)) (if l[x].has then l[x].arg.ft types vs else (0, 0)))
  | seen, [], x, h => by simp at h
  | seen, c :: l, 0, h => by
    simp only [List.take_succ_cons, List.take_zero, ctorsF, List.getElem_cons_zero, firstF_z, List.map_nil, List.append_nil]
    congr 1
    refine firstF_r ?_
    split
    · exact TyE.ft_z _ _ _
    · intro _; rfl
  | seen, c :: l, x + 1, h => by
    simp only [List.take_succ_cons, ctorsF, List.getElem_cons_succ]
    rw [ctorsF_step (seen := seen ++ [c.name]) (l := l) (by simpa using h), firstF_assoc, firstF_assoc]
    simp only [List.map_cons, List.append_assoc, List.singleton_append]
theorem ctorsF_z (types : List DataD) (vs : List (List UInt8)) : ∀ (seen : List (List UInt8)) (l : List CtorD), Fz (ctorsF types vs seen l)
  | seen, [] => fun _ => rfl
  | seen, c :: l => by
    rw [ctorsF]
    refine firstF_zz (a := ite _ _ _) ?_ (firstF_zz (a := ite _ _ _) ?_ (ctorsF_z types vs _ l))
    · split
      · simp
      · intro _; rfl
    · split
      · exact TyE.ft_z _ _ _
      · intro _; rfl
theorem varsF_step {p : Int} : ∀ {ah l : List (List UInt8)} {x : Nat} (h : x < l.length), varsF p ah (l.take (x + 1)) = firstF (varsF p ah (l.take x)) (if l[x] ∈ ah ++ l.take x then (22, p) else (0, 0))
  | ah, [], x, h => by simp at h
  | ah, c :: l, 0, h => by simp [varsF, firstF_z]
  | ah, c :: l, x + 1, h => by
    simp only [List.take_succ_cons, varsF, List.getElem_cons_succ]
    split
    · rw [firstF_ne (by simp)]
    · rw [varsF_step (ah := ah ++ [c]) (l := l) (by simpa using h), List.append_assoc]; rfl
theorem varsF_z (p : Int) : ∀ (ah l : List (List UInt8)), Fz (varsF p ah l)
  | ah, [] => fun _ => rfl
  | ah, c :: l => by
    rw [varsF]
    split
    · intro h; simp at h
    · exact varsF_z p _ l
theorem dA {d : DataD} (hc : ∀ c ∈ d.ctors, c.has = true → TyC d c.arg) (hn : d.ctors.length ≤ 1048576) {L : En} {b q e : Nat} {n : List UInt8} {V : Int} {R : AV → List AO → Prop}
    (h0 : eget L 0 = .ptr j 0) (h3 : eget L 3 = .ptr b 0) (h4 : eget L 4 = .ptr e 0) (h5 : eget L 5 = .ptr q 0) (hM : MkS g H0 H j a0 a seen f) (hb : H[b]? = some (.var (d.cells.map .p)))
    (hq : H[q]? = some (.var [.p (.s n), .p (.i .i64 V), .p .nl])) (he : H[e]? = some (.var [.p (.s []), .p (.i .i64 0), .p .nl])) (hs : seen.length + d.ctors.length ≤ 4194304) (hbl : H0.length ≤ b) (hql : H0.length ≤ q) (hel : H0.length ≤ e) (hbq : b ≠ q) (heq : e ≠ q)
    (k : ∀ H' iv' a', MkS g H0 H' j a0 a' (seen ++ d.ctors.map CtorD.name) (firstF f (ctorsF g.types d.vars seen d.ctors)) → OwnAt H' iv' 6 (d.ctors.map fun c => (rawC d.vars c).map .p) H0.length H'.length → Sep a' iv' → R (.st [.p (.s n), .p (.i .i64 V), iv']) H') :
    wpm (ACall Tryz.prog) mc36a (finK mr36 R) ⟨L, [], H⟩ := by
  obtain ⟨dn, vs, cs, dp⟩ := d
  have hb' : H[b]? = some (.var [.p (.s dn), .p (.l (namesC vs)), .p (.l (cs.map CtorD.cells)), .p (.i .i64 dp)]) := hb
  simp only at hc hn hs k
  simp only [go_sem, reduceIte, ↓reduceIte, sevalprocAttr, Z0, Z1, bytesOf, mc36a, mr36, h3, hb', eget_same, eget_ne, List.length_map]
  intro hl
  refine ⟨Nat × AV × AV × List AO, [0, 3, 4, 5, 37, 38, 39], fun x st => st.T = [] ∧ st.H = x.2.2.2 ∧ eget st.L 0 = .ptr j 0 ∧ eget st.L 3 = .ptr b 0 ∧ eget st.L 4 = .ptr e 0 ∧ eget st.L 5 = .ptr q 0 ∧ eget st.L 37 = .p (.l (cs.map CtorD.cells)) ∧ eget st.L 38 = .p (.i .i64 cs.length) ∧ eget st.L 39 = .p (.i .i64 x.1) ∧
    x.1 ≤ cs.length ∧ MkS g H0 x.2.2.2 j a0 x.2.1 (seen ++ (cs.take x.1).map CtorD.name) (firstF f (ctorsF g.types vs seen (cs.take x.1))) ∧ x.2.2.2[b]? = some (.var (DataD.cells ⟨dn, vs, cs, dp⟩ |>.map .p)) ∧ x.2.2.2[q]? = some (.var [.p (.s n), .p (.i .i64 V), x.2.2.1]) ∧ x.2.2.2[e]? = some (.var [.p (.s []), .p (.i .i64 0), .p .nl]) ∧
    OwnAt x.2.2.2 x.2.2.1 6 ((cs.take x.1).map fun c => (rawC vs c).map .p) H0.length x.2.2.2.length ∧ Sep x.2.1 x.2.2.1, fun x => cs.length - x.1, ⟨(0, a, .p .nl, H), ?_⟩, ?_⟩
  · simp only [go_sem, reduceIte, ↓reduceIte, sevalprocAttr, Z0, Z1, bytesOf, eget_keep, eget_same, eget_ne, h0, h3, h4, h5, hb, hq, he]
    exact ⟨Nat.zero_le _, by simp only [List.take_zero, List.map_nil, List.append_nil, ctorsF, firstF_r hM.z]; exact hM, .inl ⟨rfl, rfl⟩, fun _ _ _ _ _ _ _ _ => by rintro ⟨⟩⟩
  · rintro ⟨x, a1, iv, HG⟩ st ⟨hT, hH, q0, q3, q4, q5, q37, q38, q39, hx, hMG, gb, gq, ge, hown, hsep⟩
    obtain ⟨SL, ST, SH⟩ := st
    simp only at hT hH q0 q3 q4 q5 q37 q38 q39 hx hMG gb gq ge hown hsep
    subst hT hH
    by_cases hlt : x < cs.length
    · have d1 : decide ((x : Int) < (cs.length : Int)) = true := by simp; omega
      have hlt' : ((x : Int) < (cs.length : Int)) := by omega
      have ex := wrN x (by omega)
      have hg : (cs.map CtorD.cells)[x]? = some (CtorD.cells cs[x]) := by simp [hlt]
      have hcall := hc cs[x] (List.getElem_mem hlt)
      have hft := ctorsF_step (types := g.types) (vs := vs) (seen := seen) hlt
      have hnm : (cs.take (x + 1)).map CtorD.name = (cs.take x).map CtorD.name ++ [cs[x].name] := by rw [List.take_succ, List.getElem?_eq_getElem hlt, List.map_append]; rfl
      have hrw : (cs.take (x + 1)).map (fun c => (rawC vs c).map AV.p) = (cs.take x).map (fun c => (rawC vs c).map AV.p) ++ [(rawC vs cs[x]).map AV.p] := by rw [List.take_succ, List.getElem?_eq_getElem hlt, List.map_append]; rfl
      generalize cs[x] = c at hg hcall hft hnm hrw
      have hSl : ((cs.take x).map CtorD.name).length = x := by rw [List.length_map, List.length_take]; omega
      have hRl : ((cs.take x).map fun c => (rawC vs c).map AV.p).length = x := by rw [List.length_map, List.length_take]; omega
      generalize hS : seen ++ (cs.take x).map CtorD.name = S at hMG hft
      have hSlen : S.length = seen.length + x := by rw [← hS, List.length_append, hSl]
      have hfz : Fz (firstF f (ctorsF g.types vs seen (cs.take x))) := hMG.z
      generalize hF : firstF f (ctorsF g.types vs seen (cs.take x)) = F at hMG hfz
      have hcl := CtorD.cells_len c
      have hcc : ∃ c1 c2 c3 c4 c5 c6 c7, CtorD.cells c = [c1, c2, c3, c4, c5, c6, c7] := by
        obtain ⟨cn, ch, ⟨ak, an, ap, aks⟩, cp⟩ := c
        exact ⟨_, _, _, _, _, _, _, rfl⟩
      obtain ⟨cn, ch, ⟨ak, an, ap, aks⟩, cp⟩ := c
      simp only at hft hnm hcall
      simp only [go_sem, reduceIte, ↓reduceIte, sevalprocAttr, Z0, Z1, bytesOf, q37, q38, q39, d1, hlt', hg, eget_same, eget_ne, CtorD.cells, TyE.cells, List.length_map, zl8_3]
      have hMX := hMG.ext [AO.var [.p (.s cn), .p (.b ch), .p (.i .i64 ak), .p (.s an), .p (.i .i64 ap), .p (.l (TyE.cellsL aks)), .p (.i .i64 cp)]]
      have hyX : (SH ++ [AO.var [.p (.s cn), .p (.b ch), .p (.i .i64 ak), .p (.s an), .p (.i .i64 ap), .p (.l (TyE.cellsL aks)), .p (.i .i64 cp)]])[SH.length]? = some (AO.var [.p (.s cn), .p (.b ch), .p (.i .i64 ak), .p (.s an), .p (.i .i64 ap), .p (.l (TyE.cellsL aks)), .p (.i .i64 cp)]) := by rw [get_off0]; rfl
      have hbX := get_ext gb [AO.var [.p (.s cn), .p (.b ch), .p (.i .i64 ak), .p (.s an), .p (.i .i64 ap), .p (.l (TyE.cellsL aks)), .p (.i .i64 cp)]]
      have hqX := get_ext gq [AO.var [.p (.s cn), .p (.b ch), .p (.i .i64 ak), .p (.s an), .p (.i .i64 ap), .p (.l (TyE.cellsL aks)), .p (.i .i64 cp)]]
      have heX := get_ext ge [AO.var [.p (.s cn), .p (.b ch), .p (.i .i64 ak), .p (.s an), .p (.i .i64 ap), .p (.l (TyE.cellsL aks)), .p (.i .i64 cp)]]
      have hoX := own_up hown [AO.var [.p (.s cn), .p (.b ch), .p (.i .i64 ak), .p (.s an), .p (.i .i64 ap), .p (.l (TyE.cellsL aks)), .p (.i .i64 cp)]]
      rw [← List.length_append] at hoX
      have hSlt := hMG.len
      generalize hyl : SH.length = y at hyX hSlt ⊢
      generalize SH ++ [AO.var [.p (.s cn), .p (.b ch), .p (.i .i64 ak), .p (.s an), .p (.i .i64 ap), .p (.l (TyE.cellsL aks)), .p (.i .i64 cp)]] = H1 at hMX hyX hbX hqX heX hoX ⊢
      have hv := hMX.mkr
      obtain ⟨ts, ⟨gk, gn, gu, gt, gp, gks, gas⟩⟩ := g
      simp only [tmO, ProgD.cells, ExpD.cells, List.map_cons, List.map_nil, List.cons_append, List.nil_append] at hv
      refine drw_same ?_
      simp only [go_sem, reduceIte, ↓reduceIte, sevalprocAttr, Z0, Z1, bytesOf, q0, hv, hyX, eget_same, eget_ne]
      refine acall_pure (containsO hMX.own) ?_
      have hjb : j ≠ b := by have := hMG.hj; omega
      have hjq : j ≠ q := by have := hMG.hj; omega
      have hje : j ≠ e := by have := hMG.hj; omega
      have hjy : j ≠ y := by have := hMG.hj; omega
      replace hft := congrArg (firstF f) hft
      dsimp only at hft
      rw [← firstF_assoc, hF, ← firstF_assoc] at hft
      by_cases hm : cn ∈ S
      case' pos =>
        simp only [go_sem, reduceIte, ↓reduceIte, sevalprocAttr, Z0, Z1, bytesOf, dT hm, eget_same, eget_ne, q0, hyX]
        refine acall_pure (failT hMX.mkr 23 cp) ?_
        rw [if_pos hm] at hft
        have hM2 := hMX.fail (f' := firstF F (23, cp)) (firstF_zz hfz (by simp))
        have hy2 := get_set (o' := tmO ⟨ts, ⟨gk, gn, gu, gt, gp, gks, gas⟩⟩ a1 (firstF F (23, cp))) hyX hjy
        have hb2 := get_set (o' := tmO ⟨ts, ⟨gk, gn, gu, gt, gp, gks, gas⟩⟩ a1 (firstF F (23, cp))) hbX hjb
        have hq2 := get_set (o' := tmO ⟨ts, ⟨gk, gn, gu, gt, gp, gks, gas⟩⟩ a1 (firstF F (23, cp))) hqX hjq
        have he2 := get_set (o' := tmO ⟨ts, ⟨gk, gn, gu, gt, gp, gks, gas⟩⟩ a1 (firstF F (23, cp))) heX hje
        have ho2 := own_setVar (o := tmO ⟨ts, ⟨gk, gn, gu, gt, gp, gks, gas⟩⟩ a1 (firstF F (23, cp))) hoX hMX.mkr
        rw [show H1.length = (H1.set j (tmO ⟨ts, ⟨gk, gn, gu, gt, gp, gks, gas⟩⟩ a1 (firstF F (23, cp)))).length by simp] at ho2
        generalize H1.set j (tmO ⟨ts, ⟨gk, gn, gu, gt, gp, gks, gas⟩⟩ a1 (firstF F (23, cp))) = H2 at hM2 hy2 hb2 hq2 he2 ho2 ⊢
        simp only [go_sem, reduceIte, ↓reduceIte, sevalprocAttr, Z0, Z1, bytesOf]
      case' neg =>
        simp only [go_sem, reduceIte, ↓reduceIte, sevalprocAttr, Z0, Z1, bytesOf, dF hm, eget_same, eget_ne]
        rw [if_neg hm, firstF_r hfz] at hft
        have hM2 := hMX
        have hy2 := hyX
        have hb2 := hbX
        have hq2 := hqX
        have he2 := heX
        have ho2 := hoX
      all_goals
        refine dB (d := ⟨dn, vs, cs, dp⟩) (c := ⟨cn, ch, ⟨ak, an, ap, aks⟩, cp⟩) hcall ?_ ?_ ?_ ?_ hM2 hb2 hy2 hq2 ho2 (by rw [hRl]; omega) (by rw [hSlen]; omega) hsep hbl hql hbq ?_
        · simp only [go_sem, reduceIte, ↓reduceIte, sevalprocAttr, Z0, Z1, bytesOf, eget_same, eget_ne, q0]
        · simp only [go_sem, reduceIte, ↓reduceIte, sevalprocAttr, Z0, Z1, bytesOf, eget_same, eget_ne, q3]
        · simp only [go_sem, reduceIte, ↓reduceIte, sevalprocAttr, Z0, Z1, bytesOf, eget_same, eget_ne, q5]
        · simp only [go_sem, reduceIte, ↓reduceIte, sevalprocAttr, Z0, Z1, bytesOf, eget_same, eget_ne]
        intro L' H' iv' a' hL hM' hk' hq' ho' hs'
        simp only [go_sem, reduceIte, ↓reduceIte, sevalprocAttr, Z0, Z1, bytesOf, eget_same, eget_ne, eget_keep, hL, q0, q3, q4, q5, q37, q38, q39, ex]
        refine ⟨(x + 1, a', iv', H'), ⟨rfl, rfl, by simp only; omega, ?_, hk' _ _ hb2 (Ne.symm hjb) hbq, hq', hk' _ _ he2 (Ne.symm hje) heq, ?_, hs'⟩, by simp only; omega⟩
        · simp only
          rw [hnm, ← List.append_assoc, hS, hft]
          exact hM'
        · simp only
          rw [hrw]
          exact ho'
    · have : x = cs.length := by omega
      subst this
      have d1 : decide ((cs.length : Int) < (cs.length : Int)) = false := by simp
      rw [List.take_length] at hMG hown
      simp only [go_sem, reduceIte, ↓reduceIte, sevalprocAttr, Z0, Z1, bytesOf, q38, q39, d1, eget_same, eget_ne, q5, gq, q4, ge]
      rw [set_get ge]
      simp only [go_sem, reduceIte, ↓reduceIte, sevalprocAttr, Z0, Z1, bytesOf]
      refine k _ _ _ (hMG.setV hel ge _) ?_ hsep
      rw [List.length_set]
      exact own_setVar hown ge

theorem lent_rawC (H : List AO) (vs : List (List UInt8)) (c : CtorD) : ∀ (i : Nat) x q, ((rawC vs c).map AV.p)[i]? = some x → ((c.info vs).cells)[i]? = some q → Lent H x (.p q) := by
  obtain ⟨cn, ch, t, cp⟩ := c
  intro i x q hx hq
  cases ch
  · simp only [rawC, CtorD.info, InfoC.cells, tyZ, TyD.cells, TyD.cellsL, Bool.false_eq_true, if_false, List.cons_append, List.nil_append, List.map_cons, List.map_nil] at hx hq
    match i, hx, hq with
    | 0, hx, hq => cases hx; cases hq; exact .pure _
    | 1, hx, hq => cases hx; cases hq; exact .pure _
    | 2, hx, hq => cases hx; cases hq; exact .pure _
    | 3, hx, hq => cases hx; cases hq; exact .pure _
    | 4, hx, hq => cases hx; cases hq; exact .pure _
    | 5, hx, hq => cases hx; cases hq; exact .nl
    | i + 6, hx, hq => simp at hx
  · have e : rawC vs ⟨cn, true, t, cp⟩ = (CtorD.info vs ⟨cn, true, t, cp⟩).cells := by
      simp [rawC, CtorD.info, InfoC.cells]
    rw [e, List.getElem?_map, hq] at hx
    cases hx
    exact .pure _
theorem lent_st3 {H : List AO} {a b : AV} (h : Lent H a b) (c1 c2 : PV) : Lent H (.st [.p c1, .p c2, a]) (.st [.p c1, .p c2, b]) := by
  refine .st _ _ rfl fun j x y hx hy => ?_
  match j with
  | 0 => cases hx; cases hy; exact .pure _
  | 1 => cases hx; cases hy; exact .pure _
  | 2 => cases hx; cases hy; exact h
  | j + 3 => simp at hx
theorem tfO_rows2 (sz ver : Nat) {α : Type} (l : List α) (F : α → List PV) : TfO (.rows sz ver (l.map fun y => (F y).map .p)) := by
  intro r hr c hc
  obtain ⟨y, _, rfl⟩ := List.mem_map.1 hr
  obtain ⟨q, _, rfl⟩ := List.mem_map.1 hc
  exact tf_p _
theorem dataC {d : DataD} (hb : d.sz ≤ 1048576) {g : ProgD} {a : AV} {f : Ft} {H : List AO} {j : Nat} {seen : List (List UInt8)} (hj : H[j]? = some (tmO g a f)) (ho : OwnR H a 1 (nmR seen)) (hz : Fz f) (hs : seen.length ≤ 2097152) :
    ACall Tryz.prog 36 [.ptr j 0, av d.cells] H (fun r H' => r = av d.info.cells ∧ ∃ a', MkS g H H' j a a' (seen ++ d.ctors.map CtorD.name) (firstF f (dataF g.types seen d))) := by
  have hsz := hb
  obtain ⟨dn, vs, cs, dp⟩ := d
  rw [DataD.sz, namesSz_eq, ctorsSz_eq] at hsz
  simp only at hsz
  have hcl := sumSz_len CtorD.sz cs
  have hvl := sumSz_len List.length vs
  have hc : ∀ c ∈ cs, c.has = true → TyC ⟨dn, vs, cs, dp⟩ c.arg := fun c hc _ => tyC _ _ c.arg (Nat.lt_succ_self _) (by have := sumSz_mem CtorD.sz hc; rw [CtorD.sz] at this; omega)
  refine acall_kill (Q := fun r H' => ∃ iv' a', MkS g H H' j a a' (seen ++ cs.map CtorD.name) (firstF f (dataF g.types seen ⟨dn, vs, cs, dp⟩)) ∧ OwnAt H' iv' 6 (cs.map fun c => (rawC vs c).map .p) H.length H'.length ∧ Sep a' iv' ∧ r = .st [.p (.s dn), .p (.i .i64 vs.length), iv']) ?_ ?_
  · refine call36 (by simp) ?_
    have hM := (MkS.refl hj ho hz).ext [AO.var [.p (.s dn), .p (.l (namesC vs)), .p (.l (cs.map CtorD.cells)), .p (.i .i64 dp)], AO.var [.p (.s []), .p (.i .i64 0), .p .nl], AO.var [.p (.s dn), .p (.i .i64 vs.length), .p .nl]]
    simp only [go_sem, reduceIte, ↓reduceIte, sevalprocAttr, Z0, Z1, bytesOf, mc36, DataD.cells, namesC_len]
    intro hl
    have hjl := get_lt hj
    have eb : (H ++ [AO.var [.p (.s dn), .p (.l (namesC vs)), .p (.l (cs.map CtorD.cells)), .p (.i .i64 dp)], AO.var [.p (.s []), .p (.i .i64 0), .p .nl], AO.var [.p (.s dn), .p (.i .i64 vs.length), .p .nl]])[H.length]? = some (AO.var [.p (.s dn), .p (.l (namesC vs)), .p (.l (cs.map CtorD.cells)), .p (.i .i64 dp)]) := by rw [get_off0]; rfl
    have ee : (H ++ [AO.var [.p (.s dn), .p (.l (namesC vs)), .p (.l (cs.map CtorD.cells)), .p (.i .i64 dp)], AO.var [.p (.s []), .p (.i .i64 0), .p .nl], AO.var [.p (.s dn), .p (.i .i64 vs.length), .p .nl]])[H.length + 1]? = some (AO.var [.p (.s []), .p (.i .i64 0), .p .nl]) := by rw [get_off]; rfl
    have eq : (H ++ [AO.var [.p (.s dn), .p (.l (namesC vs)), .p (.l (cs.map CtorD.cells)), .p (.i .i64 dp)], AO.var [.p (.s []), .p (.i .i64 0), .p .nl], AO.var [.p (.s dn), .p (.i .i64 vs.length), .p .nl]])[H.length + 2]? = some (AO.var [.p (.s dn), .p (.i .i64 vs.length), .p .nl]) := by rw [get_off]; rfl
    generalize H ++ [AO.var [.p (.s dn), .p (.l (namesC vs)), .p (.l (cs.map CtorD.cells)), .p (.i .i64 dp)], AO.var [.p (.s []), .p (.i .i64 0), .p .nl], AO.var [.p (.s dn), .p (.i .i64 vs.length), .p .nl]] = H1 at hM eb ee eq ⊢
    intro _
    refine ⟨Nat × List AO, [0, 3, 4, 5, 18, 19, 20], fun x st => (x.1 ≤ vs.length ∧ MkS g H x.2 j a a seen (firstF f (varsF dp [] (vs.take x.1))) ∧ x.2[H.length]? = some (AO.var [.p (.s dn), .p (.l (namesC vs)), .p (.l (cs.map CtorD.cells)), .p (.i .i64 dp)]) ∧ x.2[H.length + 1]? = some (AO.var [.p (.s []), .p (.i .i64 0), .p .nl]) ∧ x.2[H.length + 2]? = some (AO.var [.p (.s dn), .p (.i .i64 vs.length), .p .nl])) ∧
      st = ⟨[(0, .ptr j 0), (3, .ptr H.length 0), (4, .ptr (H.length + 1) 0), (5, .ptr (H.length + 2) 0), (18, .p (.l (namesC vs))), (19, .p (.i .i64 vs.length)), (20, .p (.i .i64 x.1))], [], x.2⟩, fun x => vs.length - x.1, ⟨(0, H1), ⟨Nat.zero_le _, by simp only [List.take_zero, varsF, firstF_r hz]; exact hM, eb, ee, eq⟩, rfl⟩, ?_⟩
    rintro ⟨x, HG⟩ _ ⟨⟨hx, hMG, gb, ge, gq⟩, rfl⟩
    simp only at hx hMG gb ge gq
    by_cases hlt : x < vs.length
    · have d1 : decide ((x : Int) < (vs.length : Int)) = true := by simp; omega
      have hlt' : ((x : Int) < (vs.length : Int)) := by omega
      have hle' : ((x : Int) ≤ (vs.length : Int)) := by omega
      have ex := wrN x (by omega)
      have hg := namesC_get vs hlt
      have hvf := varsF_step (p := dp) (ah := []) hlt
      rw [List.nil_append] at hvf
      generalize vs[x] = v at hg hvf
      have h1 : ∀ r ∈ namesC vs, r.length = 1 := by intro r hr; obtain ⟨s, _, rfl⟩ := List.mem_map.1 hr; rfl
      have htk : (namesC vs).take x = namesC (vs.take x) := by simp [namesC]
      simp only [go_sem, reduceIte, ↓reduceIte, sevalprocAttr, Z0, Z1, bytesOf, d1, hlt', hle', hg, gb, namesC_len, Nat.sub_zero, htk]
      refine ⟨h1, ?_⟩
      refine acall_pure (containsC (vs.take x) v _) ?_
      by_cases hm : v ∈ vs.take x
      · rw [if_pos hm] at hvf
        simp only [go_sem, reduceIte, ↓reduceIte, sevalprocAttr, Z0, Z1, bytesOf, dT hm, gb]
        refine acall_pure (failT hMG.mkr 22 dp) ?_
        have hM2 := hMG.fail (f' := firstF (firstF f (varsF dp [] (vs.take x))) (22, dp)) (firstF_zz hMG.z (by simp))
        simp only [go_sem, reduceIte, ↓reduceIte, sevalprocAttr, Z0, Z1, bytesOf, ex]
        refine ⟨(x + 1, _), ⟨⟨by simp only; omega, ?_, get_set gb (by omega), get_set ge (by omega), get_set gq (by omega)⟩, rfl⟩, by simp only; omega⟩
        simp only
        rw [hvf, ← firstF_assoc]
        exact hM2
      · rw [if_neg hm, firstF_r (varsF_z _ _ _)] at hvf
        simp only [go_sem, reduceIte, ↓reduceIte, sevalprocAttr, Z0, Z1, bytesOf, dF hm, ex]
        refine ⟨(x + 1, HG), ⟨⟨by simp only; omega, ?_, gb, ge, gq⟩, rfl⟩, by simp only; omega⟩
        simp only
        rw [hvf]
        exact hMG
    · have : x = vs.length := by omega
      subst this
      have d1 : decide ((vs.length : Int) < (vs.length : Int)) = false := by simp
      rw [List.take_length] at hMG
      simp only [go_sem, reduceIte, ↓reduceIte, sevalprocAttr, Z0, Z1, bytesOf, d1]
      refine dA (d := ⟨dn, vs, cs, dp⟩) hc (by simp only; omega) rfl rfl rfl rfl hMG gb gq ge (by simp only; omega) (Nat.le_refl _) (by omega) (by omega) (by omega) (by omega) ?_
      intro H' iv' a' h1 h2 h3
      refine ⟨iv', a', ?_, h2, h3, rfl⟩
      rw [dataF, ← firstF_assoc]
      exact h1
  · rintro r H' ⟨iv', a', hM, hown, hsep, rfl⟩
    rcases hown with ⟨rfl, hk⟩ | ⟨id, ver, h0, h1, rfl, h2⟩
    · have : cs = [] := by simpa using hk
      subst this
      exact .inl ⟨_, lent_st3 .nl _ _, rfl, a', hM⟩
    · have ei : (DataD.info ⟨dn, vs, cs, dp⟩).cells = [.s dn, .i .i64 vs.length, .l ((cs.map (CtorD.info vs)).map InfoC.cells)] := rfl
      rw [ei]
      refine .inr ⟨id, _, av [.s dn, .i .i64 vs.length, .l ((cs.map (CtorD.info vs)).map InfoC.cells)], h2, tfO_rows2 _ _ _ _, lent_st3 ?_ _ _, rfl, a', ?_⟩
      · refine .gs _ _ _ _ 6 (cs.map fun c => (rawC vs c).map .p) _ (by rw [List.getElem?_append_right (by simp)]; simp) (by simp) (by simp) ?_ ?_
        · intro y hy
          obtain ⟨c, hc, rfl⟩ := List.mem_map.1 hy
          exact InfoC.cells_len c
        · intro i r y q c p hr hy hq hp
          simp only [Nat.zero_add, List.getElem?_map] at hr hy
          cases hci : cs[i]? with
          | none => rw [hci] at hr; cases hr
          | some ci =>
            rw [hci] at hr hy
            cases hr
            simp only [Option.map_some, Option.some.injEq] at hy
            subst hy
            exact lent_rawC _ vs ci q c p hq hp
      · refine hM.step (fun i => i ≠ id) (fun i o hi hne => get_set hi (Ne.symm hne)) (fun i hi => by omega) (fun i v q n e he => ?_) (by simp)
        subst he
        exact hsep _ _ _ _ _ _ _ e rfl
end Go.Proofs.YtnelfbcgplooiaaGreat.Pg

/- The program's table. -/
set_option linter.all false
namespace Go.Proofs.YtnelfbcgplooiaaGreat.Pg
open Go.AM Mc

def tableR (g : ProgD) : List InfoD × Ft := if g.ok then (if (tableF g.types).1 = 0 then (tableV g.types, (0, 0)) else ([], tableF g.types)) else ([], (20, 0))
def tabAV (x : List InfoD × Ft) : AV := .tup [.p (.l (x.1.map InfoD.cells)), av (Ft.cells x.2)]
theorem tf_tup (cs : List AV) (h : ∀ c ∈ cs, Tf c) : Tf (.tup cs) := fun θ θ' W v hv => by
  cases hv with
  | tup _ us hs hc => exact .tup _ us hs fun j c v hj hu => h c (List.mem_of_getElem? hj) _ _ _ _ (hc j c v hj hu)
theorem tf_tab (x) : Tf (tabAV x) := tf_tup _ (by intro c hc; simp at hc; rcases hc with rfl | rfl; exact tf_p _; exact tf_av _)
theorem typesF_step : ∀ {ah l : List DataD} {x : Nat} (h : x < l.length), typesF ah (l.take (x + 1)) = firstF (typesF ah (l.take x)) (if ((ah ++ l.take x).any fun y => decide (y.name = l[x].name)) = true ∨ l[x].name ∈ fourL then (21, l[x].pos) else (0, 0))
  | ah, [], x, h => by simp at h
  | ah, c :: l, 0, h => by simp [typesF, firstF_z]
  | ah, c :: l, x + 1, h => by
    simp only [List.take_succ_cons, typesF, List.getElem_cons_succ]
    split
    · rw [firstF_ne (by simp)]
    · rw [typesF_step (ah := ah ++ [c]) (l := l) (by simpa using h)]
      simp only [List.append_assoc, List.singleton_append]
      rfl
theorem typesF_z : ∀ (ah l : List DataD), Fz (typesF ah l)
  | ah, [] => fun _ => rfl
  | ah, c :: l => by
    rw [typesF]
    split
    · intro h; simp at h
    · exact typesF_z _ l
theorem datasF_step {types : List DataD} : ∀ {seen : List (List UInt8)} {l : List DataD} {x : Nat} (h : x < l.length), datasF types seen (l.take (x + 1)) = firstF (datasF types seen (l.take x)) (dataF types (seen ++ (l.take x).flatMap fun d => d.ctors.map CtorD.name) l[x])
  | seen, [], x, h => by simp at h
  | seen, c :: l, 0, h => by
    simp only [List.take_succ_cons, List.take_zero, datasF, List.getElem_cons_zero, firstF_z, List.flatMap_nil, List.append_nil]
    refine firstF_r ?_
    rw [dataF]
    exact firstF_zz (varsF_z _ _ _) (ctorsF_z _ _ _ _)
  | seen, c :: l, x + 1, h => by
    simp only [List.take_succ_cons, datasF, List.getElem_cons_succ]
    rw [datasF_step (seen := seen ++ c.ctors.map CtorD.name) (l := l) (by simpa using h), firstF_assoc]
    simp only [List.flatMap_cons, List.append_assoc]
theorem manyF_z : ∀ (i : Nat) (l : List DataD), Fz (manyF i l)
  | i, [] => fun _ => rfl
  | i, c :: l => by
    rw [manyF]
    split
    · intro h; simp at h
    · split
      · intro h; simp at h
      · exact manyF_z _ l
theorem datasF_z (types : List DataD) : ∀ (seen : List (List UInt8)) (l : List DataD), Fz (datasF types seen l)
  | seen, [] => fun _ => rfl
  | seen, c :: l => by
    rw [datasF]
    refine firstF_zz ?_ (datasF_z types _ l)
    rw [dataF]
    exact firstF_zz (varsF_z _ _ _) (ctorsF_z _ _ _ _)
theorem tableF_z (types : List DataD) : Fz (tableF types) := by
  rw [tableF]
  exact firstF_zz (manyF_z _ _) (firstF_zz (typesF_z _ _) (datasF_z _ _ _))
theorem namesLen {l : List DataD} : (l.flatMap fun d => d.ctors.map CtorD.name).length ≤ sumSz DataD.sz l := by
  induction l with
  | nil => simp [sumSz]
  | cons d l ih =>
    have := sumSz_len CtorD.sz d.ctors
    rw [List.flatMap_cons, List.length_append, List.length_map, sumSz, DataD.sz, ctorsSz_eq]
    omega
theorem sumSz_take {α : Type} (f : α → Nat) (l : List α) (x : Nat) : sumSz f (l.take x) ≤ sumSz f l := by
  induction l generalizing x with
  | nil => simp
  | cons a l ih =>
    cases x with
    | zero => simp [sumSz]
    | succ x => simp only [List.take_succ_cons, sumSz]; have := ih x; omega
theorem InfoD.cells_len (d : InfoD) : d.cells.length = 3 := rfl
def tabQ (H : List AO) (x : List InfoD × Ft) (r : AV) (H' : List AO) : Prop := ∃ ov, r = .tup [ov, av (Ft.cells x.2)] ∧ OwnAt H' ov 3 (x.1.map fun d => d.cells.map .p) H.length H'.length ∧ ∃ G, H' = H ++ G
theorem tab_pure {f : Nat} {args : List AV} {H : List AO} {x : List InfoD × Ft} (h : ACall Tryz.prog f args H (tabQ H x)) : ACall Tryz.prog f args H (pureQ (tabAV x) H) := by
  refine acall_drop1 (acall_kill h ?_) (tf_tab x)
  rintro r H' ⟨ov, rfl, ho, G, rfl⟩
  have lt : ∀ {H : List AO} {a : AV} {q : PV} (h : Lent H a (.p q)), Lent H (.tup [a, av (Ft.cells x.2)]) (.tup [.p q, av (Ft.cells x.2)]) := by
    intro H a q h
    refine .tup _ _ rfl fun j y z hy hz => ?_
    match j with
    | 0 => cases hy; cases hz; exact h
    | 1 =>
      cases hy; cases hz
      refine .st _ _ rfl fun j y z hy hz => ?_
      match j with
      | 0 => cases hy; cases hz; exact .pure _
      | 1 => cases hy; cases hz; exact .pure _
      | j + 2 => simp [Ft.cells] at hy
    | j + 2 => simp at hy
  rcases ho with ⟨rfl, hk⟩ | ⟨id, ver, h0, h1, rfl, h2⟩
  · have : x.1 = [] := by simpa using hk
    refine .inl ⟨_, lt .nl, ?_, _, rfl⟩
    rw [tabAV, this]; rfl
  · refine .inr ⟨id, _, tabAV x, h2, tfO_rows2 _ _ _ _, lt ?_, rfl, ?_⟩
    · rw [List.length_map, show (x.1.map fun d => d.cells.map AV.p) = (x.1.map InfoD.cells).map (fun y => y.map AV.p) by rw [List.map_map]; rfl]
      have := lent_one (id := id) (ver := ver) (sz := 3) (l := x.1.map InfoD.cells) (by intro y hy; obtain ⟨d, _, rfl⟩ := List.mem_map.1 hy; rfl)
      rwa [List.length_map] at this
    · exact ⟨_, List.set_append_right _ _ h0⟩
theorem dataL4 (l : List DataD) : ∀ r ∈ l.map DataD.cells, r.length = 4 := by intro r hr; obtain ⟨s, _, rfl⟩ := List.mem_map.1 hr; rfl
theorem tableC (g : ProgD) (hb : g.sz ≤ 1048576) (H : List AO) : ACall Tryz.prog 12 [av g.cells] H (pureQ (tabAV (tableR g)) H) := by
  refine tab_pure ?_
  rw [ProgD.sz, datasSz_eq] at hb
  have htl := sumSz_len DataD.sz g.types
  have hgc : ∃ b0 b1 b2 b3 b4 b5 b6, g.body.cells = [b0, b1, b2, b3, b4, b5, b6] := by
    obtain ⟨ts, ⟨k, n, u, t, p, ks, as'⟩⟩ := g
    exact ⟨_, _, _, _, _, _, _, rfl⟩
  obtain ⟨b0, b1, b2, b3, b4, b5, b6, hgc⟩ := hgc
  have hgg : g.cells = [.l (g.types.map DataD.cells), b0, b1, b2, b3, b4, b5, b6] := by rw [ProgD.cells, hgc]
  have hok := progOkC g
  have hmany := tooManyC g
  rw [hgg] at hok hmany
  rw [hgg]
  refine call12 (by simp) ?_
  simp only [go_sem, reduceIte, ↓reduceIte, sevalprocAttr, Z0, Z1, bytesOf, mc12, mr12]
  refine acall_pure (hok _) ?_
  cases h1 : g.ok
  · have e : tableR g = ([], (20, 0)) := by rw [tableR, h1]; rfl
    simp only [go_sem, reduceIte, ↓reduceIte, sevalprocAttr, Z0, Z1, bytesOf, h1, tabQ, e]
    exact ⟨.p .nl, rfl, .inl ⟨rfl, rfl⟩, _, rfl⟩
  have e : tableR g = (if (tableF g.types).1 = 0 then (tableV g.types, (0, 0)) else ([], tableF g.types)) := by rw [tableR, h1]; rfl
  simp only [go_sem, reduceIte, ↓reduceIte, sevalprocAttr, Z0, Z1, bytesOf, h1]
  refine drw_same ?_
  simp only [go_sem, reduceIte, ↓reduceIte, sevalprocAttr, Z0, Z1, bytesOf]
  refine pcall_pure (fun A => hmany _) (Hext.refl _) ?_
  simp only [go_sem, reduceIte, ↓reduceIte, sevalprocAttr, Z0, Z1, bytesOf, Ft.cells, zl8_0]
  intro hl
  rw [maxLe, List.length_map] at hl
  have hp0 : ∀ A, (H ++ (AO.var [.p (.l (g.types.map DataD.cells)), .p b0, .p b1, .p b2, .p b3, .p b4, .p b5, .p b6] :: A))[H.length]? = some (AO.var [.p (.l (g.types.map DataD.cells)), .p b0, .p b1, .p b2, .p b3, .p b4, .p b5, .p b6]) := fun A => by rw [get_off0]; rfl
  have hp1 : ∀ B A, (H ++ (B :: AO.var [.p (.i .i64 0), .p (.i .i64 0)] :: A))[H.length + 1]? = some (AO.var [.p (.i .i64 0), .p (.i .i64 0)]) := fun B A => by rw [get_off]; rfl
  have hp2 : ∀ B C A, (H ++ (B :: C :: tmO g (.p .nl) (manyF 0 g.types) :: A))[H.length + 2]? = some (tmO g (.p .nl) (manyF 0 g.types)) := fun B C A => by rw [get_off]; rfl
  have htm : tmO g (.p .nl) (manyF 0 g.types) = AO.var [.p (.l (g.types.map DataD.cells)), .p b0, .p b1, .p b2, .p b3, .p b4, .p b5, .p b6, .p .nl, .p (.i .i64 (manyF 0 g.types).1), .p (.i .i64 (manyF 0 g.types).2)] := by rw [tmO, hgg]; rfl
  rw [← htm, List.length_map]
  refine ⟨Nat × List AO, [1, 3, 4, 21, 22, 23], fun x st => (x.1 ≤ g.types.length ∧ x.2[H.length]? = some (AO.var [.p (.l (g.types.map DataD.cells)), .p b0, .p b1, .p b2, .p b3, .p b4, .p b5, .p b6]) ∧ x.2[H.length + 1]? = some (AO.var [.p (.i .i64 0), .p (.i .i64 0)]) ∧
      x.2[H.length + 2]? = some (tmO g (.p .nl) (firstF (manyF 0 g.types) (typesF [] (g.types.take x.1)))) ∧ ∃ G, x.2 = H ++ G) ∧ st = ⟨[(1, .ptr H.length 0), (3, .ptr (H.length + 1) 0), (4, .ptr (H.length + 2) 0), (21, .p (.l (g.types.map DataD.cells))), (22, .p (.i .i64 g.types.length)), (23, .p (.i .i64 x.1))], [], x.2⟩, fun x => g.types.length - x.1, ⟨(0, _), ⟨Nat.zero_le _, hp0 _, hp1 _ _, ?_, _, rfl⟩, rfl⟩, ?_⟩
  · simp only [List.take_zero, typesF, firstF_r (manyF_z _ _)]
    exact hp2 _ _ _
  rintro ⟨x, HG⟩ _ ⟨⟨hx, g0, g1, g2, G, hG⟩, rfl⟩
  simp only at hx g0 g1 g2 hG
  have hGl : HG.length = H.length + G.length := by rw [hG, List.length_append]
  have hG2 := get_lt g2
  by_cases hlt : x < g.types.length
  · have d1 : decide ((x : Int) < (g.types.length : Int)) = true := by simp; omega
    have hlt' : ((x : Int) < (g.types.length : Int)) := by omega
    have hle' : ((x : Int) ≤ (g.types.length : Int)) := by omega
    have ex := wrN x (by omega)
    have hg : (g.types.map DataD.cells)[x]? = some (DataD.cells g.types[x]) := by simp [hlt]
    have hvf := typesF_step (ah := []) hlt
    rw [List.nil_append] at hvf
    have hfn := fun (HX : List AO) (i : Nat) (hi : HX[i]? = some (.var (g.types[x].cells.map .p))) => containsF_Data (H := HX) (l := g.types.take x) (g := fun y => decide (y.name = g.types[x].name)) (f := 32) (caps := [.ptr i 0]) fun y _ => tblFn1 hi y
    generalize g.types[x] = d at hg hvf hfn
    obtain ⟨dn, vs, cs, dp⟩ := d
    simp only at hvf hfn
    have htk : (g.types.map DataD.cells).take x = (g.types.take x).map DataD.cells := by rw [List.map_take]
    simp only [go_sem, reduceIte, ↓reduceIte, sevalprocAttr, Z0, Z1, bytesOf, d1, hlt', hle', hg, g0, DataD.cells, List.length_map, htk, Nat.sub_zero]
    have n0 := get_ext g0 [AO.var [.p (.s dn), .p (.l (namesC vs)), .p (.l (cs.map CtorD.cells)), .p (.i .i64 dp)]]
    have n1 := get_ext g1 [AO.var [.p (.s dn), .p (.l (namesC vs)), .p (.l (cs.map CtorD.cells)), .p (.i .i64 dp)]]
    have n2 := get_ext g2 [AO.var [.p (.s dn), .p (.l (namesC vs)), .p (.l (cs.map CtorD.cells)), .p (.i .i64 dp)]]
    have n3 : (HG ++ [AO.var [.p (.s dn), .p (.l (namesC vs)), .p (.l (cs.map CtorD.cells)), .p (.i .i64 dp)]])[HG.length]? = some (AO.var [.p (.s dn), .p (.l (namesC vs)), .p (.l (cs.map CtorD.cells)), .p (.i .i64 dp)]) := by rw [get_off0]; rfl
    have n4 : ∃ G, HG ++ [AO.var [.p (.s dn), .p (.l (namesC vs)), .p (.l (cs.map CtorD.cells)), .p (.i .i64 dp)]] = H ++ G := app_far ⟨_, hG⟩ _
    have hjl : HG.length ≠ H.length + 2 := by omega
    generalize HG.length = j at n3 hjl ⊢
    generalize HG ++ [AO.var [.p (.s dn), .p (.l (namesC vs)), .p (.l (cs.map CtorD.cells)), .p (.i .i64 dp)]] = H1 at n0 n1 n2 n3 n4 ⊢
    simp only [go_sem, reduceIte, ↓reduceIte, sevalprocAttr, Z0, Z1, bytesOf, n0, List.length_map, hlt', hle', htk, Nat.sub_zero]
    refine ⟨dataL4 _, ?_⟩
    refine acall_pure (hfn H1 j n3) ?_
    have done : ∀ (F2 : Ft) (H2 : List AO), F2 = firstF (firstF (manyF 0 g.types) (typesF [] (g.types.take x))) (if ((g.types.take x).any fun y => decide (y.name = dn)) = true ∨ dn ∈ fourL then (21, dp) else (0, 0)) → H2[H.length]? = some (AO.var [.p (.l (g.types.map DataD.cells)), .p b0, .p b1, .p b2, .p b3, .p b4, .p b5, .p b6]) → H2[H.length + 1]? = some (AO.var [.p (.i .i64 0), .p (.i .i64 0)]) → H2[H.length + 2]? = some (tmO g (.p .nl) F2) → (∃ G, H2 = H ++ G) →
        ∃ y : Nat × List AO, ((y.1 ≤ g.types.length ∧ y.2[H.length]? = some (AO.var [.p (.l (g.types.map DataD.cells)), .p b0, .p b1, .p b2, .p b3, .p b4, .p b5, .p b6]) ∧ y.2[H.length + 1]? = some (AO.var [.p (.i .i64 0), .p (.i .i64 0)]) ∧
      y.2[H.length + 2]? = some (tmO g (.p .nl) (firstF (manyF 0 g.types) (typesF [] (g.types.take y.1)))) ∧ ∃ G, y.2 = H ++ G) ∧ (⟨[(1, .ptr H.length 0), (3, .ptr (H.length + 1) 0), (4, .ptr (H.length + 2) 0), (21, .p (.l (g.types.map DataD.cells))), (22, .p (.i .i64 g.types.length)), (23, .p (.i .i64 ((x + 1 : Nat) : Int)))], [], H2⟩ : St) = ⟨[(1, .ptr H.length 0), (3, .ptr (H.length + 1) 0), (4, .ptr (H.length + 2) 0), (21, .p (.l (g.types.map DataD.cells))), (22, .p (.i .i64 g.types.length)), (23, .p (.i .i64 y.1))], [], y.2⟩) ∧ g.types.length - y.1 < g.types.length - x := by
      rintro F2 H2 rfl e0 e1 e2 e3
      refine ⟨(x + 1, H2), ⟨⟨by simp only; omega, e0, e1, ?_, e3⟩, rfl⟩, by simp only; omega⟩
      simp only
      rw [hvf, ← firstF_assoc]
      exact e2
    have fz : Fz (firstF (manyF 0 g.types) (typesF [] (g.types.take x))) := firstF_zz (manyF_z _ _) (typesF_z _ _)
    cases hany : (g.types.take x).any fun y => decide (y.name = dn)
    · by_cases hm : dn ∈ fourL
      · simp only [go_sem, reduceIte, ↓reduceIte, sevalprocAttr, Z0, Z1, bytesOf, hany]
        refine drw_same ?_
        simp only [go_sem, reduceIte, ↓reduceIte, sevalprocAttr, Z0, Z1, bytesOf]
        refine pcall_pure (fun A => fourC _) (Hext.refl _) ?_
        simp only [go_sem, reduceIte, ↓reduceIte, sevalprocAttr, Z0, Z1, bytesOf, n3]
        refine acall_pure (containsC fourL dn _) ?_
        simp only [go_sem, reduceIte, ↓reduceIte, sevalprocAttr, Z0, Z1, bytesOf, dT hm, n3]
        refine acall_pure (failT n2 21 dp) ?_
        simp only [go_sem, reduceIte, ↓reduceIte, sevalprocAttr, Z0, Z1, bytesOf, ex]
        exact done _ _ (by rw [hany, if_pos (.inr hm)]) (get_set n0 (by omega)) (get_set n1 (by omega)) (set_get n2) (set_far n4 (by omega) _)
      · simp only [go_sem, reduceIte, ↓reduceIte, sevalprocAttr, Z0, Z1, bytesOf, hany]
        refine drw_same ?_
        simp only [go_sem, reduceIte, ↓reduceIte, sevalprocAttr, Z0, Z1, bytesOf]
        refine pcall_pure (fun A => fourC _) (Hext.refl _) ?_
        simp only [go_sem, reduceIte, ↓reduceIte, sevalprocAttr, Z0, Z1, bytesOf, n3]
        refine acall_pure (containsC fourL dn _) ?_
        simp only [go_sem, reduceIte, ↓reduceIte, sevalprocAttr, Z0, Z1, bytesOf, dF hm, ex]
        exact done _ _ (by rw [hany, if_neg (by simp [hm]), firstF_r fz]) n0 n1 n2 n4
    · simp only [go_sem, reduceIte, ↓reduceIte, sevalprocAttr, Z0, Z1, bytesOf, hany]
      refine drw_same ?_
      simp only [go_sem, reduceIte, ↓reduceIte, sevalprocAttr, Z0, Z1, bytesOf, n3]
      refine acall_pure (failT n2 21 dp) ?_
      simp only [go_sem, reduceIte, ↓reduceIte, sevalprocAttr, Z0, Z1, bytesOf, ex]
      exact done _ _ (by rw [hany, if_pos (.inl rfl)]) (get_set n0 (by omega)) (get_set n1 (by omega)) (set_get n2) (set_far n4 (by omega) _)
  · have : x = g.types.length := by omega
    subst this
    have d1 : decide ((g.types.length : Int) < (g.types.length : Int)) = false := by simp
    rw [List.take_length] at g2
    simp only [go_sem, reduceIte, ↓reduceIte, sevalprocAttr, Z0, Z1, bytesOf, d1, g0]
    intro _
    rw [List.length_map]
    have hM0 : MkS g HG HG (H.length + 2) (.p .nl) (.p .nl) [] (firstF (manyF 0 g.types) (typesF [] g.types)) := MkS.refl g2 (.inl ⟨rfl, rfl⟩) (firstF_zz (manyF_z _ _) (typesF_z _ _))
    refine ⟨Nat × AV × AV × List AO, [1, 3, 4, 8, 47, 48, 49], fun x st => (x.1 ≤ g.types.length ∧ MkS g HG x.2.2.2 (H.length + 2) (.p .nl) x.2.1 ((g.types.take x.1).flatMap fun d => d.ctors.map CtorD.name) (firstF (firstF (manyF 0 g.types) (typesF [] g.types)) (datasF g.types [] (g.types.take x.1))) ∧
      OwnAt x.2.2.2 x.2.2.1 3 ((g.types.take x.1).map fun d => d.info.cells.map .p) HG.length x.2.2.2.length ∧ Sep x.2.1 x.2.2.1) ∧ st = ⟨[(1, .ptr H.length 0), (3, .ptr (H.length + 1) 0), (4, .ptr (H.length + 2) 0), (8, x.2.2.1), (47, .p (.l (g.types.map DataD.cells))), (48, .p (.i .i64 g.types.length)), (49, .p (.i .i64 x.1))], [], x.2.2.2⟩, fun x => g.types.length - x.1, ⟨(0, .p .nl, .p .nl, HG), ⟨Nat.zero_le _, ?_, .inl ⟨rfl, rfl⟩, fun _ _ _ _ _ _ _ _ => by rintro ⟨⟩⟩, rfl⟩, ?_⟩
    · simp only [List.take_zero, List.flatMap_nil, datasF]
      rw [firstF_r hM0.z]
      exact hM0
    rintro ⟨x, a, ov, HI⟩ _ ⟨⟨hx, hM, ho, hsep⟩, rfl⟩
    simp only at hx hM ho hsep
    have hf0 : ∀ (i : Nat) o, HG[i]? = some o → i ≠ H.length + 2 → HI[i]? = some o := fun i o hi hne => hM.keep i o hi hne (by rintro _ _ _ ⟨⟩)
    by_cases hlt : x < g.types.length
    · have d1 : decide ((x : Int) < (g.types.length : Int)) = true := by simp; omega
      have hlt' : ((x : Int) < (g.types.length : Int)) := by omega
      have ex := wrN x (by omega)
      have hg : (g.types.map DataD.cells)[x]? = some (DataD.cells g.types[x]) := by simp [hlt]
      have hvf := datasF_step (types := g.types) (seen := []) hlt
      rw [List.nil_append] at hvf
      have hnm : ((g.types.take (x + 1)).flatMap fun d => d.ctors.map CtorD.name) = ((g.types.take x).flatMap fun d => d.ctors.map CtorD.name) ++ g.types[x].ctors.map CtorD.name := by
        rw [List.take_succ, List.getElem?_eq_getElem hlt, List.flatMap_append]; simp
      have hrw : (g.types.take (x + 1)).map (fun d => d.info.cells.map AV.p) = (g.types.take x).map (fun d => d.info.cells.map AV.p) ++ [g.types[x].info.cells.map AV.p] := by
        rw [List.take_succ, List.getElem?_eq_getElem hlt, List.map_append]; rfl
      have hsl : ((g.types.take x).flatMap fun d => d.ctors.map CtorD.name).length ≤ 2097152 := by
        have := namesLen (l := g.types.take x)
        have := sumSz_take DataD.sz g.types x
        omega
      have hdz : g.types[x].sz ≤ 1048576 := by have := sumSz_mem DataD.sz (List.getElem_mem hlt); omega
      have hRl : ((g.types.take x).map fun d => d.info.cells.map AV.p).length = x := by rw [List.length_map, List.length_take]; omega
      have hcall := fun HX a' f' h1 h2 h3 => dataC hdz (g := g) (a := a') (f := f') (H := HX) (j := H.length + 2) (seen := (g.types.take x).flatMap fun d => d.ctors.map CtorD.name) h1 h2 h3 hsl
      generalize g.types[x] = d at hg hvf hnm hrw hcall
      generalize (g.types.take x).flatMap (fun d => d.ctors.map CtorD.name) = S at hM hvf hnm hcall
      obtain ⟨dn, vs, cs, dp⟩ := d
      simp only at hnm
      simp only [go_sem, reduceIte, ↓reduceIte, sevalprocAttr, Z0, Z1, bytesOf, d1, hlt', hg, DataD.cells, List.length_map]
      have hM1 := hM.ext [AO.var [.p (.s dn), .p (.l (namesC vs)), .p (.l (cs.map CtorD.cells)), .p (.i .i64 dp)]]
      have ho1 := own_up ho [AO.var [.p (.s dn), .p (.l (namesC vs)), .p (.l (cs.map CtorD.cells)), .p (.i .i64 dp)]]
      rw [← List.length_append] at ho1
      have hlo : HG.length ≤ (HI ++ [AO.var [.p (.s dn), .p (.l (namesC vs)), .p (.l (cs.map CtorD.cells)), .p (.i .i64 dp)]]).length := hM1.len
      generalize HI ++ [AO.var [.p (.s dn), .p (.l (namesC vs)), .p (.l (cs.map CtorD.cells)), .p (.i .i64 dp)]] = HK at hM1 ho1 hlo ⊢
      refine (hcall HK a _ hM1.mkr hM1.own hM1.z).mono ?_
      rintro r H' ⟨rfl, a', hMd⟩
      have hM2 := hM1.trans hMd
      have ho2 : OwnAt H' ov 3 ((g.types.take x).map fun d => d.info.cells.map .p) HG.length H'.length := ownAt_keep ho1 (fun id v q n e o hi => hMd.keep _ _ hi (by
        rintro rfl
        exact own_ne ho1 hM1.mkr _ _ _ e) (fun v' q' n' e' => hsep _ _ _ _ _ _ _ e' e)) hMd.len
      have hs2 : Sep a' ov := by
        intro id v q n v' q' n' e e'
        rcases hMd.id _ _ _ _ e with h | ⟨_, _, _, h⟩
        · have := own_ltAt ho1 _ _ _ _ e'; omega
        · exact hsep _ _ _ _ _ _ _ h e'
      have ei : (DataD.info ⟨dn, vs, cs, dp⟩).cells = [.s dn, .i .i64 vs.length, .l ((cs.map (CtorD.info vs)).map InfoC.cells)] := rfl
      rw [ei] at hrw ⊢
      simp only [go_sem, reduceIte, ↓reduceIte, sevalprocAttr, Z0, Z1, bytesOf]
      refine ⟨by intro r hr; simp at hr; subst hr; rfl, ?_⟩
      have ho3 := own_up ho2 [AO.rows 3 0 [[.p (.s dn), .p (.i .i64 vs.length), .p (.l ((cs.map (CtorD.info vs)).map InfoC.cells))]]]
      refine app_fr ho3.own (by rw [hRl]; simp; omega) (by rw [hRl]; simp; omega) ?_
      intro id ver H2 hid hside hkeep hlen
      simp only [go_sem, reduceIte, ↓reduceIte, sevalprocAttr, Z0, Z1, bytesOf, ex]
      have hln : H'.length ≤ H2.length := by rw [List.length_append] at hlen; omega
      have hidlo : HG.length ≤ id := by
        rcases hside with ⟨v, o, n', hkv⟩ | h
        · apply Classical.byContradiction
          intro hlt2
          exact own_lo ho3 (by omega) _ _ _ hkv
        · simp at h; have := hM2.len; omega
      have hM3 := hM2.step (H' := H2) (fun i => ∀ v o n, ov ≠ .gs i v o n) (fun i o hi hp => hkeep _ _ (get_ext hi _) hp) (fun i hi => own_lo ho3 hi) (fun id v q n e v' o' n' e' => hs2 _ _ _ _ _ _ _ e e') hln
      refine ⟨(x + 1, a', _, H2), ⟨⟨by simp only; omega, ?_, ?_, ?_⟩, rfl⟩, by simp only; omega⟩
      · simp only
        rw [hnm, hvf, ← firstF_assoc]
        exact hM3
      · simp only
        rw [hrw]
        exact .inr ⟨id, ver, hidlo, get_lt hid, by simp, hid⟩
      · rintro i v q n v' q' n' e e'
        cases e'
        rcases hside with ⟨v, o, n', hkv⟩ | h
        · exact hs2 _ _ _ _ _ _ _ e hkv
        · have := own_lt hM2.own _ _ _ _ e
          simp at h; omega
    · have : x = g.types.length := by omega
      subst this
      have d2 : decide ((g.types.length : Int) < (g.types.length : Int)) = false := by simp
      rw [List.take_length] at hM ho
      have hf : firstF (firstF (manyF 0 g.types) (typesF [] g.types)) (datasF g.types [] g.types) = tableF g.types := by rw [tableF, firstF_assoc]
      rw [hf] at hM
      have hv := hM.mkr
      rw [tmO, hgg] at hv
      simp only [List.map_cons, List.map_nil, List.cons_append, List.nil_append] at hv
      have z1 := hf0 _ _ g1 (by omega)
      have hfar : ∃ G, HI = H ++ G := pre_of fun i o hi => hf0 i o (by rw [hG]; exact get_ext hi _) (by have := get_lt hi; omega)
      simp only [go_sem, reduceIte, ↓reduceIte, sevalprocAttr, Z0, Z1, bytesOf, d2, hv]
      by_cases h0 : (tableF g.types).1 = 0
      · have h0' : tableF g.types = (0, 0) := tableF_z _ h0
        simp only [go_sem, reduceIte, ↓reduceIte, sevalprocAttr, Z0, Z1, bytesOf, dT h0, z1]
        rw [set_get z1, e, if_pos h0]
        simp only [go_sem, reduceIte, ↓reduceIte, sevalprocAttr, Z0, Z1, bytesOf]
        refine ⟨ov, rfl, ?_, set_far hfar (by omega) _⟩
        rcases own_setVar (o := AO.var [.p (.i .i64 0), .p (.i .i64 0)]) ho z1 with ⟨q1, q2⟩ | ⟨id, ver, q0, q1, q2, q3⟩
        · refine .inl ⟨q1, ?_⟩
          rw [List.map_eq_nil_iff] at q2 ⊢
          show tableV g.types = []
          rw [tableV, q2]; rfl
        · refine .inr ⟨id, ver, by omega, by simpa using q1, ?_, ?_⟩
          · rw [q2]; simp [tableV]
          · rw [q3, tableV, List.map_map]; rfl
      · simp only [go_sem, reduceIte, ↓reduceIte, sevalprocAttr, Z0, Z1, bytesOf, dF h0]
        refine drw_same ?_
        simp only [go_sem, reduceIte, ↓reduceIte, sevalprocAttr, Z0, Z1, bytesOf, hv, z1]
        rw [set_get z1, e, if_neg h0]
        simp only [go_sem, reduceIte, ↓reduceIte, sevalprocAttr, Z0, Z1, bytesOf]
        exact ⟨.p .nl, rfl, .inl ⟨rfl, rfl⟩, set_far hfar (by omega) _⟩
end Go.Proofs.YtnelfbcgplooiaaGreat.Pg
