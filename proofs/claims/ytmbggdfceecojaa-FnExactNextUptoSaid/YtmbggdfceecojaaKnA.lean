/- Texts NxA McJ McA HoA McB CdA CdB CdC CdD CdE CoA, merged. -/
import Derived.Test.YtmbggdfceecojaaAm31
import Derived.Lib.SlicesCompact
import Derived.Lib.RowBridge
import Derived.Test.YtmbggdfceecojaaChecked
import Derived.KernelRfl
/- Lists that go up: the plain law. -/
set_option linter.all false
namespace Go.Proofs.Ytmbggdfceecojaa.Cd
open Go.AM

/-- goes up -/
def Up (l : List Int) : Prop := l.Pairwise (· < ·)

theorem up_unique : ∀ (a b : List Int), Up a → Up b → (∀ y, y ∈ a ↔ y ∈ b) → a = b
  | [], [], _, _, _ => rfl
  | [], y :: b, _, _, h => by have := (h y).2 (List.mem_cons_self); simp at this
  | x :: a, [], _, _, h => by have := (h x).1 (List.mem_cons_self); simp at this
  | x :: a, y :: b, ha, hb, h => by
    have ha' := List.pairwise_cons.1 ha
    have hb' := List.pairwise_cons.1 hb
    have e : x = y := by
      have h1 := (h x).1 (List.mem_cons_self)
      have h2 := (h y).2 (List.mem_cons_self)
      rcases List.mem_cons.1 h1 with h1 | h1
      · exact h1
      rcases List.mem_cons.1 h2 with h2 | h2
      · exact h2.symm
      have := ha'.1 y h2
      have := hb'.1 x h1
      omega
    subst e
    congr 1
    refine up_unique a b ha'.2 hb'.2 fun y => ⟨fun hy => ?_, fun hy => ?_⟩
    · have := ha'.1 y hy
      rcases List.mem_cons.1 ((h y).1 (List.mem_cons_of_mem _ hy)) with e | e
      · omega
      · exact e
    · have := hb'.1 y hy
      rcases List.mem_cons.1 ((h y).2 (List.mem_cons_of_mem _ hy)) with e | e
      · omega
      · exact e

open Go.Lib in
theorem compact_up (zs : List Int) (hs : zs.Pairwise (· ≤ ·)) : Up (Lib.compact zs) ∧ ∀ y, y ∈ Lib.compact zs ↔ y ∈ zs := by
  have hle : ∀ i j, i ≤ j → j < zs.length → zs.toArray[i]! ≤ zs.toArray[j]! := by
    intro i j hij hj
    have h1 : zs.toArray[i]! = zs[i]'(by omega) := by simp [getElem!_pos, show i < zs.length by omega]
    have h2 : zs.toArray[j]! = zs[j] := by simp [getElem!_pos, hj]
    rw [h1, h2]
    by_cases e : i = j
    · subst e; exact Int.le_refl _
    · exact (List.pairwise_iff_getElem.1 hs) i j (by omega) hj (by omega)
  have key : ∀ m, m ≤ zs.length → Up (compactUpTo zs.toArray m) ∧ ∀ y, y ∈ compactUpTo zs.toArray m ↔ ∃ j, j < m ∧ zs.toArray[j]! = y := by
    intro m
    induction m with
    | zero => intro _; exact ⟨by simp [Up, compactUpTo], fun y => by simp [compactUpTo]⟩
    | succ m ih =>
      intro hm
      obtain ⟨i1, i2⟩ := ih (by omega)
      rw [compactUpTo_succ]
      by_cases hk : keeps zs.toArray m = true
      · rw [if_pos hk]
        refine ⟨?_, fun y => ?_⟩
        · unfold Up
          rw [List.pairwise_append]
          refine ⟨i1, by simp, fun a ha b hb => ?_⟩
          simp only [List.mem_singleton] at hb
          subst hb
          obtain ⟨j, hj, rfl⟩ := (i2 a).1 ha
          have h1 := hle j (m - 1) (by omega) (by omega)
          have h2 := hle (m - 1) m (by omega) (by omega)
          have hk' : m = 0 ∨ zs.toArray[m]! ≠ zs.toArray[m - 1]! := by simpa [keeps] using hk
          rcases hk' with h | h <;> omega
        · simp only [List.mem_append, List.mem_singleton, i2]
          constructor
          · rintro (⟨j, hj, e⟩ | e)
            · exact ⟨j, by omega, e⟩
            · exact ⟨m, by omega, e.symm⟩
          · rintro ⟨j, hj, e⟩
            by_cases h : j = m
            · subst h; exact .inr e.symm
            · exact .inl ⟨j, by omega, e⟩
      · have hk' : ¬ (m = 0 ∨ zs.toArray[m]! ≠ zs.toArray[m - 1]!) := by simpa [keeps] using hk
        rw [if_neg hk, List.append_nil]
        refine ⟨i1, fun y => ?_⟩
        rw [i2]
        constructor
        · rintro ⟨j, hj, e⟩; exact ⟨j, by omega, e⟩
        · rintro ⟨j, hj, e⟩
          by_cases h : j = m
          · subst h
            refine ⟨j - 1, by omega, ?_⟩
            rw [← e]
            exact (Classical.not_not.1 fun h => hk' (.inr h)).symm
          · exact ⟨j, by omega, e⟩
  obtain ⟨k1, k2⟩ := key zs.length (Nat.le_refl _)
  refine ⟨k1, fun y => ?_⟩
  unfold Lib.compact
  rw [k2]
  constructor
  · rintro ⟨j, hj, rfl⟩; simp [getElem!_pos, hj]
  · intro hy
    obtain ⟨j, hj, rfl⟩ := List.mem_iff_getElem.1 hy
    exact ⟨j, hj, by simp [getElem!_pos, hj]⟩

/-- sorted, each once -/
def canonD (zs : List Int) : List Int := Lib.compact (zs.mergeSort fun x y => decide (x ≤ y))
theorem canon_up (zs : List Int) : Up (canonD zs) ∧ ∀ y, y ∈ canonD zs ↔ y ∈ zs := by
  have hs : (zs.mergeSort fun x y => decide (x ≤ y)).Pairwise (· ≤ ·) := by
    have := List.pairwise_mergeSort (le := fun x y : Int => decide (x ≤ y)) (fun a b c h1 h2 => by simp at *; omega) (fun a b => by simp; omega) zs
    exact this.imp fun h => by simpa using h
  obtain ⟨h1, h2⟩ := compact_up _ hs
  exact ⟨h1, fun y => by rw [canonD, h2, List.mem_mergeSort]⟩
theorem canon_eq {zs l : List Int} (h1 : Up l) (h2 : ∀ y, y ∈ l ↔ y ∈ zs) : l = canonD zs :=
  up_unique _ _ h1 (canon_up zs).1 fun y => by rw [h2, (canon_up zs).2]
theorem canon_one (z : Int) : canonD [z] = [z] := (canon_eq (by simp [Up]) fun y => Iff.rfl).symm
theorem canon_nil : canonD [] = [] := (canon_eq (by simp [Up]) fun y => Iff.rfl).symm
theorem canon_len (zs : List Int) : (canonD zs).length ≤ zs.length := by
  have h := Lib.compact_length_le (zs.mergeSort fun x y => decide (x ≤ y))
  rw [List.length_mergeSort] at h
  exact h

/-- a list with one place more, at k -/
def RK (S : List Int) (k : Nat) (g : Int) : List Int := S.take k ++ g :: S.drop k
theorem RK_len {S : List Int} {k : Nat} (h : k ≤ S.length) (g : Int) : (RK S k g).length = S.length + 1 := by simp [RK]; omega
theorem RK_end (S : List Int) (g : Int) : RK S S.length g = S ++ [g] := by simp [RK]
theorem RK_lt {S : List Int} {k j : Nat} (g : Int) (hk : k ≤ S.length) (hj : j < k) : (RK S k g)[j]? = some (S.getD j 0) := by
  unfold RK
  rw [List.getElem?_append_left (by simp; omega), List.getElem?_take_of_lt hj, List.getD_eq_getElem?_getD, List.getElem?_eq_getElem (by omega)]; rfl
theorem RK_step {S : List Int} {k : Nat} (g : Int) (hk : k < S.length) : (RK S (k + 1) g).set (k + 1) (S.getD k 0) = RK S k (S.getD k 0) := by
  unfold RK
  have e : S.getD k 0 = S[k] := by rw [List.getD_eq_getElem?_getD, List.getElem?_eq_getElem hk]; rfl
  have e0 : (S.take (k + 1)).length = k + 1 := by rw [List.length_take]; omega
  have e1 : S.take (k + 1) = S.take k ++ [S[k]] := by rw [List.take_succ, List.getElem?_eq_getElem hk]; rfl
  have e2 : S.drop k = S[k] :: S.drop (k + 1) := List.drop_eq_getElem_cons hk
  rw [List.set_append_right _ _ (by omega), e0, Nat.sub_self, List.set_cons_zero, e, e1, e2, List.append_assoc]
  rfl
theorem RK_put {S : List Int} {k : Nat} (g x : Int) (hk : k ≤ S.length) : (RK S k g).set k x = RK S k x := by
  unfold RK
  have e0 : (S.take k).length = k := by rw [List.length_take]; omega
  rw [List.set_append_right _ _ (by omega), e0, Nat.sub_self, List.set_cons_zero]
theorem RK_mem {S : List Int} {k : Nat} {x y : Int} : y ∈ RK S k x ↔ y = x ∨ y ∈ S := by
  unfold RK
  have : y ∈ S ↔ y ∈ S.take k ∨ y ∈ S.drop k := by rw [← List.mem_append, List.take_append_drop]
  rw [List.mem_append, List.mem_cons, this]
  constructor
  · rintro (h | h | h)
    · exact .inr (.inl h)
    · exact .inl h
    · exact .inr (.inr h)
  · rintro (h | h | h)
    · exact .inr (.inl h)
    · exact .inl h
    · exact .inr (.inr h)
theorem RK_up {S : List Int} {k : Nat} {x : Int} (hS : Up S) (h1 : ∀ j, j < k → j < S.length → S.getD j 0 < x) (h2 : ∀ j, k ≤ j → j < S.length → x < S.getD j 0) : Up (RK S k x) := by
  unfold Up RK
  have hd : ∀ y ∈ S.drop k, x < y := by
    intro y hy
    obtain ⟨i, hi, rfl⟩ := List.mem_iff_getElem.1 hy
    rw [List.getElem_drop]
    have hl : k + i < S.length := by simp at hi; omega
    have := h2 (k + i) (by omega) hl
    rwa [List.getD_eq_getElem?_getD, List.getElem?_eq_getElem hl] at this
  have ht : ∀ y ∈ S.take k, y < x := by
    intro y hy
    obtain ⟨i, hi, rfl⟩ := List.mem_iff_getElem.1 hy
    rw [List.getElem_take]
    have hl : i < S.length ∧ i < k := by simp at hi; omega
    have := h1 i hl.2 hl.1
    rwa [List.getD_eq_getElem?_getD, List.getElem?_eq_getElem hl.1] at this
  rw [List.pairwise_append, List.pairwise_cons]
  refine ⟨hS.sublist (List.take_sublist _ _), ⟨hd, hS.sublist (List.drop_sublist _ _)⟩, fun a ha b hb => ?_⟩
  rcases List.mem_cons.1 hb with rfl | hb
  · exact ht a ha
  · have := ht a ha; have := hd b hb; omega
end Go.Proofs.Ytmbggdfceecojaa.Cd

/- THE SMALL CODES of functions 14 64 65 123 159, and their ties to the program (printed by wip/tools/mkties2.py). -/
set_option linter.all false
namespace Go.Proofs.Ytmbggdfceecojaa.Mc
open Go.AM
def zl14_0 : List AV := [.p (.i .i64 0), .p (.i .i64 0), .p (.i .i64 0), .p (.i .i64 0), .p (.i .i64 0), .p (.s [])]
/- laws.FnExactNext -/
def lv14 : List Nat := [0, 1, 2, 4, 5, 6, 7, 8, 9, 10, 11, 12, 17, 30, 35, 46, 54, 57, 65, 70, 73]
def mc14 : MC :=
.seq (.reg [
 ⟨.l 2, .box 2 (.l 0), none⟩,
 ⟨.l 4, .mv (.c (.p (.b false))), none⟩]) (
 .seq (.reg [
 ⟨.l 5, .mv (.c (.p (.i .i64 1048576))), none⟩]) (
 .seq (.reg [
 ⟨.t 13, .ld true 2 (.l 2), none⟩,
 ⟨.t 14, .mv (.l 5), none⟩,
 ⟨.t 15, .call 19 [.t 13, .t 14], none⟩,
 ⟨.l 5, .mv (.t 15), none⟩]) (
 .seq (.seq (.reg [
 ⟨.t 16, .mv (.l 5), none⟩,
 ⟨.l 17, .bin .lss (.t 16) (.c (.p (.i .i64 0))), none⟩]) (
 .cond (.l 17) (
 .seq (.reg [
 ⟨.l 4, .mv (.c (.p (.b true))), none⟩]) (
 .ret)) (
 .skip))) (
 .seq (.reg [
 ⟨.t 18, .ld true 2 (.l 2), none⟩,
 ⟨.t 19, .call 21 [.t 18], none⟩,
 ⟨.t 20, .mv (.l 1), none⟩,
 ⟨.t 21, .call 64 [.t 19, .t 20], none⟩,
 ⟨.l 6, .mv (.t 21), none⟩]) (
 .seq (.reg [
 ⟨.t 22, .ld true 2 (.l 2), none⟩,
 ⟨.t 23, .call 21 [.t 22], none⟩,
 ⟨.l 7, .alloc [.p (.nl), .p (.nl)], none⟩,
 ⟨.no, .sto 2 (.l 7) (.t 23), none⟩]) (
 .seq (.reg [
 ⟨.t 24, .ld true 2 (.l 7), none⟩,
 ⟨.t 25, .mv (.l 1), none⟩,
 ⟨.t 26, .call 65 [.t 24, .t 25], none⟩,
 ⟨.l 8, .mv (.t 26), none⟩]) (
 .seq (.seq (.reg [
 ⟨.t 27, .mv (.l 8), none⟩,
 ⟨.t 28, .mv (.l 6), none⟩,
 ⟨.t 29, .call 18 [.t 27, .t 28], none⟩,
 ⟨.l 30, .un .not (.t 29), none⟩]) (
 .cond (.l 30) (
 .seq (.reg [
 ⟨.l 4, .mv (.c (.p (.b false))), none⟩]) (
 .ret)) (
 .skip))) (
 .seq (.seq (.drw [
 ⟨.t 31, .ld true 2 (.l 7), none⟩,
 ⟨.t 32, .ld true 2 (.l 2), none⟩,
 ⟨.t 33, .call 21 [.t 32], none⟩] [
 ⟨.t 34, .call 24 [.t 31, .t 33], none⟩,
 ⟨.l 35, .un .not (.t 34), none⟩]) (
 .cond (.l 35) (
 .seq (.reg [
 ⟨.l 4, .mv (.c (.p (.b false))), none⟩]) (
 .ret)) (
 .skip))) (
 .seq (.reg [
 ⟨.l 9, .mv (.c (.p (.i .i64 1))), none⟩]) (
 .seq (.reg [
 ⟨.t 36, .ld true 2 (.l 7), none⟩,
 ⟨.t 37, .mv (.l 9), none⟩,
 ⟨.t 38, .call 25 [.t 36, .t 37], none⟩,
 ⟨.l 9, .mv (.t 38), none⟩]) (
 .seq (.seq (.reg [
 ⟨.t 39, .mv (.l 9), none⟩,
 ⟨.t 40, .bin .lss (.t 39) (.c (.p (.i .i64 0))), none⟩,
 ⟨.t 41, .mv (.t 40), none⟩,
 ⟨.t 42, .mv (.l 8), some ((.t 41), false)⟩,
 ⟨.t 43, .mv (.l 6), some ((.t 41), false)⟩,
 ⟨.t 44, .call 18 [.t 42, .t 43], some ((.t 41), false)⟩,
 ⟨.t 45, .un .not (.t 44), some ((.t 41), false)⟩,
 ⟨.l 46, .pick (.t 41) (.c (.p (.b true))) (.t 45), none⟩]) (
 .cond (.l 46) (
 .seq (.reg [
 ⟨.l 4, .mv (.c (.p (.b false))), none⟩]) (
 .ret)) (
 .skip))) (
 .seq (.reg [
 ⟨.l 10, .mv (.c (.p (.i .i64 1))), none⟩]) (
 .seq (.reg [
 ⟨.t 47, .mv (.l 8), none⟩,
 ⟨.t 48, .mv (.l 10), none⟩,
 ⟨.t 49, .call 48 [.t 47, .t 48], none⟩,
 ⟨.l 10, .mv (.t 49), none⟩]) (
 .seq (.reg [
 ⟨.l 11, .mv (.c (.p (.i .i64 1))), none⟩]) (
 .seq (.reg [
 ⟨.t 50, .mv (.l 8), none⟩,
 ⟨.t 51, .mv (.l 11), none⟩,
 ⟨.t 52, .call 49 [.t 50, .t 51], none⟩,
 ⟨.l 11, .mv (.t 52), none⟩]) (
 .seq (.seq (.reg [
 ⟨.t 53, .mv (.l 11), none⟩,
 ⟨.l 54, .bin .lss (.t 53) (.c (.p (.i .i64 0))), none⟩]) (
 .cond (.l 54) (
 .seq (.reg [
 ⟨.l 4, .mv (.c (.p (.b false))), none⟩]) (
 .ret)) (
 .skip))) (
 .seq (.seq (.reg [
 ⟨.t 55, .mv (.l 11), none⟩,
 ⟨.t 56, .mv (.l 10), none⟩,
 ⟨.l 57, .bin .neq (.t 55) (.t 56), none⟩]) (
 .cond (.l 57) (
 .seq (.reg [
 ⟨.l 4, .mv (.c (.p (.b false))), none⟩]) (
 .ret)) (
 .skip))) (
 .seq (.reg [
 ⟨.t 58, .ld true 2 (.l 2), none⟩,
 ⟨.t 59, .call 21 [.t 58], none⟩,
 ⟨.t 60, .mv (.l 1), none⟩,
 ⟨.t 61, .call 65 [.t 59, .t 60], none⟩,
 ⟨.l 12, .mv (.t 61), none⟩]) (
 .seq (.seq (.reg [
 ⟨.t 62, .mv (.l 12), none⟩,
 ⟨.t 63, .mv (.l 6), none⟩,
 ⟨.t 64, .call 18 [.t 62, .t 63], none⟩,
 ⟨.l 65, .un .not (.t 64), none⟩]) (
 .cond (.l 65) (
 .seq (.reg [
 ⟨.l 4, .mv (.c (.p (.b false))), none⟩]) (
 .ret)) (
 .skip))) (
 .seq (.reg [
 ⟨.l 11, .mv (.c (.p (.i .i64 1))), none⟩]) (
 .seq (.reg [
 ⟨.t 66, .mv (.l 8), none⟩,
 ⟨.t 67, .mv (.l 11), none⟩,
 ⟨.t 68, .call 49 [.t 66, .t 67], none⟩,
 ⟨.l 11, .mv (.t 68), none⟩]) (
 .seq (.seq (.reg [
 ⟨.t 69, .mv (.l 11), none⟩,
 ⟨.l 70, .bin .lss (.t 69) (.c (.p (.i .i64 0))), none⟩]) (
 .cond (.l 70) (
 .seq (.reg [
 ⟨.l 4, .mv (.c (.p (.b false))), none⟩]) (
 .ret)) (
 .skip))) (
 .seq (.seq (.reg [
 ⟨.t 71, .mv (.l 11), none⟩,
 ⟨.t 72, .mv (.l 10), none⟩,
 ⟨.l 73, .bin .neq (.t 71) (.t 72), none⟩]) (
 .cond (.l 73) (
 .seq (.reg [
 ⟨.l 4, .mv (.c (.p (.b false))), none⟩]) (
 .ret)) (
 .skip))) (
 .seq (.reg [
 ⟨.l 4, .mv (.c (.p (.b true))), none⟩]) (
 .ret)))))))))))))))))))))))))
theorem mc14_eq : (Try.f14.body.map (compile lv14 Try.prog 74)) = some mc14 := by kernel_rfl
def mr14 : List MR := [.t 4]
theorem mr14_eq : cRess lv14 Try.prog Try.f14.results.toList = some mr14 := by kernel_rfl
theorem call14 {args : List AV} {H : List AO} {Q : AV → List AO → Prop} (hla : args.length ≤ 74) (h : wpm (ACall Try.prog) mc14 (finK mr14 Q) ⟨argEnv 0 args, [], H⟩) : ACall Try.prog 14 args H Q :=
  acall_mc (by kernel_rfl) Try.func14 mc14_eq Try.ntmps14 (by kernel_rfl) mr14_eq hla h
/- spec.Next -/
def lv64 : List Nat := [0, 1, 2, 4, 5, 17, 25, 26, 34, 39, 44]
def mc64 : MC :=
.seq (.reg [
 ⟨.l 2, .box 2 (.l 0), none⟩,
 ⟨.l 4, .mv (.c (.p (.nl))), none⟩]) (
 .seq (.seq (.reg [
 ⟨.t 6, .ld true 2 (.l 2), none⟩,
 ⟨.t 7, .call 70 [.t 6], none⟩,
 ⟨.t 8, .un .not (.t 7), none⟩,
 ⟨.t 9, .mv (.t 8), none⟩,
 ⟨.t 10, .mv (.l 1), some ((.t 9), false)⟩,
 ⟨.t 11, .fad 0 (.l 2), some ((.t 9), false)⟩,
 ⟨.t 12, .ld false 1 (.t 11), some ((.t 9), false)⟩,
 ⟨.t 13, .len false (.t 12), some ((.t 9), false)⟩,
 ⟨.t 14, .bin .sub (.t 13) (.c (.p (.i .i64 1))), some ((.t 9), false)⟩,
 ⟨.t 15, .call 122 [.t 10, .c (.p (.i .i64 0)), .t 14], some ((.t 9), false)⟩,
 ⟨.t 16, .un .not (.t 15), some ((.t 9), false)⟩,
 ⟨.l 17, .pick (.t 9) (.c (.p (.b true))) (.t 16), none⟩]) (
 .cond (.l 17) (
 .seq (.reg [
 ⟨.t 18, .bsl 1 [.p (.i .i64 0)] 0 [], none⟩,
 ⟨.l 4, .mv (.t 18), none⟩]) (
 .ret)) (
 .skip))) (
 .seq (.reg [
 ⟨.t 19, .fad 0 (.l 2), none⟩,
 ⟨.t 20, .ld false 1 (.t 19), none⟩,
 ⟨.t 21, .mv (.l 1), none⟩,
 ⟨.t 22, .ixs 6 (.t 20) (.t 21), none⟩,
 ⟨.t 23, .ld true 6 (.t 22), none⟩,
 ⟨.l 5, .alloc zl14_0, none⟩,
 ⟨.no, .sto 6 (.l 5) (.t 23), none⟩]) (
 .seq (.seq (.reg [
 ⟨.t 24, .fad 0 (.l 5), none⟩,
 ⟨.l 25, .ld false 1 (.t 24), none⟩]) (
 .blk 0 (
 .seq (.reg [
 ⟨.t 27, .bin .eql (.l 25) (.c (.p (.i .i64 11))), none⟩,
 ⟨.l 26, .mv (.t 27), none⟩]) (
 .cond (.l 26) (
 .seq (.reg [
 ⟨.t 28, .mv (.l 1), none⟩,
 ⟨.t 29, .bin .add (.t 28) (.c (.p (.i .i64 1))), none⟩,
 ⟨.t 30, .fad 4 (.l 5), none⟩,
 ⟨.t 31, .ld false 1 (.t 30), none⟩,
 ⟨.t 32, .bsl 1 [.p (.i .i64 0)] 2 [(0, (.t 29)), (1, (.t 31))], none⟩,
 ⟨.t 33, .call 123 [.t 32], none⟩,
 ⟨.l 4, .mv (.t 33), none⟩]) (
 .ret)) (
 .seq (.reg [
 ⟨.t 35, .bin .eql (.l 25) (.c (.p (.i .i64 12))), none⟩,
 ⟨.l 34, .mv (.t 35), none⟩]) (
 .cond (.l 34) (
 .seq (.reg [
 ⟨.t 36, .fad 4 (.l 5), none⟩,
 ⟨.t 37, .ld false 1 (.t 36), none⟩,
 ⟨.t 38, .bsl 1 [.p (.i .i64 0)] 1 [(0, (.t 37))], none⟩,
 ⟨.l 4, .mv (.t 38), none⟩]) (
 .ret)) (
 .seq (.reg [
 ⟨.t 40, .bin .eql (.l 25) (.c (.p (.i .i64 13))), none⟩,
 ⟨.l 39, .mv (.t 40), none⟩]) (
 .cond (.l 39) (
 .seq (.reg [
 ⟨.t 41, .fad 1 (.l 2), none⟩,
 ⟨.t 42, .ld false 1 (.t 41), none⟩,
 ⟨.t 43, .call 123 [.t 42], none⟩,
 ⟨.l 4, .mv (.t 43), none⟩]) (
 .ret)) (
 .seq (.seq (.reg [
 ⟨.t 45, .bin .eql (.l 25) (.c (.p (.i .i64 14))), none⟩,
 ⟨.l 44, .mv (.t 45), none⟩]) (
 .cond (.l 44) (
 .skip) (
 .reg [
 ⟨.t 46, .bin .eql (.l 25) (.c (.p (.i .i64 15))), none⟩,
 ⟨.l 44, .mv (.t 46), none⟩]))) (
 .cond (.l 44) (
 .seq (.reg [
 ⟨.t 47, .bsl 1 [.p (.i .i64 0)] 0 [], none⟩,
 ⟨.l 4, .mv (.t 47), none⟩]) (
 .ret)) (
 .skip))))))))))) (
 .seq (.reg [
 ⟨.t 48, .mv (.l 1), none⟩,
 ⟨.t 49, .bin .add (.t 48) (.c (.p (.i .i64 1))), none⟩,
 ⟨.t 50, .bsl 1 [.p (.i .i64 0)] 1 [(0, (.t 49))], none⟩,
 ⟨.l 4, .mv (.t 50), none⟩]) (
 .ret)))))
theorem mc64_eq : (Try.f64.body.map (compile lv64 Try.prog 51)) = some mc64 := by kernel_rfl
def mr64 : List MR := [.t 4]
theorem mr64_eq : cRess lv64 Try.prog Try.f64.results.toList = some mr64 := by kernel_rfl
theorem call64 {args : List AV} {H : List AO} {Q : AV → List AO → Prop} (hla : args.length ≤ 51) (h : wpm (ACall Try.prog) mc64 (finK mr64 Q) ⟨argEnv 0 args, [], H⟩) : ACall Try.prog 64 args H Q :=
  acall_mc (by kernel_rfl) Try.func64 mc64_eq Try.ntmps64 (by kernel_rfl) mr64_eq hla h
/- impl.Next -/
def lv65 : List Nat := [0, 1, 2, 4, 5, 6, 18, 25, 29, 36, 41, 47]
def mc65 : MC :=
.seq (.reg [
 ⟨.l 2, .box 2 (.l 0), none⟩,
 ⟨.l 4, .mv (.c (.p (.nl))), none⟩]) (
 .seq (.seq (.reg [
 ⟨.t 7, .ld true 2 (.l 2), none⟩,
 ⟨.t 8, .call 74 [.t 7], none⟩,
 ⟨.t 9, .un .not (.t 8), none⟩,
 ⟨.t 10, .mv (.t 9), none⟩,
 ⟨.t 11, .mv (.l 1), some ((.t 10), false)⟩,
 ⟨.t 12, .fad 0 (.l 2), some ((.t 10), false)⟩,
 ⟨.t 13, .ld false 1 (.t 12), some ((.t 10), false)⟩,
 ⟨.t 14, .len false (.t 13), some ((.t 10), false)⟩,
 ⟨.t 15, .bin .sub (.t 14) (.c (.p (.i .i64 1))), some ((.t 10), false)⟩,
 ⟨.t 16, .call 124 [.t 11, .c (.p (.i .i64 0)), .t 15], some ((.t 10), false)⟩,
 ⟨.t 17, .un .not (.t 16), some ((.t 10), false)⟩,
 ⟨.l 18, .pick (.t 10) (.c (.p (.b true))) (.t 17), none⟩]) (
 .cond (.l 18) (
 .seq (.reg [
 ⟨.l 4, .mv (.c (.p (.nl))), none⟩]) (
 .ret)) (
 .skip))) (
 .seq (.reg [
 ⟨.t 19, .fad 0 (.l 2), none⟩,
 ⟨.t 20, .ld false 1 (.t 19), none⟩,
 ⟨.t 21, .mv (.l 1), none⟩,
 ⟨.t 22, .ixs 6 (.t 20) (.t 21), none⟩,
 ⟨.t 23, .ld true 6 (.t 22), none⟩,
 ⟨.l 5, .alloc zl14_0, none⟩,
 ⟨.no, .sto 6 (.l 5) (.t 23), none⟩]) (
 .seq (.reg [
 ⟨.l 6, .mv (.c (.p (.nl))), none⟩]) (
 .seq (.seq (.reg [
 ⟨.t 24, .fad 0 (.l 5), none⟩,
 ⟨.l 25, .ld false 1 (.t 24), none⟩]) (
 .blk 0 (
 .seq (.reg [
 ⟨.t 30, .bin .eql (.l 25) (.c (.p (.i .i64 11))), none⟩,
 ⟨.l 29, .mv (.t 30), none⟩]) (
 .cond (.l 29) (
 .reg [
 ⟨.t 31, .mv (.l 1), none⟩,
 ⟨.t 32, .bin .add (.t 31) (.c (.p (.i .i64 1))), none⟩,
 ⟨.t 33, .fad 4 (.l 5), none⟩,
 ⟨.t 34, .ld false 1 (.t 33), none⟩,
 ⟨.t 35, .bsl 1 [.p (.i .i64 0)] 2 [(0, (.t 32)), (1, (.t 34))], none⟩,
 ⟨.l 6, .mv (.t 35), none⟩]) (
 .seq (.reg [
 ⟨.t 37, .bin .eql (.l 25) (.c (.p (.i .i64 12))), none⟩,
 ⟨.l 36, .mv (.t 37), none⟩]) (
 .cond (.l 36) (
 .reg [
 ⟨.t 38, .fad 4 (.l 5), none⟩,
 ⟨.t 39, .ld false 1 (.t 38), none⟩,
 ⟨.t 40, .bsl 1 [.p (.i .i64 0)] 1 [(0, (.t 39))], none⟩,
 ⟨.l 6, .mv (.t 40), none⟩]) (
 .seq (.reg [
 ⟨.t 42, .bin .eql (.l 25) (.c (.p (.i .i64 13))), none⟩,
 ⟨.l 41, .mv (.t 42), none⟩]) (
 .cond (.l 41) (
 .reg [
 ⟨.t 43, .mv (.l 6), none⟩,
 ⟨.t 44, .fad 1 (.l 2), none⟩,
 ⟨.t 45, .ld false 1 (.t 44), none⟩,
 ⟨.t 46, .app 1 8 (.t 43) (.t 45), none⟩,
 ⟨.l 6, .mv (.t 46), none⟩]) (
 .seq (.seq (.reg [
 ⟨.t 48, .bin .eql (.l 25) (.c (.p (.i .i64 14))), none⟩,
 ⟨.l 47, .mv (.t 48), none⟩]) (
 .cond (.l 47) (
 .skip) (
 .reg [
 ⟨.t 49, .bin .eql (.l 25) (.c (.p (.i .i64 15))), none⟩,
 ⟨.l 47, .mv (.t 49), none⟩]))) (
 .cond (.l 47) (
 .skip) (
 .reg [
 ⟨.t 26, .mv (.l 1), none⟩,
 ⟨.t 27, .bin .add (.t 26) (.c (.p (.i .i64 1))), none⟩,
 ⟨.t 28, .bsl 1 [.p (.i .i64 0)] 1 [(0, (.t 27))], none⟩,
 ⟨.l 6, .mv (.t 28), none⟩]))))))))))) (
 .seq (.reg [
 ⟨.t 50, .mv (.l 6), none⟩,
 ⟨.t 51, .call 125 [.t 50], none⟩]) (
 .seq (.reg [
 ⟨.t 52, .mv (.l 6), none⟩,
 ⟨.t 53, .call 126 [.t 52], none⟩,
 ⟨.l 4, .mv (.t 53), none⟩]) (
 .ret)))))))
theorem mc65_eq : (Try.f65.body.map (compile lv65 Try.prog 54)) = some mc65 := by kernel_rfl
def mr65 : List MR := [.t 4]
theorem mr65_eq : cRess lv65 Try.prog Try.f65.results.toList = some mr65 := by kernel_rfl
theorem call65 {args : List AV} {H : List AO} {Q : AV → List AO → Prop} (hla : args.length ≤ 54) (h : wpm (ACall Try.prog) mc65 (finK mr65 Q) ⟨argEnv 0 args, [], H⟩) : ACall Try.prog 65 args H Q :=
  acall_mc (by kernel_rfl) Try.func65 mc65_eq Try.ntmps65 (by kernel_rfl) mr65_eq hla h
/- spec.l22Sorted -/
def lv123 : List Nat := [0, 2, 3, 4, 5, 10, 18, 41]
def mc123 : MC :=
.seq (.reg [
 ⟨.l 2, .mv (.c (.p (.nl))), none⟩]) (
 .seq (.reg [
 ⟨.t 6, .bsl 1 [.p (.i .i64 0)] 0 [], none⟩,
 ⟨.l 3, .mv (.t 6), none⟩]) (
 .seq (.seq (.reg [
 ⟨.l 4, .mv (.c (.p (.i .i64 0))), none⟩]) (
 .blk 0 (
 .loop (
 .seq (.seq (.reg [
 ⟨.t 7, .mv (.l 4), none⟩,
 ⟨.t 8, .mv (.l 0), none⟩,
 ⟨.t 9, .len false (.t 8), none⟩,
 ⟨.l 10, .bin .lss (.t 7) (.t 9), none⟩]) (
 .cond (.l 10) (
 .skip) (
 .exit 0))) (
 .seq (.blk 1 (
 .seq (.seq (.reg [
 ⟨.t 13, .mv (.l 3), none⟩,
 ⟨.t 14, .mv (.l 0), none⟩,
 ⟨.t 15, .mv (.l 4), none⟩,
 ⟨.t 16, .ixs 1 (.t 14) (.t 15), none⟩,
 ⟨.t 17, .ld false 1 (.t 16), none⟩,
 ⟨.l 18, .call 159 [.t 13, .t 17], none⟩]) (
 .cond (.l 18) (
 .exit 1) (
 .skip))) (
 .seq (.reg [
 ⟨.t 19, .mv (.l 3), none⟩,
 ⟨.t 20, .len false (.t 19), none⟩,
 ⟨.l 5, .mv (.t 20), none⟩]) (
 .seq (.reg [
 ⟨.t 21, .mv (.l 3), none⟩,
 ⟨.t 22, .mv (.l 0), none⟩,
 ⟨.t 23, .mv (.l 4), none⟩,
 ⟨.t 24, .ixs 1 (.t 22) (.t 23), none⟩,
 ⟨.t 25, .ld false 1 (.t 24), none⟩,
 ⟨.t 26, .bsl 1 [.p (.i .i64 0)] 1 [(0, (.t 25))], none⟩,
 ⟨.t 27, .app 1 8 (.t 21) (.t 26), none⟩,
 ⟨.l 3, .mv (.t 27), none⟩]) (
 .seq (.blk 2 (
 .loop (
 .seq (.seq (.drw [
 ⟨.t 28, .mv (.l 5), none⟩,
 ⟨.t 29, .bin .gtr (.t 28) (.c (.p (.i .i64 0))), none⟩,
 ⟨.t 30, .mv (.t 29), none⟩,
 ⟨.t 31, .mv (.l 3), some ((.t 30), true)⟩,
 ⟨.t 32, .mv (.l 5), some ((.t 30), true)⟩,
 ⟨.t 33, .bin .sub (.t 32) (.c (.p (.i .i64 1))), some ((.t 30), true)⟩,
 ⟨.t 34, .ixs 1 (.t 31) (.t 33), some ((.t 30), true)⟩,
 ⟨.t 35, .ld false 1 (.t 34), some ((.t 30), true)⟩,
 ⟨.t 36, .mv (.l 0), some ((.t 30), true)⟩,
 ⟨.t 37, .mv (.l 4), some ((.t 30), true)⟩,
 ⟨.t 38, .ixs 1 (.t 36) (.t 37), some ((.t 30), true)⟩,
 ⟨.t 39, .ld false 1 (.t 38), some ((.t 30), true)⟩] [
 ⟨.t 40, .bin .gtr (.t 35) (.t 39), some ((.t 30), true)⟩,
 ⟨.l 41, .pick (.t 30) (.t 40) (.c (.p (.b false))), none⟩]) (
 .cond (.l 41) (
 .skip) (
 .exit 2))) (
 .blk 3 (
 .seq (.reg [
 ⟨.t 42, .mv (.l 3), none⟩,
 ⟨.t 43, .mv (.l 5), none⟩,
 ⟨.t 44, .mv (.l 3), none⟩,
 ⟨.t 45, .mv (.l 5), none⟩,
 ⟨.t 46, .bin .sub (.t 45) (.c (.p (.i .i64 1))), none⟩,
 ⟨.t 47, .ixs 1 (.t 44) (.t 46), none⟩,
 ⟨.t 48, .ld false 1 (.t 47), none⟩,
 ⟨.t 49, .ixs 1 (.t 42) (.t 43), none⟩,
 ⟨.no, .sto 1 (.t 49) (.t 48), none⟩]) (
 .reg [
 ⟨.t 50, .mv (.l 5), none⟩,
 ⟨.t 51, .bin .sub (.t 50) (.c (.p (.i .i64 1))), none⟩,
 ⟨.l 5, .mv (.t 51), none⟩])))))) (
 .reg [
 ⟨.t 52, .mv (.l 3), none⟩,
 ⟨.t 53, .mv (.l 5), none⟩,
 ⟨.t 54, .mv (.l 0), none⟩,
 ⟨.t 55, .mv (.l 4), none⟩,
 ⟨.t 56, .ixs 1 (.t 54) (.t 55), none⟩,
 ⟨.t 57, .ld false 1 (.t 56), none⟩,
 ⟨.t 58, .ixs 1 (.t 52) (.t 53), none⟩,
 ⟨.no, .sto 1 (.t 58) (.t 57), none⟩])))))) (
 .reg [
 ⟨.t 11, .mv (.l 4), none⟩,
 ⟨.t 12, .bin .add (.t 11) (.c (.p (.i .i64 1))), none⟩,
 ⟨.l 4, .mv (.t 12), none⟩])))))) (
 .seq (.reg [
 ⟨.t 59, .mv (.l 3), none⟩,
 ⟨.l 2, .mv (.t 59), none⟩]) (
 .ret))))
theorem mc123_eq : (Try.f123.body.map (compile lv123 Try.prog 60)) = some mc123 := by kernel_rfl
def mr123 : List MR := [.t 2]
theorem mr123_eq : cRess lv123 Try.prog Try.f123.results.toList = some mr123 := by kernel_rfl
theorem call123 {args : List AV} {H : List AO} {Q : AV → List AO → Prop} (hla : args.length ≤ 60) (h : wpm (ACall Try.prog) mc123 (finK mr123 Q) ⟨argEnv 0 args, [], H⟩) : ACall Try.prog 123 args H Q :=
  acall_mc (by kernel_rfl) Try.func123 mc123_eq Try.ntmps123 (by kernel_rfl) mr123_eq hla h
/- spec.l4Has -/
def lv159 : List Nat := [0, 1, 4, 5, 9, 17]
def mc159 : MC :=
.seq (.reg [
 ⟨.l 4, .mv (.c (.p (.b false))), none⟩]) (
 .seq (.seq (.reg [
 ⟨.l 5, .mv (.c (.p (.i .i64 0))), none⟩]) (
 .blk 0 (
 .loop (
 .seq (.seq (.reg [
 ⟨.t 6, .mv (.l 5), none⟩,
 ⟨.t 7, .mv (.l 0), none⟩,
 ⟨.t 8, .len false (.t 7), none⟩,
 ⟨.l 9, .bin .lss (.t 6) (.t 8), none⟩]) (
 .cond (.l 9) (
 .skip) (
 .exit 0))) (
 .seq (.blk 1 (
 .seq (.reg [
 ⟨.t 12, .mv (.l 0), none⟩,
 ⟨.t 13, .mv (.l 5), none⟩,
 ⟨.t 14, .ixs 1 (.t 12) (.t 13), none⟩,
 ⟨.t 15, .ld false 1 (.t 14), none⟩,
 ⟨.t 16, .mv (.l 1), none⟩,
 ⟨.l 17, .bin .eql (.t 15) (.t 16), none⟩]) (
 .cond (.l 17) (
 .seq (.reg [
 ⟨.l 4, .mv (.c (.p (.b true))), none⟩]) (
 .ret)) (
 .skip)))) (
 .reg [
 ⟨.t 10, .mv (.l 5), none⟩,
 ⟨.t 11, .bin .add (.t 10) (.c (.p (.i .i64 1))), none⟩,
 ⟨.l 5, .mv (.t 11), none⟩])))))) (
 .seq (.reg [
 ⟨.l 4, .mv (.c (.p (.b false))), none⟩]) (
 .ret)))
theorem mc159_eq : (Try.f159.body.map (compile lv159 Try.prog 18)) = some mc159 := by kernel_rfl
def mr159 : List MR := [.t 4]
theorem mr159_eq : cRess lv159 Try.prog Try.f159.results.toList = some mr159 := by kernel_rfl
theorem call159 {args : List AV} {H : List AO} {Q : AV → List AO → Prop} (hla : args.length ≤ 18) (h : wpm (ACall Try.prog) mc159 (finK mr159 Q) ⟨argEnv 0 args, [], H⟩) : ACall Try.prog 159 args H Q :=
  acall_mc (by kernel_rfl) Try.func159 mc159_eq Try.ntmps159 (by kernel_rfl) mr159_eq hla h
end Go.Proofs.Ytmbggdfceecojaa.Mc

/- THE SMALL CODES of functions 3 15 16 17 18 66 67, and their ties to the program (printed by wip/tools/mkties.sh). -/
set_option linter.all false
namespace Go.Proofs.Ytmbggdfceecojaa.Mc
open Go.AM
def lv3 : List Nat := [0, 2, 3, 4, 5, 6, 7, 10, 31, 36]
def mc3 : MC :=
.seq (.reg [
    ⟨.l 2, .mv (.c (.p (.b false))), none⟩]) (
  .seq (.seq (.reg [
    ⟨.t 8, .mv (.l 0), none⟩,
    ⟨.t 9, .len false (.t 8), none⟩,
    ⟨.l 10, .bin .gtr (.t 9) (.c (.p (.i .i64 1048576))), none⟩]) (
  .cond (.l 10) (
    .seq (.reg [
      ⟨.l 2, .mv (.c (.p (.b true))), none⟩]) (
    .ret)) (
    .skip))) (
  .seq (.reg [
    ⟨.t 12, .mv (.l 0), none⟩,
    ⟨.t 13, .call 16 [.t 12], none⟩,
    ⟨.t 14, .call 15 [.t 13], none⟩,
    ⟨.t 11, .mv (.t 14), none⟩,
    ⟨.t 15, .ext (.t 11) 0, none⟩,
    ⟨.t 16, .ext (.t 11) 1, none⟩,
    ⟨.l 3, .mv (.t 15), none⟩,
    ⟨.l 4, .mv (.t 16), none⟩]) (
  .seq (.reg [
    ⟨.t 17, .mv (.l 0), none⟩,
    ⟨.t 18, .call 16 [.t 17], none⟩,
    ⟨.l 5, .mv (.t 18), none⟩]) (
  .seq (.reg [
    ⟨.t 20, .mv (.l 5), none⟩,
    ⟨.t 21, .call 17 [.t 20], none⟩,
    ⟨.t 19, .mv (.t 21), none⟩,
    ⟨.t 22, .ext (.t 19) 0, none⟩,
    ⟨.t 23, .ext (.t 19) 1, none⟩,
    ⟨.l 6, .mv (.t 22), none⟩,
    ⟨.l 7, .mv (.t 23), none⟩]) (
  .seq (.seq (.reg [
    ⟨.t 24, .mv (.l 6), none⟩,
    ⟨.t 25, .mv (.l 3), none⟩,
    ⟨.t 26, .bin .neq (.t 24) (.t 25), none⟩,
    ⟨.t 27, .mv (.t 26), none⟩,
    ⟨.t 28, .mv (.l 7), some ((.t 27), false)⟩,
    ⟨.t 29, .mv (.l 4), some ((.t 27), false)⟩,
    ⟨.t 30, .bin .neq (.t 28) (.t 29), some ((.t 27), false)⟩,
    ⟨.l 31, .pick (.t 27) (.c (.p (.b true))) (.t 30), none⟩]) (
  .cond (.l 31) (
    .seq (.reg [
      ⟨.l 2, .mv (.c (.p (.b false))), none⟩]) (
    .ret)) (
    .skip))) (
  .seq (.seq (.reg [
    ⟨.t 32, .mv (.l 5), none⟩,
    ⟨.t 33, .mv (.l 0), none⟩,
    ⟨.t 34, .call 16 [.t 33], none⟩,
    ⟨.t 35, .call 18 [.t 32, .t 34], none⟩,
    ⟨.l 36, .un .not (.t 35), none⟩]) (
  .cond (.l 36) (
    .seq (.reg [
      ⟨.l 2, .mv (.c (.p (.b false))), none⟩]) (
    .ret)) (
    .skip))) (
  .seq (.reg [
    ⟨.l 2, .mv (.c (.p (.b true))), none⟩]) (
  .ret))))))))
theorem mc3_eq : (Try.f3.body.map (compile lv3 Try.prog 37)) = some mc3 := by kernel_rfl
def mr3 : List MR := [.t 2]
theorem mr3_eq : cRess lv3 Try.prog Try.f3.results.toList = some mr3 := by kernel_rfl
theorem call3 {args : List AV} {H : List AO} {Q : AV → List AO → Prop} (hla : args.length ≤ 37) (h : wpm (ACall Try.prog) mc3 (finK mr3 Q) ⟨argEnv 0 args, [], H⟩) : ACall Try.prog 3 args H Q :=
  acall_mc (by kernel_rfl) Try.func3 mc3_eq Try.ntmps3 (by kernel_rfl) mr3_eq hla h
def lv15 : List Nat := [0, 2, 3, 4, 5, 8, 12, 23]
def mc15 : MC :=
.seq (.reg [
    ⟨.l 2, .mv (.c (.p (.i .i64 0))), none⟩,
    ⟨.l 3, .mv (.c (.p (.i .i64 0))), none⟩]) (
  .seq (.seq (.reg [
    ⟨.t 6, .mv (.l 0), none⟩,
    ⟨.t 7, .len false (.t 6), none⟩,
    ⟨.l 8, .bin .eql (.t 7) (.c (.p (.i .i64 0))), none⟩]) (
  .cond (.l 8) (
    .seq (.reg [
      ⟨.l 2, .mv (.c (.p (.i .i64 (-1)))), none⟩,
      ⟨.l 3, .mv (.c (.p (.i .i64 0))), none⟩]) (
    .ret)) (
    .skip))) (
  .seq (.reg [
    ⟨.l 4, .mv (.c (.p (.i .i64 0))), none⟩]) (
  .seq (.seq (.reg [
    ⟨.l 5, .mv (.c (.p (.i .i64 0))), none⟩]) (
  .blk 0 (
    .loop (
      .seq (.seq (.reg [
        ⟨.t 9, .mv (.l 5), none⟩,
        ⟨.t 10, .mv (.l 0), none⟩,
        ⟨.t 11, .len false (.t 10), none⟩,
        ⟨.l 12, .bin .lss (.t 9) (.t 11), none⟩]) (
      .cond (.l 12) (
        .skip) (
        .exit 0))) (
      .seq (.blk 1 (
        .seq (.drw [
          ⟨.t 15, .mv (.l 0), none⟩,
          ⟨.t 16, .mv (.l 5), none⟩,
          ⟨.t 17, .ixs 1 (.t 15) (.t 16), none⟩,
          ⟨.t 18, .ld false 1 (.t 17), none⟩,
          ⟨.t 19, .mv (.l 0), none⟩,
          ⟨.t 20, .mv (.l 4), none⟩,
          ⟨.t 21, .ixs 1 (.t 19) (.t 20), none⟩,
          ⟨.t 22, .ld false 1 (.t 21), none⟩] [
          ⟨.l 23, .bin .gtr (.t 18) (.t 22), none⟩]) (
        .cond (.l 23) (
          .reg [
            ⟨.t 24, .mv (.l 5), none⟩,
            ⟨.l 4, .mv (.t 24), none⟩]) (
          .skip)))) (
      .reg [
        ⟨.t 13, .mv (.l 5), none⟩,
        ⟨.t 14, .bin .add (.t 13) (.c (.p (.i .i64 1))), none⟩,
        ⟨.l 5, .mv (.t 14), none⟩])))))) (
  .seq (.drw [
    ⟨.t 25, .mv (.l 4), none⟩,
    ⟨.t 26, .mv (.l 0), none⟩,
    ⟨.t 27, .mv (.l 4), none⟩,
    ⟨.t 28, .ixs 1 (.t 26) (.t 27), none⟩,
    ⟨.t 29, .ld false 1 (.t 28), none⟩,
    ⟨.l 2, .mv (.t 25), none⟩] [
    ⟨.l 3, .mv (.t 29), none⟩]) (
  .ret)))))
theorem mc15_eq : (Try.f15.body.map (compile lv15 Try.prog 30)) = some mc15 := by kernel_rfl
def mr15 : List MR := [.t 2, .t 3]
theorem mr15_eq : cRess lv15 Try.prog Try.f15.results.toList = some mr15 := by kernel_rfl
theorem call15 {args : List AV} {H : List AO} {Q : AV → List AO → Prop} (hla : args.length ≤ 30) (h : wpm (ACall Try.prog) mc15 (finK mr15 Q) ⟨argEnv 0 args, [], H⟩) : ACall Try.prog 15 args H Q :=
  acall_mc (by kernel_rfl) Try.func15 mc15_eq Try.ntmps15 (by kernel_rfl) mr15_eq hla h
def lv16 : List Nat := [0, 2, 3, 4, 11]
def mc16 : MC :=
.seq (.reg [
    ⟨.l 2, .mv (.c (.p (.nl))), none⟩]) (
  .seq (.reg [
    ⟨.t 5, .mv (.l 0), none⟩,
    ⟨.t 6, .len false (.t 5), none⟩,
    ⟨.t 7, .mks 1 8 [.p (.i .i64 0)] (.t 6) (.t 6), none⟩,
    ⟨.l 3, .mv (.t 7), none⟩]) (
  .seq (.seq (.reg [
    ⟨.l 4, .mv (.c (.p (.i .i64 0))), none⟩]) (
  .blk 0 (
    .loop (
      .seq (.seq (.reg [
        ⟨.t 8, .mv (.l 4), none⟩,
        ⟨.t 9, .mv (.l 0), none⟩,
        ⟨.t 10, .len false (.t 9), none⟩,
        ⟨.l 11, .bin .lss (.t 8) (.t 10), none⟩]) (
      .cond (.l 11) (
        .skip) (
        .exit 0))) (
      .seq (.blk 1 (
        .reg [
          ⟨.t 14, .mv (.l 3), none⟩,
          ⟨.t 15, .mv (.l 4), none⟩,
          ⟨.t 16, .mv (.l 0), none⟩,
          ⟨.t 17, .mv (.l 4), none⟩,
          ⟨.t 18, .ixs 1 (.t 16) (.t 17), none⟩,
          ⟨.t 19, .ld false 1 (.t 18), none⟩,
          ⟨.t 20, .ixs 1 (.t 14) (.t 15), none⟩,
          ⟨.no, .sto 1 (.t 20) (.t 19), none⟩])) (
      .reg [
        ⟨.t 12, .mv (.l 4), none⟩,
        ⟨.t 13, .bin .add (.t 12) (.c (.p (.i .i64 1))), none⟩,
        ⟨.l 4, .mv (.t 13), none⟩])))))) (
  .seq (.reg [
    ⟨.t 21, .mv (.l 3), none⟩,
    ⟨.l 2, .mv (.t 21), none⟩]) (
  .ret))))
theorem mc16_eq : (Try.f16.body.map (compile lv16 Try.prog 22)) = some mc16 := by kernel_rfl
def mr16 : List MR := [.t 2]
theorem mr16_eq : cRess lv16 Try.prog Try.f16.results.toList = some mr16 := by kernel_rfl
theorem call16 {args : List AV} {H : List AO} {Q : AV → List AO → Prop} (hla : args.length ≤ 22) (h : wpm (ACall Try.prog) mc16 (finK mr16 Q) ⟨argEnv 0 args, [], H⟩) : ACall Try.prog 16 args H Q :=
  acall_mc (by kernel_rfl) Try.func16 mc16_eq Try.ntmps16 (by kernel_rfl) mr16_eq hla h
def lv17 : List Nat := [0, 2, 3, 4, 7]
def mc17 : MC :=
.seq (.reg [
    ⟨.l 2, .mv (.c (.p (.i .i64 0))), none⟩,
    ⟨.l 3, .mv (.c (.p (.i .i64 0))), none⟩]) (
  .seq (.seq (.reg [
    ⟨.t 5, .mv (.l 0), none⟩,
    ⟨.t 6, .len false (.t 5), none⟩,
    ⟨.l 7, .bin .eql (.t 6) (.c (.p (.i .i64 0))), none⟩]) (
  .cond (.l 7) (
    .seq (.reg [
      ⟨.l 2, .mv (.c (.p (.i .i64 (-1)))), none⟩,
      ⟨.l 3, .mv (.c (.p (.i .i64 0))), none⟩]) (
    .ret)) (
    .skip))) (
  .seq (.reg [
    ⟨.t 8, .mv (.l 0), none⟩,
    ⟨.t 9, .call 66 [.t 8], none⟩,
    ⟨.l 4, .mv (.t 9), none⟩]) (
  .seq (.reg [
    ⟨.t 10, .mv (.l 0), none⟩,
    ⟨.t 11, .mv (.l 4), none⟩,
    ⟨.t 12, .call 67 [.t 10, .t 11], none⟩,
    ⟨.t 13, .mv (.l 4), none⟩,
    ⟨.l 2, .mv (.t 12), none⟩,
    ⟨.l 3, .mv (.t 13), none⟩]) (
  .ret))))
theorem mc17_eq : (Try.f17.body.map (compile lv17 Try.prog 14)) = some mc17 := by kernel_rfl
def mr17 : List MR := [.t 2, .t 3]
theorem mr17_eq : cRess lv17 Try.prog Try.f17.results.toList = some mr17 := by kernel_rfl
theorem call17 {args : List AV} {H : List AO} {Q : AV → List AO → Prop} (hla : args.length ≤ 14) (h : wpm (ACall Try.prog) mc17 (finK mr17 Q) ⟨argEnv 0 args, [], H⟩) : ACall Try.prog 17 args H Q :=
  acall_mc (by kernel_rfl) Try.func17 mc17_eq Try.ntmps17 (by kernel_rfl) mr17_eq hla h
def lv18 : List Nat := [0, 1, 4, 5, 10, 14, 25]
def mc18 : MC :=
.seq (.reg [
    ⟨.l 4, .mv (.c (.p (.b false))), none⟩]) (
  .seq (.seq (.reg [
    ⟨.t 6, .mv (.l 0), none⟩,
    ⟨.t 7, .len false (.t 6), none⟩,
    ⟨.t 8, .mv (.l 1), none⟩,
    ⟨.t 9, .len false (.t 8), none⟩,
    ⟨.l 10, .bin .neq (.t 7) (.t 9), none⟩]) (
  .cond (.l 10) (
    .seq (.reg [
      ⟨.l 4, .mv (.c (.p (.b false))), none⟩]) (
    .ret)) (
    .skip))) (
  .seq (.seq (.reg [
    ⟨.l 5, .mv (.c (.p (.i .i64 0))), none⟩]) (
  .blk 0 (
    .loop (
      .seq (.seq (.reg [
        ⟨.t 11, .mv (.l 5), none⟩,
        ⟨.t 12, .mv (.l 0), none⟩,
        ⟨.t 13, .len false (.t 12), none⟩,
        ⟨.l 14, .bin .lss (.t 11) (.t 13), none⟩]) (
      .cond (.l 14) (
        .skip) (
        .exit 0))) (
      .seq (.blk 1 (
        .seq (.drw [
          ⟨.t 17, .mv (.l 0), none⟩,
          ⟨.t 18, .mv (.l 5), none⟩,
          ⟨.t 19, .ixs 1 (.t 17) (.t 18), none⟩,
          ⟨.t 20, .ld false 1 (.t 19), none⟩,
          ⟨.t 21, .mv (.l 1), none⟩,
          ⟨.t 22, .mv (.l 5), none⟩,
          ⟨.t 23, .ixs 1 (.t 21) (.t 22), none⟩,
          ⟨.t 24, .ld false 1 (.t 23), none⟩] [
          ⟨.l 25, .bin .neq (.t 20) (.t 24), none⟩]) (
        .cond (.l 25) (
          .seq (.reg [
            ⟨.l 4, .mv (.c (.p (.b false))), none⟩]) (
          .ret)) (
          .skip)))) (
      .reg [
        ⟨.t 15, .mv (.l 5), none⟩,
        ⟨.t 16, .bin .add (.t 15) (.c (.p (.i .i64 1))), none⟩,
        ⟨.l 5, .mv (.t 16), none⟩])))))) (
  .seq (.reg [
    ⟨.l 4, .mv (.c (.p (.b true))), none⟩]) (
  .ret))))
theorem mc18_eq : (Try.f18.body.map (compile lv18 Try.prog 26)) = some mc18 := by kernel_rfl
def mr18 : List MR := [.t 4]
theorem mr18_eq : cRess lv18 Try.prog Try.f18.results.toList = some mr18 := by kernel_rfl
theorem call18 {args : List AV} {H : List AO} {Q : AV → List AO → Prop} (hla : args.length ≤ 26) (h : wpm (ACall Try.prog) mc18 (finK mr18 Q) ⟨argEnv 0 args, [], H⟩) : ACall Try.prog 18 args H Q :=
  acall_mc (by kernel_rfl) Try.func18 mc18_eq Try.ntmps18 (by kernel_rfl) mr18_eq hla h
def lv66 : List Nat := [0, 2, 3, 4, 7, 15]
def mc66 : MC :=
.seq (.reg [
    ⟨.l 2, .mv (.c (.p (.i .i64 0))), none⟩]) (
  .seq (.seq (.reg [
    ⟨.t 5, .mv (.l 0), none⟩,
    ⟨.t 6, .len false (.t 5), none⟩,
    ⟨.l 7, .bin .lss (.t 6) (.c (.p (.i .i64 1))), none⟩]) (
  .cond (.l 7) (
    .reg [
      ⟨.no, .stop, none⟩,
      ⟨.no, .stop, none⟩]) (
    .skip))) (
  .seq (.reg [
    ⟨.t 9, .mv (.l 0), none⟩,
    ⟨.t 10, .ixs 1 (.t 9) (.c (.p (.i .i64 0))), none⟩,
    ⟨.t 11, .ld false 1 (.t 10), none⟩,
    ⟨.l 3, .mv (.t 11), none⟩]) (
  .seq (.seq (.reg [
    ⟨.l 4, .mv (.c (.p (.i .i64 1))), none⟩]) (
  .blk 0 (
    .loop (
      .seq (.seq (.reg [
        ⟨.t 12, .mv (.l 4), none⟩,
        ⟨.t 13, .mv (.l 0), none⟩,
        ⟨.t 14, .len false (.t 13), none⟩,
        ⟨.l 15, .bin .lss (.t 12) (.t 14), none⟩]) (
      .cond (.l 15) (
        .skip) (
        .exit 0))) (
      .seq (.blk 1 (
        .reg [
          ⟨.t 18, .mv (.l 3), none⟩,
          ⟨.t 19, .mv (.l 0), none⟩,
          ⟨.t 20, .mv (.l 4), none⟩,
          ⟨.t 21, .ixs 1 (.t 19) (.t 20), none⟩,
          ⟨.t 22, .ld false 1 (.t 21), none⟩,
          ⟨.t 23, .mnx true (.t 18) (.t 22), none⟩,
          ⟨.l 3, .mv (.t 23), none⟩])) (
      .reg [
        ⟨.t 16, .mv (.l 4), none⟩,
        ⟨.t 17, .bin .add (.t 16) (.c (.p (.i .i64 1))), none⟩,
        ⟨.l 4, .mv (.t 17), none⟩])))))) (
  .seq (.reg [
    ⟨.t 24, .mv (.l 3), none⟩,
    ⟨.l 2, .mv (.t 24), none⟩]) (
  .ret)))))
theorem mc66_eq : (Try.f66.body.map (compile lv66 Try.prog 25)) = some mc66 := by kernel_rfl
def mr66 : List MR := [.t 2]
theorem mr66_eq : cRess lv66 Try.prog Try.f66.results.toList = some mr66 := by kernel_rfl
theorem call66 {args : List AV} {H : List AO} {Q : AV → List AO → Prop} (hla : args.length ≤ 25) (h : wpm (ACall Try.prog) mc66 (finK mr66 Q) ⟨argEnv 0 args, [], H⟩) : ACall Try.prog 66 args H Q :=
  acall_mc (by kernel_rfl) Try.func66 mc66_eq Try.ntmps66 (by kernel_rfl) mr66_eq hla h
def lv67 : List Nat := [0, 1, 4, 5, 7, 8, 9, 16]
def mc67 : MC :=
.seq (.reg [
    ⟨.l 4, .mv (.c (.p (.i .i64 0))), none⟩]) (
  .seq (.seq (.reg [
    ⟨.t 6, .mv (.l 0), none⟩,
    ⟨.l 7, .len false (.t 6), none⟩,
    ⟨.l 8, .mv (.c (.p (.i .i64 0))), none⟩]) (
  .blk 0 (
    .loop (
      .seq (.reg [
        ⟨.l 9, .bin .lss (.l 8) (.l 7), none⟩]) (
      .seq (.cond (.l 9) (
        .skip) (
        .exit 0)) (
      .seq (.blk 1 (
        .seq (.reg [
          ⟨.t 10, .mv (.l 8), none⟩,
          ⟨.l 5, .mv (.t 10), none⟩]) (
        .seq (.reg [
          ⟨.t 11, .mv (.l 1), none⟩,
          ⟨.t 12, .mv (.l 0), none⟩,
          ⟨.t 13, .mv (.l 5), none⟩,
          ⟨.t 14, .ixs 1 (.t 12) (.t 13), none⟩,
          ⟨.t 15, .ld false 1 (.t 14), none⟩,
          ⟨.l 16, .bin .eql (.t 11) (.t 15), none⟩]) (
        .cond (.l 16) (
          .seq (.reg [
            ⟨.t 17, .mv (.l 5), none⟩,
            ⟨.l 4, .mv (.t 17), none⟩]) (
          .ret)) (
          .skip))))) (
      .reg [
        ⟨.t 18, .bin .add (.l 8) (.c (.p (.i .i64 1))), none⟩,
        ⟨.l 8, .mv (.t 18), none⟩]))))))) (
  .seq (.reg [
    ⟨.l 4, .mv (.c (.p (.i .i64 (-1)))), none⟩]) (
  .ret)))
theorem mc67_eq : (Try.f67.body.map (compile lv67 Try.prog 19)) = some mc67 := by kernel_rfl
def mr67 : List MR := [.t 4]
theorem mr67_eq : cRess lv67 Try.prog Try.f67.results.toList = some mr67 := by kernel_rfl
theorem call67 {args : List AV} {H : List AO} {Q : AV → List AO → Prop} (hla : args.length ≤ 19) (h : wpm (ACall Try.prog) mc67 (finK mr67 Q) ⟨argEnv 0 args, [], H⟩) : ACall Try.prog 67 args H Q :=
  acall_mc (by kernel_rfl) Try.func67 mc67_eq Try.ntmps67 (by kernel_rfl) mr67_eq hla h
end Go.Proofs.Ytmbggdfceecojaa.Mc

/- Hottest: what the functions do. -/
set_option linter.all false
namespace Go.Proofs.Ytmbggdfceecojaa.Ho
open Go.AM Mc

def ints (zs : List Int) : List (List PV) := zs.map fun z => [.i .i64 z]
theorem ints_len (zs : List Int) : (ints zs).length = zs.length := by simp [ints]
theorem ints_get (zs : List Int) (i : Nat) : (ints zs)[i]? = zs[i]?.map fun z => [.i .i64 z] := by simp [ints]
theorem ints_at (zs : List Int) {i : Nat} (h : i < zs.length) : (ints zs)[i]? = some [.i .i64 zs[i]] := by simp [ints, h]
theorem wr64 {n : Int} (h1 : -9223372036854775808 ≤ n) (h2 : n ≤ 9223372036854775807) : wr .i64 n = n := by
  simp [wr, IntKind.wrap, IntKind.bits, IntKind.signed]
  omega
theorem wr1 {n : Nat} {m : Nat} (h : n < m) (hm : m ≤ maxL) : wr .i64 ((n : Int) + 1) = ((n + 1 : Nat) : Int) := by
  unfold maxL at hm
  rw [wr64 (by omega) (by omega)]; simp

theorem eqIntS (xs ys : List Int) (hx : xs.length ≤ maxL) (hy : ys.length ≤ maxL) : ACall Try.prog 18 [.p (.l (ints xs)), .p (.l (ints ys))] [] (fun r H => r = .p (.b (decide (xs = ys)))) := by
  refine call18 (by simp) ?_
  simp only [mc18, mr18, go_sem, Nat.reduceEqDiff, reduceIte, ↓reduceIte, Nat.reduceAdd, ints_len]
  intro _ _
  refine condK_split _ (fun hc => ?_) (fun hc => ?_)
  · simp only [go_sem, Nat.reduceEqDiff, reduceIte, ↓reduceIte, Nat.reduceAdd]
    have : xs ≠ ys := by rintro rfl; simp at hc
    simp [this]
  · have hl : xs.length = ys.length := by simp at hc; omega
    simp only [go_sem, Nat.reduceEqDiff, reduceIte, ↓reduceIte, Nat.reduceAdd]
    refine ⟨Nat, [0, 1, 4, 5], fun i st => i ≤ xs.length ∧ xs.take i = ys.take i ∧ st = ⟨[(0, .p (.l (ints xs))), (1, .p (.l (ints ys))), (4, .p (.b false)), (5, .p (.i .i64 i))], [], []⟩, fun i => xs.length - i, ⟨0, ?_⟩, ?_⟩
    · simp only [go_sem, Nat.reduceEqDiff, reduceIte, ↓reduceIte, Nat.reduceAdd]
      exact ⟨Nat.zero_le _, rfl, rfl⟩
    · rintro i st ⟨hi, ht, rfl⟩
      simp only [go_sem, Nat.reduceEqDiff, reduceIte, ↓reduceIte, Nat.reduceAdd, ints_len]
      intro _
      refine condK_split _ (fun hc => ?_) (fun hc => ?_)
      · have hil : i < xs.length := by simpa using hc
        have hiy : i < ys.length := by omega
        simp only [go_sem, Nat.reduceEqDiff, reduceIte, ↓reduceIte, Nat.reduceAdd]
        (refine drw_same ?_; simp only [go_sem, Nat.reduceEqDiff, reduceIte, ↓reduceIte, Nat.reduceAdd, ints_at _ hil, ints_at _ hiy])
        refine condK_split _ (fun hd => ?_) (fun hd => ?_)
        · simp only [go_sem, Nat.reduceEqDiff, reduceIte, ↓reduceIte, Nat.reduceAdd]
          have : xs ≠ ys := by rintro rfl; simp at hd
          simp [this]
        · simp only [go_sem, Nat.reduceEqDiff, reduceIte, ↓reduceIte, Nat.reduceAdd]
          have he : xs[i] = ys[i] := by simpa using hd
          refine ⟨i + 1, ⟨hil, ?_, ?_⟩, by omega⟩
          · rw [List.take_succ, List.take_succ, ht, List.getElem?_eq_getElem hil, List.getElem?_eq_getElem hiy, he]
          · rw [wr1 hil hx]
      · have hil : i = xs.length := by simp at hc; omega
        simp only [go_sem, Nat.reduceEqDiff, reduceIte, ↓reduceIte, Nat.reduceAdd]
        subst hil
        have : xs = ys := by
          rw [List.take_length, hl, List.take_length] at ht
          exact ht
        simp [this]

/-- the place of the first greatest -/
def IsHot (zs : List Int) (j : Nat) : Prop := ∃ h : j < zs.length, ∀ k (hk : k < zs.length), zs[k] ≤ zs[j] ∧ (k < j → zs[k] < zs[j])

theorem IsHot.uniq {zs : List Int} {j j' : Nat} (h : IsHot zs j) (h' : IsHot zs j') : j = j' := by
  obtain ⟨a, b⟩ := h
  obtain ⟨a', b'⟩ := h'
  rcases Nat.lt_trichotomy j j' with hlt | he | hlt
  · have := (b' j a).2 hlt; have := (b j' a').1; omega
  · exact he
  · have := (b j' a').2 hlt; have := (b' j a).1; omega

def HotRes (zs : List Int) (r : AV) : Prop :=
  (zs = [] ∧ r = .tup [.p (.i .i64 (-1)), .p (.i .i64 0)]) ∨ ∃ j, ∃ h : j < zs.length, IsHot zs j ∧ r = .tup [.p (.i .i64 j), .p (.i .i64 zs[j])]

theorem specHottest (zs : List Int) (hz : zs.length ≤ maxL) : ACall Try.prog 15 [.p (.l (ints zs))] [] (fun r H => HotRes zs r) := by
  refine call15 (by simp) ?_
  simp only [mc15, mr15, go_sem, Nat.reduceEqDiff, reduceIte, ↓reduceIte, Nat.reduceAdd, ints_len]
  intro _
  refine condK_split _ (fun hc => ?_) (fun hc => ?_)
  · simp only [go_sem, Nat.reduceEqDiff, reduceIte, ↓reduceIte, Nat.reduceAdd]
    have : zs = [] := by apply List.eq_nil_of_length_eq_zero; simp at hc; simp [hc]
    exact .inl ⟨this, rfl⟩
  · have hpos : 0 < zs.length := by simp at hc; exact List.length_pos_iff.2 (by rintro rfl; simp at hc)
    simp only [go_sem, Nat.reduceEqDiff, reduceIte, ↓reduceIte, Nat.reduceAdd]
    refine ⟨Nat × Nat, [0, 2, 3, 4, 5], fun x st => x.1 ≤ zs.length ∧ (∃ hb : x.2 < zs.length, ∀ k (hk : k < zs.length), k < x.1 → zs[k] ≤ zs[x.2] ∧ (k < x.2 → zs[k] < zs[x.2])) ∧ (x.2 < x.1 ∨ x.2 = 0) ∧
      st = ⟨[(0, .p (.l (ints zs))), (2, .p (.i .i64 0)), (3, .p (.i .i64 0)), (4, .p (.i .i64 x.2)), (5, .p (.i .i64 x.1))], [], []⟩, fun x => zs.length - x.1, ⟨(0, 0), ?_⟩, ?_⟩
    · simp only [go_sem, Nat.reduceEqDiff, reduceIte, ↓reduceIte, Nat.reduceAdd]
      exact ⟨Nat.zero_le _, ⟨hpos, fun k hk h0 => by omega⟩, .inr trivial, rfl⟩
    · rintro ⟨i, b⟩ st ⟨hi, ⟨hb, hmax⟩, hbi, rfl⟩
      simp only at hi hb hmax hbi
      simp only [go_sem, Nat.reduceEqDiff, reduceIte, ↓reduceIte, Nat.reduceAdd, ints_len]
      intro _
      refine condK_split _ (fun hc => ?_) (fun hc => ?_)
      · have hil : i < zs.length := by simpa using hc
        simp only [go_sem, Nat.reduceEqDiff, reduceIte, ↓reduceIte, Nat.reduceAdd]
        (refine drw_same ?_; simp only [go_sem, Nat.reduceEqDiff, reduceIte, ↓reduceIte, Nat.reduceAdd, ints_at _ hil, ints_at _ hb])
        refine condK_split _ (fun hd => ?_) (fun hd => ?_)
        · simp only [go_sem, Nat.reduceEqDiff, reduceIte, ↓reduceIte, Nat.reduceAdd]
          have hgt : zs[b] < zs[i] := by simpa using hd
          refine ⟨(i + 1, i), ⟨hil, ⟨hil, fun k hk hki => ?_⟩, .inl (by simp), ?_⟩, by simp; omega⟩
          · simp only at hki ⊢
            by_cases e : k = i
            · subst e; exact ⟨Int.le_refl _, fun h => by omega⟩
            · have := (hmax k hk (by omega)).1
              exact ⟨by omega, fun _ => by omega⟩
          · rw [wr1 hil hz]
        · simp only [go_sem, Nat.reduceEqDiff, reduceIte, ↓reduceIte, Nat.reduceAdd]
          have hle : zs[i] ≤ zs[b] := by simpa using hd
          refine ⟨(i + 1, b), ⟨hil, ⟨hb, fun k hk hki => ?_⟩, ?_, ?_⟩, by simp; omega⟩
          · simp only at hki ⊢
            by_cases e : k = i
            · subst e; exact ⟨hle, fun h => by omega⟩
            · exact hmax k hk (by omega)
          · rcases hbi with h | h
            · exact .inl (by simp; omega)
            · exact .inr h
          · rw [wr1 hil hz]
      · have hil : i = zs.length := by simp at hc; omega
        simp only [go_sem, Nat.reduceEqDiff, reduceIte, ↓reduceIte, Nat.reduceAdd]
        (refine drw_same ?_; simp only [go_sem, Nat.reduceEqDiff, reduceIte, ↓reduceIte, Nat.reduceAdd, ints_at _ hb])
        exact .inr ⟨b, hb, ⟨hb, fun k hk => hmax k hk (by omega)⟩, rfl⟩

/-- rows of which the first i are laid -/
def fill {α : Type} (f : α → List AV) (z : List AV) (zs : List α) (i : Nat) : List (List AV) := (zs.take i).map f ++ List.replicate (zs.length - i) z
theorem fill_zero {α : Type} (f : α → List AV) (z : List AV) (zs : List α) : fill f z zs 0 = List.replicate zs.length z := by simp [fill]
theorem fill_all {α : Type} (f : α → List AV) (z : List AV) (zs : List α) : fill f z zs zs.length = zs.map f := by simp [fill]
theorem fill_get {α : Type} (f : α → List AV) (z : List AV) (zs : List α) {i : Nat} (h : i < zs.length) : (fill f z zs i)[i]? = some z := by
  unfold fill
  rw [List.getElem?_append_right (by simp; omega), List.getElem?_replicate]
  simp; omega
theorem fill_set {α : Type} (f : α → List AV) (z : List AV) (zs : List α) {i : Nat} (h : i < zs.length) : (fill f z zs i).set i (f zs[i]) = fill f z zs (i + 1) := by
  unfold fill
  rw [List.set_append_right _ _ (by simp; omega), List.take_succ, List.getElem?_eq_getElem h]
  have h1 : zs.length - i = (zs.length - (i + 1)) + 1 := by omega
  have h2 : i - ((zs.take i).map f).length = 0 := by simp; omega
  rw [h1, h2, List.replicate_succ]
  simp only [List.set_cons_zero, List.map_append, List.append_assoc, Option.toList_some, List.map_cons, List.map_nil, List.cons_append, List.nil_append]

theorem toIntS (zs : List Int) (hz : zs.length ≤ 1048576) (H : List AO) : ACall Try.prog 16 [.p (.l (ints zs))] H (fun r H' => r = .gs H.length 0 0 zs.length ∧ H' = H ++ [.rows 1 0 (zs.map fun z => [.p (.i .i64 z)])]) := by
  have hm : zs.length ≤ maxL := by unfold maxL; omega
  refine call16 (by simp) ?_
  simp only [mc16, mr16, go_sem, Nat.reduceEqDiff, reduceIte, ↓reduceIte, Nat.reduceAdd, ints_len]
  intro _
  refine ⟨by omega, by omega, by omega, ?_⟩
  refine ⟨Nat, [0, 2, 3, 4], fun i st => i ≤ zs.length ∧ st = ⟨[(0, .p (.l (ints zs))), (2, .p .nl), (3, .gs H.length 0 0 zs.length), (4, .p (.i .i64 i))], [], H ++ [.rows 1 0 (fill (fun z => [.p (.i .i64 z)]) [.p (.i .i64 0)] zs i)]⟩, fun i => zs.length - i, ⟨0, ?_⟩, ?_⟩
  · simp only [go_sem, Nat.reduceEqDiff, reduceIte, ↓reduceIte, Nat.reduceAdd]
    exact ⟨Nat.zero_le _, by rw [fill_zero]; rfl⟩
  · rintro i st ⟨hi, rfl⟩
    simp only [go_sem, Nat.reduceEqDiff, reduceIte, ↓reduceIte, Nat.reduceAdd, ints_len]
    intro _
    refine condK_split _ (fun hc => ?_) (fun hc => ?_)
    · have hil : i < zs.length := by simpa using hc
      simp only [go_sem, Nat.reduceEqDiff, reduceIte, ↓reduceIte, Nat.reduceAdd, ints_at _ hil, List.getElem?_append_right (Nat.le_refl _), Nat.sub_self, fill_get _ _ _ hil]
      refine ⟨by omega, ?_⟩
      rw [stoR_at (fill_get _ _ _ hil) rfl]
      simp only [go_sem, Nat.reduceEqDiff, reduceIte, ↓reduceIte, Nat.reduceAdd]
      refine ⟨i + 1, ⟨hil, ?_⟩, by omega⟩
      rw [wr1 hil hm, ← fill_set _ _ _ hil]
    · have hil : i = zs.length := by simp at hc; omega
      simp only [go_sem, Nat.reduceEqDiff, reduceIte, ↓reduceIte, Nat.reduceAdd]
      subst hil
      rw [fill_all]

theorem maxS (zs : List Int) (hz : zs.length ≤ maxL) (hpos : 0 < zs.length) : ACall Try.prog 66 [.p (.l (ints zs))] [] (fun r H => ∃ m, r = .p (.i .i64 m) ∧ m ∈ zs ∧ ∀ z ∈ zs, z ≤ m) := by
  refine call66 (by simp) ?_
  simp only [mc66, mr66, go_sem, Nat.reduceEqDiff, reduceIte, ↓reduceIte, Nat.reduceAdd, ints_len]
  intro _
  refine condK_split _ (fun hc => ?_) (fun hc => ?_)
  · simp at hc; omega
  · simp only [go_sem, Nat.reduceEqDiff, reduceIte, ↓reduceIte, Nat.reduceAdd, Int.toNat_zero, ints_at _ hpos]
    refine ⟨by omega, ?_⟩
    refine ⟨Nat × Int, [0, 2, 3, 4], fun x st => 1 ≤ x.1 ∧ x.1 ≤ zs.length ∧ x.2 ∈ zs ∧ (∀ k (hk : k < zs.length), k < x.1 → zs[k] ≤ x.2) ∧
      st = ⟨[(0, .p (.l (ints zs))), (2, .p (.i .i64 0)), (3, .p (.i .i64 x.2)), (4, .p (.i .i64 x.1))], [], []⟩, fun x => zs.length - x.1, ⟨(1, zs[0]), ?_⟩, ?_⟩
    · simp only [go_sem, Nat.reduceEqDiff, reduceIte, ↓reduceIte, Nat.reduceAdd]
      refine ⟨Nat.le_refl _, hpos, List.getElem_mem hpos, fun k hk h1 => ?_, rfl⟩
      have : k = 0 := by omega
      subst this
      exact Int.le_refl _
    · rintro ⟨i, m⟩ st ⟨h1, hi, hm, hmax, rfl⟩
      simp only at h1 hi hm hmax
      simp only [go_sem, Nat.reduceEqDiff, reduceIte, ↓reduceIte, Nat.reduceAdd, ints_len]
      intro _
      refine condK_split _ (fun hc => ?_) (fun hc => ?_)
      · have hil : i < zs.length := by simpa using hc
        simp only [go_sem, Nat.reduceEqDiff, reduceIte, ↓reduceIte, Nat.reduceAdd, ints_at _ hil]
        refine ⟨(i + 1, if zs[i] > m then zs[i] else m), ⟨by omega, hil, ?_, ?_, ?_⟩, by simp; omega⟩
        · simp only; split
          · exact List.getElem_mem hil
          · exact hm
        · intro k hk hki
          simp only at hki ⊢
          by_cases e : k = i
          · subst e; split <;> omega
          · have := hmax k hk (by omega)
            split <;> omega
        · rw [wr1 hil hz]
      · have hil : i = zs.length := by simp at hc; omega
        simp only [go_sem, Nat.reduceEqDiff, reduceIte, ↓reduceIte, Nat.reduceAdd]
        refine ⟨m, rfl, hm, fun z hzm => ?_⟩
        obtain ⟨k, hk, rfl⟩ := List.mem_iff_getElem.1 hzm
        exact hmax k hk (by omega)

theorem indexS (zs : List Int) (hz : zs.length ≤ maxL) (m : Int) (hm : m ∈ zs) : ACall Try.prog 67 [.p (.l (ints zs)), .p (.i .i64 m)] [] (fun r H => ∃ j, ∃ h : j < zs.length, r = .p (.i .i64 j) ∧ zs[j] = m ∧ ∀ k (hk : k < zs.length), k < j → zs[k] ≠ m) := by
  refine call67 (by simp) ?_
  simp only [mc67, mr67, go_sem, Nat.reduceEqDiff, reduceIte, ↓reduceIte, Nat.reduceAdd, ints_len]
  intro _
  refine ⟨Nat, [0, 1, 4, 7, 8], fun i st => i ≤ zs.length ∧ (∀ k (hk : k < zs.length), k < i → zs[k] ≠ m) ∧
      st = ⟨[(0, .p (.l (ints zs))), (1, .p (.i .i64 m)), (4, .p (.i .i64 0)), (7, .p (.i .i64 zs.length)), (8, .p (.i .i64 i))], [], []⟩, fun i => zs.length - i, ⟨0, ?_⟩, ?_⟩
  · simp only [go_sem, Nat.reduceEqDiff, reduceIte, ↓reduceIte, Nat.reduceAdd]
    exact ⟨Nat.zero_le _, fun k hk h0 => by omega, rfl⟩
  · rintro i st ⟨hi, hne, rfl⟩
    simp only [go_sem, Nat.reduceEqDiff, reduceIte, ↓reduceIte, Nat.reduceAdd, ints_len]
    refine condK_split _ (fun hc => ?_) (fun hc => ?_)
    · have hil : i < zs.length := by simpa using hc
      simp only [go_sem, Nat.reduceEqDiff, reduceIte, ↓reduceIte, Nat.reduceAdd, ints_at _ hil]
      refine condK_split _ (fun hd => ?_) (fun hd => ?_)
      · simp only [go_sem, Nat.reduceEqDiff, reduceIte, ↓reduceIte, Nat.reduceAdd]
        have he : m = zs[i] := by simpa using hd
        exact ⟨i, hil, rfl, he.symm, hne⟩
      · simp only [go_sem, Nat.reduceEqDiff, reduceIte, ↓reduceIte, Nat.reduceAdd]
        have he : ¬ m = zs[i] := by simpa using hd
        refine ⟨i + 1, ⟨hil, fun k hk hki => ?_, ?_⟩, by omega⟩
        · by_cases e : k = i
          · subst e; exact fun h => he h.symm
          · exact hne k hk (by omega)
        · rw [wr1 hil hz]
    · have hil : i = zs.length := by simp at hc; omega
      obtain ⟨k, hk, rfl⟩ := List.mem_iff_getElem.1 hm
      exact (hne k hk (by omega) rfl).elim

theorem implHottest (zs : List Int) (hz : zs.length ≤ maxL) : ACall Try.prog 17 [.p (.l (ints zs))] [] (fun r H => HotRes zs r) := by
  refine call17 (by simp) ?_
  simp only [mc17, mr17, go_sem, Nat.reduceEqDiff, reduceIte, ↓reduceIte, Nat.reduceAdd, ints_len]
  intro _
  refine condK_split _ (fun hc => ?_) (fun hc => ?_)
  · simp only [go_sem, Nat.reduceEqDiff, reduceIte, ↓reduceIte, Nat.reduceAdd]
    have : zs = [] := by apply List.eq_nil_of_length_eq_zero; simp at hc; simp [hc]
    exact .inl ⟨this, rfl⟩
  · have hpos : 0 < zs.length := by simp at hc; exact List.length_pos_iff.2 (by rintro rfl; simp at hc)
    simp only [go_sem, Nat.reduceEqDiff, reduceIte, ↓reduceIte, Nat.reduceAdd]
    refine (acall_lend (maxS zs hz hpos) (fun r H' ⟨m, hr, _⟩ => by subst hr; exact grnd_i _ _) (lentAll_cons (.pure _) (lentAll_nil _))).mono ?_
    rintro r H' ⟨rfl, _, m, rfl, hm, hmax⟩
    simp only [go_sem, Nat.reduceEqDiff, reduceIte, ↓reduceIte, Nat.reduceAdd]
    refine (acall_lend (indexS zs hz m hm) (fun r H' ⟨j, h, hr, _⟩ => by subst hr; exact grnd_i _ _) (lentAll_cons (.pure _) (lentAll_cons (.pure _) (lentAll_nil _)))).mono ?_
    rintro r H' ⟨rfl, _, j, hj, rfl, hjm, hne⟩
    simp only [go_sem, Nat.reduceEqDiff, reduceIte, ↓reduceIte, Nat.reduceAdd]
    refine .inr ⟨j, hj, ⟨hj, fun k hk => ⟨?_, fun hkj => ?_⟩⟩, ?_⟩
    · rw [hjm]; exact hmax _ (List.getElem_mem hk)
    · have h1 := hmax _ (List.getElem_mem hk)
      have h2 := hne k hk hkj
      rw [hjm]; omega
    · rw [hjm]

theorem hot_ground {zs : List Int} {r : AV} (h : HotRes zs r) : Grnd r := by
  rcases h with ⟨_, rfl⟩ | ⟨j, hj, _, rfl⟩
  · exact grnd_tup _ (by simp; exact ⟨grnd_i _ _, grnd_i _ _⟩)
  · exact grnd_tup _ (by simp; exact ⟨grnd_i _ _, grnd_i _ _⟩)

theorem hot_form {zs : List Int} {r r' : AV} (h : HotRes zs r) (h' : HotRes zs r') : ∃ a b : Int, r = .tup [.p (.i .i64 a), .p (.i .i64 b)] ∧ r' = .tup [.p (.i .i64 a), .p (.i .i64 b)] := by
  rcases h with ⟨h, rfl⟩ | ⟨j, hj, hh, rfl⟩ <;> rcases h' with ⟨h2, rfl⟩ | ⟨j', hj', hh', rfl⟩
  · exact ⟨_, _, rfl, rfl⟩
  · subst h; simp at hj'
  · subst h2; simp at hj
  · have := hh.uniq hh'
    subst this
    exact ⟨_, _, rfl, rfl⟩

theorem lent_ints (zs : List Int) {H : List AO} {id : Nat} (hid : H[id]? = some (.rows 1 0 (zs.map fun z => [.p (.i .i64 z)]))) : Lent H (.gs id 0 0 zs.length) (.p (.l (ints zs))) := by
  refine .gs id 0 0 _ 1 _ (ints zs) hid (by simp) (ints_len zs) (fun y hy => by obtain ⟨z, _, rfl⟩ := List.mem_map.1 hy; rfl) ?_
  intro i r y j c q hr hy hc hq
  rw [Nat.zero_add, List.getElem?_map] at hr
  rw [ints_get] at hy
  cases hz : zs[i]? with
  | none => rw [hz] at hr; cases hr
  | some z =>
    rw [hz] at hr hy
    cases hr; cases hy
    cases j with
    | zero => cases hc; cases hq; exact .pure _
    | succ j => simp at hc

theorem law (zs : List Int) (hz : zs.length ≤ maxL) : ACall Try.prog 3 [.p (.l (ints zs))] [] (fun r _ => r = .p (.b true)) := by
  refine call3 (by simp) ?_
  simp only [mc3, mr3, go_sem, Nat.reduceEqDiff, reduceIte, ↓reduceIte, Nat.reduceAdd, ints_len]
  intro _
  refine condK_split _ (fun hc => ?_) (fun hc => ?_)
  · simp only [go_sem, Nat.reduceEqDiff, reduceIte, ↓reduceIte, Nat.reduceAdd]
  · have hn : zs.length ≤ 1048576 := by simp at hc; omega
    simp only [go_sem, Nat.reduceEqDiff, reduceIte, ↓reduceIte, Nat.reduceAdd]
    refine (toIntS zs hn []).mono ?_
    rintro r H' ⟨rfl, rfl⟩
    simp only [go_sem, Nat.reduceEqDiff, reduceIte, ↓reduceIte, Nat.reduceAdd]
    refine (acall_lend (specHottest zs hz) (fun r H' h => hot_ground h) (lentAll_cons (lent_ints zs rfl) (lentAll_nil _))).mono ?_
    rintro r H' ⟨rfl, _, hr⟩
    have hr0 := hr
    obtain ⟨a, b, rfl, _⟩ := hot_form hr hr
    simp only [go_sem, Nat.reduceEqDiff, reduceIte, ↓reduceIte, Nat.reduceAdd]
    refine (toIntS zs hn _).mono ?_
    rintro r H' ⟨rfl, rfl⟩
    simp only [go_sem, Nat.reduceEqDiff, reduceIte, ↓reduceIte, Nat.reduceAdd]
    refine (acall_lend (implHottest zs hz) (fun r H' h => hot_ground h) (lentAll_cons (lent_ints zs rfl) (lentAll_nil _))).mono ?_
    rintro r H' ⟨rfl, _, hr'⟩
    obtain ⟨a', b', e1, rfl⟩ := hot_form hr0 hr'
    cases e1
    simp only [go_sem, Nat.reduceEqDiff, reduceIte, ↓reduceIte, Nat.reduceAdd]
    refine (toIntS zs hn _).mono ?_
    rintro r H' ⟨rfl, rfl⟩
    simp only [go_sem, Nat.reduceEqDiff, reduceIte, ↓reduceIte, Nat.reduceAdd]
    refine (acall_lend (eqIntS zs zs hz hz) (fun r H' h => by subst h; exact grnd_b _) (lentAll_cons (lent_ints zs rfl) (lentAll_cons (lent_ints zs rfl) (lentAll_nil _)))).mono ?_
    rintro r H' ⟨rfl, _, rfl⟩
    simp only [go_sem, Nat.reduceEqDiff, reduceIte, ↓reduceIte, Nat.reduceAdd]

end Go.Proofs.Ytmbggdfceecojaa.Ho

/- THE SMALL CODES of functions 4 19 20 21 22 23 24 25 26 27 48 68 69 70 71 72 73 74 75 76 77 78 79 122 124 127 128 129 130 131 132 133 134 135 136 137 162 163 164 165 166 167 168 169 170 171 172 214, and their ties to the program (printed by wip/tools/mkties.sh). -/
set_option linter.all false
namespace Go.Proofs.Ytmbggdfceecojaa.Mc
open Go.AM
def lv19 : List Nat := [0, 1, 2, 4, 10, 16]
def mc19 : MC :=
.seq (.reg [
    ⟨.l 2, .box 2 (.l 0), none⟩,
    ⟨.l 4, .mv (.c (.p (.i .i64 0))), none⟩]) (
  .seq (.reg [
    ⟨.t 5, .fad 0 (.l 2), none⟩,
    ⟨.t 6, .ld false 1 (.t 5), none⟩,
    ⟨.t 7, .mv (.l 1), none⟩,
    ⟨.t 8, .call 68 [.t 6, .t 7], none⟩,
    ⟨.l 1, .mv (.t 8), none⟩]) (
  .seq (.seq (.reg [
    ⟨.t 9, .mv (.l 1), none⟩,
    ⟨.l 10, .bin .lss (.t 9) (.c (.p (.i .i64 0))), none⟩]) (
  .cond (.l 10) (
    .seq (.reg [
      ⟨.l 4, .mv (.c (.p (.i .i64 (-1)))), none⟩]) (
    .ret)) (
    .skip))) (
  .seq (.reg [
    ⟨.t 11, .fad 1 (.l 2), none⟩,
    ⟨.t 12, .ld false 1 (.t 11), none⟩,
    ⟨.t 13, .mv (.l 1), none⟩,
    ⟨.t 14, .call 69 [.t 12, .t 13], none⟩,
    ⟨.l 1, .mv (.t 14), none⟩]) (
  .seq (.seq (.reg [
    ⟨.t 15, .mv (.l 1), none⟩,
    ⟨.l 16, .bin .lss (.t 15) (.c (.p (.i .i64 0))), none⟩]) (
  .cond (.l 16) (
    .seq (.reg [
      ⟨.l 4, .mv (.c (.p (.i .i64 (-1)))), none⟩]) (
    .ret)) (
    .skip))) (
  .seq (.reg [
    ⟨.t 17, .mv (.l 1), none⟩,
    ⟨.l 4, .mv (.t 17), none⟩]) (
  .ret))))))
theorem mc19_eq : (Try.f19.body.map (compile lv19 Try.prog 18)) = some mc19 := by kernel_rfl
def mr19 : List MR := [.t 4]
theorem mr19_eq : cRess lv19 Try.prog Try.f19.results.toList = some mr19 := by kernel_rfl
theorem call19 {args : List AV} {H : List AO} {Q : AV → List AO → Prop} (hla : args.length ≤ 18) (h : wpm (ACall Try.prog) mc19 (finK mr19 Q) ⟨argEnv 0 args, [], H⟩) : ACall Try.prog 19 args H Q :=
  acall_mc (by kernel_rfl) Try.func19 mc19_eq Try.ntmps19 (by kernel_rfl) mr19_eq hla h
def lv21 : List Nat := [0, 1, 2, 3]
def mc21 : MC :=
.seq (.reg [
    ⟨.l 1, .box 2 (.l 0), none⟩,
    ⟨.l 2, .alloc [.p (.nl), .p (.nl)], none⟩]) (
  .seq (.reg [
    ⟨.l 3, .alloc [.p (.nl), .p (.nl)], none⟩]) (
  .seq (.reg [
    ⟨.t 4, .fad 0 (.l 1), none⟩,
    ⟨.t 5, .ld false 1 (.t 4), none⟩,
    ⟨.t 6, .call 73 [.t 5], none⟩,
    ⟨.t 7, .fad 0 (.l 3), none⟩,
    ⟨.no, .sto 1 (.t 7) (.t 6), none⟩]) (
  .seq (.reg [
    ⟨.t 8, .fad 1 (.l 1), none⟩,
    ⟨.t 9, .ld false 1 (.t 8), none⟩,
    ⟨.t 10, .call 16 [.t 9], none⟩,
    ⟨.t 11, .fad 1 (.l 3), none⟩,
    ⟨.no, .sto 1 (.t 11) (.t 10), none⟩]) (
  .seq (.reg [
    ⟨.t 12, .ld true 2 (.l 3), none⟩,
    ⟨.no, .sto 2 (.l 2) (.t 12), none⟩]) (
  .ret)))))
theorem mc21_eq : (Try.f21.body.map (compile lv21 Try.prog 13)) = some mc21 := by kernel_rfl
def mr21 : List MR := [.cell true 2 2]
theorem mr21_eq : cRess lv21 Try.prog Try.f21.results.toList = some mr21 := by kernel_rfl
theorem call21 {args : List AV} {H : List AO} {Q : AV → List AO → Prop} (hla : args.length ≤ 13) (h : wpm (ACall Try.prog) mc21 (finK mr21 Q) ⟨argEnv 0 args, [], H⟩) : ACall Try.prog 21 args H Q :=
  acall_mc (by kernel_rfl) Try.func21 mc21_eq Try.ntmps21 (by kernel_rfl) mr21_eq hla h
def lv24 : List Nat := [0, 1, 2, 3, 4, 10, 16]
def mc24 : MC :=
.seq (.reg [
    ⟨.l 2, .box 2 (.l 0), none⟩,
    ⟨.l 3, .box 2 (.l 1), none⟩,
    ⟨.l 4, .mv (.c (.p (.b false))), none⟩]) (
  .seq (.seq (.reg [
    ⟨.t 5, .fad 0 (.l 2), none⟩,
    ⟨.t 6, .ld false 1 (.t 5), none⟩,
    ⟨.t 7, .fad 0 (.l 3), none⟩,
    ⟨.t 8, .ld false 1 (.t 7), none⟩,
    ⟨.t 9, .call 78 [.t 6, .t 8], none⟩,
    ⟨.l 10, .un .not (.t 9), none⟩]) (
  .cond (.l 10) (
    .seq (.reg [
      ⟨.l 4, .mv (.c (.p (.b false))), none⟩]) (
    .ret)) (
    .skip))) (
  .seq (.seq (.reg [
    ⟨.t 11, .fad 1 (.l 2), none⟩,
    ⟨.t 12, .ld false 1 (.t 11), none⟩,
    ⟨.t 13, .fad 1 (.l 3), none⟩,
    ⟨.t 14, .ld false 1 (.t 13), none⟩,
    ⟨.t 15, .call 18 [.t 12, .t 14], none⟩,
    ⟨.l 16, .un .not (.t 15), none⟩]) (
  .cond (.l 16) (
    .seq (.reg [
      ⟨.l 4, .mv (.c (.p (.b false))), none⟩]) (
    .ret)) (
    .skip))) (
  .seq (.reg [
    ⟨.l 4, .mv (.c (.p (.b true))), none⟩]) (
  .ret))))
theorem mc24_eq : (Try.f24.body.map (compile lv24 Try.prog 17)) = some mc24 := by kernel_rfl
def mr24 : List MR := [.t 4]
theorem mr24_eq : cRess lv24 Try.prog Try.f24.results.toList = some mr24 := by kernel_rfl
theorem call24 {args : List AV} {H : List AO} {Q : AV → List AO → Prop} (hla : args.length ≤ 17) (h : wpm (ACall Try.prog) mc24 (finK mr24 Q) ⟨argEnv 0 args, [], H⟩) : ACall Try.prog 24 args H Q :=
  acall_mc (by kernel_rfl) Try.func24 mc24_eq Try.ntmps24 (by kernel_rfl) mr24_eq hla h
def lv25 : List Nat := [0, 1, 2, 4]
def mc25 : MC :=
.seq (.reg [
    ⟨.l 2, .box 2 (.l 0), none⟩,
    ⟨.l 4, .mv (.c (.p (.i .i64 0))), none⟩]) (
  .seq (.reg [
    ⟨.t 5, .fad 0 (.l 2), none⟩,
    ⟨.t 6, .ld false 1 (.t 5), none⟩,
    ⟨.t 7, .mv (.l 1), none⟩,
    ⟨.t 8, .call 79 [.t 6, .t 7], none⟩,
    ⟨.l 1, .mv (.t 8), none⟩]) (
  .seq (.reg [
    ⟨.t 9, .fad 1 (.l 2), none⟩,
    ⟨.t 10, .ld false 1 (.t 9), none⟩,
    ⟨.t 11, .mv (.l 1), none⟩,
    ⟨.t 12, .call 48 [.t 10, .t 11], none⟩,
    ⟨.l 1, .mv (.t 12), none⟩]) (
  .seq (.reg [
    ⟨.t 13, .mv (.l 1), none⟩,
    ⟨.l 4, .mv (.t 13), none⟩]) (
  .ret))))
theorem mc25_eq : (Try.f25.body.map (compile lv25 Try.prog 14)) = some mc25 := by kernel_rfl
def mr25 : List MR := [.t 4]
theorem mr25_eq : cRess lv25 Try.prog Try.f25.results.toList = some mr25 := by kernel_rfl
theorem call25 {args : List AV} {H : List AO} {Q : AV → List AO → Prop} (hla : args.length ≤ 14) (h : wpm (ACall Try.prog) mc25 (finK mr25 Q) ⟨argEnv 0 args, [], H⟩) : ACall Try.prog 25 args H Q :=
  acall_mc (by kernel_rfl) Try.func25 mc25_eq Try.ntmps25 (by kernel_rfl) mr25_eq hla h
def lv48 : List Nat := [0, 1, 4, 5, 9]
def mc48 : MC :=
.seq (.reg [
    ⟨.l 4, .mv (.c (.p (.i .i64 0))), none⟩]) (
  .seq (.seq (.reg [
    ⟨.l 5, .mv (.c (.p (.i .i64 0))), none⟩]) (
  .blk 0 (
    .loop (
      .seq (.seq (.reg [
        ⟨.t 6, .mv (.l 5), none⟩,
        ⟨.t 7, .mv (.l 0), none⟩,
        ⟨.t 8, .len false (.t 7), none⟩,
        ⟨.l 9, .bin .lss (.t 6) (.t 8), none⟩]) (
      .cond (.l 9) (
        .skip) (
        .exit 0))) (
      .seq (.blk 1 (
        .seq (.reg [
          ⟨.t 12, .mv (.l 0), none⟩,
          ⟨.t 13, .mv (.l 5), none⟩,
          ⟨.t 14, .mv (.l 1), none⟩,
          ⟨.t 15, .ixs 1 (.t 12) (.t 13), none⟩,
          ⟨.no, .sto 1 (.t 15) (.t 14), none⟩]) (
        .reg [
          ⟨.t 16, .mv (.l 1), none⟩,
          ⟨.t 17, .bin .add (.t 16) (.c (.p (.i .i64 1))), none⟩,
          ⟨.l 1, .mv (.t 17), none⟩]))) (
      .reg [
        ⟨.t 10, .mv (.l 5), none⟩,
        ⟨.t 11, .bin .add (.t 10) (.c (.p (.i .i64 1))), none⟩,
        ⟨.l 5, .mv (.t 11), none⟩])))))) (
  .seq (.reg [
    ⟨.t 18, .mv (.l 1), none⟩,
    ⟨.l 4, .mv (.t 18), none⟩]) (
  .ret)))
theorem mc48_eq : (Try.f48.body.map (compile lv48 Try.prog 19)) = some mc48 := by kernel_rfl
def mr48 : List MR := [.t 4]
theorem mr48_eq : cRess lv48 Try.prog Try.f48.results.toList = some mr48 := by kernel_rfl
theorem call48 {args : List AV} {H : List AO} {Q : AV → List AO → Prop} (hla : args.length ≤ 19) (h : wpm (ACall Try.prog) mc48 (finK mr48 Q) ⟨argEnv 0 args, [], H⟩) : ACall Try.prog 48 args H Q :=
  acall_mc (by kernel_rfl) Try.func48 mc48_eq Try.ntmps48 (by kernel_rfl) mr48_eq hla h
def lv68 : List Nat := [0, 1, 4, 5, 11, 15, 25]
def mc68 : MC :=
.seq (.reg [
    ⟨.l 4, .mv (.c (.p (.i .i64 0))), none⟩]) (
  .seq (.reg [
    ⟨.t 6, .mv (.l 1), none⟩,
    ⟨.t 7, .mv (.l 0), none⟩,
    ⟨.t 8, .len false (.t 7), none⟩,
    ⟨.t 9, .bin .sub (.t 6) (.t 8), none⟩,
    ⟨.l 1, .mv (.t 9), none⟩]) (
  .seq (.seq (.reg [
    ⟨.t 10, .mv (.l 1), none⟩,
    ⟨.l 11, .bin .lss (.t 10) (.c (.p (.i .i64 0))), none⟩]) (
  .cond (.l 11) (
    .seq (.reg [
      ⟨.l 4, .mv (.c (.p (.i .i64 (-1)))), none⟩]) (
    .ret)) (
    .skip))) (
  .seq (.seq (.reg [
    ⟨.l 5, .mv (.c (.p (.i .i64 0))), none⟩]) (
  .blk 0 (
    .loop (
      .seq (.seq (.reg [
        ⟨.t 12, .mv (.l 5), none⟩,
        ⟨.t 13, .mv (.l 0), none⟩,
        ⟨.t 14, .len false (.t 13), none⟩,
        ⟨.l 15, .bin .lss (.t 12) (.t 14), none⟩]) (
      .cond (.l 15) (
        .skip) (
        .exit 0))) (
      .seq (.blk 1 (
        .seq (.reg [
          ⟨.t 18, .mv (.l 0), none⟩,
          ⟨.t 19, .mv (.l 5), none⟩,
          ⟨.t 20, .ixs 6 (.t 18) (.t 19), none⟩,
          ⟨.t 21, .ld true 6 (.t 20), none⟩,
          ⟨.t 22, .mv (.l 1), none⟩,
          ⟨.t 23, .call 127 [.t 21, .t 22], none⟩,
          ⟨.l 1, .mv (.t 23), none⟩]) (
        .seq (.reg [
          ⟨.t 24, .mv (.l 1), none⟩,
          ⟨.l 25, .bin .lss (.t 24) (.c (.p (.i .i64 0))), none⟩]) (
        .cond (.l 25) (
          .seq (.reg [
            ⟨.l 4, .mv (.c (.p (.i .i64 (-1)))), none⟩]) (
          .ret)) (
          .skip))))) (
      .reg [
        ⟨.t 16, .mv (.l 5), none⟩,
        ⟨.t 17, .bin .add (.t 16) (.c (.p (.i .i64 1))), none⟩,
        ⟨.l 5, .mv (.t 17), none⟩])))))) (
  .seq (.reg [
    ⟨.t 26, .mv (.l 1), none⟩,
    ⟨.l 4, .mv (.t 26), none⟩]) (
  .ret)))))
theorem mc68_eq : (Try.f68.body.map (compile lv68 Try.prog 27)) = some mc68 := by kernel_rfl
def mr68 : List MR := [.t 4]
theorem mr68_eq : cRess lv68 Try.prog Try.f68.results.toList = some mr68 := by kernel_rfl
theorem call68 {args : List AV} {H : List AO} {Q : AV → List AO → Prop} (hla : args.length ≤ 27) (h : wpm (ACall Try.prog) mc68 (finK mr68 Q) ⟨argEnv 0 args, [], H⟩) : ACall Try.prog 68 args H Q :=
  acall_mc (by kernel_rfl) Try.func68 mc68_eq Try.ntmps68 (by kernel_rfl) mr68_eq hla h
def lv69 : List Nat := [0, 1, 4, 10]
def mc69 : MC :=
.seq (.reg [
    ⟨.l 4, .mv (.c (.p (.i .i64 0))), none⟩]) (
  .seq (.reg [
    ⟨.t 5, .mv (.l 1), none⟩,
    ⟨.t 6, .mv (.l 0), none⟩,
    ⟨.t 7, .len false (.t 6), none⟩,
    ⟨.t 8, .bin .sub (.t 5) (.t 7), none⟩,
    ⟨.l 1, .mv (.t 8), none⟩]) (
  .seq (.seq (.reg [
    ⟨.t 9, .mv (.l 1), none⟩,
    ⟨.l 10, .bin .lss (.t 9) (.c (.p (.i .i64 0))), none⟩]) (
  .cond (.l 10) (
    .seq (.reg [
      ⟨.l 4, .mv (.c (.p (.i .i64 (-1)))), none⟩]) (
    .ret)) (
    .skip))) (
  .seq (.reg [
    ⟨.t 11, .mv (.l 1), none⟩,
    ⟨.l 4, .mv (.t 11), none⟩]) (
  .ret))))
theorem mc69_eq : (Try.f69.body.map (compile lv69 Try.prog 12)) = some mc69 := by kernel_rfl
def mr69 : List MR := [.t 4]
theorem mr69_eq : cRess lv69 Try.prog Try.f69.results.toList = some mr69 := by kernel_rfl
theorem call69 {args : List AV} {H : List AO} {Q : AV → List AO → Prop} (hla : args.length ≤ 12) (h : wpm (ACall Try.prog) mc69 (finK mr69 Q) ⟨argEnv 0 args, [], H⟩) : ACall Try.prog 69 args H Q :=
  acall_mc (by kernel_rfl) Try.func69 mc69_eq Try.ntmps69 (by kernel_rfl) mr69_eq hla h
def lv70 : List Nat := [0, 1, 2, 3, 4, 5, 16, 21, 31, 36, 49]
def mc70 : MC :=
.seq (.reg [
    ⟨.l 1, .box 2 (.l 0), none⟩,
    ⟨.l 2, .mv (.c (.p (.b false))), none⟩]) (
  .seq (.seq (.reg [
    ⟨.t 6, .fad 0 (.l 1), none⟩,
    ⟨.t 7, .ld false 1 (.t 6), none⟩,
    ⟨.t 8, .len false (.t 7), none⟩,
    ⟨.t 9, .call 122 [.t 8, .c (.p (.i .i64 1)), .c (.p (.i .i64 40000))], none⟩,
    ⟨.t 10, .un .not (.t 9), none⟩,
    ⟨.t 11, .mv (.t 10), none⟩,
    ⟨.t 12, .fad 1 (.l 1), some ((.t 11), false)⟩,
    ⟨.t 13, .ld false 1 (.t 12), some ((.t 11), false)⟩,
    ⟨.t 14, .len false (.t 13), some ((.t 11), false)⟩,
    ⟨.t 15, .bin .gtr (.t 14) (.c (.p (.i .i64 400))), some ((.t 11), false)⟩,
    ⟨.l 16, .pick (.t 11) (.c (.p (.b true))) (.t 15), none⟩]) (
  .cond (.l 16) (
    .seq (.reg [
      ⟨.l 2, .mv (.c (.p (.b false))), none⟩]) (
    .ret)) (
    .skip))) (
  .seq (.seq (.reg [
    ⟨.l 3, .mv (.c (.p (.i .i64 0))), none⟩]) (
  .blk 0 (
    .loop (
      .seq (.seq (.reg [
        ⟨.t 17, .mv (.l 3), none⟩,
        ⟨.t 18, .fad 0 (.l 1), none⟩,
        ⟨.t 19, .ld false 1 (.t 18), none⟩,
        ⟨.t 20, .len false (.t 19), none⟩,
        ⟨.l 21, .bin .lss (.t 17) (.t 20), none⟩]) (
      .cond (.l 21) (
        .skip) (
        .exit 0))) (
      .seq (.blk 1 (
        .seq (.drw [
          ⟨.t 24, .fad 0 (.l 1), none⟩,
          ⟨.t 25, .ld false 1 (.t 24), none⟩,
          ⟨.t 26, .mv (.l 3), none⟩,
          ⟨.t 27, .ixs 6 (.t 25) (.t 26), none⟩,
          ⟨.t 28, .ld true 6 (.t 27), none⟩,
          ⟨.t 29, .ld true 2 (.l 1), none⟩] [
          ⟨.t 30, .call 128 [.t 28, .t 29], none⟩,
          ⟨.l 31, .un .not (.t 30), none⟩]) (
        .cond (.l 31) (
          .seq (.reg [
            ⟨.l 2, .mv (.c (.p (.b false))), none⟩]) (
          .ret)) (
          .skip)))) (
      .reg [
        ⟨.t 22, .mv (.l 3), none⟩,
        ⟨.t 23, .bin .add (.t 22) (.c (.p (.i .i64 1))), none⟩,
        ⟨.l 3, .mv (.t 23), none⟩])))))) (
  .seq (.seq (.reg [
    ⟨.l 4, .mv (.c (.p (.i .i64 0))), none⟩]) (
  .blk 2 (
    .loop (
      .seq (.seq (.reg [
        ⟨.t 32, .mv (.l 4), none⟩,
        ⟨.t 33, .fad 1 (.l 1), none⟩,
        ⟨.t 34, .ld false 1 (.t 33), none⟩,
        ⟨.t 35, .len false (.t 34), none⟩,
        ⟨.l 36, .bin .lss (.t 32) (.t 35), none⟩]) (
      .cond (.l 36) (
        .skip) (
        .exit 2))) (
      .seq (.blk 3 (
        .seq (.drw [
          ⟨.t 39, .fad 1 (.l 1), none⟩,
          ⟨.t 40, .ld false 1 (.t 39), none⟩,
          ⟨.t 41, .mv (.l 4), none⟩,
          ⟨.t 42, .ixs 1 (.t 40) (.t 41), none⟩,
          ⟨.t 43, .ld false 1 (.t 42), none⟩,
          ⟨.t 44, .fad 0 (.l 1), none⟩,
          ⟨.t 45, .ld false 1 (.t 44), none⟩,
          ⟨.t 46, .lenq false (.t 45), none⟩,
          ⟨.t 47, .bin .sub (.t 46) (.c (.p (.i .i64 1))), none⟩] [
          ⟨.t 48, .call 122 [.t 43, .c (.p (.i .i64 0)), .t 47], none⟩,
          ⟨.l 49, .un .not (.t 48), none⟩]) (
        .cond (.l 49) (
          .seq (.reg [
            ⟨.l 2, .mv (.c (.p (.b false))), none⟩]) (
          .ret)) (
          .skip)))) (
      .reg [
        ⟨.t 37, .mv (.l 4), none⟩,
        ⟨.t 38, .bin .add (.t 37) (.c (.p (.i .i64 1))), none⟩,
        ⟨.l 4, .mv (.t 38), none⟩])))))) (
  .seq (.reg [
    ⟨.t 50, .fad 0 (.l 1), none⟩,
    ⟨.t 51, .ld false 1 (.t 50), none⟩,
    ⟨.t 52, .fad 0 (.l 1), none⟩,
    ⟨.t 53, .ld false 1 (.t 52), none⟩,
    ⟨.t 54, .len false (.t 53), none⟩,
    ⟨.t 55, .bin .sub (.t 54) (.c (.p (.i .i64 1))), none⟩,
    ⟨.t 56, .ixs 6 (.t 51) (.t 55), none⟩,
    ⟨.t 57, .fad 0 (.t 56), none⟩,
    ⟨.t 58, .ld false 1 (.t 57), none⟩,
    ⟨.l 5, .mv (.t 58), none⟩]) (
  .seq (.reg [
    ⟨.t 59, .mv (.l 5), none⟩,
    ⟨.t 60, .bin .eql (.t 59) (.c (.p (.i .i64 12))), none⟩,
    ⟨.t 61, .mv (.t 60), none⟩,
    ⟨.t 62, .mv (.l 5), some ((.t 61), false)⟩,
    ⟨.t 63, .bin .eql (.t 62) (.c (.p (.i .i64 13))), some ((.t 61), false)⟩,
    ⟨.t 64, .pick (.t 61) (.c (.p (.b true))) (.t 63), none⟩,
    ⟨.t 65, .mv (.t 64), none⟩,
    ⟨.t 66, .mv (.l 5), some ((.t 65), false)⟩,
    ⟨.t 67, .bin .eql (.t 66) (.c (.p (.i .i64 14))), some ((.t 65), false)⟩,
    ⟨.t 68, .pick (.t 65) (.c (.p (.b true))) (.t 67), none⟩,
    ⟨.t 69, .mv (.t 68), none⟩,
    ⟨.t 70, .mv (.l 5), some ((.t 69), false)⟩,
    ⟨.t 71, .bin .eql (.t 70) (.c (.p (.i .i64 15))), some ((.t 69), false)⟩,
    ⟨.t 72, .pick (.t 69) (.c (.p (.b true))) (.t 71), none⟩,
    ⟨.l 2, .mv (.t 72), none⟩]) (
  .ret))))))
theorem mc70_eq : (Try.f70.body.map (compile lv70 Try.prog 73)) = some mc70 := by kernel_rfl
def mr70 : List MR := [.t 2]
theorem mr70_eq : cRess lv70 Try.prog Try.f70.results.toList = some mr70 := by kernel_rfl
theorem call70 {args : List AV} {H : List AO} {Q : AV → List AO → Prop} (hla : args.length ≤ 73) (h : wpm (ACall Try.prog) mc70 (finK mr70 Q) ⟨argEnv 0 args, [], H⟩) : ACall Try.prog 70 args H Q :=
  acall_mc (by kernel_rfl) Try.func70 mc70_eq Try.ntmps70 (by kernel_rfl) mr70_eq hla h
def lv73 : List Nat := [0, 2, 3, 4, 11]
def mc73 : MC :=
.seq (.reg [
    ⟨.l 2, .mv (.c (.p (.nl))), none⟩]) (
  .seq (.reg [
    ⟨.t 5, .mv (.l 0), none⟩,
    ⟨.t 6, .len false (.t 5), none⟩,
    ⟨.t 7, .mks 6 56 [.p (.i .i64 0), .p (.i .i64 0), .p (.i .i64 0), .p (.i .i64 0), .p (.i .i64 0), .p (.s [])] (.t 6) (.t 6), none⟩,
    ⟨.l 3, .mv (.t 7), none⟩]) (
  .seq (.seq (.reg [
    ⟨.l 4, .mv (.c (.p (.i .i64 0))), none⟩]) (
  .blk 0 (
    .loop (
      .seq (.seq (.reg [
        ⟨.t 8, .mv (.l 4), none⟩,
        ⟨.t 9, .mv (.l 0), none⟩,
        ⟨.t 10, .len false (.t 9), none⟩,
        ⟨.l 11, .bin .lss (.t 8) (.t 10), none⟩]) (
      .cond (.l 11) (
        .skip) (
        .exit 0))) (
      .seq (.blk 1 (
        .reg [
          ⟨.t 14, .mv (.l 3), none⟩,
          ⟨.t 15, .mv (.l 4), none⟩,
          ⟨.t 16, .mv (.l 0), none⟩,
          ⟨.t 17, .mv (.l 4), none⟩,
          ⟨.t 18, .ixs 6 (.t 16) (.t 17), none⟩,
          ⟨.t 19, .ld true 6 (.t 18), none⟩,
          ⟨.t 20, .call 129 [.t 19], none⟩,
          ⟨.t 21, .ixs 6 (.t 14) (.t 15), none⟩,
          ⟨.no, .sto 6 (.t 21) (.t 20), none⟩])) (
      .reg [
        ⟨.t 12, .mv (.l 4), none⟩,
        ⟨.t 13, .bin .add (.t 12) (.c (.p (.i .i64 1))), none⟩,
        ⟨.l 4, .mv (.t 13), none⟩])))))) (
  .seq (.reg [
    ⟨.t 22, .mv (.l 3), none⟩,
    ⟨.l 2, .mv (.t 22), none⟩]) (
  .ret))))
theorem mc73_eq : (Try.f73.body.map (compile lv73 Try.prog 23)) = some mc73 := by kernel_rfl
def mr73 : List MR := [.t 2]
theorem mr73_eq : cRess lv73 Try.prog Try.f73.results.toList = some mr73 := by kernel_rfl
theorem call73 {args : List AV} {H : List AO} {Q : AV → List AO → Prop} (hla : args.length ≤ 23) (h : wpm (ACall Try.prog) mc73 (finK mr73 Q) ⟨argEnv 0 args, [], H⟩) : ACall Try.prog 73 args H Q :=
  acall_mc (by kernel_rfl) Try.func73 mc73_eq Try.ntmps73 (by kernel_rfl) mr73_eq hla h
def lv74 : List Nat := [0, 1, 2, 13, 23, 32, 33]
def mc74 : MC :=
.seq (.reg [
    ⟨.l 1, .box 2 (.l 0), none⟩,
    ⟨.l 2, .mv (.c (.p (.b false))), none⟩]) (
  .seq (.seq (.reg [
    ⟨.t 3, .fad 0 (.l 1), none⟩,
    ⟨.t 4, .ld false 1 (.t 3), none⟩,
    ⟨.t 5, .len false (.t 4), none⟩,
    ⟨.t 6, .call 124 [.t 5, .c (.p (.i .i64 1)), .c (.p (.i .i64 40000))], none⟩,
    ⟨.t 7, .un .not (.t 6), none⟩,
    ⟨.t 8, .mv (.t 7), none⟩,
    ⟨.t 9, .fad 1 (.l 1), some ((.t 8), false)⟩,
    ⟨.t 10, .ld false 1 (.t 9), some ((.t 8), false)⟩,
    ⟨.t 11, .len false (.t 10), some ((.t 8), false)⟩,
    ⟨.t 12, .bin .gtr (.t 11) (.c (.p (.i .i64 400))), some ((.t 8), false)⟩,
    ⟨.l 13, .pick (.t 8) (.c (.p (.b true))) (.t 12), none⟩]) (
  .cond (.l 13) (
    .seq (.reg [
      ⟨.l 2, .mv (.c (.p (.b false))), none⟩]) (
    .ret)) (
    .skip))) (
  .seq (.seq (.reg [
    ⟨.t 14, .fad 0 (.l 1), none⟩,
    ⟨.t 15, .ld false 1 (.t 14), none⟩,
    ⟨.t 16, .mkf 131 [.l 1], none⟩,
    ⟨.t 17, .call 130 [.t 15, .t 16], none⟩,
    ⟨.t 18, .mv (.t 17), none⟩,
    ⟨.t 19, .fad 1 (.l 1), some ((.t 18), false)⟩,
    ⟨.t 20, .ld false 1 (.t 19), some ((.t 18), false)⟩,
    ⟨.t 21, .mkf 134 [.l 1], some ((.t 18), false)⟩,
    ⟨.t 22, .call 133 [.t 20, .t 21], some ((.t 18), false)⟩,
    ⟨.l 23, .pick (.t 18) (.c (.p (.b true))) (.t 22), none⟩]) (
  .cond (.l 23) (
    .seq (.reg [
      ⟨.l 2, .mv (.c (.p (.b false))), none⟩]) (
    .ret)) (
    .skip))) (
  .seq (.seq (.reg [
    ⟨.t 24, .fad 0 (.l 1), none⟩,
    ⟨.t 25, .ld false 1 (.t 24), none⟩,
    ⟨.t 26, .fad 0 (.l 1), none⟩,
    ⟨.t 27, .ld false 1 (.t 26), none⟩,
    ⟨.t 28, .len false (.t 27), none⟩,
    ⟨.t 29, .bin .sub (.t 28) (.c (.p (.i .i64 1))), none⟩,
    ⟨.t 30, .ixs 6 (.t 25) (.t 29), none⟩,
    ⟨.t 31, .fad 0 (.t 30), none⟩,
    ⟨.l 32, .ld false 1 (.t 31), none⟩]) (
  .blk 0 (
    .seq (.seq (.reg [
      ⟨.t 34, .bin .eql (.l 32) (.c (.p (.i .i64 12))), none⟩,
      ⟨.l 33, .mv (.t 34), none⟩]) (
    .cond (.l 33) (
      .skip) (
      .seq (.reg [
        ⟨.t 35, .bin .eql (.l 32) (.c (.p (.i .i64 13))), none⟩,
        ⟨.l 33, .mv (.t 35), none⟩]) (
      .cond (.l 33) (
        .skip) (
        .seq (.reg [
          ⟨.t 36, .bin .eql (.l 32) (.c (.p (.i .i64 14))), none⟩,
          ⟨.l 33, .mv (.t 36), none⟩]) (
        .cond (.l 33) (
          .skip) (
          .reg [
            ⟨.t 37, .bin .eql (.l 32) (.c (.p (.i .i64 15))), none⟩,
            ⟨.l 33, .mv (.t 37), none⟩]))))))) (
    .cond (.l 33) (
      .seq (.reg [
        ⟨.l 2, .mv (.c (.p (.b true))), none⟩]) (
      .ret)) (
      .skip))))) (
  .seq (.reg [
    ⟨.l 2, .mv (.c (.p (.b false))), none⟩]) (
  .ret)))))
theorem mc74_eq : (Try.f74.body.map (compile lv74 Try.prog 38)) = some mc74 := by kernel_rfl
def mr74 : List MR := [.t 2]
theorem mr74_eq : cRess lv74 Try.prog Try.f74.results.toList = some mr74 := by kernel_rfl
theorem call74 {args : List AV} {H : List AO} {Q : AV → List AO → Prop} (hla : args.length ≤ 38) (h : wpm (ACall Try.prog) mc74 (finK mr74 Q) ⟨argEnv 0 args, [], H⟩) : ACall Try.prog 74 args H Q :=
  acall_mc (by kernel_rfl) Try.func74 mc74_eq Try.ntmps74 (by kernel_rfl) mr74_eq hla h
def lv78 : List Nat := [0, 1, 4, 5, 10, 14, 26]
def mc78 : MC :=
.seq (.reg [
    ⟨.l 4, .mv (.c (.p (.b false))), none⟩]) (
  .seq (.seq (.reg [
    ⟨.t 6, .mv (.l 0), none⟩,
    ⟨.t 7, .len false (.t 6), none⟩,
    ⟨.t 8, .mv (.l 1), none⟩,
    ⟨.t 9, .len false (.t 8), none⟩,
    ⟨.l 10, .bin .neq (.t 7) (.t 9), none⟩]) (
  .cond (.l 10) (
    .seq (.reg [
      ⟨.l 4, .mv (.c (.p (.b false))), none⟩]) (
    .ret)) (
    .skip))) (
  .seq (.seq (.reg [
    ⟨.l 5, .mv (.c (.p (.i .i64 0))), none⟩]) (
  .blk 0 (
    .loop (
      .seq (.seq (.reg [
        ⟨.t 11, .mv (.l 5), none⟩,
        ⟨.t 12, .mv (.l 0), none⟩,
        ⟨.t 13, .len false (.t 12), none⟩,
        ⟨.l 14, .bin .lss (.t 11) (.t 13), none⟩]) (
      .cond (.l 14) (
        .skip) (
        .exit 0))) (
      .seq (.blk 1 (
        .seq (.drw [
          ⟨.t 17, .mv (.l 0), none⟩,
          ⟨.t 18, .mv (.l 5), none⟩,
          ⟨.t 19, .ixs 6 (.t 17) (.t 18), none⟩,
          ⟨.t 20, .ld true 6 (.t 19), none⟩,
          ⟨.t 21, .mv (.l 1), none⟩,
          ⟨.t 22, .mv (.l 5), none⟩,
          ⟨.t 23, .ixs 6 (.t 21) (.t 22), none⟩,
          ⟨.t 24, .ld true 6 (.t 23), none⟩] [
          ⟨.t 25, .call 136 [.t 20, .t 24], none⟩,
          ⟨.l 26, .un .not (.t 25), none⟩]) (
        .cond (.l 26) (
          .seq (.reg [
            ⟨.l 4, .mv (.c (.p (.b false))), none⟩]) (
          .ret)) (
          .skip)))) (
      .reg [
        ⟨.t 15, .mv (.l 5), none⟩,
        ⟨.t 16, .bin .add (.t 15) (.c (.p (.i .i64 1))), none⟩,
        ⟨.l 5, .mv (.t 16), none⟩])))))) (
  .seq (.reg [
    ⟨.l 4, .mv (.c (.p (.b true))), none⟩]) (
  .ret))))
theorem mc78_eq : (Try.f78.body.map (compile lv78 Try.prog 27)) = some mc78 := by kernel_rfl
def mr78 : List MR := [.t 4]
theorem mr78_eq : cRess lv78 Try.prog Try.f78.results.toList = some mr78 := by kernel_rfl
theorem call78 {args : List AV} {H : List AO} {Q : AV → List AO → Prop} (hla : args.length ≤ 27) (h : wpm (ACall Try.prog) mc78 (finK mr78 Q) ⟨argEnv 0 args, [], H⟩) : ACall Try.prog 78 args H Q :=
  acall_mc (by kernel_rfl) Try.func78 mc78_eq Try.ntmps78 (by kernel_rfl) mr78_eq hla h
def lv79 : List Nat := [0, 1, 4, 5, 9]
def mc79 : MC :=
.seq (.reg [
    ⟨.l 4, .mv (.c (.p (.i .i64 0))), none⟩]) (
  .seq (.seq (.reg [
    ⟨.l 5, .mv (.c (.p (.i .i64 0))), none⟩]) (
  .blk 0 (
    .loop (
      .seq (.seq (.reg [
        ⟨.t 6, .mv (.l 5), none⟩,
        ⟨.t 7, .mv (.l 0), none⟩,
        ⟨.t 8, .len false (.t 7), none⟩,
        ⟨.l 9, .bin .lss (.t 6) (.t 8), none⟩]) (
      .cond (.l 9) (
        .skip) (
        .exit 0))) (
      .seq (.blk 1 (
        .seq (.reg [
          ⟨.t 12, .mv (.l 0), none⟩,
          ⟨.t 13, .mv (.l 5), none⟩,
          ⟨.t 14, .mv (.l 1), none⟩,
          ⟨.t 15, .ixs 6 (.t 12) (.t 13), none⟩,
          ⟨.t 16, .fad 0 (.t 15), none⟩,
          ⟨.no, .sto 1 (.t 16) (.t 14), none⟩]) (
        .seq (.reg [
          ⟨.t 17, .mv (.l 1), none⟩,
          ⟨.t 18, .bin .add (.t 17) (.c (.p (.i .i64 1))), none⟩,
          ⟨.l 1, .mv (.t 18), none⟩]) (
        .seq (.reg [
          ⟨.t 19, .mv (.l 0), none⟩,
          ⟨.t 20, .mv (.l 5), none⟩,
          ⟨.t 21, .mv (.l 1), none⟩,
          ⟨.t 22, .ixs 6 (.t 19) (.t 20), none⟩,
          ⟨.t 23, .fad 1 (.t 22), none⟩,
          ⟨.no, .sto 1 (.t 23) (.t 21), none⟩]) (
        .seq (.reg [
          ⟨.t 24, .mv (.l 1), none⟩,
          ⟨.t 25, .bin .add (.t 24) (.c (.p (.i .i64 1))), none⟩,
          ⟨.l 1, .mv (.t 25), none⟩]) (
        .seq (.reg [
          ⟨.t 26, .mv (.l 0), none⟩,
          ⟨.t 27, .mv (.l 5), none⟩,
          ⟨.t 28, .mv (.l 1), none⟩,
          ⟨.t 29, .ixs 6 (.t 26) (.t 27), none⟩,
          ⟨.t 30, .fad 2 (.t 29), none⟩,
          ⟨.no, .sto 1 (.t 30) (.t 28), none⟩]) (
        .seq (.reg [
          ⟨.t 31, .mv (.l 1), none⟩,
          ⟨.t 32, .bin .add (.t 31) (.c (.p (.i .i64 1))), none⟩,
          ⟨.l 1, .mv (.t 32), none⟩]) (
        .seq (.reg [
          ⟨.t 33, .mv (.l 0), none⟩,
          ⟨.t 34, .mv (.l 5), none⟩,
          ⟨.t 35, .mv (.l 1), none⟩,
          ⟨.t 36, .ixs 6 (.t 33) (.t 34), none⟩,
          ⟨.t 37, .fad 3 (.t 36), none⟩,
          ⟨.no, .sto 1 (.t 37) (.t 35), none⟩]) (
        .seq (.reg [
          ⟨.t 38, .mv (.l 1), none⟩,
          ⟨.t 39, .bin .add (.t 38) (.c (.p (.i .i64 1))), none⟩,
          ⟨.l 1, .mv (.t 39), none⟩]) (
        .seq (.reg [
          ⟨.t 40, .mv (.l 0), none⟩,
          ⟨.t 41, .mv (.l 5), none⟩,
          ⟨.t 42, .mv (.l 1), none⟩,
          ⟨.t 43, .ixs 6 (.t 40) (.t 41), none⟩,
          ⟨.t 44, .fad 4 (.t 43), none⟩,
          ⟨.no, .sto 1 (.t 44) (.t 42), none⟩]) (
        .seq (.reg [
          ⟨.t 45, .mv (.l 1), none⟩,
          ⟨.t 46, .bin .add (.t 45) (.c (.p (.i .i64 1))), none⟩,
          ⟨.l 1, .mv (.t 46), none⟩]) (
        .seq (.reg [
          ⟨.t 47, .mv (.l 0), none⟩,
          ⟨.t 48, .mv (.l 5), none⟩,
          ⟨.t 49, .mv (.l 1), none⟩,
          ⟨.t 50, .call 137 [.t 49], none⟩,
          ⟨.t 51, .ixs 6 (.t 47) (.t 48), none⟩,
          ⟨.t 52, .fad 5 (.t 51), none⟩,
          ⟨.no, .sto 1 (.t 52) (.t 50), none⟩]) (
        .reg [
          ⟨.t 53, .mv (.l 1), none⟩,
          ⟨.t 54, .bin .add (.t 53) (.c (.p (.i .i64 1))), none⟩,
          ⟨.l 1, .mv (.t 54), none⟩]))))))))))))) (
      .reg [
        ⟨.t 10, .mv (.l 5), none⟩,
        ⟨.t 11, .bin .add (.t 10) (.c (.p (.i .i64 1))), none⟩,
        ⟨.l 5, .mv (.t 11), none⟩])))))) (
  .seq (.reg [
    ⟨.t 55, .mv (.l 1), none⟩,
    ⟨.l 4, .mv (.t 55), none⟩]) (
  .ret)))
theorem mc79_eq : (Try.f79.body.map (compile lv79 Try.prog 56)) = some mc79 := by kernel_rfl
def mr79 : List MR := [.t 4]
theorem mr79_eq : cRess lv79 Try.prog Try.f79.results.toList = some mr79 := by kernel_rfl
theorem call79 {args : List AV} {H : List AO} {Q : AV → List AO → Prop} (hla : args.length ≤ 56) (h : wpm (ACall Try.prog) mc79 (finK mr79 Q) ⟨argEnv 0 args, [], H⟩) : ACall Try.prog 79 args H Q :=
  acall_mc (by kernel_rfl) Try.func79 mc79_eq Try.ntmps79 (by kernel_rfl) mr79_eq hla h
def lv122 : List Nat := [0, 1, 2, 6]
def mc122 : MC :=
.seq (.reg [
    ⟨.l 6, .mv (.c (.p (.b false))), none⟩]) (
  .seq (.reg [
    ⟨.t 7, .mv (.l 0), none⟩,
    ⟨.t 8, .mv (.l 1), none⟩,
    ⟨.t 9, .bin .geq (.t 7) (.t 8), none⟩,
    ⟨.t 10, .mv (.t 9), none⟩,
    ⟨.t 11, .mv (.l 0), some ((.t 10), true)⟩,
    ⟨.t 12, .mv (.l 2), some ((.t 10), true)⟩,
    ⟨.t 13, .bin .leq (.t 11) (.t 12), some ((.t 10), true)⟩,
    ⟨.t 14, .pick (.t 10) (.t 13) (.c (.p (.b false))), none⟩,
    ⟨.l 6, .mv (.t 14), none⟩]) (
  .ret))
theorem mc122_eq : (Try.f122.body.map (compile lv122 Try.prog 15)) = some mc122 := by kernel_rfl
def mr122 : List MR := [.t 6]
theorem mr122_eq : cRess lv122 Try.prog Try.f122.results.toList = some mr122 := by kernel_rfl
theorem call122 {args : List AV} {H : List AO} {Q : AV → List AO → Prop} (hla : args.length ≤ 15) (h : wpm (ACall Try.prog) mc122 (finK mr122 Q) ⟨argEnv 0 args, [], H⟩) : ACall Try.prog 122 args H Q :=
  acall_mc (by kernel_rfl) Try.func122 mc122_eq Try.ntmps122 (by kernel_rfl) mr122_eq hla h
def lv124 : List Nat := [0, 1, 2, 6]
def mc124 : MC :=
.seq (.reg [
    ⟨.l 6, .mv (.c (.p (.b false))), none⟩]) (
  .seq (.reg [
    ⟨.t 7, .mv (.l 0), none⟩,
    ⟨.t 8, .mv (.l 1), none⟩,
    ⟨.t 9, .bin .geq (.t 7) (.t 8), none⟩,
    ⟨.t 10, .mv (.t 9), none⟩,
    ⟨.t 11, .mv (.l 0), some ((.t 10), true)⟩,
    ⟨.t 12, .mv (.l 2), some ((.t 10), true)⟩,
    ⟨.t 13, .bin .leq (.t 11) (.t 12), some ((.t 10), true)⟩,
    ⟨.t 14, .pick (.t 10) (.t 13) (.c (.p (.b false))), none⟩,
    ⟨.l 6, .mv (.t 14), none⟩]) (
  .ret))
theorem mc124_eq : (Try.f124.body.map (compile lv124 Try.prog 15)) = some mc124 := by kernel_rfl
def mr124 : List MR := [.t 6]
theorem mr124_eq : cRess lv124 Try.prog Try.f124.results.toList = some mr124 := by kernel_rfl
theorem call124 {args : List AV} {H : List AO} {Q : AV → List AO → Prop} (hla : args.length ≤ 15) (h : wpm (ACall Try.prog) mc124 (finK mr124 Q) ⟨argEnv 0 args, [], H⟩) : ACall Try.prog 124 args H Q :=
  acall_mc (by kernel_rfl) Try.func124 mc124_eq Try.ntmps124 (by kernel_rfl) mr124_eq hla h
def lv127 : List Nat := [0, 1, 2, 4, 11]
def mc127 : MC :=
.seq (.reg [
    ⟨.l 2, .box 6 (.l 0), none⟩,
    ⟨.l 4, .mv (.c (.p (.i .i64 0))), none⟩]) (
  .seq (.reg [
    ⟨.t 5, .mv (.l 1), none⟩,
    ⟨.t 6, .fad 5 (.l 2), none⟩,
    ⟨.t 7, .ld false 1 (.t 6), none⟩,
    ⟨.t 8, .len true (.t 7), none⟩,
    ⟨.t 9, .bin .sub (.t 5) (.t 8), none⟩,
    ⟨.l 1, .mv (.t 9), none⟩]) (
  .seq (.seq (.reg [
    ⟨.t 10, .mv (.l 1), none⟩,
    ⟨.l 11, .bin .lss (.t 10) (.c (.p (.i .i64 0))), none⟩]) (
  .cond (.l 11) (
    .seq (.reg [
      ⟨.l 4, .mv (.c (.p (.i .i64 (-1)))), none⟩]) (
    .ret)) (
    .skip))) (
  .seq (.reg [
    ⟨.t 12, .mv (.l 1), none⟩,
    ⟨.l 4, .mv (.t 12), none⟩]) (
  .ret))))
theorem mc127_eq : (Try.f127.body.map (compile lv127 Try.prog 13)) = some mc127 := by kernel_rfl
def mr127 : List MR := [.t 4]
theorem mr127_eq : cRess lv127 Try.prog Try.f127.results.toList = some mr127 := by kernel_rfl
theorem call127 {args : List AV} {H : List AO} {Q : AV → List AO → Prop} (hla : args.length ≤ 13) (h : wpm (ACall Try.prog) mc127 (finK mr127 Q) ⟨argEnv 0 args, [], H⟩) : ACall Try.prog 127 args H Q :=
  acall_mc (by kernel_rfl) Try.func127 mc127_eq Try.ntmps127 (by kernel_rfl) mr127_eq hla h
def lv128 : List Nat := [0, 1, 2, 3, 4, 5, 21, 30, 31, 35, 50, 63, 67, 77, 81, 90, 100, 107, 114, 119]
def mc128 : MC :=
.seq (.reg [
    ⟨.l 2, .box 6 (.l 0), none⟩,
    ⟨.l 3, .box 2 (.l 1), none⟩,
    ⟨.l 4, .mv (.c (.p (.b false))), none⟩]) (
  .seq (.seq (.reg [
    ⟨.t 6, .fad 1 (.l 2), none⟩,
    ⟨.t 7, .ld false 1 (.t 6), none⟩,
    ⟨.t 8, .call 162 [.t 7], none⟩,
    ⟨.t 9, .un .not (.t 8), none⟩,
    ⟨.t 10, .mv (.t 9), none⟩,
    ⟨.t 11, .fad 2 (.l 2), some ((.t 10), false)⟩,
    ⟨.t 12, .ld false 1 (.t 11), some ((.t 10), false)⟩,
    ⟨.t 13, .call 162 [.t 12], some ((.t 10), false)⟩,
    ⟨.t 14, .un .not (.t 13), some ((.t 10), false)⟩,
    ⟨.t 15, .pick (.t 10) (.c (.p (.b true))) (.t 14), none⟩,
    ⟨.t 16, .mv (.t 15), none⟩,
    ⟨.t 17, .fad 3 (.l 2), some ((.t 16), false)⟩,
    ⟨.t 18, .ld false 1 (.t 17), some ((.t 16), false)⟩,
    ⟨.t 19, .call 162 [.t 18], some ((.t 16), false)⟩,
    ⟨.t 20, .un .not (.t 19), some ((.t 16), false)⟩,
    ⟨.l 21, .pick (.t 16) (.c (.p (.b true))) (.t 20), none⟩]) (
  .cond (.l 21) (
    .seq (.reg [
      ⟨.l 4, .mv (.c (.p (.b false))), none⟩]) (
    .ret)) (
    .skip))) (
  .seq (.reg [
    ⟨.t 22, .fad 4 (.l 2), none⟩,
    ⟨.t 23, .ld false 1 (.t 22), none⟩,
    ⟨.t 24, .fad 0 (.l 3), none⟩,
    ⟨.t 25, .ld false 1 (.t 24), none⟩,
    ⟨.t 26, .len false (.t 25), none⟩,
    ⟨.t 27, .bin .sub (.t 26) (.c (.p (.i .i64 1))), none⟩,
    ⟨.t 28, .call 122 [.t 23, .c (.p (.i .i64 0)), .t 27], none⟩,
    ⟨.l 5, .mv (.t 28), none⟩]) (
  .seq (.seq (.reg [
    ⟨.t 29, .fad 0 (.l 2), none⟩,
    ⟨.l 30, .ld false 1 (.t 29), none⟩]) (
  .blk 0 (
    .seq (.reg [
      ⟨.t 32, .bin .eql (.l 30) (.c (.p (.i .i64 1))), none⟩,
      ⟨.l 31, .mv (.t 32), none⟩]) (
    .cond (.l 31) (
      .seq (.reg [
        ⟨.t 33, .ld true 6 (.l 2), none⟩,
        ⟨.t 34, .call 163 [.t 33, .c (.p (.s [97, 110]))], none⟩,
        ⟨.l 4, .mv (.t 34), none⟩]) (
      .ret)) (
      .seq (.reg [
        ⟨.t 36, .bin .eql (.l 30) (.c (.p (.i .i64 2))), none⟩,
        ⟨.l 35, .mv (.t 36), none⟩]) (
      .cond (.l 35) (
        .seq (.reg [
          ⟨.t 37, .ld true 6 (.l 2), none⟩,
          ⟨.t 38, .call 163 [.t 37, .c (.p (.s [97, 116]))], none⟩,
          ⟨.t 39, .mv (.t 38), none⟩,
          ⟨.t 40, .fad 5 (.l 2), some ((.t 39), true)⟩,
          ⟨.t 41, .ld false 1 (.t 40), some ((.t 39), true)⟩,
          ⟨.t 42, .call 164 [.t 41], some ((.t 39), true)⟩,
          ⟨.t 43, .pick (.t 39) (.t 42) (.c (.p (.b false))), none⟩,
          ⟨.t 44, .mv (.t 43), none⟩,
          ⟨.t 45, .fad 5 (.l 2), some ((.t 44), true)⟩,
          ⟨.t 46, .ld false 1 (.t 45), some ((.t 44), true)⟩,
          ⟨.t 47, .len true (.t 46), some ((.t 44), true)⟩,
          ⟨.t 48, .bin .leq (.t 47) (.c (.p (.i .i64 4000))), some ((.t 44), true)⟩,
          ⟨.t 49, .pick (.t 44) (.t 48) (.c (.p (.b false))), none⟩,
          ⟨.l 4, .mv (.t 49), none⟩]) (
        .ret)) (
        .seq (.reg [
          ⟨.t 51, .bin .eql (.l 30) (.c (.p (.i .i64 3))), none⟩,
          ⟨.l 50, .mv (.t 51), none⟩]) (
        .cond (.l 50) (
          .seq (.reg [
            ⟨.t 52, .ld true 6 (.l 2), none⟩,
            ⟨.t 53, .call 163 [.t 52, .c (.p (.s [97, 110]))], none⟩,
            ⟨.t 54, .mv (.t 53), none⟩,
            ⟨.t 55, .fad 4 (.l 2), some ((.t 54), true)⟩,
            ⟨.t 56, .ld false 1 (.t 55), some ((.t 54), true)⟩,
            ⟨.t 57, .fad 1 (.l 3), some ((.t 54), true)⟩,
            ⟨.t 58, .ld false 1 (.t 57), some ((.t 54), true)⟩,
            ⟨.t 59, .len false (.t 58), some ((.t 54), true)⟩,
            ⟨.t 60, .bin .sub (.t 59) (.c (.p (.i .i64 1))), some ((.t 54), true)⟩,
            ⟨.t 61, .call 122 [.t 56, .c (.p (.i .i64 0)), .t 60], some ((.t 54), true)⟩,
            ⟨.t 62, .pick (.t 54) (.t 61) (.c (.p (.b false))), none⟩,
            ⟨.l 4, .mv (.t 62), none⟩]) (
          .ret)) (
          .seq (.reg [
            ⟨.t 64, .bin .eql (.l 30) (.c (.p (.i .i64 4))), none⟩,
            ⟨.l 63, .mv (.t 64), none⟩]) (
          .cond (.l 63) (
            .seq (.reg [
              ⟨.t 65, .ld true 6 (.l 2), none⟩,
              ⟨.t 66, .call 163 [.t 65, .c (.p (.s [97, 98]))], none⟩,
              ⟨.l 4, .mv (.t 66), none⟩]) (
            .ret)) (
            .seq (.seq (.reg [
              ⟨.t 68, .bin .eql (.l 30) (.c (.p (.i .i64 5))), none⟩,
              ⟨.l 67, .mv (.t 68), none⟩]) (
            .cond (.l 67) (
              .skip) (
              .reg [
                ⟨.t 69, .bin .eql (.l 30) (.c (.p (.i .i64 6))), none⟩,
                ⟨.l 67, .mv (.t 69), none⟩]))) (
            .cond (.l 67) (
              .seq (.reg [
                ⟨.t 70, .ld true 6 (.l 2), none⟩,
                ⟨.t 71, .call 163 [.t 70, .c (.p (.s [97, 110]))], none⟩,
                ⟨.t 72, .mv (.t 71), none⟩,
                ⟨.t 73, .fad 4 (.l 2), some ((.t 72), true)⟩,
                ⟨.t 74, .ld false 1 (.t 73), some ((.t 72), true)⟩,
                ⟨.t 75, .call 122 [.t 74, .c (.p (.i .i64 0)), .c (.p (.i .i64 63))], some ((.t 72), true)⟩,
                ⟨.t 76, .pick (.t 72) (.t 75) (.c (.p (.b false))), none⟩,
                ⟨.l 4, .mv (.t 76), none⟩]) (
              .ret)) (
              .seq (.reg [
                ⟨.t 78, .bin .eql (.l 30) (.c (.p (.i .i64 7))), none⟩,
                ⟨.l 77, .mv (.t 78), none⟩]) (
              .cond (.l 77) (
                .seq (.reg [
                  ⟨.t 79, .ld true 6 (.l 2), none⟩,
                  ⟨.t 80, .call 165 [.t 79], none⟩,
                  ⟨.l 4, .mv (.t 80), none⟩]) (
                .ret)) (
                .seq (.reg [
                  ⟨.t 82, .bin .eql (.l 30) (.c (.p (.i .i64 8))), none⟩,
                  ⟨.l 81, .mv (.t 82), none⟩]) (
                .cond (.l 81) (
                  .seq (.reg [
                    ⟨.t 83, .ld true 6 (.l 2), none⟩,
                    ⟨.t 84, .call 163 [.t 83, .c (.p (.s [97, 110]))], none⟩,
                    ⟨.t 85, .mv (.t 84), none⟩,
                    ⟨.t 86, .fad 4 (.l 2), some ((.t 85), true)⟩,
                    ⟨.t 87, .ld false 1 (.t 86), some ((.t 85), true)⟩,
                    ⟨.t 88, .call 122 [.t 87, .c (.p (.i .i64 1)), .c (.p (.i .i64 4000))], some ((.t 85), true)⟩,
                    ⟨.t 89, .pick (.t 85) (.t 88) (.c (.p (.b false))), none⟩,
                    ⟨.l 4, .mv (.t 89), none⟩]) (
                  .ret)) (
                  .seq (.seq (.reg [
                    ⟨.t 91, .bin .eql (.l 30) (.c (.p (.i .i64 9))), none⟩,
                    ⟨.l 90, .mv (.t 91), none⟩]) (
                  .cond (.l 90) (
                    .skip) (
                    .reg [
                      ⟨.t 92, .bin .eql (.l 30) (.c (.p (.i .i64 10))), none⟩,
                      ⟨.l 90, .mv (.t 92), none⟩]))) (
                  .cond (.l 90) (
                    .seq (.reg [
                      ⟨.t 93, .ld true 6 (.l 2), none⟩,
                      ⟨.t 94, .call 163 [.t 93, .c (.p (.s [97, 98, 110]))], none⟩,
                      ⟨.t 95, .mv (.t 94), none⟩,
                      ⟨.t 96, .fad 4 (.l 2), some ((.t 95), true)⟩,
                      ⟨.t 97, .ld false 1 (.t 96), some ((.t 95), true)⟩,
                      ⟨.t 98, .bin .geq (.t 97) (.c (.p (.i .i64 0))), some ((.t 95), true)⟩,
                      ⟨.t 99, .pick (.t 95) (.t 98) (.c (.p (.b false))), none⟩,
                      ⟨.l 4, .mv (.t 99), none⟩]) (
                    .ret)) (
                    .seq (.reg [
                      ⟨.t 101, .bin .eql (.l 30) (.c (.p (.i .i64 11))), none⟩,
                      ⟨.l 100, .mv (.t 101), none⟩]) (
                    .cond (.l 100) (
                      .seq (.reg [
                        ⟨.t 102, .ld true 6 (.l 2), none⟩,
                        ⟨.t 103, .call 163 [.t 102, .c (.p (.s [97, 110]))], none⟩,
                        ⟨.t 104, .mv (.t 103), none⟩,
                        ⟨.t 105, .mv (.l 5), some ((.t 104), true)⟩,
                        ⟨.t 106, .pick (.t 104) (.t 105) (.c (.p (.b false))), none⟩,
                        ⟨.l 4, .mv (.t 106), none⟩]) (
                      .ret)) (
                      .seq (.reg [
                        ⟨.t 108, .bin .eql (.l 30) (.c (.p (.i .i64 12))), none⟩,
                        ⟨.l 107, .mv (.t 108), none⟩]) (
                      .cond (.l 107) (
                        .seq (.reg [
                          ⟨.t 109, .ld true 6 (.l 2), none⟩,
                          ⟨.t 110, .call 163 [.t 109, .c (.p (.s [110]))], none⟩,
                          ⟨.t 111, .mv (.t 110), none⟩,
                          ⟨.t 112, .mv (.l 5), some ((.t 111), true)⟩,
                          ⟨.t 113, .pick (.t 111) (.t 112) (.c (.p (.b false))), none⟩,
                          ⟨.l 4, .mv (.t 113), none⟩]) (
                        .ret)) (
                        .seq (.seq (.reg [
                          ⟨.t 115, .bin .eql (.l 30) (.c (.p (.i .i64 13))), none⟩,
                          ⟨.l 114, .mv (.t 115), none⟩]) (
                        .cond (.l 114) (
                          .skip) (
                          .reg [
                            ⟨.t 116, .bin .eql (.l 30) (.c (.p (.i .i64 14))), none⟩,
                            ⟨.l 114, .mv (.t 116), none⟩]))) (
                        .cond (.l 114) (
                          .seq (.reg [
                            ⟨.t 117, .ld true 6 (.l 2), none⟩,
                            ⟨.t 118, .call 163 [.t 117, .c (.p (.s [97]))], none⟩,
                            ⟨.l 4, .mv (.t 118), none⟩]) (
                          .ret)) (
                          .seq (.reg [
                            ⟨.t 120, .bin .eql (.l 30) (.c (.p (.i .i64 15))), none⟩,
                            ⟨.l 119, .mv (.t 120), none⟩]) (
                          .cond (.l 119) (
                            .seq (.reg [
                              ⟨.t 121, .ld true 6 (.l 2), none⟩,
                              ⟨.t 122, .call 163 [.t 121, .c (.p (.s [110]))], none⟩,
                              ⟨.t 123, .mv (.t 122), none⟩,
                              ⟨.t 124, .fad 4 (.l 2), some ((.t 123), true)⟩,
                              ⟨.t 125, .ld false 1 (.t 124), some ((.t 123), true)⟩,
                              ⟨.t 126, .call 122 [.t 125, .c (.p (.i .i64 1)), .c (.p (.i .i64 2))], some ((.t 123), true)⟩,
                              ⟨.t 127, .pick (.t 123) (.t 126) (.c (.p (.b false))), none⟩,
                              ⟨.l 4, .mv (.t 127), none⟩]) (
                            .ret)) (
                            .skip))))))))))))))))))))))))))) (
  .seq (.reg [
    ⟨.l 4, .mv (.c (.p (.b false))), none⟩]) (
  .ret)))))
theorem mc128_eq : (Try.f128.body.map (compile lv128 Try.prog 128)) = some mc128 := by kernel_rfl
def mr128 : List MR := [.t 4]
theorem mr128_eq : cRess lv128 Try.prog Try.f128.results.toList = some mr128 := by kernel_rfl
theorem call128 {args : List AV} {H : List AO} {Q : AV → List AO → Prop} (hla : args.length ≤ 128) (h : wpm (ACall Try.prog) mc128 (finK mr128 Q) ⟨argEnv 0 args, [], H⟩) : ACall Try.prog 128 args H Q :=
  acall_mc (by kernel_rfl) Try.func128 mc128_eq Try.ntmps128 (by kernel_rfl) mr128_eq hla h
def lv129 : List Nat := [0, 1, 2, 3]
def mc129 : MC :=
.seq (.reg [
    ⟨.l 1, .box 6 (.l 0), none⟩,
    ⟨.l 2, .alloc [.p (.i .i64 0), .p (.i .i64 0), .p (.i .i64 0), .p (.i .i64 0), .p (.i .i64 0), .p (.s [])], none⟩]) (
  .seq (.reg [
    ⟨.l 3, .alloc [.p (.i .i64 0), .p (.i .i64 0), .p (.i .i64 0), .p (.i .i64 0), .p (.i .i64 0), .p (.s [])], none⟩]) (
  .seq (.reg [
    ⟨.t 4, .fad 0 (.l 1), none⟩,
    ⟨.t 5, .ld false 1 (.t 4), none⟩,
    ⟨.t 6, .fad 0 (.l 3), none⟩,
    ⟨.no, .sto 1 (.t 6) (.t 5), none⟩]) (
  .seq (.reg [
    ⟨.t 7, .fad 1 (.l 1), none⟩,
    ⟨.t 8, .ld false 1 (.t 7), none⟩,
    ⟨.t 9, .fad 1 (.l 3), none⟩,
    ⟨.no, .sto 1 (.t 9) (.t 8), none⟩]) (
  .seq (.reg [
    ⟨.t 10, .fad 2 (.l 1), none⟩,
    ⟨.t 11, .ld false 1 (.t 10), none⟩,
    ⟨.t 12, .fad 2 (.l 3), none⟩,
    ⟨.no, .sto 1 (.t 12) (.t 11), none⟩]) (
  .seq (.reg [
    ⟨.t 13, .fad 3 (.l 1), none⟩,
    ⟨.t 14, .ld false 1 (.t 13), none⟩,
    ⟨.t 15, .fad 3 (.l 3), none⟩,
    ⟨.no, .sto 1 (.t 15) (.t 14), none⟩]) (
  .seq (.reg [
    ⟨.t 16, .fad 4 (.l 1), none⟩,
    ⟨.t 17, .ld false 1 (.t 16), none⟩,
    ⟨.t 18, .fad 4 (.l 3), none⟩,
    ⟨.no, .sto 1 (.t 18) (.t 17), none⟩]) (
  .seq (.reg [
    ⟨.t 19, .fad 5 (.l 1), none⟩,
    ⟨.t 20, .ld false 1 (.t 19), none⟩,
    ⟨.t 21, .fad 5 (.l 3), none⟩,
    ⟨.no, .sto 1 (.t 21) (.t 20), none⟩]) (
  .seq (.reg [
    ⟨.t 22, .ld true 6 (.l 3), none⟩,
    ⟨.no, .sto 6 (.l 2) (.t 22), none⟩]) (
  .ret)))))))))
theorem mc129_eq : (Try.f129.body.map (compile lv129 Try.prog 23)) = some mc129 := by kernel_rfl
def mr129 : List MR := [.cell true 6 2]
theorem mr129_eq : cRess lv129 Try.prog Try.f129.results.toList = some mr129 := by kernel_rfl
theorem call129 {args : List AV} {H : List AO} {Q : AV → List AO → Prop} (hla : args.length ≤ 23) (h : wpm (ACall Try.prog) mc129 (finK mr129 Q) ⟨argEnv 0 args, [], H⟩) : ACall Try.prog 129 args H Q :=
  acall_mc (by kernel_rfl) Try.func129 mc129_eq Try.ntmps129 (by kernel_rfl) mr129_eq hla h
def lv130 : List Nat := [0, 1, 4]
def mc130 : MC :=
.seq (.reg [
    ⟨.l 4, .mv (.c (.p (.b false))), none⟩]) (
  .seq (.reg [
    ⟨.t 5, .mv (.l 0), none⟩,
    ⟨.t 6, .mv (.l 1), none⟩,
    ⟨.t 7, .call 166 [.t 5, .t 6], none⟩,
    ⟨.t 8, .bin .geq (.t 7) (.c (.p (.i .i64 0))), none⟩,
    ⟨.l 4, .mv (.t 8), none⟩]) (
  .ret))
theorem mc130_eq : (Try.f130.body.map (compile lv130 Try.prog 9)) = some mc130 := by kernel_rfl
def mr130 : List MR := [.t 4]
theorem mr130_eq : cRess lv130 Try.prog Try.f130.results.toList = some mr130 := by kernel_rfl
theorem call130 {args : List AV} {H : List AO} {Q : AV → List AO → Prop} (hla : args.length ≤ 9) (h : wpm (ACall Try.prog) mc130 (finK mr130 Q) ⟨argEnv 0 args, [], H⟩) : ACall Try.prog 130 args H Q :=
  acall_mc (by kernel_rfl) Try.func130 mc130_eq Try.ntmps130 (by kernel_rfl) mr130_eq hla h
def lv131 : List Nat := [0, 1, 2, 3]
def mc131 : MC :=
.seq (.reg [
    ⟨.l 2, .box 6 (.l 0), none⟩,
    ⟨.l 3, .mv (.c (.p (.b false))), none⟩]) (
  .seq (.reg [
    ⟨.t 4, .ld true 2 (.l 1), none⟩,
    ⟨.t 5, .ld true 6 (.l 2), none⟩,
    ⟨.t 6, .call 132 [.t 4, .t 5], none⟩,
    ⟨.t 7, .un .not (.t 6), none⟩,
    ⟨.l 3, .mv (.t 7), none⟩]) (
  .ret))
theorem mc131_eq : (Try.f131.body.map (compile lv131 Try.prog 8)) = some mc131 := by kernel_rfl
def mr131 : List MR := [.t 3]
theorem mr131_eq : cRess lv131 Try.prog Try.f131.results.toList = some mr131 := by kernel_rfl
theorem call131 {args : List AV} {H : List AO} {Q : AV → List AO → Prop} (hla : args.length ≤ 8) (h : wpm (ACall Try.prog) mc131 (finK mr131 Q) ⟨argEnv 0 args, [], H⟩) : ACall Try.prog 131 args H Q :=
  acall_mc (by kernel_rfl) Try.func131 mc131_eq Try.ntmps131 (by kernel_rfl) mr131_eq hla h
def lv132 : List Nat := [0, 1, 2, 3, 4, 5, 6, 7, 8, 58, 60, 61, 72, 81, 87, 92, 98, 108]
def mc132 : MC :=
.seq (.reg [
    ⟨.l 2, .box 2 (.l 0), none⟩,
    ⟨.l 3, .box 6 (.l 1), none⟩,
    ⟨.l 4, .mv (.c (.p (.b false))), none⟩]) (
  .seq (.reg [
    ⟨.t 10, .ld true 6 (.l 3), none⟩,
    ⟨.t 11, .call 167 [.t 10], none⟩,
    ⟨.t 9, .mv (.t 11), none⟩,
    ⟨.t 12, .ext (.t 9) 0, none⟩,
    ⟨.t 13, .ext (.t 9) 1, none⟩,
    ⟨.l 5, .alloc [.p (.s [])], none⟩,
    ⟨.no, .sto 1 (.l 5) (.t 12), none⟩,
    ⟨.l 6, .mv (.t 13), none⟩]) (
  .seq (.reg [
    ⟨.t 14, .mkf 168 [.l 5], none⟩,
    ⟨.l 7, .alloc [.p (.nf)], none⟩,
    ⟨.no, .sto 1 (.l 7) (.t 14), none⟩]) (
  .seq (.reg [
    ⟨.t 15, .mkf 170 [.l 7], none⟩,
    ⟨.l 8, .mv (.t 15), none⟩]) (
  .seq (.seq (.reg [
    ⟨.t 16, .mv (.l 6), none⟩,
    ⟨.t 17, .un .not (.t 16), none⟩,
    ⟨.t 18, .mv (.t 17), none⟩,
    ⟨.t 19, .mv (.l 8), some ((.t 18), false)⟩,
    ⟨.t 20, .fad 1 (.l 3), some ((.t 18), false)⟩,
    ⟨.t 21, .ld false 1 (.t 20), some ((.t 18), false)⟩,
    ⟨.t 22, .calv (.t 19) [.c (.p (.s [97])), .t 21], some ((.t 18), false)⟩,
    ⟨.t 23, .un .not (.t 22), some ((.t 18), false)⟩,
    ⟨.t 24, .pick (.t 18) (.c (.p (.b true))) (.t 23), none⟩,
    ⟨.t 25, .mv (.t 24), none⟩,
    ⟨.t 26, .mv (.l 8), some ((.t 25), false)⟩,
    ⟨.t 27, .fad 2 (.l 3), some ((.t 25), false)⟩,
    ⟨.t 28, .ld false 1 (.t 27), some ((.t 25), false)⟩,
    ⟨.t 29, .calv (.t 26) [.c (.p (.s [98])), .t 28], some ((.t 25), false)⟩,
    ⟨.t 30, .un .not (.t 29), some ((.t 25), false)⟩,
    ⟨.t 31, .pick (.t 25) (.c (.p (.b true))) (.t 30), none⟩,
    ⟨.t 32, .mv (.t 31), none⟩,
    ⟨.t 33, .mv (.l 8), some ((.t 32), false)⟩,
    ⟨.t 34, .fad 3 (.l 3), some ((.t 32), false)⟩,
    ⟨.t 35, .ld false 1 (.t 34), some ((.t 32), false)⟩,
    ⟨.t 36, .calv (.t 33) [.c (.p (.s [99])), .t 35], some ((.t 32), false)⟩,
    ⟨.t 37, .un .not (.t 36), some ((.t 32), false)⟩,
    ⟨.t 38, .pick (.t 32) (.c (.p (.b true))) (.t 37), none⟩,
    ⟨.t 39, .mv (.t 38), none⟩,
    ⟨.t 40, .ld false 1 (.l 7), some ((.t 39), false)⟩,
    ⟨.t 41, .calv (.t 40) [.c (.p (.s [110]))], some ((.t 39), false)⟩,
    ⟨.t 42, .un .not (.t 41), some ((.t 39), false)⟩,
    ⟨.t 43, .mv (.t 42), some ((.t 39), false)⟩,
    ⟨.t 44, .fad 4 (.l 3), some ((.t 43), true)⟩,
    ⟨.t 45, .ld false 1 (.t 44), some ((.t 43), true)⟩,
    ⟨.t 46, .bin .neq (.t 45) (.c (.p (.i .i64 0))), some ((.t 43), true)⟩,
    ⟨.t 47, .pick (.t 43) (.t 46) (.c (.p (.b false))), some ((.t 39), false)⟩,
    ⟨.t 48, .pick (.t 39) (.c (.p (.b true))) (.t 47), none⟩,
    ⟨.t 49, .mv (.t 48), none⟩,
    ⟨.t 50, .ld false 1 (.l 7), some ((.t 49), false)⟩,
    ⟨.t 51, .calv (.t 50) [.c (.p (.s [116]))], some ((.t 49), false)⟩,
    ⟨.t 52, .un .not (.t 51), some ((.t 49), false)⟩,
    ⟨.t 53, .mv (.t 52), some ((.t 49), false)⟩,
    ⟨.t 54, .fad 5 (.l 3), some ((.t 53), true)⟩,
    ⟨.t 55, .ld false 1 (.t 54), some ((.t 53), true)⟩,
    ⟨.t 56, .bin .neq (.t 55) (.c (.p (.s []))), some ((.t 53), true)⟩,
    ⟨.t 57, .pick (.t 53) (.t 56) (.c (.p (.b false))), some ((.t 49), false)⟩,
    ⟨.l 58, .pick (.t 49) (.c (.p (.b true))) (.t 57), none⟩]) (
  .cond (.l 58) (
    .seq (.reg [
      ⟨.l 4, .mv (.c (.p (.b false))), none⟩]) (
    .ret)) (
    .skip))) (
  .seq (.seq (.reg [
    ⟨.t 59, .fad 0 (.l 3), none⟩,
    ⟨.l 60, .ld false 1 (.t 59), none⟩]) (
  .blk 0 (
    .seq (.reg [
      ⟨.t 62, .bin .eql (.l 60) (.c (.p (.i .i64 2))), none⟩,
      ⟨.l 61, .mv (.t 62), none⟩]) (
    .cond (.l 61) (
      .seq (.reg [
        ⟨.t 63, .fad 5 (.l 3), none⟩,
        ⟨.t 64, .ld false 1 (.t 63), none⟩,
        ⟨.t 65, .len true (.t 64), none⟩,
        ⟨.t 66, .bin .leq (.t 65) (.c (.p (.i .i64 4000))), none⟩,
        ⟨.t 67, .mv (.t 66), none⟩,
        ⟨.t 68, .fad 5 (.l 3), some ((.t 67), true)⟩,
        ⟨.t 69, .ld false 1 (.t 68), some ((.t 67), true)⟩,
        ⟨.t 70, .call 171 [.t 69], some ((.t 67), true)⟩,
        ⟨.t 71, .pick (.t 67) (.t 70) (.c (.p (.b false))), none⟩,
        ⟨.l 4, .mv (.t 71), none⟩]) (
      .ret)) (
      .seq (.reg [
        ⟨.t 73, .bin .eql (.l 60) (.c (.p (.i .i64 3))), none⟩,
        ⟨.l 72, .mv (.t 73), none⟩]) (
      .cond (.l 72) (
        .seq (.reg [
          ⟨.t 74, .fad 4 (.l 3), none⟩,
          ⟨.t 75, .ld false 1 (.t 74), none⟩,
          ⟨.t 76, .fad 1 (.l 2), none⟩,
          ⟨.t 77, .ld false 1 (.t 76), none⟩,
          ⟨.t 78, .len false (.t 77), none⟩,
          ⟨.t 79, .bin .sub (.t 78) (.c (.p (.i .i64 1))), none⟩,
          ⟨.t 80, .call 124 [.t 75, .c (.p (.i .i64 0)), .t 79], none⟩,
          ⟨.l 4, .mv (.t 80), none⟩]) (
        .ret)) (
        .seq (.seq (.reg [
          ⟨.t 82, .bin .eql (.l 60) (.c (.p (.i .i64 5))), none⟩,
          ⟨.l 81, .mv (.t 82), none⟩]) (
        .cond (.l 81) (
          .skip) (
          .reg [
            ⟨.t 83, .bin .eql (.l 60) (.c (.p (.i .i64 6))), none⟩,
            ⟨.l 81, .mv (.t 83), none⟩]))) (
        .cond (.l 81) (
          .seq (.reg [
            ⟨.t 84, .fad 4 (.l 3), none⟩,
            ⟨.t 85, .ld false 1 (.t 84), none⟩,
            ⟨.t 86, .call 124 [.t 85, .c (.p (.i .i64 0)), .c (.p (.i .i64 63))], none⟩,
            ⟨.l 4, .mv (.t 86), none⟩]) (
          .ret)) (
          .seq (.reg [
            ⟨.t 88, .bin .eql (.l 60) (.c (.p (.i .i64 8))), none⟩,
            ⟨.l 87, .mv (.t 88), none⟩]) (
          .cond (.l 87) (
            .seq (.reg [
              ⟨.t 89, .fad 4 (.l 3), none⟩,
              ⟨.t 90, .ld false 1 (.t 89), none⟩,
              ⟨.t 91, .call 124 [.t 90, .c (.p (.i .i64 1)), .c (.p (.i .i64 4000))], none⟩,
              ⟨.l 4, .mv (.t 91), none⟩]) (
            .ret)) (
            .seq (.seq (.reg [
              ⟨.t 93, .bin .eql (.l 60) (.c (.p (.i .i64 9))), none⟩,
              ⟨.l 92, .mv (.t 93), none⟩]) (
            .cond (.l 92) (
              .skip) (
              .reg [
                ⟨.t 94, .bin .eql (.l 60) (.c (.p (.i .i64 10))), none⟩,
                ⟨.l 92, .mv (.t 94), none⟩]))) (
            .cond (.l 92) (
              .seq (.reg [
                ⟨.t 95, .fad 4 (.l 3), none⟩,
                ⟨.t 96, .ld false 1 (.t 95), none⟩,
                ⟨.t 97, .bin .geq (.t 96) (.c (.p (.i .i64 0))), none⟩,
                ⟨.l 4, .mv (.t 97), none⟩]) (
              .ret)) (
              .seq (.seq (.reg [
                ⟨.t 99, .bin .eql (.l 60) (.c (.p (.i .i64 11))), none⟩,
                ⟨.l 98, .mv (.t 99), none⟩]) (
              .cond (.l 98) (
                .skip) (
                .reg [
                  ⟨.t 100, .bin .eql (.l 60) (.c (.p (.i .i64 12))), none⟩,
                  ⟨.l 98, .mv (.t 100), none⟩]))) (
              .cond (.l 98) (
                .seq (.reg [
                  ⟨.t 101, .fad 4 (.l 3), none⟩,
                  ⟨.t 102, .ld false 1 (.t 101), none⟩,
                  ⟨.t 103, .fad 0 (.l 2), none⟩,
                  ⟨.t 104, .ld false 1 (.t 103), none⟩,
                  ⟨.t 105, .len false (.t 104), none⟩,
                  ⟨.t 106, .bin .sub (.t 105) (.c (.p (.i .i64 1))), none⟩,
                  ⟨.t 107, .call 124 [.t 102, .c (.p (.i .i64 0)), .t 106], none⟩,
                  ⟨.l 4, .mv (.t 107), none⟩]) (
                .ret)) (
                .seq (.reg [
                  ⟨.t 109, .bin .eql (.l 60) (.c (.p (.i .i64 15))), none⟩,
                  ⟨.l 108, .mv (.t 109), none⟩]) (
                .cond (.l 108) (
                  .seq (.reg [
                    ⟨.t 110, .fad 4 (.l 3), none⟩,
                    ⟨.t 111, .ld false 1 (.t 110), none⟩,
                    ⟨.t 112, .call 124 [.t 111, .c (.p (.i .i64 1)), .c (.p (.i .i64 2))], none⟩,
                    ⟨.l 4, .mv (.t 112), none⟩]) (
                  .ret)) (
                  .skip))))))))))))))))) (
  .seq (.reg [
    ⟨.l 4, .mv (.c (.p (.b true))), none⟩]) (
  .ret)))))))
theorem mc132_eq : (Try.f132.body.map (compile lv132 Try.prog 113)) = some mc132 := by kernel_rfl
def mr132 : List MR := [.t 4]
theorem mr132_eq : cRess lv132 Try.prog Try.f132.results.toList = some mr132 := by kernel_rfl
theorem call132 {args : List AV} {H : List AO} {Q : AV → List AO → Prop} (hla : args.length ≤ 113) (h : wpm (ACall Try.prog) mc132 (finK mr132 Q) ⟨argEnv 0 args, [], H⟩) : ACall Try.prog 132 args H Q :=
  acall_mc (by kernel_rfl) Try.func132 mc132_eq Try.ntmps132 (by kernel_rfl) mr132_eq hla h
def lv133 : List Nat := [0, 1, 4]
def mc133 : MC :=
.seq (.reg [
    ⟨.l 4, .mv (.c (.p (.b false))), none⟩]) (
  .seq (.reg [
    ⟨.t 5, .mv (.l 0), none⟩,
    ⟨.t 6, .mv (.l 1), none⟩,
    ⟨.t 7, .call 172 [.t 5, .t 6], none⟩,
    ⟨.t 8, .bin .geq (.t 7) (.c (.p (.i .i64 0))), none⟩,
    ⟨.l 4, .mv (.t 8), none⟩]) (
  .ret))
theorem mc133_eq : (Try.f133.body.map (compile lv133 Try.prog 9)) = some mc133 := by kernel_rfl
def mr133 : List MR := [.t 4]
theorem mr133_eq : cRess lv133 Try.prog Try.f133.results.toList = some mr133 := by kernel_rfl
theorem call133 {args : List AV} {H : List AO} {Q : AV → List AO → Prop} (hla : args.length ≤ 9) (h : wpm (ACall Try.prog) mc133 (finK mr133 Q) ⟨argEnv 0 args, [], H⟩) : ACall Try.prog 133 args H Q :=
  acall_mc (by kernel_rfl) Try.func133 mc133_eq Try.ntmps133 (by kernel_rfl) mr133_eq hla h
def lv134 : List Nat := [0, 1, 3]
def mc134 : MC :=
.seq (.reg [
    ⟨.l 3, .mv (.c (.p (.b false))), none⟩]) (
  .seq (.reg [
    ⟨.t 4, .mv (.l 0), none⟩,
    ⟨.t 5, .fad 0 (.l 1), none⟩,
    ⟨.t 6, .ld false 1 (.t 5), none⟩,
    ⟨.t 7, .len false (.t 6), none⟩,
    ⟨.t 8, .bin .sub (.t 7) (.c (.p (.i .i64 1))), none⟩,
    ⟨.t 9, .call 124 [.t 4, .c (.p (.i .i64 0)), .t 8], none⟩,
    ⟨.t 10, .un .not (.t 9), none⟩,
    ⟨.l 3, .mv (.t 10), none⟩]) (
  .ret))
theorem mc134_eq : (Try.f134.body.map (compile lv134 Try.prog 11)) = some mc134 := by kernel_rfl
def mr134 : List MR := [.t 3]
theorem mr134_eq : cRess lv134 Try.prog Try.f134.results.toList = some mr134 := by kernel_rfl
theorem call134 {args : List AV} {H : List AO} {Q : AV → List AO → Prop} (hla : args.length ≤ 11) (h : wpm (ACall Try.prog) mc134 (finK mr134 Q) ⟨argEnv 0 args, [], H⟩) : ACall Try.prog 134 args H Q :=
  acall_mc (by kernel_rfl) Try.func134 mc134_eq Try.ntmps134 (by kernel_rfl) mr134_eq hla h
def lv136 : List Nat := [0, 1, 2, 3, 4, 9, 14, 19, 24, 29, 34]
def mc136 : MC :=
.seq (.reg [
    ⟨.l 2, .box 6 (.l 0), none⟩,
    ⟨.l 3, .box 6 (.l 1), none⟩,
    ⟨.l 4, .mv (.c (.p (.b false))), none⟩]) (
  .seq (.seq (.reg [
    ⟨.t 5, .fad 0 (.l 2), none⟩,
    ⟨.t 6, .ld false 1 (.t 5), none⟩,
    ⟨.t 7, .fad 0 (.l 3), none⟩,
    ⟨.t 8, .ld false 1 (.t 7), none⟩,
    ⟨.l 9, .bin .neq (.t 6) (.t 8), none⟩]) (
  .cond (.l 9) (
    .seq (.reg [
      ⟨.l 4, .mv (.c (.p (.b false))), none⟩]) (
    .ret)) (
    .skip))) (
  .seq (.seq (.reg [
    ⟨.t 10, .fad 1 (.l 2), none⟩,
    ⟨.t 11, .ld false 1 (.t 10), none⟩,
    ⟨.t 12, .fad 1 (.l 3), none⟩,
    ⟨.t 13, .ld false 1 (.t 12), none⟩,
    ⟨.l 14, .bin .neq (.t 11) (.t 13), none⟩]) (
  .cond (.l 14) (
    .seq (.reg [
      ⟨.l 4, .mv (.c (.p (.b false))), none⟩]) (
    .ret)) (
    .skip))) (
  .seq (.seq (.reg [
    ⟨.t 15, .fad 2 (.l 2), none⟩,
    ⟨.t 16, .ld false 1 (.t 15), none⟩,
    ⟨.t 17, .fad 2 (.l 3), none⟩,
    ⟨.t 18, .ld false 1 (.t 17), none⟩,
    ⟨.l 19, .bin .neq (.t 16) (.t 18), none⟩]) (
  .cond (.l 19) (
    .seq (.reg [
      ⟨.l 4, .mv (.c (.p (.b false))), none⟩]) (
    .ret)) (
    .skip))) (
  .seq (.seq (.reg [
    ⟨.t 20, .fad 3 (.l 2), none⟩,
    ⟨.t 21, .ld false 1 (.t 20), none⟩,
    ⟨.t 22, .fad 3 (.l 3), none⟩,
    ⟨.t 23, .ld false 1 (.t 22), none⟩,
    ⟨.l 24, .bin .neq (.t 21) (.t 23), none⟩]) (
  .cond (.l 24) (
    .seq (.reg [
      ⟨.l 4, .mv (.c (.p (.b false))), none⟩]) (
    .ret)) (
    .skip))) (
  .seq (.seq (.reg [
    ⟨.t 25, .fad 4 (.l 2), none⟩,
    ⟨.t 26, .ld false 1 (.t 25), none⟩,
    ⟨.t 27, .fad 4 (.l 3), none⟩,
    ⟨.t 28, .ld false 1 (.t 27), none⟩,
    ⟨.l 29, .bin .neq (.t 26) (.t 28), none⟩]) (
  .cond (.l 29) (
    .seq (.reg [
      ⟨.l 4, .mv (.c (.p (.b false))), none⟩]) (
    .ret)) (
    .skip))) (
  .seq (.seq (.reg [
    ⟨.t 30, .fad 5 (.l 2), none⟩,
    ⟨.t 31, .ld false 1 (.t 30), none⟩,
    ⟨.t 32, .fad 5 (.l 3), none⟩,
    ⟨.t 33, .ld false 1 (.t 32), none⟩,
    ⟨.l 34, .bin .neq (.t 31) (.t 33), none⟩]) (
  .cond (.l 34) (
    .seq (.reg [
      ⟨.l 4, .mv (.c (.p (.b false))), none⟩]) (
    .ret)) (
    .skip))) (
  .seq (.reg [
    ⟨.l 4, .mv (.c (.p (.b true))), none⟩]) (
  .ret))))))))
theorem mc136_eq : (Try.f136.body.map (compile lv136 Try.prog 35)) = some mc136 := by kernel_rfl
def mr136 : List MR := [.t 4]
theorem mr136_eq : cRess lv136 Try.prog Try.f136.results.toList = some mr136 := by kernel_rfl
theorem call136 {args : List AV} {H : List AO} {Q : AV → List AO → Prop} (hla : args.length ≤ 35) (h : wpm (ACall Try.prog) mc136 (finK mr136 Q) ⟨argEnv 0 args, [], H⟩) : ACall Try.prog 136 args H Q :=
  acall_mc (by kernel_rfl) Try.func136 mc136_eq Try.ntmps136 (by kernel_rfl) mr136_eq hla h
def lv137 : List Nat := [0, 2, 3, 5, 7]
def mc137 : MC :=
.seq (.reg [
    ⟨.l 2, .mv (.c (.p (.s []))), none⟩]) (
  .seq (.seq (.reg [
    ⟨.t 4, .mv (.l 0), none⟩,
    ⟨.l 5, .bin .leq (.t 4) (.c (.p (.i .i64 0))), none⟩]) (
  .cond (.l 5) (
    .seq (.reg [
      ⟨.l 2, .mv (.c (.p (.s [109, 48]))), none⟩]) (
    .ret)) (
    .skip))) (
  .seq (.reg [
    ⟨.l 3, .mv (.c (.p (.s []))), none⟩]) (
  .seq (.blk 0 (
    .loop (
      .seq (.seq (.reg [
        ⟨.t 6, .mv (.l 0), none⟩,
        ⟨.l 7, .bin .gtr (.t 6) (.c (.p (.i .i64 0))), none⟩]) (
      .cond (.l 7) (
        .skip) (
        .exit 0))) (
      .blk 1 (
        .seq (.reg [
          ⟨.t 8, .mv (.l 0), none⟩,
          ⟨.t 9, .bin .rem (.t 8) (.c (.p (.i .i64 10))), none⟩,
          ⟨.t 10, .bin .add (.c (.p (.i .i64 48))) (.t 9), none⟩,
          ⟨.t 11, .conv .u8 (.t 10), none⟩,
          ⟨.t 12, .bsl 1 [.p (.i .u8 0)] 1 [(0, (.t 11))], none⟩,
          ⟨.t 13, .b2s (.t 12), none⟩,
          ⟨.t 14, .mv (.l 3), none⟩,
          ⟨.t 15, .bin .add (.t 13) (.t 14), none⟩,
          ⟨.l 3, .mv (.t 15), none⟩]) (
        .reg [
          ⟨.t 16, .mv (.l 0), none⟩,
          ⟨.t 17, .bin .quo (.t 16) (.c (.p (.i .i64 10))), none⟩,
          ⟨.l 0, .mv (.t 17), none⟩])))))) (
  .seq (.reg [
    ⟨.t 18, .mv (.l 3), none⟩,
    ⟨.t 19, .bin .add (.c (.p (.s [109]))) (.t 18), none⟩,
    ⟨.l 2, .mv (.t 19), none⟩]) (
  .ret)))))
theorem mc137_eq : (Try.f137.body.map (compile lv137 Try.prog 20)) = some mc137 := by kernel_rfl
def mr137 : List MR := [.t 2]
theorem mr137_eq : cRess lv137 Try.prog Try.f137.results.toList = some mr137 := by kernel_rfl
theorem call137 {args : List AV} {H : List AO} {Q : AV → List AO → Prop} (hla : args.length ≤ 20) (h : wpm (ACall Try.prog) mc137 (finK mr137 Q) ⟨argEnv 0 args, [], H⟩) : ACall Try.prog 137 args H Q :=
  acall_mc (by kernel_rfl) Try.func137 mc137_eq Try.ntmps137 (by kernel_rfl) mr137_eq hla h
def lv162 : List Nat := [0, 2]
def mc162 : MC :=
.seq (.reg [
    ⟨.l 2, .mv (.c (.p (.b false))), none⟩]) (
  .seq (.reg [
    ⟨.t 3, .mv (.l 0), none⟩,
    ⟨.t 4, .call 122 [.t 3, .c (.p (.i .i64 0)), .c (.p (.i .i64 15))], none⟩,
    ⟨.l 2, .mv (.t 4), none⟩]) (
  .ret))
theorem mc162_eq : (Try.f162.body.map (compile lv162 Try.prog 5)) = some mc162 := by kernel_rfl
def mr162 : List MR := [.t 2]
theorem mr162_eq : cRess lv162 Try.prog Try.f162.results.toList = some mr162 := by kernel_rfl
theorem call162 {args : List AV} {H : List AO} {Q : AV → List AO → Prop} (hla : args.length ≤ 5) (h : wpm (ACall Try.prog) mc162 (finK mr162 Q) ⟨argEnv 0 args, [], H⟩) : ACall Try.prog 162 args H Q :=
  acall_mc (by kernel_rfl) Try.func162 mc162_eq Try.ntmps162 (by kernel_rfl) mr162_eq hla h
def lv163 : List Nat := [0, 1, 2, 4, 5, 6, 7, 12, 16, 24]
def mc163 : MC :=
.seq (.reg [
    ⟨.l 2, .box 6 (.l 0), none⟩,
    ⟨.l 4, .mv (.c (.p (.b false))), none⟩]) (
  .seq (.reg [
    ⟨.t 8, .bsl 1 [.p (.b false)] 5 [(0, (.c (.p (.b false)))), (1, (.c (.p (.b false)))), (2, (.c (.p (.b false)))), (3, (.c (.p (.b false)))), (4, (.c (.p (.b false))))], none⟩,
    ⟨.l 5, .mv (.t 8), none⟩]) (
  .seq (.seq (.reg [
    ⟨.l 6, .mv (.c (.p (.i .i64 0))), none⟩]) (
  .blk 0 (
    .loop (
      .seq (.seq (.reg [
        ⟨.t 9, .mv (.l 6), none⟩,
        ⟨.t 10, .mv (.l 1), none⟩,
        ⟨.t 11, .len true (.t 10), none⟩,
        ⟨.l 12, .bin .lss (.t 9) (.t 11), none⟩]) (
      .cond (.l 12) (
        .skip) (
        .exit 0))) (
      .seq (.blk 1 (
        .seq (.reg [
          ⟨.l 7, .mv (.c (.p (.i .i64 0))), none⟩]) (
        .blk 2 (
          .loop (
            .seq (.seq (.reg [
              ⟨.t 15, .mv (.l 7), none⟩,
              ⟨.l 16, .bin .lss (.t 15) (.c (.p (.i .i64 5))), none⟩]) (
            .cond (.l 16) (
              .skip) (
              .exit 2))) (
            .seq (.blk 3 (
              .seq (.drw [
                ⟨.t 19, .mv (.l 1), none⟩,
                ⟨.t 20, .mv (.l 6), none⟩,
                ⟨.t 21, .ixt (.t 19) (.t 20), none⟩,
                ⟨.t 22, .mv (.l 7), none⟩,
                ⟨.t 23, .ixt (.c (.p (.s [97, 98, 99, 110, 116]))) (.t 22), none⟩] [
                ⟨.l 24, .bin .eql (.t 21) (.t 23), none⟩]) (
              .cond (.l 24) (
                .reg [
                  ⟨.t 25, .mv (.l 5), none⟩,
                  ⟨.t 26, .mv (.l 7), none⟩,
                  ⟨.t 27, .ixs 1 (.t 25) (.t 26), none⟩,
                  ⟨.no, .sto 1 (.t 27) (.c (.p (.b true))), none⟩]) (
                .skip)))) (
            .reg [
              ⟨.t 17, .mv (.l 7), none⟩,
              ⟨.t 18, .bin .add (.t 17) (.c (.p (.i .i64 1))), none⟩,
              ⟨.l 7, .mv (.t 18), none⟩]))))))) (
      .reg [
        ⟨.t 13, .mv (.l 6), none⟩,
        ⟨.t 14, .bin .add (.t 13) (.c (.p (.i .i64 1))), none⟩,
        ⟨.l 6, .mv (.t 14), none⟩])))))) (
  .seq (.reg [
    ⟨.t 28, .mv (.l 5), none⟩,
    ⟨.t 29, .ixs 1 (.t 28) (.c (.p (.i .i64 0))), none⟩,
    ⟨.t 30, .ld false 1 (.t 29), none⟩,
    ⟨.t 31, .mv (.t 30), none⟩,
    ⟨.t 32, .fad 1 (.l 2), some ((.t 31), false)⟩,
    ⟨.t 33, .ld false 1 (.t 32), some ((.t 31), false)⟩,
    ⟨.t 34, .bin .eql (.t 33) (.c (.p (.i .i64 0))), some ((.t 31), false)⟩,
    ⟨.t 35, .pick (.t 31) (.c (.p (.b true))) (.t 34), none⟩,
    ⟨.t 36, .mv (.t 35), none⟩,
    ⟨.t 37, .mv (.l 5), some ((.t 36), true)⟩,
    ⟨.t 38, .ixs 1 (.t 37) (.c (.p (.i .i64 1))), some ((.t 36), true)⟩,
    ⟨.t 39, .ld false 1 (.t 38), some ((.t 36), true)⟩,
    ⟨.t 40, .mv (.t 39), some ((.t 36), true)⟩,
    ⟨.t 41, .fad 2 (.l 2), some ((.t 40), false)⟩,
    ⟨.t 42, .ld false 1 (.t 41), some ((.t 40), false)⟩,
    ⟨.t 43, .bin .eql (.t 42) (.c (.p (.i .i64 0))), some ((.t 40), false)⟩,
    ⟨.t 44, .pick (.t 40) (.c (.p (.b true))) (.t 43), some ((.t 36), true)⟩,
    ⟨.t 45, .pick (.t 36) (.t 44) (.c (.p (.b false))), none⟩,
    ⟨.t 46, .mv (.t 45), none⟩,
    ⟨.t 47, .mv (.l 5), some ((.t 46), true)⟩,
    ⟨.t 48, .ixs 1 (.t 47) (.c (.p (.i .i64 2))), some ((.t 46), true)⟩,
    ⟨.t 49, .ld false 1 (.t 48), some ((.t 46), true)⟩,
    ⟨.t 50, .mv (.t 49), some ((.t 46), true)⟩,
    ⟨.t 51, .fad 3 (.l 2), some ((.t 50), false)⟩,
    ⟨.t 52, .ld false 1 (.t 51), some ((.t 50), false)⟩,
    ⟨.t 53, .bin .eql (.t 52) (.c (.p (.i .i64 0))), some ((.t 50), false)⟩,
    ⟨.t 54, .pick (.t 50) (.c (.p (.b true))) (.t 53), some ((.t 46), true)⟩,
    ⟨.t 55, .pick (.t 46) (.t 54) (.c (.p (.b false))), none⟩,
    ⟨.t 56, .mv (.t 55), none⟩,
    ⟨.t 57, .mv (.l 5), some ((.t 56), true)⟩,
    ⟨.t 58, .ixs 1 (.t 57) (.c (.p (.i .i64 3))), some ((.t 56), true)⟩,
    ⟨.t 59, .ld false 1 (.t 58), some ((.t 56), true)⟩,
    ⟨.t 60, .mv (.t 59), some ((.t 56), true)⟩,
    ⟨.t 61, .fad 4 (.l 2), some ((.t 60), false)⟩,
    ⟨.t 62, .ld false 1 (.t 61), some ((.t 60), false)⟩,
    ⟨.t 63, .bin .eql (.t 62) (.c (.p (.i .i64 0))), some ((.t 60), false)⟩,
    ⟨.t 64, .pick (.t 60) (.c (.p (.b true))) (.t 63), some ((.t 56), true)⟩,
    ⟨.t 65, .pick (.t 56) (.t 64) (.c (.p (.b false))), none⟩,
    ⟨.t 66, .mv (.t 65), none⟩,
    ⟨.t 67, .mv (.l 5), some ((.t 66), true)⟩,
    ⟨.t 68, .ixs 1 (.t 67) (.c (.p (.i .i64 4))), some ((.t 66), true)⟩,
    ⟨.t 69, .ld false 1 (.t 68), some ((.t 66), true)⟩,
    ⟨.t 70, .mv (.t 69), some ((.t 66), true)⟩,
    ⟨.t 71, .fad 5 (.l 2), some ((.t 70), false)⟩,
    ⟨.t 72, .ld false 1 (.t 71), some ((.t 70), false)⟩,
    ⟨.t 73, .bin .eql (.t 72) (.c (.p (.s []))), some ((.t 70), false)⟩,
    ⟨.t 74, .pick (.t 70) (.c (.p (.b true))) (.t 73), some ((.t 66), true)⟩,
    ⟨.t 75, .pick (.t 66) (.t 74) (.c (.p (.b false))), none⟩,
    ⟨.l 4, .mv (.t 75), none⟩]) (
  .ret))))
theorem mc163_eq : (Try.f163.body.map (compile lv163 Try.prog 76)) = some mc163 := by kernel_rfl
def mr163 : List MR := [.t 4]
theorem mr163_eq : cRess lv163 Try.prog Try.f163.results.toList = some mr163 := by kernel_rfl
theorem call163 {args : List AV} {H : List AO} {Q : AV → List AO → Prop} (hla : args.length ≤ 76) (h : wpm (ACall Try.prog) mc163 (finK mr163 Q) ⟨argEnv 0 args, [], H⟩) : ACall Try.prog 163 args H Q :=
  acall_mc (by kernel_rfl) Try.func163 mc163_eq Try.ntmps163 (by kernel_rfl) mr163_eq hla h
def lv164 : List Nat := [0, 2, 3, 7, 21]
def mc164 : MC :=
.seq (.reg [
    ⟨.l 2, .mv (.c (.p (.b false))), none⟩]) (
  .seq (.seq (.reg [
    ⟨.l 3, .mv (.c (.p (.i .i64 0))), none⟩]) (
  .blk 0 (
    .loop (
      .seq (.seq (.reg [
        ⟨.t 4, .mv (.l 3), none⟩,
        ⟨.t 5, .mv (.l 0), none⟩,
        ⟨.t 6, .len true (.t 5), none⟩,
        ⟨.l 7, .bin .lss (.t 4) (.t 6), none⟩]) (
      .cond (.l 7) (
        .skip) (
        .exit 0))) (
      .seq (.blk 1 (
        .seq (.reg [
          ⟨.t 10, .mv (.l 0), none⟩,
          ⟨.t 11, .mv (.l 3), none⟩,
          ⟨.t 12, .ixt (.t 10) (.t 11), none⟩,
          ⟨.t 13, .bin .neq (.t 12) (.c (.p (.i .u8 10))), none⟩,
          ⟨.t 14, .mv (.t 13), none⟩,
          ⟨.t 15, .mv (.l 0), some ((.t 14), true)⟩,
          ⟨.t 16, .mv (.l 3), some ((.t 14), true)⟩,
          ⟨.t 17, .ixt (.t 15) (.t 16), some ((.t 14), true)⟩,
          ⟨.t 18, .conv .i64 (.t 17), some ((.t 14), true)⟩,
          ⟨.t 19, .call 122 [.t 18, .c (.p (.i .i64 32)), .c (.p (.i .i64 126))], some ((.t 14), true)⟩,
          ⟨.t 20, .un .not (.t 19), some ((.t 14), true)⟩,
          ⟨.l 21, .pick (.t 14) (.t 20) (.c (.p (.b false))), none⟩]) (
        .cond (.l 21) (
          .seq (.reg [
            ⟨.l 2, .mv (.c (.p (.b false))), none⟩]) (
          .ret)) (
          .skip)))) (
      .reg [
        ⟨.t 8, .mv (.l 3), none⟩,
        ⟨.t 9, .bin .add (.t 8) (.c (.p (.i .i64 1))), none⟩,
        ⟨.l 3, .mv (.t 9), none⟩])))))) (
  .seq (.reg [
    ⟨.l 2, .mv (.c (.p (.b true))), none⟩]) (
  .ret)))
theorem mc164_eq : (Try.f164.body.map (compile lv164 Try.prog 22)) = some mc164 := by kernel_rfl
def mr164 : List MR := [.t 2]
theorem mr164_eq : cRess lv164 Try.prog Try.f164.results.toList = some mr164 := by kernel_rfl
theorem call164 {args : List AV} {H : List AO} {Q : AV → List AO → Prop} (hla : args.length ≤ 22) (h : wpm (ACall Try.prog) mc164 (finK mr164 Q) ⟨argEnv 0 args, [], H⟩) : ACall Try.prog 164 args H Q :=
  acall_mc (by kernel_rfl) Try.func164 mc164_eq Try.ntmps164 (by kernel_rfl) mr164_eq hla h
def lv165 : List Nat := [0, 1, 2, 4, 5, 14, 18, 22]
def mc165 : MC :=
.seq (.reg [
    ⟨.l 1, .box 6 (.l 0), none⟩,
    ⟨.l 2, .mv (.c (.p (.b false))), none⟩]) (
  .seq (.seq (.reg [
    ⟨.t 3, .fad 5 (.l 1), none⟩,
    ⟨.l 4, .ld false 1 (.t 3), none⟩]) (
  .blk 0 (
    .seq (.seq (.reg [
      ⟨.t 6, .bin .eql (.l 4) (.c (.p (.s [43]))), none⟩,
      ⟨.l 5, .mv (.t 6), none⟩]) (
    .cond (.l 5) (
      .skip) (
      .seq (.reg [
        ⟨.t 7, .bin .eql (.l 4) (.c (.p (.s [45]))), none⟩,
        ⟨.l 5, .mv (.t 7), none⟩]) (
      .cond (.l 5) (
        .skip) (
        .seq (.reg [
          ⟨.t 8, .bin .eql (.l 4) (.c (.p (.s [42]))), none⟩,
          ⟨.l 5, .mv (.t 8), none⟩]) (
        .cond (.l 5) (
          .skip) (
          .seq (.reg [
            ⟨.t 9, .bin .eql (.l 4) (.c (.p (.s [61]))), none⟩,
            ⟨.l 5, .mv (.t 9), none⟩]) (
          .cond (.l 5) (
            .skip) (
            .seq (.reg [
              ⟨.t 10, .bin .eql (.l 4) (.c (.p (.s [60]))), none⟩,
              ⟨.l 5, .mv (.t 10), none⟩]) (
            .cond (.l 5) (
              .skip) (
              .reg [
                ⟨.t 11, .bin .eql (.l 4) (.c (.p (.s [94]))), none⟩,
                ⟨.l 5, .mv (.t 11), none⟩]))))))))))) (
    .cond (.l 5) (
      .seq (.reg [
        ⟨.t 12, .ld true 6 (.l 1), none⟩,
        ⟨.t 13, .call 163 [.t 12, .c (.p (.s [97, 98, 99, 116]))], none⟩,
        ⟨.l 2, .mv (.t 13), none⟩]) (
      .ret)) (
      .seq (.reg [
        ⟨.t 15, .bin .eql (.l 4) (.c (.p (.s [115, 105, 122, 101]))), none⟩,
        ⟨.l 14, .mv (.t 15), none⟩]) (
      .cond (.l 14) (
        .seq (.reg [
          ⟨.t 16, .ld true 6 (.l 1), none⟩,
          ⟨.t 17, .call 163 [.t 16, .c (.p (.s [97, 98, 116]))], none⟩,
          ⟨.l 2, .mv (.t 17), none⟩]) (
        .ret)) (
        .seq (.reg [
          ⟨.t 19, .bin .eql (.l 4) (.c (.p (.s [114, 101, 97, 100]))), none⟩,
          ⟨.l 18, .mv (.t 19), none⟩]) (
        .cond (.l 18) (
          .seq (.reg [
            ⟨.t 20, .ld true 6 (.l 1), none⟩,
            ⟨.t 21, .call 163 [.t 20, .c (.p (.s [97, 116]))], none⟩,
            ⟨.l 2, .mv (.t 21), none⟩]) (
          .ret)) (
          .seq (.reg [
            ⟨.t 23, .bin .eql (.l 4) (.c (.p (.s [112, 114, 105, 110, 116]))), none⟩,
            ⟨.l 22, .mv (.t 23), none⟩]) (
          .cond (.l 22) (
            .seq (.reg [
              ⟨.t 24, .ld true 6 (.l 1), none⟩,
              ⟨.t 25, .call 163 [.t 24, .c (.p (.s [98, 116]))], none⟩,
              ⟨.l 2, .mv (.t 25), none⟩]) (
            .ret)) (
            .skip))))))))))) (
  .seq (.reg [
    ⟨.l 2, .mv (.c (.p (.b false))), none⟩]) (
  .ret)))
theorem mc165_eq : (Try.f165.body.map (compile lv165 Try.prog 26)) = some mc165 := by kernel_rfl
def mr165 : List MR := [.t 2]
theorem mr165_eq : cRess lv165 Try.prog Try.f165.results.toList = some mr165 := by kernel_rfl
theorem call165 {args : List AV} {H : List AO} {Q : AV → List AO → Prop} (hla : args.length ≤ 26) (h : wpm (ACall Try.prog) mc165 (finK mr165 Q) ⟨argEnv 0 args, [], H⟩) : ACall Try.prog 165 args H Q :=
  acall_mc (by kernel_rfl) Try.func165 mc165_eq Try.ntmps165 (by kernel_rfl) mr165_eq hla h
def lv166 : List Nat := [0, 1, 4, 5, 7, 8, 9, 16]
def mc166 : MC :=
.seq (.reg [
    ⟨.l 4, .mv (.c (.p (.i .i64 0))), none⟩]) (
  .seq (.seq (.reg [
    ⟨.t 6, .mv (.l 0), none⟩,
    ⟨.l 7, .len false (.t 6), none⟩,
    ⟨.l 8, .mv (.c (.p (.i .i64 0))), none⟩]) (
  .blk 0 (
    .loop (
      .seq (.reg [
        ⟨.l 9, .bin .lss (.l 8) (.l 7), none⟩]) (
      .seq (.cond (.l 9) (
        .skip) (
        .exit 0)) (
      .seq (.blk 1 (
        .seq (.reg [
          ⟨.t 10, .mv (.l 8), none⟩,
          ⟨.l 5, .mv (.t 10), none⟩]) (
        .seq (.reg [
          ⟨.t 11, .mv (.l 1), none⟩,
          ⟨.t 12, .mv (.l 0), none⟩,
          ⟨.t 13, .mv (.l 5), none⟩,
          ⟨.t 14, .ixs 6 (.t 12) (.t 13), none⟩,
          ⟨.t 15, .ld true 6 (.t 14), none⟩,
          ⟨.l 16, .calv (.t 11) [.t 15], none⟩]) (
        .cond (.l 16) (
          .seq (.reg [
            ⟨.t 17, .mv (.l 5), none⟩,
            ⟨.l 4, .mv (.t 17), none⟩]) (
          .ret)) (
          .skip))))) (
      .reg [
        ⟨.t 18, .bin .add (.l 8) (.c (.p (.i .i64 1))), none⟩,
        ⟨.l 8, .mv (.t 18), none⟩]))))))) (
  .seq (.reg [
    ⟨.l 4, .mv (.c (.p (.i .i64 (-1)))), none⟩]) (
  .ret)))
theorem mc166_eq : (Try.f166.body.map (compile lv166 Try.prog 19)) = some mc166 := by kernel_rfl
def mr166 : List MR := [.t 4]
theorem mr166_eq : cRess lv166 Try.prog Try.f166.results.toList = some mr166 := by kernel_rfl
theorem call166 {args : List AV} {H : List AO} {Q : AV → List AO → Prop} (hla : args.length ≤ 19) (h : wpm (ACall Try.prog) mc166 (finK mr166 Q) ⟨argEnv 0 args, [], H⟩) : ACall Try.prog 166 args H Q :=
  acall_mc (by kernel_rfl) Try.func166 mc166_eq Try.ntmps166 (by kernel_rfl) mr166_eq hla h
def lv167 : List Nat := [0, 1, 2, 3, 5, 6, 13, 15, 17, 20, 21, 28, 30, 32, 34, 37, 40]
def mc167 : MC :=
.seq (.reg [
    ⟨.l 1, .box 6 (.l 0), none⟩,
    ⟨.l 2, .mv (.c (.p (.s []))), none⟩,
    ⟨.l 3, .mv (.c (.p (.b false))), none⟩]) (
  .seq (.seq (.reg [
    ⟨.t 4, .fad 0 (.l 1), none⟩,
    ⟨.l 5, .ld false 1 (.t 4), none⟩]) (
  .blk 0 (
    .seq (.seq (.reg [
      ⟨.t 7, .bin .eql (.l 5) (.c (.p (.i .i64 1))), none⟩,
      ⟨.l 6, .mv (.t 7), none⟩]) (
    .cond (.l 6) (
      .skip) (
      .seq (.reg [
        ⟨.t 8, .bin .eql (.l 5) (.c (.p (.i .i64 3))), none⟩,
        ⟨.l 6, .mv (.t 8), none⟩]) (
      .cond (.l 6) (
        .skip) (
        .seq (.reg [
          ⟨.t 9, .bin .eql (.l 5) (.c (.p (.i .i64 5))), none⟩,
          ⟨.l 6, .mv (.t 9), none⟩]) (
        .cond (.l 6) (
          .skip) (
          .seq (.reg [
            ⟨.t 10, .bin .eql (.l 5) (.c (.p (.i .i64 6))), none⟩,
            ⟨.l 6, .mv (.t 10), none⟩]) (
          .cond (.l 6) (
            .skip) (
            .seq (.reg [
              ⟨.t 11, .bin .eql (.l 5) (.c (.p (.i .i64 8))), none⟩,
              ⟨.l 6, .mv (.t 11), none⟩]) (
            .cond (.l 6) (
              .skip) (
              .reg [
                ⟨.t 12, .bin .eql (.l 5) (.c (.p (.i .i64 11))), none⟩,
                ⟨.l 6, .mv (.t 12), none⟩]))))))))))) (
    .cond (.l 6) (
      .seq (.reg [
        ⟨.l 2, .mv (.c (.p (.s [97, 110]))), none⟩,
        ⟨.l 3, .mv (.c (.p (.b true))), none⟩]) (
      .ret)) (
      .seq (.reg [
        ⟨.t 14, .bin .eql (.l 5) (.c (.p (.i .i64 2))), none⟩,
        ⟨.l 13, .mv (.t 14), none⟩]) (
      .cond (.l 13) (
        .seq (.reg [
          ⟨.l 2, .mv (.c (.p (.s [97, 116]))), none⟩,
          ⟨.l 3, .mv (.c (.p (.b true))), none⟩]) (
        .ret)) (
        .seq (.reg [
          ⟨.t 16, .bin .eql (.l 5) (.c (.p (.i .i64 4))), none⟩,
          ⟨.l 15, .mv (.t 16), none⟩]) (
        .cond (.l 15) (
          .seq (.reg [
            ⟨.l 2, .mv (.c (.p (.s [97, 98]))), none⟩,
            ⟨.l 3, .mv (.c (.p (.b true))), none⟩]) (
          .ret)) (
          .seq (.reg [
            ⟨.t 18, .bin .eql (.l 5) (.c (.p (.i .i64 7))), none⟩,
            ⟨.l 17, .mv (.t 18), none⟩]) (
          .cond (.l 17) (
            .seq (.reg [
              ⟨.t 19, .fad 5 (.l 1), none⟩,
              ⟨.l 20, .ld false 1 (.t 19), none⟩]) (
            .blk 1 (
              .seq (.seq (.reg [
                ⟨.t 22, .bin .eql (.l 20) (.c (.p (.s [43]))), none⟩,
                ⟨.l 21, .mv (.t 22), none⟩]) (
              .cond (.l 21) (
                .skip) (
                .seq (.reg [
                  ⟨.t 23, .bin .eql (.l 20) (.c (.p (.s [45]))), none⟩,
                  ⟨.l 21, .mv (.t 23), none⟩]) (
                .cond (.l 21) (
                  .skip) (
                  .seq (.reg [
                    ⟨.t 24, .bin .eql (.l 20) (.c (.p (.s [42]))), none⟩,
                    ⟨.l 21, .mv (.t 24), none⟩]) (
                  .cond (.l 21) (
                    .skip) (
                    .seq (.reg [
                      ⟨.t 25, .bin .eql (.l 20) (.c (.p (.s [61]))), none⟩,
                      ⟨.l 21, .mv (.t 25), none⟩]) (
                    .cond (.l 21) (
                      .skip) (
                      .seq (.reg [
                        ⟨.t 26, .bin .eql (.l 20) (.c (.p (.s [60]))), none⟩,
                        ⟨.l 21, .mv (.t 26), none⟩]) (
                      .cond (.l 21) (
                        .skip) (
                        .reg [
                          ⟨.t 27, .bin .eql (.l 20) (.c (.p (.s [94]))), none⟩,
                          ⟨.l 21, .mv (.t 27), none⟩]))))))))))) (
              .cond (.l 21) (
                .seq (.reg [
                  ⟨.l 2, .mv (.c (.p (.s [97, 98, 99, 116]))), none⟩,
                  ⟨.l 3, .mv (.c (.p (.b true))), none⟩]) (
                .ret)) (
                .seq (.reg [
                  ⟨.t 29, .bin .eql (.l 20) (.c (.p (.s [115, 105, 122, 101]))), none⟩,
                  ⟨.l 28, .mv (.t 29), none⟩]) (
                .cond (.l 28) (
                  .seq (.reg [
                    ⟨.l 2, .mv (.c (.p (.s [97, 98, 116]))), none⟩,
                    ⟨.l 3, .mv (.c (.p (.b true))), none⟩]) (
                  .ret)) (
                  .seq (.reg [
                    ⟨.t 31, .bin .eql (.l 20) (.c (.p (.s [114, 101, 97, 100]))), none⟩,
                    ⟨.l 30, .mv (.t 31), none⟩]) (
                  .cond (.l 30) (
                    .seq (.reg [
                      ⟨.l 2, .mv (.c (.p (.s [97, 116]))), none⟩,
                      ⟨.l 3, .mv (.c (.p (.b true))), none⟩]) (
                    .ret)) (
                    .seq (.reg [
                      ⟨.t 33, .bin .eql (.l 20) (.c (.p (.s [112, 114, 105, 110, 116]))), none⟩,
                      ⟨.l 32, .mv (.t 33), none⟩]) (
                    .cond (.l 32) (
                      .seq (.reg [
                        ⟨.l 2, .mv (.c (.p (.s [98, 116]))), none⟩,
                        ⟨.l 3, .mv (.c (.p (.b true))), none⟩]) (
                      .ret)) (
                      .skip))))))))))) (
            .seq (.seq (.reg [
              ⟨.t 35, .bin .eql (.l 5) (.c (.p (.i .i64 9))), none⟩,
              ⟨.l 34, .mv (.t 35), none⟩]) (
            .cond (.l 34) (
              .skip) (
              .reg [
                ⟨.t 36, .bin .eql (.l 5) (.c (.p (.i .i64 10))), none⟩,
                ⟨.l 34, .mv (.t 36), none⟩]))) (
            .cond (.l 34) (
              .seq (.reg [
                ⟨.l 2, .mv (.c (.p (.s [97, 98, 110]))), none⟩,
                ⟨.l 3, .mv (.c (.p (.b true))), none⟩]) (
              .ret)) (
              .seq (.seq (.reg [
                ⟨.t 38, .bin .eql (.l 5) (.c (.p (.i .i64 12))), none⟩,
                ⟨.l 37, .mv (.t 38), none⟩]) (
              .cond (.l 37) (
                .skip) (
                .reg [
                  ⟨.t 39, .bin .eql (.l 5) (.c (.p (.i .i64 15))), none⟩,
                  ⟨.l 37, .mv (.t 39), none⟩]))) (
              .cond (.l 37) (
                .seq (.reg [
                  ⟨.l 2, .mv (.c (.p (.s [110]))), none⟩,
                  ⟨.l 3, .mv (.c (.p (.b true))), none⟩]) (
                .ret)) (
                .seq (.seq (.reg [
                  ⟨.t 41, .bin .eql (.l 5) (.c (.p (.i .i64 13))), none⟩,
                  ⟨.l 40, .mv (.t 41), none⟩]) (
                .cond (.l 40) (
                  .skip) (
                  .reg [
                    ⟨.t 42, .bin .eql (.l 5) (.c (.p (.i .i64 14))), none⟩,
                    ⟨.l 40, .mv (.t 42), none⟩]))) (
                .cond (.l 40) (
                  .seq (.reg [
                    ⟨.l 2, .mv (.c (.p (.s [97]))), none⟩,
                    ⟨.l 3, .mv (.c (.p (.b true))), none⟩]) (
                  .ret)) (
                  .skip))))))))))))))))) (
  .seq (.reg [
    ⟨.l 2, .mv (.c (.p (.s []))), none⟩,
    ⟨.l 3, .mv (.c (.p (.b false))), none⟩]) (
  .ret)))
theorem mc167_eq : (Try.f167.body.map (compile lv167 Try.prog 43)) = some mc167 := by kernel_rfl
def mr167 : List MR := [.t 2, .t 3]
theorem mr167_eq : cRess lv167 Try.prog Try.f167.results.toList = some mr167 := by kernel_rfl
theorem call167 {args : List AV} {H : List AO} {Q : AV → List AO → Prop} (hla : args.length ≤ 43) (h : wpm (ACall Try.prog) mc167 (finK mr167 Q) ⟨argEnv 0 args, [], H⟩) : ACall Try.prog 167 args H Q :=
  acall_mc (by kernel_rfl) Try.func167 mc167_eq Try.ntmps167 (by kernel_rfl) mr167_eq hla h
def lv168 : List Nat := [0, 1, 3]
def mc168 : MC :=
.seq (.reg [
    ⟨.l 3, .mv (.c (.p (.b false))), none⟩]) (
  .seq (.reg [
    ⟨.t 4, .ld false 1 (.l 1), none⟩,
    ⟨.t 5, .mv (.l 0), none⟩,
    ⟨.t 6, .call 169 [.t 4, .t 5], none⟩,
    ⟨.l 3, .mv (.t 6), none⟩]) (
  .ret))
theorem mc168_eq : (Try.f168.body.map (compile lv168 Try.prog 7)) = some mc168 := by kernel_rfl
def mr168 : List MR := [.t 3]
theorem mr168_eq : cRess lv168 Try.prog Try.f168.results.toList = some mr168 := by kernel_rfl
theorem call168 {args : List AV} {H : List AO} {Q : AV → List AO → Prop} (hla : args.length ≤ 7) (h : wpm (ACall Try.prog) mc168 (finK mr168 Q) ⟨argEnv 0 args, [], H⟩) : ACall Try.prog 168 args H Q :=
  acall_mc (by kernel_rfl) Try.func168 mc168_eq Try.ntmps168 (by kernel_rfl) mr168_eq hla h
def lv169 : List Nat := [0, 1, 4]
def mc169 : MC :=
.seq (.reg [
    ⟨.l 4, .mv (.c (.p (.b false))), none⟩]) (
  .seq (.reg [
    ⟨.t 5, .mv (.l 0), none⟩,
    ⟨.t 6, .mv (.l 1), none⟩,
    ⟨.t 7, .call 214 [.t 5, .t 6], none⟩,
    ⟨.t 8, .bin .geq (.t 7) (.c (.p (.i .i64 0))), none⟩,
    ⟨.l 4, .mv (.t 8), none⟩]) (
  .ret))
theorem mc169_eq : (Try.f169.body.map (compile lv169 Try.prog 9)) = some mc169 := by kernel_rfl
def mr169 : List MR := [.t 4]
theorem mr169_eq : cRess lv169 Try.prog Try.f169.results.toList = some mr169 := by kernel_rfl
theorem call169 {args : List AV} {H : List AO} {Q : AV → List AO → Prop} (hla : args.length ≤ 9) (h : wpm (ACall Try.prog) mc169 (finK mr169 Q) ⟨argEnv 0 args, [], H⟩) : ACall Try.prog 169 args H Q :=
  acall_mc (by kernel_rfl) Try.func169 mc169_eq Try.ntmps169 (by kernel_rfl) mr169_eq hla h
def lv170 : List Nat := [0, 1, 2, 5]
def mc170 : MC :=
.seq (.reg [
    ⟨.l 5, .mv (.c (.p (.b false))), none⟩]) (
  .seq (.reg [
    ⟨.t 6, .ld false 1 (.l 2), none⟩,
    ⟨.t 7, .mv (.l 0), none⟩,
    ⟨.t 8, .calv (.t 6) [.t 7], none⟩,
    ⟨.t 9, .mv (.t 8), none⟩,
    ⟨.t 10, .mv (.l 1), some ((.t 9), true)⟩,
    ⟨.t 11, .call 124 [.t 10, .c (.p (.i .i64 0)), .c (.p (.i .i64 15))], some ((.t 9), true)⟩,
    ⟨.t 12, .pick (.t 9) (.t 11) (.c (.p (.b false))), none⟩,
    ⟨.t 13, .mv (.t 12), none⟩,
    ⟨.t 14, .mv (.l 1), some ((.t 13), false)⟩,
    ⟨.t 15, .bin .eql (.t 14) (.c (.p (.i .i64 0))), some ((.t 13), false)⟩,
    ⟨.t 16, .pick (.t 13) (.c (.p (.b true))) (.t 15), none⟩,
    ⟨.l 5, .mv (.t 16), none⟩]) (
  .ret))
theorem mc170_eq : (Try.f170.body.map (compile lv170 Try.prog 17)) = some mc170 := by kernel_rfl
def mr170 : List MR := [.t 5]
theorem mr170_eq : cRess lv170 Try.prog Try.f170.results.toList = some mr170 := by kernel_rfl
theorem call170 {args : List AV} {H : List AO} {Q : AV → List AO → Prop} (hla : args.length ≤ 17) (h : wpm (ACall Try.prog) mc170 (finK mr170 Q) ⟨argEnv 0 args, [], H⟩) : ACall Try.prog 170 args H Q :=
  acall_mc (by kernel_rfl) Try.func170 mc170_eq Try.ntmps170 (by kernel_rfl) mr170_eq hla h
def lv171 : List Nat := [0, 2, 3, 7, 21]
def mc171 : MC :=
.seq (.reg [
    ⟨.l 2, .mv (.c (.p (.b false))), none⟩]) (
  .seq (.seq (.reg [
    ⟨.l 3, .mv (.c (.p (.i .i64 0))), none⟩]) (
  .blk 0 (
    .loop (
      .seq (.seq (.reg [
        ⟨.t 4, .mv (.l 3), none⟩,
        ⟨.t 5, .mv (.l 0), none⟩,
        ⟨.t 6, .len true (.t 5), none⟩,
        ⟨.l 7, .bin .lss (.t 4) (.t 6), none⟩]) (
      .cond (.l 7) (
        .skip) (
        .exit 0))) (
      .seq (.blk 1 (
        .seq (.reg [
          ⟨.t 10, .mv (.l 0), none⟩,
          ⟨.t 11, .mv (.l 3), none⟩,
          ⟨.t 12, .ixt (.t 10) (.t 11), none⟩,
          ⟨.t 13, .conv .i64 (.t 12), none⟩,
          ⟨.t 14, .call 124 [.t 13, .c (.p (.i .i64 32)), .c (.p (.i .i64 126))], none⟩,
          ⟨.t 15, .un .not (.t 14), none⟩,
          ⟨.t 16, .mv (.t 15), none⟩,
          ⟨.t 17, .mv (.l 0), some ((.t 16), true)⟩,
          ⟨.t 18, .mv (.l 3), some ((.t 16), true)⟩,
          ⟨.t 19, .ixt (.t 17) (.t 18), some ((.t 16), true)⟩,
          ⟨.t 20, .bin .neq (.t 19) (.c (.p (.i .u8 10))), some ((.t 16), true)⟩,
          ⟨.l 21, .pick (.t 16) (.t 20) (.c (.p (.b false))), none⟩]) (
        .cond (.l 21) (
          .seq (.reg [
            ⟨.l 2, .mv (.c (.p (.b false))), none⟩]) (
          .ret)) (
          .skip)))) (
      .reg [
        ⟨.t 8, .mv (.l 3), none⟩,
        ⟨.t 9, .bin .add (.t 8) (.c (.p (.i .i64 1))), none⟩,
        ⟨.l 3, .mv (.t 9), none⟩])))))) (
  .seq (.reg [
    ⟨.l 2, .mv (.c (.p (.b true))), none⟩]) (
  .ret)))
theorem mc171_eq : (Try.f171.body.map (compile lv171 Try.prog 22)) = some mc171 := by kernel_rfl
def mr171 : List MR := [.t 2]
theorem mr171_eq : cRess lv171 Try.prog Try.f171.results.toList = some mr171 := by kernel_rfl
theorem call171 {args : List AV} {H : List AO} {Q : AV → List AO → Prop} (hla : args.length ≤ 22) (h : wpm (ACall Try.prog) mc171 (finK mr171 Q) ⟨argEnv 0 args, [], H⟩) : ACall Try.prog 171 args H Q :=
  acall_mc (by kernel_rfl) Try.func171 mc171_eq Try.ntmps171 (by kernel_rfl) mr171_eq hla h
def lv172 : List Nat := [0, 1, 4, 5, 7, 8, 9, 16]
def mc172 : MC :=
.seq (.reg [
    ⟨.l 4, .mv (.c (.p (.i .i64 0))), none⟩]) (
  .seq (.seq (.reg [
    ⟨.t 6, .mv (.l 0), none⟩,
    ⟨.l 7, .len false (.t 6), none⟩,
    ⟨.l 8, .mv (.c (.p (.i .i64 0))), none⟩]) (
  .blk 0 (
    .loop (
      .seq (.reg [
        ⟨.l 9, .bin .lss (.l 8) (.l 7), none⟩]) (
      .seq (.cond (.l 9) (
        .skip) (
        .exit 0)) (
      .seq (.blk 1 (
        .seq (.reg [
          ⟨.t 10, .mv (.l 8), none⟩,
          ⟨.l 5, .mv (.t 10), none⟩]) (
        .seq (.reg [
          ⟨.t 11, .mv (.l 1), none⟩,
          ⟨.t 12, .mv (.l 0), none⟩,
          ⟨.t 13, .mv (.l 5), none⟩,
          ⟨.t 14, .ixs 1 (.t 12) (.t 13), none⟩,
          ⟨.t 15, .ld false 1 (.t 14), none⟩,
          ⟨.l 16, .calv (.t 11) [.t 15], none⟩]) (
        .cond (.l 16) (
          .seq (.reg [
            ⟨.t 17, .mv (.l 5), none⟩,
            ⟨.l 4, .mv (.t 17), none⟩]) (
          .ret)) (
          .skip))))) (
      .reg [
        ⟨.t 18, .bin .add (.l 8) (.c (.p (.i .i64 1))), none⟩,
        ⟨.l 8, .mv (.t 18), none⟩]))))))) (
  .seq (.reg [
    ⟨.l 4, .mv (.c (.p (.i .i64 (-1)))), none⟩]) (
  .ret)))
theorem mc172_eq : (Try.f172.body.map (compile lv172 Try.prog 19)) = some mc172 := by kernel_rfl
def mr172 : List MR := [.t 4]
theorem mr172_eq : cRess lv172 Try.prog Try.f172.results.toList = some mr172 := by kernel_rfl
theorem call172 {args : List AV} {H : List AO} {Q : AV → List AO → Prop} (hla : args.length ≤ 19) (h : wpm (ACall Try.prog) mc172 (finK mr172 Q) ⟨argEnv 0 args, [], H⟩) : ACall Try.prog 172 args H Q :=
  acall_mc (by kernel_rfl) Try.func172 mc172_eq Try.ntmps172 (by kernel_rfl) mr172_eq hla h
def lv214 : List Nat := [0, 1, 4]
def mc214 : MC :=
.seq (.reg [
    ⟨.l 4, .mv (.c (.p (.i .i64 0))), none⟩]) (
  .seq (.reg [
    ⟨.t 5, .mv (.l 0), none⟩,
    ⟨.t 6, .mv (.l 1), none⟩,
    ⟨.t 7, .call 235 [.t 5, .t 6], none⟩,
    ⟨.l 4, .mv (.t 7), none⟩]) (
  .ret))
theorem mc214_eq : (Try.f214.body.map (compile lv214 Try.prog 8)) = some mc214 := by kernel_rfl
def mr214 : List MR := [.t 4]
theorem mr214_eq : cRess lv214 Try.prog Try.f214.results.toList = some mr214 := by kernel_rfl
theorem call214 {args : List AV} {H : List AO} {Q : AV → List AO → Prop} (hla : args.length ≤ 8) (h : wpm (ACall Try.prog) mc214 (finK mr214 Q) ⟨argEnv 0 args, [], H⟩) : ACall Try.prog 214 args H Q :=
  acall_mc (by kernel_rfl) Try.func214 mc214_eq Try.ntmps214 (by kernel_rfl) mr214_eq hla h
end Go.Proofs.Ytmbggdfceecojaa.Mc

/- Codes: their data, and what the functions that measure them do. -/
set_option linter.all false
namespace Go.Proofs.Ytmbggdfceecojaa.Cd
open Go.AM Mc Ho

structure InsD where
  op : Int
  a : Int
  b : Int
  c : Int
  n : Int
  text : List UInt8

def InsD.cells (x : InsD) : List PV := [.i .i64 x.op, .i .i64 x.a, .i .i64 x.b, .i .i64 x.c, .i .i64 x.n, .s x.text]
def inss (l : List InsD) : List (List PV) := l.map InsD.cells
theorem inss_len (l : List InsD) : (inss l).length = l.length := by simp [inss]
theorem inss_at (l : List InsD) {i : Nat} (h : i < l.length) : (inss l)[i]? = some (l[i].cells) := by simp [inss, h]
def texts : List InsD → Nat
  | [] => 0
  | x :: l => x.text.length + texts l
theorem texts_take (l : List InsD) {i : Nat} (h : i < l.length) : texts (l.take (i + 1)) = texts (l.take i) + l[i].text.length := by
  induction l generalizing i with
  | nil => simp at h
  | cons x l ih =>
    cases i with
    | zero => simp [texts]
    | succ i =>
      have := ih (by simpa using h)
      simp only [List.take_succ_cons, texts, this, List.getElem_cons_succ]
      omega

theorem szIntS (zs : List Int) (hz : zs.length ≤ maxL) (left : Int) (h0 : 0 ≤ left) (h1 : left ≤ 1048576) : ACall Try.prog 69 [.p (.l (ints zs)), .p (.i .i64 left)] [] (fun r H => ∃ q : Int, r = .p (.i .i64 q) ∧ (q < 0 ∨ (0 ≤ q ∧ q = left - zs.length))) := by
  refine call69 (by simp) ?_
  simp only [mc69, mr69, go_sem, Nat.reduceEqDiff, reduceIte, ↓reduceIte, Nat.reduceAdd, ints_len]
  intro _
  have hw : wr .i64 (left - zs.length) = left - zs.length := wr64 (by unfold maxL at hz; omega) (by omega)
  rw [hw]
  refine condK_split _ (fun hc => ?_) (fun hc => ?_)
  · simp only [go_sem, Nat.reduceEqDiff, reduceIte, ↓reduceIte, Nat.reduceAdd]
    exact ⟨_, rfl, .inl (by omega)⟩
  · simp only [go_sem, Nat.reduceEqDiff, reduceIte, ↓reduceIte, Nat.reduceAdd]
    exact ⟨_, rfl, .inr ⟨by simpa using hc, rfl⟩⟩

theorem szInstr (x : InsD) (hx : x.text.length ≤ maxL) (left : Int) (h0 : 0 ≤ left) (h1 : left ≤ 1048576) : ACall Try.prog 127 [.st (x.cells.map .p), .p (.i .i64 left)] [] (fun r H => ∃ q : Int, r = .p (.i .i64 q) ∧ (q < 0 ∨ (0 ≤ q ∧ q = left - x.text.length))) := by
  refine call127 (by simp) ?_
  simp only [mc127, mr127, InsD.cells, go_sem, Nat.reduceEqDiff, reduceIte, ↓reduceIte, Nat.reduceAdd]
  intro _
  have hw : wr .i64 (left - x.text.length) = left - x.text.length := wr64 (by unfold maxL at hx; omega) (by omega)
  rw [hw]
  refine condK_split _ (fun hc => ?_) (fun hc => ?_)
  · simp only [go_sem, Nat.reduceEqDiff, reduceIte, ↓reduceIte, Nat.reduceAdd]
    exact ⟨_, rfl, .inl (by omega)⟩
  · simp only [go_sem, Nat.reduceEqDiff, reduceIte, ↓reduceIte, Nat.reduceAdd]
    exact ⟨_, rfl, .inr ⟨by simpa using hc, rfl⟩⟩

theorem ins_take (x : InsD) : takeN 6 (x.cells.map .p) = some (x.cells.map .p) := rfl
theorem ins_lent {H : List AO} (x : InsD) : Lent H (.st (x.cells.map .p)) (.st (x.cells.map .p)) :=
  .st _ _ rfl fun j a b ha hb => by
    rw [ha] at hb; cases hb
    rw [List.getElem?_map] at ha
    cases hq : x.cells[j]? with
    | none => rw [hq] at ha; cases ha
    | some q => rw [hq] at ha; cases ha; exact .pure _

def okIns (l : List InsD) : Prop := l.length ≤ maxL ∧ ∀ x ∈ l, x.text.length ≤ maxL

theorem szInstrS (l : List InsD) (hl : okIns l) (left : Int) (h0 : 0 ≤ left) (h1 : left ≤ 1048576) : ACall Try.prog 68 [.p (.l (inss l)), .p (.i .i64 left)] [] (fun r H => ∃ q : Int, r = .p (.i .i64 q) ∧ (q < 0 ∨ (0 ≤ q ∧ q = left - l.length - texts l))) := by
  refine call68 (by simp) ?_
  simp only [mc68, mr68, go_sem, Nat.reduceEqDiff, reduceIte, ↓reduceIte, Nat.reduceAdd, inss_len]
  intro _
  have hw : wr .i64 (left - l.length) = left - l.length := wr64 (by have := hl.1; unfold maxL at this; omega) (by omega)
  rw [hw]
  refine condK_split _ (fun hc => ?_) (fun hc => ?_)
  · simp only [go_sem, Nat.reduceEqDiff, reduceIte, ↓reduceIte, Nat.reduceAdd]
    exact ⟨_, rfl, .inl (by omega)⟩
  · have hc' : 0 ≤ left - l.length := by simpa using hc
    simp only [go_sem, Nat.reduceEqDiff, reduceIte, ↓reduceIte, Nat.reduceAdd]
    refine ⟨Nat, [0, 1, 4, 5], fun i st => i ≤ l.length ∧ 0 ≤ left - l.length - texts (l.take i) ∧ st = ⟨[(0, .p (.l (inss l))), (1, .p (.i .i64 (left - l.length - texts (l.take i)))), (4, .p (.i .i64 0)), (5, .p (.i .i64 i))], [], []⟩, fun i => l.length - i, ⟨0, ?_⟩, ?_⟩
    · simp only [go_sem, Nat.reduceEqDiff, reduceIte, ↓reduceIte, Nat.reduceAdd]
      refine ⟨Nat.zero_le _, ?_, ?_⟩ <;> simp [texts]
      omega
    · rintro i st ⟨hi, hp, rfl⟩
      simp only [go_sem, Nat.reduceEqDiff, reduceIte, ↓reduceIte, Nat.reduceAdd, inss_len]
      intro _
      refine condK_split _ (fun hc => ?_) (fun hc => ?_)
      · have hil : i < l.length := by simpa using hc
        simp only [go_sem, Nat.reduceEqDiff, reduceIte, ↓reduceIte, Nat.reduceAdd, inss_at _ hil]
        refine ⟨rfl, ?_⟩
        have hx : l[i].text.length ≤ maxL := hl.2 _ (List.getElem_mem hil)
        rw [ins_take]
        simp only [go_sem, Nat.reduceEqDiff, reduceIte, ↓reduceIte, Nat.reduceAdd]
        refine (acall_lend (szInstr l[i] hx _ hp (by omega)) (fun r H' ⟨q, hr, _⟩ => by subst hr; exact grnd_i _ _) (lentAll_cons (ins_lent _) (lentAll_cons (.pure _) (lentAll_nil _)))).mono ?_
        rintro r H' ⟨rfl, _, q, rfl, hq⟩
        simp only [go_sem, Nat.reduceEqDiff, reduceIte, ↓reduceIte, Nat.reduceAdd]
        refine condK_split _ (fun hd => ?_) (fun hd => ?_)
        · simp only [go_sem, Nat.reduceEqDiff, reduceIte, ↓reduceIte, Nat.reduceAdd]
          exact ⟨_, rfl, .inl (by omega)⟩
        · have hd' : 0 ≤ q := by simpa using hd
          simp only [go_sem, Nat.reduceEqDiff, reduceIte, ↓reduceIte, Nat.reduceAdd]
          have e : q = left - l.length - texts (l.take (i + 1)) := by
            rw [texts_take l hil]
            rcases hq with hq | ⟨_, hq⟩ <;> omega
          refine ⟨i + 1, ⟨hil, by omega, ?_⟩, by omega⟩
          rw [wr1 hil hl.1, e]
      · have hil : i = l.length := by simp at hc; omega
        simp only [go_sem, Nat.reduceEqDiff, reduceIte, ↓reduceIte, Nat.reduceAdd]
        subst hil
        rw [List.take_length] at hp ⊢
        exact ⟨_, rfl, .inr ⟨hp, rfl⟩⟩
structure CodeD where
  ins : List InsD
  starts : List Int
def CodeD.cells (c : CodeD) : List PV := [.l (inss c.ins), .l (ints c.starts)]
def okCode (c : CodeD) : Prop := okIns c.ins ∧ c.starts.length ≤ maxL
/-- what 'szCode' lets pass -/
def small (c : CodeD) : Prop := c.ins.length + texts c.ins + c.starts.length ≤ 1048576

theorem szCode (c : CodeD) (hc : okCode c) : ACall Try.prog 19 [.st (c.cells.map .p), .p (.i .i64 1048576)] [] (fun r H => ∃ q : Int, r = .p (.i .i64 q) ∧ (q < 0 ∨ (0 ≤ q ∧ small c))) := by
  refine call19 (by simp) ?_
  simp only [mc19, mr19, CodeD.cells, go_sem, Nat.reduceEqDiff, reduceIte, ↓reduceIte, Nat.reduceAdd]
  refine (acall_lend (szInstrS c.ins hc.1 1048576 (by omega) (by omega)) (fun r H' ⟨q, hr, _⟩ => by subst hr; exact grnd_i _ _) (lentAll_cons (.pure _) (lentAll_cons (.pure _) (lentAll_nil _)))).mono ?_
  rintro r H' ⟨rfl, _, q, rfl, hq⟩
  simp only [go_sem, Nat.reduceEqDiff, reduceIte, ↓reduceIte, Nat.reduceAdd]
  refine condK_split _ (fun hd => ?_) (fun hd => ?_)
  · simp only [go_sem, Nat.reduceEqDiff, reduceIte, ↓reduceIte, Nat.reduceAdd]
    exact ⟨_, rfl, .inl (by omega)⟩
  · have hd' : 0 ≤ q := by simpa using hd
    simp only [go_sem, Nat.reduceEqDiff, reduceIte, ↓reduceIte, Nat.reduceAdd]
    refine (acall_lend (szIntS c.starts hc.2 q hd' (by omega)) (fun r H' ⟨q, hr, _⟩ => by subst hr; exact grnd_i _ _) (lentAll_cons (.pure _) (lentAll_cons (.pure _) (lentAll_nil _)))).mono ?_
    rintro r H' ⟨rfl, _, q', rfl, hq'⟩
    simp only [go_sem, Nat.reduceEqDiff, reduceIte, ↓reduceIte, Nat.reduceAdd]
    refine condK_split _ (fun he => ?_) (fun he => ?_)
    · simp only [go_sem, Nat.reduceEqDiff, reduceIte, ↓reduceIte, Nat.reduceAdd]
      exact ⟨_, rfl, .inl (by omega)⟩
    · have he' : 0 ≤ q' := by simpa using he
      simp only [go_sem, Nat.reduceEqDiff, reduceIte, ↓reduceIte, Nat.reduceAdd]
      exact ⟨_, rfl, .inr ⟨he', by unfold small; omega⟩⟩
end Go.Proofs.Ytmbggdfceecojaa.Cd

/- Codes: copies. -/
set_option linter.all false
namespace Go.Proofs.Ytmbggdfceecojaa.Cd
open Go.AM Mc Ho
deriving instance DecidableEq for InsD

theorem toInstr (x : InsD) : ACall Try.prog 129 [.st (x.cells.map .p)] [] (fun r H => r = .st (x.cells.map .p)) := by
  refine call129 (by simp) ?_
  simp only [mc129, mr129, InsD.cells, go_sem, Nat.reduceEqDiff, reduceIte, ↓reduceIte, Nat.reduceAdd]

theorem grnd_ins (x : InsD) : Grnd (.st (x.cells.map .p)) := grnd_st _ (by
  simp [InsD.cells]
  exact ⟨grnd_i _ _, grnd_i _ _, grnd_i _ _, grnd_i _ _, grnd_i _ _, grnd_s _⟩)

theorem toInstrS (l : List InsD) (hl : okIns l) (hn : l.length ≤ 1048576) (H : List AO) : ACall Try.prog 73 [.p (.l (inss l))] H (fun r H' => r = .gs H.length 0 0 l.length ∧ H' = H ++ [.rows 6 0 (l.map fun x => x.cells.map .p)]) := by
  refine call73 (by simp) ?_
  simp only [mc73, mr73, go_sem, Nat.reduceEqDiff, reduceIte, ↓reduceIte, Nat.reduceAdd, inss_len]
  intro _
  refine ⟨by omega, by omega, by omega, ?_⟩
  refine ⟨Nat, [0, 2, 3, 4], fun i st => i ≤ l.length ∧ st = ⟨[(0, .p (.l (inss l))), (2, .p .nl), (3, .gs H.length 0 0 l.length), (4, .p (.i .i64 i))], [], H ++ [.rows 6 0 (fill (fun x : InsD => x.cells.map AV.p) [.p (.i .i64 0), .p (.i .i64 0), .p (.i .i64 0), .p (.i .i64 0), .p (.i .i64 0), .p (.s [])] l i)]⟩, fun i => l.length - i, ⟨0, ?_⟩, ?_⟩
  · simp only [go_sem, Nat.reduceEqDiff, reduceIte, ↓reduceIte, Nat.reduceAdd]
    exact ⟨Nat.zero_le _, by rw [fill_zero]; rfl⟩
  · rintro i st ⟨hi, rfl⟩
    simp only [go_sem, Nat.reduceEqDiff, reduceIte, ↓reduceIte, Nat.reduceAdd, inss_len]
    intro _
    refine condK_split _ (fun hc => ?_) (fun hc => ?_)
    · have hil : i < l.length := by simpa using hc
      simp only [go_sem, Nat.reduceEqDiff, reduceIte, ↓reduceIte, Nat.reduceAdd, inss_at _ hil, ins_take]
      refine ⟨rfl, ?_⟩
      refine (acall_lend (toInstr l[i]) (fun r H' h => by subst h; exact grnd_ins _) (lentAll_cons (ins_lent _) (lentAll_nil _))).mono ?_
      rintro r H' ⟨rfl, _, rfl⟩
      simp only [go_sem, Nat.reduceEqDiff, reduceIte, ↓reduceIte, Nat.reduceAdd, List.getElem?_append_right (Nat.le_refl _), Nat.sub_self, fill_get _ _ _ hil]
      refine ⟨by omega, ?_⟩
      rw [if_pos (show ((List.map AV.p l[i].cells).length == 6) = true from rfl), stoR_at (r' := l[i].cells.map AV.p) (fill_get _ _ _ hil) rfl]
      simp only [go_sem, Nat.reduceEqDiff, reduceIte, ↓reduceIte, Nat.reduceAdd]
      refine ⟨i + 1, ⟨hil, ?_⟩, by omega⟩
      rw [wr1 hil hl.1, ← fill_set _ _ _ hil]
    · have hil : i = l.length := by simp at hc; omega
      simp only [go_sem, Nat.reduceEqDiff, reduceIte, ↓reduceIte, Nat.reduceAdd]
      subst hil
      rw [fill_all]
theorem eqInstr (x y : InsD) : ACall Try.prog 136 [.st (x.cells.map .p), .st (y.cells.map .p)] [] (fun r H => r = .p (.b (decide (x = y)))) := by
  refine call136 (by simp) ?_
  simp only [mc136, mr136, InsD.cells, go_sem, Nat.reduceEqDiff, reduceIte, ↓reduceIte, Nat.reduceAdd]
  refine condK_split _ (fun hc => ?_) (fun h1 => ?_)
  · simp only [go_sem, Nat.reduceEqDiff, reduceIte, ↓reduceIte, Nat.reduceAdd]
    have : x ≠ y := by rintro rfl; simp at hc
    simp [this]
  simp only [go_sem, Nat.reduceEqDiff, reduceIte, ↓reduceIte, Nat.reduceAdd]
  refine condK_split _ (fun hc => ?_) (fun h2 => ?_)
  · simp only [go_sem, Nat.reduceEqDiff, reduceIte, ↓reduceIte, Nat.reduceAdd]
    have : x ≠ y := by rintro rfl; simp at hc
    simp [this]
  simp only [go_sem, Nat.reduceEqDiff, reduceIte, ↓reduceIte, Nat.reduceAdd]
  refine condK_split _ (fun hc => ?_) (fun h3 => ?_)
  · simp only [go_sem, Nat.reduceEqDiff, reduceIte, ↓reduceIte, Nat.reduceAdd]
    have : x ≠ y := by rintro rfl; simp at hc
    simp [this]
  simp only [go_sem, Nat.reduceEqDiff, reduceIte, ↓reduceIte, Nat.reduceAdd]
  refine condK_split _ (fun hc => ?_) (fun h4 => ?_)
  · simp only [go_sem, Nat.reduceEqDiff, reduceIte, ↓reduceIte, Nat.reduceAdd]
    have : x ≠ y := by rintro rfl; simp at hc
    simp [this]
  simp only [go_sem, Nat.reduceEqDiff, reduceIte, ↓reduceIte, Nat.reduceAdd]
  refine condK_split _ (fun hc => ?_) (fun h5 => ?_)
  · simp only [go_sem, Nat.reduceEqDiff, reduceIte, ↓reduceIte, Nat.reduceAdd]
    have : x ≠ y := by rintro rfl; simp at hc
    simp [this]
  simp only [go_sem, Nat.reduceEqDiff, reduceIte, ↓reduceIte, Nat.reduceAdd]
  refine condK_split _ (fun hc => ?_) (fun h6 => ?_)
  · simp only [go_sem, Nat.reduceEqDiff, reduceIte, ↓reduceIte, Nat.reduceAdd]
    have : x ≠ y := by rintro rfl; simp at hc
    simp [this]
  simp only [go_sem, Nat.reduceEqDiff, reduceIte, ↓reduceIte, Nat.reduceAdd]
  have : x = y := by
    cases x; cases y
    simp at h1 h2 h3 h4 h5 h6
    simp [h1, h2, h3, h4, h5, h6]
  simp [this]
end Go.Proofs.Ytmbggdfceecojaa.Cd

/- Codes: the copy of a code; what marks and what compares. -/
set_option linter.all false
namespace Go.Proofs.Ytmbggdfceecojaa.Cd
open Go.AM Mc Ho

theorem ins_clen (x : InsD) : x.cells.length = 6 := rfl
def insR (l : List InsD) : List (List AV) := l.map fun x => x.cells.map AV.p
def intR (k : IntKind) (zs : List Int) : List (List AV) := zs.map fun z => [.p (.i k z)]

theorem grnd_insR (l : List InsD) : ∀ r ∈ insR l, ∀ c ∈ r, Grnd c := by
  intro r hr c hc
  obtain ⟨x, _, rfl⟩ := List.mem_map.1 hr
  simp [InsD.cells] at hc
  rcases hc with rfl | rfl | rfl | rfl | rfl | rfl
  all_goals first | exact grnd_i _ _ | exact grnd_s _
theorem grnd_intR (k : IntKind) (zs : List Int) : ∀ r ∈ intR k zs, ∀ c ∈ r, Grnd c := by
  intro r hr c hc
  obtain ⟨x, _, rfl⟩ := List.mem_map.1 hr
  simp at hc; subst hc; exact grnd_i _ _

theorem toCode0 (c : CodeD) (hc : okCode c) (hs : small c) : ACall Try.prog 21 [.st (c.cells.map .p)] [] (fun r H' => r = .st [.gs 3 0 0 c.ins.length, .gs 4 0 0 c.starts.length] ∧ H'[3]? = some (.rows 6 0 (insR c.ins)) ∧ H'[4]? = some (.rows 1 0 (intR .i64 c.starts))) := by
  unfold small at hs
  refine call21 (by simp) ?_
  simp only [go_sem, Nat.reduceEqDiff, reduceIte, ↓reduceIte, Nat.reduceAdd, mc21, mr21, CodeD.cells]
  refine (toInstrS c.ins hc.1 (by omega) _).mono ?_
  rintro r H' ⟨rfl, rfl⟩
  simp only [go_sem, Nat.reduceEqDiff, reduceIte, ↓reduceIte, Nat.reduceAdd]
  refine (toIntS c.starts (by omega) _).mono ?_
  rintro r H' ⟨rfl, rfl⟩
  simp only [go_sem, Nat.reduceEqDiff, reduceIte, ↓reduceIte, Nat.reduceAdd]
  exact ⟨rfl, rfl⟩

/-- a code that is owned, at i and i + 1 -/
def codeAt (i : Nat) (c : CodeD) : AV := .st [.gs i 0 0 c.ins.length, .gs (i + 1) 0 0 c.starts.length]
def codeO (c : CodeD) : List AO := [.rows 6 0 (insR c.ins), .rows 1 0 (intR .i64 c.starts)]

theorem toCode (c : CodeD) (hc : okCode c) (hs : small c) (H : List AO) : ACall Try.prog 21 [.st (c.cells.map .p)] H (fun r H' => r = codeAt H.length c ∧ H' = H ++ codeO c) := by
  refine acall_own (toCode0 c hc hs) (lentAll_cons (.st _ _ rfl fun j a b ha hb => ?_) (lentAll_nil _)) ?_
  · rw [ha] at hb; cases hb
    rw [List.getElem?_map] at ha
    cases hq : c.cells[j]? with
    | none => rw [hq] at ha; cases ha
    | some q => rw [hq] at ha; cases ha; exact .pure _
  · rintro r H0 ⟨rfl, h3, h4⟩
    refine ⟨[3, 4], codeAt H.length c, codeO c, by simp, rfl, .st _ _ rfl ?_, ?_, rfl, rfl⟩
    · intro j x y hx hy
      match j with
      | 0 => cases hx; cases hy; exact .gs 0 3 0 0 _ rfl
      | 1 => cases hx; cases hy; exact .gs 1 4 0 0 _ rfl
      | j + 2 => simp at hx
    · intro k id o hk ho
      match k with
      | 0 => cases hk; cases ho; exact ⟨_, h3, renO_g (grnd_insR _)⟩
      | 1 => cases hk; cases ho; exact ⟨_, h4, renO_g (grnd_intR _ _)⟩
      | k + 2 => simp at hk

theorem lent_ins (l : List InsD) {H : List AO} {id : Nat} (hid : H[id]? = some (.rows 6 0 (insR l))) : Lent H (.gs id 0 0 l.length) (.p (.l (inss l))) := by
  refine .gs id 0 0 _ 6 _ (inss l) hid (by simp [insR]) (inss_len l) (fun y hy => by obtain ⟨z, _, rfl⟩ := List.mem_map.1 hy; rfl) ?_
  intro i r y j c q hr hy hc hq
  rw [Nat.zero_add, insR, List.getElem?_map] at hr
  rw [inss, List.getElem?_map] at hy
  cases hz : l[i]? with
  | none => rw [hz] at hr; cases hr
  | some z =>
    rw [hz] at hr hy
    cases hr; cases hy
    rw [List.getElem?_map, hq] at hc
    cases hc
    exact .pure _

def rowsK (k : IntKind) (zs : List Int) : List (List PV) := zs.map fun z => [.i k z]
theorem rowsK_len (k) (zs : List Int) : (rowsK k zs).length = zs.length := by simp [rowsK]
theorem lent_k (k : IntKind) (zs : List Int) {H : List AO} {id ver : Nat} (hid : H[id]? = some (.rows 1 ver (intR k zs))) : Lent H (.gs id ver 0 zs.length) (.p (.l (rowsK k zs))) := by
  refine .gs id ver 0 _ 1 _ (rowsK k zs) hid (by simp [intR]) (rowsK_len k zs) (fun y hy => by obtain ⟨z, _, rfl⟩ := List.mem_map.1 hy; rfl) ?_
  intro i r y j c q hr hy hc hq
  rw [Nat.zero_add, intR, List.getElem?_map] at hr
  rw [rowsK, List.getElem?_map] at hy
  cases hz : zs[i]? with
  | none => rw [hz] at hr; cases hr
  | some z =>
    rw [hz] at hr hy
    cases hr; cases hy
    cases j with
    | zero => cases hc; cases hq; exact .pure _
    | succ j => simp at hc

theorem lent_code (c : CodeD) {H : List AO} {i : Nat} (h0 : H[i]? = some (.rows 6 0 (insR c.ins))) (h1 : H[i + 1]? = some (.rows 1 0 (intR .i64 c.starts))) : Lent H (codeAt i c) (.st (c.cells.map .p)) := by
  refine .st _ _ rfl fun j a b ha hb => ?_
  match j with
  | 0 => cases ha; cases hb; exact lent_ins _ h0
  | 1 => cases ha; cases hb; exact lent_k .i64 _ h1
  | j + 2 => simp [CodeD.cells] at hb

theorem eqInstrS (xs ys : List InsD) (hx : okIns xs) (hy : okIns ys) : ACall Try.prog 78 [.p (.l (inss xs)), .p (.l (inss ys))] [] (fun r H => r = .p (.b (decide (xs = ys)))) := by
  refine call78 (by simp) ?_
  simp only [go_sem, Nat.reduceEqDiff, reduceIte, ↓reduceIte, Nat.reduceAdd, mc78, mr78, inss_len]
  intro _ _
  refine condK_split _ (fun hc => ?_) (fun hc => ?_)
  · simp only [go_sem, Nat.reduceEqDiff, reduceIte, ↓reduceIte, Nat.reduceAdd]
    have : xs ≠ ys := by rintro rfl; simp at hc
    simp [this]
  · have hl : xs.length = ys.length := by simp at hc; omega
    simp only [go_sem, Nat.reduceEqDiff, reduceIte, ↓reduceIte, Nat.reduceAdd]
    refine ⟨Nat, [0, 1, 4, 5], fun i st => i ≤ xs.length ∧ xs.take i = ys.take i ∧ st = ⟨[(0, .p (.l (inss xs))), (1, .p (.l (inss ys))), (4, .p (.b false)), (5, .p (.i .i64 i))], [], []⟩, fun i => xs.length - i, ⟨0, ?_⟩, ?_⟩
    · simp only [go_sem, Nat.reduceEqDiff, reduceIte, ↓reduceIte, Nat.reduceAdd]
      exact ⟨Nat.zero_le _, rfl, rfl⟩
    · rintro i st ⟨hi, ht, rfl⟩
      simp only [go_sem, Nat.reduceEqDiff, reduceIte, ↓reduceIte, Nat.reduceAdd, inss_len]
      intro _
      refine condK_split _ (fun hc => ?_) (fun hc => ?_)
      · have hil : i < xs.length := by simpa using hc
        have hiy : i < ys.length := by omega
        simp only [go_sem, Nat.reduceEqDiff, reduceIte, ↓reduceIte, Nat.reduceAdd]
        (refine drw_same ?_; simp only [go_sem, Nat.reduceEqDiff, reduceIte, ↓reduceIte, Nat.reduceAdd, inss_at _ hil, inss_at _ hiy, ins_clen, ins_take])
        refine (acall_lend (eqInstr xs[i] ys[i]) (fun r H' h => by subst h; exact grnd_b _) (lentAll_cons (ins_lent _) (lentAll_cons (ins_lent _) (lentAll_nil _)))).mono ?_
        rintro r H' ⟨rfl, _, rfl⟩
        simp only [go_sem, Nat.reduceEqDiff, reduceIte, ↓reduceIte, Nat.reduceAdd]
        refine condK_split _ (fun hd => ?_) (fun hd => ?_)
        · simp only [go_sem, Nat.reduceEqDiff, reduceIte, ↓reduceIte, Nat.reduceAdd]
          have : xs ≠ ys := by rintro rfl; simp at hd
          simp [this]
        · simp only [go_sem, Nat.reduceEqDiff, reduceIte, ↓reduceIte, Nat.reduceAdd]
          have he : xs[i] = ys[i] := by simpa using hd
          refine ⟨i + 1, ⟨hil, ?_, ?_⟩, by omega⟩
          · rw [List.take_succ, List.take_succ, ht, List.getElem?_eq_getElem hil, List.getElem?_eq_getElem hiy, he]
          · rw [wr1 hil hx.1]
      · have hil : i = xs.length := by simp at hc; omega
        simp only [go_sem, Nat.reduceEqDiff, reduceIte, ↓reduceIte, Nat.reduceAdd]
        subst hil
        have : xs = ys := by
          rw [List.take_length, hl, List.take_length] at ht
          exact ht
        simp [this]
end Go.Proofs.Ytmbggdfceecojaa.Cd

/- Codes: what marks. -/
set_option linter.all false
namespace Go.Proofs.Ytmbggdfceecojaa.Cd
open Go.AM Mc Ho

theorem CodeD.ext' {c d : CodeD} (h1 : c.ins = d.ins) (h2 : c.starts = d.starts) : c = d := by cases c; cases d; simp at h1 h2; simp [h1, h2]
deriving instance DecidableEq for CodeD

theorem eqCode (c d : CodeD) (hc : okCode c) (hd : okCode d) : ACall Try.prog 24 [.st (c.cells.map .p), .st (d.cells.map .p)] [] (fun r H => r = .p (.b (decide (c = d)))) := by
  refine call24 (by simp) ?_
  simp only [go_sem, Nat.reduceEqDiff, reduceIte, ↓reduceIte, Nat.reduceAdd, mc24, mr24, CodeD.cells]
  refine (acall_lend (eqInstrS c.ins d.ins hc.1 hd.1) (fun r H' h => by subst h; exact grnd_b _) (lentAll_cons (.pure _) (lentAll_cons (.pure _) (lentAll_nil _)))).mono ?_
  rintro r H' ⟨rfl, _, rfl⟩
  simp only [go_sem, Nat.reduceEqDiff, reduceIte, ↓reduceIte, Nat.reduceAdd]
  refine condK_split _ (fun h1 => ?_) (fun h1 => ?_)
  · simp only [go_sem, Nat.reduceEqDiff, reduceIte, ↓reduceIte, Nat.reduceAdd]
    have : c ≠ d := by rintro rfl; simp at h1
    simp [this]
  · simp only [go_sem, Nat.reduceEqDiff, reduceIte, ↓reduceIte, Nat.reduceAdd]
    refine (acall_lend (eqIntS c.starts d.starts hc.2 hd.2) (fun r H' h => by subst h; exact grnd_b _) (lentAll_cons (.pure _) (lentAll_cons (.pure _) (lentAll_nil _)))).mono ?_
    rintro r H' ⟨rfl, _, rfl⟩
    simp only [go_sem, Nat.reduceEqDiff, reduceIte, ↓reduceIte, Nat.reduceAdd]
    refine condK_split _ (fun h2 => ?_) (fun h2 => ?_)
    · simp only [go_sem, Nat.reduceEqDiff, reduceIte, ↓reduceIte, Nat.reduceAdd]
      have : c ≠ d := by rintro rfl; simp at h2
      simp [this]
    · simp only [go_sem, Nat.reduceEqDiff, reduceIte, ↓reduceIte, Nat.reduceAdd]
      have : c = d := CodeD.ext' (by simpa using h1) (by simpa using h2)
      simp [this]

/-- rows of which the first i are others -/
def over (f : Nat → List AV) (old : List (List AV)) (i : Nat) : List (List AV) := (List.range i).map f ++ old.drop i
theorem over_zero (f old) : over f old 0 = old := by simp [over]
theorem over_all (f : Nat → List AV) (old : List (List AV)) : over f old old.length = (List.range old.length).map f := by simp [over]
theorem over_get (f : Nat → List AV) (old : List (List AV)) {i : Nat} (h : i < old.length) : (over f old i)[i]? = some old[i] := by
  unfold over
  rw [List.getElem?_append_right (by simp)]
  simp [h]
theorem over_set (f : Nat → List AV) (old : List (List AV)) {i : Nat} (h : i < old.length) : (over f old i).set i (f i) = over f old (i + 1) := by
  have e : old.drop i = old[i] :: old.drop (i + 1) := List.drop_eq_getElem_cons h
  unfold over
  rw [List.set_append_right _ _ (by simp), e, List.range_succ, show i - ((List.range i).map f).length = 0 by simp, List.set_cons_zero, List.map_append, List.append_assoc]
  rfl
theorem splice_one {r : List AV} (h : r.length = 1) (v : AV) : splice r 0 [v] = some [v] := by
  match r, h with
  | [x], _ => rfl

theorem markIntS {H : List AO} {id ver : Nat} (old : List (List AV)) (hid : H[id]? = some (.rows 1 ver old)) (h1 : ∀ r ∈ old, r.length = 1) (hn : old.length ≤ 100000000) (k : Int) (hk0 : 0 ≤ k) (hk : k ≤ 100000000) :
    ACall Try.prog 48 [.gs id ver 0 old.length, .p (.i .i64 k)] H (fun r H' => r = .p (.i .i64 (k + old.length)) ∧ H' = H.set id (.rows 1 ver (intR .i64 ((List.range old.length).map fun j => k + (j : Nat))))) := by
  have hm : old.length ≤ maxL := by unfold maxL; omega
  refine call48 (by simp) ?_
  simp only [go_sem, Nat.reduceEqDiff, reduceIte, ↓reduceIte, Nat.reduceAdd, mc48, mr48]
  refine ⟨Nat, [0, 1, 4, 5], fun i st => i ≤ old.length ∧ st = ⟨[(0, .gs id ver 0 old.length), (1, .p (.i .i64 (k + i))), (4, .p (.i .i64 0)), (5, .p (.i .i64 i))], [], H.set id (.rows 1 ver (over (fun j => [.p (.i .i64 (k + j))]) old i))⟩, fun i => old.length - i, ⟨0, ?_⟩, ?_⟩
  · simp only [go_sem, Nat.reduceEqDiff, reduceIte, ↓reduceIte, Nat.reduceAdd]
    refine ⟨Nat.zero_le _, ?_⟩
    rw [over_zero]
    rw [set_same hid]; simp
  · rintro i st ⟨hi, rfl⟩
    simp only [go_sem, Nat.reduceEqDiff, reduceIte, ↓reduceIte, Nat.reduceAdd]
    intro _
    refine condK_split _ (fun hc => ?_) (fun hc => ?_)
    · have hil : i < old.length := by simpa using hc
      simp only [go_sem, Nat.reduceEqDiff, reduceIte, ↓reduceIte, Nat.reduceAdd, set_get hid, over_get _ _ hil]
      refine ⟨by simpa using hc, ?_⟩
      rw [stoR_at (over_get _ _ hil) (splice_one (h1 _ (List.getElem_mem hil)) _)]
      simp only [go_sem, Nat.reduceEqDiff, reduceIte, ↓reduceIte, Nat.reduceAdd]
      refine ⟨i + 1, ⟨hil, ?_⟩, by omega⟩
      rw [wr1 hil hm, wr64 (by omega) (by omega), List.set_set, over_set _ _ hil]
      simp only [Int.natCast_add, Int.natCast_one, Int.add_assoc]
    · have hil : i = old.length := by simp at hc; omega
      simp only [go_sem, Nat.reduceEqDiff, reduceIte, ↓reduceIte, Nat.reduceAdd]
      subst hil
      refine ⟨rfl, ?_⟩
      rw [over_all, intR, List.map_map]
      rfl
end Go.Proofs.Ytmbggdfceecojaa.Cd

/- Codes: what marks a code. -/
set_option linter.all false
namespace Go.Proofs.Ytmbggdfceecojaa.Cd
open Go.AM Mc Ho

/-- the text that marks a text -/
def digit (n : Int) : UInt8 := UInt8.ofNat (wr .u8 (wr .i64 (48 + n.tmod 10))).toNat
def digs : Nat → Int → List UInt8 → List UInt8
  | 0, _, s => s
  | f + 1, n, s => if 0 < n then digs f (n.tdiv 10) (digit n :: s) else s
theorem digs_zero (f : Nat) (s : List UInt8) : digs f 0 s = s := by cases f <;> rfl
def textD (k : Int) : List UInt8 := if k ≤ 0 then [109, 48] else 109 :: digs k.toNat k []

theorem markText (k : Int) (hk0 : 0 ≤ k) (hk : k ≤ 1000000000) : ACall Try.prog 137 [.p (.i .i64 k)] [] (fun r H => r = .p (.s (textD k))) := by
  refine call137 (by simp) ?_
  simp only [go_sem, Nat.reduceEqDiff, reduceIte, ↓reduceIte, Nat.reduceAdd, mc137, mr137]
  refine condK_split _ (fun hc => ?_) (fun hc => ?_)
  · simp only [go_sem, Nat.reduceEqDiff, reduceIte, ↓reduceIte, Nat.reduceAdd]
    have hc' : k ≤ 0 := by simpa using hc
    simp [textD, hc']
  · have hc' : ¬ k ≤ 0 := by simpa using hc
    simp only [go_sem, Nat.reduceEqDiff, reduceIte, ↓reduceIte, Nat.reduceAdd]
    refine ⟨Int × List UInt8 × List AO, [0, 2, 3], fun x st => 0 ≤ x.1 ∧ x.1 ≤ 1000000000 ∧ (x.2.1.length : Int) + x.1 ≤ k ∧ (∃ f : Nat, x.1.toNat ≤ f ∧ digs f x.1 x.2.1 = digs k.toNat k []) ∧ st = ⟨[(0, .p (.i .i64 x.1)), (2, .p (.s [])), (3, .p (.s x.2.1))], [], x.2.2⟩, fun x => x.1.toNat, ⟨⟨k, [], []⟩, ?_⟩, ?_⟩
    · simp only [go_sem, Nat.reduceEqDiff, reduceIte, ↓reduceIte, Nat.reduceAdd]
      exact ⟨hk0, hk, by simp, ⟨_, Nat.le_refl _, rfl⟩⟩
    · rintro ⟨n, s, G⟩ st ⟨h0, h1, h2, ⟨f, hf, hd0⟩, rfl⟩
      simp only at h0 h1 h2 hf hd0
      simp only [go_sem, Nat.reduceEqDiff, reduceIte, ↓reduceIte, Nat.reduceAdd]
      refine condK_split _ (fun hd => ?_) (fun hd => ?_)
      · have hd' : 0 < n := by simpa using hd
        simp only [go_sem, Nat.reduceEqDiff, reduceIte, ↓reduceIte, Nat.reduceAdd, Z0, Z1, Z2, Z3, Z4, Z5, Nat.reduceLT, Z6, Z7, Int.reduceEq, Z8, Z9, Nat.reduceLeDiff, Za, Zb, Zc, Zd, Ze, Zf, bytesOf, Zg, Zh, Zi, Zj, Zk, Zl, Int.reduceLT, Int.reduceLE, Zm, Int.reduceToNat, Zn, Zo, Zp, Int.reduceAdd, Zq, Zr]
        have hlen : (n.tdiv 10) < n ∧ 0 ≤ n.tdiv 10 := by
          rw [Int.tdiv_eq_ediv_of_nonneg h0]; omega
        refine ⟨by unfold maxL; omega, ?_⟩
        rw [wr64 (n := n.tdiv 10) (by omega) (by omega)]
        refine ⟨⟨n.tdiv 10, digit n :: s, _⟩, ⟨hlen.2, by omega, ?_, ?_, rfl⟩, ?_⟩
        · simp; omega
        · cases f with
          | zero => omega
          | succ f =>
            refine ⟨f, by simp only; omega, ?_⟩
            rw [← hd0, digs, if_pos hd']
        · simp; omega
      · have hz : n = 0 := by simp at hd; omega
        subst hz
        rw [digs_zero] at hd0
        simp only [go_sem, Nat.reduceEqDiff, reduceIte, ↓reduceIte, Nat.reduceAdd, Z0, Z1, Z2, Z3, Z4, Z5, Nat.reduceLT, Z6, Z7, Int.reduceEq, Z8, Z9, Nat.reduceLeDiff, Za, Zb, Zc, Zd, Ze, Zf, bytesOf, Zg, Zh, Zi, Zj, Zk, Zl, Int.reduceLT, Int.reduceLE, Zm, Int.reduceToNat, Zn, Zo, Zp, Int.reduceAdd, Zq, Zr]
        refine ⟨by unfold maxL; omega, ?_⟩
        rw [textD, if_neg hc', ← hd0]

theorem insR_row {rs : List (List AV)} (h6 : ∀ r ∈ rs, r.length = 6) {i : Nat} (h : i < rs.length) : ∃ a b c d e f, rs[i] = [a, b, c, d, e, f] := by
  have := h6 _ (List.getElem_mem h)
  match hr : rs[i], this with
  | [a, b, c, d, e, f], _ => exact ⟨a, b, c, d, e, f, rfl⟩

/-- the row that marks an instruction -/
def patI (k : Int) (j : Nat) : List AV := [.p (.i .i64 (k + 6 * j)), .p (.i .i64 (k + 6 * j + 1)), .p (.i .i64 (k + 6 * j + 2)), .p (.i .i64 (k + 6 * j + 3)), .p (.i .i64 (k + 6 * j + 4)), .p (.s (textD (k + 6 * j + 5)))]
def patIR (k : Int) (n : Nat) : List (List AV) := (List.range n).map (patI k)

theorem markInstrS {H : List AO} {id ver : Nat} (old : List (List AV)) (hid : H[id]? = some (.rows 6 ver old)) (h1 : ∀ r ∈ old, r.length = 6) (hn : old.length ≤ 1048576) (k : Int) (hk0 : 0 ≤ k) (hk : k ≤ 100000000) :
    ACall Try.prog 79 [.gs id ver 0 old.length, .p (.i .i64 k)] H (fun r H' => r = .p (.i .i64 (k + 6 * old.length)) ∧ H' = H.set id (.rows 6 ver (patIR k old.length))) := by
  have hm : old.length ≤ maxL := by unfold maxL; omega
  refine call79 (by simp) ?_
  simp only [go_sem, Nat.reduceEqDiff, reduceIte, ↓reduceIte, Nat.reduceAdd, mc79, mr79]
  refine ⟨Nat, [0, 1, 4, 5], fun i st => i ≤ old.length ∧ st = ⟨[(0, .gs id ver 0 old.length), (1, .p (.i .i64 (k + 6 * i))), (4, .p (.i .i64 0)), (5, .p (.i .i64 i))], [], H.set id (.rows 6 ver (over (patI k) old i))⟩, fun i => old.length - i, ⟨0, ?_⟩, ?_⟩
  · simp only [go_sem, Nat.reduceEqDiff, reduceIte, ↓reduceIte, Nat.reduceAdd]
    refine ⟨Nat.zero_le _, ?_⟩
    rw [over_zero, set_same hid]; simp
  · rintro i st ⟨hi, rfl⟩
    simp only [go_sem, Nat.reduceEqDiff, reduceIte, ↓reduceIte, Nat.reduceAdd]
    intro _
    refine condK_split _ (fun hc => ?_) (fun hc => ?_)
    · have hil : i < old.length := by simpa using hc
      obtain ⟨a, b, c, d, e, f, hr⟩ := insR_row h1 hil
      have hg : (over (patI k) old i)[i]? = some [a, b, c, d, e, f] := by rw [over_get _ _ hil, hr]
      simp only [go_sem, Nat.reduceEqDiff, reduceIte, ↓reduceIte, Nat.reduceAdd, set_get hid]
      have hci : (i : Int) < (old.length : Int) := by simpa using hc
      refine ⟨hci, ?_⟩
      rw [stoR_set hg rfl]
      simp only [go_sem, Nat.reduceEqDiff, reduceIte, ↓reduceIte, Nat.reduceAdd, set_get hid]
      rw [wr64 (by omega) (by omega)]
      refine ⟨hci, ?_⟩
      rw [stoR_set (rget hg) rfl]
      rw [List.set_set]
      simp only [go_sem, Nat.reduceEqDiff, reduceIte, ↓reduceIte, Nat.reduceAdd, set_get hid]
      rw [wr64 (by omega) (by omega)]
      refine ⟨hci, ?_⟩
      rw [stoR_set (rget hg) rfl]
      rw [List.set_set]
      simp only [go_sem, Nat.reduceEqDiff, reduceIte, ↓reduceIte, Nat.reduceAdd, set_get hid]
      rw [wr64 (by omega) (by omega)]
      refine ⟨hci, ?_⟩
      rw [stoR_set (rget hg) rfl]
      rw [List.set_set]
      simp only [go_sem, Nat.reduceEqDiff, reduceIte, ↓reduceIte, Nat.reduceAdd, set_get hid]
      rw [wr64 (by omega) (by omega)]
      refine ⟨hci, ?_⟩
      rw [stoR_set (rget hg) rfl]
      rw [List.set_set]
      simp only [go_sem, Nat.reduceEqDiff, reduceIte, ↓reduceIte, Nat.reduceAdd, set_get hid]
      rw [wr64 (by omega) (by omega)]
      refine (acall_lend (markText _ (by omega) (by omega)) (fun r H' hr => by subst hr; exact grnd_s _) (lentAll_cons (.pure _) (lentAll_nil _))).mono ?_
      rintro r H' ⟨rfl, _, rfl⟩
      simp only [go_sem, Nat.reduceEqDiff, reduceIte, ↓reduceIte, Nat.reduceAdd, set_get hid]
      refine ⟨hci, ?_⟩
      rw [stoR_set (rget hg) rfl]
      rw [List.set_set]
      simp only [go_sem, Nat.reduceEqDiff, reduceIte, ↓reduceIte, Nat.reduceAdd, set_get hid]
      rw [wr64 (by omega) (by omega), wr1 (show i < old.length by omega) hm, show k + 6 * (i : Int) + 1 + 1 + 1 + 1 + 1 + 1 = k + 6 * ((i + 1 : Nat) : Int) by omega]
      refine ⟨i + 1, ⟨hil, ?_⟩, by omega⟩
      rw [← over_set _ _ hil, patI, show k + 6 * (i : Int) + 1 + 1 + 1 + 1 + 1 = k + 6 * i + 5 by omega, show k + 6 * (i : Int) + 1 + 1 + 1 + 1 = k + 6 * i + 4 by omega, show k + 6 * (i : Int) + 1 + 1 + 1 = k + 6 * i + 3 by omega, show k + 6 * (i : Int) + 1 + 1 = k + 6 * i + 2 by omega]
    · have hil : i = old.length := by simp at hc; omega
      simp only [go_sem, Nat.reduceEqDiff, reduceIte, ↓reduceIte, Nat.reduceAdd]
      subst hil
      refine ⟨rfl, ?_⟩
      rw [over_all]
      rfl

theorem insR_len6 (l : List InsD) : ∀ r ∈ insR l, r.length = 6 := by
  intro r hr
  obtain ⟨x, _, rfl⟩ := List.mem_map.1 hr
  rfl
theorem intR_len1 (k) (l : List Int) : ∀ r ∈ intR k l, r.length = 1 := by
  intro r hr
  obtain ⟨x, _, rfl⟩ := List.mem_map.1 hr
  rfl

end Go.Proofs.Ytmbggdfceecojaa.Cd

/- Right codes: the small tests. -/
set_option linter.all false
namespace Go.Proofs.Ytmbggdfceecojaa.Cd
open Go.AM Mc Ho

def inD (x a b : Int) : Bool := decide (a ≤ x) && decide (x ≤ b)

theorem l1In (x a b : Int) : ACall Try.prog 122 [.p (.i .i64 x), .p (.i .i64 a), .p (.i .i64 b)] [] (fun r H => r = .p (.b (inD x a b))) := by
  refine call122 (by simp) ?_
  simp only [go_sem, Nat.reduceEqDiff, reduceIte, ↓reduceIte, Nat.reduceAdd, mc122, mr122]
  refine condK_split _ (fun hc => ?_) (fun hc => ?_)
  · simp only [go_sem, Nat.reduceEqDiff, reduceIte, ↓reduceIte, Nat.reduceAdd, hc]
    simp at hc
    simp [inD, hc]
  · simp only [go_sem, Nat.reduceEqDiff, reduceIte, ↓reduceIte, Nat.reduceAdd, hc]
    simp at hc
    simp [inD]; omega
theorem within (x a b : Int) : ACall Try.prog 124 [.p (.i .i64 x), .p (.i .i64 a), .p (.i .i64 b)] [] (fun r H => r = .p (.b (inD x a b))) := by
  refine call124 (by simp) ?_
  simp only [go_sem, Nat.reduceEqDiff, reduceIte, ↓reduceIte, Nat.reduceAdd, mc124, mr124]
  refine condK_split _ (fun hc => ?_) (fun hc => ?_)
  · simp only [go_sem, Nat.reduceEqDiff, reduceIte, ↓reduceIte, Nat.reduceAdd, hc]
    simp at hc
    simp [inD, hc]
  · simp only [go_sem, Nat.reduceEqDiff, reduceIte, ↓reduceIte, Nat.reduceAdd, hc]
    simp at hc
    simp [inD]; omega
theorem l1In_any (x a b : Int) {H : List AO} : ACall Try.prog 122 [.p (.i .i64 x), .p (.i .i64 a), .p (.i .i64 b)] H (fun r H' => r = .p (.b (inD x a b)) ∧ H' = H) :=
  (acall_lend (l1In x a b) (fun r H' h => by subst h; exact grnd_b _) (lentAll_cons (.pure _) (lentAll_cons (.pure _) (lentAll_cons (.pure _) (lentAll_nil _))))).mono fun r H' ⟨h1, _, h2⟩ => ⟨h2, h1⟩
theorem within_any (x a b : Int) {H : List AO} : ACall Try.prog 124 [.p (.i .i64 x), .p (.i .i64 a), .p (.i .i64 b)] H (fun r H' => r = .p (.b (inD x a b)) ∧ H' = H) :=
  (acall_lend (within x a b) (fun r H' h => by subst h; exact grnd_b _) (lentAll_cons (.pure _) (lentAll_cons (.pure _) (lentAll_cons (.pure _) (lentAll_nil _))))).mono fun r H' ⟨h1, _, h2⟩ => ⟨h2, h1⟩

def chD (c : UInt8) : Bool := decide (c = 10) || inD c.toNat 32 126
def plainD (s : List UInt8) : Bool := s.all chD

theorem all_take {α : Type} {p : α → Bool} {l : List α} {i : Nat} (h : i < l.length) (ht : (l.take i).all p = true) (hp : p l[i] = true) : (l.take (i + 1)).all p = true := by
  rw [List.take_succ, List.all_append, ht, List.getElem?_eq_getElem h]; simp [hp]
theorem all_false {α : Type} {p : α → Bool} {l : List α} {i : Nat} (h : i < l.length) (hp : p l[i] = false) : l.all p = false := by
  cases e : l.all p with
  | false => rfl
  | true => rw [List.all_eq_true] at e; rw [e _ (List.getElem_mem h)] at hp; cases hp

theorem u8_eq (c : UInt8) (n : Nat) (hn : n < 256) : decide ((c.toNat : Int) = (n : Int)) = decide (c = UInt8.ofNat n) := by
  rw [decide_eq_decide]
  constructor
  · intro h
    have h' : c.toNat = n := by omega
    rw [← h']; simp
  · intro h
    subst h
    simp; omega

theorem l1Chars (s : List UInt8) (hs : s.length ≤ maxL) : ACall Try.prog 164 [.p (.s s)] [] (fun r H => r = .p (.b (plainD s))) := by
  refine call164 (by simp) ?_
  simp only [go_sem, Nat.reduceEqDiff, reduceIte, ↓reduceIte, Nat.reduceAdd, mc164, mr164]
  refine ⟨Nat, [0, 2, 3], fun i st => i ≤ s.length ∧ (s.take i).all chD = true ∧ st = ⟨[(0, .p (.s s)), (2, .p (.b false)), (3, .p (.i .i64 i))], [], []⟩, fun i => s.length - i, ⟨0, ?_⟩, ?_⟩
  · simp only [go_sem, Nat.reduceEqDiff, reduceIte, ↓reduceIte, Nat.reduceAdd]
    exact ⟨Nat.zero_le _, by simp⟩
  · rintro i st ⟨hi, ht, rfl⟩
    simp only [go_sem, Nat.reduceEqDiff, reduceIte, ↓reduceIte, Nat.reduceAdd]
    intro _
    refine condK_split _ (fun hc => ?_) (fun hc => ?_)
    · have hil : i < s.length := by simpa using hc
      have hg : s[i]? = some s[i] := List.getElem?_eq_getElem hil
      simp only [go_sem, Nat.reduceEqDiff, reduceIte, ↓reduceIte, Nat.reduceAdd, hg]
      have e10 : decide ((s[i].toNat : Int) = 10) = decide (s[i] = 10) := u8_eq s[i] 10 (by omega)
      have fin1 : chD s[i] = true → ∃ y, (y ≤ s.length ∧ (s.take y).all chD = true ∧ (⟨[(0, .p (.s s)), (2, .p (.b false)), (3, .p (.i .i64 (wr .i64 ((i : Int) + 1))))], [], []⟩ : St) = ⟨[(0, .p (.s s)), (2, .p (.b false)), (3, .p (.i .i64 y))], [], []⟩) ∧ s.length - y < s.length - i := by
        intro h
        exact ⟨i + 1, ⟨hil, all_take hil ht h, by rw [wr1 hil hs]⟩, by omega⟩
      refine condK_split _ (fun h1 => ?_) (fun h1 => ?_)
      · simp only [go_sem, Nat.reduceEqDiff, reduceIte, ↓reduceIte, Nat.reduceAdd, h1, hg]
        rw [wr64 (by have := s[i].toNat_lt; omega) (by have := s[i].toNat_lt; omega)]
        refine (l1In_any _ _ _).mono ?_
        rintro r H' ⟨rfl, rfl⟩
        simp only [go_sem, Nat.reduceEqDiff, reduceIte, ↓reduceIte, Nat.reduceAdd, h1]
        have hne : decide (s[i] = 10) = false := by
          rw [← e10]; simpa using h1
        refine condK_split _ (fun h2 => ?_) (fun h2 => ?_)
        · simp only [go_sem, Nat.reduceEqDiff, reduceIte, ↓reduceIte, Nat.reduceAdd]
          rw [plainD, all_false hil]
          simp only [chD, hne, Bool.false_or]; simpa using h2
        · simp only [go_sem, Nat.reduceEqDiff, reduceIte, ↓reduceIte, Nat.reduceAdd]
          exact fin1 (by simp only [chD, hne, Bool.false_or]; simpa using h2)
      · simp only [go_sem, Nat.reduceEqDiff, reduceIte, ↓reduceIte, Nat.reduceAdd, h1]
        have hne : decide (s[i] = 10) = true := by
          rw [← e10]; simpa using h1
        exact fin1 (by simp only [chD, hne, Bool.true_or])
    · have hil : i = s.length := by simp at hc; omega
      simp only [go_sem, Nat.reduceEqDiff, reduceIte, ↓reduceIte, Nat.reduceAdd]
      subst hil
      rw [List.take_length] at ht
      rw [plainD, ht]

theorem plain (s : List UInt8) (hs : s.length ≤ maxL) : ACall Try.prog 171 [.p (.s s)] [] (fun r H => r = .p (.b (plainD s))) := by
  refine call171 (by simp) ?_
  simp only [go_sem, Nat.reduceEqDiff, reduceIte, ↓reduceIte, Nat.reduceAdd, mc171, mr171]
  refine ⟨Nat, [0, 2, 3], fun i st => i ≤ s.length ∧ (s.take i).all chD = true ∧ st = ⟨[(0, .p (.s s)), (2, .p (.b false)), (3, .p (.i .i64 i))], [], []⟩, fun i => s.length - i, ⟨0, ?_⟩, ?_⟩
  · simp only [go_sem, Nat.reduceEqDiff, reduceIte, ↓reduceIte, Nat.reduceAdd]
    exact ⟨Nat.zero_le _, by simp⟩
  · rintro i st ⟨hi, ht, rfl⟩
    simp only [go_sem, Nat.reduceEqDiff, reduceIte, ↓reduceIte, Nat.reduceAdd]
    intro _
    refine condK_split _ (fun hc => ?_) (fun hc => ?_)
    · have hil : i < s.length := by simpa using hc
      have hg : s[i]? = some s[i] := List.getElem?_eq_getElem hil
      simp only [go_sem, Nat.reduceEqDiff, reduceIte, ↓reduceIte, Nat.reduceAdd, hg]
      have e10 : decide ((s[i].toNat : Int) = 10) = decide (s[i] = 10) := u8_eq s[i] 10 (by omega)
      have fin1 : chD s[i] = true → ∃ y, (y ≤ s.length ∧ (s.take y).all chD = true ∧ (⟨[(0, .p (.s s)), (2, .p (.b false)), (3, .p (.i .i64 (wr .i64 ((i : Int) + 1))))], [], []⟩ : St) = ⟨[(0, .p (.s s)), (2, .p (.b false)), (3, .p (.i .i64 y))], [], []⟩) ∧ s.length - y < s.length - i := by
        intro h
        exact ⟨i + 1, ⟨hil, all_take hil ht h, by rw [wr1 hil hs]⟩, by omega⟩
      rw [wr64 (by have := s[i].toNat_lt; omega) (by have := s[i].toNat_lt; omega)]
      refine (within_any _ _ _).mono ?_
      rintro r H' ⟨rfl, rfl⟩
      simp only [go_sem, Nat.reduceEqDiff, reduceIte, ↓reduceIte, Nat.reduceAdd]
      refine condK_split _ (fun h1 => ?_) (fun h1 => ?_)
      · simp only [go_sem, Nat.reduceEqDiff, reduceIte, ↓reduceIte, Nat.reduceAdd, h1, hg]
        refine condK_split _ (fun h2 => ?_) (fun h2 => ?_)
        · simp only [go_sem, Nat.reduceEqDiff, reduceIte, ↓reduceIte, Nat.reduceAdd]
          have hne : decide (s[i] = 10) = false := by
            rw [← e10]; simpa using h2
          rw [plainD, all_false hil]
          simp only [chD, hne, Bool.false_or]; simpa using h1
        · simp only [go_sem, Nat.reduceEqDiff, reduceIte, ↓reduceIte, Nat.reduceAdd]
          have hne : decide (s[i] = 10) = true := by
            rw [← e10]; simpa using h2
          exact fin1 (by simp only [chD, hne, Bool.true_or])
      · simp only [go_sem, Nat.reduceEqDiff, reduceIte, ↓reduceIte, Nat.reduceAdd, h1]
        exact fin1 (by simp only [chD]; simp at h1; simp [h1])
    · have hil : i = s.length := by simp at hc; omega
      simp only [go_sem, Nat.reduceEqDiff, reduceIte, ↓reduceIte, Nat.reduceAdd]
      subst hil
      rw [List.take_length] at ht
      rw [plainD, ht]
end Go.Proofs.Ytmbggdfceecojaa.Cd
