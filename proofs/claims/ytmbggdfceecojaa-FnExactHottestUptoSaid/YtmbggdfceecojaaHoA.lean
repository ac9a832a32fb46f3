/- Hottest: what the functions do. -/
import Derived.Test.YtmbggdfceecojaaMcA
set_option linter.all false
namespace Go.Proofs.Ytmbggdfceecojaa.Ho
open Go.AM Mc

def ints (zs : List Int) : List (List PV) := zs.map fun z => [.i .i64 z]
theorem ints_len (zs : List Int) : (ints zs).length = zs.length := by simp [ints]
theorem ints_get (zs : List Int) (i : Nat) : (ints zs)[i]? = zs[i]?.map fun z => [.i .i64 z] := by simp [ints]
theorem ints_at (zs : List Int) {i : Nat} (h : i < zs.length) : (ints zs)[i]? = some [.i .i64 zs[i]] := by simp [ints, h]
theorem wr64 {n : Int} (h1 : -9223372036854775808 ≤ n) (h2 : n ≤ 9223372036854775807) : wr .i64 n = n := by
  simp [wr, IntKind.wrap, IntKind.bits, IntKind.signed]
  omega
theorem wr1 {n : Nat} {m : Nat} (h : n < m) (hm : m ≤ maxL) : wr .i64 ((n : Int) + 1) = ((n + 1 : Nat) : Int) := by
  unfold maxL at hm
  rw [wr64 (by omega) (by omega)]; simp

theorem eqIntS (xs ys : List Int) (hx : xs.length ≤ maxL) (hy : ys.length ≤ maxL) : ACall Try.prog 18 [.p (.l (ints xs)), .p (.l (ints ys))] [] (fun r H => r = .p (.b (decide (xs = ys)))) := by
  refine call18 (by simp) ?_
  simp only [mc18, mr18, go_sem, Nat.reduceEqDiff, reduceIte, ↓reduceIte, Nat.reduceAdd, ints_len]
  intro _ _
  refine condK_split _ (fun hc => ?_) (fun hc => ?_)
  · simp only [go_sem, Nat.reduceEqDiff, reduceIte, ↓reduceIte, Nat.reduceAdd]
    have : xs ≠ ys := by rintro rfl; simp at hc
    simp [this]
  · have hl : xs.length = ys.length := by simp at hc; omega
    simp only [go_sem, Nat.reduceEqDiff, reduceIte, ↓reduceIte, Nat.reduceAdd]
    refine ⟨Nat, [0, 1, 4, 5], fun i st => i ≤ xs.length ∧ xs.take i = ys.take i ∧ st = ⟨[(0, .p (.l (ints xs))), (1, .p (.l (ints ys))), (4, .p (.b false)), (5, .p (.i .i64 i))], [], []⟩, fun i => xs.length - i, ⟨0, ?_⟩, ?_⟩
    · simp only [go_sem, Nat.reduceEqDiff, reduceIte, ↓reduceIte, Nat.reduceAdd]
      exact ⟨Nat.zero_le _, rfl, rfl⟩
    · rintro i st ⟨hi, ht, rfl⟩
      simp only [go_sem, Nat.reduceEqDiff, reduceIte, ↓reduceIte, Nat.reduceAdd, ints_len]
      intro _
      refine condK_split _ (fun hc => ?_) (fun hc => ?_)
      · have hil : i < xs.length := by simpa using hc
        have hiy : i < ys.length := by omega
        simp only [go_sem, Nat.reduceEqDiff, reduceIte, ↓reduceIte, Nat.reduceAdd, ints_at _ hil, ints_at _ hiy]
        refine condK_split _ (fun hd => ?_) (fun hd => ?_)
        · simp only [go_sem, Nat.reduceEqDiff, reduceIte, ↓reduceIte, Nat.reduceAdd]
          have : xs ≠ ys := by rintro rfl; simp at hd
          simp [this]
        · simp only [go_sem, Nat.reduceEqDiff, reduceIte, ↓reduceIte, Nat.reduceAdd]
          have he : xs[i] = ys[i] := by simpa using hd
          refine ⟨i + 1, ⟨hil, ?_, ?_⟩, by omega⟩
          · rw [List.take_succ, List.take_succ, ht, List.getElem?_eq_getElem hil, List.getElem?_eq_getElem hiy, he]
          · rw [wr1 hil hx]
      · have hil : i = xs.length := by simp at hc; omega
        simp only [go_sem, Nat.reduceEqDiff, reduceIte, ↓reduceIte, Nat.reduceAdd]
        subst hil
        have : xs = ys := by
          rw [List.take_length, hl, List.take_length] at ht
          exact ht
        simp [this]

/-- the place of the first greatest -/
def IsHot (zs : List Int) (j : Nat) : Prop := ∃ h : j < zs.length, ∀ k (hk : k < zs.length), zs[k] ≤ zs[j] ∧ (k < j → zs[k] < zs[j])

theorem IsHot.uniq {zs : List Int} {j j' : Nat} (h : IsHot zs j) (h' : IsHot zs j') : j = j' := by
  obtain ⟨a, b⟩ := h
  obtain ⟨a', b'⟩ := h'
  rcases Nat.lt_trichotomy j j' with hlt | he | hlt
  · have := (b' j a).2 hlt; have := (b j' a').1; omega
  · exact he
  · have := (b j' a').2 hlt; have := (b' j a).1; omega

def HotRes (zs : List Int) (r : AV) : Prop :=
  (zs = [] ∧ r = .tup [.p (.i .i64 (-1)), .p (.i .i64 0)]) ∨ ∃ j, ∃ h : j < zs.length, IsHot zs j ∧ r = .tup [.p (.i .i64 j), .p (.i .i64 zs[j])]

theorem specHottest (zs : List Int) (hz : zs.length ≤ maxL) : ACall Try.prog 15 [.p (.l (ints zs))] [] (fun r H => HotRes zs r) := by
  refine call15 (by simp) ?_
  simp only [mc15, mr15, go_sem, Nat.reduceEqDiff, reduceIte, ↓reduceIte, Nat.reduceAdd, ints_len]
  intro _
  refine condK_split _ (fun hc => ?_) (fun hc => ?_)
  · simp only [go_sem, Nat.reduceEqDiff, reduceIte, ↓reduceIte, Nat.reduceAdd]
    have : zs = [] := by apply List.eq_nil_of_length_eq_zero; simp at hc; simp [hc]
    exact .inl ⟨this, rfl⟩
  · have hpos : 0 < zs.length := by simp at hc; exact List.length_pos_iff.2 (by rintro rfl; simp at hc)
    simp only [go_sem, Nat.reduceEqDiff, reduceIte, ↓reduceIte, Nat.reduceAdd]
    refine ⟨Nat × Nat, [0, 2, 3, 4, 5], fun x st => x.1 ≤ zs.length ∧ (∃ hb : x.2 < zs.length, ∀ k (hk : k < zs.length), k < x.1 → zs[k] ≤ zs[x.2] ∧ (k < x.2 → zs[k] < zs[x.2])) ∧ (x.2 < x.1 ∨ x.2 = 0) ∧
      st = ⟨[(0, .p (.l (ints zs))), (2, .p (.i .i64 0)), (3, .p (.i .i64 0)), (4, .p (.i .i64 x.2)), (5, .p (.i .i64 x.1))], [], []⟩, fun x => zs.length - x.1, ⟨(0, 0), ?_⟩, ?_⟩
    · simp only [go_sem, Nat.reduceEqDiff, reduceIte, ↓reduceIte, Nat.reduceAdd]
      exact ⟨Nat.zero_le _, ⟨hpos, fun k hk h0 => by omega⟩, .inr trivial, rfl⟩
    · rintro ⟨i, b⟩ st ⟨hi, ⟨hb, hmax⟩, hbi, rfl⟩
      simp only at hi hb hmax hbi
      simp only [go_sem, Nat.reduceEqDiff, reduceIte, ↓reduceIte, Nat.reduceAdd, ints_len]
      intro _
      refine condK_split _ (fun hc => ?_) (fun hc => ?_)
      · have hil : i < zs.length := by simpa using hc
        simp only [go_sem, Nat.reduceEqDiff, reduceIte, ↓reduceIte, Nat.reduceAdd, ints_at _ hil, ints_at _ hb]
        refine condK_split _ (fun hd => ?_) (fun hd => ?_)
        · simp only [go_sem, Nat.reduceEqDiff, reduceIte, ↓reduceIte, Nat.reduceAdd]
          have hgt : zs[b] < zs[i] := by simpa using hd
          refine ⟨(i + 1, i), ⟨hil, ⟨hil, fun k hk hki => ?_⟩, .inl (by simp), ?_⟩, by simp; omega⟩
          · simp only at hki ⊢
            by_cases e : k = i
            · subst e; exact ⟨Int.le_refl _, fun h => by omega⟩
            · have := (hmax k hk (by omega)).1
              exact ⟨by omega, fun _ => by omega⟩
          · rw [wr1 hil hz]
        · simp only [go_sem, Nat.reduceEqDiff, reduceIte, ↓reduceIte, Nat.reduceAdd]
          have hle : zs[i] ≤ zs[b] := by simpa using hd
          refine ⟨(i + 1, b), ⟨hil, ⟨hb, fun k hk hki => ?_⟩, ?_, ?_⟩, by simp; omega⟩
          · simp only at hki ⊢
            by_cases e : k = i
            · subst e; exact ⟨hle, fun h => by omega⟩
            · exact hmax k hk (by omega)
          · rcases hbi with h | h
            · exact .inl (by simp; omega)
            · exact .inr h
          · rw [wr1 hil hz]
      · have hil : i = zs.length := by simp at hc; omega
        simp only [go_sem, Nat.reduceEqDiff, reduceIte, ↓reduceIte, Nat.reduceAdd, ints_at _ hb]
        exact .inr ⟨b, hb, ⟨hb, fun k hk => hmax k hk (by omega)⟩, rfl⟩

/-- rows of which the first i are laid -/
def fill {α : Type} (f : α → List AV) (z : List AV) (zs : List α) (i : Nat) : List (List AV) := (zs.take i).map f ++ List.replicate (zs.length - i) z
theorem fill_zero {α : Type} (f : α → List AV) (z : List AV) (zs : List α) : fill f z zs 0 = List.replicate zs.length z := by simp [fill]
theorem fill_all {α : Type} (f : α → List AV) (z : List AV) (zs : List α) : fill f z zs zs.length = zs.map f := by simp [fill]
theorem fill_len {α : Type} (f : α → List AV) (z : List AV) (zs : List α) {i : Nat} (h : i ≤ zs.length) : (fill f z zs i).length = zs.length := by simp [fill]; omega
theorem fill_get {α : Type} (f : α → List AV) (z : List AV) (zs : List α) {i : Nat} (h : i < zs.length) : (fill f z zs i)[i]? = some z := by
  unfold fill
  rw [List.getElem?_append_right (by simp; omega), List.getElem?_replicate]
  simp; omega
theorem fill_set {α : Type} (f : α → List AV) (z : List AV) (zs : List α) {i : Nat} (h : i < zs.length) : (fill f z zs i).set i (f zs[i]) = fill f z zs (i + 1) := by
  unfold fill
  rw [List.set_append_right _ _ (by simp; omega), List.take_succ, List.getElem?_eq_getElem h]
  have h1 : zs.length - i = (zs.length - (i + 1)) + 1 := by omega
  have h2 : i - ((zs.take i).map f).length = 0 := by simp; omega
  rw [h1, h2, List.replicate_succ]
  simp only [List.set_cons_zero, List.map_append, List.append_assoc, Option.toList_some, List.map_cons, List.map_nil, List.cons_append, List.nil_append]

theorem toIntS (zs : List Int) (hz : zs.length ≤ 1048576) (H : List AO) : ACall Try.prog 16 [.p (.l (ints zs))] H (fun r H' => r = .gs H.length 0 0 zs.length ∧ H' = H ++ [.rows 1 0 (zs.map fun z => [.p (.i .i64 z)])]) := by
  have hm : zs.length ≤ maxL := by unfold maxL; omega
  refine call16 (by simp) ?_
  simp only [mc16, mr16, go_sem, Nat.reduceEqDiff, reduceIte, ↓reduceIte, Nat.reduceAdd, ints_len]
  intro _
  refine ⟨by omega, by omega, by omega, ?_⟩
  refine ⟨Nat, [0, 2, 3, 4], fun i st => i ≤ zs.length ∧ st = ⟨[(0, .p (.l (ints zs))), (2, .p .nl), (3, .gs H.length 0 0 zs.length), (4, .p (.i .i64 i))], [], H ++ [.rows 1 0 (fill (fun z => [.p (.i .i64 z)]) [.p (.i .i64 0)] zs i)]⟩, fun i => zs.length - i, ⟨0, ?_⟩, ?_⟩
  · simp only [go_sem, Nat.reduceEqDiff, reduceIte, ↓reduceIte, Nat.reduceAdd]
    exact ⟨Nat.zero_le _, by rw [fill_zero]; rfl⟩
  · rintro i st ⟨hi, rfl⟩
    simp only [go_sem, Nat.reduceEqDiff, reduceIte, ↓reduceIte, Nat.reduceAdd, ints_len]
    intro _
    refine condK_split _ (fun hc => ?_) (fun hc => ?_)
    · have hil : i < zs.length := by simpa using hc
      simp only [go_sem, Nat.reduceEqDiff, reduceIte, ↓reduceIte, Nat.reduceAdd, ints_at _ hil, List.getElem?_append_right (Nat.le_refl _), Nat.sub_self, fill_get _ _ _ hil]
      refine ⟨by omega, ?_⟩
      rw [stoR_at (fill_get _ _ _ hil) rfl]
      simp only [go_sem, Nat.reduceEqDiff, reduceIte, ↓reduceIte, Nat.reduceAdd]
      refine ⟨i + 1, ⟨hil, ?_⟩, by omega⟩
      rw [wr1 hil hm, List.set_append_right _ _ (Nat.le_refl _), Nat.sub_self, List.set_cons_zero, ← fill_set _ _ _ hil]
    · have hil : i = zs.length := by simp at hc; omega
      simp only [go_sem, Nat.reduceEqDiff, reduceIte, ↓reduceIte, Nat.reduceAdd]
      subst hil
      rw [fill_all]

theorem maxS (zs : List Int) (hz : zs.length ≤ maxL) (hpos : 0 < zs.length) : ACall Try.prog 66 [.p (.l (ints zs))] [] (fun r H => ∃ m, r = .p (.i .i64 m) ∧ m ∈ zs ∧ ∀ z ∈ zs, z ≤ m) := by
  refine call66 (by simp) ?_
  simp only [mc66, mr66, go_sem, Nat.reduceEqDiff, reduceIte, ↓reduceIte, Nat.reduceAdd, ints_len]
  intro _
  refine condK_split _ (fun hc => ?_) (fun hc => ?_)
  · simp at hc; omega
  · simp only [go_sem, Nat.reduceEqDiff, reduceIte, ↓reduceIte, Nat.reduceAdd, Int.toNat_zero, ints_at _ hpos]
    refine ⟨by omega, ?_⟩
    refine ⟨Nat × Int, [0, 2, 3, 4], fun x st => 1 ≤ x.1 ∧ x.1 ≤ zs.length ∧ x.2 ∈ zs ∧ (∀ k (hk : k < zs.length), k < x.1 → zs[k] ≤ x.2) ∧
      st = ⟨[(0, .p (.l (ints zs))), (2, .p (.i .i64 0)), (3, .p (.i .i64 x.2)), (4, .p (.i .i64 x.1))], [], []⟩, fun x => zs.length - x.1, ⟨(1, zs[0]), ?_⟩, ?_⟩
    · simp only [go_sem, Nat.reduceEqDiff, reduceIte, ↓reduceIte, Nat.reduceAdd]
      refine ⟨Nat.le_refl _, hpos, List.getElem_mem hpos, fun k hk h1 => ?_, rfl⟩
      have : k = 0 := by omega
      subst this
      exact Int.le_refl _
    · rintro ⟨i, m⟩ st ⟨h1, hi, hm, hmax, rfl⟩
      simp only at h1 hi hm hmax
      simp only [go_sem, Nat.reduceEqDiff, reduceIte, ↓reduceIte, Nat.reduceAdd, ints_len]
      intro _
      refine condK_split _ (fun hc => ?_) (fun hc => ?_)
      · have hil : i < zs.length := by simpa using hc
        simp only [go_sem, Nat.reduceEqDiff, reduceIte, ↓reduceIte, Nat.reduceAdd, ints_at _ hil]
        refine ⟨(i + 1, if zs[i] > m then zs[i] else m), ⟨by omega, hil, ?_, ?_, ?_⟩, by simp; omega⟩
        · simp only; split
          · exact List.getElem_mem hil
          · exact hm
        · intro k hk hki
          simp only at hki ⊢
          by_cases e : k = i
          · subst e; split <;> omega
          · have := hmax k hk (by omega)
            split <;> omega
        · rw [wr1 hil hz]
      · have hil : i = zs.length := by simp at hc; omega
        simp only [go_sem, Nat.reduceEqDiff, reduceIte, ↓reduceIte, Nat.reduceAdd]
        refine ⟨m, rfl, hm, fun z hzm => ?_⟩
        obtain ⟨k, hk, rfl⟩ := List.mem_iff_getElem.1 hzm
        exact hmax k hk (by omega)

theorem indexS (zs : List Int) (hz : zs.length ≤ maxL) (m : Int) (hm : m ∈ zs) : ACall Try.prog 67 [.p (.l (ints zs)), .p (.i .i64 m)] [] (fun r H => ∃ j, ∃ h : j < zs.length, r = .p (.i .i64 j) ∧ zs[j] = m ∧ ∀ k (hk : k < zs.length), k < j → zs[k] ≠ m) := by
  refine call67 (by simp) ?_
  simp only [mc67, mr67, go_sem, Nat.reduceEqDiff, reduceIte, ↓reduceIte, Nat.reduceAdd, ints_len]
  intro _
  refine ⟨Nat, [0, 1, 4, 7, 8], fun i st => i ≤ zs.length ∧ (∀ k (hk : k < zs.length), k < i → zs[k] ≠ m) ∧
      st = ⟨[(0, .p (.l (ints zs))), (1, .p (.i .i64 m)), (4, .p (.i .i64 0)), (7, .p (.i .i64 zs.length)), (8, .p (.i .i64 i))], [], []⟩, fun i => zs.length - i, ⟨0, ?_⟩, ?_⟩
  · simp only [go_sem, Nat.reduceEqDiff, reduceIte, ↓reduceIte, Nat.reduceAdd]
    exact ⟨Nat.zero_le _, fun k hk h0 => by omega, rfl⟩
  · rintro i st ⟨hi, hne, rfl⟩
    simp only [go_sem, Nat.reduceEqDiff, reduceIte, ↓reduceIte, Nat.reduceAdd, ints_len]
    refine condK_split _ (fun hc => ?_) (fun hc => ?_)
    · have hil : i < zs.length := by simpa using hc
      simp only [go_sem, Nat.reduceEqDiff, reduceIte, ↓reduceIte, Nat.reduceAdd, ints_at _ hil]
      refine condK_split _ (fun hd => ?_) (fun hd => ?_)
      · simp only [go_sem, Nat.reduceEqDiff, reduceIte, ↓reduceIte, Nat.reduceAdd]
        have he : m = zs[i] := by simpa using hd
        exact ⟨i, hil, rfl, he.symm, hne⟩
      · simp only [go_sem, Nat.reduceEqDiff, reduceIte, ↓reduceIte, Nat.reduceAdd]
        have he : ¬ m = zs[i] := by simpa using hd
        refine ⟨i + 1, ⟨hil, fun k hk hki => ?_, ?_⟩, by omega⟩
        · by_cases e : k = i
          · subst e; exact fun h => he h.symm
          · exact hne k hk (by omega)
        · rw [wr1 hil hz]
    · have hil : i = zs.length := by simp at hc; omega
      obtain ⟨k, hk, rfl⟩ := List.mem_iff_getElem.1 hm
      exact (hne k hk (by omega) rfl).elim

theorem implHottest (zs : List Int) (hz : zs.length ≤ maxL) : ACall Try.prog 17 [.p (.l (ints zs))] [] (fun r H => HotRes zs r) := by
  refine call17 (by simp) ?_
  simp only [mc17, mr17, go_sem, Nat.reduceEqDiff, reduceIte, ↓reduceIte, Nat.reduceAdd, ints_len]
  intro _
  refine condK_split _ (fun hc => ?_) (fun hc => ?_)
  · simp only [go_sem, Nat.reduceEqDiff, reduceIte, ↓reduceIte, Nat.reduceAdd]
    have : zs = [] := by apply List.eq_nil_of_length_eq_zero; simp at hc; simp [hc]
    exact .inl ⟨this, rfl⟩
  · have hpos : 0 < zs.length := by simp at hc; exact List.length_pos_iff.2 (by rintro rfl; simp at hc)
    simp only [go_sem, Nat.reduceEqDiff, reduceIte, ↓reduceIte, Nat.reduceAdd]
    refine (acall_lend (maxS zs hz hpos) (fun r H' ⟨m, hr, _⟩ => by subst hr; exact grnd_i _ _) (lentAll_cons (.pure _) (lentAll_nil _))).mono ?_
    rintro r H' ⟨rfl, _, m, rfl, hm, hmax⟩
    simp only [go_sem, Nat.reduceEqDiff, reduceIte, ↓reduceIte, Nat.reduceAdd]
    refine (acall_lend (indexS zs hz m hm) (fun r H' ⟨j, h, hr, _⟩ => by subst hr; exact grnd_i _ _) (lentAll_cons (.pure _) (lentAll_cons (.pure _) (lentAll_nil _)))).mono ?_
    rintro r H' ⟨rfl, _, j, hj, rfl, hjm, hne⟩
    simp only [go_sem, Nat.reduceEqDiff, reduceIte, ↓reduceIte, Nat.reduceAdd]
    refine .inr ⟨j, hj, ⟨hj, fun k hk => ⟨?_, fun hkj => ?_⟩⟩, ?_⟩
    · rw [hjm]; exact hmax _ (List.getElem_mem hk)
    · have h1 := hmax _ (List.getElem_mem hk)
      have h2 := hne k hk hkj
      rw [hjm]; omega
    · rw [hjm]

theorem hot_ground {zs : List Int} {r : AV} (h : HotRes zs r) : Grnd r := by
  rcases h with ⟨_, rfl⟩ | ⟨j, hj, _, rfl⟩
  · exact grnd_tup _ (by simp; exact ⟨grnd_i _ _, grnd_i _ _⟩)
  · exact grnd_tup _ (by simp; exact ⟨grnd_i _ _, grnd_i _ _⟩)

theorem hot_form {zs : List Int} {r r' : AV} (h : HotRes zs r) (h' : HotRes zs r') : ∃ a b : Int, r = .tup [.p (.i .i64 a), .p (.i .i64 b)] ∧ r' = .tup [.p (.i .i64 a), .p (.i .i64 b)] := by
  rcases h with ⟨h, rfl⟩ | ⟨j, hj, hh, rfl⟩ <;> rcases h' with ⟨h2, rfl⟩ | ⟨j', hj', hh', rfl⟩
  · exact ⟨_, _, rfl, rfl⟩
  · subst h; simp at hj'
  · subst h2; simp at hj
  · have := hh.uniq hh'
    subst this
    exact ⟨_, _, rfl, rfl⟩

theorem lent_ints (zs : List Int) {H : List AO} {id : Nat} (hid : H[id]? = some (.rows 1 0 (zs.map fun z => [.p (.i .i64 z)]))) : Lent H (.gs id 0 0 zs.length) (.p (.l (ints zs))) := by
  refine .gs id 0 0 _ 1 _ (ints zs) hid (by simp) (ints_len zs) (fun y hy => by obtain ⟨z, _, rfl⟩ := List.mem_map.1 hy; rfl) ?_
  intro i r y j c q hr hy hc hq
  rw [Nat.zero_add, List.getElem?_map] at hr
  rw [ints_get] at hy
  cases hz : zs[i]? with
  | none => rw [hz] at hr; cases hr
  | some z =>
    rw [hz] at hr hy
    cases hr; cases hy
    cases j with
    | zero => cases hc; cases hq; exact .pure _
    | succ j => simp at hc

theorem law (zs : List Int) (hz : zs.length ≤ maxL) : ACall Try.prog 3 [.p (.l (ints zs))] [] (fun r _ => r = .p (.b true)) := by
  refine call3 (by simp) ?_
  simp only [mc3, mr3, go_sem, Nat.reduceEqDiff, reduceIte, ↓reduceIte, Nat.reduceAdd, ints_len]
  intro _
  refine condK_split _ (fun hc => ?_) (fun hc => ?_)
  · simp only [go_sem, Nat.reduceEqDiff, reduceIte, ↓reduceIte, Nat.reduceAdd]
  · have hn : zs.length ≤ 1048576 := by simp at hc; omega
    simp only [go_sem, Nat.reduceEqDiff, reduceIte, ↓reduceIte, Nat.reduceAdd]
    refine (toIntS zs hn []).mono ?_
    rintro r H' ⟨rfl, rfl⟩
    simp only [go_sem, Nat.reduceEqDiff, reduceIte, ↓reduceIte, Nat.reduceAdd]
    refine (acall_lend (specHottest zs hz) (fun r H' h => hot_ground h) (lentAll_cons (lent_ints zs rfl) (lentAll_nil _))).mono ?_
    rintro r H' ⟨rfl, _, hr⟩
    have hr0 := hr
    obtain ⟨a, b, rfl, _⟩ := hot_form hr hr
    simp only [go_sem, Nat.reduceEqDiff, reduceIte, ↓reduceIte, Nat.reduceAdd]
    refine (toIntS zs hn _).mono ?_
    rintro r H' ⟨rfl, rfl⟩
    simp only [go_sem, Nat.reduceEqDiff, reduceIte, ↓reduceIte, Nat.reduceAdd]
    refine (acall_lend (implHottest zs hz) (fun r H' h => hot_ground h) (lentAll_cons (lent_ints zs rfl) (lentAll_nil _))).mono ?_
    rintro r H' ⟨rfl, _, hr'⟩
    obtain ⟨a', b', e1, rfl⟩ := hot_form hr0 hr'
    cases e1
    simp only [go_sem, Nat.reduceEqDiff, reduceIte, ↓reduceIte, Nat.reduceAdd]
    refine (toIntS zs hn _).mono ?_
    rintro r H' ⟨rfl, rfl⟩
    simp only [go_sem, Nat.reduceEqDiff, reduceIte, ↓reduceIte, Nat.reduceAdd]
    refine (acall_lend (eqIntS zs zs hz hz) (fun r H' h => by subst h; exact grnd_b _) (lentAll_cons (lent_ints zs rfl) (lentAll_cons (lent_ints zs rfl) (lentAll_nil _)))).mono ?_
    rintro r H' ⟨rfl, _, rfl⟩
    simp only [go_sem, Nat.reduceEqDiff, reduceIte, ↓reduceIte, Nat.reduceAdd]

end Go.Proofs.Ytmbggdfceecojaa.Ho
