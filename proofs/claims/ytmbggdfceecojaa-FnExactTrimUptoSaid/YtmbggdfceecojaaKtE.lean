/- Texts TrB TrC TrD TrE, merged. -/
import Derived.Test.YtmbggdfceecojaaKtD
/- Trim: marks by which a code is known, and that they are still held. -/
set_option linter.all false
namespace Go.Proofs.Ytmbggdfceecojaa.Cd
open Go.AM Mc Ho

theorem patIR_get (k : Int) (n : Nat) {i : Nat} (h : i < n) : (patIR k n)[i]? = some (patI k i) := by simp [patIR, h]
theorem patIR_len (k n) : (patIR k n).length = n := by simp [patIR]
theorem patIR_len6 (k n) : ∀ r ∈ patIR k n, r.length = 6 := by
  intro r hr
  obtain ⟨x, _, rfl⟩ := List.mem_map.1 hr
  rfl
theorem markText_pure (k : Int) (hk0 : 0 ≤ k) (hk : k ≤ 1000000000) (H : List AO) : ACall Try.prog 137 [.p (.i .i64 k)] H (pureQ (.p (.s (textD k))) H) :=
  (acall_lend (markText k hk0 hk) (fun r H' hr => by subst hr; exact grnd_s _) (lentAll_cons (.pure _) (lentAll_nil _))).mono fun r H' ⟨h1, _, h2⟩ => ⟨h2, h1⟩

theorem heldInstrS {H : List AO} {id ver : Nat} (n : Nat) (k : Int) (hid : H[id]? = some (.rows 6 ver (patIR k n))) (hn : n ≤ 1048576) (hk0 : 0 ≤ k) (hk : k ≤ 100000000) :
    ACall Try.prog 84 [.gs id ver 0 n, .p (.i .i64 k)] H (fun r H' => r = .p (.i .i64 (k + 6 * n)) ∧ H' = H) := by
  have hm : n ≤ maxL := by unfold maxL; omega
  refine call84 (by simp) ?_
  simp only [go_sem, Nat.reduceEqDiff, reduceIte, ↓reduceIte, Nat.reduceAdd, mc84, mr84]
  refine ⟨Nat, [0, 1, 4, 5], fun i st => i ≤ n ∧ st = ⟨[(0, .gs id ver 0 n), (1, .p (.i .i64 (k + 6 * i))), (4, .p (.i .i64 0)), (5, .p (.i .i64 i))], [], H⟩, fun i => n - i, ⟨0, ?_⟩, ?_⟩
  · simp only [go_sem, Nat.reduceEqDiff, reduceIte, ↓reduceIte, Nat.reduceAdd]
    exact ⟨Nat.zero_le _, by simp⟩
  · rintro i st ⟨hi, rfl⟩
    simp only [go_sem, Nat.reduceEqDiff, reduceIte, ↓reduceIte, Nat.reduceAdd]
    intro _
    refine condK_split _ (fun hc => ?_) (fun hc => ?_)
    · have hil : i < n := by simpa using hc
      have hci : (i : Int) < (n : Int) := by omega
      have e1 : wr .i64 (k + 6 * (i : Int) + 1) = k + 6 * i + 1 := wr64 (by omega) (by omega)
      have e2 : wr .i64 (k + 6 * (i : Int) + 1 + 1) = k + 6 * i + 2 := by rw [wr64 (by omega) (by omega)]; omega
      have e3 : wr .i64 (k + 6 * (i : Int) + 2 + 1) = k + 6 * i + 3 := by rw [wr64 (by omega) (by omega)]; omega
      have e4 : wr .i64 (k + 6 * (i : Int) + 3 + 1) = k + 6 * i + 4 := by rw [wr64 (by omega) (by omega)]; omega
      have e5 : wr .i64 (k + 6 * (i : Int) + 4 + 1) = k + 6 * i + 5 := by rw [wr64 (by omega) (by omega)]; omega
      have e6 : wr .i64 (k + 6 * (i : Int) + 5 + 1) = k + 6 * ((i + 1 : Nat) : Int) := by rw [wr64 (by omega) (by omega)]; omega
      simp only [go_sem, Nat.reduceEqDiff, reduceIte, ↓reduceIte, Nat.reduceAdd, List.replicate_succ, List.replicate_zero, List.set_cons_zero, List.set_cons_succ, List.length_cons, List.length_nil, Nat.reduceLT, Nat.lt_add_one, ne_eq, Int.reduceEq, not_false_eq_true, Option.map_some, Nat.reduceLeDiff, Nat.zero_lt_succ, List.map_cons, List.map_nil, List.nil_append, List.cons_append, List.append_nil, bytesOf, List.take_succ_cons, List.take_zero, List.drop_zero, and_self, List.append_assoc, List.length_append, Int.reduceLT, Int.reduceLE, Int.toNat_zero, Int.reduceToNat, Int.cast_ofNat_Int, Int.natCast_zero, Int.natCast_one, Int.reduceAdd, List.map_append, Option.bind_some, hid, patIR_get k n hil, patI, hci, e1, e2, e3, e4, e5]
      refine drw_same ?_
      simp only [go_sem, Nat.reduceEqDiff, reduceIte, ↓reduceIte, Nat.reduceAdd, List.replicate_succ, List.replicate_zero, List.set_cons_zero, List.set_cons_succ, List.length_cons, List.length_nil, Nat.reduceLT, Nat.lt_add_one, ne_eq, Int.reduceEq, not_false_eq_true, Option.map_some, Nat.reduceLeDiff, Nat.zero_lt_succ, List.map_cons, List.map_nil, List.nil_append, List.cons_append, List.append_nil, bytesOf, List.take_succ_cons, List.take_zero, List.drop_zero, and_self, List.append_assoc, List.length_append, Int.reduceLT, Int.reduceLE, Int.toNat_zero, Int.reduceToNat, Int.cast_ofNat_Int, Int.natCast_zero, Int.natCast_one, Int.reduceAdd, List.map_append, Option.bind_some, hid, patIR_get k n hil, patI, hci, e1, e2, e3, e4, e5]
      refine pcall_pure (fun A => markText_pure _ (by omega) (by omega) _) (Hext.refl _) ?_
      simp only [go_sem, Nat.reduceEqDiff, reduceIte, ↓reduceIte, Nat.reduceAdd, List.replicate_succ, List.replicate_zero, List.set_cons_zero, List.set_cons_succ, List.length_cons, List.length_nil, Nat.reduceLT, Nat.lt_add_one, ne_eq, Int.reduceEq, not_false_eq_true, Option.map_some, Nat.reduceLeDiff, Nat.zero_lt_succ, List.map_cons, List.map_nil, List.nil_append, List.cons_append, List.append_nil, bytesOf, List.take_succ_cons, List.take_zero, List.drop_zero, and_self, List.append_assoc, List.length_append, Int.reduceLT, Int.reduceLE, Int.toNat_zero, Int.reduceToNat, Int.cast_ofNat_Int, Int.natCast_zero, Int.natCast_one, Int.reduceAdd, List.map_append, Option.bind_some, e6]
      refine ⟨i + 1, ⟨hil, ?_⟩, by omega⟩
      rw [wr1 hil hm]
    · have hil : i = n := by simp at hc; omega
      simp only [go_sem, Nat.reduceEqDiff, reduceIte, ↓reduceIte, Nat.reduceAdd]
      subst hil
      rfl

def patZ (k : Int) (n : Nat) : List Int := (List.range n).map fun j => k + (j : Nat)
theorem patZ_len (k n) : (patZ k n).length = n := by simp [patZ]
theorem patZ_get (k : Int) (n : Nat) {i : Nat} (h : i < n) : (intR .i64 (patZ k n))[i]? = some [.p (.i .i64 (k + i))] := by simp [intR, patZ, h]
theorem heldIntS {H : List AO} {id ver : Nat} (n : Nat) (k : Int) (hid : H[id]? = some (.rows 1 ver (intR .i64 (patZ k n)))) (hn : n ≤ 100000000) (hk0 : 0 ≤ k) (hk : k ≤ 100000000) :
    ACall Try.prog 49 [.gs id ver 0 n, .p (.i .i64 k)] H (fun r H' => r = .p (.i .i64 (k + n)) ∧ H' = H) := by
  have hm : n ≤ maxL := by unfold maxL; omega
  refine call49 (by simp) ?_
  simp only [go_sem, Nat.reduceEqDiff, reduceIte, ↓reduceIte, Nat.reduceAdd, mc49, mr49]
  refine ⟨Nat, [0, 1, 4, 5], fun i st => i ≤ n ∧ st = ⟨[(0, .gs id ver 0 n), (1, .p (.i .i64 (k + i))), (4, .p (.i .i64 0)), (5, .p (.i .i64 i))], [], H⟩, fun i => n - i, ⟨0, ?_⟩, ?_⟩
  · simp only [go_sem, Nat.reduceEqDiff, reduceIte, ↓reduceIte, Nat.reduceAdd]
    exact ⟨Nat.zero_le _, by simp⟩
  · rintro i st ⟨hi, rfl⟩
    simp only [go_sem, Nat.reduceEqDiff, reduceIte, ↓reduceIte, Nat.reduceAdd]
    intro _
    refine condK_split _ (fun hc => ?_) (fun hc => ?_)
    · have hil : i < n := by simpa using hc
      have hci : (i : Int) < (n : Int) := by omega
      simp only [go_sem, Nat.reduceEqDiff, reduceIte, ↓reduceIte, Nat.reduceAdd, List.replicate_succ, List.replicate_zero, List.set_cons_zero, List.set_cons_succ, List.length_cons, List.length_nil, Nat.reduceLT, Nat.lt_add_one, ne_eq, Int.reduceEq, not_false_eq_true, Option.map_some, Nat.reduceLeDiff, Nat.zero_lt_succ, List.map_cons, List.map_nil, List.nil_append, List.cons_append, List.append_nil, bytesOf, List.take_succ_cons, List.take_zero, List.drop_zero, and_self, List.append_assoc, List.length_append, Int.reduceLT, Int.reduceLE, Int.toNat_zero, Int.reduceToNat, Int.cast_ofNat_Int, Int.natCast_zero, Int.natCast_one, Int.reduceAdd, List.map_append, Option.bind_some, hid, patZ_get k n hil, hci]
      refine ⟨i + 1, ⟨hil, ?_⟩, by omega⟩
      rw [wr1 hil hm, wr64 (by omega) (by omega)]
      simp only [Int.natCast_add, Int.natCast_one, Int.add_assoc]
    · have hil : i = n := by simp at hc; omega
      simp only [go_sem, Nat.reduceEqDiff, reduceIte, ↓reduceIte, Nat.reduceAdd]
      subst hil
      rfl

/-! the same, of slices that are owned -/
/-- what a call keeps that writes into one slice -/
def KeptO (a : AV) (H H' : List AO) : Prop := H'.length = H.length ∧ ∀ (j : Nat) o, H[j]? = some o → (∀ ver off n, a ≠ .gs j ver off n) → H'[j]? = some o
theorem KeptO.refl (a : AV) (H : List AO) : KeptO a H H := ⟨rfl, fun j o h _ => h⟩
theorem KeptO.at {a : AV} {H H' : List AO} (h : KeptO a H H') {sz : Nat} {rs : List (List AV)} (ha : OwnR H a sz rs) {j : Nat} {o : AO} (hj : H[j]? = some o) (hne : ∀ ver rs', o ≠ .rows sz ver rs') : H'[j]? = some o := by
  refine h.2 j o hj fun ver off n e => ?_
  rcases ha with ⟨rfl, _⟩ | ⟨id, v, rfl, h2⟩
  · cases e
  · cases e
    rw [hj] at h2; cases h2
    exact hne _ _ rfl
theorem KeptO.out {a : AV} {H H' : List AO} (h : KeptO a H H') {sz : Nat} {rs : List (List AV)} {lo hi : Nat} (ha : OwnAt H a sz rs lo hi) {j : Nat} {o : AO} (hj : H[j]? = some o) (hlt : j < lo ∨ hi ≤ j) : H'[j]? = some o := by
  refine h.2 j o hj fun ver off n e => ?_
  rcases ha with ⟨rfl, _⟩ | ⟨id, v, h0, h1, rfl, h2⟩
  · cases e
  · cases e; omega
theorem KeptO.own {a : AV} {H H' : List AO} (h : KeptO a H H') {sz sz' : Nat} {rs rs' : List (List AV)} {lo hi lo' hi' : Nat} (ha : OwnAt H a sz rs lo hi) {b : AV} (hb : OwnAt H b sz' rs' lo' hi') (hne : sz ≠ sz') : OwnAt H' b sz' rs' lo' hi' := by
  rcases hb with hb | ⟨id, v, h0, h1, e, h2⟩
  · exact .inl hb
  · exact .inr ⟨id, v, h0, h1, e, h.at ha.own h2 (fun ver rs' e => by cases e; exact hne rfl)⟩

theorem markInstrS_own {H : List AO} {a : AV} {rs : List (List AV)} {lo hi : Nat} (h : OwnAt H a 6 rs lo hi) (h6 : ∀ r ∈ rs, r.length = 6) (hn : rs.length ≤ 1048576) (k : Int) (hk0 : 0 ≤ k) (hk : k ≤ 100000000) :
    ACall Try.prog 79 [a, .p (.i .i64 k)] H (fun r H' => r = .p (.i .i64 (k + 6 * rs.length)) ∧ OwnAt H' a 6 (patIR k rs.length) lo hi ∧ KeptO a H H') := by
  rcases h with ⟨rfl, rfl⟩ | ⟨id, ver, h0, h1, rfl, h3⟩
  · refine call79 (by simp) ?_
    simp only [go_sem, Nat.reduceEqDiff, reduceIte, ↓reduceIte, Nat.reduceAdd, List.replicate_succ, List.replicate_zero, List.set_cons_zero, List.set_cons_succ, List.length_cons, List.length_nil, Nat.reduceLT, Nat.lt_add_one, ne_eq, Int.reduceEq, not_false_eq_true, Option.map_some, Nat.reduceLeDiff, Nat.zero_lt_succ, List.map_cons, List.map_nil, List.nil_append, List.cons_append, List.append_nil, bytesOf, List.take_succ_cons, List.take_zero, List.drop_zero, and_self, List.append_assoc, List.length_append, Int.reduceLT, Int.reduceLE, Int.toNat_zero, Int.reduceToNat, Int.cast_ofNat_Int, Int.natCast_zero, Int.natCast_one, Int.reduceAdd, List.map_append, Option.bind_some, mc79, mr79]
    refine ⟨Unit, [0, 1, 4, 5], fun _ st => st = ⟨[(0, .p .nl), (1, .p (.i .i64 k)), (4, .p (.i .i64 0)), (5, .p (.i .i64 0))], [], H⟩, fun _ => 0, ⟨(), ?_⟩, ?_⟩
    · simp only [go_sem, Nat.reduceEqDiff, reduceIte, ↓reduceIte, Nat.reduceAdd, List.replicate_succ, List.replicate_zero, List.set_cons_zero, List.set_cons_succ, List.length_cons, List.length_nil, Nat.reduceLT, Nat.lt_add_one, ne_eq, Int.reduceEq, not_false_eq_true, Option.map_some, Nat.reduceLeDiff, Nat.zero_lt_succ, List.map_cons, List.map_nil, List.nil_append, List.cons_append, List.append_nil, bytesOf, List.take_succ_cons, List.take_zero, List.drop_zero, and_self, List.append_assoc, List.length_append, Int.reduceLT, Int.reduceLE, Int.toNat_zero, Int.reduceToNat, Int.cast_ofNat_Int, Int.natCast_zero, Int.natCast_one, Int.reduceAdd, List.map_append, Option.bind_some]
    · rintro _ st rfl
      simp only [go_sem, Nat.reduceEqDiff, reduceIte, ↓reduceIte, Nat.reduceAdd, List.replicate_succ, List.replicate_zero, List.set_cons_zero, List.set_cons_succ, List.length_cons, List.length_nil, Nat.reduceLT, Nat.lt_add_one, ne_eq, Int.reduceEq, not_false_eq_true, Option.map_some, Nat.reduceLeDiff, Nat.zero_lt_succ, List.map_cons, List.map_nil, List.nil_append, List.cons_append, List.append_nil, bytesOf, List.take_succ_cons, List.take_zero, List.drop_zero, and_self, List.append_assoc, List.length_append, Int.reduceLT, Int.reduceLE, Int.toNat_zero, Int.reduceToNat, Int.cast_ofNat_Int, Int.natCast_zero, Int.natCast_one, Int.reduceAdd, List.map_append, Option.bind_some, Int.reduceLT, decide_false]
      exact ⟨by simp, .inl ⟨rfl, rfl⟩, KeptO.refl _ _⟩
  · refine (markInstrS rs h3 h6 hn k hk0 hk).mono ?_
    rintro r H' ⟨rfl, rfl⟩
    refine ⟨rfl, .inr ⟨id, ver, h0, h1, by rw [patIR_len], set_get h3⟩, by simp, fun j o h hj => ?_⟩
    rw [List.getElem?_set_ne (by rintro rfl; exact hj _ _ _ rfl)]; exact h
theorem markIntS_own {H : List AO} {a : AV} {rs : List (List AV)} {lo hi : Nat} (h : OwnAt H a 1 rs lo hi) (h6 : ∀ r ∈ rs, r.length = 1) (hn : rs.length ≤ 100000000) (k : Int) (hk0 : 0 ≤ k) (hk : k ≤ 100000000) :
    ACall Try.prog 48 [a, .p (.i .i64 k)] H (fun r H' => r = .p (.i .i64 (k + rs.length)) ∧ OwnAt H' a 1 (intR .i64 (patZ k rs.length)) lo hi ∧ KeptO a H H') := by
  rcases h with ⟨rfl, rfl⟩ | ⟨id, ver, h0, h1, rfl, h3⟩
  · refine call48 (by simp) ?_
    simp only [go_sem, Nat.reduceEqDiff, reduceIte, ↓reduceIte, Nat.reduceAdd, List.replicate_succ, List.replicate_zero, List.set_cons_zero, List.set_cons_succ, List.length_cons, List.length_nil, Nat.reduceLT, Nat.lt_add_one, ne_eq, Int.reduceEq, not_false_eq_true, Option.map_some, Nat.reduceLeDiff, Nat.zero_lt_succ, List.map_cons, List.map_nil, List.nil_append, List.cons_append, List.append_nil, bytesOf, List.take_succ_cons, List.take_zero, List.drop_zero, and_self, List.append_assoc, List.length_append, Int.reduceLT, Int.reduceLE, Int.toNat_zero, Int.reduceToNat, Int.cast_ofNat_Int, Int.natCast_zero, Int.natCast_one, Int.reduceAdd, List.map_append, Option.bind_some, mc48, mr48]
    refine ⟨Unit, [0, 1, 4, 5], fun _ st => st = ⟨[(0, .p .nl), (1, .p (.i .i64 k)), (4, .p (.i .i64 0)), (5, .p (.i .i64 0))], [], H⟩, fun _ => 0, ⟨(), ?_⟩, ?_⟩
    · simp only [go_sem, Nat.reduceEqDiff, reduceIte, ↓reduceIte, Nat.reduceAdd, List.replicate_succ, List.replicate_zero, List.set_cons_zero, List.set_cons_succ, List.length_cons, List.length_nil, Nat.reduceLT, Nat.lt_add_one, ne_eq, Int.reduceEq, not_false_eq_true, Option.map_some, Nat.reduceLeDiff, Nat.zero_lt_succ, List.map_cons, List.map_nil, List.nil_append, List.cons_append, List.append_nil, bytesOf, List.take_succ_cons, List.take_zero, List.drop_zero, and_self, List.append_assoc, List.length_append, Int.reduceLT, Int.reduceLE, Int.toNat_zero, Int.reduceToNat, Int.cast_ofNat_Int, Int.natCast_zero, Int.natCast_one, Int.reduceAdd, List.map_append, Option.bind_some]
    · rintro _ st rfl
      simp only [go_sem, Nat.reduceEqDiff, reduceIte, ↓reduceIte, Nat.reduceAdd, List.replicate_succ, List.replicate_zero, List.set_cons_zero, List.set_cons_succ, List.length_cons, List.length_nil, Nat.reduceLT, Nat.lt_add_one, ne_eq, Int.reduceEq, not_false_eq_true, Option.map_some, Nat.reduceLeDiff, Nat.zero_lt_succ, List.map_cons, List.map_nil, List.nil_append, List.cons_append, List.append_nil, bytesOf, List.take_succ_cons, List.take_zero, List.drop_zero, and_self, List.append_assoc, List.length_append, Int.reduceLT, Int.reduceLE, Int.toNat_zero, Int.reduceToNat, Int.cast_ofNat_Int, Int.natCast_zero, Int.natCast_one, Int.reduceAdd, List.map_append, Option.bind_some, Int.reduceLT, decide_false]
      exact ⟨by simp, .inl ⟨rfl, rfl⟩, KeptO.refl _ _⟩
  · refine (markIntS rs h3 h6 hn k hk0 hk).mono ?_
    rintro r H' ⟨rfl, rfl⟩
    refine ⟨rfl, .inr ⟨id, ver, h0, h1, by rw [intR_len', patZ_len], set_get h3⟩, by simp, fun j o h hj => ?_⟩
    rw [List.getElem?_set_ne (by rintro rfl; exact hj _ _ _ rfl)]; exact h
theorem heldInstrS_own {H : List AO} {a : AV} {n : Nat} {lo hi : Nat} (k : Int) (h : OwnAt H a 6 (patIR k n) lo hi) (hn : n ≤ 1048576) (hk0 : 0 ≤ k) (hk : k ≤ 100000000) :
    ACall Try.prog 84 [a, .p (.i .i64 k)] H (fun r H' => r = .p (.i .i64 (k + 6 * n)) ∧ H' = H) := by
  rcases h with ⟨rfl, he⟩ | ⟨id, ver, h0, h1, rfl, h3⟩
  · have hz : n = 0 := by
      have : (patIR k n).length = 0 := by rw [he]; rfl
      rw [patIR_len] at this; exact this
    subst hz
    refine call84 (by simp) ?_
    simp only [go_sem, Nat.reduceEqDiff, reduceIte, ↓reduceIte, Nat.reduceAdd, List.replicate_succ, List.replicate_zero, List.set_cons_zero, List.set_cons_succ, List.length_cons, List.length_nil, Nat.reduceLT, Nat.lt_add_one, ne_eq, Int.reduceEq, not_false_eq_true, Option.map_some, Nat.reduceLeDiff, Nat.zero_lt_succ, List.map_cons, List.map_nil, List.nil_append, List.cons_append, List.append_nil, bytesOf, List.take_succ_cons, List.take_zero, List.drop_zero, and_self, List.append_assoc, List.length_append, Int.reduceLT, Int.reduceLE, Int.toNat_zero, Int.reduceToNat, Int.cast_ofNat_Int, Int.natCast_zero, Int.natCast_one, Int.reduceAdd, List.map_append, Option.bind_some, mc84, mr84]
    refine ⟨Unit, [0, 1, 4, 5], fun _ st => st = ⟨[(0, .p .nl), (1, .p (.i .i64 k)), (4, .p (.i .i64 0)), (5, .p (.i .i64 0))], [], H⟩, fun _ => 0, ⟨(), ?_⟩, ?_⟩
    · simp only [go_sem, Nat.reduceEqDiff, reduceIte, ↓reduceIte, Nat.reduceAdd, List.replicate_succ, List.replicate_zero, List.set_cons_zero, List.set_cons_succ, List.length_cons, List.length_nil, Nat.reduceLT, Nat.lt_add_one, ne_eq, Int.reduceEq, not_false_eq_true, Option.map_some, Nat.reduceLeDiff, Nat.zero_lt_succ, List.map_cons, List.map_nil, List.nil_append, List.cons_append, List.append_nil, bytesOf, List.take_succ_cons, List.take_zero, List.drop_zero, and_self, List.append_assoc, List.length_append, Int.reduceLT, Int.reduceLE, Int.toNat_zero, Int.reduceToNat, Int.cast_ofNat_Int, Int.natCast_zero, Int.natCast_one, Int.reduceAdd, List.map_append, Option.bind_some]
    · rintro _ st rfl
      simp only [go_sem, Nat.reduceEqDiff, reduceIte, ↓reduceIte, Nat.reduceAdd, List.replicate_succ, List.replicate_zero, List.set_cons_zero, List.set_cons_succ, List.length_cons, List.length_nil, Nat.reduceLT, Nat.lt_add_one, ne_eq, Int.reduceEq, not_false_eq_true, Option.map_some, Nat.reduceLeDiff, Nat.zero_lt_succ, List.map_cons, List.map_nil, List.nil_append, List.cons_append, List.append_nil, bytesOf, List.take_succ_cons, List.take_zero, List.drop_zero, and_self, List.append_assoc, List.length_append, Int.reduceLT, Int.reduceLE, Int.toNat_zero, Int.reduceToNat, Int.cast_ofNat_Int, Int.natCast_zero, Int.natCast_one, Int.reduceAdd, List.map_append, Option.bind_some, Int.reduceLT, decide_false]
      simp
  · rw [patIR_len]
    exact heldInstrS n k h3 hn hk0 hk
theorem heldIntS_own {H : List AO} {a : AV} {n : Nat} {lo hi : Nat} (k : Int) (h : OwnAt H a 1 (intR .i64 (patZ k n)) lo hi) (hn : n ≤ 100000000) (hk0 : 0 ≤ k) (hk : k ≤ 100000000) :
    ACall Try.prog 49 [a, .p (.i .i64 k)] H (fun r H' => r = .p (.i .i64 (k + n)) ∧ H' = H) := by
  rcases h with ⟨rfl, he⟩ | ⟨id, ver, h0, h1, rfl, h3⟩
  · have hz : n = 0 := by
      have : (intR .i64 (patZ k n)).length = 0 := by rw [he]; rfl
      rw [intR_len', patZ_len] at this; exact this
    subst hz
    refine call49 (by simp) ?_
    simp only [go_sem, Nat.reduceEqDiff, reduceIte, ↓reduceIte, Nat.reduceAdd, List.replicate_succ, List.replicate_zero, List.set_cons_zero, List.set_cons_succ, List.length_cons, List.length_nil, Nat.reduceLT, Nat.lt_add_one, ne_eq, Int.reduceEq, not_false_eq_true, Option.map_some, Nat.reduceLeDiff, Nat.zero_lt_succ, List.map_cons, List.map_nil, List.nil_append, List.cons_append, List.append_nil, bytesOf, List.take_succ_cons, List.take_zero, List.drop_zero, and_self, List.append_assoc, List.length_append, Int.reduceLT, Int.reduceLE, Int.toNat_zero, Int.reduceToNat, Int.cast_ofNat_Int, Int.natCast_zero, Int.natCast_one, Int.reduceAdd, List.map_append, Option.bind_some, mc49, mr49]
    refine ⟨Unit, [0, 1, 4, 5], fun _ st => st = ⟨[(0, .p .nl), (1, .p (.i .i64 k)), (4, .p (.i .i64 0)), (5, .p (.i .i64 0))], [], H⟩, fun _ => 0, ⟨(), ?_⟩, ?_⟩
    · simp only [go_sem, Nat.reduceEqDiff, reduceIte, ↓reduceIte, Nat.reduceAdd, List.replicate_succ, List.replicate_zero, List.set_cons_zero, List.set_cons_succ, List.length_cons, List.length_nil, Nat.reduceLT, Nat.lt_add_one, ne_eq, Int.reduceEq, not_false_eq_true, Option.map_some, Nat.reduceLeDiff, Nat.zero_lt_succ, List.map_cons, List.map_nil, List.nil_append, List.cons_append, List.append_nil, bytesOf, List.take_succ_cons, List.take_zero, List.drop_zero, and_self, List.append_assoc, List.length_append, Int.reduceLT, Int.reduceLE, Int.toNat_zero, Int.reduceToNat, Int.cast_ofNat_Int, Int.natCast_zero, Int.natCast_one, Int.reduceAdd, List.map_append, Option.bind_some]
    · rintro _ st rfl
      simp only [go_sem, Nat.reduceEqDiff, reduceIte, ↓reduceIte, Nat.reduceAdd, List.replicate_succ, List.replicate_zero, List.set_cons_zero, List.set_cons_succ, List.length_cons, List.length_nil, Nat.reduceLT, Nat.lt_add_one, ne_eq, Int.reduceEq, not_false_eq_true, Option.map_some, Nat.reduceLeDiff, Nat.zero_lt_succ, List.map_cons, List.map_nil, List.nil_append, List.cons_append, List.append_nil, bytesOf, List.take_succ_cons, List.take_zero, List.drop_zero, and_self, List.append_assoc, List.length_append, Int.reduceLT, Int.reduceLE, Int.toNat_zero, Int.reduceToNat, Int.cast_ofNat_Int, Int.natCast_zero, Int.natCast_one, Int.reduceAdd, List.map_append, Option.bind_some, Int.reduceLT, decide_false]
      simp
  · rw [intR_len', patZ_len]
    exact heldIntS n k h3 hn hk0 hk

/-- a code that is marked -/
def PatAt (H : List AO) (r : AV) (m n : Nat) (lo hi : Nat) : Prop := ∃ a b, r = .st [a, b] ∧ OwnAt H a 6 (patIR 1 m) lo hi ∧ OwnAt H b 1 (intR .i64 (patZ (1 + 6 * m) n)) lo hi

theorem markCodeO {t : CodeD} (hs : small t) {H : List AO} {r : AV} {lo hi : Nat} (hh : hi ≤ H.length) (h : OwnCAt H r t lo hi) :
    ACall Try.prog 25 [r, .p (.i .i64 1)] H (fun q H' => q = .p (.i .i64 (1 + 6 * t.ins.length + t.starts.length)) ∧ PatAt H' r t.ins.length t.starts.length lo hi ∧ H.length ≤ H'.length ∧ ∀ (j : Nat) o, H[j]? = some o → j < lo ∨ hi ≤ j → H'[j]? = some o) := by
  unfold small at hs
  obtain ⟨a, b, rfl, ha, hb⟩ := h
  refine call25 (by simp) ?_
  simp only [go_sem, Nat.reduceEqDiff, reduceIte, ↓reduceIte, Nat.reduceAdd, List.replicate_succ, List.replicate_zero, List.set_cons_zero, List.set_cons_succ, List.length_cons, List.length_nil, Nat.reduceLT, Nat.lt_add_one, ne_eq, Int.reduceEq, not_false_eq_true, Option.map_some, Nat.reduceLeDiff, Nat.zero_lt_succ, List.map_cons, List.map_nil, List.nil_append, List.cons_append, List.append_nil, bytesOf, List.take_succ_cons, List.take_zero, List.drop_zero, and_self, List.append_assoc, List.length_append, Int.reduceLT, Int.reduceLE, Int.toNat_zero, Int.reduceToNat, Int.cast_ofNat_Int, Int.natCast_zero, Int.natCast_one, Int.reduceAdd, List.map_append, Option.bind_some, mc25, mr25]
  have ha1 := ha.ext [AO.var [a, b]]
  have hb1 := hb.ext [AO.var [a, b]]
  have hv1 : (H ++ [AO.var [a, b]])[H.length]? = some (.var [a, b]) := get_off0 _ _
  have hk1 : ∀ (j : Nat) o, H[j]? = some o → (H ++ [AO.var [a, b]])[j]? = some o := fun j o h => get_ext h _
  have hl1 : (H ++ [AO.var [a, b]]).length = H.length + 1 := by simp
  generalize H ++ [AO.var [a, b]] = H1 at ha1 hb1 hv1 hk1 hl1 ⊢
  refine (markInstrS_own ha1 (insR_len6 _) (by rw [insR_len]; omega) 1 (by omega) (by omega)).mono ?_
  rintro r H2 ⟨rfl, ha2, hk2⟩
  have hv2 := hk2.at ha1.own hv1 (fun _ _ e => by cases e)
  have hb2 := hk2.own ha1 hb1 (by omega)
  rw [insR_len] at ha2 ⊢
  simp only [go_sem, Nat.reduceEqDiff, reduceIte, ↓reduceIte, Nat.reduceAdd, List.replicate_succ, List.replicate_zero, List.set_cons_zero, List.set_cons_succ, List.length_cons, List.length_nil, Nat.reduceLT, Nat.lt_add_one, ne_eq, Int.reduceEq, not_false_eq_true, Option.map_some, Nat.reduceLeDiff, Nat.zero_lt_succ, List.map_cons, List.map_nil, List.nil_append, List.cons_append, List.append_nil, bytesOf, List.take_succ_cons, List.take_zero, List.drop_zero, and_self, List.append_assoc, List.length_append, Int.reduceLT, Int.reduceLE, Int.toNat_zero, Int.reduceToNat, Int.cast_ofNat_Int, Int.natCast_zero, Int.natCast_one, Int.reduceAdd, List.map_append, Option.bind_some, hv2]
  refine (markIntS_own hb2 (intR_len1 _ _) (by rw [intR_len']; omega) (1 + 6 * (t.ins.length : Int)) (by omega) (by omega)).mono ?_
  rintro r H3 ⟨rfl, hb3, hk3⟩
  have ha3 := hk3.own hb2 ha2 (by omega)
  rw [intR_len'] at hb3 ⊢
  simp only [go_sem, Nat.reduceEqDiff, reduceIte, ↓reduceIte, Nat.reduceAdd, List.replicate_succ, List.replicate_zero, List.set_cons_zero, List.set_cons_succ, List.length_cons, List.length_nil, Nat.reduceLT, Nat.lt_add_one, ne_eq, Int.reduceEq, not_false_eq_true, Option.map_some, Nat.reduceLeDiff, Nat.zero_lt_succ, List.map_cons, List.map_nil, List.nil_append, List.cons_append, List.append_nil, bytesOf, List.take_succ_cons, List.take_zero, List.drop_zero, and_self, List.append_assoc, List.length_append, Int.reduceLT, Int.reduceLE, Int.toNat_zero, Int.reduceToNat, Int.cast_ofNat_Int, Int.natCast_zero, Int.natCast_one, Int.reduceAdd, List.map_append, Option.bind_some]
  refine ⟨⟨a, b, rfl, ha3, hb3⟩, by rw [hk3.1, hk2.1, hl1]; omega, fun j o hj hlt => ?_⟩
  exact hk3.out hb2 (hk2.out ha1 (hk1 j o hj) hlt) hlt

theorem heldCodeO {m n : Nat} (hm : m + n ≤ 1048576) {H : List AO} {r : AV} {lo hi : Nat} (h : PatAt H r m n lo hi) :
    ACall Try.prog 35 [r, .p (.i .i64 1)] H (fun q H' => q = .p (.i .i64 (1 + 6 * m + n)) ∧ ∃ o, H' = H ++ [o]) := by
  obtain ⟨a, b, rfl, ha, hb⟩ := h
  refine call35 (by simp) ?_
  simp only [go_sem, Nat.reduceEqDiff, reduceIte, ↓reduceIte, Nat.reduceAdd, List.replicate_succ, List.replicate_zero, List.set_cons_zero, List.set_cons_succ, List.length_cons, List.length_nil, Nat.reduceLT, Nat.lt_add_one, ne_eq, Int.reduceEq, not_false_eq_true, Option.map_some, Nat.reduceLeDiff, Nat.zero_lt_succ, List.map_cons, List.map_nil, List.nil_append, List.cons_append, List.append_nil, bytesOf, List.take_succ_cons, List.take_zero, List.drop_zero, and_self, List.append_assoc, List.length_append, Int.reduceLT, Int.reduceLE, Int.toNat_zero, Int.reduceToNat, Int.cast_ofNat_Int, Int.natCast_zero, Int.natCast_one, Int.reduceAdd, List.map_append, Option.bind_some, mc35, mr35]
  have ha1 := ha.ext [AO.var [a, b]]
  have hb1 := hb.ext [AO.var [a, b]]
  refine (heldInstrS_own 1 ha1 (by omega) (by omega) (by omega)).mono ?_
  rintro r H2 ⟨rfl, rfl⟩
  have n1 : decide ((1 + 6 * (m : Int)) < 0) = false := by simp; omega
  have n2 : decide ((1 + 6 * (m : Int) + n) < 0) = false := by simp; omega
  simp only [go_sem, Nat.reduceEqDiff, reduceIte, ↓reduceIte, Nat.reduceAdd, List.replicate_succ, List.replicate_zero, List.set_cons_zero, List.set_cons_succ, List.length_cons, List.length_nil, Nat.reduceLT, Nat.lt_add_one, ne_eq, Int.reduceEq, not_false_eq_true, Option.map_some, Nat.reduceLeDiff, Nat.zero_lt_succ, List.map_cons, List.map_nil, List.nil_append, List.cons_append, List.append_nil, bytesOf, List.take_succ_cons, List.take_zero, List.drop_zero, and_self, List.append_assoc, List.length_append, Int.reduceLT, Int.reduceLE, Int.toNat_zero, Int.reduceToNat, Int.cast_ofNat_Int, Int.natCast_zero, Int.natCast_one, Int.reduceAdd, List.map_append, Option.bind_some, n1]
  refine (heldIntS_own (1 + 6 * (m : Int)) hb1 (by omega) (by omega) (by omega)).mono ?_
  rintro r H2 ⟨rfl, rfl⟩
  simp only [go_sem, Nat.reduceEqDiff, reduceIte, ↓reduceIte, Nat.reduceAdd, List.replicate_succ, List.replicate_zero, List.set_cons_zero, List.set_cons_succ, List.length_cons, List.length_nil, Nat.reduceLT, Nat.lt_add_one, ne_eq, Int.reduceEq, not_false_eq_true, Option.map_some, Nat.reduceLeDiff, Nat.zero_lt_succ, List.map_cons, List.map_nil, List.nil_append, List.cons_append, List.append_nil, bytesOf, List.take_succ_cons, List.take_zero, List.drop_zero, and_self, List.append_assoc, List.length_append, Int.reduceLT, Int.reduceLE, Int.toNat_zero, Int.reduceToNat, Int.cast_ofNat_Int, Int.natCast_zero, Int.natCast_one, Int.reduceAdd, List.map_append, Option.bind_some, n2]
  exact ⟨_, rfl⟩
end Go.Proofs.Ytmbggdfceecojaa.Cd

/- Trim: by the reference. -/
set_option linter.all false
namespace Go.Proofs.Ytmbggdfceecojaa.Cd
open Go.AM Mc Ho

/-- rows are appended to what lies from lo on -/
theorem app_at {K : St → Prop} {L T : En} {H : List AO} {d : MD} {sz bytes : Nat} {a : AV} {rs ys : List (List AV)} {lo hi : Nat} (h : OwnAt H a sz rs lo hi) (hlo : lo ≤ H.length)
    (hb : (rs.length + ys.length) * bytes ≤ 140737488355328) (hl : rs.length + ys.length ≤ 140737488355328)
    (k : ∀ id ver H', lo ≤ id → id < H'.length → H'[id]? = some (.rows sz ver (rs ++ ys)) → SK lo (fun _ => False) H H' → (∀ (j sz' ver' : Nat) rs', sz' ≠ sz → H[j]? = some (.rows sz' ver' rs') → H'[j]? = some (.rows sz' ver' rs')) →
      K (St.put ⟨L, T, H'⟩ d (.gs id ver 0 (rs.length + ys.length)))) : appX sz bytes a ys d K ⟨L, T, H⟩ := by
  rcases h with ⟨rfl, rfl⟩ | ⟨id, ver, h0, h1, rfl, h3⟩
  · refine ⟨by simpa using hb, by simpa using hl, ?_⟩
    have := k H.length 0 (H ++ [.rows sz 0 ys]) hlo (by simp) (by simp) (SK.app hlo) (fun j sz' ver' rs' _ hj => get_ext hj _)
    rw [List.length_nil, Nat.zero_add] at this
    exact this
  · show appR sz bytes id ver 0 rs.length ys d K ⟨L, T, H⟩ H[id]?
    rw [h3]
    refine ⟨rfl, rfl, rfl, Nat.le_refl _, hb, hl, ?_⟩
    rw [List.take_length]
    have hlt := get_lt h3
    refine k id (ver + 1) _ h0 (by simpa using hlt) (set_get h3) ⟨fun k cs hk _ => ?_, fun k hk _ => ?_, by simp⟩ (fun j sz' ver' rs' hne hj => ?_)
    · have : id ≠ k := by rintro rfl; rw [h3] at hk; cases hk
      rw [List.getElem?_set_ne this]; exact hk
    · exact List.getElem?_set_ne (by omega)
    · have : id ≠ j := by rintro rfl; rw [h3] at hj; cases hj; exact hne rfl
      rw [List.getElem?_set_ne this]; exact hj

def posL (B : List Bool) (i : Nat) : List Int := (List.range i).map fun j => ((pos B j : Nat) : Int)
theorem posL_succ (B i) : posL B (i + 1) = posL B i ++ [((pos B i : Nat) : Int)] := by simp [posL, List.range_succ]
theorem posL_len (B i) : (posL B i).length = i := by simp [posL]
theorem posL_at (B : List Bool) {n i : Nat} (h : i < n) : (intR .i64 (posL B n))[i]? = some [.p (.i .i64 (pos B i : Nat))] := by simp [intR, posL, h]
theorem insR_app (a b : List InsD) : insR a ++ insR b = insR (a ++ b) := by simp [insR]

theorem trimD_eq {c : CodeD} {B : List Bool} (h : codeOk c = true) (hB : reachD c = B) : trimD c = ⟨(kept B c.ins c.ins.length).map (reN B), c.starts.map (reS B (pos B c.ins.length))⟩ := by
  unfold trimD; rw [if_pos h, hB]

/-- what stands while the new code is made -/
structure TB (c : CodeD) (B : List Bool) (sid sver tid tver P : Nat) (H : List AO) : Prop where
  v0 : H[0]? = some (.var [.p (.l (inss c.ins)), .p (.l (ints c.starts))])
  v1 : H[1]? = some (.var [.p .nl, .p .nl])
  sn : H[sid]? = some (.rows 1 sver (boolR B))
  to : H[tid]? = some (.rows 1 tver (intR .i64 (posL B c.ins.length)))
  l1 : 1 < P
  ls : sid < P
  lt : tid < P
  le : P < H.length
theorem TB.sk {c B sid sver tid tver P} {H H' : List AO} (h : TB c B sid sver tid tver P H) (k : SK P (fun _ => False) H H') : TB c B sid sver tid tver P H' where
  v0 := k.1 _ _ h.v0 (fun f => f)
  v1 := k.1 _ _ h.v1 (fun f => f)
  sn := by rw [k.2.1 _ h.ls (fun f => f)]; exact h.sn
  to := by rw [k.2.1 _ h.lt (fun f => f)]; exact h.to
  l1 := h.l1
  ls := h.ls
  lt := h.lt
  le := Nat.lt_of_lt_of_le h.le k.2.2
theorem TB.ext {c B sid sver tid tver P} {H : List AO} (h : TB c B sid sver tid tver P H) (A : List AO) : TB c B sid sver tid tver P (H ++ A) := h.sk (SK.app (Nat.le_of_lt h.le))
theorem TB.set {c B sid sver tid tver P} {H : List AO} (h : TB c B sid sver tid tver P H) {j : Nat} (o : AO) (hj : P ≤ j) : TB c B sid sver tid tver P (H.set j o) where
  v0 := get_set h.v0 (by have := h.l1; omega)
  v1 := get_set h.v1 (by have := h.l1; omega)
  sn := get_set h.sn (by have := h.ls; omega)
  to := get_set h.to (by have := h.lt; omega)
  l1 := h.l1
  ls := h.ls
  lt := h.lt
  le := by simpa using h.le
theorem _root_.Go.AM.OwnAt.wk {H : List AO} {a : AV} {sz : Nat} {rs : List (List AV)} {lo hi hi' : Nat} (h : OwnAt H a sz rs lo hi) (hh : hi ≤ hi') : OwnAt H a sz rs lo hi' := by
  rcases h with h | ⟨id, ver, h0, h1, h2, h3⟩
  · exact .inl h
  · exact .inr ⟨id, ver, h0, by omega, h2, h3⟩
theorem _root_.Go.AM.OwnAt.put {H : List AO} {a : AV} {sz : Nat} {rs : List (List AV)} {lo hi j : Nat} {cs : List AV} (h : OwnAt H a sz rs lo hi) (hj : H[j]? = some (.var cs)) (o : AO) : OwnAt (H.set j o) a sz rs lo hi := by
  rcases h with h | ⟨id, ver, h0, h1, h2, h3⟩
  · exact .inl h
  · exact .inr ⟨id, ver, h0, h1, h2, get_set h3 (by rintro rfl; rw [hj] at h3; cases h3)⟩
theorem reN_j {B : List Bool} {x : InsD} (h : x.op = 11 ∨ x.op = 12) : (reN B x).cells = [.i .i64 x.op, .i .i64 x.a, .i .i64 x.b, .i .i64 x.c, .i .i64 (pos B x.n.toNat : Nat), .s x.text] := by
  rw [reN, if_pos h]; rfl
theorem reN_n {B : List Bool} {x : InsD} (h : ¬ (x.op = 11 ∨ x.op = 12)) : (reN B x).cells = [.i .i64 x.op, .i .i64 x.a, .i .i64 x.b, .i .i64 x.c, .i .i64 x.n, .s x.text] := by
  rw [reN, if_neg h]; rfl
theorem insR_one (x : InsD) : insR [x] = [x.cells.map .p] := rfl

set_option maxHeartbeats 4000000 in
theorem specTrim0 (c : CodeD) (hok : okCode c) : ACall Try.prog 33 [.st (c.cells.map .p)] [] (fun r H' => OwnC H' r (trimD c)) := by
  refine call33 (by simp) ?_
  simp only [go_sem, Nat.reduceEqDiff, reduceIte, ↓reduceIte, Nat.reduceAdd, List.replicate_succ, List.replicate_zero, List.set_cons_zero, List.set_cons_succ, List.length_cons, List.length_nil, Nat.reduceLT, Nat.lt_add_one, ne_eq, Int.reduceEq, not_false_eq_true, Option.map_some, Nat.reduceLeDiff, Nat.zero_lt_succ, List.map_cons, List.map_nil, List.nil_append, List.cons_append, List.append_nil, bytesOf, List.take_succ_cons, List.take_zero, List.drop_zero, and_self, List.append_assoc, List.length_append, Int.reduceLT, Int.reduceLE, Int.toNat_zero, Int.reduceToNat, Int.cast_ofNat_Int, Int.natCast_zero, Int.natCast_one, Int.reduceAdd, List.map_append, Option.bind_some, mc33, mr33, CodeD.cells]
  rw [code_eta]
  refine (acall_lend (specCodeOk c hok) (fun r H' h => by subst h; exact grnd_b _) (lentAll_cons (code_lent c) (lentAll_nil _))).mono ?_
  rintro r H' ⟨rfl, _, rfl⟩
  simp only [go_sem, Nat.reduceEqDiff, reduceIte, ↓reduceIte, Nat.reduceAdd, List.replicate_succ, List.replicate_zero, List.set_cons_zero, List.set_cons_succ, List.length_cons, List.length_nil, Nat.reduceLT, Nat.lt_add_one, ne_eq, Int.reduceEq, not_false_eq_true, Option.map_some, Nat.reduceLeDiff, Nat.zero_lt_succ, List.map_cons, List.map_nil, List.nil_append, List.cons_append, List.append_nil, bytesOf, List.take_succ_cons, List.take_zero, List.drop_zero, and_self, List.append_assoc, List.length_append, Int.reduceLT, Int.reduceLE, Int.toNat_zero, Int.reduceToNat, Int.cast_ofNat_Int, Int.natCast_zero, Int.natCast_one, Int.reduceAdd, List.map_append, Option.bind_some]
  refine condK_split _ (fun hco => ?_) (fun hco => ?_)
  · simp only [go_sem, Nat.reduceEqDiff, reduceIte, ↓reduceIte, Nat.reduceAdd, List.replicate_succ, List.replicate_zero, List.set_cons_zero, List.set_cons_succ, List.length_cons, List.length_nil, Nat.reduceLT, Nat.lt_add_one, ne_eq, Int.reduceEq, not_false_eq_true, Option.map_some, Nat.reduceLeDiff, Nat.zero_lt_succ, List.map_cons, List.map_nil, List.nil_append, List.cons_append, List.append_nil, bytesOf, List.take_succ_cons, List.take_zero, List.drop_zero, and_self, List.append_assoc, List.length_append, Int.reduceLT, Int.reduceLE, Int.toNat_zero, Int.reduceToNat, Int.cast_ofNat_Int, Int.natCast_zero, Int.natCast_one, Int.reduceAdd, List.map_append, Option.bind_some]
    have : codeOk c = false := by simpa using hco
    refine ⟨_, _, rfl, .inl ⟨rfl, ?_⟩, .inl ⟨rfl, ?_⟩⟩ <;> simp [trimD, this, insR, intR]
  have hco' : codeOk c = true := by simpa using hco
  have hw := codeOk_wf hco'
  have hle := hw.le
  have hles := hw.les
  have hpos := hw.pos
  have hbl : (reachD c).length = c.ins.length := by unfold reachD; rw [if_pos hco']; simp
  simp only [go_sem, Nat.reduceEqDiff, reduceIte, ↓reduceIte, Nat.reduceAdd, List.replicate_succ, List.replicate_zero, List.set_cons_zero, List.set_cons_succ, List.length_cons, List.length_nil, Nat.reduceLT, Nat.lt_add_one, ne_eq, Int.reduceEq, not_false_eq_true, Option.map_some, Nat.reduceLeDiff, Nat.zero_lt_succ, List.map_cons, List.map_nil, List.nil_append, List.cons_append, List.append_nil, bytesOf, List.take_succ_cons, List.take_zero, List.drop_zero, and_self, List.append_assoc, List.length_append, Int.reduceLT, Int.reduceLE, Int.toNat_zero, Int.reduceToNat, Int.cast_ofNat_Int, Int.natCast_zero, Int.natCast_one, Int.reduceAdd, List.map_append, Option.bind_some]
  refine (acall_ownAt (specReached0 c hok) (lentAll_cons (code_lent c) (lentAll_nil _)) (grnd_boolR _)).mono ?_
  rintro w H1 ⟨A1, hH1, hw1⟩
  obtain ⟨B, hB⟩ : ∃ B, reachD c = B := ⟨_, rfl⟩
  rw [trimD_eq hco' hB]
  rw [hB] at hbl hw1
  have hv0 : H1[0]? = some (.var [.p (.l (inss c.ins)), .p (.l (ints c.starts))]) := by rw [hH1]; rfl
  have hv1 : H1[1]? = some (.var [.p .nl, .p .nl]) := by rw [hH1]; rfl
  clear hH1
  rcases hw1 with ⟨_, he⟩ | ⟨sid, sver, s0, s1, rfl, hs⟩
  · have : (boolR B).length = 0 := by rw [he]; rfl
    rw [boolR_len] at this; omega
  rw [boolR_len]
  simp only [List.length_cons, List.length_nil] at s0
  simp only [go_sem, Nat.reduceEqDiff, reduceIte, ↓reduceIte, Nat.reduceAdd, List.replicate_succ, List.replicate_zero, List.set_cons_zero, List.set_cons_succ, List.length_cons, List.length_nil, Nat.reduceLT, Nat.lt_add_one, ne_eq, Int.reduceEq, not_false_eq_true, Option.map_some, Nat.reduceLeDiff, Nat.zero_lt_succ, List.map_cons, List.map_nil, List.nil_append, List.cons_append, List.append_nil, bytesOf, List.take_succ_cons, List.take_zero, List.drop_zero, and_self, List.append_assoc, List.length_append, Int.reduceLT, Int.reduceLE, Int.toNat_zero, Int.reduceToNat, Int.cast_ofNat_Int, Int.natCast_zero, Int.natCast_one, Int.reduceAdd, List.map_append, Option.bind_some]
  -- the places
  have g0 : OwnAt (H1 ++ [AO.rows 1 0 []]) (.gs H1.length 0 0 0) 1 (intR .i64 (posL B 0)) H1.length (H1.length + 1) := .inr ⟨H1.length, 0, Nat.le_refl _, by omega, rfl, get_off0 _ _⟩
  have gv0 := get_ext hv0 [AO.rows 1 0 []]
  have gv1 := get_ext hv1 [AO.rows 1 0 []]
  have gs := get_ext hs [AO.rows 1 0 []]
  have gl : H1.length + 1 = (H1 ++ [AO.rows 1 0 []]).length := by simp
  rw [gl] at g0
  generalize hM : H1.length = M at *
  generalize (AV.gs M 0 0 0) = a0 at g0 ⊢
  have gm : M ≤ (H1 ++ [AO.rows 1 0 []]).length := by omega
  generalize H1 ++ [AO.rows 1 0 []] = G0 at *
  refine ⟨Nat × AV × List AO, [0, 1, 2, 3, 4, 5, 6], fun y st => y.1 ≤ c.ins.length ∧ OwnAt y.2.2 y.2.1 1 (intR .i64 (posL B y.1)) M y.2.2.length ∧ M ≤ y.2.2.length ∧ y.2.2[0]? = some (.var [.p (.l (inss c.ins)), .p (.l (ints c.starts))]) ∧ y.2.2[1]? = some (.var [.p .nl, .p .nl]) ∧ y.2.2[sid]? = some (.rows 1 sver (boolR B)) ∧
    st = ⟨[(0, .st [.p (.l (inss c.ins)), .p (.l (ints c.starts))]), (1, .ptr 0 0), (2, .ptr 1 0), (3, .gs sid sver 0 B.length), (4, y.2.1), (5, .p (.i .i64 (pos B y.1 : Nat))), (6, .p (.i .i64 y.1))], [], y.2.2⟩, fun y => c.ins.length - y.1, ⟨⟨0, a0, G0⟩, ?_⟩, ?_⟩
  · simp only [go_sem, Nat.reduceEqDiff, reduceIte, ↓reduceIte, Nat.reduceAdd, List.replicate_succ, List.replicate_zero, List.set_cons_zero, List.set_cons_succ, List.length_cons, List.length_nil, Nat.reduceLT, Nat.lt_add_one, ne_eq, Int.reduceEq, not_false_eq_true, Option.map_some, Nat.reduceLeDiff, Nat.zero_lt_succ, List.map_cons, List.map_nil, List.nil_append, List.cons_append, List.append_nil, bytesOf, List.take_succ_cons, List.take_zero, List.drop_zero, and_self, List.append_assoc, List.length_append, Int.reduceLT, Int.reduceLE, Int.toNat_zero, Int.reduceToNat, Int.cast_ofNat_Int, Int.natCast_zero, Int.natCast_one, Int.reduceAdd, List.map_append, Option.bind_some]
    exact ⟨Nat.zero_le _, g0, gm, gv0, gv1, gs, rfl⟩
  clear g0 gm gv0 gv1 gs gl hv0 hv1 hs
  rintro ⟨i, a, H⟩ st ⟨hi, ho, hm, hv0, hv1, hs, rfl⟩
  simp only at hi ho hm hv0 hv1 hs
  have hpi := pos_le B i
  simp only [go_sem, Nat.reduceEqDiff, reduceIte, ↓reduceIte, Nat.reduceAdd, List.replicate_succ, List.replicate_zero, List.set_cons_zero, List.set_cons_succ, List.length_cons, List.length_nil, Nat.reduceLT, Nat.lt_add_one, ne_eq, Int.reduceEq, not_false_eq_true, Option.map_some, Nat.reduceLeDiff, Nat.zero_lt_succ, List.map_cons, List.map_nil, List.nil_append, List.cons_append, List.append_nil, bytesOf, List.take_succ_cons, List.take_zero, List.drop_zero, and_self, List.append_assoc, List.length_append, Int.reduceLT, Int.reduceLE, Int.toNat_zero, Int.reduceToNat, Int.cast_ofNat_Int, Int.natCast_zero, Int.natCast_one, Int.reduceAdd, List.map_append, Option.bind_some]
  intro _
  refine condK_split _ (fun hc => ?_) (fun hc => ?_)
  · have hil : i < B.length := by simpa using hc
    have hci : (i : Int) < (B.length : Int) := by omega
    simp only [go_sem, Nat.reduceEqDiff, reduceIte, ↓reduceIte, Nat.reduceAdd, List.replicate_succ, List.replicate_zero, List.set_cons_zero, List.set_cons_succ, List.length_cons, List.length_nil, Nat.reduceLT, Nat.lt_add_one, ne_eq, Int.reduceEq, not_false_eq_true, Option.map_some, Nat.reduceLeDiff, Nat.zero_lt_succ, List.map_cons, List.map_nil, List.nil_append, List.cons_append, List.append_nil, bytesOf, List.take_succ_cons, List.take_zero, List.drop_zero, and_self, List.append_assoc, List.length_append, Int.reduceLT, Int.reduceLE, Int.toNat_zero, Int.reduceToNat, Int.cast_ofNat_Int, Int.natCast_zero, Int.natCast_one, Int.reduceAdd, List.map_append, Option.bind_some]
    refine ⟨by simp, app_at (ho.ext _) (by simp; omega) (by simp [intR_len', posL_len]; omega) (by simp [intR_len', posL_len]; omega) fun id ver H' q0 q1 q2 q3 q4 => ?_⟩
    have hs' : H'[sid]? = some (.rows 1 sver (boolR B)) := by rw [q3.2.1 sid (by omega) (fun f => f)]; exact get_ext hs _
    have hv0' : H'[0]? = some (.var [.p (.l (inss c.ins)), .p (.l (ints c.starts))]) := q3.1 0 _ (get_ext hv0 _) (fun f => f)
    have hv1' : H'[1]? = some (.var [.p .nl, .p .nl]) := q3.1 1 _ (get_ext hv1 _) (fun f => f)
    have hm' : M ≤ H'.length := by have := q3.2.2; simp at this; omega
    have ho' : OwnAt H' (.gs id ver 0 (intR .i64 (posL B (i + 1))).length) 1 (intR .i64 (posL B (i + 1))) M H'.length := .inr ⟨id, ver, q0, q1, rfl, by rw [posL_succ, ← intR_app]; exact q2⟩
    rw [show (intR .i64 (posL B i)).length + [[AV.p (.i .i64 ((pos B i : Nat) : Int))]].length = (intR .i64 (posL B (i + 1))).length by simp [intR_len', posL_len]]
    generalize (AV.gs id ver 0 (intR .i64 (posL B (i + 1))).length) = a' at ho' ⊢
    have e1 := wr1 (show i < c.ins.length by omega) hok.1.1
    have e2 : wr .i64 ((pos B i : Int) + 1) = ((pos B i + 1 : Nat) : Int) := by rw [wr64 (by omega) (by omega)]; omega
    simp only [go_sem, Nat.reduceEqDiff, reduceIte, ↓reduceIte, Nat.reduceAdd, List.replicate_succ, List.replicate_zero, List.set_cons_zero, List.set_cons_succ, List.length_cons, List.length_nil, Nat.reduceLT, Nat.lt_add_one, ne_eq, Int.reduceEq, not_false_eq_true, Option.map_some, Nat.reduceLeDiff, Nat.zero_lt_succ, List.map_cons, List.map_nil, List.nil_append, List.cons_append, List.append_nil, bytesOf, List.take_succ_cons, List.take_zero, List.drop_zero, and_self, List.append_assoc, List.length_append, Int.reduceLT, Int.reduceLE, Int.toNat_zero, Int.reduceToNat, Int.cast_ofNat_Int, Int.natCast_zero, Int.natCast_one, Int.reduceAdd, List.map_append, Option.bind_some, hs', boolR_at hil, hci]
    have hB1 : B[i]? = some B[i] := List.getElem?_eq_getElem hil
    refine condK_split _ (fun hd => ?_) (fun hd => ?_)
    · rw [hd] at hB1
      simp only [go_sem, Nat.reduceEqDiff, reduceIte, ↓reduceIte, Nat.reduceAdd, List.replicate_succ, List.replicate_zero, List.set_cons_zero, List.set_cons_succ, List.length_cons, List.length_nil, Nat.reduceLT, Nat.lt_add_one, ne_eq, Int.reduceEq, not_false_eq_true, Option.map_some, Nat.reduceLeDiff, Nat.zero_lt_succ, List.map_cons, List.map_nil, List.nil_append, List.cons_append, List.append_nil, bytesOf, List.take_succ_cons, List.take_zero, List.drop_zero, and_self, List.append_assoc, List.length_append, Int.reduceLT, Int.reduceLE, Int.toNat_zero, Int.reduceToNat, Int.cast_ofNat_Int, Int.natCast_zero, Int.natCast_one, Int.reduceAdd, List.map_append, Option.bind_some, e1, e2]
      refine ⟨⟨i + 1, a', H'⟩, ⟨by simp only; omega, ho', hm', hv0', hv1', hs', ?_⟩, by simp only; omega⟩
      rw [pos_t hB1]
    · have hd' : B[i] = false := by simpa using hd
      rw [hd'] at hB1
      simp only [go_sem, Nat.reduceEqDiff, reduceIte, ↓reduceIte, Nat.reduceAdd, List.replicate_succ, List.replicate_zero, List.set_cons_zero, List.set_cons_succ, List.length_cons, List.length_nil, Nat.reduceLT, Nat.lt_add_one, ne_eq, Int.reduceEq, not_false_eq_true, Option.map_some, Nat.reduceLeDiff, Nat.zero_lt_succ, List.map_cons, List.map_nil, List.nil_append, List.cons_append, List.append_nil, bytesOf, List.take_succ_cons, List.take_zero, List.drop_zero, and_self, List.append_assoc, List.length_append, Int.reduceLT, Int.reduceLE, Int.toNat_zero, Int.reduceToNat, Int.cast_ofNat_Int, Int.natCast_zero, Int.natCast_one, Int.reduceAdd, List.map_append, Option.bind_some, e1, e2]
      refine ⟨⟨i + 1, a', H'⟩, ⟨by simp only; omega, ho', hm', hv0', hv1', hs', ?_⟩, by simp only; omega⟩
      rw [pos_f hB1]
  have hil : i = c.ins.length := by simp at hc; omega
  subst hil
  rcases ho with ⟨_, he⟩ | ⟨tid, tver, t0, t1, rfl, ht⟩
  · have : (intR .i64 (posL B c.ins.length)).length = 0 := by rw [he]; rfl
    rw [intR_len', posL_len] at this; omega
  rw [intR_len', posL_len]
  clear hc hi
  -- the instructions
  simp only [go_sem, Nat.reduceEqDiff, reduceIte, ↓reduceIte, Nat.reduceAdd, List.replicate_succ, List.replicate_zero, List.set_cons_zero, List.set_cons_succ, List.length_cons, List.length_nil, Nat.reduceLT, Nat.lt_add_one, ne_eq, Int.reduceEq, not_false_eq_true, Option.map_some, Nat.reduceLeDiff, Nat.zero_lt_succ, List.map_cons, List.map_nil, List.nil_append, List.cons_append, List.append_nil, bytesOf, List.take_succ_cons, List.take_zero, List.drop_zero, and_self, List.append_assoc, List.length_append, Int.reduceLT, Int.reduceLE, Int.toNat_zero, Int.reduceToNat, Int.cast_ofNat_Int, Int.natCast_zero, Int.natCast_one, Int.reduceAdd, List.map_append, Option.bind_some]
  have hb0 : TB c B sid sver tid tver H.length (H ++ [AO.var [.p .nl, .p .nl]]) := ⟨get_ext hv0 _, get_ext hv1 _, get_ext hs _, get_ext ht _, by omega, by omega, t1, by simp⟩
  have hp0 : (H ++ [AO.var [.p .nl, .p .nl]])[H.length]? = some (.var [.p .nl, .p .nl]) := get_off0 _ _
  have hmP : M ≤ H.length := hm
  generalize (H ++ [AO.var [AV.p .nl, AV.p .nl]]) = G at hb0 hp0 ⊢
  generalize hP : H.length = P at *
  clear hv0 hv1 hs ht t1 hm
  refine ⟨Nat × AV × List AO, [0, 1, 2, 3, 4, 5, 7, 8], fun y st => y.1 ≤ c.ins.length ∧ OwnAt y.2.2 y.2.1 6 (insR ((kept B c.ins y.1).map (reN B))) P y.2.2.length ∧ TB c B sid sver tid tver P y.2.2 ∧ y.2.2[P]? = some (.var [y.2.1, .p .nl]) ∧
    st = ⟨[(0, .st [.p (.l (inss c.ins)), .p (.l (ints c.starts))]), (1, .ptr 0 0), (2, .ptr 1 0), (3, .gs sid sver 0 B.length), (4, .gs tid tver 0 c.ins.length), (5, .p (.i .i64 (pos B c.ins.length : Nat))), (7, .ptr P 0), (8, .p (.i .i64 y.1))], [], y.2.2⟩, fun y => c.ins.length - y.1, ⟨⟨0, .p .nl, G⟩, ?_⟩, ?_⟩
  · simp only [go_sem, Nat.reduceEqDiff, reduceIte, ↓reduceIte, Nat.reduceAdd, List.replicate_succ, List.replicate_zero, List.set_cons_zero, List.set_cons_succ, List.length_cons, List.length_nil, Nat.reduceLT, Nat.lt_add_one, ne_eq, Int.reduceEq, not_false_eq_true, Option.map_some, Nat.reduceLeDiff, Nat.zero_lt_succ, List.map_cons, List.map_nil, List.nil_append, List.cons_append, List.append_nil, bytesOf, List.take_succ_cons, List.take_zero, List.drop_zero, and_self, List.append_assoc, List.length_append, Int.reduceLT, Int.reduceLE, Int.toNat_zero, Int.reduceToNat, Int.cast_ofNat_Int, Int.natCast_zero, Int.natCast_one, Int.reduceAdd, List.map_append, Option.bind_some]
    exact ⟨Nat.zero_le _, .inl ⟨rfl, rfl⟩, hb0, hp0⟩
  clear hb0 hp0
  rintro ⟨i, a, H⟩ st ⟨hi, ho, hb, hp, rfl⟩
  simp only at hi ho hb hp
  simp only [go_sem, Nat.reduceEqDiff, reduceIte, ↓reduceIte, Nat.reduceAdd, List.replicate_succ, List.replicate_zero, List.set_cons_zero, List.set_cons_succ, List.length_cons, List.length_nil, Nat.reduceLT, Nat.lt_add_one, ne_eq, Int.reduceEq, not_false_eq_true, Option.map_some, Nat.reduceLeDiff, Nat.zero_lt_succ, List.map_cons, List.map_nil, List.nil_append, List.cons_append, List.append_nil, bytesOf, List.take_succ_cons, List.take_zero, List.drop_zero, and_self, List.append_assoc, List.length_append, Int.reduceLT, Int.reduceLE, Int.toNat_zero, Int.reduceToNat, Int.cast_ofNat_Int, Int.natCast_zero, Int.natCast_one, Int.reduceAdd, List.map_append, Option.bind_some, hb.v0, inss_len]
  intro _
  have hkl := kept_len hbl hi
  have hpi := pos_le B i
  refine condK_split _ (fun hc => ?_) (fun hc => ?_)
  · have hil : i < c.ins.length := by simpa using hc
    have hib : i < B.length := by omega
    have hci : (i : Int) < (B.length : Int) := by omega
    have hci2 : (i : Int) < (c.ins.length : Int) := by omega
    obtain ⟨x, hx⟩ : ∃ x, c.ins[i]? = some x := ⟨_, List.getElem?_eq_getElem hil⟩
    have hxl : c.ins[i] = x := by rw [List.getElem?_eq_getElem hil] at hx; exact Option.some.inj hx
    have hxi : (inss c.ins)[i]? = some [.i .i64 x.op, .i .i64 x.a, .i .i64 x.b, .i .i64 x.c, .i .i64 x.n, .s x.text] := by simp [inss, hx, InsD.cells]
    have f0 : ∀ A, (H ++ A)[0]? = some (.var [.p (.l (inss c.ins)), .p (.l (ints c.starts))]) := fun A => get_ext hb.v0 A
    have fs : ∀ A, (H ++ A)[sid]? = some (.rows 1 sver (boolR B)) := fun A => get_ext hb.sn A
    have ft : ∀ A, (H ++ A)[tid]? = some (.rows 1 tver (intR .i64 (posL B c.ins.length))) := fun A => get_ext hb.to A
    have fp : ∀ A, (H ++ A)[P]? = some (.var [a, .p .nl]) := fun A => get_ext hp A
    have e1 := wr1 hil hok.1.1
    have hB1 : B[i]? = some B[i] := List.getElem?_eq_getElem hib
    simp only [go_sem, Nat.reduceEqDiff, reduceIte, ↓reduceIte, Nat.reduceAdd, List.replicate_succ, List.replicate_zero, List.set_cons_zero, List.set_cons_succ, List.length_cons, List.length_nil, Nat.reduceLT, Nat.lt_add_one, ne_eq, Int.reduceEq, not_false_eq_true, Option.map_some, Nat.reduceLeDiff, Nat.zero_lt_succ, List.map_cons, List.map_nil, List.nil_append, List.cons_append, List.append_nil, bytesOf, List.take_succ_cons, List.take_zero, List.drop_zero, and_self, List.append_assoc, List.length_append, Int.reduceLT, Int.reduceLE, Int.toNat_zero, Int.reduceToNat, Int.cast_ofNat_Int, Int.natCast_zero, Int.natCast_one, Int.reduceAdd, List.map_append, Option.bind_some, hb.v0, hxi, fs, boolR_at hib, hci]
    refine condK_split _ (fun hd => ?_) (fun hd => ?_)
    · have hd' : B[i] = false := by simpa using hd
      rw [hd'] at hB1
      simp only [go_sem, Nat.reduceEqDiff, reduceIte, ↓reduceIte, Nat.reduceAdd, List.replicate_succ, List.replicate_zero, List.set_cons_zero, List.set_cons_succ, List.length_cons, List.length_nil, Nat.reduceLT, Nat.lt_add_one, ne_eq, Int.reduceEq, not_false_eq_true, Option.map_some, Nat.reduceLeDiff, Nat.zero_lt_succ, List.map_cons, List.map_nil, List.nil_append, List.cons_append, List.append_nil, bytesOf, List.take_succ_cons, List.take_zero, List.drop_zero, and_self, List.append_assoc, List.length_append, Int.reduceLT, Int.reduceLE, Int.toNat_zero, Int.reduceToNat, Int.cast_ofNat_Int, Int.natCast_zero, Int.natCast_one, Int.reduceAdd, List.map_append, Option.bind_some, e1]
      refine ⟨⟨i + 1, a, _⟩, ⟨by simp only; omega, ?_, hb.ext _, fp _, rfl⟩, by simp only; omega⟩
      rw [kept_f hil hB1]
      exact (ho.ext _).wk (by simp)
    · have hd' : B[i] = true := by simpa using hd
      rw [hd'] at hB1
      have hke := kept_t hil hB1
      rw [hxl] at hke
      by_cases h11 : x.op = 11
      · obtain ⟨n0, n1⟩ := hw.jump i x hx (.inr h11)
        have n2 : x.n < (c.ins.length : Int) := by omega
        simp only [go_sem, Nat.reduceEqDiff, reduceIte, ↓reduceIte, Nat.reduceAdd, List.replicate_succ, List.replicate_zero, List.set_cons_zero, List.set_cons_succ, List.length_cons, List.length_nil, Nat.reduceLT, Nat.lt_add_one, ne_eq, Int.reduceEq, not_false_eq_true, Option.map_some, Nat.reduceLeDiff, Nat.zero_lt_succ, List.map_cons, List.map_nil, List.nil_append, List.cons_append, List.append_nil, bytesOf, List.take_succ_cons, List.take_zero, List.drop_zero, and_self, List.append_assoc, List.length_append, Int.reduceLT, Int.reduceLE, Int.toNat_zero, Int.reduceToNat, Int.cast_ofNat_Int, Int.natCast_zero, Int.natCast_one, Int.reduceAdd, List.map_append, Option.bind_some, h11, n0, n2, f0, ft, fp, posL_at B n1]
        refine ⟨by simp, app_at (ho.ext _) (by have := hb.le; simp; omega) (by simp [insR]; omega) (by simp [insR]; omega) fun id ver H' q0 q1 q2 q3 q4 => ?_⟩
        rw [show (insR ((kept B c.ins i).map (reN B)) ++ [[AV.p (.i .i64 11), AV.p (.i .i64 x.a), AV.p (.i .i64 x.b), AV.p (.i .i64 x.c), AV.p (.i .i64 ((pos B x.n.toNat : Nat) : Int)), AV.p (.s x.text)]]) = insR ((kept B c.ins (i + 1)).map (reN B)) by rw [hke, List.map_append, ← insR_app, List.map_cons, List.map_nil, insR_one, reN_j (.inl h11), h11]; rfl] at q2
        have hb' := (hb.ext [AO.var [AV.p (.i .i64 11), AV.p (.i .i64 x.a), AV.p (.i .i64 x.b), AV.p (.i .i64 x.c), AV.p (.i .i64 ((pos B x.n.toNat : Nat) : Int)), AV.p (.s x.text)], AO.rows 6 0 [[AV.p (.i .i64 11), AV.p (.i .i64 x.a), AV.p (.i .i64 x.b), AV.p (.i .i64 x.c), AV.p (.i .i64 ((pos B x.n.toNat : Nat) : Int)), AV.p (.s x.text)]]]).sk q3
        have hp' : H'[P]? = some (.var [a, .p .nl]) := q3.1 P _ (get_ext hp _) (fun f => f)
        rw [show (insR ((kept B c.ins i).map (reN B))).length + [[AV.p (.i .i64 11), AV.p (.i .i64 x.a), AV.p (.i .i64 x.b), AV.p (.i .i64 x.c), AV.p (.i .i64 ((pos B x.n.toNat : Nat) : Int)), AV.p (.s x.text)]].length = (insR ((kept B c.ins (i + 1)).map (reN B))).length by rw [hke]; simp [insR]]
        simp only [go_sem, Nat.reduceEqDiff, reduceIte, ↓reduceIte, Nat.reduceAdd, List.replicate_succ, List.replicate_zero, List.set_cons_zero, List.set_cons_succ, List.length_cons, List.length_nil, Nat.reduceLT, Nat.lt_add_one, ne_eq, Int.reduceEq, not_false_eq_true, Option.map_some, Nat.reduceLeDiff, Nat.zero_lt_succ, List.map_cons, List.map_nil, List.nil_append, List.cons_append, List.append_nil, bytesOf, List.take_succ_cons, List.take_zero, List.drop_zero, and_self, List.append_assoc, List.length_append, Int.reduceLT, Int.reduceLE, Int.toNat_zero, Int.reduceToNat, Int.cast_ofNat_Int, Int.natCast_zero, Int.natCast_one, Int.reduceAdd, List.map_append, Option.bind_some, hp', e1]
        have ho' : OwnAt H' (.gs id ver 0 (insR ((kept B c.ins (i + 1)).map (reN B))).length) 6 (insR ((kept B c.ins (i + 1)).map (reN B))) P H'.length := .inr ⟨id, ver, q0, q1, rfl, q2⟩
        exact ⟨⟨i + 1, _, H'.set P (.var [.gs id ver 0 (insR ((kept B c.ins (i + 1)).map (reN B))).length, .p .nl])⟩, ⟨by simp only; omega, (ho'.put hp' _).wk (by simp), hb'.set _ (Nat.le_refl _), set_get hp', rfl⟩, by simp only; omega⟩
      by_cases h12 : x.op = 12
      · obtain ⟨n0, n1⟩ := hw.jump i x hx (.inl h12)
        have n2 : x.n < (c.ins.length : Int) := by omega
        simp only [go_sem, Nat.reduceEqDiff, reduceIte, ↓reduceIte, Nat.reduceAdd, List.replicate_succ, List.replicate_zero, List.set_cons_zero, List.set_cons_succ, List.length_cons, List.length_nil, Nat.reduceLT, Nat.lt_add_one, ne_eq, Int.reduceEq, not_false_eq_true, Option.map_some, Nat.reduceLeDiff, Nat.zero_lt_succ, List.map_cons, List.map_nil, List.nil_append, List.cons_append, List.append_nil, bytesOf, List.take_succ_cons, List.take_zero, List.drop_zero, and_self, List.append_assoc, List.length_append, Int.reduceLT, Int.reduceLE, Int.toNat_zero, Int.reduceToNat, Int.cast_ofNat_Int, Int.natCast_zero, Int.natCast_one, Int.reduceAdd, List.map_append, Option.bind_some, h11, h12, n0, n2, f0, ft, fp, posL_at B n1]
        refine ⟨by simp, app_at (ho.ext _) (by have := hb.le; simp; omega) (by simp [insR]; omega) (by simp [insR]; omega) fun id ver H' q0 q1 q2 q3 q4 => ?_⟩
        rw [show (insR ((kept B c.ins i).map (reN B)) ++ [[AV.p (.i .i64 12), AV.p (.i .i64 x.a), AV.p (.i .i64 x.b), AV.p (.i .i64 x.c), AV.p (.i .i64 ((pos B x.n.toNat : Nat) : Int)), AV.p (.s x.text)]]) = insR ((kept B c.ins (i + 1)).map (reN B)) by rw [hke, List.map_append, ← insR_app, List.map_cons, List.map_nil, insR_one, reN_j (.inr h12), h12]; rfl] at q2
        have hb' := (hb.ext [AO.var [AV.p (.i .i64 12), AV.p (.i .i64 x.a), AV.p (.i .i64 x.b), AV.p (.i .i64 x.c), AV.p (.i .i64 ((pos B x.n.toNat : Nat) : Int)), AV.p (.s x.text)], AO.rows 6 0 [[AV.p (.i .i64 12), AV.p (.i .i64 x.a), AV.p (.i .i64 x.b), AV.p (.i .i64 x.c), AV.p (.i .i64 ((pos B x.n.toNat : Nat) : Int)), AV.p (.s x.text)]]]).sk q3
        have hp' : H'[P]? = some (.var [a, .p .nl]) := q3.1 P _ (get_ext hp _) (fun f => f)
        rw [show (insR ((kept B c.ins i).map (reN B))).length + [[AV.p (.i .i64 12), AV.p (.i .i64 x.a), AV.p (.i .i64 x.b), AV.p (.i .i64 x.c), AV.p (.i .i64 ((pos B x.n.toNat : Nat) : Int)), AV.p (.s x.text)]].length = (insR ((kept B c.ins (i + 1)).map (reN B))).length by rw [hke]; simp [insR]]
        simp only [go_sem, Nat.reduceEqDiff, reduceIte, ↓reduceIte, Nat.reduceAdd, List.replicate_succ, List.replicate_zero, List.set_cons_zero, List.set_cons_succ, List.length_cons, List.length_nil, Nat.reduceLT, Nat.lt_add_one, ne_eq, Int.reduceEq, not_false_eq_true, Option.map_some, Nat.reduceLeDiff, Nat.zero_lt_succ, List.map_cons, List.map_nil, List.nil_append, List.cons_append, List.append_nil, bytesOf, List.take_succ_cons, List.take_zero, List.drop_zero, and_self, List.append_assoc, List.length_append, Int.reduceLT, Int.reduceLE, Int.toNat_zero, Int.reduceToNat, Int.cast_ofNat_Int, Int.natCast_zero, Int.natCast_one, Int.reduceAdd, List.map_append, Option.bind_some, hp', e1]
        have ho' : OwnAt H' (.gs id ver 0 (insR ((kept B c.ins (i + 1)).map (reN B))).length) 6 (insR ((kept B c.ins (i + 1)).map (reN B))) P H'.length := .inr ⟨id, ver, q0, q1, rfl, q2⟩
        exact ⟨⟨i + 1, _, H'.set P (.var [.gs id ver 0 (insR ((kept B c.ins (i + 1)).map (reN B))).length, .p .nl])⟩, ⟨by simp only; omega, (ho'.put hp' _).wk (by simp), hb'.set _ (Nat.le_refl _), set_get hp', rfl⟩, by simp only; omega⟩
      · simp only [go_sem, Nat.reduceEqDiff, reduceIte, ↓reduceIte, Nat.reduceAdd, List.replicate_succ, List.replicate_zero, List.set_cons_zero, List.set_cons_succ, List.length_cons, List.length_nil, Nat.reduceLT, Nat.lt_add_one, ne_eq, Int.reduceEq, not_false_eq_true, Option.map_some, Nat.reduceLeDiff, Nat.zero_lt_succ, List.map_cons, List.map_nil, List.nil_append, List.cons_append, List.append_nil, bytesOf, List.take_succ_cons, List.take_zero, List.drop_zero, and_self, List.append_assoc, List.length_append, Int.reduceLT, Int.reduceLE, Int.toNat_zero, Int.reduceToNat, Int.cast_ofNat_Int, Int.natCast_zero, Int.natCast_one, Int.reduceAdd, List.map_append, Option.bind_some, h11, h12, f0, ft, fp]
        refine ⟨by simp, app_at (ho.ext _) (by have := hb.le; simp; omega) (by simp [insR]; omega) (by simp [insR]; omega) fun id ver H' q0 q1 q2 q3 q4 => ?_⟩
        rw [show (insR ((kept B c.ins i).map (reN B)) ++ [[AV.p (.i .i64 x.op), AV.p (.i .i64 x.a), AV.p (.i .i64 x.b), AV.p (.i .i64 x.c), AV.p (.i .i64 x.n), AV.p (.s x.text)]]) = insR ((kept B c.ins (i + 1)).map (reN B)) by rw [hke, List.map_append, ← insR_app, List.map_cons, List.map_nil, insR_one, reN_n (by simp [h11, h12])]; rfl] at q2
        have hb' := (hb.ext [AO.var [AV.p (.i .i64 x.op), AV.p (.i .i64 x.a), AV.p (.i .i64 x.b), AV.p (.i .i64 x.c), AV.p (.i .i64 x.n), AV.p (.s x.text)], AO.rows 6 0 [[AV.p (.i .i64 x.op), AV.p (.i .i64 x.a), AV.p (.i .i64 x.b), AV.p (.i .i64 x.c), AV.p (.i .i64 x.n), AV.p (.s x.text)]]]).sk q3
        have hp' : H'[P]? = some (.var [a, .p .nl]) := q3.1 P _ (get_ext hp _) (fun f => f)
        rw [show (insR ((kept B c.ins i).map (reN B))).length + [[AV.p (.i .i64 x.op), AV.p (.i .i64 x.a), AV.p (.i .i64 x.b), AV.p (.i .i64 x.c), AV.p (.i .i64 x.n), AV.p (.s x.text)]].length = (insR ((kept B c.ins (i + 1)).map (reN B))).length by rw [hke]; simp [insR]]
        simp only [go_sem, Nat.reduceEqDiff, reduceIte, ↓reduceIte, Nat.reduceAdd, List.replicate_succ, List.replicate_zero, List.set_cons_zero, List.set_cons_succ, List.length_cons, List.length_nil, Nat.reduceLT, Nat.lt_add_one, ne_eq, Int.reduceEq, not_false_eq_true, Option.map_some, Nat.reduceLeDiff, Nat.zero_lt_succ, List.map_cons, List.map_nil, List.nil_append, List.cons_append, List.append_nil, bytesOf, List.take_succ_cons, List.take_zero, List.drop_zero, and_self, List.append_assoc, List.length_append, Int.reduceLT, Int.reduceLE, Int.toNat_zero, Int.reduceToNat, Int.cast_ofNat_Int, Int.natCast_zero, Int.natCast_one, Int.reduceAdd, List.map_append, Option.bind_some, hp', e1]
        have ho' : OwnAt H' (.gs id ver 0 (insR ((kept B c.ins (i + 1)).map (reN B))).length) 6 (insR ((kept B c.ins (i + 1)).map (reN B))) P H'.length := .inr ⟨id, ver, q0, q1, rfl, q2⟩
        exact ⟨⟨i + 1, _, H'.set P (.var [.gs id ver 0 (insR ((kept B c.ins (i + 1)).map (reN B))).length, .p .nl])⟩, ⟨by simp only; omega, (ho'.put hp' _).wk (by simp), hb'.set _ (Nat.le_refl _), set_get hp', rfl⟩, by simp only; omega⟩
  have hil : i = c.ins.length := by simp at hc; omega
  subst hil
  clear hc hi
  -- the starts
  simp only [go_sem, Nat.reduceEqDiff, reduceIte, ↓reduceIte, Nat.reduceAdd, List.replicate_succ, List.replicate_zero, List.set_cons_zero, List.set_cons_succ, List.length_cons, List.length_nil, Nat.reduceLT, Nat.lt_add_one, ne_eq, Int.reduceEq, not_false_eq_true, Option.map_some, Nat.reduceLeDiff, Nat.zero_lt_succ, List.map_cons, List.map_nil, List.nil_append, List.cons_append, List.append_nil, bytesOf, List.take_succ_cons, List.take_zero, List.drop_zero, and_self, List.append_assoc, List.length_append, Int.reduceLT, Int.reduceLE, Int.toNat_zero, Int.reduceToNat, Int.cast_ofNat_Int, Int.natCast_zero, Int.natCast_one, Int.reduceAdd, List.map_append, Option.bind_some]
  refine ⟨Nat × AV × List AO, [0, 1, 2, 3, 4, 5, 7, 10], fun y st => y.1 ≤ c.starts.length ∧ OwnAt y.2.2 a 6 (insR ((kept B c.ins c.ins.length).map (reN B))) P y.2.2.length ∧ OwnAt y.2.2 y.2.1 1 (intR .i64 ((c.starts.take y.1).map (reS B (pos B c.ins.length)))) P y.2.2.length ∧ TB c B sid sver tid tver P y.2.2 ∧ y.2.2[P]? = some (.var [a, y.2.1]) ∧
    st = ⟨[(0, .st [.p (.l (inss c.ins)), .p (.l (ints c.starts))]), (1, .ptr 0 0), (2, .ptr 1 0), (3, .gs sid sver 0 B.length), (4, .gs tid tver 0 c.ins.length), (5, .p (.i .i64 (pos B c.ins.length : Nat))), (7, .ptr P 0), (10, .p (.i .i64 y.1))], [], y.2.2⟩, fun y => c.starts.length - y.1, ⟨⟨0, .p .nl, H⟩, ?_⟩, ?_⟩
  · simp only [go_sem, Nat.reduceEqDiff, reduceIte, ↓reduceIte, Nat.reduceAdd, List.replicate_succ, List.replicate_zero, List.set_cons_zero, List.set_cons_succ, List.length_cons, List.length_nil, Nat.reduceLT, Nat.lt_add_one, ne_eq, Int.reduceEq, not_false_eq_true, Option.map_some, Nat.reduceLeDiff, Nat.zero_lt_succ, List.map_cons, List.map_nil, List.nil_append, List.cons_append, List.append_nil, bytesOf, List.take_succ_cons, List.take_zero, List.drop_zero, and_self, List.append_assoc, List.length_append, Int.reduceLT, Int.reduceLE, Int.toNat_zero, Int.reduceToNat, Int.cast_ofNat_Int, Int.natCast_zero, Int.natCast_one, Int.reduceAdd, List.map_append, Option.bind_some]
    exact ⟨Nat.zero_le _, ho, .inl ⟨rfl, rfl⟩, hb, hp⟩
  clear ho hb hp
  rintro ⟨k, b, H⟩ st ⟨hk, ho, hbo, hb, hp, rfl⟩
  simp only at hk ho hbo hb hp
  simp only [go_sem, Nat.reduceEqDiff, reduceIte, ↓reduceIte, Nat.reduceAdd, List.replicate_succ, List.replicate_zero, List.set_cons_zero, List.set_cons_succ, List.length_cons, List.length_nil, Nat.reduceLT, Nat.lt_add_one, ne_eq, Int.reduceEq, not_false_eq_true, Option.map_some, Nat.reduceLeDiff, Nat.zero_lt_succ, List.map_cons, List.map_nil, List.nil_append, List.cons_append, List.append_nil, bytesOf, List.take_succ_cons, List.take_zero, List.drop_zero, and_self, List.append_assoc, List.length_append, Int.reduceLT, Int.reduceLE, Int.toNat_zero, Int.reduceToNat, Int.cast_ofNat_Int, Int.natCast_zero, Int.natCast_one, Int.reduceAdd, List.map_append, Option.bind_some, hb.v0, ints_len]
  intro _
  refine condK_split _ (fun hc => ?_) (fun hc => ?_)
  · have hkl : k < c.starts.length := by simpa using hc
    have hck : (k : Int) < (c.starts.length : Int) := by omega
    obtain ⟨s, hs⟩ : ∃ s, c.starts[k]? = some s := ⟨_, List.getElem?_eq_getElem hkl⟩
    have hsi : (ints c.starts)[k]? = some [.i .i64 s] := by simp [ints, hs]
    obtain ⟨s0, s1⟩ := hw.start k s hs
    have hsb : s.toNat < B.length := by omega
    have s2 : s < (B.length : Int) := by omega
    have s3 : s < (c.ins.length : Int) := by omega
    have e1 := wr1 hkl hok.2
    have hB1 : B[s.toNat]? = some B[s.toNat] := List.getElem?_eq_getElem hsb
    have hke0 : c.starts.take (k + 1) = c.starts.take k ++ [s] := by rw [List.take_succ, hs]; rfl
    simp only [go_sem, Nat.reduceEqDiff, reduceIte, ↓reduceIte, Nat.reduceAdd, List.replicate_succ, List.replicate_zero, List.set_cons_zero, List.set_cons_succ, List.length_cons, List.length_nil, Nat.reduceLT, Nat.lt_add_one, ne_eq, Int.reduceEq, not_false_eq_true, Option.map_some, Nat.reduceLeDiff, Nat.zero_lt_succ, List.map_cons, List.map_nil, List.nil_append, List.cons_append, List.append_nil, bytesOf, List.take_succ_cons, List.take_zero, List.drop_zero, and_self, List.append_assoc, List.length_append, Int.reduceLT, Int.reduceLE, Int.toNat_zero, Int.reduceToNat, Int.cast_ofNat_Int, Int.natCast_zero, Int.natCast_one, Int.reduceAdd, List.map_append, Option.bind_some, hb.v0, hsi, hb.sn, boolR_at hsb, s0, s2, hck]
    refine condK_split _ (fun hd => ?_) (fun hd => ?_)
    · have hd' : B[s.toNat] = true := by simpa using hd
      rw [hd'] at hB1
      have hke : (c.starts.take (k + 1)).map (reS B (pos B c.ins.length)) = (c.starts.take k).map (reS B (pos B c.ins.length)) ++ [((pos B s.toNat : Nat) : Int)] := by rw [hke0, List.map_append, List.map_cons, List.map_nil, reS, if_pos hB1]
      simp only [go_sem, Nat.reduceEqDiff, reduceIte, ↓reduceIte, Nat.reduceAdd, List.replicate_succ, List.replicate_zero, List.set_cons_zero, List.set_cons_succ, List.length_cons, List.length_nil, Nat.reduceLT, Nat.lt_add_one, ne_eq, Int.reduceEq, not_false_eq_true, Option.map_some, Nat.reduceLeDiff, Nat.zero_lt_succ, List.map_cons, List.map_nil, List.nil_append, List.cons_append, List.append_nil, bytesOf, List.take_succ_cons, List.take_zero, List.drop_zero, and_self, List.append_assoc, List.length_append, Int.reduceLT, Int.reduceLE, Int.toNat_zero, Int.reduceToNat, Int.cast_ofNat_Int, Int.natCast_zero, Int.natCast_one, Int.reduceAdd, List.map_append, Option.bind_some]
      refine drw_same ?_
      simp only [go_sem, Nat.reduceEqDiff, reduceIte, ↓reduceIte, Nat.reduceAdd, List.replicate_succ, List.replicate_zero, List.set_cons_zero, List.set_cons_succ, List.length_cons, List.length_nil, Nat.reduceLT, Nat.lt_add_one, ne_eq, Int.reduceEq, not_false_eq_true, Option.map_some, Nat.reduceLeDiff, Nat.zero_lt_succ, List.map_cons, List.map_nil, List.nil_append, List.cons_append, List.append_nil, bytesOf, List.take_succ_cons, List.take_zero, List.drop_zero, and_self, List.append_assoc, List.length_append, Int.reduceLT, Int.reduceLE, Int.toNat_zero, Int.reduceToNat, Int.cast_ofNat_Int, Int.natCast_zero, Int.natCast_one, Int.reduceAdd, List.map_append, Option.bind_some, hp, hb.v0, hsi, hb.to, posL_at B s1, s0, s3, hck]
      refine ⟨by simp, app_at (hbo.ext _) (by have := hb.le; simp; omega) (by simp [intR]; omega) (by simp [intR]; omega) fun id ver H' q0 q1 q2 q3 q4 => ?_⟩
      rw [show (intR .i64 ((c.starts.take k).map (reS B (pos B c.ins.length))) ++ [[AV.p (.i .i64 ((pos B s.toNat : Nat) : Int))]]) = intR .i64 ((c.starts.take (k + 1)).map (reS B (pos B c.ins.length))) by rw [hke, ← intR_app]; rfl] at q2
      have hb' := (hb.ext [AO.rows 1 0 [[AV.p (.i .i64 ((pos B s.toNat : Nat) : Int))]]]).sk q3
      have ho' : OwnAt H' a 6 (insR ((kept B c.ins c.ins.length).map (reN B))) P H'.length := by
        rcases ho.ext [AO.rows 1 0 [[AV.p (.i .i64 ((pos B s.toNat : Nat) : Int))]]] with h | ⟨id6, ver6, z0, z1, z2, z3⟩
        · exact .inl h
        · exact .inr ⟨id6, ver6, z0, by have := q3.2.2; simp at this; omega, z2, q4 _ _ _ _ (by omega) z3⟩
      have hp' : H'[P]? = some (.var [a, b]) := q3.1 P _ (get_ext hp _) (fun f => f)
      rw [show (intR .i64 ((c.starts.take k).map (reS B (pos B c.ins.length)))).length + [[AV.p (.i .i64 ((pos B s.toNat : Nat) : Int))]].length = (intR .i64 ((c.starts.take (k + 1)).map (reS B (pos B c.ins.length)))).length by rw [hke]; simp [intR]]
      simp only [go_sem, Nat.reduceEqDiff, reduceIte, ↓reduceIte, Nat.reduceAdd, List.replicate_succ, List.replicate_zero, List.set_cons_zero, List.set_cons_succ, List.length_cons, List.length_nil, Nat.reduceLT, Nat.lt_add_one, ne_eq, Int.reduceEq, not_false_eq_true, Option.map_some, Nat.reduceLeDiff, Nat.zero_lt_succ, List.map_cons, List.map_nil, List.nil_append, List.cons_append, List.append_nil, bytesOf, List.take_succ_cons, List.take_zero, List.drop_zero, and_self, List.append_assoc, List.length_append, Int.reduceLT, Int.reduceLE, Int.toNat_zero, Int.reduceToNat, Int.cast_ofNat_Int, Int.natCast_zero, Int.natCast_one, Int.reduceAdd, List.map_append, Option.bind_some, hp', e1]
      have hbo' : OwnAt H' (.gs id ver 0 (intR .i64 ((c.starts.take (k + 1)).map (reS B (pos B c.ins.length)))).length) 1 (intR .i64 ((c.starts.take (k + 1)).map (reS B (pos B c.ins.length)))) P H'.length := .inr ⟨id, ver, q0, q1, rfl, q2⟩
      exact ⟨⟨k + 1, _, H'.set P (.var [a, .gs id ver 0 (intR .i64 ((c.starts.take (k + 1)).map (reS B (pos B c.ins.length)))).length])⟩, ⟨hkl, (ho'.put hp' _).wk (by simp), (hbo'.put hp' _).wk (by simp), hb'.set _ (Nat.le_refl _), set_get hp', rfl⟩, by simp only; omega⟩
    · have hd' : B[s.toNat] = false := by simpa using hd
      rw [hd'] at hB1
      have hke : (c.starts.take (k + 1)).map (reS B (pos B c.ins.length)) = (c.starts.take k).map (reS B (pos B c.ins.length)) ++ [((pos B c.ins.length : Nat) : Int) - 1] := by rw [hke0, List.map_append, List.map_cons, List.map_nil, reS, if_neg (by rw [hB1]; simp)]
      have e2 : wr .i64 (((pos B c.ins.length : Nat) : Int) - 1) = ((pos B c.ins.length : Nat) : Int) - 1 := wr64 (by omega) (by omega)
      simp only [go_sem, Nat.reduceEqDiff, reduceIte, ↓reduceIte, Nat.reduceAdd, List.replicate_succ, List.replicate_zero, List.set_cons_zero, List.set_cons_succ, List.length_cons, List.length_nil, Nat.reduceLT, Nat.lt_add_one, ne_eq, Int.reduceEq, not_false_eq_true, Option.map_some, Nat.reduceLeDiff, Nat.zero_lt_succ, List.map_cons, List.map_nil, List.nil_append, List.cons_append, List.append_nil, bytesOf, List.take_succ_cons, List.take_zero, List.drop_zero, and_self, List.append_assoc, List.length_append, Int.reduceLT, Int.reduceLE, Int.toNat_zero, Int.reduceToNat, Int.cast_ofNat_Int, Int.natCast_zero, Int.natCast_one, Int.reduceAdd, List.map_append, Option.bind_some, hp, e2]
      refine ⟨by simp, app_at (hbo.ext _) (by have := hb.le; simp; omega) (by simp [intR]; omega) (by simp [intR]; omega) fun id ver H' q0 q1 q2 q3 q4 => ?_⟩
      rw [show (intR .i64 ((c.starts.take k).map (reS B (pos B c.ins.length))) ++ [[AV.p (.i .i64 (((pos B c.ins.length : Nat) : Int) - 1))]]) = intR .i64 ((c.starts.take (k + 1)).map (reS B (pos B c.ins.length))) by rw [hke, ← intR_app]; rfl] at q2
      have hb' := (hb.ext [AO.rows 1 0 [[AV.p (.i .i64 (((pos B c.ins.length : Nat) : Int) - 1))]]]).sk q3
      have ho' : OwnAt H' a 6 (insR ((kept B c.ins c.ins.length).map (reN B))) P H'.length := by
        rcases ho.ext [AO.rows 1 0 [[AV.p (.i .i64 (((pos B c.ins.length : Nat) : Int) - 1))]]] with h | ⟨id6, ver6, z0, z1, z2, z3⟩
        · exact .inl h
        · exact .inr ⟨id6, ver6, z0, by have := q3.2.2; simp at this; omega, z2, q4 _ _ _ _ (by omega) z3⟩
      have hp' : H'[P]? = some (.var [a, b]) := q3.1 P _ (get_ext hp _) (fun f => f)
      rw [show (intR .i64 ((c.starts.take k).map (reS B (pos B c.ins.length)))).length + [[AV.p (.i .i64 (((pos B c.ins.length : Nat) : Int) - 1))]].length = (intR .i64 ((c.starts.take (k + 1)).map (reS B (pos B c.ins.length)))).length by rw [hke]; simp [intR]]
      simp only [go_sem, Nat.reduceEqDiff, reduceIte, ↓reduceIte, Nat.reduceAdd, List.replicate_succ, List.replicate_zero, List.set_cons_zero, List.set_cons_succ, List.length_cons, List.length_nil, Nat.reduceLT, Nat.lt_add_one, ne_eq, Int.reduceEq, not_false_eq_true, Option.map_some, Nat.reduceLeDiff, Nat.zero_lt_succ, List.map_cons, List.map_nil, List.nil_append, List.cons_append, List.append_nil, bytesOf, List.take_succ_cons, List.take_zero, List.drop_zero, and_self, List.append_assoc, List.length_append, Int.reduceLT, Int.reduceLE, Int.toNat_zero, Int.reduceToNat, Int.cast_ofNat_Int, Int.natCast_zero, Int.natCast_one, Int.reduceAdd, List.map_append, Option.bind_some, hp', e1]
      have hbo' : OwnAt H' (.gs id ver 0 (intR .i64 ((c.starts.take (k + 1)).map (reS B (pos B c.ins.length)))).length) 1 (intR .i64 ((c.starts.take (k + 1)).map (reS B (pos B c.ins.length)))) P H'.length := .inr ⟨id, ver, q0, q1, rfl, q2⟩
      exact ⟨⟨k + 1, _, H'.set P (.var [a, .gs id ver 0 (intR .i64 ((c.starts.take (k + 1)).map (reS B (pos B c.ins.length)))).length])⟩, ⟨hkl, (ho'.put hp' _).wk (by simp), (hbo'.put hp' _).wk (by simp), hb'.set _ (Nat.le_refl _), set_get hp', rfl⟩, by simp only; omega⟩
  have hkl : k = c.starts.length := by simp at hc; omega
  subst hkl
  rw [List.take_length] at hbo
  simp only [go_sem, Nat.reduceEqDiff, reduceIte, ↓reduceIte, Nat.reduceAdd, List.replicate_succ, List.replicate_zero, List.set_cons_zero, List.set_cons_succ, List.length_cons, List.length_nil, Nat.reduceLT, Nat.lt_add_one, ne_eq, Int.reduceEq, not_false_eq_true, Option.map_some, Nat.reduceLeDiff, Nat.zero_lt_succ, List.map_cons, List.map_nil, List.nil_append, List.cons_append, List.append_nil, bytesOf, List.take_succ_cons, List.take_zero, List.drop_zero, and_self, List.append_assoc, List.length_append, Int.reduceLT, Int.reduceLE, Int.toNat_zero, Int.reduceToNat, Int.cast_ofNat_Int, Int.natCast_zero, Int.natCast_one, Int.reduceAdd, List.map_append, Option.bind_some, hp, hb.v1, set_get hb.v1]
  exact ⟨a, b, rfl, (ho.put hb.v1 _).own, (hbo.put hb.v1 _).own⟩
end Go.Proofs.Ytmbggdfceecojaa.Cd

/- Trim: by the program. -/
set_option linter.all false
namespace Go.Proofs.Ytmbggdfceecojaa.Cd
open Go.AM Mc Ho

theorem implReachedNil (c : CodeD) (hok : okCode c) (hno : codeOk c = false) : ACall Try.prog 29 [.st (c.cells.map .p)] [] (fun r H' => r = .p .nl) := by
  refine call29 (by simp) ?_
  simp only [go_sem, Nat.reduceEqDiff, reduceIte, ↓reduceIte, Nat.reduceAdd, List.replicate_succ, List.replicate_zero, List.set_cons_zero, List.set_cons_succ, List.length_cons, List.length_nil, Nat.reduceLT, Nat.lt_add_one, ne_eq, Int.reduceEq, not_false_eq_true, Option.map_some, Nat.reduceLeDiff, Nat.zero_lt_succ, List.map_cons, List.map_nil, List.nil_append, List.cons_append, List.append_nil, bytesOf, List.take_succ_cons, List.take_zero, List.drop_zero, and_self, List.append_assoc, List.length_append, Int.reduceLT, Int.reduceLE, Int.toNat_zero, Int.reduceToNat, Int.cast_ofNat_Int, Int.natCast_zero, Int.natCast_one, Int.reduceAdd, List.map_append, Option.bind_some, mc29, mr29, CodeD.cells]
  rw [code_eta]
  refine (acall_lend (implCodeOk c hok) (fun r H' h => by subst h; exact grnd_b _) (lentAll_cons (code_lent c) (lentAll_nil _))).mono ?_
  rintro r H' ⟨rfl, _, rfl⟩
  rw [hno]
  simp only [go_sem, Nat.reduceEqDiff, reduceIte, ↓reduceIte, Nat.reduceAdd, List.replicate_succ, List.replicate_zero, List.set_cons_zero, List.set_cons_succ, List.length_cons, List.length_nil, Nat.reduceLT, Nat.lt_add_one, ne_eq, Int.reduceEq, not_false_eq_true, Option.map_some, Nat.reduceLeDiff, Nat.zero_lt_succ, List.map_cons, List.map_nil, List.nil_append, List.cons_append, List.append_nil, bytesOf, List.take_succ_cons, List.take_zero, List.drop_zero, and_self, List.append_assoc, List.length_append, Int.reduceLT, Int.reduceLE, Int.toNat_zero, Int.reduceToNat, Int.cast_ofNat_Int, Int.natCast_zero, Int.natCast_one, Int.reduceAdd, List.map_append, Option.bind_some]

theorem len_own {K : St → Prop} {st : St} {d : MD} {H : List AO} {a : AV} {sz : Nat} {rs : List (List AV)} {lo hi : Nat} (h : OwnAt H a sz rs lo hi) (k : K (st.put d (.p (.i .i64 rs.length)))) : lenK false a d K st := by
  rcases h with ⟨rfl, rfl⟩ | ⟨id, ver, _, _, rfl, _⟩
  · exact k
  · exact fun _ => k

theorem pos_one {B : List Bool} (h : B[0]? = some true) {n : Nat} (hn : 0 < n) : 0 < pos B n := by
  induction n with
  | zero => omega
  | succ n ih =>
    cases n with
    | zero => rw [pos, if_pos h]; omega
    | succ n => have := ih (by omega); rw [pos]; omega
theorem reach0 {c : CodeD} {B : List Bool} (hc : codeOk c = true) (hB : reachD c = B) (hp : 0 < c.ins.length) : B[0]? = some true := by
  rw [← hB]
  unfold reachD
  rw [if_pos hc]
  simp [hp, Rch.zero]

/-- what stands while the new code is made -/
structure TI (c : CodeD) (B : List Bool) (sid sver tid P : Nat) (pl : List (List AV)) (H : List AO) : Prop where
  v0 : H[0]? = some (.var [.p (.l (inss c.ins)), .p (.l (ints c.starts))])
  v1 : H[1]? = some (.var [.p .nl, .p .nl])
  sn : H[sid]? = some (.rows 1 sver (boolR B))
  to : H[tid]? = some (.rows 1 0 pl)
  l1 : 1 < P
  ls : sid < tid
  lt : tid < P
  le : P < H.length
theorem TI.sk {c B sid sver tid P pl} {H H' : List AO} (h : TI c B sid sver tid P pl H) (k : SK P (fun _ => False) H H') : TI c B sid sver tid P pl H' where
  v0 := k.1 _ _ h.v0 (fun f => f)
  v1 := k.1 _ _ h.v1 (fun f => f)
  sn := by rw [k.2.1 _ (Nat.lt_trans h.ls h.lt) (fun f => f)]; exact h.sn
  to := by rw [k.2.1 _ h.lt (fun f => f)]; exact h.to
  l1 := h.l1
  ls := h.ls
  lt := h.lt
  le := Nat.lt_of_lt_of_le h.le k.2.2
theorem TI.ext {c B sid sver tid P pl} {H : List AO} (h : TI c B sid sver tid P pl H) (A : List AO) : TI c B sid sver tid P pl (H ++ A) := h.sk (SK.app (Nat.le_of_lt h.le))
theorem TI.set {c B sid sver tid P pl} {H : List AO} (h : TI c B sid sver tid P pl H) {j : Nat} (o : AO) (hj : P ≤ j) : TI c B sid sver tid P pl (H.set j o) where
  v0 := get_set h.v0 (by have := h.l1; omega)
  v1 := get_set h.v1 (by have := h.l1; omega)
  sn := get_set h.sn (by have := h.ls; have := h.lt; omega)
  to := get_set h.to (by have := h.lt; omega)
  l1 := h.l1
  ls := h.ls
  lt := h.lt
  le := by simpa using h.le
theorem TI.put {c B sid sver tid P pl} {H : List AO} (h : TI c B sid sver tid P pl H) (pl' : List (List AV)) (ht : 1 < tid) : TI c B sid sver tid P pl' (H.set tid (.rows 1 0 pl')) where
  v0 := get_set h.v0 (by omega)
  v1 := get_set h.v1 (by omega)
  sn := get_set h.sn (by have := h.ls; omega)
  to := set_get h.to
  l1 := h.l1
  ls := h.ls
  lt := h.lt
  le := by simpa using h.le
theorem mid_drop {K : List InsD} {j : Nat} {x : InsD} (h : K[j]? = some x) : K.drop j = x :: K.drop (j + 1) := by
  obtain ⟨hj, e⟩ := List.getElem?_eq_some_iff.1 h
  rw [List.drop_eq_getElem_cons hj, e]
theorem mid_take {K : List InsD} {j : Nat} {x : InsD} (f : InsD → InsD) (h : K[j]? = some x) : (K.take (j + 1)).map f = (K.take j).map f ++ [f x] := by
  rw [List.take_succ, h, List.map_append]; rfl
theorem mid_len {K : List InsD} {j : Nat} {x : InsD} (f : InsD → InsD) (h : K[j]? = some x) : (insR ((K.take j).map f)).length = j := by
  have := (List.getElem?_eq_some_iff.1 h).1
  rw [insR_len, List.length_map, List.length_take]; omega
theorem mid_get {K : List InsD} {j : Nat} {x : InsD} (f : InsD → InsD) (h : K[j]? = some x) : (insR ((K.take j).map f ++ K.drop j))[j]? = some (x.cells.map .p) := by
  have hl := mid_len f h
  rw [mid_drop h, ← insR_app]
  rw [List.getElem?_append_right (by omega), hl, Nat.sub_self]
  rfl
theorem mid_set {K : List InsD} {j : Nat} {x : InsD} (f : InsD → InsD) (h : K[j]? = some x) : (insR ((K.take j).map f ++ K.drop j)).set j ((f x).cells.map .p) = insR ((K.take (j + 1)).map f ++ K.drop (j + 1)) := by
  have hl := mid_len f h
  rw [mid_drop h, ← insR_app, mid_take f h, List.set_append_right _ _ (by omega), hl, Nat.sub_self, ← insR_app, ← insR_app, List.append_assoc]
  rfl
theorem mid_same {K : List InsD} {j : Nat} {x : InsD} (f : InsD → InsD) (h : K[j]? = some x) (hf : f x = x) : insR ((K.take j).map f ++ K.drop j) = insR ((K.take (j + 1)).map f ++ K.drop (j + 1)) := by
  rw [mid_drop h, mid_take f h, hf, List.append_assoc]
  rfl

set_option maxHeartbeats 4000000 in
theorem implTrim0 (c : CodeD) (hok : okCode c) : ACall Try.prog 34 [.st (c.cells.map .p)] [] (fun r H' => OwnC H' r (trimD c)) := by
  refine call34 (by simp) ?_
  simp only [go_sem, Nat.reduceEqDiff, reduceIte, ↓reduceIte, Nat.reduceAdd, List.replicate_succ, List.replicate_zero, List.set_cons_zero, List.set_cons_succ, List.length_cons, List.length_nil, Nat.reduceLT, Nat.lt_add_one, ne_eq, Int.reduceEq, not_false_eq_true, Option.map_some, Nat.reduceLeDiff, Nat.zero_lt_succ, List.map_cons, List.map_nil, List.nil_append, List.cons_append, List.append_nil, bytesOf, List.take_succ_cons, List.take_zero, List.drop_zero, and_self, List.append_assoc, List.length_append, Int.reduceLT, Int.reduceLE, Int.toNat_zero, Int.reduceToNat, Int.cast_ofNat_Int, Int.natCast_zero, Int.natCast_one, Int.reduceAdd, List.map_append, Option.bind_some, mc34, mr34, CodeD.cells]
  rw [code_eta]
  by_cases hco : codeOk c = false
  · refine (acall_lend (implReachedNil c hok hco) (fun r H' h => by subst h; exact grnd_nl) (lentAll_cons (code_lent c) (lentAll_nil _))).mono ?_
    rintro r H' ⟨rfl, _, rfl⟩
    simp only [go_sem, Nat.reduceEqDiff, reduceIte, ↓reduceIte, Nat.reduceAdd, List.replicate_succ, List.replicate_zero, List.set_cons_zero, List.set_cons_succ, List.length_cons, List.length_nil, Nat.reduceLT, Nat.lt_add_one, ne_eq, Int.reduceEq, not_false_eq_true, Option.map_some, Nat.reduceLeDiff, Nat.zero_lt_succ, List.map_cons, List.map_nil, List.nil_append, List.cons_append, List.append_nil, bytesOf, List.take_succ_cons, List.take_zero, List.drop_zero, and_self, List.append_assoc, List.length_append, Int.reduceLT, Int.reduceLE, Int.toNat_zero, Int.reduceToNat, Int.cast_ofNat_Int, Int.natCast_zero, Int.natCast_one, Int.reduceAdd, List.map_append, Option.bind_some, Bool.not_false]
    refine ⟨_, _, rfl, .inl ⟨rfl, ?_⟩, .inl ⟨rfl, ?_⟩⟩ <;> simp [trimD, hco, insR, intR]
  have hco' : codeOk c = true := by simpa using hco
  have hw := codeOk_wf hco'
  have hle := hw.le
  have hles := hw.les
  have hpos := hw.pos
  have hbl : (reachD c).length = c.ins.length := by unfold reachD; rw [if_pos hco']; simp
  refine (acall_ownAt (implReached0 c hok) (lentAll_cons (code_lent c) (lentAll_nil _)) (grnd_boolR _)).mono ?_
  rintro w H1 ⟨A1, hH1, hw1⟩
  obtain ⟨B, hB⟩ : ∃ B, reachD c = B := ⟨_, rfl⟩
  have hz := reach0 hco' hB hpos
  rw [trimD_eq hco' hB]
  rw [hB] at hbl hw1
  have hv0 : H1[0]? = some (.var [.p (.l (inss c.ins)), .p (.l (ints c.starts))]) := by rw [hH1]; rfl
  have hv1 : H1[1]? = some (.var [.p .nl, .p .nl]) := by rw [hH1]; rfl
  clear hH1
  rcases hw1 with ⟨_, he⟩ | ⟨sid, sver, s0, s1, rfl, hs⟩
  · have : (boolR B).length = 0 := by rw [he]; rfl
    rw [boolR_len] at this; omega
  rw [boolR_len]
  have hb0 : 0 < B.length := by omega
  have hl1 : 1 < H1.length := get_lt hv1
  simp only [go_sem, Nat.reduceEqDiff, reduceIte, ↓reduceIte, Nat.reduceAdd, List.replicate_succ, List.replicate_zero, List.set_cons_zero, List.set_cons_succ, List.length_cons, List.length_nil, Nat.reduceLT, Nat.lt_add_one, ne_eq, Int.reduceEq, not_false_eq_true, Option.map_some, Nat.reduceLeDiff, Nat.zero_lt_succ, List.map_cons, List.map_nil, List.nil_append, List.cons_append, List.append_nil, bytesOf, List.take_succ_cons, List.take_zero, List.drop_zero, and_self, List.append_assoc, List.length_append, Int.reduceLT, Int.reduceLE, Int.toNat_zero, Int.reduceToNat, Int.cast_ofNat_Int, Int.natCast_zero, Int.natCast_one, Int.reduceAdd, List.map_append, Option.bind_some, hs, boolR_len, hb0, hv0, inss_len]
  intro _
  refine ⟨by omega, by omega, by omega, ?_⟩
  -- loops
  have hb1 : TI c B sid sver H1.length (H1.length + 1) (over (fun j => [AV.p (.i .i64 ((pos B j : Nat) : Int))]) (List.replicate c.ins.length [AV.p (.i .i64 0)]) 0) (H1 ++ [AO.rows 1 0 (List.replicate c.ins.length [AV.p (.i .i64 0)]), AO.var [.p .nl, .p .nl]]) :=
    ⟨get_ext hv0 _, get_ext hv1 _, get_ext hs _, by rw [over_zero, get_off0]; rfl, by omega, by omega, by omega, by simp⟩
  have hp1 : (H1 ++ [AO.rows 1 0 (List.replicate c.ins.length [AV.p (.i .i64 0)]), AO.var [.p .nl, .p .nl]])[H1.length + 1]? = some (.var [.p .nl, .p .nl]) := get_off _ _ 1
  generalize (H1 ++ [AO.rows 1 0 (List.replicate c.ins.length [AV.p (.i .i64 0)]), AO.var [.p .nl, .p .nl]]) = G at hb1 hp1 ⊢
  obtain ⟨P, hP⟩ : ∃ P, H1.length + 1 = P := ⟨_, rfl⟩
  rw [hP] at hb1 hp1
  generalize hM : H1.length = M at *
  clear hv0 hv1 hs
  simp only [go_sem, Nat.reduceEqDiff, reduceIte, ↓reduceIte, Nat.reduceAdd, List.replicate_succ, List.replicate_zero, List.set_cons_zero, List.set_cons_succ, List.length_cons, List.length_nil, Nat.reduceLT, Nat.lt_add_one, ne_eq, Int.reduceEq, not_false_eq_true, Option.map_some, Nat.reduceLeDiff, Nat.zero_lt_succ, List.map_cons, List.map_nil, List.nil_append, List.cons_append, List.append_nil, bytesOf, List.take_succ_cons, List.take_zero, List.drop_zero, and_self, List.append_assoc, List.length_append, Int.reduceLT, Int.reduceLE, Int.toNat_zero, Int.reduceToNat, Int.cast_ofNat_Int, Int.natCast_zero, Int.natCast_one, Int.reduceAdd, List.map_append, Option.bind_some, hb1.v0, inss_len, hP]
  intro _
  refine ⟨Nat × AV × List AO, [0, 1, 2, 3, 4, 5, 22, 23, 24], fun y st => y.1 ≤ c.ins.length ∧ OwnAt y.2.2 y.2.1 6 (insR (kept B c.ins y.1)) P y.2.2.length ∧ TI c B sid sver M P (over (fun j => [AV.p (.i .i64 ((pos B j : Nat) : Int))]) (List.replicate c.ins.length [AV.p (.i .i64 0)]) y.1) y.2.2 ∧ y.2.2[P]? = some (.var [y.2.1, .p .nl]) ∧
    st = ⟨[(0, .st [.p (.l (inss c.ins)), .p (.l (ints c.starts))]), (1, .ptr 0 0), (2, .ptr 1 0), (3, .gs sid sver 0 B.length), (4, .gs M 0 0 c.ins.length), (5, .ptr P 0), (22, .p (.l (inss c.ins))), (23, .p (.i .i64 c.ins.length)), (24, .p (.i .i64 y.1))], [], y.2.2⟩, fun y => c.ins.length - y.1, ⟨⟨0, .p .nl, G⟩, ?_⟩, ?_⟩
  · simp only [go_sem, Nat.reduceEqDiff, reduceIte, ↓reduceIte, Nat.reduceAdd, List.replicate_succ, List.replicate_zero, List.set_cons_zero, List.set_cons_succ, List.length_cons, List.length_nil, Nat.reduceLT, Nat.lt_add_one, ne_eq, Int.reduceEq, not_false_eq_true, Option.map_some, Nat.reduceLeDiff, Nat.zero_lt_succ, List.map_cons, List.map_nil, List.nil_append, List.cons_append, List.append_nil, bytesOf, List.take_succ_cons, List.take_zero, List.drop_zero, and_self, List.append_assoc, List.length_append, Int.reduceLT, Int.reduceLE, Int.toNat_zero, Int.reduceToNat, Int.cast_ofNat_Int, Int.natCast_zero, Int.natCast_one, Int.reduceAdd, List.map_append, Option.bind_some]
    exact ⟨Nat.zero_le _, .inl ⟨rfl, rfl⟩, hb1, hp1, rfl⟩
  clear hb1 hp1
  rintro ⟨i, a, H⟩ st ⟨hi, ho, hb, hp, rfl⟩
  simp only at hi ho hb hp
  have hkl := kept_len hbl hi
  have hpi := pos_le B i
  simp only [go_sem, Nat.reduceEqDiff, reduceIte, ↓reduceIte, Nat.reduceAdd, List.replicate_succ, List.replicate_zero, List.set_cons_zero, List.set_cons_succ, List.length_cons, List.length_nil, Nat.reduceLT, Nat.lt_add_one, ne_eq, Int.reduceEq, not_false_eq_true, Option.map_some, Nat.reduceLeDiff, Nat.zero_lt_succ, List.map_cons, List.map_nil, List.nil_append, List.cons_append, List.append_nil, bytesOf, List.take_succ_cons, List.take_zero, List.drop_zero, and_self, List.append_assoc, List.length_append, Int.reduceLT, Int.reduceLE, Int.toNat_zero, Int.reduceToNat, Int.cast_ofNat_Int, Int.natCast_zero, Int.natCast_one, Int.reduceAdd, List.map_append, Option.bind_some]
  refine condK_split _ (fun hc => ?_) (fun hc => ?_)
  · have hil : i < c.ins.length := by simpa using hc
    have hib : i < B.length := by omega
    have hci : (i : Int) < (B.length : Int) := by omega
    have hci2 : (i : Int) < (c.ins.length : Int) := by omega
    obtain ⟨x, hx⟩ : ∃ x, c.ins[i]? = some x := ⟨_, List.getElem?_eq_getElem hil⟩
    have hxl : c.ins[i] = x := by rw [List.getElem?_eq_getElem hil] at hx; exact Option.some.inj hx
    have hxi : (inss c.ins)[i]? = some [.i .i64 x.op, .i .i64 x.a, .i .i64 x.b, .i .i64 x.c, .i .i64 x.n, .s x.text] := by simp [inss, hx, InsD.cells]
    have fp : ∀ A, (H ++ A)[P]? = some (.var [a, .p .nl]) := fun A => get_ext hp A
    have fm : ∀ A, (H ++ A)[M]? = some (.rows 1 0 (over (fun j => [AV.p (.i .i64 ((pos B j : Nat) : Int))]) (List.replicate c.ins.length [AV.p (.i .i64 0)]) i)) := fun A => get_ext hb.to A
    have e1 := wr1 hil hok.1.1
    have hB1 : B[i]? = some B[i] := List.getElem?_eq_getElem hib
    simp only [go_sem, Nat.reduceEqDiff, reduceIte, ↓reduceIte, Nat.reduceAdd, List.replicate_succ, List.replicate_zero, List.set_cons_zero, List.set_cons_succ, List.length_cons, List.length_nil, Nat.reduceLT, Nat.lt_add_one, ne_eq, Int.reduceEq, not_false_eq_true, Option.map_some, Nat.reduceLeDiff, Nat.zero_lt_succ, List.map_cons, List.map_nil, List.nil_append, List.cons_append, List.append_nil, bytesOf, List.take_succ_cons, List.take_zero, List.drop_zero, and_self, List.append_assoc, List.length_append, Int.reduceLT, Int.reduceLE, Int.toNat_zero, Int.reduceToNat, Int.cast_ofNat_Int, Int.natCast_zero, Int.natCast_one, Int.reduceAdd, List.map_append, Option.bind_some, hxi, fp]
    refine len_own ho ?_
    rw [insR_len, hkl]
    simp only [go_sem, Nat.reduceEqDiff, reduceIte, ↓reduceIte, Nat.reduceAdd, List.replicate_succ, List.replicate_zero, List.set_cons_zero, List.set_cons_succ, List.length_cons, List.length_nil, Nat.reduceLT, Nat.lt_add_one, ne_eq, Int.reduceEq, not_false_eq_true, Option.map_some, Nat.reduceLeDiff, Nat.zero_lt_succ, List.map_cons, List.map_nil, List.nil_append, List.cons_append, List.append_nil, bytesOf, List.take_succ_cons, List.take_zero, List.drop_zero, and_self, List.append_assoc, List.length_append, Int.reduceLT, Int.reduceLE, Int.toNat_zero, Int.reduceToNat, Int.cast_ofNat_Int, Int.natCast_zero, Int.natCast_one, Int.reduceAdd, List.map_append, Option.bind_some, fm, hci2]
    have hov : (over (fun j => [AV.p (.i .i64 ((pos B j : Nat) : Int))]) (List.replicate c.ins.length [AV.p (.i .i64 0)]) i)[i]? = some [AV.p (.i .i64 0)] := by rw [over_get _ _ (by simpa using hil)]; simp
    have hos : (over (fun j => [AV.p (.i .i64 ((pos B j : Nat) : Int))]) (List.replicate c.ins.length [AV.p (.i .i64 0)]) i).set i [AV.p (.i .i64 ((pos B i : Nat) : Int))] = over (fun j => [AV.p (.i .i64 ((pos B j : Nat) : Int))]) (List.replicate c.ins.length [AV.p (.i .i64 0)]) (i + 1) := over_set (fun j => [AV.p (.i .i64 ((pos B j : Nat) : Int))]) _ (by simpa using hil)
    rw [stoR_at hov rfl, hos]
    have hb2 := (hb.ext [AO.var [AV.p (.i .i64 x.op), AV.p (.i .i64 x.a), AV.p (.i .i64 x.b), AV.p (.i .i64 x.c), AV.p (.i .i64 x.n), AV.p (.s x.text)]]).put (over (fun j => [AV.p (.i .i64 ((pos B j : Nat) : Int))]) (List.replicate c.ins.length [AV.p (.i .i64 0)]) (i + 1)) (by omega)
    have hp2 : ((H ++ [AO.var [AV.p (.i .i64 x.op), AV.p (.i .i64 x.a), AV.p (.i .i64 x.b), AV.p (.i .i64 x.c), AV.p (.i .i64 x.n), AV.p (.s x.text)]]).set M (.rows 1 0 (over (fun j => [AV.p (.i .i64 ((pos B j : Nat) : Int))]) (List.replicate c.ins.length [AV.p (.i .i64 0)]) (i + 1))))[P]? = some (.var [a, .p .nl]) := get_set (fp _) (by omega)
    have hx2 : ((H ++ [AO.var [AV.p (.i .i64 x.op), AV.p (.i .i64 x.a), AV.p (.i .i64 x.b), AV.p (.i .i64 x.c), AV.p (.i .i64 x.n), AV.p (.s x.text)]]).set M (.rows 1 0 (over (fun j => [AV.p (.i .i64 ((pos B j : Nat) : Int))]) (List.replicate c.ins.length [AV.p (.i .i64 0)]) (i + 1))))[H.length]? = some (.var [AV.p (.i .i64 x.op), AV.p (.i .i64 x.a), AV.p (.i .i64 x.b), AV.p (.i .i64 x.c), AV.p (.i .i64 x.n), AV.p (.s x.text)]) := get_set (get_off0 _ _) (by have := hb.lt; have := hb.le; omega)
    have ho2 : OwnAt ((H ++ [AO.var [AV.p (.i .i64 x.op), AV.p (.i .i64 x.a), AV.p (.i .i64 x.b), AV.p (.i .i64 x.c), AV.p (.i .i64 x.n), AV.p (.s x.text)]]).set M (.rows 1 0 (over (fun j => [AV.p (.i .i64 ((pos B j : Nat) : Int))]) (List.replicate c.ins.length [AV.p (.i .i64 0)]) (i + 1)))) a 6 (insR (kept B c.ins i)) P ((H ++ [AO.var [AV.p (.i .i64 x.op), AV.p (.i .i64 x.a), AV.p (.i .i64 x.b), AV.p (.i .i64 x.c), AV.p (.i .i64 x.n), AV.p (.s x.text)]]).set M (.rows 1 0 (over (fun j => [AV.p (.i .i64 ((pos B j : Nat) : Int))]) (List.replicate c.ins.length [AV.p (.i .i64 0)]) (i + 1)))).length := ((ho.ext _).set _ (.inl (by have := hb.lt; omega))).wk (by simp)
    generalize (H ++ [AO.var [AV.p (.i .i64 x.op), AV.p (.i .i64 x.a), AV.p (.i .i64 x.b), AV.p (.i .i64 x.c), AV.p (.i .i64 x.n), AV.p (.s x.text)]]).set M (.rows 1 0 (over (fun j => [AV.p (.i .i64 ((pos B j : Nat) : Int))]) (List.replicate c.ins.length [AV.p (.i .i64 0)]) (i + 1))) = H2 at hb2 hp2 hx2 ho2 ⊢
    simp only [go_sem, Nat.reduceEqDiff, reduceIte, ↓reduceIte, Nat.reduceAdd, List.replicate_succ, List.replicate_zero, List.set_cons_zero, List.set_cons_succ, List.length_cons, List.length_nil, Nat.reduceLT, Nat.lt_add_one, ne_eq, Int.reduceEq, not_false_eq_true, Option.map_some, Nat.reduceLeDiff, Nat.zero_lt_succ, List.map_cons, List.map_nil, List.nil_append, List.cons_append, List.append_nil, bytesOf, List.take_succ_cons, List.take_zero, List.drop_zero, and_self, List.append_assoc, List.length_append, Int.reduceLT, Int.reduceLE, Int.toNat_zero, Int.reduceToNat, Int.cast_ofNat_Int, Int.natCast_zero, Int.natCast_one, Int.reduceAdd, List.map_append, Option.bind_some, hb2.sn, boolR_at hib, hci]
    refine condK_split _ (fun hd => ?_) (fun hd => ?_)
    · rw [hd] at hB1
      have hke := kept_t hil hB1
      rw [hxl] at hke
      simp only [go_sem, Nat.reduceEqDiff, reduceIte, ↓reduceIte, Nat.reduceAdd, List.replicate_succ, List.replicate_zero, List.set_cons_zero, List.set_cons_succ, List.length_cons, List.length_nil, Nat.reduceLT, Nat.lt_add_one, ne_eq, Int.reduceEq, not_false_eq_true, Option.map_some, Nat.reduceLeDiff, Nat.zero_lt_succ, List.map_cons, List.map_nil, List.nil_append, List.cons_append, List.append_nil, bytesOf, List.take_succ_cons, List.take_zero, List.drop_zero, and_self, List.append_assoc, List.length_append, Int.reduceLT, Int.reduceLE, Int.toNat_zero, Int.reduceToNat, Int.cast_ofNat_Int, Int.natCast_zero, Int.natCast_one, Int.reduceAdd, List.map_append, Option.bind_some, hp2, hx2, e1]
      refine ⟨by simp, app_at (ho2.ext _) (by have := hb2.le; simp; omega) (by simp [insR]; omega) (by simp [insR]; omega) fun id ver H' q0 q1 q2 q3 q4 => ?_⟩
      rw [show (insR (kept B c.ins i) ++ [[AV.p (.i .i64 x.op), AV.p (.i .i64 x.a), AV.p (.i .i64 x.b), AV.p (.i .i64 x.c), AV.p (.i .i64 x.n), AV.p (.s x.text)]]) = insR (kept B c.ins (i + 1)) by rw [hke, ← insR_app]; rfl] at q2
      rw [show (insR (kept B c.ins i)).length + [[AV.p (.i .i64 x.op), AV.p (.i .i64 x.a), AV.p (.i .i64 x.b), AV.p (.i .i64 x.c), AV.p (.i .i64 x.n), AV.p (.s x.text)]].length = (insR (kept B c.ins (i + 1))).length by rw [hke]; simp [insR]]
      have hb' := (hb2.ext [AO.rows 6 0 [[AV.p (.i .i64 x.op), AV.p (.i .i64 x.a), AV.p (.i .i64 x.b), AV.p (.i .i64 x.c), AV.p (.i .i64 x.n), AV.p (.s x.text)]]]).sk q3
      have hp' : H'[P]? = some (.var [a, .p .nl]) := q3.1 P _ (get_ext hp2 _) (fun f => f)
      simp only [go_sem, Nat.reduceEqDiff, reduceIte, ↓reduceIte, Nat.reduceAdd, List.replicate_succ, List.replicate_zero, List.set_cons_zero, List.set_cons_succ, List.length_cons, List.length_nil, Nat.reduceLT, Nat.lt_add_one, ne_eq, Int.reduceEq, not_false_eq_true, Option.map_some, Nat.reduceLeDiff, Nat.zero_lt_succ, List.map_cons, List.map_nil, List.nil_append, List.cons_append, List.append_nil, bytesOf, List.take_succ_cons, List.take_zero, List.drop_zero, and_self, List.append_assoc, List.length_append, Int.reduceLT, Int.reduceLE, Int.toNat_zero, Int.reduceToNat, Int.cast_ofNat_Int, Int.natCast_zero, Int.natCast_one, Int.reduceAdd, List.map_append, Option.bind_some, hp', e1]
      have ho' : OwnAt H' (.gs id ver 0 (insR (kept B c.ins (i + 1))).length) 6 (insR (kept B c.ins (i + 1))) P H'.length := .inr ⟨id, ver, q0, q1, rfl, q2⟩
      exact ⟨⟨i + 1, _, H'.set P (.var [.gs id ver 0 (insR (kept B c.ins (i + 1))).length, .p .nl])⟩, ⟨by simp only; omega, (ho'.put hp' _).wk (by simp), hb'.set _ (Nat.le_refl _), set_get hp', rfl⟩, by simp only; omega⟩
    · have hd' : B[i] = false := by simpa using hd
      rw [hd'] at hB1
      simp only [go_sem, Nat.reduceEqDiff, reduceIte, ↓reduceIte, Nat.reduceAdd, List.replicate_succ, List.replicate_zero, List.set_cons_zero, List.set_cons_succ, List.length_cons, List.length_nil, Nat.reduceLT, Nat.lt_add_one, ne_eq, Int.reduceEq, not_false_eq_true, Option.map_some, Nat.reduceLeDiff, Nat.zero_lt_succ, List.map_cons, List.map_nil, List.nil_append, List.cons_append, List.append_nil, bytesOf, List.take_succ_cons, List.take_zero, List.drop_zero, and_self, List.append_assoc, List.length_append, Int.reduceLT, Int.reduceLE, Int.toNat_zero, Int.reduceToNat, Int.cast_ofNat_Int, Int.natCast_zero, Int.natCast_one, Int.reduceAdd, List.map_append, Option.bind_some, e1]
      refine ⟨⟨i + 1, a, H2⟩, ⟨by simp only; omega, ?_, hb2, hp2, rfl⟩, by simp only; omega⟩
      rw [kept_f hil hB1]
      exact ho2
  have hil : i = c.ins.length := by simp at hc; omega
  subst hil
  clear hc hi
  have hfull : over (fun j => [AV.p (.i .i64 ((pos B j : Nat) : Int))]) (List.replicate c.ins.length [AV.p (.i .i64 0)]) c.ins.length = intR .i64 (posL B c.ins.length) := by
    have := over_all (fun j => [AV.p (.i .i64 ((pos B j : Nat) : Int))]) (List.replicate c.ins.length [AV.p (.i .i64 0)])
    rw [List.length_replicate] at this
    rw [this, intR, posL, List.map_map]
    rfl
  rw [hfull] at hb
  obtain ⟨m, hm⟩ : ∃ m, pos B c.ins.length = m := ⟨_, rfl⟩
  have hm1 : 0 < m := hm ▸ pos_one hz hpos
  have hmem : ∀ x ∈ kept B c.ins c.ins.length, x ∈ c.ins := fun x h => kept_mem h
  rw [hm] at hkl hpi ⊢
  generalize kept B c.ins c.ins.length = K at hkl ho hmem ⊢
  rcases ho with ⟨_, he⟩ | ⟨id, ver, i0, i1, rfl, hid⟩
  · have : (insR K).length = 0 := by rw [he]; rfl
    rw [insR_len] at this; omega
  rw [insR_len, hkl] at hp
  simp only [go_sem, Nat.reduceEqDiff, reduceIte, ↓reduceIte, Nat.reduceAdd, List.replicate_succ, List.replicate_zero, List.set_cons_zero, List.set_cons_succ, List.length_cons, List.length_nil, Nat.reduceLT, Nat.lt_add_one, ne_eq, Int.reduceEq, not_false_eq_true, Option.map_some, Nat.reduceLeDiff, Nat.zero_lt_succ, List.map_cons, List.map_nil, List.nil_append, List.cons_append, List.append_nil, bytesOf, List.take_succ_cons, List.take_zero, List.drop_zero, and_self, List.append_assoc, List.length_append, Int.reduceLT, Int.reduceLE, Int.toNat_zero, Int.reduceToNat, Int.cast_ofNat_Int, Int.natCast_zero, Int.natCast_one, Int.reduceAdd, List.map_append, Option.bind_some, hp]
  intro hmm
  rw [show insR K = insR ((K.take 0).map (reN B) ++ K.drop 0) by simp] at hid
  refine ⟨Nat × List AO, [0, 1, 2, 3, 4, 5, 47, 48, 49], fun y st => y.1 ≤ m ∧ id < y.2.length ∧ y.2[id]? = some (.rows 6 ver (insR ((K.take y.1).map (reN B) ++ K.drop y.1))) ∧ TI c B sid sver M P (intR .i64 (posL B c.ins.length)) y.2 ∧ y.2[P]? = some (.var [.gs id ver 0 m, .p .nl]) ∧
    st = ⟨[(0, .st [.p (.l (inss c.ins)), .p (.l (ints c.starts))]), (1, .ptr 0 0), (2, .ptr 1 0), (3, .gs sid sver 0 B.length), (4, .gs M 0 0 c.ins.length), (5, .ptr P 0), (47, .gs id ver 0 m), (48, .p (.i .i64 m)), (49, .p (.i .i64 y.1))], [], y.2⟩, fun y => m - y.1, ⟨⟨0, H⟩, ?_⟩, ?_⟩
  · simp only [go_sem, Nat.reduceEqDiff, reduceIte, ↓reduceIte, Nat.reduceAdd, List.replicate_succ, List.replicate_zero, List.set_cons_zero, List.set_cons_succ, List.length_cons, List.length_nil, Nat.reduceLT, Nat.lt_add_one, ne_eq, Int.reduceEq, not_false_eq_true, Option.map_some, Nat.reduceLeDiff, Nat.zero_lt_succ, List.map_cons, List.map_nil, List.nil_append, List.cons_append, List.append_nil, bytesOf, List.take_succ_cons, List.take_zero, List.drop_zero, and_self, List.append_assoc, List.length_append, Int.reduceLT, Int.reduceLE, Int.toNat_zero, Int.reduceToNat, Int.cast_ofNat_Int, Int.natCast_zero, Int.natCast_one, Int.reduceAdd, List.map_append, Option.bind_some]
    exact ⟨Nat.zero_le _, i1, hid, hb, hp⟩
  clear hb hp hid i1
  rintro ⟨j, H⟩ st ⟨hj, i1, hid, hb, hp, rfl⟩
  simp only at hj i1 hid hb hp
  simp only [go_sem, Nat.reduceEqDiff, reduceIte, ↓reduceIte, Nat.reduceAdd, List.replicate_succ, List.replicate_zero, List.set_cons_zero, List.set_cons_succ, List.length_cons, List.length_nil, Nat.reduceLT, Nat.lt_add_one, ne_eq, Int.reduceEq, not_false_eq_true, Option.map_some, Nat.reduceLeDiff, Nat.zero_lt_succ, List.map_cons, List.map_nil, List.nil_append, List.cons_append, List.append_nil, bytesOf, List.take_succ_cons, List.take_zero, List.drop_zero, and_self, List.append_assoc, List.length_append, Int.reduceLT, Int.reduceLE, Int.toNat_zero, Int.reduceToNat, Int.cast_ofNat_Int, Int.natCast_zero, Int.natCast_one, Int.reduceAdd, List.map_append, Option.bind_some]
  refine condK_split _ (fun hc => ?_) (fun hc => ?_)
  · have hjl : j < m := by simpa using hc
    have hcj : (j : Int) < (m : Int) := by omega
    obtain ⟨x, hx⟩ : ∃ x, K[j]? = some x := ⟨_, List.getElem?_eq_getElem (by omega)⟩
    obtain ⟨q, hq⟩ := List.getElem?_of_mem (hmem x (List.mem_of_getElem? hx))
    have hrow : (insR ((K.take j).map (reN B) ++ K.drop j))[j]? = some [AV.p (.i .i64 x.op), AV.p (.i .i64 x.a), AV.p (.i .i64 x.b), AV.p (.i .i64 x.c), AV.p (.i .i64 x.n), AV.p (.s x.text)] := mid_get (reN B) hx
    have fr : ∀ A, (H ++ A)[id]? = some (.rows 6 ver (insR ((K.take j).map (reN B) ++ K.drop j))) := fun A => get_ext hid A
    have fp : ∀ A, (H ++ A)[P]? = some (.var [.gs id ver 0 m, .p .nl]) := fun A => get_ext hp A
    have fm : ∀ A, (H ++ A)[M]? = some (.rows 1 0 (intR .i64 (posL B c.ins.length))) := fun A => get_ext hb.to A
    have e1 : wr .i64 ((j : Int) + 1) = ((j + 1 : Nat) : Int) := by rw [wr64 (by omega) (by omega)]; omega
    by_cases h11 : x.op = 11
    · obtain ⟨n0, n1⟩ := hw.jump q x hq (.inr h11)
      have n2 : x.n < (c.ins.length : Int) := by omega
      simp only [go_sem, Nat.reduceEqDiff, reduceIte, ↓reduceIte, Nat.reduceAdd, List.replicate_succ, List.replicate_zero, List.set_cons_zero, List.set_cons_succ, List.length_cons, List.length_nil, Nat.reduceLT, Nat.lt_add_one, ne_eq, Int.reduceEq, not_false_eq_true, Option.map_some, Nat.reduceLeDiff, Nat.zero_lt_succ, List.map_cons, List.map_nil, List.nil_append, List.cons_append, List.append_nil, bytesOf, List.take_succ_cons, List.take_zero, List.drop_zero, and_self, List.append_assoc, List.length_append, Int.reduceLT, Int.reduceLE, Int.toNat_zero, Int.reduceToNat, Int.cast_ofNat_Int, Int.natCast_zero, Int.natCast_one, Int.reduceAdd, List.map_append, Option.bind_some, hid, hrow, hcj, h11]
      refine drw_same ?_
      simp only [go_sem, Nat.reduceEqDiff, reduceIte, ↓reduceIte, Nat.reduceAdd, List.replicate_succ, List.replicate_zero, List.set_cons_zero, List.set_cons_succ, List.length_cons, List.length_nil, Nat.reduceLT, Nat.lt_add_one, ne_eq, Int.reduceEq, not_false_eq_true, Option.map_some, Nat.reduceLeDiff, Nat.zero_lt_succ, List.map_cons, List.map_nil, List.nil_append, List.cons_append, List.append_nil, bytesOf, List.take_succ_cons, List.take_zero, List.drop_zero, and_self, List.append_assoc, List.length_append, Int.reduceLT, Int.reduceLE, Int.toNat_zero, Int.reduceToNat, Int.cast_ofNat_Int, Int.natCast_zero, Int.natCast_one, Int.reduceAdd, List.map_append, Option.bind_some, fr, fp, fm, hrow, hcj, h11, n0, n2, posL_at B n1]
      rw [stoR_at hrow rfl]
      rw [show (insR ((K.take j).map (reN B) ++ K.drop j)).set j [AV.p (.i .i64 x.op), AV.p (.i .i64 x.a), AV.p (.i .i64 x.b), AV.p (.i .i64 x.c), AV.p (.i .i64 ((pos B x.n.toNat : Nat) : Int)), AV.p (.s x.text)] = insR ((K.take (j + 1)).map (reN B) ++ K.drop (j + 1)) by rw [← mid_set (reN B) hx, reN_j (.inl h11)]; rfl]
      simp only [go_sem, Nat.reduceEqDiff, reduceIte, ↓reduceIte, Nat.reduceAdd, List.replicate_succ, List.replicate_zero, List.set_cons_zero, List.set_cons_succ, List.length_cons, List.length_nil, Nat.reduceLT, Nat.lt_add_one, ne_eq, Int.reduceEq, not_false_eq_true, Option.map_some, Nat.reduceLeDiff, Nat.zero_lt_succ, List.map_cons, List.map_nil, List.nil_append, List.cons_append, List.append_nil, bytesOf, List.take_succ_cons, List.take_zero, List.drop_zero, and_self, List.append_assoc, List.length_append, Int.reduceLT, Int.reduceLE, Int.toNat_zero, Int.reduceToNat, Int.cast_ofNat_Int, Int.natCast_zero, Int.natCast_one, Int.reduceAdd, List.map_append, Option.bind_some, e1]
      exact ⟨⟨j + 1, _⟩, ⟨hjl, by simp; omega, set_get (fr _), (hb.ext _).set _ i0, get_set (fp _) (by rintro rfl; rw [hp] at hid; cases hid), rfl⟩, by simp only; omega⟩
    by_cases h12 : x.op = 12
    · obtain ⟨n0, n1⟩ := hw.jump q x hq (.inl h12)
      have n2 : x.n < (c.ins.length : Int) := by omega
      simp only [go_sem, Nat.reduceEqDiff, reduceIte, ↓reduceIte, Nat.reduceAdd, List.replicate_succ, List.replicate_zero, List.set_cons_zero, List.set_cons_succ, List.length_cons, List.length_nil, Nat.reduceLT, Nat.lt_add_one, ne_eq, Int.reduceEq, not_false_eq_true, Option.map_some, Nat.reduceLeDiff, Nat.zero_lt_succ, List.map_cons, List.map_nil, List.nil_append, List.cons_append, List.append_nil, bytesOf, List.take_succ_cons, List.take_zero, List.drop_zero, and_self, List.append_assoc, List.length_append, Int.reduceLT, Int.reduceLE, Int.toNat_zero, Int.reduceToNat, Int.cast_ofNat_Int, Int.natCast_zero, Int.natCast_one, Int.reduceAdd, List.map_append, Option.bind_some, hid, hrow, hcj, h11, h12]
      refine drw_same ?_
      simp only [go_sem, Nat.reduceEqDiff, reduceIte, ↓reduceIte, Nat.reduceAdd, List.replicate_succ, List.replicate_zero, List.set_cons_zero, List.set_cons_succ, List.length_cons, List.length_nil, Nat.reduceLT, Nat.lt_add_one, ne_eq, Int.reduceEq, not_false_eq_true, Option.map_some, Nat.reduceLeDiff, Nat.zero_lt_succ, List.map_cons, List.map_nil, List.nil_append, List.cons_append, List.append_nil, bytesOf, List.take_succ_cons, List.take_zero, List.drop_zero, and_self, List.append_assoc, List.length_append, Int.reduceLT, Int.reduceLE, Int.toNat_zero, Int.reduceToNat, Int.cast_ofNat_Int, Int.natCast_zero, Int.natCast_one, Int.reduceAdd, List.map_append, Option.bind_some, fr, fp, fm, hrow, hcj, h11, h12, n0, n2, posL_at B n1]
      rw [stoR_at hrow rfl]
      rw [show (insR ((K.take j).map (reN B) ++ K.drop j)).set j [AV.p (.i .i64 x.op), AV.p (.i .i64 x.a), AV.p (.i .i64 x.b), AV.p (.i .i64 x.c), AV.p (.i .i64 ((pos B x.n.toNat : Nat) : Int)), AV.p (.s x.text)] = insR ((K.take (j + 1)).map (reN B) ++ K.drop (j + 1)) by rw [← mid_set (reN B) hx, reN_j (.inr h12)]; rfl]
      simp only [go_sem, Nat.reduceEqDiff, reduceIte, ↓reduceIte, Nat.reduceAdd, List.replicate_succ, List.replicate_zero, List.set_cons_zero, List.set_cons_succ, List.length_cons, List.length_nil, Nat.reduceLT, Nat.lt_add_one, ne_eq, Int.reduceEq, not_false_eq_true, Option.map_some, Nat.reduceLeDiff, Nat.zero_lt_succ, List.map_cons, List.map_nil, List.nil_append, List.cons_append, List.append_nil, bytesOf, List.take_succ_cons, List.take_zero, List.drop_zero, and_self, List.append_assoc, List.length_append, Int.reduceLT, Int.reduceLE, Int.toNat_zero, Int.reduceToNat, Int.cast_ofNat_Int, Int.natCast_zero, Int.natCast_one, Int.reduceAdd, List.map_append, Option.bind_some, e1]
      exact ⟨⟨j + 1, _⟩, ⟨hjl, by simp; omega, set_get (fr _), (hb.ext _).set _ i0, get_set (fp _) (by rintro rfl; rw [hp] at hid; cases hid), rfl⟩, by simp only; omega⟩
    · simp only [go_sem, Nat.reduceEqDiff, reduceIte, ↓reduceIte, Nat.reduceAdd, List.replicate_succ, List.replicate_zero, List.set_cons_zero, List.set_cons_succ, List.length_cons, List.length_nil, Nat.reduceLT, Nat.lt_add_one, ne_eq, Int.reduceEq, not_false_eq_true, Option.map_some, Nat.reduceLeDiff, Nat.zero_lt_succ, List.map_cons, List.map_nil, List.nil_append, List.cons_append, List.append_nil, bytesOf, List.take_succ_cons, List.take_zero, List.drop_zero, and_self, List.append_assoc, List.length_append, Int.reduceLT, Int.reduceLE, Int.toNat_zero, Int.reduceToNat, Int.cast_ofNat_Int, Int.natCast_zero, Int.natCast_one, Int.reduceAdd, List.map_append, Option.bind_some, hid, hrow, hcj, h11, h12, e1]
      refine ⟨⟨j + 1, _⟩, ⟨hjl, by simp; omega, ?_, hb.ext _, fp _, rfl⟩, by simp only; omega⟩
      rw [← mid_same (reN B) hx (by rw [reN, if_neg (by simp [h11, h12])])]
      exact fr _
  have hjl : j = m := by simp at hc; omega
  subst hjl
  clear hc hj
  rw [List.take_of_length_le (by omega), List.drop_of_length_le (by omega), List.append_nil] at hid
  have ho : OwnAt H (.gs id ver 0 j) 6 (insR (K.map (reN B))) P H.length := .inr ⟨id, ver, i0, i1, by rw [insR_len, List.length_map, hkl], hid⟩
  have hlj : (insR (K.map (reN B))).length = j := by rw [insR_len, List.length_map, hkl]
  clear hid i0 i1
  generalize AV.gs id ver 0 j = a at ho hp ⊢
  simp only [go_sem, Nat.reduceEqDiff, reduceIte, ↓reduceIte, Nat.reduceAdd, List.replicate_succ, List.replicate_zero, List.set_cons_zero, List.set_cons_succ, List.length_cons, List.length_nil, Nat.reduceLT, Nat.lt_add_one, ne_eq, Int.reduceEq, not_false_eq_true, Option.map_some, Nat.reduceLeDiff, Nat.zero_lt_succ, List.map_cons, List.map_nil, List.nil_append, List.cons_append, List.append_nil, bytesOf, List.take_succ_cons, List.take_zero, List.drop_zero, and_self, List.append_assoc, List.length_append, Int.reduceLT, Int.reduceLE, Int.toNat_zero, Int.reduceToNat, Int.cast_ofNat_Int, Int.natCast_zero, Int.natCast_one, Int.reduceAdd, List.map_append, Option.bind_some, hb.v0, ints_len]
  intro _

  refine ⟨Nat × AV × List AO, [0, 1, 2, 3, 4, 5, 74, 75, 76], fun y st => y.1 ≤ c.starts.length ∧ OwnAt y.2.2 a 6 (insR (K.map (reN B))) P y.2.2.length ∧ OwnAt y.2.2 y.2.1 1 (intR .i64 ((c.starts.take y.1).map (reS B j))) P y.2.2.length ∧ TI c B sid sver M P (intR .i64 (posL B c.ins.length)) y.2.2 ∧ y.2.2[P]? = some (.var [a, y.2.1]) ∧
    st = ⟨[(0, .st [.p (.l (inss c.ins)), .p (.l (ints c.starts))]), (1, .ptr 0 0), (2, .ptr 1 0), (3, .gs sid sver 0 B.length), (4, .gs M 0 0 c.ins.length), (5, .ptr P 0), (74, .p (.l (ints c.starts))), (75, .p (.i .i64 c.starts.length)), (76, .p (.i .i64 y.1))], [], y.2.2⟩, fun y => c.starts.length - y.1, ⟨⟨0, .p .nl, H⟩, ?_⟩, ?_⟩
  · simp only [go_sem, Nat.reduceEqDiff, reduceIte, ↓reduceIte, Nat.reduceAdd, List.replicate_succ, List.replicate_zero, List.set_cons_zero, List.set_cons_succ, List.length_cons, List.length_nil, Nat.reduceLT, Nat.lt_add_one, ne_eq, Int.reduceEq, not_false_eq_true, Option.map_some, Nat.reduceLeDiff, Nat.zero_lt_succ, List.map_cons, List.map_nil, List.nil_append, List.cons_append, List.append_nil, bytesOf, List.take_succ_cons, List.take_zero, List.drop_zero, and_self, List.append_assoc, List.length_append, Int.reduceLT, Int.reduceLE, Int.toNat_zero, Int.reduceToNat, Int.cast_ofNat_Int, Int.natCast_zero, Int.natCast_one, Int.reduceAdd, List.map_append, Option.bind_some]
    exact ⟨Nat.zero_le _, ho, .inl ⟨rfl, rfl⟩, hb, hp⟩
  clear ho hb hp
  rintro ⟨k, b, H⟩ st ⟨hk, ho, hbo, hb, hp, rfl⟩
  simp only at hk ho hbo hb hp
  simp only [go_sem, Nat.reduceEqDiff, reduceIte, ↓reduceIte, Nat.reduceAdd, List.replicate_succ, List.replicate_zero, List.set_cons_zero, List.set_cons_succ, List.length_cons, List.length_nil, Nat.reduceLT, Nat.lt_add_one, ne_eq, Int.reduceEq, not_false_eq_true, Option.map_some, Nat.reduceLeDiff, Nat.zero_lt_succ, List.map_cons, List.map_nil, List.nil_append, List.cons_append, List.append_nil, bytesOf, List.take_succ_cons, List.take_zero, List.drop_zero, and_self, List.append_assoc, List.length_append, Int.reduceLT, Int.reduceLE, Int.toNat_zero, Int.reduceToNat, Int.cast_ofNat_Int, Int.natCast_zero, Int.natCast_one, Int.reduceAdd, List.map_append, Option.bind_some]
  refine condK_split _ (fun hc => ?_) (fun hc => ?_)
  · have hkl : k < c.starts.length := by simpa using hc
    have hck : (k : Int) < (c.starts.length : Int) := by omega
    obtain ⟨s, hs⟩ : ∃ s, c.starts[k]? = some s := ⟨_, List.getElem?_eq_getElem hkl⟩
    have hsi : (ints c.starts)[k]? = some [.i .i64 s] := by simp [ints, hs]
    obtain ⟨s0, s1⟩ := hw.start k s hs
    have hsb : s.toNat < B.length := by omega
    have s2 : s < (B.length : Int) := by omega
    have s3 : s < (c.ins.length : Int) := by omega
    have e1 := wr1 hkl hok.2
    have hB1 : B[s.toNat]? = some B[s.toNat] := List.getElem?_eq_getElem hsb
    have hke0 : c.starts.take (k + 1) = c.starts.take k ++ [s] := by rw [List.take_succ, hs]; rfl
    simp only [go_sem, Nat.reduceEqDiff, reduceIte, ↓reduceIte, Nat.reduceAdd, List.replicate_succ, List.replicate_zero, List.set_cons_zero, List.set_cons_succ, List.length_cons, List.length_nil, Nat.reduceLT, Nat.lt_add_one, ne_eq, Int.reduceEq, not_false_eq_true, Option.map_some, Nat.reduceLeDiff, Nat.zero_lt_succ, List.map_cons, List.map_nil, List.nil_append, List.cons_append, List.append_nil, bytesOf, List.take_succ_cons, List.take_zero, List.drop_zero, and_self, List.append_assoc, List.length_append, Int.reduceLT, Int.reduceLE, Int.toNat_zero, Int.reduceToNat, Int.cast_ofNat_Int, Int.natCast_zero, Int.natCast_one, Int.reduceAdd, List.map_append, Option.bind_some, hb.v0, hsi, hb.sn, boolR_at hsb, s0, s2, hck]
    refine condK_split _ (fun hd => ?_) (fun hd => ?_)
    · have hd' : B[s.toNat] = true := by simpa using hd
      rw [hd'] at hB1
      have hke : (c.starts.take (k + 1)).map (reS B (j)) = (c.starts.take k).map (reS B (j)) ++ [((pos B s.toNat : Nat) : Int)] := by rw [hke0, List.map_append, List.map_cons, List.map_nil, reS, if_pos hB1]
      simp only [go_sem, Nat.reduceEqDiff, reduceIte, ↓reduceIte, Nat.reduceAdd, List.replicate_succ, List.replicate_zero, List.set_cons_zero, List.set_cons_succ, List.length_cons, List.length_nil, Nat.reduceLT, Nat.lt_add_one, ne_eq, Int.reduceEq, not_false_eq_true, Option.map_some, Nat.reduceLeDiff, Nat.zero_lt_succ, List.map_cons, List.map_nil, List.nil_append, List.cons_append, List.append_nil, bytesOf, List.take_succ_cons, List.take_zero, List.drop_zero, and_self, List.append_assoc, List.length_append, Int.reduceLT, Int.reduceLE, Int.toNat_zero, Int.reduceToNat, Int.cast_ofNat_Int, Int.natCast_zero, Int.natCast_one, Int.reduceAdd, List.map_append, Option.bind_some]
      refine drw_same ?_
      simp only [go_sem, Nat.reduceEqDiff, reduceIte, ↓reduceIte, Nat.reduceAdd, List.replicate_succ, List.replicate_zero, List.set_cons_zero, List.set_cons_succ, List.length_cons, List.length_nil, Nat.reduceLT, Nat.lt_add_one, ne_eq, Int.reduceEq, not_false_eq_true, Option.map_some, Nat.reduceLeDiff, Nat.zero_lt_succ, List.map_cons, List.map_nil, List.nil_append, List.cons_append, List.append_nil, bytesOf, List.take_succ_cons, List.take_zero, List.drop_zero, and_self, List.append_assoc, List.length_append, Int.reduceLT, Int.reduceLE, Int.toNat_zero, Int.reduceToNat, Int.cast_ofNat_Int, Int.natCast_zero, Int.natCast_one, Int.reduceAdd, List.map_append, Option.bind_some, hp, hb.v0, hsi, hb.to, posL_at B s1, s0, s3, hck]
      refine ⟨by simp, app_at (hbo.ext _) (by have := hb.le; simp; omega) (by simp [intR]; omega) (by simp [intR]; omega) fun id ver H' q0 q1 q2 q3 q4 => ?_⟩
      rw [show (intR .i64 ((c.starts.take k).map (reS B (j))) ++ [[AV.p (.i .i64 ((pos B s.toNat : Nat) : Int))]]) = intR .i64 ((c.starts.take (k + 1)).map (reS B (j))) by rw [hke, ← intR_app]; rfl] at q2
      have hb' := (hb.ext [AO.rows 1 0 [[AV.p (.i .i64 ((pos B s.toNat : Nat) : Int))]]]).sk q3
      have ho' : OwnAt H' a 6 (insR (K.map (reN B))) P H'.length := by
        rcases ho.ext [AO.rows 1 0 [[AV.p (.i .i64 ((pos B s.toNat : Nat) : Int))]]] with h | ⟨id6, ver6, z0, z1, z2, z3⟩
        · exact .inl h
        · exact .inr ⟨id6, ver6, z0, by have := q3.2.2; simp at this; omega, z2, q4 _ _ _ _ (by omega) z3⟩
      have hp' : H'[P]? = some (.var [a, b]) := q3.1 P _ (get_ext hp _) (fun f => f)
      rw [show (intR .i64 ((c.starts.take k).map (reS B (j)))).length + [[AV.p (.i .i64 ((pos B s.toNat : Nat) : Int))]].length = (intR .i64 ((c.starts.take (k + 1)).map (reS B (j)))).length by rw [hke]; simp [intR]]
      simp only [go_sem, Nat.reduceEqDiff, reduceIte, ↓reduceIte, Nat.reduceAdd, List.replicate_succ, List.replicate_zero, List.set_cons_zero, List.set_cons_succ, List.length_cons, List.length_nil, Nat.reduceLT, Nat.lt_add_one, ne_eq, Int.reduceEq, not_false_eq_true, Option.map_some, Nat.reduceLeDiff, Nat.zero_lt_succ, List.map_cons, List.map_nil, List.nil_append, List.cons_append, List.append_nil, bytesOf, List.take_succ_cons, List.take_zero, List.drop_zero, and_self, List.append_assoc, List.length_append, Int.reduceLT, Int.reduceLE, Int.toNat_zero, Int.reduceToNat, Int.cast_ofNat_Int, Int.natCast_zero, Int.natCast_one, Int.reduceAdd, List.map_append, Option.bind_some, hp', e1]
      have hbo' : OwnAt H' (.gs id ver 0 (intR .i64 ((c.starts.take (k + 1)).map (reS B (j)))).length) 1 (intR .i64 ((c.starts.take (k + 1)).map (reS B (j)))) P H'.length := .inr ⟨id, ver, q0, q1, rfl, q2⟩
      exact ⟨⟨k + 1, _, H'.set P (.var [a, .gs id ver 0 (intR .i64 ((c.starts.take (k + 1)).map (reS B (j)))).length])⟩, ⟨hkl, (ho'.put hp' _).wk (by simp), (hbo'.put hp' _).wk (by simp), hb'.set _ (Nat.le_refl _), set_get hp', rfl⟩, by simp only; omega⟩
    · have hd' : B[s.toNat] = false := by simpa using hd
      rw [hd'] at hB1
      have hke : (c.starts.take (k + 1)).map (reS B (j)) = (c.starts.take k).map (reS B (j)) ++ [((j : Nat) : Int) - 1] := by rw [hke0, List.map_append, List.map_cons, List.map_nil, reS, if_neg (by rw [hB1]; simp)]
      have e2 : wr .i64 (((j : Nat) : Int) - 1) = ((j : Nat) : Int) - 1 := wr64 (by omega) (by omega)
      simp only [go_sem, Nat.reduceEqDiff, reduceIte, ↓reduceIte, Nat.reduceAdd, List.replicate_succ, List.replicate_zero, List.set_cons_zero, List.set_cons_succ, List.length_cons, List.length_nil, Nat.reduceLT, Nat.lt_add_one, ne_eq, Int.reduceEq, not_false_eq_true, Option.map_some, Nat.reduceLeDiff, Nat.zero_lt_succ, List.map_cons, List.map_nil, List.nil_append, List.cons_append, List.append_nil, bytesOf, List.take_succ_cons, List.take_zero, List.drop_zero, and_self, List.append_assoc, List.length_append, Int.reduceLT, Int.reduceLE, Int.toNat_zero, Int.reduceToNat, Int.cast_ofNat_Int, Int.natCast_zero, Int.natCast_one, Int.reduceAdd, List.map_append, Option.bind_some, hp]
      refine len_own ho ?_
      rw [hlj]
      simp only [go_sem, Nat.reduceEqDiff, reduceIte, ↓reduceIte, Nat.reduceAdd, List.replicate_succ, List.replicate_zero, List.set_cons_zero, List.set_cons_succ, List.length_cons, List.length_nil, Nat.reduceLT, Nat.lt_add_one, ne_eq, Int.reduceEq, not_false_eq_true, Option.map_some, Nat.reduceLeDiff, Nat.zero_lt_succ, List.map_cons, List.map_nil, List.nil_append, List.cons_append, List.append_nil, bytesOf, List.take_succ_cons, List.take_zero, List.drop_zero, and_self, List.append_assoc, List.length_append, Int.reduceLT, Int.reduceLE, Int.toNat_zero, Int.reduceToNat, Int.cast_ofNat_Int, Int.natCast_zero, Int.natCast_one, Int.reduceAdd, List.map_append, Option.bind_some, hp, e2]
      refine ⟨by simp, app_at (hbo.ext _) (by have := hb.le; simp; omega) (by simp [intR]; omega) (by simp [intR]; omega) fun id ver H' q0 q1 q2 q3 q4 => ?_⟩
      rw [show (intR .i64 ((c.starts.take k).map (reS B (j))) ++ [[AV.p (.i .i64 (((j : Nat) : Int) - 1))]]) = intR .i64 ((c.starts.take (k + 1)).map (reS B (j))) by rw [hke, ← intR_app]; rfl] at q2
      have hb' := (hb.ext [AO.rows 1 0 [[AV.p (.i .i64 (((j : Nat) : Int) - 1))]]]).sk q3
      have ho' : OwnAt H' a 6 (insR (K.map (reN B))) P H'.length := by
        rcases ho.ext [AO.rows 1 0 [[AV.p (.i .i64 (((j : Nat) : Int) - 1))]]] with h | ⟨id6, ver6, z0, z1, z2, z3⟩
        · exact .inl h
        · exact .inr ⟨id6, ver6, z0, by have := q3.2.2; simp at this; omega, z2, q4 _ _ _ _ (by omega) z3⟩
      have hp' : H'[P]? = some (.var [a, b]) := q3.1 P _ (get_ext hp _) (fun f => f)
      rw [show (intR .i64 ((c.starts.take k).map (reS B (j)))).length + [[AV.p (.i .i64 (((j : Nat) : Int) - 1))]].length = (intR .i64 ((c.starts.take (k + 1)).map (reS B (j)))).length by rw [hke]; simp [intR]]
      simp only [go_sem, Nat.reduceEqDiff, reduceIte, ↓reduceIte, Nat.reduceAdd, List.replicate_succ, List.replicate_zero, List.set_cons_zero, List.set_cons_succ, List.length_cons, List.length_nil, Nat.reduceLT, Nat.lt_add_one, ne_eq, Int.reduceEq, not_false_eq_true, Option.map_some, Nat.reduceLeDiff, Nat.zero_lt_succ, List.map_cons, List.map_nil, List.nil_append, List.cons_append, List.append_nil, bytesOf, List.take_succ_cons, List.take_zero, List.drop_zero, and_self, List.append_assoc, List.length_append, Int.reduceLT, Int.reduceLE, Int.toNat_zero, Int.reduceToNat, Int.cast_ofNat_Int, Int.natCast_zero, Int.natCast_one, Int.reduceAdd, List.map_append, Option.bind_some, hp', e1]
      have hbo' : OwnAt H' (.gs id ver 0 (intR .i64 ((c.starts.take (k + 1)).map (reS B (j)))).length) 1 (intR .i64 ((c.starts.take (k + 1)).map (reS B (j)))) P H'.length := .inr ⟨id, ver, q0, q1, rfl, q2⟩
      exact ⟨⟨k + 1, _, H'.set P (.var [a, .gs id ver 0 (intR .i64 ((c.starts.take (k + 1)).map (reS B (j)))).length])⟩, ⟨hkl, (ho'.put hp' _).wk (by simp), (hbo'.put hp' _).wk (by simp), hb'.set _ (Nat.le_refl _), set_get hp', rfl⟩, by simp only; omega⟩
  have hkl : k = c.starts.length := by simp at hc; omega
  subst hkl
  rw [List.take_length] at hbo
  simp only [go_sem, Nat.reduceEqDiff, reduceIte, ↓reduceIte, Nat.reduceAdd, List.replicate_succ, List.replicate_zero, List.set_cons_zero, List.set_cons_succ, List.length_cons, List.length_nil, Nat.reduceLT, Nat.lt_add_one, ne_eq, Int.reduceEq, not_false_eq_true, Option.map_some, Nat.reduceLeDiff, Nat.zero_lt_succ, List.map_cons, List.map_nil, List.nil_append, List.cons_append, List.append_nil, bytesOf, List.take_succ_cons, List.take_zero, List.drop_zero, and_self, List.append_assoc, List.length_append, Int.reduceLT, Int.reduceLE, Int.toNat_zero, Int.reduceToNat, Int.cast_ofNat_Int, Int.natCast_zero, Int.natCast_one, Int.reduceAdd, List.map_append, Option.bind_some, hp, hb.v1, set_get hb.v1]
  exact ⟨a, b, rfl, (ho.put hb.v1 _).own, (hbo.put hb.v1 _).own⟩
end Go.Proofs.Ytmbggdfceecojaa.Cd

/- Trim: the law. -/
set_option linter.all false
namespace Go.Proofs.Ytmbggdfceecojaa.Cd
open Go.AM Mc Ho

theorem OwnCAt.keep {H H' : List AO} {r : AV} {t : CodeD} {lo hi : Nat} (h : OwnCAt H r t lo hi) (k : ∀ (j : Nat) o, H[j]? = some o → lo ≤ j → j < hi → H'[j]? = some o) : OwnCAt H' r t lo hi := by
  obtain ⟨a, b, rfl, ha, hb⟩ := h
  refine ⟨a, b, rfl, ?_, ?_⟩
  · rcases ha with h | ⟨id, ver, h0, h1, h2, h3⟩
    · exact .inl h
    · exact .inr ⟨id, ver, h0, h1, h2, k _ _ h3 h0 h1⟩
  · rcases hb with h | ⟨id, ver, h0, h1, h2, h3⟩
    · exact .inl h
    · exact .inr ⟨id, ver, h0, h1, h2, k _ _ h3 h0 h1⟩
theorem OwnCAt.ext {H : List AO} {r : AV} {t : CodeD} {lo hi : Nat} (h : OwnCAt H r t lo hi) (A : List AO) : OwnCAt (H ++ A) r t lo hi := h.keep fun j o hj _ _ => get_ext hj A
theorem PatAt.ext {H : List AO} {r : AV} {m n : Nat} {lo hi : Nat} (h : PatAt H r m n lo hi) (A : List AO) : PatAt (H ++ A) r m n lo hi := by
  obtain ⟨a, b, rfl, ha, hb⟩ := h
  exact ⟨a, b, rfl, ha.ext A, hb.ext A⟩
theorem OwnCAt.lent {H : List AO} {r : AV} {t : CodeD} {lo hi : Nat} (h : OwnCAt H r t lo hi) : Lent H r (.st (t.cells.map .p)) := by
  obtain ⟨a, b, rfl, ha, hb⟩ := h
  refine .st _ _ rfl fun j x y hx hy => ?_
  match j with
  | 0 => cases hx; cases hy; exact ownI_lent ha.own
  | 1 => cases hx; cases hy; exact ownZ_lent hb.own
  | j + 2 => simp [CodeD.cells] at hy

theorem specTrim (c : CodeD) (hok : okCode c) {H : List AO} {a : AV} (ha : Lent H a (.st (c.cells.map .p))) : ACall Try.prog 33 [a] H (fun r H' => ∃ A, H' = H ++ A ∧ OwnCAt H' r (trimD c) H.length H'.length) :=
  acall_ownC (specTrim0 c hok) (lentAll_cons ha (lentAll_nil _))
theorem implTrim (c : CodeD) (hok : okCode c) {H : List AO} {a : AV} (ha : Lent H a (.st (c.cells.map .p))) : ACall Try.prog 34 [a] H (fun r H' => ∃ A, H' = H ++ A ∧ OwnCAt H' r (trimD c) H.length H'.length) :=
  acall_ownC (implTrim0 c hok) (lentAll_cons ha (lentAll_nil _))

/-- what the law keeps: the argument, the reference's answer -/
structure LS (c t : CodeD) (wa wb : AV) (iw : Nat) (H : List AO) : Prop where
  v : H[0]? = some (.var (c.cells.map .p))
  wv : H[iw]? = some (.var [wa, wb])
  w : OwnCAt H (.st [wa, wb]) t 1 iw
theorem LS.keep {c t : CodeD} {wa wb : AV} {iw : Nat} {H H' : List AO} (h : LS c t wa wb iw H) (k : ∀ (j : Nat) o, H[j]? = some o → j ≤ iw → H'[j]? = some o) : LS c t wa wb iw H' :=
  ⟨k _ _ h.v (Nat.zero_le _), k _ _ h.wv (Nat.le_refl _), h.w.keep fun j o hj _ h1 => k j o hj (Nat.le_of_lt h1)⟩
theorem LS.ext {c t : CodeD} {wa wb : AV} {iw : Nat} {H : List AO} (h : LS c t wa wb iw H) (A : List AO) : LS c t wa wb iw (H ++ A) := h.keep fun j o hj _ => get_ext hj A

set_option maxHeartbeats 4000000 in
theorem lawTrim (c : CodeD) (hok : okCode c) (hrg : rngCode c) : ACall Try.prog 6 [.st (c.cells.map .p)] [] (fun r _ => r = .p (.b true)) := by
  refine call6 (by simp) ?_
  simp only [go_sem, Nat.reduceEqDiff, reduceIte, ↓reduceIte, Nat.reduceAdd, List.replicate_succ, List.replicate_zero, List.set_cons_zero, List.set_cons_succ, List.length_cons, List.length_nil, Nat.reduceLT, Nat.lt_add_one, ne_eq, Int.reduceEq, not_false_eq_true, Option.map_some, Nat.reduceLeDiff, Nat.zero_lt_succ, List.map_cons, List.map_nil, List.nil_append, List.cons_append, List.append_nil, bytesOf, List.take_succ_cons, List.take_zero, List.drop_zero, and_self, List.append_assoc, List.length_append, Int.reduceLT, Int.reduceLE, Int.toNat_zero, Int.reduceToNat, Int.cast_ofNat_Int, Int.natCast_zero, Int.natCast_one, Int.reduceAdd, List.map_append, Option.bind_some, mc6, mr6, CodeD.cells]
  rw [code_eta]
  refine (szCode_any c hok).mono ?_
  rintro r H' ⟨⟨q, rfl, hq⟩, rfl⟩
  simp only [go_sem, Nat.reduceEqDiff, reduceIte, ↓reduceIte, Nat.reduceAdd, List.replicate_succ, List.replicate_zero, List.set_cons_zero, List.set_cons_succ, List.length_cons, List.length_nil, Nat.reduceLT, Nat.lt_add_one, ne_eq, Int.reduceEq, not_false_eq_true, Option.map_some, Nat.reduceLeDiff, Nat.zero_lt_succ, List.map_cons, List.map_nil, List.nil_append, List.cons_append, List.append_nil, bytesOf, List.take_succ_cons, List.take_zero, List.drop_zero, and_self, List.append_assoc, List.length_append, Int.reduceLT, Int.reduceLE, Int.toNat_zero, Int.reduceToNat, Int.cast_ofNat_Int, Int.natCast_zero, Int.natCast_one, Int.reduceAdd, List.map_append, Option.bind_some]
  refine condK_split _ (fun hq0 => ?_) (fun hq0 => ?_)
  · simp only [go_sem, Nat.reduceEqDiff, reduceIte, ↓reduceIte, Nat.reduceAdd, List.replicate_succ, List.replicate_zero, List.set_cons_zero, List.set_cons_succ, List.length_cons, List.length_nil, Nat.reduceLT, Nat.lt_add_one, ne_eq, Int.reduceEq, not_false_eq_true, Option.map_some, Nat.reduceLeDiff, Nat.zero_lt_succ, List.map_cons, List.map_nil, List.nil_append, List.cons_append, List.append_nil, bytesOf, List.take_succ_cons, List.take_zero, List.drop_zero, and_self, List.append_assoc, List.length_append, Int.reduceLT, Int.reduceLE, Int.toNat_zero, Int.reduceToNat, Int.cast_ofNat_Int, Int.natCast_zero, Int.natCast_one, Int.reduceAdd, List.map_append, Option.bind_some]
  have hq1 : ¬ q < 0 := by simpa using hq0
  have hsm : small c := by rcases hq with h | h; exact (hq1 h).elim; exact h.2
  have hot := trimD_ok hok
  have hst := trimD_small hsm
  have hst' := hst
  unfold small at hst'
  simp only [go_sem, Nat.reduceEqDiff, reduceIte, ↓reduceIte, Nat.reduceAdd, List.replicate_succ, List.replicate_zero, List.set_cons_zero, List.set_cons_succ, List.length_cons, List.length_nil, Nat.reduceLT, Nat.lt_add_one, ne_eq, Int.reduceEq, not_false_eq_true, Option.map_some, Nat.reduceLeDiff, Nat.zero_lt_succ, List.map_cons, List.map_nil, List.nil_append, List.cons_append, List.append_nil, bytesOf, List.take_succ_cons, List.take_zero, List.drop_zero, and_self, List.append_assoc, List.length_append, Int.reduceLT, Int.reduceLE, Int.toNat_zero, Int.reduceToNat, Int.cast_ofNat_Int, Int.natCast_zero, Int.natCast_one, Int.reduceAdd, List.map_append, Option.bind_some, code_take]
  refine (toCode c hok hsm _).mono ?_
  rintro r H' ⟨rfl, rfl⟩
  simp only [go_sem, Nat.reduceEqDiff, reduceIte, ↓reduceIte, Nat.reduceAdd, List.replicate_succ, List.replicate_zero, List.set_cons_zero, List.set_cons_succ, List.length_cons, List.length_nil, Nat.reduceLT, Nat.lt_add_one, ne_eq, Int.reduceEq, not_false_eq_true, Option.map_some, Nat.reduceLeDiff, Nat.zero_lt_succ, List.map_cons, List.map_nil, List.nil_append, List.cons_append, List.append_nil, bytesOf, List.take_succ_cons, List.take_zero, List.drop_zero, and_self, List.append_assoc, List.length_append, Int.reduceLT, Int.reduceLE, Int.toNat_zero, Int.reduceToNat, Int.cast_ofNat_Int, Int.natCast_zero, Int.natCast_one, Int.reduceAdd, List.map_append, Option.bind_some]
  have hl0 := lent_code c (H := [AO.var (c.cells.map .p)] ++ codeO c) (i := 1) rfl rfl
  refine (specTrim c hok hl0).mono ?_
  rintro w0 H1 ⟨A1, hH1, hw⟩
  obtain ⟨wa, wb, rfl, hwa, hwb⟩ := hw
  have hv1 : H1[0]? = some (.var (c.cells.map .p)) := by rw [hH1]; rfl
  have hw : OwnCAt H1 (.st [wa, wb]) (trimD c) 1 H1.length := by
    refine ⟨wa, wb, rfl, ?_, ?_⟩
    · rcases hwa with h | ⟨id, ver, h0, h1, h2, h3⟩
      · exact .inl h
      · exact .inr ⟨id, ver, by simp at h0; omega, h1, h2, h3⟩
    · rcases hwb with h | ⟨id, ver, h0, h1, h2, h3⟩
      · exact .inl h
      · exact .inr ⟨id, ver, by simp at h0; omega, h1, h2, h3⟩
  clear hH1 hl0 hwa hwb
  have hs1 : LS c (trimD c) wa wb H1.length (H1 ++ [AO.var [wa, wb]]) := ⟨get_ext hv1 _, get_off0 _ _, hw.ext _⟩
  have hi1 : 0 < H1.length := get_lt hv1
  clear hv1 hw
  have hl1 : (H1 ++ [AO.var [wa, wb]]).length = H1.length + 1 := by simp
  simp only [go_sem, Nat.reduceEqDiff, reduceIte, ↓reduceIte, Nat.reduceAdd, List.replicate_succ, List.replicate_zero, List.set_cons_zero, List.set_cons_succ, List.length_cons, List.length_nil, Nat.reduceLT, Nat.lt_add_one, ne_eq, Int.reduceEq, not_false_eq_true, Option.map_some, Nat.reduceLeDiff, Nat.zero_lt_succ, List.map_cons, List.map_nil, List.nil_append, List.cons_append, List.append_nil, bytesOf, List.take_succ_cons, List.take_zero, List.drop_zero, and_self, List.append_assoc, List.length_append, Int.reduceLT, Int.reduceLE, Int.toNat_zero, Int.reduceToNat, Int.cast_ofNat_Int, Int.natCast_zero, Int.natCast_one, Int.reduceAdd, List.map_append, Option.bind_some]
  generalize H1 ++ [AO.var [wa, wb]] = H2 at hs1 hl1 ⊢
  generalize H1.length = iw at hs1 hi1 hl1 ⊢
  simp only [go_sem, Nat.reduceEqDiff, reduceIte, ↓reduceIte, Nat.reduceAdd, List.replicate_succ, List.replicate_zero, List.set_cons_zero, List.set_cons_succ, List.length_cons, List.length_nil, Nat.reduceLT, Nat.lt_add_one, ne_eq, Int.reduceEq, not_false_eq_true, Option.map_some, Nat.reduceLeDiff, Nat.zero_lt_succ, List.map_cons, List.map_nil, List.nil_append, List.cons_append, List.append_nil, bytesOf, List.take_succ_cons, List.take_zero, List.drop_zero, and_self, List.append_assoc, List.length_append, Int.reduceLT, Int.reduceLE, Int.toNat_zero, Int.reduceToNat, Int.cast_ofNat_Int, Int.natCast_zero, Int.natCast_one, Int.reduceAdd, List.map_append, Option.bind_some, hs1.v, code_take]
  refine (toCode c hok hsm _).mono ?_
  rintro r H' ⟨rfl, rfl⟩
  simp only [go_sem, Nat.reduceEqDiff, reduceIte, ↓reduceIte, Nat.reduceAdd, List.replicate_succ, List.replicate_zero, List.set_cons_zero, List.set_cons_succ, List.length_cons, List.length_nil, Nat.reduceLT, Nat.lt_add_one, ne_eq, Int.reduceEq, not_false_eq_true, Option.map_some, Nat.reduceLeDiff, Nat.zero_lt_succ, List.map_cons, List.map_nil, List.nil_append, List.cons_append, List.append_nil, bytesOf, List.take_succ_cons, List.take_zero, List.drop_zero, and_self, List.append_assoc, List.length_append, Int.reduceLT, Int.reduceLE, Int.toNat_zero, Int.reduceToNat, Int.cast_ofNat_Int, Int.natCast_zero, Int.natCast_one, Int.reduceAdd, List.map_append, Option.bind_some, codeAt, codeO]
  refine (implTrim c hok (lent_code c (i := H2.length) ?_ ?_)).mono ?_
  · rw [get_off0]; rfl
  · rw [get_off]; rfl
  rintro g0 H3 ⟨A3, hH3, hg⟩
  obtain ⟨ga, gb, rfl, hga, hgb⟩ := hg
  have hs3 : LS c (trimD c) wa wb iw H3 := by rw [hH3]; exact (hs1.ext _).ext _
  have h60 : H3[H2.length]? = some (.rows 6 0 (insR c.ins)) := by rw [hH3]; refine get_ext ?_ _; rw [get_off0]; rfl
  have h61 : H3[H2.length + 1]? = some (.rows 1 0 (intR .i64 c.starts)) := by rw [hH3]; refine get_ext ?_ _; rw [get_off]; rfl
  have hx3 : H3[H2.length + 2]? = some (.var [.gs H2.length 0 0 c.ins.length, .gs (H2.length + 1) 0 0 c.starts.length]) := by rw [hH3]; refine get_ext ?_ _; rw [get_off]; rfl
  have hg3 : OwnCAt H3 (.st [ga, gb]) (trimD c) (H2.length + 3) H3.length := by
    refine ⟨ga, gb, rfl, ?_, ?_⟩
    · rcases hga with h | ⟨id, ver, h0, h1, h2, h3⟩
      · exact .inl h
      · exact .inr ⟨id, ver, by simp at h0; omega, h1, h2, h3⟩
    · rcases hgb with h | ⟨id, ver, h0, h1, h2, h3⟩
      · exact .inl h
      · exact .inr ⟨id, ver, by simp at h0; omega, h1, h2, h3⟩
  have hi3 : H2.length + 2 < H3.length := get_lt hx3
  clear hga hgb hH3 hs1
  generalize H2.length = ix at *
  simp only [go_sem, Nat.reduceEqDiff, reduceIte, ↓reduceIte, Nat.reduceAdd, List.replicate_succ, List.replicate_zero, List.set_cons_zero, List.set_cons_succ, List.length_cons, List.length_nil, Nat.reduceLT, Nat.lt_add_one, ne_eq, Int.reduceEq, not_false_eq_true, Option.map_some, Nat.reduceLeDiff, Nat.zero_lt_succ, List.map_cons, List.map_nil, List.nil_append, List.cons_append, List.append_nil, bytesOf, List.take_succ_cons, List.take_zero, List.drop_zero, and_self, List.append_assoc, List.length_append, Int.reduceLT, Int.reduceLE, Int.toNat_zero, Int.reduceToNat, Int.cast_ofNat_Int, Int.natCast_zero, Int.natCast_one, Int.reduceAdd, List.map_append, Option.bind_some]
  have hs4 := hs3.ext [AO.var [ga, gb]]
  have hgv4 : (H3 ++ [AO.var [ga, gb]])[H3.length]? = some (.var [ga, gb]) := get_off0 _ _
  have hg4 := hg3.ext [AO.var [ga, gb]]
  have h40 := get_ext h60 [AO.var [ga, gb]]
  have h41 := get_ext h61 [AO.var [ga, gb]]
  have hx4 := get_ext hx3 [AO.var [ga, gb]]
  clear hs3 hg3 h60 h61 hx3
  generalize H3 ++ [AO.var [ga, gb]] = H4 at *
  generalize H3.length = ig at *
  simp only [go_sem, Nat.reduceEqDiff, reduceIte, ↓reduceIte, Nat.reduceAdd, List.replicate_succ, List.replicate_zero, List.set_cons_zero, List.set_cons_succ, List.length_cons, List.length_nil, Nat.reduceLT, Nat.lt_add_one, ne_eq, Int.reduceEq, not_false_eq_true, Option.map_some, Nat.reduceLeDiff, Nat.zero_lt_succ, List.map_cons, List.map_nil, List.nil_append, List.cons_append, List.append_nil, bytesOf, List.take_succ_cons, List.take_zero, List.drop_zero, and_self, List.append_assoc, List.length_append, Int.reduceLT, Int.reduceLE, Int.toNat_zero, Int.reduceToNat, Int.cast_ofNat_Int, Int.natCast_zero, Int.natCast_one, Int.reduceAdd, List.map_append, Option.bind_some, hgv4, hs4.wv]
  refine (eqCode_any _ _ hot hot hg4.lent hs4.w.lent).mono ?_
  rintro r H' ⟨rfl, rfl⟩
  simp only [go_sem, Nat.reduceEqDiff, reduceIte, ↓reduceIte, Nat.reduceAdd, List.replicate_succ, List.replicate_zero, List.set_cons_zero, List.set_cons_succ, List.length_cons, List.length_nil, Nat.reduceLT, Nat.lt_add_one, ne_eq, Int.reduceEq, not_false_eq_true, Option.map_some, Nat.reduceLeDiff, Nat.zero_lt_succ, List.map_cons, List.map_nil, List.nil_append, List.cons_append, List.append_nil, bytesOf, List.take_succ_cons, List.take_zero, List.drop_zero, and_self, List.append_assoc, List.length_append, Int.reduceLT, Int.reduceLE, Int.toNat_zero, Int.reduceToNat, Int.cast_ofNat_Int, Int.natCast_zero, Int.natCast_one, Int.reduceAdd, List.map_append, Option.bind_some]
  refine drw_same ?_
  simp only [go_sem, Nat.reduceEqDiff, reduceIte, ↓reduceIte, Nat.reduceAdd, List.replicate_succ, List.replicate_zero, List.set_cons_zero, List.set_cons_succ, List.length_cons, List.length_nil, Nat.reduceLT, Nat.lt_add_one, ne_eq, Int.reduceEq, not_false_eq_true, Option.map_some, Nat.reduceLeDiff, Nat.zero_lt_succ, List.map_cons, List.map_nil, List.nil_append, List.cons_append, List.append_nil, bytesOf, List.take_succ_cons, List.take_zero, List.drop_zero, and_self, List.append_assoc, List.length_append, Int.reduceLT, Int.reduceLE, Int.toNat_zero, Int.reduceToNat, Int.cast_ofNat_Int, Int.natCast_zero, Int.natCast_one, Int.reduceAdd, List.map_append, Option.bind_some, hx4, hs4.v, code_take]
  refine pcall_pure (fun A => (toCode_fresh c hok hsm).mono fun r H' ⟨h1, h2⟩ => ⟨h2, h1⟩) (Hext.refl _) ?_
  simp only [go_sem, Nat.reduceEqDiff, reduceIte, ↓reduceIte, Nat.reduceAdd, List.replicate_succ, List.replicate_zero, List.set_cons_zero, List.set_cons_succ, List.length_cons, List.length_nil, Nat.reduceLT, Nat.lt_add_one, ne_eq, Int.reduceEq, not_false_eq_true, Option.map_some, Nat.reduceLeDiff, Nat.zero_lt_succ, List.map_cons, List.map_nil, List.nil_append, List.cons_append, List.append_nil, bytesOf, List.take_succ_cons, List.take_zero, List.drop_zero, and_self, List.append_assoc, List.length_append, Int.reduceLT, Int.reduceLE, Int.toNat_zero, Int.reduceToNat, Int.cast_ofNat_Int, Int.natCast_zero, Int.natCast_one, Int.reduceAdd, List.map_append, Option.bind_some]
  refine (eqCode_any c c hok hok (lent_code c h40 h41) (code_lent c)).mono ?_
  rintro r H' ⟨rfl, rfl⟩
  simp only [go_sem, Nat.reduceEqDiff, reduceIte, ↓reduceIte, Nat.reduceAdd, List.replicate_succ, List.replicate_zero, List.set_cons_zero, List.set_cons_succ, List.length_cons, List.length_nil, Nat.reduceLT, Nat.lt_add_one, ne_eq, Int.reduceEq, not_false_eq_true, Option.map_some, Nat.reduceLeDiff, Nat.zero_lt_succ, List.map_cons, List.map_nil, List.nil_append, List.cons_append, List.append_nil, bytesOf, List.take_succ_cons, List.take_zero, List.drop_zero, and_self, List.append_assoc, List.length_append, Int.reduceLT, Int.reduceLE, Int.toNat_zero, Int.reduceToNat, Int.cast_ofNat_Int, Int.natCast_zero, Int.natCast_one, Int.reduceAdd, List.map_append, Option.bind_some, hx4]
  refine (markCode c hsm h40 h41).mono ?_
  rintro r H5 ⟨⟨k, hk0, rfl⟩, rs, us, o, hH5⟩
  have hkf : decide (k < 0) = false := by simp; exact hk0
  have kp : ∀ (j : Nat) o', H'[j]? = some o' → j ≠ ix → j ≠ ix + 1 → H5[j]? = some o' := fun j o' hj h1 h2 => by rw [hH5]; exact get_ext (get_set (get_set hj (by omega)) (by omega)) _
  have hs5 := hs4.keep (H' := H5) fun j o hj hl => kp j o hj (by omega) (by omega)
  have hgv5 := kp _ _ hgv4 (by omega) (by omega)
  have hg5 := hg4.keep (H' := H5) fun j o hj h0 h1 => kp j o hj (by omega) (by omega)
  have hl5 : ig ≤ H5.length := by have := get_lt hgv5; omega
  clear hH5 kp h40 h41 hx4 hs4 hgv4 hg4
  simp only [go_sem, Nat.reduceEqDiff, reduceIte, ↓reduceIte, Nat.reduceAdd, List.replicate_succ, List.replicate_zero, List.set_cons_zero, List.set_cons_succ, List.length_cons, List.length_nil, Nat.reduceLT, Nat.lt_add_one, ne_eq, Int.reduceEq, not_false_eq_true, Option.map_some, Nat.reduceLeDiff, Nat.zero_lt_succ, List.map_cons, List.map_nil, List.nil_append, List.cons_append, List.append_nil, bytesOf, List.take_succ_cons, List.take_zero, List.drop_zero, and_self, List.append_assoc, List.length_append, Int.reduceLT, Int.reduceLE, Int.toNat_zero, Int.reduceToNat, Int.cast_ofNat_Int, Int.natCast_zero, Int.natCast_one, Int.reduceAdd, List.map_append, Option.bind_some, hkf, hgv5, hs5.wv]
  refine (eqCode_any _ _ hot hot hg5.lent hs5.w.lent).mono ?_
  rintro r H6 ⟨rfl, rfl⟩
  simp only [go_sem, Nat.reduceEqDiff, reduceIte, ↓reduceIte, Nat.reduceAdd, List.replicate_succ, List.replicate_zero, List.set_cons_zero, List.set_cons_succ, List.length_cons, List.length_nil, Nat.reduceLT, Nat.lt_add_one, ne_eq, Int.reduceEq, not_false_eq_true, Option.map_some, Nat.reduceLeDiff, Nat.zero_lt_succ, List.map_cons, List.map_nil, List.nil_append, List.cons_append, List.append_nil, bytesOf, List.take_succ_cons, List.take_zero, List.drop_zero, and_self, List.append_assoc, List.length_append, Int.reduceLT, Int.reduceLE, Int.toNat_zero, Int.reduceToNat, Int.cast_ofNat_Int, Int.natCast_zero, Int.natCast_one, Int.reduceAdd, List.map_append, Option.bind_some, hkf, hgv5]
  refine (markCodeO hst hl5 hg5).mono ?_
  rintro r H7 ⟨rfl, hp7, hl7, hk7⟩
  have hs7 := hs5.keep (H' := H7) fun j o hj hl => hk7 j o hj (.inl (by omega))
  have hgv7 := hk7 _ _ hgv5 (.inr (Nat.le_refl _))
  have hnn : decide (1 + 6 * ((trimD c).ins.length : Int) + ((trimD c).starts.length : Int) < 0) = false := by simp; omega
  clear hs5 hgv5 hg5 hk7
  simp only [go_sem, Nat.reduceEqDiff, reduceIte, ↓reduceIte, Nat.reduceAdd, List.replicate_succ, List.replicate_zero, List.set_cons_zero, List.set_cons_succ, List.length_cons, List.length_nil, Nat.reduceLT, Nat.lt_add_one, ne_eq, Int.reduceEq, not_false_eq_true, Option.map_some, Nat.reduceLeDiff, Nat.zero_lt_succ, List.map_cons, List.map_nil, List.nil_append, List.cons_append, List.append_nil, bytesOf, List.take_succ_cons, List.take_zero, List.drop_zero, and_self, List.append_assoc, List.length_append, Int.reduceLT, Int.reduceLE, Int.toNat_zero, Int.reduceToNat, Int.cast_ofNat_Int, Int.natCast_zero, Int.natCast_one, Int.reduceAdd, List.map_append, Option.bind_some, hgv7]
  refine (heldCodeO (by omega) hp7).mono ?_
  rintro r H8 ⟨rfl, o8, rfl⟩
  have hs8 := hs7.ext [o8]
  have hgv8 := get_ext hgv7 [o8]
  have hp8 := hp7.ext [o8]
  clear hs7 hgv7 hp7
  generalize H7 ++ [o8] = H8 at *
  simp only [go_sem, Nat.reduceEqDiff, reduceIte, ↓reduceIte, Nat.reduceAdd, List.replicate_succ, List.replicate_zero, List.set_cons_zero, List.set_cons_succ, List.length_cons, List.length_nil, Nat.reduceLT, Nat.lt_add_one, ne_eq, Int.reduceEq, not_false_eq_true, Option.map_some, Nat.reduceLeDiff, Nat.zero_lt_succ, List.map_cons, List.map_nil, List.nil_append, List.cons_append, List.append_nil, bytesOf, List.take_succ_cons, List.take_zero, List.drop_zero, and_self, List.append_assoc, List.length_append, Int.reduceLT, Int.reduceLE, Int.toNat_zero, Int.reduceToNat, Int.cast_ofNat_Int, Int.natCast_zero, Int.natCast_one, Int.reduceAdd, List.map_append, Option.bind_some, hnn]
  simp only [go_sem, Nat.reduceEqDiff, reduceIte, ↓reduceIte, Nat.reduceAdd, List.replicate_succ, List.replicate_zero, List.set_cons_zero, List.set_cons_succ, List.length_cons, List.length_nil, Nat.reduceLT, Nat.lt_add_one, ne_eq, Int.reduceEq, not_false_eq_true, Option.map_some, Nat.reduceLeDiff, Nat.zero_lt_succ, List.map_cons, List.map_nil, List.nil_append, List.cons_append, List.append_nil, bytesOf, List.take_succ_cons, List.take_zero, List.drop_zero, and_self, List.append_assoc, List.length_append, Int.reduceLT, Int.reduceLE, Int.toNat_zero, Int.reduceToNat, Int.cast_ofNat_Int, Int.natCast_zero, Int.natCast_one, Int.reduceAdd, List.map_append, Option.bind_some, hs8.v, code_take]
  refine (toCode c hok hsm _).mono ?_
  rintro r H' ⟨rfl, rfl⟩
  simp only [go_sem, Nat.reduceEqDiff, reduceIte, ↓reduceIte, Nat.reduceAdd, List.replicate_succ, List.replicate_zero, List.set_cons_zero, List.set_cons_succ, List.length_cons, List.length_nil, Nat.reduceLT, Nat.lt_add_one, ne_eq, Int.reduceEq, not_false_eq_true, Option.map_some, Nat.reduceLeDiff, Nat.zero_lt_succ, List.map_cons, List.map_nil, List.nil_append, List.cons_append, List.append_nil, bytesOf, List.take_succ_cons, List.take_zero, List.drop_zero, and_self, List.append_assoc, List.length_append, Int.reduceLT, Int.reduceLE, Int.toNat_zero, Int.reduceToNat, Int.cast_ofNat_Int, Int.natCast_zero, Int.natCast_one, Int.reduceAdd, List.map_append, Option.bind_some]
  refine (implTrim c hok (lent_code c (codeO_get0 _ _) (codeO_get1 _ _))).mono ?_
  rintro g1 H9 ⟨A9, hH9, hg9⟩
  have hs9 : LS c (trimD c) wa wb iw H9 := by rw [hH9]; exact (hs8.ext _).ext _
  have hgv9 : H9[ig]? = some (.var [ga, gb]) := by rw [hH9]; exact get_ext (get_ext hgv8 _) _
  have hp9 : PatAt H9 (.st [ga, gb]) (trimD c).ins.length (trimD c).starts.length (ix + 3) ig := by rw [hH9]; exact (hp8.ext _).ext _
  obtain ⟨gc, gd, rfl, hgc, hgd⟩ := hg9
  have hg9 : OwnCAt H9 (.st [gc, gd]) (trimD c) 0 H9.length := by
    refine ⟨gc, gd, rfl, ?_, ?_⟩
    · rcases hgc with h | ⟨id, ver, h0, h1, h2, h3⟩
      · exact .inl h
      · exact .inr ⟨id, ver, Nat.zero_le _, h1, h2, h3⟩
    · rcases hgd with h | ⟨id, ver, h0, h1, h2, h3⟩
      · exact .inl h
      · exact .inr ⟨id, ver, Nat.zero_le _, h1, h2, h3⟩
  clear hH9 hs8 hgv8 hp8 hgc hgd
  have hs10 := hs9.ext [AO.var [gc, gd]]
  have hgv10 := get_ext hgv9 [AO.var [gc, gd]]
  have hp10 := hp9.ext [AO.var [gc, gd]]
  have hg10 := hg9.ext [AO.var [gc, gd]]
  simp only [go_sem, Nat.reduceEqDiff, reduceIte, ↓reduceIte, Nat.reduceAdd, List.replicate_succ, List.replicate_zero, List.set_cons_zero, List.set_cons_succ, List.length_cons, List.length_nil, Nat.reduceLT, Nat.lt_add_one, ne_eq, Int.reduceEq, not_false_eq_true, Option.map_some, Nat.reduceLeDiff, Nat.zero_lt_succ, List.map_cons, List.map_nil, List.nil_append, List.cons_append, List.append_nil, bytesOf, List.take_succ_cons, List.take_zero, List.drop_zero, and_self, List.append_assoc, List.length_append, Int.reduceLT, Int.reduceLE, Int.toNat_zero, Int.reduceToNat, Int.cast_ofNat_Int, Int.natCast_zero, Int.natCast_one, Int.reduceAdd, List.map_append, Option.bind_some, hs10.wv]
  refine (eqCode_any _ _ hot hot hg10.lent hs10.w.lent).mono ?_
  rintro r H10 ⟨rfl, rfl⟩
  simp only [go_sem, Nat.reduceEqDiff, reduceIte, ↓reduceIte, Nat.reduceAdd, List.replicate_succ, List.replicate_zero, List.set_cons_zero, List.set_cons_succ, List.length_cons, List.length_nil, Nat.reduceLT, Nat.lt_add_one, ne_eq, Int.reduceEq, not_false_eq_true, Option.map_some, Nat.reduceLeDiff, Nat.zero_lt_succ, List.map_cons, List.map_nil, List.nil_append, List.cons_append, List.append_nil, bytesOf, List.take_succ_cons, List.take_zero, List.drop_zero, and_self, List.append_assoc, List.length_append, Int.reduceLT, Int.reduceLE, Int.toNat_zero, Int.reduceToNat, Int.cast_ofNat_Int, Int.natCast_zero, Int.natCast_one, Int.reduceAdd, List.map_append, Option.bind_some, hgv10]
  refine (heldCodeO (by omega) hp10).mono ?_
  rintro r H11 ⟨rfl, o11, rfl⟩
  simp only [go_sem, Nat.reduceEqDiff, reduceIte, ↓reduceIte, Nat.reduceAdd, List.replicate_succ, List.replicate_zero, List.set_cons_zero, List.set_cons_succ, List.length_cons, List.length_nil, Nat.reduceLT, Nat.lt_add_one, ne_eq, Int.reduceEq, not_false_eq_true, Option.map_some, Nat.reduceLeDiff, Nat.zero_lt_succ, List.map_cons, List.map_nil, List.nil_append, List.cons_append, List.append_nil, bytesOf, List.take_succ_cons, List.take_zero, List.drop_zero, and_self, List.append_assoc, List.length_append, Int.reduceLT, Int.reduceLE, Int.toNat_zero, Int.reduceToNat, Int.cast_ofNat_Int, Int.natCast_zero, Int.natCast_one, Int.reduceAdd, List.map_append, Option.bind_some, hnn]
end Go.Proofs.Ytmbggdfceecojaa.Cd
