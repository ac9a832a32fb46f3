/- Slices that are owned, as the laws hold them: where they lie, what keeps them. -/
import Derived.Test.YtnelfbcgplooiaaGreatAm28
set_option linter.all false
namespace Go.AM
variable {P : Program}

/-- owned, or nil; its object's number lies from lo on and below hi -/
def OwnAt (H : List AO) (a : AV) (sz : Nat) (rs : List (List AV)) (lo hi : Nat) : Prop :=
  (a = .p .nl ∧ rs = []) ∨ ∃ id ver, lo ≤ id ∧ id < hi ∧ a = .gs id ver 0 rs.length ∧ H[id]? = some (.rows sz ver rs)

theorem OwnAt.own {H : List AO} {a : AV} {sz : Nat} {rs : List (List AV)} {lo hi : Nat} (h : OwnAt H a sz rs lo hi) : OwnR H a sz rs := by
  rcases h with h | ⟨id, ver, _, _, h1, h2⟩
  · exact .inl h
  · exact .inr ⟨id, ver, h1, h2⟩
theorem OwnAt.ext {H : List AO} {a : AV} {sz : Nat} {rs : List (List AV)} {lo hi : Nat} (h : OwnAt H a sz rs lo hi) (A : List AO) : OwnAt (H ++ A) a sz rs lo hi := by
  rcases h with h | ⟨id, ver, h0, h1, h2, h3⟩
  · exact .inl h
  · exact .inr ⟨id, ver, h0, h1, h2, by rw [List.getElem?_append_left (List.getElem?_eq_some_iff.1 h3).1]; exact h3⟩
theorem OwnAt.set {H : List AO} {a : AV} {sz : Nat} {rs : List (List AV)} {lo hi j : Nat} (h : OwnAt H a sz rs lo hi) (o : AO) (hj : j < lo ∨ hi ≤ j) : OwnAt (H.set j o) a sz rs lo hi := by
  rcases h with h | ⟨id, ver, h0, h1, h2, h3⟩
  · exact .inl h
  · exact .inr ⟨id, ver, h0, h1, h2, by rw [List.getElem?_set_ne (by omega)]; exact h3⟩

theorem get_ext {H : List AO} {j : Nat} {o : AO} (h : H[j]? = some o) (A : List AO) : (H ++ A)[j]? = some o := by
  rw [List.getElem?_append_left (List.getElem?_eq_some_iff.1 h).1]; exact h
theorem get_set {H : List AO} {i j : Nat} {o o' : AO} (h : H[j]? = some o) (hne : i ≠ j) : (H.set i o')[j]? = some o := by
  rw [List.getElem?_set_ne hne]; exact h
theorem get_lt {H : List AO} {j : Nat} {o : AO} (h : H[j]? = some o) : j < H.length := (List.getElem?_eq_some_iff.1 h).1

/-- a call whose result is its caller's own, of cells that speak of no memory -/
theorem acall_ownAt {f : Nat} {xs bs : List AV} {H : List AO} {sz : Nat} {rs : List (List AV)} (h : ACall P f bs [] (fun r H' => OwnR H' r sz rs)) (hl : LentAll H xs bs) (hg : ∀ r ∈ rs, ∀ c ∈ r, Grnd c) :
    ACall P f xs H (fun r H' => ∃ A, H' = H ++ A ∧ OwnAt H' r sz rs H.length H'.length) := by
  refine acall_own h hl ?_
  rintro r H0 (⟨rfl, he⟩ | ⟨id, ver, rfl, hid⟩)
  · exact own_g (H := H) (R := fun (r : AV) (H' : List AO) => ∃ A, H' = H ++ A ∧ OwnAt H' r sz rs H.length H'.length) grnd_nl ⟨[], by simp, .inl ⟨rfl, he⟩⟩
  · exact own_gs (H := H) (R := fun (r : AV) (H' : List AO) => ∃ A, H' = H ++ A ∧ OwnAt H' r sz rs H.length H'.length) hid hg ⟨_, rfl, .inr ⟨H.length, ver, Nat.le_refl _, by simp, rfl, get_off0 _ _⟩⟩
end Go.AM
