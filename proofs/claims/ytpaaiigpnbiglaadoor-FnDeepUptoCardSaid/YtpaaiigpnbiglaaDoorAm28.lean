/- More equations for simp. -/
import Derived.Test.YtpaaiigpnbiglaaDoorAm27
set_option linter.all false
namespace Go.AM
@[go_sem] theorem get_off (G l : List AO) (k : Nat) : (G ++ l)[G.length + k]? = l[k]? := by rw [List.getElem?_append_right (by omega), Nat.add_sub_cancel_left]
@[go_sem] theorem get_off0 (G l : List AO) : (G ++ l)[G.length]? = l[0]? := by rw [List.getElem?_append_right (by omega), Nat.sub_self]
@[go_sem] theorem set_off (G l : List AO) (k : Nat) (o : AO) : (G ++ l).set (G.length + k) o = G ++ l.set k o := by rw [List.set_append_right _ _ (by omega), Nat.add_sub_cancel_left]
@[go_sem] theorem set_off0 (G l : List AO) (o : AO) : (G ++ l).set G.length o = G ++ l.set 0 o := by rw [List.set_append_right _ _ (by omega), Nat.sub_self]
attribute [go_sem] List.getElem?_cons_zero List.getElem?_cons_succ
theorem set_get {H : List AO} {i : Nat} {o o' : AO} (h : H[i]? = some o) : (H.set i o')[i]? = some o' := by
  rw [List.getElem?_set]; simp [(List.getElem?_eq_some_iff.1 h).1]
theorem set_same {H : List AO} {i : Nat} {o : AO} (h : H[i]? = some o) : H.set i o = H := by
  obtain ⟨hlt, he⟩ := List.getElem?_eq_some_iff.1 h
  rw [← he]; exact List.set_getElem_self hlt
theorem append_off (G : List AO) (a b : AO) : G ++ [a] ++ [b] = G ++ [a, b] := by simp
theorem stoR_set {H : List AO} {id ver row col sz : Nat} {o : AO} {us : List AV} {rs : List (List AV)} {r r' : List AV} (h : rs[row]? = some r) (hs : splice r col us = some r') :
    stoR (H.set id o) id ver row col us (some (.rows sz ver rs)) = some (H.set id (.rows sz ver (rs.set row r'))) := by
  rw [stoR_at h hs, List.set_set]
theorem rget {rs : List (List AV)} {i : Nat} {r r' : List AV} (h : rs[i]? = some r) : (rs.set i r')[i]? = some r' := by
  rw [List.getElem?_set]; simp [(List.getElem?_eq_some_iff.1 h).1]

/-- a slice that is owned, from its first row on, or nil -/
def OwnR (H : List AO) (a : AV) (sz : Nat) (rs : List (List AV)) : Prop :=
  (a = .p .nl ∧ rs = []) ∨ ∃ id ver, a = .gs id ver 0 rs.length ∧ H[id]? = some (.rows sz ver rs)

theorem OwnR.ext {H A : List AO} {a : AV} {sz : Nat} {rs : List (List AV)} (h : OwnR H a sz rs) : OwnR (H ++ A) a sz rs := by
  rcases h with h | ⟨id, ver, h1, h2⟩
  · exact .inl h
  · exact .inr ⟨id, ver, h1, by rw [List.getElem?_append_left (List.getElem?_eq_some_iff.1 h2).1]; exact h2⟩

/-- what is kept where a slice that is owned is appended to -/
def Kept (a : AV) (H H' : List AO) : Prop := H.length ≤ H'.length ∧ ∀ (j : Nat) o, H[j]? = some o → (∀ ver off n, a ≠ .gs j ver off n) → H'[j]? = some o

theorem app_own {K : St → Prop} {L T : En} {H : List AO} {d : MD} {sz bytes : Nat} {a : AV} {rs ys : List (List AV)} (h : OwnR H a sz rs)
    (hb : (rs.length + ys.length) * bytes ≤ 140737488355328) (hl : rs.length + ys.length ≤ 140737488355328)
    (k : ∀ a' H', OwnR H' a' sz (rs ++ ys) → Kept a H H' → (∀ id ver off n, a' = .gs id ver off n → id = H.length ∨ ∃ ver' off' n', a = .gs id ver' off' n') → K (St.put ⟨L, T, H'⟩ d a')) : appX sz bytes a ys d K ⟨L, T, H⟩ := by
  rcases h with ⟨rfl, rfl⟩ | ⟨id, ver, rfl, hid⟩
  · refine ⟨by simpa using hb, by simpa using hl, k _ _ (.inr ⟨H.length, 0, by simp, by simp⟩) ⟨by simp, fun j o hj _ => ?_⟩ (fun id ver off n e => by cases e; exact .inl rfl)⟩
    rw [List.getElem?_append_left (List.getElem?_eq_some_iff.1 hj).1]; exact hj
  · show appR sz bytes id ver 0 rs.length ys d K ⟨L, T, H⟩ H[id]?
    rw [hid]
    refine ⟨rfl, rfl, rfl, Nat.le_refl _, hb, hl, k _ _ (.inr ⟨id, ver + 1, by simp, ?_⟩) ⟨by simp, fun j o hj hne => ?_⟩ (fun id' ver' off n e => by cases e; exact .inr ⟨_, _, _, rfl⟩)⟩
    · rw [List.take_length]
      exact set_get hid
    · have : id ≠ j := by rintro rfl; exact hne _ _ _ rfl
      rw [List.getElem?_set_ne this]; exact hj

/-- the objects without the one that a slice owns -/
def killed (H : List AO) : AV → List AO
  | .gs id _ _ _ => H.set id .dead
  | _ => H
theorem killed_ext (H : List AO) (a : AV) : Hext (killed H a) H := by
  unfold killed
  split
  · exact hext_dead0 _ _
  · exact Hext.refl _
theorem killed_var {H : List AO} {a : AV} {sz : Nat} {rs : List (List AV)} {j : Nat} {cs : List AV} (h : OwnR H a sz rs) (hj : H[j]? = some (.var cs)) : (killed H a)[j]? = some (.var cs) := by
  rcases h with ⟨rfl, _⟩ | ⟨id, v, rfl, h2⟩
  · exact hj
  · have : id ≠ j := by rintro rfl; rw [h2] at hj; cases hj
    show (H.set id .dead)[j]? = _
    rw [List.getElem?_set_ne this]; exact hj
/-- what is appended to, in a region whose order is drawn -/
theorem app_drw {J : PK} {L T : En} {H N : List AO} {d : MD} {sz bytes : Nat} {a : AV} {rs ys : List (List AV)} (h : OwnR H a sz rs) (hne : rs ≠ [])
    (hb : (rs.length + ys.length) * bytes ≤ 140737488355328) (hl : rs.length + ys.length ≤ 140737488355328)
    (k : ∀ a' H', OwnR H' a' sz (rs ++ ys) → Kept a H H' → J H' ⟨(St.put ⟨L, T, H'⟩ d a').L, (St.put ⟨L, T, H'⟩ d a').T, N⟩) : appX sz bytes a ys d (effK (killed H a) H N J) ⟨L, T, H⟩ := by
  rcases h with ⟨_, h⟩ | ⟨id, ver, rfl, hid⟩
  · exact (hne h).elim
  · show appR sz bytes id ver 0 rs.length ys d _ ⟨L, T, H⟩ H[id]?
    rw [hid]
    have hk : Kept (.gs id ver 0 rs.length) H (H.set id (.rows sz (ver + 1) (rs ++ ys))) := ⟨by simp, fun j o hj hne => by
      have : id ≠ j := by rintro rfl; exact hne _ _ _ rfl
      rw [List.getElem?_set_ne this]; exact hj⟩
    refine ⟨rfl, rfl, rfl, Nat.le_refl _, hb, hl, ?_⟩
    rw [List.take_length]
    have := k (.gs id (ver + 1) 0 (rs.length + ys.length)) (H.set id (.rows sz (ver + 1) (rs ++ ys))) (.inr ⟨id, ver + 1, by simp, set_get hid⟩) hk
    cases d <;> exact ⟨List.length_set, hext_dead _ _ _, this⟩
end Go.AM
