/- A slice that was made and is not written any more is data; its object is dead. -/
import Derived.Test.YtnelfbcgplooiaaGreatAm32
set_option linter.all false
namespace Go.AM
variable {P : Program}

def thOne (θ : Th) (id : Nat) : Th := fun i ver => if i = id then θ i ver else .no
def thKill (θ : Th) (id : Nat) : Th := fun i ver => if i = id then (match θ i ver with | .no => .no | _ => .dead) else θ i ver

theorem owned_one {θ : Th} {id b : Nat} (h : Owned (thOne θ id) b) : Owned θ b ∧ ∃ ver sz tot, θ id ver = .at b sz tot := by
  obtain ⟨i, ver, sz, tot, h⟩ := h
  unfold thOne at h
  split at h
  · rename_i e; subst e; exact ⟨⟨_, _, _, _, h⟩, _, _, _, h⟩
  · cases h
theorem thKill_ne {θ : Th} {id i ver : Nat} (h : i ≠ id) : thKill θ id i ver = θ i ver := by simp [thKill, h]
theorem thKill_step {θ : Th} {id : Nat} (i ver : Nat) (h : θ i ver ≠ .no) : thKill θ id i ver = θ i ver ∨ thKill θ id i ver = .dead := by
  unfold thKill
  split
  · right; split
    · rename_i e; exact (h e).elim
    · rfl
  · exact .inl rfl
theorem owned_kill {θ : Th} {id b : Nat} (h : Owned (thKill θ id) b) : ∃ i ver sz tot, i ≠ id ∧ θ i ver = .at b sz tot := by
  obtain ⟨i, ver, sz, tot, h⟩ := h
  unfold thKill at h
  split at h
  · split at h <;> cases h
  · rename_i e; exact ⟨i, ver, sz, tot, e, h⟩

theorem acall_kill {f : Nat} {args : List AV} {H : List AO} {Q R : AV → List AO → Prop} (h : ACall P f args H Q)
    (hq : ∀ r H', Q r H' → (∃ x, Lent [] r x ∧ R x H') ∨ ∃ (id : Nat) (o : AO) (x : AV), H'[id]? = some o ∧ TfO o ∧ Lent (List.replicate id .dead ++ [o]) r x ∧ R x (H'.set id .dead)) : ACall P f args H R := by
  refine ⟨h.1, fun w θ W vs hSR hrel => ?_⟩
  refine (h.2 w θ W vs hSR hrel).mono ?_
  rintro e w' ⟨v, r, H', θ', W', rfl, hqr, hS', hv, hst⟩
  rcases hq r H' hqr with ⟨x, hx, hR⟩ | ⟨id, o, x, hid, ht, hx, hR⟩
  · have hS0 : SR noTh W' [] w' := ⟨hS'.imm, fun id o hid => by simp at hid, fun _ _ _ => rfl, fun b hb => (not_owned b hb).elim, fun b id ver sz tot id' ver' sz' tot' h1 => by cases h1⟩
    refine ⟨v, x, H', θ', W', rfl, hR, hS', ?_, hst⟩
    have hr0 : ∀ {a b : AV}, Lent [] a b → ∀ {v : Value}, ARel θ' W' a v → ARel θ' W' b v := by
      intro a b hl
      induction hl with
      | same a hg => exact fun hv => hv
      | pure p => exact fun hv => hv
      | nl =>
        intro v hv
        cases hv.p_inv
        exact .p _ _ (.l [] none 0 0 (fun _ _ => undef) (Nat.le_refl _) (Nat.zero_le _) (fun _ => rfl) (fun _ x hx => by cases hx) (fun r hr => by cases hr) (fun i r j q hi => by simp at hi) (fun i r j q hi => by simp at hi))
      | gs id ver off n sz rs ys hid => simp at hid
      | st as bs hlen hc ih =>
        intro v hv
        cases hv with
        | st _ us hs hc' h1 =>
          refine .st bs us (by omega) (fun j c u hj hu => ?_) h1
          have hlt : j < as.length := by rw [hlen]; exact (List.getElem?_eq_some_iff.1 hj).1
          exact ih j as[j] c (by simp [hlt]) hj (hc' j as[j] u (by simp [hlt]) hu)
      | tup as bs hlen hc ih =>
        intro v hv
        cases hv with
        | tup _ us hs hc' =>
          refine .tup bs us (by omega) (fun j c u hj hu => ?_)
          have hlt : j < as.length := by rw [hlen]; exact (List.getElem?_eq_some_iff.1 hj).1
          exact ih j as[j] c (by simp [hlt]) hj (hc' j as[j] u (by simp [hlt]) hu)
    exact hr0 hx hv
  · have hids : id < H'.length := (List.getElem?_eq_some_iff.1 hid).1
    have hS1 : SR (thOne θ' id) W' (List.replicate id .dead ++ [o]) w' := by
      refine ⟨hS'.imm, ?_, ?_, fun b hb o' => hS'.own b (owned_one hb).1 o', ?_⟩
      · intro i o2 ho
        rcases Nat.lt_trichotomy i id with hlt | heq | hgt
        · rw [List.getElem?_append_left (by simpa using hlt), List.getElem?_replicate, if_pos hlt] at ho
          cases ho
          intro ver
          exact .inr (by simp [thOne, show i ≠ id by omega])
        · subst heq
          rw [List.getElem?_append_right (by simp)] at ho
          simp at ho
          subst ho
          have tr : ∀ c v, Tf c → ARel θ' W' c v → ARel (thOne θ' i) W' c v := fun c v h1 h2 => h1 _ _ _ _ h2
          refine (hS'.obj i o hid).cells (fun ver => by simp [thOne]) (fun cs ec c hc v hv => ?_) (fun sz ver rs ec r hr c hc v hv => ?_)
          · subst ec; exact tr c v (ht c hc) hv
          · subst ec; exact tr c v (ht r hr c hc) hv
        · rw [List.getElem?_append_right (by simp; omega)] at ho
          rw [List.length_replicate, show i - id = (i - id - 1) + 1 by omega] at ho
          simp at ho
      · intro i ver hi
        have : i ≠ id := by simp at hi; omega
        simp [thOne, this]
      · intro b i ver sz tot i' ver' sz' tot' h1 h2
        unfold thOne at h1 h2
        split at h1
        · split at h2
          · exact hS'.inj b i ver sz tot i' ver' sz' tot' h1 h2
          · cases h2
        · cases h1
    have hv1 : ARel (thKill θ' id) (frz (thOne θ' id) W' w') x v := by
      have hvr : ARel noTh (frz (thOne θ' id) W' w') x v := by
        have key : ∀ {a b : AV}, Lent (List.replicate id .dead ++ [o]) a b → ∀ {v : Value}, ARel θ' W' a v → ARel noTh (frz (thOne θ' id) W' w') b v := by
          intro a b hl
          induction hl with
          | same a hg => exact fun hv => hg _ _ _ _ _ hv
          | pure p => exact fun hv => .p _ _ (hv.p_inv.mono hS1.frz_ext)
          | nl => exact fun hv => lent_rel hS1 .nl (a := .p .nl) (by cases hv.p_inv; exact .p _ _ .nl)
          | gs id2 ver off n sz rs ys hid2 hlen hys hsz hc ih =>
            intro v hv
            have he : id2 = id := by
              rcases Nat.lt_trichotomy id2 id with hlt | heq | hgt
              · rw [List.getElem?_append_left (by simpa using hlt), List.getElem?_replicate, if_pos hlt] at hid2
                cases hid2
              · exact heq
              · rw [List.getElem?_append_right (by simp; omega), List.length_replicate, show id2 - id = (id2 - id - 1) + 1 by omega] at hid2
                simp at hid2
            refine lent_rel hS1 (.gs id2 ver off n sz rs ys hid2 hlen hys hsz hc) ?_
            subst he
            have e1 : ∀ ver, thOne θ' id2 id2 ver = θ' id2 ver := fun ver => by simp [thOne]
            cases hv with
            | gsDead _ _ _ _ a cap hd hn hm => exact .gsDead _ _ _ _ a cap (by rw [e1]; exact hd) hn hm
            | gsNil _ _ hd => exact .gsNil _ _ (by rw [e1]; exact hd)
            | gs _ _ _ _ b sz' tot o' cap hd hn hm hcap ho h0 => exact .gs _ _ _ _ b sz' tot o' cap (by rw [e1]; exact hd) hn hm hcap ho h0
          | st as bs hlen hc ih =>
            intro v hv
            cases hv with
            | st _ us hs hc' h1 =>
              refine .st bs us (by omega) (fun j c u hj hu => ?_) h1
              have hlt : j < as.length := by rw [hlen]; exact (List.getElem?_eq_some_iff.1 hj).1
              exact ih j as[j] c (by simp [hlt]) hj (hc' j as[j] u (by simp [hlt]) hu)
          | tup as bs hlen hc ih =>
            intro v hv
            cases hv with
            | tup _ us hs hc' =>
              refine .tup bs us (by omega) (fun j c u hj hu => ?_)
              have hlt : j < as.length := by rw [hlen]; exact (List.getElem?_eq_some_iff.1 hj).1
              exact ih j as[j] c (by simp [hlt]) hj (hc' j as[j] u (by simp [hlt]) hu)
        exact key hx hv
      exact hvr.mono (fun _ _ _ h => h) (fun i ver h => (h rfl).elim)
    have hWimm : ∀ b o' u, W' b o' = some u → frz (thOne θ' id) W' w' b o' = some u := hS1.frz_ext
    have hWno : ∀ b, ¬ Owned (thOne θ' id) b → ∀ o', frz (thOne θ' id) W' w' b o' = W' b o' := fun b hb o' => by unfold frz; rw [if_neg hb]
    refine ⟨v, x, H'.set id .dead, thKill θ' id, frz (thOne θ' id) W' w', rfl, hR, ⟨hS1.frz.imm, ?_, ?_, ?_, ?_⟩, hv1, ⟨hst.os, hst.tape, hst.output, hst.size, hst.keep, fun b o' u hu => hWimm b o' u (hst.imm b o' u hu), ?_, ?_, ?_⟩⟩
    · intro i o2 ho
      by_cases e : i = id
      · subst e
        rw [List.getElem?_set_self hids] at ho
        cases ho
        intro ver
        simp only [thKill, if_pos]
        split
        · exact .inr rfl
        · exact .inl rfl
      · rw [List.getElem?_set_ne (fun h => e h.symm)] at ho
        exact (hS'.obj i o2 ho).mono (fun ver => thKill_ne e) (fun ver b sz tot ho => rfl) (fun c u hc => hc.mono hWimm (thKill_step))
    · intro i ver hi
      rw [List.length_set] at hi
      rw [thKill_ne (by omega)]
      exact hS'.out i ver hi
    · intro b hb o'
      obtain ⟨i, ver, sz, tot, hne, h1⟩ := owned_kill hb
      rw [hWno b (fun h2 => by
        obtain ⟨_, ver2, sz2, tot2, h3⟩ := owned_one h2
        exact hne (hS'.inj b _ _ _ _ _ _ _ _ h1 h3).1)]
      exact hS'.own b ⟨_, _, _, _, h1⟩ o'
    · intro b i ver sz tot i' ver' sz' tot' h1 h2
      unfold thKill at h1 h2
      split at h1
      · split at h1 <;> cases h1
      · split at h2
        · split at h2 <;> cases h2
        · exact hS'.inj b i ver sz tot i' ver' sz' tot' h1 h2
    · intro b hb ho o'
      rw [hWno b (fun h2 => (hst.fresh b (owned_one h2).1).elim ho (fun h3 => by omega))]
      exact hst.old b hb ho o'
    · intro i ver hne
      rcases hst.th i ver hne with h1 | h1
      · rcases thKill_step (θ := θ') (id := id) i ver (by rw [h1]; exact hne) with h2 | h2
        · exact .inl (h2.trans h1)
        · exact .inr h2
      · rcases thKill_step (θ := θ') (id := id) i ver (by rw [h1]; simp) with h2 | h2
        · exact .inr (h2.trans h1)
        · exact .inr h2
    · intro b hb
      obtain ⟨i, ver, sz, tot, _, h1⟩ := owned_kill hb
      exact hst.fresh b ⟨_, _, _, _, h1⟩
end Go.AM
