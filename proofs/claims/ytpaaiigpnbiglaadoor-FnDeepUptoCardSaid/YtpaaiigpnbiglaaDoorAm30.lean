/- A call with effects whose own objects are dropped behind it. -/
import Derived.Test.YtpaaiigpnbiglaaDoorAm29
set_option linter.all false
namespace Go.AM
variable {P : Program}

/-- what speaks of no object -/
def Tf (a : AV) : Prop := ∀ (θ θ' : Th) (W : Im) (v : Value), ARel θ W a v → ARel θ' W a v
theorem tf_p (x : PV) : Tf (.p x) := fun _ _ _ _ h => by cases h with | p _ _ h => exact .p _ _ h
theorem tf_st (cs : List AV) (h : ∀ c ∈ cs, Tf c) : Tf (.st cs) := fun θ θ' W v hv => by
  cases hv with
  | st _ vs hs hc h1 => exact .st cs vs hs (fun j c v hj hv => h c (List.mem_of_getElem? hj) _ _ _ _ (hc j c v hj hv)) h1
def TfO : AO → Prop
  | .var cs => ∀ c ∈ cs, Tf c
  | .rows _ _ rs => ∀ r ∈ rs, ∀ c ∈ r, Tf c
  | _ => True

def thCut (θ : Th) (n : Nat) : Th := fun id ver => if id < n then θ id ver else .no
theorem thCut_lt {θ : Th} {n id ver : Nat} (h : id < n) : thCut θ n id ver = θ id ver := by simp [thCut, h]

/-- what was told of the objects below n is told of them still -/
theorem cut_rel {θ θ' : Th} {W W' : Im} {n : Nat} (hn : ∀ id ver, n ≤ id → θ id ver = .no) {c : AV} {v0 : Value} (h : ARel θ W c v0) : ∀ {v : Value}, ARel θ' W' c v → ARel (thCut θ' n) W' c v := by
  have lt : ∀ {id ver : Nat} {p : Pl}, θ id ver = p → p ≠ .no → id < n := fun {id ver p} e hp => by
    rcases Nat.lt_or_ge id n with h | h
    · exact h
    · exact (hp (by rw [← e, hn id ver h])).elim
  have key : ∀ {id ver : Nat}, id < n → thCut θ' n id ver = θ' id ver := fun h => thCut_lt h
  induction h with
  | any v => intro v _; exact .any v
  | p x v h => intro v hv; cases hv with | p _ _ h => exact .p _ _ h
  | st cs vs hs hc h1 ih =>
    intro v hv
    cases hv with
    | st _ us hs' hc' h1' =>
      refine .st cs us hs' (fun j c u hj hu => ?_) h1'
      have hj' : j < vs.size := by rw [hs]; exact (List.getElem?_eq_some_iff.1 hj).1
      exact ih j c vs[j] hj (Array.getElem?_eq_getElem hj') (hc' j c u hj hu)
  | ptr id off b sz tot h =>
    have hl := lt h (by simp)
    intro v hv
    cases hv with
    | ptr _ _ b' sz' tot' h' => exact .ptr id off b' sz' tot' (by rw [key hl]; exact h')
    | ptrDead _ _ a h' => exact .ptrDead id off a (by rw [key hl]; exact h')
  | ptrDead id off a h =>
    have hl := lt h (by simp)
    intro v hv
    cases hv with
    | ptr _ _ b' sz' tot' h' => exact .ptr id off b' sz' tot' (by rw [key hl]; exact h')
    | ptrDead _ _ a h' => exact .ptrDead id off a (by rw [key hl]; exact h')
  | gsDead id ver off m a cap h hn' hm =>
    have hl := lt h (by simp)
    intro v hv
    cases hv with
    | gsDead _ _ _ _ a' cap' h' q1 q2 => exact .gsDead id ver off m a' cap' (by rw [key hl]; exact h') q1 q2
    | gsNil _ _ h' => exact .gsNil id ver (by rw [key hl]; exact h')
    | gs _ _ _ _ b sz tot o cap' h' q1 q2 q3 q4 q5 => exact .gs id ver off m b sz tot o cap' (by rw [key hl]; exact h') q1 q2 q3 q4 q5
  | gsNil id ver h =>
    have hl := lt h (by simp)
    intro v hv
    cases hv with
    | gsDead _ _ _ _ a' cap' h' q1 q2 => exact .gsDead id ver 0 0 a' cap' (by rw [key hl]; exact h') q1 q2
    | gsNil _ _ h' => exact .gsNil id ver (by rw [key hl]; exact h')
    | gs _ _ _ _ b sz tot o cap' h' q1 q2 q3 q4 q5 => exact .gs id ver 0 0 b sz tot o cap' (by rw [key hl]; exact h') q1 q2 q3 q4 q5
  | gs id ver off m b sz tot o cap h q1 q2 q3 q4 q5 =>
    have hl := lt h (by simp)
    intro v hv
    cases hv with
    | gsDead _ _ _ _ a' cap' h' q1 q2 => exact .gsDead id ver off m a' cap' (by rw [key hl]; exact h') q1 q2
    | gsNil _ _ h' => exact .gsNil id ver (by rw [key hl]; exact h')
    | gs _ _ _ _ b sz tot o cap' h' q1 q2 q3 q4 q5 => exact .gs id ver off m b sz tot o cap' (by rw [key hl]; exact h') q1 q2 q3 q4 q5
  | ep id ver row col b sz tot h =>
    have hl := lt h (by simp)
    intro v hv
    cases hv with
    | ep _ _ _ _ b' sz' tot' h' => exact .ep id ver row col b' sz' tot' (by rw [key hl]; exact h')
    | epDead _ _ _ _ a h' => exact .epDead id ver row col a (by rw [key hl]; exact h')
  | epDead id ver row col a h =>
    have hl := lt h (by simp)
    intro v hv
    cases hv with
    | ep _ _ _ _ b' sz' tot' h' => exact .ep id ver row col b' sz' tot' (by rw [key hl]; exact h')
    | epDead _ _ _ _ a h' => exact .epDead id ver row col a (by rw [key hl]; exact h')
  | ip row b o f hcell hrel => intro v hv; cases hv with | ip _ b o f q1 q2 => exact .ip row b o f q1 q2
  | clo f caps vs hs hc ih =>
    intro v hv
    cases hv with
    | clo _ _ us hs' hc' =>
      refine .clo f caps us hs' (fun j c u hj hu => ?_)
      have hj' : j < vs.size := by rw [hs]; exact (List.getElem?_eq_some_iff.1 hj).1
      exact ih j c vs[j] hj (Array.getElem?_eq_getElem hj') (hc' j c u hj hu)
  | tup cs vs hs hc ih =>
    intro v hv
    cases hv with
    | tup _ us hs' hc' =>
      refine .tup cs us hs' (fun j c u hj hu => ?_)
      have hj' : j < vs.size := by rw [hs]; exact (List.getElem?_eq_some_iff.1 hj).1
      exact ih j c vs[j] hj (Array.getElem?_eq_getElem hj') (hc' j c u hj hu)

/-- an object, its cells' relations moved -/
theorem OR.cells {θ θ'' : Th} {W : Im} {w : World} {id : Nat} {o : AO} (h : OR θ W w id o) (e : ∀ ver, θ'' id ver = θ id ver)
    (hv : ∀ cs, o = .var cs → ∀ c ∈ cs, ∀ v, ARel θ W c v → ARel θ'' W c v) (hr : ∀ sz ver rs, o = .rows sz ver rs → ∀ r ∈ rs, ∀ c ∈ r, ∀ v, ARel θ W c v → ARel θ'' W c v) : OR θ'' W w id o := by
  cases o with
  | dead => intro ver; rw [e]; exact h ver
  | rsv => intro ver; rw [e]; exact h ver
  | var cs =>
    obtain ⟨⟨b, sz, tot, ty, vs, h1, h2, h3, h4, h5⟩, h6⟩ := h
    exact ⟨⟨b, sz, tot, ty, vs, by rw [e]; exact h1, h2, h3, fun j c v hj hjv => hv cs rfl c (List.mem_of_getElem? hj) v (h4 j c v hj hjv), h5⟩, fun ver hver => by rw [e]; exact h6 ver hver⟩
  | rows sz ver rs =>
    obtain ⟨h0, h8, h9⟩ := h
    refine ⟨?_, fun v' hv' => by rw [e]; exact h8 v' hv', fun v' hv' => by rw [e]; exact h9 v' hv'⟩
    rcases h0 with ⟨h1, h2⟩ | ⟨b, tot, ty, vs, h1, h2, h3, h4, h5, h6, h7⟩
    · exact .inl ⟨by rw [e]; exact h1, h2⟩
    · exact .inr ⟨b, tot, ty, vs, by rw [e]; exact h1, h2, h3, h4, h5, fun i r j c v hi hj hjv => hr sz ver rs rfl r (List.mem_of_getElem? hi) c (List.mem_of_getElem? hj) v (h6 i r j c v hi hj hjv), h7⟩

/-- each cell of an object has a value -/
theorem OR.val {θ : Th} {W : Im} {w : World} {id : Nat} {o : AO} (h : OR θ W w id o) :
    (∀ cs, o = .var cs → ∀ c ∈ cs, ∃ v, ARel θ W c v) ∧ ∀ sz ver rs, o = .rows sz ver rs → ∀ r ∈ rs, ∀ c ∈ r, ∃ v, ARel θ W c v := by
  constructor
  · rintro cs rfl c hc
    obtain ⟨⟨b, sz, tot, ty, vs, h1, h2, h3, h4, h5⟩, h6⟩ := h
    obtain ⟨j, hj⟩ := List.getElem?_of_mem hc
    have hj' : j < vs.size := by rw [h3]; exact (List.getElem?_eq_some_iff.1 hj).1
    exact ⟨_, h4 j c vs[j] hj (Array.getElem?_eq_getElem hj')⟩
  · rintro sz ver rs rfl r hr c hc
    obtain ⟨h0, h8, h9⟩ := h
    rcases h0 with ⟨h1, rfl⟩ | ⟨b, tot, ty, vs, h1, h2, h3, h4, h5, h6, h7⟩
    · cases hr
    · obtain ⟨i, hi⟩ := List.getElem?_of_mem hr
      obtain ⟨j, hj⟩ := List.getElem?_of_mem hc
      have hil := (List.getElem?_eq_some_iff.1 hi).1
      have hjl := (List.getElem?_eq_some_iff.1 hj).1
      have hlen := h5 r hr
      have hlt : i * sz + j < vs.size := by
        rw [h3]
        have h10 : (i + 1) * sz ≤ tot * sz := Nat.mul_le_mul_right sz (by omega)
        rw [Nat.add_mul, Nat.one_mul] at h10
        omega
      exact ⟨_, h6 i r j c vs[i * sz + j] hi hj (Array.getElem?_eq_getElem hlt)⟩

theorem acall_drop {f : Nat} {args : List AV} {H Hc : List AO} {r0 : AV} (h : ACall P f args H (fun r H' => r = r0 ∧ ∃ G, H' = Hc ++ G)) (hlen : Hc.length = H.length) (hr : Tf r0)
    (hobj : ∀ (id : Nat) o, Hc[id]? = some o → H[id]? = some o ∨ TfO o) : ACall P f args H (pureQ r0 Hc) := by
  refine ⟨h.1, fun w θ W vs hSR hrel => ?_⟩
  refine (h.2 w θ W vs hSR hrel).mono ?_
  rintro e w' ⟨v, r, H', θ', W', rfl, ⟨rfl, G, rfl⟩, hS', hv, hst⟩
  refine ⟨v, r, Hc, thCut θ' H.length, W', rfl, ⟨rfl, rfl⟩, ?_, hr _ _ _ _ hv, ?_⟩
  · refine ⟨hS'.imm, ?_, ?_, ?_, ?_⟩
    · intro id o ho
      have hlt := (List.getElem?_eq_some_iff.1 ho).1
      have ho' : (Hc ++ G)[id]? = some o := get_ext ho G
      have hO := hS'.obj id o ho'
      have e : ∀ ver, thCut θ' H.length id ver = θ' id ver := fun ver => thCut_lt (by omega)
      rcases hobj id o ho with hk | hk
      · obtain ⟨v1, v2⟩ := (hSR.obj id o hk).val
        refine hO.cells e (fun cs ec c hc v hv => ?_) (fun sz ver rs ec r hr c hc v hv => ?_)
        · obtain ⟨v0, h0⟩ := v1 cs ec c hc
          exact cut_rel hSR.out h0 hv
        · obtain ⟨v0, h0⟩ := v2 sz ver rs ec r hr c hc
          exact cut_rel hSR.out h0 hv
      · refine hO.cells e (fun cs ec c hc v hv => ?_) (fun sz ver rs ec r hr c hc v hv => ?_)
        · subst ec; exact hk c hc _ _ _ _ hv
        · subst ec; exact hk r hr c hc _ _ _ _ hv
    · intro id ver hid
      simp [thCut, show ¬ id < H.length by omega]
    · rintro b ⟨id, ver, sz, tot, hb⟩ o
      refine hS'.own b ⟨id, ver, sz, tot, ?_⟩ o
      unfold thCut at hb
      split at hb
      · exact hb
      · cases hb
    · intro b id ver sz tot id' ver' sz' tot' h1 h2
      unfold thCut at h1 h2
      split at h1
      · split at h2
        · exact hS'.inj b id ver sz tot id' ver' sz' tot' h1 h2
        · cases h2
      · cases h1
  · refine ⟨hst.os, hst.tape, hst.output, hst.size, hst.keep, hst.imm, hst.old, ?_, ?_⟩
    · intro id ver hne
      have hlt : id < H.length := by
        rcases Nat.lt_or_ge id H.length with h | h
        · exact h
        · exact (hne (hSR.out id ver h)).elim
      rw [thCut_lt hlt]
      exact hst.th id ver hne
    · rintro b ⟨id, ver, sz, tot, hb⟩
      refine hst.fresh b ⟨id, ver, sz, tot, ?_⟩
      unfold thCut at hb
      split at hb
      · exact hb
      · cases hb
end Go.AM
