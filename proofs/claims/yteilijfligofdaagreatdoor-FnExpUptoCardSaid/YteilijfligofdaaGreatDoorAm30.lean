/- A call with effects whose own objects are dropped behind it. -/
import Derived.Test.YteilijfligofdaaGreatDoorAm29
set_option linter.all false
namespace Go.AM
variable {P:Program}
def Tf (a:AV):Prop:=∀ (θ θ':Th) (W:Im) (v:Value),ARel θ W a v->ARel θ' W a v
theorem tf_p (x:PV):Tf (.p x):=fun _ _ _ _ h=>by cases h with | p _ _ h=>exact .p _ _ h
theorem tf_st (cs:List AV) (h:∀ c∈cs,Tf c):Tf (.st cs):=fun θ θ' W v hv=>by
 cases hv with
 | st _ vs hs hc h1=>exact .st cs vs hs (fun j c v hj hv=>h c (List.mem_of_getElem? hj) _ _ _ _ (hc j c v hj hv)) h1
def thCut (θ:Th) (n:Nat):Th:=fun id ver=>if id<n then θ id ver else .no
theorem thCut_lt {θ:Th} {n id ver:Nat} (h:id<n):thCut θ n id ver=θ id ver:=by simp [thCut,h]
theorem cut_rel {θ θ' : Th} {W W' : Im} {n : Nat} (hn : ∀ id ver, n ≤ id → θ id ver = .no) {c : AV} {v0 : Value} (h : ARel θ W c v0) : ∀ {v : Value}, ARel θ' W' c v → ARel (thCut θ' n) W' c v := by
  have lt : ∀ {id ver : Nat} {p : Pl}, θ id ver = p → p ≠ .no → id < n := fun {id ver p} e hp => by
    rcases Nat.lt_or_ge id n with h | h
    · exact h
    · exact (hp (by rw [← e, hn id ver h])).elim
  have key : ∀ {id ver : Nat}, id < n → thCut θ' n id ver = θ' id ver := fun h => thCut_lt h
  induction h with
  | any v => intro v _; exact .any v
  | p x v h => intro v hv; cases hv with | p _ _ h => exact .p _ _ h
  | st cs vs hs hc h1 ih =>
    intro v hv
    cases hv with
    | st _ us hs' hc' h1' =>
      refine .st cs us hs' (fun j c u hj hu => ?_) h1'
      have hj' : j < vs.size := by rw [hs]; exact (List.getElem?_eq_some_iff.1 hj).1
      exact ih j c vs[j] hj (Array.getElem?_eq_getElem hj') (hc' j c u hj hu)
  | ptr id off b sz tot h =>
    have hl := lt h (by simp)
    intro v hv
    cases hv with
    | ptr _ _ b' sz' tot' h' => exact .ptr id off b' sz' tot' (by rw [key hl]; exact h')
    | ptrDead _ _ a h' => exact .ptrDead id off a (by rw [key hl]; exact h')
  | ptrDead id off a h =>
    have hl := lt h (by simp)
    intro v hv
    cases hv with
    | ptr _ _ b' sz' tot' h' => exact .ptr id off b' sz' tot' (by rw [key hl]; exact h')
    | ptrDead _ _ a h' => exact .ptrDead id off a (by rw [key hl]; exact h')
  | gsDead id ver off m a cap h hn' hm =>
    have hl := lt h (by simp)
    intro v hv
    cases hv with
    | gsDead _ _ _ _ a' cap' h' q1 q2 => exact .gsDead id ver off m a' cap' (by rw [key hl]; exact h') q1 q2
    | gsNil _ _ h' => exact .gsNil id ver (by rw [key hl]; exact h')
    | gs _ _ _ _ b sz tot o cap' h' q1 q2 q3 q4 q5 => exact .gs id ver off m b sz tot o cap' (by rw [key hl]; exact h') q1 q2 q3 q4 q5
  | gsNil id ver h =>
    have hl := lt h (by simp)
    intro v hv
    cases hv with
    | gsDead _ _ _ _ a' cap' h' q1 q2 => exact .gsDead id ver 0 0 a' cap' (by rw [key hl]; exact h') q1 q2
    | gsNil _ _ h' => exact .gsNil id ver (by rw [key hl]; exact h')
    | gs _ _ _ _ b sz tot o cap' h' q1 q2 q3 q4 q5 => exact .gs id ver 0 0 b sz tot o cap' (by rw [key hl]; exact h') q1 q2 q3 q4 q5
  | gs id ver off m b sz tot o cap h q1 q2 q3 q4 q5 =>
    have hl := lt h (by simp)
    intro v hv
    cases hv with
    | gsDead _ _ _ _ a' cap' h' q1 q2 => exact .gsDead id ver off m a' cap' (by rw [key hl]; exact h') q1 q2
    | gsNil _ _ h' => exact .gsNil id ver (by rw [key hl]; exact h')
    | gs _ _ _ _ b sz tot o cap' h' q1 q2 q3 q4 q5 => exact .gs id ver off m b sz tot o cap' (by rw [key hl]; exact h') q1 q2 q3 q4 q5
  | ep id ver row col b sz tot h =>
    have hl := lt h (by simp)
    intro v hv
    cases hv with
    | ep _ _ _ _ b' sz' tot' h' => exact .ep id ver row col b' sz' tot' (by rw [key hl]; exact h')
    | epDead _ _ _ _ a h' => exact .epDead id ver row col a (by rw [key hl]; exact h')
  | epDead id ver row col a h =>
    have hl := lt h (by simp)
    intro v hv
    cases hv with
    | ep _ _ _ _ b' sz' tot' h' => exact .ep id ver row col b' sz' tot' (by rw [key hl]; exact h')
    | epDead _ _ _ _ a h' => exact .epDead id ver row col a (by rw [key hl]; exact h')
  | ip row b o f hcell hrel => intro v hv; cases hv with | ip _ b o f q1 q2 => exact .ip row b o f q1 q2
  | clo f caps vs hs hc ih =>
    intro v hv
    cases hv with
    | clo _ _ us hs' hc' =>
      refine .clo f caps us hs' (fun j c u hj hu => ?_)
      have hj' : j < vs.size := by rw [hs]; exact (List.getElem?_eq_some_iff.1 hj).1
      exact ih j c vs[j] hj (Array.getElem?_eq_getElem hj') (hc' j c u hj hu)
  | tup cs vs hs hc ih =>
    intro v hv
    cases hv with
    | tup _ us hs' hc' =>
      refine .tup cs us hs' (fun j c u hj hu => ?_)
      have hj' : j < vs.size := by rw [hs]; exact (List.getElem?_eq_some_iff.1 hj).1
      exact ih j c vs[j] hj (Array.getElem?_eq_getElem hj') (hc' j c u hj hu)
theorem OR.cells {θ θ'' : Th} {W : Im} {w : World} {id : Nat} {o : AO} (h : OR θ W w id o) (e : ∀ ver, θ'' id ver = θ id ver)
    (hv : ∀ cs, o = .var cs → ∀ c ∈ cs, ∀ v, ARel θ W c v → ARel θ'' W c v) (hr : ∀ sz ver rs, o = .rows sz ver rs → ∀ r ∈ rs, ∀ c ∈ r, ∀ v, ARel θ W c v → ARel θ'' W c v) : OR θ'' W w id o := by
  cases o with
  | dead => intro ver; rw [e]; exact h ver
  | rsv => intro ver; rw [e]; exact h ver
  | glob b v => exact ⟨h.1, fun ver => by rw [e]; exact h.2 ver⟩
  | tab b v o => exact ⟨h.1, h.2.1, fun ver => by rw [e]; exact h.2.2 ver⟩
  | var cs =>
    obtain ⟨⟨b, sz, tot, ty, vs, h1, h2, h3, h4, h5⟩, h6⟩ := h
    exact ⟨⟨b, sz, tot, ty, vs, by rw [e]; exact h1, h2, h3, fun j c v hj hjv => hv cs rfl c (List.mem_of_getElem? hj) v (h4 j c v hj hjv), h5⟩, fun ver hver => by rw [e]; exact h6 ver hver⟩
  | rows sz ver rs =>
    obtain ⟨h0, h8, h9⟩ := h
    refine ⟨?_, fun v' hv' => by rw [e]; exact h8 v' hv', fun v' hv' => by rw [e]; exact h9 v' hv'⟩
    rcases h0 with ⟨h1, h2⟩ | ⟨b, tot, ty, vs, h1, h2, h3, h4, h5, h6, h7⟩
    · exact .inl ⟨by rw [e]; exact h1, h2⟩
    · exact .inr ⟨b, tot, ty, vs, by rw [e]; exact h1, h2, h3, h4, h5, fun i r j c v hi hj hjv => hr sz ver rs rfl r (List.mem_of_getElem? hi) c (List.mem_of_getElem? hj) v (h6 i r j c v hi hj hjv), h7⟩
theorem OR.val {θ:Th} {W:Im} {w:World} {id:Nat} {o:AO} (h:OR θ W w id o) :
  (∀ cs,o=.var cs->∀ c∈cs,∃ v,ARel θ W c v)/\∀ sz ver rs,o=.rows sz ver rs->∀ r∈rs,∀ c∈r,∃ v,ARel θ W c v:=by
 constructor
 ·rintro cs rfl c hc
  obtain ⟨⟨b,sz,tot,ty,vs,h1,h2,h3,h4,h5⟩,h6⟩:=h
  obtain ⟨j,hj⟩:=List.getElem?_of_mem hc
  have hj':j<vs.size:=by rw [h3]; exact (List.getElem?_eq_some_iff.1 hj).1
  exact ⟨_,h4 j c vs[j] hj (Array.getElem?_eq_getElem hj')⟩
 ·rintro sz ver rs rfl r hr c hc
  obtain ⟨h0,h8,h9⟩:=h
  rcases h0 with ⟨h1,rfl⟩ | ⟨b,tot,ty,vs,h1,h2,h3,h4,h5,h6,h7⟩
  ·cases hr
  ·obtain ⟨i,hi⟩:=List.getElem?_of_mem hr
   obtain ⟨j,hj⟩:=List.getElem?_of_mem hc
   have hil:=(List.getElem?_eq_some_iff.1 hi).1
   have hjl:=(List.getElem?_eq_some_iff.1 hj).1
   have hlen:=h5 r hr
   have hlt:i * sz+j<vs.size:=by
    rw [h3]
    have h10:(i+1) * sz<=tot * sz:=Nat.mul_le_mul_right sz (by omega)
    rw [Nat.add_mul,Nat.one_mul] at h10
    omega
   exact ⟨_,h6 i r j c vs[i * sz+j] hi hj (Array.getElem?_eq_getElem hlt)⟩
end Go.AM
