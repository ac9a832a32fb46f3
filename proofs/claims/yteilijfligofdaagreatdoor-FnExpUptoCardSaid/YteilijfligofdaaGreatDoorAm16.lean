/- The whole: what the evaluation of a body's small code says, the model's run of the body does. -/
import Derived.Test.YteilijfligofdaaGreatDoorAm15
import Derived.Orders
set_option linter.all false
namespace Go.AM
variable {lv:List Nat} {P:Program} {N:Nat} {st:St} {K:St->Prop} {θ:Th} {W:Im} {ops:Array Oper}
theorem Rl.clear {a:Act} {w:World} (h:Rl lv N st a w θ W):Rl lv N ⟨st.L,[],st.H⟩ a w θ W :=
 ⟨h.defers,h.size,h.loc,fun t ht=>.any _,h.mem⟩
theorem eget_ekeep (kl : List Nat) (L : En) (t : Nat) : eget (ekeep kl L) t = if lmem kl t = true then eget L t else .any := by
  induction L with
  | nil => simp [ekeep, eget]
  | cons kv L ih =>
    obtain ⟨k, v⟩ := kv
    simp only [ekeep]
    by_cases hk : lmem kl k = true
    · simp only [hk, if_true, eget, ih]
      by_cases e : k = t
      · subst e; simp [hk]
      · simp [e]
    · simp only [hk, Bool.false_eq_true, if_false, eget, ih]
      by_cases e : k = t
      · subst e; simp [hk]
      · simp [e]
theorem Rl.keep {a:Act} {w:World} (h:Rl lv N st a w θ W) (kl:List Nat):Rl lv N ⟨ekeep kl st.L,[],st.H⟩ a w θ W :=
 ⟨h.defers,h.size,fun t ht=>by
  show ARel θ W (eget (ekeep kl st.L) t) _
  rw [eget_ekeep]
  split
  ·exact h.loc t ht
  ·exact .any _,fun t ht=>.any _,h.mem⟩
theorem undef_rel (θ:Th) (W:Im):ARel θ W (.tup []) undef:=.tup [] #[] rfl (fun j c v hj=>by simp at hj)
theorem tup0_inv {v : Value} (h : ARel θ W (.tup []) v) : v = .tuple #[] := by
  cases h with
  | tup _ us hs hc =>
    have : us = #[] := by cases us; simp at hs; simp [hs]
    rw [this]
theorem oper_ok (o : Oper) (h : stepI (ACall P) (cOper lv P N ops o) K st) {a : Act} {w : World} {next : Act → World → Prop} {Q : Exit → Act → World → Prop} (hR : Rl lv N st a w θ W)
    (hk : ∀ st' a' w' θ' W', K st' → Rl lv N st' a' w' θ' W' → Stp θ W w θ' W' w' → next a' w') :
    if Region.wanted o (yielded ops a.tmps) then o.wp P a w next Q else next (a.put o.dst undef) w := by
  unfold cOper at h
  split at h
  case h_2 => exact h.elim
  case h_1 m g hm hg =>
  split at h
  case isFalse => exact h.elim
  case isTrue hd =>
  cases hgd : o.guard with
  | none =>
    rw [hgd] at hg
    cases hg
    have hw : Region.wanted o (yielded ops a.tmps) = true := by simp [Region.wanted, hgd]
    rw [if_pos hw]
    exact step_ok hm hd h a w θ W next Q hR hk
  | some jw =>
    obtain ⟨j, want⟩ := jw
    rw [hgd] at hg
    simp only [cGuard] at hg
    split at hg
    case h_2 => cases hg
    case h_1 t ht =>
    cases hg
    have h1 := hR.tmpArg t
    have h' : guardK (st.get (cTmp lv t)) want (stepU (ACall P) m (cDst lv o.dst) K) (skipK (cDst lv o.dst) K) st := h
    rcases guardK_inv h' with ⟨e, h3⟩ | ⟨b, e, h2, h3⟩
    · rw [e] at h1
      have hu : yielded ops a.tmps j = none := by
        have e1 := tup0_inv h1
        simp only [Act.eval] at e1
        unfold yielded
        rw [ht]
        simp only [Option.bind_some]
        by_cases hlt : t < a.tmps.size
        · simp [Array.getD, hlt] at e1; simp [hlt, e1]
        · simp [hlt]
      have hw : ¬ Region.wanted o (yielded ops a.tmps) = true := by simp [Region.wanted, hgd, hu]
      rw [if_neg hw]
      exact hk _ _ _ _ _ h3 (hR.put hd (undef_rel _ _) hR.mem (Stp.refl _ _ _)) (Stp.refl _ _ _)
    · rw [e] at h1
      have e1 := h1.b_inv
      simp only [Act.eval] at e1
      have hb : a.tmps[t]? = some (.bool b) := by
        by_cases hlt : t < a.tmps.size
        · simp [Array.getD, hlt] at e1; simp [hlt, e1]
        · simp [Array.getD, hlt, undef] at e1
      have hyield : yielded ops a.tmps j = some b := by simp [yielded, ht, hb]
      by_cases e : b = want
      · have hw : Region.wanted o (yielded ops a.tmps) = true := by simp [Region.wanted, hgd, hyield, e]
        rw [if_pos hw]
        exact step_ok hm hd (h2 e) a w θ W next Q hR hk
      · have hw : ¬ Region.wanted o (yielded ops a.tmps) = true := by simp [Region.wanted, hgd, hyield, e]
        rw [if_neg hw]
        exact hk _ _ _ _ _ (h3 e) (hR.put hd (undef_rel _ _) hR.mem (Stp.refl _ _ _)) (Stp.refl _ _ _)
theorem ops_ok {Q : Exit → Act → World → Prop} (l : List Oper) : ∀ (st : St) (a : Act) (w : World) (θ : Th) (W : Im), runOps (ACall P) (l.map (cOper lv P N ops)) K st → Rl lv N st a w θ W →
    (∀ st' a' w' θ' W', K st' → Rl lv N st' a' w' θ' W' → Stp θ W w θ' W' w' → Q .normal a' w') → wpList P ops Q l a w := by
  induction l with
  | nil => intro st a w θ W h hR hk; exact hk _ _ _ _ _ h hR (Stp.refl _ _ _)
  | cons o l ih =>
    intro st a w θ W h hR hk
    have key := oper_ok (Q := Q) (next := wpList P ops Q l) o h hR (fun st' a' w' θ' W' hst' hR' hs' => ih st' a' w' θ' W' hst' hR' (fun st2 a2 w2 θ2 W2 h2 hR2 hs2 => hk st2 a2 w2 θ2 W2 h2 hR2 (hs'.trans hs2)))
    unfold wpList
    split
    · rename_i hw; rw [if_pos hw] at key; exact .inl key
    · rename_i hw; rw [if_neg hw] at key; exact key
def Cq (lv:List Nat) (N:Nat) (Qs:Ex->St->Prop) (θ:Th) (W:Im) (w:World):Exit->Act->World->Prop:=fun e a' w' =>
 match e with
 | .normal=>∃ st' θ' W',Rl lv N st' a' w' θ' W'/\Stp θ W w θ' W' w'/\Qs .nm st'
 | .exit id=>∃ st' θ' W',Rl lv N st' a' w' θ' W'/\Stp θ W w θ' W' w'/\Qs (.ex id) st'
 | .ret=>∃ st' θ' W',Rl lv N st' a' w' θ' W'/\Stp θ W w θ' W' w'/\Qs .rt st'
 | _=>False
theorem Cq.trans {Qs:Ex->St->Prop} {θ':Th} {W':Im} {w w':World} (hs:Stp θ W w θ' W' w') {e:Exit} {a:Act} {w2:World} (h:Cq lv N Qs θ' W' w' e a w2):Cq lv N Qs θ W w e a w2:=by
 cases e with
 | normal=>obtain ⟨s,t,u,h1,h2,h3⟩:=h; exact ⟨s,t,u,h1,hs.trans h2,h3⟩
 | exit id=>obtain ⟨s,t,u,h1,h2,h3⟩:=h; exact ⟨s,t,u,h1,hs.trans h2,h3⟩
 | ret=>obtain ⟨s,t,u,h1,h2,h3⟩:=h; exact ⟨s,t,u,h1,hs.trans h2,h3⟩
 | goto l=>exact h.elim
 | panic c=>exact h.elim
 | outgrown=>exact h.elim
theorem wp_loop_ghost {α : Type} {c : Code} {Q : Exit → Act → World → Prop} {a : Act} {w : World} (I : α → Act → World → Prop) (μ : α → Nat) (x : α) (h₀ : I x a w)
    (round : ∀ x a w, I x a w → c.wp P (Exit.then (fun a' w' => ∃ y, I y a' w' ∧ μ y < μ x) Q) a w) : (Code.loop c).wp P Q a w := by
  intro b k cs
  have key : ∀ n x a w, μ x = n → I x a w →
      ∃ e a' w', Q e a' w' ∧ Arrives P (lone (b.at a (.code c :: .inLoop c :: k)) cs w) b k cs e a' w' := by
    intro n
    induction n using Nat.strongRecOn with
    | _ n ih =>
      intro x a w hn hI
      obtain ⟨e, a₁, w₁, hq, harr⟩ := round x a w hI b (.inLoop c :: k) cs
      cases e with
      | normal =>
        obtain ⟨y, hI₁, hlt⟩ := hq
        obtain ⟨e₂, a₂, w₂, hq₂, harr₂⟩ := ih (μ y) (hn ▸ hlt) y a₁ w₁ rfl hI₁
        exact ⟨e₂, a₂, w₂, hq₂, .of_steps (Steps.trans harr (.one step_inLoop)) harr₂⟩
      | exit id => exact ⟨_, a₁, w₁, hq, .pass (x := .inLoop c) rfl (fun _ _ => .inl (by simp)) harr⟩
      | goto l => exact ⟨_, a₁, w₁, hq, .pass (x := .inLoop c) rfl (fun _ _ => .inl (by simp)) harr⟩
      | ret => exact ⟨_, a₁, w₁, hq, .pass (x := .inLoop c) rfl (fun _ _ => .inl (by simp)) harr⟩
      | panic ch => exact ⟨_, a₁, w₁, hq, .pass (x := .inLoop c) rfl (fun _ _ => .inl (by simp)) harr⟩
      | outgrown => exact ⟨_, a₁, w₁, hq, .pass (x := .inLoop c) rfl (fun _ _ => .inl (by simp)) harr⟩
  obtain ⟨e, a', w', hq, harr⟩ := key _ x a w rfl h₀
  exact ⟨e, a', w', hq, .of_steps (.one step_loop) harr⟩
end Go.AM
