/- Texts Am16 Am17 Am18 Am19 Am20 Am21 Am22 Am23 Am24 Am25 Am26 McA HoA, merged. -/
import Derived.Test.YtmbggdfceecojaaKpA
import Derived.Orders
import Derived.Laws.Sem
import Derived.ChangeArms
import Derived.ChangeSame
import Derived.WideKeyArgs
import Derived.WideShapes
import Derived.Below
import Derived.RowKit
import Derived.Test.YtmbggdfceecojaaChecked
import Derived.KernelRfl
/- The whole: what the evaluation of a body's small code says, the model's run of the body does. -/
set_option linter.all false
namespace Go.AM
variable {lv : List Nat} {P : Program} {N : Nat} {st : St} {K : St → Prop} {θ : Th} {W : Im} {ops : Array Oper}

theorem Rl.clear {a : Act} {w : World} (h : Rl lv N st a w θ W) : Rl lv N ⟨st.L, [], st.H⟩ a w θ W :=
  ⟨h.defers, h.size, h.loc, fun t ht => .any _, h.mem⟩

theorem eget_ekeep (kl : List Nat) (L : En) (t : Nat) : eget (ekeep kl L) t = if lmem kl t = true then eget L t else .any := by
  induction L with
  | nil => simp [ekeep, eget]
  | cons kv L ih =>
    obtain ⟨k, v⟩ := kv
    simp only [ekeep]
    by_cases hk : lmem kl k = true
    · simp only [hk, if_true, eget, ih]
      by_cases e : k = t
      · subst e; simp [hk]
      · simp [e]
    · simp only [hk, Bool.false_eq_true, if_false, eget, ih]
      by_cases e : k = t
      · subst e; simp [hk]
      · simp [e]

theorem Rl.keep {a : Act} {w : World} (h : Rl lv N st a w θ W) (kl : List Nat) : Rl lv N ⟨ekeep kl st.L, [], st.H⟩ a w θ W :=
  ⟨h.defers, h.size, fun t ht => by
    show ARel θ W (eget (ekeep kl st.L) t) _
    rw [eget_ekeep]
    split
    · exact h.loc t ht
    · exact .any _, fun t ht => .any _, h.mem⟩

theorem undef_rel (θ : Th) (W : Im) : ARel θ W (.tup []) undef := .tup [] #[] rfl (fun j c v hj => by simp at hj)
theorem tup0_inv {v : Value} (h : ARel θ W (.tup []) v) : v = .tuple #[] := by
  cases h with
  | tup _ us hs hc =>
    have : us = #[] := by cases us; simp at hs; simp [hs]
    rw [this]

/-- an operation of a region: done, or passed over by its guard -/
theorem oper_ok (o : Oper) (h : stepI (ACall P) (cOper lv P N ops o) K st) {a : Act} {w : World} {next : Act → World → Prop} {Q : Exit → Act → World → Prop} (hR : Rl lv N st a w θ W)
    (hk : ∀ st' a' w' θ' W', K st' → Rl lv N st' a' w' θ' W' → Stp θ W w θ' W' w' → next a' w') :
    if Region.wanted o (yielded ops a.tmps) then o.wp P a w next Q else next (a.put o.dst undef) w := by
  unfold cOper at h
  split at h
  case h_2 => exact h.elim
  case h_1 m g hm hg =>
  split at h
  case isFalse => exact h.elim
  case isTrue hd =>
  cases hgd : o.guard with
  | none =>
    rw [hgd] at hg
    cases hg
    have hw : Region.wanted o (yielded ops a.tmps) = true := by simp [Region.wanted, hgd]
    rw [if_pos hw]
    exact step_ok hm hd h a w θ W next Q hR hk
  | some jw =>
    obtain ⟨j, want⟩ := jw
    rw [hgd] at hg
    simp only [cGuard] at hg
    split at hg
    case h_2 => cases hg
    case h_1 t ht =>
    cases hg
    have h1 := hR.tmpArg t
    have h' : guardK (st.get (cTmp lv t)) want (stepU (ACall P) m (cDst lv o.dst) K) (skipK (cDst lv o.dst) K) st := h
    rcases guardK_inv h' with ⟨e, h3⟩ | ⟨b, e, h2, h3⟩
    · rw [e] at h1
      have hu : yielded ops a.tmps j = none := by
        have e1 := tup0_inv h1
        simp only [Act.eval] at e1
        unfold yielded
        rw [ht]
        simp only [Option.bind_some]
        by_cases hlt : t < a.tmps.size
        · simp [Array.getD, hlt] at e1; simp [hlt, e1]
        · simp [hlt]
      have hw : ¬ Region.wanted o (yielded ops a.tmps) = true := by simp [Region.wanted, hgd, hu]
      rw [if_neg hw]
      exact hk _ _ _ _ _ h3 (hR.put hd (undef_rel _ _) hR.mem (Stp.refl _ _ _)) (Stp.refl _ _ _)
    · rw [e] at h1
      have e1 := h1.b_inv
      simp only [Act.eval] at e1
      have hb : a.tmps[t]? = some (.bool b) := by
        by_cases hlt : t < a.tmps.size
        · simp [Array.getD, hlt] at e1; simp [hlt, e1]
        · simp [Array.getD, hlt, undef] at e1
      have hyield : yielded ops a.tmps j = some b := by simp [yielded, ht, hb]
      by_cases e : b = want
      · have hw : Region.wanted o (yielded ops a.tmps) = true := by simp [Region.wanted, hgd, hyield, e]
        rw [if_pos hw]
        exact step_ok hm hd (h2 e) a w θ W next Q hR hk
      · have hw : ¬ Region.wanted o (yielded ops a.tmps) = true := by simp [Region.wanted, hgd, hyield, e]
        rw [if_neg hw]
        exact hk _ _ _ _ _ (h3 e) (hR.put hd (undef_rel _ _) hR.mem (Stp.refl _ _ _)) (Stp.refl _ _ _)

theorem ops_ok {Q : Exit → Act → World → Prop} (l : List Oper) : ∀ (st : St) (a : Act) (w : World) (θ : Th) (W : Im), runOps (ACall P) (l.map (cOper lv P N ops)) K st → Rl lv N st a w θ W →
    (∀ st' a' w' θ' W', K st' → Rl lv N st' a' w' θ' W' → Stp θ W w θ' W' w' → Q .normal a' w') → wpList P ops Q l a w := by
  induction l with
  | nil => intro st a w θ W h hR hk; exact hk _ _ _ _ _ h hR (Stp.refl _ _ _)
  | cons o l ih =>
    intro st a w θ W h hR hk
    have key := oper_ok (Q := Q) (next := wpList P ops Q l) o h hR (fun st' a' w' θ' W' hst' hR' hs' => ih st' a' w' θ' W' hst' hR' (fun st2 a2 w2 θ2 W2 h2 hR2 hs2 => hk st2 a2 w2 θ2 W2 h2 hR2 (hs'.trans hs2)))
    unfold wpList
    split
    · rename_i hw; rw [if_pos hw] at key; exact .inl key
    · rename_i hw; rw [if_neg hw] at key; exact key

/-- the posts of a code, on the model's side -/
def Cq (lv : List Nat) (N : Nat) (Qs : Ex → St → Prop) (θ : Th) (W : Im) (w : World) : Exit → Act → World → Prop := fun e a' w' =>
  match e with
  | .normal => ∃ st' θ' W', Rl lv N st' a' w' θ' W' ∧ Stp θ W w θ' W' w' ∧ Qs .nm st'
  | .exit id => ∃ st' θ' W', Rl lv N st' a' w' θ' W' ∧ Stp θ W w θ' W' w' ∧ Qs (.ex id) st'
  | .ret => ∃ st' θ' W', Rl lv N st' a' w' θ' W' ∧ Stp θ W w θ' W' w' ∧ Qs .rt st'
  | _ => False

theorem Cq.trans {Qs : Ex → St → Prop} {θ' : Th} {W' : Im} {w w' : World} (hs : Stp θ W w θ' W' w') {e : Exit} {a : Act} {w2 : World} (h : Cq lv N Qs θ' W' w' e a w2) : Cq lv N Qs θ W w e a w2 := by
  cases e with
  | normal => obtain ⟨s, t, u, h1, h2, h3⟩ := h; exact ⟨s, t, u, h1, hs.trans h2, h3⟩
  | exit id => obtain ⟨s, t, u, h1, h2, h3⟩ := h; exact ⟨s, t, u, h1, hs.trans h2, h3⟩
  | ret => obtain ⟨s, t, u, h1, h2, h3⟩ := h; exact ⟨s, t, u, h1, hs.trans h2, h3⟩
  | goto l => exact h.elim
  | panic c => exact h.elim
  | outgrown => exact h.elim

/-- a loop with a ghost: what its head's relation speaks of, and its measure -/
theorem wp_loop_ghost {α : Type} {c : Code} {Q : Exit → Act → World → Prop} {a : Act} {w : World} (I : α → Act → World → Prop) (μ : α → Nat) (x : α) (h₀ : I x a w)
    (round : ∀ x a w, I x a w → c.wp P (Exit.then (fun a' w' => ∃ y, I y a' w' ∧ μ y < μ x) Q) a w) : (Code.loop c).wp P Q a w := by
  intro b k cs
  have key : ∀ n x a w, μ x = n → I x a w →
      ∃ e a' w', Q e a' w' ∧ Arrives P (lone (b.at a (.code c :: .inLoop c :: k)) cs w) b k cs e a' w' := by
    intro n
    induction n using Nat.strongRecOn with
    | _ n ih =>
      intro x a w hn hI
      obtain ⟨e, a₁, w₁, hq, harr⟩ := round x a w hI b (.inLoop c :: k) cs
      cases e with
      | normal =>
        obtain ⟨y, hI₁, hlt⟩ := hq
        obtain ⟨e₂, a₂, w₂, hq₂, harr₂⟩ := ih (μ y) (hn ▸ hlt) y a₁ w₁ rfl hI₁
        exact ⟨e₂, a₂, w₂, hq₂, .of_steps (Steps.trans harr (.one step_inLoop)) harr₂⟩
      | exit id => exact ⟨_, a₁, w₁, hq, .pass (x := .inLoop c) rfl (fun _ _ => .inl (by simp)) harr⟩
      | goto l => exact ⟨_, a₁, w₁, hq, .pass (x := .inLoop c) rfl (fun _ _ => .inl (by simp)) harr⟩
      | ret => exact ⟨_, a₁, w₁, hq, .pass (x := .inLoop c) rfl (fun _ _ => .inl (by simp)) harr⟩
      | panic ch => exact ⟨_, a₁, w₁, hq, .pass (x := .inLoop c) rfl (fun _ _ => .inl (by simp)) harr⟩
      | outgrown => exact ⟨_, a₁, w₁, hq, .pass (x := .inLoop c) rfl (fun _ _ => .inl (by simp)) harr⟩
  obtain ⟨e, a', w', hq, harr⟩ := key _ x a w rfl h₀
  exact ⟨e, a', w', hq, .of_steps (.one step_loop) harr⟩

/-- what is asked of regions that draw their order -/
def DrwOk (lv : List Nat) (P : Program) (N : Nat) (D : (List MI) → List (List Nat) → (St → Prop) → St → Prop) : Prop :=
  ∀ (id : Nat) (ops : Array Oper) (K : St → Prop) (st : St) (Q : Exit → Act → World → Prop) (a : Act) (w : World) (θ : Th) (W : Im),
    D (ops.toList.map (cOper lv P N ops)) (ops.toList.map fun o => (o.after.toList.filter (Region.binds .any)).map (·.on)) K st → Rl lv N st a w θ W →
    (∀ st' a' w' θ' W', K st' → Rl lv N st' a' w' θ' W' → Stp θ W w θ' W' w' → Q .normal a' w') → (Code.region id ops true).wp P Q a w

end Go.AM

/- Regions whose order is drawn: single operations, moved to another state. -/
set_option linter.all false
namespace Go.AM
variable {lv : List Nat} {P : Program} {N : Nat} {K : St → Prop} {θ : Th} {W : Im} {ops : Array Oper} {C : CallP}

/-- the operands of an operation of the small code -/
def MO.args : MO → List MA
  | .mv x => [x] | .pick a b c => [a, b, c] | .alloc _ => [] | .box _ x => [x]
  | .build _ ps => ps.map (·.2.2) | .bsl _ _ _ ps => ps.map (·.2)
  | .ld _ _ x => [x] | .sto _ x v => [x, v] | .nilc x => [x] | .bin _ x y => [x, y] | .un _ x => [x] | .conv _ x => [x] | .b2s x => [x]
  | .mkf _ cs => cs | .mks _ _ _ l c => [l, c] | .slc _ x lo hi => x :: (lo.toList ++ hi.toList) | .fad _ x => [x] | .fld _ _ _ x => [x]
  | .ixs _ x i => [x, i] | .ixa _ _ x i => [x, i] | .ixt x i => [x, i] | .ext x _ => [x] | .call _ as => as | .calv x as => x :: as
  | .app _ _ x y => [x, y] | .len _ x => [x] | .lenq _ x => [x] | .mnx _ x y => [x, y] | .beq _ x y => [x, y] | .stop => []

/-- two states in which these operands read alike -/
def Agree (l : List MA) (s s' : St) : Prop := ∀ x ∈ l, s.get x = s'.get x

theorem Agree.gets {l : List MA} {s s' : St} (h : Agree l s s') : gets s l = gets s' l := by
  induction l with
  | nil => rfl
  | cons x l ih =>
    rw [gets_cons, gets_cons, h x (by simp), ih (fun y hy => h y (List.mem_cons_of_mem _ hy))]

theorem Agree.parts {ps : List (Nat × Nat × MA)} {s s' : St} (h : Agree (ps.map (·.2.2)) s s') : ∀ z, partsV s ps z = partsV s' ps z := by
  induction ps with
  | nil => intro z; rfl
  | cons p ps ih =>
    obtain ⟨o, n, x⟩ := p
    intro z
    have h1 : s.get x = s'.get x := h x (by simp)
    have h2 := ih (fun y hy => h y (List.mem_cons_of_mem _ hy))
    rw [partsV_cons, partsV_cons, h1]
    split
    · congr 1
      funext z'
      exact h2 z'
    · rfl

theorem Agree.rows {sz : Nat} {ps : List (Nat × MA)} {s s' : St} (h : Agree (ps.map (·.2)) s s') : ∀ rs, rowsV s sz ps rs = rowsV s' sz ps rs := by
  induction ps with
  | nil => intro z; rfl
  | cons p ps ih =>
    obtain ⟨n, x⟩ := p
    intro rs
    have h1 : s.get x = s'.get x := h x (by simp)
    have h2 := ih (fun y hy => h y (List.mem_cons_of_mem _ hy))
    rw [rowsV_cons, rowsV_cons, h1]
    split
    · exact h2 _
    · rfl

theorem withV_put {x : Option AV} {d : MD} {s : St} (h : withV x d K s) : ∃ v, K (s.put d v) ∧ ∀ s', withV x d (fun t => t = s'.put d v) s' := by
  obtain ⟨v, rfl, h⟩ := withV_inv h
  exact ⟨v, h, fun s' => rfl⟩

theorem bndK_mono {lo hi : Option AV} {n : Nat} {R : Nat → Nat → Prop} (h : bndK lo hi n R) : ∃ a b, R a b ∧ ∀ R' : Nat → Nat → Prop, R' a b → bndK lo hi n R' := by
  unfold bndK at h
  split at h
  · exact ⟨_, _, h, fun R' h' => h'⟩
  · obtain ⟨h1, h2, h3⟩ := h; exact ⟨_, _, h3, fun R' h' => ⟨h1, h2, h'⟩⟩
  · obtain ⟨h1, h2, h3⟩ := h; exact ⟨_, _, h3, fun R' h' => ⟨h1, h2, h'⟩⟩
  · obtain ⟨h1, h2, h3, h4⟩ := h; exact ⟨_, _, h4, fun R' h' => ⟨h1, h2, h3, h'⟩⟩
  · exact h.elim

theorem su_ld' (st : St) (d : MD) (g n x) : stepU C (.ld g n x) d K st = withV (ldV g n (ldAt st.H (st.get x))) d K st := rfl
theorem su_b2s' (st : St) (d : MD) (x) : stepU C (.b2s x) d K st = withV (b2sV st.H (st.get x)) d K st := rfl
theorem su_slc' (st : St) (d : MD) (k x lo hi) : stepU C (.slc k x lo hi) d K st = slcK k (st.get x) (lo.map st.get) (hi.map st.get) d K st := rfl

theorem ldAt_ext {H H' : List AO} (h : Hext H H') {x : AV} {cs : List AV} (hl : ldAt H x = some cs) : ldAt H' x = some cs := by
  unfold ldAt at hl ⊢
  split at hl
  · split at hl
    · rename_i hid; rw [h _ _ hid (fun e => by cases e)]; exact hl
    · cases hl
  · split at hl
    · rename_i hid; rw [h _ _ hid (fun e => by cases e)]; exact hl
    · cases hl
  · exact hl
  · cases hl

theorem srcRows_ext {H H' : List AO} (h : Hext H H') {sz : Nat} {x : AV} {ys : List (List AV)} (hl : srcRows H sz x = some ys) : srcRows H' sz x = some ys := by
  unfold srcRows at hl ⊢
  split at hl
  · exact hl
  · exact hl
  · exact hl
  · unfold srcR at hl ⊢
    split at hl
    · rename_i hid; rw [h _ _ hid (fun e => by cases e)]; exact hl
    · cases hl
  · cases hl

theorem b2sV_ext {H H' : List AO} (h : Hext H H') {x v : AV} (hl : b2sV H x = some v) : b2sV H' x = some v := by
  have inv : ∀ y, b2sR (srcRows H 1 y) = some v → b2sR (srcRows H' 1 y) = some v := by
    intro y hy
    cases hs : srcRows H 1 y with
    | none => rw [hs] at hy; cases hy
    | some ys => rw [hs] at hy; rw [srcRows_ext h hs]; exact hy
  unfold b2sV at hl ⊢
  split at hl
  · exact inv _ hl
  · exact hl
  · exact inv _ hl
  · cases hl

/-- A QUIET OPERATION: it has a value; and it has that value in every state in which its operands read alike and in which the objects are kept. -/
theorem quiet_val {o : MO} {d : MD} {s : St} (hq : kindOf o = .quiet) (h : stepU C o d K s) :
    ∃ v, K (s.put d v) ∧ ∀ s', Agree o.args s s' → Hext s.H s'.H → stepU C o d (fun t => t = s'.put d v) s' := by
  cases o with
  | mv x => exact ⟨s.get x, h, fun s' ha _ => by rw [su_mv, ha x (by simp [MO.args])]⟩
  | pick c x y =>
    obtain ⟨v, h1, h2⟩ := withV_put h
    refine ⟨v, h1, fun s' ha _ => ?_⟩
    rw [su_pick, ← ha c (by simp [MO.args]), ← ha x (by simp [MO.args]), ← ha y (by simp [MO.args])]
    exact h2 s'
  | build z ps =>
    obtain ⟨v, h1, h2⟩ := withV_put h
    refine ⟨v, h1, fun s' ha _ => ?_⟩
    have e : buildV s' z ps = buildV s z ps := by rw [buildV_eq, buildV_eq, Agree.parts ha]
    rw [su_build, e]
    exact h2 s'
  | ld g n x =>
    obtain ⟨v, hv, h1⟩ := withV_inv h
    refine ⟨v, h1, fun s' ha he => ?_⟩
    rw [su_ld', ← ha x (by simp [MO.args])]
    cases hl : ldAt s.H (s.get x) with
    | none => rw [hl] at hv; cases hv
    | some cs => rw [ldAt_ext he hl, ← hl, hv]; rfl
  | nilc x =>
    obtain ⟨v, h1, h2⟩ := withV_put h
    refine ⟨v, h1, fun s' ha _ => ?_⟩
    rw [su_nilc, ← ha x (by simp [MO.args])]
    exact h2 s'
  | bin op x y =>
    rw [su_bin] at h
    have hx : ∀ s', Agree (MO.args (.bin op x y)) s s' → s'.get x = s.get x ∧ s'.get y = s.get y := fun s' ha => ⟨(ha x (by simp [MO.args])).symm, (ha y (by simp [MO.args])).symm⟩
    unfold binK at h
    split at h
    · rename_i v hv
      refine ⟨v, h, fun s' ha _ => ?_⟩
      rw [su_bin, (hx s' ha).1, (hx s' ha).2]
      unfold binK
      rw [hv]
    · rename_i hv
      unfold bin2K at h
      split at h
      · rename_i a b e1 e2
        refine ⟨_, h.2, fun s' ha _ => ?_⟩
        rw [su_bin, (hx s' ha).1, (hx s' ha).2]
        unfold binK
        rw [hv]
        rw [e1, e2]
        exact ⟨h.1, rfl⟩
      · rename_i k a k' b e1 e2
        refine ⟨_, h.2.2, fun s' ha _ => ?_⟩
        rw [su_bin, (hx s' ha).1, (hx s' ha).2]
        unfold binK
        rw [hv]
        rw [e1, e2]
        exact ⟨h.1, h.2.1, rfl⟩
      · rename_i k a k' b e1 e2
        refine ⟨_, h.2.2, fun s' ha _ => ?_⟩
        rw [su_bin, (hx s' ha).1, (hx s' ha).2]
        unfold binK
        rw [hv]
        rw [e1, e2]
        exact ⟨h.1, h.2.1, rfl⟩
      · rename_i k a k' b e1 e2
        refine ⟨_, h.2, fun s' ha _ => ?_⟩
        rw [su_bin, (hx s' ha).1, (hx s' ha).2]
        unfold binK
        rw [hv]
        rw [e1, e2]
        exact ⟨h.1, rfl⟩
      · rename_i k a k' b e1 e2
        refine ⟨_, h.2, fun s' ha _ => ?_⟩
        rw [su_bin, (hx s' ha).1, (hx s' ha).2]
        unfold binK
        rw [hv]
        rw [e1, e2]
        exact ⟨h.1, rfl⟩
      · exact h.elim
  | un op x =>
    obtain ⟨v, h1, h2⟩ := withV_put h
    refine ⟨v, h1, fun s' ha _ => ?_⟩
    rw [su_un, ← ha x (by simp [MO.args])]
    exact h2 s'
  | conv k x =>
    obtain ⟨v, h1, h2⟩ := withV_put h
    refine ⟨v, h1, fun s' ha _ => ?_⟩
    rw [su_conv, ← ha x (by simp [MO.args])]
    exact h2 s'
  | b2s x =>
    obtain ⟨v, hv, h1⟩ := withV_inv h
    refine ⟨v, h1, fun s' ha he => ?_⟩
    rw [su_b2s', ← ha x (by simp [MO.args]), b2sV_ext he hv]
    rfl
  | mkf f cs => exact ⟨.clo f (gets s cs), h, fun s' ha _ => by rw [su_mkf, Agree.gets (l := cs) ha]⟩
  | slc k x lo hi =>
    have hx : ∀ s', Agree (MO.args (.slc k x lo hi)) s s' → s'.get x = s.get x ∧ lo.map s'.get = lo.map s.get ∧ hi.map s'.get = hi.map s.get := by
      intro s' ha
      refine ⟨(ha x (by simp [MO.args])).symm, ?_, ?_⟩
      · cases lo with
        | none => rfl
        | some y => simp [(ha y (by simp [MO.args])).symm]
      · cases hi with
        | none => rfl
        | some y => simp [(ha y (by simp [MO.args])).symm]
    change slcK k (s.get x) (lo.map s.get) (hi.map s.get) d K s at h
    have fin : ∀ v, (∀ s', Hext s.H s'.H → slcK k (s.get x) (lo.map s.get) (hi.map s.get) d (fun t => t = s'.put d v) s') → ∀ s', Agree (MO.args (.slc k x lo hi)) s s' → Hext s.H s'.H → stepU C (.slc k x lo hi) d (fun t => t = s'.put d v) s' := by
      intro v hv s' ha he
      obtain ⟨e1, e2, e3⟩ := hx s' ha
      rw [su_slc', e1, e2, e3]
      exact hv s' he
    generalize s.get x = y at h fin
    unfold slcK at h
    split at h
    · obtain ⟨a, b, h1, h2⟩ := bndK_mono h.2
      exact ⟨_, h1, fin _ (fun s' _ => ⟨h.1, h2 _ rfl⟩)⟩
    · obtain ⟨a, b, h1, h2⟩ := bndK_mono h
      exact ⟨_, h1, fin _ (fun s' _ => by rw [slcK_s]; exact h2 _ rfl)⟩
    · obtain ⟨a, b, h1, h2⟩ := bndK_mono h
      exact ⟨_, h1, fin _ (fun s' _ => by rw [slcK_nl]; exact h2 _ rfl)⟩
    · unfold slcR at h
      split at h
      · rename_i hid
        obtain ⟨q1, q2, h⟩ := h
        obtain ⟨a, b, h1, h2⟩ := bndK_mono h
        refine ⟨_, h1, fin _ (fun s' he => ?_)⟩
        simp only [slcK, slcR]
        rw [he _ _ hid (fun e => by cases e)]
        exact ⟨q1, q2, h2 _ rfl⟩
      · exact h.elim
    · exact h.elim
  | fad off x =>
    obtain ⟨v, h1, h2⟩ := withV_put h
    refine ⟨v, h1, fun s' ha _ => ?_⟩
    rw [su_fad, ← ha x (by simp [MO.args])]
    exact h2 s'
  | fld g off n x =>
    rw [su_fld] at h
    obtain ⟨v, h1, h2⟩ := withV_put h
    refine ⟨v, h1, fun s' ha _ => ?_⟩
    rw [su_fld, ← ha x (by simp [MO.args])]
    exact h2 s'
  | ixs sz x i =>
    have hx : ∀ s', Agree (MO.args (.ixs sz x i)) s s' → s'.get x = s.get x ∧ s'.get i = s.get i := fun s' ha => ⟨(ha x (by simp [MO.args])).symm, (ha i (by simp [MO.args])).symm⟩
    rw [su_ixs] at h
    have fin : ∀ v, (∀ s', Hext s.H s'.H → ixsK sz (s.get x) (s.get i) d (fun t => t = s'.put d v) s') → ∀ s', Agree (MO.args (.ixs sz x i)) s s' → Hext s.H s'.H → stepU C (.ixs sz x i) d (fun t => t = s'.put d v) s' := by
      intro v hv s' ha he
      obtain ⟨e1, e2⟩ := hx s' ha
      rw [su_ixs, e1, e2]
      exact hv s' he
    generalize s.get x = y at h fin
    generalize s.get i = z at h fin
    unfold ixsK at h
    split at h
    · split at h
      · obtain ⟨q1, r, q2, q3, h⟩ := h
        exact ⟨_, h, fin _ (fun s' _ => ⟨q1, r, q2, q3, rfl⟩)⟩
      · obtain ⟨q1, q2, h⟩ := h
        split at h
        · rename_i hid
          refine ⟨_, h.2.2, fin _ (fun s' he => ⟨q1, q2, ?_⟩)⟩
          rw [he _ _ hid (fun e => by cases e)]
          exact ⟨h.1, h.2.1, rfl⟩
        · exact h.elim
      · exact h.elim
    · exact h.elim
  | ixa len sz x i =>
    have hx : ∀ s', Agree (MO.args (.ixa len sz x i)) s s' → s'.get x = s.get x ∧ s'.get i = s.get i := fun s' ha => ⟨(ha x (by simp [MO.args])).symm, (ha i (by simp [MO.args])).symm⟩
    rw [su_ixa] at h
    have fin : ∀ v, (∀ s' : St, ixaK len sz (s.get x) (s.get i) d (fun t => t = s'.put d v) s') → ∀ s', Agree (MO.args (.ixa len sz x i)) s s' → Hext s.H s'.H → stepU C (.ixa len sz x i) d (fun t => t = s'.put d v) s' := by
      intro v hv s' ha he
      obtain ⟨e1, e2⟩ := hx s' ha
      rw [su_ixa, e1, e2]
      exact hv s'
    generalize s.get x = y at h fin
    generalize s.get i = z at h fin
    unfold ixaK at h
    split at h
    · split at h
      · exact ⟨_, h.2.2, fin _ (fun s' => ⟨h.1, h.2.1, rfl⟩)⟩
      · exact h.elim
    · exact h.elim
  | ixt x i =>
    have hx : ∀ s', Agree (MO.args (.ixt x i)) s s' → s'.get x = s.get x ∧ s'.get i = s.get i := fun s' ha => ⟨(ha x (by simp [MO.args])).symm, (ha i (by simp [MO.args])).symm⟩
    rw [su_ixt] at h
    have fin : ∀ v, (∀ s' : St, ixtK (s.get x) (s.get i) d (fun t => t = s'.put d v) s') → ∀ s', Agree (MO.args (.ixt x i)) s s' → Hext s.H s'.H → stepU C (.ixt x i) d (fun t => t = s'.put d v) s' := by
      intro v hv s' ha he
      obtain ⟨e1, e2⟩ := hx s' ha
      rw [su_ixt, e1, e2]
      exact hv s'
    generalize s.get x = y at h fin
    generalize s.get i = z at h fin
    unfold ixtK at h
    split at h
    · split at h
      · obtain ⟨q1, c, q2, h⟩ := h
        exact ⟨_, h, fin _ (fun s' => ⟨q1, c, q2, rfl⟩)⟩
      · exact h.elim
    · exact h.elim
  | ext x n =>
    obtain ⟨v, h1, h2⟩ := withV_put h
    refine ⟨v, h1, fun s' ha _ => ?_⟩
    rw [su_ext, ← ha x (by simp [MO.args])]
    exact h2 s'
  | lenq t x =>
    obtain ⟨v, h1, h2⟩ := withV_put h
    refine ⟨v, h1, fun s' ha _ => ?_⟩
    rw [su_lenq, ← ha x (by simp [MO.args])]
    exact h2 s'
  | mnx m x y =>
    obtain ⟨v, h1, h2⟩ := withV_put h
    refine ⟨v, h1, fun s' ha _ => ?_⟩
    rw [su_mnx, ← ha x (by simp [MO.args]), ← ha y (by simp [MO.args])]
    exact h2 s'
  | beq m x y =>
    obtain ⟨v, h1, h2⟩ := withV_put h
    refine ⟨v, h1, fun s' ha _ => ?_⟩
    rw [su_beq, ← ha x (by simp [MO.args]), ← ha y (by simp [MO.args])]
    exact h2 s'
  | _ => cases hq

theorem put_TH (s : St) (H : List AO) (d : MD) (v : AV) : St.put ⟨s.L, s.T, H⟩ d v = ⟨(s.put d v).L, (s.put d v).T, H⟩ := by cases d <;> rfl

theorem hext_app (H A : List AO) : Hext H (H ++ A) := fun id o h _ => by
  rw [List.getElem?_append_left (List.getElem?_eq_some_iff.1 h).1]; exact h

theorem stoH_frame {H H' : List AO} {n : Nat} {x v : AV} (A : List AO) (h : stoH H n x v = some H') : stoH (H ++ A) n x v = some (H' ++ A) := by
  unfold stoH at h ⊢
  split at h
  · rename_i hc
    rw [if_pos hc]
    split at h
    · rename_i id off
      split at h
      · rename_i cs hid
        have hlt := (List.getElem?_eq_some_iff.1 hid).1
        rw [Option.map_eq_some_iff] at h
        obtain ⟨cs', h1, rfl⟩ := h
        simp only [List.getElem?_append_left hlt, hid, h1, Option.map_some, List.set_append_left _ _ hlt]
      · cases h
    · rename_i id ver row col
      split at h
      · rename_i sz ver' rs hid
        have hlt := (List.getElem?_eq_some_iff.1 hid).1
        split at h
        · rename_i hv
          split at h
          · rename_i r hr
            rw [Option.map_eq_some_iff] at h
            obtain ⟨r', h1, rfl⟩ := h
            simp only [List.getElem?_append_left hlt, hid, hr, h1, Option.map_some, List.set_append_left _ _ hlt, if_pos hv]
          · cases h
        · cases h
      · cases h
    · cases h
  · cases h

theorem su_sto' (st : St) (d : MD) (n x v) : stepU C (.sto n x v) d K st = withH (stoH st.H n (st.get x) (st.get v)) d K st := rfl
theorem su_app' (st : St) (d : MD) (sz b x y) : stepU C (.app sz b x y) d K st = appY sz b (st.get x) (srcRows st.H sz (st.get y)) d K st := rfl
theorem appX_gs' (st : St) (d : MD) (sz b id ver off n ys) : appX sz b (.gs id ver off n) ys d K st = appR sz b id ver off n ys d K st st.H[id]? := rfl
theorem withH_some' (st : St) (d : MD) (h) : withH (some h) d K st = K (St.put ⟨st.L, st.T, h⟩ d .any) := rfl

/-- AN OPERATION WITH EFFECTS: it gives a value and other objects, as many; and it does so in every state in which its operands read alike, whatever more objects are there. -/
theorem eff_val {o : MO} {d : MD} {s : St} (hq : kindOf o = .eff) (h : stepU C o d K s) :
    ∃ v H', K ⟨(s.put d v).L, (s.put d v).T, H'⟩ ∧ (H'.length = s.H.length → ∀ s' A, Agree o.args s s' → s'.H = s.H ++ A → stepU C o d (fun t => t = ⟨(s'.put d v).L, (s'.put d v).T, H' ++ A⟩) s') := by
  cases o with
  | sto n x v =>
    change withH (stoH s.H n (s.get x) (s.get v)) d K s at h
    cases hs : stoH s.H n (s.get x) (s.get v) with
    | none => rw [hs] at h; exact h.elim
    | some H' =>
      rw [hs] at h
      refine ⟨.any, H', by rw [← put_TH]; exact h, fun _ s' A ha hA => ?_⟩
      rw [su_sto', ← ha x (by simp [MO.args]), ← ha v (by simp [MO.args]), hA, stoH_frame A hs, withH_some', put_TH]
  | app sz b x y =>
    change appY sz b (s.get x) (srcRows s.H sz (s.get y)) d K s at h
    cases hy : srcRows s.H sz (s.get y) with
    | none => rw [hy] at h; exact h.elim
    | some ys =>
      rw [hy] at h
      obtain ⟨h1, h2⟩ := h
      unfold appX at h2
      split at h2
      · rename_i e
        obtain ⟨q1, q2, h2⟩ := h2
        rw [put_TH] at h2
        refine ⟨_, _, h2, fun hl => ?_⟩
        simp at hl
      · rename_i id ver off n e
        unfold appR at h2
        split at h2
        · rename_i sz' ver' rs hid
          obtain ⟨q1, q2, q3, q4, q5, q6, h2⟩ := h2
          rw [put_TH] at h2
          have hlt := (List.getElem?_eq_some_iff.1 hid).1
          refine ⟨_, _, h2, fun _ s' A ha hA => ?_⟩
          rw [su_app', ← ha x (by simp [MO.args]), ← ha y (by simp [MO.args]), hA, srcRows_ext (hext_app _ A) hy, e]
          refine ⟨h1, ?_⟩
          rw [appX_gs', hA, List.getElem?_append_left hlt, hid]
          refine ⟨q1, q2, q3, q4, q5, q6, ?_⟩
          rw [hA, List.set_append_left _ _ hlt]
          exact put_TH s' _ d _
        · exact h2.elim
      · exact h2.elim
  | _ => cases hq

end Go.AM

/- Regions whose order is drawn: new objects at places that are kept for them; calls that leave the objects alone. -/
set_option linter.all false
namespace Go.AM
variable {lv : List Nat} {P : Program} {N : Nat} {K : St → Prop} {θ : Th} {W : Im} {ops : Array Oper} {C : CallP} {o : Oper}

theorem SR.reserve {H : List AO} {w : World} (h : SR θ W H w) (k : Nat) : SR θ W (H ++ List.replicate k .rsv) w := by
  refine ⟨h.imm, fun id o' hid => ?_, fun id ver hid => h.out id ver (by simp at hid; omega), h.own, h.inj⟩
  rcases Nat.lt_or_ge id H.length with hlt | hge
  · rw [List.getElem?_append_left hlt] at hid
    exact h.obj id o' hid
  · rw [List.getElem?_append_right hge, List.getElem?_replicate] at hid
    split at hid
    · cases hid; exact fun ver => h.out id ver hge
    · cases hid

theorem SR.fill {H : List AO} {w w' : World} (h : SR θ W H w) (id : Nat) (hid : H[id]? = some .rsv) (o : AO) (pl : Pl)
    (hos : w'.os = w.os) (htp : w'.tape = w.tape) (hou : w'.output = w.output) (hsz : w.heap.size ≤ w'.heap.size)
    (hold : ∀ b, b < w.heap.size → w'.heap[b]? = w.heap[b]?)
    (hpl : ∀ b sz tot, pl = .at b sz tot → b = w.heap.size)
    (hno : pl ≠ .no)
    (ho : (∀ x v, ARel θ W x v → ARel (thSet θ id 0 pl) W x v) → OR (thSet θ id 0 pl) W w' id o) :
    SR (thSet θ id 0 pl) W (H.set id o) w' ∧ Stp θ W w (thSet θ id 0 pl) W w' := by
  have hidl : id < H.length := by
    rcases Nat.lt_or_ge id H.length with h' | h'
    · exact h'
    · rw [List.getElem?_eq_none h'] at hid; cases hid
  have hnone : ∀ ver, θ id ver = .no := h.obj id _ hid
  have hθ : ∀ i ver, θ i ver ≠ .no → thSet θ id 0 pl i ver = θ i ver := by
    intro i ver hn
    refine thSet_other fun ⟨e, _⟩ => hn ?_
    rw [e]; exact hnone ver
  have hr : ∀ x v, ARel θ W x v → ARel (thSet θ id 0 pl) W x v := fun x v hx => hx.mono (fun _ _ _ h => h) (fun i ver hn => .inl (hθ i ver hn))
  have hown : ∀ b, Owned (thSet θ id 0 pl) b → Owned θ b ∨ w.heap.size = b := by
    rintro b ⟨i, ver, sz, tot, hb⟩
    by_cases e : i = id ∧ ver = 0
    · obtain ⟨rfl, rfl⟩ := e
      rw [thSet_same] at hb
      exact .inr (hpl b sz tot hb).symm
    · rw [thSet_other e] at hb
      exact .inl ⟨i, ver, sz, tot, hb⟩
  refine ⟨⟨?_, ?_, ?_, ?_, ?_⟩, ⟨hos, htp, hou, hsz, fun b hb _ => hold b hb, fun _ _ _ h => h, fun _ _ _ _ => rfl, fun i ver hn => .inl (hθ i ver hn), fun b hb => (hown b hb).imp (fun a => a) (fun e => by omega)⟩⟩
  · intro b o' v hv
    have hb := h.imm b o' v hv
    rw [← hb]
    exact World.cell?_of_block (hold b (cell_old hb))
  · intro i o' hi
    by_cases e : i = id
    · subst e
      rw [List.getElem?_set_self hidl] at hi
      cases hi
      exact ho hr
    · rw [List.getElem?_set_ne (Ne.symm e)] at hi
      exact (h.obj i o' hi).mono (fun ver => thSet_other (by omega)) (fun ver b sz tot hb => hold b (h.ownedLt hb)) hr
  · intro i ver hi
    simp at hi
    rw [thSet_other (by omega)]
    exact h.out i ver hi
  · intro b hb o'
    rcases hown b hb with hb | hb
    · exact h.own b hb o'
    · cases e : W b o' with
      | none => rfl
      | some v => have := h.lt e; omega
  · intro b i ver sz tot i' ver' sz' tot' h1 h2
    by_cases e : i = id ∧ ver = 0 <;> by_cases e' : i' = id ∧ ver' = 0
    · exact ⟨by omega, by omega⟩
    · obtain ⟨rfl, rfl⟩ := e
      rw [thSet_same] at h1
      rw [thSet_other e'] at h2
      have := hpl _ _ _ h1
      have := h.ownedLt h2
      omega
    · obtain ⟨rfl, rfl⟩ := e'
      rw [thSet_same] at h2
      rw [thSet_other e] at h1
      have := hpl _ _ _ h2
      have := h.ownedLt h1
      omega
    · rw [thSet_other e] at h1
      rw [thSet_other e'] at h2
      exact h.inj b _ _ _ _ _ _ _ _ h1 h2

theorem newvarAt {H : List AO} {w : World} (h : SR θ W H w) (id : Nat) (hid : H[id]? = some .rsv) (cs : List AV) (vs : Array Value) (ty : TypeId) (hc : CRel θ W cs vs) :
    ∃ θ', SR θ' W (H.set id (.var cs)) (w.alloc (.cells vs ty)) ∧ Stp θ W w θ' W (w.alloc (.cells vs ty)) ∧ ARel θ' W (.ptr id 0) (.pointer (some ⟨w.heap.size, 0, none⟩)) := by
  have hnone : ∀ ver, θ id ver = .no := h.obj id _ hid
  obtain ⟨a, b⟩ := h.fill (w' := w.alloc (.cells vs ty)) id hid (.var cs) (.at w.heap.size 1 0) rfl rfl rfl (by simp) (fun k hb => RowKit.Below.heap_alloc w _ k hb) (fun b sz tot e => by cases e; rfl) (fun e => by cases e)
    (fun hr => ⟨⟨w.heap.size, 1, 0, ty, vs, thSet_same _ _ _ _, heap_alloc_new w _, hc.size, fun j c v hj hv => hr _ _ (hc.rel j c v hj hv), hc.one⟩, fun ver hv => by
      rw [thSet_other (by omega)]; exact hnone ver⟩)
  exact ⟨_, a, b, .ptr _ 0 w.heap.size 1 0 (thSet_same _ _ _ _)⟩

theorem newrowsAt {H : List AO} {w : World} (h : SR θ W H w) (id : Nat) (hid : H[id]? = some .rsv) (sz : Nat) (rs : List (List AV)) (vs : Array Value) (ty : TypeId) (tot : Nat)
    (hs : vs.size = tot * sz) (hl : rs.length ≤ tot) (hr : ∀ r ∈ rs, r.length = sz)
    (hc : ∀ (i : Nat) (r : List AV) (j : Nat) (c : AV) (u : Value), rs[i]? = some r → r[j]? = some c → vs[i * sz + j]? = some u → ARel θ W c u) (h1 : ∀ (j : Nat) (u : Value), vs[j]? = some u → u.oneCell' = true) :
    ∃ θ', SR θ' W (H.set id (.rows sz 0 rs)) (w.alloc (.cells vs ty)) ∧ Stp θ W w θ' W (w.alloc (.cells vs ty)) ∧ θ' id 0 = .at w.heap.size sz tot := by
  have hnone : ∀ ver, θ id ver = .no := h.obj id _ hid
  obtain ⟨a, b⟩ := h.fill (w' := w.alloc (.cells vs ty)) id hid (.rows sz 0 rs) (.at w.heap.size sz tot) rfl rfl rfl (by simp) (fun k hb => RowKit.Below.heap_alloc w _ k hb) (fun b sz tot e => by cases e; rfl) (fun e => by cases e)
    (fun hrel => ⟨.inr ⟨w.heap.size, tot, ty, vs, thSet_same _ _ _ _, heap_alloc_new w _, hs, hl, hr, fun i r j c u hi hj hu => hrel _ _ (hc i r j c u hi hj hu), h1⟩, fun v' hv => by
      rw [thSet_other (by omega)]; exact hnone v', fun v' hv => by omega⟩)
  exact ⟨_, a, b, thSet_same _ _ _ _⟩

/-- what a new object is, told of the operation's operands -/
def NewOk (o : MO) (s : St) (ob : AO) (mk : Nat → AV) : Prop :=
  match o with
  | .alloc z => ob = .var z ∧ mk = fun id => .ptr id 0
  | .box n x => ((s.get x).allOne && (s.get x).cells.length == n) = true ∧ ob = .var (s.get x).cells ∧ mk = fun id => .ptr id 0
  | .bsl sz z n ps => ∃ rs, rowsV s sz ps (List.replicate n z) = some rs ∧ ob = .rows sz 0 rs ∧ mk = fun id => .gs id 0 0 n
  | .mks sz bytes z l c => ∃ n c' : Int, s.get l = .p (.i .i64 n) ∧ s.get c = .p (.i .i64 c') ∧ (0 ≤ n ∧ n ≤ c' ∧ c' * bytes ≤ 140737488355328 ∧ c' ≤ 140737488355328) ∧ ob = .rows sz 0 (List.replicate n.toNat z) ∧ mk = fun id => .gs id 0 0 n.toNat
  | _ => False

theorem new_val {J : PK} {Hc : List AO} {m : MO} {d : MD} {s : St} (hq : kindOf m = .new) (h : preN Hc m d J s) : ∃ ob mk, NewOk m s ob mk ∧ J Hc (St.put ⟨s.L, s.T, s.H ++ [ob]⟩ d (mk (Hc.length + s.H.length))) := by
  cases m with
  | alloc z => exact ⟨_, _, ⟨rfl, rfl⟩, h⟩
  | box n x =>
    change nwK Hc (if (s.get x).allOne && (s.get x).cells.length == n then some (.var (s.get x).cells) else none) (fun id => .ptr id 0) d J s at h
    split at h
    · rename_i hc; exact ⟨_, _, ⟨hc, rfl, rfl⟩, h⟩
    · exact h.elim
  | bsl sz z n ps =>
    change nwK Hc ((rowsV s sz ps (List.replicate n z)).map fun rs => .rows sz 0 rs) (fun id => .gs id 0 0 n) d J s at h
    cases hr : rowsV s sz ps (List.replicate n z) with
    | none => rw [hr] at h; exact h.elim
    | some rs => rw [hr] at h; exact ⟨_, _, ⟨rs, hr, rfl, rfl⟩, h⟩
  | mks sz b z l c =>
    change mksN Hc sz b z (s.get l) (s.get c) d J s at h
    unfold mksN at h
    split at h
    · rename_i n c' e1 e2
      obtain ⟨h1, h2, h3, h4, h5⟩ := h
      exact ⟨_, _, ⟨n, c', e1, e2, ⟨h1, h2, h3, h4⟩, rfl, rfl⟩, h5⟩
    · exact h.elim
  | _ => cases hq

theorem NewOk.agree {m : MO} {s s' : St} {ob : AO} {mk : Nat → AV} (h : NewOk m s ob mk) (ha : Agree m.args s s') : NewOk m s' ob mk := by
  cases m with
  | alloc z => exact h
  | box n x =>
    have e := ha x (by simp [MO.args])
    simp only [NewOk] at h ⊢
    rw [← e]
    exact h
  | bsl sz z n ps =>
    obtain ⟨rs, h1, h2⟩ := h
    exact ⟨rs, by rw [← Agree.rows (ps := ps) ha]; exact h1, h2⟩
  | mks sz b z l c =>
    obtain ⟨n, c', h1, h2, h3⟩ := h
    exact ⟨n, c', by rw [← ha l (by simp [MO.args])]; exact h1, by rw [← ha c (by simp [MO.args])]; exact h2, h3⟩
  | _ => exact h.elim

theorem end_at {a : Act} {w w' : World} {next : Act → World → Prop} {Q : Exit → Act → World → Prop} {s : St} {θ' : Th} {H' : List AO} {v : Value} {r : AV}
    (hR : Rl lv N s a w θ W) (hd : o.dst.all (decide <| · < N) = true)
    (hk : ∀ a' w' θ' W', Rl lv N (St.put ⟨s.L, s.T, H'⟩ (cDst lv o.dst) r) a' w' θ' W' → Stp θ W w θ' W' w' → next a' w')
    (hrun : (execOp a.eval o).run P w = .ok (.value v) w') (hr : ARel θ' W r v) (hm : SR θ' W H' w') (hs : Stp θ W w θ' W w') : o.wp P a w next Q := by
  unfold Oper.wp
  rw [hrun]
  exact hk _ _ _ _ (hR.put hd hr hm hs) hs

/-- A NEW OBJECT, at the place that is kept for it. -/
theorem new_at {m : MO} {s : St} {ob : AO} {mk : Nat → AV} (hm : cOp lv P o.op = some m) (hd : o.dst.all (decide <| · < N) = true) (hn : NewOk m s ob mk) {a : Act} {w : World} {next : Act → World → Prop} {Q : Exit → Act → World → Prop}
    (hR : Rl lv N s a w θ W) (id : Nat) (hid : s.H[id]? = some .rsv)
    (hk : ∀ a' w' θ' W', Rl lv N (St.put ⟨s.L, s.T, s.H.set id ob⟩ (cDst lv o.dst) (mk id)) a' w' θ' W' → Stp θ W w θ' W' w' → next a' w') : o.wp P a w next Q := by
  cases ho : o.op with
  | alloc t =>
    rw [ho] at hm
    obtain ⟨z, hz, rfl⟩ := map_some_inv hm
    obtain ⟨rfl, rfl⟩ := hn
    obtain ⟨i, zv, hi, hzv, hv⟩ := zeroOf_inv hz
    obtain ⟨h1, h2, h3⟩ := ofVals1_rel hv θ W
    obtain ⟨θ', a1, a2, a3⟩ := newvarAt hR.mem id hid z zv.cells t ⟨by simpa using h1, fun j c u hj hu => h2 j c u hj (by simpa using hu), fun j u hu => h3 j u (by simpa using hu)⟩
    refine end_at hR hd hk (v := .pointer (some ⟨w.heap.size, 0, none⟩)) ?_ a3 a1 a2
    simp [execOp, ho, Instr.alloc, zeroValue, typeInfo, hi, hzv, newVar, newRow]
  | box t x =>
    rw [ho] at hm
    simp only [cOp] at hm
    split at hm
    case h_2 => cases hm
    case h_1 hx hsz =>
    cases hm
    obtain ⟨hc, rfl, rfl⟩ := hn
    simp only [Bool.and_eq_true] at hc
    obtain ⟨θ', a1, a2, a3⟩ := newvarAt hR.mem id hid _ (a.eval x).cells t (cells_crel (hR.arg hx) hc.1)
    refine end_at hR hd hk (v := .pointer (some ⟨w.heap.size, 0, none⟩)) ?_ a3 a1 a2
    simp [execOp, ho, Instr.box, newVar, newRow]
  | buildSlice t n ps =>
    rw [ho] at hm
    simp only [cOp] at hm
    split at hm
    case h_2 => cases hm
    case h_1 e he =>
    have ht : P.underlying t = some (.slice e) := by
      unfold elemT at he
      split at he
      · rename_i e' h'; cases he; exact h'
      · cases he
    split at hm
    case h_2 => cases hm
    case h_1 sz z ms hsz hz hps =>
    split at hm
    case isFalse => cases hm
    case isTrue hcc =>
    simp only [Bool.and_eq_true, beq_iff_eq, decide_eq_true_eq] at hcc
    obtain ⟨⟨hzl, h0⟩, hmax⟩ := hcc
    cases hm
    obtain ⟨rs, hrs, rfl, rfl⟩ := hn
    obtain ⟨i, zv, hi, hzv, hz1⟩ := zeroOf_inv hz
    obtain ⟨z1, z2, z3⟩ := ofVals1_rel hz1 θ W
    obtain ⟨i', hi', hisz⟩ := sizeT_inv hsz
    rw [hi] at hi'
    cases hi'
    have hzs : zv.cells.size = sz := by rw [← hzl, ← z1]; simp
    have hcell : ∀ k, k < n * sz → (madeCells zv.cells (n * sz))[k]? = zv.cells[k % sz]? := by
      intro k hk'
      have hm : k % sz < zv.cells.size := by rw [hzs]; exact Nat.mod_lt _ h0
      simp [madeCells, hk', hzs, hm, Nat.mod_lt _ h0]
    have hrr : RRel θ W sz (List.replicate n z) (madeCells zv.cells (n * sz)) := by
      refine ⟨by rw [size_madeCells]; simp, by simp; intro _; exact hzl, ?_, ?_⟩
      · intro p r j q u hp hj hu
        rw [List.getElem?_replicate] at hp
        split at hp
        · rename_i hlt
          cases hp
          have hj' : j < z.length := by
            rcases Nat.lt_or_ge j z.length with h' | h'
            · exact h'
            · rw [List.getElem?_eq_none h'] at hj; cases hj
          have hlt2 : p * sz + j < n * sz := by
            have : (p + 1) * sz ≤ n * sz := Nat.mul_le_mul_right _ (by omega)
            rw [Nat.add_mul] at this
            omega
          rw [hcell _ hlt2, Nat.mul_comm, Nat.mul_add_mod, Nat.mod_eq_of_lt (by omega)] at hu
          exact z2 j q u hj (by simpa using hu)
        · cases hp
      · intro j u hu
        have hlt : j < n * sz := by
          rcases Nat.lt_or_ge j (n * sz) with h' | h'
          · exact h'
          · rw [Array.getElem?_eq_none (by rw [size_madeCells]; exact h')] at hu; cases hu
        rw [hcell _ hlt] at hu
        exact z3 _ u (by simpa using hu)
    obtain ⟨vs', f1, f2, f3⟩ := fill_rows hR ps.toList ms _ rs _ hps hrs hrr
    have hrl : rs.length = n := by rw [f3]; simp
    obtain ⟨θ', a1, a2, a3⟩ := newrowsAt hR.mem id hid sz rs vs' e n (by rw [f2.size, hrl]) (by omega) f2.len f2.rel f2.one
    have hn1 : n ≤ n * sz := Nat.le_mul_of_pos_right n h0
    refine end_at hR hd hk (v := .slice (some ⟨w.heap.size, 0, none⟩) n n) ?_ (.gs _ 0 0 n w.heap.size sz n 0 n a3 (Nat.le_refl _) (by unfold maxL; omega) (by omega) (fun _ => by simp) (fun _ => rfl)) a1 a2
    have hnm : ¬ 16777216 < n * i.size := by rw [hisz]; omega
    have e2 : Array.map (fun x => zv.cells[x % zv.cells.size]!) (Array.range (n * sz)) = madeCells zv.cells (n * sz) := rfl
    have f1' : Instr.fill (fun i => some (i * sz, sz)) (madeCells zv.cells (n * sz)) (List.map (fun x => (x.1, a.eval x.2)) ps.toList) = some vs' := by simpa using f1
    by_cases hn0 : n = 0
    · subst hn0
      have e3 : Array.map (fun _ => (default : Value)) (Array.range 0) = madeCells zv.cells (0 * sz) := by
        apply Array.ext'
        simp [madeCells]
      simp [execOp, ho, Instr.buildSlice, run_underlying ht, sizeOf, typeInfo, hi, newRow]
      rw [hisz, e3, f1']
      rfl
    · have hne : ¬ n * i.size = 0 := by rw [hisz]; exact fun e => by rcases Nat.mul_eq_zero.1 e with e | e <;> omega
      simp [execOp, ho, Instr.buildSlice, run_underlying ht, sizeOf, typeInfo, zeroValue, hi, hzv, hnm, newRow, hn0]
      rw [if_neg (by omega)]
      rw [hisz, e2, f1']
      rfl
  | makeSlice t l c =>
    rw [ho] at hm
    simp only [cOp] at hm
    split at hm
    case h_2 => cases hm
    case h_1 e ml mc he hl hc =>
    have ht : P.underlying t = some (.slice e) := by
      unfold elemT at he
      split at he
      · rename_i e' h'; cases he; exact h'
      · cases he
    split at hm
    case h_2 => cases hm
    case h_1 i z hi hz =>
    split at hm
    case isFalse => cases hm
    case isTrue hcc =>
    simp only [Bool.and_eq_true, beq_iff_eq, decide_eq_true_eq] at hcc
    obtain ⟨hzl, h0⟩ := hcc
    cases hm
    obtain ⟨n, c', e1, e2, ⟨hn, hnc, hb, hc63⟩, rfl, rfl⟩ := hn
    have h1 := hR.arg hl
    have h2 := hR.arg hc
    rw [e1] at h1
    rw [e2] at h2
    have e3 := h1.i_inv
    have e4 := h2.i_inv
    obtain ⟨i', zv, hi', hzv, hv⟩ := zeroOf_inv hz
    rw [hi] at hi'
    cases hi'
    obtain ⟨z1, z2, z3⟩ := ofVals1_rel hv θ W
    have hrun := run_make (P := P) w t e i zv ht hi hzv .i64 .i64 n c' hn hnc (by rw [Int.mul_comm]; omega) (by omega)
    have hzs : zv.cells.size = i.size := by rw [← hzl, ← z1]; simp
    have hcell : ∀ k, k < c'.toNat * i.size → (madeCells zv.cells (c'.toNat * i.size))[k]? = zv.cells[k % i.size]? := by
      intro k hk'
      have hm : k % i.size < zv.cells.size := by rw [hzs]; exact Nat.mod_lt _ h0
      simp [madeCells, hk', hzs, hm, Nat.mod_lt _ h0]
    obtain ⟨θ', a1, a2, a3⟩ := newrowsAt hR.mem id hid i.size (List.replicate n.toNat z) (madeCells zv.cells (c'.toNat * i.size)) e c'.toNat (size_madeCells _ _) (by simp; omega) (by simp; intro _; exact hzl)
      (fun p r j q u hp hj hu => by
        rw [List.getElem?_replicate] at hp
        split at hp
        · rename_i hlt
          cases hp
          have hj' : j < z.length := by
            rcases Nat.lt_or_ge j z.length with h' | h'
            · exact h'
            · rw [List.getElem?_eq_none h'] at hj; cases hj
          have hlt2 : p * i.size + j < c'.toNat * i.size := by
            have : (p + 1) * i.size ≤ c'.toNat * i.size := Nat.mul_le_mul_right _ (by omega)
            rw [Nat.add_mul] at this
            omega
          rw [hcell _ hlt2, Nat.mul_comm, Nat.mul_add_mod, Nat.mod_eq_of_lt (by omega)] at hu
          exact z2 j q u hj (by simpa using hu)
        · cases hp)
      (fun j u hu => by
        have hlt : j < c'.toNat * i.size := by
          rcases Nat.lt_or_ge j (c'.toNat * i.size) with h' | h'
          · exact h'
          · rw [Array.getElem?_eq_none (by rw [size_madeCells]; exact h')] at hu; cases hu
        rw [hcell _ hlt] at hu
        exact z3 _ u (by simpa using hu))
    refine end_at hR hd hk (v := .slice (some ⟨w.heap.size, 0, none⟩) n.toNat c'.toNat) ?_ (.gs _ 0 0 n.toNat w.heap.size i.size c'.toNat 0 c'.toNat a3 (by omega) (by unfold maxL; omega) (by omega) (fun _ => by simp) (fun _ => rfl)) a1 a2
    simp [execOp, ho, e3, e4, hrun]
  | makeFunc fn first caps =>
    rw [ho] at hm
    cases fn with
    | func f =>
      simp only [cOp] at hm
      split at hm
      · obtain ⟨x, _, rfl⟩ := map_some_inv hm; exact hn.elim
      · cases hm
    | _ => cases hm
  | slice t x lo hi mx =>
    rw [ho] at hm
    cases mx with
    | some _ => cases hm
    | none =>
      simp only [cOp] at hm
      split at hm
      · cases hm; exact hn.elim
      · obtain ⟨n, _, rfl⟩ := map_some_inv hm; exact hn.elim
      · cases hm
  | call c =>
    rw [ho] at hm
    simp only [cOp, cCall] at hm
    (repeat' split at hm) <;> first | (cases hm; done) | (cases hm; exact hn.elim)
  | _ =>
    rw [ho] at hm
    simp only [cOp, Option.map_eq_some_iff] at hm
    first
      | (cases hm; done)
      | (obtain ⟨x, _, rfl⟩ := hm; exact hn.elim)
      | ((repeat' split at hm) <;> first | (cases hm; done) | (cases hm; exact hn.elim) | (simp only [Option.map_eq_some_iff, Option.bind_eq_some_iff] at hm; obtain ⟨x, _, hm⟩ := hm; first | (cases hm; exact hn.elim) | (split at hm <;> cases hm <;> exact hn.elim)))
      | skip

end Go.AM

/- Regions whose order is drawn: one evaluation in the order of the text serves every order. -/
set_option linter.all false
namespace Go.AM
variable {lv : List Nat} {P : Program} {N : Nat} {K : St → Prop} {θ : Th} {W : Im} {C : CallP}

theorem ACall.mono {f : Nat} {args : List AV} {H : List AO} {R R' : AV → List AO → Prop} (h : ACall P f args H R) (hr : ∀ r H', R r H' → R' r H') : ACall P f args H R' :=
  ⟨h.1, fun w θ W vs hm ha => (h.2 w θ W vs hm ha).mono fun e w' ⟨v, r, H', θ', W', h1, h2, h3⟩ => ⟨v, r, H', θ', W', h1, hr _ _ h2, h3⟩⟩

/-- what an operation gives: a value; a new object; a value, and other objects -/
inductive Out where
  | val (v : AV)
  | new (ob : AO) (mk : Nat → AV)
  | chn (v : AV) (Hc : List AO)

def outPut (s : List AO × St) (d : MD) : Out → List AO × St
  | .val v => (s.1, s.2.put d v)
  | .new ob mk => (s.1, St.put ⟨s.2.L, s.2.T, s.2.H ++ [ob]⟩ d (mk (s.1.length + s.2.H.length)))
  | .chn v Hc => (Hc, s.2.put d v)

def sts (pre : List MI) (outs : Nat → Out) (s : List AO × St) : Nat → List AO × St
  | 0 => s
  | i + 1 => match pre[i]? with
    | some o => outPut (sts pre outs s i) o.dst (outs i)
    | none => sts pre outs s i

def GoodU (P : Program) (Hm : List AO) (op : MO) (d : MD) (s : List AO × St) : Out → Prop
  | .val v => ∀ s', Agree op.args s.2 s' → Hext Hm s'.H → stepU (ACall P) op d (fun t => t = s'.put d v) s'
  | .new ob mk => (kindOf op = .new ∧ NewOk op s.2 ob mk) ∨ ((chainM op = true) ∧ ∀ s' j, Agree op.args s.2 s' → Hext Hm s'.H → s'.H[j]? = some .rsv → stepU (ACall P) op d (fun t => t = St.put ⟨s'.L, s'.T, s'.H.set j ob⟩ d (mk j)) s')
  | .chn v Hc => chainM op = true ∧ Hc.length = s.1.length ∧ Hext Hm Hc ∧ ∀ s' A, Agree op.args s.2 s' → s'.H = s.1 ++ A → stepU (ACall P) op d (fun t => t = ⟨(s'.put d v).L, (s'.put d v).T, Hc ++ A⟩) s'

def GoodI (P : Program) (Hm : List AO) (o : MI) (s : List AO × St) (out : Out) : Prop :=
  match o.guard with
  | none => GoodU P Hm o.op o.dst s out
  | some (t, want) => (s.2.get t = .tup [] ∧ out = .val (.tup [])) ∨ ∃ b, s.2.get t = .p (.b b) ∧ (b = want → GoodU P Hm o.op o.dst s out) ∧ (b ≠ want → out = .val (.tup []))

theorem get_H (L T : En) (H H' : List AO) (x : MA) : St.get ⟨L, T, H⟩ x = St.get ⟨L, T, H'⟩ x := by cases x <;> rfl

theorem preU_inv {J : PK} {Hm Hc : List AO} {op : MO} {d : MD} {s : St} (h : preU (ACall P) Hm Hc op d J s) : ∃ out, GoodU P Hm op d (Hc, s) out ∧ J (outPut (Hc, s) d out).1 (outPut (Hc, s) d out).2 := by
  unfold preU at h
  split at h
  · rename_i hq
    obtain ⟨v, h1, h2⟩ := quiet_val hq h
    refine ⟨.val v, fun s' ha he => h2 s' (fun x hx => by rw [get_H _ _ Hm s.H]; exact ha x hx) he, ?_⟩
    cases d <;> exact h1
  · rename_i hq
    have fin : ∀ (f : Nat) (xs : List AV), (∀ s' : St, Agree op.args s s' → ∀ K : St → Prop, ACall P f xs s'.H (callK d K s') → stepU (ACall P) op d K s') → chainM op = true → pcallK (ACall P) Hm Hc f xs d J s →
        ∃ out, GoodU P Hm op d (Hc, s) out ∧ J (outPut (Hc, s) d out).1 (outPut (Hc, s) d out).2 := by
      rintro f xs hstep hch (⟨r, Hc', h1, h2, h3, h4⟩ | ⟨ob, mk, h3, h4⟩)
      rotate_left
      · refine ⟨.new ob mk, .inr ⟨hch, fun s' j ha he hj => hstep s' ha _ ?_⟩, h4⟩
        refine (h3 s'.H j he hj).mono ?_
        rintro r' H' ⟨rfl, rfl⟩
        rfl
      refine ⟨.chn r Hc', ⟨hch, h1, h2, fun s' A ha hA => hstep s' ha _ ?_⟩, h4⟩
      rw [hA]
      refine (h3 A).mono ?_
      rintro r' H' ⟨rfl, rfl⟩
      show St.put ⟨s'.L, s'.T, Hc' ++ A⟩ d r' = _
      rw [put_TH]
    cases op with
    | call f args =>
      refine fin f (gets s args) (fun s' ha K hc => ?_) rfl h
      show ACall P f (gets s' args) s'.H (callK d K s')
      rw [← Agree.gets (l := args) ha]; exact hc
    | calv x args =>
      change (match s.get x with | .clo f caps => pcallK (ACall P) Hm Hc f (gets s args ++ caps) d J s | _ => False) at h
      split at h
      · rename_i f caps e
        refine fin f (gets s args ++ caps) (fun s' ha K hc => ?_) rfl h
        show calvK (ACall P) (s'.get x) (gets s' args) d K s'
        rw [← ha x (by simp [MO.args]), e, ← Agree.gets (l := args) (fun y hy => ha y (by simp [MO.args, hy]))]
        exact hc
      · exact h.elim
    | _ => cases hq
  · rename_i hq
    obtain ⟨ob, mk, h1, h2⟩ := new_val hq h
    exact ⟨.new ob mk, .inl ⟨hq, h1⟩, h2⟩
  · rename_i hq
    obtain ⟨v, H', ⟨h1, h2, h3⟩, h4⟩ := eff_val hq h
    refine ⟨.chn v H', ⟨(by cases op <;> first | rfl | (cases hq; done)), h1, h2, fun s' A ha hA => h4 h1 s' A (fun x hx => by rw [get_H _ _ Hc s.H]; exact ha x hx) hA⟩, ?_⟩
    cases d <;> exact h3
  · exact h.elim

theorem condK_inv {v : AV} {A B : St → Prop} {s : St} (h : condK v A B s) : ∃ b, v = .p (.b b) ∧ (b = true → A s) ∧ (b = false → B s) := by
  unfold condK at h
  split at h
  · rename_i b; exact ⟨b, rfl, h.1, fun hb => h.2 (by simp [hb])⟩
  · exact h.elim

theorem preI_inv {J : PK} {Hm Hc : List AO} {o : MI} {s : St} (h : preI (ACall P) Hm Hc o J s) : ∃ out, GoodI P Hm o (Hc, s) out ∧ J (outPut (Hc, s) o.dst out).1 (outPut (Hc, s) o.dst out).2 := by
  obtain ⟨d, op, g⟩ := o
  cases g with
  | none => exact preU_inv h
  | some tw =>
    obtain ⟨t, want⟩ := tw
    rw [preI_some] at h
    rcases guardK_inv h with ⟨e, h3⟩ | ⟨b, hb, h1, h2⟩
    · exact ⟨.val (.tup []), .inl ⟨e, rfl⟩, h3⟩
    · by_cases e : b = want
      · obtain ⟨out, q1, q2⟩ := preU_inv (h1 e)
        exact ⟨out, .inr ⟨b, hb, fun _ => q1, fun hne => (hne e).elim⟩, q2⟩
      · exact ⟨.val (.tup []), .inr ⟨b, hb, fun he => (e he).elim, fun _ => rfl⟩, h2 e⟩

def consOut (o : Out) (f : Nat → Out) : Nat → Out
  | 0 => o
  | i + 1 => f i

theorem sts_cons (o : MI) (os : List MI) (out : Out) (outs : Nat → Out) (s : List AO × St) : ∀ i, sts (o :: os) (consOut out outs) s (i + 1) = sts os outs (outPut s o.dst out) i
  | 0 => rfl
  | i + 1 => by
    rw [sts, sts_cons o os out outs s i]
    simp only [List.getElem?_cons_succ, sts]
    rfl

theorem trace {J : PK} {Hm : List AO} : ∀ (pre : List MI) (s : List AO × St), preK (ACall P) Hm pre J s.1 s.2 → ∃ outs : Nat → Out, (∀ i o, pre[i]? = some o → GoodI P Hm o (sts pre outs s i) (outs i)) ∧ J (sts pre outs s pre.length).1 (sts pre outs s pre.length).2
  | [], s, h => ⟨fun _ => .val .any, fun i o hi => by simp at hi, h⟩
  | o :: os, s, h => by
    rw [preK_cons] at h
    obtain ⟨out, h1, h2⟩ := preI_inv h
    obtain ⟨outs, h3, h4⟩ := trace os _ h2
    refine ⟨consOut out outs, ?_, ?_⟩
    · intro i o' hi
      cases i with
      | zero => simp at hi; subst hi; exact h1
      | succ i => rw [sts_cons]; exact h3 i o' (by simpa using hi)
    · rw [List.length_cons, sts_cons]; exact h4

theorem get_put (s : St) (d : Option Nat) (v : AV) (t : Nat) : (St.put s (cDst lv d) v).get (cTmp lv t) = if d = some t then v else s.get (cTmp lv t) := by
  cases d with
  | none => rfl
  | some d =>
    unfold cDst cTmp
    by_cases h1 : lmem lv d = true <;> by_cases h2 : lmem lv t = true
    · simp only [h1, h2, if_true, St.put, St.get, eget_eset, Option.some.injEq]
    · simp only [h1, h2, Bool.false_eq_true, if_true, if_false, St.put, St.get, Option.some.injEq]
      have hne : ¬ d = t := fun e => h2 (e ▸ h1)
      rw [if_neg hne]
    · simp only [h1, h2, Bool.false_eq_true, if_true, if_false, St.put, St.get, Option.some.injEq]
      have hne : ¬ d = t := fun e => h1 (e ▸ h2)
      rw [if_neg hne]
    · simp only [h1, h2, Bool.false_eq_true, if_false, St.put, St.get, eget_cons, Option.some.injEq]

theorem put_H (s : St) (d : MD) (v : AV) : (St.put s d v).H = s.H := by cases d <;> rfl

theorem Rl.congr {s s' : St} {a : Act} {w : World} (h : Rl lv N s a w θ W) (hg : ∀ t, s.get (cTmp lv t) = s'.get (cTmp lv t)) (hH : s.H = s'.H) : Rl lv N s' a w θ W := by
  refine ⟨h.defers, h.size, fun t ht => ?_, fun t ht => ?_, hH ▸ h.mem⟩
  · have := hg t
    simp only [cTmp, ht, if_true, St.get] at this
    rw [← this]; exact h.loc t ht
  · have := hg t
    simp only [cTmp, ht, Bool.false_eq_true, if_false, St.get] at this
    rw [← this]; exact h.tmp t ht

/-! the operands of what was compiled -/
def FromOps (lv : List Nat) (l : List Operand) (x : MA) : Prop := (∃ v, x = .c v) ∨ ∃ t, x = cTmp lv t ∧ Operand.tmp t ∈ l

theorem cArg_from {y : Operand} {x : MA} (h : cArg lv y = some x) {l : List Operand} (hy : y ∈ l) : FromOps lv l x := by
  cases y with
  | tmp t => cases h; exact .inr ⟨t, rfl, hy⟩
  | const v => obtain ⟨a, _, rfl⟩ := map_some_inv h; exact .inl ⟨a, rfl⟩
  | global g => cases h
  | func f => cases h; exact .inl ⟨_, rfl⟩

theorem cArgs_from {ys : List Operand} {xs : List MA} (h : cArgs lv ys = some xs) {l : List Operand} (hy : ∀ y ∈ ys, y ∈ l) : ∀ x ∈ xs, FromOps lv l x := by
  induction ys generalizing xs with
  | nil => cases h; intro x hx; cases hx
  | cons y ys ih =>
    simp only [cArgs] at h
    split at h
    · rename_i a l' h1 h2
      cases h
      intro x hx
      rcases List.mem_cons.1 hx with rfl | hx
      · exact cArg_from h1 (hy y (by simp))
      · exact ih h2 (fun z hz => hy z (List.mem_cons_of_mem _ hz)) x hx
    · cases h

theorem cParts_from {t : TypeId} {ps : List (Nat × Operand)} {ms : List (Nat × Nat × MA)} (h : cParts lv P t ps = some ms) {l : List Operand} (hy : ∀ p ∈ ps, p.2 ∈ l) : ∀ x ∈ ms.map (·.2.2), FromOps lv l x := by
  induction ps generalizing ms with
  | nil => cases h; intro x hx; cases hx
  | cons p ps ih =>
    obtain ⟨f, y⟩ := p
    simp only [cParts] at h
    split at h
    · rename_i off ft n a l' h1 h2 h3
      cases h
      intro x hx
      rcases List.mem_cons.1 hx with rfl | hx
      · exact cArg_from h2 (hy (f, y) (by simp))
      · exact ih h3 (fun z hz => hy z (List.mem_cons_of_mem _ hz)) x hx
    · cases h

theorem cElems_from {ps : List (Nat × Operand)} {ms : List (Nat × MA)} (h : cElems lv ps = some ms) {l : List Operand} (hy : ∀ p ∈ ps, p.2 ∈ l) : ∀ x ∈ ms.map (·.2), FromOps lv l x := by
  induction ps generalizing ms with
  | nil => cases h; intro x hx; cases hx
  | cons p ps ih =>
    obtain ⟨f, y⟩ := p
    simp only [cElems] at h
    split at h
    · rename_i a l' h1 h2
      cases h
      intro x hx
      rcases List.mem_cons.1 hx with rfl | hx
      · exact cArg_from h1 (hy (f, y) (by simp))
      · exact ih h2 (fun z hz => hy z (List.mem_cons_of_mem _ hz)) x hx
    · cases h

theorem cOpt_from {y : Option Operand} {x : Option MA} (h : cOpt lv y = some x) {l : List Operand} (hy : ∀ z, y = some z → z ∈ l) : ∀ z ∈ x.toList, FromOps lv l z := by
  cases y with
  | none => cases h; intro z hz; cases hz
  | some y =>
    obtain ⟨a, h1, rfl⟩ := map_some_inv h
    intro z hz
    simp at hz
    subst hz
    exact cArg_from h1 (hy y rfl)

theorem cCall_from {c : Call} {m : MO} (h : cCall lv P c = some m) : ∀ x ∈ m.args, FromOps lv c.operands.toList x := by
  have hargs : ∀ y ∈ c.args.toList, y ∈ c.operands.toList := by
    intro y hy
    simp only [Call.operands, Array.toList_append, List.mem_append]
    exact .inr hy
  unfold cCall at h
  split at h
  · rename_i f as hc ha
    split at h
    · split at h
      · cases h; exact cArgs_from ha hargs
      · cases h
    · cases h
  · rename_i t as hc ha
    cases h
    intro x hx
    rcases List.mem_cons.1 hx with rfl | hx
    · exact .inr ⟨t, rfl, by simp [Call.operands, hc]⟩
    · exact cArgs_from ha hargs x hx
  · rename_i x hc ha
    have := cArgs_from ha hargs
    (repeat' split at h) <;> first | (cases h; done) | (cases h; exact this)
  · rename_i x y hc ha
    have := cArgs_from ha hargs
    (repeat' split at h) <;> first | (cases h; done) | (cases h; exact this)
  · rename_i x y hc ha
    cases h; exact cArgs_from ha hargs
  · rename_i x y hc ha
    cases h; exact cArgs_from ha hargs
  · cases h

theorem cOp_from {op : Op} {m : MO} (h : cOp lv P op = some m) : ∀ x ∈ m.args, FromOps lv op.operands.toList x := by
  cases op with
  | move y => obtain ⟨a, h1, rfl⟩ := map_some_inv h; intro x hx; simp only [MO.args, List.mem_singleton] at hx; subst hx; exact cArg_from h1 (by simp [Op.operands])
  | assign y => obtain ⟨a, h1, rfl⟩ := map_some_inv h; intro x hx; simp only [MO.args, List.mem_singleton] at hx; subst hx; exact cArg_from h1 (by simp [Op.operands])
  | pick c a b =>
    simp only [cOp] at h
    split at h
    · rename_i h1 h2 h3
      cases h
      intro x hx
      simp only [MO.args, List.mem_cons, List.not_mem_nil, or_false] at hx
      rcases hx with rfl | rfl | rfl
      · exact cArg_from h1 (by simp [Op.operands])
      · exact cArg_from h2 (by simp [Op.operands])
      · exact cArg_from h3 (by simp [Op.operands])
    · cases h
  | alloc t => obtain ⟨a, h1, rfl⟩ := map_some_inv h; intro x hx; cases hx
  | box t y =>
    simp only [cOp] at h
    split at h
    · rename_i h1 h2; cases h; intro x hx; simp only [MO.args, List.mem_singleton] at hx; subst hx; exact cArg_from h1 (by simp [Op.operands])
    · cases h
  | build t ps =>
    simp only [cOp] at h
    split at h
    · split at h
      · rename_i h1 h2
        split at h
        · cases h; exact cParts_from h2 (fun p hp => by simp [Op.operands]; exact ⟨p.1, by simpa using hp⟩)
        · cases h
      · cases h
    · cases h
  | buildSlice t n ps =>
    simp only [cOp] at h
    split at h
    · split at h
      · rename_i h1 h2 h3
        split at h
        · cases h; exact cElems_from h3 (fun p hp => by simp [Op.operands]; exact ⟨p.1, by simpa using hp⟩)
        · cases h
      · cases h
    · cases h
  | load t y =>
    simp only [cOp] at h
    split at h
    · rename_i h1 h2 h3; cases h; intro x hx; simp only [MO.args, List.mem_singleton] at hx; subst hx; exact cArg_from h1 (by simp [Op.operands])
    · cases h
  | store t y v =>
    simp only [cOp] at h
    split at h
    · rename_i h1 h2 h3
      split at h
      · cases h
        intro x hx
        simp only [MO.args, List.mem_cons, List.not_mem_nil, or_false] at hx
        rcases hx with rfl | rfl
        · exact cArg_from h1 (by simp [Op.operands])
        · exact cArg_from h2 (by simp [Op.operands])
      · cases h
    · cases h
  | nilCheck y => obtain ⟨a, h1, rfl⟩ := map_some_inv h; intro x hx; simp only [MO.args, List.mem_singleton] at hx; subst hx; exact cArg_from h1 (by simp [Op.operands])
  | binOp bop t y z u =>
    simp only [cOp] at h
    split at h
    · rename_i h1 h2 h3
      cases h
      intro x hx
      simp only [MO.args, List.mem_cons, List.not_mem_nil, or_false] at hx
      rcases hx with rfl | rfl
      · exact cArg_from h1 (by simp [Op.operands])
      · exact cArg_from h2 (by simp [Op.operands])
    · rename_i h1 h2 h3
      cases h
      intro x hx
      simp only [MO.args, List.mem_cons, List.not_mem_nil, or_false] at hx
      rcases hx with rfl | rfl
      · exact cArg_from h1 (by simp [Op.operands])
      · exact cArg_from h2 (by simp [Op.operands])
    · rename_i h1 h2 h3
      have fin : ∀ a b : MA, cArg lv y = some a → cArg lv z = some b → ∀ x ∈ [a, b], FromOps lv (Op.binOp bop t y z u).operands.toList x := by
        intro a b ha hb x hx
        simp only [List.mem_cons, List.not_mem_nil, or_false] at hx
        rcases hx with rfl | rfl
        · exact cArg_from ha (by simp [Op.operands])
        · exact cArg_from hb (by simp [Op.operands])
      split at h
      · cases h; exact fin _ _ h1 h2
      · cases h; exact fin _ _ h1 h2
      · cases h
    · cases h
  | unOp uop t y => obtain ⟨a, h1, rfl⟩ := map_some_inv h; intro x hx; simp only [MO.args, List.mem_singleton] at hx; subst hx; exact cArg_from h1 (by simp [Op.operands])
  | convert s t y =>
    simp only [cOp] at h
    split at h
    · rename_i h1 h2 h3; cases h; intro x hx; simp only [MO.args, List.mem_singleton] at hx; subst hx; exact cArg_from h1 (by simp [Op.operands])
    · rename_i h1 h2 h3
      split at h
      · cases h; intro x hx; simp only [MO.args, List.mem_singleton] at hx; subst hx; exact cArg_from h1 (by simp [Op.operands])
      · cases h
    · cases h
  | makeFunc fn first caps =>
    cases fn with
    | func f =>
      simp only [cOp] at h
      split at h
      · obtain ⟨a, h1, rfl⟩ := map_some_inv h
        exact cArgs_from h1 (fun y hy => by simp only [Op.operands, Array.toList_append, List.mem_append]; exact .inr hy)
      · cases h
    | _ => cases h
  | makeSlice t l c =>
    simp only [cOp] at h
    split at h
    · rename_i h1 h2 h3
      split at h
      · split at h
        · cases h
          intro x hx
          simp only [MO.args, List.mem_cons, List.not_mem_nil, or_false] at hx
          rcases hx with rfl | rfl
          · exact cArg_from h2 (by simp [Op.operands])
          · exact cArg_from h3 (by simp [Op.operands])
        · cases h
      · cases h
    · cases h
  | slice t y lo hi mx =>
    cases mx with
    | some _ => cases h
    | none =>
      have fin : ∀ k a b c, cArg lv y = some a → cOpt lv lo = some b → cOpt lv hi = some c → ∀ x ∈ MO.args (.slc k a b c), FromOps lv (Op.slice t y lo hi none).operands.toList x := by
        intro k a b c h1 h2 h3 x hx
        simp only [MO.args, List.mem_cons, List.mem_append] at hx
        rcases hx with rfl | hx | hx
        · exact cArg_from h1 (by simp [Op.operands])
        · exact cOpt_from h2 (fun z hz => by subst hz; simp [Op.operands]) x hx
        · exact cOpt_from h3 (fun z hz => by subst hz; simp [Op.operands]) x hx
      simp only [cOp] at h
      split at h
      · rename_i h1 h2 h3 h4; cases h; exact fin _ _ _ _ h2 h3 h4
      · rename_i h1 h2 h3 h4; obtain ⟨n, _, rfl⟩ := map_some_inv h; exact fin _ _ _ _ h2 h3 h4
      · cases h
  | fieldAddr s y f =>
    simp only [cOp] at h
    split at h
    · rename_i h1 h2
      split at h
      · cases h; intro x hx; simp only [MO.args, List.mem_singleton] at hx; subst hx; exact cArg_from h2 (by simp [Op.operands])
      · cases h
    · cases h
  | field s y f =>
    simp only [cOp] at h
    split at h
    · rename_i h1 h2
      obtain ⟨n, _, rfl⟩ := map_some_inv h
      intro x hx; simp only [MO.args, List.mem_singleton] at hx; subst hx; exact cArg_from h2 (by simp [Op.operands])
    · cases h
  | indexAddr t y i =>
    have fin : ∀ a b, cArg lv y = some a → cArg lv i = some b → ∀ x ∈ [a, b], FromOps lv (Op.indexAddr t y i).operands.toList x := by
      intro a b ha hb x hx
      simp only [List.mem_cons, List.not_mem_nil, or_false] at hx
      rcases hx with rfl | rfl
      · exact cArg_from ha (by simp [Op.operands])
      · exact cArg_from hb (by simp [Op.operands])
    simp only [cOp] at h
    split at h
    · rename_i h1 h2 h3
      simp only [Option.bind_eq_some_iff] at h
      obtain ⟨n, _, h⟩ := h
      split at h
      · cases h; exact fin _ _ h2 h3
      · cases h
    · rename_i h1 h2 h3
      obtain ⟨n, _, rfl⟩ := map_some_inv h
      exact fin _ _ h2 h3
    · cases h
  | index t y i =>
    simp only [cOp] at h
    split at h
    · rename_i h1 h2 h3
      cases h
      intro x hx
      simp only [MO.args, List.mem_cons, List.not_mem_nil, or_false] at hx
      rcases hx with rfl | rfl
      · exact cArg_from h2 (by simp [Op.operands])
      · exact cArg_from h3 (by simp [Op.operands])
    · cases h
  | extract y n => obtain ⟨a, h1, rfl⟩ := map_some_inv h; intro x hx; simp only [MO.args, List.mem_singleton] at hx; subst hx; exact cArg_from h1 (by simp [Op.operands])
  | call c => exact cCall_from h
  | _ => cases h

end Go.AM

/- Regions whose order is drawn: whatever order, the state is that of the order of the text. -/
set_option linter.all false
namespace Go.AM
variable {lv : List Nat} {P : Program} {N : Nat} {K : St → Prop} {θ : Th} {W : Im}

/-! what an operation waits for -/
theorem closStep_bit (acc : List Nat) (es : List Nat) (i : Nat) : (closStep acc es).testBit i = true ↔ ∃ e ∈ es, i = e ∨ (acc.getD e 0).testBit i = true := by
  have key : ∀ (es : List Nat) (s : Nat), (es.foldl (fun s e => s ||| 2 ^ e ||| acc.getD e 0) s).testBit i = true ↔ s.testBit i = true ∨ ∃ e ∈ es, i = e ∨ (acc.getD e 0).testBit i = true := by
    intro es
    induction es with
    | nil => intro s; simp
    | cons e es ih =>
      intro s
      rw [List.foldl_cons, ih]
      simp only [Nat.testBit_or, Bool.or_eq_true, List.mem_cons, exists_eq_or_imp, Nat.testBit_two_pow, decide_eq_true_eq]
      constructor
      · rintro (((h | h) | h) | h)
        · exact .inl h
        · exact .inr (.inl (.inl h.symm))
        · exact .inr (.inl (.inr h))
        · exact .inr (.inr h)
      · rintro (h | (h | h) | h)
        · exact .inl (.inl (.inl h))
        · exact .inl (.inl (.inr h.symm))
        · exact .inl (.inr h)
        · exact .inr h
  unfold closStep
  rw [key]
  simp

theorem clos_prefix : ∀ (ws : List (List Nat)) (acc : List Nat) (e : Nat), e < acc.length → (clos ws acc).getD e 0 = acc.getD e 0
  | [], acc, e, _ => rfl
  | es :: ws, acc, e, h => by
    rw [clos, clos_prefix ws _ e (by simp; omega)]
    simp [List.getD, List.getElem?_append_left h]

theorem clos_get : ∀ (ws : List (List Nat)) (acc : List Nat) (j : Nat) (es : List Nat), ws[j]? = some es →
    ∃ acc', (clos ws acc).getD (acc.length + j) 0 = closStep acc' es ∧ ∀ e, e < acc.length + j → acc'.getD e 0 = (clos ws acc).getD e 0
  | [], acc, j, es, h => by simp at h
  | es0 :: ws, acc, 0, es, h => by
    simp at h
    subst h
    refine ⟨acc, ?_, fun e he => ?_⟩
    · rw [clos, clos_prefix _ _ _ (by simp)]
      simp [List.getD]
    · rw [clos, clos_prefix _ _ _ (by simp; omega)]
      simp [List.getD, List.getElem?_append_left (show e < acc.length by omega)]
  | es0 :: ws, acc, j + 1, es, h => by
    obtain ⟨acc', h1, h2⟩ := clos_get ws (acc ++ [closStep acc es0]) j es (by simpa using h)
    refine ⟨acc', ?_, fun e he => ?_⟩
    · rw [clos, ← h1]; congr 1; simp; omega
    · rw [clos, h2 e (by simp; omega)]

def Closed (ops : Array Oper) (D : Nat → Bool) : Prop := ∀ j o, D j = true → ops[j]? = some o → ∀ e ∈ waitsOn o, D e = true

theorem waitsT_closed {ops : Array Oper} (hlt : ∀ j o, ops[j]? = some o → ∀ e ∈ waitsOn o, e < j) {D : Nat → Bool} (hc : Closed ops D) :
    ∀ (j i : Nat) (o : Oper), ops[j]? = some o → (∀ e ∈ waitsOn o, D e = true) → waitsT (closOf ops) j i = true → D i = true := by
  intro j
  induction j using Nat.strongRecOn with
  | _ j ih =>
    intro i o ho hw ht
    unfold waitsT closOf at ht
    have hws : (ops.toList.map waitsOn)[j]? = some (waitsOn o) := by simp [ho]
    obtain ⟨acc', h1, h2⟩ := clos_get (ops.toList.map waitsOn) [] j _ hws
    simp only [List.length_nil, Nat.zero_add] at h1 h2
    rw [h1, closStep_bit] at ht
    obtain ⟨e, he, hi⟩ := ht
    rcases hi with rfl | hi
    · exact hw _ he
    · have hej := hlt j o ho e he
      have hjl : j < ops.size := (Array.getElem?_eq_some_iff.1 ho).1
      have hoe : ops[e]? = some (ops[e]'(by omega)) := by simp [show e < ops.size by omega]
      rw [h2 e hej] at hi
      exact ih e hej i _ hoe (hc e _ (hw e he) hoe) hi

/-! the family of states -/
def dstOf (ops : Array Oper) (i : Nat) : Option Nat := (ops[i]?).bind (·.dst)
def isNew (outs : Nat → Out) (i : Nat) : Bool := match outs i with | .new .. => true | _ => false
def objOf (outs : Nat → Out) (i : Nat) : AO := match outs i with | .new ob _ => ob | _ => .dead
def isChn (outs : Nat → Out) (i : Nat) : Bool := match outs i with | .chn .. => true | _ => false
def rankNew (outs : Nat → Out) (i : Nat) : Nat := ((List.range i).filter (isNew outs)).length
def valOf (outs : Nat → Out) (b : Nat) (i : Nat) : AV := match outs i with | .val v => v | .new _ mk => mk (b + rankNew outs i) | .chn v _ => v
/-- the objects behind the last one with effects -/
def hcD (outs : Nat → Out) (H0 : List AO) (D : Nat → Bool) : Nat → List AO
  | 0 => H0
  | i + 1 => match outs i with
    | .chn _ Hc => if D i then Hc else hcD outs H0 D i
    | _ => hcD outs H0 D i
def wrOf (ops : Array Oper) (m t : Nat) : Option Nat := (List.range m).find? fun i => decide (dstOf ops i = some t)
def eD (lv : List Nat) (ops : Array Oper) (m : Nat) (outs : Nat → Out) (s0 : St) (D : Nat → Bool) (t : Nat) : AV :=
  match wrOf ops m t with
  | some i => if D i then valOf outs s0.H.length i else s0.get (cTmp lv t)
  | none => s0.get (cTmp lv t)
def slots (m : Nat) (outs : Nat → Out) (D : Nat → Bool) : List AO := ((List.range m).filter (isNew outs)).map fun i => if D i then objOf outs i else .rsv
def writes (ops : Array Oper) (m : Nat) (outs : Nat → Out) (b : Nat) (D : Nat → Bool) : En :=
  (List.range m).filterMap fun i => match dstOf ops i with
    | some t => if D i then some (t, valOf outs b i) else none
    | none => none
def SD (ops : Array Oper) (m : Nat) (outs : Nat → Out) (s0 : St) (D : Nat → Bool) : St :=
  ⟨writes ops m outs s0.H.length D ++ s0.L, writes ops m outs s0.H.length D ++ s0.T, hcD outs s0.H D m ++ slots m outs D⟩

def Uniq (ops : Array Oper) (m : Nat) : Prop := ∀ i j t, i < m → j < m → dstOf ops i = some t → dstOf ops j = some t → i = j

theorem eget_writes (key : Nat → Option Nat) (val : Nat → AV) (D : Nat → Bool) (B : En) (t : Nat) (l : List Nat) :
    eget (l.filterMap (fun i => match key i with | some k => if D i then some (k, val i) else none | none => none) ++ B) t =
      match l.find? (fun i => decide (key i = some t) && D i) with
      | some i => val i
      | none => eget B t := by
  induction l with
  | nil => rfl
  | cons i l ih =>
    rw [List.filterMap_cons, List.find?_cons]
    cases hk : key i with
    | none => simp only [ih]; simp
    | some k =>
      by_cases hD : D i = true
      · simp only [hD, if_true, List.cons_append, eget_cons, Bool.and_true]
        by_cases e : k = t
        · subst e; simp
        · rw [if_neg e, ih]
          simp [e]
      · simp only [hD, Bool.false_eq_true, if_false, Bool.and_false, ih]

theorem find_uniq {l : List Nat} {p D : Nat → Bool} (hu : ∀ i ∈ l, ∀ j ∈ l, p i = true → p j = true → i = j) :
    l.find? (fun i => p i && D i) = match l.find? p with | some i => if D i then some i else none | none => none := by
  induction l with
  | nil => rfl
  | cons i l ih =>
    have ih' := ih (fun a ha b hb => hu a (List.mem_cons_of_mem _ ha) b (List.mem_cons_of_mem _ hb))
    rw [List.find?_cons, List.find?_cons]
    by_cases hp : p i = true
    · simp only [hp, Bool.true_and]
      by_cases hD : D i = true
      · simp [hD]
      · simp only [hD, Bool.false_eq_true, if_false]
        rw [ih']
        cases hf : l.find? p with
        | none => rfl
        | some j =>
          have h1 := List.mem_of_find?_eq_some hf
          have h2 := List.find?_some hf
          have := hu i (by simp) j (List.mem_cons_of_mem _ h1) hp h2
          subst this
          simp [hD]
    · simp only [hp, Bool.false_and]
      exact ih'

section
variable {ops : Array Oper} {m : Nat} {outs : Nat → Out} {s0 : St}

theorem wr_inv {t j : Nat} (h : wrOf ops m t = some j) : j < m ∧ dstOf ops j = some t := by
  have h1 := List.mem_of_find?_eq_some h
  have h2 := List.find?_some h
  exact ⟨by simpa using h1, by simpa using h2⟩

theorem wr_of (hu : Uniq ops m) {t i : Nat} (hi : i < m) (hd : dstOf ops i = some t) : wrOf ops m t = some i := by
  cases h : wrOf ops m t with
  | none =>
    have := List.find?_eq_none.1 h i (by simpa using hi)
    simp [hd] at this
  | some j =>
    obtain ⟨h1, h2⟩ := wr_inv h
    rw [hu i j t hi h1 hd h2]

theorem SD_get (hu : Uniq ops m) (D : Nat → Bool) (t : Nat) : (SD ops m outs s0 D).get (cTmp lv t) = eD lv ops m outs s0 D t := by
  have key : ∀ B : En, eget (writes ops m outs s0.H.length D ++ B) t = match wrOf ops m t with
      | some i => if D i then valOf outs s0.H.length i else eget B t
      | none => eget B t := by
    intro B
    unfold writes
    rw [eget_writes, find_uniq (p := fun i => decide (dstOf ops i = some t)) (fun i hi j hj h1 h2 => hu i j t (by simpa using hi) (by simpa using hj) (by simpa using h1) (by simpa using h2))]
    show (match (match wrOf ops m t with | some i => if D i then some i else none | none => none) with | some i => valOf outs s0.H.length i | none => eget B t) = _
    cases wrOf ops m t with
    | none => rfl
    | some i => by_cases hD : D i = true <;> simp [hD]
  unfold eD
  unfold cTmp
  split
  · show eget (writes ops m outs s0.H.length D ++ s0.L) t = _
    rw [key]; rfl
  · show eget (writes ops m outs s0.H.length D ++ s0.T) t = _
    rw [key]; rfl

def below (i : Nat) : Nat → Bool := fun j => decide (j < i)
def with1 (D : Nat → Bool) (i : Nat) : Nat → Bool := fun j => D j || decide (j = i)

theorem eD_with (hu : Uniq ops m) {D : Nat → Bool} {i : Nat} (hi : i < m) (t : Nat) :
    eD lv ops m outs s0 (with1 D i) t = if dstOf ops i = some t then valOf outs s0.H.length i else eD lv ops m outs s0 D t := by
  unfold eD
  by_cases hd : dstOf ops i = some t
  · rw [if_pos hd, wr_of hu hi hd]
    simp [with1]
  · rw [if_neg hd]
    cases hw : wrOf ops m t with
    | none => rfl
    | some j =>
      have hj := (wr_inv hw).2
      have hne : j ≠ i := fun e => hd (e ▸ hj)
      simp [with1, hne]

theorem hcD_congr {H0 : List AO} {D D' : Nat → Bool} : ∀ {n : Nat}, (∀ j, j < n → isChn outs j = true → D j = D' j) → hcD outs H0 D n = hcD outs H0 D' n
  | 0, _ => rfl
  | n + 1, h => by
    have ih := hcD_congr (H0 := H0) (n := n) (fun j hj hc => h j (by omega) hc)
    unfold hcD
    cases ho : outs n with
    | chn v Hc => simp only [h n (by omega) (by simp [isChn, ho]), ih]
    | _ => simp only [ih]

theorem hcD_cut {H0 : List AO} {D : Nat → Bool} {i : Nat} : ∀ {n : Nat}, i ≤ n → (∀ j, i ≤ j → j < n → isChn outs j = true → D j = false) → hcD outs H0 D n = hcD outs H0 D i
  | 0, hi, _ => by rw [Nat.le_zero.1 hi]
  | n + 1, hi, h => by
    by_cases e : i = n + 1
    · rw [e]
    · have ih := hcD_cut (H0 := H0) (n := n) (by omega) (fun j h1 h2 => h j h1 (by omega))
      rw [← ih]
      show (match outs n with | .chn _ Hc => if D n then Hc else hcD outs H0 D n | _ => hcD outs H0 D n) = _
      cases ho : outs n with
      | chn v Hc => simp only [h n (by omega) (by omega) (by simp [isChn, ho]), Bool.false_eq_true, if_false]
      | _ => rfl

theorem hcD_ind {H0 : List AO} {D : Nat → Bool} {p : List AO → Prop} (h0 : p H0) : ∀ {n : Nat}, (∀ j v Hc, j < n → outs j = .chn v Hc → p Hc) → p (hcD outs H0 D n)
  | 0, _ => h0
  | n + 1, h => by
    have ih := hcD_ind (D := D) h0 (n := n) (fun j v Hc hj ho => h j v Hc (by omega) ho)
    unfold hcD
    cases ho : outs n with
    | chn v Hc =>
      simp only []
      split
      · exact h n v Hc (by omega) ho
      · exact ih
    | _ => exact ih

theorem canon (pre : List MI) (hu : Uniq ops m) (hd : ∀ i, i < m → ∃ o, pre[i]? = some o ∧ o.dst = cDst lv (dstOf ops i)) (hlen : ∀ i v Hc, i < m → outs i = .chn v Hc → Hc.length = s0.H.length) :
    ∀ i, i ≤ m → (sts pre outs (s0.H, ⟨s0.L, s0.T, []⟩) i).1 = hcD outs s0.H (fun _ => true) i ∧ (sts pre outs (s0.H, ⟨s0.L, s0.T, []⟩) i).1.length = s0.H.length ∧ (sts pre outs (s0.H, ⟨s0.L, s0.T, []⟩) i).2.H = ((List.range i).filter (isNew outs)).map (objOf outs) ∧
      ∀ t, (sts pre outs (s0.H, ⟨s0.L, s0.T, []⟩) i).2.get (cTmp lv t) = eD lv ops m outs s0 (below i) t := by
  intro i
  induction i with
  | zero =>
    intro _
    refine ⟨rfl, rfl, by simp [sts], fun t => ?_⟩
    unfold eD
    have : (sts pre outs (s0.H, ⟨s0.L, s0.T, []⟩) 0).2.get (cTmp lv t) = s0.get (cTmp lv t) := get_H _ _ _ _ _
    rw [this]
    cases wrOf ops m t <;> simp [below]
  | succ i ih =>
    intro hi
    obtain ⟨h0, hl, h1, h2⟩ := ih (by omega)
    obtain ⟨o, ho, hdst⟩ := hd i (by omega)
    have hb : below (i + 1) = with1 (below i) i := by
      funext j
      simp only [below, with1]
      by_cases hj : j < i
      · simp [hj, show j < i + 1 by omega]
      · by_cases e : j = i
        · simp [e]
        · simp [hj, e]; omega
    rw [hb]
    have hrange : (List.range (i + 1)).filter (isNew outs) = (List.range i).filter (isNew outs) ++ if isNew outs i then [i] else [] := by
      rw [List.range_succ, List.filter_append]
      congr 1
      by_cases hn : isNew outs i = true <;> simp [hn]
    rw [hrange]
    simp only [sts, ho, hdst]
    cases hout : outs i with
    | val v =>
      have hn : isNew outs i = false := by simp [isNew, hout]
      refine ⟨by simp only [outPut, h0, hcD, hout], hl, by simp [outPut, put_H, h1, hn], fun t => ?_⟩
      rw [eD_with hu (by omega)]
      simp only [outPut, get_put, h2 t]
      simp [valOf, hout]
    | chn v Hc =>
      have hn : isNew outs i = false := by simp [isNew, hout]
      refine ⟨by simp [outPut, hcD, hout], hlen i v Hc (by omega) hout, by simp [outPut, put_H, h1, hn], fun t => ?_⟩
      rw [eD_with hu (by omega)]
      simp only [outPut, get_put, h2 t]
      simp [valOf, hout]
    | new ob mk =>
      have hn : isNew outs i = true := by simp [isNew, hout]
      refine ⟨by simp only [outPut, h0, hcD, hout], hl, by simp [outPut, put_H, h1, hn, objOf, hout], fun t => ?_⟩
      rw [eD_with hu (by omega)]
      simp only [outPut, get_put]
      rw [get_H _ _ _ (sts pre outs (s0.H, ⟨s0.L, s0.T, []⟩) i).2.H]
      have e1 : (⟨(sts pre outs (s0.H, ⟨s0.L, s0.T, []⟩) i).2.L, (sts pre outs (s0.H, ⟨s0.L, s0.T, []⟩) i).2.T, (sts pre outs (s0.H, ⟨s0.L, s0.T, []⟩) i).2.H⟩ : St).get (cTmp lv t) = eD lv ops m outs s0 (below i) t := h2 t
      rw [e1]
      have e2 : mk ((sts pre outs (s0.H, ⟨s0.L, s0.T, []⟩) i).1.length + (sts pre outs (s0.H, ⟨s0.L, s0.T, []⟩) i).2.H.length) = valOf outs s0.H.length i := by
        simp [valOf, hout, h1, hl, rankNew]
      rw [e2]

theorem slots_get {i : Nat} (hi : i < m) (hn : isNew outs i = true) (D : Nat → Bool) : (slots m outs D)[rankNew outs i]? = some (if D i then objOf outs i else .rsv) := by
  have hsplit : (List.range m).filter (isNew outs) = (List.range i).filter (isNew outs) ++ i :: ((List.range' (i + 1) (m - i - 1)).filter (isNew outs)) := by
    have : List.range m = List.range i ++ i :: List.range' (i + 1) (m - i - 1) := by
      rw [List.range_eq_range', List.range_eq_range', show m = i + (1 + (m - i - 1)) by omega, ← List.range'_append_1, ← List.range'_append_1]
      simp [List.range'_succ]
    rw [this, List.filter_append, List.filter_cons, if_pos hn]
  unfold slots rankNew
  rw [hsplit, List.map_append, List.getElem?_append_right (by simp)]
  simp

theorem slots_set {i : Nat} (hi : i < m) (hn : isNew outs i = true) (D : Nat → Bool) : (slots m outs D).set (rankNew outs i) (objOf outs i) = slots m outs (with1 D i) := by
  have hl : (slots m outs D).length = ((List.range m).filter (isNew outs)).length := by simp [slots]
  apply List.ext_getElem?
  intro k
  have hnd : ((List.range m).filter (isNew outs)).Nodup := List.Pairwise.filter _ List.nodup_range
  have hri := slots_get hi hn (fun _ => true)
  have hgi : ((List.range m).filter (isNew outs))[rankNew outs i]? = some i := by
    have hsplit : (List.range m).filter (isNew outs) = (List.range i).filter (isNew outs) ++ i :: ((List.range' (i + 1) (m - i - 1)).filter (isNew outs)) := by
      have : List.range m = List.range i ++ i :: List.range' (i + 1) (m - i - 1) := by
        rw [List.range_eq_range', List.range_eq_range', show m = i + (1 + (m - i - 1)) by omega, ← List.range'_append_1, ← List.range'_append_1]
        simp [List.range'_succ]
      rw [this, List.filter_append, List.filter_cons, if_pos hn]
    unfold rankNew
    rw [hsplit, List.getElem?_append_right (Nat.le_refl _)]
    simp
  by_cases hk : k = rankNew outs i
  · subst hk
    rw [slots_get hi hn]
    rw [List.getElem?_set_self (by rw [hl]; exact (List.getElem?_eq_some_iff.1 hgi).1)]
    simp [with1]
  · rw [List.getElem?_set_ne (Ne.symm hk)]
    unfold slots
    simp only [List.getElem?_map]
    cases hg : ((List.range m).filter (isNew outs))[k]? with
    | none => rfl
    | some j =>
      have hne : j ≠ i := by
        rintro rfl
        have h1 := (List.getElem?_eq_some_iff.1 hgi)
        have h2 := (List.getElem?_eq_some_iff.1 hg)
        obtain ⟨a1, b1⟩ := h1
        obtain ⟨a2, b2⟩ := h2
        have hpw := List.pairwise_iff_getElem.1 hnd
        rcases Nat.lt_or_gt_of_ne hk with hlt | hlt
        · exact hpw _ _ a2 a1 hlt (by rw [b2, b1])
        · exact hpw _ _ a1 a2 hlt (by rw [b2, b1])
      simp [with1, hne]

end
end Go.AM

/- Regions whose order is drawn: the theorem. -/
set_option linter.all false
namespace Go.AM
variable {lv : List Nat} {P : Program} {N : Nat} {K : St → Prop} {θ : Th} {W : Im}

def unl : MO → MO
  | .len s x => .lenq s x
  | m => m

theorem unl_args (m : MO) : (unl m).args = m.args := by cases m <;> rfl

theorem unlen_eq (d : MD) (m : MO) (g : Option (MA × Bool)) : unlen ⟨d, m, g⟩ = ⟨d, unl m, g⟩ := by cases m <;> rfl

theorem unl_step {C : CallP} {m : MO} {d : MD} {s : St} (h : stepU C (unl m) d K s) : stepU C m d K s := by
  cases m with
  | len t x =>
    change withV (lenqV t (s.get x)) d K s at h
    rw [su_len]
    obtain ⟨v, hv, h⟩ := withV_inv h
    unfold lenqV at hv
    unfold lenK
    split at hv
    · cases hv; exact fun _ => h
    · cases hv; exact h
    · cases hv; exact fun _ => h
    · cases hv; exact fun _ => h
    · cases hv
  | _ => exact h

/-- what the checks of a drawn region give -/
structure DrwFacts (lv : List Nat) (P : Program) (ops : Array Oper) (m : Nat) : Prop where
  le : m ≤ ops.size
  chain : ∀ i j, i < j → j < m → chainO lv P ops i = true → chainO lv P ops j = true → waitsT (closOf ops) j i = true
  apart : ∀ i j, i < m → j < m → apartOk (closOf ops) ops i j = true
  lt : ∀ j o, ops[j]? = some o → ∀ e ∈ waitsOn o, e < j
  tail : ∀ j, m ≤ j → j < ops.size → ∀ i, i < j → waitsT (closOf ops) j i = true

theorem pairs_facts {cl : List Nat} : ∀ {l : List Nat}, pairsOk cl l = true → l.Pairwise (fun i j => waitsT cl j i = true)
  | [], _ => List.Pairwise.nil
  | i :: is, h => by
    unfold pairsOk at h
    simp only [Bool.and_eq_true, List.all_eq_true] at h
    exact List.Pairwise.cons h.1 (pairs_facts h.2)

theorem drwOk_facts {ops : Array Oper} {m : Nat} (h : drwOk (closOf ops) ops m (chains lv P ops m) = true) : DrwFacts lv P ops m := by
  unfold drwOk at h
  simp only [Bool.and_eq_true, decide_eq_true_eq, List.all_eq_true, List.mem_range] at h
  obtain ⟨⟨⟨h1, h0⟩, h2⟩, h3⟩ := h
  refine ⟨h1, ?_, fun i j hi hj => h2 i hi j hj, ?_, ?_⟩
  · intro i j hij hj hi' hj'
    have hp := List.pairwise_filter.1 (pairs_facts h0)
    have := (List.pairwise_iff_getElem.1 hp) i j (by simp; omega) (by simp; omega) hij
    simp only [List.getElem_range] at this
    exact this hi' hj'
  · intro j o ho e he
    have hj : j < ops.size := (Array.getElem?_eq_some_iff.1 ho).1
    have := h3 j hj
    rw [ho] at this
    simp only [Bool.and_eq_true, List.all_eq_true, decide_eq_true_eq] at this
    exact this.1 e he
  · intro j hm hj i hi
    have := h3 j hj
    have ho : ops[j]? = some ops[j] := by simp [hj]
    rw [ho] at this
    simp only [Bool.and_eq_true, Bool.or_eq_true, decide_eq_true_eq] at this
    rcases this.2 with h' | h'
    · omega
    · unfold waitsAll at h'
      simp only [List.all_eq_true, List.mem_range] at h'
      exact h' i hi

theorem DrwFacts.uniq {ops : Array Oper} {m : Nat} (h : DrwFacts lv P ops m) : Uniq ops m := by
  intro i j t hi hj h1 h2
  have := h.apart i j hi hj
  unfold apartOk at this
  unfold dstOf at h1 h2
  cases hx : ops[i]? with
  | none => rw [hx] at h1; cases h1
  | some x =>
    cases hy : ops[j]? with
    | none => rw [hy] at h2; cases h2
    | some y =>
      rw [hx] at h1; rw [hy] at h2
      simp only [Option.bind_some] at h1 h2
      rw [hx, hy] at this
      simp only [Bool.and_eq_true, Bool.or_eq_true, beq_iff_eq, bne_iff_ne] at this
      rcases this.2 with (h' | h') | h'
      · exact h'
      · rw [h1] at h'; simp at h'
      · rw [h1, h2] at h'; exact (h' rfl).elim

section
variable {ops : Array Oper} {m : Nat} {outs : Nat → Out} {s0 : St}

theorem op_agree (hf : DrwFacts lv P ops m) {D : Nat → Bool} (hc : Closed ops D) {i : Nat} (hi : i < m) {o : Oper} (ho : ops[i]? = some o) (hDi : D i = false) (hready : ∀ e ∈ waitsOn o, D e = true) {t : Nat} (ht : t ∈ looks ops o) :
    eD lv ops m outs s0 (below i) t = eD lv ops m outs s0 D t := by
  unfold eD
  cases hw : wrOf ops m t with
  | none => rfl
  | some j =>
    obtain ⟨hj, hdj⟩ := wr_inv hw
    have hap := hf.apart i j hi hj
    unfold apartOk at hap
    unfold dstOf at hdj
    cases hy : ops[j]? with
    | none => rw [hy] at hdj; cases hdj
    | some y =>
      rw [hy] at hdj
      simp only [Option.bind_some] at hdj
      rw [ho, hy] at hap
      simp only [hdj, Bool.and_eq_true, Bool.or_eq_true, Bool.not_eq_true', decide_eq_true_eq] at hap
      have h1 := hap.1
      have hct : (looks ops o).contains t = true := by simpa using ht
      rcases h1 with (h1 | ⟨h1, h2⟩) | ⟨h1, h2⟩
      · rw [hct] at h1; cases h1
      · have hD := waitsT_closed hf.lt hc i j o ho hready h2
        simp [below, h1, hD]
      · have hD : D j = false := by
          cases e : D j with
          | false => rfl
          | true =>
            have := waitsT_closed hf.lt hc j i y hy (hc j y e hy) h2
            rw [hDi] at this; cases this
        have hnb : ¬ j < i := by omega
        simp [below, hnb, hD]

/-- the operations ahead of the tail, as they were compiled, and what is known of each -/
def PreOk (lv : List Nat) (P : Program) (N : Nat) (ops : Array Oper) (m : Nat) (outs : Nat → Out) (Hm : List AO) (s0 : St) (pre : List MI) : Prop :=
  ∀ i o, i < m → ops[i]? = some o → ∃ m' g, cOp lv P o.op = some m' ∧ cGuard lv ops o.guard = some g ∧ o.dst.all (decide <| · < N) = true ∧ pre[i]? = some ⟨cDst lv o.dst, unl m', g⟩ ∧
    GoodI P Hm ⟨cDst lv o.dst, unl m', g⟩ (sts pre outs (s0.H, ⟨s0.L, s0.T, []⟩) i) (outs i)

theorem preOk_of {Hm : List AO} {pre : List MI} (hpre : pre = (ops.toList.take m).map fun o => unlen (cOper lv P N ops o)) (hg : ∀ i o, pre[i]? = some o → GoodI P Hm o (sts pre outs (s0.H, ⟨s0.L, s0.T, []⟩) i) (outs i)) : PreOk lv P N ops m outs Hm s0 pre := by
  intro i o hi ho
  have hp : pre[i]? = some (unlen (cOper lv P N ops o)) := by
    rw [hpre, List.getElem?_map, List.getElem?_take, if_pos hi]
    simp [ho]
  have hgood := hg i _ hp
  have hstop : ∀ s out, ¬ GoodI P Hm (unlen ⟨.no, .stop, none⟩) s out := by
    intro s out hh
    cases out with
    | val v => exact hh ⟨s.2.L, s.2.T, Hm⟩ (fun x hx => by cases hx) (Hext.refl Hm)
    | new ob mk => rcases hh with hh | hh <;> cases hh.1
    | chn v Hc => cases hh.1
  unfold cOper at hgood hp
  split at hgood
  · rename_i m' g hm hgd
    rw [hm, hgd] at hp
    simp only at hp
    split at hgood
    · rename_i hd
      rw [if_pos hd, unlen_eq] at hp
      rw [unlen_eq] at hgood
      exact ⟨m', g, hm, hgd, hd, hp, hgood⟩
    · exact (hstop _ _ hgood).elim
  · exact (hstop _ _ hgood).elim

/-- what is known of those with effects -/
theorem goodI_chn {Hm : List AO} {o : MI} {s : List AO × St} {v : AV} {Hc : List AO} (h : GoodI P Hm o s (.chn v Hc)) : GoodU P Hm o.op o.dst s (.chn v Hc) := by
  unfold GoodI at h
  split at h
  · exact h
  · rename_i t want e
    rcases h with ⟨_, h⟩ | ⟨b, h1, h2, h3⟩
    · cases h
    · by_cases e : b = want
      · exact h2 e
      · cases h3 e

theorem PreOk.chn {Hm : List AO} {pre : List MI} (hm : m ≤ ops.size) (hp : PreOk lv P N ops m outs Hm s0 pre) {i : Nat} {v : AV} {Hc : List AO} (hi : i < m) (ho : outs i = .chn v Hc) :
    chainO lv P ops i = true ∧ Hc.length = (sts pre outs (s0.H, ⟨s0.L, s0.T, []⟩) i).1.length ∧ Hext Hm Hc := by
  have his : i < ops.size := Nat.lt_of_lt_of_le hi hm
  have hoi : ops[i]? = some ops[i] := by simp [his]
  obtain ⟨m', g, h1, h2, h3, h4, h5⟩ := hp i ops[i] hi hoi
  rw [ho] at h5
  obtain ⟨q1, q2, q3, _⟩ := goodI_chn h5
  refine ⟨?_, q2, q3⟩
  unfold chainO
  rw [hoi]
  simp only [h1]
  cases m' <;> first | exact q1 | cases q1

theorem PreOk.lens {Hm : List AO} {pre : List MI} (hm : m ≤ ops.size) (hp : PreOk lv P N ops m outs Hm s0 pre) : ∀ i, i ≤ m → (sts pre outs (s0.H, ⟨s0.L, s0.T, []⟩) i).1.length = s0.H.length
  | 0, _ => rfl
  | i + 1, hi => by
    have ih := hp.lens hm i (by omega)
    have his : i < ops.size := Nat.lt_of_lt_of_le (show i < m by omega) hm
    obtain ⟨m', g, h1, h2, h3, h4, h5⟩ := hp i ops[i] (by omega) (by simp [his])
    simp only [sts, h4]
    cases ho : outs i with
    | val v => exact ih
    | new ob mk => exact ih
    | chn v Hc => exact ((hp.chn hm (by omega) ho).2.1).trans ih

theorem PreOk.len {Hm : List AO} {pre : List MI} (hm : m ≤ ops.size) (hp : PreOk lv P N ops m outs Hm s0 pre) (i : Nat) (v : AV) (Hc : List AO) (hi : i < m) (ho : outs i = .chn v Hc) : Hc.length = s0.H.length :=
  ((hp.chn hm hi ho).2.1).trans (hp.lens hm i (by omega))

theorem hcD_len {Hm : List AO} {pre : List MI} (hm : m ≤ ops.size) (hp : PreOk lv P N ops m outs Hm s0 pre) (D : Nat → Bool) {n : Nat} (hn : n ≤ m) : (hcD outs s0.H D n).length = s0.H.length :=
  hcD_ind (p := fun l => l.length = s0.H.length) rfl (fun j v Hc hj ho => hp.len hm j v Hc (by omega) ho)

theorem slots_same {D : Nat → Bool} {i : Nat} (hn : isNew outs i = false) : slots m outs (with1 D i) = slots m outs D := by
  unfold slots
  apply List.map_congr_left
  intro j hj
  have hjn := (List.mem_filter.1 hj).2
  have hne : j ≠ i := by rintro rfl; rw [hn] at hjn; cases hjn
  simp [with1, hne]

theorem draw_step {Hm : List AO} {pre : List MI} (hf : DrwFacts lv P ops m) (hHm : Hext Hm s0.H) (hp : PreOk lv P N ops m outs Hm s0 pre) {D : Nat → Bool} (hc : Closed ops D) {i : Nat} (hi : i < m) {o : Oper} (ho : ops[i]? = some o) (hDi : D i = false) (hready : ∀ e ∈ waitsOn o, D e = true)
    {a : Act} {w : World} {next : Act → World → Prop} {Q : Exit → Act → World → Prop} (hR : Rl lv N (SD ops m outs s0 D) a w θ W)
    (hk : ∀ a' w' θ' W', Rl lv N (SD ops m outs s0 (with1 D i)) a' w' θ' W' → Stp θ W w θ' W' w' → next a' w') :
    if Region.wanted o (yielded ops a.tmps) then o.wp P a w next Q else next (a.put o.dst undef) w := by
  have hu := hf.uniq
  obtain ⟨m', g, hm, hg, hdN, hpi, hgood⟩ := hp i o hi ho
  have hdst : ∀ k, k < m → ∃ o, pre[k]? = some o ∧ o.dst = cDst lv (dstOf ops k) := by
    intro k hk'
    have hks : k < ops.size := Nat.lt_of_lt_of_le hk' hf.le
    obtain ⟨m2, g2, _, _, _, hp2, _⟩ := hp k ops[k] hk' (by simp [hks])
    exact ⟨_, hp2, by simp [dstOf, hks]⟩
  have hdo : dstOf ops i = o.dst := by simp [dstOf, ho]
  obtain ⟨hcH, hcL, hcN, hcG⟩ := canon (lv := lv) (outs := outs) (s0 := s0) pre hu hdst (hp.len hf.le) i (by omega)
  have hag : ∀ t, t ∈ looks ops o → (sts pre outs (s0.H, ⟨s0.L, s0.T, []⟩) i).2.get (cTmp lv t) = (SD ops m outs s0 D).get (cTmp lv t) := by
    intro t ht
    rw [hcG t, SD_get hu, op_agree hf hc hi ho hDi hready ht]
  have hops : ∀ t, Operand.tmp t ∈ o.op.operands.toList → t ∈ looks ops o := by
    intro t ht
    unfold looks
    refine List.mem_append.2 (.inl ?_)
    exact List.mem_filterMap.2 ⟨_, ht, rfl⟩
  have hA : Agree m'.args (sts pre outs (s0.H, ⟨s0.L, s0.T, []⟩) i).2 (SD ops m outs s0 D) := by
    intro x hx
    rcases cOp_from hm x hx with ⟨v, rfl⟩ | ⟨t, rfl, ht⟩
    · rfl
    · exact hag t (hops t ht)
  have hA' : Agree (unl m').args (sts pre outs (s0.H, ⟨s0.L, s0.T, []⟩) i).2 (SD ops m outs s0 D) := by rw [unl_args]; exact hA
  have hext : Hext Hm (SD ops m outs s0 D).H := by
    have h1 : Hext Hm (hcD outs s0.H D m) := hcD_ind (p := Hext Hm) hHm (fun j v Hc hj hoj => (hp.chn hf.le hj hoj).2.2)
    intro id ob hid hn
    exact hext_app _ _ id ob (h1 id ob hid hn) hn
  have hcSame : isChn outs i = false → hcD outs s0.H (with1 D i) m = hcD outs s0.H D m := by
    intro hn
    refine hcD_congr (fun j hj hcj => ?_)
    have hne : j ≠ i := by rintro rfl; rw [hn] at hcj; cases hcj
    simp [with1, hne]
  have toNext : ∀ v, outs i = .val v → ∀ st' a' w' θ' W', st' = (SD ops m outs s0 D).put (cDst lv o.dst) v → Rl lv N st' a' w' θ' W' → Stp θ W w θ' W' w' → next a' w' := by
    intro v hv st' a' w' θ' W' hst hR' hs'
    subst hst
    refine hk a' w' θ' W' (hR'.congr (fun t => ?_) ?_) hs'
    · rw [get_put, SD_get hu, SD_get hu, eD_with hu hi, hdo]
      simp [valOf, hv]
    · rw [put_H]
      show hcD outs s0.H D m ++ slots m outs D = hcD outs s0.H (with1 D i) m ++ slots m outs (with1 D i)
      rw [slots_same (by simp [isNew, hv]), hcSame (by simp [isChn, hv])]
  have main : GoodU P Hm (unl m') (cDst lv o.dst) (sts pre outs (s0.H, ⟨s0.L, s0.T, []⟩) i) (outs i) → o.wp P a w next Q := by
    intro hU
    cases hout : outs i with
    | val v =>
      rw [hout] at hU
      exact step_ok hm hdN (unl_step (hU _ hA' hext)) a w θ W next Q hR (toNext v hout)
    | chn v Hc =>
      rw [hout] at hU
      obtain ⟨hq, hl, hx, h1⟩ := hU
      have hci := (hp.chn hf.le hi hout).1
      have hchain : ∀ j, j < m → isChn outs j = true → D j = below i j := by
        intro j hj hcj
        have hcj' : chainO lv P ops j = true := by
          unfold isChn at hcj
          split at hcj
          · rename_i v' Hc' e; exact (hp.chn hf.le hj e).1
          · cases hcj
        have hjs : j < ops.size := Nat.lt_of_lt_of_le hj hf.le
        rcases Nat.lt_trichotomy j i with hlt | he | hgt
        · rw [waitsT_closed hf.lt hc i j o ho hready (hf.chain j i hlt hi hcj' hci)]
          simp [below, hlt]
        · subst he; rw [hDi]; simp [below]
        · have hnb : ¬ j < i := by omega
          cases e : D j with
          | false => simp [below, hnb]
          | true =>
            have hoj : ops[j]? = some ops[j] := by simp [hjs]
            have := waitsT_closed hf.lt hc j i _ hoj (hc j _ e hoj) (hf.chain i j hgt hj hci hcj')
            rw [hDi] at this; cases this
      have hHc : hcD outs s0.H D m = (sts pre outs (s0.H, ⟨s0.L, s0.T, []⟩) i).1 := by
        rw [hcH, hcD_congr (n := m) hchain, hcD_cut (Nat.le_of_lt hi) (fun j h1 h2 _ => by simp [below]; omega)]
        exact hcD_congr (fun j hj _ => by simp [below, hj])
      have hHc' : hcD outs s0.H (with1 D i) m = Hc := by
        rw [hcD_cut (i := i + 1) (show i + 1 ≤ m by omega) (fun j h1 h2 h3 => by
          have hb := hchain j h2 h3
          have hnb : ¬ j < i := by omega
          have hne : ¬ j = i := by omega
          simp [with1, hb, below, hnb, hne])]
        simp [hcD, hout, with1]
      have h2 := h1 (SD ops m outs s0 D) (slots m outs D) hA' (by rw [← hHc]; rfl)
      refine step_ok hm hdN (unl_step h2) a w θ W next Q hR ?_
      intro st' a' w' θ' W' hst hR' hs'
      subst hst
      refine hk a' w' θ' W' (hR'.congr (fun t => ?_) ?_) hs'
      · rw [get_H _ _ _ ((SD ops m outs s0 D).put (cDst lv o.dst) v).H]
        have e1 : (⟨((SD ops m outs s0 D).put (cDst lv o.dst) v).L, ((SD ops m outs s0 D).put (cDst lv o.dst) v).T, ((SD ops m outs s0 D).put (cDst lv o.dst) v).H⟩ : St).get (cTmp lv t) = ((SD ops m outs s0 D).put (cDst lv o.dst) v).get (cTmp lv t) := rfl
        rw [e1, get_put, SD_get hu, SD_get hu, eD_with hu hi, hdo]
        simp [valOf, hout]
      · show Hc ++ slots m outs D = hcD outs s0.H (with1 D i) m ++ slots m outs (with1 D i)
        rw [slots_same (by simp [isNew, hout]), hHc']
    | new ob mk =>
      rw [hout] at hU
      have hnew : isNew outs i = true := by simp [isNew, hout]
      have hlD := hcD_len hf.le hp D (Nat.le_refl m)
      have hrsv : (SD ops m outs s0 D).H[s0.H.length + rankNew outs i]? = some .rsv := by
        show (hcD outs s0.H D m ++ slots m outs D)[s0.H.length + rankNew outs i]? = _
        rw [List.getElem?_append_right (by omega), show s0.H.length + rankNew outs i - (hcD outs s0.H D m).length = rankNew outs i by omega, slots_get hi hnew, hDi]
        rfl
      have fin : ∀ a' w' θ' W', Rl lv N (St.put ⟨(SD ops m outs s0 D).L, (SD ops m outs s0 D).T, (SD ops m outs s0 D).H.set (s0.H.length + rankNew outs i) ob⟩ (cDst lv o.dst) (mk (s0.H.length + rankNew outs i))) a' w' θ' W' → Stp θ W w θ' W' w' → next a' w' := by
        intro a' w' θ' W' hR' hs'
        refine hk a' w' θ' W' (hR'.congr (fun t => ?_) ?_) hs'
        · rw [get_put, SD_get hu, eD_with hu hi, hdo]
          rw [get_H _ _ _ (SD ops m outs s0 D).H]
          have e1 : (⟨(SD ops m outs s0 D).L, (SD ops m outs s0 D).T, (SD ops m outs s0 D).H⟩ : St).get (cTmp lv t) = eD lv ops m outs s0 D t := SD_get hu D t
          rw [e1]
          simp [valOf, hout]
        · rw [put_H]
          show (hcD outs s0.H D m ++ slots m outs D).set (s0.H.length + rankNew outs i) ob = hcD outs s0.H (with1 D i) m ++ slots m outs (with1 D i)
          rw [List.set_append_right _ _ (by omega), show s0.H.length + rankNew outs i - (hcD outs s0.H D m).length = rankNew outs i by omega, ← slots_set hi hnew, hcSame (by simp [isChn, hout])]
          simp [objOf, hout]
      rcases hU with ⟨hq, hn⟩ | ⟨hq, hn⟩
      · have hn' := hn.agree hA'
        have hmm : unl m' = m' := by cases m' <;> first | rfl | cases hq
        rw [hmm] at hn'
        exact new_at hm hdN hn' hR _ hrsv fin
      · refine step_ok hm hdN (unl_step (hn _ _ hA' hext hrsv)) a w θ W next Q hR ?_
        intro st' a' w' θ' W' hst hR' hs'
        subst hst
        exact fin _ _ _ _ hR' hs'
  unfold GoodI at hgood
  cases hgd : o.guard with
  | none =>
    rw [hgd] at hg
    cases hg
    have hw : Region.wanted o (yielded ops a.tmps) = true := by simp [Region.wanted, hgd]
    rw [if_pos hw]
    exact main hgood
  | some jw =>
    obtain ⟨j, want⟩ := jw
    rw [hgd] at hg
    simp only [cGuard] at hg
    split at hg
    case h_2 => cases hg
    case h_1 t ht =>
    cases hg
    have htl : t ∈ looks ops o := by
      unfold looks
      refine List.mem_append.2 (.inr ?_)
      rw [hgd]
      simp only [ht]
      simp
    have hrel := hR.tmpArg t
    have skip : yielded ops a.tmps j ≠ some want → outs i = .val (.tup []) → if Region.wanted o (yielded ops a.tmps) then o.wp P a w next Q else next (a.put o.dst undef) w := by
      intro hy hout
      have hw : ¬ Region.wanted o (yielded ops a.tmps) = true := by simpa [Region.wanted, hgd] using hy
      rw [if_neg hw]
      exact toNext (.tup []) hout _ _ _ _ _ rfl (hR.put hdN (undef_rel _ _) hR.mem (Stp.refl _ _ _)) (Stp.refl _ _ _)
    rcases hgood with ⟨hb, hout⟩ | ⟨b, hb, h1, h2⟩
    · rw [hag t htl] at hb
      rw [hb] at hrel
      refine skip ?_ hout
      have e1 := tup0_inv hrel
      simp only [Act.eval] at e1
      unfold yielded
      rw [ht]
      simp only [Option.bind_some]
      by_cases hlt : t < a.tmps.size
      · simp [Array.getD, hlt] at e1; simp [hlt, e1]
      · simp [hlt]
    · rw [hag t htl] at hb
      rw [hb] at hrel
      have e1 := hrel.b_inv
      simp only [Act.eval] at e1
      have hyield : yielded ops a.tmps j = some b := by
        have : a.tmps[t]? = some (.bool b) := by
          by_cases hlt : t < a.tmps.size
          · simp [Array.getD, hlt] at e1; simp [hlt, e1]
          · simp [Array.getD, hlt, undef] at e1
        simp [yielded, ht, this]
      by_cases e : b = want
      · have hw : Region.wanted o (yielded ops a.tmps) = true := by simp [Region.wanted, hgd, hyield, e]
        rw [if_pos hw]
        exact main (h1 e)
      · exact skip (by rw [hyield]; simp [e]) (h2 e)

end
end Go.AM

/- Regions whose order is drawn: every order. -/
set_option linter.all false
namespace Go.AM
variable {lv : List Nat} {P : Program} {N : Nat} {K : St → Prop} {θ : Th} {W : Im} {ops : Array Oper} {m : Nat} {outs : Nat → Out} {s0 : St}

def Lst (ops : Array Oper) (listed : Array Bool) (D : Nat → Bool) : Prop := listed.size = ops.size ∧ ∀ j, j < ops.size → listed[j]? = some (D j)

theorem Lst.getD {listed : Array Bool} {D : Nat → Bool} (h : Lst ops listed D) {j : Nat} (hj : j < ops.size) (d : Bool) : listed.getD j d = D j := by
  have := h.2 j hj
  simp [Array.getD_eq_getD_getElem?, this]

theorem Lst.set {listed : Array Bool} {D : Nat → Bool} (h : Lst ops listed D) {i : Nat} (hi : i < ops.size) : Lst ops (listed.setIfInBounds i true) (with1 D i) := by
  refine ⟨by simp [h.1], fun j hj => ?_⟩
  by_cases e : j = i
  · subst e
    simp [Array.getElem?_setIfInBounds_self, h.1, hj, with1]
  · rw [Array.getElem?_setIfInBounds_ne (Ne.symm e), h.2 j hj]
    simp [with1, e]

theorem waits_mem {o : Oper} {e : Nat} : e ∈ waitsOn o ↔ ∃ x ∈ o.after, Region.binds .any x = true ∧ x.on = e := by
  unfold waitsOn
  simp only [List.mem_map, List.mem_filter, Array.mem_toList_iff]
  constructor
  · rintro ⟨x, ⟨h1, h2⟩, h3⟩; exact ⟨x, h1, h2, h3⟩
  · rintro ⟨x, h1, h2, h3⟩; exact ⟨x, ⟨h1, h2⟩, h3⟩

theorem Lst.ready {listed : Array Bool} {D : Nat → Bool} (h : Lst ops listed D) (hlt : ∀ j o, ops[j]? = some o → ∀ e ∈ waitsOn o, e < j) {i : Nat} :
    i ∈ Region.ready .any ops listed ↔ D i = false ∧ ∃ o, ops[i]? = some o ∧ ∀ e ∈ waitsOn o, D e = true := by
  rw [mem_ready]
  constructor
  · rintro ⟨h0, o, ho, hall⟩
    have hi : i < ops.size := (Array.getElem?_eq_some_iff.1 ho).1
    refine ⟨by rw [h.getD hi] at h0; exact h0, o, ho, fun e he => ?_⟩
    obtain ⟨x, h1, h2, rfl⟩ := waits_mem.1 he
    have h3 := hall x h1 h2
    rw [h.getD (Nat.lt_trans (hlt i o ho _ he) hi)] at h3
    exact h3
  · rintro ⟨h0, o, ho, hall⟩
    have hi : i < ops.size := (Array.getElem?_eq_some_iff.1 ho).1
    refine ⟨by rw [h.getD hi]; exact h0, o, ho, fun x hx hb => ?_⟩
    have he : x.on ∈ waitsOn o := waits_mem.2 ⟨x, hx, hb, rfl⟩
    rw [h.getD (Nat.lt_trans (hlt i o ho _ he) hi)]
    exact hall _ he

theorem Closed.with1 {D : Nat → Bool} (hc : Closed ops D) {i : Nat} {o : Oper} (ho : ops[i]? = some o) (hr : ∀ e ∈ waitsOn o, D e = true) : Closed ops (with1 D i) := by
  intro j o' hj ho' e he
  have : D e = true := by
    by_cases e1 : j = i
    · subst e1; rw [ho] at ho'; cases ho'; exact hr e he
    · have hD : D j = true := by simpa [AM.with1, e1] using hj
      exact hc j o' hD ho' e he
  simp [AM.with1, this]

theorem tail_any {Q : Exit → Act → World → Prop} (hf : DrwFacts lv P ops m) : ∀ (fuel j : Nat) (listed : Array Bool) (st : St) (a : Act) (w : World) (θ : Th) (W : Im), fuel + j = ops.size → m ≤ j → Lst ops listed (below j) →
    runOps (ACall P) ((ops.toList.drop j).map (cOper lv P N ops)) K st → Rl lv N st a w θ W →
    (∀ st' a' w' θ' W', K st' → Rl lv N st' a' w' θ' W' → Stp θ W w θ' W' w' → Q .normal a' w') → wpAny P .any ops Q fuel listed a w := by
  intro fuel
  induction fuel with
  | zero =>
    intro j listed st a w θ W hfj hmj hl h hR hk
    have hd : ops.toList.drop j = [] := by simp; omega
    rw [hd] at h
    refine ⟨?_, hk _ _ _ _ _ h hR (Stp.refl _ _ _)⟩
    rw [List.eq_nil_iff_forall_not_mem]
    intro i hi
    obtain ⟨h0, o, ho, _⟩ := (hl.ready hf.lt).1 hi
    have hi : i < ops.size := (Array.getElem?_eq_some_iff.1 ho).1
    simp [below] at h0; omega
  | succ fuel ih =>
    intro j listed st a w θ W hfj hmj hl h hR hk
    have hj : j < ops.size := by omega
    have hoj : ops[j]? = some ops[j] := by simp [hj]
    have hjr : j ∈ Region.ready .any ops listed := (hl.ready hf.lt).2 ⟨by simp [below], _, hoj, fun e he => by simp [below]; exact hf.lt j _ hoj e he⟩
    refine ⟨fun hn => absurd (hn ▸ hjr) List.not_mem_nil, fun i hi => ?_⟩
    obtain ⟨h0, o, ho, hw⟩ := (hl.ready hf.lt).1 hi
    have hin : i < ops.size := (Array.getElem?_eq_some_iff.1 ho).1
    have hji : j ≤ i := by simpa [below] using h0
    have hcl : Closed ops (below j) := by
      intro k o' hk' ho' e he
      have := hf.lt k o' ho' e he
      simp [below] at hk' ⊢; omega
    have e : i = j := by
      rcases Nat.lt_or_ge j i with hlt | hge
      · have := waitsT_closed hf.lt hcl i j o ho hw (hf.tail i (by omega) hin j hlt)
        simp [below] at this
      · omega
    subst e
    rw [hoj] at ho
    cases ho
    have hd : ops.toList.drop i = ops[i] :: ops.toList.drop (i + 1) := by
      rw [List.drop_eq_getElem_cons (by simpa using hj)]
      simp
    rw [hd] at h
    have hl' : Lst ops (listed.setIfInBounds i true) (below (i + 1)) := by
      have := hl.set hin
      have e2 : with1 (below i) i = below (i + 1) := by
        funext k; simp only [with1, below]
        by_cases h1 : k < i
        · simp [h1, show k < i + 1 by omega]
        · by_cases h2 : k = i
          · simp [h2]
          · simp [h1, h2]; omega
      rw [e2] at this; exact this
    have key := oper_ok (Q := Q) (next := wpAny P .any ops Q fuel (listed.setIfInBounds i true)) ops[i] h hR (fun st' a' w' θ' W' hst' hR' hs' =>
      ih (i + 1) _ st' a' w' θ' W' (by omega) (by omega) hl' hst' hR' (fun st2 a2 w2 θ2 W2 h2 hR2 hs2 => hk st2 a2 w2 θ2 W2 h2 hR2 (hs'.trans hs2)))
    unfold wpOp
    rw [hoj]
    simp only []
    split
    · rename_i hw; rw [if_pos hw] at key; exact .inl key
    · rename_i hw; rw [if_neg hw] at key; exact key

def cnt (D : Nat → Bool) (n : Nat) : Nat := ((List.range n).filter D).length

theorem cnt_le (D : Nat → Bool) (n : Nat) : cnt D n ≤ n := by
  unfold cnt
  have := List.length_filter_le D (List.range n)
  simpa using this

theorem cnt_succ (D : Nat → Bool) (n : Nat) : cnt D (n + 1) = cnt D n + if D n then 1 else 0 := by
  unfold cnt
  rw [List.range_succ, List.filter_append, List.length_append]
  by_cases h : D n = true <;> simp [h]

theorem cnt_with (D : Nat → Bool) (i : Nat) (hD : D i = false) : ∀ n, cnt (with1 D i) n = cnt D n + if i < n then 1 else 0
  | 0 => by simp [cnt]
  | n + 1 => by
    rw [cnt_succ, cnt_succ, cnt_with D i hD n]
    by_cases e : n = i
    · subst e; simp [with1, hD]
    · have : with1 D i n = D n := by simp [with1, e]
      rw [this]
      by_cases h1 : i < n
      · simp [h1, show i < n + 1 by omega]; omega
      · simp [h1, show ¬ i < n + 1 by omega]

theorem cnt_lt (D : Nat → Bool) {i : Nat} (hD : D i = false) : ∀ n, i < n → cnt D n < n
  | 0, h => by omega
  | n + 1, h => by
    rw [cnt_succ]
    by_cases e : n = i
    · subst e; have := cnt_le D n; simp [hD]; omega
    · have := cnt_lt D hD n (by omega)
      split <;> omega

theorem cnt_below (j : Nat) : ∀ n, j ≤ n → cnt (below j) n = j
  | 0, h => by simp [cnt]; omega
  | n + 1, h => by
    rw [cnt_succ]
    by_cases e : j = n + 1
    · have := cnt_le (below j) n
      have h2 : ∀ k, k ≤ j → cnt (below j) k = k := by
        intro k
        induction k with
        | zero => intro _; rfl
        | succ k ihk => intro hk; rw [cnt_succ, ihk (by omega)]; simp [below]; omega
      rw [← cnt_succ, ← e]; exact h2 j (Nat.le_refl _)
    · rw [cnt_below j n (by omega)]
      have : ¬ n < j := by omega
      simp [below, this]

theorem least (D : Nat → Bool) : ∀ n, (∃ i, i < n ∧ D i = false) → ∃ i, i < n ∧ D i = false ∧ ∀ k, k < i → D k = true
  | 0, ⟨i, h, _⟩ => by omega
  | n + 1, ⟨i, h, hD⟩ => by
    by_cases e : ∃ i, i < n ∧ D i = false
    · obtain ⟨k, h1, h2, h3⟩ := least D n e
      exact ⟨k, by omega, h2, h3⟩
    · refine ⟨i, h, hD, fun k hk => ?_⟩
      cases hk' : D k with
      | true => rfl
      | false => exact (e ⟨k, by omega, hk'⟩).elim

theorem pre_any {Q : Exit → Act → World → Prop} {Hm : List AO} {pre : List MI} (hf : DrwFacts lv P ops m) (hHm : Hext Hm s0.H) (hp : PreOk lv P N ops m outs Hm s0 pre)
    (hK : endK (runOps (ACall P) ((ops.toList.drop m).map (cOper lv P N ops)) K) (sts pre outs (s0.H, ⟨s0.L, s0.T, []⟩) m).1 (sts pre outs (s0.H, ⟨s0.L, s0.T, []⟩) m).2) :
    ∀ (fuel : Nat) (D : Nat → Bool) (listed : Array Bool) (a : Act) (w : World) (θ : Th) (W : Im), fuel + cnt D ops.size = ops.size → (∀ i, m ≤ i → D i = false) → Closed ops D → Lst ops listed D → Rl lv N (SD ops m outs s0 D) a w θ W →
    (∀ st' a' w' θ' W', K st' → Rl lv N st' a' w' θ' W' → Stp θ W w θ' W' w' → Q .normal a' w') → wpAny P .any ops Q fuel listed a w := by
  have hu := hf.uniq
  have hdst : ∀ k, k < m → ∃ o, pre[k]? = some o ∧ o.dst = cDst lv (dstOf ops k) := by
    intro k hk'
    have hks : k < ops.size := Nat.lt_of_lt_of_le hk' hf.le
    obtain ⟨m2, g2, _, _, _, hp2, _⟩ := hp k ops[k] hk' (by simp [hks])
    exact ⟨_, hp2, by simp [dstOf, hks]⟩
  intro fuel
  induction fuel with
  | zero =>
    intro D listed a w θ W hfu hD hc hl hR hk
    have hall : ∀ i, i < ops.size → D i = true := by
      intro i hi
      cases e : D i with
      | true => rfl
      | false => have := cnt_lt D e ops.size hi; omega
    have hDm : D = below m := by
      funext i
      by_cases h1 : i < m
      · rw [hall i (Nat.lt_of_lt_of_le h1 hf.le)]; simp [below, h1]
      · rw [hD i (by omega)]; simp [below, h1]
    subst hDm
    have hms : m = ops.size := by
      have := cnt_below m ops.size hf.le; omega
    obtain ⟨hcH, hcL, hcN, hcG⟩ := canon (lv := lv) (outs := outs) (s0 := s0) pre hu hdst (hp.len hf.le) m (Nat.le_refl _)
    refine tail_any hf 0 m listed _ a w θ W (by omega) (Nat.le_refl _) hl hK (hR.congr (fun t => ?_) ?_) hk
    · rw [SD_get hu, get_H _ _ _ (sts pre outs (s0.H, ⟨s0.L, s0.T, []⟩) m).2.H]
      exact (hcG t).symm
    · show hcD outs s0.H (below m) m ++ slots m outs (below m) = (sts pre outs (s0.H, ⟨s0.L, s0.T, []⟩) m).1 ++ (sts pre outs (s0.H, ⟨s0.L, s0.T, []⟩) m).2.H
      rw [hcH, hcN]
      congr 1
      · exact hcD_congr (fun j hj _ => by simp [below, hj])
      · unfold slots
        apply List.map_congr_left
        intro i hi
        have : i < m := by simpa using (List.mem_filter.1 hi).1
        simp [below, this]
  | succ fuel ih =>
    intro D listed a w θ W hfu hD hc hl hR hk
    by_cases hall : ∀ i, i < m → D i = true
    · have hDm : D = below m := by
        funext i
        by_cases h1 : i < m
        · rw [hall i h1]; simp [below, h1]
        · rw [hD i (by omega)]; simp [below, h1]
      subst hDm
      have hcm := cnt_below m ops.size hf.le
      obtain ⟨hcH, hcL, hcN, hcG⟩ := canon (lv := lv) (outs := outs) (s0 := s0) pre hu hdst (hp.len hf.le) m (Nat.le_refl _)
      refine tail_any hf (fuel + 1) m listed _ a w θ W (by omega) (Nat.le_refl _) hl hK (hR.congr (fun t => ?_) ?_) hk
      · rw [SD_get hu, get_H _ _ _ (sts pre outs (s0.H, ⟨s0.L, s0.T, []⟩) m).2.H]
        exact (hcG t).symm
      · show hcD outs s0.H (below m) m ++ slots m outs (below m) = (sts pre outs (s0.H, ⟨s0.L, s0.T, []⟩) m).1 ++ (sts pre outs (s0.H, ⟨s0.L, s0.T, []⟩) m).2.H
        rw [hcH, hcN]
        congr 1
        · exact hcD_congr (fun j hj _ => by simp [below, hj])
        · unfold slots
          apply List.map_congr_left
          intro i hi
          have : i < m := by simpa using (List.mem_filter.1 hi).1
          simp [below, this]
    · have hex : ∃ i, i < m ∧ D i = false := by
        false_or_by_contra
        rename_i hne
        refine hall fun i hi => ?_
        cases e : D i with
        | true => rfl
        | false => exact (hne ⟨i, hi, e⟩).elim
      obtain ⟨i0, hi0, hD0, hmin⟩ := least D m hex
      have hi0s : i0 < ops.size := Nat.lt_of_lt_of_le hi0 hf.le
      have ho0 : ops[i0]? = some ops[i0] := by simp [hi0s]
      have hr0 : i0 ∈ Region.ready .any ops listed := (hl.ready hf.lt).2 ⟨hD0, _, ho0, fun e he => hmin e (hf.lt i0 _ ho0 e he)⟩
      refine ⟨fun hn => absurd (hn ▸ hr0) List.not_mem_nil, fun i hi => ?_⟩
      obtain ⟨hDi, o, ho, hw⟩ := (hl.ready hf.lt).1 hi
      have hin : i < ops.size := (Array.getElem?_eq_some_iff.1 ho).1
      have him : i < m := by
        rcases Nat.lt_or_ge i m with h1 | h1
        · exact h1
        · have := waitsT_closed hf.lt hc i i0 o ho hw (hf.tail i h1 hin i0 (by omega))
          rw [hD0] at this; cases this
      have key := draw_step (Q := Q) (next := wpAny P .any ops Q fuel (listed.setIfInBounds i true)) hf hHm hp hc him ho hDi hw hR (fun a' w' θ' W' hR' hs' =>
        ih (with1 D i) _ a' w' θ' W' (by rw [cnt_with D i hDi, if_pos hin]; omega) (fun k hk' => by simp only [with1, hD k hk', Bool.false_or, decide_eq_false_iff_not]; omega) (hc.with1 ho hw) (hl.set hin) hR'
          (fun st2 a2 w2 θ2 W2 h2 hR2 hs2 => hk st2 a2 w2 θ2 W2 h2 hR2 (hs'.trans hs2)))
      unfold wpOp
      rw [ho]
      simp only []
      split
      · rename_i hw; rw [if_pos hw] at key; exact .inl key
      · rename_i hw; rw [if_neg hw] at key; exact key

theorem SR.drawn {H : List AO} {w : World} (h : SR θ W H w) (k : Nat) : SR θ W H { w with drawn := k } := ⟨h.imm, h.obj, h.out, h.own, h.inj⟩

theorem drw_ok {Q : Exit → Act → World → Prop} (hm : P.follows .mixedOrders = true) (id : Nat) {a : Act} {w : World} {st : St}
    (hd : drwOk (closOf ops) ops m (chains lv P ops m) = true) (h : drwK (ACall P) ((ops.toList.take m).map fun o => unlen (cOper lv P N ops o)) (runOps (ACall P) ((ops.toList.drop m).map (cOper lv P N ops)) K) st)
    (hR : Rl lv N st a w θ W) (hk : ∀ st' a' w' θ' W', K st' → Rl lv N st' a' w' θ' W' → Stp θ W w θ' W' w' → Q .normal a' w') :
    (Code.region id ops true).wp P Q a w := by
  have hf := drwOk_facts hd
  obtain ⟨Hm, hHm, h⟩ := h
  obtain ⟨outs, hg, hK⟩ := trace _ (st.H, ⟨st.L, st.T, []⟩) h
  have hp : PreOk lv P N ops m outs Hm st ((ops.toList.take m).map fun o => unlen (cOper lv P N ops o)) := preOk_of rfl hg
  have hlen : ((ops.toList.take m).map fun o => unlen (cOper lv P N ops o)).length = m := by
    have := hf.le
    simp; omega
  rw [hlen] at hK
  apply wp_region_any hm
  have hSR := (hR.mem.reserve ((List.range m).filter (isNew outs)).length).drawn (w.drawn + 1)
  have hR' : Rl lv N (SD ops m outs st (fun _ => false)) a { w with drawn := w.drawn + 1 } θ W := by
    have h1 : Rl lv N ⟨st.L, st.T, st.H ++ List.replicate ((List.range m).filter (isNew outs)).length .rsv⟩ a { w with drawn := w.drawn + 1 } θ W := ⟨hR.defers, hR.size, hR.loc, hR.tmp, hSR⟩
    refine h1.congr (fun t => ?_) ?_
    · rw [SD_get hf.uniq, get_H _ _ _ st.H]
      unfold eD
      split <;> rfl
    · show _ = hcD outs st.H (fun _ => false) m ++ slots m outs (fun _ => false)
      have e0 : hcD outs st.H (fun _ => false) m = st.H := hcD_cut (i := 0) (Nat.zero_le _) (fun _ _ _ _ => rfl)
      rw [e0]
      congr 1
      unfold slots
      simp [List.map_const']
  refine pre_any hf hHm hp hK ops.size (fun _ => false) _ a _ θ W (by simp [cnt]) (fun _ _ => rfl) (fun j o hj => by cases hj) ⟨by simp, fun j hj => by simp [hj]⟩ hR' (fun st' a' w' θ' W' h1 h2 h3 => hk st' a' w' θ' W' h1 h2 ?_)
  exact ⟨h3.os, h3.tape, h3.output, h3.size, h3.keep, h3.imm, h3.old, h3.th, h3.fresh⟩

end Go.AM

/- The whole: what the evaluation of a body's small code says, the model's run of the body does; a call of a function from its small code. -/
set_option linter.all false
namespace Go.AM
variable {lv : List Nat} {P : Program} {N : Nat} {θ : Th} {W : Im}

theorem code_ok (hm : P.follows .mixedOrders = true) : ∀ (c : Code) (Qs : Ex → St → Prop) (st : St) (a : Act) (w : World) (θ : Th) (W : Im), wpm (ACall P) (compile lv P N c) Qs st → Rl lv N st a w θ W → c.wp P (Cq lv N Qs θ W w) a w := by
  intro c
  induction c with
  | skip => intro Qs st a w θ W h hR; exact wp_skip ⟨st, θ, W, hR, Stp.refl _ _ _, h⟩
  | region id ops draw =>
    intro Qs st a w θ W h hR
    have fin : ∀ st' a' w' θ' W', regK (Qs .nm) st' → Rl lv N st' a' w' θ' W' → Stp θ W w θ' W' w' → Cq lv N Qs θ W w .normal a' w' :=
      fun st' a' w' θ' W' h1 h2 h3 => ⟨_, θ', W', h2.clear, h3, h1⟩
    cases draw with
    | false => exact wp_region_list (ops_ok ops.toList st a w θ W h hR fin)
    | true =>
      have h' : wpm (ACall P) (if drwOk (closOf ops) ops (tailAt (closOf ops) ops.size) (chains lv P ops (tailAt (closOf ops) ops.size)) then MC.drw ((ops.toList.take (tailAt (closOf ops) ops.size)).map fun o => unlen (cOper lv P N ops o)) ((ops.toList.drop (tailAt (closOf ops) ops.size)).map (cOper lv P N ops)) else .stop) Qs st := h
      split at h'
      · rename_i hd; exact drw_ok hm id hd h' hR fin
      · exact h'.elim
  | seq x y ihx ihy =>
    intro Qs st a w θ W h hR
    refine wp_seq (wp_mono (ihx _ st a w θ W h hR) fun e a' w' he => ?_)
    cases e with
    | normal =>
      obtain ⟨st', θ', W', h1, h2, h3⟩ := he
      exact wp_mono (ihy Qs st' a' w' θ' W' h3 h1) fun e a2 w2 h4 => h4.trans h2
    | exit id => exact he
    | ret => exact he
    | goto l => exact he
    | panic c => exact he
    | outgrown => exact he
  | cond c x y ihx ihy =>
    intro Qs st a w θ W h hR
    unfold compile at h
    split at h
    · rename_i m hx
      have h1 := hR.arg hx
      obtain ⟨b, hb, h2, h3⟩ := condK_inv h
      rw [hb] at h1
      exact wp_cond_split h1.b_inv (fun e => ihx Qs st a w θ W (h2 e) hR) (fun e => ihy Qs st a w θ W (h3 e) hR)
    · exact h.elim
  | block id x ih =>
    intro Qs st a w θ W h hR
    refine wp_block (wp_mono (ih _ st a w θ W h hR) fun e a' w' he => ?_)
    cases e with
    | normal => exact he
    | exit i =>
      obtain ⟨st', θ', W', h1, h2, h3⟩ := he
      have h3' : if i = id then Qs .nm st' else Qs (.ex i) st' := h3
      show if i = id then _ else _
      split
      · rename_i e; rw [if_pos e] at h3'; exact ⟨st', θ', W', h1, h2, h3'⟩
      · rename_i e; rw [if_neg e] at h3'; exact ⟨st', θ', W', h1, h2, h3'⟩
    | ret => exact he
    | goto l => exact he
    | panic c => exact he
    | outgrown => exact he
  | loop x ih =>
    intro Qs st a w θ W h hR
    obtain ⟨α, kl, I, μ, ⟨x0, h0⟩, hround⟩ := h
    refine wp_loop_ghost (fun z a' w' => ∃ st' θ' W', I z st' ∧ Rl lv N st' a' w' θ' W' ∧ Stp θ W w θ' W' w') μ x0 ⟨_, θ, W, h0, hR.keep kl, Stp.refl _ _ _⟩ ?_
    rintro z a1 w1 ⟨st1, θ1, W1, hI, hR1, hs1⟩
    refine wp_mono (ih _ st1 a1 w1 θ1 W1 (hround z st1 hI) hR1) fun e a' w' he => ?_
    cases e with
    | normal =>
      obtain ⟨st', θ', W', h1, h2, y, h3, h4⟩ := he
      exact ⟨y, ⟨_, θ', W', h3, h1.keep kl, hs1.trans h2⟩, h4⟩
    | exit id => exact Cq.trans (e := .exit id) hs1 he
    | ret => exact Cq.trans (e := .ret) hs1 he
    | goto l => exact he
    | panic c => exact he
    | outgrown => exact he
  | exit id => intro Qs st a w θ W h hR; exact wp_exit ⟨st, θ, W, hR, Stp.refl _ _ _, h⟩
  | ret => intro Qs st a w θ W h hR; exact wp_ret ⟨st, θ, W, hR, Stp.refl _ _ _, h⟩
  | rangeFunc f ps x y _ _ => intro Qs st a w θ W h hR; exact h.elim
  | scope x _ => intro Qs st a w θ W h hR; exact h.elim
  | label l => intro Qs st a w θ W h hR; exact h.elim
  | goto l => intro Qs st a w θ W h hR; exact h.elim
  | refuse s => intro Qs st a w θ W h hR; exact h.elim

/-! results -/
def resF (tmps : Array Value) : ResultVar → Sem Value
  | .tmp t => pure (tmps.getD t undef)
  | .cell a t => do loadVar t (← asAddr (tmps.getD a undef))

theorem res_ok {st : St} {a : Act} {w : World} (hR : Rl lv N st a w θ W) {r : ResultVar} {m : MR} (hr : cRes lv P r = some m) {x : AV} (hx : resV st m = some x) :
    ∃ v, (resF a.tmps r).run P w = .ok v w ∧ ARel θ W x v := by
  cases r with
  | tmp t =>
    simp only [cRes] at hr
    split at hr
    · rename_i hl; cases hr; cases hx
      exact ⟨_, rfl, hR.loc t hl⟩
    · cases hr
  | cell ad t =>
    simp only [cRes] at hr
    split at hr
    · rename_i hl
      split at hr
      · rename_i g n hg hn
        cases hr
        simp only [resV] at hx
        split at hx
        · rename_i id off e
          cases hc : ldAt st.H (.ptr id off) with
          | none => rw [hc] at hx; cases hx
          | some cs =>
            rw [hc] at hx
            have hv := hR.loc ad hl
            rw [e] at hv
            obtain ⟨q, hq, hrd⟩ := ldAt_reads hR.mem hv hc
            obtain ⟨v, h1, h2, _⟩ := hrd.load hg hn hx
            refine ⟨v, ?_, h2⟩
            simp only [resF, hq, asAddr, pure_bind]
            exact h1
        · cases hx
      · cases hr
    · cases hr

theorem ress_ok {st : St} {a : Act} {w : World} (hR : Rl lv N st a w θ W) : ∀ {rs : List ResultVar} {ms : List MR} (hr : cRess lv P rs = some ms) {xs : List AV} (hx : resVs st ms = some xs),
    ∃ vs : List Value, (rs.mapM (resF a.tmps)).run P w = .ok vs w ∧ Rels θ W xs vs.toArray ∧ vs.length = xs.length ∧ ms.length = xs.length
  | [], ms, hr, xs, hx => by
    cases hr; cases hx
    exact ⟨[], rfl, ⟨rfl, fun j a v hj => by simp at hj⟩, rfl, rfl⟩
  | r :: rs, ms, hr, xs, hx => by
    simp only [cRess] at hr
    split at hr
    · rename_i m l h1 h2
      cases hr
      simp only [resVs] at hx
      split at hx
      · rename_i v vs h3 h4
        cases hx
        obtain ⟨u, q1, q2⟩ := res_ok hR h1 h3
        obtain ⟨us, q3, q4, q5, q6⟩ := ress_ok hR h2 h4
        refine ⟨u :: us, ?_, ⟨by simp [q5], ?_⟩, by simp [q5], by simp [q6]⟩
        · simp only [List.mapM_cons, Sem.run_bind, q1, Result.andThen_ok, q3]
          rfl
        · intro j a v hj hu
          cases j with
          | zero => simp at hj hu; subst hj; subst hu; exact q2
          | succ j => simp at hj hu; exact q4.2 j a v hj (by simpa using hu)
      · cases hx
    · cases hr

theorem results_ok {st : St} {a : Act} {w : World} (hR : Rl lv N st a w θ W) {fn : Func} {ms : List MR} (hr : cRess lv P fn.results.toList = some ms) {x : AV} (hx : retV st ms = some x) :
    ∃ v, (results fn a.tmps).run P w = .ok v w ∧ ARel θ W x v := by
  have hform : (results fn a.tmps) = (do
      let vs ← List.toArray <$> fn.results.toList.mapM (resF a.tmps)
      pure (if h : vs.size = 1 then vs[0] else .tuple vs)) := by
    unfold results
    rw [← Array.mapM_eq_mapM_toList]
    rfl
  have key : ∀ xs, resVs st ms = some xs → ∃ vs : List Value, (results fn a.tmps).run P w = .ok (if h : vs.toArray.size = 1 then vs.toArray[0] else .tuple vs.toArray) w ∧ Rels θ W xs vs.toArray ∧ vs.length = xs.length ∧ ms.length = xs.length := by
    intro xs hxs
    obtain ⟨vs, h1, h2, h3, h4⟩ := ress_ok hR hr hxs
    refine ⟨vs, ?_, h2, h3, h4⟩
    rw [hform]
    simp only [map_eq_pure_bind, Sem.run_bind, h1, Result.andThen_ok, Sem.run_pure]
  unfold retV at hx
  split at hx
  · rename_i r
    have hxs : resVs st [r] = some [x] := by simp [resVs, hx]
    obtain ⟨vs, h1, h2, h3, h4⟩ := key _ hxs
    match vs, h3, h1, h2 with
    | [v], _, h1, h2 => exact ⟨v, h1, h2.2 0 x v rfl rfl⟩
  · rename_i hne
    obtain ⟨xs, hxs, rfl⟩ := map_some_inv hx
    obtain ⟨vs, h1, h2, h3, h4⟩ := key _ hxs
    have hn1 : ¬ vs.toArray.size = 1 := by
      intro e
      have : ms.length = 1 := by simp at e; omega
      obtain ⟨r, e⟩ := List.length_eq_one_iff.1 this
      exact hne r e
    rw [dif_neg hn1] at h1
    exact ⟨_, h1, .tup _ _ (by simp [h3]) h2.2⟩

/-! calls -/
theorem eget_argEnv : ∀ (args : List AV) (i t : Nat), eget (argEnv i args) t = if i ≤ t then (args[t - i]?).getD .any else .any
  | [], i, t => by simp [argEnv, eget]
  | a :: as, i, t => by
    rw [argEnv, eget, eget_argEnv as (i + 1) t]
    by_cases h : i = t
    · subst h; simp
    · by_cases h1 : i ≤ t
      · rw [if_neg h, if_pos h1, if_pos (by omega)]
        rw [show t - i = (t - (i + 1)) + 1 by omega, List.getElem?_cons_succ]
      · rw [if_neg h, if_neg h1, if_neg (by omega)]

theorem acall_of (hm : P.follows .mixedOrders = true) {f : Nat} {fn : Func} {c : Code} (hf : P.funcs[f]? = some fn) (hb : fn.body = some c) (hng : (fn.name == "runtime.NumGoroutine") = false)
    {ms : List MR} (hr : cRess lv P fn.results.toList = some ms) {args : List AV} {H : List AO} {Q : AV → List AO → Prop} (hla : args.length ≤ fn.ntmps)
    (h : wpm (ACall P) (compile lv P fn.ntmps c) (finK ms Q) ⟨argEnv 0 args, [], H⟩) : ACall P f args H Q := by
  refine ⟨⟨fn, hf, by simp [hb], hng⟩, fun w θ W vs hSR hrel => ?_⟩
  refine calls_of_wp hf hb ?_
  have hsz : vs.size = args.length := hrel.1
  have hget : ∀ t, ARel θ W (eget (argEnv 0 args) t) ((vs ++ Array.replicate (fn.ntmps - vs.size) undef).getD t undef) := by
    intro t
    rw [eget_argEnv]
    simp only [Nat.zero_le, if_true, Nat.sub_zero]
    cases ht : args[t]? with
    | none => exact .any _
    | some x =>
      have hlt : t < vs.size := by rw [hsz]; exact (List.getElem?_eq_some_iff.1 ht).1
      have hv : vs[t]? = some vs[t] := by simp [hlt]
      have := hrel.2 t x _ ht hv
      simp only [Option.getD_some, Array.getD_eq_getD_getElem?, Array.getElem?_append_left hlt, hv]
      exact this
  have hR : Rl lv fn.ntmps ⟨argEnv 0 args, [], H⟩ { tmps := vs ++ Array.replicate (fn.ntmps - vs.size) undef, defers := [] } w θ W :=
    ⟨rfl, by simp; omega, fun t _ => hget t, fun t _ => .any _, hSR⟩
  refine wp_mono (code_ok hm c (finK ms Q) _ _ w θ W h hR) fun e a' w' he => ?_
  have fin : ∀ st' θ' W', Rl lv fn.ntmps st' a' w' θ' W' → Stp θ W w θ' W' w' → retK ms Q st' →
      a'.defers = [] ∧ ∃ v, (results fn a'.tmps).run P w' = .ok v w' ∧ ∃ v1 r H' θ' W', Ending.returned v = .returned v1 ∧ Q r H' ∧ SR θ' W' H' w' ∧ ARel θ' W' r v1 ∧ Stp θ W w θ' W' w' := by
    intro st' θ' W' h1 h2 h3
    unfold retK at h3
    split at h3
    · rename_i x hx
      obtain ⟨v, q1, q2⟩ := results_ok h1 hr hx
      exact ⟨h1.defers, v, q1, v, x, _, θ', W', rfl, h3, h1.mem, q2, h2⟩
    · exact h3.elim
  cases e with
  | normal => obtain ⟨st', θ', W', h1, h2, h3⟩ := he; exact fin st' θ' W' h1 h2 h3
  | ret => obtain ⟨st', θ', W', h1, h2, h3⟩ := he; exact fin st' θ' W' h1 h2 h3
  | exit id => obtain ⟨st', θ', W', h1, h2, h3⟩ := he; exact h3.elim
  | goto l => exact he.elim
  | panic c => exact he.elim
  | outgrown => exact he.elim

/-- the same, from the ties that were printed -/
theorem acall_mc (hm : P.follows .mixedOrders = true) {f : Nat} {fn : Func} {lv : List Nat} {N : Nat} {mc : MC} {ms : List MR} (hf : P.funcs[f]? = some fn) (hmc : fn.body.map (compile lv P N) = some mc) (hN : fn.ntmps = N)
    (hng : (fn.name == "runtime.NumGoroutine") = false) (hr : cRess lv P fn.results.toList = some ms) {args : List AV} {H : List AO} {Q : AV → List AO → Prop} (hla : args.length ≤ N)
    (h : wpm (ACall P) mc (finK ms Q) ⟨argEnv 0 args, [], H⟩) : ACall P f args H Q := by
  subst hN
  cases hb : fn.body with
  | none => rw [hb] at hmc; cases hmc
  | some c =>
    rw [hb] at hmc
    cases hmc
    exact acall_of hm hf hb hng hr hla h

end Go.AM

/- What is lent to a function that only reads it, and the frames of calls. -/
set_option linter.all false
namespace Go.AM
variable {P : Program} {θ : Th} {W : Im}

/-- a value that speaks of no memory -/
def Grnd (a : AV) : Prop := ∀ θ W θ' W' v, ARel θ W a v → ARel θ' W' a v
/-- a value that speaks of no owned memory -/
def Noid (a : AV) : Prop := ∀ θ W θ' v, ARel θ W a v → ARel θ' W a v

theorem Grnd.noid {a : AV} (h : Grnd a) : Noid a := fun θ W θ' v hv => h θ W θ' W v hv

theorem grnd_b (x : Bool) : Grnd (.p (.b x)) := fun _ _ _ _ _ h => by cases h.p_inv; exact .p _ _ (.b _)
theorem grnd_i (k : IntKind) (n : Int) : Grnd (.p (.i k n)) := fun _ _ _ _ _ h => by cases h.p_inv; exact .p _ _ (.i _ _)
theorem grnd_s (x : List UInt8) : Grnd (.p (.s x)) := fun _ _ _ _ _ h => by obtain ⟨rfl, hx⟩ := h.s_inv; exact .p _ _ (.s _ hx)
theorem grnd_nl : Grnd (.p .nl) := fun _ _ _ _ _ h => by cases h.p_inv; exact .p _ _ .nl
theorem grnd_any : Grnd .any := fun _ _ _ _ v _ => .any v
theorem grnd_tup (l : List AV) (h : ∀ a ∈ l, Grnd a) : Grnd (.tup l) := fun _ _ _ _ _ hv => by
  cases hv with
  | tup _ us hs hc => exact .tup _ us hs fun j c v hj hu => h c (List.mem_of_getElem? hj) _ _ _ _ _ (hc j c v hj hu)
theorem grnd_st (l : List AV) (h : ∀ a ∈ l, Grnd a) : Grnd (.st l) := fun _ _ _ _ _ hv => by
  cases hv with
  | st _ us hs hc h1 => exact .st _ us hs (fun j c v hj hu => h c (List.mem_of_getElem? hj) _ _ _ _ _ (hc j c v hj hu)) h1
theorem grnd_l0 : Grnd (.p (.l [])) := fun _ _ _ _ _ h => by
  cases h.p_inv with
  | l _ a cap sz f h1 h2 h3 h4 h5 h6 h7 => exact .p _ _ (.l [] a cap sz f h1 h2 h3 h4 (fun r hr => by cases hr) (fun i r j q hi => by simp at hi) (fun i r j q hi => by simp at hi))

theorem noid_p (x : PV) : Noid (.p x) := fun _ _ _ _ h => .p _ _ h.p_inv
theorem noid_st (l : List AV) (h : ∀ a ∈ l, Noid a) : Noid (.st l) := fun _ _ _ _ hv => by
  cases hv with
  | st _ us hs hc h1 => exact .st _ us hs (fun j c v hj hu => h c (List.mem_of_getElem? hj) _ _ _ _ (hc j c v hj hu)) h1

/-- what is owned, as what is never written again -/
inductive Lent (H : List AO) : AV → AV → Prop
  | same (a : AV) (h : Grnd a) : Lent H a a
  | pure (p : PV) : Lent H (.p p) (.p p)
  | nl : Lent H (.p .nl) (.p (.l []))
  | gs (id ver off n sz : Nat) (rs : List (List AV)) (ys : List (List PV)) (hid : H[id]? = some (.rows sz ver rs)) (hlen : off + n ≤ rs.length) (hys : ys.length = n) (hsz : ∀ y ∈ ys, y.length = sz)
      (hc : ∀ (i : Nat) r y (j : Nat) c q, rs[off + i]? = some r → ys[i]? = some y → r[j]? = some c → y[j]? = some q → Lent H c (.p q)) : Lent H (.gs id ver off n) (.p (.l ys))
  | st (as bs : List AV) (hlen : as.length = bs.length) (hc : ∀ (j : Nat) a b, as[j]? = some a → bs[j]? = some b → Lent H a b) : Lent H (.st as) (.st bs)
  | tup (as bs : List AV) (hlen : as.length = bs.length) (hc : ∀ (j : Nat) a b, as[j]? = some a → bs[j]? = some b → Lent H a b) : Lent H (.tup as) (.tup bs)

theorem Lent.ext {H H' : List AO} (he : Hext H H') {a b : AV} (h : Lent H a b) : Lent H' a b := by
  induction h with
  | same a h => exact .same a h
  | pure p => exact .pure p
  | nl => exact .nl
  | gs id ver off n sz rs ys hid hlen hys hsz hc ih => exact .gs id ver off n sz rs ys (he _ _ hid (fun e => by cases e)) hlen hys hsz ih
  | st as bs hlen hc ih => exact .st as bs hlen ih
  | tup as bs hlen hc ih => exact .tup as bs hlen ih

open Classical in
noncomputable def frz (θ : Th) (W : Im) (w : World) : Im := fun b o => if Owned θ b then w.cell? ⟨b, o, none⟩ else W b o

def noTh : Th := fun _ _ => .no

theorem not_owned (b : Nat) : ¬ Owned noTh b := by rintro ⟨id, ver, sz, tot, h⟩; cases h

theorem SR.frz {H : List AO} {w : World} (h : SR θ W H w) : SR noTh (frz θ W w) [] w := by
  refine ⟨fun b o v hv => ?_, fun id o hid => by simp at hid, fun _ _ _ => rfl, fun b hb => (not_owned b hb).elim, fun b id ver sz tot id' ver' sz' tot' h1 => by cases h1⟩
  unfold AM.frz at hv
  split at hv
  · exact hv
  · exact h.imm b o v hv

theorem SR.frz_ext {H : List AO} {w : World} (h : SR θ W H w) : ∀ b o v, W b o = some v → AM.frz θ W w b o = some v := by
  intro b o v hv
  unfold AM.frz
  split
  · rename_i ho; rw [h.own b ho o] at hv; cases hv
  · exact hv

theorem lent_rel {H : List AO} {w : World} (h : SR θ W H w) {a b : AV} (hl : Lent H a b) : ∀ {v : Value}, ARel θ W a v → ARel noTh (frz θ W w) b v := by
  induction hl with
  | same a hg => exact fun hv => hg _ _ _ _ _ hv
  | pure p => exact fun hv => .p _ _ (hv.p_inv.mono h.frz_ext)
  | nl =>
    intro v hv
    cases hv.p_inv
    exact .p _ _ (.l [] none 0 0 (fun _ _ => undef) (Nat.le_refl _) (Nat.zero_le _) (fun _ => rfl) (fun _ x hx => by cases hx) (fun r hr => by cases hr) (fun i r j q hi => by simp at hi) (fun i r j q hi => by simp at hi))
  | st as bs hlen hc ih =>
    intro v hv
    cases hv with
    | st _ us hs hc' h1 =>
      refine .st bs us (by omega) (fun j c u hj hu => ?_) h1
      have hlt : j < as.length := by rw [hlen]; exact (List.getElem?_eq_some_iff.1 hj).1
      exact ih j as[j] c (by simp [hlt]) hj (hc' j as[j] u (by simp [hlt]) hu)
  | tup as bs hlen hc ih =>
    intro v hv
    cases hv with
    | tup _ us hs hc' =>
      refine .tup bs us (by omega) (fun j c u hj hu => ?_)
      have hlt : j < as.length := by rw [hlen]; exact (List.getElem?_eq_some_iff.1 hj).1
      exact ih j as[j] c (by simp [hlt]) hj (hc' j as[j] u (by simp [hlt]) hu)
  | gs id ver off n sz rs ys hid hlen hys hsz hc ih =>
    intro v hv
    obtain ⟨h1, _, _⟩ := h.obj id _ hid
    have alive : ∀ {q : Pl}, θ id ver = q → q = .nil ∧ rs = [] ∨ ∃ b tot ty vs, q = .at b sz tot ∧ w.heap[b]? = some (.cells vs ty (0, 0)) ∧ vs.size = tot * sz ∧ rs.length ≤ tot ∧ (∀ r ∈ rs, r.length = sz) ∧
        (∀ (i : Nat) (r : List AV) (j : Nat) (c : AV) (v : Value), rs[i]? = some r → r[j]? = some c → vs[i * sz + j]? = some v → ARel θ W c v) := by
      intro q hq
      rcases h1 with ⟨h1, h2⟩ | ⟨b, tot, ty, vs, h1, h2, h3, h4, h5, h6, _⟩
      · exact .inl ⟨hq.symm.trans h1, h2⟩
      · exact .inr ⟨b, tot, ty, vs, hq.symm.trans h1, h2, h3, h4, h5, h6⟩
    cases hv with
    | gsDead _ _ _ _ a cap hd hn hm => rcases alive hd with ⟨e, _⟩ | ⟨b, tot, ty, vs, e, _⟩ <;> cases e
    | gsNil _ _ hd =>
      have : ys = [] := List.length_eq_zero_iff.1 hys
      subst this
      exact .p _ _ (.l [] none 0 0 (fun _ _ => undef) (Nat.le_refl _) (Nat.zero_le _) (fun _ => rfl) (fun _ x hx => by cases hx) (fun r hr => by cases hr) (fun i r j q hi => by simp at hi) (fun i r j q hi => by simp at hi))
    | gs _ _ _ _ b sz' tot o cap hd hn hm hcap ho h0 =>
      rcases alive hd with ⟨e, _⟩ | ⟨b', tot', ty, vs, e, h2, h3, h4, h5, h6⟩
      · cases e
      · cases e
        have cell : ∀ (i : Nat) (y : List PV) (j : Nat) (q : PV), ys[i]? = some y → y[j]? = some q → ∃ r c, rs[off + i]? = some r ∧ r[j]? = some c ∧ vs[(off + i) * sz + j]? = some (vs.getD ((off + i) * sz + j) undef) ∧ off < tot := by
          intro i y j q hi hj
          have hil : i < ys.length := (List.getElem?_eq_some_iff.1 hi).1
          have hyl := hsz y (List.mem_of_getElem? hi)
          have hjl : j < y.length := (List.getElem?_eq_some_iff.1 hj).1
          have hrl : off + i < rs.length := by omega
          have hrsz := h5 rs[off + i] (List.getElem_mem hrl)
          have hk : (off + i) * sz + j < vs.size := by
            have h8 : (off + i + 1) * sz ≤ tot * sz := Nat.mul_le_mul_right _ (by omega)
            rw [Nat.add_mul] at h8
            omega
          have hjr : j < rs[off + i].length := by omega
          have e3 : vs[(off + i) * sz + j]? = some (vs.getD ((off + i) * sz + j) undef) := by
            rw [Array.getD_eq_getD_getElem?, Array.getElem?_eq_getElem hk]; rfl
          exact ⟨rs[off + i], rs[off + i][j], List.getElem?_eq_getElem hrl, List.getElem?_eq_getElem hjr, e3, by omega⟩
        have hl2 : PRel (AM.frz θ W w) (.l ys) (.slice (some ⟨b, o, none⟩) ys.length cap) := by
          refine .l ys (some ⟨b, o, none⟩) cap sz (fun i j => vs.getD ((off + i) * sz + j) undef) (by omega) (by omega) (fun e => by cases e) (fun _ x hx => by cases hx; rfl) hsz ?_ ?_
          · intro i y j q hi hj x hx
            cases hx
            obtain ⟨r, c, q1, q2, q3, q4⟩ := cell i y j q hi hj
            have hown : Owned θ b := ⟨_, _, _, _, hd⟩
            have hidx : o + (i * sz + j) = (off + i) * sz + j := by rw [ho q4, Nat.add_mul]; omega
            show AM.frz θ W w b (o + (i * sz + j)) = _
            unfold AM.frz
            rw [if_pos hown, hidx]
            simp only [World.cell?, h2]
            exact q3
          · intro i y j q hi hj
            obtain ⟨r, c, q1, q2, q3, q4⟩ := cell i y j q hi hj
            exact (ih i r y j c q q1 hi q2 hj (h6 _ r j c _ q1 q2 q3)).p_inv
        rw [hys] at hl2
        exact .p _ _ hl2

def LentAll (H : List AO) (as bs : List AV) : Prop := as.length = bs.length ∧ ∀ (j : Nat) a b, as[j]? = some a → bs[j]? = some b → Lent H a b
theorem lentAll_nil (H : List AO) : LentAll H [] [] := ⟨rfl, fun j a b h => by simp at h⟩
theorem lentAll_cons {H : List AO} {a b : AV} {as bs : List AV} (h : Lent H a b) (hs : LentAll H as bs) : LentAll H (a :: as) (b :: bs) :=
  ⟨by simp [hs.1], fun j x y hx hy => by
    cases j with
    | zero => simp at hx hy; subst hx; subst hy; exact h
    | succ j => exact hs.2 j x y (by simpa using hx) (by simpa using hy)⟩

theorem Stp.old_heap {w w' : World} {θ' : Th} {W W' : Im} (h : Stp noTh W w θ' W' w') : ∀ b, b < w.heap.size → w'.heap[b]? = w.heap[b]? := fun b hb => h.keep b hb (not_owned b)

/-- A CALL THAT ONLY READS: whatever of the caller's own it is lent, whatever else is there. -/
theorem acall_lend {f : Nat} {as bs : List AV} {H : List AO} {Q : AV → List AO → Prop} (h : ACall P f bs [] Q) (hg : ∀ r H', Q r H' → Grnd r) (hl : LentAll H as bs) :
    ACall P f as H (fun r H' => H' = H ∧ ∃ H0, Q r H0) := by
  refine ⟨h.1, fun w θ W vs hSR hrel => ?_⟩
  have hrel' : Rels noTh (frz θ W w) bs vs := by
    refine ⟨hrel.1.trans hl.1, fun j b v hb hv => ?_⟩
    have hlt : j < as.length := by rw [hl.1]; exact (List.getElem?_eq_some_iff.1 hb).1
    exact lent_rel hSR (hl.2 j as[j] b (by simp [hlt]) hb) (hrel.2 j as[j] v (by simp [hlt]) hv)
  refine (h.2 w noTh (frz θ W w) vs hSR.frz hrel').mono ?_
  rintro e w' ⟨v, r, H', θ', W', rfl, hq, hSR', hA, hS⟩
  have hold := hS.old_heap
  refine ⟨v, r, H, θ, W, rfl, ⟨rfl, H', hq⟩, ⟨fun b o u hu => ?_, fun id ob hid => ?_, hSR.out, hSR.own, hSR.inj⟩, hg r H' hq _ _ _ _ _ hA, ⟨hS.os, hS.tape, hS.output, hS.size, fun b hb _ => hold b hb, fun _ _ _ h => h, fun _ _ _ _ => rfl, fun _ _ _ => .inl rfl, fun _ h => .inl h⟩⟩
  · have hc := hSR.imm b o u hu
    have := hold b (cell_old hc)
    simp only [World.cell?] at hc ⊢
    rw [this]; exact hc
  · exact (hSR.obj id ob hid).mono (fun _ => rfl) (fun ver b sz tot ho => hold b (hSR.ownedLt ho)) (fun _ _ h => h)

/-- A CALL WHOSE RESULT IS NEVER WRITTEN AGAIN. -/
theorem acall_fresh {f : Nat} {bs : List AV} {H : List AO} {Q : AV → List AO → Prop} {R : AV → Prop} (h : ACall P f bs [] Q) (hn : ∀ b ∈ bs, Noid b) (hq : ∀ r H', Q r H' → ∃ x, Lent H' r x ∧ R x) :
    ACall P f bs H (fun r H' => H' = H ∧ R r) := by
  refine ⟨h.1, fun w θ W vs hSR hrel => ?_⟩
  have hrel' : Rels noTh W bs vs := ⟨hrel.1, fun j b v hb hv => hn b (List.mem_of_getElem? hb) _ _ _ _ (hrel.2 j b v hb hv)⟩
  have hSR0 : SR noTh W [] w := ⟨hSR.imm, fun id o hid => by simp at hid, fun _ _ _ => rfl, fun b hb => (not_owned b hb).elim, fun b id ver sz tot id' ver' sz' tot' h1 => by cases h1⟩
  refine (h.2 w noTh W vs hSR0 hrel').mono ?_
  rintro e w' ⟨v, r, H', θ', W', rfl, hqr, hSR', hA, hS⟩
  obtain ⟨x, hx, hR⟩ := hq r H' hqr
  have hold := hS.old_heap
  have hfresh : ∀ b, b < w.heap.size → ¬ Owned θ' b := fun b hb ho => (hS.fresh b ho).elim (not_owned b) (fun h => by omega)
  have hWold : ∀ b, b < w.heap.size → ∀ o, frz θ' W' w' b o = W b o := by
    intro b hb o
    unfold frz
    rw [if_neg (hfresh b hb)]
    exact hS.old b hb (not_owned b) o
  have hext : ∀ b o v, W b o = some v → frz θ' W' w' b o = some v := fun b o v hv => by rw [hWold b (hSR.lt hv) o]; exact hv
  have hA' := (lent_rel hSR' hx hA)
  have hAx : ARel θ (frz θ' W' w') x v := hA'.mono (fun _ _ _ h => h) (fun id ver h => (h rfl).elim)
  refine ⟨v, x, H, θ, frz θ' W' w', rfl, ⟨rfl, hR⟩, ⟨fun b o u hu => hSR'.frz.imm b o u hu, fun id ob hid => ?_, hSR.out, fun b hb o => ?_, hSR.inj⟩, hAx,
    ⟨hS.os, hS.tape, hS.output, hS.size, fun b hb _ => hold b hb, hext, fun b hb _ o => hWold b hb o, fun _ _ _ => .inl rfl, fun _ h => .inl h⟩⟩
  · exact (hSR.obj id ob hid).mono (fun _ => rfl) (fun ver b sz tot ho => hold b (hSR.ownedLt ho)) (fun x u hx => hx.mono hext (fun _ _ _ => .inl rfl))
  · obtain ⟨id, ver, sz, tot, ho⟩ := hb
    rw [hWold b (hSR.ownedLt ho) o]
    exact hSR.own b ⟨id, ver, sz, tot, ho⟩ o

end Go.AM

/- From the readings of arguments to values of the abstract machine, and from a call that answers true to a law's post. -/
set_option linter.all false
namespace Go.AM
open Go.ChangeShapes Go.WideShapes Go.RowKit
variable {P : Program}

/-- all that is there when a call begins, as what is never written again -/
def memIm (w : World) : Im := fun b o => w.cell? ⟨b, o, none⟩

theorem SR.entry (w : World) : SR noTh (memIm w) [] w :=
  ⟨fun b o v h => h, fun id o hid => by simp at hid, fun _ _ _ => rfl, fun b hb => (not_owned b hb).elim, fun b id ver sz tot id' ver' sz' tot' h1 => by cases h1⟩

def PRels (W : Im) (xs : List PV) (cs : List Value) : Prop := xs.length = cs.length ∧ ∀ (j : Nat) q v, xs[j]? = some q → cs[j]? = some v → PRel W q v

theorem PRels.one {W : Im} {q : PV} {v : Value} (h : PRel W q v) : PRels W [q] [v] := ⟨rfl, fun j q' v' hq hv => by
  cases j with
  | zero => simp at hq hv; subst hq; subst hv; exact h
  | succ j => simp at hq⟩

theorem PRels.append {W : Im} {xs ys : List PV} {cs ds : List Value} (h : PRels W xs cs) (k : PRels W ys ds) : PRels W (xs ++ ys) (cs ++ ds) := by
  refine ⟨by simp [h.1, k.1], fun j q v hq hv => ?_⟩
  rcases Nat.lt_or_ge j xs.length with hlt | hge
  · rw [List.getElem?_append_left hlt] at hq
    rw [List.getElem?_append_left (by rw [← h.1]; exact hlt)] at hv
    exact h.2 j q v hq hv
  · rw [List.getElem?_append_right hge] at hq
    rw [List.getElem?_append_right (by rw [← h.1]; exact hge), ← h.1] at hv
    exact k.2 _ q v hq hv

theorem PRels.cons_inv {W : Im} {q : PV} {cs : List Value} (h : PRels W [q] cs) : ∃ v, cs = [v] ∧ PRel W q v := by
  match cs, h.1 with
  | [v], _ => exact ⟨v, rfl, h.2 0 q v rfl rfl⟩

/-- a measure of readings: no string and no slice is longer, no part is greater -/
structure BkOk (bk : (H : Type) → DataW H → Nat) : Prop where
  str : ∀ (H : Type) (l : List UInt8), l.length ≤ bk H (.lit (.string l))
  len : ∀ (H : Type) (es sp : List (DataW H)), es.length ≤ bk H (.slice es sp)
  elem : ∀ (H : Type) (es sp : List (DataW H)), ∀ d ∈ es, bk H d ≤ bk H (.slice es sp)
  part : ∀ (H : Type) (ps : List (DataW H)), ∀ d ∈ ps, bk H d ≤ bk H (.agg ps)

variable {bk : (H : Type) → DataW H → Nat} {B : Nat}

/-- WHAT A TYPE's READINGS ARE: 'a' with 'p a', whose cells are 'f a'. -/
def Dec (P : Program) (bk : (H : Type) → DataW H → Nat) (B : Nat) (n : Nat) (t : TypeId) {α : Type} (f : α → List PV) (p : α → Prop) : Prop :=
  ∀ (H : Type) (enc : TypeId × Value → H) (w : World) (sp : Nat → Bool) (cs : List Value) (x : DataW H × List MemPlace), DataW.trod enc P w 0 sp true n t cs = some x → bk H x.1 ≤ B → ∃ a, p a ∧ PRels (memIm w) (f a) cs

theorem dec_zero {t : TypeId} {α : Type} {f : α → List PV} {p : α → Prop} : Dec P bk B 0 t f p := fun H enc w sp cs x h _ => by simp [DataW.trod] at h

theorem Dec.map {n : Nat} {t : TypeId} {α β : Type} {f : α → List PV} {p : α → Prop} {f' : β → List PV} {p' : β → Prop} (h : Dec P bk B n t f p) (g : α → β) (hf : ∀ a, p a → f' (g a) = f a) (hp : ∀ a, p a → p' (g a)) : Dec P bk B n t f' p' :=
  fun H enc w sp cs x hx hb => by
    obtain ⟨a, h1, h2⟩ := h H enc w sp cs x hx hb
    exact ⟨g a, hp a h1, by rw [hf a h1]; exact h2⟩

theorem dec_int {t : TypeId} {k : IntKind} (n : Nat) (ht : P.underlying t = some (.int k)) : Dec P bk B n t (fun z : Int => [.i k z]) (fun z => (Lit.int k z).wf = true) := fun H enc w sp cs x h _ => by
  obtain ⟨z, rfl, _, hw⟩ := DataW.trod_int ht h
  exact ⟨z, hw, PRels.one (.i k z)⟩

theorem dec_bool {t : TypeId} (n : Nat) (ht : P.underlying t = some .bool) : Dec P bk B n t (fun b : Bool => [.b b]) (fun _ => True) := fun H enc w sp cs x h _ => by
  obtain ⟨b, rfl, _⟩ := DataW.trod_bool ht h
  exact ⟨b, trivial, PRels.one (.b b)⟩

theorem dec_string {t : TypeId} (n : Nat) (hbk : BkOk bk) (hB : B ≤ maxL) (ht : P.underlying t = some .string) : Dec P bk B n t (fun s : List UInt8 => [.s s]) (fun s => s.length ≤ B) := fun H enc w sp cs x h hb => by
  obtain ⟨s, rfl, rfl, _⟩ := DataW.trod_string ht h
  have hl : s.data.toList.length ≤ B := Nat.le_trans (hbk.str H _) hb
  exact ⟨s.data.toList, hl, PRels.one (PRel.s (W := memIm w) s.data.toList (Nat.le_trans hl hB))⟩

theorem chooseL {α : Type} {Q : Nat → α → Prop} : ∀ (n : Nat), (∀ i, i < n → ∃ a, Q i a) → ∃ as : List α, as.length = n ∧ ∀ (i : Nat) a, as[i]? = some a → Q i a
  | 0, _ => ⟨[], rfl, fun i a h => by simp at h⟩
  | n + 1, h => by
    obtain ⟨as, h1, h2⟩ := chooseL n fun i hi => h i (by omega)
    obtain ⟨a, ha⟩ := h n (by omega)
    refine ⟨as ++ [a], by simp [h1], fun i b hb => ?_⟩
    rcases Nat.lt_or_ge i n with hlt | hge
    · rw [List.getElem?_append_left (by omega)] at hb; exact h2 i b hb
    · rw [List.getElem?_append_right (by omega)] at hb
      have : i = n := by
        have := (List.getElem?_eq_some_iff.1 hb).1
        simp at this; omega
      subst this
      simp [h1] at hb; subst hb; exact ha

theorem cells_at {w : World} {a : Addr} {n : Nat} {cs : List Value} (h : w.cells? 0 a n = some cs) : cs.length = n ∧ ∀ (j : Nat) v, cs[j]? = some v → (a.add j).spot = none ∧ w.cell? ⟨a.block, a.off + j, none⟩ = some v := by
  unfold World.cells? at h
  rw [if_pos (Nat.zero_le _)] at h
  refine ⟨by simpa using mapM_some_length h, fun j v hv => ?_⟩
  have hj : j < n := by
    have h1 := mapM_some_length h
    have h2 := (List.getElem?_eq_some_iff.1 hv).1
    simp at h1; omega
  have hc := mapM_some_get h j j (by simp [hj])
  rw [hv] at hc
  have hspot : (a.add j).spot = none := by
    cases hsp : (a.add j).spot with
    | none => rfl
    | some s =>
      simp only [World.cell?] at hc
      split at hc
      · simp [hsp] at hc
      · cases hc
  have e : a.add j = ⟨a.block, a.off + j, none⟩ := by
    unfold Addr.add at hspot ⊢
    split
    · rename_i h0
      subst h0
      rw [if_pos rfl] at hspot
      cases a
      simp_all
    · rfl
  exact ⟨hspot, by rw [← e]; exact hc⟩

theorem dec_slice {t e : TypeId} {n : Nat} {α : Type} {f : α → List PV} {p : α → Prop} (hbk : BkOk bk) (hB : B ≤ maxL) (ht : P.underlying t = some (.slice e)) (h0 : 0 < P.cellsOf e) (he : Dec P bk B n e f p) :
    Dec P bk B (n + 1) t (fun as : List α => [.l (as.map f)]) (fun as => (∀ a ∈ as, p a) ∧ as.length ≤ B) := fun H enc w sp cs x h hb => by
  rcases DataW.trod_slice ht h with ⟨rfl, _⟩ | ⟨a, len, cap, elems, rest, n', hn', rfl, rfl, _, hlc, hcm, hel, hget, _, _⟩
  · exact ⟨[], ⟨fun a ha => by simp at ha, Nat.zero_le _⟩, PRels.one (.l [] none 0 0 (fun _ _ => undef) (Nat.le_refl _) (Nat.zero_le _) (fun _ => rfl) (fun _ x hx => by cases hx) (fun r hr => by cases hr) (fun i r j q hi => by simp at hi) (fun i r j q hi => by simp at hi))⟩
  · cases hn'
    have hone : ∀ i, i < len → ∃ y : α × List Value, p y.1 ∧ w.cells? 0 (a.add (i * P.cellsOf e)) (P.cellsOf e) = some y.2 ∧ PRels (memIm w) (f y.1) y.2 := by
      intro i hi
      have h1 := hget i hi
      have hlt : i < elems.length := by omega
      rw [List.getElem?_eq_getElem hlt, Option.bind_eq_some_iff] at h1
      obtain ⟨cs', h2, h3⟩ := h1
      obtain ⟨b, h4, h5⟩ := he H enc w sp cs' _ h3 (Nat.le_trans (hbk.elem H _ _ _ (List.mem_map_of_mem (List.getElem_mem hlt))) hb)
      exact ⟨(b, cs'), h4, h2, h5⟩
    obtain ⟨ys, hyl, hys⟩ := chooseL len hone
    have hlenB : len ≤ B := by
      have := Nat.le_trans (hbk.len H _ _) hb
      simpa [hel] using this
    refine ⟨ys.map (·.1), ⟨fun b hb => ?_, by simp; omega⟩, ?_⟩
    · obtain ⟨y, hy, rfl⟩ := List.mem_map.1 hb
      obtain ⟨i, hi⟩ := List.mem_iff_getElem?.1 hy
      exact (hys i y hi).1
    · have hl : ((ys.map (·.1)).map f).length = len := by simp [hyl]
      have key : PRel (memIm w) (.l ((ys.map (·.1)).map f)) (.slice (some a) ((ys.map (·.1)).map f).length cap) := by
        have hcellj : ∀ (i : Nat) (r : List PV) (j : Nat) (q : PV), ((ys.map (·.1)).map f)[i]? = some r → r[j]? = some q → ∃ v, PRel (memIm w) q v ∧ a.block = a.block ∧ w.cell? ⟨a.block, a.off + (i * P.cellsOf e + j), none⟩ = some v ∧ (i * P.cellsOf e + j = 0 → a.spot = none) := by
          intro i r j q hi hj
          simp only [List.getElem?_map, Option.map_map, Option.map_eq_some_iff, Function.comp] at hi
          obtain ⟨y, hy, rfl⟩ := hi
          obtain ⟨_, h2, h3⟩ := hys i y hy
          obtain ⟨c1, c2⟩ := cells_at h2
          have hjl : j < y.2.length := by rw [← h3.1]; exact (List.getElem?_eq_some_iff.1 hj).1
          have hv := List.getElem?_eq_getElem hjl
          obtain ⟨s1, s2⟩ := c2 j _ hv
          refine ⟨y.2[j], h3.2 j q _ hj hv, rfl, ?_, ?_⟩
          · have eb : (a.add (i * P.cellsOf e)).block = a.block := by unfold Addr.add; split <;> rfl
            have eo : (a.add (i * P.cellsOf e)).off = a.off + i * P.cellsOf e := by
              unfold Addr.add; split
              · rename_i h0; rw [h0]; rfl
              · rfl
            rw [eb, eo] at s2
            rw [← Nat.add_assoc]; exact s2
          · intro hz
            have hz1 : i * P.cellsOf e = 0 := by omega
            have hz2 : j = 0 := by omega
            subst hz2
            rw [hz1] at s1
            simpa [Addr.add] using s1
        refine .l _ (some a) cap (P.cellsOf e) (fun i j => (w.cell? ⟨a.block, a.off + (i * P.cellsOf e + j), none⟩).getD undef) (by omega) (by omega) (fun h => by cases h) ?_ ?_ ?_ ?_
        · intro hne x hx
          cases hx
          have hlen0 : 0 < ((ys.map (·.1)).map f).length := List.length_pos_iff.2 hne
          have hi := List.getElem?_eq_getElem hlen0
          have hy0 : 0 < ys.length := by simpa using hlen0
          obtain ⟨_, h2, h3⟩ := hys 0 ys[0] (List.getElem?_eq_getElem hy0)
          obtain ⟨c1, c2⟩ := cells_at h2
          have hr0 : ((ys.map (·.1)).map f)[0]? = some (f ys[0].1) := by simp [hy0]
          have hl0 : 0 < (f ys[0].1).length := by rw [h3.1, c1]; exact h0
          obtain ⟨v, _, _, _, hs⟩ := hcellj 0 (f ys[0].1) 0 _ hr0 (List.getElem?_eq_getElem hl0)
          exact hs (by simp)
        · intro r hr
          obtain ⟨b, hb, rfl⟩ := List.mem_map.1 hr
          obtain ⟨y, hy, rfl⟩ := List.mem_map.1 hb
          obtain ⟨i, hi⟩ := List.mem_iff_getElem?.1 hy
          obtain ⟨_, h2, h3⟩ := hys i y hi
          rw [h3.1]; exact (cells_at h2).1
        · intro i r j q hi hj x hx
          cases hx
          obtain ⟨v, _, _, hv, _⟩ := hcellj i r j q hi hj
          show w.cell? _ = _
          rw [hv]; rfl
        · intro i r j q hi hj
          obtain ⟨v, hp, _, hv, _⟩ := hcellj i r j q hi hj
          show PRel _ _ ((w.cell? _).getD undef)
          rw [hv]; exact hp
      rw [hl] at key
      exact PRels.one key

/-! from a reading of an argument to its value -/
theorem arg_slice {t e : TypeId} {v : Value} {w : World} {r : Reach} {base : Nat} {H : Type} {enc : TypeId × Value → H} {sp : Nat → Bool} {d : DataW H} {ps : List MemPlace} {α : Type} {f : α → List PV} {p : α → Prop}
    (ht : P.underlying t = some (.slice e)) (hdec : ∀ n, Dec P bk B n t (fun as : List α => [.l (as.map f)]) (fun as => (∀ a ∈ as, p a) ∧ as.length ≤ B)) (hok : Value.okWide P w r base t v) (h : DataW.Trod enc P w 0 sp true t v d ps) (hb : bk H d ≤ B) :
    ∃ as : List α, ((∀ a ∈ as, p a) ∧ as.length ≤ B) ∧ PRel (memIm w) (.l (as.map f)) v := by
  obtain ⟨a, len, cap, rfl⟩ := okWide_slice ht hok
  obtain ⟨n, hn⟩ := h
  obtain ⟨as, h1, h2⟩ := hdec n H enc w sp _ _ hn hb
  obtain ⟨v', h3, h4⟩ := h2.cons_inv
  refine ⟨as, h1, ?_⟩
  simp [Value.cells] at h3
  subst h3
  exact h4

/-! the law's post -/
theorem post_of_below {H : Type} {enc : TypeId × Value → H} {f : Func} {s : ChangeSpec} {apart fresh handsOn again : Bool} {W W' : World} {args : Array Value} {v : Value} {ds gs : List (DataW H)} {before pa pv : List MemPlace}
    (hW : DataW.Whole enc P f.params.toList s.vars apart W args.toList ds gs before)
    (hres : ∀ (b : Nat) (sp : Nat → Bool) (hd : Bool), DataW.TrodAll enc P W' b sp hd f.resultTypes.toList (v.resultList f.resultTypes.size) (s.fn H (ds ++ gs)).results [])
    (hargs : ∀ sp : Nat → Bool, (∀ p ∈ before, sp p.block = true) → DataW.TrodAll enc P W' 0 sp true f.params.toList args.toList (s.fn H (ds ++ gs)).args pa)
    (hvars : ∀ sp : Nat → Bool, (∀ p ∈ before, sp p.block = true) → DataW.TrodVars enc P W' sp s.vars (s.fn H (ds ++ gs)).vars pv)
    (hps : before = pa ++ pv) (hb : Below W.heap.size W W')
    (hok : ∀ (j : Nat) (t : TypeId) (r : Value), f.resultTypes[j]? = some t → (v.resultList f.resultTypes.size)[j]? = some r → Value.okWide P W' .any 0 t r) :
    s.post enc P f apart fresh handsOn again W args v W' := by
  have hlt := hW.lt
  have hold : ∀ p ∈ before, (fun b => decide (b < W.heap.size)) p.block = true := fun p hp => by simpa using hlt p hp
  have hk : W.keptBut W' (· ∈ before) := hb.frame _
  refine ⟨ds, gs, before, [], pa, pv, hW, hres _ _ _, hargs _ hold, hvars _ hold, World.keptBut_mono (fun p hp => ⟨hp, ?_⟩) hk, fun _ => ?_⟩
  · rw [hps, List.mem_append] at hp
    exact Or.inr hp
  · obtain ⟨_, _, _, _, _, hz, hn⟩ := hW
    refine ⟨hok, _, _, ([] ++ pa) ++ pv, ⟨[] ++ pa, pv, trodAll_append (hargs _ (fun _ _ => rfl)) (hres _ _ _), hvars _ (fun _ _ => rfl), rfl, ?_, ?_⟩, ?_⟩
    · intro b off hp
      have hbl : b < W.heap.size := hlt (.cell b off) (by rw [hps]; simpa using hp)
      have := hz b off (by rw [hps]; simpa using hp)
      unfold World.frozen? at this ⊢
      rw [hb.block b hbl]
      exact this
    · intro ha
      have := hn ha
      rw [hps] at this
      simpa using this
    · intro p hp _
      rw [hps]
      simpa using hp

theorem trodAll_stays {H : Type} {enc : TypeId × Value → H} (hl : laidOutB P = true) {W W' : World} (hb : Below W.heap.size W W') {sp : Nat → Bool} : ∀ {ts : List TypeId} {vs : List Value} {ds : List (DataW H)} {ps : List MemPlace},
    (∀ t ∈ ts, P.readableRec t = true ∧ t < P.types.size) → DataW.TrodAll enc P W 0 (fun _ => true) true ts vs ds ps → (∀ p ∈ ps, p.block < W.heap.size) → (∀ p ∈ ps, sp p.block = true) → DataW.TrodAll enc P W' 0 sp true ts vs ds ps
  | [], [], [], ps, _, h, _, _ => h
  | t :: ts, v :: vs, d :: ds, ps, hr, h, hlt, hs => by
    obtain ⟨p, q, h1, h2, rfl⟩ := h
    exact ⟨p, q, WideElems.Trod_stays hl (hr t (by simp)).1 (hr t (by simp)).2 h1 (fun x hx => hb.same (hlt x (by simp [hx]))) (fun x hx => hs x (by simp [hx])),
      trodAll_stays hl hb (fun t ht => hr t (List.mem_cons_of_mem _ ht)) h2 (fun x hx => hlt x (by simp [hx])) (fun x hx => hs x (by simp [hx])), rfl⟩
  | [], _ :: _, _, _, _, h, _, _ => h.elim
  | [], [], _ :: _, _, _, h, _, _ => h.elim
  | _ :: _, [], _, _, _, h, _, _ => h.elim
  | _ :: _, _ :: _, [], _, _, h, _, _ => h.elim

theorem Stp.below {w w' : World} {θ' : Th} {W W' : Im} (h : Stp noTh W w θ' W' w') : Below w.heap.size w w' := ⟨h.os, h.tape, h.output, h.size, fun b hb => h.old_heap b hb⟩

/-- A LAW THAT ANSWERS TRUE: its post, of a call that is known on abstract values. -/
theorem law_post {H : Type} {enc : TypeId × Value → H} {fid : Nat} {f : Func} {s : ChangeSpec} {apart fresh handsOn again : Bool} {W : World} {args : Array Value} {ds gs : List (DataW H)} {before : List MemPlace}
    {tb : TypeId} (htb : P.underlying tb = some .bool) (hrt : f.resultTypes = #[tb]) (hl : laidOutB P = true) (hread : ∀ t ∈ f.params.toList, P.readableRec t = true ∧ t < P.types.size) (hvars : s.vars = [])
    (hW : DataW.Whole enc P f.params.toList s.vars apart W args.toList ds gs before) (hfn : gs = [] → s.fn H ds = { results := [.lit (.bool true)], args := ds })
    {avs : List AV} (hrel : Rels noTh (memIm W) avs args) (h : ACall P fid avs [] (fun r _ => r = .p (.b true))) :
    Calls P fid args W fun e W' => ∃ v, e = .returned v ∧ s.post enc P f apart fresh handsOn again W args v W' := by
  refine (h.2 W noTh (memIm W) args (SR.entry W) hrel).mono ?_
  rintro e W' ⟨v, r, H', θ', W1, rfl, rfl, hSR, hA, hS⟩
  have hv := hA.b_inv
  subst hv
  refine ⟨_, rfl, ?_⟩
  have hW' := hW
  have hlt := hW.lt
  obtain ⟨p, q, hA0, hV, rfl, hfz, hnd⟩ := hW
  have hgs : gs = [] ∧ q = [] := by
    rw [hvars] at hV
    cases gs with
    | nil => exact ⟨rfl, hV⟩
    | cons g gs => exact hV.elim
  obtain ⟨rfl, rfl⟩ := hgs
  have hfn' := hfn rfl
  refine post_of_below (pa := p) (pv := []) hW' (fun b sp hd => ?_) (fun sp hsp => ?_) (fun sp hsp => ?_) rfl hS.below ?_
  · rw [List.append_nil, hfn', hrt]
    exact trodAll_mk1 (shut_bool htb _)
  · rw [List.append_nil, hfn']
    exact trodAll_stays hl hS.below hread hA0 (fun x hx => hlt x (by simp [hx])) (fun x hx => hsp x (by simp [hx]))
  · rw [List.append_nil, hfn', hvars]; rfl
  · intro j t r hj hr
    rw [hrt] at hj hr
    cases j with
    | zero =>
      have e1 : t = tb := by simpa using hj.symm
      have e2 : r = .bool true := by simpa [Value.resultList] using hr.symm
      subst e1; subst e2
      exact okWide_bool_mk htb _
    | succ j => simp at hj

theorem stoR_at {H : List AO} {id ver row col sz : Nat} {us : List AV} {rs : List (List AV)} {r r' : List AV} (h : rs[row]? = some r) (hs : splice r col us = some r') :
    stoR H id ver row col us (some (.rows sz ver rs)) = some (H.set id (.rows sz ver (rs.set row r'))) := by
  simp [stoR, h, hs]
theorem natCast_le0 (n : Nat) : (0 ≤ (n : Int)) = True := by simp
attribute [go_sem] decide_true decide_false Bool.not_true Bool.not_false exists_eq_left' Option.some.injEq natCast_le0 true_and and_true Bool.false_eq_true Bool.and_self Bool.and_true Bool.true_and beq_self_eq_true Nat.zero_add Int.toNat_natCast argEnv

end Go.AM

/- Readings of structs, field by field. -/
set_option linter.all false
namespace Go.AM
open Go.ChangeShapes Go.WideShapes Go.RowKit
variable {P : Program} {bk : (H : Type) → DataW H → Nat} {B : Nat}

/-- what the fields from one on read as: the cells from 'off' on -/
def DecFs (P : Program) (bk : (H : Type) → DataW H → Nat) (B n tot : Nat) (fs : List Field) (off : Nat) {α : Type} (f : α → List PV) (p : α → Prop) : Prop :=
  ∀ (H : Type) (enc : TypeId × Value → H) (w : World) (sp : Nat → Bool) (cs : List Value) (xs : List (DataW H × List MemPlace)), cs.length = tot → xs.length = fs.length →
    (∀ (i : Nat) fd, fs[i]? = some fd → DataW.trod enc P w 0 sp true n fd.type ((cs.drop fd.offset).take (P.cellsOf fd.type)) = xs[i]?) → (∀ x ∈ xs, bk H x.1 ≤ B) → ∃ a, p a ∧ PRels (memIm w) (f a) (cs.drop off)

theorem decFs_one {n tot off : Nat} {fd : Field} {α : Type} {f : α → List PV} {p : α → Prop} (ho : fd.offset = off) (hs : off + P.cellsOf fd.type = tot) (h : Dec P bk B n fd.type f p) : DecFs P bk B n tot [fd] off f p := by
  intro H enc w sp cs xs hl hx hr hb
  match xs, hx with
  | [x], _ =>
    have h1 := hr 0 fd rfl
    obtain ⟨a, h2, h3⟩ := h H enc w sp _ x h1 (hb x (by simp))
    refine ⟨a, h2, ?_⟩
    rw [List.take_of_length_le (by simp; omega), ho] at h3
    exact h3

theorem decFs_cons {n tot off : Nat} {fd : Field} {fs : List Field} {α β : Type} {f : α → List PV} {p : α → Prop} {g : β → List PV} {q : β → Prop} (ho : fd.offset = off) {off' : Nat} (hs : off + P.cellsOf fd.type = off') (h : Dec P bk B n fd.type f p)
    (k : DecFs P bk B n tot fs off' g q) : DecFs P bk B n tot (fd :: fs) off (fun x : α × β => f x.1 ++ g x.2) (fun x => p x.1 ∧ q x.2) := by
  intro H enc w sp cs xs hl hx hr hb
  match xs, hx with
  | x :: xs, hx =>
    have h1 := hr 0 fd rfl
    obtain ⟨a, h2, h3⟩ := h H enc w sp _ x h1 (hb x (by simp))
    obtain ⟨b, h4, h5⟩ := k H enc w sp cs xs hl (by simpa using hx) (fun i fd' hi => by have := hr (i + 1) fd' (by simpa using hi); simpa using this) (fun y hy => hb y (List.mem_cons_of_mem _ hy))
    refine ⟨(a, b), ⟨h2, h4⟩, ?_⟩
    have h6 := h3.append h5
    rw [ho, ← hs, ← List.drop_drop, List.take_append_drop] at h6
    exact h6

theorem dec_struct {n : Nat} {t : TypeId} {fs : Array Field} {tot : Nat} {α : Type} {f : α → List PV} {p : α → Prop} (hbk : BkOk bk) (ht : P.underlying t = some (.struct fs)) (hc : P.cellsOf t = tot) (h : DecFs P bk B n tot fs.toList 0 f p) : Dec P bk B (n + 1) t f p := by
  intro H enc w sp cs x hx hb
  obtain ⟨xs, n', hn, rfl, hl, hxl, hget⟩ := DataW.trod_struct ht hx
  cases hn
  obtain ⟨a, h1, h2⟩ := h H enc w sp cs xs (hl.trans hc) (by simpa using hxl) (fun i fd hi => hget i fd (by simpa using hi)) (fun y hy => Nat.le_trans (hbk.part H _ _ (List.mem_map_of_mem hy)) hb)
  exact ⟨a, h1, by simpa using h2⟩

/-- the same at every fuel -/
theorem Dec.all {t : TypeId} {α : Type} {f : α → List PV} {p : α → Prop} (h : ∀ n, Dec P bk B (n + 1) t f p) : ∀ n, Dec P bk B n t f p
  | 0 => dec_zero
  | n + 1 => h n

/-- a struct argument -/
theorem arg_struct {t : TypeId} {fs : Array Field} {v : Value} {w : World} {r : Reach} {base : Nat} {H : Type} {enc : TypeId × Value → H} {sp : Nat → Bool} {d : DataW H} {ps : List MemPlace} {α : Type} {f : α → List PV} {p : α → Prop}
    (ht : P.underlying t = some (.struct fs)) (hdec : ∀ n, Dec P bk B n t f p) (hok : Value.okWide P w r base t v) (h : DataW.Trod enc P w 0 sp true t v d ps) (hb : bk H d ≤ B) :
    ∃ a : α, p a ∧ ARel noTh (memIm w) (.st ((f a).map .p)) v := by
  have hv : ∃ cs, v = .agg cs := by
    simp only [Value.okWide, ht] at hok
    obtain ⟨cs, h1, _⟩ := hok
    exact ⟨cs, h1⟩
  obtain ⟨cs, rfl⟩ := hv
  obtain ⟨n, hn⟩ := h
  obtain ⟨a, h1, h2⟩ := hdec n H enc w sp _ _ hn hb
  have h2' : PRels (memIm w) (f a) cs.toList := h2
  refine ⟨a, h1, .st _ cs (by have := h2'.1; simp at this ⊢; omega) (fun j c u hj hu => ?_) (fun j u hu => ?_)⟩
  · rw [List.getElem?_map] at hj
    cases hq : (f a)[j]? with
    | none => rw [hq] at hj; cases hj
    | some q => rw [hq] at hj; cases hj; exact .p _ _ (h2'.2 j q u hq (by simpa using hu))
  · have hlt : j < (f a).length := by
      have h3 := (Array.getElem?_eq_some_iff.1 hu).1
      have := h2'.1; simp at this; omega
    exact (h2'.2 j _ u (List.getElem?_eq_getElem hlt) (by simpa using hu)).one

end Go.AM

/- THE SMALL CODES of functions 3 15 16 17 18 66 67, and their ties to the program (printed by wip/tools/mkties.sh). -/
set_option linter.all false
namespace Go.Proofs.Ytmbggdfceecojaa.Mc
open Go.AM
def lv3 : List Nat := [0, 2, 3, 4, 5, 6, 7, 10, 31, 36]
def mc3 : MC :=
.seq (.reg [
    ⟨.l 2, .mv (.c (.p (.b false))), none⟩]) (
  .seq (.seq (.reg [
    ⟨.t 8, .mv (.l 0), none⟩,
    ⟨.t 9, .len false (.t 8), none⟩,
    ⟨.l 10, .bin .gtr (.t 9) (.c (.p (.i .i64 1048576))), none⟩]) (
  .cond (.l 10) (
    .seq (.reg [
      ⟨.l 2, .mv (.c (.p (.b true))), none⟩]) (
    .ret)) (
    .skip))) (
  .seq (.reg [
    ⟨.t 12, .mv (.l 0), none⟩,
    ⟨.t 13, .call 16 [.t 12], none⟩,
    ⟨.t 14, .call 15 [.t 13], none⟩,
    ⟨.t 11, .mv (.t 14), none⟩,
    ⟨.t 15, .ext (.t 11) 0, none⟩,
    ⟨.t 16, .ext (.t 11) 1, none⟩,
    ⟨.l 3, .mv (.t 15), none⟩,
    ⟨.l 4, .mv (.t 16), none⟩]) (
  .seq (.reg [
    ⟨.t 17, .mv (.l 0), none⟩,
    ⟨.t 18, .call 16 [.t 17], none⟩,
    ⟨.l 5, .mv (.t 18), none⟩]) (
  .seq (.reg [
    ⟨.t 20, .mv (.l 5), none⟩,
    ⟨.t 21, .call 17 [.t 20], none⟩,
    ⟨.t 19, .mv (.t 21), none⟩,
    ⟨.t 22, .ext (.t 19) 0, none⟩,
    ⟨.t 23, .ext (.t 19) 1, none⟩,
    ⟨.l 6, .mv (.t 22), none⟩,
    ⟨.l 7, .mv (.t 23), none⟩]) (
  .seq (.seq (.reg [
    ⟨.t 24, .mv (.l 6), none⟩,
    ⟨.t 25, .mv (.l 3), none⟩,
    ⟨.t 26, .bin .neq (.t 24) (.t 25), none⟩,
    ⟨.t 27, .mv (.t 26), none⟩,
    ⟨.t 28, .mv (.l 7), some ((.t 27), false)⟩,
    ⟨.t 29, .mv (.l 4), some ((.t 27), false)⟩,
    ⟨.t 30, .bin .neq (.t 28) (.t 29), some ((.t 27), false)⟩,
    ⟨.l 31, .pick (.t 27) (.c (.p (.b true))) (.t 30), none⟩]) (
  .cond (.l 31) (
    .seq (.reg [
      ⟨.l 2, .mv (.c (.p (.b false))), none⟩]) (
    .ret)) (
    .skip))) (
  .seq (.seq (.reg [
    ⟨.t 32, .mv (.l 5), none⟩,
    ⟨.t 33, .mv (.l 0), none⟩,
    ⟨.t 34, .call 16 [.t 33], none⟩,
    ⟨.t 35, .call 18 [.t 32, .t 34], none⟩,
    ⟨.l 36, .un .not (.t 35), none⟩]) (
  .cond (.l 36) (
    .seq (.reg [
      ⟨.l 2, .mv (.c (.p (.b false))), none⟩]) (
    .ret)) (
    .skip))) (
  .seq (.reg [
    ⟨.l 2, .mv (.c (.p (.b true))), none⟩]) (
  .ret))))))))
theorem mc3_eq : (Try.f3.body.map (compile lv3 Try.prog 37)) = some mc3 := by kernel_rfl
def mr3 : List MR := [.t 2]
theorem mr3_eq : cRess lv3 Try.prog Try.f3.results.toList = some mr3 := by kernel_rfl
theorem call3 {args : List AV} {H : List AO} {Q : AV → List AO → Prop} (hla : args.length ≤ 37) (h : wpm (ACall Try.prog) mc3 (finK mr3 Q) ⟨argEnv 0 args, [], H⟩) : ACall Try.prog 3 args H Q :=
  acall_mc (by kernel_rfl) Try.func3 mc3_eq Try.ntmps3 (by kernel_rfl) mr3_eq hla h
def lv15 : List Nat := [0, 2, 3, 4, 5, 8, 12, 23]
def mc15 : MC :=
.seq (.reg [
    ⟨.l 2, .mv (.c (.p (.i .i64 0))), none⟩,
    ⟨.l 3, .mv (.c (.p (.i .i64 0))), none⟩]) (
  .seq (.seq (.reg [
    ⟨.t 6, .mv (.l 0), none⟩,
    ⟨.t 7, .len false (.t 6), none⟩,
    ⟨.l 8, .bin .eql (.t 7) (.c (.p (.i .i64 0))), none⟩]) (
  .cond (.l 8) (
    .seq (.reg [
      ⟨.l 2, .mv (.c (.p (.i .i64 (-1)))), none⟩,
      ⟨.l 3, .mv (.c (.p (.i .i64 0))), none⟩]) (
    .ret)) (
    .skip))) (
  .seq (.reg [
    ⟨.l 4, .mv (.c (.p (.i .i64 0))), none⟩]) (
  .seq (.seq (.reg [
    ⟨.l 5, .mv (.c (.p (.i .i64 0))), none⟩]) (
  .blk 0 (
    .loop (
      .seq (.seq (.reg [
        ⟨.t 9, .mv (.l 5), none⟩,
        ⟨.t 10, .mv (.l 0), none⟩,
        ⟨.t 11, .len false (.t 10), none⟩,
        ⟨.l 12, .bin .lss (.t 9) (.t 11), none⟩]) (
      .cond (.l 12) (
        .skip) (
        .exit 0))) (
      .seq (.blk 1 (
        .seq (.drw [
          ⟨.t 15, .mv (.l 0), none⟩,
          ⟨.t 16, .mv (.l 5), none⟩,
          ⟨.t 17, .ixs 1 (.t 15) (.t 16), none⟩,
          ⟨.t 18, .ld false 1 (.t 17), none⟩,
          ⟨.t 19, .mv (.l 0), none⟩,
          ⟨.t 20, .mv (.l 4), none⟩,
          ⟨.t 21, .ixs 1 (.t 19) (.t 20), none⟩,
          ⟨.t 22, .ld false 1 (.t 21), none⟩] [
          ⟨.l 23, .bin .gtr (.t 18) (.t 22), none⟩]) (
        .cond (.l 23) (
          .reg [
            ⟨.t 24, .mv (.l 5), none⟩,
            ⟨.l 4, .mv (.t 24), none⟩]) (
          .skip)))) (
      .reg [
        ⟨.t 13, .mv (.l 5), none⟩,
        ⟨.t 14, .bin .add (.t 13) (.c (.p (.i .i64 1))), none⟩,
        ⟨.l 5, .mv (.t 14), none⟩])))))) (
  .seq (.drw [
    ⟨.t 25, .mv (.l 4), none⟩,
    ⟨.t 26, .mv (.l 0), none⟩,
    ⟨.t 27, .mv (.l 4), none⟩,
    ⟨.t 28, .ixs 1 (.t 26) (.t 27), none⟩,
    ⟨.t 29, .ld false 1 (.t 28), none⟩,
    ⟨.l 2, .mv (.t 25), none⟩] [
    ⟨.l 3, .mv (.t 29), none⟩]) (
  .ret)))))
theorem mc15_eq : (Try.f15.body.map (compile lv15 Try.prog 30)) = some mc15 := by kernel_rfl
def mr15 : List MR := [.t 2, .t 3]
theorem mr15_eq : cRess lv15 Try.prog Try.f15.results.toList = some mr15 := by kernel_rfl
theorem call15 {args : List AV} {H : List AO} {Q : AV → List AO → Prop} (hla : args.length ≤ 30) (h : wpm (ACall Try.prog) mc15 (finK mr15 Q) ⟨argEnv 0 args, [], H⟩) : ACall Try.prog 15 args H Q :=
  acall_mc (by kernel_rfl) Try.func15 mc15_eq Try.ntmps15 (by kernel_rfl) mr15_eq hla h
def lv16 : List Nat := [0, 2, 3, 4, 11]
def mc16 : MC :=
.seq (.reg [
    ⟨.l 2, .mv (.c (.p (.nl))), none⟩]) (
  .seq (.reg [
    ⟨.t 5, .mv (.l 0), none⟩,
    ⟨.t 6, .len false (.t 5), none⟩,
    ⟨.t 7, .mks 1 8 [.p (.i .i64 0)] (.t 6) (.t 6), none⟩,
    ⟨.l 3, .mv (.t 7), none⟩]) (
  .seq (.seq (.reg [
    ⟨.l 4, .mv (.c (.p (.i .i64 0))), none⟩]) (
  .blk 0 (
    .loop (
      .seq (.seq (.reg [
        ⟨.t 8, .mv (.l 4), none⟩,
        ⟨.t 9, .mv (.l 0), none⟩,
        ⟨.t 10, .len false (.t 9), none⟩,
        ⟨.l 11, .bin .lss (.t 8) (.t 10), none⟩]) (
      .cond (.l 11) (
        .skip) (
        .exit 0))) (
      .seq (.blk 1 (
        .reg [
          ⟨.t 14, .mv (.l 3), none⟩,
          ⟨.t 15, .mv (.l 4), none⟩,
          ⟨.t 16, .mv (.l 0), none⟩,
          ⟨.t 17, .mv (.l 4), none⟩,
          ⟨.t 18, .ixs 1 (.t 16) (.t 17), none⟩,
          ⟨.t 19, .ld false 1 (.t 18), none⟩,
          ⟨.t 20, .ixs 1 (.t 14) (.t 15), none⟩,
          ⟨.no, .sto 1 (.t 20) (.t 19), none⟩])) (
      .reg [
        ⟨.t 12, .mv (.l 4), none⟩,
        ⟨.t 13, .bin .add (.t 12) (.c (.p (.i .i64 1))), none⟩,
        ⟨.l 4, .mv (.t 13), none⟩])))))) (
  .seq (.reg [
    ⟨.t 21, .mv (.l 3), none⟩,
    ⟨.l 2, .mv (.t 21), none⟩]) (
  .ret))))
theorem mc16_eq : (Try.f16.body.map (compile lv16 Try.prog 22)) = some mc16 := by kernel_rfl
def mr16 : List MR := [.t 2]
theorem mr16_eq : cRess lv16 Try.prog Try.f16.results.toList = some mr16 := by kernel_rfl
theorem call16 {args : List AV} {H : List AO} {Q : AV → List AO → Prop} (hla : args.length ≤ 22) (h : wpm (ACall Try.prog) mc16 (finK mr16 Q) ⟨argEnv 0 args, [], H⟩) : ACall Try.prog 16 args H Q :=
  acall_mc (by kernel_rfl) Try.func16 mc16_eq Try.ntmps16 (by kernel_rfl) mr16_eq hla h
def lv17 : List Nat := [0, 2, 3, 4, 7]
def mc17 : MC :=
.seq (.reg [
    ⟨.l 2, .mv (.c (.p (.i .i64 0))), none⟩,
    ⟨.l 3, .mv (.c (.p (.i .i64 0))), none⟩]) (
  .seq (.seq (.reg [
    ⟨.t 5, .mv (.l 0), none⟩,
    ⟨.t 6, .len false (.t 5), none⟩,
    ⟨.l 7, .bin .eql (.t 6) (.c (.p (.i .i64 0))), none⟩]) (
  .cond (.l 7) (
    .seq (.reg [
      ⟨.l 2, .mv (.c (.p (.i .i64 (-1)))), none⟩,
      ⟨.l 3, .mv (.c (.p (.i .i64 0))), none⟩]) (
    .ret)) (
    .skip))) (
  .seq (.reg [
    ⟨.t 8, .mv (.l 0), none⟩,
    ⟨.t 9, .call 66 [.t 8], none⟩,
    ⟨.l 4, .mv (.t 9), none⟩]) (
  .seq (.reg [
    ⟨.t 10, .mv (.l 0), none⟩,
    ⟨.t 11, .mv (.l 4), none⟩,
    ⟨.t 12, .call 67 [.t 10, .t 11], none⟩,
    ⟨.t 13, .mv (.l 4), none⟩,
    ⟨.l 2, .mv (.t 12), none⟩,
    ⟨.l 3, .mv (.t 13), none⟩]) (
  .ret))))
theorem mc17_eq : (Try.f17.body.map (compile lv17 Try.prog 14)) = some mc17 := by kernel_rfl
def mr17 : List MR := [.t 2, .t 3]
theorem mr17_eq : cRess lv17 Try.prog Try.f17.results.toList = some mr17 := by kernel_rfl
theorem call17 {args : List AV} {H : List AO} {Q : AV → List AO → Prop} (hla : args.length ≤ 14) (h : wpm (ACall Try.prog) mc17 (finK mr17 Q) ⟨argEnv 0 args, [], H⟩) : ACall Try.prog 17 args H Q :=
  acall_mc (by kernel_rfl) Try.func17 mc17_eq Try.ntmps17 (by kernel_rfl) mr17_eq hla h
def lv18 : List Nat := [0, 1, 4, 5, 10, 14, 25]
def mc18 : MC :=
.seq (.reg [
    ⟨.l 4, .mv (.c (.p (.b false))), none⟩]) (
  .seq (.seq (.reg [
    ⟨.t 6, .mv (.l 0), none⟩,
    ⟨.t 7, .len false (.t 6), none⟩,
    ⟨.t 8, .mv (.l 1), none⟩,
    ⟨.t 9, .len false (.t 8), none⟩,
    ⟨.l 10, .bin .neq (.t 7) (.t 9), none⟩]) (
  .cond (.l 10) (
    .seq (.reg [
      ⟨.l 4, .mv (.c (.p (.b false))), none⟩]) (
    .ret)) (
    .skip))) (
  .seq (.seq (.reg [
    ⟨.l 5, .mv (.c (.p (.i .i64 0))), none⟩]) (
  .blk 0 (
    .loop (
      .seq (.seq (.reg [
        ⟨.t 11, .mv (.l 5), none⟩,
        ⟨.t 12, .mv (.l 0), none⟩,
        ⟨.t 13, .len false (.t 12), none⟩,
        ⟨.l 14, .bin .lss (.t 11) (.t 13), none⟩]) (
      .cond (.l 14) (
        .skip) (
        .exit 0))) (
      .seq (.blk 1 (
        .seq (.drw [
          ⟨.t 17, .mv (.l 0), none⟩,
          ⟨.t 18, .mv (.l 5), none⟩,
          ⟨.t 19, .ixs 1 (.t 17) (.t 18), none⟩,
          ⟨.t 20, .ld false 1 (.t 19), none⟩,
          ⟨.t 21, .mv (.l 1), none⟩,
          ⟨.t 22, .mv (.l 5), none⟩,
          ⟨.t 23, .ixs 1 (.t 21) (.t 22), none⟩,
          ⟨.t 24, .ld false 1 (.t 23), none⟩] [
          ⟨.l 25, .bin .neq (.t 20) (.t 24), none⟩]) (
        .cond (.l 25) (
          .seq (.reg [
            ⟨.l 4, .mv (.c (.p (.b false))), none⟩]) (
          .ret)) (
          .skip)))) (
      .reg [
        ⟨.t 15, .mv (.l 5), none⟩,
        ⟨.t 16, .bin .add (.t 15) (.c (.p (.i .i64 1))), none⟩,
        ⟨.l 5, .mv (.t 16), none⟩])))))) (
  .seq (.reg [
    ⟨.l 4, .mv (.c (.p (.b true))), none⟩]) (
  .ret))))
theorem mc18_eq : (Try.f18.body.map (compile lv18 Try.prog 26)) = some mc18 := by kernel_rfl
def mr18 : List MR := [.t 4]
theorem mr18_eq : cRess lv18 Try.prog Try.f18.results.toList = some mr18 := by kernel_rfl
theorem call18 {args : List AV} {H : List AO} {Q : AV → List AO → Prop} (hla : args.length ≤ 26) (h : wpm (ACall Try.prog) mc18 (finK mr18 Q) ⟨argEnv 0 args, [], H⟩) : ACall Try.prog 18 args H Q :=
  acall_mc (by kernel_rfl) Try.func18 mc18_eq Try.ntmps18 (by kernel_rfl) mr18_eq hla h
def lv66 : List Nat := [0, 2, 3, 4, 7, 15]
def mc66 : MC :=
.seq (.reg [
    ⟨.l 2, .mv (.c (.p (.i .i64 0))), none⟩]) (
  .seq (.seq (.reg [
    ⟨.t 5, .mv (.l 0), none⟩,
    ⟨.t 6, .len false (.t 5), none⟩,
    ⟨.l 7, .bin .lss (.t 6) (.c (.p (.i .i64 1))), none⟩]) (
  .cond (.l 7) (
    .reg [
      ⟨.no, .stop, none⟩,
      ⟨.no, .stop, none⟩]) (
    .skip))) (
  .seq (.reg [
    ⟨.t 9, .mv (.l 0), none⟩,
    ⟨.t 10, .ixs 1 (.t 9) (.c (.p (.i .i64 0))), none⟩,
    ⟨.t 11, .ld false 1 (.t 10), none⟩,
    ⟨.l 3, .mv (.t 11), none⟩]) (
  .seq (.seq (.reg [
    ⟨.l 4, .mv (.c (.p (.i .i64 1))), none⟩]) (
  .blk 0 (
    .loop (
      .seq (.seq (.reg [
        ⟨.t 12, .mv (.l 4), none⟩,
        ⟨.t 13, .mv (.l 0), none⟩,
        ⟨.t 14, .len false (.t 13), none⟩,
        ⟨.l 15, .bin .lss (.t 12) (.t 14), none⟩]) (
      .cond (.l 15) (
        .skip) (
        .exit 0))) (
      .seq (.blk 1 (
        .reg [
          ⟨.t 18, .mv (.l 3), none⟩,
          ⟨.t 19, .mv (.l 0), none⟩,
          ⟨.t 20, .mv (.l 4), none⟩,
          ⟨.t 21, .ixs 1 (.t 19) (.t 20), none⟩,
          ⟨.t 22, .ld false 1 (.t 21), none⟩,
          ⟨.t 23, .mnx true (.t 18) (.t 22), none⟩,
          ⟨.l 3, .mv (.t 23), none⟩])) (
      .reg [
        ⟨.t 16, .mv (.l 4), none⟩,
        ⟨.t 17, .bin .add (.t 16) (.c (.p (.i .i64 1))), none⟩,
        ⟨.l 4, .mv (.t 17), none⟩])))))) (
  .seq (.reg [
    ⟨.t 24, .mv (.l 3), none⟩,
    ⟨.l 2, .mv (.t 24), none⟩]) (
  .ret)))))
theorem mc66_eq : (Try.f66.body.map (compile lv66 Try.prog 25)) = some mc66 := by kernel_rfl
def mr66 : List MR := [.t 2]
theorem mr66_eq : cRess lv66 Try.prog Try.f66.results.toList = some mr66 := by kernel_rfl
theorem call66 {args : List AV} {H : List AO} {Q : AV → List AO → Prop} (hla : args.length ≤ 25) (h : wpm (ACall Try.prog) mc66 (finK mr66 Q) ⟨argEnv 0 args, [], H⟩) : ACall Try.prog 66 args H Q :=
  acall_mc (by kernel_rfl) Try.func66 mc66_eq Try.ntmps66 (by kernel_rfl) mr66_eq hla h
def lv67 : List Nat := [0, 1, 4, 5, 7, 8, 9, 16]
def mc67 : MC :=
.seq (.reg [
    ⟨.l 4, .mv (.c (.p (.i .i64 0))), none⟩]) (
  .seq (.seq (.reg [
    ⟨.t 6, .mv (.l 0), none⟩,
    ⟨.l 7, .len false (.t 6), none⟩,
    ⟨.l 8, .mv (.c (.p (.i .i64 0))), none⟩]) (
  .blk 0 (
    .loop (
      .seq (.reg [
        ⟨.l 9, .bin .lss (.l 8) (.l 7), none⟩]) (
      .seq (.cond (.l 9) (
        .skip) (
        .exit 0)) (
      .seq (.blk 1 (
        .seq (.reg [
          ⟨.t 10, .mv (.l 8), none⟩,
          ⟨.l 5, .mv (.t 10), none⟩]) (
        .seq (.reg [
          ⟨.t 11, .mv (.l 1), none⟩,
          ⟨.t 12, .mv (.l 0), none⟩,
          ⟨.t 13, .mv (.l 5), none⟩,
          ⟨.t 14, .ixs 1 (.t 12) (.t 13), none⟩,
          ⟨.t 15, .ld false 1 (.t 14), none⟩,
          ⟨.l 16, .bin .eql (.t 11) (.t 15), none⟩]) (
        .cond (.l 16) (
          .seq (.reg [
            ⟨.t 17, .mv (.l 5), none⟩,
            ⟨.l 4, .mv (.t 17), none⟩]) (
          .ret)) (
          .skip))))) (
      .reg [
        ⟨.t 18, .bin .add (.l 8) (.c (.p (.i .i64 1))), none⟩,
        ⟨.l 8, .mv (.t 18), none⟩]))))))) (
  .seq (.reg [
    ⟨.l 4, .mv (.c (.p (.i .i64 (-1)))), none⟩]) (
  .ret)))
theorem mc67_eq : (Try.f67.body.map (compile lv67 Try.prog 19)) = some mc67 := by kernel_rfl
def mr67 : List MR := [.t 4]
theorem mr67_eq : cRess lv67 Try.prog Try.f67.results.toList = some mr67 := by kernel_rfl
theorem call67 {args : List AV} {H : List AO} {Q : AV → List AO → Prop} (hla : args.length ≤ 19) (h : wpm (ACall Try.prog) mc67 (finK mr67 Q) ⟨argEnv 0 args, [], H⟩) : ACall Try.prog 67 args H Q :=
  acall_mc (by kernel_rfl) Try.func67 mc67_eq Try.ntmps67 (by kernel_rfl) mr67_eq hla h
end Go.Proofs.Ytmbggdfceecojaa.Mc

/- Hottest: what the functions do. -/
set_option linter.all false
namespace Go.Proofs.Ytmbggdfceecojaa.Ho
open Go.AM Mc

def ints (zs : List Int) : List (List PV) := zs.map fun z => [.i .i64 z]
theorem ints_len (zs : List Int) : (ints zs).length = zs.length := by simp [ints]
theorem ints_get (zs : List Int) (i : Nat) : (ints zs)[i]? = zs[i]?.map fun z => [.i .i64 z] := by simp [ints]
theorem ints_at (zs : List Int) {i : Nat} (h : i < zs.length) : (ints zs)[i]? = some [.i .i64 zs[i]] := by simp [ints, h]
theorem wr64 {n : Int} (h1 : -9223372036854775808 ≤ n) (h2 : n ≤ 9223372036854775807) : wr .i64 n = n := by
  simp [wr, IntKind.wrap, IntKind.bits, IntKind.signed]
  omega
theorem wr1 {n : Nat} {m : Nat} (h : n < m) (hm : m ≤ maxL) : wr .i64 ((n : Int) + 1) = ((n + 1 : Nat) : Int) := by
  unfold maxL at hm
  rw [wr64 (by omega) (by omega)]; simp

theorem eqIntS (xs ys : List Int) (hx : xs.length ≤ maxL) (hy : ys.length ≤ maxL) : ACall Try.prog 18 [.p (.l (ints xs)), .p (.l (ints ys))] [] (fun r H => r = .p (.b (decide (xs = ys)))) := by
  refine call18 (by simp) ?_
  simp only [mc18, mr18, go_sem, Nat.reduceEqDiff, reduceIte, ↓reduceIte, Nat.reduceAdd, ints_len]
  intro _ _
  refine condK_split _ (fun hc => ?_) (fun hc => ?_)
  · simp only [go_sem, Nat.reduceEqDiff, reduceIte, ↓reduceIte, Nat.reduceAdd]
    have : xs ≠ ys := by rintro rfl; simp at hc
    simp [this]
  · have hl : xs.length = ys.length := by simp at hc; omega
    simp only [go_sem, Nat.reduceEqDiff, reduceIte, ↓reduceIte, Nat.reduceAdd]
    refine ⟨Nat, [0, 1, 4, 5], fun i st => i ≤ xs.length ∧ xs.take i = ys.take i ∧ st = ⟨[(0, .p (.l (ints xs))), (1, .p (.l (ints ys))), (4, .p (.b false)), (5, .p (.i .i64 i))], [], []⟩, fun i => xs.length - i, ⟨0, ?_⟩, ?_⟩
    · simp only [go_sem, Nat.reduceEqDiff, reduceIte, ↓reduceIte, Nat.reduceAdd]
      exact ⟨Nat.zero_le _, rfl, rfl⟩
    · rintro i st ⟨hi, ht, rfl⟩
      simp only [go_sem, Nat.reduceEqDiff, reduceIte, ↓reduceIte, Nat.reduceAdd, ints_len]
      intro _
      refine condK_split _ (fun hc => ?_) (fun hc => ?_)
      · have hil : i < xs.length := by simpa using hc
        have hiy : i < ys.length := by omega
        simp only [go_sem, Nat.reduceEqDiff, reduceIte, ↓reduceIte, Nat.reduceAdd]
        (refine drw_same ?_; simp only [go_sem, Nat.reduceEqDiff, reduceIte, ↓reduceIte, Nat.reduceAdd, ints_at _ hil, ints_at _ hiy])
        refine condK_split _ (fun hd => ?_) (fun hd => ?_)
        · simp only [go_sem, Nat.reduceEqDiff, reduceIte, ↓reduceIte, Nat.reduceAdd]
          have : xs ≠ ys := by rintro rfl; simp at hd
          simp [this]
        · simp only [go_sem, Nat.reduceEqDiff, reduceIte, ↓reduceIte, Nat.reduceAdd]
          have he : xs[i] = ys[i] := by simpa using hd
          refine ⟨i + 1, ⟨hil, ?_, ?_⟩, by omega⟩
          · rw [List.take_succ, List.take_succ, ht, List.getElem?_eq_getElem hil, List.getElem?_eq_getElem hiy, he]
          · rw [wr1 hil hx]
      · have hil : i = xs.length := by simp at hc; omega
        simp only [go_sem, Nat.reduceEqDiff, reduceIte, ↓reduceIte, Nat.reduceAdd]
        subst hil
        have : xs = ys := by
          rw [List.take_length, hl, List.take_length] at ht
          exact ht
        simp [this]

/-- the place of the first greatest -/
def IsHot (zs : List Int) (j : Nat) : Prop := ∃ h : j < zs.length, ∀ k (hk : k < zs.length), zs[k] ≤ zs[j] ∧ (k < j → zs[k] < zs[j])

theorem IsHot.uniq {zs : List Int} {j j' : Nat} (h : IsHot zs j) (h' : IsHot zs j') : j = j' := by
  obtain ⟨a, b⟩ := h
  obtain ⟨a', b'⟩ := h'
  rcases Nat.lt_trichotomy j j' with hlt | he | hlt
  · have := (b' j a).2 hlt; have := (b j' a').1; omega
  · exact he
  · have := (b j' a').2 hlt; have := (b' j a).1; omega

def HotRes (zs : List Int) (r : AV) : Prop :=
  (zs = [] ∧ r = .tup [.p (.i .i64 (-1)), .p (.i .i64 0)]) ∨ ∃ j, ∃ h : j < zs.length, IsHot zs j ∧ r = .tup [.p (.i .i64 j), .p (.i .i64 zs[j])]

theorem specHottest (zs : List Int) (hz : zs.length ≤ maxL) : ACall Try.prog 15 [.p (.l (ints zs))] [] (fun r H => HotRes zs r) := by
  refine call15 (by simp) ?_
  simp only [mc15, mr15, go_sem, Nat.reduceEqDiff, reduceIte, ↓reduceIte, Nat.reduceAdd, ints_len]
  intro _
  refine condK_split _ (fun hc => ?_) (fun hc => ?_)
  · simp only [go_sem, Nat.reduceEqDiff, reduceIte, ↓reduceIte, Nat.reduceAdd]
    have : zs = [] := by apply List.eq_nil_of_length_eq_zero; simp at hc; simp [hc]
    exact .inl ⟨this, rfl⟩
  · have hpos : 0 < zs.length := by simp at hc; exact List.length_pos_iff.2 (by rintro rfl; simp at hc)
    simp only [go_sem, Nat.reduceEqDiff, reduceIte, ↓reduceIte, Nat.reduceAdd]
    refine ⟨Nat × Nat, [0, 2, 3, 4, 5], fun x st => x.1 ≤ zs.length ∧ (∃ hb : x.2 < zs.length, ∀ k (hk : k < zs.length), k < x.1 → zs[k] ≤ zs[x.2] ∧ (k < x.2 → zs[k] < zs[x.2])) ∧ (x.2 < x.1 ∨ x.2 = 0) ∧
      st = ⟨[(0, .p (.l (ints zs))), (2, .p (.i .i64 0)), (3, .p (.i .i64 0)), (4, .p (.i .i64 x.2)), (5, .p (.i .i64 x.1))], [], []⟩, fun x => zs.length - x.1, ⟨(0, 0), ?_⟩, ?_⟩
    · simp only [go_sem, Nat.reduceEqDiff, reduceIte, ↓reduceIte, Nat.reduceAdd]
      exact ⟨Nat.zero_le _, ⟨hpos, fun k hk h0 => by omega⟩, .inr trivial, rfl⟩
    · rintro ⟨i, b⟩ st ⟨hi, ⟨hb, hmax⟩, hbi, rfl⟩
      simp only at hi hb hmax hbi
      simp only [go_sem, Nat.reduceEqDiff, reduceIte, ↓reduceIte, Nat.reduceAdd, ints_len]
      intro _
      refine condK_split _ (fun hc => ?_) (fun hc => ?_)
      · have hil : i < zs.length := by simpa using hc
        simp only [go_sem, Nat.reduceEqDiff, reduceIte, ↓reduceIte, Nat.reduceAdd]
        (refine drw_same ?_; simp only [go_sem, Nat.reduceEqDiff, reduceIte, ↓reduceIte, Nat.reduceAdd, ints_at _ hil, ints_at _ hb])
        refine condK_split _ (fun hd => ?_) (fun hd => ?_)
        · simp only [go_sem, Nat.reduceEqDiff, reduceIte, ↓reduceIte, Nat.reduceAdd]
          have hgt : zs[b] < zs[i] := by simpa using hd
          refine ⟨(i + 1, i), ⟨hil, ⟨hil, fun k hk hki => ?_⟩, .inl (by simp), ?_⟩, by simp; omega⟩
          · simp only at hki ⊢
            by_cases e : k = i
            · subst e; exact ⟨Int.le_refl _, fun h => by omega⟩
            · have := (hmax k hk (by omega)).1
              exact ⟨by omega, fun _ => by omega⟩
          · rw [wr1 hil hz]
        · simp only [go_sem, Nat.reduceEqDiff, reduceIte, ↓reduceIte, Nat.reduceAdd]
          have hle : zs[i] ≤ zs[b] := by simpa using hd
          refine ⟨(i + 1, b), ⟨hil, ⟨hb, fun k hk hki => ?_⟩, ?_, ?_⟩, by simp; omega⟩
          · simp only at hki ⊢
            by_cases e : k = i
            · subst e; exact ⟨hle, fun h => by omega⟩
            · exact hmax k hk (by omega)
          · rcases hbi with h | h
            · exact .inl (by simp; omega)
            · exact .inr h
          · rw [wr1 hil hz]
      · have hil : i = zs.length := by simp at hc; omega
        simp only [go_sem, Nat.reduceEqDiff, reduceIte, ↓reduceIte, Nat.reduceAdd]
        (refine drw_same ?_; simp only [go_sem, Nat.reduceEqDiff, reduceIte, ↓reduceIte, Nat.reduceAdd, ints_at _ hb])
        exact .inr ⟨b, hb, ⟨hb, fun k hk => hmax k hk (by omega)⟩, rfl⟩

/-- rows of which the first i are laid -/
def fill {α : Type} (f : α → List AV) (z : List AV) (zs : List α) (i : Nat) : List (List AV) := (zs.take i).map f ++ List.replicate (zs.length - i) z
theorem fill_zero {α : Type} (f : α → List AV) (z : List AV) (zs : List α) : fill f z zs 0 = List.replicate zs.length z := by simp [fill]
theorem fill_all {α : Type} (f : α → List AV) (z : List AV) (zs : List α) : fill f z zs zs.length = zs.map f := by simp [fill]
theorem fill_len {α : Type} (f : α → List AV) (z : List AV) (zs : List α) {i : Nat} (h : i ≤ zs.length) : (fill f z zs i).length = zs.length := by simp [fill]; omega
theorem fill_get {α : Type} (f : α → List AV) (z : List AV) (zs : List α) {i : Nat} (h : i < zs.length) : (fill f z zs i)[i]? = some z := by
  unfold fill
  rw [List.getElem?_append_right (by simp; omega), List.getElem?_replicate]
  simp; omega
theorem fill_set {α : Type} (f : α → List AV) (z : List AV) (zs : List α) {i : Nat} (h : i < zs.length) : (fill f z zs i).set i (f zs[i]) = fill f z zs (i + 1) := by
  unfold fill
  rw [List.set_append_right _ _ (by simp; omega), List.take_succ, List.getElem?_eq_getElem h]
  have h1 : zs.length - i = (zs.length - (i + 1)) + 1 := by omega
  have h2 : i - ((zs.take i).map f).length = 0 := by simp; omega
  rw [h1, h2, List.replicate_succ]
  simp only [List.set_cons_zero, List.map_append, List.append_assoc, Option.toList_some, List.map_cons, List.map_nil, List.cons_append, List.nil_append]

theorem toIntS (zs : List Int) (hz : zs.length ≤ 1048576) (H : List AO) : ACall Try.prog 16 [.p (.l (ints zs))] H (fun r H' => r = .gs H.length 0 0 zs.length ∧ H' = H ++ [.rows 1 0 (zs.map fun z => [.p (.i .i64 z)])]) := by
  have hm : zs.length ≤ maxL := by unfold maxL; omega
  refine call16 (by simp) ?_
  simp only [mc16, mr16, go_sem, Nat.reduceEqDiff, reduceIte, ↓reduceIte, Nat.reduceAdd, ints_len]
  intro _
  refine ⟨by omega, by omega, by omega, ?_⟩
  refine ⟨Nat, [0, 2, 3, 4], fun i st => i ≤ zs.length ∧ st = ⟨[(0, .p (.l (ints zs))), (2, .p .nl), (3, .gs H.length 0 0 zs.length), (4, .p (.i .i64 i))], [], H ++ [.rows 1 0 (fill (fun z => [.p (.i .i64 z)]) [.p (.i .i64 0)] zs i)]⟩, fun i => zs.length - i, ⟨0, ?_⟩, ?_⟩
  · simp only [go_sem, Nat.reduceEqDiff, reduceIte, ↓reduceIte, Nat.reduceAdd]
    exact ⟨Nat.zero_le _, by rw [fill_zero]; rfl⟩
  · rintro i st ⟨hi, rfl⟩
    simp only [go_sem, Nat.reduceEqDiff, reduceIte, ↓reduceIte, Nat.reduceAdd, ints_len]
    intro _
    refine condK_split _ (fun hc => ?_) (fun hc => ?_)
    · have hil : i < zs.length := by simpa using hc
      simp only [go_sem, Nat.reduceEqDiff, reduceIte, ↓reduceIte, Nat.reduceAdd, ints_at _ hil, List.getElem?_append_right (Nat.le_refl _), Nat.sub_self, fill_get _ _ _ hil]
      refine ⟨by omega, ?_⟩
      rw [stoR_at (fill_get _ _ _ hil) rfl]
      simp only [go_sem, Nat.reduceEqDiff, reduceIte, ↓reduceIte, Nat.reduceAdd]
      refine ⟨i + 1, ⟨hil, ?_⟩, by omega⟩
      rw [wr1 hil hm, List.set_append_right _ _ (Nat.le_refl _), Nat.sub_self, List.set_cons_zero, ← fill_set _ _ _ hil]
    · have hil : i = zs.length := by simp at hc; omega
      simp only [go_sem, Nat.reduceEqDiff, reduceIte, ↓reduceIte, Nat.reduceAdd]
      subst hil
      rw [fill_all]

theorem maxS (zs : List Int) (hz : zs.length ≤ maxL) (hpos : 0 < zs.length) : ACall Try.prog 66 [.p (.l (ints zs))] [] (fun r H => ∃ m, r = .p (.i .i64 m) ∧ m ∈ zs ∧ ∀ z ∈ zs, z ≤ m) := by
  refine call66 (by simp) ?_
  simp only [mc66, mr66, go_sem, Nat.reduceEqDiff, reduceIte, ↓reduceIte, Nat.reduceAdd, ints_len]
  intro _
  refine condK_split _ (fun hc => ?_) (fun hc => ?_)
  · simp at hc; omega
  · simp only [go_sem, Nat.reduceEqDiff, reduceIte, ↓reduceIte, Nat.reduceAdd, Int.toNat_zero, ints_at _ hpos]
    refine ⟨by omega, ?_⟩
    refine ⟨Nat × Int, [0, 2, 3, 4], fun x st => 1 ≤ x.1 ∧ x.1 ≤ zs.length ∧ x.2 ∈ zs ∧ (∀ k (hk : k < zs.length), k < x.1 → zs[k] ≤ x.2) ∧
      st = ⟨[(0, .p (.l (ints zs))), (2, .p (.i .i64 0)), (3, .p (.i .i64 x.2)), (4, .p (.i .i64 x.1))], [], []⟩, fun x => zs.length - x.1, ⟨(1, zs[0]), ?_⟩, ?_⟩
    · simp only [go_sem, Nat.reduceEqDiff, reduceIte, ↓reduceIte, Nat.reduceAdd]
      refine ⟨Nat.le_refl _, hpos, List.getElem_mem hpos, fun k hk h1 => ?_, rfl⟩
      have : k = 0 := by omega
      subst this
      exact Int.le_refl _
    · rintro ⟨i, m⟩ st ⟨h1, hi, hm, hmax, rfl⟩
      simp only at h1 hi hm hmax
      simp only [go_sem, Nat.reduceEqDiff, reduceIte, ↓reduceIte, Nat.reduceAdd, ints_len]
      intro _
      refine condK_split _ (fun hc => ?_) (fun hc => ?_)
      · have hil : i < zs.length := by simpa using hc
        simp only [go_sem, Nat.reduceEqDiff, reduceIte, ↓reduceIte, Nat.reduceAdd, ints_at _ hil]
        refine ⟨(i + 1, if zs[i] > m then zs[i] else m), ⟨by omega, hil, ?_, ?_, ?_⟩, by simp; omega⟩
        · simp only; split
          · exact List.getElem_mem hil
          · exact hm
        · intro k hk hki
          simp only at hki ⊢
          by_cases e : k = i
          · subst e; split <;> omega
          · have := hmax k hk (by omega)
            split <;> omega
        · rw [wr1 hil hz]
      · have hil : i = zs.length := by simp at hc; omega
        simp only [go_sem, Nat.reduceEqDiff, reduceIte, ↓reduceIte, Nat.reduceAdd]
        refine ⟨m, rfl, hm, fun z hzm => ?_⟩
        obtain ⟨k, hk, rfl⟩ := List.mem_iff_getElem.1 hzm
        exact hmax k hk (by omega)

theorem indexS (zs : List Int) (hz : zs.length ≤ maxL) (m : Int) (hm : m ∈ zs) : ACall Try.prog 67 [.p (.l (ints zs)), .p (.i .i64 m)] [] (fun r H => ∃ j, ∃ h : j < zs.length, r = .p (.i .i64 j) ∧ zs[j] = m ∧ ∀ k (hk : k < zs.length), k < j → zs[k] ≠ m) := by
  refine call67 (by simp) ?_
  simp only [mc67, mr67, go_sem, Nat.reduceEqDiff, reduceIte, ↓reduceIte, Nat.reduceAdd, ints_len]
  intro _
  refine ⟨Nat, [0, 1, 4, 7, 8], fun i st => i ≤ zs.length ∧ (∀ k (hk : k < zs.length), k < i → zs[k] ≠ m) ∧
      st = ⟨[(0, .p (.l (ints zs))), (1, .p (.i .i64 m)), (4, .p (.i .i64 0)), (7, .p (.i .i64 zs.length)), (8, .p (.i .i64 i))], [], []⟩, fun i => zs.length - i, ⟨0, ?_⟩, ?_⟩
  · simp only [go_sem, Nat.reduceEqDiff, reduceIte, ↓reduceIte, Nat.reduceAdd]
    exact ⟨Nat.zero_le _, fun k hk h0 => by omega, rfl⟩
  · rintro i st ⟨hi, hne, rfl⟩
    simp only [go_sem, Nat.reduceEqDiff, reduceIte, ↓reduceIte, Nat.reduceAdd, ints_len]
    refine condK_split _ (fun hc => ?_) (fun hc => ?_)
    · have hil : i < zs.length := by simpa using hc
      simp only [go_sem, Nat.reduceEqDiff, reduceIte, ↓reduceIte, Nat.reduceAdd, ints_at _ hil]
      refine condK_split _ (fun hd => ?_) (fun hd => ?_)
      · simp only [go_sem, Nat.reduceEqDiff, reduceIte, ↓reduceIte, Nat.reduceAdd]
        have he : m = zs[i] := by simpa using hd
        exact ⟨i, hil, rfl, he.symm, hne⟩
      · simp only [go_sem, Nat.reduceEqDiff, reduceIte, ↓reduceIte, Nat.reduceAdd]
        have he : ¬ m = zs[i] := by simpa using hd
        refine ⟨i + 1, ⟨hil, fun k hk hki => ?_, ?_⟩, by omega⟩
        · by_cases e : k = i
          · subst e; exact fun h => he h.symm
          · exact hne k hk (by omega)
        · rw [wr1 hil hz]
    · have hil : i = zs.length := by simp at hc; omega
      obtain ⟨k, hk, rfl⟩ := List.mem_iff_getElem.1 hm
      exact (hne k hk (by omega) rfl).elim

theorem implHottest (zs : List Int) (hz : zs.length ≤ maxL) : ACall Try.prog 17 [.p (.l (ints zs))] [] (fun r H => HotRes zs r) := by
  refine call17 (by simp) ?_
  simp only [mc17, mr17, go_sem, Nat.reduceEqDiff, reduceIte, ↓reduceIte, Nat.reduceAdd, ints_len]
  intro _
  refine condK_split _ (fun hc => ?_) (fun hc => ?_)
  · simp only [go_sem, Nat.reduceEqDiff, reduceIte, ↓reduceIte, Nat.reduceAdd]
    have : zs = [] := by apply List.eq_nil_of_length_eq_zero; simp at hc; simp [hc]
    exact .inl ⟨this, rfl⟩
  · have hpos : 0 < zs.length := by simp at hc; exact List.length_pos_iff.2 (by rintro rfl; simp at hc)
    simp only [go_sem, Nat.reduceEqDiff, reduceIte, ↓reduceIte, Nat.reduceAdd]
    refine (acall_lend (maxS zs hz hpos) (fun r H' ⟨m, hr, _⟩ => by subst hr; exact grnd_i _ _) (lentAll_cons (.pure _) (lentAll_nil _))).mono ?_
    rintro r H' ⟨rfl, _, m, rfl, hm, hmax⟩
    simp only [go_sem, Nat.reduceEqDiff, reduceIte, ↓reduceIte, Nat.reduceAdd]
    refine (acall_lend (indexS zs hz m hm) (fun r H' ⟨j, h, hr, _⟩ => by subst hr; exact grnd_i _ _) (lentAll_cons (.pure _) (lentAll_cons (.pure _) (lentAll_nil _)))).mono ?_
    rintro r H' ⟨rfl, _, j, hj, rfl, hjm, hne⟩
    simp only [go_sem, Nat.reduceEqDiff, reduceIte, ↓reduceIte, Nat.reduceAdd]
    refine .inr ⟨j, hj, ⟨hj, fun k hk => ⟨?_, fun hkj => ?_⟩⟩, ?_⟩
    · rw [hjm]; exact hmax _ (List.getElem_mem hk)
    · have h1 := hmax _ (List.getElem_mem hk)
      have h2 := hne k hk hkj
      rw [hjm]; omega
    · rw [hjm]

theorem hot_ground {zs : List Int} {r : AV} (h : HotRes zs r) : Grnd r := by
  rcases h with ⟨_, rfl⟩ | ⟨j, hj, _, rfl⟩
  · exact grnd_tup _ (by simp; exact ⟨grnd_i _ _, grnd_i _ _⟩)
  · exact grnd_tup _ (by simp; exact ⟨grnd_i _ _, grnd_i _ _⟩)

theorem hot_form {zs : List Int} {r r' : AV} (h : HotRes zs r) (h' : HotRes zs r') : ∃ a b : Int, r = .tup [.p (.i .i64 a), .p (.i .i64 b)] ∧ r' = .tup [.p (.i .i64 a), .p (.i .i64 b)] := by
  rcases h with ⟨h, rfl⟩ | ⟨j, hj, hh, rfl⟩ <;> rcases h' with ⟨h2, rfl⟩ | ⟨j', hj', hh', rfl⟩
  · exact ⟨_, _, rfl, rfl⟩
  · subst h; simp at hj'
  · subst h2; simp at hj
  · have := hh.uniq hh'
    subst this
    exact ⟨_, _, rfl, rfl⟩

theorem lent_ints (zs : List Int) {H : List AO} {id : Nat} (hid : H[id]? = some (.rows 1 0 (zs.map fun z => [.p (.i .i64 z)]))) : Lent H (.gs id 0 0 zs.length) (.p (.l (ints zs))) := by
  refine .gs id 0 0 _ 1 _ (ints zs) hid (by simp) (ints_len zs) (fun y hy => by obtain ⟨z, _, rfl⟩ := List.mem_map.1 hy; rfl) ?_
  intro i r y j c q hr hy hc hq
  rw [Nat.zero_add, List.getElem?_map] at hr
  rw [ints_get] at hy
  cases hz : zs[i]? with
  | none => rw [hz] at hr; cases hr
  | some z =>
    rw [hz] at hr hy
    cases hr; cases hy
    cases j with
    | zero => cases hc; cases hq; exact .pure _
    | succ j => simp at hc

theorem law (zs : List Int) (hz : zs.length ≤ maxL) : ACall Try.prog 3 [.p (.l (ints zs))] [] (fun r _ => r = .p (.b true)) := by
  refine call3 (by simp) ?_
  simp only [mc3, mr3, go_sem, Nat.reduceEqDiff, reduceIte, ↓reduceIte, Nat.reduceAdd, ints_len]
  intro _
  refine condK_split _ (fun hc => ?_) (fun hc => ?_)
  · simp only [go_sem, Nat.reduceEqDiff, reduceIte, ↓reduceIte, Nat.reduceAdd]
  · have hn : zs.length ≤ 1048576 := by simp at hc; omega
    simp only [go_sem, Nat.reduceEqDiff, reduceIte, ↓reduceIte, Nat.reduceAdd]
    refine (toIntS zs hn []).mono ?_
    rintro r H' ⟨rfl, rfl⟩
    simp only [go_sem, Nat.reduceEqDiff, reduceIte, ↓reduceIte, Nat.reduceAdd]
    refine (acall_lend (specHottest zs hz) (fun r H' h => hot_ground h) (lentAll_cons (lent_ints zs rfl) (lentAll_nil _))).mono ?_
    rintro r H' ⟨rfl, _, hr⟩
    have hr0 := hr
    obtain ⟨a, b, rfl, _⟩ := hot_form hr hr
    simp only [go_sem, Nat.reduceEqDiff, reduceIte, ↓reduceIte, Nat.reduceAdd]
    refine (toIntS zs hn _).mono ?_
    rintro r H' ⟨rfl, rfl⟩
    simp only [go_sem, Nat.reduceEqDiff, reduceIte, ↓reduceIte, Nat.reduceAdd]
    refine (acall_lend (implHottest zs hz) (fun r H' h => hot_ground h) (lentAll_cons (lent_ints zs rfl) (lentAll_nil _))).mono ?_
    rintro r H' ⟨rfl, _, hr'⟩
    obtain ⟨a', b', e1, rfl⟩ := hot_form hr0 hr'
    cases e1
    simp only [go_sem, Nat.reduceEqDiff, reduceIte, ↓reduceIte, Nat.reduceAdd]
    refine (toIntS zs hn _).mono ?_
    rintro r H' ⟨rfl, rfl⟩
    simp only [go_sem, Nat.reduceEqDiff, reduceIte, ↓reduceIte, Nat.reduceAdd]
    refine (acall_lend (eqIntS zs zs hz hz) (fun r H' h => by subst h; exact grnd_b _) (lentAll_cons (lent_ints zs rfl) (lentAll_cons (lent_ints zs rfl) (lentAll_nil _)))).mono ?_
    rintro r H' ⟨rfl, _, rfl⟩
    simp only [go_sem, Nat.reduceEqDiff, reduceIte, ↓reduceIte, Nat.reduceAdd]

end Go.Proofs.Ytmbggdfceecojaa.Ho
