/- The whole: what the evaluation of a body's small code says, the model's run of the body does; a call of a function from its small code. -/
import Derived.Test.YtpaaiigpnbiglaaDoorAm22
import Derived.Laws.Sem
set_option linter.all false
namespace Go.AM
variable {lv : List Nat} {P : Program} {N : Nat} {θ : Th} {W : Im}

theorem code_ok (hm : P.follows .mixedOrders = true) : ∀ (c : Code) (Qs : Ex → St → Prop) (st : St) (a : Act) (w : World) (θ : Th) (W : Im), wpm (ACall P) (compile lv P N c) Qs st → Rl lv N st a w θ W → c.wp P (Cq lv N Qs θ W w) a w := by
  intro c
  induction c with
  | skip => intro Qs st a w θ W h hR; exact wp_skip ⟨st, θ, W, hR, Stp.refl _ _ _, h⟩
  | region id ops draw =>
    intro Qs st a w θ W h hR
    have fin : ∀ st' a' w' θ' W', regK (Qs .nm) st' → Rl lv N st' a' w' θ' W' → Stp θ W w θ' W' w' → Cq lv N Qs θ W w .normal a' w' :=
      fun st' a' w' θ' W' h1 h2 h3 => ⟨_, θ', W', h2.clear, h3, h1⟩
    cases draw with
    | false => exact wp_region_list (ops_ok ops.toList st a w θ W h hR fin)
    | true =>
      have h' : wpm (ACall P) (if drwOk (closOf ops) ops (tailAt (closOf ops) ops.size) (chains lv P ops (tailAt (closOf ops) ops.size)) then MC.drw ((ops.toList.take (tailAt (closOf ops) ops.size)).map fun o => unlen ops (cOper lv P N ops o)) ((ops.toList.drop (tailAt (closOf ops) ops.size)).map (cOper lv P N ops)) else .stop) Qs st := h
      split at h'
      · rename_i hd; exact drw_ok hm id hd h' hR fin
      · exact h'.elim
  | seq x y ihx ihy =>
    intro Qs st a w θ W h hR
    refine wp_seq (wp_mono (ihx _ st a w θ W h hR) fun e a' w' he => ?_)
    cases e with
    | normal =>
      obtain ⟨st', θ', W', h1, h2, h3⟩ := he
      exact wp_mono (ihy Qs st' a' w' θ' W' h3 h1) fun e a2 w2 h4 => h4.trans h2
    | exit id => exact he
    | ret => exact he
    | goto l => exact he
    | panic c => exact he
    | outgrown => exact he
  | cond c x y ihx ihy =>
    intro Qs st a w θ W h hR
    unfold compile at h
    split at h
    · rename_i m hx
      have h1 := hR.arg hx
      obtain ⟨b, hb, h2, h3⟩ := condK_inv h
      rw [hb] at h1
      exact wp_cond_split h1.b_inv (fun e => ihx Qs st a w θ W (h2 e) hR) (fun e => ihy Qs st a w θ W (h3 e) hR)
    · exact h.elim
  | block id x ih =>
    intro Qs st a w θ W h hR
    refine wp_block (wp_mono (ih _ st a w θ W h hR) fun e a' w' he => ?_)
    cases e with
    | normal => exact he
    | exit i =>
      obtain ⟨st', θ', W', h1, h2, h3⟩ := he
      have h3' : if i = id then Qs .nm st' else Qs (.ex i) st' := h3
      show if i = id then _ else _
      split
      · rename_i e; rw [if_pos e] at h3'; exact ⟨st', θ', W', h1, h2, h3'⟩
      · rename_i e; rw [if_neg e] at h3'; exact ⟨st', θ', W', h1, h2, h3'⟩
    | ret => exact he
    | goto l => exact he
    | panic c => exact he
    | outgrown => exact he
  | loop x ih =>
    intro Qs st a w θ W h hR
    obtain ⟨α, kl, I, μ, ⟨x0, h0⟩, hround⟩ := h
    refine wp_loop_ghost (fun z a' w' => ∃ st' θ' W', I z st' ∧ Rl lv N st' a' w' θ' W' ∧ Stp θ W w θ' W' w') μ x0 ⟨_, θ, W, h0, hR.keep kl, Stp.refl _ _ _⟩ ?_
    rintro z a1 w1 ⟨st1, θ1, W1, hI, hR1, hs1⟩
    refine wp_mono (ih _ st1 a1 w1 θ1 W1 (hround z st1 hI) hR1) fun e a' w' he => ?_
    cases e with
    | normal =>
      obtain ⟨st', θ', W', h1, h2, y, h3, h4⟩ := he
      exact ⟨y, ⟨_, θ', W', h3, h1.keep kl, hs1.trans h2⟩, h4⟩
    | exit id => exact Cq.trans (e := .exit id) hs1 he
    | ret => exact Cq.trans (e := .ret) hs1 he
    | goto l => exact he
    | panic c => exact he
    | outgrown => exact he
  | exit id => intro Qs st a w θ W h hR; exact wp_exit ⟨st, θ, W, hR, Stp.refl _ _ _, h⟩
  | ret => intro Qs st a w θ W h hR; exact wp_ret ⟨st, θ, W, hR, Stp.refl _ _ _, h⟩
  | rangeFunc f ps x y _ _ => intro Qs st a w θ W h hR; exact h.elim
  | scope x _ => intro Qs st a w θ W h hR; exact h.elim
  | label l => intro Qs st a w θ W h hR; exact h.elim
  | goto l => intro Qs st a w θ W h hR; exact h.elim
  | refuse s => intro Qs st a w θ W h hR; exact h.elim

/-! results -/
def resF (tmps : Array Value) : ResultVar → Sem Value
  | .tmp t => pure (tmps.getD t undef)
  | .cell a t => do loadVar t (← asAddr (tmps.getD a undef))

theorem res_ok {st : St} {a : Act} {w : World} (hR : Rl lv N st a w θ W) {r : ResultVar} {m : MR} (hr : cRes lv P r = some m) {x : AV} (hx : resV st m = some x) :
    ∃ v, (resF a.tmps r).run P w = .ok v w ∧ ARel θ W x v := by
  cases r with
  | tmp t =>
    simp only [cRes] at hr
    split at hr
    · rename_i hl; cases hr; cases hx
      exact ⟨_, rfl, hR.loc t hl⟩
    · cases hr
  | cell ad t =>
    simp only [cRes] at hr
    split at hr
    · rename_i hl
      split at hr
      · rename_i g n hg hn
        cases hr
        simp only [resV] at hx
        split at hx
        · rename_i id off e
          cases hc : ldAt st.H (.ptr id off) with
          | none => rw [hc] at hx; cases hx
          | some cs =>
            rw [hc] at hx
            have hv := hR.loc ad hl
            rw [e] at hv
            obtain ⟨q, hq, hrd⟩ := ldAt_reads hR.mem hv hc
            obtain ⟨v, h1, h2, _⟩ := hrd.load hg hn hx
            refine ⟨v, ?_, h2⟩
            simp only [resF, hq, asAddr, pure_bind]
            exact h1
        · cases hx
      · cases hr
    · cases hr

theorem ress_ok {st : St} {a : Act} {w : World} (hR : Rl lv N st a w θ W) : ∀ {rs : List ResultVar} {ms : List MR} (hr : cRess lv P rs = some ms) {xs : List AV} (hx : resVs st ms = some xs),
    ∃ vs : List Value, (rs.mapM (resF a.tmps)).run P w = .ok vs w ∧ Rels θ W xs vs.toArray ∧ vs.length = xs.length ∧ ms.length = xs.length
  | [], ms, hr, xs, hx => by
    cases hr; cases hx
    exact ⟨[], rfl, ⟨rfl, fun j a v hj => by simp at hj⟩, rfl, rfl⟩
  | r :: rs, ms, hr, xs, hx => by
    simp only [cRess] at hr
    split at hr
    · rename_i m l h1 h2
      cases hr
      simp only [resVs] at hx
      split at hx
      · rename_i v vs h3 h4
        cases hx
        obtain ⟨u, q1, q2⟩ := res_ok hR h1 h3
        obtain ⟨us, q3, q4, q5, q6⟩ := ress_ok hR h2 h4
        refine ⟨u :: us, ?_, ⟨by simp [q5], ?_⟩, by simp [q5], by simp [q6]⟩
        · simp only [List.mapM_cons, Sem.run_bind, q1, Result.andThen_ok, q3]
          rfl
        · intro j a v hj hu
          cases j with
          | zero => simp at hj hu; subst hj; subst hu; exact q2
          | succ j => simp at hj hu; exact q4.2 j a v hj (by simpa using hu)
      · cases hx
    · cases hr

theorem results_ok {st : St} {a : Act} {w : World} (hR : Rl lv N st a w θ W) {fn : Func} {ms : List MR} (hr : cRess lv P fn.results.toList = some ms) {x : AV} (hx : retV st ms = some x) :
    ∃ v, (results fn a.tmps).run P w = .ok v w ∧ ARel θ W x v := by
  have hform : (results fn a.tmps) = (do
      let vs ← Functor.map List.toArray (fn.results.toList.mapM (resF a.tmps))
      pure (if h : vs.size = 1 then vs[0] else .tuple vs)) := by
    unfold results
    rw [← Array.mapM_eq_mapM_toList]
    rfl
  have key : ∀ xs, resVs st ms = some xs → ∃ vs : List Value, (results fn a.tmps).run P w = .ok (if h : vs.toArray.size = 1 then vs.toArray[0] else .tuple vs.toArray) w ∧ Rels θ W xs vs.toArray ∧ vs.length = xs.length ∧ ms.length = xs.length := by
    intro xs hxs
    obtain ⟨vs, h1, h2, h3, h4⟩ := ress_ok hR hr hxs
    refine ⟨vs, ?_, h2, h3, h4⟩
    rw [hform]
    simp only [map_eq_pure_bind, Sem.run_bind, h1, Result.andThen_ok, Sem.run_pure]
  unfold retV at hx
  split at hx
  · rename_i r
    have hxs : resVs st [r] = some [x] := by simp [resVs, hx]
    obtain ⟨vs, h1, h2, h3, h4⟩ := key _ hxs
    match vs, h3, h1, h2 with
    | [v], _, h1, h2 => exact ⟨v, h1, h2.2 0 x v rfl rfl⟩
  · rename_i hne
    obtain ⟨xs, hxs, rfl⟩ := map_some_inv hx
    obtain ⟨vs, h1, h2, h3, h4⟩ := key _ hxs
    have hn1 : ¬ vs.toArray.size = 1 := by
      intro e
      have : ms.length = 1 := by simp at e; omega
      obtain ⟨r, e⟩ := List.length_eq_one_iff.1 this
      exact hne r e
    rw [dif_neg hn1] at h1
    exact ⟨_, h1, .tup _ _ (by simp [h3]) h2.2⟩

/-! calls -/
theorem eget_argEnv : ∀ (args : List AV) (i t : Nat), eget (argEnv i args) t = if i ≤ t then (args[t - i]?).getD .any else .any
  | [], i, t => by simp [argEnv, eget]
  | a :: as, i, t => by
    rw [argEnv, eget, eget_argEnv as (i + 1) t]
    by_cases h : i = t
    · subst h; simp
    · by_cases h1 : i ≤ t
      · rw [if_neg h, if_pos h1, if_pos (by omega)]
        rw [show t - i = (t - (i + 1)) + 1 by omega, List.getElem?_cons_succ]
      · rw [if_neg h, if_neg h1, if_neg (by omega)]

theorem acall_of (hm : P.follows .mixedOrders = true) {f : Nat} {fn : Func} {c : Code} (hf : P.funcs[f]? = some fn) (hb : fn.body = some c) (hng : (fn.name == "runtime.NumGoroutine") = false)
    {ms : List MR} (hr : cRess lv P fn.results.toList = some ms) {args : List AV} {H : List AO} {Q : AV → List AO → Prop} (hla : args.length ≤ fn.ntmps)
    (h : wpm (ACall P) (compile lv P fn.ntmps c) (finK ms Q) ⟨argEnv 0 args, [], H⟩) : ACall P f args H Q := by
  refine ⟨⟨fn, hf, by simp [hb], hng⟩, fun w θ W vs hSR hrel => ?_⟩
  refine calls_of_wp hf hb ?_
  have hsz : vs.size = args.length := hrel.1
  have hget : ∀ t, ARel θ W (eget (argEnv 0 args) t) ((vs ++ Array.replicate (fn.ntmps - vs.size) undef).getD t undef) := by
    intro t
    rw [eget_argEnv]
    simp only [Nat.zero_le, if_true, Nat.sub_zero]
    cases ht : args[t]? with
    | none => exact .any _
    | some x =>
      have hlt : t < vs.size := by rw [hsz]; exact (List.getElem?_eq_some_iff.1 ht).1
      have hv : vs[t]? = some vs[t] := by simp [hlt]
      have := hrel.2 t x _ ht hv
      simp only [Option.getD_some, Array.getD_eq_getD_getElem?, Array.getElem?_append_left hlt, hv]
      exact this
  have hR : Rl lv fn.ntmps ⟨argEnv 0 args, [], H⟩ { tmps := vs ++ Array.replicate (fn.ntmps - vs.size) undef, defers := [] } w θ W :=
    ⟨rfl, by simp; omega, fun t _ => hget t, fun t _ => .any _, hSR⟩
  refine wp_mono (code_ok hm c (finK ms Q) _ _ w θ W h hR) fun e a' w' he => ?_
  have fin : ∀ st' θ' W', Rl lv fn.ntmps st' a' w' θ' W' → Stp θ W w θ' W' w' → retK ms Q st' →
      a'.defers = [] ∧ ∃ v, (results fn a'.tmps).run P w' = .ok v w' ∧ ∃ v1 r H' θ' W', Ending.returned v = .returned v1 ∧ Q r H' ∧ SR θ' W' H' w' ∧ ARel θ' W' r v1 ∧ Stp θ W w θ' W' w' := by
    intro st' θ' W' h1 h2 h3
    unfold retK at h3
    split at h3
    · rename_i x hx
      obtain ⟨v, q1, q2⟩ := results_ok h1 hr hx
      exact ⟨h1.defers, v, q1, v, x, _, θ', W', rfl, h3, h1.mem, q2, h2⟩
    · exact h3.elim
  cases e with
  | normal => obtain ⟨st', θ', W', h1, h2, h3⟩ := he; exact fin st' θ' W' h1 h2 h3
  | ret => obtain ⟨st', θ', W', h1, h2, h3⟩ := he; exact fin st' θ' W' h1 h2 h3
  | exit id => obtain ⟨st', θ', W', h1, h2, h3⟩ := he; exact h3.elim
  | goto l => exact he.elim
  | panic c => exact he.elim
  | outgrown => exact he.elim

/-- the same, from the ties that were printed -/
theorem acall_mc (hm : P.follows .mixedOrders = true) {f : Nat} {fn : Func} {lv : List Nat} {N : Nat} {mc : MC} {ms : List MR} (hf : P.funcs[f]? = some fn) (hmc : fn.body.map (compile lv P N) = some mc) (hN : fn.ntmps = N)
    (hng : (fn.name == "runtime.NumGoroutine") = false) (hr : cRess lv P fn.results.toList = some ms) {args : List AV} {H : List AO} {Q : AV → List AO → Prop} (hla : args.length ≤ N)
    (h : wpm (ACall P) mc (finK ms Q) ⟨argEnv 0 args, [], H⟩) : ACall P f args H Q := by
  subst hN
  cases hb : fn.body with
  | none => rw [hb] at hmc; cases hmc
  | some c =>
    rw [hb] at hmc
    cases hmc
    exact acall_of hm hf hb hng hr hla h

end Go.AM
