/- Regions whose order is drawn: the theorem. -/
import Derived.Test.YtmbggdfceecojaaAm20
set_option linter.all false
namespace Go.AM
variable {lv : List Nat} {P : Program} {N : Nat} {K : St → Prop} {θ : Th} {W : Im}

theorem ACall.mono {f : Nat} {args : List AV} {H : List AO} {R R' : AV → List AO → Prop} (h : ACall P f args H R) (hr : ∀ r H', R r H' → R' r H') : ACall P f args H R' :=
  ⟨h.1, fun w θ W vs hm ha => (h.2 w θ W vs hm ha).mono fun e w' ⟨v, r, H', θ', W', h1, h2, h3⟩ => ⟨v, r, H', θ', W', h1, hr _ _ h2, h3⟩⟩

def unl : MO → MO
  | .len s x => .lenq s x
  | m => m

theorem unl_args (m : MO) : (unl m).args = m.args := by cases m <;> rfl

theorem unlen_eq (d : MD) (m : MO) (g : Option (MA × Bool)) : unlen ⟨d, m, g⟩ = ⟨d, unl m, g⟩ := by cases m <;> rfl

theorem unl_step {C : CallP} {m : MO} {d : MD} {s : St} (h : stepU C (unl m) d K s) : stepU C m d K s := by
  cases m with
  | len t x =>
    change withV (lenqV t (s.get x)) d K s at h
    rw [su_len]
    obtain ⟨v, hv, h⟩ := withV_inv h
    unfold lenqV at hv
    unfold lenK
    split at hv
    · cases hv; exact fun _ => h
    · cases hv; exact h
    · cases hv; exact fun _ => h
    · cases hv; exact fun _ => h
    · cases hv
  | _ => exact h

/-- what the checks of a drawn region give -/
structure DrwFacts (ops : Array Oper) (m : Nat) : Prop where
  le : m ≤ ops.size
  apart : ∀ i j, i < m → j < m → apartOk (closOf ops) ops i j = true
  lt : ∀ j o, ops[j]? = some o → ∀ e ∈ waitsOn o, e < j
  tail : ∀ j, m ≤ j → j < ops.size → ∀ i, i < j → waitsT (closOf ops) j i = true

theorem drwOk_facts {ops : Array Oper} {m : Nat} (h : drwOk (closOf ops) ops m = true) : DrwFacts ops m := by
  unfold drwOk at h
  simp only [Bool.and_eq_true, decide_eq_true_eq, List.all_eq_true, List.mem_range] at h
  obtain ⟨⟨h1, h2⟩, h3⟩ := h
  refine ⟨h1, fun i j hi hj => h2 i hi j hj, ?_, ?_⟩
  · intro j o ho e he
    have hj : j < ops.size := (Array.getElem?_eq_some_iff.1 ho).1
    have := h3 j hj
    rw [ho] at this
    simp only [Bool.and_eq_true, List.all_eq_true, decide_eq_true_eq] at this
    exact this.1 e he
  · intro j hm hj i hi
    have := h3 j hj
    have ho : ops[j]? = some ops[j] := by simp [hj]
    rw [ho] at this
    simp only [Bool.and_eq_true, Bool.or_eq_true, decide_eq_true_eq] at this
    rcases this.2 with h' | h'
    · omega
    · unfold waitsAll at h'
      simp only [List.all_eq_true, List.mem_range] at h'
      exact h' i hi

theorem DrwFacts.uniq {ops : Array Oper} {m : Nat} (h : DrwFacts ops m) : Uniq ops m := by
  intro i j t hi hj h1 h2
  have := h.apart i j hi hj
  unfold apartOk at this
  unfold dstOf at h1 h2
  cases hx : ops[i]? with
  | none => rw [hx] at h1; cases h1
  | some x =>
    cases hy : ops[j]? with
    | none => rw [hy] at h2; cases h2
    | some y =>
      rw [hx] at h1; rw [hy] at h2
      simp only [Option.bind_some] at h1 h2
      rw [hx, hy] at this
      simp only [Bool.and_eq_true, Bool.or_eq_true, beq_iff_eq, bne_iff_ne] at this
      rcases this.2 with (h' | h') | h'
      · exact h'
      · rw [h1] at h'; simp at h'
      · rw [h1, h2] at h'; exact (h' rfl).elim

section
variable {ops : Array Oper} {m : Nat} {outs : Nat → Out} {s0 : St}

theorem op_agree (hf : DrwFacts ops m) {D : Nat → Bool} (hc : Closed ops D) {i : Nat} (hi : i < m) {o : Oper} (ho : ops[i]? = some o) (hDi : D i = false) (hready : ∀ e ∈ waitsOn o, D e = true) {t : Nat} (ht : t ∈ looks ops o) :
    eD lv ops m outs s0 (below i) t = eD lv ops m outs s0 D t := by
  unfold eD
  cases hw : wrOf ops m t with
  | none => rfl
  | some j =>
    obtain ⟨hj, hdj⟩ := wr_inv hw
    have hap := hf.apart i j hi hj
    unfold apartOk at hap
    unfold dstOf at hdj
    cases hy : ops[j]? with
    | none => rw [hy] at hdj; cases hdj
    | some y =>
      rw [hy] at hdj
      simp only [Option.bind_some] at hdj
      rw [ho, hy] at hap
      simp only [hdj, Bool.and_eq_true, Bool.or_eq_true, Bool.not_eq_true', decide_eq_true_eq] at hap
      have h1 := hap.1
      have hct : (looks ops o).contains t = true := by simpa using ht
      rcases h1 with (h1 | ⟨h1, h2⟩) | ⟨h1, h2⟩
      · rw [hct] at h1; cases h1
      · have hD := waitsT_closed hf.lt hc i j o ho hready h2
        simp [below, h1, hD]
      · have hD : D j = false := by
          cases e : D j with
          | false => rfl
          | true =>
            have := waitsT_closed hf.lt hc j i y hy (hc j y e hy) h2
            rw [hDi] at this; cases this
        have hnb : ¬ j < i := by omega
        simp [below, hnb, hD]

/-- the operations ahead of the tail, as they were compiled, and what is known of each -/
def PreOk (lv : List Nat) (P : Program) (N : Nat) (ops : Array Oper) (m : Nat) (outs : Nat → Out) (s0 : St) (pre : List MI) : Prop :=
  ∀ i o, i < m → ops[i]? = some o → ∃ m' g, cOp lv P o.op = some m' ∧ cGuard lv ops o.guard = some g ∧ o.dst.all (decide <| · < N) = true ∧ pre[i]? = some ⟨cDst lv o.dst, unl m', g⟩ ∧
    GoodI (ACall P) s0.H ⟨cDst lv o.dst, unl m', g⟩ (sts pre outs s0 i) (outs i)

theorem preOk_of {pre : List MI} (hpre : pre = (ops.toList.take m).map fun o => unlen (cOper lv P N ops o)) (hg : ∀ i o, pre[i]? = some o → GoodI (ACall P) s0.H o (sts pre outs s0 i) (outs i)) : PreOk lv P N ops m outs s0 pre := by
  intro i o hi ho
  have hp : pre[i]? = some (unlen (cOper lv P N ops o)) := by
    rw [hpre, List.getElem?_map, List.getElem?_take, if_pos hi]
    simp [ho]
  have hgood := hg i _ hp
  have hstop : ∀ s out, ¬ GoodI (ACall P) s0.H (unlen ⟨.no, .stop, none⟩) s out := by
    intro s out hh
    cases out with
    | val v => rcases hh with hh | hh <;> cases hh.1
    | new ob mk => cases hh.1
  unfold cOper at hgood hp
  split at hgood
  · rename_i m' g hm hgd
    rw [hm, hgd] at hp
    simp only at hp
    split at hgood
    · rename_i hd
      rw [if_pos hd, unlen_eq] at hp
      rw [unlen_eq] at hgood
      exact ⟨m', g, hm, hgd, hd, hp, hgood⟩
    · exact (hstop _ _ hgood).elim
  · exact (hstop _ _ hgood).elim

theorem slots_same {D : Nat → Bool} {i : Nat} (hn : isNew outs i = false) : slots m outs (with1 D i) = slots m outs D := by
  unfold slots
  apply List.map_congr_left
  intro j hj
  have hjn := (List.mem_filter.1 hj).2
  have hne : j ≠ i := by rintro rfl; rw [hn] at hjn; cases hjn
  simp [with1, hne]

theorem draw_step {pre : List MI} (hf : DrwFacts ops m) (hp : PreOk lv P N ops m outs s0 pre) {D : Nat → Bool} (hc : Closed ops D) {i : Nat} (hi : i < m) {o : Oper} (ho : ops[i]? = some o) (hDi : D i = false) (hready : ∀ e ∈ waitsOn o, D e = true)
    {a : Act} {w : World} {next : Act → World → Prop} {Q : Exit → Act → World → Prop} (hR : Rl lv N (SD ops m outs s0 D) a w θ W)
    (hk : ∀ a' w' θ' W', Rl lv N (SD ops m outs s0 (with1 D i)) a' w' θ' W' → Stp θ W w θ' W' w' → next a' w') :
    if Region.wanted o (yielded ops a.tmps) then o.wp P a w next Q else next (a.put o.dst undef) w := by
  have hu := hf.uniq
  obtain ⟨m', g, hm, hg, hdN, hpi, hgood⟩ := hp i o hi ho
  have hdst : ∀ k, k < m → ∃ o, pre[k]? = some o ∧ o.dst = cDst lv (dstOf ops k) := by
    intro k hk'
    have hks : k < ops.size := Nat.lt_of_lt_of_le hk' hf.le
    obtain ⟨m2, g2, _, _, _, hp2, _⟩ := hp k ops[k] hk' (by simp [hks])
    exact ⟨_, hp2, by simp [dstOf, hks]⟩
  have hdo : dstOf ops i = o.dst := by simp [dstOf, ho]
  obtain ⟨hcH, hcG⟩ := canon (lv := lv) (outs := outs) (s0 := s0) pre hu hdst i (by omega)
  have hag : ∀ t, t ∈ looks ops o → (sts pre outs s0 i).get (cTmp lv t) = (SD ops m outs s0 D).get (cTmp lv t) := by
    intro t ht
    rw [hcG t, SD_get hu, op_agree hf hc hi ho hDi hready ht]
  have hops : ∀ t, Operand.tmp t ∈ o.op.operands.toList → t ∈ looks ops o := by
    intro t ht
    unfold looks
    refine List.mem_append.2 (.inl ?_)
    exact List.mem_filterMap.2 ⟨_, ht, rfl⟩
  have hA : Agree m'.args (sts pre outs s0 i) (SD ops m outs s0 D) := by
    intro x hx
    rcases cOp_from hm x hx with ⟨v, rfl⟩ | ⟨t, rfl, ht⟩
    · rfl
    · exact hag t (hops t ht)
  have hA' : Agree (unl m').args (sts pre outs s0 i) (SD ops m outs s0 D) := by rw [unl_args]; exact hA
  have hext : Hext s0.H (SD ops m outs s0 D).H := by
    intro id ob hid
    have hlt : id < s0.H.length := (List.getElem?_eq_some_iff.1 hid).1
    show (s0.H ++ slots m outs D)[id]? = _
    rw [List.getElem?_append_left hlt, hid]
  have toNext : ∀ v, outs i = .val v → ∀ st' a' w' θ' W', st' = (SD ops m outs s0 D).put (cDst lv o.dst) v → Rl lv N st' a' w' θ' W' → Stp θ W w θ' W' w' → next a' w' := by
    intro v hv st' a' w' θ' W' hst hR' hs'
    subst hst
    refine hk a' w' θ' W' (hR'.congr (fun t => ?_) ?_) hs'
    · rw [get_put, SD_get hu, SD_get hu, eD_with hu hi, hdo]
      simp [valOf, hv]
    · rw [put_H]
      show s0.H ++ slots m outs D = s0.H ++ slots m outs (with1 D i)
      rw [slots_same (by simp [isNew, hv])]
  have main : GoodU (ACall P) s0.H (unl m') (cDst lv o.dst) (sts pre outs s0 i) (outs i) → o.wp P a w next Q := by
    intro hU
    cases hout : outs i with
    | val v =>
      rw [hout] at hU
      rcases hU with ⟨hq, h1⟩ | ⟨hq, h1⟩
      · have h2 := unl_step (h1 _ hA' hext)
        exact step_ok hm hdN h2 a w θ W next Q hR (toNext v hout)
      · unfold CallGood at h1
        have hst : stepU (ACall P) (unl m') (cDst lv o.dst) (fun t => t = (SD ops m outs s0 D).put (cDst lv o.dst) v) (SD ops m outs s0 D) := by
          split at h1
          · rename_i f args e
            rw [e] at hA'
            have h3 := h1 (slots m outs D)
            rw [Agree.gets (l := args) hA'] at h3
            rw [e]
            show ACall P f (gets (SD ops m outs s0 D) args) (s0.H ++ slots m outs D) _
            refine h3.mono ?_
            rintro r H' ⟨rfl, rfl⟩
            rfl
          · rename_i x args e
            rw [e] at hA'
            obtain ⟨f, caps, hx, h3⟩ := h1
            have h3 := h3 (slots m outs D)
            rw [Agree.gets (l := args) (fun y hy => hA' y (by simp [MO.args, hy]))] at h3
            rw [e]
            show calvK (ACall P) ((SD ops m outs s0 D).get x) (gets (SD ops m outs s0 D) args) _ _ _
            rw [← hA' x (by simp [MO.args]), hx]
            show ACall P f (gets (SD ops m outs s0 D) args ++ caps) (s0.H ++ slots m outs D) _
            refine h3.mono ?_
            rintro r H' ⟨rfl, rfl⟩
            rfl
          · exact h1.elim
        exact step_ok hm hdN (unl_step hst) a w θ W next Q hR (toNext v hout)
    | new ob mk =>
      rw [hout] at hU
      obtain ⟨hq, hn⟩ := hU
      have hn' := hn.agree hA'
      have hmm : unl m' = m' := by cases m' <;> first | rfl | cases hq
      rw [hmm] at hn'
      have hnew : isNew outs i = true := by simp [isNew, hout]
      have hrsv : (SD ops m outs s0 D).H[s0.H.length + rankNew outs i]? = some .rsv := by
        show (s0.H ++ slots m outs D)[s0.H.length + rankNew outs i]? = _
        rw [List.getElem?_append_right (by omega), show s0.H.length + rankNew outs i - s0.H.length = rankNew outs i by omega, slots_get hi hnew, hDi]
        rfl
      refine new_at hm hdN hn' hR _ hrsv (fun a' w' θ' W' hR' hs' => hk a' w' θ' W' (hR'.congr (fun t => ?_) ?_) hs')
      · rw [get_put, SD_get hu, eD_with hu hi, hdo]
        rw [get_H _ _ _ (SD ops m outs s0 D).H]
        have e1 : (⟨(SD ops m outs s0 D).L, (SD ops m outs s0 D).T, (SD ops m outs s0 D).H⟩ : St).get (cTmp lv t) = eD lv ops m outs s0 D t := SD_get hu D t
        rw [e1]
        simp [valOf, hout]
      · rw [put_H]
        show (s0.H ++ slots m outs D).set (s0.H.length + rankNew outs i) ob = s0.H ++ slots m outs (with1 D i)
        rw [List.set_append_right _ _ (by omega), show s0.H.length + rankNew outs i - s0.H.length = rankNew outs i by omega, ← slots_set hi hnew]
        simp [objOf, hout]
  unfold GoodI at hgood
  cases hgd : o.guard with
  | none =>
    rw [hgd] at hg
    cases hg
    have hw : Region.wanted o (yielded ops a.tmps) = true := by simp [Region.wanted, hgd]
    rw [if_pos hw]
    exact main hgood
  | some jw =>
    obtain ⟨j, want⟩ := jw
    rw [hgd] at hg
    simp only [cGuard] at hg
    split at hg
    case h_2 => cases hg
    case h_1 t ht =>
    cases hg
    obtain ⟨b, hb, h1, h2⟩ := hgood
    have htl : t ∈ looks ops o := by
      unfold looks
      refine List.mem_append.2 (.inr ?_)
      rw [hgd]
      simp only [ht]
      simp
    rw [hag t htl] at hb
    have hrel := hR.tmpArg t
    rw [hb] at hrel
    have e1 := hrel.b_inv
    simp only [Act.eval] at e1
    have hyield : yielded ops a.tmps j = some b := by
      have : a.tmps[t]? = some (.bool b) := by
        by_cases hlt : t < a.tmps.size
        · simp [Array.getD, hlt] at e1; simp [hlt, e1]
        · simp [Array.getD, hlt, undef] at e1
      simp [yielded, ht, this]
    by_cases e : b = want
    · have hw : Region.wanted o (yielded ops a.tmps) = true := by simp [Region.wanted, hgd, hyield, e]
      rw [if_pos hw]
      exact main (h1 e)
    · have hw : ¬ Region.wanted o (yielded ops a.tmps) = true := by simp [Region.wanted, hgd, hyield, e]
      rw [if_neg hw]
      exact toNext .any (h2 e) _ _ _ _ _ rfl (hR.put hdN (.any _) hR.mem (Stp.refl _ _ _)) (Stp.refl _ _ _)

end
end Go.AM
