/- Regions whose order is drawn: whatever order, the state is that of the order of the text. -/
import Derived.Test.YtmbggdfceecojaaAm19
set_option linter.all false
namespace Go.AM
variable {lv : List Nat} {P : Program} {N : Nat} {K : St → Prop} {θ : Th} {W : Im}

/-! what an operation waits for -/
theorem closStep_bit (acc : List Nat) (es : List Nat) (i : Nat) : (closStep acc es).testBit i = true ↔ ∃ e ∈ es, i = e ∨ (acc.getD e 0).testBit i = true := by
  have key : ∀ (es : List Nat) (s : Nat), (es.foldl (fun s e => s ||| 2 ^ e ||| acc.getD e 0) s).testBit i = true ↔ s.testBit i = true ∨ ∃ e ∈ es, i = e ∨ (acc.getD e 0).testBit i = true := by
    intro es
    induction es with
    | nil => intro s; simp
    | cons e es ih =>
      intro s
      rw [List.foldl_cons, ih]
      simp only [Nat.testBit_or, Bool.or_eq_true, List.mem_cons, exists_eq_or_imp, Nat.testBit_two_pow, decide_eq_true_eq]
      constructor
      · rintro (((h | h) | h) | h)
        · exact .inl h
        · exact .inr (.inl (.inl h.symm))
        · exact .inr (.inl (.inr h))
        · exact .inr (.inr h)
      · rintro (h | (h | h) | h)
        · exact .inl (.inl (.inl h))
        · exact .inl (.inl (.inr h.symm))
        · exact .inl (.inr h)
        · exact .inr h
  unfold closStep
  rw [key]
  simp

theorem clos_prefix : ∀ (ws : List (List Nat)) (acc : List Nat) (e : Nat), e < acc.length → (clos ws acc).getD e 0 = acc.getD e 0
  | [], acc, e, _ => rfl
  | es :: ws, acc, e, h => by
    rw [clos, clos_prefix ws _ e (by simp; omega)]
    simp [List.getD, List.getElem?_append_left h]

theorem clos_get : ∀ (ws : List (List Nat)) (acc : List Nat) (j : Nat) (es : List Nat), ws[j]? = some es →
    ∃ acc', (clos ws acc).getD (acc.length + j) 0 = closStep acc' es ∧ ∀ e, e < acc.length + j → acc'.getD e 0 = (clos ws acc).getD e 0
  | [], acc, j, es, h => by simp at h
  | es0 :: ws, acc, 0, es, h => by
    simp at h
    subst h
    refine ⟨acc, ?_, fun e he => ?_⟩
    · rw [clos, clos_prefix _ _ _ (by simp)]
      simp [List.getD]
    · rw [clos, clos_prefix _ _ _ (by simp; omega)]
      simp [List.getD, List.getElem?_append_left (show e < acc.length by omega)]
  | es0 :: ws, acc, j + 1, es, h => by
    obtain ⟨acc', h1, h2⟩ := clos_get ws (acc ++ [closStep acc es0]) j es (by simpa using h)
    refine ⟨acc', ?_, fun e he => ?_⟩
    · rw [clos, ← h1]; congr 1; simp; omega
    · rw [clos, h2 e (by simp; omega)]

def Closed (ops : Array Oper) (D : Nat → Bool) : Prop := ∀ j o, D j = true → ops[j]? = some o → ∀ e ∈ waitsOn o, D e = true

theorem waitsT_closed {ops : Array Oper} (hlt : ∀ j o, ops[j]? = some o → ∀ e ∈ waitsOn o, e < j) {D : Nat → Bool} (hc : Closed ops D) :
    ∀ (j i : Nat) (o : Oper), ops[j]? = some o → (∀ e ∈ waitsOn o, D e = true) → waitsT (closOf ops) j i = true → D i = true := by
  intro j
  induction j using Nat.strongRecOn with
  | _ j ih =>
    intro i o ho hw ht
    unfold waitsT closOf at ht
    have hws : (ops.toList.map waitsOn)[j]? = some (waitsOn o) := by simp [ho]
    obtain ⟨acc', h1, h2⟩ := clos_get (ops.toList.map waitsOn) [] j _ hws
    simp only [List.length_nil, Nat.zero_add] at h1 h2
    rw [h1, closStep_bit] at ht
    obtain ⟨e, he, hi⟩ := ht
    rcases hi with rfl | hi
    · exact hw _ he
    · have hej := hlt j o ho e he
      have hjl : j < ops.size := (Array.getElem?_eq_some_iff.1 ho).1
      have hoe : ops[e]? = some (ops[e]'(by omega)) := by simp [show e < ops.size by omega]
      rw [h2 e hej] at hi
      exact ih e hej i _ hoe (hc e _ (hw e he) hoe) hi

/-! the family of states -/
def dstOf (ops : Array Oper) (i : Nat) : Option Nat := (ops[i]?).bind (·.dst)
def isNew (outs : Nat → Out) (i : Nat) : Bool := match outs i with | .new .. => true | _ => false
def objOf (outs : Nat → Out) (i : Nat) : AO := match outs i with | .new ob _ => ob | _ => .dead
def isChn (outs : Nat → Out) (i : Nat) : Bool := match outs i with | .chn .. => true | _ => false
def rankNew (outs : Nat → Out) (i : Nat) : Nat := ((List.range i).filter (isNew outs)).length
def valOf (outs : Nat → Out) (b : Nat) (i : Nat) : AV := match outs i with | .val v => v | .new _ mk => mk (b + rankNew outs i) | .chn v _ => v
/-- the objects behind the last one with effects -/
def hcD (outs : Nat → Out) (H0 : List AO) (D : Nat → Bool) : Nat → List AO
  | 0 => H0
  | i + 1 => match outs i with
    | .chn _ Hc => if D i then Hc else hcD outs H0 D i
    | _ => hcD outs H0 D i
def wrOf (ops : Array Oper) (m t : Nat) : Option Nat := (List.range m).find? fun i => decide (dstOf ops i = some t)
def eD (lv : List Nat) (ops : Array Oper) (m : Nat) (outs : Nat → Out) (s0 : St) (D : Nat → Bool) (t : Nat) : AV :=
  match wrOf ops m t with
  | some i => if D i then valOf outs s0.H.length i else s0.get (cTmp lv t)
  | none => s0.get (cTmp lv t)
def slots (m : Nat) (outs : Nat → Out) (D : Nat → Bool) : List AO := ((List.range m).filter (isNew outs)).map fun i => if D i then objOf outs i else .rsv
def writes (ops : Array Oper) (m : Nat) (outs : Nat → Out) (b : Nat) (D : Nat → Bool) : En :=
  (List.range m).filterMap fun i => match dstOf ops i with
    | some t => if D i then some (t, valOf outs b i) else none
    | none => none
def SD (ops : Array Oper) (m : Nat) (outs : Nat → Out) (s0 : St) (D : Nat → Bool) : St :=
  ⟨writes ops m outs s0.H.length D ++ s0.L, writes ops m outs s0.H.length D ++ s0.T, hcD outs s0.H D m ++ slots m outs D⟩

def Uniq (ops : Array Oper) (m : Nat) : Prop := ∀ i j t, i < m → j < m → dstOf ops i = some t → dstOf ops j = some t → i = j

theorem eget_writes (key : Nat → Option Nat) (val : Nat → AV) (D : Nat → Bool) (B : En) (t : Nat) (l : List Nat) :
    eget (l.filterMap (fun i => match key i with | some k => if D i then some (k, val i) else none | none => none) ++ B) t =
      match l.find? (fun i => decide (key i = some t) && D i) with
      | some i => val i
      | none => eget B t := by
  induction l with
  | nil => rfl
  | cons i l ih =>
    rw [List.filterMap_cons, List.find?_cons]
    cases hk : key i with
    | none => simp only [ih]; simp
    | some k =>
      by_cases hD : D i = true
      · simp only [hD, if_true, List.cons_append, eget_cons, Bool.and_true]
        by_cases e : k = t
        · subst e; simp
        · rw [if_neg e, ih]
          simp [e]
      · simp only [hD, Bool.false_eq_true, if_false, Bool.and_false, ih]

theorem find_uniq {l : List Nat} {p D : Nat → Bool} (hu : ∀ i ∈ l, ∀ j ∈ l, p i = true → p j = true → i = j) :
    l.find? (fun i => p i && D i) = match l.find? p with | some i => if D i then some i else none | none => none := by
  induction l with
  | nil => rfl
  | cons i l ih =>
    have ih' := ih (fun a ha b hb => hu a (List.mem_cons_of_mem _ ha) b (List.mem_cons_of_mem _ hb))
    rw [List.find?_cons, List.find?_cons]
    by_cases hp : p i = true
    · simp only [hp, Bool.true_and]
      by_cases hD : D i = true
      · simp [hD]
      · simp only [hD, Bool.false_eq_true, if_false]
        rw [ih']
        cases hf : l.find? p with
        | none => rfl
        | some j =>
          have h1 := List.mem_of_find?_eq_some hf
          have h2 := List.find?_some hf
          have := hu i (by simp) j (List.mem_cons_of_mem _ h1) hp h2
          subst this
          simp [hD]
    · simp only [hp, Bool.false_and]
      exact ih'

section
variable {ops : Array Oper} {m : Nat} {outs : Nat → Out} {s0 : St}

theorem wr_inv {t j : Nat} (h : wrOf ops m t = some j) : j < m ∧ dstOf ops j = some t := by
  have h1 := List.mem_of_find?_eq_some h
  have h2 := List.find?_some h
  exact ⟨by simpa using h1, by simpa using h2⟩

theorem wr_of (hu : Uniq ops m) {t i : Nat} (hi : i < m) (hd : dstOf ops i = some t) : wrOf ops m t = some i := by
  cases h : wrOf ops m t with
  | none =>
    have := List.find?_eq_none.1 h i (by simpa using hi)
    simp [hd] at this
  | some j =>
    obtain ⟨h1, h2⟩ := wr_inv h
    rw [hu i j t hi h1 hd h2]

theorem SD_get (hu : Uniq ops m) (D : Nat → Bool) (t : Nat) : (SD ops m outs s0 D).get (cTmp lv t) = eD lv ops m outs s0 D t := by
  have key : ∀ B : En, eget (writes ops m outs s0.H.length D ++ B) t = match wrOf ops m t with
      | some i => if D i then valOf outs s0.H.length i else eget B t
      | none => eget B t := by
    intro B
    unfold writes
    rw [eget_writes, find_uniq (p := fun i => decide (dstOf ops i = some t)) (fun i hi j hj h1 h2 => hu i j t (by simpa using hi) (by simpa using hj) (by simpa using h1) (by simpa using h2))]
    show (match (match wrOf ops m t with | some i => if D i then some i else none | none => none) with | some i => valOf outs s0.H.length i | none => eget B t) = _
    cases wrOf ops m t with
    | none => rfl
    | some i => by_cases hD : D i = true <;> simp [hD]
  unfold eD
  unfold cTmp
  split
  · show eget (writes ops m outs s0.H.length D ++ s0.L) t = _
    rw [key]; rfl
  · show eget (writes ops m outs s0.H.length D ++ s0.T) t = _
    rw [key]; rfl

def below (i : Nat) : Nat → Bool := fun j => decide (j < i)
def with1 (D : Nat → Bool) (i : Nat) : Nat → Bool := fun j => D j || decide (j = i)

theorem eD_with (hu : Uniq ops m) {D : Nat → Bool} {i : Nat} (hi : i < m) (t : Nat) :
    eD lv ops m outs s0 (with1 D i) t = if dstOf ops i = some t then valOf outs s0.H.length i else eD lv ops m outs s0 D t := by
  unfold eD
  by_cases hd : dstOf ops i = some t
  · rw [if_pos hd, wr_of hu hi hd]
    simp [with1]
  · rw [if_neg hd]
    cases hw : wrOf ops m t with
    | none => rfl
    | some j =>
      have hj := (wr_inv hw).2
      have hne : j ≠ i := fun e => hd (e ▸ hj)
      simp [with1, hne]

theorem hcD_congr {H0 : List AO} {D D' : Nat → Bool} : ∀ {n : Nat}, (∀ j, j < n → isChn outs j = true → D j = D' j) → hcD outs H0 D n = hcD outs H0 D' n
  | 0, _ => rfl
  | n + 1, h => by
    have ih := hcD_congr (H0 := H0) (n := n) (fun j hj hc => h j (by omega) hc)
    unfold hcD
    cases ho : outs n with
    | chn v Hc => simp only [h n (by omega) (by simp [isChn, ho]), ih]
    | _ => simp only [ih]

theorem hcD_cut {H0 : List AO} {D : Nat → Bool} {i : Nat} : ∀ {n : Nat}, i ≤ n → (∀ j, i ≤ j → j < n → isChn outs j = true → D j = false) → hcD outs H0 D n = hcD outs H0 D i
  | 0, hi, _ => by rw [Nat.le_zero.1 hi]
  | n + 1, hi, h => by
    by_cases e : i = n + 1
    · rw [e]
    · have ih := hcD_cut (H0 := H0) (n := n) (by omega) (fun j h1 h2 => h j h1 (by omega))
      rw [← ih]
      show (match outs n with | .chn _ Hc => if D n then Hc else hcD outs H0 D n | _ => hcD outs H0 D n) = _
      cases ho : outs n with
      | chn v Hc => simp only [h n (by omega) (by omega) (by simp [isChn, ho]), Bool.false_eq_true, if_false]
      | _ => rfl

theorem hcD_ind {H0 : List AO} {D : Nat → Bool} {p : List AO → Prop} (h0 : p H0) : ∀ {n : Nat}, (∀ j v Hc, j < n → outs j = .chn v Hc → p Hc) → p (hcD outs H0 D n)
  | 0, _ => h0
  | n + 1, h => by
    have ih := hcD_ind (D := D) h0 (n := n) (fun j v Hc hj ho => h j v Hc (by omega) ho)
    unfold hcD
    cases ho : outs n with
    | chn v Hc =>
      simp only []
      split
      · exact h n v Hc (by omega) ho
      · exact ih
    | _ => exact ih

theorem canon (pre : List MI) (hu : Uniq ops m) (hd : ∀ i, i < m → ∃ o, pre[i]? = some o ∧ o.dst = cDst lv (dstOf ops i)) (hlen : ∀ i v Hc, i < m → outs i = .chn v Hc → Hc.length = s0.H.length) :
    ∀ i, i ≤ m → (sts pre outs (s0.H, ⟨s0.L, s0.T, []⟩) i).1 = hcD outs s0.H (fun _ => true) i ∧ (sts pre outs (s0.H, ⟨s0.L, s0.T, []⟩) i).1.length = s0.H.length ∧ (sts pre outs (s0.H, ⟨s0.L, s0.T, []⟩) i).2.H = ((List.range i).filter (isNew outs)).map (objOf outs) ∧
      ∀ t, (sts pre outs (s0.H, ⟨s0.L, s0.T, []⟩) i).2.get (cTmp lv t) = eD lv ops m outs s0 (below i) t := by
  intro i
  induction i with
  | zero =>
    intro _
    refine ⟨rfl, rfl, by simp [sts], fun t => ?_⟩
    unfold eD
    have : (sts pre outs (s0.H, ⟨s0.L, s0.T, []⟩) 0).2.get (cTmp lv t) = s0.get (cTmp lv t) := get_H _ _ _ _ _
    rw [this]
    cases wrOf ops m t <;> simp [below]
  | succ i ih =>
    intro hi
    obtain ⟨h0, hl, h1, h2⟩ := ih (by omega)
    obtain ⟨o, ho, hdst⟩ := hd i (by omega)
    have hb : below (i + 1) = with1 (below i) i := by
      funext j
      simp only [below, with1]
      by_cases hj : j < i
      · simp [hj, show j < i + 1 by omega]
      · by_cases e : j = i
        · simp [e]
        · simp [hj, e]; omega
    rw [hb]
    have hrange : (List.range (i + 1)).filter (isNew outs) = (List.range i).filter (isNew outs) ++ if isNew outs i then [i] else [] := by
      rw [List.range_succ, List.filter_append]
      congr 1
      by_cases hn : isNew outs i = true <;> simp [hn]
    rw [hrange]
    simp only [sts, ho, hdst]
    cases hout : outs i with
    | val v =>
      have hn : isNew outs i = false := by simp [isNew, hout]
      refine ⟨by simp only [outPut, h0, hcD, hout], hl, by simp [outPut, put_H, h1, hn], fun t => ?_⟩
      rw [eD_with hu (by omega)]
      simp only [outPut, get_put, h2 t]
      simp [valOf, hout]
    | chn v Hc =>
      have hn : isNew outs i = false := by simp [isNew, hout]
      refine ⟨by simp [outPut, hcD, hout], hlen i v Hc (by omega) hout, by simp [outPut, put_H, h1, hn], fun t => ?_⟩
      rw [eD_with hu (by omega)]
      simp only [outPut, get_put, h2 t]
      simp [valOf, hout]
    | new ob mk =>
      have hn : isNew outs i = true := by simp [isNew, hout]
      refine ⟨by simp only [outPut, h0, hcD, hout], hl, by simp [outPut, put_H, h1, hn, objOf, hout], fun t => ?_⟩
      rw [eD_with hu (by omega)]
      simp only [outPut, get_put]
      rw [get_H _ _ _ (sts pre outs (s0.H, ⟨s0.L, s0.T, []⟩) i).2.H]
      have e1 : (⟨(sts pre outs (s0.H, ⟨s0.L, s0.T, []⟩) i).2.L, (sts pre outs (s0.H, ⟨s0.L, s0.T, []⟩) i).2.T, (sts pre outs (s0.H, ⟨s0.L, s0.T, []⟩) i).2.H⟩ : St).get (cTmp lv t) = eD lv ops m outs s0 (below i) t := h2 t
      rw [e1]
      have e2 : mk ((sts pre outs (s0.H, ⟨s0.L, s0.T, []⟩) i).1.length + (sts pre outs (s0.H, ⟨s0.L, s0.T, []⟩) i).2.H.length) = valOf outs s0.H.length i := by
        simp [valOf, hout, h1, hl, rankNew]
      rw [e2]

theorem slots_get {i : Nat} (hi : i < m) (hn : isNew outs i = true) (D : Nat → Bool) : (slots m outs D)[rankNew outs i]? = some (if D i then objOf outs i else .rsv) := by
  have hsplit : (List.range m).filter (isNew outs) = (List.range i).filter (isNew outs) ++ i :: ((List.range' (i + 1) (m - i - 1)).filter (isNew outs)) := by
    have : List.range m = List.range i ++ i :: List.range' (i + 1) (m - i - 1) := by
      rw [List.range_eq_range', List.range_eq_range', show m = i + (1 + (m - i - 1)) by omega, ← List.range'_append_1, ← List.range'_append_1]
      simp [List.range'_succ]
    rw [this, List.filter_append, List.filter_cons, if_pos hn]
  unfold slots rankNew
  rw [hsplit, List.map_append, List.getElem?_append_right (by simp)]
  simp

theorem slots_set {i : Nat} (hi : i < m) (hn : isNew outs i = true) (D : Nat → Bool) : (slots m outs D).set (rankNew outs i) (objOf outs i) = slots m outs (with1 D i) := by
  have hl : (slots m outs D).length = ((List.range m).filter (isNew outs)).length := by simp [slots]
  apply List.ext_getElem?
  intro k
  have hnd : ((List.range m).filter (isNew outs)).Nodup := List.Pairwise.filter _ List.nodup_range
  have hri := slots_get hi hn (fun _ => true)
  have hgi : ((List.range m).filter (isNew outs))[rankNew outs i]? = some i := by
    have hsplit : (List.range m).filter (isNew outs) = (List.range i).filter (isNew outs) ++ i :: ((List.range' (i + 1) (m - i - 1)).filter (isNew outs)) := by
      have : List.range m = List.range i ++ i :: List.range' (i + 1) (m - i - 1) := by
        rw [List.range_eq_range', List.range_eq_range', show m = i + (1 + (m - i - 1)) by omega, ← List.range'_append_1, ← List.range'_append_1]
        simp [List.range'_succ]
      rw [this, List.filter_append, List.filter_cons, if_pos hn]
    unfold rankNew
    rw [hsplit, List.getElem?_append_right (Nat.le_refl _)]
    simp
  by_cases hk : k = rankNew outs i
  · subst hk
    rw [slots_get hi hn]
    rw [List.getElem?_set_self (by rw [hl]; exact (List.getElem?_eq_some_iff.1 hgi).1)]
    simp [with1]
  · rw [List.getElem?_set_ne (Ne.symm hk)]
    unfold slots
    simp only [List.getElem?_map]
    cases hg : ((List.range m).filter (isNew outs))[k]? with
    | none => rfl
    | some j =>
      have hne : j ≠ i := by
        rintro rfl
        have h1 := (List.getElem?_eq_some_iff.1 hgi)
        have h2 := (List.getElem?_eq_some_iff.1 hg)
        obtain ⟨a1, b1⟩ := h1
        obtain ⟨a2, b2⟩ := h2
        have hpw := List.pairwise_iff_getElem.1 hnd
        rcases Nat.lt_or_gt_of_ne hk with hlt | hlt
        · exact hpw _ _ a2 a1 hlt (by rw [b2, b1])
        · exact hpw _ _ a1 a2 hlt (by rw [b2, b1])
      simp [with1, hne]

end
end Go.AM
