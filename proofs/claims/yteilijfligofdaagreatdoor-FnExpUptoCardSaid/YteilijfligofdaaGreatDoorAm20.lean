/- Regions whose order is drawn: whatever order, the state is that of the order of the text. -/
import Derived.Test.YteilijfligofdaaGreatDoorAm19
set_option linter.all false
namespace Go.AM
variable {lv:List Nat} {P:Program} {N:Nat} {K:St->Prop} {θ:Th} {W:Im}
theorem closStep_bit (acc : List Nat) (es : List Nat) (i : Nat) : (closStep acc es).testBit i = true ↔ ∃ e ∈ es, i = e ∨ (acc.getD e 0).testBit i = true := by
  have key : ∀ (es : List Nat) (s : Nat), (es.foldl (fun s e => s ||| 2 ^ e ||| acc.getD e 0) s).testBit i = true ↔ s.testBit i = true ∨ ∃ e ∈ es, i = e ∨ (acc.getD e 0).testBit i = true := by
    intro es
    induction es with
    | nil => intro s; simp
    | cons e es ih =>
      intro s
      rw [List.foldl_cons, ih]
      simp only [Nat.testBit_or, Bool.or_eq_true, List.mem_cons, exists_eq_or_imp, Nat.testBit_two_pow, decide_eq_true_eq]
      constructor
      · rintro (((h | h) | h) | h)
        · exact .inl h
        · exact .inr (.inl (.inl h.symm))
        · exact .inr (.inl (.inr h))
        · exact .inr (.inr h)
      · rintro (h | (h | h) | h)
        · exact .inl (.inl (.inl h))
        · exact .inl (.inl (.inr h.symm))
        · exact .inl (.inr h)
        · exact .inr h
  unfold closStep
  rw [key]
  simp
theorem clos_prefix : ∀ (ws : List (List Nat)) (acc : List Nat) (e : Nat), e < acc.length → (clos ws acc).getD e 0 = acc.getD e 0
  | [], acc, e, _ => rfl
  | es :: ws, acc, e, h => by
    rw [clos, clos_prefix ws _ e (by simp; omega)]
    simp [List.getD, List.getElem?_append_left h]
theorem clos_get : ∀ (ws : List (List Nat)) (acc : List Nat) (j : Nat) (es : List Nat), ws[j]? = some es →
    ∃ acc', (clos ws acc).getD (acc.length + j) 0 = closStep acc' es ∧ ∀ e, e < acc.length + j → acc'.getD e 0 = (clos ws acc).getD e 0
  | [], acc, j, es, h => by simp at h
  | es0 :: ws, acc, 0, es, h => by
    simp at h
    subst h
    refine ⟨acc, ?_, fun e he => ?_⟩
    · rw [clos, clos_prefix _ _ _ (by simp)]
      simp [List.getD]
    · rw [clos, clos_prefix _ _ _ (by simp; omega)]
      simp [List.getD, List.getElem?_append_left (show e < acc.length by omega)]
  | es0 :: ws, acc, j + 1, es, h => by
    obtain ⟨acc', h1, h2⟩ := clos_get ws (acc ++ [closStep acc es0]) j es (by simpa using h)
    refine ⟨acc', ?_, fun e he => ?_⟩
    · rw [clos, ← h1]; congr 1; simp; omega
    · rw [clos, h2 e (by simp; omega)]
def Closed (ops:Array Oper) (D:Nat->Bool):Prop:=∀ j o,D j=true->ops[j]?=some o->∀ e∈waitsOn o,D e=true
theorem waitsT_closed {ops : Array Oper} (hlt : ∀ j o, ops[j]? = some o → ∀ e ∈ waitsOn o, e < j) {D : Nat → Bool} (hc : Closed ops D) :
    ∀ (j i : Nat) (o : Oper), ops[j]? = some o → (∀ e ∈ waitsOn o, D e = true) → waitsT (closOf ops) j i = true → D i = true := by
  intro j
  induction j using Nat.strongRecOn with
  | _ j ih =>
    intro i o ho hw ht
    unfold waitsT closOf at ht
    have hws : (ops.toList.map waitsOn)[j]? = some (waitsOn o) := by simp [ho]
    obtain ⟨acc', h1, h2⟩ := clos_get (ops.toList.map waitsOn) [] j _ hws
    simp only [List.length_nil, Nat.zero_add] at h1 h2
    rw [h1, closStep_bit] at ht
    obtain ⟨e, he, hi⟩ := ht
    rcases hi with rfl | hi
    · exact hw _ he
    · have hej := hlt j o ho e he
      have hjl : j < ops.size := (Array.getElem?_eq_some_iff.1 ho).1
      have hoe : ops[e]? = some (ops[e]'(by omega)) := by simp [show e < ops.size by omega]
      rw [h2 e hej] at hi
      exact ih e hej i _ hoe (hc e _ (hw e he) hoe) hi
def dstOf (ops:Array Oper) (i:Nat):Option Nat:=(ops[i]?).bind (·.dst)
def isNew (outs:Nat->Out) (i:Nat):Bool:=match outs i with | .new ..=>true | _=>false
def isChn (outs:Nat->Out) (i:Nat):Bool:=match outs i with | .chn ..=>true | _=>false
def rankNew (outs:Nat->Out) (i:Nat):Nat:=((List.range i).filter (isNew outs)).length
def valOf (outs:Nat->Out) (b:Nat) (i:Nat):AV:=match outs i with | .val v=>v | .new _ mk=>mk (b+rankNew outs i) | .chn v _=>v | .upd _ v _=>v
def hcD (outs : Nat → Out) (H0 : List AO) (D : Nat → Bool) : Nat → List AO
  | 0 => H0
  | i + 1 => match outs i with
    | .chn _ Hc => if D i then Hc else hcD outs H0 D i
    | _ => hcD outs H0 D i
def wrOf (ops:Array Oper) (m t:Nat):Option Nat:=(List.range m).find? fun i=>decide (dstOf ops i=some t)
def eD (lv:List Nat) (ops:Array Oper) (m:Nat) (outs:Nat->Out) (s0:St) (D:Nat->Bool) (t:Nat):AV :=
 match wrOf ops m t with
 | some i=>if D i then valOf outs s0.H.length i else s0.get (cTmp lv t)
 | none=>s0.get (cTmp lv t)
def nD (outs : Nat → Out) (D : Nat → Bool) : Nat → List AO
  | 0 => []
  | i + 1 => match outs i with
    | .new ob _ => nD outs D i ++ [if D i then ob else .rsv]
    | .upd k _ ob => if D i then (nD outs D i).set k ob else nD outs D i
    | _ => nD outs D i
def slots (m:Nat) (outs:Nat->Out) (D:Nat->Bool):List AO:=nD outs D m
def isUpd (outs:Nat->Out) (i:Nat):Bool:=match outs i with | .upd ..=>true | _=>false
def UpdOk (outs:Nat->Out) (D:Nat->Bool):Prop:=∀ (j k:Nat) v ob,outs j=.upd k v ob->D j=true->∀ i,isNew outs i=true->rankNew outs i=k->D i=true
theorem rankNew_succ (outs:Nat->Out) (i:Nat):rankNew outs (i+1)=rankNew outs i+if isNew outs i then 1 else 0:=by
 unfold rankNew
 rw [List.range_succ,List.filter_append,List.length_append]
 by_cases h:isNew outs i=true <;> simp [h]
theorem rankNew_mono (outs : Nat → Out) {i n : Nat} (h : i ≤ n) : rankNew outs i ≤ rankNew outs n := by
  induction n with
  | zero => rw [Nat.le_zero.1 h]; exact Nat.le_refl _
  | succ n ih =>
    by_cases e : i = n + 1
    · rw [e]; exact Nat.le_refl _
    · have := ih (by omega)
      rw [rankNew_succ]; omega
theorem nD_len (outs : Nat → Out) (D : Nat → Bool) : ∀ n, (nD outs D n).length = rankNew outs n
  | 0 => rfl
  | n + 1 => by
    have ih := nD_len outs D n
    rw [rankNew_succ]
    unfold nD
    cases ho : outs n with
    | new ob mk => simp [isNew, ho, ih]
    | upd k v ob =>
      simp only [isNew, ho]
      split <;> simp [ih]
    | _ => simp [isNew, ho, ih]
theorem nD_congr {outs : Nat → Out} {D D' : Nat → Bool} : ∀ {n : Nat}, (∀ i, i < n → D i = D' i) → nD outs D n = nD outs D' n
  | 0, _ => rfl
  | n + 1, h => by
    have ih := nD_congr (outs := outs) (n := n) (fun i hi => h i (by omega))
    unfold nD
    rw [ih, h n (by omega)]
def writes (ops:Array Oper) (m:Nat) (outs:Nat->Out) (b:Nat) (D:Nat->Bool):En :=
 (List.range m).filterMap fun i=>match dstOf ops i with
  | some t=>if D i then some (t,valOf outs b i) else none
  | none=>none
def SD (ops:Array Oper) (m:Nat) (outs:Nat->Out) (s0:St) (D:Nat->Bool):St :=
 ⟨writes ops m outs s0.H.length D++s0.L,writes ops m outs s0.H.length D++s0.T,hcD outs s0.H D m++slots m outs D⟩
def Uniq (ops:Array Oper) (m:Nat):Prop:=∀ i j t,i<m->j<m->dstOf ops i=some t->dstOf ops j=some t->i=j
theorem eget_writes (key : Nat → Option Nat) (val : Nat → AV) (D : Nat → Bool) (B : En) (t : Nat) (l : List Nat) :
    eget (l.filterMap (fun i => match key i with | some k => if D i then some (k, val i) else none | none => none) ++ B) t =
      match l.find? (fun i => decide (key i = some t) && D i) with
      | some i => val i
      | none => eget B t := by
  induction l with
  | nil => rfl
  | cons i l ih =>
    rw [List.filterMap_cons, List.find?_cons]
    cases hk : key i with
    | none => simp only [ih]; simp
    | some k =>
      by_cases hD : D i = true
      · simp only [hD, if_true, List.cons_append, eget_cons, Bool.and_true]
        by_cases e : k = t
        · subst e; simp
        · rw [if_neg e, ih]
          simp [e]
      · simp only [hD, Bool.false_eq_true, if_false, Bool.and_false, ih]
theorem find_uniq {l : List Nat} {p D : Nat → Bool} (hu : ∀ i ∈ l, ∀ j ∈ l, p i = true → p j = true → i = j) :
    l.find? (fun i => p i && D i) = match l.find? p with | some i => if D i then some i else none | none => none := by
  induction l with
  | nil => rfl
  | cons i l ih =>
    have ih' := ih (fun a ha b hb => hu a (List.mem_cons_of_mem _ ha) b (List.mem_cons_of_mem _ hb))
    rw [List.find?_cons, List.find?_cons]
    by_cases hp : p i = true
    · simp only [hp, Bool.true_and]
      by_cases hD : D i = true
      · simp [hD]
      · simp only [hD, Bool.false_eq_true, if_false]
        rw [ih']
        cases hf : l.find? p with
        | none => rfl
        | some j =>
          have h1 := List.mem_of_find?_eq_some hf
          have h2 := List.find?_some hf
          have := hu i (by simp) j (List.mem_cons_of_mem _ h1) hp h2
          subst this
          simp [hD]
    · simp only [hp, Bool.false_and]
      exact ih'
section
variable {ops:Array Oper} {m:Nat} {outs:Nat->Out} {s0:St}
theorem wr_inv {t j:Nat} (h:wrOf ops m t=some j):j<m/\dstOf ops j=some t:=by
 have h1:=List.mem_of_find?_eq_some h
 have h2:=List.find?_some h
 exact ⟨by simpa using h1,by simpa using h2⟩
theorem wr_of (hu : Uniq ops m) {t i : Nat} (hi : i < m) (hd : dstOf ops i = some t) : wrOf ops m t = some i := by
  cases h : wrOf ops m t with
  | none =>
    have := List.find?_eq_none.1 h i (by simpa using hi)
    simp [hd] at this
  | some j =>
    obtain ⟨h1, h2⟩ := wr_inv h
    rw [hu i j t hi h1 hd h2]
theorem SD_get (hu:Uniq ops m) (D:Nat->Bool) (t:Nat):(SD ops m outs s0 D).get (cTmp lv t)=eD lv ops m outs s0 D t:=by
 have key:∀ B:En,eget (writes ops m outs s0.H.length D++B) t=match wrOf ops m t with
   | some i=>if D i then valOf outs s0.H.length i else eget B t
   | none=>eget B t:=by
  intro B
  unfold writes
  rw [eget_writes,find_uniq (p:=fun i=>decide (dstOf ops i=some t)) (fun i hi j hj h1 h2=>hu i j t (by simpa using hi) (by simpa using hj) (by simpa using h1) (by simpa using h2))]
  show (match (match wrOf ops m t with | some i=>if D i then some i else none | none=>none) with | some i=>valOf outs s0.H.length i | none=>eget B t)=_
  cases wrOf ops m t with
  | none=>rfl
  | some i=>by_cases hD:D i=true <;> simp [hD]
 unfold eD
 unfold cTmp
 split
 ·show eget (writes ops m outs s0.H.length D++s0.L) t=_
  rw [key]; rfl
 ·show eget (writes ops m outs s0.H.length D++s0.T) t=_
  rw [key]; rfl
def below (i:Nat):Nat->Bool:=fun j=>decide (j<i)
def with1 (D:Nat->Bool) (i:Nat):Nat->Bool:=fun j=>D j || decide (j=i)
theorem eD_with (hu : Uniq ops m) {D : Nat → Bool} {i : Nat} (hi : i < m) (t : Nat) :
    eD lv ops m outs s0 (with1 D i) t = if dstOf ops i = some t then valOf outs s0.H.length i else eD lv ops m outs s0 D t := by
  unfold eD
  by_cases hd : dstOf ops i = some t
  · rw [if_pos hd, wr_of hu hi hd]
    simp [with1]
  · rw [if_neg hd]
    cases hw : wrOf ops m t with
    | none => rfl
    | some j =>
      have hj := (wr_inv hw).2
      have hne : j ≠ i := fun e => hd (e ▸ hj)
      simp [with1, hne]
theorem hcD_congr {H0 : List AO} {D D' : Nat → Bool} : ∀ {n : Nat}, (∀ j, j < n → isChn outs j = true → D j = D' j) → hcD outs H0 D n = hcD outs H0 D' n
  | 0, _ => rfl
  | n + 1, h => by
    have ih := hcD_congr (H0 := H0) (n := n) (fun j hj hc => h j (by omega) hc)
    unfold hcD
    cases ho : outs n with
    | chn v Hc => simp only [h n (by omega) (by simp [isChn, ho]), ih]
    | _ => simp only [ih]
theorem hcD_cut {H0 : List AO} {D : Nat → Bool} {i : Nat} : ∀ {n : Nat}, i ≤ n → (∀ j, i ≤ j → j < n → isChn outs j = true → D j = false) → hcD outs H0 D n = hcD outs H0 D i
  | 0, hi, _ => by rw [Nat.le_zero.1 hi]
  | n + 1, hi, h => by
    by_cases e : i = n + 1
    · rw [e]
    · have ih := hcD_cut (H0 := H0) (n := n) (by omega) (fun j h1 h2 => h j h1 (by omega))
      rw [← ih]
      show (match outs n with | .chn _ Hc => if D n then Hc else hcD outs H0 D n | _ => hcD outs H0 D n) = _
      cases ho : outs n with
      | chn v Hc => simp only [h n (by omega) (by omega) (by simp [isChn, ho]), Bool.false_eq_true, if_false]
      | _ => rfl
theorem hcD_ind {H0 : List AO} {D : Nat → Bool} {p : List AO → Prop} (h0 : p H0) : ∀ {n : Nat}, (∀ j v Hc, j < n → outs j = .chn v Hc → p Hc) → p (hcD outs H0 D n)
  | 0, _ => h0
  | n + 1, h => by
    have ih := hcD_ind (D := D) h0 (n := n) (fun j v Hc hj ho => h j v Hc (by omega) ho)
    unfold hcD
    cases ho : outs n with
    | chn v Hc =>
      simp only []
      split
      · exact h n v Hc (by omega) ho
      · exact ih
    | _ => exact ih
theorem canon (pre : List MI) (hu : Uniq ops m) (hd : ∀ i, i < m → ∃ o, pre[i]? = some o ∧ o.dst = cDst lv (dstOf ops i)) (hlen : ∀ i v Hc, i < m → outs i = .chn v Hc → Hc.length = s0.H.length) :
    ∀ i, i ≤ m → (sts pre outs (s0.H, ⟨s0.L, s0.T, []⟩) i).1 = hcD outs s0.H (fun _ => true) i ∧ (sts pre outs (s0.H, ⟨s0.L, s0.T, []⟩) i).1.length = s0.H.length ∧ (sts pre outs (s0.H, ⟨s0.L, s0.T, []⟩) i).2.H = nD outs (fun _ => true) i ∧
      ∀ t, (sts pre outs (s0.H, ⟨s0.L, s0.T, []⟩) i).2.get (cTmp lv t) = eD lv ops m outs s0 (below i) t := by
  intro i
  induction i with
  | zero =>
    intro _
    refine ⟨rfl, rfl, rfl, fun t => ?_⟩
    unfold eD
    have : (sts pre outs (s0.H, ⟨s0.L, s0.T, []⟩) 0).2.get (cTmp lv t) = s0.get (cTmp lv t) := get_H _ _ _ _ _
    rw [this]
    cases wrOf ops m t <;> simp [below]
  | succ i ih =>
    intro hi
    obtain ⟨h0, hl, h1, h2⟩ := ih (by omega)
    obtain ⟨o, ho, hdst⟩ := hd i (by omega)
    have hb : below (i + 1) = with1 (below i) i := by
      funext j
      simp only [below, with1]
      by_cases hj : j < i
      · simp [hj, show j < i + 1 by omega]
      · by_cases e : j = i
        · simp [e]
        · simp [hj, e]; omega
    rw [hb]
    simp only [sts, ho, hdst]
    cases hout : outs i with
    | val v =>
      have hn : isNew outs i = false := by simp [isNew, hout]
      refine ⟨by simp only [outPut, h0, hcD, hout], hl, by simp [outPut, put_H, h1, nD, hout], fun t => ?_⟩
      rw [eD_with hu (by omega)]
      simp only [outPut, get_put, h2 t]
      simp [valOf, hout]
    | chn v Hc =>
      have hn : isNew outs i = false := by simp [isNew, hout]
      refine ⟨by simp [outPut, hcD, hout], hlen i v Hc (by omega) hout, by simp [outPut, put_H, h1, nD, hout], fun t => ?_⟩
      rw [eD_with hu (by omega)]
      simp only [outPut, get_put, h2 t]
      simp [valOf, hout]
    | new ob mk =>
      have hn : isNew outs i = true := by simp [isNew, hout]
      refine ⟨by simp only [outPut, h0, hcD, hout], hl, by simp [outPut, put_H, h1, nD, hout], fun t => ?_⟩
      rw [eD_with hu (by omega)]
      simp only [outPut, get_put]
      rw [get_H _ _ _ (sts pre outs (s0.H, ⟨s0.L, s0.T, []⟩) i).2.H]
      have e1 : (⟨(sts pre outs (s0.H, ⟨s0.L, s0.T, []⟩) i).2.L, (sts pre outs (s0.H, ⟨s0.L, s0.T, []⟩) i).2.T, (sts pre outs (s0.H, ⟨s0.L, s0.T, []⟩) i).2.H⟩ : St).get (cTmp lv t) = eD lv ops m outs s0 (below i) t := h2 t
      rw [e1]
      have e2 : mk ((sts pre outs (s0.H, ⟨s0.L, s0.T, []⟩) i).1.length + (sts pre outs (s0.H, ⟨s0.L, s0.T, []⟩) i).2.H.length) = valOf outs s0.H.length i := by
        simp [valOf, hout, h1, hl, nD_len]
      rw [e2]
    | upd k v ob =>
      refine ⟨by simp only [outPut, h0, hcD, hout], hl, by simp [outPut, put_H, h1, nD, hout], fun t => ?_⟩
      rw [eD_with hu (by omega)]
      simp only [outPut, get_put]
      rw [get_H _ _ _ (sts pre outs (s0.H, ⟨s0.L, s0.T, []⟩) i).2.H]
      have e1 : (⟨(sts pre outs (s0.H, ⟨s0.L, s0.T, []⟩) i).2.L, (sts pre outs (s0.H, ⟨s0.L, s0.T, []⟩) i).2.T, (sts pre outs (s0.H, ⟨s0.L, s0.T, []⟩) i).2.H⟩ : St).get (cTmp lv t) = eD lv ops m outs s0 (below i) t := h2 t
      rw [e1]
      simp [valOf, hout]
theorem slots_get {i : Nat} (hi : i < m) (hn : isNew outs i = true) {D : Nat → Bool} (hD : D i = false) (hU : UpdOk outs D) : (slots m outs D)[rankNew outs i]? = some .rsv := by
  have key : ∀ n, i + 1 ≤ n → (nD outs D n)[rankNew outs i]? = some .rsv := by
    intro n hn'
    induction n with
    | zero => omega
    | succ n ih =>
      by_cases e : n = i
      · subst e
        unfold nD
        cases ho : outs n with
        | new ob mk =>
          simp only [hD, Bool.false_eq_true, if_false]
          rw [List.getElem?_append_right (by rw [nD_len]; exact Nat.le_refl _), nD_len]
          simp
        | _ => simp [isNew, ho] at hn
      · have ih := ih (by omega)
        unfold nD
        cases ho : outs n with
        | new ob mk =>
          simp only
          rw [List.getElem?_append_left (List.getElem?_eq_some_iff.1 ih).1]; exact ih
        | upd k v ob =>
          simp only
          split
          · rename_i hd
            have hk : k ≠ rankNew outs i := by
              intro ek
              have := hU n k v ob ho hd i hn ek.symm
              rw [hD] at this; cases this
            rw [List.getElem?_set_ne hk]; exact ih
          · exact ih
        | _ => exact ih
  exact key m hi
theorem slots_set {i : Nat} (hi : i < m) {ob : AO} {mk : Nat → AV} (ho : outs i = .new ob mk) {D : Nat → Bool} (hD : D i = false) (hU : UpdOk outs D) : (slots m outs D).set (rankNew outs i) ob = slots m outs (with1 D i) := by
  have hn : isNew outs i = true := by simp [isNew, ho]
  have key : ∀ n, i + 1 ≤ n → (nD outs D n).set (rankNew outs i) ob = nD outs (with1 D i) n := by
    intro n hn'
    induction n with
    | zero => omega
    | succ n ih =>
      by_cases e : n = i
      · subst e
        have hc : nD outs (with1 D n) n = nD outs D n := nD_congr fun j hj => by simp [with1]; omega
        unfold nD
        rw [ho]
        simp only [hc, hD, Bool.false_eq_true, if_false]
        rw [List.set_append_right _ _ (by rw [nD_len]; exact Nat.le_refl _), nD_len]
        simp [with1]
      · have ih := ih (by omega)
        have hw : with1 D i n = D n := by simp [with1, e]
        have hlt : rankNew outs i < (nD outs D n).length := by
          rw [nD_len]
          have h1 := rankNew_mono outs (show i + 1 ≤ n by omega)
          rw [rankNew_succ, hn] at h1
          simp at h1; omega
        unfold nD
        rw [hw]
        cases hon : outs n with
        | new ob' mk' =>
          simp only
          rw [List.set_append_left _ _ hlt, ih]
        | upd k v ob' =>
          simp only
          split
          · rename_i hd
            have hk : k ≠ rankNew outs i := by
              intro ek
              have := hU n k v ob' hon hd i hn ek.symm
              rw [hD] at this; cases this
            rw [← ih, List.set_comm _ _ hk]
          · exact ih
        | _ => exact ih
  exact key m hi
theorem slots_upd {i k : Nat} {v : AV} {ob : AO} (hi : i < m) (ho : outs i = .upd k v ob) {D : Nat → Bool} (hD : D i = false) (hk : k < rankNew outs i) (hl : ∀ j, i < j → j < m → isUpd outs j = true → D j = false) : (slots m outs D).set k ob = slots m outs (with1 D i) := by
  have key : ∀ n, i + 1 ≤ n → n ≤ m → (nD outs D n).set k ob = nD outs (with1 D i) n := by
    intro n hn' hnm
    induction n with
    | zero => omega
    | succ n ih =>
      by_cases e : n = i
      · subst e
        have hc : nD outs (with1 D n) n = nD outs D n := nD_congr fun j hj => by simp [with1]; omega
        unfold nD
        rw [ho]
        simp [hc, hD, with1]
      · have ih := ih (by omega) (by omega)
        have hw : with1 D i n = D n := by simp [with1, e]
        have hlt : k < (nD outs D n).length := by
          rw [nD_len]
          have h1 := rankNew_mono outs (show i ≤ n by omega)
          omega
        unfold nD
        rw [hw]
        cases hon : outs n with
        | new ob' mk' =>
          simp only
          rw [List.set_append_left _ _ hlt, ih]
        | upd k' v' ob' =>
          have := hl n (by omega) (by omega) (by simp [isUpd, hon])
          simp only [this, Bool.false_eq_true, if_false]
          exact ih
        | _ => exact ih
  exact key m hi (Nat.le_refl _)
theorem slots_as {i : Nat} (hi : i ≤ m) {D : Nat → Bool} (hch : ∀ j, j < m → isUpd outs j = true → D j = below i j) {k : Nat} {ob : AO} (hk : (nD outs (fun _ => true) i)[k]? = some ob) : (slots m outs D)[k]? = some ob ∨ (slots m outs D)[k]? = some AO.rsv := by
  have h1 : ∀ n : Nat, n ≤ i → ∀ k : Nat, (nD outs D n)[k]? = (nD outs (fun _ => true) n)[k]? ∨ (nD outs D n)[k]? = some AO.rsv := by
    intro n
    induction n with
    | zero => intro _ k; exact .inl rfl
    | succ n ih =>
      intro hn k
      have ih := ih (by omega)
      have l1 := nD_len outs D n
      have l2 := nD_len outs (fun _ => true) n
      unfold nD
      cases hon : outs n with
      | new ob' mk' =>
        simp only [if_true]
        by_cases hlt : k < rankNew outs n
        · rw [List.getElem?_append_left (by omega), List.getElem?_append_left (by omega)]; exact ih k
        · rw [List.getElem?_append_right (by omega), List.getElem?_append_right (by omega), l1, l2]
          by_cases e : k - rankNew outs n = 0
          · rw [e]
            by_cases hd : D n = true
            · simp [hd]
            · simp [hd]
          · left
            rw [List.getElem?_eq_none (by simp; omega), List.getElem?_eq_none (by simp; omega)]
      | upd k' v ob' =>
        have hd := hch n (by omega) (by simp [isUpd, hon])
        have hb : below i n = true := by simp [below]; omega
        simp only [hd, hb, if_true]
        by_cases e : k' = k
        · subst e
          by_cases hlt : k' < rankNew outs n
          · left; rw [List.getElem?_set_self (by omega), List.getElem?_set_self (by omega)]
          · rw [List.set_eq_of_length_le (by omega), List.set_eq_of_length_le (by omega)]; exact ih _
        · rw [List.getElem?_set_ne e, List.getElem?_set_ne e]; exact ih k
      | _ => exact ih k
  have hlt : k < rankNew outs i := by rw [← nD_len outs (fun _ => true)]; exact (List.getElem?_eq_some_iff.1 hk).1
  have h2 : ∀ n : Nat, i ≤ n → n ≤ m → (nD outs D n)[k]? = (nD outs D i)[k]? := by
    intro n
    induction n with
    | zero => intro h0 _; rw [Nat.le_zero.1 h0]
    | succ n ih =>
      intro hn hnm
      by_cases e : i = n + 1
      · rw [e]
      · have ih := ih (by omega) (by omega)
        have hl : k < (nD outs D n).length := by
          rw [nD_len]
          have := rankNew_mono outs (show i ≤ n by omega)
          omega
        rw [← ih]
        conv => lhs; unfold nD
        cases hon : outs n with
        | new ob' mk' => simp only; rw [List.getElem?_append_left hl]
        | upd k' v ob' =>
          have hd := hch n (by omega) (by simp [isUpd, hon])
          have hb : below i n = false := by simp [below]; omega
          simp only [hd, hb, Bool.false_eq_true, if_false]
        | _ => rfl
  have h3 := h1 i (Nat.le_refl _) k
  rw [hk] at h3
  show (nD outs D m)[k]? = _ ∨ (nD outs D m)[k]? = _
  rw [h2 m hi (Nat.le_refl _)]
  exact h3
end
end Go.AM
