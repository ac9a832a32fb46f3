/- Texts Am20 Am21 Am22 Am23 Am24 Am25 Am26 Am27 Am28 Am29 Am30 Am31 Am32 Am33, merged. -/
import Derived.Test.YtiehnbbbhcaacaaGreatDoorKAMC
import Derived.Laws.Sem
import Derived.ChangeArms
import Derived.ChangeSame
import Derived.WideKeyArgs
import Derived.WideShapes
import Derived.Below
import Derived.RowKit
set_option linter.all false
namespace Go.AM
variable {lv:List Nat} {P:Program} {N:Nat} {K:St->Prop} {θ:Th} {W:Im}
theorem closStep_bit (acc : List Nat) (es : List Nat) (i : Nat) : (closStep acc es).testBit i = true ↔ ∃ e ∈ es, i = e ∨ (acc.getD e 0).testBit i = true := by
  have key : ∀ (es : List Nat) (s : Nat), (es.foldl (fun s e => s ||| 2 ^ e ||| acc.getD e 0) s).testBit i = true ↔ s.testBit i = true ∨ ∃ e ∈ es, i = e ∨ (acc.getD e 0).testBit i = true := by
    intro es
    induction es with
    | nil => intro s; simp
    | cons e es ih =>
      intro s
      rw [List.foldl_cons, ih]
      simp only [Nat.testBit_or, Bool.or_eq_true, List.mem_cons, exists_eq_or_imp, Nat.testBit_two_pow, decide_eq_true_eq]
      constructor
      · rintro (((h | h) | h) | h)
        · exact .inl h
        · exact .inr (.inl (.inl h.symm))
        · exact .inr (.inl (.inr h))
        · exact .inr (.inr h)
      · rintro (h | (h | h) | h)
        · exact .inl (.inl (.inl h))
        · exact .inl (.inl (.inr h.symm))
        · exact .inl (.inr h)
        · exact .inr h
  unfold closStep
  rw [key]
  simp
theorem clos_prefix : ∀ (ws : List (List Nat)) (acc : List Nat) (e : Nat), e < acc.length → (clos ws acc).getD e 0 = acc.getD e 0
  | [], acc, e, _ => rfl
  | es :: ws, acc, e, h => by
    rw [clos, clos_prefix ws _ e (by simp; omega)]
    simp [List.getD, List.getElem?_append_left h]
theorem clos_get : ∀ (ws : List (List Nat)) (acc : List Nat) (j : Nat) (es : List Nat), ws[j]? = some es →
    ∃ acc', (clos ws acc).getD (acc.length + j) 0 = closStep acc' es ∧ ∀ e, e < acc.length + j → acc'.getD e 0 = (clos ws acc).getD e 0
  | [], acc, j, es, h => by simp at h
  | es0 :: ws, acc, 0, es, h => by
    simp at h
    subst h
    refine ⟨acc, ?_, fun e he => ?_⟩
    · rw [clos, clos_prefix _ _ _ (by simp)]
      simp [List.getD]
    · rw [clos, clos_prefix _ _ _ (by simp; omega)]
      simp [List.getD, List.getElem?_append_left (show e < acc.length by omega)]
  | es0 :: ws, acc, j + 1, es, h => by
    obtain ⟨acc', h1, h2⟩ := clos_get ws (acc ++ [closStep acc es0]) j es (by simpa using h)
    refine ⟨acc', ?_, fun e he => ?_⟩
    · rw [clos, ← h1]; congr 1; simp; omega
    · rw [clos, h2 e (by simp; omega)]
def Closed (ops:Array Oper) (D:Nat->Bool):Prop:=∀ j o,D j=true->ops[j]?=some o->∀ e∈waitsOn o,D e=true
theorem waitsT_closed {ops : Array Oper} (hlt : ∀ j o, ops[j]? = some o → ∀ e ∈ waitsOn o, e < j) {D : Nat → Bool} (hc : Closed ops D) :
    ∀ (j i : Nat) (o : Oper), ops[j]? = some o → (∀ e ∈ waitsOn o, D e = true) → waitsT (closOf ops) j i = true → D i = true := by
  intro j
  induction j using Nat.strongRecOn with
  | _ j ih =>
    intro i o ho hw ht
    unfold waitsT closOf at ht
    have hws : (ops.toList.map waitsOn)[j]? = some (waitsOn o) := by simp [ho]
    obtain ⟨acc', h1, h2⟩ := clos_get (ops.toList.map waitsOn) [] j _ hws
    simp only [List.length_nil, Nat.zero_add] at h1 h2
    rw [h1, closStep_bit] at ht
    obtain ⟨e, he, hi⟩ := ht
    rcases hi with rfl | hi
    · exact hw _ he
    · have hej := hlt j o ho e he
      have hjl : j < ops.size := (Array.getElem?_eq_some_iff.1 ho).1
      have hoe : ops[e]? = some (ops[e]'(by omega)) := by simp [show e < ops.size by omega]
      rw [h2 e hej] at hi
      exact ih e hej i _ hoe (hc e _ (hw e he) hoe) hi
def dstOf (ops:Array Oper) (i:Nat):Option Nat:=(ops[i]?).bind (·.dst)
def isNew (outs:Nat->Out) (i:Nat):Bool:=match outs i with | .new ..=>true | _=>false
def isChn (outs:Nat->Out) (i:Nat):Bool:=match outs i with | .chn ..=>true | _=>false
def rankNew (outs:Nat->Out) (i:Nat):Nat:=((List.range i).filter (isNew outs)).length
def valOf (outs:Nat->Out) (b:Nat) (i:Nat):AV:=match outs i with | .val v=>v | .new _ mk=>mk (b+rankNew outs i) | .chn v _=>v | .upd _ v _=>v
def hcD (outs : Nat → Out) (H0 : List AO) (D : Nat → Bool) : Nat → List AO
  | 0 => H0
  | i + 1 => match outs i with
    | .chn _ Hc => if D i then Hc else hcD outs H0 D i
    | _ => hcD outs H0 D i
def wrOf (ops:Array Oper) (m t:Nat):Option Nat:=(List.range m).find? fun i=>decide (dstOf ops i=some t)
def eD (lv:List Nat) (ops:Array Oper) (m:Nat) (outs:Nat->Out) (s0:St) (D:Nat->Bool) (t:Nat):AV :=
 match wrOf ops m t with
 | some i=>if D i then valOf outs s0.H.length i else s0.get (cTmp lv t)
 | none=>s0.get (cTmp lv t)
def nD (outs : Nat → Out) (D : Nat → Bool) : Nat → List AO
  | 0 => []
  | i + 1 => match outs i with
    | .new ob _ => nD outs D i ++ [if D i then ob else .rsv]
    | .upd k _ ob => if D i then (nD outs D i).set k ob else nD outs D i
    | _ => nD outs D i
def slots (m:Nat) (outs:Nat->Out) (D:Nat->Bool):List AO:=nD outs D m
def isUpd (outs:Nat->Out) (i:Nat):Bool:=match outs i with | .upd ..=>true | _=>false
def UpdOk (outs:Nat->Out) (D:Nat->Bool):Prop:=∀ (j k:Nat) v ob,outs j=.upd k v ob->D j=true->∀ i,isNew outs i=true->rankNew outs i=k->D i=true
theorem rankNew_succ (outs:Nat->Out) (i:Nat):rankNew outs (i+1)=rankNew outs i+if isNew outs i then 1 else 0:=by
 unfold rankNew
 rw [List.range_succ,List.filter_append,List.length_append]
 by_cases h:isNew outs i=true <;> simp [h]
theorem rankNew_mono (outs : Nat → Out) {i n : Nat} (h : i ≤ n) : rankNew outs i ≤ rankNew outs n := by
  induction n with
  | zero => rw [Nat.le_zero.1 h]; exact Nat.le_refl _
  | succ n ih =>
    by_cases e : i = n + 1
    · rw [e]; exact Nat.le_refl _
    · have := ih (by omega)
      rw [rankNew_succ]; omega
theorem nD_len (outs : Nat → Out) (D : Nat → Bool) : ∀ n, (nD outs D n).length = rankNew outs n
  | 0 => rfl
  | n + 1 => by
    have ih := nD_len outs D n
    rw [rankNew_succ]
    unfold nD
    cases ho : outs n with
    | new ob mk => simp [isNew, ho, ih]
    | upd k v ob =>
      simp only [isNew, ho]
      split <;> simp [ih]
    | _ => simp [isNew, ho, ih]
theorem nD_congr {outs : Nat → Out} {D D' : Nat → Bool} : ∀ {n : Nat}, (∀ i, i < n → D i = D' i) → nD outs D n = nD outs D' n
  | 0, _ => rfl
  | n + 1, h => by
    have ih := nD_congr (outs := outs) (n := n) (fun i hi => h i (by omega))
    unfold nD
    rw [ih, h n (by omega)]
def writes (ops:Array Oper) (m:Nat) (outs:Nat->Out) (b:Nat) (D:Nat->Bool):En :=
 (List.range m).filterMap fun i=>match dstOf ops i with
  | some t=>if D i then some (t,valOf outs b i) else none
  | none=>none
def SD (ops:Array Oper) (m:Nat) (outs:Nat->Out) (s0:St) (D:Nat->Bool):St :=
 ⟨writes ops m outs s0.H.length D++s0.L,writes ops m outs s0.H.length D++s0.T,hcD outs s0.H D m++slots m outs D⟩
def Uniq (ops:Array Oper) (m:Nat):Prop:=∀ i j t,i<m->j<m->dstOf ops i=some t->dstOf ops j=some t->i=j
theorem eget_writes (key : Nat → Option Nat) (val : Nat → AV) (D : Nat → Bool) (B : En) (t : Nat) (l : List Nat) :
    eget (l.filterMap (fun i => match key i with | some k => if D i then some (k, val i) else none | none => none) ++ B) t =
      match l.find? (fun i => decide (key i = some t) && D i) with
      | some i => val i
      | none => eget B t := by
  induction l with
  | nil => rfl
  | cons i l ih =>
    rw [List.filterMap_cons, List.find?_cons]
    cases hk : key i with
    | none => simp only [ih]; simp
    | some k =>
      by_cases hD : D i = true
      · simp only [hD, if_true, List.cons_append, eget_cons, Bool.and_true]
        by_cases e : k = t
        · subst e; simp
        · rw [if_neg e, ih]
          simp [e]
      · simp only [hD, Bool.false_eq_true, if_false, Bool.and_false, ih]
theorem find_uniq {l : List Nat} {p D : Nat → Bool} (hu : ∀ i ∈ l, ∀ j ∈ l, p i = true → p j = true → i = j) :
    l.find? (fun i => p i && D i) = match l.find? p with | some i => if D i then some i else none | none => none := by
  induction l with
  | nil => rfl
  | cons i l ih =>
    have ih' := ih (fun a ha b hb => hu a (List.mem_cons_of_mem _ ha) b (List.mem_cons_of_mem _ hb))
    rw [List.find?_cons, List.find?_cons]
    by_cases hp : p i = true
    · simp only [hp, Bool.true_and]
      by_cases hD : D i = true
      · simp [hD]
      · simp only [hD, Bool.false_eq_true, if_false]
        rw [ih']
        cases hf : l.find? p with
        | none => rfl
        | some j =>
          have h1 := List.mem_of_find?_eq_some hf
          have h2 := List.find?_some hf
          have := hu i (by simp) j (List.mem_cons_of_mem _ h1) hp h2
          subst this
          simp [hD]
    · simp only [hp, Bool.false_and]
      exact ih'
section
variable {ops:Array Oper} {m:Nat} {outs:Nat->Out} {s0:St}
theorem wr_inv {t j:Nat} (h:wrOf ops m t=some j):j<m/\dstOf ops j=some t:=by
 have h1:=List.mem_of_find?_eq_some h
 have h2:=List.find?_some h
 exact ⟨by simpa using h1,by simpa using h2⟩
theorem wr_of (hu : Uniq ops m) {t i : Nat} (hi : i < m) (hd : dstOf ops i = some t) : wrOf ops m t = some i := by
  cases h : wrOf ops m t with
  | none =>
    have := List.find?_eq_none.1 h i (by simpa using hi)
    simp [hd] at this
  | some j =>
    obtain ⟨h1, h2⟩ := wr_inv h
    rw [hu i j t hi h1 hd h2]
theorem SD_get (hu:Uniq ops m) (D:Nat->Bool) (t:Nat):(SD ops m outs s0 D).get (cTmp lv t)=eD lv ops m outs s0 D t:=by
 have key:∀ B:En,eget (writes ops m outs s0.H.length D++B) t=match wrOf ops m t with
   | some i=>if D i then valOf outs s0.H.length i else eget B t
   | none=>eget B t:=by
  intro B
  unfold writes
  rw [eget_writes,find_uniq (p:=fun i=>decide (dstOf ops i=some t)) (fun i hi j hj h1 h2=>hu i j t (by simpa using hi) (by simpa using hj) (by simpa using h1) (by simpa using h2))]
  show (match (match wrOf ops m t with | some i=>if D i then some i else none | none=>none) with | some i=>valOf outs s0.H.length i | none=>eget B t)=_
  cases wrOf ops m t with
  | none=>rfl
  | some i=>by_cases hD:D i=true <;> simp [hD]
 unfold eD
 unfold cTmp
 split
 ·show eget (writes ops m outs s0.H.length D++s0.L) t=_
  rw [key]; rfl
 ·show eget (writes ops m outs s0.H.length D++s0.T) t=_
  rw [key]; rfl
def below (i:Nat):Nat->Bool:=fun j=>decide (j<i)
def with1 (D:Nat->Bool) (i:Nat):Nat->Bool:=fun j=>D j || decide (j=i)
theorem eD_with (hu : Uniq ops m) {D : Nat → Bool} {i : Nat} (hi : i < m) (t : Nat) :
    eD lv ops m outs s0 (with1 D i) t = if dstOf ops i = some t then valOf outs s0.H.length i else eD lv ops m outs s0 D t := by
  unfold eD
  by_cases hd : dstOf ops i = some t
  · rw [if_pos hd, wr_of hu hi hd]
    simp [with1]
  · rw [if_neg hd]
    cases hw : wrOf ops m t with
    | none => rfl
    | some j =>
      have hj := (wr_inv hw).2
      have hne : j ≠ i := fun e => hd (e ▸ hj)
      simp [with1, hne]
theorem hcD_congr {H0 : List AO} {D D' : Nat → Bool} : ∀ {n : Nat}, (∀ j, j < n → isChn outs j = true → D j = D' j) → hcD outs H0 D n = hcD outs H0 D' n
  | 0, _ => rfl
  | n + 1, h => by
    have ih := hcD_congr (H0 := H0) (n := n) (fun j hj hc => h j (by omega) hc)
    unfold hcD
    cases ho : outs n with
    | chn v Hc => simp only [h n (by omega) (by simp [isChn, ho]), ih]
    | _ => simp only [ih]
theorem hcD_cut {H0 : List AO} {D : Nat → Bool} {i : Nat} : ∀ {n : Nat}, i ≤ n → (∀ j, i ≤ j → j < n → isChn outs j = true → D j = false) → hcD outs H0 D n = hcD outs H0 D i
  | 0, hi, _ => by rw [Nat.le_zero.1 hi]
  | n + 1, hi, h => by
    by_cases e : i = n + 1
    · rw [e]
    · have ih := hcD_cut (H0 := H0) (n := n) (by omega) (fun j h1 h2 => h j h1 (by omega))
      rw [← ih]
      show (match outs n with | .chn _ Hc => if D n then Hc else hcD outs H0 D n | _ => hcD outs H0 D n) = _
      cases ho : outs n with
      | chn v Hc => simp only [h n (by omega) (by omega) (by simp [isChn, ho]), Bool.false_eq_true, if_false]
      | _ => rfl
theorem hcD_ind {H0 : List AO} {D : Nat → Bool} {p : List AO → Prop} (h0 : p H0) : ∀ {n : Nat}, (∀ j v Hc, j < n → outs j = .chn v Hc → p Hc) → p (hcD outs H0 D n)
  | 0, _ => h0
  | n + 1, h => by
    have ih := hcD_ind (D := D) h0 (n := n) (fun j v Hc hj ho => h j v Hc (by omega) ho)
    unfold hcD
    cases ho : outs n with
    | chn v Hc =>
      simp only []
      split
      · exact h n v Hc (by omega) ho
      · exact ih
    | _ => exact ih
theorem canon (pre : List MI) (hu : Uniq ops m) (hd : ∀ i, i < m → ∃ o, pre[i]? = some o ∧ o.dst = cDst lv (dstOf ops i)) (hlen : ∀ i v Hc, i < m → outs i = .chn v Hc → Hc.length = s0.H.length) :
    ∀ i, i ≤ m → (sts pre outs (s0.H, ⟨s0.L, s0.T, []⟩) i).1 = hcD outs s0.H (fun _ => true) i ∧ (sts pre outs (s0.H, ⟨s0.L, s0.T, []⟩) i).1.length = s0.H.length ∧ (sts pre outs (s0.H, ⟨s0.L, s0.T, []⟩) i).2.H = nD outs (fun _ => true) i ∧
      ∀ t, (sts pre outs (s0.H, ⟨s0.L, s0.T, []⟩) i).2.get (cTmp lv t) = eD lv ops m outs s0 (below i) t := by
  intro i
  induction i with
  | zero =>
    intro _
    refine ⟨rfl, rfl, rfl, fun t => ?_⟩
    unfold eD
    have : (sts pre outs (s0.H, ⟨s0.L, s0.T, []⟩) 0).2.get (cTmp lv t) = s0.get (cTmp lv t) := get_H _ _ _ _ _
    rw [this]
    cases wrOf ops m t <;> simp [below]
  | succ i ih =>
    intro hi
    obtain ⟨h0, hl, h1, h2⟩ := ih (by omega)
    obtain ⟨o, ho, hdst⟩ := hd i (by omega)
    have hb : below (i + 1) = with1 (below i) i := by
      funext j
      simp only [below, with1]
      by_cases hj : j < i
      · simp [hj, show j < i + 1 by omega]
      · by_cases e : j = i
        · simp [e]
        · simp [hj, e]; omega
    rw [hb]
    simp only [sts, ho, hdst]
    cases hout : outs i with
    | val v =>
      have hn : isNew outs i = false := by simp [isNew, hout]
      refine ⟨by simp only [outPut, h0, hcD, hout], hl, by simp [outPut, put_H, h1, nD, hout], fun t => ?_⟩
      rw [eD_with hu (by omega)]
      simp only [outPut, get_put, h2 t]
      simp [valOf, hout]
    | chn v Hc =>
      have hn : isNew outs i = false := by simp [isNew, hout]
      refine ⟨by simp [outPut, hcD, hout], hlen i v Hc (by omega) hout, by simp [outPut, put_H, h1, nD, hout], fun t => ?_⟩
      rw [eD_with hu (by omega)]
      simp only [outPut, get_put, h2 t]
      simp [valOf, hout]
    | new ob mk =>
      have hn : isNew outs i = true := by simp [isNew, hout]
      refine ⟨by simp only [outPut, h0, hcD, hout], hl, by simp [outPut, put_H, h1, nD, hout], fun t => ?_⟩
      rw [eD_with hu (by omega)]
      simp only [outPut, get_put]
      rw [get_H _ _ _ (sts pre outs (s0.H, ⟨s0.L, s0.T, []⟩) i).2.H]
      have e1 : (⟨(sts pre outs (s0.H, ⟨s0.L, s0.T, []⟩) i).2.L, (sts pre outs (s0.H, ⟨s0.L, s0.T, []⟩) i).2.T, (sts pre outs (s0.H, ⟨s0.L, s0.T, []⟩) i).2.H⟩ : St).get (cTmp lv t) = eD lv ops m outs s0 (below i) t := h2 t
      rw [e1]
      have e2 : mk ((sts pre outs (s0.H, ⟨s0.L, s0.T, []⟩) i).1.length + (sts pre outs (s0.H, ⟨s0.L, s0.T, []⟩) i).2.H.length) = valOf outs s0.H.length i := by
        simp [valOf, hout, h1, hl, nD_len]
      rw [e2]
    | upd k v ob =>
      refine ⟨by simp only [outPut, h0, hcD, hout], hl, by simp [outPut, put_H, h1, nD, hout], fun t => ?_⟩
      rw [eD_with hu (by omega)]
      simp only [outPut, get_put]
      rw [get_H _ _ _ (sts pre outs (s0.H, ⟨s0.L, s0.T, []⟩) i).2.H]
      have e1 : (⟨(sts pre outs (s0.H, ⟨s0.L, s0.T, []⟩) i).2.L, (sts pre outs (s0.H, ⟨s0.L, s0.T, []⟩) i).2.T, (sts pre outs (s0.H, ⟨s0.L, s0.T, []⟩) i).2.H⟩ : St).get (cTmp lv t) = eD lv ops m outs s0 (below i) t := h2 t
      rw [e1]
      simp [valOf, hout]
theorem slots_get {i : Nat} (hi : i < m) (hn : isNew outs i = true) {D : Nat → Bool} (hD : D i = false) (hU : UpdOk outs D) : (slots m outs D)[rankNew outs i]? = some .rsv := by
  have key : ∀ n, i + 1 ≤ n → (nD outs D n)[rankNew outs i]? = some .rsv := by
    intro n hn'
    induction n with
    | zero => omega
    | succ n ih =>
      by_cases e : n = i
      · subst e
        unfold nD
        cases ho : outs n with
        | new ob mk =>
          simp only [hD, Bool.false_eq_true, if_false]
          rw [List.getElem?_append_right (by rw [nD_len]; exact Nat.le_refl _), nD_len]
          simp
        | _ => simp [isNew, ho] at hn
      · have ih := ih (by omega)
        unfold nD
        cases ho : outs n with
        | new ob mk =>
          simp only
          rw [List.getElem?_append_left (List.getElem?_eq_some_iff.1 ih).1]; exact ih
        | upd k v ob =>
          simp only
          split
          · rename_i hd
            have hk : k ≠ rankNew outs i := by
              intro ek
              have := hU n k v ob ho hd i hn ek.symm
              rw [hD] at this; cases this
            rw [List.getElem?_set_ne hk]; exact ih
          · exact ih
        | _ => exact ih
  exact key m hi
theorem slots_set {i : Nat} (hi : i < m) {ob : AO} {mk : Nat → AV} (ho : outs i = .new ob mk) {D : Nat → Bool} (hD : D i = false) (hU : UpdOk outs D) : (slots m outs D).set (rankNew outs i) ob = slots m outs (with1 D i) := by
  have hn : isNew outs i = true := by simp [isNew, ho]
  have key : ∀ n, i + 1 ≤ n → (nD outs D n).set (rankNew outs i) ob = nD outs (with1 D i) n := by
    intro n hn'
    induction n with
    | zero => omega
    | succ n ih =>
      by_cases e : n = i
      · subst e
        have hc : nD outs (with1 D n) n = nD outs D n := nD_congr fun j hj => by simp [with1]; omega
        unfold nD
        rw [ho]
        simp only [hc, hD, Bool.false_eq_true, if_false]
        rw [List.set_append_right _ _ (by rw [nD_len]; exact Nat.le_refl _), nD_len]
        simp [with1]
      · have ih := ih (by omega)
        have hw : with1 D i n = D n := by simp [with1, e]
        have hlt : rankNew outs i < (nD outs D n).length := by
          rw [nD_len]
          have h1 := rankNew_mono outs (show i + 1 ≤ n by omega)
          rw [rankNew_succ, hn] at h1
          simp at h1; omega
        unfold nD
        rw [hw]
        cases hon : outs n with
        | new ob' mk' =>
          simp only
          rw [List.set_append_left _ _ hlt, ih]
        | upd k v ob' =>
          simp only
          split
          · rename_i hd
            have hk : k ≠ rankNew outs i := by
              intro ek
              have := hU n k v ob' hon hd i hn ek.symm
              rw [hD] at this; cases this
            rw [← ih, List.set_comm _ _ hk]
          · exact ih
        | _ => exact ih
  exact key m hi
theorem slots_upd {i k : Nat} {v : AV} {ob : AO} (hi : i < m) (ho : outs i = .upd k v ob) {D : Nat → Bool} (hD : D i = false) (hk : k < rankNew outs i) (hl : ∀ j, i < j → j < m → isUpd outs j = true → D j = false) : (slots m outs D).set k ob = slots m outs (with1 D i) := by
  have key : ∀ n, i + 1 ≤ n → n ≤ m → (nD outs D n).set k ob = nD outs (with1 D i) n := by
    intro n hn' hnm
    induction n with
    | zero => omega
    | succ n ih =>
      by_cases e : n = i
      · subst e
        have hc : nD outs (with1 D n) n = nD outs D n := nD_congr fun j hj => by simp [with1]; omega
        unfold nD
        rw [ho]
        simp [hc, hD, with1]
      · have ih := ih (by omega) (by omega)
        have hw : with1 D i n = D n := by simp [with1, e]
        have hlt : k < (nD outs D n).length := by
          rw [nD_len]
          have h1 := rankNew_mono outs (show i ≤ n by omega)
          omega
        unfold nD
        rw [hw]
        cases hon : outs n with
        | new ob' mk' =>
          simp only
          rw [List.set_append_left _ _ hlt, ih]
        | upd k' v' ob' =>
          have := hl n (by omega) (by omega) (by simp [isUpd, hon])
          simp only [this, Bool.false_eq_true, if_false]
          exact ih
        | _ => exact ih
  exact key m hi (Nat.le_refl _)
theorem slots_as {i : Nat} (hi : i ≤ m) {D : Nat → Bool} (hch : ∀ j, j < m → isUpd outs j = true → D j = below i j) {k : Nat} {ob : AO} (hk : (nD outs (fun _ => true) i)[k]? = some ob) : (slots m outs D)[k]? = some ob ∨ (slots m outs D)[k]? = some AO.rsv := by
  have h1 : ∀ n : Nat, n ≤ i → ∀ k : Nat, (nD outs D n)[k]? = (nD outs (fun _ => true) n)[k]? ∨ (nD outs D n)[k]? = some AO.rsv := by
    intro n
    induction n with
    | zero => intro _ k; exact .inl rfl
    | succ n ih =>
      intro hn k
      have ih := ih (by omega)
      have l1 := nD_len outs D n
      have l2 := nD_len outs (fun _ => true) n
      unfold nD
      cases hon : outs n with
      | new ob' mk' =>
        simp only [if_true]
        by_cases hlt : k < rankNew outs n
        · rw [List.getElem?_append_left (by omega), List.getElem?_append_left (by omega)]; exact ih k
        · rw [List.getElem?_append_right (by omega), List.getElem?_append_right (by omega), l1, l2]
          by_cases e : k - rankNew outs n = 0
          · rw [e]
            by_cases hd : D n = true
            · simp [hd]
            · simp [hd]
          · left
            rw [List.getElem?_eq_none (by simp; omega), List.getElem?_eq_none (by simp; omega)]
      | upd k' v ob' =>
        have hd := hch n (by omega) (by simp [isUpd, hon])
        have hb : below i n = true := by simp [below]; omega
        simp only [hd, hb, if_true]
        by_cases e : k' = k
        · subst e
          by_cases hlt : k' < rankNew outs n
          · left; rw [List.getElem?_set_self (by omega), List.getElem?_set_self (by omega)]
          · rw [List.set_eq_of_length_le (by omega), List.set_eq_of_length_le (by omega)]; exact ih _
        · rw [List.getElem?_set_ne e, List.getElem?_set_ne e]; exact ih k
      | _ => exact ih k
  have hlt : k < rankNew outs i := by rw [← nD_len outs (fun _ => true)]; exact (List.getElem?_eq_some_iff.1 hk).1
  have h2 : ∀ n : Nat, i ≤ n → n ≤ m → (nD outs D n)[k]? = (nD outs D i)[k]? := by
    intro n
    induction n with
    | zero => intro h0 _; rw [Nat.le_zero.1 h0]
    | succ n ih =>
      intro hn hnm
      by_cases e : i = n + 1
      · rw [e]
      · have ih := ih (by omega) (by omega)
        have hl : k < (nD outs D n).length := by
          rw [nD_len]
          have := rankNew_mono outs (show i ≤ n by omega)
          omega
        rw [← ih]
        conv => lhs; unfold nD
        cases hon : outs n with
        | new ob' mk' => simp only; rw [List.getElem?_append_left hl]
        | upd k' v ob' =>
          have hd := hch n (by omega) (by simp [isUpd, hon])
          have hb : below i n = false := by simp [below]; omega
          simp only [hd, hb, Bool.false_eq_true, if_false]
        | _ => rfl
  have h3 := h1 i (Nat.le_refl _) k
  rw [hk] at h3
  show (nD outs D m)[k]? = _ ∨ (nD outs D m)[k]? = _
  rw [h2 m hi (Nat.le_refl _)]
  exact h3
end
end Go.AM
set_option linter.all false
namespace Go.AM
variable {lv:List Nat} {P:Program} {N:Nat} {K:St->Prop} {θ:Th} {W:Im}
theorem unl_args (ops:Array Oper) (m:MO):(unl ops m).args=m.args:=by
 cases m with
 | app sz b x y=>simp only [unl]; split <;> rfl
 | sto n x v=>simp only [unl]; split <;> rfl
 | b2s x=>simp only [unl]; split <;> rfl
 | ld g n x=>simp only [unl]; split <;> rfl
 | ixs sz x i=>simp only [unl]; split <;> rfl
 | bsl sz z n ps=>simp only [unl]; split <;> rfl
 | _=>rfl
theorem unlen_eq (ops:Array Oper) (d:MD) (m:MO) (g:Option (MA × Bool)):unlen ops ⟨d,m,g⟩=⟨d,unl ops m,g⟩:=rfl
theorem unl_app {ops : Array Oper} {m : MO} {sz b : Nat} {x y : MA} (h : unl ops m = .appn sz b x y) : m = .app sz b x y ∨ m = .appn sz b x y := by
  cases m with
  | app sz' b' x' y' =>
    simp only [unl] at h
    split at h
    · cases h; exact .inl rfl
    · cases h
  | len s x => cases h
  | sto n x v => simp only [unl] at h; split at h <;> cases h
  | b2s x => simp only [unl] at h; split at h <;> cases h
  | ld g n x => simp only [unl] at h; split at h <;> cases h
  | ixs sz x i => simp only [unl] at h; split at h <;> cases h
  | bsl sz z n ps => simp only [unl] at h; split at h <;> cases h
  | _ => exact .inr h
theorem unl_ston {ops : Array Oper} {m : MO} {n : Nat} {x v : MA} (h : unl ops m = .ston n x v) : m = .sto n x v ∨ m = .ston n x v := by
  cases m with
  | app sz' b' x' y' => simp only [unl] at h; split at h <;> cases h
  | len s x => cases h
  | sto n' x' v' =>
    simp only [unl] at h
    split at h
    · cases h; exact .inl rfl
    · cases h
  | b2s x => simp only [unl] at h; split at h <;> cases h
  | ld g n x => simp only [unl] at h; split at h <;> cases h
  | ixs sz x i => simp only [unl] at h; split at h <;> cases h
  | bsl sz z n ps => simp only [unl] at h; split at h <;> cases h
  | _ => exact .inr h
theorem unl_b2sn {ops : Array Oper} {m : MO} {x : MA} (h : unl ops m = .b2sn x) : m = .b2sn x ∨ noUpd ops = true := by
  cases m with
  | app sz' b' x' y' => simp only [unl] at h; split at h <;> cases h
  | len s x => cases h
  | sto n x v => simp only [unl] at h; split at h <;> cases h
  | b2s x =>
    simp only [unl] at h
    split at h
    · rename_i hc
      rw [Bool.and_eq_true] at hc
      exact .inr hc.2
    · cases h
  | ld g n x => simp only [unl] at h; split at h <;> cases h
  | ixs sz x i => simp only [unl] at h; split at h <;> cases h
  | bsl sz z n ps => simp only [unl] at h; split at h <;> cases h
  | _ => exact .inl h
theorem ear_is {m:MO} (hk:kindOf m=.ear):isEar m=true:=by cases m <;> first | rfl | (cases hk; done)
theorem unl_ok {o : Oper} {ops : Array Oper} {m : MO} {s : St} (hm : cOp lv P o.op = some m) (hd : o.dst.all (decide <| · < N) = true) (h : stepU (ACall P) (unl ops m) (cDst lv o.dst) K s) : OpOk lv P N o s K := by
  by_cases hb : ∃ sz z n ps, m = .bsl sz z n ps
  · obtain ⟨sz, z, n, ps, rfl⟩ := hb
    simp only [unl] at h
    split at h
    · exact step_bslk hm hd h
    · exact step_ok hm hd h
  refine step_ok hm hd ?_
  cases m with
  | len t x =>
    change withV (lenqV t (s.get x)) (cDst lv o.dst) K s at h
    rw [su_len]
    obtain ⟨v, hv, h⟩ := withV_inv h
    unfold lenqV at hv
    unfold lenK
    split at hv
    · cases hv; exact fun _ => h
    · cases hv; exact h
    · cases hv; exact fun _ => h
    · cases hv; exact fun _ => h
    · cases hv
  | app sz b x y =>
    simp only [unl] at h
    split at h <;> exact h
  | sto n x v =>
    simp only [unl] at h
    split at h <;> exact h
  | b2s x =>
    simp only [unl] at h
    split at h <;> exact h
  | ld g n x =>
    simp only [unl] at h
    split at h <;> exact h
  | ixs sz x i =>
    simp only [unl] at h
    split at h <;> exact h
  | bsl sz z n ps => exact (hb ⟨sz, z, n, ps, rfl⟩).elim
  | _ => exact h
structure DrwFacts (lv:List Nat) (P:Program) (ops:Array Oper) (m:Nat):Prop where
 le:m<=ops.size
 chain:∀ i j,i<j->j<m->chainO lv P ops i=true->chainO lv P ops j=true->waitsT (closOf ops) j i=true
 ear:∀ i j,i<m->j<m->earO lv P ops i=true->chainO lv P ops j=true->ordd (closOf ops) i j=true
 apart:∀ i j,i<m->j<m->apartOk (closOf ops) ops i j=true
 lt:∀ j o,ops[j]?=some o->∀ e∈waitsOn o,e<j
 tail:∀ j,m<=j->j<ops.size->∀ i,i<j->waitsT (closOf ops) j i=true
theorem pairs_facts {cl : List Nat} : ∀ {l : List Nat}, pairsOk cl l = true → l.Pairwise (fun i j => waitsT cl j i = true)
  | [], _ => List.Pairwise.nil
  | i :: is, h => by
    unfold pairsOk at h
    simp only [Bool.and_eq_true, List.all_eq_true] at h
    exact List.Pairwise.cons h.1 (pairs_facts h.2)
theorem drwOk_facts {ops:Array Oper} {m:Nat} (h:drwOk (closOf ops) ops m (chains lv P ops m) (ears lv P ops m)=true):DrwFacts lv P ops m:=by
 unfold drwOk at h
 simp only [Bool.and_eq_true,decide_eq_true_eq,List.all_eq_true,List.mem_range] at h
 obtain ⟨⟨⟨⟨h1,h0⟩,he⟩,h2⟩,h3⟩:=h
 refine ⟨h1,?_,fun i j hi hj h4 h5=>?_,fun i j hi hj=>h2 i hi j hj,?_,?_⟩
 rotate_left
 ·exact he i (List.mem_filter.2 ⟨List.mem_range.2 hi,h4⟩) j (List.mem_filter.2 ⟨List.mem_range.2 hj,h5⟩)
 rotate_right
 ·intro i j hij hj hi' hj'
  have hp:=List.pairwise_filter.1 (pairs_facts h0)
  have:=(List.pairwise_iff_getElem.1 hp) i j (by simp; omega) (by simp; omega) hij
  simp only [List.getElem_range] at this
  exact this hi' hj'
 ·intro j o ho e he
  have hj:j<ops.size:=(Array.getElem?_eq_some_iff.1 ho).1
  have:=h3 j hj
  rw [ho] at this
  simp only [Bool.and_eq_true,List.all_eq_true,decide_eq_true_eq] at this
  exact this.1 e he
 ·intro j hm hj i hi
  have:=h3 j hj
  have ho:ops[j]?=some ops[j]:=by simp [hj]
  rw [ho] at this
  simp only [Bool.and_eq_true,Bool.or_eq_true,decide_eq_true_eq] at this
  rcases this.2 with h' | h'
  ·omega
  ·unfold waitsAll at h'
   simp only [List.all_eq_true,List.mem_range] at h'
   exact h' i hi
theorem DrwFacts.uniq {ops : Array Oper} {m : Nat} (h : DrwFacts lv P ops m) : Uniq ops m := by
  intro i j t hi hj h1 h2
  have := h.apart i j hi hj
  unfold apartOk at this
  unfold dstOf at h1 h2
  cases hx : ops[i]? with
  | none => rw [hx] at h1; cases h1
  | some x =>
    cases hy : ops[j]? with
    | none => rw [hy] at h2; cases h2
    | some y =>
      rw [hx] at h1; rw [hy] at h2
      simp only [Option.bind_some] at h1 h2
      rw [hx, hy] at this
      simp only [Bool.and_eq_true, Bool.or_eq_true, beq_iff_eq, bne_iff_ne] at this
      rcases this.2 with (h' | h') | h'
      · exact h'
      · rw [h1] at h'; simp at h'
      · rw [h1, h2] at h'; exact (h' rfl).elim
theorem cOp_appn {op : Op} {sz b : Nat} {x y : MA} : ¬ cOp lv P op = some (.appn sz b x y) := by
  intro hm
  cases op with
  | call c =>
    simp only [cOp, cCall] at hm
    (repeat' split at hm) <;> first | (cases hm; done)
  | slice t x lo hi mx =>
    cases mx with
    | some _ => cases hm
    | none =>
      simp only [cOp] at hm
      split at hm
      · cases hm
      · obtain ⟨n, _, h⟩ := map_some_inv hm; cases h
      · cases hm
  | makeFunc fn first caps =>
    cases fn with
    | func f =>
      simp only [cOp] at hm
      split at hm
      · obtain ⟨x, _, h⟩ := map_some_inv hm; cases h
      · cases hm
    | _ => cases hm
  | makeMap t hint =>
    cases hint with
    | none => cases hm
    | some _ => cases hm
  | _ =>
    simp only [cOp, cNilq, cNii, cSq, cPeq, Option.map_eq_some_iff] at hm
    first
      | (cases hm; done)
      | (obtain ⟨x, _, hm⟩ := hm; cases hm; done)
      | ((repeat' split at hm) <;> first | (cases hm; done) | (simp only [Option.map_eq_some_iff, Option.bind_eq_some_iff] at hm; obtain ⟨x, _, hm⟩ := hm; first | (cases hm; done) | (split at hm <;> cases hm)))
theorem cOp_ston {op : Op} {n : Nat} {x v : MA} : ¬ cOp lv P op = some (.ston n x v) := by
  intro hm
  cases op with
  | call c =>
    simp only [cOp, cCall] at hm
    (repeat' split at hm) <;> first | (cases hm; done)
  | slice t x lo hi mx =>
    cases mx with
    | some _ => cases hm
    | none =>
      simp only [cOp] at hm
      split at hm
      · cases hm
      · obtain ⟨n, _, h⟩ := map_some_inv hm; cases h
      · cases hm
  | makeFunc fn first caps =>
    cases fn with
    | func f =>
      simp only [cOp] at hm
      split at hm
      · obtain ⟨x, _, h⟩ := map_some_inv hm; cases h
      · cases hm
    | _ => cases hm
  | makeMap t hint =>
    cases hint with
    | none => cases hm
    | some _ => cases hm
  | _ =>
    simp only [cOp, cNilq, cNii, cSq, cPeq, Option.map_eq_some_iff] at hm
    first
      | (cases hm; done)
      | (obtain ⟨x, _, hm⟩ := hm; cases hm; done)
      | ((repeat' split at hm) <;> first | (cases hm; done) | (simp only [Option.map_eq_some_iff, Option.bind_eq_some_iff] at hm; obtain ⟨x, _, hm⟩ := hm; first | (cases hm; done) | (split at hm <;> cases hm)))
theorem su_b2sn' {C:CallP} (st:St) (d:MD) (x):stepU C (.b2sn x) d K st=withV (b2sV st.H (st.get x)) d K st:=rfl
theorem cOp_b2sn {op : Op} {x : MA} : ¬ cOp lv P op = some (.b2sn x) := by
  intro hm
  cases op with
  | call c =>
    simp only [cOp, cCall] at hm
    (repeat' split at hm) <;> first | (cases hm; done)
  | slice t x lo hi mx =>
    cases mx with
    | some _ => cases hm
    | none =>
      simp only [cOp] at hm
      split at hm
      · cases hm
      · obtain ⟨n, _, h⟩ := map_some_inv hm; cases h
      · cases hm
  | makeFunc fn first caps =>
    cases fn with
    | func f =>
      simp only [cOp] at hm
      split at hm
      · obtain ⟨x, _, h⟩ := map_some_inv hm; cases h
      · cases hm
    | _ => cases hm
  | makeMap t hint =>
    cases hint with
    | none => cases hm
    | some _ => cases hm
  | _ =>
    simp only [cOp, cNilq, cNii, cSq, cPeq, Option.map_eq_some_iff] at hm
    first
      | (cases hm; done)
      | (obtain ⟨x, _, hm⟩ := hm; cases hm; done)
      | ((repeat' split at hm) <;> first | (cases hm; done) | (simp only [Option.map_eq_some_iff, Option.bind_eq_some_iff] at hm; obtain ⟨x, _, hm⟩ := hm; first | (cases hm; done) | (split at hm <;> cases hm)))
theorem cOp_app_call {op : Op} {sz b : Nat} {x y : MA} (hm : cOp lv P op = some (.app sz b x y)) : ∃ c, op = .call c ∧ c.callee = .builtin .append := by
  cases op with
  | call c =>
    simp only [cOp, cCall] at hm
    (repeat' split at hm) <;> first | (cases hm; done) | exact ⟨_, rfl, by assumption⟩
  | slice t x lo hi mx =>
    cases mx with
    | some _ => cases hm
    | none =>
      simp only [cOp] at hm
      split at hm
      · cases hm
      · obtain ⟨n, _, h⟩ := map_some_inv hm; cases h
      · cases hm
  | makeFunc fn first caps =>
    cases fn with
    | func f =>
      simp only [cOp] at hm
      split at hm
      · obtain ⟨x, _, h⟩ := map_some_inv hm; cases h
      · cases hm
    | _ => cases hm
  | makeMap t hint =>
    cases hint with
    | none => cases hm
    | some _ => cases hm
  | _ =>
    simp only [cOp, cNilq, cNii, cSq, cPeq, Option.map_eq_some_iff] at hm
    first
      | (cases hm; done)
      | (obtain ⟨x, _, hm⟩ := hm; cases hm; done)
      | ((repeat' split at hm) <;> first | (cases hm; done) | (simp only [Option.map_eq_some_iff, Option.bind_eq_some_iff] at hm; obtain ⟨x, _, hm⟩ := hm; first | (cases hm; done) | (split at hm <;> cases hm)))
theorem cOp_sto_store {op : Op} {n : Nat} {x v : MA} (hm : cOp lv P op = some (.sto n x v)) : ∃ t y z, op = .store t y z := by
  cases op with
  | call c =>
    simp only [cOp, cCall] at hm
    (repeat' split at hm) <;> first | (cases hm; done)
  | slice t x lo hi mx =>
    cases mx with
    | some _ => cases hm
    | none =>
      simp only [cOp] at hm
      split at hm
      · cases hm
      · obtain ⟨n, _, h⟩ := map_some_inv hm; cases h
      · cases hm
  | store t y z => exact ⟨_, _, _, rfl⟩
  | makeFunc fn first caps =>
    cases fn with
    | func f =>
      simp only [cOp] at hm
      split at hm
      · obtain ⟨x, _, h⟩ := map_some_inv hm; cases h
      · cases hm
    | _ => cases hm
  | makeMap t hint =>
    cases hint with
    | none => cases hm
    | some _ => cases hm
  | _ =>
    simp only [cOp, cNilq, cNii, cSq, cPeq, Option.map_eq_some_iff] at hm
    first
      | (cases hm; done)
      | (obtain ⟨x, _, hm⟩ := hm; cases hm; done)
      | ((repeat' split at hm) <;> first | (cases hm; done) | (simp only [Option.map_eq_some_iff, Option.bind_eq_some_iff] at hm; obtain ⟨x, _, hm⟩ := hm; first | (cases hm; done) | (split at hm <;> cases hm)))
theorem noUpd_app {ops:Array Oper} {o:Oper} (hn:noUpd ops=true) (ho:o∈ops.toList) {sz b:Nat} {x y:MA}:¬ cOp lv P o.op=some (.app sz b x y):=by
 intro hm
 have h:=List.all_eq_true.1 hn o ho
 obtain ⟨c,e,e2⟩:=cOp_app_call hm
 rw [e] at h
 simp only [e2] at h
 cases h
theorem noUpd_sto {ops:Array Oper} {o:Oper} (hn:noUpd ops=true) (ho:o∈ops.toList) {n:Nat} {x v:MA}:¬ cOp lv P o.op=some (.sto n x v):=by
 intro hm
 have h:=List.all_eq_true.1 hn o ho
 obtain ⟨t,y,z,e⟩:=cOp_sto_store hm
 rw [e] at h
 cases h
section
variable {ops:Array Oper} {m:Nat} {outs:Nat->Out} {s0:St}
theorem op_agree (hf : DrwFacts lv P ops m) {D : Nat → Bool} (hc : Closed ops D) {i : Nat} (hi : i < m) {o : Oper} (ho : ops[i]? = some o) (hDi : D i = false) (hready : ∀ e ∈ waitsOn o, D e = true) {t : Nat} (ht : t ∈ looks ops o) :
    eD lv ops m outs s0 (below i) t = eD lv ops m outs s0 D t := by
  unfold eD
  cases hw : wrOf ops m t with
  | none => rfl
  | some j =>
    obtain ⟨hj, hdj⟩ := wr_inv hw
    have hap := hf.apart i j hi hj
    unfold apartOk at hap
    unfold dstOf at hdj
    cases hy : ops[j]? with
    | none => rw [hy] at hdj; cases hdj
    | some y =>
      rw [hy] at hdj
      simp only [Option.bind_some] at hdj
      rw [ho, hy] at hap
      simp only [hdj, Bool.and_eq_true, Bool.or_eq_true, Bool.not_eq_true', decide_eq_true_eq] at hap
      have h1 := hap.1
      have hct : (looks ops o).contains t = true := by simpa using ht
      rcases h1 with (h1 | ⟨h1, h2⟩) | ⟨h1, h2⟩
      · rw [hct] at h1; cases h1
      · have hD := waitsT_closed hf.lt hc i j o ho hready h2
        simp [below, h1, hD]
      · have hD : D j = false := by
          cases e : D j with
          | false => rfl
          | true =>
            have := waitsT_closed hf.lt hc j i y hy (hc j y e hy) h2
            rw [hDi] at this; cases this
        have hnb : ¬ j < i := by omega
        simp [below, hnb, hD]
def PreOk (lv:List Nat) (P:Program) (N:Nat) (ops:Array Oper) (m:Nat) (outs:Nat->Out) (Hm:List AO) (s0:St) (pre:List MI):Prop :=
 ∀ i o,i<m->ops[i]?=some o->∃ m' g,cOp lv P o.op=some m'/\cGuard lv ops o.guard=some g/\o.dst.all (decide <| ·<N)=true/\pre[i]?=some ⟨cDst lv o.dst,unl ops m',g⟩ /\
  GoodI P Hm ⟨cDst lv o.dst,unl ops m',g⟩ (sts pre outs (s0.H,⟨s0.L,s0.T,[]⟩) i) (outs i)
theorem preOk_of {Hm : List AO} {pre : List MI} (hpre : pre = (ops.toList.take m).map fun o => unlen ops (cOper lv P N ops o)) (hg : ∀ i o, pre[i]? = some o → GoodI P Hm o (sts pre outs (s0.H, ⟨s0.L, s0.T, []⟩) i) (outs i)) : PreOk lv P N ops m outs Hm s0 pre := by
  intro i o hi ho
  have hp : pre[i]? = some (unlen ops (cOper lv P N ops o)) := by
    rw [hpre, List.getElem?_map, List.getElem?_take, if_pos hi]
    simp [ho]
  have hgood := hg i _ hp
  have hstop : ∀ s out, ¬ GoodI P Hm (unlen ops ⟨.no, .stop, none⟩) s out := by
    intro s out hh
    cases out with
    | val v =>
      rcases hh with hh | ⟨_, _, _, _, _, _, e, _⟩ | ⟨e, _⟩
      · exact hh ⟨s.2.L, s.2.T, Hm⟩ (fun x hx => by cases hx) (Hext.refl Hm)
      · cases e
      · cases e
    | new ob mk => rcases hh with hh | ⟨_, _, _, _, _, e, _⟩ | hh; cases hh.1; cases e; cases hh.1
    | upd k v ob =>
      rcases hh with ⟨_, _, _, _, _, _, _, _, _, e, _⟩ | ⟨_, _, _, _, _, _, _, _, e, _⟩
      · cases e
      · cases e
    | chn v Hc => cases hh.1
  unfold cOper at hgood hp
  split at hgood
  · rename_i m' g hm hgd
    rw [hm, hgd] at hp
    simp only at hp
    split at hgood
    · rename_i hd
      rw [if_pos hd, unlen_eq] at hp
      rw [unlen_eq] at hgood
      exact ⟨m', g, hm, hgd, hd, hp, hgood⟩
    · exact (hstop _ _ hgood).elim
  · exact (hstop _ _ hgood).elim
theorem goodI_chn {Hm:List AO} {o:MI} {s:List AO × St} {v:AV} {Hc:List AO} (h:GoodI P Hm o s (.chn v Hc)):GoodU P Hm o.op o.dst s (.chn v Hc):=by
 unfold GoodI at h
 split at h
 ·exact h
 ·rename_i t want e
  rcases h with ⟨_,h⟩ | ⟨b,h1,h2,h3⟩
  ·cases h
  ·by_cases e:b=want
   ·exact h2 e
   ·cases h3 e
theorem PreOk.chn {Hm:List AO} {pre:List MI} (hm:m<=ops.size) (hp:PreOk lv P N ops m outs Hm s0 pre) {i:Nat} {v:AV} {Hc:List AO} (hi:i<m) (ho:outs i=.chn v Hc) :
  chainO lv P ops i=true/\Hc.length=(sts pre outs (s0.H,⟨s0.L,s0.T,[]⟩) i).1.length/\Hext Hm Hc:=by
 have his:i<ops.size:=Nat.lt_of_lt_of_le hi hm
 have hoi:ops[i]?=some ops[i]:=by simp [his]
 obtain ⟨m',g,h1,h2,h3,h4,h5⟩:=hp i ops[i] hi hoi
 rw [ho] at h5
 obtain ⟨q1,q2,q3,_⟩:=goodI_chn h5
 refine ⟨?_,q2,q3⟩
 unfold chainO
 rw [hoi]
 simp only [h1]
 cases m' <;> first | exact q1 | rfl | (cases q1; done) | (change chainM (unl ops (.b2s _))=true at q1; simp only [unl] at q1; split at q1 <;> cases q1) | (change chainM (unl ops (.ld _ _ _))=true at q1; simp only [unl] at q1; split at q1 <;> cases q1) | (change chainM (unl ops (.ixs _ _ _))=true at q1; simp only [unl] at q1; split at q1 <;> cases q1) | (change chainM (unl ops (.bsl _ _ _ _))=true at q1; simp only [unl] at q1; split at q1 <;> cases q1)
theorem goodI_upd {Hm:List AO} {o:MI} {s:List AO × St} {k:Nat} {v:AV} {ob:AO} (h:GoodI P Hm o s (.upd k v ob)):AppUpd Hm o.op s k v ob\/StoUpd o.op s k v ob:=by
 unfold GoodI at h
 split at h
 ·exact h
 ·rename_i t want e
  rcases h with ⟨_,h⟩ | ⟨b,h1,h2,h3⟩
  ·cases h
  ·by_cases e:b=want
   ·exact h2 e
   ·cases h3 e
theorem PreOk.upd {Hm:List AO} {pre:List MI} (hm:m<=ops.size) (hp:PreOk lv P N ops m outs Hm s0 pre) {i k:Nat} {v:AV} {ob:AO} (hi:i<m) (ho:outs i=.upd k v ob):chainO lv P ops i=true:=by
 have his:i<ops.size:=Nat.lt_of_lt_of_le hi hm
 have hoi:ops[i]?=some ops[i]:=by simp [his]
 obtain ⟨m',g,h1,h2,h3,h4,h5⟩:=hp i ops[i] hi hoi
 rw [ho] at h5
 unfold chainO
 rw [hoi]
 simp only [h1]
 rcases goodI_upd h5 with ⟨_,_,_,_,_,_,_,_,_,e,_⟩ | ⟨_,_,_,_,_,_,_,_,e,_⟩
 ·rcases unl_app e with e | e <;> rw [e] <;> rfl
 ·rcases unl_ston e with e | e <;> rw [e] <;> rfl
theorem PreOk.noupd {Hm:List AO} {pre:List MI} (hm:m<=ops.size) (hp:PreOk lv P N ops m outs Hm s0 pre) (hn:noUpd ops=true) {i:Nat} (hi:i<m) (hu:isUpd outs i=true):False:=by
 have his:i<ops.size:=Nat.lt_of_lt_of_le hi hm
 have hoi:ops[i]?=some ops[i]:=by simp [his]
 have hmem:ops[i]∈ops.toList:=by simp
 unfold isUpd at hu
 split at hu
 case h_2=>cases hu
 rename_i k v ob ho
 obtain ⟨m',g,h1,h2,h3,h4,h5⟩:=hp i ops[i] hi hoi
 rw [ho] at h5
 rcases goodI_upd h5 with ⟨_,_,_,_,_,_,_,_,_,e,_⟩ | ⟨_,_,_,_,_,_,_,_,e,_⟩
 ·rcases unl_app e with e | e
  ·rw [e] at h1; exact noUpd_app hn hmem h1
  ·rw [e] at h1; exact cOp_appn h1
 ·rcases unl_ston e with e | e
  ·rw [e] at h1; exact noUpd_sto hn hmem h1
  ·rw [e] at h1; exact cOp_ston h1
theorem PreOk.lens {Hm : List AO} {pre : List MI} (hm : m ≤ ops.size) (hp : PreOk lv P N ops m outs Hm s0 pre) : ∀ i, i ≤ m → (sts pre outs (s0.H, ⟨s0.L, s0.T, []⟩) i).1.length = s0.H.length
  | 0, _ => rfl
  | i + 1, hi => by
    have ih := hp.lens hm i (by omega)
    have his : i < ops.size := Nat.lt_of_lt_of_le (show i < m by omega) hm
    obtain ⟨m', g, h1, h2, h3, h4, h5⟩ := hp i ops[i] (by omega) (by simp [his])
    simp only [sts, h4]
    cases ho : outs i with
    | val v => exact ih
    | new ob mk => exact ih
    | upd k v ob => exact ih
    | chn v Hc => exact ((hp.chn hm (by omega) ho).2.1).trans ih
theorem PreOk.len {Hm:List AO} {pre:List MI} (hm:m<=ops.size) (hp:PreOk lv P N ops m outs Hm s0 pre) (i:Nat) (v:AV) (Hc:List AO) (hi:i<m) (ho:outs i=.chn v Hc):Hc.length=s0.H.length :=
 ((hp.chn hm hi ho).2.1).trans (hp.lens hm i (by omega))
theorem hcD_len {Hm:List AO} {pre:List MI} (hm:m<=ops.size) (hp:PreOk lv P N ops m outs Hm s0 pre) (D:Nat->Bool) {n:Nat} (hn:n<=m):(hcD outs s0.H D n).length=s0.H.length :=
 hcD_ind (p:=fun l=>l.length=s0.H.length) rfl (fun j v Hc hj ho=>hp.len hm j v Hc (by omega) ho)
theorem slots_same {D : Nat → Bool} {i : Nat} (hn : isNew outs i = false) (hu : isUpd outs i = false) : slots m outs (with1 D i) = slots m outs D := by
  have key : ∀ n, nD outs (with1 D i) n = nD outs D n := by
    intro n
    induction n with
    | zero => rfl
    | succ n ih =>
      unfold nD
      rw [ih]
      by_cases e : n = i
      · subst e
        cases ho : outs n with
        | new ob mk => simp [isNew, ho] at hn
        | upd k v ob => simp [isUpd, ho] at hu
        | _ => rfl
      · rw [show with1 D i n = D n by simp [with1, e]]
  exact key m
theorem draw_step {Hm : List AO} {pre : List MI} (hf : DrwFacts lv P ops m) (hHm : Hext Hm s0.H) (hp : PreOk lv P N ops m outs Hm s0 pre) {D : Nat → Bool} (hc : Closed ops D) {i : Nat} (hi : i < m) {o : Oper} (ho : ops[i]? = some o) (hDi : D i = false) (hU : UpdOk outs D) (hready : ∀ e ∈ waitsOn o, D e = true)
    {a : Act} {w : World} {next : Act → World → Prop} {Q : Exit → Act → World → Prop} (hR : Rl lv N (SD ops m outs s0 D) a w θ W)
    (hk : ∀ a' w' θ' W', Rl lv N (SD ops m outs s0 (with1 D i)) a' w' θ' W' → UpdOk outs (with1 D i) → Stp θ W w θ' W' w' → next a' w') :
    if Region.wanted o (yielded ops a.tmps) then o.wp P a w next Q else next (a.put o.dst undef) w := by
  have hu := hf.uniq
  obtain ⟨m', g, hm, hg, hdN, hpi, hgood⟩ := hp i o hi ho
  have hdst : ∀ k, k < m → ∃ o, pre[k]? = some o ∧ o.dst = cDst lv (dstOf ops k) := by
    intro k hk'
    have hks : k < ops.size := Nat.lt_of_lt_of_le hk' hf.le
    obtain ⟨m2, g2, _, _, _, hp2, _⟩ := hp k ops[k] hk' (by simp [hks])
    exact ⟨_, hp2, by simp [dstOf, hks]⟩
  have hdo : dstOf ops i = o.dst := by simp [dstOf, ho]
  obtain ⟨hcH, hcL, hcN, hcG⟩ := canon (lv := lv) (outs := outs) (s0 := s0) pre hu hdst (hp.len hf.le) i (by omega)
  have hag : ∀ t, t ∈ looks ops o → (sts pre outs (s0.H, ⟨s0.L, s0.T, []⟩) i).2.get (cTmp lv t) = (SD ops m outs s0 D).get (cTmp lv t) := by
    intro t ht
    rw [hcG t, SD_get hu, op_agree hf hc hi ho hDi hready ht]
  have hops : ∀ t, Operand.tmp t ∈ o.op.operands.toList → t ∈ looks ops o := by
    intro t ht
    unfold looks
    refine List.mem_append.2 (.inl ?_)
    exact List.mem_filterMap.2 ⟨_, ht, rfl⟩
  have hA : Agree m'.args (sts pre outs (s0.H, ⟨s0.L, s0.T, []⟩) i).2 (SD ops m outs s0 D) := by
    intro x hx
    rcases cOp_from hm x hx with ⟨v, rfl, _⟩ | ⟨t, rfl, ht⟩
    · rfl
    · exact hag t (hops t ht)
  have hA' : Agree (unl ops m').args (sts pre outs (s0.H, ⟨s0.L, s0.T, []⟩) i).2 (SD ops m outs s0 D) := by rw [unl_args]; exact hA
  have hext : Hext Hm (SD ops m outs s0 D).H := by
    have h1 : Hext Hm (hcD outs s0.H D m) := hcD_ind (p := Hext Hm) hHm (fun j v Hc hj hoj => (hp.chn hf.le hj hoj).2.2)
    intro id ob hid hn
    exact hext_app _ _ id ob (h1 id ob hid hn) hn
  have hcSame : isChn outs i = false → hcD outs s0.H (with1 D i) m = hcD outs s0.H D m := by
    intro hn
    refine hcD_congr (fun j hj hcj => ?_)
    have hne : j ≠ i := by rintro rfl; rw [hn] at hcj; cases hcj
    simp [with1, hne]
  have hUn : isUpd outs i = false → UpdOk outs (with1 D i) := by
    intro hn j k v ob hj hDj i0 h0 hr
    have hne : j ≠ i := by rintro rfl; simp [isUpd, hj] at hn
    have : D j = true := by simpa [with1, hne] using hDj
    simp [with1, hU j k v ob hj this i0 h0 hr]
  have toNext : ∀ v, outs i = .val v → ∀ st' a' w' θ' W', st' = (SD ops m outs s0 D).put (cDst lv o.dst) v → Rl lv N st' a' w' θ' W' → Stp θ W w θ' W' w' → next a' w' := by
    intro v hv st' a' w' θ' W' hst hR' hs'
    subst hst
    refine hk a' w' θ' W' (hR'.congr (fun t => ?_) ?_) (hUn (by simp [isUpd, hv])) hs'
    · rw [get_put, SD_get hu, SD_get hu, eD_with hu hi, hdo]
      simp [valOf, hv]
    · rw [put_H]
      show hcD outs s0.H D m ++ slots m outs D = hcD outs s0.H (with1 D i) m ++ slots m outs (with1 D i)
      rw [slots_same (by simp [isNew, hv]) (by simp [isUpd, hv]), hcSame (by simp [isChn, hv])]
  have hchain : chainO lv P ops i = true → ∀ j, j < m → chainO lv P ops j = true → D j = below i j := by
    intro hci j hj hcj'
    have hjs : j < ops.size := Nat.lt_of_lt_of_le hj hf.le
    rcases Nat.lt_trichotomy j i with hlt | he | hgt
    · rw [waitsT_closed hf.lt hc i j o ho hready (hf.chain j i hlt hi hcj' hci)]
      simp [below, hlt]
    · subst he; rw [hDi]; simp [below]
    · have hnb : ¬ j < i := by omega
      cases e : D j with
      | false => simp [below, hnb]
      | true =>
        have hoj : ops[j]? = some ops[j] := by simp [hjs]
        have := waitsT_closed hf.lt hc j i _ hoj (hc j _ e hoj) (hf.chain i j hgt hj hci hcj')
        rw [hDi] at this; cases this
  have chnO : ∀ j, j < m → isChn outs j = true → chainO lv P ops j = true := by
    intro j hj hcj
    unfold isChn at hcj
    split at hcj
    · rename_i v' Hc' e; exact (hp.chn hf.le hj e).1
    · cases hcj
  have updO : ∀ j, j < m → isUpd outs j = true → chainO lv P ops j = true := by
    intro j hj hcj
    unfold isUpd at hcj
    split at hcj
    · rename_i k' v' ob' e; exact hp.upd hf.le hj e
    · cases hcj
  have hHc : chainO lv P ops i = true → hcD outs s0.H D m = (sts pre outs (s0.H, ⟨s0.L, s0.T, []⟩) i).1 := by
    intro hci
    rw [hcH, hcD_congr (n := m) (fun j hj hcj => hchain hci j hj (chnO j hj hcj)), hcD_cut (Nat.le_of_lt hi) (fun j h1 h2 _ => by simp [below]; omega)]
    exact hcD_congr (fun j hj _ => by simp [below, hj])
  have hfill : chainO lv P ops i = true → Fill (unl ops m') (sts pre outs (s0.H, ⟨s0.L, s0.T, []⟩) i).2.H (slots m outs D) (sts pre outs (s0.H, ⟨s0.L, s0.T, []⟩) i).1.length (SD ops m outs s0 D) := by
    intro hci id ob hr hN
    have hl1 := hp.lens hf.le i (by omega)
    rw [hl1] at hr hN ⊢
    rw [hcN] at hr hN
    rw [unl_args] at hr
    have hlD := hcD_len hf.le hp D (Nat.le_refl m)
    have key : ∀ {id : Nat} av vv, idOf av = some id → ARel θ W av vv → ∃ ver, θ id ver ≠ .no := by
      intro id av vv hid hv
      cases hv with
      | gsDead _ ver _ _ _ _ h => cases hid; exact ⟨ver, by rw [h]; exact fun e => by cases e⟩
      | gsNil _ ver h => cases hid; exact ⟨ver, by rw [h]; exact fun e => by cases e⟩
      | gs _ ver _ _ _ _ _ _ _ h => cases hid; exact ⟨ver, by rw [h]; exact fun e => by cases e⟩
      | ptr _ _ _ _ _ h => cases hid; exact ⟨0, by rw [h]; exact fun e => by cases e⟩
      | ptrDead _ _ _ h => cases hid; exact ⟨0, by rw [h]; exact fun e => by cases e⟩
      | _ => cases hid
    have there : ∀ {id : Nat} {ob : AO}, (∃ ver, θ id ver ≠ .no) → s0.H.length ≤ id → (nD outs (fun _ => true) i)[id - s0.H.length]? = some ob → (slots m outs D)[id - s0.H.length]? = some ob := by
      intro id ob hno hle hN
      obtain ⟨ver, hno⟩ := hno
      rcases slots_as (Nat.le_of_lt hi) (fun j hj hu' => hchain hci j hj (updO j hj hu')) hN with h | h
      · exact h
      · have hrs : (SD ops m outs s0 D).H[id]? = some .rsv := by
          show (hcD outs s0.H D m ++ slots m outs D)[id]? = _
          rw [List.getElem?_append_right (by omega), hlD, h]
        exact absurd (hR.mem.obj id _ hrs ver) hno
    have known : ∃ ver, θ id ver ≠ .no := by
      clear hN ob
      induction hr with
      | arg h hb =>
        obtain ⟨y, hym, hg⟩ := h
        obtain ⟨t', et, _⟩ : ∃ t', y = cTmp lv t' ∧ Operand.tmp t' ∈ o.op.operands.toList := by
          rcases cOp_from hm _ hym with ⟨v, e, hv⟩ | h
          · rw [e] at hg
            change idOf v = some _ at hg
            rw [hv] at hg; cases hg
          · exact h
        have hrel := hR.tmpArg t'
        rw [← et] at hrel
        exact key _ _ hg hrel
      | step h hN hc e hb ih =>
        have hp := there ih h.ge hN
        rename_i id id' ob c
        have hH : (SD ops m outs s0 D).H[id]? = some ob := by
          show (hcD outs s0.H D m ++ slots m outs D)[id]? = _
          rw [List.getElem?_append_right (by rw [hlD]; exact h.ge), hlD]; exact hp
        obtain ⟨v, hv⟩ := OR.val (hR.mem.obj id _ hH) c hc
        exact key _ _ e hv
    exact there known hr.ge hN
  have main : GoodU P Hm (unl ops m') (cDst lv o.dst) (sts pre outs (s0.H, ⟨s0.L, s0.T, []⟩) i) (outs i) → o.wp P a w next Q := by
    intro hGU
    cases hout : outs i with
    | val v =>
      rw [hout] at hGU
      rcases hGU with hGU | ⟨x, id, ver, off, n, ob, eop, hxc, ex, hle, hrs, hv⟩ | ⟨hke, hGU⟩
      · exact unl_ok hm hdN (hGU _ hA' hext) a w θ W next Q hR (toNext v hout)
      rotate_left
      · have hei : earO lv P ops i = true := by unfold earO; rw [ho]; simp only [hm]; exact ear_is hke
        have hpl : ∀ j, j < m → chainO lv P ops j = true → D j = below i j := fun j hj hcj => by
          have hjs : j < ops.size := Nat.lt_of_lt_of_le hj hf.le
          have hor := hf.ear i j hi hj hei hcj
          unfold ordd at hor
          simp only [Bool.or_eq_true, Bool.and_eq_true, decide_eq_true_eq, beq_iff_eq] at hor
          rcases hor with (rfl | ⟨h1, h2⟩) | ⟨h1, h2⟩
          · rw [hDi]; simp [below]
          · rw [waitsT_closed hf.lt hc i j o ho hready h2]; simp [below, h1]
          · have hnb : ¬ j < i := by omega
            cases e : D j with
            | false => simp [below, hnb]
            | true =>
              have hoj : ops[j]? = some ops[j] := by simp [hjs]
              have := waitsT_closed hf.lt hc j i _ hoj (hc j _ e hoj) h2
              rw [hDi] at this; cases this
        have hHe : hcD outs s0.H D m = (sts pre outs (s0.H, ⟨s0.L, s0.T, []⟩) i).1 := by
          rw [hcH, hcD_congr (n := m) (fun j hj hcj => hpl j hj (chnO j hj hcj)), hcD_cut (Nat.le_of_lt hi) (fun j h1 h2 _ => by simp [below]; omega)]
          exact hcD_congr (fun j hj _ => by simp [below, hj])
        refine unl_ok hm hdN (hGU _ (slots m outs D) hA' ?_) a w θ W next Q hR (toNext v hout)
        show hcD outs s0.H D m ++ slots m outs D = _
        rw [hHe]
      have hnu : noUpd ops = true := by
        rcases unl_b2sn eop with e | e
        · rw [e] at hm; exact absurd hm (cOp_b2sn)
        · exact e
      have hxm : x ∈ (unl ops m').args := by rw [eop]; simp [MO.args]
      have ex' : (SD ops m outs s0 D).get x = .gs id ver off n := by rw [← hA' x hxm]; exact ex
      have hl1 := hp.lens hf.le i (by omega)
      have hlD := hcD_len hf.le hp D (Nat.le_refl m)
      rw [hl1] at hle hrs
      rw [hcN] at hrs
      have hsl : (slots m outs D)[id - s0.H.length]? = some ob := by
        rcases slots_as (Nat.le_of_lt hi) (fun j hj hu' => (hp.noupd hf.le hnu hj hu').elim) hrs with h | h
        · exact h
        · have hrsv : (SD ops m outs s0 D).H[id]? = some .rsv := by
            show (hcD outs s0.H D m ++ slots m outs D)[id]? = _
            rw [List.getElem?_append_right (by omega), hlD, h]
          obtain ⟨t', et, _⟩ : ∃ t', x = cTmp lv t' ∧ Operand.tmp t' ∈ o.op.operands.toList := by
            rcases cOp_from hm x (by rw [← unl_args ops]; exact hxm) with ⟨v, e, _⟩ | h
            · rw [e] at hxc; cases hxc
            · exact h
          have hrel := hR.tmpArg t'
          rw [← et, ex'] at hrel
          have hno : θ id ver ≠ .no := by
            generalize Act.eval a (.tmp t') = vv at hrel
            cases hrel with
            | gsDead _ _ _ _ _ _ h => rw [h]; exact fun e => by cases e
            | gsNil _ _ h => rw [h]; exact fun e => by cases e
            | gs _ _ _ _ _ _ _ _ _ h => rw [h]; exact fun e => by cases e
          exact absurd (hR.mem.obj id _ hrsv ver) hno
      have hHid : (SD ops m outs s0 D).H[id]? = some ob := by
        show (hcD outs s0.H D m ++ slots m outs D)[id]? = _
        rw [List.getElem?_append_right (by omega), hlD]; exact hsl
      have h2 : stepU (ACall P) (unl ops m') (cDst lv o.dst) (fun t => t = (SD ops m outs s0 D).put (cDst lv o.dst) v) (SD ops m outs s0 D) := by
        rw [eop]
        rw [su_b2sn', ex']
        show withV (b2sR (srcR 1 ver off n (SD ops m outs s0 D).H[id]?)) _ _ _
        rw [hHid, hv]
        rfl
      exact unl_ok hm hdN h2 a w θ W next Q hR (toNext v hout)
    | chn v Hc =>
      rw [hout] at hGU
      obtain ⟨hq, hl, hx, h1⟩ := hGU
      have hci := (hp.chn hf.le hi hout).1
      have hchain' : ∀ j, j < m → isChn outs j = true → D j = below i j := fun j hj hcj => hchain hci j hj (chnO j hj hcj)
      have hHc' : hcD outs s0.H (with1 D i) m = Hc := by
        rw [hcD_cut (i := i + 1) (show i + 1 ≤ m by omega) (fun j h1 h2 h3 => by
          have hb := hchain' j h2 h3
          have hnb : ¬ j < i := by omega
          have hne : ¬ j = i := by omega
          simp [with1, hb, below, hnb, hne])]
        simp [hcD, hout, with1]
      have h2 := h1 (SD ops m outs s0 D) (slots m outs D) hA' (by rw [← hHc hci]; rfl) hext (hfill hci)
      refine unl_ok hm hdN h2 a w θ W next Q hR ?_
      intro st' a' w' θ' W' hst hR' hs'
      subst hst
      refine hk a' w' θ' W' (hR'.congr (fun t => ?_) ?_) (hUn (by simp [isUpd, hout])) hs'
      · rw [get_H _ _ _ ((SD ops m outs s0 D).put (cDst lv o.dst) v).H]
        have e1 : (⟨((SD ops m outs s0 D).put (cDst lv o.dst) v).L, ((SD ops m outs s0 D).put (cDst lv o.dst) v).T, ((SD ops m outs s0 D).put (cDst lv o.dst) v).H⟩ : St).get (cTmp lv t) = ((SD ops m outs s0 D).put (cDst lv o.dst) v).get (cTmp lv t) := rfl
        rw [e1, get_put, SD_get hu, SD_get hu, eD_with hu hi, hdo]
        simp [valOf, hout]
      · show Hc ++ slots m outs D = hcD outs s0.H (with1 D i) m ++ slots m outs (with1 D i)
        rw [slots_same (by simp [isNew, hout]) (by simp [isUpd, hout]), hHc']
    | new ob mk =>
      rw [hout] at hGU
      have hnew : isNew outs i = true := by simp [isNew, hout]
      have hlD := hcD_len hf.le hp D (Nat.le_refl m)
      have hrsv : (SD ops m outs s0 D).H[s0.H.length + rankNew outs i]? = some .rsv := by
        show (hcD outs s0.H D m ++ slots m outs D)[s0.H.length + rankNew outs i]? = _
        rw [List.getElem?_append_right (by omega), show s0.H.length + rankNew outs i - (hcD outs s0.H D m).length = rankNew outs i by omega, slots_get hi hnew hDi hU]
      have fin : ∀ a' w' θ' W', Rl lv N (St.put ⟨(SD ops m outs s0 D).L, (SD ops m outs s0 D).T, (SD ops m outs s0 D).H.set (s0.H.length + rankNew outs i) ob⟩ (cDst lv o.dst) (mk (s0.H.length + rankNew outs i))) a' w' θ' W' → Stp θ W w θ' W' w' → next a' w' := by
        intro a' w' θ' W' hR' hs'
        refine hk a' w' θ' W' (hR'.congr (fun t => ?_) ?_) (hUn (by simp [isUpd, hout])) hs'
        · rw [get_put, SD_get hu, eD_with hu hi, hdo]
          rw [get_H _ _ _ (SD ops m outs s0 D).H]
          have e1 : (⟨(SD ops m outs s0 D).L, (SD ops m outs s0 D).T, (SD ops m outs s0 D).H⟩ : St).get (cTmp lv t) = eD lv ops m outs s0 D t := SD_get hu D t
          rw [e1]
          simp [valOf, hout]
        · rw [put_H]
          show (hcD outs s0.H D m ++ slots m outs D).set (s0.H.length + rankNew outs i) ob = hcD outs s0.H (with1 D i) m ++ slots m outs (with1 D i)
          rw [List.set_append_right _ _ (by omega), show s0.H.length + rankNew outs i - (hcD outs s0.H D m).length = rankNew outs i by omega, ← slots_set hi hout hDi hU, hcSame (by simp [isChn, hout])]
      rcases hGU with ⟨hq, hn⟩ | ⟨sz, b, x, y, ys, eop, ex, ⟨hyc, hys, hyr⟩, hne, hb, hb63, rfl, rfl⟩ | ⟨hq, hn⟩
      rotate_left
      · have em : m' = .app sz b x y := by
          rcases unl_app eop with e | e
          · exact e
          · rw [e] at hm; exact absurd hm (cOp_appn)
        have hci : chainO lv P ops i = true := by
          unfold chainO
          rw [ho]
          simp only [hm, em]; rfl
        have ex' : (SD ops m outs s0 D).get x = .p .nl := by rw [← hA' x (by rw [eop]; simp [MO.args])]; exact ex
        have hys' := src_same (s' := SD ops m outs s0 D) (A := slots m outs D) hyc hys (hA' y (by rw [eop]; simp [MO.args])) (by rw [← hHc hci]; rfl) hext (fun id v o n ob h1 h2 h3 => hfill hci id ob (.arg ⟨y, by rw [eop]; simp [MO.args], by rw [h1]; rfl⟩ h2) h3)
        rw [em] at hm
        exact app_new_at hm hdN hR ex' hys' hyr hne hb hb63 _ hrsv fin
      rotate_left
      · have hn' := hn.agree hA'
        have hmm : unl ops m' = m' := by
          cases m' with
          | app sz b x y => simp only [unl] at hq; split at hq <;> cases hq
          | sto n x v => simp only [unl] at hq; split at hq <;> cases hq
          | b2s x => simp only [unl] at hq; split at hq <;> cases hq
          | ld g n x => simp only [unl] at hq; split at hq <;> cases hq
          | ixs sz x i => simp only [unl] at hq; split at hq <;> cases hq
          | bsl sz z n ps =>
            simp only [unl] at hq ⊢
            split at hq
            · cases hq
            · rename_i hx; rw [if_neg hx]
          | _ => first | rfl | cases hq
        rw [hmm] at hn'
        exact new_at hm hdN hn' hR _ hrsv fin
      · refine unl_ok hm hdN (hn _ _ hA' hext hrsv) a w θ W next Q hR ?_
        intro st' a' w' θ' W' hst hR' hs'
        subst hst
        exact fin _ _ _ _ hR' hs'
    | upd k v ob =>
      rw [hout] at hGU
      rcases hGU with hGU | hGU
      rotate_left
      · obtain ⟨n, x, w2, id, off, cs, us, cs', eop, hxc, ex, hle, hkk, hrs, hus, hsp, rfl, rfl⟩ := hGU
        have em : m' = .sto n x w2 := by
          rcases unl_ston eop with e | e
          · exact e
          · rw [e] at hm; exact absurd hm (cOp_ston)
        have hci := hp.upd hf.le hi hout
        have hxm : x ∈ (unl ops m').args := by rw [eop]; simp [MO.args]
        have hym : w2 ∈ (unl ops m').args := by rw [eop]; simp [MO.args]
        have ex' : (SD ops m outs s0 D).get x = .ptr id off := by rw [← hA' x hxm]; exact ex
        have ey' : stonU n ((SD ops m outs s0 D).get w2) = some us := by rw [← hA' w2 hym]; exact hus
        have hl1 := hp.lens hf.le i (by omega)
        have hlD := hcD_len hf.le hp D (Nat.le_refl m)
        have hklt : k < rankNew outs i := by
          rw [← nD_len outs (fun _ => true), ← hcN]; exact (List.getElem?_eq_some_iff.1 hrs).1
        rw [hl1] at hle hkk
        rw [hcN] at hrs
        have hsl : (slots m outs D)[id - s0.H.length]? = some (.var cs) := by
          rw [← hkk]
          rcases slots_as (Nat.le_of_lt hi) (fun j hj hu' => hchain hci j hj (updO j hj hu')) hrs with h | h
          · exact h
          · have hrsv : (SD ops m outs s0 D).H[id]? = some .rsv := by
              show (hcD outs s0.H D m ++ slots m outs D)[id]? = _
              rw [List.getElem?_append_right (by omega), hlD, ← hkk, h]
            obtain ⟨t', et, _⟩ : ∃ t', x = cTmp lv t' ∧ Operand.tmp t' ∈ o.op.operands.toList := by
              rcases cOp_from hm x (by rw [← unl_args ops]; exact hxm) with ⟨v, e, _⟩ | h
              · rw [e] at hxc; cases hxc
              · exact h
            have hrel := hR.tmpArg t'
            rw [← et, ex'] at hrel
            have hno : θ id 0 ≠ .no := by
              generalize Act.eval a (.tmp t') = vv at hrel
              cases hrel with
              | ptr _ _ _ _ _ h => rw [h]; exact fun e => by cases e
              | ptrDead _ _ _ h => rw [h]; exact fun e => by cases e
            exact absurd (hR.mem.obj id _ hrsv 0) hno
        have hHid : (SD ops m outs s0 D).H[id]? = some (.var cs) := by
          show (hcD outs s0.H D m ++ slots m outs D)[id]? = _
          rw [List.getElem?_append_right (by omega), hlD]; exact hsl
        have h2 : stepU (ACall P) m' (cDst lv o.dst) (fun t => t = St.put ⟨(SD ops m outs s0 D).L, (SD ops m outs s0 D).T, (SD ops m outs s0 D).H.set id (.var cs')⟩ (cDst lv o.dst) .any) (SD ops m outs s0 D) := by
          rw [em, su_sto', ex']
          unfold stonU at ey'
          split at ey'
          · rename_i hc
            cases ey'
            unfold stoH
            rw [if_pos hc]
            simp only [hHid, hsp, Option.map_some]
            rfl
          · cases ey'
        refine step_ok hm hdN h2 a w θ W next Q hR ?_
        intro st' a' w' θ' W' hst hR' hs'
        subst hst
        refine hk a' w' θ' W' (hR'.congr (fun t => ?_) ?_) ?_ hs'
        · rw [get_put, SD_get hu, eD_with hu hi, hdo]
          rw [get_H _ _ _ (SD ops m outs s0 D).H]
          have e1 : (⟨(SD ops m outs s0 D).L, (SD ops m outs s0 D).T, (SD ops m outs s0 D).H⟩ : St).get (cTmp lv t) = eD lv ops m outs s0 D t := SD_get hu D t
          rw [e1]
          simp [valOf, hout]
        · rw [put_H]
          show (hcD outs s0.H D m ++ slots m outs D).set id _ = hcD outs s0.H (with1 D i) m ++ slots m outs (with1 D i)
          rw [List.set_append_right _ _ (by omega), hlD, ← hkk, slots_upd hi hout hDi hklt (fun j h1 h2 h3 => by
            have := hchain hci j h2 (updO j h2 h3)
            rw [this]; simp [below]; omega), hcSame (by simp [isChn, hout])]
        · intro j k' v' ob' hj hDj i0 h0 hr
          by_cases hne : j = i
          · subst hne
            rw [hout] at hj
            cases hj
            have hi0 : i0 < j := by
              rcases Nat.lt_or_ge i0 j with h | h
              · exact h
              · have := rankNew_mono outs h; omega
            cases e : D i0 with
            | true => simp [with1, e]
            | false =>
              have := slots_get (m := m) (show i0 < m by omega) h0 e hU
              rw [hr, hkk, hsl] at this
              cases this
          · have : D j = true := by simpa [with1, hne] using hDj
            simp [with1, hU j k' v' ob' hj this i0 h0 hr]
      obtain ⟨sz, b, x, y, ys, id, ver, n, rs, eop, hxc, ex, hle, hkk, hrs, hn, ⟨hyc, hys, hyr⟩, hb, hb63, rfl, rfl⟩ := hGU
      have em : m' = .app sz b x y := by
        rcases unl_app eop with e | e
        · exact e
        · rw [e] at hm; exact absurd hm (cOp_appn)
      have hci := hp.upd hf.le hi hout
      have hxm : x ∈ (unl ops m').args := by rw [eop]; simp [MO.args]
      have hym : y ∈ (unl ops m').args := by rw [eop]; simp [MO.args]
      have ex' : (SD ops m outs s0 D).get x = .gs id ver 0 n := by rw [← hA' x hxm]; exact ex
      have hys' := src_same (s' := SD ops m outs s0 D) (A := slots m outs D) hyc hys (hA' y hym) (by rw [← hHc hci]; rfl) hext (fun id v o n ob h1 h2 h3 => hfill hci id ob (.arg ⟨y, hym, by rw [h1]; rfl⟩ h2) h3)
      have hl1 := hp.lens hf.le i (by omega)
      have hlD := hcD_len hf.le hp D (Nat.le_refl m)
      have hsl := hfill hci id _ (.arg ⟨x, hxm, by rw [ex']; rfl⟩ hle) (by rw [← hkk]; exact hrs)
      have hklt : k < rankNew outs i := by
        rw [← nD_len outs (fun _ => true), ← hcN]; exact (List.getElem?_eq_some_iff.1 hrs).1
      rw [hl1] at hle hkk hsl
      have hHid : (SD ops m outs s0 D).H[id]? = some (.rows sz ver rs) := by
        show (hcD outs s0.H D m ++ slots m outs D)[id]? = _
        rw [List.getElem?_append_right (by omega), hlD]; exact hsl
      have h2 : stepU (ACall P) m' (cDst lv o.dst) (fun t => t = St.put ⟨(SD ops m outs s0 D).L, (SD ops m outs s0 D).T, (SD ops m outs s0 D).H.set id (.rows sz (ver + 1) (rs.take n ++ ys))⟩ (cDst lv o.dst) (.gs id (ver + 1) 0 (n + ys.length))) (SD ops m outs s0 D) := by
        rw [em]
        show appY sz b ((SD ops m outs s0 D).get x) (srcRows (SD ops m outs s0 D).H sz ((SD ops m outs s0 D).get y)) _ _ _
        rw [hys', ex']
        refine ⟨hyr, ?_⟩
        rw [appX_gs', hHid]
        exact ⟨rfl, rfl, rfl, hn, hb, hb63, rfl⟩
      refine step_ok hm hdN h2 a w θ W next Q hR ?_
      intro st' a' w' θ' W' hst hR' hs'
      subst hst
      refine hk a' w' θ' W' (hR'.congr (fun t => ?_) ?_) ?_ hs'
      · rw [get_put, SD_get hu, eD_with hu hi, hdo]
        rw [get_H _ _ _ (SD ops m outs s0 D).H]
        have e1 : (⟨(SD ops m outs s0 D).L, (SD ops m outs s0 D).T, (SD ops m outs s0 D).H⟩ : St).get (cTmp lv t) = eD lv ops m outs s0 D t := SD_get hu D t
        rw [e1]
        simp [valOf, hout]
      · rw [put_H]
        show (hcD outs s0.H D m ++ slots m outs D).set id _ = hcD outs s0.H (with1 D i) m ++ slots m outs (with1 D i)
        rw [List.set_append_right _ _ (by omega), hlD, ← hkk, slots_upd hi hout hDi hklt (fun j h1 h2 h3 => by
          have := hchain hci j h2 (updO j h2 h3)
          rw [this]; simp [below]; omega), hcSame (by simp [isChn, hout])]
      · intro j k' v' ob' hj hDj i0 h0 hr
        by_cases hne : j = i
        · subst hne
          rw [hout] at hj
          cases hj
          have hi0 : i0 < j := by
            rcases Nat.lt_or_ge i0 j with h | h
            · exact h
            · have := rankNew_mono outs h; omega
          cases e : D i0 with
          | true => simp [with1, e]
          | false =>
            have := slots_get (m := m) (show i0 < m by omega) h0 e hU
            rw [hr, hkk, hsl] at this
            cases this
        · have : D j = true := by simpa [with1, hne] using hDj
          simp [with1, hU j k' v' ob' hj this i0 h0 hr]
  unfold GoodI at hgood
  cases hgd : o.guard with
  | none =>
    rw [hgd] at hg
    cases hg
    have hw : Region.wanted o (yielded ops a.tmps) = true := by simp [Region.wanted, hgd]
    rw [if_pos hw]
    exact main hgood
  | some jw =>
    obtain ⟨j, want⟩ := jw
    rw [hgd] at hg
    simp only [cGuard] at hg
    split at hg
    case h_2 => cases hg
    case h_1 t ht =>
    cases hg
    have htl : t ∈ looks ops o := by
      unfold looks
      refine List.mem_append.2 (.inr ?_)
      rw [hgd]
      simp only [ht]
      simp
    have hrel := hR.tmpArg t
    have skip : yielded ops a.tmps j ≠ some want → outs i = .val (.tup []) → if Region.wanted o (yielded ops a.tmps) then o.wp P a w next Q else next (a.put o.dst undef) w := by
      intro hy hout
      have hw : ¬ Region.wanted o (yielded ops a.tmps) = true := by simpa [Region.wanted, hgd] using hy
      rw [if_neg hw]
      exact toNext (.tup []) hout _ _ _ _ _ rfl (hR.put hdN (undef_rel _ _) hR.mem (Stp.refl _ _ _)) (Stp.refl _ _ _)
    rcases hgood with ⟨hb, hout⟩ | ⟨b, hb, h1, h2⟩
    · rw [hag t htl] at hb
      rw [hb] at hrel
      refine skip ?_ hout
      have e1 := tup0_inv hrel
      simp only [Act.eval] at e1
      unfold yielded
      rw [ht]
      simp only [Option.bind_some]
      by_cases hlt : t < a.tmps.size
      · simp [Array.getD, hlt] at e1; simp [hlt, e1]
      · simp [hlt]
    · rw [hag t htl] at hb
      rw [hb] at hrel
      have e1 := hrel.b_inv
      simp only [Act.eval] at e1
      have hyield : yielded ops a.tmps j = some b := by
        have : a.tmps[t]? = some (.bool b) := by
          by_cases hlt : t < a.tmps.size
          · simp [Array.getD, hlt] at e1; simp [hlt, e1]
          · simp [Array.getD, hlt, undef] at e1
        simp [yielded, ht, this]
      by_cases e : b = want
      · have hw : Region.wanted o (yielded ops a.tmps) = true := by simp [Region.wanted, hgd, hyield, e]
        rw [if_pos hw]
        exact main (h1 e)
      · exact skip (by rw [hyield]; simp [e]) (h2 e)
end
end Go.AM
set_option linter.all false
namespace Go.AM
variable {lv:List Nat} {P:Program} {N:Nat} {K:St->Prop} {θ:Th} {W:Im} {ops:Array Oper} {m:Nat} {outs:Nat->Out} {s0:St}
def Lst (ops:Array Oper) (listed:Array Bool) (D:Nat->Bool):Prop:=listed.size=ops.size/\∀ j,j<ops.size->listed[j]?=some (D j)
theorem Lst.getD {listed:Array Bool} {D:Nat->Bool} (h:Lst ops listed D) {j:Nat} (hj:j<ops.size) (d:Bool):listed.getD j d=D j:=by
 have:=h.2 j hj
 simp [Array.getD_eq_getD_getElem?,this]
theorem Lst.set {listed:Array Bool} {D:Nat->Bool} (h:Lst ops listed D) {i:Nat} (hi:i<ops.size):Lst ops (listed.setIfInBounds i true) (with1 D i):=by
 refine ⟨by simp [h.1],fun j hj=>?_⟩
 by_cases e:j=i
 ·subst e
  simp [Array.getElem?_setIfInBounds_self,h.1,hj,with1]
 ·rw [Array.getElem?_setIfInBounds_ne (Ne.symm e),h.2 j hj]
  simp [with1,e]
theorem waits_mem {o:Oper} {e:Nat}:e∈waitsOn o ↔ ∃ x∈o.after,Region.binds .any x=true/\x.on=e:=by
 unfold waitsOn
 simp only [List.mem_map,List.mem_filter,Array.mem_toList_iff]
 constructor
 ·rintro ⟨x,⟨h1,h2⟩,h3⟩; exact ⟨x,h1,h2,h3⟩
 ·rintro ⟨x,h1,h2,h3⟩; exact ⟨x,⟨h1,h2⟩,h3⟩
theorem Lst.ready {listed:Array Bool} {D:Nat->Bool} (h:Lst ops listed D) (hlt:∀ j o,ops[j]?=some o->∀ e∈waitsOn o,e<j) {i:Nat} :
  i∈Region.ready .any ops listed ↔ D i=false/\∃ o,ops[i]?=some o/\∀ e∈waitsOn o,D e=true:=by
 rw [mem_ready]
 constructor
 ·rintro ⟨h0,o,ho,hall⟩
  have hi:i<ops.size:=(Array.getElem?_eq_some_iff.1 ho).1
  refine ⟨by rw [h.getD hi] at h0; exact h0,o,ho,fun e he=>?_⟩
  obtain ⟨x,h1,h2,rfl⟩:=waits_mem.1 he
  have h3:=hall x h1 h2
  rw [h.getD (Nat.lt_trans (hlt i o ho _ he) hi)] at h3
  exact h3
 ·rintro ⟨h0,o,ho,hall⟩
  have hi:i<ops.size:=(Array.getElem?_eq_some_iff.1 ho).1
  refine ⟨by rw [h.getD hi]; exact h0,o,ho,fun x hx hb=>?_⟩
  have he:x.on∈waitsOn o:=waits_mem.2 ⟨x,hx,hb,rfl⟩
  rw [h.getD (Nat.lt_trans (hlt i o ho _ he) hi)]
  exact hall _ he
theorem Closed.with1 {D:Nat->Bool} (hc:Closed ops D) {i:Nat} {o:Oper} (ho:ops[i]?=some o) (hr:∀ e∈waitsOn o,D e=true):Closed ops (with1 D i):=by
 intro j o' hj ho' e he
 have:D e=true:=by
  by_cases e1:j=i
  ·subst e1; rw [ho] at ho'; cases ho'; exact hr e he
  ·have hD:D j=true:=by simpa [AM.with1,e1] using hj
   exact hc j o' hD ho' e he
 simp [AM.with1,this]
theorem tail_any {Q : Exit → Act → World → Prop} (hf : DrwFacts lv P ops m) : ∀ (fuel j : Nat) (listed : Array Bool) (st : St) (a : Act) (w : World) (θ : Th) (W : Im), fuel + j = ops.size → m ≤ j → Lst ops listed (below j) →
    runOps (ACall P) ((ops.toList.drop j).map (cOper lv P N ops)) K st → Rl lv N st a w θ W →
    (∀ st' a' w' θ' W', K st' → Rl lv N st' a' w' θ' W' → Stp θ W w θ' W' w' → Q .normal a' w') → wpAny P .any ops Q fuel listed a w := by
  intro fuel
  induction fuel with
  | zero =>
    intro j listed st a w θ W hfj hmj hl h hR hk
    have hd : ops.toList.drop j = [] := by simp; omega
    rw [hd] at h
    refine ⟨?_, hk _ _ _ _ _ h hR (Stp.refl _ _ _)⟩
    rw [List.eq_nil_iff_forall_not_mem]
    intro i hi
    obtain ⟨h0, o, ho, _⟩ := (hl.ready hf.lt).1 hi
    have hi : i < ops.size := (Array.getElem?_eq_some_iff.1 ho).1
    simp [below] at h0; omega
  | succ fuel ih =>
    intro j listed st a w θ W hfj hmj hl h hR hk
    have hj : j < ops.size := by omega
    have hoj : ops[j]? = some ops[j] := by simp [hj]
    have hjr : j ∈ Region.ready .any ops listed := (hl.ready hf.lt).2 ⟨by simp [below], _, hoj, fun e he => by simp [below]; exact hf.lt j _ hoj e he⟩
    refine ⟨fun hn => absurd (hn ▸ hjr) List.not_mem_nil, fun i hi => ?_⟩
    obtain ⟨h0, o, ho, hw⟩ := (hl.ready hf.lt).1 hi
    have hin : i < ops.size := (Array.getElem?_eq_some_iff.1 ho).1
    have hji : j ≤ i := by simpa [below] using h0
    have hcl : Closed ops (below j) := by
      intro k o' hk' ho' e he
      have := hf.lt k o' ho' e he
      simp [below] at hk' ⊢; omega
    have e : i = j := by
      rcases Nat.lt_or_ge j i with hlt | hge
      · have := waitsT_closed hf.lt hcl i j o ho hw (hf.tail i (by omega) hin j hlt)
        simp [below] at this
      · omega
    subst e
    rw [hoj] at ho
    cases ho
    have hd : ops.toList.drop i = ops[i] :: ops.toList.drop (i + 1) := by
      rw [List.drop_eq_getElem_cons (by simpa using hj)]
      simp
    rw [hd] at h
    have hl' : Lst ops (listed.setIfInBounds i true) (below (i + 1)) := by
      have := hl.set hin
      have e2 : with1 (below i) i = below (i + 1) := by
        funext k; simp only [with1, below]
        by_cases h1 : k < i
        · simp [h1, show k < i + 1 by omega]
        · by_cases h2 : k = i
          · simp [h2]
          · simp [h1, h2]; omega
      rw [e2] at this; exact this
    have key := oper_ok (Q := Q) (next := wpAny P .any ops Q fuel (listed.setIfInBounds i true)) ops[i] h hR (fun st' a' w' θ' W' hst' hR' hs' =>
      ih (i + 1) _ st' a' w' θ' W' (by omega) (by omega) hl' hst' hR' (fun st2 a2 w2 θ2 W2 h2 hR2 hs2 => hk st2 a2 w2 θ2 W2 h2 hR2 (hs'.trans hs2)))
    unfold wpOp
    rw [hoj]
    simp only []
    split
    · rename_i hw; rw [if_pos hw] at key; exact .inl key
    · rename_i hw; rw [if_neg hw] at key; exact key
def cnt (D:Nat->Bool) (n:Nat):Nat:=((List.range n).filter D).length
theorem cnt_le (D:Nat->Bool) (n:Nat):cnt D n<=n:=by
 unfold cnt
 have:=List.length_filter_le D (List.range n)
 simpa using this
theorem cnt_succ (D:Nat->Bool) (n:Nat):cnt D (n+1)=cnt D n+if D n then 1 else 0:=by
 unfold cnt
 rw [List.range_succ,List.filter_append,List.length_append]
 by_cases h:D n=true <;> simp [h]
theorem cnt_with (D : Nat → Bool) (i : Nat) (hD : D i = false) : ∀ n, cnt (with1 D i) n = cnt D n + if i < n then 1 else 0
  | 0 => by simp [cnt]
  | n + 1 => by
    rw [cnt_succ, cnt_succ, cnt_with D i hD n]
    by_cases e : n = i
    · subst e; simp [with1, hD]
    · have : with1 D i n = D n := by simp [with1, e]
      rw [this]
      by_cases h1 : i < n
      · simp [h1, show i < n + 1 by omega]; omega
      · simp [h1, show ¬ i < n + 1 by omega]
theorem cnt_lt (D : Nat → Bool) {i : Nat} (hD : D i = false) : ∀ n, i < n → cnt D n < n
  | 0, h => by omega
  | n + 1, h => by
    rw [cnt_succ]
    by_cases e : n = i
    · subst e; have := cnt_le D n; simp [hD]; omega
    · have := cnt_lt D hD n (by omega)
      split <;> omega
theorem cnt_below (j : Nat) : ∀ n, j ≤ n → cnt (below j) n = j
  | 0, h => by simp [cnt]; omega
  | n + 1, h => by
    rw [cnt_succ]
    by_cases e : j = n + 1
    · have := cnt_le (below j) n
      have h2 : ∀ k, k ≤ j → cnt (below j) k = k := by
        intro k
        induction k with
        | zero => intro _; rfl
        | succ k ihk => intro hk; rw [cnt_succ, ihk (by omega)]; simp [below]; omega
      rw [← cnt_succ, ← e]; exact h2 j (Nat.le_refl _)
    · rw [cnt_below j n (by omega)]
      have : ¬ n < j := by omega
      simp [below, this]
theorem least (D : Nat → Bool) : ∀ n, (∃ i, i < n ∧ D i = false) → ∃ i, i < n ∧ D i = false ∧ ∀ k, k < i → D k = true
  | 0, ⟨i, h, _⟩ => by omega
  | n + 1, ⟨i, h, hD⟩ => by
    by_cases e : ∃ i, i < n ∧ D i = false
    · obtain ⟨k, h1, h2, h3⟩ := least D n e
      exact ⟨k, by omega, h2, h3⟩
    · refine ⟨i, h, hD, fun k hk => ?_⟩
      cases hk' : D k with
      | true => rfl
      | false => exact (e ⟨k, by omega, hk'⟩).elim
theorem pre_any {Q : Exit → Act → World → Prop} {Hm : List AO} {pre : List MI} (hf : DrwFacts lv P ops m) (hHm : Hext Hm s0.H) (hp : PreOk lv P N ops m outs Hm s0 pre)
    (hK : endK (runOps (ACall P) ((ops.toList.drop m).map (cOper lv P N ops)) K) (sts pre outs (s0.H, ⟨s0.L, s0.T, []⟩) m).1 (sts pre outs (s0.H, ⟨s0.L, s0.T, []⟩) m).2) :
    ∀ (fuel : Nat) (D : Nat → Bool) (listed : Array Bool) (a : Act) (w : World) (θ : Th) (W : Im), fuel + cnt D ops.size = ops.size → (∀ i, m ≤ i → D i = false) → Closed ops D → UpdOk outs D → Lst ops listed D → Rl lv N (SD ops m outs s0 D) a w θ W →
    (∀ st' a' w' θ' W', K st' → Rl lv N st' a' w' θ' W' → Stp θ W w θ' W' w' → Q .normal a' w') → wpAny P .any ops Q fuel listed a w := by
  have hu := hf.uniq
  have hdst : ∀ k, k < m → ∃ o, pre[k]? = some o ∧ o.dst = cDst lv (dstOf ops k) := by
    intro k hk'
    have hks : k < ops.size := Nat.lt_of_lt_of_le hk' hf.le
    obtain ⟨m2, g2, _, _, _, hp2, _⟩ := hp k ops[k] hk' (by simp [hks])
    exact ⟨_, hp2, by simp [dstOf, hks]⟩
  intro fuel
  induction fuel with
  | zero =>
    intro D listed a w θ W hfu hD hc hU hl hR hk
    have hall : ∀ i, i < ops.size → D i = true := by
      intro i hi
      cases e : D i with
      | true => rfl
      | false => have := cnt_lt D e ops.size hi; omega
    have hDm : D = below m := by
      funext i
      by_cases h1 : i < m
      · rw [hall i (Nat.lt_of_lt_of_le h1 hf.le)]; simp [below, h1]
      · rw [hD i (by omega)]; simp [below, h1]
    subst hDm
    have hms : m = ops.size := by
      have := cnt_below m ops.size hf.le; omega
    obtain ⟨hcH, hcL, hcN, hcG⟩ := canon (lv := lv) (outs := outs) (s0 := s0) pre hu hdst (hp.len hf.le) m (Nat.le_refl _)
    refine tail_any hf 0 m listed _ a w θ W (by omega) (Nat.le_refl _) hl hK (hR.congr (fun t => ?_) ?_) hk
    · rw [SD_get hu, get_H _ _ _ (sts pre outs (s0.H, ⟨s0.L, s0.T, []⟩) m).2.H]
      exact (hcG t).symm
    · show hcD outs s0.H (below m) m ++ slots m outs (below m) = (sts pre outs (s0.H, ⟨s0.L, s0.T, []⟩) m).1 ++ (sts pre outs (s0.H, ⟨s0.L, s0.T, []⟩) m).2.H
      rw [hcH, hcN]
      congr 1
      · exact hcD_congr (fun j hj _ => by simp [below, hj])
      · exact nD_congr (fun j hj => by simp [below, hj])
  | succ fuel ih =>
    intro D listed a w θ W hfu hD hc hU hl hR hk
    by_cases hall : ∀ i, i < m → D i = true
    · have hDm : D = below m := by
        funext i
        by_cases h1 : i < m
        · rw [hall i h1]; simp [below, h1]
        · rw [hD i (by omega)]; simp [below, h1]
      subst hDm
      have hcm := cnt_below m ops.size hf.le
      obtain ⟨hcH, hcL, hcN, hcG⟩ := canon (lv := lv) (outs := outs) (s0 := s0) pre hu hdst (hp.len hf.le) m (Nat.le_refl _)
      refine tail_any hf (fuel + 1) m listed _ a w θ W (by omega) (Nat.le_refl _) hl hK (hR.congr (fun t => ?_) ?_) hk
      · rw [SD_get hu, get_H _ _ _ (sts pre outs (s0.H, ⟨s0.L, s0.T, []⟩) m).2.H]
        exact (hcG t).symm
      · show hcD outs s0.H (below m) m ++ slots m outs (below m) = (sts pre outs (s0.H, ⟨s0.L, s0.T, []⟩) m).1 ++ (sts pre outs (s0.H, ⟨s0.L, s0.T, []⟩) m).2.H
        rw [hcH, hcN]
        congr 1
        · exact hcD_congr (fun j hj _ => by simp [below, hj])
        · exact nD_congr (fun j hj => by simp [below, hj])
    · have hex : ∃ i, i < m ∧ D i = false := by
        false_or_by_contra
        rename_i hne
        refine hall fun i hi => ?_
        cases e : D i with
        | true => rfl
        | false => exact (hne ⟨i, hi, e⟩).elim
      obtain ⟨i0, hi0, hD0, hmin⟩ := least D m hex
      have hi0s : i0 < ops.size := Nat.lt_of_lt_of_le hi0 hf.le
      have ho0 : ops[i0]? = some ops[i0] := by simp [hi0s]
      have hr0 : i0 ∈ Region.ready .any ops listed := (hl.ready hf.lt).2 ⟨hD0, _, ho0, fun e he => hmin e (hf.lt i0 _ ho0 e he)⟩
      refine ⟨fun hn => absurd (hn ▸ hr0) List.not_mem_nil, fun i hi => ?_⟩
      obtain ⟨hDi, o, ho, hw⟩ := (hl.ready hf.lt).1 hi
      have hin : i < ops.size := (Array.getElem?_eq_some_iff.1 ho).1
      have him : i < m := by
        rcases Nat.lt_or_ge i m with h1 | h1
        · exact h1
        · have := waitsT_closed hf.lt hc i i0 o ho hw (hf.tail i h1 hin i0 (by omega))
          rw [hD0] at this; cases this
      have key := draw_step (Q := Q) (next := wpAny P .any ops Q fuel (listed.setIfInBounds i true)) hf hHm hp hc him ho hDi hU hw hR (fun a' w' θ' W' hR' hU' hs' =>
        ih (with1 D i) _ a' w' θ' W' (by rw [cnt_with D i hDi, if_pos hin]; omega) (fun k hk' => by simp only [with1, hD k hk', Bool.false_or, decide_eq_false_iff_not]; omega) (hc.with1 ho hw) hU' (hl.set hin) hR'
          (fun st2 a2 w2 θ2 W2 h2 hR2 hs2 => hk st2 a2 w2 θ2 W2 h2 hR2 (hs'.trans hs2)))
      unfold wpOp
      rw [ho]
      simp only []
      split
      · rename_i hw; rw [if_pos hw] at key; exact .inl key
      · rename_i hw; rw [if_neg hw] at key; exact key
theorem nD_false (outs : Nat → Out) : ∀ n, nD outs (fun _ => false) n = List.replicate (rankNew outs n) .rsv
  | 0 => rfl
  | n + 1 => by
    have ih := nD_false outs n
    rw [rankNew_succ]
    unfold nD
    cases ho : outs n with
    | new ob mk => simp [isNew, ho, ih, List.replicate_succ']
    | upd k v ob => simp [isNew, ho, ih]
    | _ => simp [isNew, ho, ih]
theorem SR.drawn {H:List AO} {w:World} (h:SR θ W H w) (k:Nat):SR θ W H { w with drawn:=k }:=⟨h.imm,h.obj,h.out,h.own,h.inj⟩
theorem drw_ok {Q:Exit->Act->World->Prop} (hm:P.follows .mixedOrders=true) (id:Nat) {a:Act} {w:World} {st:St}
  (hd:drwOk (closOf ops) ops m (chains lv P ops m) (ears lv P ops m)=true) (h:drwK (ACall P) ((ops.toList.take m).map fun o=>unlen ops (cOper lv P N ops o)) (runOps (ACall P) ((ops.toList.drop m).map (cOper lv P N ops)) K) st)
  (hR:Rl lv N st a w θ W) (hk:∀ st' a' w' θ' W',K st'->Rl lv N st' a' w' θ' W'->Stp θ W w θ' W' w'->Q .normal a' w') :
  (Code.region id ops true).wp P Q a w:=by
 have hf:=drwOk_facts hd
 obtain ⟨Hm,hHm,h⟩:=h
 obtain ⟨outs,hg,hK⟩:=trace _ (st.H,⟨st.L,st.T,[]⟩) h
 have hp:PreOk lv P N ops m outs Hm st ((ops.toList.take m).map fun o=>unlen ops (cOper lv P N ops o)):=preOk_of rfl hg
 have hlen:((ops.toList.take m).map fun o=>unlen ops (cOper lv P N ops o)).length=m:=by
  have:=hf.le
  simp; omega
 rw [hlen] at hK
 apply wp_region_any hm
 have hSR:=(hR.mem.reserve (rankNew outs m)).drawn (w.drawn+1)
 have hR':Rl lv N (SD ops m outs st (fun _=>false)) a { w with drawn:=w.drawn+1 } θ W:=by
  have h1:Rl lv N ⟨st.L,st.T,st.H++List.replicate (rankNew outs m) .rsv⟩ a { w with drawn:=w.drawn+1 } θ W:=⟨hR.defers,hR.size,hR.loc,hR.tmp,hSR⟩
  refine h1.congr (fun t=>?_) ?_
  ·rw [SD_get hf.uniq,get_H _ _ _ st.H]
   unfold eD
   split <;> rfl
  ·show _=hcD outs st.H (fun _=>false) m++slots m outs (fun _=>false)
   have e0:hcD outs st.H (fun _=>false) m=st.H:=hcD_cut (i:=0) (Nat.zero_le _) (fun _ _ _ _=>rfl)
   rw [e0]
   show st.H++List.replicate (rankNew outs m) .rsv=st.H++nD outs (fun _=>false) m
   rw [nD_false]
 refine pre_any hf hHm hp hK ops.size (fun _=>false) _ a _ θ W (by simp [cnt]) (fun _ _=>rfl) (fun j o hj=>by cases hj) (fun j k v ob _ hj=>by cases hj) ⟨by simp,fun j hj=>by simp [hj]⟩ hR' (fun st' a' w' θ' W' h1 h2 h3=>hk st' a' w' θ' W' h1 h2 ?_)
 exact ⟨h3.os,h3.tape,h3.output,h3.size,h3.keep,h3.imm,h3.old,h3.th,h3.fresh⟩
end Go.AM
set_option linter.all false
namespace Go.AM
variable {lv:List Nat} {P:Program} {N:Nat} {θ:Th} {W:Im}
theorem code_ok (hm : P.follows .mixedOrders = true) : ∀ (c : Code) (Qs : Ex → St → Prop) (st : St) (a : Act) (w : World) (θ : Th) (W : Im), wpm (ACall P) (compile lv P N c) Qs st → Rl lv N st a w θ W → c.wp P (Cq lv N Qs θ W w) a w := by
  intro c
  induction c with
  | skip => intro Qs st a w θ W h hR; exact wp_skip ⟨st, θ, W, hR, Stp.refl _ _ _, h⟩
  | region id ops draw =>
    intro Qs st a w θ W h hR
    have fin : ∀ st' a' w' θ' W', regK (Qs .nm) st' → Rl lv N st' a' w' θ' W' → Stp θ W w θ' W' w' → Cq lv N Qs θ W w .normal a' w' :=
      fun st' a' w' θ' W' h1 h2 h3 => ⟨_, θ', W', h2.clear, h3, h1⟩
    cases draw with
    | false => exact wp_region_list (ops_ok ops.toList st a w θ W h hR fin)
    | true =>
      have h' : wpm (ACall P) (if drwOk (closOf ops) ops (tailAt (closOf ops) ops.size) (chains lv P ops (tailAt (closOf ops) ops.size)) (ears lv P ops (tailAt (closOf ops) ops.size)) then MC.drw ((ops.toList.take (tailAt (closOf ops) ops.size)).map fun o => unlen ops (cOper lv P N ops o)) ((ops.toList.drop (tailAt (closOf ops) ops.size)).map (cOper lv P N ops)) else .stop) Qs st := h
      split at h'
      · rename_i hd; exact drw_ok hm id hd h' hR fin
      · exact h'.elim
  | seq x y ihx ihy =>
    intro Qs st a w θ W h hR
    refine wp_seq (wp_mono (ihx _ st a w θ W h hR) fun e a' w' he => ?_)
    cases e with
    | normal =>
      obtain ⟨st', θ', W', h1, h2, h3⟩ := he
      exact wp_mono (ihy Qs st' a' w' θ' W' h3 h1) fun e a2 w2 h4 => h4.trans h2
    | exit id => exact he
    | ret => exact he
    | goto l => exact he
    | panic c => exact he
    | outgrown => exact he
  | cond c x y ihx ihy =>
    intro Qs st a w θ W h hR
    unfold compile at h
    split at h
    · rename_i m hx
      have h1 := hR.arg hx
      obtain ⟨b, hb, h2, h3⟩ := condK_inv h
      rw [hb] at h1
      exact wp_cond_split h1.b_inv (fun e => ihx Qs st a w θ W (h2 e) hR) (fun e => ihy Qs st a w θ W (h3 e) hR)
    · exact h.elim
  | block id x ih =>
    intro Qs st a w θ W h hR
    refine wp_block (wp_mono (ih _ st a w θ W h hR) fun e a' w' he => ?_)
    cases e with
    | normal => exact he
    | exit i =>
      obtain ⟨st', θ', W', h1, h2, h3⟩ := he
      have h3' : if i = id then Qs .nm st' else Qs (.ex i) st' := h3
      show if i = id then _ else _
      split
      · rename_i e; rw [if_pos e] at h3'; exact ⟨st', θ', W', h1, h2, h3'⟩
      · rename_i e; rw [if_neg e] at h3'; exact ⟨st', θ', W', h1, h2, h3'⟩
    | ret => exact he
    | goto l => exact he
    | panic c => exact he
    | outgrown => exact he
  | loop x ih =>
    intro Qs st a w θ W h hR
    obtain ⟨α, kl, I, μ, ⟨x0, h0⟩, hround⟩ := h
    refine wp_loop_ghost (fun z a' w' => ∃ st' θ' W', I z st' ∧ Rl lv N st' a' w' θ' W' ∧ Stp θ W w θ' W' w') μ x0 ⟨_, θ, W, h0, hR.keep kl, Stp.refl _ _ _⟩ ?_
    rintro z a1 w1 ⟨st1, θ1, W1, hI, hR1, hs1⟩
    refine wp_mono (ih _ st1 a1 w1 θ1 W1 (hround z st1 hI) hR1) fun e a' w' he => ?_
    cases e with
    | normal =>
      obtain ⟨st', θ', W', h1, h2, y, h3, h4⟩ := he
      exact ⟨y, ⟨_, θ', W', h3, h1.keep kl, hs1.trans h2⟩, h4⟩
    | exit id => exact Cq.trans (e := .exit id) hs1 he
    | ret => exact Cq.trans (e := .ret) hs1 he
    | goto l => exact he
    | panic c => exact he
    | outgrown => exact he
  | exit id => intro Qs st a w θ W h hR; exact wp_exit ⟨st, θ, W, hR, Stp.refl _ _ _, h⟩
  | ret => intro Qs st a w θ W h hR; exact wp_ret ⟨st, θ, W, hR, Stp.refl _ _ _, h⟩
  | rangeFunc f ps x y _ _ => intro Qs st a w θ W h hR; exact h.elim
  | scope x _ => intro Qs st a w θ W h hR; exact h.elim
  | label l => intro Qs st a w θ W h hR; exact h.elim
  | goto l => intro Qs st a w θ W h hR; exact h.elim
  | refuse s => intro Qs st a w θ W h hR; exact h.elim
def resF (tmps:Array Value):ResultVar->Sem Value
 | .tmp t=>pure (tmps.getD t undef)
 | .cell a t=>do loadVar t (<- asAddr (tmps.getD a undef))
theorem res_ok {st : St} {a : Act} {w : World} (hR : Rl lv N st a w θ W) {r : ResultVar} {m : MR} (hr : cRes lv P r = some m) {x : AV} (hx : resV st m = some x) :
    ∃ v, (resF a.tmps r).run P w = .ok v w ∧ ARel θ W x v := by
  cases r with
  | tmp t =>
    simp only [cRes] at hr
    split at hr
    · rename_i hl; cases hr; cases hx
      exact ⟨_, rfl, hR.loc t hl⟩
    · cases hr
  | cell ad t =>
    simp only [cRes] at hr
    split at hr
    · rename_i hl
      split at hr
      · rename_i g n hg hn
        cases hr
        simp only [resV] at hx
        split at hx
        · rename_i id off e
          cases hc : ldAt st.H (.ptr id off) with
          | none => rw [hc] at hx; cases hx
          | some cs =>
            rw [hc] at hx
            have hv := hR.loc ad hl
            rw [e] at hv
            obtain ⟨q, hq, hrd⟩ := ldAt_reads hR.mem hv hc
            obtain ⟨v, h1, h2, _⟩ := hrd.load hg hn hx
            refine ⟨v, ?_, h2⟩
            simp only [resF, hq, asAddr, pure_bind]
            exact h1
        · cases hx
      · cases hr
    · cases hr
theorem ress_ok {st : St} {a : Act} {w : World} (hR : Rl lv N st a w θ W) : ∀ {rs : List ResultVar} {ms : List MR} (hr : cRess lv P rs = some ms) {xs : List AV} (hx : resVs st ms = some xs),
    ∃ vs : List Value, (rs.mapM (resF a.tmps)).run P w = .ok vs w ∧ Rels θ W xs vs.toArray ∧ vs.length = xs.length ∧ ms.length = xs.length
  | [], ms, hr, xs, hx => by
    cases hr; cases hx
    exact ⟨[], rfl, ⟨rfl, fun j a v hj => by simp at hj⟩, rfl, rfl⟩
  | r :: rs, ms, hr, xs, hx => by
    simp only [cRess] at hr
    split at hr
    · rename_i m l h1 h2
      cases hr
      simp only [resVs] at hx
      split at hx
      · rename_i v vs h3 h4
        cases hx
        obtain ⟨u, q1, q2⟩ := res_ok hR h1 h3
        obtain ⟨us, q3, q4, q5, q6⟩ := ress_ok hR h2 h4
        refine ⟨u :: us, ?_, ⟨by simp [q5], ?_⟩, by simp [q5], by simp [q6]⟩
        · simp only [List.mapM_cons, Sem.run_bind, q1, Result.andThen_ok, q3]
          rfl
        · intro j a v hj hu
          cases j with
          | zero => simp at hj hu; subst hj; subst hu; exact q2
          | succ j => simp at hj hu; exact q4.2 j a v hj (by simpa using hu)
      · cases hx
    · cases hr
theorem results_ok {st:St} {a:Act} {w:World} (hR:Rl lv N st a w θ W) {fn:Func} {ms:List MR} (hr:cRess lv P fn.results.toList=some ms) {x:AV} (hx:retV st ms=some x) :
  ∃ v,(results fn a.tmps).run P w=.ok v w/\ARel θ W x v:=by
 have hform:(results fn a.tmps)=(do
   let vs <- Functor.map List.toArray (fn.results.toList.mapM (resF a.tmps))
   pure (if h:vs.size=1 then vs[0] else .tuple vs)):=by
  unfold results
  rw [<- Array.mapM_eq_mapM_toList]
  rfl
 have key:∀ xs,resVs st ms=some xs->∃ vs:List Value,(results fn a.tmps).run P w=.ok (if h:vs.toArray.size=1 then vs.toArray[0] else .tuple vs.toArray) w/\Rels θ W xs vs.toArray/\vs.length=xs.length/\ms.length=xs.length:=by
  intro xs hxs
  obtain ⟨vs,h1,h2,h3,h4⟩:=ress_ok hR hr hxs
  refine ⟨vs,?_,h2,h3,h4⟩
  rw [hform]
  simp only [map_eq_pure_bind,Sem.run_bind,h1,Result.andThen_ok,Sem.run_pure]
 unfold retV at hx
 split at hx
 ·rename_i r
  have hxs:resVs st [r]=some [x]:=by simp [resVs,hx]
  obtain ⟨vs,h1,h2,h3,h4⟩:=key _ hxs
  match vs,h3,h1,h2 with
  | [v],_,h1,h2=>exact ⟨v,h1,h2.2 0 x v rfl rfl⟩
 ·rename_i hne
  obtain ⟨xs,hxs,rfl⟩:=map_some_inv hx
  obtain ⟨vs,h1,h2,h3,h4⟩:=key _ hxs
  have hn1:¬ vs.toArray.size=1:=by
   intro e
   have:ms.length=1:=by simp at e; omega
   obtain ⟨r,e⟩:=List.length_eq_one_iff.1 this
   exact hne r e
  rw [dif_neg hn1] at h1
  exact ⟨_,h1,.tup _ _ (by simp [h3]) h2.2⟩
theorem eget_argEnv : ∀ (args : List AV) (i t : Nat), eget (argEnv i args) t = if i ≤ t then (args[t - i]?).getD .any else .any
  | [], i, t => by simp [argEnv, eget]
  | a :: as, i, t => by
    rw [argEnv, eget, eget_argEnv as (i + 1) t]
    by_cases h : i = t
    · subst h; simp
    · by_cases h1 : i ≤ t
      · rw [if_neg h, if_pos h1, if_pos (by omega)]
        rw [show t - i = (t - (i + 1)) + 1 by omega, List.getElem?_cons_succ]
      · rw [if_neg h, if_neg h1, if_neg (by omega)]
theorem acall_of (hm : P.follows .mixedOrders = true) {f : Nat} {fn : Func} {c : Code} (hf : P.funcs[f]? = some fn) (hb : fn.body = some c) (hng : (fn.name == "runtime.NumGoroutine") = false)
    {ms : List MR} (hr : cRess lv P fn.results.toList = some ms) {args : List AV} {H : List AO} {Q : AV → List AO → Prop} (hla : args.length ≤ fn.ntmps)
    (h : wpm (ACall P) (compile lv P fn.ntmps c) (finK ms Q) ⟨argEnv 0 args, [], H⟩) : ACall P f args H Q := by
  refine ⟨⟨fn, hf, by simp [hb], hng⟩, fun w θ W vs hSR hrel => ?_⟩
  refine calls_of_wp hf hb ?_
  have hsz : vs.size = args.length := hrel.1
  have hget : ∀ t, ARel θ W (eget (argEnv 0 args) t) ((vs ++ Array.replicate (fn.ntmps - vs.size) undef).getD t undef) := by
    intro t
    rw [eget_argEnv]
    simp only [Nat.zero_le, if_true, Nat.sub_zero]
    cases ht : args[t]? with
    | none => exact .any _
    | some x =>
      have hlt : t < vs.size := by rw [hsz]; exact (List.getElem?_eq_some_iff.1 ht).1
      have hv : vs[t]? = some vs[t] := by simp [hlt]
      have := hrel.2 t x _ ht hv
      simp only [Option.getD_some, Array.getD_eq_getD_getElem?, Array.getElem?_append_left hlt, hv]
      exact this
  have hR : Rl lv fn.ntmps ⟨argEnv 0 args, [], H⟩ { tmps := vs ++ Array.replicate (fn.ntmps - vs.size) undef, defers := [] } w θ W :=
    ⟨rfl, by simp; omega, fun t _ => hget t, fun t _ => .any _, hSR⟩
  refine wp_mono (code_ok hm c (finK ms Q) _ _ w θ W h hR) fun e a' w' he => ?_
  have fin : ∀ st' θ' W', Rl lv fn.ntmps st' a' w' θ' W' → Stp θ W w θ' W' w' → retK ms Q st' →
      a'.defers = [] ∧ ∃ v, (results fn a'.tmps).run P w' = .ok v w' ∧ ∃ v1 r H' θ' W', Ending.returned v = .returned v1 ∧ Q r H' ∧ SR θ' W' H' w' ∧ ARel θ' W' r v1 ∧ Stp θ W w θ' W' w' := by
    intro st' θ' W' h1 h2 h3
    unfold retK at h3
    split at h3
    · rename_i x hx
      obtain ⟨v, q1, q2⟩ := results_ok h1 hr hx
      exact ⟨h1.defers, v, q1, v, x, _, θ', W', rfl, h3, h1.mem, q2, h2⟩
    · exact h3.elim
  cases e with
  | normal => obtain ⟨st', θ', W', h1, h2, h3⟩ := he; exact fin st' θ' W' h1 h2 h3
  | ret => obtain ⟨st', θ', W', h1, h2, h3⟩ := he; exact fin st' θ' W' h1 h2 h3
  | exit id => obtain ⟨st', θ', W', h1, h2, h3⟩ := he; exact h3.elim
  | goto l => exact he.elim
  | panic c => exact he.elim
  | outgrown => exact he.elim
theorem acall_mc (hm : P.follows .mixedOrders = true) {f : Nat} {fn : Func} {lv : List Nat} {N : Nat} {mc : MC} {ms : List MR} (hf : P.funcs[f]? = some fn) (hmc : fn.body.map (compile lv P N) = some mc) (hN : fn.ntmps = N)
    (hng : (fn.name == "runtime.NumGoroutine") = false) (hr : cRess lv P fn.results.toList = some ms) {args : List AV} {H : List AO} {Q : AV → List AO → Prop} (hla : args.length ≤ N)
    (h : wpm (ACall P) mc (finK ms Q) ⟨argEnv 0 args, [], H⟩) : ACall P f args H Q := by
  subst hN
  cases hb : fn.body with
  | none => rw [hb] at hmc; cases hmc
  | some c =>
    rw [hb] at hmc
    cases hmc
    exact acall_of hm hf hb hng hr hla h
end Go.AM
set_option linter.all false
namespace Go.AM
variable {P:Program} {θ:Th} {W:Im}
def Grnd (a:AV):Prop:=∀ θ W θ' W' v,ARel θ W a v->ARel θ' W' a v
theorem grnd_b (x:Bool):Grnd (.p (.b x)):=fun _ _ _ _ _ h=>by cases h.p_inv; exact .p _ _ (.b _)
theorem grnd_nl:Grnd (.p .nl):=fun _ _ _ _ _ h=>by cases h.p_inv; exact .p _ _ .nl
inductive Lent (H:List AO):AV->AV->Prop
 | same (a:AV) (h:Grnd a):Lent H a a
 | pure (p:PV):Lent H (.p p) (.p p)
 | nl:Lent H (.p .nl) (.p (.l []))
 | gs (id ver off n sz:Nat) (rs:List (List AV)) (ys:List (List PV)) (hid:H[id]?=some (.rows sz ver rs)) (hlen:off+n<=rs.length) (hys:ys.length=n) (hsz:∀ y∈ys,y.length=sz)
   (hc:∀ (i:Nat) r y (j:Nat) c q,rs[off+i]?=some r->ys[i]?=some y->r[j]?=some c->y[j]?=some q->Lent H c (.p q)):Lent H (.gs id ver off n) (.p (.l ys))
 | st (as bs:List AV) (hlen:as.length=bs.length) (hc:∀ (j:Nat) a b,as[j]?=some a->bs[j]?=some b->Lent H a b):Lent H (.st as) (.st bs)
 | tup (as bs:List AV) (hlen:as.length=bs.length) (hc:∀ (j:Nat) a b,as[j]?=some a->bs[j]?=some b->Lent H a b):Lent H (.tup as) (.tup bs)
theorem Lent.ext {H H':List AO} (he:Hext H H') {a b:AV} (h:Lent H a b):Lent H' a b:=by
 induction h with
 | same a h=>exact .same a h
 | pure p=>exact .pure p
 | nl=>exact .nl
 | gs id ver off n sz rs ys hid hlen hys hsz hc ih=>exact .gs id ver off n sz rs ys (he _ _ hid (fun e=>by cases e)) hlen hys hsz ih
 | st as bs hlen hc ih=>exact .st as bs hlen ih
 | tup as bs hlen hc ih=>exact .tup as bs hlen ih
open Classical in
noncomputable def frz (θ:Th) (W:Im) (w:World):Im:=fun b o=>if Owned θ b then w.cell? ⟨b,o,none⟩ else W b o
def noTh:Th:=fun _ _=>.no
theorem not_owned (b:Nat):¬ Owned noTh b:=by rintro ⟨id,ver,sz,tot,h⟩; cases h
theorem SR.frz {H:List AO} {w:World} (h:SR θ W H w):SR noTh (frz θ W w) [] w:=by
 refine ⟨fun b o v hv=>?_,fun id o hid=>by simp at hid,fun _ _ _=>rfl,fun b hb=>(not_owned b hb).elim,fun b id ver sz tot id' ver' sz' tot' h1=>by cases h1⟩
 unfold AM.frz at hv
 split at hv
 ·exact hv
 ·exact h.imm b o v hv
theorem SR.frz_ext {H:List AO} {w:World} (h:SR θ W H w):∀ b o v,W b o=some v->AM.frz θ W w b o=some v:=by
 intro b o v hv
 unfold AM.frz
 split
 ·rename_i ho; rw [h.own b ho o] at hv; cases hv
 ·exact hv
theorem lent_rel {H : List AO} {w : World} (h : SR θ W H w) {a b : AV} (hl : Lent H a b) : ∀ {v : Value}, ARel θ W a v → ARel noTh (frz θ W w) b v := by
  induction hl with
  | same a hg => exact fun hv => hg _ _ _ _ _ hv
  | pure p => exact fun hv => .p _ _ (hv.p_inv.mono h.frz_ext)
  | nl =>
    intro v hv
    cases hv.p_inv
    exact .p _ _ (.l [] none 0 0 (fun _ _ => undef) (Nat.le_refl _) (Nat.zero_le _) (fun _ => rfl) (fun _ x hx => by cases hx) (fun r hr => by cases hr) (fun i r j q hi => by simp at hi) (fun i r j q hi => by simp at hi))
  | st as bs hlen hc ih =>
    intro v hv
    cases hv with
    | st _ us hs hc' h1 =>
      refine .st bs us (by omega) (fun j c u hj hu => ?_) h1
      have hlt : j < as.length := by rw [hlen]; exact (List.getElem?_eq_some_iff.1 hj).1
      exact ih j as[j] c (by simp [hlt]) hj (hc' j as[j] u (by simp [hlt]) hu)
  | tup as bs hlen hc ih =>
    intro v hv
    cases hv with
    | tup _ us hs hc' =>
      refine .tup bs us (by omega) (fun j c u hj hu => ?_)
      have hlt : j < as.length := by rw [hlen]; exact (List.getElem?_eq_some_iff.1 hj).1
      exact ih j as[j] c (by simp [hlt]) hj (hc' j as[j] u (by simp [hlt]) hu)
  | gs id ver off n sz rs ys hid hlen hys hsz hc ih =>
    intro v hv
    obtain ⟨h1, _, _⟩ := h.obj id _ hid
    have alive : ∀ {q : Pl}, θ id ver = q → q = .nil ∧ rs = [] ∨ ∃ b tot ty vs, q = .at b sz tot ∧ w.heap[b]? = some (.cells vs ty (0, 0)) ∧ vs.size = tot * sz ∧ rs.length ≤ tot ∧ (∀ r ∈ rs, r.length = sz) ∧
        (∀ (i : Nat) (r : List AV) (j : Nat) (c : AV) (v : Value), rs[i]? = some r → r[j]? = some c → vs[i * sz + j]? = some v → ARel θ W c v) := by
      intro q hq
      rcases h1 with ⟨h1, h2⟩ | ⟨b, tot, ty, vs, h1, h2, h3, h4, h5, h6, _⟩
      · exact .inl ⟨hq.symm.trans h1, h2⟩
      · exact .inr ⟨b, tot, ty, vs, hq.symm.trans h1, h2, h3, h4, h5, h6⟩
    cases hv with
    | gsDead _ _ _ _ a cap hd hn hm => rcases alive hd with ⟨e, _⟩ | ⟨b, tot, ty, vs, e, _⟩ <;> cases e
    | gsNil _ _ hd =>
      have : ys = [] := List.length_eq_zero_iff.1 hys
      subst this
      exact .p _ _ (.l [] none 0 0 (fun _ _ => undef) (Nat.le_refl _) (Nat.zero_le _) (fun _ => rfl) (fun _ x hx => by cases hx) (fun r hr => by cases hr) (fun i r j q hi => by simp at hi) (fun i r j q hi => by simp at hi))
    | gs _ _ _ _ b sz' tot o cap hd hn hm hcap ho h0 =>
      rcases alive hd with ⟨e, _⟩ | ⟨b', tot', ty, vs, e, h2, h3, h4, h5, h6⟩
      · cases e
      · cases e
        have cell : ∀ (i : Nat) (y : List PV) (j : Nat) (q : PV), ys[i]? = some y → y[j]? = some q → ∃ r c, rs[off + i]? = some r ∧ r[j]? = some c ∧ vs[(off + i) * sz + j]? = some (vs.getD ((off + i) * sz + j) undef) ∧ off < tot := by
          intro i y j q hi hj
          have hil : i < ys.length := (List.getElem?_eq_some_iff.1 hi).1
          have hyl := hsz y (List.mem_of_getElem? hi)
          have hjl : j < y.length := (List.getElem?_eq_some_iff.1 hj).1
          have hrl : off + i < rs.length := by omega
          have hrsz := h5 rs[off + i] (List.getElem_mem hrl)
          have hk : (off + i) * sz + j < vs.size := by
            have h8 : (off + i + 1) * sz ≤ tot * sz := Nat.mul_le_mul_right _ (by omega)
            rw [Nat.add_mul] at h8
            omega
          have hjr : j < rs[off + i].length := by omega
          have e3 : vs[(off + i) * sz + j]? = some (vs.getD ((off + i) * sz + j) undef) := by
            rw [Array.getD_eq_getD_getElem?, Array.getElem?_eq_getElem hk]; rfl
          exact ⟨rs[off + i], rs[off + i][j], List.getElem?_eq_getElem hrl, List.getElem?_eq_getElem hjr, e3, by omega⟩
        have hl2 : PRel (AM.frz θ W w) (.l ys) (.slice (some ⟨b, o, none⟩) ys.length cap) := by
          refine .l ys (some ⟨b, o, none⟩) cap sz (fun i j => vs.getD ((off + i) * sz + j) undef) (by omega) (by omega) (fun e => by cases e) (fun _ x hx => by cases hx; rfl) hsz ?_ ?_
          · intro i y j q hi hj x hx
            cases hx
            obtain ⟨r, c, q1, q2, q3, q4⟩ := cell i y j q hi hj
            have hown : Owned θ b := ⟨_, _, _, _, hd⟩
            have hidx : o + (i * sz + j) = (off + i) * sz + j := by rw [ho q4, Nat.add_mul]; omega
            show AM.frz θ W w b (o + (i * sz + j)) = _
            unfold AM.frz
            rw [if_pos hown, hidx]
            simp only [World.cell?, h2]
            exact q3
          · intro i y j q hi hj
            obtain ⟨r, c, q1, q2, q3, q4⟩ := cell i y j q hi hj
            exact (ih i r y j c q q1 hi q2 hj (h6 _ r j c _ q1 q2 q3)).p_inv
        rw [hys] at hl2
        exact .p _ _ hl2
def LentAll (H:List AO) (as bs:List AV):Prop:=as.length=bs.length/\∀ (j:Nat) a b,as[j]?=some a->bs[j]?=some b->Lent H a b
theorem lentAll_nil (H:List AO):LentAll H [] []:=⟨rfl,fun j a b h=>by simp at h⟩
theorem lentAll_cons {H:List AO} {a b:AV} {as bs:List AV} (h:Lent H a b) (hs:LentAll H as bs):LentAll H (a :: as) (b :: bs) :=
 ⟨by simp [hs.1],fun j x y hx hy=>by
  cases j with
  | zero=>simp at hx hy; subst hx; subst hy; exact h
  | succ j=>exact hs.2 j x y (by simpa using hx) (by simpa using hy)⟩
theorem Stp.old_heap {w w':World} {θ':Th} {W W':Im} (h:Stp noTh W w θ' W' w'):∀ b,b<w.heap.size->w'.heap[b]?=w.heap[b]?:=fun b hb=>h.keep b hb (not_owned b)
theorem acall_lend {f:Nat} {as bs:List AV} {H:List AO} {Q:AV->List AO->Prop} (h:ACall P f bs [] Q) (hg:∀ r H',Q r H'->Grnd r) (hl:LentAll H as bs) :
  ACall P f as H (fun r H'=>H'=H/\∃ H0,Q r H0):=by
 refine ⟨h.1,fun w θ W vs hSR hrel=>?_⟩
 have hrel':Rels noTh (frz θ W w) bs vs:=by
  refine ⟨hrel.1.trans hl.1,fun j b v hb hv=>?_⟩
  have hlt:j<as.length:=by rw [hl.1]; exact (List.getElem?_eq_some_iff.1 hb).1
  exact lent_rel hSR (hl.2 j as[j] b (by simp [hlt]) hb) (hrel.2 j as[j] v (by simp [hlt]) hv)
 refine (h.2 w noTh (frz θ W w) vs hSR.frz hrel').mono ?_
 rintro e w' ⟨v,r,H',θ',W',rfl,hq,hSR',hA,hS⟩
 have hold:=hS.old_heap
 refine ⟨v,r,H,θ,W,rfl,⟨rfl,H',hq⟩,⟨fun b o u hu=>?_,fun id ob hid=>?_,hSR.out,hSR.own,hSR.inj⟩,hg r H' hq _ _ _ _ _ hA,⟨hS.os,hS.tape,hS.output,hS.size,fun b hb _=>hold b hb,fun _ _ _ h=>h,fun _ _ _ _=>rfl,fun _ _ _=>.inl rfl,fun _ h=>.inl h⟩⟩
 ·have hc:=hSR.imm b o u hu
  have:=hold b (cell_old hc)
  simp only [World.cell?] at hc ⊢
  rw [this]; exact hc
 ·exact (hSR.obj id ob hid).mono (fun _=>rfl) (fun ver b sz tot ho=>hold b (hSR.ownedLt ho)) (fun _ _ h=>h) (ht:=fun b v o hv ho=>by rw [hold b (hSR.lt hv)]; exact ho)
end Go.AM
set_option linter.all false
namespace Go.AM
open Go.ChangeShapes Go.WideShapes Go.RowKit
variable {P:Program}
def memIm (w:World):Im:=fun b o=>w.cell? ⟨b,o,none⟩
theorem SR.entry (w:World):SR noTh (memIm w) [] w :=
 ⟨fun b o v h=>h,fun id o hid=>by simp at hid,fun _ _ _=>rfl,fun b hb=>(not_owned b hb).elim,fun b id ver sz tot id' ver' sz' tot' h1=>by cases h1⟩
def PRels (W:Im) (xs:List PV) (cs:List Value):Prop:=xs.length=cs.length/\∀ (j:Nat) q v,xs[j]?=some q->cs[j]?=some v->PRel W q v
theorem PRels.one {W:Im} {q:PV} {v:Value} (h:PRel W q v):PRels W [q] [v]:=⟨rfl,fun j q' v' hq hv=>by
 cases j with
 | zero=>simp at hq hv; subst hq; subst hv; exact h
 | succ j=>simp at hq⟩
theorem PRels.append {W:Im} {xs ys:List PV} {cs ds:List Value} (h:PRels W xs cs) (k:PRels W ys ds):PRels W (xs++ys) (cs++ds):=by
 refine ⟨by simp [h.1,k.1],fun j q v hq hv=>?_⟩
 rcases Nat.lt_or_ge j xs.length with hlt | hge
 ·rw [List.getElem?_append_left hlt] at hq
  rw [List.getElem?_append_left (by rw [<- h.1]; exact hlt)] at hv
  exact h.2 j q v hq hv
 ·rw [List.getElem?_append_right hge] at hq
  rw [List.getElem?_append_right (by rw [<- h.1]; exact hge),<- h.1] at hv
  exact k.2 _ q v hq hv
theorem PRels.cons_inv {W:Im} {q:PV} {cs:List Value} (h:PRels W [q] cs):∃ v,cs=[v]/\PRel W q v:=by
 match cs,h.1 with
 | [v],_=>exact ⟨v,rfl,h.2 0 q v rfl rfl⟩
structure BkOk (bk:(H:Type)->DataW H->Nat):Prop where
 str:∀ (H:Type) (l:List UInt8),l.length<=bk H (.lit (.string l))
 len:∀ (H:Type) (es sp:List (DataW H)),es.length<=bk H (.slice es sp)
 elem:∀ (H:Type) (es sp:List (DataW H)),∀ d∈es,bk H d<=bk H (.slice es sp)
 part:∀ (H:Type) (ps:List (DataW H)),∀ d∈ps,bk H d<=bk H (.agg ps)
variable {bk:(H:Type)->DataW H->Nat} {B:Nat}
def Dec (P:Program) (bk:(H:Type)->DataW H->Nat) (B:Nat) (n:Nat) (t:TypeId) {α:Type} (f:α->List PV) (p:α->Prop):Prop :=
 ∀ (H:Type) (enc:TypeId × Value->H) (w:World) (sp:Nat->Bool) (cs:List Value) (x:DataW H × List MemPlace),DataW.trod enc P w 0 sp true n t cs=some x->bk H x.1<=B->∃ a,p a/\PRels (memIm w) (f a) cs
theorem dec_zero {t:TypeId} {α:Type} {f:α->List PV} {p:α->Prop}:Dec P bk B 0 t f p:=fun H enc w sp cs x h _=>by simp [DataW.trod] at h
theorem Dec.map {n:Nat} {t:TypeId} {α β:Type} {f:α->List PV} {p:α->Prop} {f':β->List PV} {p':β->Prop} (h:Dec P bk B n t f p) (g:α->β) (hf:∀ a,p a->f' (g a)=f a) (hp:∀ a,p a->p' (g a)):Dec P bk B n t f' p' :=
 fun H enc w sp cs x hx hb=>by
  obtain ⟨a,h1,h2⟩:=h H enc w sp cs x hx hb
  exact ⟨g a,hp a h1,by rw [hf a h1]; exact h2⟩
theorem dec_int {t:TypeId} {k:IntKind} (n:Nat) (ht:P.underlying t=some (.int k)):Dec P bk B n t (fun z:Int=>[.i k z]) (fun z=>(Lit.int k z).wf=true):=fun H enc w sp cs x h _=>by
 obtain ⟨z,rfl,_,hw⟩:=DataW.trod_int ht h
 exact ⟨z,hw,PRels.one (.i k z)⟩
theorem dec_string {t:TypeId} (n:Nat) (hbk:BkOk bk) (hB:B<=maxL) (ht:P.underlying t=some .string):Dec P bk B n t (fun s:List UInt8=>[.s s]) (fun s=>s.length<=B):=fun H enc w sp cs x h hb=>by
 obtain ⟨s,rfl,rfl,_⟩:=DataW.trod_string ht h
 have hl:s.data.toList.length<=B:=Nat.le_trans (hbk.str H _) hb
 exact ⟨s.data.toList,hl,PRels.one (PRel.s (W:=memIm w) s.data.toList (Nat.le_trans hl hB))⟩
theorem chooseL {α : Type} {Q : Nat → α → Prop} : ∀ (n : Nat), (∀ i, i < n → ∃ a, Q i a) → ∃ as : List α, as.length = n ∧ ∀ (i : Nat) a, as[i]? = some a → Q i a
  | 0, _ => ⟨[], rfl, fun i a h => by simp at h⟩
  | n + 1, h => by
    obtain ⟨as, h1, h2⟩ := chooseL n fun i hi => h i (by omega)
    obtain ⟨a, ha⟩ := h n (by omega)
    refine ⟨as ++ [a], by simp [h1], fun i b hb => ?_⟩
    rcases Nat.lt_or_ge i n with hlt | hge
    · rw [List.getElem?_append_left (by omega)] at hb; exact h2 i b hb
    · rw [List.getElem?_append_right (by omega)] at hb
      have : i = n := by
        have := (List.getElem?_eq_some_iff.1 hb).1
        simp at this; omega
      subst this
      simp [h1] at hb; subst hb; exact ha
theorem cells_at {w : World} {a : Addr} {n : Nat} {cs : List Value} (h : w.cells? 0 a n = some cs) : cs.length = n ∧ ∀ (j : Nat) v, cs[j]? = some v → (a.add j).spot = none ∧ w.cell? ⟨a.block, a.off + j, none⟩ = some v := by
  unfold World.cells? at h
  rw [if_pos (Nat.zero_le _)] at h
  refine ⟨by simpa using mapM_some_length h, fun j v hv => ?_⟩
  have hj : j < n := by
    have h1 := mapM_some_length h
    have h2 := (List.getElem?_eq_some_iff.1 hv).1
    simp at h1; omega
  have hc := mapM_some_get h j j (by simp [hj])
  rw [hv] at hc
  have hspot : (a.add j).spot = none := by
    cases hsp : (a.add j).spot with
    | none => rfl
    | some s =>
      simp only [World.cell?] at hc
      split at hc
      · simp [hsp] at hc
      · cases hc
  have e : a.add j = ⟨a.block, a.off + j, none⟩ := by
    unfold Addr.add at hspot ⊢
    split
    · rename_i h0
      subst h0
      rw [if_pos rfl] at hspot
      cases a
      simp_all
    · rfl
  exact ⟨hspot, by rw [← e]; exact hc⟩
theorem dec_slice {t e:TypeId} {n:Nat} {α:Type} {f:α->List PV} {p:α->Prop} (hbk:BkOk bk) (hB:B<=maxL) (ht:P.underlying t=some (.slice e)) (h0:0<P.cellsOf e) (he:Dec P bk B n e f p) :
  Dec P bk B (n+1) t (fun as:List α=>[.l (as.map f)]) (fun as=>(∀ a∈as,p a)/\as.length<=B):=fun H enc w sp cs x h hb=>by
 rcases DataW.trod_slice ht h with ⟨rfl,_⟩ | ⟨a,len,cap,elems,rest,n',hn',rfl,rfl,_,hlc,hcm,hel,hget,_,_⟩
 ·exact ⟨[],⟨fun a ha=>by simp at ha,Nat.zero_le _⟩,PRels.one (.l [] none 0 0 (fun _ _=>undef) (Nat.le_refl _) (Nat.zero_le _) (fun _=>rfl) (fun _ x hx=>by cases hx) (fun r hr=>by cases hr) (fun i r j q hi=>by simp at hi) (fun i r j q hi=>by simp at hi))⟩
 ·cases hn'
  have hone:∀ i,i<len->∃ y:α × List Value,p y.1/\w.cells? 0 (a.add (i * P.cellsOf e)) (P.cellsOf e)=some y.2/\PRels (memIm w) (f y.1) y.2:=by
   intro i hi
   have h1:=hget i hi
   have hlt:i<elems.length:=by omega
   rw [List.getElem?_eq_getElem hlt,Option.bind_eq_some_iff] at h1
   obtain ⟨cs',h2,h3⟩:=h1
   obtain ⟨b,h4,h5⟩:=he H enc w sp cs' _ h3 (Nat.le_trans (hbk.elem H _ _ _ (List.mem_map_of_mem (List.getElem_mem hlt))) hb)
   exact ⟨(b,cs'),h4,h2,h5⟩
  obtain ⟨ys,hyl,hys⟩:=chooseL len hone
  have hlenB:len<=B:=by
   have:=Nat.le_trans (hbk.len H _ _) hb
   simpa [hel] using this
  refine ⟨ys.map (·.1),⟨fun b hb=>?_,by simp; omega⟩,?_⟩
  ·obtain ⟨y,hy,rfl⟩:=List.mem_map.1 hb
   obtain ⟨i,hi⟩:=List.mem_iff_getElem?.1 hy
   exact (hys i y hi).1
  ·have hl:((ys.map (·.1)).map f).length=len:=by simp [hyl]
   have key:PRel (memIm w) (.l ((ys.map (·.1)).map f)) (.slice (some a) ((ys.map (·.1)).map f).length cap):=by
    have hcellj:∀ (i:Nat) (r:List PV) (j:Nat) (q:PV),((ys.map (·.1)).map f)[i]?=some r->r[j]?=some q->∃ v,PRel (memIm w) q v/\a.block=a.block/\w.cell? ⟨a.block,a.off+(i * P.cellsOf e+j),none⟩=some v/\(i * P.cellsOf e+j=0->a.spot=none):=by
     intro i r j q hi hj
     simp only [List.getElem?_map,Option.map_map,Option.map_eq_some_iff,Function.comp] at hi
     obtain ⟨y,hy,rfl⟩:=hi
     obtain ⟨_,h2,h3⟩:=hys i y hy
     obtain ⟨c1,c2⟩:=cells_at h2
     have hjl:j<y.2.length:=by rw [<- h3.1]; exact (List.getElem?_eq_some_iff.1 hj).1
     have hv:=List.getElem?_eq_getElem hjl
     obtain ⟨s1,s2⟩:=c2 j _ hv
     refine ⟨y.2[j],h3.2 j q _ hj hv,rfl,?_,?_⟩
     ·have eb:(a.add (i * P.cellsOf e)).block=a.block:=by unfold Addr.add; split <;> rfl
      have eo:(a.add (i * P.cellsOf e)).off=a.off+i * P.cellsOf e:=by
       unfold Addr.add; split
       ·rename_i h0; rw [h0]; rfl
       ·rfl
      rw [eb,eo] at s2
      rw [<- Nat.add_assoc]; exact s2
     ·intro hz
      have hz1:i * P.cellsOf e=0:=by omega
      have hz2:j=0:=by omega
      subst hz2
      rw [hz1] at s1
      simpa [Addr.add] using s1
    refine .l _ (some a) cap (P.cellsOf e) (fun i j=>(w.cell? ⟨a.block,a.off+(i * P.cellsOf e+j),none⟩).getD undef) (by omega) (by omega) (fun h=>by cases h) ?_ ?_ ?_ ?_
    ·intro hne x hx
     cases hx
     have hlen0:0<((ys.map (·.1)).map f).length:=List.length_pos_iff.2 hne
     have hi:=List.getElem?_eq_getElem hlen0
     have hy0:0<ys.length:=by simpa using hlen0
     obtain ⟨_,h2,h3⟩:=hys 0 ys[0] (List.getElem?_eq_getElem hy0)
     obtain ⟨c1,c2⟩:=cells_at h2
     have hr0:((ys.map (·.1)).map f)[0]?=some (f ys[0].1):=by simp [hy0]
     have hl0:0<(f ys[0].1).length:=by rw [h3.1,c1]; exact h0
     obtain ⟨v,_,_,_,hs⟩:=hcellj 0 (f ys[0].1) 0 _ hr0 (List.getElem?_eq_getElem hl0)
     exact hs (by simp)
    ·intro r hr
     obtain ⟨b,hb,rfl⟩:=List.mem_map.1 hr
     obtain ⟨y,hy,rfl⟩:=List.mem_map.1 hb
     obtain ⟨i,hi⟩:=List.mem_iff_getElem?.1 hy
     obtain ⟨_,h2,h3⟩:=hys i y hi
     rw [h3.1]; exact (cells_at h2).1
    ·intro i r j q hi hj x hx
     cases hx
     obtain ⟨v,_,_,hv,_⟩:=hcellj i r j q hi hj
     show w.cell? _=_
     rw [hv]; rfl
    ·intro i r j q hi hj
     obtain ⟨v,hp,_,hv,_⟩:=hcellj i r j q hi hj
     show PRel _ _ ((w.cell? _).getD undef)
     rw [hv]; exact hp
   rw [hl] at key
   exact PRels.one key
theorem arg_slice {t e:TypeId} {v:Value} {w:World} {r:Reach} {base:Nat} {H:Type} {enc:TypeId × Value->H} {sp:Nat->Bool} {d:DataW H} {ps:List MemPlace} {α:Type} {f:α->List PV} {p:α->Prop}
  (ht:P.underlying t=some (.slice e)) (hdec:∀ n,Dec P bk B n t (fun as:List α=>[.l (as.map f)]) (fun as=>(∀ a∈as,p a)/\as.length<=B)) (hok:Value.okWide P w r base t v) (h:DataW.Trod enc P w 0 sp true t v d ps) (hb:bk H d<=B) :
  ∃ as:List α,((∀ a∈as,p a)/\as.length<=B)/\PRel (memIm w) (.l (as.map f)) v:=by
 obtain ⟨a,len,cap,rfl⟩:=okWide_slice ht hok
 obtain ⟨n,hn⟩:=h
 obtain ⟨as,h1,h2⟩:=hdec n H enc w sp _ _ hn hb
 obtain ⟨v',h3,h4⟩:=h2.cons_inv
 refine ⟨as,h1,?_⟩
 simp [Value.cells] at h3
 subst h3
 exact h4
theorem post_of_below {H:Type} {enc:TypeId × Value->H} {f:Func} {s:ChangeSpec} {apart fresh handsOn again:Bool} {W W':World} {args:Array Value} {v:Value} {ds gs:List (DataW H)} {before pa pv:List MemPlace}
  (hW:DataW.Whole enc P f.params.toList s.vars apart W args.toList ds gs before)
  (hres:∀ (b:Nat) (sp:Nat->Bool) (hd:Bool),DataW.TrodAll enc P W' b sp hd f.resultTypes.toList (v.resultList f.resultTypes.size) (s.fn H (ds++gs)).results [])
  (hargs:∀ sp:Nat->Bool,(∀ p∈before,sp p.block=true)->DataW.TrodAll enc P W' 0 sp true f.params.toList args.toList (s.fn H (ds++gs)).args pa)
  (hvars:∀ sp:Nat->Bool,(∀ p∈before,sp p.block=true)->DataW.TrodVars enc P W' sp s.vars (s.fn H (ds++gs)).vars pv)
  (hps:before=pa++pv) (hb:Below W.heap.size W W')
  (hok:∀ (j:Nat) (t:TypeId) (r:Value),f.resultTypes[j]?=some t->(v.resultList f.resultTypes.size)[j]?=some r->Value.okWide P W' .any 0 t r) :
  s.post enc P f apart fresh handsOn again W args v W':=by
 have hlt:=hW.lt
 have hold:∀ p∈before,(fun b=>decide (b<W.heap.size)) p.block=true:=fun p hp=>by simpa using hlt p hp
 have hk:W.keptBut W' (·∈before):=hb.frame _
 refine ⟨ds,gs,before,[],pa,pv,hW,hres _ _ _,hargs _ hold,hvars _ hold,World.keptBut_mono (fun p hp=>⟨hp,?_⟩) hk,fun _=>?_⟩
 ·rw [hps,List.mem_append] at hp
  exact Or.inr hp
 ·obtain ⟨_,_,_,_,_,hz,hn⟩:=hW
  refine ⟨hok,_,_,([]++pa)++pv,⟨[]++pa,pv,trodAll_append (hargs _ (fun _ _=>rfl)) (hres _ _ _),hvars _ (fun _ _=>rfl),rfl,?_,?_⟩,?_⟩
  ·intro b off hp
   have hbl:b<W.heap.size:=hlt (.cell b off) (by rw [hps]; simpa using hp)
   have:=hz b off (by rw [hps]; simpa using hp)
   unfold World.frozen? at this ⊢
   rw [hb.block b hbl]
   exact this
  ·intro ha
   have:=hn ha
   rw [hps] at this
   simpa using this
  ·intro p hp _
   rw [hps]
   simpa using hp
theorem trodAll_stays {H : Type} {enc : TypeId × Value → H} (hl : laidOutB P = true) {W W' : World} (hb : Below W.heap.size W W') {sp : Nat → Bool} : ∀ {ts : List TypeId} {vs : List Value} {ds : List (DataW H)} {ps : List MemPlace},
    (∀ t ∈ ts, P.readableRec t = true ∧ t < P.types.size) → DataW.TrodAll enc P W 0 (fun _ => true) true ts vs ds ps → (∀ p ∈ ps, p.block < W.heap.size) → (∀ p ∈ ps, sp p.block = true) → DataW.TrodAll enc P W' 0 sp true ts vs ds ps
  | [], [], [], ps, _, h, _, _ => h
  | t :: ts, v :: vs, d :: ds, ps, hr, h, hlt, hs => by
    obtain ⟨p, q, h1, h2, rfl⟩ := h
    exact ⟨p, q, WideElems.Trod_stays hl (hr t (by simp)).1 (hr t (by simp)).2 h1 (fun x hx => hb.same (hlt x (by simp [hx]))) (fun x hx => hs x (by simp [hx])),
      trodAll_stays hl hb (fun t ht => hr t (List.mem_cons_of_mem _ ht)) h2 (fun x hx => hlt x (by simp [hx])) (fun x hx => hs x (by simp [hx])), rfl⟩
  | [], _ :: _, _, _, _, h, _, _ => h.elim
  | [], [], _ :: _, _, _, h, _, _ => h.elim
  | _ :: _, [], _, _, _, h, _, _ => h.elim
  | _ :: _, _ :: _, [], _, _, h, _, _ => h.elim
theorem Stp.below {w w':World} {θ':Th} {W W':Im} (h:Stp noTh W w θ' W' w'):Below w.heap.size w w':=⟨h.os,h.tape,h.output,h.size,fun b hb=>h.old_heap b hb⟩
theorem natCast_le0 (n:Nat):(0<=(n:Int))=True:=by simp
attribute [go_sem] decide_true decide_false Bool.not_true Bool.not_false exists_eq_left' Option.some.injEq natCast_le0 true_and and_true Bool.false_eq_true Bool.and_self Bool.and_true Bool.true_and beq_self_eq_true Nat.zero_add Int.toNat_natCast argEnv
def Z0:=@List.replicate_succ
def Z1:=@List.replicate_zero
def Z2:=@List.set_cons_zero
def Z3:=@List.set_cons_succ
def Z4:=@List.length_cons
def Z5:=@List.length_nil
def Z6:=@Nat.lt_add_one
def Z7:=@ne_eq
def Z8:=@not_false_eq_true
def Z9:=@Option.map_some
def Za:=@Nat.zero_lt_succ
def Zb:=@List.map_cons
def Zc:=@List.map_nil
def Zd:=@List.nil_append
def Ze:=@List.cons_append
def Zf:=@List.append_nil
def Zg:=@List.take_succ_cons
def Zh:=@List.take_zero
def Zi:=@List.drop_zero
def Zj:=@and_self
def Zk:=@List.append_assoc
def Zl:=@List.length_append
def Zm:=@Int.toNat_zero
def Zn:=@Int.cast_ofNat_Int
def Zo:=@Int.natCast_zero
def Zp:=@Int.natCast_one
def Zq:=@List.map_append
def Zr:=@Option.bind_some
end Go.AM
set_option linter.all false
namespace Go.AM
open Go.ChangeShapes Go.WideShapes Go.RowKit
variable {P:Program} {bk:(H:Type)->DataW H->Nat} {B:Nat}
theorem Dec.all {t:TypeId} {α:Type} {f:α->List PV} {p:α->Prop} (h:∀ n,Dec P bk B (n+1) t f p):∀ n,Dec P bk B n t f p
 | 0=>dec_zero
 | n+1=>h n
end Go.AM
set_option linter.all false
namespace Go.AM
variable {P:Program} {θ:Th} {W:Im}
inductive Ren (ids:List Nat) (b:Nat):AV->AV->Prop
 | g (a:AV) (h:Grnd a):Ren ids b a a
 | gs (k id ver off n:Nat) (h:ids[k]?=some id):Ren ids b (.gs id ver off n) (.gs (b+k) ver off n)
 | ptr (k id off:Nat) (h:ids[k]?=some id):Ren ids b (.ptr id off) (.ptr (b+k) off)
 | st (as bs:List AV) (hlen:as.length=bs.length) (hc:∀ (j:Nat) x y,as[j]?=some x->bs[j]?=some y->Ren ids b x y):Ren ids b (.st as) (.st bs)
 | tup (as bs:List AV) (hlen:as.length=bs.length) (hc:∀ (j:Nat) x y,as[j]?=some x->bs[j]?=some y->Ren ids b x y):Ren ids b (.tup as) (.tup bs)
end Go.AM
set_option linter.all false
namespace Go.AM
@[go_sem] theorem get_off (G l:List AO) (k:Nat):(G++l)[G.length+k]?=l[k]?:=by rw [List.getElem?_append_right (by omega),Nat.add_sub_cancel_left]
@[go_sem] theorem get_off0 (G l:List AO):(G++l)[G.length]?=l[0]?:=by rw [List.getElem?_append_right (by omega),Nat.sub_self]
@[go_sem] theorem set_off (G l:List AO) (k:Nat) (o:AO):(G++l).set (G.length+k) o=G++l.set k o:=by rw [List.set_append_right _ _ (by omega),Nat.add_sub_cancel_left]
@[go_sem] theorem set_off0 (G l:List AO) (o:AO):(G++l).set G.length o=G++l.set 0 o:=by rw [List.set_append_right _ _ (by omega),Nat.sub_self]
attribute [go_sem] List.getElem?_cons_zero List.getElem?_cons_succ
theorem set_get {H:List AO} {i:Nat} {o o':AO} (h:H[i]?=some o):(H.set i o')[i]?=some o':=by
 rw [List.getElem?_set]; simp [(List.getElem?_eq_some_iff.1 h).1]
def OwnR (H:List AO) (a:AV) (sz:Nat) (rs:List (List AV)):Prop :=
 (a=.p .nl/\rs=[])\/∃ id ver,a=.gs id ver 0 rs.length/\H[id]?=some (.rows sz ver rs)
theorem OwnR.ext {H A:List AO} {a:AV} {sz:Nat} {rs:List (List AV)} (h:OwnR H a sz rs):OwnR (H++A) a sz rs:=by
 rcases h with h | ⟨id,ver,h1,h2⟩
 ·exact .inl h
 ·exact .inr ⟨id,ver,h1,by rw [List.getElem?_append_left (List.getElem?_eq_some_iff.1 h2).1]; exact h2⟩
end Go.AM
set_option linter.all false
namespace Go.AM
variable {P:Program}
def OwnAt (H:List AO) (a:AV) (sz:Nat) (rs:List (List AV)) (lo hi:Nat):Prop :=
 (a=.p .nl/\rs=[])\/∃ id ver,lo<=id/\id<hi/\a=.gs id ver 0 rs.length/\H[id]?=some (.rows sz ver rs)
theorem OwnAt.own {H:List AO} {a:AV} {sz:Nat} {rs:List (List AV)} {lo hi:Nat} (h:OwnAt H a sz rs lo hi):OwnR H a sz rs:=by
 rcases h with h | ⟨id,ver,_,_,h1,h2⟩
 ·exact .inl h
 ·exact .inr ⟨id,ver,h1,h2⟩
theorem OwnAt.ext {H:List AO} {a:AV} {sz:Nat} {rs:List (List AV)} {lo hi:Nat} (h:OwnAt H a sz rs lo hi) (A:List AO):OwnAt (H++A) a sz rs lo hi:=by
 rcases h with h | ⟨id,ver,h0,h1,h2,h3⟩
 ·exact .inl h
 ·exact .inr ⟨id,ver,h0,h1,h2,by rw [List.getElem?_append_left (List.getElem?_eq_some_iff.1 h3).1]; exact h3⟩
theorem OwnAt.set {H:List AO} {a:AV} {sz:Nat} {rs:List (List AV)} {lo hi j:Nat} (h:OwnAt H a sz rs lo hi) (o:AO) (hj:j<lo\/hi<=j):OwnAt (H.set j o) a sz rs lo hi:=by
 rcases h with h | ⟨id,ver,h0,h1,h2,h3⟩
 ·exact .inl h
 ·exact .inr ⟨id,ver,h0,h1,h2,by rw [List.getElem?_set_ne (by omega)]; exact h3⟩
theorem get_ext {H:List AO} {j:Nat} {o:AO} (h:H[j]?=some o) (A:List AO):(H++A)[j]?=some o:=by
 rw [List.getElem?_append_left (List.getElem?_eq_some_iff.1 h).1]; exact h
theorem get_set {H:List AO} {i j:Nat} {o o':AO} (h:H[j]?=some o) (hne:i≠j):(H.set i o')[j]?=some o:=by
 rw [List.getElem?_set_ne hne]; exact h
theorem get_lt {H:List AO} {j:Nat} {o:AO} (h:H[j]?=some o):j<H.length:=(List.getElem?_eq_some_iff.1 h).1
end Go.AM
set_option linter.all false
namespace Go.AM
variable {P:Program}
def Tf (a:AV):Prop:=∀ (θ θ':Th) (W:Im) (v:Value),ARel θ W a v->ARel θ' W a v
theorem tf_p (x:PV):Tf (.p x):=fun _ _ _ _ h=>by cases h with | p _ _ h=>exact .p _ _ h
def TfO:AO->Prop
 | .var cs=>∀ c∈cs,Tf c
 | .rows _ _ rs=>∀ r∈rs,∀ c∈r,Tf c
 | .mapo es=>∀ x∈es,Tf x.1/\Tf x.2
 | _=>True
theorem TfO.in {o : AO} (h : TfO o) {c : AV} (hc : InO c o) : Tf c := by
  cases o with
  | var cs => exact h c hc
  | rows sz ver rs => obtain ⟨r, hr, hc⟩ := hc; exact h r hr c hc
  | mapo es =>
    obtain ⟨x, hx, rfl | rfl⟩ := hc
    · exact (h x hx).1
    · exact (h x hx).2
  | _ => exact hc.elim
def thCut (θ:Th) (n:Nat):Th:=fun id ver=>if id<n then θ id ver else .no
theorem thCut_lt {θ:Th} {n id ver:Nat} (h:id<n):thCut θ n id ver=θ id ver:=by simp [thCut,h]
theorem cut_rel {θ θ' : Th} {W W' : Im} {n : Nat} (hn : ∀ id ver, n ≤ id → θ id ver = .no) {c : AV} {v0 : Value} (h : ARel θ W c v0) : ∀ {v : Value}, ARel θ' W' c v → ARel (thCut θ' n) W' c v := by
  have lt : ∀ {id ver : Nat} {p : Pl}, θ id ver = p → p ≠ .no → id < n := fun {id ver p} e hp => by
    rcases Nat.lt_or_ge id n with h | h
    · exact h
    · exact (hp (by rw [← e, hn id ver h])).elim
  have key : ∀ {id ver : Nat}, id < n → thCut θ' n id ver = θ' id ver := fun h => thCut_lt h
  induction h with
  | any v => intro v _; exact .any v
  | p x v h => intro v hv; cases hv with | p _ _ h => exact .p _ _ h
  | st cs vs hs hc h1 ih =>
    intro v hv
    cases hv with
    | st _ us hs' hc' h1' =>
      refine .st cs us hs' (fun j c u hj hu => ?_) h1'
      have hj' : j < vs.size := by rw [hs]; exact (List.getElem?_eq_some_iff.1 hj).1
      exact ih j c vs[j] hj (Array.getElem?_eq_getElem hj') (hc' j c u hj hu)
  | ptr id off b sz tot h =>
    have hl := lt h (by simp)
    intro v hv
    cases hv with
    | ptr _ _ b' sz' tot' h' => exact .ptr id off b' sz' tot' (by rw [key hl]; exact h')
    | ptrDead _ _ a h' => exact .ptrDead id off a (by rw [key hl]; exact h')
  | ptrDead id off a h =>
    have hl := lt h (by simp)
    intro v hv
    cases hv with
    | ptr _ _ b' sz' tot' h' => exact .ptr id off b' sz' tot' (by rw [key hl]; exact h')
    | ptrDead _ _ a h' => exact .ptrDead id off a (by rw [key hl]; exact h')
  | gsDead id ver off m a cap h hn' hm =>
    have hl := lt h (by simp)
    intro v hv
    cases hv with
    | gsDead _ _ _ _ a' cap' h' q1 q2 => exact .gsDead id ver off m a' cap' (by rw [key hl]; exact h') q1 q2
    | gsNil _ _ h' => exact .gsNil id ver (by rw [key hl]; exact h')
    | gs _ _ _ _ b sz tot o cap' h' q1 q2 q3 q4 q5 => exact .gs id ver off m b sz tot o cap' (by rw [key hl]; exact h') q1 q2 q3 q4 q5
  | gsNil id ver h =>
    have hl := lt h (by simp)
    intro v hv
    cases hv with
    | gsDead _ _ _ _ a' cap' h' q1 q2 => exact .gsDead id ver 0 0 a' cap' (by rw [key hl]; exact h') q1 q2
    | gsNil _ _ h' => exact .gsNil id ver (by rw [key hl]; exact h')
    | gs _ _ _ _ b sz tot o cap' h' q1 q2 q3 q4 q5 => exact .gs id ver 0 0 b sz tot o cap' (by rw [key hl]; exact h') q1 q2 q3 q4 q5
  | gs id ver off m b sz tot o cap h q1 q2 q3 q4 q5 =>
    have hl := lt h (by simp)
    intro v hv
    cases hv with
    | gsDead _ _ _ _ a' cap' h' q1 q2 => exact .gsDead id ver off m a' cap' (by rw [key hl]; exact h') q1 q2
    | gsNil _ _ h' => exact .gsNil id ver (by rw [key hl]; exact h')
    | gs _ _ _ _ b sz tot o cap' h' q1 q2 q3 q4 q5 => exact .gs id ver off m b sz tot o cap' (by rw [key hl]; exact h') q1 q2 q3 q4 q5
  | ep id ver row col b sz tot h =>
    have hl := lt h (by simp)
    intro v hv
    cases hv with
    | ep _ _ _ _ b' sz' tot' h' => exact .ep id ver row col b' sz' tot' (by rw [key hl]; exact h')
    | epDead _ _ _ _ a h' => exact .epDead id ver row col a (by rw [key hl]; exact h')
  | epDead id ver row col a h =>
    have hl := lt h (by simp)
    intro v hv
    cases hv with
    | ep _ _ _ _ b' sz' tot' h' => exact .ep id ver row col b' sz' tot' (by rw [key hl]; exact h')
    | epDead _ _ _ _ a h' => exact .epDead id ver row col a (by rw [key hl]; exact h')
  | ip row b o f hcell hrel => intro v hv; cases hv with | ip _ b o f q1 q2 => exact .ip row b o f q1 q2
  | clo f caps vs hs hc ih =>
    intro v hv
    cases hv with
    | clo _ _ us hs' hc' =>
      refine .clo f caps us hs' (fun j c u hj hu => ?_)
      have hj' : j < vs.size := by rw [hs]; exact (List.getElem?_eq_some_iff.1 hj).1
      exact ih j c vs[j] hj (Array.getElem?_eq_getElem hj') (hc' j c u hj hu)
  | tup cs vs hs hc ih =>
    intro v hv
    cases hv with
    | tup _ us hs' hc' =>
      refine .tup cs us hs' (fun j c u hj hu => ?_)
      have hj' : j < vs.size := by rw [hs]; exact (List.getElem?_eq_some_iff.1 hj).1
      exact ih j c vs[j] hj (Array.getElem?_eq_getElem hj') (hc' j c u hj hu)
  | mp id b h =>
    have hl := lt h (by simp)
    intro v hv
    cases hv with
    | mp _ b' h' => exact .mp id b' (by rw [key hl]; exact h')
    | mpDead _ r h' => exact .mpDead id r (by rw [key hl]; exact h')
  | mpDead id r h =>
    have hl := lt h (by simp)
    intro v hv
    cases hv with
    | mp _ b' h' => exact .mp id b' (by rw [key hl]; exact h')
    | mpDead _ r h' => exact .mpDead id r (by rw [key hl]; exact h')
theorem OR.cells {θ θ'' : Th} {W : Im} {w : World} {id : Nat} {o : AO} (h : OR θ W w id o) (e : ∀ ver, θ'' id ver = θ id ver)
    (hc : ∀ c, InO c o → ∀ v, ARel θ W c v → ARel θ'' W c v) : OR θ'' W w id o := by
  cases o with
  | dead => intro ver; rw [e]; exact h ver
  | rsv => intro ver; rw [e]; exact h ver
  | glob b v => exact ⟨h.1, fun ver => by rw [e]; exact h.2 ver⟩
  | tab b v o => exact ⟨h.1, h.2.1, fun ver => by rw [e]; exact h.2.2 ver⟩
  | var cs =>
    obtain ⟨⟨b, sz, tot, ty, vs, h1, h2, h3, h4, h5⟩, h6⟩ := h
    exact ⟨⟨b, sz, tot, ty, vs, by rw [e]; exact h1, h2, h3, fun j c v hj hjv => hc c (List.mem_of_getElem? hj) v (h4 j c v hj hjv), h5⟩, fun ver hver => by rw [e]; exact h6 ver hver⟩
  | rows sz ver rs =>
    obtain ⟨h0, h8, h9⟩ := h
    refine ⟨?_, fun v' hv' => by rw [e]; exact h8 v' hv', fun v' hv' => by rw [e]; exact h9 v' hv'⟩
    rcases h0 with ⟨h1, h2⟩ | ⟨b, tot, ty, vs, h1, h2, h3, h4, h5, h6, h7⟩
    · exact .inl ⟨by rw [e]; exact h1, h2⟩
    · exact .inr ⟨b, tot, ty, vs, by rw [e]; exact h1, h2, h3, h4, h5, fun i r j c v hi hj hjv => hc c ⟨r, List.mem_of_getElem? hi, List.mem_of_getElem? hj⟩ v (h6 i r j c v hi hj hjv), h7⟩
  | mapo es =>
    obtain ⟨⟨b, es', ck, h1, h2, h3, h4⟩, h5⟩ := h
    exact ⟨⟨b, es', ck, by rw [e]; exact h1, h2, h3, fun j x x' hj hx => ⟨hc _ ⟨x, List.mem_of_getElem? hj, .inl rfl⟩ _ (h4 j x x' hj hx).1, hc _ ⟨x, List.mem_of_getElem? hj, .inr rfl⟩ _ (h4 j x x' hj hx).2⟩⟩, fun ver hver => by rw [e]; exact h5 ver hver⟩
end Go.AM
set_option linter.all false
namespace Go.AM
structure Fr (P P':Nat->Prop) (H H':List AO):Prop where
 keep:∀ (j:Nat) o,H[j]?=some o->¬ P j->H'[j]?=some o
 new:∀ j,P' j->P j\/H.length<=j
 len:H.length<=H'.length
theorem Fr.refl (P:Nat->Prop) (H:List AO):Fr P P H H:=⟨fun _ _ h _=>h,fun _ h=>.inl h,Nat.le_refl _⟩
theorem Fr.trans {P Q R:Nat->Prop} {H H' H'':List AO} (h:Fr P Q H H') (k:Fr Q R H' H''):Fr P R H H'' where
 keep:=fun j o hj hp=>k.keep j o (h.keep j o hj hp) fun hq=>by
  rcases h.new j hq with h1 | h1
  ·exact hp h1
  ·have:=get_lt hj; omega
 new:=fun j hj=>by
  rcases k.new j hj with h1 | h1
  ·exact h.new j h1
  ·exact .inr (Nat.le_trans h.len h1)
 len:=Nat.le_trans h.len k.len
theorem Fr.ext (P:Nat->Prop) (H A:List AO):Fr P P H (H++A):=⟨fun _ _ h _=>get_ext h A,fun _ h=>.inl h,by simp⟩
theorem Fr.set {P:Nat->Prop} {H:List AO} {j:Nat} (o:AO) (hj:P j):Fr P P H (H.set j o) :=
 ⟨fun i o' hi hp=>get_set hi (fun e=>hp (e ▸ hj)),fun _ h=>.inl h,by simp⟩
theorem Fr.app {P Q:Nat->Prop} {H H':List AO} (h:Fr P Q H H') (A:List AO):Fr P Q H (H'++A):=h.trans (Fr.ext Q H' A)
theorem acall_pure {P:Program} {f:Nat} {as:List AV} {H H0:List AO} {r0:AV} {Q:AV->List AO->Prop} (h:ACall P f as H (pureQ r0 H0)) (k:Q r0 H0):ACall P f as H Q :=
 h.mono (by rintro r H' ⟨rfl,rfl⟩; exact k)
end Go.AM
set_option linter.all false
namespace Go.AM
attribute [go_sem] Z2 Z3 Z4 Z5 Z6 Z7 Z8 Z9 Za Zb Zc Zd Ze Zf Zg Zh Zi Zj Zk Zl Zm Zn Zo Zp Zq Zr
abbrev CallT (P:Program) (f n:Nat) (mc:MC) (mr:List MR):Prop:=∀ {args:List AV} {H:List AO} {Q:AV->List AO->Prop},args.length<=n->wpm (ACall P) mc (finK mr Q) ⟨argEnv 0 args,[],H⟩->ACall P f args H Q
end Go.AM
set_option linter.all false
namespace Go.AM
variable {P:Program}
def thOne (θ:Th) (id:Nat):Th:=fun i ver=>if i=id then θ i ver else .no
def thKill (θ:Th) (id:Nat):Th:=fun i ver=>if i=id then (match θ i ver with | .no=>.no | _=>.dead) else θ i ver
theorem owned_one {θ:Th} {id b:Nat} (h:Owned (thOne θ id) b):Owned θ b/\∃ ver sz tot,θ id ver=.at b sz tot:=by
 obtain ⟨i,ver,sz,tot,h⟩:=h
 unfold thOne at h
 split at h
 ·rename_i e; subst e; exact ⟨⟨_,_,_,_,h⟩,_,_,_,h⟩
 ·cases h
theorem thKill_ne {θ:Th} {id i ver:Nat} (h:i≠id):thKill θ id i ver=θ i ver:=by simp [thKill,h]
theorem thKill_step {θ:Th} {id:Nat} (i ver:Nat) (h:θ i ver≠.no):thKill θ id i ver=θ i ver\/thKill θ id i ver=.dead:=by
 unfold thKill
 split
 ·right; split
  ·rename_i e; exact (h e).elim
  ·rfl
 ·exact .inl rfl
theorem owned_kill {θ:Th} {id b:Nat} (h:Owned (thKill θ id) b):∃ i ver sz tot,i≠id/\θ i ver=.at b sz tot:=by
 obtain ⟨i,ver,sz,tot,h⟩:=h
 unfold thKill at h
 split at h
 ·split at h <;> cases h
 ·rename_i e; exact ⟨i,ver,sz,tot,e,h⟩
end Go.AM