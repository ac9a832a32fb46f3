/- Regions whose order is drawn: every order. -/
import Derived.Test.YteilijfligofdaaGreatDoorAm21
set_option linter.all false
namespace Go.AM
variable {lv:List Nat} {P:Program} {N:Nat} {K:St->Prop} {θ:Th} {W:Im} {ops:Array Oper} {m:Nat} {outs:Nat->Out} {s0:St}
def Lst (ops:Array Oper) (listed:Array Bool) (D:Nat->Bool):Prop:=listed.size=ops.size/\∀ j,j<ops.size->listed[j]?=some (D j)
theorem Lst.getD {listed:Array Bool} {D:Nat->Bool} (h:Lst ops listed D) {j:Nat} (hj:j<ops.size) (d:Bool):listed.getD j d=D j:=by
 have:=h.2 j hj
 simp [Array.getD_eq_getD_getElem?,this]
theorem Lst.set {listed:Array Bool} {D:Nat->Bool} (h:Lst ops listed D) {i:Nat} (hi:i<ops.size):Lst ops (listed.setIfInBounds i true) (with1 D i):=by
 refine ⟨by simp [h.1],fun j hj=>?_⟩
 by_cases e:j=i
 ·subst e
  simp [Array.getElem?_setIfInBounds_self,h.1,hj,with1]
 ·rw [Array.getElem?_setIfInBounds_ne (Ne.symm e),h.2 j hj]
  simp [with1,e]
theorem waits_mem {o:Oper} {e:Nat}:e∈waitsOn o ↔ ∃ x∈o.after,Region.binds .any x=true/\x.on=e:=by
 unfold waitsOn
 simp only [List.mem_map,List.mem_filter,Array.mem_toList_iff]
 constructor
 ·rintro ⟨x,⟨h1,h2⟩,h3⟩; exact ⟨x,h1,h2,h3⟩
 ·rintro ⟨x,h1,h2,h3⟩; exact ⟨x,⟨h1,h2⟩,h3⟩
theorem Lst.ready {listed:Array Bool} {D:Nat->Bool} (h:Lst ops listed D) (hlt:∀ j o,ops[j]?=some o->∀ e∈waitsOn o,e<j) {i:Nat} :
  i∈Region.ready .any ops listed ↔ D i=false/\∃ o,ops[i]?=some o/\∀ e∈waitsOn o,D e=true:=by
 rw [mem_ready]
 constructor
 ·rintro ⟨h0,o,ho,hall⟩
  have hi:i<ops.size:=(Array.getElem?_eq_some_iff.1 ho).1
  refine ⟨by rw [h.getD hi] at h0; exact h0,o,ho,fun e he=>?_⟩
  obtain ⟨x,h1,h2,rfl⟩:=waits_mem.1 he
  have h3:=hall x h1 h2
  rw [h.getD (Nat.lt_trans (hlt i o ho _ he) hi)] at h3
  exact h3
 ·rintro ⟨h0,o,ho,hall⟩
  have hi:i<ops.size:=(Array.getElem?_eq_some_iff.1 ho).1
  refine ⟨by rw [h.getD hi]; exact h0,o,ho,fun x hx hb=>?_⟩
  have he:x.on∈waitsOn o:=waits_mem.2 ⟨x,hx,hb,rfl⟩
  rw [h.getD (Nat.lt_trans (hlt i o ho _ he) hi)]
  exact hall _ he
theorem Closed.with1 {D:Nat->Bool} (hc:Closed ops D) {i:Nat} {o:Oper} (ho:ops[i]?=some o) (hr:∀ e∈waitsOn o,D e=true):Closed ops (with1 D i):=by
 intro j o' hj ho' e he
 have:D e=true:=by
  by_cases e1:j=i
  ·subst e1; rw [ho] at ho'; cases ho'; exact hr e he
  ·have hD:D j=true:=by simpa [AM.with1,e1] using hj
   exact hc j o' hD ho' e he
 simp [AM.with1,this]
theorem tail_any {Q : Exit → Act → World → Prop} (hf : DrwFacts lv P ops m) : ∀ (fuel j : Nat) (listed : Array Bool) (st : St) (a : Act) (w : World) (θ : Th) (W : Im), fuel + j = ops.size → m ≤ j → Lst ops listed (below j) →
    runOps (ACall P) ((ops.toList.drop j).map (cOper lv P N ops)) K st → Rl lv N st a w θ W →
    (∀ st' a' w' θ' W', K st' → Rl lv N st' a' w' θ' W' → Stp θ W w θ' W' w' → Q .normal a' w') → wpAny P .any ops Q fuel listed a w := by
  intro fuel
  induction fuel with
  | zero =>
    intro j listed st a w θ W hfj hmj hl h hR hk
    have hd : ops.toList.drop j = [] := by simp; omega
    rw [hd] at h
    refine ⟨?_, hk _ _ _ _ _ h hR (Stp.refl _ _ _)⟩
    rw [List.eq_nil_iff_forall_not_mem]
    intro i hi
    obtain ⟨h0, o, ho, _⟩ := (hl.ready hf.lt).1 hi
    have hi : i < ops.size := (Array.getElem?_eq_some_iff.1 ho).1
    simp [below] at h0; omega
  | succ fuel ih =>
    intro j listed st a w θ W hfj hmj hl h hR hk
    have hj : j < ops.size := by omega
    have hoj : ops[j]? = some ops[j] := by simp [hj]
    have hjr : j ∈ Region.ready .any ops listed := (hl.ready hf.lt).2 ⟨by simp [below], _, hoj, fun e he => by simp [below]; exact hf.lt j _ hoj e he⟩
    refine ⟨fun hn => absurd (hn ▸ hjr) List.not_mem_nil, fun i hi => ?_⟩
    obtain ⟨h0, o, ho, hw⟩ := (hl.ready hf.lt).1 hi
    have hin : i < ops.size := (Array.getElem?_eq_some_iff.1 ho).1
    have hji : j ≤ i := by simpa [below] using h0
    have hcl : Closed ops (below j) := by
      intro k o' hk' ho' e he
      have := hf.lt k o' ho' e he
      simp [below] at hk' ⊢; omega
    have e : i = j := by
      rcases Nat.lt_or_ge j i with hlt | hge
      · have := waitsT_closed hf.lt hcl i j o ho hw (hf.tail i (by omega) hin j hlt)
        simp [below] at this
      · omega
    subst e
    rw [hoj] at ho
    cases ho
    have hd : ops.toList.drop i = ops[i] :: ops.toList.drop (i + 1) := by
      rw [List.drop_eq_getElem_cons (by simpa using hj)]
      simp
    rw [hd] at h
    have hl' : Lst ops (listed.setIfInBounds i true) (below (i + 1)) := by
      have := hl.set hin
      have e2 : with1 (below i) i = below (i + 1) := by
        funext k; simp only [with1, below]
        by_cases h1 : k < i
        · simp [h1, show k < i + 1 by omega]
        · by_cases h2 : k = i
          · simp [h2]
          · simp [h1, h2]; omega
      rw [e2] at this; exact this
    have key := oper_ok (Q := Q) (next := wpAny P .any ops Q fuel (listed.setIfInBounds i true)) ops[i] h hR (fun st' a' w' θ' W' hst' hR' hs' =>
      ih (i + 1) _ st' a' w' θ' W' (by omega) (by omega) hl' hst' hR' (fun st2 a2 w2 θ2 W2 h2 hR2 hs2 => hk st2 a2 w2 θ2 W2 h2 hR2 (hs'.trans hs2)))
    unfold wpOp
    rw [hoj]
    simp only []
    split
    · rename_i hw; rw [if_pos hw] at key; exact .inl key
    · rename_i hw; rw [if_neg hw] at key; exact key
def cnt (D:Nat->Bool) (n:Nat):Nat:=((List.range n).filter D).length
theorem cnt_le (D:Nat->Bool) (n:Nat):cnt D n<=n:=by
 unfold cnt
 have:=List.length_filter_le D (List.range n)
 simpa using this
theorem cnt_succ (D:Nat->Bool) (n:Nat):cnt D (n+1)=cnt D n+if D n then 1 else 0:=by
 unfold cnt
 rw [List.range_succ,List.filter_append,List.length_append]
 by_cases h:D n=true <;> simp [h]
theorem cnt_with (D : Nat → Bool) (i : Nat) (hD : D i = false) : ∀ n, cnt (with1 D i) n = cnt D n + if i < n then 1 else 0
  | 0 => by simp [cnt]
  | n + 1 => by
    rw [cnt_succ, cnt_succ, cnt_with D i hD n]
    by_cases e : n = i
    · subst e; simp [with1, hD]
    · have : with1 D i n = D n := by simp [with1, e]
      rw [this]
      by_cases h1 : i < n
      · simp [h1, show i < n + 1 by omega]; omega
      · simp [h1, show ¬ i < n + 1 by omega]
theorem cnt_lt (D : Nat → Bool) {i : Nat} (hD : D i = false) : ∀ n, i < n → cnt D n < n
  | 0, h => by omega
  | n + 1, h => by
    rw [cnt_succ]
    by_cases e : n = i
    · subst e; have := cnt_le D n; simp [hD]; omega
    · have := cnt_lt D hD n (by omega)
      split <;> omega
theorem cnt_below (j : Nat) : ∀ n, j ≤ n → cnt (below j) n = j
  | 0, h => by simp [cnt]; omega
  | n + 1, h => by
    rw [cnt_succ]
    by_cases e : j = n + 1
    · have := cnt_le (below j) n
      have h2 : ∀ k, k ≤ j → cnt (below j) k = k := by
        intro k
        induction k with
        | zero => intro _; rfl
        | succ k ihk => intro hk; rw [cnt_succ, ihk (by omega)]; simp [below]; omega
      rw [← cnt_succ, ← e]; exact h2 j (Nat.le_refl _)
    · rw [cnt_below j n (by omega)]
      have : ¬ n < j := by omega
      simp [below, this]
theorem least (D : Nat → Bool) : ∀ n, (∃ i, i < n ∧ D i = false) → ∃ i, i < n ∧ D i = false ∧ ∀ k, k < i → D k = true
  | 0, ⟨i, h, _⟩ => by omega
  | n + 1, ⟨i, h, hD⟩ => by
    by_cases e : ∃ i, i < n ∧ D i = false
    · obtain ⟨k, h1, h2, h3⟩ := least D n e
      exact ⟨k, by omega, h2, h3⟩
    · refine ⟨i, h, hD, fun k hk => ?_⟩
      cases hk' : D k with
      | true => rfl
      | false => exact (e ⟨k, by omega, hk'⟩).elim
theorem pre_any {Q : Exit → Act → World → Prop} {Hm : List AO} {pre : List MI} (hf : DrwFacts lv P ops m) (hHm : Hext Hm s0.H) (hp : PreOk lv P N ops m outs Hm s0 pre)
    (hK : endK (runOps (ACall P) ((ops.toList.drop m).map (cOper lv P N ops)) K) (sts pre outs (s0.H, ⟨s0.L, s0.T, []⟩) m).1 (sts pre outs (s0.H, ⟨s0.L, s0.T, []⟩) m).2) :
    ∀ (fuel : Nat) (D : Nat → Bool) (listed : Array Bool) (a : Act) (w : World) (θ : Th) (W : Im), fuel + cnt D ops.size = ops.size → (∀ i, m ≤ i → D i = false) → Closed ops D → UpdOk outs D → Lst ops listed D → Rl lv N (SD ops m outs s0 D) a w θ W →
    (∀ st' a' w' θ' W', K st' → Rl lv N st' a' w' θ' W' → Stp θ W w θ' W' w' → Q .normal a' w') → wpAny P .any ops Q fuel listed a w := by
  have hu := hf.uniq
  have hdst : ∀ k, k < m → ∃ o, pre[k]? = some o ∧ o.dst = cDst lv (dstOf ops k) := by
    intro k hk'
    have hks : k < ops.size := Nat.lt_of_lt_of_le hk' hf.le
    obtain ⟨m2, g2, _, _, _, hp2, _⟩ := hp k ops[k] hk' (by simp [hks])
    exact ⟨_, hp2, by simp [dstOf, hks]⟩
  intro fuel
  induction fuel with
  | zero =>
    intro D listed a w θ W hfu hD hc hU hl hR hk
    have hall : ∀ i, i < ops.size → D i = true := by
      intro i hi
      cases e : D i with
      | true => rfl
      | false => have := cnt_lt D e ops.size hi; omega
    have hDm : D = below m := by
      funext i
      by_cases h1 : i < m
      · rw [hall i (Nat.lt_of_lt_of_le h1 hf.le)]; simp [below, h1]
      · rw [hD i (by omega)]; simp [below, h1]
    subst hDm
    have hms : m = ops.size := by
      have := cnt_below m ops.size hf.le; omega
    obtain ⟨hcH, hcL, hcN, hcG⟩ := canon (lv := lv) (outs := outs) (s0 := s0) pre hu hdst (hp.len hf.le) m (Nat.le_refl _)
    refine tail_any hf 0 m listed _ a w θ W (by omega) (Nat.le_refl _) hl hK (hR.congr (fun t => ?_) ?_) hk
    · rw [SD_get hu, get_H _ _ _ (sts pre outs (s0.H, ⟨s0.L, s0.T, []⟩) m).2.H]
      exact (hcG t).symm
    · show hcD outs s0.H (below m) m ++ slots m outs (below m) = (sts pre outs (s0.H, ⟨s0.L, s0.T, []⟩) m).1 ++ (sts pre outs (s0.H, ⟨s0.L, s0.T, []⟩) m).2.H
      rw [hcH, hcN]
      congr 1
      · exact hcD_congr (fun j hj _ => by simp [below, hj])
      · exact nD_congr (fun j hj => by simp [below, hj])
  | succ fuel ih =>
    intro D listed a w θ W hfu hD hc hU hl hR hk
    by_cases hall : ∀ i, i < m → D i = true
    · have hDm : D = below m := by
        funext i
        by_cases h1 : i < m
        · rw [hall i h1]; simp [below, h1]
        · rw [hD i (by omega)]; simp [below, h1]
      subst hDm
      have hcm := cnt_below m ops.size hf.le
      obtain ⟨hcH, hcL, hcN, hcG⟩ := canon (lv := lv) (outs := outs) (s0 := s0) pre hu hdst (hp.len hf.le) m (Nat.le_refl _)
      refine tail_any hf (fuel + 1) m listed _ a w θ W (by omega) (Nat.le_refl _) hl hK (hR.congr (fun t => ?_) ?_) hk
      · rw [SD_get hu, get_H _ _ _ (sts pre outs (s0.H, ⟨s0.L, s0.T, []⟩) m).2.H]
        exact (hcG t).symm
      · show hcD outs s0.H (below m) m ++ slots m outs (below m) = (sts pre outs (s0.H, ⟨s0.L, s0.T, []⟩) m).1 ++ (sts pre outs (s0.H, ⟨s0.L, s0.T, []⟩) m).2.H
        rw [hcH, hcN]
        congr 1
        · exact hcD_congr (fun j hj _ => by simp [below, hj])
        · exact nD_congr (fun j hj => by simp [below, hj])
    · have hex : ∃ i, i < m ∧ D i = false := by
        false_or_by_contra
        rename_i hne
        refine hall fun i hi => ?_
        cases e : D i with
        | true => rfl
        | false => exact (hne ⟨i, hi, e⟩).elim
      obtain ⟨i0, hi0, hD0, hmin⟩ := least D m hex
      have hi0s : i0 < ops.size := Nat.lt_of_lt_of_le hi0 hf.le
      have ho0 : ops[i0]? = some ops[i0] := by simp [hi0s]
      have hr0 : i0 ∈ Region.ready .any ops listed := (hl.ready hf.lt).2 ⟨hD0, _, ho0, fun e he => hmin e (hf.lt i0 _ ho0 e he)⟩
      refine ⟨fun hn => absurd (hn ▸ hr0) List.not_mem_nil, fun i hi => ?_⟩
      obtain ⟨hDi, o, ho, hw⟩ := (hl.ready hf.lt).1 hi
      have hin : i < ops.size := (Array.getElem?_eq_some_iff.1 ho).1
      have him : i < m := by
        rcases Nat.lt_or_ge i m with h1 | h1
        · exact h1
        · have := waitsT_closed hf.lt hc i i0 o ho hw (hf.tail i h1 hin i0 (by omega))
          rw [hD0] at this; cases this
      have key := draw_step (Q := Q) (next := wpAny P .any ops Q fuel (listed.setIfInBounds i true)) hf hHm hp hc him ho hDi hU hw hR (fun a' w' θ' W' hR' hU' hs' =>
        ih (with1 D i) _ a' w' θ' W' (by rw [cnt_with D i hDi, if_pos hin]; omega) (fun k hk' => by simp only [with1, hD k hk', Bool.false_or, decide_eq_false_iff_not]; omega) (hc.with1 ho hw) hU' (hl.set hin) hR'
          (fun st2 a2 w2 θ2 W2 h2 hR2 hs2 => hk st2 a2 w2 θ2 W2 h2 hR2 (hs'.trans hs2)))
      unfold wpOp
      rw [ho]
      simp only []
      split
      · rename_i hw; rw [if_pos hw] at key; exact .inl key
      · rename_i hw; rw [if_neg hw] at key; exact key
theorem nD_false (outs : Nat → Out) : ∀ n, nD outs (fun _ => false) n = List.replicate (rankNew outs n) .rsv
  | 0 => rfl
  | n + 1 => by
    have ih := nD_false outs n
    rw [rankNew_succ]
    unfold nD
    cases ho : outs n with
    | new ob mk => simp [isNew, ho, ih, List.replicate_succ']
    | upd k v ob => simp [isNew, ho, ih]
    | _ => simp [isNew, ho, ih]
theorem SR.drawn {H:List AO} {w:World} (h:SR θ W H w) (k:Nat):SR θ W H { w with drawn:=k }:=⟨h.imm,h.obj,h.out,h.own,h.inj⟩
theorem drw_ok {Q:Exit->Act->World->Prop} (hm:P.follows .mixedOrders=true) (id:Nat) {a:Act} {w:World} {st:St}
  (hd:drwOk (closOf ops) ops m (chains lv P ops m)=true) (h:drwK (ACall P) ((ops.toList.take m).map fun o=>unlen ops (cOper lv P N ops o)) (runOps (ACall P) ((ops.toList.drop m).map (cOper lv P N ops)) K) st)
  (hR:Rl lv N st a w θ W) (hk:∀ st' a' w' θ' W',K st'->Rl lv N st' a' w' θ' W'->Stp θ W w θ' W' w'->Q .normal a' w') :
  (Code.region id ops true).wp P Q a w:=by
 have hf:=drwOk_facts hd
 obtain ⟨Hm,hHm,h⟩:=h
 obtain ⟨outs,hg,hK⟩:=trace _ (st.H,⟨st.L,st.T,[]⟩) h
 have hp:PreOk lv P N ops m outs Hm st ((ops.toList.take m).map fun o=>unlen ops (cOper lv P N ops o)):=preOk_of rfl hg
 have hlen:((ops.toList.take m).map fun o=>unlen ops (cOper lv P N ops o)).length=m:=by
  have:=hf.le
  simp; omega
 rw [hlen] at hK
 apply wp_region_any hm
 have hSR:=(hR.mem.reserve (rankNew outs m)).drawn (w.drawn+1)
 have hR':Rl lv N (SD ops m outs st (fun _=>false)) a { w with drawn:=w.drawn+1 } θ W:=by
  have h1:Rl lv N ⟨st.L,st.T,st.H++List.replicate (rankNew outs m) .rsv⟩ a { w with drawn:=w.drawn+1 } θ W:=⟨hR.defers,hR.size,hR.loc,hR.tmp,hSR⟩
  refine h1.congr (fun t=>?_) ?_
  ·rw [SD_get hf.uniq,get_H _ _ _ st.H]
   unfold eD
   split <;> rfl
  ·show _=hcD outs st.H (fun _=>false) m++slots m outs (fun _=>false)
   have e0:hcD outs st.H (fun _=>false) m=st.H:=hcD_cut (i:=0) (Nat.zero_le _) (fun _ _ _ _=>rfl)
   rw [e0]
   show st.H++List.replicate (rankNew outs m) .rsv=st.H++nD outs (fun _=>false) m
   rw [nD_false]
 refine pre_any hf hHm hp hK ops.size (fun _=>false) _ a _ θ W (by simp [cnt]) (fun _ _=>rfl) (fun j o hj=>by cases hj) (fun j k v ob _ hj=>by cases hj) ⟨by simp,fun j hj=>by simp [hj]⟩ hR' (fun st' a' w' θ' W' h1 h2 h3=>hk st' a' w' θ' W' h1 h2 ?_)
 exact ⟨h3.os,h3.tape,h3.output,h3.size,h3.keep,h3.imm,h3.old,h3.th,h3.fresh⟩
end Go.AM
