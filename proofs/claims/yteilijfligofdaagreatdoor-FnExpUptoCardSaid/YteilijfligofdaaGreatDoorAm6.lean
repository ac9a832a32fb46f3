/- How the states of the abstract machine stand for the model's frames; what carries over at one operation. -/
import Derived.Test.YteilijfligofdaaGreatDoorAm5
set_option linter.all false
namespace Go.AM
structure Rl (lv:List Nat) (N:Nat) (st:St) (a:Act) (w:World) (θ:Th) (W:Im):Prop where
 defers:a.defers=[]
 size:a.tmps.size=N
 loc:∀ t,lmem lv t=true->ARel θ W (eget st.L t) (a.tmps.getD t undef)
 tmp:∀ t,lmem lv t=false->ARel θ W (eget st.T t) (a.tmps.getD t undef)
 mem:SR θ W st.H w
theorem eget_eset (L : En) (d : Nat) (v : AV) (t : Nat) : eget (eset L d v) t = if d = t then v else eget L t := by
  induction L with
  | nil => simp [eset, eget]
  | cons kv L ih =>
    obtain ⟨k, u⟩ := kv
    simp only [eset]
    by_cases hk : k = d
    · subst hk
      simp only [if_true, eget]
      split <;> rfl
    · simp only [hk, if_false, eget, ih]
      by_cases hkt : k = t
      · subst hkt
        simp [show ¬ d = k from fun e => hk e.symm]
      · simp [hkt]
theorem getD_set (a:Array Value) (d t:Nat) (v:Value) (hd:d<a.size):(a.setIfInBounds d v).getD t undef=if d=t then v else a.getD t undef:=by
 by_cases h:d=t
 ·subst h; simp [Array.getD,hd]
 ·simp only [h,if_false]
  by_cases ht:t<a.size
  ·simp [Array.getD,ht,Array.getElem_setIfInBounds_ne,h]
  ·simp [Array.getD,ht]
theorem Rl.put {lv : List Nat} {N : Nat} {st : St} {a : Act} {w w' : World} {θ θ' : Th} {W W' : Im} {H' : List AO} (h : Rl lv N st a w θ W)
    {d : Option Nat} (hd : d.all (decide <| · < N) = true) {r : AV} {v : Value} (hr : ARel θ' W' r v) (hm : SR θ' W' H' w') (hs : Stp θ W w θ' W' w') :
    Rl lv N (St.put ⟨st.L, st.T, H'⟩ (cDst lv d) r) (a.put d v) w' θ' W' := by
  cases d with
  | none => exact ⟨h.defers, h.size, fun t ht => (h.loc t ht).step hs, fun t ht => (h.tmp t ht).step hs, hm⟩
  | some d =>
    have hd' : d < a.tmps.size := by rw [h.size]; simpa using hd
    unfold cDst
    by_cases hl : lmem lv d = true
    · simp only [hl, if_true, St.put, Act.put]
      refine ⟨h.defers, by simpa using h.size, ?_, ?_, hm⟩
      · intro t ht
        rw [eget_eset, getD_set _ _ _ _ hd']
        split
        · exact hr
        · exact (h.loc t ht).step hs
      · intro t ht
        rw [getD_set _ _ _ _ hd', if_neg (fun e => by subst e; rw [hl] at ht; cases ht)]
        exact (h.tmp t ht).step hs
    · simp only [hl, Bool.false_eq_true, if_false, St.put, Act.put]
      refine ⟨h.defers, by simpa using h.size, ?_, ?_, hm⟩
      · intro t ht
        rw [getD_set _ _ _ _ hd', if_neg (fun e => by subst e; exact hl ht)]
        exact (h.loc t ht).step hs
      · intro t ht
        rw [eget_cons, getD_set _ _ _ _ hd']
        split
        · exact hr
        · exact (h.tmp t ht).step hs
theorem ofVal1_rel {v:Value} {x:AV} (h:ofVal1 v=some x) (θ:Th) (W:Im):ARel θ W x v:=by
 unfold ofVal1 at h
 split at h
 all_goals first
  | (cases h; exact .p _ _ (.b _))
  | (cases h; exact .p _ _ (.i _ _))
  | (cases h; exact .p _ _ .np)
  | (cases h; exact .p _ _ .nl)
  | (cases h; exact .p _ _ .nf)
  | (cases h; exact .p _ _ .nm)
  | (cases h; exact .p _ _ .ni)
  | (cases h; done)
  | skip
 ·rename_i s
  split at h
  ·cases h
   have:(Value.string s)=.string ⟨s.data.toList.toArray⟩:=by simp
   rw [this]
   exact .p _ _ (.s _ (by rename_i hl; rw [Array.length_toList]; exact hl))
  ·cases h
theorem ofVal1_one {v:Value} {x:AV} (h:ofVal1 v=some x):v.oneCell'=true:=by
 unfold ofVal1 at h
 split at h <;> first | rfl | (cases h; done)
theorem ofVals1_rel {vs : List Value} {xs : List AV} (h : ofVals1 vs = some xs) (θ : Th) (W : Im) :
    vs.length = xs.length ∧ (∀ (j : Nat) (c : AV) (v : Value), xs[j]? = some c → vs[j]? = some v → ARel θ W c v) ∧ ∀ (j : Nat) (v : Value), vs[j]? = some v → v.oneCell' = true := by
  induction vs generalizing xs with
  | nil => cases h; exact ⟨rfl, fun j c v hj => by simp at hj, fun j v hj => by simp at hj⟩
  | cons v vs ih =>
    simp only [ofVals1] at h
    split at h
    · rename_i x l hx hl
      cases h
      obtain ⟨h1, h2, h3⟩ := ih hl
      refine ⟨by simp [h1], ?_, ?_⟩
      · intro j c u hj hv
        cases j with
        | zero => simp at hj hv; subst hj; subst hv; exact ofVal1_rel hx θ W
        | succ j => simp at hj hv; exact h2 j c u hj hv
      · intro j u hv
        cases j with
        | zero => simp at hv; subst hv; exact ofVal1_one hx
        | succ j => simp at hv; exact h3 j u hv
    · cases h
theorem ofVal_rel {v : Value} {x : AV} (h : ofVal v = some x) (θ : Th) (W : Im) : ARel θ W x v := by
  unfold ofVal at h
  split at h
  · rename_i cs
    cases hc : ofVals1 cs.toList with
    | none => rw [hc] at h; cases h
    | some xs =>
      rw [hc] at h
      cases h
      obtain ⟨h1, h2, h3⟩ := ofVals1_rel hc θ W
      exact .st xs cs (by simpa using h1) (fun j c v hj hv => h2 j c v hj (by simpa using hv)) (fun j v hv => h3 j v (by simpa using hv))
  · exact ofVal1_rel h θ W
theorem Rl.tmpArg {lv:List Nat} {N:Nat} {st:St} {a:Act} {w:World} {θ:Th} {W:Im} (h:Rl lv N st a w θ W) (t:Nat):ARel θ W (st.get (cTmp lv t)) (a.eval (.tmp t)):=by
 unfold cTmp
 cases hl:lmem lv t with
 | true=>exact h.loc t hl
 | false=>exact h.tmp t hl
theorem Rl.arg {lv : List Nat} {N : Nat} {st : St} {a : Act} {w : World} {θ : Th} {W : Im} (h : Rl lv N st a w θ W) {x : Operand} {m : MA} (hx : cArg lv x = some m) :
    ARel θ W (st.get m) (a.eval x) := by
  cases x with
  | tmp t => cases hx; exact h.tmpArg t
  | const v =>
    simp only [cArg] at hx
    cases hv : ofVal v with
    | none => rw [hv] at hx; cases hx
    | some y => rw [hv] at hx; cases hx; exact ofVal_rel hv θ W
  | global g => cases hx
  | func f =>
    cases hx
    exact .clo f [] #[] rfl (fun j c v hj => by simp at hj)
theorem Rl.args {lv : List Nat} {N : Nat} {st : St} {a : Act} {w : World} {θ : Th} {W : Im} (h : Rl lv N st a w θ W) {xs : List Operand} {ms : List MA} (hx : cArgs lv xs = some ms) :
    Rels θ W (gets st ms) ((xs.map a.eval).toArray) := by
  induction xs generalizing ms with
  | nil => cases hx; exact ⟨rfl, fun j c v hj => by simp [gets] at hj⟩
  | cons x xs ih =>
    simp only [cArgs] at hx
    split at hx
    · rename_i y l hy hl
      cases hx
      obtain ⟨h1, h2⟩ := ih hl
      refine ⟨by simpa [gets] using h1, ?_⟩
      intro j c v hj hv
      cases j with
      | zero => simp [gets] at hj hv; subst hj; subst hv; exact h.arg hy
      | succ j => simp only [gets, List.getElem?_cons_succ] at hj; simp at hv; exact h2 j c v hj (by simpa using hv)
    · cases hx
def OpOk (lv:List Nat) (P:Program) (N:Nat) (o:Oper) (st:St) (K:St->Prop):Prop :=
 ∀ (a:Act) (w:World) (θ:Th) (W:Im) (next:Act->World->Prop) (Q:Exit->Act->World->Prop),Rl lv N st a w θ W ->
  (∀ st' a' w' θ' W',K st'->Rl lv N st' a' w' θ' W'->Stp θ W w θ' W' w'->next a' w')->o.wp P a w next Q
section
variable {lv:List Nat} {P:Program} {N:Nat} {o:Oper} {st:St} {K:St->Prop} {a:Act} {w w':World} {θ θ':Th} {W W':Im}
 {next:Act->World->Prop} {Q:Exit->Act->World->Prop} {H':List AO}
theorem end_value (h:Rl lv N st a w θ W) (hd:o.dst.all (decide <| ·<N)=true)
  (hk:∀ st' a' w' θ' W',K st'->Rl lv N st' a' w' θ' W'->Stp θ W w θ' W' w'->next a' w')
  {v:Value} {r:AV} (hrun:(execOp a.eval o).run P w=.ok (.value v) w') (hr:ARel θ' W' r v) (hm:SR θ' W' H' w') (hs:Stp θ W w θ' W' w')
  (hK:K (St.put ⟨st.L,st.T,H'⟩ (cDst lv o.dst) r)):o.wp P a w next Q:=by
 unfold Oper.wp
 rw [hrun]
 exact hk _ _ _ _ _ hK (h.put hd hr hm hs) hs
theorem end_same (h:Rl lv N st a w θ W) (hd:o.dst.all (decide <| ·<N)=true)
  (hk:∀ st' a' w' θ' W',K st'->Rl lv N st' a' w' θ' W'->Stp θ W w θ' W' w'->next a' w')
  {v:Value} {r:AV} (hrun:(execOp a.eval o).run P w=.ok (.value v) w) (hr:ARel θ W r v)
  (hK:K (st.put (cDst lv o.dst) r)):o.wp P a w next Q :=
 end_value h hd hk hrun hr h.mem (Stp.refl θ W w) hK
theorem end_skip (h:Rl lv N st a w θ W) (hd:o.dst.all (decide <| ·<N)=true)
  (hk:∀ st' a' w' θ' W',K st'->Rl lv N st' a' w' θ' W'->Stp θ W w θ' W' w'->next a' w')
  (hrun:(execOp a.eval o).run P w=.ok .skip w') (hm:SR θ' W' H' w') (hs:Stp θ W w θ' W' w')
  (hK:K (St.put ⟨st.L,st.T,H'⟩ (cDst lv o.dst) .any)):o.wp P a w next Q:=by
 unfold Oper.wp
 rw [hrun]
 exact hk _ _ _ _ _ hK (h.put hd (.any _) hm hs) hs
theorem withV_inv {x:Option AV} {d:MD} (h:withV x d K st):∃ v,x=some v/\K (st.put d v):=by
 cases x with
 | none=>exact h.elim
 | some v=>exact ⟨v,rfl,h⟩
end
end Go.AM
