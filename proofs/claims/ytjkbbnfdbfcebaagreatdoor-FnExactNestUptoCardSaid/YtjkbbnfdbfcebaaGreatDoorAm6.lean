/- How the states of the abstract machine stand for the model's frames; what carries over at one operation. -/
import Derived.Test.YtjkbbnfdbfcebaaGreatDoorAm5
set_option linter.all false
namespace Go.AM
structure Rl (lv:List Nat) (N:Nat) (st:St) (a:Act) (w:World) (θ:Th) (W:Im):Prop where
 defers:a.defers=[]
 size:a.tmps.size=N
 loc:∀t,lu lv t=true->bc θ W (dZ st.L t) (a.tmps.getD t undef)
 tmp:∀t,lu lv t=false->bc θ W (dZ st.T t) (a.tmps.getD t undef)
 mem:SR θ W st.H w
theorem BB (L:En) (d:Nat) (v:AV) (t:Nat):dZ (qO L d v) t=if d=t then v else dZ L t:=by
  induction L with
  |nil=>simp[qO,dZ]
  |cons kv L ih=>
   obtain⟨k,u⟩:=kv;simp only[qO];by_cases hk:k=d
   · subst hk
     simp only[if_true,dZ];split <;>rfl
   · simp only[hk,if_false,dZ,ih]
     by_cases hkt:k=t
     · subst hkt
       simp[show ¬d=k from fun e=>hk e.symm]
     · simp[hkt]
theorem uO (a:Array Value) (d t:Nat) (v:Value) (hd:d<a.size):(a.setIfInBounds d v).getD t undef=if d=t then v else a.getD t undef:=by
 by_cases h:d=t
 ·subst h;simp[Array.getD,hd]
 ·simp only[h,if_false]
  by_cases ht:t<a.size
  ·simp[Array.getD,ht,Array.getElem_setIfInBounds_ne,h]
  ·simp[Array.getD,ht]
theorem Rl.put {lv:List Nat} {N:Nat} {st:St} {a:Act} {w w':World} {θ bd:Th} {W W':Im} {H':List AO} (h:Rl lv N st a w θ W)
    {d:Option Nat} (hd:d.all (decide <| · <N)=true) {r:AV} {v:Value} (hr:bc bd W' r v) (hm:SR bd W' H' w') (hs:eU θ W w bd W' w'):
    Rl lv N (St.put ⟨st.L,st.T,H'⟩ (cB lv d) r) (a.put d v) w' bd W':=by
  cases d with
  |none =>exact⟨h.defers,h.size,fun t ht=>(h.loc t ht).step hs,fun t ht=>(h.tmp t ht).step hs,hm⟩
  |some d=>
   have kz:d<a.tmps.size:=by rw[h.size];simpa using hd
   unfold cB;by_cases hl:lu lv d=true
   · simp only[hl,if_true,St.put,Act.put]
     refine⟨h.defers,by simpa using h.size, ?_, ?_,hm⟩
     · intro t ht
       rw[BB,uO _ _ _ _ kz];split
       · exact hr
       · exact(h.loc t ht).step hs
     · intro t ht
       rw[uO _ _ _ _ kz,if_neg (fun e=>by subst e;rw[hl]at ht;cases ht)];exact(h.tmp t ht).step hs
   · simp only[hl,Bool.false_eq_true,if_false,St.put,Act.put]
     refine⟨h.defers,by simpa using h.size, ?_, ?_,hm⟩
     · intro t ht
       rw[uO _ _ _ _ kz,if_neg (fun e=>by subst e;exact hl ht)];exact(h.loc t ht).step hs
     · intro t ht
       rw[wb,uO _ _ _ _ kz];split
       · exact hr
       · exact(h.tmp t ht).step hs
theorem Ak {v:Value} {x:AV} (h:p3 v=some x) (θ:Th) (W:Im):bc θ W x v:=by
 unfold p3 at h;split at h
 all_goals first
  |(cases h;exact .p _ _ (.b _))
  |(cases h;exact .p _ _ (.i _ _))
  |(cases h;exact .p _ _ .np)
  |(cases h;exact .p _ _ .nl)
  |(cases h;exact .p _ _ .nf)
  |(cases h;exact .p _ _ .nm)
  |(cases h;exact .p _ _ .ni)
  |(cases h;done)
  |skip
 ·rename_i s
  split at h
  ·cases h
   have:(Value.string s)=.string ⟨s.data.toList.toArray⟩:=by simp
   rw[this];exact .p _ _ (.s _ (by rename_i hl;rw[Array.length_toList];exact hl))
  ·cases h
theorem GM {v:Value} {x:AV} (h:p3 v=some x):v.oneCell'=true:=by
 unfold p3 at h;split at h<;>first|rfl|(cases h;done)
theorem fe {vs:List Value} {xs:List AV} (h:oS vs=some xs) (θ:Th) (W:Im):
    vs.length=xs.length∧(∀(j:Nat) (c:AV) (v:Value),xs[j]?=some c→vs[j]?=some v→bc θ W c v)∧∀(j:Nat) (v:Value),vs[j]?=some v→v.oneCell'=true :=by
  induction vs generalizing xs with
  |nil=>cases h;exact⟨rfl,fun j c v hj=>by simp at hj,fun j v hj=>by simp at hj⟩
  |cons v vs ih=>
   simp only[oS]at h;split at h
   · rename_i x l hx hl
     cases h;obtain⟨h1,h2,h3⟩:=ih hl;refine⟨by simp[h1], ?_, ?_⟩
     · intro j c u hj hv
       cases j with
       |zero=>simp at hj hv;subst hj;subst hv;exact Ak hx θ W
       |succ j=>simp at hj hv;exact h2 j c u hj hv
     · intro j u hv
       cases j with
       |zero=>simp at hv;subst hv;exact GM hx
       |succ j=>simp at hv;exact h3 j u hv
   · cases h
theorem IU {v:Value} {x:AV} (h:yN v=some x) (θ:Th) (W:Im):bc θ W x v:=by
  unfold yN at h;split at h
  · rename_i cs
    cases hc:oS cs.toList with
    |none =>rw[hc]at h;cases h
    |some xs=>
     rw[hc]at h;cases h;obtain⟨h1,h2,h3⟩:=fe hc θ W;exact .st xs cs (by simpa using h1) (fun j c v hj hv=>h2 j c v hj (by simpa using hv)) (fun j v hv=>h3 j v (by simpa using hv))
  · exact Ak h θ W
theorem Rl.rI {lv:List Nat} {N:Nat} {st:St} {a:Act} {w:World} {θ:Th} {W:Im} (h:Rl lv N st a w θ W) (t:Nat):bc θ W (st.get (fO lv t)) (a.eval (.tmp t)):=by
 unfold fO
 cases hl:lu lv t with
 |true=>exact h.loc t hl
 |false=>exact h.tmp t hl
theorem Rl.arg {lv:List Nat} {N:Nat} {st:St} {a:Act} {w:World} {θ:Th} {W:Im} (h:Rl lv N st a w θ W) {x:Operand} {m:MA} (hx:bQ lv x=some m):
    bc θ W (st.get m) (a.eval x):=by
  cases x with
  |tmp t=>cases hx;exact h.rI t
  |const v=>
   simp only[bQ]at hx
   cases hv:yN v with
   |none =>rw[hv]at hx;cases hx
   |some y=>rw[hv]at hx;cases hx;exact IU hv θ W
  |global g=>cases hx
  |func f=>
   cases hx;exact .fI f [] #[] rfl (fun j c v hj=>by simp at hj)
theorem Rl.args {lv:List Nat} {N:Nat} {st:St} {a:Act} {w:World} {θ:Th} {W:Im} (h:Rl lv N st a w θ W) {xs:List Operand} {ms:List MA} (hx:jU lv xs=some ms):
    tq θ W (fw st ms) ((xs.map a.eval).toArray):=by
  induction xs generalizing ms with
  |nil=>cases hx;exact⟨rfl,fun j c v hj=>by simp[fw]at hj⟩
  |cons x xs ih=>
   simp only[jU]at hx;split at hx
   · rename_i y l hy hl
     cases hx;obtain⟨h1,h2⟩:=ih hl;refine⟨by simpa[fw]using h1, ?_⟩;intro j c v hj hv
     cases j with
     |zero=>simp[fw]at hj hv;subst hj;subst hv;exact h.arg hy
     |succ j=>simp only[fw,List.getElem?_cons_succ]at hj;simp at hv;exact h2 j c v hj (by simpa using hv)
   · cases hx
def fx (lv:List Nat) (P:Program) (N:Nat) (o:Oper) (st:St) (K:St->Prop):Prop :=
 ∀(a:Act) (w:World) (θ:Th) (W:Im) (next:Act->World->Prop) (Q:Exit->Act->World->Prop),Rl lv N st a w θ W->
  (∀dG a' w' bd W',K dG->Rl lv N dG a' w' bd W'->eU θ W w bd W' w'->next a' w')->o.wp P a w next Q
section
variable {lv:List Nat} {P:Program} {N:Nat} {o:Oper} {st:St} {K:St->Prop} {a:Act} {w w':World} {θ bd:Th} {W W':Im}
 {next:Act->World->Prop} {Q:Exit->Act->World->Prop} {H':List AO}
theorem gL (h:Rl lv N st a w θ W) (hd:o.dst.all (decide <| ·<N)=true)
  (hk:∀dG a' w' bd W',K dG->Rl lv N dG a' w' bd W'->eU θ W w bd W' w'->next a' w')
  {v:Value} {r:AV} (dz:(execOp a.eval o).run P w=.ok (.value v) w') (hr:bc bd W' r v) (hm:SR bd W' H' w') (hs:eU θ W w bd W' w')
  (hK:K (St.put ⟨st.L,st.T,H'⟩ (cB lv o.dst) r)):o.wp P a w next Q:=by
 unfold Oper.wp;rw[dz];exact hk _ _ _ _ _ hK (h.put hd hr hm hs) hs
theorem bA (h:Rl lv N st a w θ W) (hd:o.dst.all (decide <| ·<N)=true)
  (hk:∀dG a' w' bd W',K dG->Rl lv N dG a' w' bd W'->eU θ W w bd W' w'->next a' w')
  {v:Value} {r:AV} (dz:(execOp a.eval o).run P w=.ok (.value v) w) (hr:bc θ W r v)
  (hK:K (st.put (cB lv o.dst) r)):o.wp P a w next Q:=
 gL h hd hk dz hr h.mem (eU.refl θ W w) hK
theorem DR (h:Rl lv N st a w θ W) (hd:o.dst.all (decide <| ·<N)=true)
  (hk:∀dG a' w' bd W',K dG->Rl lv N dG a' w' bd W'->eU θ W w bd W' w'->next a' w')
  (dz:(execOp a.eval o).run P w=.ok .skip w') (hm:SR bd W' H' w') (hs:eU θ W w bd W' w')
  (hK:K (St.put ⟨st.L,st.T,H'⟩ (cB lv o.dst) .any)):o.wp P a w next Q:=by
 unfold Oper.wp;rw[dz];exact hk _ _ _ _ _ hK (h.put hd (.any _) hm hs) hs
theorem dw {x:Option AV} {d:MD} (h:bK x d K st):∃v,x=some v/\K (st.put d v):=by
 cases x with
 |none=>exact h.elim
 |some v=>exact⟨v,rfl,h⟩
end
end Go.AM
