/- How the states of the abstract machine stand for the model's frames; what carries over at one operation. -/
import Derived.Test.YteilijfligofdaaGreatDoorAm5
set_option linter.all false
namespace Go.AM
structure Rl (lv:List Nat) (N:Nat) (st:St) (a:Act) (w:World) (θ:Th) (W:Im):Prop where
 defers:a.defers=[]
 size:a.tmps.size=N
 loc:∀t,mB lv t=true->bb θ W (dQ st.L t) (a.tmps.getD t undef)
 tmp:∀t,mB lv t=false->bb θ W (dQ st.T t) (a.tmps.getD t undef)
 mem:SR θ W st.H w
theorem BP (L:En) (d:Nat) (v:AV) (t:Nat):dQ (v8 L d v) t=if d=t then v else dQ L t:=by
  induction L with
  |nil=>simp[v8,dQ]
  |cons kv L ih=>
   obtain⟨k,u⟩:=kv;simp only[v8];by_cases hk:k=d
   · subst hk
     simp only[if_true,dQ];split <;>rfl
   · simp only[hk,if_false,dQ,ih]
     by_cases hkt:k=t
     · subst hkt
       simp[show ¬d=k from fun e=>hk e.symm]
     · simp[hkt]
theorem vj (a:Array Value) (d t:Nat) (v:Value) (hd:d<a.size):(a.setIfInBounds d v).getD t undef=if d=t then v else a.getD t undef:=by
 by_cases h:d=t
 ·subst h;simp[Array.getD,hd]
 ·simp only[h,if_false]
  by_cases ht:t<a.size
  ·simp[Array.getD,ht,Array.getElem_setIfInBounds_ne,h]
  ·simp[Array.getD,ht]
theorem Rl.put {lv:List Nat} {N:Nat} {st:St} {a:Act} {w w':World} {θ aX:Th} {W W':Im} {H':List AO} (h:Rl lv N st a w θ W)
    {d:Option Nat} (hd:d.all (decide <| · <N)=true) {r:AV} {v:Value} (hr:bb aX W' r v) (hm:SR aX W' H' w') (hs:eW θ W w aX W' w'):
    Rl lv N (St.put ⟨st.L,st.T,H'⟩ (cm lv d) r) (a.put d v) w' aX W':=by
  cases d with
  |none =>exact⟨h.defers,h.size,fun t ht=>(h.loc t ht).step hs,fun t ht=>(h.tmp t ht).step hs,hm⟩
  |some d=>
   have kz:d<a.tmps.size:=by rw[h.size];simpa using hd
   unfold cm;by_cases hl:mB lv d=true
   · simp only[hl,if_true,St.put,Act.put]
     refine⟨h.defers,by simpa using h.size, ?_, ?_,hm⟩
     · intro t ht
       rw[BP,vj _ _ _ _ kz];split
       · exact hr
       · exact(h.loc t ht).step hs
     · intro t ht
       rw[vj _ _ _ _ kz,if_neg (fun e=>by subst e;rw[hl]at ht;cases ht)];exact(h.tmp t ht).step hs
   · simp only[hl,Bool.false_eq_true,if_false,St.put,Act.put]
     refine⟨h.defers,by simpa using h.size, ?_, ?_,hm⟩
     · intro t ht
       rw[vj _ _ _ _ kz,if_neg (fun e=>by subst e;exact hl ht)];exact(h.loc t ht).step hs
     · intro t ht
       rw[wH,vj _ _ _ _ kz];split
       · exact hr
       · exact(h.tmp t ht).step hs
theorem AI {v:Value} {x:AV} (h:qb v=some x) (θ:Th) (W:Im):bb θ W x v:=by
 unfold qb at h;split at h
 all_goals first
  |(cases h;exact .p _ _ (.b _))
  |(cases h;exact .p _ _ (.i _ _))
  |(cases h;exact .p _ _ .np)
  |(cases h;exact .p _ _ .nl)
  |(cases h;exact .p _ _ .nf)
  |(cases h;exact .p _ _ .nm)
  |(cases h;exact .p _ _ .ni)
  |(cases h;done)
  |skip
 ·rename_i s
  split at h
  ·cases h
   have:(Value.string s)=.string ⟨s.data.toList.toArray⟩:=by simp
   rw[this];exact .p _ _ (.s _ (by rename_i hl;rw[Array.length_toList];exact hl))
  ·cases h
theorem G5 {v:Value} {x:AV} (h:qb v=some x):v.oneCell'=true:=by
 unfold qb at h;split at h<;>first|rfl|(cases h;done)
theorem fg {vs:List Value} {xs:List AV} (h:o9 vs=some xs) (θ:Th) (W:Im):
    vs.length=xs.length∧(∀(j:Nat) (c:AV) (v:Value),xs[j]?=some c→vs[j]?=some v→bb θ W c v)∧∀(j:Nat) (v:Value),vs[j]?=some v→v.oneCell'=true :=by
  induction vs generalizing xs with
  |nil=>cases h;exact⟨rfl,fun j c v hj=>by simp at hj,fun j v hj=>by simp at hj⟩
  |cons v vs ih=>
   simp only[o9]at h;split at h
   · rename_i x l hx hl
     cases h;obtain⟨h1,h2,h3⟩:=ih hl;refine⟨by simp[h1], ?_, ?_⟩
     · intro j c u hj hv
       cases j with
       |zero=>simp at hj hv;subst hj;subst hv;exact AI hx θ W
       |succ j=>simp at hj hv;exact h2 j c u hj hv
     · intro j u hv
       cases j with
       |zero=>simp at hv;subst hv;exact G5 hx
       |succ j=>simp at hv;exact h3 j u hv
   · cases h
theorem Js {v:Value} {x:AV} (h:zj v=some x) (θ:Th) (W:Im):bb θ W x v:=by
  unfold zj at h;split at h
  · rename_i cs
    cases hc:o9 cs.toList with
    |none =>rw[hc]at h;cases h
    |some xs=>
     rw[hc]at h;cases h;obtain⟨h1,h2,h3⟩:=fg hc θ W;exact .st xs cs (by simpa using h1) (fun j c v hj hv=>h2 j c v hj (by simpa using hv)) (fun j v hv=>h3 j v (by simpa using hv))
  · exact AI h θ W
theorem Rl.rX {lv:List Nat} {N:Nat} {st:St} {a:Act} {w:World} {θ:Th} {W:Im} (h:Rl lv N st a w θ W) (t:Nat):bb θ W (st.get (fQ lv t)) (a.eval (.tmp t)):=by
 unfold fQ
 cases hl:mB lv t with
 |true=>exact h.loc t hl
 |false=>exact h.tmp t hl
theorem Rl.arg {lv:List Nat} {N:Nat} {st:St} {a:Act} {w:World} {θ:Th} {W:Im} (h:Rl lv N st a w θ W) {x:Operand} {m:MA} (hx:bK lv x=some m):
    bb θ W (st.get m) (a.eval x):=by
  cases x with
  |tmp t=>cases hx;exact h.rX t
  |const v=>
   simp only[bK]at hx
   cases hv:zj v with
   |none =>rw[hv]at hx;cases hx
   |some y=>rw[hv]at hx;cases hx;exact Js hv θ W
  |global g=>cases hx
  |func f=>
   cases hx;exact .eB f [] #[] rfl (fun j c v hj=>by simp at hj)
theorem Rl.args {lv:List Nat} {N:Nat} {st:St} {a:Act} {w:World} {θ:Th} {W:Im} (h:Rl lv N st a w θ W) {xs:List Operand} {ms:List MA} (hx:jV lv xs=some ms):
    xI θ W (fF st ms) ((xs.map a.eval).toArray):=by
  induction xs generalizing ms with
  |nil=>cases hx;exact⟨rfl,fun j c v hj=>by simp[fF]at hj⟩
  |cons x xs ih=>
   simp only[jV]at hx;split at hx
   · rename_i y l hy hl
     cases hx;obtain⟨h1,h2⟩:=ih hl;refine⟨by simpa[fF]using h1, ?_⟩;intro j c v hj hv
     cases j with
     |zero=>simp[fF]at hj hv;subst hj;subst hv;exact h.arg hy
     |succ j=>simp only[fF,List.getElem?_cons_succ]at hj;simp at hv;exact h2 j c v hj (by simpa using hv)
   · cases hx
def fG (lv:List Nat) (P:Program) (N:Nat) (o:Oper) (st:St) (K:St->Prop):Prop :=
 ∀(a:Act) (w:World) (θ:Th) (W:Im) (next:Act->World->Prop) (Q:Exit->Act->World->Prop),Rl lv N st a w θ W->
  (∀dz a' w' aX W',K dz->Rl lv N dz a' w' aX W'->eW θ W w aX W' w'->next a' w')->o.wp P a w next Q
section
variable {lv:List Nat} {P:Program} {N:Nat} {o:Oper} {st:St} {K:St->Prop} {a:Act} {w w':World} {θ aX:Th} {W W':Im}
 {next:Act->World->Prop} {Q:Exit->Act->World->Prop} {H':List AO}
theorem gD (h:Rl lv N st a w θ W) (hd:o.dst.all (decide <| ·<N)=true)
  (hk:∀dz a' w' aX W',K dz->Rl lv N dz a' w' aX W'->eW θ W w aX W' w'->next a' w')
  {v:Value} {r:AV} (dp:(execOp a.eval o).run P w=.ok (.value v) w') (hr:bb aX W' r v) (hm:SR aX W' H' w') (hs:eW θ W w aX W' w')
  (hK:K (St.put ⟨st.L,st.T,H'⟩ (cm lv o.dst) r)):o.wp P a w next Q:=by
 unfold Oper.wp;rw[dp];exact hk _ _ _ _ _ hK (h.put hd hr hm hs) hs
theorem bm (h:Rl lv N st a w θ W) (hd:o.dst.all (decide <| ·<N)=true)
  (hk:∀dz a' w' aX W',K dz->Rl lv N dz a' w' aX W'->eW θ W w aX W' w'->next a' w')
  {v:Value} {r:AV} (dp:(execOp a.eval o).run P w=.ok (.value v) w) (hr:bb θ W r v)
  (hK:K (st.put (cm lv o.dst) r)):o.wp P a w next Q:=
 gD h hd hk dp hr h.mem (eW.refl θ W w) hK
theorem Ec (h:Rl lv N st a w θ W) (hd:o.dst.all (decide <| ·<N)=true)
  (hk:∀dz a' w' aX W',K dz->Rl lv N dz a' w' aX W'->eW θ W w aX W' w'->next a' w')
  (dp:(execOp a.eval o).run P w=.ok .skip w') (hm:SR aX W' H' w') (hs:eW θ W w aX W' w')
  (hK:K (St.put ⟨st.L,st.T,H'⟩ (cm lv o.dst) .any)):o.wp P a w next Q:=by
 unfold Oper.wp;rw[dp];exact hk _ _ _ _ _ hK (h.put hd (.any _) hm hs) hs
theorem dk {x:Option AV} {d:MD} (h:bC x d K st):∃v,x=some v/\K (st.put d v):=by
 cases x with
 |none=>exact h.elim
 |some v=>exact⟨v,rfl,h⟩
end
end Go.AM
