/- Regions whose order is drawn: every order. -/
import Derived.Test.YteilijfligofdaaGreatDoorAm21
set_option linter.all false
namespace Go.AM
variable {lv:List Nat} {P:Program} {N:Nat} {K:St->Prop} {θ:Th} {W:Im} {ops:Array Oper} {m:Nat} {outs:Nat->Out} {s0:St}
def DO (ops:Array Oper) (listed:Array Bool) (D:Nat->Bool):Prop:=listed.size=ops.size/\∀j,j<ops.size->listed[j]?=some (D j)
theorem DO.getD {listed:Array Bool} {D:Nat->Bool} (h:DO ops listed D) {j:Nat} (hj:j<ops.size) (d:Bool):listed.getD j d=D j:=by
 have:=h.2 j hj;simp[Array.getD_eq_getD_getElem?,this]
theorem DO.set {listed:Array Bool} {D:Nat->Bool} (h:DO ops listed D) {i:Nat} (hi:i<ops.size):DO ops (listed.setIfInBounds i true) (bW D i):=by
 refine⟨by simp[h.1],fun j hj=>?_⟩;by_cases e:j=i
 ·subst e
  simp[Array.getElem?_setIfInBounds_self,h.1,hj,bW]
 ·rw[Array.getElem?_setIfInBounds_ne (Ne.symm e),h.2 j hj]
  simp[bW,e]
theorem Ce {o:Oper} {e:Nat}:e∈fR o↔∃x∈o.after,Region.binds .any x=true/\x.on=e:=by
 unfold fR;simp only[List.mem_map,List.mem_filter,Array.mem_toList_iff];constructor
 ·rintro⟨x,⟨h1,h2⟩,h3⟩;exact⟨x,h1,h2,h3⟩
 ·rintro⟨x,h1,h2,h3⟩;exact⟨x,⟨h1,h2⟩,h3⟩
theorem DO.ready {listed:Array Bool} {D:Nat->Bool} (h:DO ops listed D) (aF:∀j o,ops[j]?=some o->∀e∈fR o,e<j) {i:Nat}:
  i∈Region.ready .any ops listed↔D i=false/\∃o,ops[i]?=some o/\∀e∈fR o,D e=true:=by
 rw[mem_ready];constructor
 ·rintro⟨h0,o,ho,lA⟩
  have hi:i<ops.size:=(Array.getElem?_eq_some_iff.1 ho).1;refine⟨by rw[h.getD hi]at h0;exact h0,o,ho,fun e he=>?_⟩;obtain⟨x,h1,h2,rfl⟩:=Ce.1 he;have h3:=lA x h1 h2;rw[h.getD (Nat.lt_trans (aF i o ho _ he) hi)]at h3;exact h3
 ·rintro⟨h0,o,ho,lA⟩
  have hi:i<ops.size:=(Array.getElem?_eq_some_iff.1 ho).1;refine⟨by rw[h.getD hi];exact h0,o,ho,fun x hx hb=>?_⟩;have he:x.on∈fR o:=Ce.2 ⟨x,hx,hb,rfl⟩;rw[h.getD (Nat.lt_trans (aF i o ho _ he) hi)];exact lA _ he
theorem qc.bW {D:Nat->Bool} (hc:qc ops D) {i:Nat} {o:Oper} (ho:ops[i]?=some o) (hr:∀e∈fR o,D e=true):qc ops (bW D i):=by
 intro j o' hj mO e he
 have:D e=true:=by
  by_cases e1:j=i
  ·subst e1;rw[ho]at mO;cases mO;exact hr e he
  ·have hD:D j=true:=by simpa[AM.bW,e1]using hj
   exact hc j o' hD mO e he
 simp[AM.bW,this]
theorem Et {Q:Exit→Act→World→Prop} (hf:mS lv P ops m):∀(fuel j:Nat) (listed:Array Bool) (st:St) (a:Act) (w:World) (θ:Th) (W:Im),fuel+j=ops.size→m≤j→DO ops listed (below j)→
    k9 (al P) ((ops.toList.drop j).map (iE lv P N ops)) K st→Rl lv N st a w θ W→
    (∀dz a' w' aX W',K dz→Rl lv N dz a' w' aX W'→eW θ W w aX W' w'→Q .normal a' w')→wpAny P .any ops Q fuel listed a w:=by
  intro fuel
  induction fuel with
  |zero=>
   intro j listed st a w θ W hfj hmj hl h hR hk;have hd:ops.toList.drop j=[]:=by simp;omega
   rw[hd]at h;refine⟨?_,hk _ _ _ _ _ h hR (eW.refl _ _ _)⟩;rw[List.eq_nil_iff_forall_not_mem];intro i hi;obtain⟨h0,o,ho,_⟩:=(hl.ready hf.lt).1 hi;have hi:i<ops.size:=(Array.getElem?_eq_some_iff.1 ho).1
   simp[below]at h0;omega
  |succ fuel ih=>
   intro j listed st a w θ W hfj hmj hl h hR hk;have hj:j<ops.size:=by omega
   have FJ:ops[j]?=some ops[j]:=by simp[hj]
   have hjr:j∈Region.ready .any ops listed:=(hl.ready hf.lt).2 ⟨by simp[below],_,FJ,fun e he=>by simp[below];exact hf.lt j _ FJ e he⟩;refine⟨fun hn=>absurd (hn▸hjr) List.not_mem_nil,fun i hi=> ?_⟩;obtain⟨h0,o,ho,hw⟩:=(hl.ready hf.lt).1 hi;have Fw:i<ops.size:=(Array.getElem?_eq_some_iff.1 ho).1;have hji:j≤i:=by simpa[below]using h0
   have Q3:qc ops (below j):=by
     intro k o' ic mO e he;have :=hf.lt k o' mO e he;simp[below]at ic⊢;omega
   have e:i=j:=by
     rcases Nat.lt_or_ge j i with aF|ir
     · have :=iF hf.lt Q3 i j o ho hw (hf.tail i (by omega) Fw j aF)
       simp[below]at this
     · omega
   subst e;rw[FJ]at ho;cases ho
   have hd:ops.toList.drop i=ops[i]::ops.toList.drop (i+1):=by
     rw[List.drop_eq_getElem_cons (by simpa using hj)];simp
   rw[hd]at h
   have iC:DO ops (listed.setIfInBounds i true) (below (i+1)):=by
     have :=hl.set Fw
     have e2:bW (below i) i=below (i+1):=by
       funext k;simp only[bW,below]
       by_cases h1:k<i
       · simp[h1,show k<i+1 by omega]
       · by_cases h2:k=i
         · simp[h2]
         · simp[h1,h2];omega
     rw[e2]at this;exact this
   have key:=Hh (Q:=Q) (next :=wpAny P .any ops Q fuel (listed.setIfInBounds i true)) ops[i] h hR (fun dz a' w' aX W' rb r8 lM=>
     ih (i+1) _ dz a' w' aX W' (by omega) (by omega) iC rb r8 (fun wS a2 w2 xV W2 h2 Hi bt=>hk wS a2 w2 xV W2 h2 Hi (lM.trans bt)))
   unfold wpOp;rw[FJ];simp only[];split
   · rename_i hw;rw[if_pos hw]at key;exact .inl key
   · rename_i hw;rw[if_neg hw]at key;exact key
def ya (D:Nat->Bool) (n:Nat):Nat:=((List.range n).filter D).length
theorem M3 (D:Nat->Bool) (n:Nat):ya D n<=n:=by
 unfold ya;have:=List.length_filter_le D (List.range n);simpa using this
theorem oY (D:Nat->Bool) (n:Nat):ya D (n+1)=ya D n+if D n then 1 else 0:=by
 unfold ya;rw[List.range_succ,List.filter_append,List.length_append];by_cases h:D n=true <;>simp[h]
theorem Eu (D:Nat→Bool) (i:Nat) (hD:D i=false):∀n,ya (bW D i) n=ya D n+if i<n then 1 else 0
  |0=>by simp[ya]
  |n+1=>by
   rw[oY,oY,Eu D i hD n];by_cases e:n=i
   · subst e;simp[bW,hD]
   · have :bW D i n=D n:=by simp[bW,e]
     rw[this];by_cases h1:i<n
     · simp[h1,show i<n+1 by omega];omega
     · simp[h1,show ¬i<n+1 by omega]
theorem M4 (D:Nat→Bool) {i:Nat} (hD:D i=false):∀n,i<n→ya D n<n
  |0,h=>by omega
  |n+1,h=>by
   rw[oY];by_cases e:n=i
   · subst e;have :=M3 D n;simp[hD];omega
   · have :=M4 D hD n (by omega)
     split <;>omega
theorem wW (j:Nat):∀n,j≤n→ya (below j) n=j
  |0,h=>by simp[ya];omega
  |n+1,h=>by
   rw[oY];by_cases e:j=n+1
   · have :=M3 (below j) n
     have h2:∀k,k≤j→ya (below j) k=k:=by
       intro k
       induction k with
       |zero=>intro _;rfl
       |succ k ihk=>intro hk;rw[oY,ihk (by omega)];simp[below];omega
     rw[←oY,←e];exact h2 j (Nat.le_refl _)
   · rw[wW j n (by omega)]
     have :¬n<j:=by omega
     simp[below,this]
theorem least (D:Nat→Bool):∀n,(∃i,i<n∧D i=false)→∃i,i<n∧D i=false ∧∀k,k<i→D k=true
  |0,⟨i,h,_⟩=>by omega
  |n+1,⟨i,h,hD⟩=>by
   by_cases e:∃i,i<n∧D i=false
   · obtain⟨k,h1,h2,h3⟩:=least D n e
     exact⟨k,by omega,h2,h3⟩
   · refine⟨i,h,hD,fun k hk=> ?_⟩
     cases ic:D k with
     |true =>rfl
     |false =>exact(e ⟨k,by omega,ic⟩).elim
theorem Q4 {Q:Exit→Act→World→Prop} {Hm:List AO} {pre :List MI} (hf:mS lv P ops m) (QU:cA Hm s0.H) (hp:lk lv P N ops m outs Hm s0 pre)
    (hK:MB (k9 (al P) ((ops.toList.drop m).map (iE lv P N ops)) K) (gV pre outs (s0.H,⟨s0.L,s0.T,[]⟩) m).1 (gV pre outs (s0.H,⟨s0.L,s0.T,[]⟩) m).2):
    ∀(fuel:Nat) (D:Nat→Bool) (listed:Array Bool) (a:Act) (w:World) (θ:Th) (W:Im),fuel+ya D ops.size=ops.size→(∀i,m≤i→D i=false)→qc ops D→zB outs D→DO ops listed D→Rl lv N (SD ops m outs s0 D) a w θ W→
    (∀dz a' w' aX W',K dz→Rl lv N dz a' w' aX W'→eW θ W w aX W' w'→Q .normal a' w')→wpAny P .any ops Q fuel listed a w:=by
  have hu:=hf.uniq
  have Ep:∀k,k<m→∃o,pre[k]?=some o∧o.dst=cm lv (jG ops k):=by
    intro k ic;have QV:k<ops.size:=Nat.lt_of_lt_of_le ic hf.le;obtain⟨m2,g2,_,_,_,pX,_⟩:=hp k ops[k] ic (by simp[QV]);exact⟨_,pX,by simp[jG,QV]⟩
  intro fuel
  induction fuel with
  |zero=>
   intro D listed a w θ W hfu hD hc hU hl hR hk
   have lA:∀i,i<ops.size→D i=true :=by
     intro i hi
     cases e:D i with
     |true =>rfl
     |false =>have :=M4 D e ops.size hi;omega
   have hDm:D=below m:=by
     funext i
     by_cases h1:i<m
     · rw[lA i (Nat.lt_of_lt_of_le h1 hf.le)];simp[below,h1]
     · rw[hD i (by omega)];simp[below,h1]
   subst hDm
   have hms:m=ops.size:=by
     have :=wW m ops.size hf.le;omega
   obtain⟨QX,hcL,FI,QY⟩:=canon (lv:=lv) (outs:=outs) (s0:=s0) pre hu Ep (hp.len hf.le) m (Nat.le_refl _);refine Et hf 0 m listed _ a w θ W (by omega) (Nat.le_refl _) hl hK (hR.congr (fun t=> ?_) ?_) hk
   · rw[jN hu,oq _ _ _ (gV pre outs (s0.H,⟨s0.L,s0.T,[]⟩) m).2.H]
     exact(QY t).symm
   · show gN outs s0.H (below m) m++dN m outs (below m)=(gV pre outs (s0.H,⟨s0.L,s0.T,[]⟩) m).1++(gV pre outs (s0.H,⟨s0.L,s0.T,[]⟩) m).2.H
     rw[QX,FI];congr 1
     · exact mR (fun j hj _ =>by simp[below,hj])
     · exact rf (fun j hj=>by simp[below,hj])
  |succ fuel ih=>
   intro D listed a w θ W hfu hD hc hU hl hR hk;by_cases lA:∀i,i<m→D i=true
   · have hDm:D=below m:=by
       funext i
       by_cases h1:i<m
       · rw[lA i h1];simp[below,h1]
       · rw[hD i (by omega)];simp[below,h1]
     subst hDm;have hcm:=wW m ops.size hf.le;obtain⟨QX,hcL,FI,QY⟩:=canon (lv:=lv) (outs:=outs) (s0:=s0) pre hu Ep (hp.len hf.le) m (Nat.le_refl _);refine Et hf (fuel+1) m listed _ a w θ W (by omega) (Nat.le_refl _) hl hK (hR.congr (fun t=> ?_) ?_) hk
     · rw[jN hu,oq _ _ _ (gV pre outs (s0.H,⟨s0.L,s0.T,[]⟩) m).2.H]
       exact(QY t).symm
     · show gN outs s0.H (below m) m++dN m outs (below m)=(gV pre outs (s0.H,⟨s0.L,s0.T,[]⟩) m).1++(gV pre outs (s0.H,⟨s0.L,s0.T,[]⟩) m).2.H
       rw[QX,FI];congr 1
       · exact mR (fun j hj _ =>by simp[below,hj])
       · exact rf (fun j hj=>by simp[below,hj])
   · have hex:∃i,i<m∧D i=false :=by
       false_or_by_contra
       rename_i cK;refine lA fun i hi=> ?_
       cases e:D i with
       |true =>rfl
       |false =>exact(cK ⟨i,hi,e⟩).elim
     obtain⟨i0,hi0,hD0,af2⟩:=least D m hex;have af3:i0<ops.size:=Nat.lt_of_lt_of_le hi0 hf.le;have ho0:ops[i0]?=some ops[i0]:=by simp[af3]
     have Q5:i0∈Region.ready .any ops listed:=(hl.ready hf.lt).2 ⟨hD0,_,ho0,fun e he=>af2 e (hf.lt i0 _ ho0 e he)⟩;refine⟨fun hn=>absurd (hn▸Q5) List.not_mem_nil,fun i hi=> ?_⟩;obtain⟨A8,o,ho,hw⟩:=(hl.ready hf.lt).1 hi;have Fw:i<ops.size:=(Array.getElem?_eq_some_iff.1 ho).1
     have him:i<m:=by
       rcases Nat.lt_or_ge i m with h1|h1
       · exact h1
       · have :=iF hf.lt hc i i0 o ho hw (hf.tail i h1 Fw i0 (by omega))
         rw[hD0]at this;cases this
     have key:=JK (Q:=Q) (next :=wpAny P .any ops Q fuel (listed.setIfInBounds i true)) hf QU hp hc him ho A8 hU hw hR (fun a' w' aX W' r8 hU' lM=>
       ih (bW D i) _ a' w' aX W' (by rw[Eu D i A8,if_pos Fw];omega) (fun k ic=>by simp only[bW,hD k ic,Bool.false_or,decide_eq_false_iff_not];omega) (hc.bW ho hw) hU' (hl.set Fw) r8
         (fun wS a2 w2 xV W2 h2 Hi bt=>hk wS a2 w2 xV W2 h2 Hi (lM.trans bt)))
     unfold wpOp;rw[ho];simp only[];split
     · rename_i hw;rw[if_pos hw]at key;exact .inl key
     · rename_i hw;rw[if_neg hw]at key;exact key
theorem Ev (outs:Nat→Out):∀n,nD outs (fun _ =>false) n=List.replicate (cw outs n) .iQ
  |0=>rfl
  |n+1=>by
   have ih:=Ev outs n;rw[nt];unfold nD
   cases ho:outs n with
   |new ob mk=>simp[fT,ho,ih,List.replicate_succ']
   |mQ k v ob=>simp[fT,ho,ih]
   |_ =>simp[fT,ho,ih]
theorem SR.drawn {H:List AO} {w:World} (h:SR θ W H w) (k:Nat):SR θ W H {w with drawn:=k}:=⟨h.nF,h.obj,h.out,h.own,h.inj⟩
theorem Xo {Q:Exit->Act->World->Prop} (hm:P.follows .mixedOrders=true) (id:Nat) {a:Act} {w:World} {st:St}
  (hd:BL (ib ops) ops m (Bi lv P ops m)=true) (h:ME (al P) ((ops.toList.take m).map fun o=>qJ ops (iE lv P N ops o)) (k9 (al P) ((ops.toList.drop m).map (iE lv P N ops)) K) st)
  (hR:Rl lv N st a w θ W) (hk:∀dz a' w' aX W',K dz->Rl lv N dz a' w' aX W'->eW θ W w aX W' w'->Q .normal a' w'):
  (Code.region id ops true).wp P Q a w:=by
 have hf:=FG hd;obtain⟨Hm,QU,h⟩:=h;obtain⟨outs,hg,hK⟩:=trace _ (st.H,⟨st.L,st.T,[]⟩) h;have hp:lk lv P N ops m outs Hm st ((ops.toList.take m).map fun o=>qJ ops (iE lv P N ops o)):=Ow rfl hg
 have hlen:((ops.toList.take m).map fun o=>qJ ops (iE lv P N ops o)).length=m:=by
  have:=hf.le;simp;omega
 rw[hlen]at hK;apply wp_region_any hm;have jI:=(hR.mem.Hl (cw outs m)).drawn (w.drawn+1)
 have r8:Rl lv N (SD ops m outs st (fun _=>false)) a {w with drawn:=w.drawn+1} θ W:=by
  have h1:Rl lv N ⟨st.L,st.T,st.H++List.replicate (cw outs m) .iQ⟩ a {w with drawn:=w.drawn+1} θ W:=⟨hR.defers,hR.size,hR.loc,hR.tmp,jI⟩;refine h1.congr (fun t=>?_) ?_
  ·rw[jN hf.uniq,oq _ _ _ st.H]
   unfold eD;split <;>rfl
  ·show _=gN outs st.H (fun _=>false) m++dN m outs (fun _=>false)
   have e0:gN outs st.H (fun _=>false) m=st.H:=xY (i:=0) (Nat.zero_le _) (fun _ _ _ _=>rfl);rw[e0];show st.H++List.replicate (cw outs m) .iQ=st.H++nD outs (fun _=>false) m;rw[Ev]
 refine Q4 hf QU hp hK ops.size (fun _=>false) _ a _ θ W (by simp[ya]) (fun _ _=>rfl) (fun j o hj=>by cases hj) (fun j k v ob _ hj=>by cases hj) ⟨by simp,fun j hj=>by simp[hj]⟩ r8 (fun dz a' w' aX W' h1 h2 h3=>hk dz a' w' aX W' h1 h2 ?_);exact⟨h3.os,h3.tape,h3.output,h3.size,h3.eF,h3.nF,h3.old,h3.th,h3.fresh⟩
end Go.AM
