/- Regions whose order is drawn: every order. -/
import Derived.Test.YtjkbbnfdbfcebaaGreatDoorAm21
set_option linter.all false
namespace Go.AM
variable {lv:List Nat} {P:Program} {N:Nat} {K:St->Prop} {θ:Th} {W:Im} {ops:Array Oper} {m:Nat} {outs:Nat->Out} {s0:St}
def Dq (ops:Array Oper) (listed:Array Bool) (D:Nat->Bool):Prop:=listed.size=ops.size/\∀j,j<ops.size->listed[j]?=some (D j)
theorem Dq.getD {listed:Array Bool} {D:Nat->Bool} (h:Dq ops listed D) {j:Nat} (hj:j<ops.size) (d:Bool):listed.getD j d=D j:=by
 have:=h.2 j hj;simp[Array.getD_eq_getD_getElem?,this]
theorem Dq.set {listed:Array Bool} {D:Nat->Bool} (h:Dq ops listed D) {i:Nat} (hi:i<ops.size):Dq ops (listed.setIfInBounds i true) (bY D i):=by
 refine⟨by simp[h.1],fun j hj=>?_⟩;by_cases e:j=i
 ·subst e
  simp[Array.getElem?_setIfInBounds_self,h.1,hj,bY]
 ·rw[Array.getElem?_setIfInBounds_ne (Ne.symm e),h.2 j hj]
  simp[bY,e]
theorem B0 {o:Oper} {e:Nat}:e∈fP o↔∃x∈o.after,Region.binds .any x=true/\x.on=e:=by
 unfold fP;simp only[List.mem_map,List.mem_filter,Array.mem_toList_iff];constructor
 ·rintro⟨x,⟨h1,h2⟩,h3⟩;exact⟨x,h1,h2,h3⟩
 ·rintro⟨x,h1,h2,h3⟩;exact⟨x,⟨h1,h2⟩,h3⟩
theorem Dq.ready {listed:Array Bool} {D:Nat->Bool} (h:Dq ops listed D) (aj:∀j o,ops[j]?=some o->∀e∈fP o,e<j) {i:Nat}:
  i∈Region.ready .any ops listed↔D i=false/\∃o,ops[i]?=some o/\∀e∈fP o,D e=true:=by
 rw[mem_ready];constructor
 ·rintro⟨h0,o,ho,sI⟩
  have hi:i<ops.size:=(Array.getElem?_eq_some_iff.1 ho).1;refine⟨by rw[h.getD hi]at h0;exact h0,o,ho,fun e he=>?_⟩;obtain⟨x,h1,h2,rfl⟩:=B0.1 he;have h3:=sI x h1 h2;rw[h.getD (Nat.lt_trans (aj i o ho _ he) hi)]at h3;exact h3
 ·rintro⟨h0,o,ho,sI⟩
  have hi:i<ops.size:=(Array.getElem?_eq_some_iff.1 ho).1;refine⟨by rw[h.getD hi];exact h0,o,ho,fun x hx hb=>?_⟩;have he:x.on∈fP o:=B0.2 ⟨x,hx,hb,rfl⟩;rw[h.getD (Nat.lt_trans (aj i o ho _ he) hi)];exact sI _ he
theorem p4.bY {D:Nat->Bool} (hc:p4 ops D) {i:Nat} {o:Oper} (ho:ops[i]?=some o) (hr:∀e∈fP o,D e=true):p4 ops (bY D i):=by
 intro j o' hj mG e he
 have:D e=true:=by
  by_cases e1:j=i
  ·subst e1;rw[ho]at mG;cases mG;exact hr e he
  ·have hD:D j=true:=by simpa[AM.bY,e1]using hj
   exact hc j o' hD mG e he
 simp[AM.bY,this]
theorem D8 {Q:Exit→Act→World→Prop} (hf:mJ lv P ops m):∀(fuel j:Nat) (listed:Array Bool) (st:St) (a:Act) (w:World) (θ:Th) (W:Im),fuel+j=ops.size→m≤j→Dq ops listed (below j)→
    k9 (aA P) ((ops.toList.drop j).map (iB lv P N ops)) K st→Rl lv N st a w θ W→
    (∀dG a' w' bd W',K dG→Rl lv N dG a' w' bd W'→eU θ W w bd W' w'→Q .normal a' w')→wpAny P .any ops Q fuel listed a w:=by
  intro fuel
  induction fuel with
  |zero=>
   intro j listed st a w θ W hfj hmj hl h hR hk;have hd:ops.toList.drop j=[]:=by simp;omega
   rw[hd]at h;refine⟨?_,hk _ _ _ _ _ h hR (eU.refl _ _ _)⟩;rw[List.eq_nil_iff_forall_not_mem];intro i hi;obtain⟨h0,o,ho,_⟩:=(hl.ready hf.lt).1 hi;have hi:i<ops.size:=(Array.getElem?_eq_some_iff.1 ho).1
   simp[below]at h0;omega
  |succ fuel ih=>
   intro j listed st a w θ W hfj hmj hl h hR hk;have hj:j<ops.size:=by omega
   have Ff:ops[j]?=some ops[j]:=by simp[hj]
   have P7:j∈Region.ready .any ops listed:=(hl.ready hf.lt).2 ⟨by simp[below],_,Ff,fun e he=>by simp[below];exact hf.lt j _ Ff e he⟩;refine⟨fun hn=>absurd (hn▸P7) List.not_mem_nil,fun i hi=> ?_⟩;obtain⟨h0,o,ho,hw⟩:=(hl.ready hf.lt).1 hi;have E2:i<ops.size:=(Array.getElem?_eq_some_iff.1 ho).1;have hji:j≤i:=by simpa[below]using h0
   have P8:p4 ops (below j):=by
     intro k o' ia mG e he;have :=hf.lt k o' mG e he;simp[below]at ia⊢;omega
   have e:i=j:=by
     rcases Nat.lt_or_ge j i with aj|gH
     · have :=iC hf.lt P8 i j o ho hw (hf.tail i (by omega) E2 j aj)
       simp[below]at this
     · omega
   subst e;rw[Ff]at ho;cases ho
   have hd:ops.toList.drop i=ops[i]::ops.toList.drop (i+1):=by
     rw[List.drop_eq_getElem_cons (by simpa using hj)];simp
   rw[hd]at h
   have iy:Dq ops (listed.setIfInBounds i true) (below (i+1)):=by
     have :=hl.set E2
     have e2:bY (below i) i=below (i+1):=by
       funext k;simp only[bY,below]
       by_cases h1:k<i
       · simp[h1,show k<i+1 by omega]
       · by_cases h2:k=i
         · simp[h2]
         · simp[h1,h2];omega
     rw[e2]at this;exact this
   have key:=GW (Q:=Q) (next :=wpAny P .any ops Q fuel (listed.setIfInBounds i true)) ops[i] h hR (fun dG a' w' bd W' qT rN lH=>
     ih (i+1) _ dG a' w' bd W' (by omega) (by omega) iy qT rN (fun wo a2 w2 xC W2 h2 PC bD=>hk wo a2 w2 xC W2 h2 PC (lH.trans bD)))
   unfold wpOp;rw[Ff];simp only[];split
   · rename_i hw;rw[if_pos hw]at key;exact .inl key
   · rename_i hw;rw[if_neg hw]at key;exact key
def xL (D:Nat->Bool) (n:Nat):Nat:=((List.range n).filter D).length
theorem Ms (D:Nat->Bool) (n:Nat):xL D n<=n:=by
 unfold xL;have:=List.length_filter_le D (List.range n);simpa using this
theorem oO (D:Nat->Bool) (n:Nat):xL D (n+1)=xL D n+if D n then 1 else 0:=by
 unfold xL;rw[List.range_succ,List.filter_append,List.length_append];by_cases h:D n=true <;>simp[h]
theorem D9 (D:Nat→Bool) (i:Nat) (hD:D i=false):∀n,xL (bY D i) n=xL D n+if i<n then 1 else 0
  |0=>by simp[xL]
  |n+1=>by
   rw[oO,oO,D9 D i hD n];by_cases e:n=i
   · subst e;simp[bY,hD]
   · have :bY D i n=D n:=by simp[bY,e]
     rw[this];by_cases h1:i<n
     · simp[h1,show i<n+1 by omega];omega
     · simp[h1,show ¬i<n+1 by omega]
theorem Mt (D:Nat→Bool) {i:Nat} (hD:D i=false):∀n,i<n→xL D n<n
  |0,h=>by omega
  |n+1,h=>by
   rw[oO];by_cases e:n=i
   · subst e;have :=Ms D n;simp[hD];omega
   · have :=Mt D hD n (by omega)
     split <;>omega
theorem wx (j:Nat):∀n,j≤n→xL (below j) n=j
  |0,h=>by simp[xL];omega
  |n+1,h=>by
   rw[oO];by_cases e:j=n+1
   · have :=Ms (below j) n
     have h2:∀k,k≤j→xL (below j) k=k:=by
       intro k
       induction k with
       |zero=>intro _;rfl
       |succ k ihk=>intro hk;rw[oO,ihk (by omega)];simp[below];omega
     rw[←oO,←e];exact h2 j (Nat.le_refl _)
   · rw[wx j n (by omega)]
     have :¬n<j:=by omega
     simp[below,this]
theorem least (D:Nat→Bool):∀n,(∃i,i<n∧D i=false)→∃i,i<n∧D i=false ∧∀k,k<i→D k=true
  |0,⟨i,h,_⟩=>by omega
  |n+1,⟨i,h,hD⟩=>by
   by_cases e:∃i,i<n∧D i=false
   · obtain⟨k,h1,h2,h3⟩:=least D n e
     exact⟨k,by omega,h2,h3⟩
   · refine⟨i,h,hD,fun k hk=> ?_⟩
     cases ia:D k with
     |true =>rfl
     |false =>exact(e ⟨k,by omega,ia⟩).elim
theorem P9 {Q:Exit→Act→World→Prop} {Hm:List AO} {pre :List MI} (hf:mJ lv P ops m) (PY:bP Hm s0.H) (hp:lf lv P N ops m outs Hm s0 pre)
    (hK:L6 (k9 (aA P) ((ops.toList.drop m).map (iB lv P N ops)) K) (gV pre outs (s0.H,⟨s0.L,s0.T,[]⟩) m).1 (gV pre outs (s0.H,⟨s0.L,s0.T,[]⟩) m).2):
    ∀(fuel:Nat) (D:Nat→Bool) (listed:Array Bool) (a:Act) (w:World) (θ:Th) (W:Im),fuel+xL D ops.size=ops.size→(∀i,m≤i→D i=false)→p4 ops D→y8 outs D→Dq ops listed D→Rl lv N (SD ops m outs s0 D) a w θ W→
    (∀dG a' w' bd W',K dG→Rl lv N dG a' w' bd W'→eU θ W w bd W' w'→Q .normal a' w')→wpAny P .any ops Q fuel listed a w:=by
  have hu:=hf.uniq
  have D5:∀k,k<m→∃o,pre[k]?=some o∧o.dst=cB lv (jD ops k):=by
    intro k ia;have PZ:k<ops.size:=Nat.lt_of_lt_of_le ia hf.le;obtain⟨m2,g2,_,_,_,pR,_⟩:=hp k ops[k] ia (by simp[PZ]);exact⟨_,pR,by simp[jD,PZ]⟩
  intro fuel
  induction fuel with
  |zero=>
   intro D listed a w θ W hfu hD hc hU hl hR hk
   have sI:∀i,i<ops.size→D i=true :=by
     intro i hi
     cases e:D i with
     |true =>rfl
     |false =>have :=Mt D e ops.size hi;omega
   have hDm:D=below m:=by
     funext i
     by_cases h1:i<m
     · rw[sI i (Nat.lt_of_lt_of_le h1 hf.le)];simp[below,h1]
     · rw[hD i (by omega)];simp[below,h1]
   subst hDm
   have hms:m=ops.size:=by
     have :=wx m ops.size hf.le;omega
   obtain⟨P1,hcL,Fe,P2⟩:=canon (lv:=lv) (outs:=outs) (s0:=s0) pre hu D5 (hp.len hf.le) m (Nat.le_refl _);refine D8 hf 0 m listed _ a w θ W (by omega) (Nat.le_refl _) hl hK (hR.congr (fun t=> ?_) ?_) hk
   · rw[jK hu,oa _ _ _ (gV pre outs (s0.H,⟨s0.L,s0.T,[]⟩) m).2.H]
     exact(P2 t).symm
   · show gR outs s0.H (below m) m++dY m outs (below m)=(gV pre outs (s0.H,⟨s0.L,s0.T,[]⟩) m).1++(gV pre outs (s0.H,⟨s0.L,s0.T,[]⟩) m).2.H
     rw[P1,Fe];congr 1
     · exact mI (fun j hj _ =>by simp[below,hj])
     · exact qU (fun j hj=>by simp[below,hj])
  |succ fuel ih=>
   intro D listed a w θ W hfu hD hc hU hl hR hk;by_cases sI:∀i,i<m→D i=true
   · have hDm:D=below m:=by
       funext i
       by_cases h1:i<m
       · rw[sI i h1];simp[below,h1]
       · rw[hD i (by omega)];simp[below,h1]
     subst hDm;have hcm:=wx m ops.size hf.le;obtain⟨P1,hcL,Fe,P2⟩:=canon (lv:=lv) (outs:=outs) (s0:=s0) pre hu D5 (hp.len hf.le) m (Nat.le_refl _);refine D8 hf (fuel+1) m listed _ a w θ W (by omega) (Nat.le_refl _) hl hK (hR.congr (fun t=> ?_) ?_) hk
     · rw[jK hu,oa _ _ _ (gV pre outs (s0.H,⟨s0.L,s0.T,[]⟩) m).2.H]
       exact(P2 t).symm
     · show gR outs s0.H (below m) m++dY m outs (below m)=(gV pre outs (s0.H,⟨s0.L,s0.T,[]⟩) m).1++(gV pre outs (s0.H,⟨s0.L,s0.T,[]⟩) m).2.H
       rw[P1,Fe];congr 1
       · exact mI (fun j hj _ =>by simp[below,hj])
       · exact qU (fun j hj=>by simp[below,hj])
   · have hex:∃i,i<m∧D i=false :=by
       false_or_by_contra
       rename_i cX;refine sI fun i hi=> ?_
       cases e:D i with
       |true =>rfl
       |false =>exact(cX ⟨i,hi,e⟩).elim
     obtain⟨i0,hi0,hD0,agh⟩:=least D m hex;have agi:i0<ops.size:=Nat.lt_of_lt_of_le hi0 hf.le;have ho0:ops[i0]?=some ops[i0]:=by simp[agi]
     have Qa:i0∈Region.ready .any ops listed:=(hl.ready hf.lt).2 ⟨hD0,_,ho0,fun e he=>agh e (hf.lt i0 _ ho0 e he)⟩;refine⟨fun hn=>absurd (hn▸Qa) List.not_mem_nil,fun i hi=> ?_⟩;obtain⟨AQ,o,ho,hw⟩:=(hl.ready hf.lt).1 hi;have E2:i<ops.size:=(Array.getElem?_eq_some_iff.1 ho).1
     have him:i<m:=by
       rcases Nat.lt_or_ge i m with h1|h1
       · exact h1
       · have :=iC hf.lt hc i i0 o ho hw (hf.tail i h1 E2 i0 (by omega))
         rw[hD0]at this;cases this
     have key:=Jc (Q:=Q) (next :=wpAny P .any ops Q fuel (listed.setIfInBounds i true)) hf PY hp hc him ho AQ hU hw hR (fun a' w' bd W' rN hU' lH=>
       ih (bY D i) _ a' w' bd W' (by rw[D9 D i AQ,if_pos E2];omega) (fun k ia=>by simp only[bY,hD k ia,Bool.false_or,decide_eq_false_iff_not];omega) (hc.bY ho hw) hU' (hl.set E2) rN
         (fun wo a2 w2 xC W2 h2 PC bD=>hk wo a2 w2 xC W2 h2 PC (lH.trans bD)))
     unfold wpOp;rw[ho];simp only[];split
     · rename_i hw;rw[if_pos hw]at key;exact .inl key
     · rename_i hw;rw[if_neg hw]at key;exact key
theorem Ea (outs:Nat→Out):∀n,nD outs (fun _ =>false) n=List.replicate (cD outs n) .iP
  |0=>rfl
  |n+1=>by
   have ih:=Ea outs n;rw[nb];unfold nD
   cases ho:outs n with
   |new ob mk=>simp[fR,ho,ih,List.replicate_succ']
   |mH k v ob=>simp[fR,ho,ih]
   |_ =>simp[fR,ho,ih]
theorem SR.drawn {H:List AO} {w:World} (h:SR θ W H w) (k:Nat):SR θ W H {w with drawn:=k}:=⟨h.kK,h.obj,h.out,h.own,h.inj⟩
theorem Xe {Q:Exit->Act->World->Prop} (hm:P.follows .mixedOrders=true) (id:Nat) {a:Act} {w:World} {st:St}
  (hd:Bx (hQ ops) ops m (A3 lv P ops m)=true) (h:L7 (aA P) ((ops.toList.take m).map fun o=>qy ops (iB lv P N ops o)) (k9 (aA P) ((ops.toList.drop m).map (iB lv P N ops)) K) st)
  (hR:Rl lv N st a w θ W) (hk:∀dG a' w' bd W',K dG->Rl lv N dG a' w' bd W'->eU θ W w bd W' w'->Q .normal a' w'):
  (Code.region id ops true).wp P Q a w:=by
 have hf:=Fb hd;obtain⟨Hm,PY,h⟩:=h;obtain⟨outs,hg,hK⟩:=trace _ (st.H,⟨st.L,st.T,[]⟩) h;have hp:lf lv P N ops m outs Hm st ((ops.toList.take m).map fun o=>qy ops (iB lv P N ops o)):=Ny rfl hg
 have hlen:((ops.toList.take m).map fun o=>qy ops (iB lv P N ops o)).length=m:=by
  have:=hf.le;simp;omega
 rw[hlen]at hK;apply wp_region_any hm;have gm:=(hR.mem.GZ (cD outs m)).drawn (w.drawn+1)
 have rN:Rl lv N (SD ops m outs st (fun _=>false)) a {w with drawn:=w.drawn+1} θ W:=by
  have h1:Rl lv N ⟨st.L,st.T,st.H++List.replicate (cD outs m) .iP⟩ a {w with drawn:=w.drawn+1} θ W:=⟨hR.defers,hR.size,hR.loc,hR.tmp,gm⟩;refine h1.congr (fun t=>?_) ?_
  ·rw[jK hf.uniq,oa _ _ _ st.H]
   unfold eD;split <;>rfl
  ·show _=gR outs st.H (fun _=>false) m++dY m outs (fun _=>false)
   have e0:gR outs st.H (fun _=>false) m=st.H:=xF (i:=0) (Nat.zero_le _) (fun _ _ _ _=>rfl);rw[e0];show st.H++List.replicate (cD outs m) .iP=st.H++nD outs (fun _=>false) m;rw[Ea]
 refine P9 hf PY hp hK ops.size (fun _=>false) _ a _ θ W (by simp[xL]) (fun _ _=>rfl) (fun j o hj=>by cases hj) (fun j k v ob _ hj=>by cases hj) ⟨by simp,fun j hj=>by simp[hj]⟩ rN (fun dG a' w' bd W' h1 h2 h3=>hk dG a' w' bd W' h1 h2 ?_);exact⟨h3.os,h3.tape,h3.output,h3.size,h3.gf,h3.kK,h3.old,h3.th,h3.fresh⟩
end Go.AM
