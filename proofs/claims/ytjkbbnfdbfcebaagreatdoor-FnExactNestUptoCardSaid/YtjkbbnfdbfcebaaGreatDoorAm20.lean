/- Regions whose order is drawn: whatever order, the state is that of the order of the text. -/
import Derived.Test.YtjkbbnfdbfcebaaGreatDoorAm19
set_option linter.all false
namespace Go.AM
variable {lv:List Nat} {P:Program} {N:Nat} {K:St->Prop} {θ:Th} {W:Im}
theorem Dn (acc:List Nat) (es:List Nat) (i:Nat):(qP acc es).testBit i=true ↔∃e∈es,i=e∨(acc.getD e 0).testBit i=true :=by
  have key:∀(es:List Nat) (s:Nat),(es.foldl (fun s e=>s|||2^e|||acc.getD e 0) s).testBit i=true ↔s.testBit i=true ∨∃e∈es,i=e∨(acc.getD e 0).testBit i=true :=by
    intro es
    induction es with
    |nil=>intro s;simp
    |cons e es ih=>
     intro s;rw[List.foldl_cons,ih];simp only[Nat.testBit_or,Bool.or_eq_true,List.mem_cons,exists_eq_or_imp,Nat.testBit_two_pow,decide_eq_true_eq];constructor
     · rintro(((h|h)|h)|h)
       · exact .inl h
       · exact .inr (.inl (.inl h.symm))
       · exact .inr (.inl (.inr h))
       · exact .inr (.inr h)
     · rintro(h|(h|h)|h)
       · exact .inl (.inl (.inl h))
       · exact .inl (.inl (.inr h.symm))
       · exact .inl (.inr h)
       · exact .inr h
  unfold qP;rw[key];simp
theorem rR:∀(ws:List (List Nat)) (acc:List Nat) (e:Nat),e<acc.length→(vM ws acc).getD e 0=acc.getD e 0
  |[],acc,e,_ =>rfl
  |es::ws,acc,e,h=>by
   rw[vM,rR ws _ e (by simp;omega)];simp[List.getD,List.getElem?_append_left h]
theorem D4:∀(ws:List (List Nat)) (acc:List Nat) (j:Nat) (es:List Nat),ws[j]?=some es→
    ∃G5,(vM ws acc).getD (acc.length+j) 0=qP G5 es∧∀e,e<acc.length+j→G5.getD e 0=(vM ws acc).getD e 0
  |[],acc,j,es,h=>by simp at h
  |es0::ws,acc,0,es,h=>by
   simp at h;subst h;refine⟨acc, ?_,fun e he=> ?_⟩
   · rw[vM,rR _ _ _ (by simp)]
     simp[List.getD]
   · rw[vM,rR _ _ _ (by simp;omega)]
     simp[List.getD,List.getElem?_append_left (show e<acc.length by omega)]
  |es0::ws,acc,j+1,es,h=>by
   obtain⟨G5,h1,h2⟩:=D4 ws (acc++[qP acc es0]) j es (by simpa using h);refine⟨G5, ?_,fun e he=> ?_⟩
   · rw[vM,←h1];congr 1;simp;omega
   · rw[vM,h2 e (by simp;omega)]
def p4 (ops:Array Oper) (D:Nat->Bool):Prop:=∀j o,D j=true->ops[j]?=some o->∀e∈fP o,D e=true
theorem iC {ops:Array Oper} (aj:∀j o,ops[j]?=some o→∀e∈fP o,e<j) {D:Nat→Bool} (hc:p4 ops D):
    ∀(j i:Nat) (o:Oper),ops[j]?=some o→(∀e∈fP o,D e=true)→oz (hQ ops) j i=true →D i=true :=by
  intro j
  induction j using Nat.strongRecOn with
  |_ j ih=>
   intro i o ho hw ht;unfold oz hQ at ht;have jC:(ops.toList.map fP)[j]?=some (fP o):=by simp[ho]
   obtain⟨G5,h1,h2⟩:=D4 (ops.toList.map fP) [] j _ jC;simp only[List.length_nil,Nat.zero_add]at h1 h2;rw[h1,Dn]at ht;obtain⟨e,he,hi⟩:=ht;rcases hi with rfl|hi
   · exact hw _ he
   · have hej:=aj j o ho e he
     have me:j<ops.size:=(Array.getElem?_eq_some_iff.1 ho).1;have hoe:ops[e]?=some (ops[e]'(by omega)):=by simp[show e<ops.size by omega]
     rw[h2 e hej]at hi;exact ih e hej i _ hoe (hc e _ (hw e he) hoe) hi
def jD (ops:Array Oper) (i:Nat):Option Nat:=(ops[i]?).bind (·.dst)
def fR (outs:Nat->Out) (i:Nat):Bool:=match outs i with| .new ..=>true|_=>false
def oc (outs:Nat->Out) (i:Nat):Bool:=match outs i with| .gu ..=>true|_=>false
def cD (outs:Nat->Out) (i:Nat):Nat:=((List.range i).filter (fR outs)).length
def valOf (outs:Nat->Out) (b:Nat) (i:Nat):AV:=match outs i with| .val v=>v| .new _ mk=>mk (b+cD outs i)| .gu v _=>v| .mH _ v _=>v
def gR (outs:Nat→Out) (H0:List AO) (D:Nat→Bool):Nat→List AO
  |0=>H0
  |i+1=>match outs i with
   | .gu _ Hc=>if D i then Hc else gR outs H0 D i
   |_ =>gR outs H0 D i
def vQ (ops:Array Oper) (m t:Nat):Option Nat:=(List.range m).find? fun i=>decide (jD ops i=some t)
def eD (lv:List Nat) (ops:Array Oper) (m:Nat) (outs:Nat->Out) (s0:St) (D:Nat->Bool) (t:Nat):AV:=
 match vQ ops m t with
 |some i=>if D i then valOf outs s0.H.length i else s0.get (fO lv t)
 |none=>s0.get (fO lv t)
def nD (outs:Nat→Out) (D:Nat→Bool):Nat→List AO
  |0=>[]
  |i+1=>match outs i with
   | .new ob _ =>nD outs D i++[if D i then ob else .iP]
   | .mH k _ ob=>if D i then(nD outs D i).set k ob else nD outs D i
   |_ =>nD outs D i
def dY (m:Nat) (outs:Nat->Out) (D:Nat->Bool):List AO:=nD outs D m
def jE (outs:Nat->Out) (i:Nat):Bool:=match outs i with| .mH ..=>true|_=>false
def y8 (outs:Nat->Out) (D:Nat->Bool):Prop:=∀(j k:Nat) v ob,outs j=.mH k v ob->D j=true->∀i,fR outs i=true->cD outs i=k->D i=true
theorem nb (outs:Nat->Out) (i:Nat):cD outs (i+1)=cD outs i+if fR outs i then 1 else 0:=by
 unfold cD;rw[List.range_succ,List.filter_append,List.length_append];by_cases h:fR outs i=true <;>simp[h]
theorem kV (outs:Nat→Out) {i n:Nat} (h:i≤n):cD outs i≤cD outs n:=by
  induction n with
  |zero=>rw[Nat.le_zero.1 h];exact Nat.le_refl _
  |succ n ih=>
   by_cases e:i=n+1
   · rw[e];exact Nat.le_refl _
   · have :=ih (by omega)
     rw[nb];omega
theorem jJ (outs:Nat→Out) (D:Nat→Bool):∀n,(nD outs D n).length=cD outs n
  |0=>rfl
  |n+1=>by
   have ih:=jJ outs D n;rw[nb];unfold nD
   cases ho:outs n with
   |new ob mk=>simp[fR,ho,ih]
   |mH k v ob=>
    simp only[fR,ho]
    split <;>simp[ih]
   |_ =>simp[fR,ho,ih]
theorem qU {outs:Nat→Out} {D D':Nat→Bool}:∀{n:Nat},(∀i,i<n→D i=D' i)→nD outs D n=nD outs D' n
  |0,_ =>rfl
  |n+1,h=>by
   have ih:=qU (outs:=outs) (n:=n) (fun i hi=>h i (by omega));unfold nD;rw[ih,h n (by omega)]
def writes (ops:Array Oper) (m:Nat) (outs:Nat->Out) (b:Nat) (D:Nat->Bool):En:=
 (List.range m).filterMap fun i=>match jD ops i with
  |some t=>if D i then some (t,valOf outs b i)else none
  |none=>none
def SD (ops:Array Oper) (m:Nat) (outs:Nat->Out) (s0:St) (D:Nat->Bool):St:=
 ⟨writes ops m outs s0.H.length D++s0.L,writes ops m outs s0.H.length D++s0.T,gR outs s0.H D m++dY m outs D⟩
def G6 (ops:Array Oper) (m:Nat):Prop:=∀i j t,i<m->j<m->jD ops i=some t->jD ops j=some t->i=j
theorem E9 (key:Nat→Option Nat) (val:Nat→AV) (D:Nat→Bool) (B:En) (t:Nat) (l:List Nat):
    dZ (l.filterMap (fun i=>match key i with|some k=>if D i then some (k,val i)else none|none =>none)++B) t=
      match l.find? (fun i=>decide (key i=some t)&&D i)with
      |some i=>val i
      |none =>dZ B t:=by
  induction l with
  |nil=>rfl
  |cons i l ih=>
   rw[List.filterMap_cons,List.find?_cons]
   cases hk:key i with
   |none =>simp only[ih];simp
   |some k=>
    by_cases hD:D i=true
    · simp only[hD,if_true,List.cons_append,wb,Bool.and_true]
      by_cases e:k=t
      · subst e;simp
      · rw[if_neg e,ih]
        simp[e]
    · simp only[hD,Bool.false_eq_true,if_false,Bool.and_false,ih]
theorem I4 {l:List Nat} {p D:Nat→Bool} (hu:∀i∈l,∀j∈l,p i=true →p j=true →i=j):
    l.find? (fun i=>p i&&D i)=match l.find? p with|some i=>if D i then some i else none|none =>none :=by
  induction l with
  |nil=>rfl
  |cons i l ih=>
   have ih':=ih (fun a ha b hb=>hu a (List.mem_cons_of_mem _ ha) b (List.mem_cons_of_mem _ hb));rw[List.find?_cons,List.find?_cons];by_cases hp:p i=true
   · simp only[hp,Bool.true_and]
     by_cases hD:D i=true
     · simp[hD]
     · simp only[hD,Bool.false_eq_true,if_false]
       rw[ih']
       cases hf:l.find? p with
       |none =>rfl
       |some j=>
        have h1:=List.mem_of_find?_eq_some hf;have h2:=List.find?_some hf;have :=hu i (by simp) j (List.mem_cons_of_mem _ h1) hp h2;subst this;simp[hD]
   · simp only[hp,Bool.false_and]
     exact ih'
section
variable {ops:Array Oper} {m:Nat} {outs:Nat->Out} {s0:St}
theorem Fa {t j:Nat} (h:vQ ops m t=some j):j<m/\jD ops j=some t:=by
 have h1:=List.mem_of_find?_eq_some h;have h2:=List.find?_some h;exact⟨by simpa using h1,by simpa using h2⟩
theorem adf (hu:G6 ops m) {t i:Nat} (hi:i<m) (hd:jD ops i=some t):vQ ops m t=some i:=by
  cases h:vQ ops m t with
  |none =>
   have :=List.find?_eq_none.1 h i (by simpa using hi)
   simp[hd]at this
  |some j=>
   obtain⟨h1,h2⟩:=Fa h;rw[hu i j t hi h1 hd h2]
theorem jK (hu:G6 ops m) (D:Nat->Bool) (t:Nat):(SD ops m outs s0 D).get (fO lv t)=eD lv ops m outs s0 D t:=by
 have key:∀B:En,dZ (writes ops m outs s0.H.length D++B) t=match vQ ops m t with
   |some i=>if D i then valOf outs s0.H.length i else dZ B t
   |none=>dZ B t:=by
  intro B;unfold writes;rw[E9,I4 (p:=fun i=>decide (jD ops i=some t)) (fun i hi j hj h1 h2=>hu i j t (by simpa using hi) (by simpa using hj) (by simpa using h1) (by simpa using h2))];show(match(match vQ ops m t with|some i=>if D i then some i else none|none=>none)with|some i=>valOf outs s0.H.length i|none=>dZ B t)=_
  cases vQ ops m t with
  |none=>rfl
  |some i=>by_cases hD:D i=true <;>simp[hD]
 unfold eD;unfold fO;split
 ·show dZ (writes ops m outs s0.H.length D++s0.L) t=_
  rw[key];rfl
 ·show dZ (writes ops m outs s0.H.length D++s0.T) t=_
  rw[key];rfl
def below (i:Nat):Nat->Bool:=fun j=>decide (j<i)
def bY (D:Nat->Bool) (i:Nat):Nat->Bool:=fun j=>D j||decide (j=i)
theorem lM (hu:G6 ops m) {D:Nat→Bool} {i:Nat} (hi:i<m) (t:Nat):
    eD lv ops m outs s0 (bY D i) t=if jD ops i=some t then valOf outs s0.H.length i else eD lv ops m outs s0 D t:=by
  unfold eD;by_cases hd:jD ops i=some t
  · rw[if_pos hd,adf hu hi hd]
    simp[bY]
  · rw[if_neg hd]
    cases hw:vQ ops m t with
    |none =>rfl
    |some j=>
     have hj:=(Fa hw).2;have cX:j≠i:=fun e=>hd (e▸hj)
     simp[bY,cX]
theorem mI {H0:List AO} {D D':Nat→Bool}:∀{n:Nat},(∀j,j<n→oc outs j=true →D j=D' j)→gR outs H0 D n=gR outs H0 D' n
  |0,_ =>rfl
  |n+1,h=>by
   have ih:=mI (H0:=H0) (n:=n) (fun j hj hc=>h j (by omega) hc);unfold gR
   cases ho:outs n with
   |gu v Hc=>simp only[h n (by omega) (by simp[oc,ho]),ih]
   |_ =>simp only[ih]
theorem xF {H0:List AO} {D:Nat→Bool} {i:Nat}:∀{n:Nat},i≤n→(∀j,i≤j→j<n→oc outs j=true →D j=false)→gR outs H0 D n=gR outs H0 D i
  |0,hi,_ =>by rw[Nat.le_zero.1 hi]
  |n+1,hi,h=>by
   by_cases e:i=n+1
   · rw[e]
   · have ih:=xF (H0:=H0) (n:=n) (by omega) (fun j h1 h2=>h j h1 (by omega))
     rw[←ih];show(match outs n with| .gu _ Hc=>if D n then Hc else gR outs H0 D n|_ =>gR outs H0 D n)=_
     cases ho:outs n with
     |gu v Hc=>simp only[h n (by omega) (by omega) (by simp[oc,ho]),Bool.false_eq_true,if_false]
     |_ =>rfl
theorem BU {H0:List AO} {D:Nat→Bool} {p:List AO→Prop} (h0:p H0):∀{n:Nat},(∀j v Hc,j<n→outs j= .gu v Hc→p Hc)→p (gR outs H0 D n)
  |0,_ =>h0
  |n+1,h=>by
   have ih:=BU (D:=D) h0 (n:=n) (fun j v Hc hj ho=>h j v Hc (by omega) ho);unfold gR
   cases ho:outs n with
   |gu v Hc=>
    simp only[];split
    · exact h n v Hc (by omega) ho
    · exact ih
   |_ =>exact ih
theorem canon (pre :List MI) (hu:G6 ops m) (hd:∀i,i<m→∃o,pre[i]?=some o∧o.dst=cB lv (jD ops i)) (hlen:∀i v Hc,i<m→outs i= .gu v Hc→Hc.length=s0.H.length):
    ∀i,i≤m→(gV pre outs (s0.H,⟨s0.L,s0.T,[]⟩) i).1=gR outs s0.H (fun _ =>true) i∧(gV pre outs (s0.H,⟨s0.L,s0.T,[]⟩) i).1.length=s0.H.length∧(gV pre outs (s0.H,⟨s0.L,s0.T,[]⟩) i).2.H=nD outs (fun _ =>true) i∧
      ∀t,(gV pre outs (s0.H,⟨s0.L,s0.T,[]⟩) i).2.get (fO lv t)=eD lv ops m outs s0 (below i) t:=by
  intro i
  induction i with
  |zero=>
   intro _;refine⟨rfl,rfl,rfl,fun t=> ?_⟩;unfold eD;have :(gV pre outs (s0.H,⟨s0.L,s0.T,[]⟩) 0).2.get (fO lv t)=s0.get (fO lv t):=oa _ _ _ _ _;rw[this]
   cases vQ ops m t<;>simp[below]
  |succ i ih=>
   intro hi;obtain⟨h0,hl,h1,h2⟩:=ih (by omega);obtain⟨o,ho,D5⟩:=hd i (by omega)
   have hb:below (i+1)=bY (below i) i:=by
     funext j
     simp only[below,bY];by_cases hj:j<i
     · simp[hj,show j<i+1 by omega]
     · by_cases e:j=i
       · simp[e]
       · simp[hj,e];omega
   rw[hb];simp only[gV,ho,D5]
   cases dh:outs i with
   |val v=>
    have hn:fR outs i=false :=by simp[fR,dh]
    refine⟨by simp only[gg,h0,gR,dh],hl,by simp[gg,tJ,h1,nD,dh],fun t=> ?_⟩;rw[lM hu (by omega)];simp only[gg,lL,h2 t]
    simp[valOf,dh]
   |gu v Hc=>
    have hn:fR outs i=false :=by simp[fR,dh]
    refine⟨by simp[gg,gR,dh],hlen i v Hc (by omega) dh,by simp[gg,tJ,h1,nD,dh],fun t=> ?_⟩;rw[lM hu (by omega)];simp only[gg,lL,h2 t]
    simp[valOf,dh]
   |new ob mk=>
    have hn:fR outs i=true :=by simp[fR,dh]
    refine⟨by simp only[gg,h0,gR,dh],hl,by simp[gg,tJ,h1,nD,dh],fun t=> ?_⟩;rw[lM hu (by omega)];simp only[gg,lL];rw[oa _ _ _ (gV pre outs (s0.H,⟨s0.L,s0.T,[]⟩) i).2.H];have e1:(⟨(gV pre outs (s0.H,⟨s0.L,s0.T,[]⟩) i).2.L,(gV pre outs (s0.H,⟨s0.L,s0.T,[]⟩) i).2.T,(gV pre outs (s0.H,⟨s0.L,s0.T,[]⟩) i).2.H⟩:St).get (fO lv t)=eD lv ops m outs s0 (below i) t:=h2 t;rw[e1]
    have e2:mk ((gV pre outs (s0.H,⟨s0.L,s0.T,[]⟩) i).1.length+(gV pre outs (s0.H,⟨s0.L,s0.T,[]⟩) i).2.H.length)=valOf outs s0.H.length i:=by
      simp[valOf,dh,h1,hl,jJ]
    rw[e2]
   |mH k v ob=>
    refine⟨by simp only[gg,h0,gR,dh],hl,by simp[gg,tJ,h1,nD,dh],fun t=> ?_⟩;rw[lM hu (by omega)];simp only[gg,lL];rw[oa _ _ _ (gV pre outs (s0.H,⟨s0.L,s0.T,[]⟩) i).2.H];have e1:(⟨(gV pre outs (s0.H,⟨s0.L,s0.T,[]⟩) i).2.L,(gV pre outs (s0.H,⟨s0.L,s0.T,[]⟩) i).2.T,(gV pre outs (s0.H,⟨s0.L,s0.T,[]⟩) i).2.H⟩:St).get (fO lv t)=eD lv ops m outs s0 (below i) t:=h2 t;rw[e1];simp[valOf,dh]
theorem wv {i:Nat} (hi:i<m) (hn:fR outs i=true) {D:Nat→Bool} (hD:D i=false) (hU:y8 outs D):(dY m outs D)[cD outs i]?=some .iP:=by
  have key:∀n,i+1≤n→(nD outs D n)[cD outs i]?=some .iP:=by
    intro n vy
    induction n with
    |zero=>omega
    |succ n ih=>
     by_cases e:n=i
     · subst e
       unfold nD
       cases ho:outs n with
       |new ob mk=>
        simp only[hD,Bool.false_eq_true,if_false];rw[List.getElem?_append_right (by rw[jJ];exact Nat.le_refl _),jJ]
        simp
       |_ =>simp[fR,ho]at hn
     · have ih:=ih (by omega)
       unfold nD
       cases ho:outs n with
       |new ob mk=>
        simp only
        rw[List.getElem?_append_left (List.getElem?_eq_some_iff.1 ih).1];exact ih
       |mH k v ob=>
        simp only;split
        · rename_i hd
          have hk:k≠cD outs i:=by
            intro ek;have :=hU n k v ob ho hd i hn ek.symm;rw[hD]at this;cases this
          rw[List.getElem?_set_ne hk];exact ih
        · exact ih
       |_ =>exact ih
  exact key m hi
theorem I5 {i:Nat} (hi:i<m) {ob:AO} {mk:Nat→AV} (ho:outs i= .new ob mk) {D:Nat→Bool} (hD:D i=false) (hU:y8 outs D):(dY m outs D).set (cD outs i) ob=dY m outs (bY D i):=by
  have hn:fR outs i=true :=by simp[fR,ho]
  have key:∀n,i+1≤n→(nD outs D n).set (cD outs i) ob=nD outs (bY D i) n:=by
    intro n vy
    induction n with
    |zero=>omega
    |succ n ih=>
     by_cases e:n=i
     · subst e
       have hc:nD outs (bY D n) n=nD outs D n:=qU fun j hj=>by simp[bY];omega
       unfold nD;rw[ho];simp only[hc,hD,Bool.false_eq_true,if_false];rw[List.set_append_right _ _ (by rw[jJ];exact Nat.le_refl _),jJ];simp[bY]
     · have ih:=ih (by omega)
       have hw:bY D i n=D n:=by simp[bY,e]
       have aj:cD outs i<(nD outs D n).length:=by
         rw[jJ];have h1:=kV outs (show i+1≤n by omega);rw[nb,hn]at h1;simp at h1;omega
       unfold nD;rw[hw]
       cases I6:outs n with
       |new y9 mk'=>
        simp only
        rw[List.set_append_left _ _ aj,ih]
       |mH k v y9=>
        simp only;split
        · rename_i hd
          have hk:k≠cD outs i:=by
            intro ek;have :=hU n k v y9 I6 hd i hn ek.symm;rw[hD]at this;cases this
          rw[←ih,List.set_comm _ _ hk]
        · exact ih
       |_ =>exact ih
  exact key m hi
theorem BV {i k:Nat} {v:AV} {ob:AO} (hi:i<m) (ho:outs i= .mH k v ob) {D:Nat→Bool} (hD:D i=false) (hk:k<cD outs i) (hl:∀j,i<j→j<m→jE outs j=true →D j=false):(dY m outs D).set k ob=dY m outs (bY D i):=by
  have key:∀n,i+1≤n→n≤m→(nD outs D n).set k ob=nD outs (bY D i) n:=by
    intro n vy xA
    induction n with
    |zero=>omega
    |succ n ih=>
     by_cases e:n=i
     · subst e
       have hc:nD outs (bY D n) n=nD outs D n:=qU fun j hj=>by simp[bY];omega
       unfold nD;rw[ho];simp[hc,hD,bY]
     · have ih:=ih (by omega) (by omega)
       have hw:bY D i n=D n:=by simp[bY,e]
       have aj:k<(nD outs D n).length:=by
         rw[jJ];have h1:=kV outs (show i≤n by omega);omega
       unfold nD;rw[hw]
       cases I6:outs n with
       |new y9 mk'=>
        simp only
        rw[List.set_append_left _ _ aj,ih]
       |mH k' v' y9=>
        have :=hl n (by omega) (by omega) (by simp[jE,I6]);simp only[this,Bool.false_eq_true,if_false]
        exact ih
       |_ =>exact ih
  exact key m hi (Nat.le_refl _)
theorem za {i:Nat} (hi:i≤m) {D:Nat→Bool} (PR:∀j,j<m→jE outs j=true →D j=below i j) {k:Nat} {ob:AO} (hk:(nD outs (fun _ =>true) i)[k]?=some ob):(dY m outs D)[k]?=some ob∨(dY m outs D)[k]?=some AO.iP:=by
  have h1:∀n:Nat,n≤i→∀k:Nat,(nD outs D n)[k]?=(nD outs (fun _ =>true) n)[k]?∨(nD outs D n)[k]?=some AO.iP:=by
    intro n
    induction n with
    |zero=>intro _ k;exact .inl rfl
    |succ n ih=>
     intro hn k;have ih:=ih (by omega);have l1:=jJ outs D n;have l2:=jJ outs (fun _ =>true) n;unfold nD
     cases I6:outs n with
     |new y9 mk'=>
      simp only[if_true];by_cases aj:k<cD outs n
      · rw[List.getElem?_append_left (by omega),List.getElem?_append_left (by omega)];exact ih k
      · rw[List.getElem?_append_right (by omega),List.getElem?_append_right (by omega),l1,l2]
        by_cases e:k-cD outs n=0
        · rw[e]
          by_cases hd:D n=true
          · simp[hd]
          · simp[hd]
        · left
          rw[List.getElem?_eq_none (by simp;omega),List.getElem?_eq_none (by simp;omega)]
     |mH k' v y9=>
      have hd:=PR n (by omega) (by simp[jE,I6]);have hb:below i n=true :=by simp[below];omega
      simp only[hd,hb,if_true];by_cases e:k'=k
      · subst e
        by_cases aj:k'<cD outs n
        · left;rw[List.getElem?_set_self (by omega),List.getElem?_set_self (by omega)]
        · rw[List.set_eq_of_length_le (by omega),List.set_eq_of_length_le (by omega)];exact ih _
      · rw[List.getElem?_set_ne e,List.getElem?_set_ne e];exact ih k
     |_ =>exact ih k
  have aj:k<cD outs i:=by rw[←jJ outs (fun _ =>true)];exact(List.getElem?_eq_some_iff.1 hk).1
  have h2:∀n:Nat,i≤n→n≤m→(nD outs D n)[k]?=(nD outs D i)[k]?:=by
    intro n
    induction n with
    |zero=>intro h0 _;rw[Nat.le_zero.1 h0]
    |succ n ih=>
     intro hn xA;by_cases e:i=n+1
     · rw[e]
     · have ih:=ih (by omega) (by omega)
       have hl:k<(nD outs D n).length:=by
         rw[jJ];have :=kV outs (show i≤n by omega);omega
       rw[←ih]
       conv =>lhs;unfold nD
       cases I6:outs n with
       |new y9 mk'=>simp only;rw[List.getElem?_append_left hl]
       |mH k' v y9=>
        have hd:=PR n (by omega) (by simp[jE,I6]);have hb:below i n=false :=by simp[below];omega
        simp only[hd,hb,Bool.false_eq_true,if_false]
       |_ =>rfl
  have h3:=h1 i (Nat.le_refl _) k;rw[hk]at h3;show(nD outs D m)[k]?=_ ∨(nD outs D m)[k]?=_;rw[h2 m hi (Nat.le_refl _)];exact h3
end
end Go.AM
