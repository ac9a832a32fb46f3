/- Regions whose order is drawn: single operations, moved to another state. -/
import Derived.Test.YtjkbbnfdbfcebaaGreatDoorAm16
set_option linter.all false
namespace Go.AM
variable {lv:List Nat} {P:Program} {N:Nat} {K:St->Prop} {θ:Th} {W:Im} {ops:Array Oper} {C:ja}
def MO.args:MO->List MA
 | .mv x=>[x]| .pick a b c=>[a,b,c]| .alloc _=>[]| .box _ x=>[x]
 | .build _ ps=>ps.map (·.2.2)| .C9 _ _ _ ps=>ps.map (·.2)
 | .ld _ _ x=>[x]| .pQ _ x v=>[x,v]| .Aa x=>[x]| .bin _ x y=>[x,y]| .un _ x=>[x]| .conv _ x=>[x]| .sN x=>[x]| .qM x=>[x]
 | .GA _ cs=>cs| .Da _ _ _ l c=>[l,c]| .tg _ x lo hi=>x::(lo.toList++hi.toList)| .GB _ x=>[x]| .GC _ _ _ x=>[x]
 | .Bg _ x i=>[x,i]| .Bi _ _ x i=>[x,i]| .Bj x i=>[x,i]| .ext x _=>[x]| .call _ as=>as| .sH x as=>x::as
 | .app _ _ x y=>[x,y]| .oo _ _ x y=>[x,y]| .qN _ x v=>[x,v]| .len _ x=>[x]| .Ab _ x=>[x]| .cap x=>[x]| .L5 _ _ x n=>[x,n]| .ET _ x y=>[x,y]| .beq _ x y=>[x,y]| .tj _ _ x=>[x]| .sq _ _ x y=>[x,y]| .EU _ x=>[x]| .stop=>[]
def Agree (l:List MA) (s s':St):Prop:=∀x∈l,s.get x=s'.get x
theorem Agree.fw {l:List MA} {s s':St} (h:Agree l s s'):fw s l=fw s' l:=by
  induction l with
  |nil=>rfl
  |cons x l ih=>
   rw[By,By,h x (by simp),ih (fun y hy=>h y (List.mem_cons_of_mem _ hy))]
theorem Agree.parts {ps:List (Nat×Nat×MA)} {s s':St} (h:Agree (ps.map (·.2.2)) s s'):∀z,mY s ps z=mY s' ps z:=by
  induction ps with
  |nil=>intro z;rfl
  |cons p ps ih=>
   obtain⟨o,n,x⟩:=p;intro z;have h1:s.get x=s'.get x:=h x (by simp);have h2:=ih (fun y hy=>h y (List.mem_cons_of_mem _ hy));rw[rH,rH,h1];split
   · congr 1
     funext z'
     exact h2 z'
   · rfl
theorem Agree.rows {sz:Nat} {ps:List (Nat×MA)} {s s':St} (h:Agree (ps.map (·.2)) s s'):∀rs,kL s sz ps rs=kL s' sz ps rs:=by
  induction ps with
  |nil=>intro z;rfl
  |cons p ps ih=>
   obtain⟨n,x⟩:=p;intro rs;have h1:s.get x=s'.get x:=h x (by simp);have h2:=ih (fun y hy=>h y (List.mem_cons_of_mem _ hy));rw[tC,tC,h1];split
   · exact h2 _
   · rfl
theorem fg {x:Option AV} {d:MD} {s:St} (h:bK x d K s):∃v,K (s.put d v)/\∀s',bK x d (fun t=>t=s'.put d v) s':=by
 obtain⟨v,rfl,h⟩:=dw h;exact⟨v,h,fun s'=>rfl⟩
theorem rO {lo hi:Option AV} {n:Nat} {R:Nat->Nat->Prop} (h:mo lo hi n R):∃a b,R a b/\∀R':Nat->Nat->Prop,R' a b->mo lo hi n R':=by
 unfold mo at h;split at h
 ·exact⟨_,_,h,fun R' h'=>h'⟩
 ·obtain⟨h1,h2,h3⟩:=h;exact⟨_,_,h3,fun R' h'=>⟨h1,h2,h'⟩⟩
 ·obtain⟨h1,h2,h3⟩:=h;exact⟨_,_,h3,fun R' h'=>⟨h1,h2,h'⟩⟩
 ·obtain⟨h1,h2,h3,h4⟩:=h;exact⟨_,_,h4,fun R' h'=>⟨h1,h2,h3,h'⟩⟩
 ·exact h.elim
theorem W8 (st:St) (d:MD) (g n x):bo C (.ld g n x) d K st=bK (vw g n (ly st.H (st.get x))) d K st:=rfl
theorem PG (st:St) (d:MD) (x):bo C (.sN x) d K st=bK (pY st.H (st.get x)) d K st:=rfl
theorem PH (st:St) (d:MD) (k x lo hi):bo C (.tg k x lo hi) d K st=mq k (st.get x) (lo.map st.get) (hi.map st.get) d K st:=rfl
theorem Nn {H H':List AO} (h:bP H H') {x:AV} {cs:List AV} (hl:ly H x=some cs):ly H' x=some cs:=by
 unfold ly at hl⊢;split at hl
 ·split at hl
  ·rename_i hid;rw[h _ _ hid (fun e=>by cases e)];exact hl
  ·cases hl
 ·split at hl
  ·rename_i hid;rw[h _ _ hid (fun e=>by cases e)];exact hl
  ·cases hl
 ·exact hl
 ·cases hl
theorem rP {H H':List AO} (h:bP H H') {sz:Nat} {x:AV} {ys:List (List AV)} (hl:dt H sz x=some ys):dt H' sz x=some ys:=by
 unfold dt at hl⊢;split at hl
 ·exact hl
 ·exact hl
 ·exact hl
 ·unfold oq at hl⊢
  split at hl
  ·rename_i hid;rw[h _ _ hid (fun e=>by cases e)];exact hl
  ·cases hl
 ·cases hl
theorem No {H H':List AO} (h:bP H H') {x v:AV} (hl:pY H x=some v):pY H' x=some v:=by
 have inv:∀y,ot (dt H 1 y)=some v->ot (dt H' 1 y)=some v:=by
  intro y hy
  cases hs:dt H 1 y with
  |none=>rw[hs]at hy;cases hy
  |some ys=>rw[hs]at hy;rw[rP h hs];exact hy
 unfold pY at hl⊢;split at hl
 ·exact inv _ hl
 ·exact hl
 ·exact inv _ hl
 ·cases hl
theorem I1 {o:MO} {d:MD} {s:St} (hq:kindOf o= .quiet) (h:bo C o d K s):
    ∃v,K (s.put d v)∧∀s',Agree o.args s s'→bP s.H s'.H→bo C o d (fun t=>t=s'.put d v) s':=by
  cases o with
  |mv x=>exact⟨s.get x,h,fun s' ha _ =>by rw[acC,ha x (by simp[MO.args])]⟩
  |pick c x y=>
   obtain⟨v,h1,h2⟩:=fg h;refine⟨v,h1,fun s' ha _ => ?_⟩;rw[Pa,←ha c (by simp[MO.args]),←ha x (by simp[MO.args]),←ha y (by simp[MO.args])]
   exact h2 s'
  |build z ps=>
   obtain⟨v,h1,h2⟩:=fg h;refine⟨v,h1,fun s' ha _ => ?_⟩;have e:uM s' z ps=uM s z ps:=by rw[wc,wc,Agree.parts ha]
   rw[Nb,e]
   exact h2 s'
  |ld g n x=>
   obtain⟨v,hv,h1⟩:=dw h;refine⟨v,h1,fun s' ha he=> ?_⟩;rw[W8,←ha x (by simp[MO.args])]
   cases hl:ly s.H (s.get x)with
   |none =>rw[hl]at hv;cases hv
   |some cs=>rw[Nn he hl,←hl,hv];rfl
  |Aa x=>
   obtain⟨v,h1,h2⟩:=fg h;refine⟨v,h1,fun s' ha _ => ?_⟩;rw[Pb,←ha x (by simp[MO.args])]
   exact h2 s'
  |bin op x y=>
   rw[rG]at h;have hx:∀s',Agree (MO.args (.bin op x y)) s s'→s'.get x=s.get x∧s'.get y=s.get y:=fun s' ha=>⟨(ha x (by simp[MO.args])).symm,(ha y (by simp[MO.args])).symm⟩
   unfold de at h;split at h
   · rename_i v hv
     refine⟨v,h,fun s' ha _ => ?_⟩;rw[rG,(hx s' ha).1,(hx s' ha).2];unfold de;rw[hv]
   · rename_i hv
     unfold vZ at h;split at h
     · rename_i a b e1 e2
       refine⟨_,h.2,fun s' ha _ => ?_⟩;rw[rG,(hx s' ha).1,(hx s' ha).2];unfold de;rw[hv];rw[e1,e2];exact⟨h.1,rfl⟩
     · rename_i k a k' b e1 e2
       refine⟨_,h.2.2,fun s' ha _ => ?_⟩;rw[rG,(hx s' ha).1,(hx s' ha).2];unfold de;rw[hv];rw[e1,e2];exact⟨h.1,h.2.1,rfl⟩
     · rename_i k a k' b e1 e2
       refine⟨_,h.2.2,fun s' ha _ => ?_⟩;rw[rG,(hx s' ha).1,(hx s' ha).2];unfold de;rw[hv];rw[e1,e2];exact⟨h.1,h.2.1,rfl⟩
     · rename_i k a k' b e1 e2
       refine⟨_,h.2,fun s' ha _ => ?_⟩;rw[rG,(hx s' ha).1,(hx s' ha).2];unfold de;rw[hv];rw[e1,e2];exact⟨h.1,rfl⟩
     · rename_i k a k' b e1 e2
       refine⟨_,h.2,fun s' ha _ => ?_⟩;rw[rG,(hx s' ha).1,(hx s' ha).2];unfold de;rw[hv];rw[e1,e2];exact⟨h.1,rfl⟩
     · exact h.elim
  |un op x=>
   obtain⟨v,h1,h2⟩:=fg h;refine⟨v,h1,fun s' ha _ => ?_⟩;rw[acD,←ha x (by simp[MO.args])]
   exact h2 s'
  |conv k x=>
   obtain⟨v,h1,h2⟩:=fg h;refine⟨v,h1,fun s' ha _ => ?_⟩;rw[Pc,←ha x (by simp[MO.args])]
   exact h2 s'
  |sN x=>
   obtain⟨v,hv,h1⟩:=dw h;refine⟨v,h1,fun s' ha he=> ?_⟩;rw[PG,←ha x (by simp[MO.args]),No he hv]
   rfl
  |GA f cs=>exact⟨.fI f (fw s cs),h,fun s' ha _ =>by rw[WB,Agree.fw (l:=cs) ha]⟩
  |tg k x lo hi=>
   have hx:∀s',Agree (MO.args (.tg k x lo hi)) s s'→s'.get x=s.get x∧lo.map s'.get=lo.map s.get∧hi.map s'.get=hi.map s.get:=by
     intro s' ha;refine⟨(ha x (by simp[MO.args])).symm, ?_, ?_⟩
     · cases lo with
       |none =>rfl
       |some y=>simp[(ha y (by simp[MO.args])).symm]
     · cases hi with
       |none =>rfl
       |some y=>simp[(ha y (by simp[MO.args])).symm]
   change mq k (s.get x) (lo.map s.get) (hi.map s.get) d K s at h
   have fin:∀v,(∀s',bP s.H s'.H→mq k (s.get x) (lo.map s.get) (hi.map s.get) d (fun t=>t=s'.put d v) s')→∀s',Agree (MO.args (.tg k x lo hi)) s s'→bP s.H s'.H→bo C (.tg k x lo hi) d (fun t=>t=s'.put d v) s':=by
     intro v hv s' ha he;obtain⟨e1,e2,e3⟩:=hx s' ha;rw[PH,e1,e2,e3];exact hv s' he
   generalize s.get x=y at h fin;unfold mq at h;split at h
   · obtain⟨a,b,h1,h2⟩:=rO h.2
     exact⟨_,h1,fin _ (fun s' _ =>⟨h.1,h2 _ rfl⟩)⟩
   · obtain⟨a,b,h1,h2⟩:=rO h
     exact⟨_,h1,fin _ (fun s' _ =>by rw[WK];exact h2 _ rfl)⟩
   · obtain⟨a,b,h1,h2⟩:=rO h
     exact⟨_,h1,fin _ (fun s' _ =>by rw[Pe];exact h2 _ rfl)⟩
   · unfold DM at h
     split at h
     · rename_i hid
       obtain⟨q1,q2,h⟩:=h;obtain⟨a,b,h1,h2⟩:=rO h;refine⟨_,h1,fin _ (fun s' he=> ?_)⟩;simp only[mq,DM];rw[he _ _ hid (fun e=>by cases e)];exact⟨q1,q2,h2 _ rfl⟩
     · exact h.elim
   · exact h.elim
  |GB off x=>
   obtain⟨v,h1,h2⟩:=fg h;refine⟨v,h1,fun s' ha _ => ?_⟩;rw[WC,←ha x (by simp[MO.args])]
   exact h2 s'
  |GC g off n x=>
   rw[EX]at h;obtain⟨v,h1,h2⟩:=fg h;refine⟨v,h1,fun s' ha _ => ?_⟩;rw[EX,←ha x (by simp[MO.args])]
   exact h2 s'
  |Bg sz x i=>
   have hx:∀s',Agree (MO.args (.Bg sz x i)) s s'→s'.get x=s.get x∧s'.get i=s.get i:=fun s' ha=>⟨(ha x (by simp[MO.args])).symm,(ha i (by simp[MO.args])).symm⟩
   rw[Ma]at h
   have fin:∀v,(∀s',bP s.H s'.H→xp sz (s.get x) (s.get i) d (fun t=>t=s'.put d v) s')→∀s',Agree (MO.args (.Bg sz x i)) s s'→bP s.H s'.H→bo C (.Bg sz x i) d (fun t=>t=s'.put d v) s':=by
     intro v hv s' ha he;obtain⟨e1,e2⟩:=hx s' ha;rw[Ma,e1,e2];exact hv s' he
   generalize s.get x=y at h fin;generalize s.get i=z at h fin;unfold xp at h;split at h
   · split at h
     · obtain⟨q1,r,q2,q3,h⟩:=h
       exact⟨_,h,fin _ (fun s' _ =>⟨q1,r,q2,q3,rfl⟩)⟩
     · obtain⟨q1,q2,h⟩:=h
       split at h
       · rename_i hid
         refine⟨_,h.2.2,fin _ (fun s' he=>⟨q1,q2, ?_⟩)⟩;rw[he _ _ hid (fun e=>by cases e)];exact⟨h.1,h.2.1,rfl⟩
       · exact h.elim
     · exact h.elim
   · exact h.elim
  |Bi len sz x i=>
   have hx:∀s',Agree (MO.args (.Bi len sz x i)) s s'→s'.get x=s.get x∧s'.get i=s.get i:=fun s' ha=>⟨(ha x (by simp[MO.args])).symm,(ha i (by simp[MO.args])).symm⟩
   rw[Mb]at h
   have fin:∀v,(∀s':St,Bl len sz (s.get x) (s.get i) d (fun t=>t=s'.put d v) s')→∀s',Agree (MO.args (.Bi len sz x i)) s s'→bP s.H s'.H→bo C (.Bi len sz x i) d (fun t=>t=s'.put d v) s':=by
     intro v hv s' ha he;obtain⟨e1,e2⟩:=hx s' ha;rw[Mb,e1,e2];exact hv s'
   generalize s.get x=y at h fin;generalize s.get i=z at h fin;unfold Bl at h;split at h
   · split at h
     · exact⟨_,h.2.2,fin _ (fun s'=>⟨h.1,h.2.1,rfl⟩)⟩
     · exact h.elim
   · exact h.elim
  |Bj x i=>
   have hx:∀s',Agree (MO.args (.Bj x i)) s s'→s'.get x=s.get x∧s'.get i=s.get i:=fun s' ha=>⟨(ha x (by simp[MO.args])).symm,(ha i (by simp[MO.args])).symm⟩
   rw[Md]at h
   have fin:∀v,(∀s':St,Bm (s.get x) (s.get i) d (fun t=>t=s'.put d v) s')→∀s',Agree (MO.args (.Bj x i)) s s'→bP s.H s'.H→bo C (.Bj x i) d (fun t=>t=s'.put d v) s':=by
     intro v hv s' ha he;obtain⟨e1,e2⟩:=hx s' ha;rw[Md,e1,e2];exact hv s'
   generalize s.get x=y at h fin;generalize s.get i=z at h fin;unfold Bm at h;split at h
   · split at h
     · obtain⟨q1,c,q2,h⟩:=h
       exact⟨_,h,fin _ (fun s'=>⟨q1,c,q2,rfl⟩)⟩
     · exact h.elim
   · exact h.elim
  |ext x n=>
   obtain⟨v,h1,h2⟩:=fg h;refine⟨v,h1,fun s' ha _ => ?_⟩;rw[WD,←ha x (by simp[MO.args])]
   exact h2 s'
  |Ab t x=>
   obtain⟨v,h1,h2⟩:=fg h;refine⟨v,h1,fun s' ha _ => ?_⟩;rw[O9,←ha x (by simp[MO.args])]
   exact h2 s'
  |cap x=>
   obtain⟨v,h1,h2⟩:=fg h;refine⟨v,h1,fun s' ha _ => ?_⟩;rw[WG,←ha x (by simp[MO.args])]
   exact h2 s'
  |ET m x y=>
   obtain⟨v,h1,h2⟩:=fg h;refine⟨v,h1,fun s' ha _ => ?_⟩;rw[WH,←ha x (by simp[MO.args]),←ha y (by simp[MO.args])]
   exact h2 s'
  |beq m x y=>
   obtain⟨v,h1,h2⟩:=fg h;refine⟨v,h1,fun s' ha _ => ?_⟩;rw[WJ,←ha x (by simp[MO.args]),←ha y (by simp[MO.args])]
   exact h2 s'
  |EU m x=>
   obtain⟨v,h1,h2⟩:=fg h;refine⟨v,h1,fun s' ha _ => ?_⟩;rw[WI,←ha x (by simp[MO.args])]
   exact h2 s'
  |sq m n x y=>
   obtain⟨v,h1,h2⟩:=fg h;refine⟨v,h1,fun s' ha _ => ?_⟩;rw[acI,←ha x (by simp[MO.args]),←ha y (by simp[MO.args])]
   exact h2 s'
  |tj sl m x=>
   change jT sl m (s.get x) d K s at h
   have fin:∀v,(∀s',bP s.H s'.H→jT sl m (s.get x) d (fun t=>t=s'.put d v) s')→∀s',Agree (MO.args (.tj sl m x)) s s'→bP s.H s'.H→bo C (.tj sl m x) d (fun t=>t=s'.put d v) s':=by
     intro v hv s' ha he;rw[Pd,←ha x (by simp[MO.args])];exact hv s' he
   generalize s.get x=y at h fin;unfold jT at h;split at h
   · exact⟨_,h,fin _ (fun s' _ =>rfl)⟩
   · exact⟨_,h.2,fin _ (fun s' _ =>⟨h.1,rfl⟩)⟩
   · unfold yJ at h
     split at h
     · rename_i hid
       refine⟨_,h.2.2,fin _ (fun s' he=> ?_)⟩;simp only[jT,yJ];rw[he _ _ hid (fun e=>by cases e)];exact⟨h.1,h.2.1,trivial⟩
     · exact h.elim
   · exact⟨_,h,fin _ (fun s' _ =>rfl)⟩
   · exact⟨_,h,fin _ (fun s' _ =>rfl)⟩
   · exact⟨_,h,fin _ (fun s' _ =>rfl)⟩
   · exact⟨_,h,fin _ (fun s' _ =>rfl)⟩
   · exact h.elim
  |_ =>cases hq
theorem oC (s:St) (H:List AO) (d:MD) (v:AV):St.put ⟨s.L,s.T,H⟩ d v=⟨(s.put d v).L,(s.put d v).T,H⟩:=by cases d<;>rfl
theorem DY (H A:List AO):bP H (H++A):=fun id o h _=>by
 rw[List.getElem?_append_left (List.getElem?_eq_some_iff.1 h).1];exact h
theorem GX {H H':List AO} {n:Nat} {x v:AV} (A:List AO) (h:nu H n x v=some H'):nu (H++A) n x v=some (H'++A):=by
 unfold nu at h⊢;split at h
 ·rename_i hc
  rw[if_pos hc];split at h
  ·rename_i id off
   split at h
   ·rename_i cs hid
    have aj:=(List.getElem?_eq_some_iff.1 hid).1;rw[Option.map_eq_some_iff]at h;obtain⟨gG,h1,rfl⟩:=h;simp only[List.getElem?_append_left aj,hid,h1,Option.map_some,List.set_append_left _ _ aj]
   ·cases h
  ·rename_i id ver row fL
   split at h
   ·rename_i sz cA rs hid
    have aj:=(List.getElem?_eq_some_iff.1 hid).1;split at h
    ·rename_i hv
     split at h
     ·rename_i r hr
      rw[Option.map_eq_some_iff]at h;obtain⟨r',h1,rfl⟩:=h;simp only[List.getElem?_append_left aj,hid,hr,h1,Option.map_some,List.set_append_left _ _ aj,if_pos hv]
     ·cases h
    ·cases h
   ·cases h
  ·cases h
 ·cases h
theorem GY (st:St) (d:MD) (n x v):bo C (.pQ n x v) d K st=tm (nu st.H n (st.get x) (st.get v)) d K st:=rfl
theorem PI (st:St) (d:MD) (sz b x y):bo C (.app sz b x y) d K st=Ad sz b (st.get x) (dt st.H sz (st.get y)) d K st:=rfl
theorem yW (st:St) (d:MD) (sz b id ver off n ys):mu sz b (.gs id ver off n) ys d K st=Ac sz b id ver off n ys d K st st.H[id]?:=rfl
theorem E5 (st:St) (d:MD) (h):tm (some h) d K st=K (St.put ⟨st.L,st.T,h⟩ d .any):=rfl
theorem PJ {o:MO} {d:MD} {s:St} (hq:kindOf o= .eff) (h:bo C o d K s):
    ∃v H',K ⟨(s.put d v).L,(s.put d v).T,H'⟩∧(H'.length=s.H.length→∀s' A,Agree o.args s s'→s'.H=s.H++A→bo C o d (fun t=>t=⟨(s'.put d v).L,(s'.put d v).T,H'++A⟩) s'):=by
  cases o with
  |pQ n x v=>
   change tm (nu s.H n (s.get x) (s.get v)) d K s at h
   cases hs:nu s.H n (s.get x) (s.get v)with
   |none =>rw[hs]at h;exact h.elim
   |some H'=>
    rw[hs]at h;refine⟨.any,H',by rw[←oC];exact h,fun _ s' A ha hA=> ?_⟩
    rw[GY,←ha x (by simp[MO.args]),←ha v (by simp[MO.args]),hA,GX A hs,E5,oC]
  |app sz b x y=>
   change Ad sz b (s.get x) (dt s.H sz (s.get y)) d K s at h
   cases hy:dt s.H sz (s.get y)with
   |none =>rw[hy]at h;exact h.elim
   |some ys=>
    rw[hy]at h;obtain⟨h1,h2⟩:=h;unfold mu at h2;split at h2
    · rename_i e
      obtain⟨q1,q2,h2⟩:=h2;rw[oC]at h2;refine⟨_,_,h2,fun hl=> ?_⟩;simp at hl
    · rename_i id ver off n e
      unfold Ac at h2;split at h2
      · rename_i cP cA rs hid
        obtain⟨q1,q2,q3,q4,q5,q6,h2⟩:=h2;rw[oC]at h2;have aj:=(List.getElem?_eq_some_iff.1 hid).1;refine⟨_,_,h2,fun _ s' A ha hA=> ?_⟩;rw[PI,←ha x (by simp[MO.args]),←ha y (by simp[MO.args]),hA,rP (DY _ A) hy,e];refine⟨h1, ?_⟩;rw[yW,hA,List.getElem?_append_left aj,hid];refine⟨q1,q2,q3,q4,q5,q6, ?_⟩;rw[hA,List.set_append_left _ _ aj];exact oC s' _ d _
      · exact h2.elim
    · exact h2.elim
  |_ =>cases hq
end Go.AM
