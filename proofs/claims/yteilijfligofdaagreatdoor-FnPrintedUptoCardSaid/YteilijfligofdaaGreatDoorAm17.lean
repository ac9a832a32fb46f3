/- Regions whose order is drawn: single operations, moved to another state. -/
import Derived.Test.YteilijfligofdaaGreatDoorAm16
set_option linter.all false
namespace Go.AM
variable {lv:List Nat} {P:Program} {N:Nat} {K:St->Prop} {θ:Th} {W:Im} {ops:Array Oper} {C:iZ}
def MO.args:MO->List MA
 | .mv x=>[x]| .pick a b c=>[a,b,c]| .alloc _=>[]| .box _ x=>[x]
 | .build _ ps=>ps.map (·.2.2)| .Dz _ _ _ ps=>ps.map (·.2)
 | .ld _ _ x=>[x]| .pT _ x v=>[x,v]| .Ay x=>[x]| .bin _ x y=>[x,y]| .un _ x=>[x]| .conv _ x=>[x]| .tg x=>[x]| .qW x=>[x]
 | .GQ _ cs=>cs| .DA _ _ _ l c=>[l,c]| .tF _ x lo hi=>x::(lo.toList++hi.toList)| .GR _ x=>[x]| .GS _ _ _ x=>[x]
 | .Bu _ x i=>[x,i]| .Bv _ _ x i=>[x,i]| .Bw x i=>[x,i]| .ext x _=>[x]| .call _ as=>as| .sY x as=>x::as
 | .app _ _ x y=>[x,y]| .oF _ _ x y=>[x,y]| .qX _ x v=>[x,v]| .len _ x=>[x]| .Az _ x=>[x]| .cap x=>[x]| .Mz _ _ x n=>[x,n]| .Fk _ x y=>[x,y]| .beq _ x y=>[x,y]| .tG _ _ x=>[x]| .sq _ _ x y=>[x,y]| .Fm _ x=>[x]| .stop=>[]
def Agree (l:List MA) (s s':St):Prop:=∀x∈l,s.get x=s'.get x
theorem Agree.fF {l:List MA} {s s':St} (h:Agree l s s'):fF s l=fF s' l:=by
  induction l with
  |nil=>rfl
  |cons x l ih=>
   rw[BM,BM,h x (by simp),ih (fun y hy=>h y (List.mem_cons_of_mem _ hy))]
theorem Agree.parts {ps:List (Nat×Nat×MA)} {s s':St} (h:Agree (ps.map (·.2.2)) s s'):∀z,nk s ps z=nk s' ps z:=by
  induction ps with
  |nil=>intro z;rfl
  |cons p ps ih=>
   obtain⟨o,n,x⟩:=p;intro z;have h1:s.get x=s'.get x:=h x (by simp);have h2:=ih (fun y hy=>h y (List.mem_cons_of_mem _ hy));rw[rW,rW,h1];split
   · congr 1
     funext z'
     exact h2 z'
   · rfl
theorem Agree.rows {sz:Nat} {ps:List (Nat×MA)} {s s':St} (h:Agree (ps.map (·.2)) s s'):∀rs,kJ s sz ps rs=kJ s' sz ps rs:=by
  induction ps with
  |nil=>intro z;rfl
  |cons p ps ih=>
   obtain⟨n,x⟩:=p;intro rs;have h1:s.get x=s'.get x:=h x (by simp);have h2:=ih (fun y hy=>h y (List.mem_cons_of_mem _ hy));rw[tN,tN,h1];split
   · exact h2 _
   · rfl
theorem fi {x:Option AV} {d:MD} {s:St} (h:bC x d K s):∃v,K (s.put d v)/\∀s',bC x d (fun t=>t=s'.put d v) s':=by
 obtain⟨v,rfl,h⟩:=dk h;exact⟨v,h,fun s'=>rfl⟩
theorem r9 {lo hi:Option AV} {n:Nat} {R:Nat->Nat->Prop} (h:mC lo hi n R):∃a b,R a b/\∀R':Nat->Nat->Prop,R' a b->mC lo hi n R':=by
 unfold mC at h;split at h
 ·exact⟨_,_,h,fun R' h'=>h'⟩
 ·obtain⟨h1,h2,h3⟩:=h;exact⟨_,_,h3,fun R' h'=>⟨h1,h2,h'⟩⟩
 ·obtain⟨h1,h2,h3⟩:=h;exact⟨_,_,h3,fun R' h'=>⟨h1,h2,h'⟩⟩
 ·obtain⟨h1,h2,h3,h4⟩:=h;exact⟨_,_,h4,fun R' h'=>⟨h1,h2,h3,h'⟩⟩
 ·exact h.elim
theorem Xj (st:St) (d:MD) (g n x):bh C (.ld g n x) d K st=bC (vO g n (ly st.H (st.get x))) d K st:=rfl
theorem QH (st:St) (d:MD) (x):bh C (.tg x) d K st=bC (p8 st.H (st.get x)) d K st:=rfl
theorem QI (st:St) (d:MD) (k x lo hi):bh C (.tF k x lo hi) d K st=mD k (st.get x) (lo.map st.get) (hi.map st.get) d K st:=rfl
theorem Oj {H H':List AO} (h:cA H H') {x:AV} {cs:List AV} (hl:ly H x=some cs):ly H' x=some cs:=by
 unfold ly at hl⊢;split at hl
 ·split at hl
  ·rename_i hid;rw[h _ _ hid (fun e=>by cases e)];exact hl
  ·cases hl
 ·split at hl
  ·rename_i hid;rw[h _ _ hid (fun e=>by cases e)];exact hl
  ·cases hl
 ·exact hl
 ·cases hl
theorem sb {H H':List AO} (h:cA H H') {sz:Nat} {x:AV} {ys:List (List AV)} (hl:dj H sz x=some ys):dj H' sz x=some ys:=by
 unfold dj at hl⊢;split at hl
 ·exact hl
 ·exact hl
 ·exact hl
 ·unfold oG at hl⊢
  split at hl
  ·rename_i hid;rw[h _ _ hid (fun e=>by cases e)];exact hl
  ·cases hl
 ·cases hl
theorem Ol {H H':List AO} (h:cA H H') {x v:AV} (hl:p8 H x=some v):p8 H' x=some v:=by
 have inv:∀y,oH (dj H 1 y)=some v->oH (dj H' 1 y)=some v:=by
  intro y hy
  cases hs:dj H 1 y with
  |none=>rw[hs]at hy;cases hy
  |some ys=>rw[hs]at hy;rw[sb h hs];exact hy
 unfold p8 at hl⊢;split at hl
 ·exact inv _ hl
 ·exact hl
 ·exact inv _ hl
 ·cases hl
theorem Jz {o:MO} {d:MD} {s:St} (hq:kindOf o= .quiet) (h:bh C o d K s):
    ∃v,K (s.put d v)∧∀s',Agree o.args s s'→cA s.H s'.H→bh C o d (fun t=>t=s'.put d v) s':=by
  cases o with
  |mv x=>exact⟨s.get x,h,fun s' ha _ =>by rw[acm,ha x (by simp[MO.args])]⟩
  |pick c x y=>
   obtain⟨v,h1,h2⟩:=fi h;refine⟨v,h1,fun s' ha _ => ?_⟩;rw[Qg,←ha c (by simp[MO.args]),←ha x (by simp[MO.args]),←ha y (by simp[MO.args])]
   exact h2 s'
  |build z ps=>
   obtain⟨v,h1,h2⟩:=fi h;refine⟨v,h1,fun s' ha _ => ?_⟩;have e:vh s' z ps=vh s z ps:=by rw[wI,wI,Agree.parts ha]
   rw[N9,e]
   exact h2 s'
  |ld g n x=>
   obtain⟨v,hv,h1⟩:=dk h;refine⟨v,h1,fun s' ha he=> ?_⟩;rw[Xj,←ha x (by simp[MO.args])]
   cases hl:ly s.H (s.get x)with
   |none =>rw[hl]at hv;cases hv
   |some cs=>rw[Oj he hl,←hl,hv];rfl
  |Ay x=>
   obtain⟨v,h1,h2⟩:=fi h;refine⟨v,h1,fun s' ha _ => ?_⟩;rw[Qh,←ha x (by simp[MO.args])]
   exact h2 s'
  |bin op x y=>
   rw[rV]at h;have hx:∀s',Agree (MO.args (.bin op x y)) s s'→s'.get x=s.get x∧s'.get y=s.get y:=fun s' ha=>⟨(ha x (by simp[MO.args])).symm,(ha y (by simp[MO.args])).symm⟩
   unfold cZ at h;split at h
   · rename_i v hv
     refine⟨v,h,fun s' ha _ => ?_⟩;rw[rV,(hx s' ha).1,(hx s' ha).2];unfold cZ;rw[hv]
   · rename_i hv
     unfold wD at h;split at h
     · rename_i a b e1 e2
       refine⟨_,h.2,fun s' ha _ => ?_⟩;rw[rV,(hx s' ha).1,(hx s' ha).2];unfold cZ;rw[hv];rw[e1,e2];exact⟨h.1,rfl⟩
     · rename_i k a k' b e1 e2
       refine⟨_,h.2.2,fun s' ha _ => ?_⟩;rw[rV,(hx s' ha).1,(hx s' ha).2];unfold cZ;rw[hv];rw[e1,e2];exact⟨h.1,h.2.1,rfl⟩
     · rename_i k a k' b e1 e2
       refine⟨_,h.2.2,fun s' ha _ => ?_⟩;rw[rV,(hx s' ha).1,(hx s' ha).2];unfold cZ;rw[hv];rw[e1,e2];exact⟨h.1,h.2.1,rfl⟩
     · rename_i k a k' b e1 e2
       refine⟨_,h.2,fun s' ha _ => ?_⟩;rw[rV,(hx s' ha).1,(hx s' ha).2];unfold cZ;rw[hv];rw[e1,e2];exact⟨h.1,rfl⟩
     · rename_i k a k' b e1 e2
       refine⟨_,h.2,fun s' ha _ => ?_⟩;rw[rV,(hx s' ha).1,(hx s' ha).2];unfold cZ;rw[hv];rw[e1,e2];exact⟨h.1,rfl⟩
     · exact h.elim
  |un op x=>
   obtain⟨v,h1,h2⟩:=fi h;refine⟨v,h1,fun s' ha _ => ?_⟩;rw[acn,←ha x (by simp[MO.args])]
   exact h2 s'
  |conv k x=>
   obtain⟨v,h1,h2⟩:=fi h;refine⟨v,h1,fun s' ha _ => ?_⟩;rw[Qi,←ha x (by simp[MO.args])]
   exact h2 s'
  |tg x=>
   obtain⟨v,hv,h1⟩:=dk h;refine⟨v,h1,fun s' ha he=> ?_⟩;rw[QH,←ha x (by simp[MO.args]),Ol he hv]
   rfl
  |GQ f cs=>exact⟨.eB f (fF s cs),h,fun s' ha _ =>by rw[WO,Agree.fF (l:=cs) ha]⟩
  |tF k x lo hi=>
   have hx:∀s',Agree (MO.args (.tF k x lo hi)) s s'→s'.get x=s.get x∧lo.map s'.get=lo.map s.get∧hi.map s'.get=hi.map s.get:=by
     intro s' ha;refine⟨(ha x (by simp[MO.args])).symm, ?_, ?_⟩
     · cases lo with
       |none =>rfl
       |some y=>simp[(ha y (by simp[MO.args])).symm]
     · cases hi with
       |none =>rfl
       |some y=>simp[(ha y (by simp[MO.args])).symm]
   change mD k (s.get x) (lo.map s.get) (hi.map s.get) d K s at h
   have fin:∀v,(∀s',cA s.H s'.H→mD k (s.get x) (lo.map s.get) (hi.map s.get) d (fun t=>t=s'.put d v) s')→∀s',Agree (MO.args (.tF k x lo hi)) s s'→cA s.H s'.H→bh C (.tF k x lo hi) d (fun t=>t=s'.put d v) s':=by
     intro v hv s' ha he;obtain⟨e1,e2,e3⟩:=hx s' ha;rw[QI,e1,e2,e3];exact hv s' he
   generalize s.get x=y at h fin;unfold mD at h;split at h
   · obtain⟨a,b,h1,h2⟩:=r9 h.2
     exact⟨_,h1,fin _ (fun s' _ =>⟨h.1,h2 _ rfl⟩)⟩
   · obtain⟨a,b,h1,h2⟩:=r9 h
     exact⟨_,h1,fin _ (fun s' _ =>by rw[WX];exact h2 _ rfl)⟩
   · obtain⟨a,b,h1,h2⟩:=r9 h
     exact⟨_,h1,fin _ (fun s' _ =>by rw[Qk];exact h2 _ rfl)⟩
   · unfold D7 at h
     split at h
     · rename_i hid
       obtain⟨q1,q2,h⟩:=h;obtain⟨a,b,h1,h2⟩:=r9 h;refine⟨_,h1,fin _ (fun s' he=> ?_)⟩;simp only[mD,D7];rw[he _ _ hid (fun e=>by cases e)];exact⟨q1,q2,h2 _ rfl⟩
     · exact h.elim
   · exact h.elim
  |GR off x=>
   obtain⟨v,h1,h2⟩:=fi h;refine⟨v,h1,fun s' ha _ => ?_⟩;rw[WQ,←ha x (by simp[MO.args])]
   exact h2 s'
  |GS g off n x=>
   rw[Fq]at h;obtain⟨v,h1,h2⟩:=fi h;refine⟨v,h1,fun s' ha _ => ?_⟩;rw[Fq,←ha x (by simp[MO.args])]
   exact h2 s'
  |Bu sz x i=>
   have hx:∀s',Agree (MO.args (.Bu sz x i)) s s'→s'.get x=s.get x∧s'.get i=s.get i:=fun s' ha=>⟨(ha x (by simp[MO.args])).symm,(ha i (by simp[MO.args])).symm⟩
   rw[MH]at h
   have fin:∀v,(∀s',cA s.H s'.H→xH sz (s.get x) (s.get i) d (fun t=>t=s'.put d v) s')→∀s',Agree (MO.args (.Bu sz x i)) s s'→cA s.H s'.H→bh C (.Bu sz x i) d (fun t=>t=s'.put d v) s':=by
     intro v hv s' ha he;obtain⟨e1,e2⟩:=hx s' ha;rw[MH,e1,e2];exact hv s' he
   generalize s.get x=y at h fin;generalize s.get i=z at h fin;unfold xH at h;split at h
   · split at h
     · obtain⟨q1,r,q2,q3,h⟩:=h
       exact⟨_,h,fin _ (fun s' _ =>⟨q1,r,q2,q3,rfl⟩)⟩
     · obtain⟨q1,q2,h⟩:=h
       split at h
       · rename_i hid
         refine⟨_,h.2.2,fin _ (fun s' he=>⟨q1,q2, ?_⟩)⟩;rw[he _ _ hid (fun e=>by cases e)];exact⟨h.1,h.2.1,rfl⟩
       · exact h.elim
     · exact h.elim
   · exact h.elim
  |Bv len sz x i=>
   have hx:∀s',Agree (MO.args (.Bv len sz x i)) s s'→s'.get x=s.get x∧s'.get i=s.get i:=fun s' ha=>⟨(ha x (by simp[MO.args])).symm,(ha i (by simp[MO.args])).symm⟩
   rw[MJ]at h
   have fin:∀v,(∀s':St,By len sz (s.get x) (s.get i) d (fun t=>t=s'.put d v) s')→∀s',Agree (MO.args (.Bv len sz x i)) s s'→cA s.H s'.H→bh C (.Bv len sz x i) d (fun t=>t=s'.put d v) s':=by
     intro v hv s' ha he;obtain⟨e1,e2⟩:=hx s' ha;rw[MJ,e1,e2];exact hv s'
   generalize s.get x=y at h fin;generalize s.get i=z at h fin;unfold By at h;split at h
   · split at h
     · exact⟨_,h.2.2,fin _ (fun s'=>⟨h.1,h.2.1,rfl⟩)⟩
     · exact h.elim
   · exact h.elim
  |Bw x i=>
   have hx:∀s',Agree (MO.args (.Bw x i)) s s'→s'.get x=s.get x∧s'.get i=s.get i:=fun s' ha=>⟨(ha x (by simp[MO.args])).symm,(ha i (by simp[MO.args])).symm⟩
   rw[MK]at h
   have fin:∀v,(∀s':St,Bz (s.get x) (s.get i) d (fun t=>t=s'.put d v) s')→∀s',Agree (MO.args (.Bw x i)) s s'→cA s.H s'.H→bh C (.Bw x i) d (fun t=>t=s'.put d v) s':=by
     intro v hv s' ha he;obtain⟨e1,e2⟩:=hx s' ha;rw[MK,e1,e2];exact hv s'
   generalize s.get x=y at h fin;generalize s.get i=z at h fin;unfold Bz at h;split at h
   · split at h
     · obtain⟨q1,c,q2,h⟩:=h
       exact⟨_,h,fin _ (fun s'=>⟨q1,c,q2,rfl⟩)⟩
     · exact h.elim
   · exact h.elim
  |ext x n=>
   obtain⟨v,h1,h2⟩:=fi h;refine⟨v,h1,fun s' ha _ => ?_⟩;rw[WR,←ha x (by simp[MO.args])]
   exact h2 s'
  |Az t x=>
   obtain⟨v,h1,h2⟩:=fi h;refine⟨v,h1,fun s' ha _ => ?_⟩;rw[Qf,←ha x (by simp[MO.args])]
   exact h2 s'
  |cap x=>
   obtain⟨v,h1,h2⟩:=fi h;refine⟨v,h1,fun s' ha _ => ?_⟩;rw[WT,←ha x (by simp[MO.args])]
   exact h2 s'
  |Fk m x y=>
   obtain⟨v,h1,h2⟩:=fi h;refine⟨v,h1,fun s' ha _ => ?_⟩;rw[WU,←ha x (by simp[MO.args]),←ha y (by simp[MO.args])]
   exact h2 s'
  |beq m x y=>
   obtain⟨v,h1,h2⟩:=fi h;refine⟨v,h1,fun s' ha _ => ?_⟩;rw[WW,←ha x (by simp[MO.args]),←ha y (by simp[MO.args])]
   exact h2 s'
  |Fm m x=>
   obtain⟨v,h1,h2⟩:=fi h;refine⟨v,h1,fun s' ha _ => ?_⟩;rw[WV,←ha x (by simp[MO.args])]
   exact h2 s'
  |sq m n x y=>
   obtain⟨v,h1,h2⟩:=fi h;refine⟨v,h1,fun s' ha _ => ?_⟩;rw[acs,←ha x (by simp[MO.args]),←ha y (by simp[MO.args])]
   exact h2 s'
  |tG sl m x=>
   change jU sl m (s.get x) d K s at h
   have fin:∀v,(∀s',cA s.H s'.H→jU sl m (s.get x) d (fun t=>t=s'.put d v) s')→∀s',Agree (MO.args (.tG sl m x)) s s'→cA s.H s'.H→bh C (.tG sl m x) d (fun t=>t=s'.put d v) s':=by
     intro v hv s' ha he;rw[Qj,←ha x (by simp[MO.args])];exact hv s' he
   generalize s.get x=y at h fin;unfold jU at h;split at h
   · exact⟨_,h,fin _ (fun s' _ =>rfl)⟩
   · exact⟨_,h.2,fin _ (fun s' _ =>⟨h.1,rfl⟩)⟩
   · unfold zf at h
     split at h
     · rename_i hid
       refine⟨_,h.2.2,fin _ (fun s' he=> ?_)⟩;simp only[jU,zf];rw[he _ _ hid (fun e=>by cases e)];exact⟨h.1,h.2.1,trivial⟩
     · exact h.elim
   · exact⟨_,h,fin _ (fun s' _ =>rfl)⟩
   · exact⟨_,h,fin _ (fun s' _ =>rfl)⟩
   · exact⟨_,h,fin _ (fun s' _ =>rfl)⟩
   · exact⟨_,h,fin _ (fun s' _ =>rfl)⟩
   · exact h.elim
  |_ =>cases hq
theorem oP (s:St) (H:List AO) (d:MD) (v:AV):St.put ⟨s.L,s.T,H⟩ d v=⟨(s.put d v).L,(s.put d v).T,H⟩:=by cases d<;>rfl
theorem Ek (H A:List AO):cA H (H++A):=fun id o h _=>by
 rw[List.getElem?_append_left (List.getElem?_eq_some_iff.1 h).1];exact h
theorem Hj {H H':List AO} {n:Nat} {x v:AV} (A:List AO) (h:nG H n x v=some H'):nG (H++A) n x v=some (H'++A):=by
 unfold nG at h⊢;split at h
 ·rename_i hc
  rw[if_pos hc];split at h
  ·rename_i id off
   split at h
   ·rename_i cs hid
    have aF:=(List.getElem?_eq_some_iff.1 hid).1;rw[Option.map_eq_some_iff]at h;obtain⟨fP,h1,rfl⟩:=h;simp only[List.getElem?_append_left aF,hid,h1,Option.map_some,List.set_append_left _ _ aF]
   ·cases h
  ·rename_i id ver row gl
   split at h
   ·rename_i sz cI rs hid
    have aF:=(List.getElem?_eq_some_iff.1 hid).1;split at h
    ·rename_i hv
     split at h
     ·rename_i r hr
      rw[Option.map_eq_some_iff]at h;obtain⟨r',h1,rfl⟩:=h;simp only[List.getElem?_append_left aF,hid,hr,h1,Option.map_some,List.set_append_left _ _ aF,if_pos hv]
     ·cases h
    ·cases h
   ·cases h
  ·cases h
 ·cases h
theorem Hk (st:St) (d:MD) (n x v):bh C (.pT n x v) d K st=tI (nG st.H n (st.get x) (st.get v)) d K st:=rfl
theorem QJ (st:St) (d:MD) (sz b x y):bh C (.app sz b x y) d K st=AB sz b (st.get x) (dj st.H sz (st.get y)) d K st:=rfl
theorem zx (st:St) (d:MD) (sz b id ver off n ys):lR sz b (.gs id ver off n) ys d K st=AA sz b id ver off n ys d K st st.H[id]?:=rfl
theorem Fz (st:St) (d:MD) (h):tI (some h) d K st=K (St.put ⟨st.L,st.T,h⟩ d .any):=rfl
theorem QK {o:MO} {d:MD} {s:St} (hq:kindOf o= .eff) (h:bh C o d K s):
    ∃v H',K ⟨(s.put d v).L,(s.put d v).T,H'⟩∧(H'.length=s.H.length→∀s' A,Agree o.args s s'→s'.H=s.H++A→bh C o d (fun t=>t=⟨(s'.put d v).L,(s'.put d v).T,H'++A⟩) s'):=by
  cases o with
  |pT n x v=>
   change tI (nG s.H n (s.get x) (s.get v)) d K s at h
   cases hs:nG s.H n (s.get x) (s.get v)with
   |none =>rw[hs]at h;exact h.elim
   |some H'=>
    rw[hs]at h;refine⟨.any,H',by rw[←oP];exact h,fun _ s' A ha hA=> ?_⟩
    rw[Hk,←ha x (by simp[MO.args]),←ha v (by simp[MO.args]),hA,Hj A hs,Fz,oP]
  |app sz b x y=>
   change AB sz b (s.get x) (dj s.H sz (s.get y)) d K s at h
   cases hy:dj s.H sz (s.get y)with
   |none =>rw[hy]at h;exact h.elim
   |some ys=>
    rw[hy]at h;obtain⟨h1,h2⟩:=h;unfold lR at h2;split at h2
    · rename_i e
      obtain⟨q1,q2,h2⟩:=h2;rw[oP]at h2;refine⟨_,_,h2,fun hl=> ?_⟩;simp at hl
    · rename_i id ver off n e
      unfold AA at h2;split at h2
      · rename_i cX cI rs hid
        obtain⟨q1,q2,q3,q4,q5,q6,h2⟩:=h2;rw[oP]at h2;have aF:=(List.getElem?_eq_some_iff.1 hid).1;refine⟨_,_,h2,fun _ s' A ha hA=> ?_⟩;rw[QJ,←ha x (by simp[MO.args]),←ha y (by simp[MO.args]),hA,sb (Ek _ A) hy,e];refine⟨h1, ?_⟩;rw[zx,hA,List.getElem?_append_left aF,hid];refine⟨q1,q2,q3,q4,q5,q6, ?_⟩;rw[hA,List.set_append_left _ _ aF];exact oP s' _ d _
      · exact h2.elim
    · exact h2.elim
  |_ =>cases hq
end Go.AM
