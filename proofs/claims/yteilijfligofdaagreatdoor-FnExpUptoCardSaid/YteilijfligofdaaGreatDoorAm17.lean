/- Regions whose order is drawn: single operations, moved to another state. -/
import Derived.Test.YteilijfligofdaaGreatDoorAm16
set_option linter.all false
namespace Go.AM
variable {lv:List Nat} {P:Program} {N:Nat} {K:St->Prop} {θ:Th} {W:Im} {ops:Array Oper} {C:CallP}
def MO.args:MO->List MA
 | .mv x=>[x] | .pick a b c=>[a,b,c] | .alloc _=>[] | .box _ x=>[x]
 | .build _ ps=>ps.map (·.2.2) | .bsl _ _ _ ps=>ps.map (·.2)
 | .ld _ _ x=>[x] | .sto _ x v=>[x,v] | .nilc x=>[x] | .bin _ x y=>[x,y] | .un _ x=>[x] | .conv _ x=>[x] | .b2s x=>[x] | .b2sn x=>[x]
 | .mkf _ cs=>cs | .mks _ _ _ l c=>[l,c] | .slc _ x lo hi=>x :: (lo.toList++hi.toList) | .fad _ x=>[x] | .fld _ _ _ x=>[x]
 | .ixs _ x i=>[x,i] | .ixa _ _ x i=>[x,i] | .ixt x i=>[x,i] | .ext x _=>[x] | .call _ as=>as | .calv x as=>x :: as
 | .app _ _ x y=>[x,y] | .appn _ _ x y=>[x,y] | .ston _ x v=>[x,v] | .len _ x=>[x] | .lenq _ x=>[x] | .cap x=>[x] | .appz _ _ x n=>[x,n] | .mnx _ x y=>[x,y] | .beq _ x y=>[x,y] | .nilq _ _ x=>[x] | .sq _ _ x y=>[x,y] | .nii _ x=>[x] | .stop=>[]
def Agree (l:List MA) (s s':St):Prop:=∀ x∈l,s.get x=s'.get x
theorem Agree.gets {l : List MA} {s s' : St} (h : Agree l s s') : gets s l = gets s' l := by
  induction l with
  | nil => rfl
  | cons x l ih =>
    rw [gets_cons, gets_cons, h x (by simp), ih (fun y hy => h y (List.mem_cons_of_mem _ hy))]
theorem Agree.parts {ps : List (Nat × Nat × MA)} {s s' : St} (h : Agree (ps.map (·.2.2)) s s') : ∀ z, partsV s ps z = partsV s' ps z := by
  induction ps with
  | nil => intro z; rfl
  | cons p ps ih =>
    obtain ⟨o, n, x⟩ := p
    intro z
    have h1 : s.get x = s'.get x := h x (by simp)
    have h2 := ih (fun y hy => h y (List.mem_cons_of_mem _ hy))
    rw [partsV_cons, partsV_cons, h1]
    split
    · congr 1
      funext z'
      exact h2 z'
    · rfl
theorem Agree.rows {sz : Nat} {ps : List (Nat × MA)} {s s' : St} (h : Agree (ps.map (·.2)) s s') : ∀ rs, rowsV s sz ps rs = rowsV s' sz ps rs := by
  induction ps with
  | nil => intro z; rfl
  | cons p ps ih =>
    obtain ⟨n, x⟩ := p
    intro rs
    have h1 : s.get x = s'.get x := h x (by simp)
    have h2 := ih (fun y hy => h y (List.mem_cons_of_mem _ hy))
    rw [rowsV_cons, rowsV_cons, h1]
    split
    · exact h2 _
    · rfl
theorem withV_put {x:Option AV} {d:MD} {s:St} (h:withV x d K s):∃ v,K (s.put d v)/\∀ s',withV x d (fun t=>t=s'.put d v) s':=by
 obtain ⟨v,rfl,h⟩:=withV_inv h
 exact ⟨v,h,fun s'=>rfl⟩
theorem bndK_mono {lo hi:Option AV} {n:Nat} {R:Nat->Nat->Prop} (h:bndK lo hi n R):∃ a b,R a b/\∀ R':Nat->Nat->Prop,R' a b->bndK lo hi n R':=by
 unfold bndK at h
 split at h
 ·exact ⟨_,_,h,fun R' h'=>h'⟩
 ·obtain ⟨h1,h2,h3⟩:=h; exact ⟨_,_,h3,fun R' h'=>⟨h1,h2,h'⟩⟩
 ·obtain ⟨h1,h2,h3⟩:=h; exact ⟨_,_,h3,fun R' h'=>⟨h1,h2,h'⟩⟩
 ·obtain ⟨h1,h2,h3,h4⟩:=h; exact ⟨_,_,h4,fun R' h'=>⟨h1,h2,h3,h'⟩⟩
 ·exact h.elim
theorem su_ld' (st:St) (d:MD) (g n x):stepU C (.ld g n x) d K st=withV (ldV g n (ldAt st.H (st.get x))) d K st:=rfl
theorem su_b2s' (st:St) (d:MD) (x):stepU C (.b2s x) d K st=withV (b2sV st.H (st.get x)) d K st:=rfl
theorem su_slc' (st:St) (d:MD) (k x lo hi):stepU C (.slc k x lo hi) d K st=slcK k (st.get x) (lo.map st.get) (hi.map st.get) d K st:=rfl
theorem ldAt_ext {H H':List AO} (h:Hext H H') {x:AV} {cs:List AV} (hl:ldAt H x=some cs):ldAt H' x=some cs:=by
 unfold ldAt at hl ⊢
 split at hl
 ·split at hl
  ·rename_i hid; rw [h _ _ hid (fun e=>by cases e)]; exact hl
  ·cases hl
 ·split at hl
  ·rename_i hid; rw [h _ _ hid (fun e=>by cases e)]; exact hl
  ·cases hl
 ·exact hl
 ·cases hl
theorem srcRows_ext {H H':List AO} (h:Hext H H') {sz:Nat} {x:AV} {ys:List (List AV)} (hl:srcRows H sz x=some ys):srcRows H' sz x=some ys:=by
 unfold srcRows at hl ⊢
 split at hl
 ·exact hl
 ·exact hl
 ·exact hl
 ·unfold srcR at hl ⊢
  split at hl
  ·rename_i hid; rw [h _ _ hid (fun e=>by cases e)]; exact hl
  ·cases hl
 ·cases hl
theorem b2sV_ext {H H':List AO} (h:Hext H H') {x v:AV} (hl:b2sV H x=some v):b2sV H' x=some v:=by
 have inv:∀ y,b2sR (srcRows H 1 y)=some v->b2sR (srcRows H' 1 y)=some v:=by
  intro y hy
  cases hs:srcRows H 1 y with
  | none=>rw [hs] at hy; cases hy
  | some ys=>rw [hs] at hy; rw [srcRows_ext h hs]; exact hy
 unfold b2sV at hl ⊢
 split at hl
 ·exact inv _ hl
 ·exact hl
 ·exact inv _ hl
 ·cases hl
theorem quiet_val {o : MO} {d : MD} {s : St} (hq : kindOf o = .quiet) (h : stepU C o d K s) :
    ∃ v, K (s.put d v) ∧ ∀ s', Agree o.args s s' → Hext s.H s'.H → stepU C o d (fun t => t = s'.put d v) s' := by
  cases o with
  | mv x => exact ⟨s.get x, h, fun s' ha _ => by rw [su_mv, ha x (by simp [MO.args])]⟩
  | pick c x y =>
    obtain ⟨v, h1, h2⟩ := withV_put h
    refine ⟨v, h1, fun s' ha _ => ?_⟩
    rw [su_pick, ← ha c (by simp [MO.args]), ← ha x (by simp [MO.args]), ← ha y (by simp [MO.args])]
    exact h2 s'
  | build z ps =>
    obtain ⟨v, h1, h2⟩ := withV_put h
    refine ⟨v, h1, fun s' ha _ => ?_⟩
    have e : buildV s' z ps = buildV s z ps := by rw [buildV_eq, buildV_eq, Agree.parts ha]
    rw [su_build, e]
    exact h2 s'
  | ld g n x =>
    obtain ⟨v, hv, h1⟩ := withV_inv h
    refine ⟨v, h1, fun s' ha he => ?_⟩
    rw [su_ld', ← ha x (by simp [MO.args])]
    cases hl : ldAt s.H (s.get x) with
    | none => rw [hl] at hv; cases hv
    | some cs => rw [ldAt_ext he hl, ← hl, hv]; rfl
  | nilc x =>
    obtain ⟨v, h1, h2⟩ := withV_put h
    refine ⟨v, h1, fun s' ha _ => ?_⟩
    rw [su_nilc, ← ha x (by simp [MO.args])]
    exact h2 s'
  | bin op x y =>
    rw [su_bin] at h
    have hx : ∀ s', Agree (MO.args (.bin op x y)) s s' → s'.get x = s.get x ∧ s'.get y = s.get y := fun s' ha => ⟨(ha x (by simp [MO.args])).symm, (ha y (by simp [MO.args])).symm⟩
    unfold binK at h
    split at h
    · rename_i v hv
      refine ⟨v, h, fun s' ha _ => ?_⟩
      rw [su_bin, (hx s' ha).1, (hx s' ha).2]
      unfold binK
      rw [hv]
    · rename_i hv
      unfold bin2K at h
      split at h
      · rename_i a b e1 e2
        refine ⟨_, h.2, fun s' ha _ => ?_⟩
        rw [su_bin, (hx s' ha).1, (hx s' ha).2]
        unfold binK
        rw [hv]
        rw [e1, e2]
        exact ⟨h.1, rfl⟩
      · rename_i k a k' b e1 e2
        refine ⟨_, h.2.2, fun s' ha _ => ?_⟩
        rw [su_bin, (hx s' ha).1, (hx s' ha).2]
        unfold binK
        rw [hv]
        rw [e1, e2]
        exact ⟨h.1, h.2.1, rfl⟩
      · rename_i k a k' b e1 e2
        refine ⟨_, h.2.2, fun s' ha _ => ?_⟩
        rw [su_bin, (hx s' ha).1, (hx s' ha).2]
        unfold binK
        rw [hv]
        rw [e1, e2]
        exact ⟨h.1, h.2.1, rfl⟩
      · rename_i k a k' b e1 e2
        refine ⟨_, h.2, fun s' ha _ => ?_⟩
        rw [su_bin, (hx s' ha).1, (hx s' ha).2]
        unfold binK
        rw [hv]
        rw [e1, e2]
        exact ⟨h.1, rfl⟩
      · rename_i k a k' b e1 e2
        refine ⟨_, h.2, fun s' ha _ => ?_⟩
        rw [su_bin, (hx s' ha).1, (hx s' ha).2]
        unfold binK
        rw [hv]
        rw [e1, e2]
        exact ⟨h.1, rfl⟩
      · exact h.elim
  | un op x =>
    obtain ⟨v, h1, h2⟩ := withV_put h
    refine ⟨v, h1, fun s' ha _ => ?_⟩
    rw [su_un, ← ha x (by simp [MO.args])]
    exact h2 s'
  | conv k x =>
    obtain ⟨v, h1, h2⟩ := withV_put h
    refine ⟨v, h1, fun s' ha _ => ?_⟩
    rw [su_conv, ← ha x (by simp [MO.args])]
    exact h2 s'
  | b2s x =>
    obtain ⟨v, hv, h1⟩ := withV_inv h
    refine ⟨v, h1, fun s' ha he => ?_⟩
    rw [su_b2s', ← ha x (by simp [MO.args]), b2sV_ext he hv]
    rfl
  | mkf f cs => exact ⟨.clo f (gets s cs), h, fun s' ha _ => by rw [su_mkf, Agree.gets (l := cs) ha]⟩
  | slc k x lo hi =>
    have hx : ∀ s', Agree (MO.args (.slc k x lo hi)) s s' → s'.get x = s.get x ∧ lo.map s'.get = lo.map s.get ∧ hi.map s'.get = hi.map s.get := by
      intro s' ha
      refine ⟨(ha x (by simp [MO.args])).symm, ?_, ?_⟩
      · cases lo with
        | none => rfl
        | some y => simp [(ha y (by simp [MO.args])).symm]
      · cases hi with
        | none => rfl
        | some y => simp [(ha y (by simp [MO.args])).symm]
    change slcK k (s.get x) (lo.map s.get) (hi.map s.get) d K s at h
    have fin : ∀ v, (∀ s', Hext s.H s'.H → slcK k (s.get x) (lo.map s.get) (hi.map s.get) d (fun t => t = s'.put d v) s') → ∀ s', Agree (MO.args (.slc k x lo hi)) s s' → Hext s.H s'.H → stepU C (.slc k x lo hi) d (fun t => t = s'.put d v) s' := by
      intro v hv s' ha he
      obtain ⟨e1, e2, e3⟩ := hx s' ha
      rw [su_slc', e1, e2, e3]
      exact hv s' he
    generalize s.get x = y at h fin
    unfold slcK at h
    split at h
    · obtain ⟨a, b, h1, h2⟩ := bndK_mono h.2
      exact ⟨_, h1, fin _ (fun s' _ => ⟨h.1, h2 _ rfl⟩)⟩
    · obtain ⟨a, b, h1, h2⟩ := bndK_mono h
      exact ⟨_, h1, fin _ (fun s' _ => by rw [slcK_s]; exact h2 _ rfl)⟩
    · obtain ⟨a, b, h1, h2⟩ := bndK_mono h
      exact ⟨_, h1, fin _ (fun s' _ => by rw [slcK_nl]; exact h2 _ rfl)⟩
    · unfold slcR at h
      split at h
      · rename_i hid
        obtain ⟨q1, q2, h⟩ := h
        obtain ⟨a, b, h1, h2⟩ := bndK_mono h
        refine ⟨_, h1, fin _ (fun s' he => ?_)⟩
        simp only [slcK, slcR]
        rw [he _ _ hid (fun e => by cases e)]
        exact ⟨q1, q2, h2 _ rfl⟩
      · exact h.elim
    · exact h.elim
  | fad off x =>
    obtain ⟨v, h1, h2⟩ := withV_put h
    refine ⟨v, h1, fun s' ha _ => ?_⟩
    rw [su_fad, ← ha x (by simp [MO.args])]
    exact h2 s'
  | fld g off n x =>
    rw [su_fld] at h
    obtain ⟨v, h1, h2⟩ := withV_put h
    refine ⟨v, h1, fun s' ha _ => ?_⟩
    rw [su_fld, ← ha x (by simp [MO.args])]
    exact h2 s'
  | ixs sz x i =>
    have hx : ∀ s', Agree (MO.args (.ixs sz x i)) s s' → s'.get x = s.get x ∧ s'.get i = s.get i := fun s' ha => ⟨(ha x (by simp [MO.args])).symm, (ha i (by simp [MO.args])).symm⟩
    rw [su_ixs] at h
    have fin : ∀ v, (∀ s', Hext s.H s'.H → ixsK sz (s.get x) (s.get i) d (fun t => t = s'.put d v) s') → ∀ s', Agree (MO.args (.ixs sz x i)) s s' → Hext s.H s'.H → stepU C (.ixs sz x i) d (fun t => t = s'.put d v) s' := by
      intro v hv s' ha he
      obtain ⟨e1, e2⟩ := hx s' ha
      rw [su_ixs, e1, e2]
      exact hv s' he
    generalize s.get x = y at h fin
    generalize s.get i = z at h fin
    unfold ixsK at h
    split at h
    · split at h
      · obtain ⟨q1, r, q2, q3, h⟩ := h
        exact ⟨_, h, fin _ (fun s' _ => ⟨q1, r, q2, q3, rfl⟩)⟩
      · obtain ⟨q1, q2, h⟩ := h
        split at h
        · rename_i hid
          refine ⟨_, h.2.2, fin _ (fun s' he => ⟨q1, q2, ?_⟩)⟩
          rw [he _ _ hid (fun e => by cases e)]
          exact ⟨h.1, h.2.1, rfl⟩
        · exact h.elim
      · exact h.elim
    · exact h.elim
  | ixa len sz x i =>
    have hx : ∀ s', Agree (MO.args (.ixa len sz x i)) s s' → s'.get x = s.get x ∧ s'.get i = s.get i := fun s' ha => ⟨(ha x (by simp [MO.args])).symm, (ha i (by simp [MO.args])).symm⟩
    rw [su_ixa] at h
    have fin : ∀ v, (∀ s' : St, ixaK len sz (s.get x) (s.get i) d (fun t => t = s'.put d v) s') → ∀ s', Agree (MO.args (.ixa len sz x i)) s s' → Hext s.H s'.H → stepU C (.ixa len sz x i) d (fun t => t = s'.put d v) s' := by
      intro v hv s' ha he
      obtain ⟨e1, e2⟩ := hx s' ha
      rw [su_ixa, e1, e2]
      exact hv s'
    generalize s.get x = y at h fin
    generalize s.get i = z at h fin
    unfold ixaK at h
    split at h
    · split at h
      · exact ⟨_, h.2.2, fin _ (fun s' => ⟨h.1, h.2.1, rfl⟩)⟩
      · exact h.elim
    · exact h.elim
  | ixt x i =>
    have hx : ∀ s', Agree (MO.args (.ixt x i)) s s' → s'.get x = s.get x ∧ s'.get i = s.get i := fun s' ha => ⟨(ha x (by simp [MO.args])).symm, (ha i (by simp [MO.args])).symm⟩
    rw [su_ixt] at h
    have fin : ∀ v, (∀ s' : St, ixtK (s.get x) (s.get i) d (fun t => t = s'.put d v) s') → ∀ s', Agree (MO.args (.ixt x i)) s s' → Hext s.H s'.H → stepU C (.ixt x i) d (fun t => t = s'.put d v) s' := by
      intro v hv s' ha he
      obtain ⟨e1, e2⟩ := hx s' ha
      rw [su_ixt, e1, e2]
      exact hv s'
    generalize s.get x = y at h fin
    generalize s.get i = z at h fin
    unfold ixtK at h
    split at h
    · split at h
      · obtain ⟨q1, c, q2, h⟩ := h
        exact ⟨_, h, fin _ (fun s' => ⟨q1, c, q2, rfl⟩)⟩
      · exact h.elim
    · exact h.elim
  | ext x n =>
    obtain ⟨v, h1, h2⟩ := withV_put h
    refine ⟨v, h1, fun s' ha _ => ?_⟩
    rw [su_ext, ← ha x (by simp [MO.args])]
    exact h2 s'
  | lenq t x =>
    obtain ⟨v, h1, h2⟩ := withV_put h
    refine ⟨v, h1, fun s' ha _ => ?_⟩
    rw [su_lenq, ← ha x (by simp [MO.args])]
    exact h2 s'
  | cap x =>
    obtain ⟨v, h1, h2⟩ := withV_put h
    refine ⟨v, h1, fun s' ha _ => ?_⟩
    rw [su_cap, ← ha x (by simp [MO.args])]
    exact h2 s'
  | mnx m x y =>
    obtain ⟨v, h1, h2⟩ := withV_put h
    refine ⟨v, h1, fun s' ha _ => ?_⟩
    rw [su_mnx, ← ha x (by simp [MO.args]), ← ha y (by simp [MO.args])]
    exact h2 s'
  | beq m x y =>
    obtain ⟨v, h1, h2⟩ := withV_put h
    refine ⟨v, h1, fun s' ha _ => ?_⟩
    rw [su_beq, ← ha x (by simp [MO.args]), ← ha y (by simp [MO.args])]
    exact h2 s'
  | nii m x =>
    obtain ⟨v, h1, h2⟩ := withV_put h
    refine ⟨v, h1, fun s' ha _ => ?_⟩
    rw [su_nii, ← ha x (by simp [MO.args])]
    exact h2 s'
  | sq m n x y =>
    obtain ⟨v, h1, h2⟩ := withV_put h
    refine ⟨v, h1, fun s' ha _ => ?_⟩
    rw [su_sq, ← ha x (by simp [MO.args]), ← ha y (by simp [MO.args])]
    exact h2 s'
  | nilq sl m x =>
    change nilqK sl m (s.get x) d K s at h
    have fin : ∀ v, (∀ s', Hext s.H s'.H → nilqK sl m (s.get x) d (fun t => t = s'.put d v) s') → ∀ s', Agree (MO.args (.nilq sl m x)) s s' → Hext s.H s'.H → stepU C (.nilq sl m x) d (fun t => t = s'.put d v) s' := by
      intro v hv s' ha he
      rw [su_nilq, ← ha x (by simp [MO.args])]
      exact hv s' he
    generalize s.get x = y at h fin
    unfold nilqK at h
    split at h
    · exact ⟨_, h, fin _ (fun s' _ => rfl)⟩
    · exact ⟨_, h.2, fin _ (fun s' _ => ⟨h.1, rfl⟩)⟩
    · unfold nilqR at h
      split at h
      · rename_i hid
        refine ⟨_, h.2.2, fin _ (fun s' he => ?_)⟩
        simp only [nilqK, nilqR]
        rw [he _ _ hid (fun e => by cases e)]
        exact ⟨h.1, h.2.1, trivial⟩
      · exact h.elim
    · exact ⟨_, h, fin _ (fun s' _ => rfl)⟩
    · exact ⟨_, h, fin _ (fun s' _ => rfl)⟩
    · exact ⟨_, h, fin _ (fun s' _ => rfl)⟩
    · exact ⟨_, h, fin _ (fun s' _ => rfl)⟩
    · exact h.elim
  | _ => cases hq
theorem put_TH (s:St) (H:List AO) (d:MD) (v:AV):St.put ⟨s.L,s.T,H⟩ d v=⟨(s.put d v).L,(s.put d v).T,H⟩:=by cases d <;> rfl
theorem hext_app (H A:List AO):Hext H (H++A):=fun id o h _=>by
 rw [List.getElem?_append_left (List.getElem?_eq_some_iff.1 h).1]; exact h
theorem stoH_frame {H H':List AO} {n:Nat} {x v:AV} (A:List AO) (h:stoH H n x v=some H'):stoH (H++A) n x v=some (H'++A):=by
 unfold stoH at h ⊢
 split at h
 ·rename_i hc
  rw [if_pos hc]
  split at h
  ·rename_i id off
   split at h
   ·rename_i cs hid
    have hlt:=(List.getElem?_eq_some_iff.1 hid).1
    rw [Option.map_eq_some_iff] at h
    obtain ⟨cs',h1,rfl⟩:=h
    simp only [List.getElem?_append_left hlt,hid,h1,Option.map_some,List.set_append_left _ _ hlt]
   ·cases h
  ·rename_i id ver row col
   split at h
   ·rename_i sz ver' rs hid
    have hlt:=(List.getElem?_eq_some_iff.1 hid).1
    split at h
    ·rename_i hv
     split at h
     ·rename_i r hr
      rw [Option.map_eq_some_iff] at h
      obtain ⟨r',h1,rfl⟩:=h
      simp only [List.getElem?_append_left hlt,hid,hr,h1,Option.map_some,List.set_append_left _ _ hlt,if_pos hv]
     ·cases h
    ·cases h
   ·cases h
  ·cases h
 ·cases h
theorem su_sto' (st:St) (d:MD) (n x v):stepU C (.sto n x v) d K st=withH (stoH st.H n (st.get x) (st.get v)) d K st:=rfl
theorem su_app' (st:St) (d:MD) (sz b x y):stepU C (.app sz b x y) d K st=appY sz b (st.get x) (srcRows st.H sz (st.get y)) d K st:=rfl
theorem appX_gs' (st:St) (d:MD) (sz b id ver off n ys):appX sz b (.gs id ver off n) ys d K st=appR sz b id ver off n ys d K st st.H[id]?:=rfl
theorem withH_some' (st:St) (d:MD) (h):withH (some h) d K st=K (St.put ⟨st.L,st.T,h⟩ d .any):=rfl
theorem eff_val {o : MO} {d : MD} {s : St} (hq : kindOf o = .eff) (h : stepU C o d K s) :
    ∃ v H', K ⟨(s.put d v).L, (s.put d v).T, H'⟩ ∧ (H'.length = s.H.length → ∀ s' A, Agree o.args s s' → s'.H = s.H ++ A → stepU C o d (fun t => t = ⟨(s'.put d v).L, (s'.put d v).T, H' ++ A⟩) s') := by
  cases o with
  | sto n x v =>
    change withH (stoH s.H n (s.get x) (s.get v)) d K s at h
    cases hs : stoH s.H n (s.get x) (s.get v) with
    | none => rw [hs] at h; exact h.elim
    | some H' =>
      rw [hs] at h
      refine ⟨.any, H', by rw [← put_TH]; exact h, fun _ s' A ha hA => ?_⟩
      rw [su_sto', ← ha x (by simp [MO.args]), ← ha v (by simp [MO.args]), hA, stoH_frame A hs, withH_some', put_TH]
  | app sz b x y =>
    change appY sz b (s.get x) (srcRows s.H sz (s.get y)) d K s at h
    cases hy : srcRows s.H sz (s.get y) with
    | none => rw [hy] at h; exact h.elim
    | some ys =>
      rw [hy] at h
      obtain ⟨h1, h2⟩ := h
      unfold appX at h2
      split at h2
      · rename_i e
        obtain ⟨q1, q2, h2⟩ := h2
        rw [put_TH] at h2
        refine ⟨_, _, h2, fun hl => ?_⟩
        simp at hl
      · rename_i id ver off n e
        unfold appR at h2
        split at h2
        · rename_i sz' ver' rs hid
          obtain ⟨q1, q2, q3, q4, q5, q6, h2⟩ := h2
          rw [put_TH] at h2
          have hlt := (List.getElem?_eq_some_iff.1 hid).1
          refine ⟨_, _, h2, fun _ s' A ha hA => ?_⟩
          rw [su_app', ← ha x (by simp [MO.args]), ← ha y (by simp [MO.args]), hA, srcRows_ext (hext_app _ A) hy, e]
          refine ⟨h1, ?_⟩
          rw [appX_gs', hA, List.getElem?_append_left hlt, hid]
          refine ⟨q1, q2, q3, q4, q5, q6, ?_⟩
          rw [hA, List.set_append_left _ _ hlt]
          exact put_TH s' _ d _
        · exact h2.elim
      · exact h2.elim
  | _ => cases hq
end Go.AM
