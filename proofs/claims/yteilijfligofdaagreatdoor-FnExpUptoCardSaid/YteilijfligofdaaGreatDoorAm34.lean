/- Trees that are owned: slices of rows whose cells may be owned slices themselves. -/
import Derived.Test.YteilijfligofdaaGreatDoorAm33
set_option linter.all false
namespace Go.AM
inductive TV where
 | p (x:PV)
 | s (sz:Nat) (rows:List (List TV))
mutual
def Own (H:List AO):TV->AV->List Nat->Prop
 | .p x,a,ids=>a=.p x/\ids=[]
 | .s sz rows,a,ids=>(rows=[]/\a=.p .nl/\ids=[])\/∃ id ver rs js,a=.gs id ver 0 rs.length/\ids=id :: js/\H[id]?=some (.rows sz ver rs)/\OwnRs H sz rows rs js
def OwnCs (H:List AO):List TV->List AV->List Nat->Prop
 | [],cs,ids=>cs=[]/\ids=[]
 | t :: ts,cs,ids=>∃ a cs' i js,cs=a :: cs'/\ids=i++js/\Own H t a i/\OwnCs H ts cs' js
def OwnRs (H:List AO) (sz:Nat):List (List TV)->List (List AV)->List Nat->Prop
 | [],rs,ids=>rs=[]/\ids=[]
 | row :: rows,rs,ids=>∃ r rs' i js,rs=r :: rs'/\ids=i++js/\r.length=sz/\OwnCs H row r i/\OwnRs H sz rows rs' js
end
mutual
theorem Own.keep {H H' : List AO} : ∀ {t : TV} {a : AV} {ids : List Nat}, Own H t a ids → (∀ i ∈ ids, ∀ o, H[i]? = some o → H'[i]? = some o) → Own H' t a ids
  | .p x, a, ids, h, _ => by rw [Own] at h ⊢; exact h
  | .s sz rows, a, ids, h, hk => by
    rw [Own] at h ⊢
    rcases h with h | ⟨id, ver, rs, js, rfl, rfl, h1, h2⟩
    · exact .inl h
    · exact .inr ⟨id, ver, rs, js, rfl, rfl, hk id (by simp) _ h1, OwnRs.keep h2 fun i hi => hk i (by simp [hi])⟩
theorem OwnCs.keep {H H' : List AO} : ∀ {ts : List TV} {cs : List AV} {ids : List Nat}, OwnCs H ts cs ids → (∀ i ∈ ids, ∀ o, H[i]? = some o → H'[i]? = some o) → OwnCs H' ts cs ids
  | [], cs, ids, h, _ => by rw [OwnCs] at h ⊢; exact h
  | t :: ts, cs, ids, h, hk => by
    rw [OwnCs] at h ⊢
    obtain ⟨a, cs', i, js, rfl, rfl, h1, h2⟩ := h
    exact ⟨a, cs', i, js, rfl, rfl, h1.keep fun x hx => hk x (by simp [hx]), h2.keep fun x hx => hk x (by simp [hx])⟩
theorem OwnRs.keep {H H' : List AO} {sz : Nat} : ∀ {rows : List (List TV)} {rs : List (List AV)} {ids : List Nat}, OwnRs H sz rows rs ids → (∀ i ∈ ids, ∀ o, H[i]? = some o → H'[i]? = some o) → OwnRs H' sz rows rs ids
  | [], rs, ids, h, _ => by rw [OwnRs] at h ⊢; exact h
  | row :: rows, rs, ids, h, hk => by
    rw [OwnRs] at h ⊢
    obtain ⟨r, rs', i, js, rfl, rfl, h0, h1, h2⟩ := h
    exact ⟨r, rs', i, js, rfl, rfl, h0, h1.keep fun x hx => hk x (by simp [hx]), h2.keep fun x hx => hk x (by simp [hx])⟩
end
mutual
theorem Own.rows {H : List AO} : ∀ {t : TV} {a : AV} {ids : List Nat}, Own H t a ids → ∀ i ∈ ids, ∃ sz ver rs, H[i]? = some (.rows sz ver rs)
  | .p x, a, ids, h, i, hi => by rw [Own] at h; rw [h.2] at hi; cases hi
  | .s sz rows, a, ids, h, i, hi => by
    rw [Own] at h
    rcases h with ⟨_, _, rfl⟩ | ⟨id, ver, rs, js, rfl, rfl, h1, h2⟩
    · cases hi
    · rcases List.mem_cons.1 hi with rfl | hi
      · exact ⟨_, _, _, h1⟩
      · exact OwnRs.rows h2 i hi
theorem OwnCs.rows {H : List AO} : ∀ {ts : List TV} {cs : List AV} {ids : List Nat}, OwnCs H ts cs ids → ∀ i ∈ ids, ∃ sz ver rs, H[i]? = some (.rows sz ver rs)
  | [], cs, ids, h, i, hi => by rw [OwnCs] at h; rw [h.2] at hi; cases hi
  | t :: ts, cs, ids, h, i, hi => by
    rw [OwnCs] at h
    obtain ⟨a, cs', i', js, rfl, rfl, h1, h2⟩ := h
    rcases List.mem_append.1 hi with hi | hi
    · exact h1.rows i hi
    · exact OwnCs.rows h2 i hi
theorem OwnRs.rows {H : List AO} {sz : Nat} : ∀ {rows : List (List TV)} {rs : List (List AV)} {ids : List Nat}, OwnRs H sz rows rs ids → ∀ i ∈ ids, ∃ sz ver rs, H[i]? = some (.rows sz ver rs)
  | [], rs, ids, h, i, hi => by rw [OwnRs] at h; rw [h.2] at hi; cases hi
  | row :: rows, rs, ids, h, i, hi => by
    rw [OwnRs] at h
    obtain ⟨r, rs', i', js, rfl, rfl, h0, h1, h2⟩ := h
    rcases List.mem_append.1 hi with hi | hi
    · exact h1.rows i hi
    · exact OwnRs.rows h2 i hi
end
theorem OwnCs.nil (H:List AO):OwnCs H [] [] []:=by rw [OwnCs]; exact ⟨rfl,rfl⟩
theorem OwnCs.cons {H:List AO} {t:TV} {a:AV} {i:List Nat} {ts:List TV} {cs:List AV} {js:List Nat} (h:Own H t a i) (k:OwnCs H ts cs js):OwnCs H (t :: ts) (a :: cs) (i++js):=by
 rw [OwnCs]; exact ⟨a,cs,i,js,rfl,rfl,h,k⟩
theorem Own.pv (H:List AO) (x:PV):Own H (.p x) (.p x) []:=by rw [Own]; exact ⟨rfl,rfl⟩
theorem OwnCs.pc {H:List AO} {x:PV} {ts:List TV} {cs:List AV} {js:List Nat} (k:OwnCs H ts cs js):OwnCs H (.p x :: ts) (.p x :: cs) js:=OwnCs.cons (Own.pv H x) k
theorem OwnCs.one {H:List AO} {t:TV} {a:AV} {i:List Nat} (h:Own H t a i):OwnCs H [t] [a] i:=by
 have:=OwnCs.cons h (OwnCs.nil H); rwa [List.append_nil] at this
theorem Own.nl (H:List AO) (sz:Nat):Own H (.s sz []) (.p .nl) []:=by rw [Own]; exact .inl ⟨rfl,rfl,rfl⟩
theorem OwnCs.len {H : List AO} : ∀ {ts : List TV} {cs : List AV} {ids : List Nat}, OwnCs H ts cs ids → cs.length = ts.length
  | [], cs, ids, h => by rw [OwnCs] at h; rw [h.1]; rfl
  | t :: ts, cs, ids, h => by
    rw [OwnCs] at h
    obtain ⟨a, cs', i, js, rfl, rfl, h1, h2⟩ := h
    simp [OwnCs.len h2]
theorem OwnRs.len {H : List AO} {sz : Nat} : ∀ {rows : List (List TV)} {rs : List (List AV)} {ids : List Nat}, OwnRs H sz rows rs ids → rs.length = rows.length
  | [], rs, ids, h => by rw [OwnRs] at h; rw [h.1]; rfl
  | row :: rows, rs, ids, h => by
    rw [OwnRs] at h
    obtain ⟨r, rs', i, js, rfl, rfl, h0, h1, h2⟩ := h
    simp [OwnRs.len h2]
theorem OwnCs.at {H : List AO} : ∀ {ts : List TV} {cs : List AV} {ids : List Nat} {k : Nat} {t : TV}, OwnCs H ts cs ids → ts[k]? = some t →
    ∃ c j1 j2 j3, cs[k]? = some c ∧ ids = j1 ++ (j2 ++ j3) ∧ Own H t c j2 ∧ ∀ {H' : List AO} {t' : TV} {c' : AV}, Own H' t' c' j2 → (∀ i, i ∈ j1 ∨ i ∈ j3 → ∀ o, H[i]? = some o → H'[i]? = some o) → OwnCs H' (ts.set k t') (cs.set k c') ids
  | [], cs, ids, k, t, _, hk => by simp at hk
  | u :: ts, cs, ids, 0, t, h, hk => by
    rw [OwnCs] at h
    obtain ⟨a, cs', i, js, rfl, rfl, h1, h2⟩ := h
    simp at hk
    subst hk
    refine ⟨a, [], i, js, rfl, rfl, h1, fun {H' t' c'} h3 hkp => ?_⟩
    simp only [List.set_cons_zero]
    exact OwnCs.cons h3 (h2.keep fun x hx => hkp x (.inr hx))
  | u :: ts, cs, ids, k + 1, t, h, hk => by
    rw [OwnCs] at h
    obtain ⟨a, cs', i, js, rfl, rfl, h1, h2⟩ := h
    obtain ⟨c, j1, j2, j3, e1, rfl, e3, e4⟩ := OwnCs.at h2 (by simpa using hk)
    refine ⟨c, i ++ j1, j2, j3, by simpa using e1, by simp, e3, fun {H' t' c'} h3 hkp => ?_⟩
    simp only [List.set_cons_succ]
    exact OwnCs.cons (h1.keep fun x hx => hkp x (.inl (by simp [hx]))) (e4 h3 fun x hx => hkp x (by rcases hx with hx | hx; exact .inl (by simp [hx]); exact .inr hx))
theorem OwnRs.at {H : List AO} {sz : Nat} : ∀ {rows : List (List TV)} {rs : List (List AV)} {ids : List Nat} {k : Nat} {t : List TV}, OwnRs H sz rows rs ids → rows[k]? = some t →
    ∃ c j1 j2 j3, rs[k]? = some c ∧ ids = j1 ++ (j2 ++ j3) ∧ c.length = sz ∧ OwnCs H t c j2 ∧ ∀ {H' : List AO} {t' : List TV} {c' : List AV}, c'.length = sz → OwnCs H' t' c' j2 → (∀ i, i ∈ j1 ∨ i ∈ j3 → ∀ o, H[i]? = some o → H'[i]? = some o) → OwnRs H' sz (rows.set k t') (rs.set k c') ids
  | [], cs, ids, k, t, _, hk => by simp at hk
  | u :: ts, cs, ids, 0, t, h, hk => by
    rw [OwnRs] at h
    obtain ⟨a, cs', i, js, rfl, rfl, h0, h1, h2⟩ := h
    simp at hk
    subst hk
    refine ⟨a, [], i, js, rfl, rfl, h0, h1, fun {H' t' c'} hl h3 hkp => ?_⟩
    simp only [List.set_cons_zero]
    rw [OwnRs]
    exact ⟨_, _, _, _, rfl, rfl, hl, h3, h2.keep fun x hx => hkp x (.inr hx)⟩
  | u :: ts, cs, ids, k + 1, t, h, hk => by
    rw [OwnRs] at h
    obtain ⟨a, cs', i, js, rfl, rfl, h0, h1, h2⟩ := h
    obtain ⟨c, j1, j2, j3, e1, rfl, e2, e3, e4⟩ := OwnRs.at h2 (by simpa using hk)
    refine ⟨c, i ++ j1, j2, j3, by simpa using e1, by simp, e2, e3, fun {H' t' c'} hl h3 hkp => ?_⟩
    simp only [List.set_cons_succ]
    rw [OwnRs]
    exact ⟨_, _, i, j1 ++ (j2 ++ j3), rfl, by simp, h0, h1.keep fun x hx => hkp x (.inl (by simp [hx])), e4 hl h3 fun x hx => hkp x (by rcases hx with hx | hx; exact .inl (by simp [hx]); exact .inr hx)⟩
theorem list_set_same {α:Type} {l:List α} {k:Nat} {a:α} (h:l[k]?=some a):l.set k a=l:=by
 obtain ⟨hlt,he⟩:=List.getElem?_eq_some_iff.1 h
 rw [<- he]; exact List.set_getElem_self hlt
end Go.AM
