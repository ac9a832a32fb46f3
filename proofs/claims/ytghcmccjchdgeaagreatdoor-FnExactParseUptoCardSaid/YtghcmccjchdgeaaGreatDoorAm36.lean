/- Owned trees: lent as data; given by a call. -/
import Derived.Test.YtghcmccjchdgeaaGreatDoorAm35
set_option linter.all false
namespace Go.AM
variable {P:Program}
mutual
def TV.pv:TV→PV
 | .p x=>x
 | .s _ rows=>.l (TV.pvR rows)
def TV.pvC:List TV→List PV
 | []=>[]
 | t :: l=>t.pv :: TV.pvC l
def TV.pvR:List (List TV)→List (List PV)
 | []=>[]
 | r :: l=>TV.pvC r :: TV.pvR l
end
theorem pvC_len (l:List TV):(TV.pvC l).length=l.length:=by
 induction l with
 | nil=>rw [TV.pvC]; rfl
 | cons t l ih=>rw [TV.pvC]; simp [ih]
theorem pvR_len (l:List (List TV)):(TV.pvR l).length=l.length:=by
 induction l with
 | nil=>rw [TV.pvR]; rfl
 | cons t l ih=>rw [TV.pvR]; simp [ih]
mutual
theorem Own.lent {H : List AO} : ∀ {t : TV} {a : AV} {ids : List Nat}, Own H t a ids → Lent H a (.p t.pv)
  | .p x, a, ids, h => by rw [Own] at h; rw [h.1, TV.pv]; exact .pure _
  | .s sz rows, a, ids, h => by
    rw [Own] at h
    rcases h with ⟨rfl, rfl, _⟩ | ⟨id, ver, rs, js, rfl, rfl, h1, h2⟩
    · rw [TV.pv, TV.pvR]; exact .nl
    · rw [TV.pv]
      have hl := h2.len
      obtain ⟨h3, h4⟩ := h2.lentR
      exact .gs id ver 0 rs.length sz rs _ h1 (by omega) (by rw [pvR_len, hl]) h3 (fun i r y j c q hr hy => by rw [Nat.zero_add] at hr; exact h4 i r y hr hy j c q)
theorem OwnCs.lentC {H : List AO} : ∀ {ts : List TV} {cs : List AV} {ids : List Nat}, OwnCs H ts cs ids → ∀ (j : Nat) c q, cs[j]? = some c → (TV.pvC ts)[j]? = some q → Lent H c (.p q)
  | [], cs, ids, h, j, c, q, hc, hq => by rw [TV.pvC] at hq; simp at hq
  | t :: ts, cs, ids, h, j, c, q, hc, hq => by
    rw [OwnCs] at h
    obtain ⟨a, cs', i', js, rfl, rfl, h1, h2⟩ := h
    rw [TV.pvC] at hq
    cases j with
    | zero => simp at hc hq; subst hc hq; exact h1.lent
    | succ j => exact h2.lentC j c q (by simpa using hc) (by simpa using hq)
theorem OwnRs.lentR {H : List AO} {sz : Nat} : ∀ {rows : List (List TV)} {rs : List (List AV)} {ids : List Nat}, OwnRs H sz rows rs ids → (∀ y ∈ TV.pvR rows, y.length = sz) ∧ ∀ (i : Nat) r y, rs[i]? = some r → (TV.pvR rows)[i]? = some y → ∀ (j : Nat) c q, r[j]? = some c → y[j]? = some q → Lent H c (.p q)
  | [], rs, ids, h => by rw [TV.pvR]; exact ⟨fun y hy => by (cases hy), fun i r y hr hy => by simp at hy⟩
  | row :: rows, rs, ids, h => by
    rw [OwnRs] at h
    obtain ⟨r, rs', i', js, rfl, rfl, h0, h1, h2⟩ := h
    obtain ⟨h3, h4⟩ := h2.lentR
    rw [TV.pvR]
    refine ⟨fun y hy => ?_, fun i r' y hr hy => ?_⟩
    · rcases List.mem_cons.1 hy with rfl | hy
      · rw [pvC_len, ← h1.len, h0]
      · exact h3 y hy
    · cases i with
      | zero => simp at hr hy; subst hr hy; exact h1.lentC
      | succ i => exact h4 i r' y (by simpa using hr) (by simpa using hy)
end
mutual
def GrT:TV→Prop
 | .p x=>Grnd (.p x)
 | .s _ rows=>GrR rows
def GrC:List TV→Prop
 | []=>True
 | t :: l=>GrT t∧GrC l
def GrR:List (List TV)→Prop
 | []=>True
 | r :: l=>GrC r∧GrR l
end
def rnV (ids:List Nat) (b:Nat):AV→AV
 | .gs id ver off n=>.gs (b+ids.idxOf id) ver off n
 | x=>x
theorem idx_get {ids:List Nat} {i:Nat} (h:i∈ids):ids[ids.idxOf i]?=some i:=by
 rw [List.getElem?_eq_getElem (List.idxOf_lt_length_of_mem h),List.getElem_idxOf]
theorem ren_own {ids : List Nat} {b : Nat} {H : List AO} {t : TV} {a : AV} {js : List Nat} (h : Own H t a js) (hg : GrT t) (hj : ∀ i ∈ js, i ∈ ids) : Ren ids b a (rnV ids b a) := by
  cases t with
  | p x => rw [Own] at h; rw [GrT] at hg; rw [h.1]; exact .g _ hg
  | s sz rows =>
    rw [Own] at h
    rcases h with ⟨_, rfl, _⟩ | ⟨id, ver, rs, ks, rfl, rfl, h1, h2⟩
    · exact .g _ grnd_nl
    · exact .gs _ _ _ _ _ (idx_get (hj id (by simp)))
mutual
theorem Own.cells {b : Nat} {H : List AO} {ids : List Nat} : ∀ {t : TV} {a : AV} {js : List Nat}, Own H t a js → GrT t → (∀ i ∈ js, i ∈ ids) → ∀ i ∈ js, ∃ sz ver rs, H[i]? = some (.rows sz ver rs) ∧ ∀ r ∈ rs, ∀ c ∈ r, Ren ids b c (rnV ids b c)
  | .p x, a, js, h, hg, hj, i, hi => by rw [Own] at h; rw [h.2] at hi; cases hi
  | .s sz rows, a, js, h, hg, hj, i, hi => by
    rw [Own] at h
    rw [GrT] at hg
    rcases h with ⟨_, _, rfl⟩ | ⟨id, ver, rs, ks, rfl, rfl, h1, h2⟩
    · cases hi
    · obtain ⟨q1, q2⟩ := h2.cellsR hg (fun i hi => hj i (by simp [hi]))
      rcases List.mem_cons.1 hi with rfl | hi
      · exact ⟨_, _, _, h1, q1⟩
      · exact q2 i hi
theorem OwnCs.cellsC {b : Nat} {H : List AO} {ids : List Nat} : ∀ {ts : List TV} {cs : List AV} {js : List Nat}, OwnCs H ts cs js → GrC ts → (∀ i ∈ js, i ∈ ids) → (∀ c ∈ cs, Ren ids b c (rnV ids b c)) ∧ ∀ i ∈ js, ∃ sz ver rs, H[i]? = some (.rows sz ver rs) ∧ ∀ r ∈ rs, ∀ c ∈ r, Ren ids b c (rnV ids b c)
  | [], cs, js, h, hg, hj => by rw [OwnCs] at h; obtain ⟨rfl, rfl⟩ := h; exact ⟨fun c hc => by (cases hc), fun i hi => by (cases hi)⟩
  | t :: ts, cs, js, h, hg, hj => by
    rw [OwnCs] at h
    rw [GrC] at hg
    obtain ⟨a, cs', i', ks, rfl, rfl, h1, h2⟩ := h
    obtain ⟨q1, q2⟩ := h2.cellsC hg.2 (fun i hi => hj i (by simp [hi]))
    refine ⟨fun c hc => ?_, fun i hi => ?_⟩
    · rcases List.mem_cons.1 hc with rfl | hc
      · exact ren_own h1 hg.1 fun i hi => hj i (by simp [hi])
      · exact q1 c hc
    · rcases List.mem_append.1 hi with hi | hi
      · exact h1.cells hg.1 (fun i hi => hj i (by simp [hi])) i hi
      · exact q2 i hi
theorem OwnRs.cellsR {b : Nat} {H : List AO} {ids : List Nat} {sz : Nat} : ∀ {rows : List (List TV)} {rs : List (List AV)} {js : List Nat}, OwnRs H sz rows rs js → GrR rows → (∀ i ∈ js, i ∈ ids) → (∀ r ∈ rs, ∀ c ∈ r, Ren ids b c (rnV ids b c)) ∧ ∀ i ∈ js, ∃ sz ver rs, H[i]? = some (.rows sz ver rs) ∧ ∀ r ∈ rs, ∀ c ∈ r, Ren ids b c (rnV ids b c)
  | [], rs, js, h, hg, hj => by rw [OwnRs] at h; obtain ⟨rfl, rfl⟩ := h; exact ⟨fun c hc => by (cases hc), fun i hi => by (cases hi)⟩
  | row :: rows, rs, js, h, hg, hj => by
    rw [OwnRs] at h
    rw [GrR] at hg
    obtain ⟨r, rs', i', ks, rfl, rfl, h0, h1, h2⟩ := h
    obtain ⟨q1, q2⟩ := h2.cellsR hg.2 (fun i hi => hj i (by simp [hi]))
    obtain ⟨q3, q4⟩ := h1.cellsC hg.1 (fun i hi => hj i (by simp [hi]))
    refine ⟨fun c hc => ?_, fun i hi => ?_⟩
    · rcases List.mem_cons.1 hc with rfl | hc
      · exact q3
      · exact q1 c hc
    · rcases List.mem_append.1 hi with hi | hi
      · exact q4 i hi
      · exact q2 i hi
end
end Go.AM
