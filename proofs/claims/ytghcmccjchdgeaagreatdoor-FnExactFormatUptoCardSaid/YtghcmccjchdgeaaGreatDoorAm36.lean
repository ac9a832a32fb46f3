/- Owned trees: lent as data; given by a call. -/
import Derived.Test.YtghcmccjchdgeaaGreatDoorAm35
set_option linter.all false
namespace Go.AM
variable {P:Program}
mutual
def TV.pv:TV->PV
 | .p x=>x
 | .s _ rows=>.l (TV.pvR rows)
def TV.pvC:List TV->List PV
 | []=>[]
 | t :: l=>t.pv :: TV.pvC l
def TV.pvR:List (List TV)->List (List PV)
 | []=>[]
 | r :: l=>TV.pvC r :: TV.pvR l
end
theorem pvC_len (l:List TV):(TV.pvC l).length=l.length:=by
 induction l with
 | nil=>rw [TV.pvC]; rfl
 | cons t l ih=>rw [TV.pvC]; simp [ih]
theorem pvR_len (l:List (List TV)):(TV.pvR l).length=l.length:=by
 induction l with
 | nil=>rw [TV.pvR]; rfl
 | cons t l ih=>rw [TV.pvR]; simp [ih]
mutual
theorem Own.lent {H : List AO} : ∀ {t : TV} {a : AV} {ids : List Nat}, Own H t a ids → Lent H a (.p t.pv)
  | .p x, a, ids, h => by rw [Own] at h; rw [h.1, TV.pv]; exact .pure _
  | .s sz rows, a, ids, h => by
    rw [Own] at h
    rcases h with ⟨rfl, rfl, _⟩ | ⟨id, ver, rs, js, rfl, rfl, h1, h2⟩
    · rw [TV.pv, TV.pvR]; exact .nl
    · rw [TV.pv]
      have hl := h2.len
      obtain ⟨h3, h4⟩ := h2.lentR
      exact .gs id ver 0 rs.length sz rs _ h1 (by omega) (by rw [pvR_len, hl]) h3 (fun i r y j c q hr hy => by rw [Nat.zero_add] at hr; exact h4 i r y hr hy j c q)
theorem OwnCs.lentC {H : List AO} : ∀ {ts : List TV} {cs : List AV} {ids : List Nat}, OwnCs H ts cs ids → ∀ (j : Nat) c q, cs[j]? = some c → (TV.pvC ts)[j]? = some q → Lent H c (.p q)
  | [], cs, ids, h, j, c, q, hc, hq => by rw [TV.pvC] at hq; simp at hq
  | t :: ts, cs, ids, h, j, c, q, hc, hq => by
    rw [OwnCs] at h
    obtain ⟨a, cs', i', js, rfl, rfl, h1, h2⟩ := h
    rw [TV.pvC] at hq
    cases j with
    | zero => simp at hc hq; subst hc hq; exact h1.lent
    | succ j => exact h2.lentC j c q (by simpa using hc) (by simpa using hq)
theorem OwnRs.lentR {H : List AO} {sz : Nat} : ∀ {rows : List (List TV)} {rs : List (List AV)} {ids : List Nat}, OwnRs H sz rows rs ids → (∀ y ∈ TV.pvR rows, y.length = sz) ∧ ∀ (i : Nat) r y, rs[i]? = some r → (TV.pvR rows)[i]? = some y → ∀ (j : Nat) c q, r[j]? = some c → y[j]? = some q → Lent H c (.p q)
  | [], rs, ids, h => by rw [TV.pvR]; exact ⟨fun y hy => by (cases hy), fun i r y hr hy => by simp at hy⟩
  | row :: rows, rs, ids, h => by
    rw [OwnRs] at h
    obtain ⟨r, rs', i', js, rfl, rfl, h0, h1, h2⟩ := h
    obtain ⟨h3, h4⟩ := h2.lentR
    rw [TV.pvR]
    refine ⟨fun y hy => ?_, fun i r' y hr hy => ?_⟩
    · rcases List.mem_cons.1 hy with rfl | hy
      · rw [pvC_len, ← h1.len, h0]
      · exact h3 y hy
    · cases i with
      | zero => simp at hr hy; subst hr hy; exact h1.lentC
      | succ i => exact h4 i r' y (by simpa using hr) (by simpa using hy)
end
end Go.AM
