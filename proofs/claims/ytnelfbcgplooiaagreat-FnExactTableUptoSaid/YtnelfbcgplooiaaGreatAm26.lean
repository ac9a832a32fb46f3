/- Readings of structs, field by field. -/
import Derived.Test.YtnelfbcgplooiaaGreatAm25
set_option linter.all false
namespace Go.AM
open Go.ChangeShapes Go.WideShapes Go.RowKit
variable {P:Program} {bk:(H:Type)→DataW H→Nat} {B:Nat}
def DecFs (P:Program) (bk:(H:Type)→DataW H→Nat) (B n tot:Nat) (fs:List Field) (off:Nat) {α:Type} (f:α→List PV) (p:α→Prop):Prop :=
 ∀ (H:Type) (enc:TypeId × Value→H) (w:World) (sp:Nat→Bool) (cs:List Value) (xs:List (DataW H × List MemPlace)),cs.length=tot→xs.length=fs.length →
  (∀ (i:Nat) fd,fs[i]?=some fd→DataW.trod enc P w 0 sp true n fd.type ((cs.drop fd.offset).take (P.cellsOf fd.type))=xs[i]?)→(∀ x∈xs,bk H x.1≤B)→∃ a,p a∧PRels (memIm w) (f a) (cs.drop off)
theorem decFs_one {n tot off : Nat} {fd : Field} {α : Type} {f : α → List PV} {p : α → Prop} (ho : fd.offset = off) (hs : off + P.cellsOf fd.type = tot) (h : Dec P bk B n fd.type f p) : DecFs P bk B n tot [fd] off f p := by
  intro H enc w sp cs xs hl hx hr hb
  match xs, hx with
  | [x], _ =>
    have h1 := hr 0 fd rfl
    obtain ⟨a, h2, h3⟩ := h H enc w sp _ x h1 (hb x (by simp))
    refine ⟨a, h2, ?_⟩
    rw [List.take_of_length_le (by simp; omega), ho] at h3
    exact h3
theorem decFs_cons {n tot off : Nat} {fd : Field} {fs : List Field} {α β : Type} {f : α → List PV} {p : α → Prop} {g : β → List PV} {q : β → Prop} (ho : fd.offset = off) {off' : Nat} (hs : off + P.cellsOf fd.type = off') (h : Dec P bk B n fd.type f p)
    (k : DecFs P bk B n tot fs off' g q) : DecFs P bk B n tot (fd :: fs) off (fun x : α × β => f x.1 ++ g x.2) (fun x => p x.1 ∧ q x.2) := by
  intro H enc w sp cs xs hl hx hr hb
  match xs, hx with
  | x :: xs, hx =>
    have h1 := hr 0 fd rfl
    obtain ⟨a, h2, h3⟩ := h H enc w sp _ x h1 (hb x (by simp))
    obtain ⟨b, h4, h5⟩ := k H enc w sp cs xs hl (by simpa using hx) (fun i fd' hi => by have := hr (i + 1) fd' (by simpa using hi); simpa using this) (fun y hy => hb y (List.mem_cons_of_mem _ hy))
    refine ⟨(a, b), ⟨h2, h4⟩, ?_⟩
    have h6 := h3.append h5
    rw [ho, ← hs, ← List.drop_drop, List.take_append_drop] at h6
    exact h6
theorem dec_struct {n:Nat} {t:TypeId} {fs:Array Field} {tot:Nat} {α:Type} {f:α→List PV} {p:α→Prop} (hbk:BkOk bk) (ht:P.underlying t=some (.struct fs)) (hc:P.cellsOf t=tot) (h:DecFs P bk B n tot fs.toList 0 f p):Dec P bk B (n+1) t f p:=by
 intro H enc w sp cs x hx hb
 obtain ⟨xs,n',hn,rfl,hl,hxl,hget⟩:=DataW.trod_struct ht hx
 cases hn
 obtain ⟨a,h1,h2⟩:=h H enc w sp cs xs (hl.trans hc) (by simpa using hxl) (fun i fd hi=>hget i fd (by simpa using hi)) (fun y hy=>Nat.le_trans (hbk.part H _ _ (List.mem_map_of_mem hy)) hb)
 exact ⟨a,h1,by simpa using h2⟩
theorem Dec.all {t:TypeId} {α:Type} {f:α→List PV} {p:α→Prop} (h:∀ n,Dec P bk B (n+1) t f p):∀ n,Dec P bk B n t f p
 | 0=>dec_zero
 | n+1=>h n
theorem arg_struct {t:TypeId} {fs:Array Field} {v:Value} {w:World} {r:Reach} {base:Nat} {H:Type} {enc:TypeId × Value→H} {sp:Nat→Bool} {d:DataW H} {ps:List MemPlace} {α:Type} {f:α→List PV} {p:α→Prop}
  (ht:P.underlying t=some (.struct fs)) (hdec:∀ n,Dec P bk B n t f p) (hok:Value.okWide P w r base t v) (h:DataW.Trod enc P w 0 sp true t v d ps) (hb:bk H d≤B) :
  ∃ a:α,p a∧ARel noTh (memIm w) (.st ((f a).map .p)) v:=by
 have hv:∃ cs,v=.agg cs:=by
  simp only [Value.okWide,ht] at hok
  obtain ⟨cs,h1,_⟩:=hok
  exact ⟨cs,h1⟩
 obtain ⟨cs,rfl⟩:=hv
 obtain ⟨n,hn⟩:=h
 obtain ⟨a,h1,h2⟩:=hdec n H enc w sp _ _ hn hb
 have h2':PRels (memIm w) (f a) cs.toList:=h2
 refine ⟨a,h1,.st _ cs (by have:=h2'.1; simp at this ⊢; omega) (fun j c u hj hu=>?_) (fun j u hu=>?_)⟩
 ·rw [List.getElem?_map] at hj
  cases hq:(f a)[j]? with
  | none=>rw [hq] at hj; cases hj
  | some q=>rw [hq] at hj; cases hj; exact .p _ _ (h2'.2 j q u hq (by simpa using hu))
 ·have hlt:j<(f a).length:=by
   have h3:=(Array.getElem?_eq_some_iff.1 hu).1
   have:=h2'.1; simp at this; omega
  exact (h2'.2 j _ u (List.getElem?_eq_getElem hlt) (by simpa using hu)).one
end Go.AM
