/- Readings of structs, field by field. -/
import Derived.Test.YtjkbbnfdbfcebaaGreatDoorAm25
set_option linter.all false
namespace Go.AM
open Go.ChangeShapes Go.WideShapes Go.RowKit
variable {P:Program} {bk:(H:Type)->DataW H->Nat} {B:Nat}
def Fm (P:Program) (bk:(H:Type)->DataW H->Nat) (B n tot:Nat) (fs:List Field) (off:Nat) {α:Type} (f:α->List PV) (p:α->Prop):Prop :=
 ∀(H:Type) (enc:TypeId×Value->H) (w:World) (sp:Nat->Bool) (cs:List Value) (xs:List (DataW H×List MemPlace)),cs.length=tot->xs.length=fs.length->
  (∀(i:Nat) fd,fs[i]?=some fd->DataW.trod enc P w 0 sp true n fd.type ((cs.drop fd.offset).take (P.cellsOf fd.type))=xs[i]?)->(∀x∈xs,bk H x.1<=B)->∃a,p a/\lg (gX w) (f a) (cs.drop off)
theorem lj {n tot off:Nat} {fd:Field} {α:Type} {f:α→List PV} {p:α→Prop} (ho:fd.offset=off) (hs:off+P.cellsOf fd.type=tot) (h:jR P bk B n fd.type f p):Fm P bk B n tot [fd] off f p:=by
  intro H enc w sp cs xs hl hx hr hb
  match xs,hx with
  |[x],_ =>
   have h1:=hr 0 fd rfl;obtain⟨a,h2,h3⟩:=h H enc w sp _ x h1 (hb x (by simp));refine⟨a,h2, ?_⟩;rw[List.take_of_length_le (by simp;omega),ho]at h3;exact h3
theorem cN {n tot off:Nat} {fd:Field} {fs:List Field} {α β:Type} {f:α→List PV} {p:α→Prop} {g:β→List PV} {q:β→Prop} (ho:fd.offset=off) {off':Nat} (hs:off+P.cellsOf fd.type=off') (h:jR P bk B n fd.type f p)
    (k:Fm P bk B n tot fs off' g q):Fm P bk B n tot (fd::fs) off (fun x:α×β=>f x.1++g x.2) (fun x=>p x.1∧q x.2):=by
  intro H enc w sp cs xs hl hx hr hb
  match xs,hx with
  |x::xs,hx=>
   have h1:=hr 0 fd rfl;obtain⟨a,h2,h3⟩:=h H enc w sp _ x h1 (hb x (by simp));obtain⟨b,h4,h5⟩:=k H enc w sp cs xs hl (by simpa using hx) (fun i fd' hi=>by have :=hr (i+1) fd' (by simpa using hi);simpa using this) (fun y hy=>hb y (List.mem_cons_of_mem _ hy));refine⟨(a,b),⟨h2,h4⟩, ?_⟩;have h6:=h3.append h5;rw[ho,←hs,←List.drop_drop,List.take_append_drop]at h6;exact h6
theorem jX {n:Nat} {t:TypeId} {fs:Array Field} {tot:Nat} {α:Type} {f:α->List PV} {p:α->Prop} (NC:Mw bk) (ht:P.underlying t=some (.struct fs)) (hc:P.cellsOf t=tot) (h:Fm P bk B n tot fs.toList 0 f p):jR P bk B (n+1) t f p:=by
 intro H enc w sp cs x hx hb;obtain⟨xs,n',hn,rfl,hl,Jh,Am⟩:=DataW.trod_struct ht hx;cases hn;obtain⟨a,h1,h2⟩:=h H enc w sp cs xs (hl.trans hc) (by simpa using Jh) (fun i fd hi=>Am i fd (by simpa using hi)) (fun y hy=>Nat.le_trans (NC.part H _ _ (List.mem_map_of_mem hy)) hb);exact⟨a,h1,by simpa using h2⟩
theorem jR.all {t:TypeId} {α:Type} {f:α->List PV} {p:α->Prop} (h:∀n,jR P bk B (n+1) t f p):∀n,jR P bk B n t f p
 |0=>fm
 |n+1=>h n
theorem Hf {t:TypeId} {fs:Array Field} {v:Value} {w:World} {r:Reach} {base:Nat} {H:Type} {enc:TypeId×Value->H} {sp:Nat->Bool} {d:DataW H} {ps:List MemPlace} {α:Type} {f:α->List PV} {p:α->Prop}
  (ht:P.underlying t=some (.struct fs)) (agk:∀n,jR P bk B n t f p) (b9:Value.okWide P w r base t v) (h:DataW.Trod enc P w 0 sp true t v d ps) (hb:bk H d<=B):
  ∃a:α,p a/\bc ou (gX w) (.st ((f a).map .p)) v:=by
 have hv:∃cs,v=.agg cs:=by
  simp only[Value.okWide,ht]at b9;obtain⟨cs,h1,_⟩:=b9;exact⟨cs,h1⟩
 obtain⟨cs,rfl⟩:=hv;obtain⟨n,hn⟩:=h;obtain⟨a,h1,h2⟩:=agk n H enc w sp _ _ hn hb;have Np:lg (gX w) (f a) cs.toList:=h2;refine⟨a,h1,.st _ cs (by have:=Np.1;simp at this⊢;omega) (fun j c u hj hu=>?_) (fun j u hu=>?_)⟩
 ·rw[List.getElem?_map]at hj
  cases hq:(f a)[j]?with
  |none=>rw[hq]at hj;cases hj
  |some q=>rw[hq]at hj;cases hj;exact .p _ _ (Np.2 j q u hq (by simpa using hu))
 ·have aj:j<(f a).length:=by
   have h3:=(Array.getElem?_eq_some_iff.1 hu).1;have:=Np.1;simp at this;omega
  exact(Np.2 j _ u (List.getElem?_eq_getElem aj) (by simpa using hu)).one
end Go.AM
