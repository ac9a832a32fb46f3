/- What is lent to a function that only reads it, and the frames of calls. -/
import Derived.Test.YteilijfligofdaaGreatDoorAm23
set_option linter.all false
namespace Go.AM
variable {P:Program} {θ:Th} {W:Im}
def Grnd (a:AV):Prop:=∀ θ W θ' W' v,ARel θ W a v->ARel θ' W' a v
def noTh:Th:=fun _ _=>.no
theorem not_owned (b:Nat):¬ Owned noTh b:=by rintro ⟨id,ver,sz,tot,h⟩; cases h
theorem Stp.old_heap {w w':World} {θ':Th} {W W':Im} (h:Stp noTh W w θ' W' w'):∀ b,b<w.heap.size->w'.heap[b]?=w.heap[b]?:=fun b hb=>h.keep b hb (not_owned b)
end Go.AM
