/- What is lent to a function that only reads it, and the frames of calls. -/
import Derived.Test.YteilijfligofdaaGreatDoorAm23
set_option linter.all false
namespace Go.AM
variable {P:Program} {θ:Th} {W:Im}
def af4 (a:AV):Prop:=∀θ W aX W' v,bb θ W a v->bb aX W' a v
def yc:Th:=fun _ _=>.no
theorem Cf (b:Nat):¬lg yc b:=by rintro⟨id,ver,sz,br,h⟩;cases h
theorem eW.Oz {w w':World} {aX:Th} {W W':Im} (h:eW yc W w aX W' w'):∀b,b<w.heap.size->w'.heap[b]?=w.heap[b]?:=fun b hb=>h.eF b hb (Cf b)
end Go.AM
