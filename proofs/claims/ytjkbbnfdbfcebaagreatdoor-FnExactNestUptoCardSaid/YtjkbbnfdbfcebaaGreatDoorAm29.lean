/- Slices that are owned, as the laws hold them: where they lie, what keeps them. -/
import Derived.Test.YtjkbbnfdbfcebaaGreatDoorAm28
set_option linter.all false
namespace Go.AM
variable {P:Program}
theorem ay {H:List AO} {j:Nat} {o:AO} (h:H[j]?=some o) (A:List AO):(H++A)[j]?=some o:=by
 rw[List.getElem?_append_left (List.getElem?_eq_some_iff.1 h).1];exact h
theorem aU {H:List AO} {i j:Nat} {o o':AO} (h:H[j]?=some o) (cX:i≠j):(H.set i o')[j]?=some o:=by
 rw[List.getElem?_set_ne cX];exact h
theorem bj {H:List AO} {j:Nat} {o:AO} (h:H[j]?=some o):j<H.length:=(List.getElem?_eq_some_iff.1 h).1
end Go.AM
