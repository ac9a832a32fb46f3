/- Owned trees: lent as data; given by a call. -/
import Derived.Test.YteilijfligofdaaGreatDoorAm35
set_option linter.all false
namespace Go.AM
variable {P:Program}
mutual
def TV.pv:TV->PV
 | .p x=>x
 | .s _ rows=>.l (TV.pvR rows)
def TV.pvC:List TV->List PV
 | []=>[]
 | t :: l=>t.pv :: TV.pvC l
def TV.pvR:List (List TV)->List (List PV)
 | []=>[]
 | r :: l=>TV.pvC r :: TV.pvR l
end
theorem pvC_len (l:List TV):(TV.pvC l).length=l.length:=by
 induction l with
 | nil=>rw [TV.pvC]; rfl
 | cons t l ih=>rw [TV.pvC]; simp [ih]
theorem pvR_len (l:List (List TV)):(TV.pvR l).length=l.length:=by
 induction l with
 | nil=>rw [TV.pvR]; rfl
 | cons t l ih=>rw [TV.pvR]; simp [ih]
end Go.AM
