/- Owned trees: lent as data; given by a call. -/
import Derived.Test.YteilijfligofdaaGreatDoorAm35
set_option linter.all false
namespace Go.AM
variable {P:Program}
mutual
def TV.pv:TV->PV
 | .p x=>x
 | .s _ rows=>.l (TV.kL rows)
def TV.kM:List TV->List PV
 |[]=>[]
 |t::l=>t.pv::TV.kM l
def TV.kL:List (List TV)->List (List PV)
 |[]=>[]
 |r::l=>TV.kM r::TV.kL l
end
theorem Rc (l:List TV):(TV.kM l).length=l.length:=by
 induction l with
 |nil=>rw[TV.kM];rfl
 |cons t l ih=>rw[TV.kM];simp[ih]
theorem Re (l:List (List TV)):(TV.kL l).length=l.length:=by
 induction l with
 |nil=>rw[TV.kL];rfl
 |cons t l ih=>rw[TV.kL];simp[ih]
end Go.AM
