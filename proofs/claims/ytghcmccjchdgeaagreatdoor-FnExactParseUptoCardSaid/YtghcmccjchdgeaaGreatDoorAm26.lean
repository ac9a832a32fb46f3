/- Readings of structs, field by field. -/
import Derived.Test.YtghcmccjchdgeaaGreatDoorAm25
set_option linter.all false
namespace Go.AM
open Go.ChangeShapes Go.WideShapes Go.RowKit
variable {P:Program} {bk:(H:Type)→DataW H→Nat} {B:Nat}
theorem Dec.all {t:TypeId} {α:Type} {f:α→List PV} {p:α→Prop} (h:∀ n,Dec P bk B (n+1) t f p):∀ n,Dec P bk B n t f p
 | 0=>dec_zero
 | n+1=>h n
end Go.AM
