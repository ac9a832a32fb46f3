/- Readings of structs, field by field. -/
import Derived.Test.YteilijfligofdaaGreatDoorAm25
set_option linter.all false
namespace Go.AM
open Go.ChangeShapes Go.WideShapes Go.RowKit
variable {P:Program} {bk:(H:Type)->DataW H->Nat} {B:Nat}
end Go.AM
