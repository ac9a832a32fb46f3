/- Owned trees: lent as data; given by a call. -/
import Derived.Test.YtjkbbnfdbfcebaaGreatDoorAm35
set_option linter.all false
namespace Go.AM
variable {P:Program}
end Go.AM
