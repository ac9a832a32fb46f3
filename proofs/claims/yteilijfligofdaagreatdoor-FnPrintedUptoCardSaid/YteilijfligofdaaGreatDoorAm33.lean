/- A slice that was made and is not written any more is data; its object is dead. -/
import Derived.Test.YteilijfligofdaaGreatDoorAm32
set_option linter.all false
namespace Go.AM
variable {P:Program}
end Go.AM
