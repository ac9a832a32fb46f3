/- Marks that laws write into trees. -/
import Derived.Test.YtjkbbnfdbfcebaaGreatDoorAm36
set_option linter.all false
namespace Go.AM
end Go.AM
