/- The short names stand in the set of the walk itself. -/
import Derived.Test.YtjkbbnfdbfcebaaGreatDoorAm31
set_option linter.all false
namespace Go.AM
attribute [go_sem] Z2 Z3 Z4 Z5 Z6 Z7 Z8 Z9 Za Zb Zc Zd Ze Zf Zg Zh Zi Zj Zk Zl Zm Zn Zo Zp Zq Zr
abbrev ax (P:Program) (f n:Nat) (mc:MC) (mr:List MR):Prop:=∀{args:List AV} {H:List AO} {Q:AV->List AO->Prop},args.length<=n->lJ (aA P) mc (tz mr Q) ⟨ky 0 args,[],H⟩->aA P f args H Q
/- short forms of instructions -/
end Go.AM
