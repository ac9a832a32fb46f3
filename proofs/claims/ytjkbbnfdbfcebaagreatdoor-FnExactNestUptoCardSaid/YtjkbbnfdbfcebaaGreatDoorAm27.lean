/- A call whose result is its caller's own: contracts at no memory, used at any. -/
import Derived.Test.YtjkbbnfdbfcebaaGreatDoorAm26
set_option linter.all false
namespace Go.AM
variable {P:Program} {θ:Th} {W:Im}
inductive Ren (ids:List Nat) (b:Nat):AV->AV->Prop
 |g (a:AV) (h:aat a):Ren ids b a a
 |gs (k id ver off n:Nat) (h:ids[k]?=some id):Ren ids b (.gs id ver off n) (.gs (b+k) ver off n)
 |ptr (k id off:Nat) (h:ids[k]?=some id):Ren ids b (.ptr id off) (.ptr (b+k) off)
 |st (as bs:List AV) (hlen:as.length=bs.length) (hc:∀(j:Nat) x y,as[j]?=some x->bs[j]?=some y->Ren ids b x y):Ren ids b (.st as) (.st bs)
 |dX (as bs:List AV) (hlen:as.length=bs.length) (hc:∀(j:Nat) x y,as[j]?=some x->bs[j]?=some y->Ren ids b x y):Ren ids b (.dX as) (.dX bs)
end Go.AM
