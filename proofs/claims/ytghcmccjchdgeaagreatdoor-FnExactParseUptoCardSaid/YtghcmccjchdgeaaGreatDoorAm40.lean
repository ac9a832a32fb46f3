/- A function's small code, as Lean itself works it out of the model's code. -/
import Derived.Test.YtghcmccjchdgeaaGreatDoorAm39
set_option linter.all false
namespace Go.AM
structure Got (x:Option MC) where
 m:MC
 h:x=some m
theorem Got.call {P:Program} {f:Nat} {fn:Func} {lv:List Nat} {N:Nat} {ms:List MR} (g:Got (fn.body.map (compile lv P N))) (hf:P.funcs[f]?=some fn)
  (h:(P.follows .mixedOrders,fn.ntmps,fn.name == "runtime.NumGoroutine",cRess lv P fn.results.toList)=(true,N,false,some ms)):CallT P f N g.m ms:=by
 obtain ⟨h1,h⟩:=Prod.mk.inj h
 obtain ⟨h2,h⟩:=Prod.mk.inj h
 obtain ⟨h3,h4⟩:=Prod.mk.inj h
 exact acall_mc h1 hf g.h h2 h3 h4
attribute [go_sem] Z0 Z1 bytesOf
end Go.AM
