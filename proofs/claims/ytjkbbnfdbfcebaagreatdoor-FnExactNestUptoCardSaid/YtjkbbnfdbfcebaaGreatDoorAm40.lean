/- A function's small code, as Lean itself works it out of the model's code. -/
import Derived.Test.YtjkbbnfdbfcebaaGreatDoorAm39
set_option linter.all false
namespace Go.AM
structure bl (x:Option MC)where
 m:MC
 h:x=some m
def lz (lv:List Nat) (P:Program) (N:Nat):List Nat→Code→MC×List Nat
  |ts, .skip=>(.skip,ts)
  |ts, .region _ ops false =>(.Ww (ops.toList.map (iB lv P N ops)),ts)
  |t::ts, .region _ ops true =>(.O0 ((ops.toList.take t).map fun o=>qy ops (iB lv P N ops o)) ((ops.toList.drop t).map (iB lv P N ops)),ts)
  |[], .region _ _ true =>(.stop,[])
  |ts, .seq a b=>match lz lv P N ts a with
   |(x,ts)=>match lz lv P N ts b with
    |(y,ts)=>(.seq x y,ts)
  |ts, .cond c a b=>match bQ lv c with
   |some c=>match lz lv P N ts a with
    |(x,ts)=>match lz lv P N ts b with
     |(y,ts)=>(.cond c x y,ts)
   |none =>(.stop,ts)
  |ts, .block id b=>match lz lv P N ts b with
   |(x,ts)=>(.Wx id x,ts)
  |ts, .loop b=>match lz lv P N ts b with
   |(x,ts)=>(.loop x,ts)
  |ts, .exit id=>(.exit id,ts)
  |ts, .ret=>(.ret,ts)
  |ts,_ =>(.stop,ts)
@[go_sem] abbrev bl.of {x y:Option MC} {m:MC} (_:y=some m) (h:x=some m):bl x:=⟨m,h⟩
def MC.a:MC->MC
 | .seq a _=>a
 |c=>c
def MC.b:MC->MC
 | .seq _ b=>b
 |c=>c
attribute [go_sem] MC.a MC.b
theorem bl.call {P:Program} {f:Nat} {fn:Func} {lv:List Nat} {N:Nat} {ms:List MR} (g:bl (fn.body.map (compile lv P N))) (hf:P.funcs[f]?=some fn)
  (h:(P.follows .mixedOrders,fn.ntmps,fn.name== "runtime.NumGoroutine",wa lv P fn.results.toList)=(true,N,false,some ms)):ax P f N g.m ms:=by
 obtain⟨h1,h⟩:=Prod.mk.inj h;obtain⟨h2,h⟩:=Prod.mk.inj h;obtain⟨h3,h4⟩:=Prod.mk.inj h;exact NA h1 hf g.h h2 h3 h4
attribute [go_sem] Z0 Z1 bytesOf
end Go.AM
