/- Marks that laws write into trees. -/
import Derived.Test.YtghcmccjchdgeaaGreatDoorAm36
set_option linter.all false
namespace Go.AM
def mdigit (n:Int):UInt8:=UInt8.ofNat (wr .u8 (wr .i64 (48+n.tmod 10))).toNat
def mdigs:Nat->Int->List UInt8->List UInt8
 | 0,_,s=>s
 | f+1,n,s=>if 0<n then mdigs f (n.tdiv 10) (mdigit n :: s) else s
def textM (k:Int):List UInt8:=if k<=0 then [109,48] else 109 :: mdigs k.toNat k []
mutual
def mkT : TV → Int → TV × Int
  | .p x, k => match x with
    | .s _ => (.p (.s (textM k)), k + 1)
    | .i kd _ => (.p (.i kd k), k + 1)
    | .b _ => (.p (.b (decide (k.tmod 3 = 0))), k + 1)
    | x => (.p x, k)
  | .s sz rows, k => (.s sz (mkR rows k).1, (mkR rows k).2)
def mkC:List TV->Int->List TV × Int
 | [],k=>([],k)
 | t :: l,k=>((mkT t k).1 :: (mkC l (mkT t k).2).1,(mkC l (mkT t k).2).2)
def mkR:List (List TV)->Int->List (List TV) × Int
 | [],k=>([],k)
 | r :: l,k=>((mkC r k).1 :: (mkR l (mkC r k).2).1,(mkR l (mkC r k).2).2)
end
mutual
def mcT : TV → Nat
  | .p x => match x with
    | .s _ => 1
    | .i _ _ => 1
    | .b _ => 1
    | _ => 0
  | .s _ rows => mcR rows
def mcC:List TV->Nat
 | []=>0
 | t :: l=>mcT t+mcC l
def mcR:List (List TV)->Nat
 | []=>0
 | r :: l=>mcC r+mcR l
end
end Go.AM
