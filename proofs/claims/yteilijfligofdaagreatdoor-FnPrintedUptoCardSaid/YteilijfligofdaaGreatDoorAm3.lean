/- The pass that makes the small code of the model's code. -/
import Derived.Test.YteilijfligofdaaGreatDoorAm2
set_option linter.all false
namespace Go.AM
def qb:Value->Option AV
 | .bool b=>some (.p (.b b))
 | .int k n=>some (.p (.i k n))
 | .string s=>if s.size<=ia then some (.p (.s s.data.toList))else none
 | .pointer none=>some (.p .np)
 | .slice none 0 0=>some (.p .nl)
 | .nilFunc=>some (.p .nf)
 | .map none=>some (.p .nm)
 | .nilIface=>some (.p .ni)
 |_=>none
def o9:List Value→Option (List AV)
  |[]=>some []
  |v::vs=>match qb v,o9 vs with
   |some a,some l=>some (a::l)
   |_,_ =>none
def zj:Value->Option AV
 | .agg cs=>(o9 cs.toList).map .st
 |v=>qb v
def fQ (lv:List Nat) (t:Nat):MA:=if mB lv t=true then .l t else .t t
def bK (lv:List Nat):Operand->Option MA
 | .tmp t=>some (fQ lv t)
 | .const v=>(zj v).map .c
 | .func f=>some (.c (.eB f []))
 | .global _=>none
def jV (lv:List Nat):List Operand→Option (List MA)
  |[]=>some []
  |x::xs=>match bK lv x,jV lv xs with
   |some a,some l=>some (a::l)
   |_,_ =>none
def zeroOf (P:Program) (t:TypeId):Option (List AV):=
  match P.info? t with
  |some i=>match i.zero with
   |some z=>o9 z.cells.toList
   |none =>none
  |none =>none
def eX (P:Program) (t:TypeId):Option Nat:=(P.info? t).map (·.size)
def AG (P:Program) (t:TypeId):Option Bool:=
 match P.underlying t with
 |some (.struct _)=>some true
 |some (.array _ _)=>some true
 |some _=>some false
 |none=>none
def nI (P:Program) (s:TypeId) (f:Nat):Option (Nat×TypeId×Nat):=
  match P.underlying s with
  |some (.struct fs)=>match fs[f]?with
   |some fd=>(eX P fd.type).map fun n=>(fd.offset,fd.type,n)
   |none =>none
  |_ =>none
def rS (lv:List Nat) (P:Program) (t:TypeId):List (Nat×Operand)→Option (List (Nat×Nat×MA))
  |[]=>some []
  |(f,x)::ps=>match nI P t f,bK lv x,rS lv P t ps with
   |some (off,_,n),some a,some l=>some ((off,n,a)::l)
   |_,_,_ =>none
def rT (lv:List Nat):List (Nat×Operand)→Option (List (Nat×MA))
  |[]=>some []
  |(i,x)::ps=>match bK lv x,rT lv ps with
   |some a,some l=>some ((i,a)::l)
   |_,_ =>none
def tL (lv:List Nat):Option Operand->Option (Option MA)
 |none=>some none
 |some x=>(bK lv x).map some
def rU (P:Program) (t:TypeId):Option TypeId:=
 match P.underlying t with
 |some (.slice e)=>some e
 |_=>none
def om (lv:List Nat) (P:Program) (c:Call):Option MO:=
  match c.callee,jV lv c.args.toList with
  | .value (.func f),some as =>match P.funcs[f]?with
    |some fn=>if fn.body.isSome&& !(fn.name== "runtime.NumGoroutine")then some (.call f as)else none
    |none =>none
  | .value (.tmp t),some as =>some (.sY (fQ lv t) as)
  | .builtin .len,some [x]=>match(c.argTypes[0]?).bind P.underlying with
    |some (.slice _)=>some (.len false x)
    |some .string=>some (.len true x)
    |_ =>none
  | .builtin .cap,some [x]=>match(c.argTypes[0]?).bind P.underlying with
    |some (.slice _)=>some (.cap x)
    |_ =>none
  | .builtin .append,some [x,y]=>match c.argTypes.toList with
    |[t,u0]=>match P.underlying u0 with
     |none =>none
     |some u=>match rU P t with
      |some e=>match P.info? e with
       |some i=>match zeroOf P e,u with
        |some z, .slice _ =>if z.length==i.size&&decide (0<i.size)then some (.app i.size i.bytes x y)else none
        |some z, .string=>if z.length==i.size&&decide (0<i.size)then some (.app i.size i.bytes x y)else none
        |some z, .int .i64=>if z.length==i.size&&decide (0<i.size)then some (.Mz i.size i.bytes x y)else none
        |_,_ =>none
       |none =>none
      |none =>none
    |_ =>none
  | .builtin .min,some [x,y]=>some (.Fk false x y)
  | .builtin .max,some [x,y]=>some (.Fk true x y)
  |_,_ =>none
def tM (P:Program):Nat->List Field->Bool
 |_,[]=>true
 |i,f::fs=>f.offset==i&&f.name != "_" &&P.plainKey f.type&&(match P.underlying f.type with|some (.int _)=>true|_=>false)&&tM P (i+1) fs
def DB (P:Program) (t:TypeId) (fs:List Field) (op:BinOp) (x y:MA):Option MO:=
 if tM P 0 fs&& !P.eqGuardType P.depth t&& !P.stoodInHeld t then
  match op with
  | .eql=>some (.sq false fs.length x y)
  | .neq=>some (.sq true fs.length x y)
  |_=>none
 else none
def wh (op:BinOp) (x:MA):Option MO:=
 match op with
 | .eql=>some (.Fm false x)
 | .neq=>some (.Fm true x)
 |_=>none
def mM (sl:Bool) (op:BinOp) (x:MA):Option MO:=
 match op with
 | .eql=>some (.tG sl false x)
 | .neq=>some (.tG sl true x)
 |_=>none
def dH (lv:List Nat) (P:Program) (o:Op):Option MO:=
  match o with
  | .move x=>(bK lv x).map .mv
  | .assign x=>(bK lv x).map .mv
  | .pick c a b=>match bK lv c,bK lv a,bK lv b with
    |some c,some a,some b=>some (.pick c a b)
    |_,_,_ =>none
  | .alloc t=>(zeroOf P t).map .alloc
  | .box t x=>match bK lv x,eX P t with
    |some x,some n=>some (.box n x)
    |_,_ =>none
  | .build t ps=>match P.underlying t with
    |some (.struct fs)=>match zeroOf P t,rS lv P t ps.toList with
     |some z,some ps=>if fs.toList.all (fun f=>(eX P f.type).isSome)&&ps.all (fun m=>decide (0<m.2.1))then some (.build z ps)else none
     |_,_ =>none
    |_ =>none
  | .buildSlice t n ps=>match rU P t with
    |some e=>match eX P e,zeroOf P e,rT lv ps.toList with
     |some sz,some z,some ps=>if z.length==sz&&decide (0<sz)&&decide (n*sz≤16777216)then some (.Dz sz z n ps)else none
     |_,_,_ =>none
    |none =>none
  | .load t x=>match bK lv x,AG P t,eX P t with
    |some x,some g,some n=>some (.ld g n x)
    |_,_,_ =>none
  | .store t x v=>match bK lv x,bK lv v,eX P t with
    |some x,some v,some n=>if decide (0<n)then some (.pT n x v)else none
    |_,_,_ =>none
  | .nilCheck x=>(bK lv x).map .Ay
  | .binOp op t x y _ =>match bK lv x,bK lv y,P.underlying t with
    |some x,some y,some (.int _)=>some (.bin op x y)
    |some x,some y,some .string=>some (.bin op x y)
    |some x,some y,some .bool=>match op with
     | .eql=>some (.beq false x y)
     | .neq=>some (.beq true x y)
     |_ =>none
    |some x,some y,some (.struct fs)=>DB P t fs.toList op x y
    |some x,some (.c (.p .ni)),some (.interface _)=>wh op x
    |some x,some (.c (.p .nl)),some (.slice _)=>mM true op x
    |some x,some (.c (.p .np)),some (.pointer _)=>mM false op x
    |_,_,_ =>none
  | .unOp op _ x=>(bK lv x).map (.un op)
  | .convert s t x=>match bK lv x,P.underlying s,P.underlying t with
    |some x,some _,some (.int k)=>some (.conv k x)
    |some x,some (.slice e),some .string=>match P.underlying e with
     |some (.int .u8)=>some (.tg x)
     |_ =>none
    |_,_,_ =>none
  | .makeFunc (.func f) first eL=>if first.isEmpty then(jV lv eL.toList).map (.GQ f)else none
  | .makeSlice t l c=>match rU P t,bK lv l,bK lv c with
    |some e,some l,some c=>match P.info? e,zeroOf P e with
     |some i,some z=>if z.length==i.size&&decide (0<i.size)then some (.DA i.size i.bytes z l c)else none
     |_,_ =>none
    |_,_,_ =>none
  | .slice t x lo hi none =>match P.underlying t,bK lv x,tL lv lo,tL lv hi with
    |some .string,some x,some lo,some hi=>some (.tF none x lo hi)
    |some (.slice e),some x,some lo,some hi=>(eX P e).map fun n=> .tF (some n) x lo hi
    |_,_,_,_ =>none
  | .fieldAddr s x f=>match nI P s f,bK lv x with
    |some (off,_,n),some x=>if decide (0<n)then some (.GR off x)else none
    |_,_ =>none
  | .field s x f=>match nI P s f,bK lv x with
    |some (off,t,n),some x=>(AG P t).map fun g=> .GS g off n x
    |_,_ =>none
  | .indexAddr t x i=>match P.underlying t,bK lv x,bK lv i with
    |some (.slice e),some x,some i=>(eX P e).bind fun n=>if decide (0<n)then some (.Bu n x i)else none
    |some (.array len e),some x,some i=>(eX P e).map fun n=> .Bv len n x i
    |_,_,_ =>none
  | .index t x i=>match P.underlying t,bK lv x,bK lv i with
    |some .string,some x,some i=>some (.Bw x i)
    |_,_,_ =>none
  | .extract x n=>(bK lv x).map fun x=> .ext x n
  | .call c=>om lv P c
  |_ =>none
def Bg (lv:List Nat) (ops:Array Oper):Option (Nat×Bool)→Option (Option (MA×Bool))
  |none =>some none
  |some (j,want)=>match(ops[j]?).bind (·.dst)with
   |some t=>some (some (fQ lv t,want))
   |none =>none
def cm (lv:List Nat):Option Nat->MD
 |none=>.no
 |some d=>if mB lv d=true then .l d else .t d
def iE (lv:List Nat) (P:Program) (N:Nat) (ops:Array Oper) (o:Oper):MI:=
 match dH lv P o.op,Bg lv ops o.guard with
 |some m,some g=>if o.dst.all (decide <| ·<N)then⟨cm lv o.dst,m,g⟩else⟨.no,.stop,none⟩
 |_,_=>⟨.no,.stop,none⟩
def Fp (ops:Array Oper) (y:MA):Bool:=
 match y with
 | .t t=>ops.toList.any fun o=>o.dst==some t&&(match o.op with| .buildSlice _ _ _=>true| .makeSlice _ _ _=>true| .call c=>(match c.callee with| .builtin .append=>true|_=>false)|_=>false)
 |_=>false
def WL (ops:Array Oper) (y:MA):Bool:=
 match y with
 | .t t=>ops.toList.any fun o=>o.dst==some t&&(match o.op with| .alloc _=>true|_=>false)
 | .l t=>ops.toList.any fun o=>o.dst==some t&&(match o.op with| .alloc _=>true|_=>false)
 |_=>false
def zk (ops:Array Oper):Bool:=
 ops.toList.all fun o=>match o.op with
 | .store _ _ _=>false
 | .call c=>(match c.callee with| .builtin .append=>false|_=>true)
 |_=>true
def jb (ops:Array Oper):MO->MO
 | .len s x=>.Az s x
 | .app sz b x y=>if(Fp ops x||Fp ops y)&& !x.wF&& !y.wF then .oF sz b x y else .app sz b x y
 | .pT n x v=>if WL ops x then .qX n x v else .pT n x v
 | .tg x=>if Fp ops x&&zk ops then .qW x else .tg x
 |m=>m
def qJ (ops:Array Oper) (m:MI):MI:=⟨m.dst,jb ops m.op,m.guard⟩
def looks (ops:Array Oper) (o:Oper):List Nat:=
  (o.op.operands.toList.filterMap fun| .tmp t=>some t|_ =>none)++
  (match o.guard with
   |some (j,_)=>((ops[j]?).bind (·.dst)).toList
   |none =>[])
def fR (o:Oper):List Nat:=(o.after.toList.filter (Region.binds .any)).map (·.on)
def qY (acc:List Nat) (es:List Nat):Nat:=es.foldl (fun s e=>s|||2^e|||acc.getD e 0) 0
def wi:List (List Nat)->List Nat->List Nat
 |[],acc=>acc
 |es::ws,acc=>wi ws (acc++[qY acc es])
def ib (ops:Array Oper):List Nat:=wi (ops.toList.map fR) []
def oL (cl:List Nat) (j i:Nat):Bool:=(cl.getD j 0).testBit i
def zm (cl:List Nat) (j:Nat):Bool:=(List.range j).all fun i=>oL cl j i
def oM (cl:List Nat):Nat->Nat
 |0=>0
 |j+1=>if zm cl j then oM cl j else j+1
def xK (cl:List Nat) (ops:Array Oper) (i j:Nat):Bool:=
  match ops[i]?,ops[j]?with
  |some x,some y=>
   (match y.dst with
    |some d=> !(looks ops x).contains d||(decide (j<i)&&oL cl i j)||(decide (i<j)&&oL cl j i)
    |none =>true)&&(i==j||x.dst.isNone||x.dst !=y.dst)
  |_,_ =>false
def xL:MO->Bool
 | .call .. | .sY .. | .app .. | .oF .. | .pT .. | .qX ..=>true
 |_=>false
def jc (lv:List Nat) (P:Program) (ops:Array Oper) (i:Nat):Bool:=
  match ops[i]?with
  |some o=>match dH lv P o.op with
   |some m=>xL m
   |none =>false
  |none =>false
def xM (cl:List Nat):List Nat->Bool
 |[]=>true
 |i::is=>is.all (fun j=>oL cl j i)&&xM cl is
def BL (cl:List Nat) (ops:Array Oper) (m:Nat) (ch:List Nat):Bool:=
  decide (m≤ops.size)&&xM cl ch&&
  ((List.range m).all fun i=>(List.range m).all fun j=>xK cl ops i j)&&
  ((List.range ops.size).all fun i=>match ops[i]?with
    |some o=>(fR o).all (decide <| · <i)&&(decide (i<m)||zm cl i)
    |none =>false)
def Bi (lv:List Nat) (P:Program) (ops:Array Oper) (m:Nat):List Nat:=(List.range m).filter (jc lv P ops)
def compile (lv:List Nat) (P:Program) (N:Nat):Code→MC
  | .skip=> .skip
  | .region _ ops false => .WJ (ops.toList.map (iE lv P N ops))
  | .region _ ops true =>if BL (ib ops) ops (oM (ib ops) ops.size) (Bi lv P ops (oM (ib ops) ops.size))then .P5 ((ops.toList.take (oM (ib ops) ops.size)).map fun o=>qJ ops (iE lv P N ops o)) ((ops.toList.drop (oM (ib ops) ops.size)).map (iE lv P N ops))else .stop
  | .seq a b=> .seq (compile lv P N a) (compile lv P N b)
  | .cond c a b=>match bK lv c with
    |some c=> .cond c (compile lv P N a) (compile lv P N b)
    |none => .stop
  | .block id b=> .WK id (compile lv P N b)
  | .loop b=> .loop (compile lv P N b)
  | .exit id=> .exit id
  | .ret=> .ret
  |_ => .stop
def MF (lv:List Nat) (P:Program) (r:ResultVar):Option MR:=
  match r with
  | .tmp t=>if mB lv t=true then some (.t t)else none
  | .cell a t=>if mB lv a=true then(match AG P t,eX P t with
    |some g,some n=>some (.cell g n a)
    |_,_ =>none)else none
def wG (lv:List Nat) (P:Program):List ResultVar→Option (List MR)
  |[]=>some []
  |r::rs=>match MF lv P r,wG lv P rs with
   |some m,some l=>some (m::l)
   |_,_ =>none
end Go.AM
