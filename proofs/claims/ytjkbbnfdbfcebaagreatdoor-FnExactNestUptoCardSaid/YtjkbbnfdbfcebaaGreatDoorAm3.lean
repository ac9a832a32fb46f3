/- The pass that makes the small code of the model's code. -/
import Derived.Test.YtjkbbnfdbfcebaaGreatDoorAm2
set_option linter.all false
namespace Go.AM
def p3:Value->Option AV
 | .bool b=>some (.p (.b b))
 | .int k n=>some (.p (.i k n))
 | .string s=>if s.size<=fb then some (.p (.s s.data.toList))else none
 | .pointer none=>some (.p .np)
 | .slice none 0 0=>some (.p .nl)
 | .nilFunc=>some (.p .nf)
 | .map none=>some (.p .nm)
 | .nilIface=>some (.p .ni)
 |_=>none
def oS:List Value→Option (List AV)
  |[]=>some []
  |v::vs=>match p3 v,oS vs with
   |some a,some l=>some (a::l)
   |_,_ =>none
def yN:Value->Option AV
 | .agg cs=>(oS cs.toList).map .st
 |v=>p3 v
def fO (lv:List Nat) (t:Nat):MA:=if lu lv t=true then .l t else .t t
def bQ (lv:List Nat):Operand->Option MA
 | .tmp t=>some (fO lv t)
 | .const v=>(yN v).map .c
 | .func f=>some (.c (.fI f []))
 | .global _=>none
def jU (lv:List Nat):List Operand→Option (List MA)
  |[]=>some []
  |x::xs=>match bQ lv x,jU lv xs with
   |some a,some l=>some (a::l)
   |_,_ =>none
def zeroOf (P:Program) (t:TypeId):Option (List AV):=
  match P.info? t with
  |some i=>match i.zero with
   |some z=>oS z.cells.toList
   |none =>none
  |none =>none
def eV (P:Program) (t:TypeId):Option Nat:=(P.info? t).map (·.size)
def Ah (P:Program) (t:TypeId):Option Bool:=
 match P.underlying t with
 |some (.struct _)=>some true
 |some (.array _ _)=>some true
 |some _=>some false
 |none=>none
def nw (P:Program) (s:TypeId) (f:Nat):Option (Nat×TypeId×Nat):=
  match P.underlying s with
  |some (.struct fs)=>match fs[f]?with
   |some fd=>(eV P fd.type).map fun n=>(fd.offset,fd.type,n)
   |none =>none
  |_ =>none
def rD (lv:List Nat) (P:Program) (t:TypeId):List (Nat×Operand)→Option (List (Nat×Nat×MA))
  |[]=>some []
  |(f,x)::ps=>match nw P t f,bQ lv x,rD lv P t ps with
   |some (off,_,n),some a,some l=>some ((off,n,a)::l)
   |_,_,_ =>none
def rE (lv:List Nat):List (Nat×Operand)→Option (List (Nat×MA))
  |[]=>some []
  |(i,x)::ps=>match bQ lv x,rE lv ps with
   |some a,some l=>some ((i,a)::l)
   |_,_ =>none
def tA (lv:List Nat):Option Operand->Option (Option MA)
 |none=>some none
 |some x=>(bQ lv x).map some
def rF (P:Program) (t:TypeId):Option TypeId:=
 match P.underlying t with
 |some (.slice e)=>some e
 |_=>none
def nY (lv:List Nat) (P:Program) (c:Call):Option MO:=
  match c.callee,jU lv c.args.toList with
  | .value (.func f),some as =>match P.funcs[f]?with
    |some fn=>if fn.body.isSome&& !(fn.name== "runtime.NumGoroutine")then some (.call f as)else none
    |none =>none
  | .value (.tmp t),some as =>some (.sH (fO lv t) as)
  | .builtin .len,some [x]=>match(c.argTypes[0]?).bind P.underlying with
    |some (.slice _)=>some (.len false x)
    |some .string=>some (.len true x)
    |_ =>none
  | .builtin .cap,some [x]=>match(c.argTypes[0]?).bind P.underlying with
    |some (.slice _)=>some (.cap x)
    |_ =>none
  | .builtin .append,some [x,y]=>match c.argTypes.toList with
    |[t,u0]=>match P.underlying u0 with
     |none =>none
     |some u=>match rF P t with
      |some e=>match P.info? e with
       |some i=>match zeroOf P e,u with
        |some z, .slice _ =>if z.length==i.size&&decide (0<i.size)then some (.app i.size i.bytes x y)else none
        |some z, .string=>if z.length==i.size&&decide (0<i.size)then some (.app i.size i.bytes x y)else none
        |some z, .int .i64=>if z.length==i.size&&decide (0<i.size)then some (.L5 i.size i.bytes x y)else none
        |_,_ =>none
       |none =>none
      |none =>none
    |_ =>none
  | .builtin .min,some [x,y]=>some (.ET false x y)
  | .builtin .max,some [x,y]=>some (.ET true x y)
  |_,_ =>none
def tB (P:Program):Nat->List Field->Bool
 |_,[]=>true
 |i,f::fs=>f.offset==i&&f.name != "_" &&P.plainKey f.type&&(match P.underlying f.type with|some (.int _)=>true|_=>false)&&tB P (i+1) fs
def Db (P:Program) (t:TypeId) (fs:List Field) (op:BinOp) (x y:MA):Option MO:=
 if tB P 0 fs&& !P.eqGuardType P.depth t&& !P.stoodInHeld t then
  match op with
  | .eql=>some (.sq false fs.length x y)
  | .neq=>some (.sq true fs.length x y)
  |_=>none
 else none
def vL (op:BinOp) (x:MA):Option MO:=
 match op with
 | .eql=>some (.EU false x)
 | .neq=>some (.EU true x)
 |_=>none
def mD (sl:Bool) (op:BinOp) (x:MA):Option MO:=
 match op with
 | .eql=>some (.tj sl false x)
 | .neq=>some (.tj sl true x)
 |_=>none
def dM (lv:List Nat) (P:Program) (o:Op):Option MO:=
  match o with
  | .move x=>(bQ lv x).map .mv
  | .assign x=>(bQ lv x).map .mv
  | .pick c a b=>match bQ lv c,bQ lv a,bQ lv b with
    |some c,some a,some b=>some (.pick c a b)
    |_,_,_ =>none
  | .alloc t=>(zeroOf P t).map .alloc
  | .box t x=>match bQ lv x,eV P t with
    |some x,some n=>some (.box n x)
    |_,_ =>none
  | .build t ps=>match P.underlying t with
    |some (.struct fs)=>match zeroOf P t,rD lv P t ps.toList with
     |some z,some ps=>if fs.toList.all (fun f=>(eV P f.type).isSome)&&ps.all (fun m=>decide (0<m.2.1))then some (.build z ps)else none
     |_,_ =>none
    |_ =>none
  | .buildSlice t n ps=>match rF P t with
    |some e=>match eV P e,zeroOf P e,rE lv ps.toList with
     |some sz,some z,some ps=>if z.length==sz&&decide (0<sz)&&decide (n*sz≤16777216)then some (.C9 sz z n ps)else none
     |_,_,_ =>none
    |none =>none
  | .load t x=>match bQ lv x,Ah P t,eV P t with
    |some x,some g,some n=>some (.ld g n x)
    |_,_,_ =>none
  | .store t x v=>match bQ lv x,bQ lv v,eV P t with
    |some x,some v,some n=>if decide (0<n)then some (.pQ n x v)else none
    |_,_,_ =>none
  | .nilCheck x=>(bQ lv x).map .Aa
  | .binOp op t x y _ =>match bQ lv x,bQ lv y,P.underlying t with
    |some x,some y,some (.int _)=>some (.bin op x y)
    |some x,some y,some .string=>some (.bin op x y)
    |some x,some y,some .bool=>match op with
     | .eql=>some (.beq false x y)
     | .neq=>some (.beq true x y)
     |_ =>none
    |some x,some y,some (.struct fs)=>Db P t fs.toList op x y
    |some x,some (.c (.p .ni)),some (.interface _)=>vL op x
    |some x,some (.c (.p .nl)),some (.slice _)=>mD true op x
    |some x,some (.c (.p .np)),some (.pointer _)=>mD false op x
    |_,_,_ =>none
  | .unOp op _ x=>(bQ lv x).map (.un op)
  | .convert s t x=>match bQ lv x,P.underlying s,P.underlying t with
    |some x,some _,some (.int k)=>some (.conv k x)
    |some x,some (.slice e),some .string=>match P.underlying e with
     |some (.int .u8)=>some (.sN x)
     |_ =>none
    |_,_,_ =>none
  | .makeFunc (.func f) first eO=>if first.isEmpty then(jU lv eO.toList).map (.GA f)else none
  | .makeSlice t l c=>match rF P t,bQ lv l,bQ lv c with
    |some e,some l,some c=>match P.info? e,zeroOf P e with
     |some i,some z=>if z.length==i.size&&decide (0<i.size)then some (.Da i.size i.bytes z l c)else none
     |_,_ =>none
    |_,_,_ =>none
  | .slice t x lo hi none =>match P.underlying t,bQ lv x,tA lv lo,tA lv hi with
    |some .string,some x,some lo,some hi=>some (.tg none x lo hi)
    |some (.slice e),some x,some lo,some hi=>(eV P e).map fun n=> .tg (some n) x lo hi
    |_,_,_,_ =>none
  | .fieldAddr s x f=>match nw P s f,bQ lv x with
    |some (off,_,n),some x=>if decide (0<n)then some (.GB off x)else none
    |_,_ =>none
  | .field s x f=>match nw P s f,bQ lv x with
    |some (off,t,n),some x=>(Ah P t).map fun g=> .GC g off n x
    |_,_ =>none
  | .indexAddr t x i=>match P.underlying t,bQ lv x,bQ lv i with
    |some (.slice e),some x,some i=>(eV P e).bind fun n=>if decide (0<n)then some (.Bg n x i)else none
    |some (.array len e),some x,some i=>(eV P e).map fun n=> .Bi len n x i
    |_,_,_ =>none
  | .index t x i=>match P.underlying t,bQ lv x,bQ lv i with
    |some .string,some x,some i=>some (.Bj x i)
    |_,_,_ =>none
  | .extract x n=>(bQ lv x).map fun x=> .ext x n
  | .call c=>nY lv P c
  |_ =>none
def A1 (lv:List Nat) (ops:Array Oper):Option (Nat×Bool)→Option (Option (MA×Bool))
  |none =>some none
  |some (j,want)=>match(ops[j]?).bind (·.dst)with
   |some t=>some (some (fO lv t,want))
   |none =>none
def cB (lv:List Nat):Option Nat->MD
 |none=>.no
 |some d=>if lu lv d=true then .l d else .t d
def iB (lv:List Nat) (P:Program) (N:Nat) (ops:Array Oper) (o:Oper):MI:=
 match dM lv P o.op,A1 lv ops o.guard with
 |some m,some g=>if o.dst.all (decide <| ·<N)then⟨cB lv o.dst,m,g⟩else⟨.no,.stop,none⟩
 |_,_=>⟨.no,.stop,none⟩
def EW (ops:Array Oper) (y:MA):Bool:=
 match y with
 | .t t=>ops.toList.any fun o=>o.dst==some t&&(match o.op with| .buildSlice _ _ _=>true| .makeSlice _ _ _=>true| .call c=>(match c.callee with| .builtin .append=>true|_=>false)|_=>false)
 |_=>false
def Wy (ops:Array Oper) (y:MA):Bool:=
 match y with
 | .t t=>ops.toList.any fun o=>o.dst==some t&&(match o.op with| .alloc _=>true|_=>false)
 | .l t=>ops.toList.any fun o=>o.dst==some t&&(match o.op with| .alloc _=>true|_=>false)
 |_=>false
def yO (ops:Array Oper):Bool:=
 ops.toList.all fun o=>match o.op with
 | .store _ _ _=>false
 | .call c=>(match c.callee with| .builtin .append=>false|_=>true)
 |_=>true
def jc (ops:Array Oper):MO->MO
 | .len s x=>.Ab s x
 | .app sz b x y=>if(EW ops x||EW ops y)&& !x.v8&& !y.v8 then .oo sz b x y else .app sz b x y
 | .pQ n x v=>if Wy ops x then .qN n x v else .pQ n x v
 | .sN x=>if EW ops x&&yO ops then .qM x else .sN x
 |m=>m
def qy (ops:Array Oper) (m:MI):MI:=⟨m.dst,jc ops m.op,m.guard⟩
def looks (ops:Array Oper) (o:Oper):List Nat:=
  (o.op.operands.toList.filterMap fun| .tmp t=>some t|_ =>none)++
  (match o.guard with
   |some (j,_)=>((ops[j]?).bind (·.dst)).toList
   |none =>[])
def fP (o:Oper):List Nat:=(o.after.toList.filter (Region.binds .any)).map (·.on)
def qP (acc:List Nat) (es:List Nat):Nat:=es.foldl (fun s e=>s|||2^e|||acc.getD e 0) 0
def vM:List (List Nat)->List Nat->List Nat
 |[],acc=>acc
 |es::ws,acc=>vM ws (acc++[qP acc es])
def hQ (ops:Array Oper):List Nat:=vM (ops.toList.map fP) []
def oz (cl:List Nat) (j i:Nat):Bool:=(cl.getD j 0).testBit i
def yP (cl:List Nat) (j:Nat):Bool:=(List.range j).all fun i=>oz cl j i
def oA (cl:List Nat):Nat->Nat
 |0=>0
 |j+1=>if yP cl j then oA cl j else j+1
def xr (cl:List Nat) (ops:Array Oper) (i j:Nat):Bool:=
  match ops[i]?,ops[j]?with
  |some x,some y=>
   (match y.dst with
    |some d=> !(looks ops x).contains d||(decide (j<i)&&oz cl i j)||(decide (i<j)&&oz cl j i)
    |none =>true)&&(i==j||x.dst.isNone||x.dst !=y.dst)
  |_,_ =>false
def xt:MO->Bool
 | .call .. | .sH .. | .app .. | .oo .. | .pQ .. | .qN ..=>true
 |_=>false
def jd (lv:List Nat) (P:Program) (ops:Array Oper) (i:Nat):Bool:=
  match ops[i]?with
  |some o=>match dM lv P o.op with
   |some m=>xt m
   |none =>false
  |none =>false
def xu (cl:List Nat):List Nat->Bool
 |[]=>true
 |i::is=>is.all (fun j=>oz cl j i)&&xu cl is
def Bx (cl:List Nat) (ops:Array Oper) (m:Nat) (ch:List Nat):Bool:=
  decide (m≤ops.size)&&xu cl ch&&
  ((List.range m).all fun i=>(List.range m).all fun j=>xr cl ops i j)&&
  ((List.range ops.size).all fun i=>match ops[i]?with
    |some o=>(fP o).all (decide <| · <i)&&(decide (i<m)||yP cl i)
    |none =>false)
def A3 (lv:List Nat) (P:Program) (ops:Array Oper) (m:Nat):List Nat:=(List.range m).filter (jd lv P ops)
def compile (lv:List Nat) (P:Program) (N:Nat):Code→MC
  | .skip=> .skip
  | .region _ ops false => .Ww (ops.toList.map (iB lv P N ops))
  | .region _ ops true =>if Bx (hQ ops) ops (oA (hQ ops) ops.size) (A3 lv P ops (oA (hQ ops) ops.size))then .O0 ((ops.toList.take (oA (hQ ops) ops.size)).map fun o=>qy ops (iB lv P N ops o)) ((ops.toList.drop (oA (hQ ops) ops.size)).map (iB lv P N ops))else .stop
  | .seq a b=> .seq (compile lv P N a) (compile lv P N b)
  | .cond c a b=>match bQ lv c with
    |some c=> .cond c (compile lv P N a) (compile lv P N b)
    |none => .stop
  | .block id b=> .Wx id (compile lv P N b)
  | .loop b=> .loop (compile lv P N b)
  | .exit id=> .exit id
  | .ret=> .ret
  |_ => .stop
def L8 (lv:List Nat) (P:Program) (r:ResultVar):Option MR:=
  match r with
  | .tmp t=>if lu lv t=true then some (.t t)else none
  | .cell a t=>if lu lv a=true then(match Ah P t,eV P t with
    |some g,some n=>some (.cell g n a)
    |_,_ =>none)else none
def wa (lv:List Nat) (P:Program):List ResultVar→Option (List MR)
  |[]=>some []
  |r::rs=>match L8 lv P r,wa lv P rs with
   |some m,some l=>some (m::l)
   |_,_ =>none
end Go.AM
