/- The pass that makes the small code of the model's code. -/
import Derived.Test.YteilijfligofdaaGreatDoorAm2
set_option linter.all false
namespace Go.AM
def ofVal1:Value->Option AV
 | .bool b=>some (.p (.b b))
 | .int k n=>some (.p (.i k n))
 | .string s=>if s.size<=maxL then some (.p (.s s.data.toList)) else none
 | .pointer none=>some (.p .np)
 | .slice none 0 0=>some (.p .nl)
 | .nilFunc=>some (.p .nf)
 | .map none=>some (.p .nm)
 | .nilIface=>some (.p .ni)
 | _=>none
def ofVals1 : List Value → Option (List AV)
  | [] => some []
  | v :: vs => match ofVal1 v, ofVals1 vs with
    | some a, some l => some (a :: l)
    | _, _ => none
def ofVal:Value->Option AV
 | .agg cs=>(ofVals1 cs.toList).map .st
 | v=>ofVal1 v
def cTmp (lv:List Nat) (t:Nat):MA:=if lmem lv t=true then .l t else .t t
def cArg (lv:List Nat):Operand->Option MA
 | .tmp t=>some (cTmp lv t)
 | .const v=>(ofVal v).map .c
 | .func f=>some (.c (.clo f []))
 | .global _=>none
def cArgs (lv : List Nat) : List Operand → Option (List MA)
  | [] => some []
  | x :: xs => match cArg lv x, cArgs lv xs with
    | some a, some l => some (a :: l)
    | _, _ => none
def zeroOf (P : Program) (t : TypeId) : Option (List AV) :=
  match P.info? t with
  | some i => match i.zero with
    | some z => ofVals1 z.cells.toList
    | none => none
  | none => none
def sizeT (P:Program) (t:TypeId):Option Nat:=(P.info? t).map (·.size)
def aggT (P:Program) (t:TypeId):Option Bool :=
 match P.underlying t with
 | some (.struct _)=>some true
 | some (.array _ _)=>some true
 | some _=>some false
 | none=>none
def fieldOf (P : Program) (s : TypeId) (f : Nat) : Option (Nat × TypeId × Nat) :=
  match P.underlying s with
  | some (.struct fs) => match fs[f]? with
    | some fd => (sizeT P fd.type).map fun n => (fd.offset, fd.type, n)
    | none => none
  | _ => none
def cParts (lv : List Nat) (P : Program) (t : TypeId) : List (Nat × Operand) → Option (List (Nat × Nat × MA))
  | [] => some []
  | (f, x) :: ps => match fieldOf P t f, cArg lv x, cParts lv P t ps with
    | some (off, _, n), some a, some l => some ((off, n, a) :: l)
    | _, _, _ => none
def cElems (lv : List Nat) : List (Nat × Operand) → Option (List (Nat × MA))
  | [] => some []
  | (i, x) :: ps => match cArg lv x, cElems lv ps with
    | some a, some l => some ((i, a) :: l)
    | _, _ => none
def cOpt (lv:List Nat):Option Operand->Option (Option MA)
 | none=>some none
 | some x=>(cArg lv x).map some
def elemT (P:Program) (t:TypeId):Option TypeId :=
 match P.underlying t with
 | some (.slice e)=>some e
 | _=>none
def cCall (lv : List Nat) (P : Program) (c : Call) : Option MO :=
  match c.callee, cArgs lv c.args.toList with
  | .value (.func f), some as => match P.funcs[f]? with
    | some fn => if fn.body.isSome && !(fn.name == "runtime.NumGoroutine") then some (.call f as) else none
    | none => none
  | .value (.tmp t), some as => some (.calv (cTmp lv t) as)
  | .builtin .len, some [x] => match (c.argTypes[0]?).bind P.underlying with
    | some (.slice _) => some (.len false x)
    | some .string => some (.len true x)
    | _ => none
  | .builtin .cap, some [x] => match (c.argTypes[0]?).bind P.underlying with
    | some (.slice _) => some (.cap x)
    | _ => none
  | .builtin .append, some [x, y] => match c.argTypes.toList with
    | [t, u0] => match P.underlying u0 with
     | none => none
     | some u => match elemT P t with
      | some e => match P.info? e with
        | some i => match zeroOf P e, u with
          | some z, .slice _ => if z.length == i.size && decide (0 < i.size) then some (.app i.size i.bytes x y) else none
          | some z, .string => if z.length == i.size && decide (0 < i.size) then some (.app i.size i.bytes x y) else none
          | some z, .int .i64 => if z.length == i.size && decide (0 < i.size) then some (.appz i.size i.bytes x y) else none
          | _, _ => none
        | none => none
      | none => none
    | _ => none
  | .builtin .min, some [x, y] => some (.mnx false x y)
  | .builtin .max, some [x, y] => some (.mnx true x y)
  | _, _ => none
def plainFs (P:Program):Nat->List Field->Bool
 | _,[]=>true
 | i,f :: fs=>f.offset == i && f.name != "_" && P.plainKey f.type && (match P.underlying f.type with | some (.int _)=>true | _=>false) && plainFs P (i+1) fs
def cSq (P:Program) (t:TypeId) (fs:List Field) (op:BinOp) (x y:MA):Option MO :=
 if plainFs P 0 fs && !P.eqGuardType P.depth t && !P.stoodInHeld t then
  match op with
  | .eql=>some (.sq false fs.length x y)
  | .neq=>some (.sq true fs.length x y)
  | _=>none
 else none
def cNii (op:BinOp) (x:MA):Option MO :=
 match op with
 | .eql=>some (.nii false x)
 | .neq=>some (.nii true x)
 | _=>none
def cNilq (sl:Bool) (op:BinOp) (x:MA):Option MO :=
 match op with
 | .eql=>some (.nilq sl false x)
 | .neq=>some (.nilq sl true x)
 | _=>none
def cOp (lv : List Nat) (P : Program) (o : Op) : Option MO :=
  match o with
  | .move x => (cArg lv x).map .mv
  | .assign x => (cArg lv x).map .mv
  | .pick c a b => match cArg lv c, cArg lv a, cArg lv b with
    | some c, some a, some b => some (.pick c a b)
    | _, _, _ => none
  | .alloc t => (zeroOf P t).map .alloc
  | .box t x => match cArg lv x, sizeT P t with
    | some x, some n => some (.box n x)
    | _, _ => none
  | .build t ps => match P.underlying t with
    | some (.struct fs) => match zeroOf P t, cParts lv P t ps.toList with
      | some z, some ps => if fs.toList.all (fun f => (sizeT P f.type).isSome) && ps.all (fun m => decide (0 < m.2.1)) then some (.build z ps) else none
      | _, _ => none
    | _ => none
  | .buildSlice t n ps => match elemT P t with
    | some e => match sizeT P e, zeroOf P e, cElems lv ps.toList with
      | some sz, some z, some ps => if z.length == sz && decide (0 < sz) && decide (n * sz ≤ 16777216) then some (.bsl sz z n ps) else none
      | _, _, _ => none
    | none => none
  | .load t x => match cArg lv x, aggT P t, sizeT P t with
    | some x, some g, some n => some (.ld g n x)
    | _, _, _ => none
  | .store t x v => match cArg lv x, cArg lv v, sizeT P t with
    | some x, some v, some n => if decide (0 < n) then some (.sto n x v) else none
    | _, _, _ => none
  | .nilCheck x => (cArg lv x).map .nilc
  | .binOp op t x y _ => match cArg lv x, cArg lv y, P.underlying t with
    | some x, some y, some (.int _) => some (.bin op x y)
    | some x, some y, some .string => some (.bin op x y)
    | some x, some y, some .bool => match op with
      | .eql => some (.beq false x y)
      | .neq => some (.beq true x y)
      | _ => none
    | some x, some y, some (.struct fs) => cSq P t fs.toList op x y
    | some x, some (.c (.p .ni)), some (.interface _) => cNii op x
    | some x, some (.c (.p .nl)), some (.slice _) => cNilq true op x
    | some x, some (.c (.p .np)), some (.pointer _) => cNilq false op x
    | _, _, _ => none
  | .unOp op _ x => (cArg lv x).map (.un op)
  | .convert s t x => match cArg lv x, P.underlying s, P.underlying t with
    | some x, some _, some (.int k) => some (.conv k x)
    | some x, some (.slice e), some .string => match P.underlying e with
      | some (.int .u8) => some (.b2s x)
      | _ => none
    | _, _, _ => none
  | .makeFunc (.func f) first caps => if first.isEmpty then (cArgs lv caps.toList).map (.mkf f) else none
  | .makeSlice t l c => match elemT P t, cArg lv l, cArg lv c with
    | some e, some l, some c => match P.info? e, zeroOf P e with
      | some i, some z => if z.length == i.size && decide (0 < i.size) then some (.mks i.size i.bytes z l c) else none
      | _, _ => none
    | _, _, _ => none
  | .slice t x lo hi none => match P.underlying t, cArg lv x, cOpt lv lo, cOpt lv hi with
    | some .string, some x, some lo, some hi => some (.slc none x lo hi)
    | some (.slice e), some x, some lo, some hi => (sizeT P e).map fun n => .slc (some n) x lo hi
    | _, _, _, _ => none
  | .fieldAddr s x f => match fieldOf P s f, cArg lv x with
    | some (off, _, n), some x => if decide (0 < n) then some (.fad off x) else none
    | _, _ => none
  | .field s x f => match fieldOf P s f, cArg lv x with
    | some (off, t, n), some x => (aggT P t).map fun g => .fld g off n x
    | _, _ => none
  | .indexAddr t x i => match P.underlying t, cArg lv x, cArg lv i with
    | some (.slice e), some x, some i => (sizeT P e).bind fun n => if decide (0 < n) then some (.ixs n x i) else none
    | some (.array len e), some x, some i => (sizeT P e).map fun n => .ixa len n x i
    | _, _, _ => none
  | .index t x i => match P.underlying t, cArg lv x, cArg lv i with
    | some .string, some x, some i => some (.ixt x i)
    | _, _, _ => none
  | .extract x n => (cArg lv x).map fun x => .ext x n
  | .call c => cCall lv P c
  | _ => none
def cGuard (lv : List Nat) (ops : Array Oper) : Option (Nat × Bool) → Option (Option (MA × Bool))
  | none => some none
  | some (j, want) => match (ops[j]?).bind (·.dst) with
    | some t => some (some (cTmp lv t, want))
    | none => none
def cDst (lv:List Nat):Option Nat->MD
 | none=>.no
 | some d=>if lmem lv d=true then .l d else .t d
def cOper (lv:List Nat) (P:Program) (N:Nat) (ops:Array Oper) (o:Oper):MI :=
 match cOp lv P o.op,cGuard lv ops o.guard with
 | some m,some g=>if o.dst.all (decide <| ·<N) then ⟨cDst lv o.dst,m,g⟩ else ⟨.no,.stop,none⟩
 | _,_=>⟨.no,.stop,none⟩
def freshY (ops:Array Oper) (y:MA):Bool :=
 match y with
 | .t t=>ops.toList.any fun o=>o.dst == some t && (match o.op with | .buildSlice _ _ _=>true | .makeSlice _ _ _=>true | .call c=>(match c.callee with | .builtin .append=>true | _=>false) | _=>false)
 | _=>false
def freshV (ops:Array Oper) (y:MA):Bool :=
 match y with
 | .t t=>ops.toList.any fun o=>o.dst == some t && (match o.op with | .alloc _=>true | _=>false)
 | .l t=>ops.toList.any fun o=>o.dst == some t && (match o.op with | .alloc _=>true | _=>false)
 | _=>false
def noUpd (ops:Array Oper):Bool :=
 ops.toList.all fun o=>match o.op with
 | .store _ _ _=>false
 | .call c=>(match c.callee with | .builtin .append=>false | _=>true)
 | _=>true
def unl (ops:Array Oper):MO->MO
 | .len s x=>.lenq s x
 | .app sz b x y=>if (freshY ops x || freshY ops y) && !x.isC && !y.isC then .appn sz b x y else .app sz b x y
 | .sto n x v=>if freshV ops x then .ston n x v else .sto n x v
 | .b2s x=>if freshY ops x && noUpd ops then .b2sn x else .b2s x
 | m=>m
def unlen (ops:Array Oper) (m:MI):MI:=⟨m.dst,unl ops m.op,m.guard⟩
def looks (ops : Array Oper) (o : Oper) : List Nat :=
  (o.op.operands.toList.filterMap fun | .tmp t => some t | _ => none) ++
  (match o.guard with
   | some (j, _) => ((ops[j]?).bind (·.dst)).toList
   | none => [])
def waitsOn (o:Oper):List Nat:=(o.after.toList.filter (Region.binds .any)).map (·.on)
def closStep (acc:List Nat) (es:List Nat):Nat:=es.foldl (fun s e=>s ||| 2 ^ e ||| acc.getD e 0) 0
def clos:List (List Nat)->List Nat->List Nat
 | [],acc=>acc
 | es :: ws,acc=>clos ws (acc++[closStep acc es])
def closOf (ops:Array Oper):List Nat:=clos (ops.toList.map waitsOn) []
def waitsT (cl:List Nat) (j i:Nat):Bool:=(cl.getD j 0).testBit i
def waitsAll (cl:List Nat) (j:Nat):Bool:=(List.range j).all fun i=>waitsT cl j i
def tailAt (cl:List Nat):Nat->Nat
 | 0=>0
 | j+1=>if waitsAll cl j then tailAt cl j else j+1
def apartOk (cl : List Nat) (ops : Array Oper) (i j : Nat) : Bool :=
  match ops[i]?, ops[j]? with
  | some x, some y =>
    (match y.dst with
     | some d => !(looks ops x).contains d || (decide (j < i) && waitsT cl i j) || (decide (i < j) && waitsT cl j i)
     | none => true) && (i == j || x.dst.isNone || x.dst != y.dst)
  | _, _ => false
def chainM:MO->Bool
 | .call .. | .calv .. | .app .. | .appn .. | .sto .. | .ston ..=>true
 | _=>false
def chainO (lv : List Nat) (P : Program) (ops : Array Oper) (i : Nat) : Bool :=
  match ops[i]? with
  | some o => match cOp lv P o.op with
    | some m => chainM m
    | none => false
  | none => false
def pairsOk (cl:List Nat):List Nat->Bool
 | []=>true
 | i :: is=>is.all (fun j=>waitsT cl j i) && pairsOk cl is
def drwOk (cl : List Nat) (ops : Array Oper) (m : Nat) (ch : List Nat) : Bool :=
  decide (m ≤ ops.size) && pairsOk cl ch &&
  ((List.range m).all fun i => (List.range m).all fun j => apartOk cl ops i j) &&
  ((List.range ops.size).all fun i => match ops[i]? with
    | some o => (waitsOn o).all (decide <| · < i) && (decide (i < m) || waitsAll cl i)
    | none => false)
def chains (lv:List Nat) (P:Program) (ops:Array Oper) (m:Nat):List Nat:=(List.range m).filter (chainO lv P ops)
def compile (lv : List Nat) (P : Program) (N : Nat) : Code → MC
  | .skip => .skip
  | .region _ ops false => .reg (ops.toList.map (cOper lv P N ops))
  | .region _ ops true => if drwOk (closOf ops) ops (tailAt (closOf ops) ops.size) (chains lv P ops (tailAt (closOf ops) ops.size)) then .drw ((ops.toList.take (tailAt (closOf ops) ops.size)).map fun o => unlen ops (cOper lv P N ops o)) ((ops.toList.drop (tailAt (closOf ops) ops.size)).map (cOper lv P N ops)) else .stop
  | .seq a b => .seq (compile lv P N a) (compile lv P N b)
  | .cond c a b => match cArg lv c with
    | some c => .cond c (compile lv P N a) (compile lv P N b)
    | none => .stop
  | .block id b => .blk id (compile lv P N b)
  | .loop b => .loop (compile lv P N b)
  | .exit id => .exit id
  | .ret => .ret
  | _ => .stop
def cRes (lv : List Nat) (P : Program) (r : ResultVar) : Option MR :=
  match r with
  | .tmp t => if lmem lv t = true then some (.t t) else none
  | .cell a t => if lmem lv a = true then (match aggT P t, sizeT P t with
    | some g, some n => some (.cell g n a)
    | _, _ => none) else none
def cRess (lv : List Nat) (P : Program) : List ResultVar → Option (List MR)
  | [] => some []
  | r :: rs => match cRes lv P r, cRess lv P rs with
    | some m, some l => some (m :: l)
    | _, _ => none
end Go.AM
