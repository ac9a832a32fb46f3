/- The small code of the abstract machine, its evaluation on abstract states, and the pass that makes it of the model's code: definitions alone. -/
import Derived.Test.YteilijfligofdaaGreatDoorAm1
set_option linter.all false
namespace Go.AM
inductive MA where
 | t (n:Nat)
 | l (n:Nat)
 | c (v:AV)
inductive MD where
 | no
 | t (n:Nat)
 | l (n:Nat)
inductive MO where
 | mv (x:MA)
 | pick (c x y:MA)
 | alloc (z:List AV)
 | box (n:Nat) (x:MA)
 | build (z:List AV) (ps:List (Nat × Nat × MA))
 | bsl (sz:Nat) (z:List AV) (n:Nat) (ps:List (Nat × MA))
 | ld (agg:Bool) (n:Nat) (x:MA)
 | sto (n:Nat) (x v:MA)
 | nilc (x:MA)
 | bin (op:BinOp) (x y:MA)
 | un (op:UnOp) (x:MA)
 | conv (k:IntKind) (x:MA)
 | b2s (x:MA)
 | b2sn (x:MA)
 | mkf (f:Nat) (caps:List MA)
 | mks (sz bytes:Nat) (z:List AV) (l c:MA)
 | slc (k:Option Nat) (x:MA) (lo hi:Option MA)
 | fad (off:Nat) (x:MA)
 | fld (agg:Bool) (off n:Nat) (x:MA)
 | ixs (sz:Nat) (x i:MA)
 | ixa (len sz:Nat) (x i:MA)
 | ixt (x i:MA)
 | ext (x:MA) (n:Nat)
 | call (f:Nat) (args:List MA)
 | calv (x:MA) (args:List MA)
 | app (sz bytes:Nat) (x y:MA)
 | appn (sz bytes:Nat) (x y:MA)
 | ston (n:Nat) (x v:MA)
 | cap (x:MA)
 | appz (sz bytes:Nat) (x n:MA)
 | len (s:Bool) (x:MA)
 | lenq (s:Bool) (x:MA)
 | mnx (mx:Bool) (x y:MA)
 | beq (ne:Bool) (x y:MA)
 | nilq (sl ne:Bool) (x:MA)
 | sq (ne:Bool) (n:Nat) (x y:MA)
 | nii (ne:Bool) (x:MA)
 | stop
structure MI where
 dst:MD
 op:MO
 guard:Option (MA × Bool)
inductive MC where
 | skip
 | reg (os:List MI)
 | seq (a b:MC)
 | cond (c:MA) (a b:MC)
 | blk (id:Nat) (b:MC)
 | loop (b:MC)
 | exit (id:Nat)
 | ret
 | drw (pre tail:List MI)
 | stop
abbrev En:=List (Nat × AV)
def eget:En->Nat->AV
 | [],_=>.any
 | (k,v) :: e,t=>if k=t then v else eget e t
def eset:En->Nat->AV->En
 | [],t,v=>[(t,v)]
 | (k,u) :: e,t,v=>if k=t then (t,v) :: e else (k,u) :: eset e t v
def lmem:List Nat->Nat->Bool
 | [],_=>false
 | x :: xs,k=>if x=k then true else lmem xs k
def ekeep (lv:List Nat):En->En
 | []=>[]
 | (k,v) :: e=>if lmem lv k=true then (k,v) :: ekeep lv e else ekeep lv e
structure St where
 L:En
 T:En
 H:List AO
def St.get (st:St):MA->AV
 | .t n=>eget st.T n
 | .l n=>eget st.L n
 | .c v=>v
def St.put (st:St):MD->AV->St
 | .no,_=>st
 | .t d,v=>⟨st.L,(d,v) :: st.T,st.H⟩
 | .l d,v=>⟨eset st.L d v,st.T,st.H⟩
abbrev CallP:=Nat->List AV->List AO->(AV->List AO->Prop)->Prop
def AV.cells:AV->List AV
 | .st cs=>cs
 | v=>[v]
def bcmp (op:BinOp) (a b:Int):Option Bool :=
 match op with
 | .eql=>some (decide (a=b))
 | .neq=>some (!decide (a=b))
 | .lss=>some (decide (a<b))
 | .leq=>some (decide (a<=b))
 | .gtr=>some (decide (b<a))
 | .geq=>some (decide (b<=a))
 | _=>none
def wr (k:IntKind) (n:Int):Int:=k.wrap n
def ibits (op:BinOp) (k:IntKind) (x y:Int):Int :=
 let a:=BitVec.ofInt k.bits x
 let b:=BitVec.ofInt k.bits y
 match op with
 | .and=>k.wrap (a &&& b).toNat
 | .or=>k.wrap (a ||| b).toNat
 | .xor=>k.wrap (a ^^^ b).toNat
 | _=>k.wrap (a &&& ~~~b).toNat
def iarith (op:BinOp) (k:IntKind) (a b:Int):Option PV :=
 match op with
 | .add=>some (.i k (wr k (a+b)))
 | .sub=>some (.i k (wr k (a - b)))
 | .mul=>some (.i k (wr k (a * b)))
 | .and=>some (.i k (ibits .and k a b))
 | .or=>some (.i k (ibits .or k a b))
 | .xor=>some (.i k (ibits .xor k a b))
 | .andNot=>some (.i k (ibits .andNot k a b))
 | .shl=>none
 | .shr=>none
 | .quo=>none
 | .rem=>none
 | op=>(bcmp op a b).map .b
def slt:List UInt8->List UInt8->Bool:=Op.bytesLess
def seqs (op:BinOp) (a b:List UInt8):Option PV :=
 match op with
 | .eql=>some (.b (decide (a=b)))
 | .neq=>some (.b (!decide (a=b)))
 | .lss=>some (.b (slt a b))
 | .leq=>some (.b (slt a b || decide (a=b)))
 | .gtr=>some (.b (!(slt a b || decide (a=b))))
 | .geq=>some (.b (!slt a b))
 | _=>none
def ebin (op:BinOp):AV->AV->Option AV
 | .p (.i k a),.p (.i k' b)=>if k=k' then (iarith op k a b).map .p else none
 | .p (.s a),.p (.s b)=>(seqs op a b).map .p
 | _,_=>none
def beqV (ne:Bool):AV->AV->Option AV
 | .p (.b a),.p (.b b)=>some (.p (.b (if ne then !(a == b) else (a == b))))
 | _,_=>none
def niiV (ne:Bool):AV->Option AV
 | .p .ni=>some (.p (.b (!ne)))
 | .p .er=>some (.p (.b ne))
 | _=>none
def sqC:List AV->List AV->Option Bool
 | [],[]=>some true
 | .p (.i k a) :: xs,.p (.i k' b) :: ys=>if k=k' then (sqC xs ys).map (decide (a=b) && ·) else none
 | _,_=>none
def sqV (ne:Bool) (n:Nat):AV->AV->Option AV
 | .st xs,.st ys=>if xs.length=n then (sqC xs ys).map fun b=>.p (.b (if ne then !b else b)) else none
 | _,_=>none
def eun (op:UnOp):AV->Option AV
 | .p (.b a)=>match op with | .not=>some (.p (.b (!a))) | _=>none
 | .p (.i k a)=>match op with | .neg=>some (.p (.i k (wr k (0 - a)))) | _=>none
 | _=>none
def withV (v:Option AV) (d:MD) (K:St->Prop) (st:St):Prop :=
 match v with
 | some v=>K (st.put d v)
 | none=>False
def bin2K (op:BinOp) (x y:AV) (d:MD) (K:St->Prop) (st:St):Prop :=
 match op,x,y with
 | .add,.p (.s a),.p (.s b)=>a.length+b.length<=maxL/\K (st.put d (.p (.s (a++b))))
 | .quo,.p (.i k a),.p (.i k' b)=>k=k'/\b≠0/\K (st.put d (.p (.i k (wr k (a.tdiv b)))))
 | .rem,.p (.i k a),.p (.i k' b)=>k=k'/\b≠0/\K (st.put d (.p (.i k (a.tmod b))))
 | .shl,.p (.i k a),.p (.i _ b)=>0<=b/\K (st.put d (.p (.i k (wr k (a * 2 ^ min b.toNat k.bits)))))
 | .shr,.p (.i k a),.p (.i _ b)=>0<=b/\K (st.put d (.p (.i k (a.fdiv (2 ^ min b.toNat k.bits)))))
 | _,_,_=>False
def binK (op:BinOp) (x y:AV) (d:MD) (K:St->Prop) (st:St):Prop :=
 match ebin op x y with
 | some v=>K (st.put d v)
 | none=>bin2K op x y d K st
def lenK (s:Bool) (x:AV) (d:MD) (K:St->Prop) (st:St):Prop :=
 match s,x with
 | false,.p (.l xs)=>xs.length<=maxL->K (st.put d (.p (.i .i64 xs.length)))
 | false,.p .nl=>K (st.put d (.p (.i .i64 0)))
 | true,.p (.s x)=>x.length<=maxL->K (st.put d (.p (.i .i64 x.length)))
 | false,.gs _ _ _ n=>n<=maxL->K (st.put d (.p (.i .i64 n)))
 | _,_=>False
def lenqV (s:Bool) (x:AV):Option AV :=
 match s,x with
 | false,.p (.l xs)=>some (.p (.i .i64 xs.length))
 | false,.p .nl=>some (.p (.i .i64 0))
 | true,.p (.s x)=>some (.p (.i .i64 x.length))
 | false,.gs _ _ _ n=>some (.p (.i .i64 n))
 | _,_=>none
def capV:AV->Option AV
 | .p .nl=>some (.p (.i .i64 0))
 | _=>none
def ldAt (H : List AO) (x : AV) : Option (List AV) :=
  match x with
  | .ptr id off => match H[id]? with
    | some (.var cs) => some (cs.drop off)
    | _ => none
  | .ep id ver row col => match H[id]? with
    | some (.rows _ ver' rs) => if ver = ver' then (rs[row]?).map (·.drop col) else none
    | _ => none
  | .ip row => some (row.map .p)
  | _ => none
def takeN:Nat->List AV->Option (List AV)
 | 0,_=>some []
 | _+1,[]=>none
 | n+1,c :: cs=>(takeN n cs).map (c :: ·)
def ldV (agg:Bool) (n:Nat) (cs:Option (List AV)):Option AV :=
 match cs with
 | none=>none
 | some cs=>if agg then (takeN n cs).map .st else cs.head?
def splice (cs:List AV) (off:Nat) (us:List AV):Option (List AV) :=
 match off,cs,us with
 | _,cs,[]=>some cs
 | 0,_ :: cs,u :: us=>(splice cs 0 us).map (u :: ·)
 | off+1,c :: cs,us=>(splice cs off us).map (c :: ·)
 | _,[],_ :: _=>none
def AV.allOne:AV->Bool
 | .st _=>true
 | v=>v.one
def stoH (H : List AO) (n : Nat) (x v : AV) : Option (List AO) :=
  if v.allOne && v.cells.length == n then
    match x with
    | .ptr id off => match H[id]? with
      | some (.var cs) => (splice cs off v.cells).map fun cs' => H.set id (.var cs')
      | _ => none
    | .ep id ver row col => match H[id]? with
      | some (.rows sz ver' rs) => if ver = ver' then
          match rs[row]? with
          | some r => (splice r col v.cells).map fun r' => H.set id (.rows sz ver' (rs.set row r'))
          | none => none
        else none
      | _ => none
    | _ => none
  else none
def withH (h:Option (List AO)) (d:MD) (K:St->Prop) (st:St):Prop :=
 match h with
 | some H=>K (St.put ⟨st.L,st.T,H⟩ d .any)
 | none=>False
def fadV (off:Nat):AV->Option AV
 | .ptr id o=>some (.ptr id (o+off))
 | .ep id ver row col=>some (.ep id ver row (col+off))
 | .ip row=>some (.ip (row.drop off))
 | _=>none
def nilcV:AV->Option AV
 | .ptr id o=>some (.ptr id o)
 | .ep id ver row col=>some (.ep id ver row col)
 | .clo f c=>some (.clo f c)
 | _=>none
def extV (n:Nat):AV->Option AV
 | .tup vs=>vs[n]?
 | _=>none
def ixsK (sz : Nat) (x i : AV) (d : MD) (K : St → Prop) (st : St) : Prop :=
  match i with
  | .p (.i _ n) =>
    match x with
    | .p (.l xs) => 0 ≤ n ∧ ∃ r, xs[n.toNat]? = some r ∧ r.length = sz ∧ K (st.put d (.ip r))
    | .gs id ver off m => 0 ≤ n ∧ n < (m : Int) ∧ (match st.H[id]? with
        | some (.rows sz' ver' rs) => sz' = sz ∧ ver' = ver ∧ K (st.put d (.ep id ver (off + n.toNat) 0))
        | _ => False)
    | _ => False
  | _ => False
def ixaK (len sz : Nat) (x i : AV) (d : MD) (K : St → Prop) (st : St) : Prop :=
  match i with
  | .p (.i _ n) =>
    match x with
    | .ptr id o => 0 ≤ n ∧ n < (len : Int) ∧ K (st.put d (.ptr id (o + n.toNat * sz)))
    | _ => False
  | _ => False
def ixtK (x i : AV) (d : MD) (K : St → Prop) (st : St) : Prop :=
  match i with
  | .p (.i _ n) =>
    match x with
    | .p (.s x) => 0 ≤ n ∧ ∃ c, x[n.toNat]? = some c ∧ K (st.put d (.p (.i .u8 c.toNat)))
    | _ => False
  | _ => False
def bndK (lo hi:Option AV) (n:Nat) (K:Nat->Nat->Prop):Prop :=
 match lo,hi with
 | none,none=>K 0 n
 | some (.p (.i _ a)),none=>0<=a/\a<=(n:Int)/\K a.toNat n
 | none,some (.p (.i _ b))=>0<=b/\b<=(n:Int)/\K 0 b.toNat
 | some (.p (.i _ a)),some (.p (.i _ b))=>0<=a/\a<=b/\b<=(n:Int)/\K a.toNat b.toNat
 | _,_=>False
def slcR (sz id ver off n:Nat) (lo hi:Option AV) (d:MD) (K:St->Prop) (st:St):Option AO->Prop
 | some (.rows sz' ver' _)=>sz'=sz/\ver'=ver/\bndK lo hi n fun a b=>K (st.put d (.gs id ver (off+a) (b - a)))
 | _=>False
def slcK (k:Option Nat) (x:AV) (lo hi:Option AV) (d:MD) (K:St->Prop) (st:St):Prop :=
 match k,x with
 | some sz,.p (.l xs)=>(∀ r∈xs,r.length=sz)/\bndK lo hi xs.length fun a b=>K (st.put d (.p (.l ((xs.drop a).take (b - a)))))
 | none,.p (.s x)=>bndK lo hi x.length fun a b=>K (st.put d (.p (.s ((x.drop a).take (b - a)))))
 | some _,.p .nl=>bndK lo hi 0 fun _ _=>K (st.put d (.p .nl))
 | some sz,.gs id ver off n=>slcR sz id ver off n lo hi d K st st.H[id]?
 | _,_=>False
def partsV (st : St) : List (Nat × Nat × MA) → List AV → Option (List AV)
  | [], z => some z
  | (off, n, x) :: ps, z =>
    let v := st.get x
    if v.allOne && v.cells.length == n then (splice z off v.cells).bind (partsV st ps) else none
def buildV (st:St) (z:List AV) (ps:List (Nat × Nat × MA)):Option AV:=(partsV st ps z).map .st
def rowsV (st : St) (sz : Nat) : List (Nat × MA) → List (List AV) → Option (List (List AV))
  | [], rs => some rs
  | (i, x) :: ps, rs =>
    let v := st.get x
    if v.allOne && v.cells.length == sz && decide (i < rs.length) then rowsV st sz ps (rs.set i v.cells) else none
def newK (o:Option AO) (mk:Nat->AV) (d:MD) (K:St->Prop) (st:St):Prop :=
 match o with
 | some o=>K (St.put ⟨st.L,st.T,st.H++[o]⟩ d (mk st.H.length))
 | none=>False
def mksK (sz bytes:Nat) (z:List AV) (l c:AV) (d:MD) (K:St->Prop) (st:St):Prop :=
 match l,c with
 | .p (.i .i64 l),.p (.i .i64 c)=>0<=l/\l<=c/\c * bytes<=140737488355328/\c<=140737488355328 /\
   K (St.put ⟨st.L,st.T,st.H++[.rows sz 0 (List.replicate l.toNat z)]⟩ d (.gs st.H.length 0 0 l.toNat))
 | _,_=>False
def appzK (sz bytes:Nat) (x n:AV) (d:MD) (K:St->Prop) (st:St):Prop :=
 match x,n with
 | .p .nl,.p (.i .i64 k)=>0<k/\k * bytes<=140737488355328/\k<=140737488355328/\K (St.put ⟨st.L,st.T,st.H++[.rows sz 0 []]⟩ d (.gs st.H.length 0 0 k.toNat))
 | _,_=>False
def srcR (sz ver off n:Nat):Option AO->Option (List (List AV))
 | some (.rows sz' ver' rs)=>if sz'=sz/\ver'=ver/\off+n<=rs.length then some ((rs.drop off).take n) else none
 | _=>none
def bytesRows:List UInt8->List (List AV)
 | []=>[]
 | c :: x=>[.p (.i .u8 c.toNat)] :: bytesRows x
def srcRows (H:List AO) (sz:Nat):AV->Option (List (List AV))
 | .p (.l ys)=>some (ys.map (·.map .p))
 | .p .nl=>some []
 | .p (.s x)=>if sz=1 then some (bytesRows x) else none
 | .gs id ver off n=>srcR sz ver off n H[id]?
 | _=>none
def appR (sz bytes id ver off n:Nat) (ys:List (List AV)) (d:MD) (K:St->Prop) (st:St):Option AO->Prop
 | some (.rows sz' ver' rs)=>sz'=sz/\ver'=ver/\off=0/\n<=rs.length/\(n+ys.length) * bytes<=140737488355328/\n+ys.length<=140737488355328 /\
   K (St.put ⟨st.L,st.T,st.H.set id (.rows sz (ver+1) (rs.take n++ys))⟩ d (.gs id (ver+1) 0 (n+ys.length)))
 | _=>False
def appX (sz bytes:Nat) (x:AV) (ys:List (List AV)) (d:MD) (K:St->Prop) (st:St):Prop :=
 match x with
 | .p .nl=>ys.length * bytes<=140737488355328/\ys.length<=140737488355328/\K (St.put ⟨st.L,st.T,st.H++[.rows sz 0 ys]⟩ d (.gs st.H.length 0 0 ys.length))
 | .gs id ver off n=>appR sz bytes id ver off n ys d K st st.H[id]?
 | _=>False
def appY (sz bytes:Nat) (x:AV) (ys:Option (List (List AV))) (d:MD) (K:St->Prop) (st:St):Prop :=
 match ys with
 | some ys=>(∀ r∈ys,r.length=sz)/\appX sz bytes x ys d K st
 | none=>False
def appK (sz bytes:Nat) (x y:AV) (d:MD) (K:St->Prop) (st:St):Prop:=appY sz bytes x (srcRows st.H sz y) d K st
def bytesOf:List (List AV)->Option (List UInt8)
 | []=>some []
 | [.p (.i .u8 n)] :: xs=>(bytesOf xs).map (UInt8.ofNat n.toNat :: ·)
 | _ :: _=>none
def b2sR:Option (List (List AV))->Option AV
 | some ys=>if ys.length<=140737488355328 then (bytesOf ys).map fun l=>.p (.s l) else none
 | none=>none
def b2sV (H:List AO):AV->Option AV
 | .p (.l ys)=>b2sR (srcRows H 1 (.p (.l ys)))
 | .p .nl=>b2sR (some [])
 | .gs id ver off n=>b2sR (srcRows H 1 (.gs id ver off n))
 | _=>none
def pickV:AV->AV->AV->Option AV
 | .p (.b c),x,y=>some (if c then x else y)
 | _,_,_=>none
def mnxV (mx:Bool):AV->AV->Option AV
 | .p (.i k a),.p (.i k' b)=>if k=k' then some (.p (.i k (if mx then (if b > a then b else a) else (if b<a then b else a)))) else none
 | _,_=>none
def nilqR (ne:Bool) (ver:Nat) (d:MD) (K:St->Prop) (st:St):Option AO->Prop
 | some (.rows _ ver' rs)=>ver'=ver/\0<rs.length/\K (st.put d (.p (.b ne)))
 | _=>False
def nilqK (sl ne:Bool) (x:AV) (d:MD) (K:St->Prop) (st:St):Prop :=
 match sl,x with
 | true,.p .nl=>K (st.put d (.p (.b (!ne))))
 | true,.p (.l xs)=>xs≠[]/\K (st.put d (.p (.b ne)))
 | true,.gs id ver _ _=>nilqR ne ver d K st st.H[id]?
 | false,.p .np=>K (st.put d (.p (.b (!ne))))
 | false,.ptr _ _=>K (st.put d (.p (.b ne)))
 | false,.ep _ _ _ _=>K (st.put d (.p (.b ne)))
 | false,.ip _=>K (st.put d (.p (.b ne)))
 | _,_=>False
def convV (k:IntKind):AV->Option AV
 | .p (.i _ a)=>some (.p (.i k (wr k a)))
 | _=>none
def Rels (θ:Th) (W:Im) (args:List AV) (vs:Array Value):Prop :=
 vs.size=args.length/\∀ (j:Nat) (a:AV) (v:Value),args[j]?=some a->vs[j]?=some v->ARel θ W a v
def HasBody (P:Program) (f:Nat):Prop:=∃ fn,P.funcs[f]?=some fn/\fn.body.isSome=true/\(fn.name == "runtime.NumGoroutine")=false
def ACall (P:Program) (f:Nat) (args:List AV) (H:List AO) (Q:AV->List AO->Prop):Prop :=
 HasBody P f/\∀ (w:World) (θ:Th) (W:Im) (vs:Array Value),SR θ W H w->Rels θ W args vs ->
  Calls P f vs w fun e w'=>∃ v r H' θ' W',e=.returned v/\Q r H'/\SR θ' W' H' w'/\ARel θ' W' r v/\Stp θ W w θ' W' w'
def callK (d:MD) (K:St->Prop) (st:St) (r:AV) (H:List AO):Prop:=K (St.put ⟨st.L,st.T,H⟩ d r)
def calvK (C:CallP) (x:AV) (args:List AV) (d:MD) (K:St->Prop) (st:St):Prop :=
 match x with
 | .clo f caps=>C f (args++caps) st.H (callK d K st)
 | _=>False
def gets (st:St):List MA->List AV
 | []=>[]
 | x :: xs=>st.get x :: gets st xs
def stepU (C:CallP) (o:MO) (d:MD) (K:St->Prop) (st:St):Prop :=
 match o with
 | .mv x=>K (st.put d (st.get x))
 | .pick c x y=>withV (pickV (st.get c) (st.get x) (st.get y)) d K st
 | .alloc z=>newK (some (.var z)) (fun id=>.ptr id 0) d K st
 | .box n x=>newK (if (st.get x).allOne && (st.get x).cells.length == n then some (.var (st.get x).cells) else none) (fun id=>.ptr id 0) d K st
 | .build z ps=>withV (buildV st z ps) d K st
 | .bsl sz z n ps=>newK ((rowsV st sz ps (List.replicate n z)).map fun rs=>.rows sz 0 rs) (fun id=>.gs id 0 0 n) d K st
 | .ld agg n x=>withV (ldV agg n (ldAt st.H (st.get x))) d K st
 | .sto n x v=>withH (stoH st.H n (st.get x) (st.get v)) d K st
 | .nilc x=>withV (nilcV (st.get x)) d K st
 | .bin op x y=>binK op (st.get x) (st.get y) d K st
 | .un op x=>withV (eun op (st.get x)) d K st
 | .conv k x=>withV (convV k (st.get x)) d K st
 | .b2s x=>withV (b2sV st.H (st.get x)) d K st
 | .b2sn x=>withV (b2sV st.H (st.get x)) d K st
 | .mkf f caps=>withV (some (.clo f (gets st caps))) d K st
 | .mks sz bytes z l c=>mksK sz bytes z (st.get l) (st.get c) d K st
 | .slc k x lo hi=>slcK k (st.get x) (lo.map st.get) (hi.map st.get) d K st
 | .fad off x=>withV (fadV off (st.get x)) d K st
 | .fld agg off n x=>withV (match st.get x with | .st cs=>ldV agg n (some (cs.drop off)) | _=>none) d K st
 | .ixs sz x i=>ixsK sz (st.get x) (st.get i) d K st
 | .ixa len sz x i=>ixaK len sz (st.get x) (st.get i) d K st
 | .ixt x i=>ixtK (st.get x) (st.get i) d K st
 | .ext x n=>withV (extV n (st.get x)) d K st
 | .call f args=>C f (gets st args) st.H (callK d K st)
 | .calv x args=>calvK C (st.get x) (gets st args) d K st
 | .app sz bytes x y=>appK sz bytes (st.get x) (st.get y) d K st
 | .appn sz bytes x y=>appK sz bytes (st.get x) (st.get y) d K st
 | .ston n x v=>withH (stoH st.H n (st.get x) (st.get v)) d K st
 | .len s x=>lenK s (st.get x) d K st
 | .lenq s x=>withV (lenqV s (st.get x)) d K st
 | .cap x=>withV (capV (st.get x)) d K st
 | .appz sz bytes x n=>appzK sz bytes (st.get x) (st.get n) d K st
 | .mnx mx x y=>withV (mnxV mx (st.get x) (st.get y)) d K st
 | .beq ne x y=>withV (beqV ne (st.get x) (st.get y)) d K st
 | .nilq sl ne x=>nilqK sl ne (st.get x) d K st
 | .nii ne x=>withV (niiV ne (st.get x)) d K st
 | .sq ne n x y=>withV (sqV ne n (st.get x) (st.get y)) d K st
 | .stop=>False
def splitK (c:Prop) (A B:St->Prop) (st:St):Prop:=(c->A st)/\(¬ c->B st)
def condK (v:AV) (A B:St->Prop) (st:St):Prop :=
 match v with
 | .p (.b t)=>splitK (t=true) A B st
 | _=>False
def skipK (d:MD) (K:St->Prop) (st:St):Prop:=K (st.put d (.tup []))
def guardK (v:AV) (want:Bool) (A B:St->Prop) (st:St):Prop :=
 match v,want with
 | .tup [],_=>B st
 | v,true=>condK v A B st
 | v,false=>condK v B A st
def stepI (C:CallP) (o:MI) (K:St->Prop) (st:St):Prop :=
 match o.guard with
 | none=>stepU C o.op o.dst K st
 | some (t,want)=>guardK (st.get t) want (stepU C o.op o.dst K) (skipK o.dst K) st
def runOps (C:CallP):List MI->(St->Prop)->St->Prop
 | [],K,st=>K st
 | o :: os,K,st=>stepI C o (runOps C os K) st
def Hext (H H':List AO):Prop:=∀ (id:Nat) (o:AO),H[id]?=some o->o≠.dead->H'[id]?=some o
abbrev PK:=List AO->St->Prop
def reK (Hc N:List AO) (K:PK) (st:St):Prop:=K Hc ⟨st.L,st.T,N⟩
def pureQ (r:AV) (H:List AO) (r':AV) (H':List AO):Prop:=r'=r/\H'=H
def idOf:AV->Option Nat
 | .gs id _ _ _=>some id
 | .ptr id _=>some id
 | _=>none
def FillA (args:List AV) (N A:List AO) (b:Nat):Prop:=∀ x∈args,∀ id ob,idOf x=some id->b<=id->N[id - b]?=some ob->A[id - b]?=some ob
def pcallK (C:CallP) (Hm Hc N:List AO) (f:Nat) (args:List AV) (d:MD) (K:PK) (st:St):Prop :=
 (∃ r Hc',Hc'.length=Hc.length/\Hext Hm Hc'/\(∀ A,FillA args N A Hc.length->C f args (Hc++A) (pureQ r (Hc'++A)))/\K Hc' (st.put d r)) \/
 (∃ (ob:AO) (mk:Nat->AV),(∀ (H:List AO) (j:Nat),Hext Hm H->H[j]?=some .rsv->C f args H (pureQ (mk j) (H.set j ob)))/\K Hc (St.put ⟨st.L,st.T,st.H++[ob]⟩ d (mk (Hc.length+st.H.length))))
def effK (Hm Hc N:List AO) (K:PK) (st:St):Prop:=st.H.length=Hc.length/\Hext Hm st.H/\K st.H ⟨st.L,st.T,N⟩
def nwK (Hc:List AO) (o:Option AO) (mk:Nat->AV) (d:MD) (K:PK) (st:St):Prop :=
 match o with
 | some o=>K Hc (St.put ⟨st.L,st.T,st.H++[o]⟩ d (mk (Hc.length+st.H.length)))
 | none=>False
inductive Kd where
 | quiet | call | new | eff | apn | rdn | bad
def kindOf:MO->Kd
 | .mv _ | .pick .. | .build .. | .ld .. | .nilc _ | .bin .. | .un .. | .conv .. | .b2s _ | .mkf .. | .slc .. | .fad .. | .fld .. | .ixs .. | .ixa .. | .ixt .. | .ext .. | .cap _ | .lenq .. | .mnx .. | .beq .. | .nilq .. | .sq .. | .nii ..=>.quiet
 | .call .. | .calv ..=>.call
 | .alloc _ | .box .. | .bsl .. | .mks ..=>.new
 | .app .. | .sto ..=>.eff
 | .appn .. | .ston ..=>.apn
 | .b2sn _=>.rdn
 | _=>.bad
def preC (C : CallP) (Hm Hc : List AO) (o : MO) (d : MD) (K : PK) (st : St) : Prop :=
  match o with
  | .call f args => pcallK C Hm Hc st.H f (gets st args) d K st
  | .calv x args => match st.get x with
    | .clo f caps => pcallK C Hm Hc [] f (gets st args ++ caps) d K st
    | _ => False
  | _ => False
def mksN (Hc:List AO) (sz bytes:Nat) (z:List AV) (l c:AV) (d:MD) (K:PK) (st:St):Prop :=
 match l,c with
 | .p (.i .i64 l),.p (.i .i64 c)=>0<=l/\l<=c/\c * bytes<=140737488355328/\c<=140737488355328/\nwK Hc (some (.rows sz 0 (List.replicate l.toNat z))) (fun id=>.gs id 0 0 l.toNat) d K st
 | _,_=>False
def preN (Hc:List AO) (o:MO) (d:MD) (K:PK) (st:St):Prop :=
 match o with
 | .alloc z=>nwK Hc (some (.var z)) (fun id=>.ptr id 0) d K st
 | .box n x=>nwK Hc (if (st.get x).allOne && (st.get x).cells.length == n then some (.var (st.get x).cells) else none) (fun id=>.ptr id 0) d K st
 | .bsl sz z n ps=>nwK Hc ((rowsV st sz ps (List.replicate n z)).map fun rs=>.rows sz 0 rs) (fun id=>.gs id 0 0 n) d K st
 | .mks sz bytes z l c=>mksN Hc sz bytes z (st.get l) (st.get c) d K st
 | _=>False
def srcN (Hm Hc N:List AO) (sz:Nat) (y:AV):Option (List (List AV)) :=
 match y with
 | .gs id v o n=>if Hc.length<=id then srcR sz v o n N[id - Hc.length]? else srcR sz v o n Hm[id]?
 | y=>srcRows [] sz y
def appnN (Hc:List AO) (sz bytes id k v n:Nat) (ys:List (List AV)) (d:MD) (K:PK) (st:St):Option AO->Prop
 | some (.rows sz' v' rs)=>sz'=sz/\v'=v/\n<=rs.length/\(n+ys.length) * bytes<=140737488355328/\n+ys.length<=140737488355328 /\
   K Hc (St.put ⟨st.L,st.T,st.H.set k (.rows sz (v+1) (rs.take n++ys))⟩ d (.gs id (v+1) 0 (n+ys.length)))
 | _=>False
def appnR (Hm Hc:List AO) (sz bytes:Nat) (x:AV) (ys:List (List AV)) (d:MD) (K:PK) (st:St):Prop :=
 (∀ r∈ys,r.length=sz)/\((x=.p .nl/\ys≠[]/\ys.length * bytes<=140737488355328/\ys.length<=140737488355328/\nwK Hc (some (.rows sz 0 ys)) (fun id=>.gs id 0 0 ys.length) d K st) \/
  appX sz bytes x ys d (effK Hm Hc st.H K) ⟨st.L,st.T,Hc⟩\/∃ id v n,x=.gs id v 0 n/\Hc.length<=id/\appnN Hc sz bytes id (id - Hc.length) v n ys d K st st.H[id - Hc.length]?)
def appnY (Hm Hc:List AO) (sz bytes:Nat) (x:AV) (ys:Option (List (List AV))) (d:MD) (K:PK) (st:St):Prop :=
 match ys with
 | some ys=>appnR Hm Hc sz bytes x ys d K st
 | none=>False
def stonR (Hc : List AO) (k off : Nat) (us : Option (List AV)) (d : MD) (K : PK) (st : St) : Option AO → Prop
  | some (.var cs) => match us.bind (splice cs off) with
    | some cs' => K Hc (St.put ⟨st.L, st.T, st.H.set k (.var cs')⟩ d .any)
    | none => False
  | _ => False
def stonU (n:Nat) (v:AV):Option (List AV):=if v.allOne && v.cells.length == n then some v.cells else none
def stonK (Hc:List AO) (n:Nat) (x v:AV) (d:MD) (K:PK) (st:St):Prop :=
 match x with
 | .ptr id off=>Hc.length<=id/\stonR Hc (id - Hc.length) off (stonU n v) d K st st.H[id - Hc.length]?
 | _=>False
def MA.isC:MA->Bool | .c _=>true | _=>false
def appnK (Hm Hc:List AO) (o:MO) (d:MD) (K:PK) (st:St):Prop :=
 match o with
 | .appn sz bytes x y=>if x.isC || y.isC then False else appnY Hm Hc sz bytes (st.get x) (srcN Hm Hc st.H sz (st.get y)) d K st
 | .ston n x v=>if x.isC then False else stonK Hc n (st.get x) (st.get v) d K st
 | _=>False
def rdnX (Hc:List AO) (v:AV) (d:MD) (K:PK) (st:St):Prop :=
 match v with
 | .gs id ver off n=>Hc.length<=id/\withV (b2sR (srcR 1 ver off n st.H[id - Hc.length]?)) d (K Hc) st
 | _=>False
def rdnK (Hc:List AO) (o:MO) (d:MD) (K:PK) (st:St):Prop :=
 match o with
 | .b2sn x=>if x.isC then False else rdnX Hc (st.get x) d K st
 | _=>False
def preU (C:CallP) (Hm Hc:List AO) (o:MO) (d:MD) (K:PK) (st:St):Prop :=
 match kindOf o with
 | .quiet=>stepU C o d (reK Hc st.H K) ⟨st.L,st.T,Hm⟩
 | .call=>preC C Hm Hc o d K st
 | .new=>preN Hc o d K st
 | .eff=>stepU C o d (effK Hm Hc st.H K) ⟨st.L,st.T,Hc⟩
 | .apn=>appnK Hm Hc o d K st
 | .rdn=>rdnK Hc o d K st
 | .bad=>False
def preI (C:CallP) (Hm Hc:List AO) (o:MI) (K:PK) (st:St):Prop :=
 match o.guard with
 | none=>preU C Hm Hc o.op o.dst K st
 | some (t,want)=>guardK (st.get t) want (preU C Hm Hc o.op o.dst K) (skipK o.dst (K Hc)) st
def preK (C:CallP) (Hm:List AO):List MI->PK->PK
 | [],K,Hc,st=>K Hc st
 | o :: os,K,Hc,st=>preI C Hm Hc o (preK C Hm os K) st
def endK (K:St->Prop) (Hc:List AO) (st:St):Prop:=K ⟨st.L,st.T,Hc++st.H⟩
def drwK (C:CallP) (pre:List MI) (K:St->Prop) (st:St):Prop:=∃ Hm,Hext Hm st.H/\preK C Hm pre (endK K) st.H ⟨st.L,st.T,[]⟩
inductive Ex where
 | nm | ex (id:Nat) | rt
def thenK (K:St->Prop) (Q:Ex->St->Prop):Ex->St->Prop
 | .nm,st=>K st
 | e,st=>Q e st
def blkK (id:Nat) (Q:Ex->St->Prop):Ex->St->Prop
 | .ex i,st=>if i=id then Q .nm st else Q (.ex i) st
 | e,st=>Q e st
def regK (K:St->Prop) (st:St):Prop:=K ⟨st.L,[],st.H⟩
def loopK (B:(Ex->St->Prop)->St->Prop) (Q:Ex->St->Prop) (st:St):Prop :=
 ∃ (α:Type) (lv:List Nat) (I:α->St->Prop) (μ:α->Nat),(∃ x,I x ⟨ekeep lv st.L,[],st.H⟩) /\
  ∀ x st',I x st'->B (thenK (fun st''=>∃ y,I y ⟨ekeep lv st''.L,[],st''.H⟩/\μ y<μ x) Q) st'
def wpm (C:CallP):MC->(Ex->St->Prop)->St->Prop
 | .skip,Q,st=>Q .nm st
 | .reg os,Q,st=>runOps C os (regK (Q .nm)) st
 | .seq a b,Q,st=>wpm C a (thenK (wpm C b Q) Q) st
 | .cond c a b,Q,st=>condK (st.get c) (wpm C a Q) (wpm C b Q) st
 | .blk id b,Q,st=>wpm C b (blkK id Q) st
 | .loop b,Q,st=>loopK (wpm C b) Q st
 | .exit id,Q,st=>Q (.ex id) st
 | .ret,Q,st=>Q .rt st
 | .drw pre tail,Q,st=>drwK C pre (runOps C tail (regK (Q .nm))) st
 | .stop,_,_=>False
inductive MR where
 | t (n:Nat)
 | cell (agg:Bool) (n:Nat) (a:Nat)
def resV (st : St) : MR → Option AV
  | .t n => some (eget st.L n)
  | .cell agg n a => match eget st.L a with
    | .ptr id o => ldV agg n (ldAt st.H (.ptr id o))
    | _ => none
def resVs (st : St) : List MR → Option (List AV)
  | [] => some []
  | r :: rs => match resV st r, resVs st rs with
    | some v, some vs => some (v :: vs)
    | _, _ => none
def retV (st:St):List MR->Option AV
 | [r]=>resV st r
 | rs=>(resVs st rs).map .tup
def retK (rs:List MR) (Q:AV->List AO->Prop) (st:St):Prop :=
 match retV st rs with
 | some v=>Q v st.H
 | none=>False
def finK (rs:List MR) (Q:AV->List AO->Prop):Ex->St->Prop
 | .ex _,_=>False
 | _,st=>retK rs Q st
def argEnv:Nat->List AV->En
 | _,[]=>[]
 | i,a :: as=>(i,a) :: argEnv (i+1) as
end Go.AM
