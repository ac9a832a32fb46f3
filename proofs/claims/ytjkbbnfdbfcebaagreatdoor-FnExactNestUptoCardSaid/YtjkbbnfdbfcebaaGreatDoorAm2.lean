/- The small code of the abstract machine, its evaluation on abstract states, and the pass that makes it of the model's code: definitions alone. -/
import Derived.Test.YtjkbbnfdbfcebaaGreatDoorAm1
set_option linter.all false
namespace Go.AM
inductive MA where
 |t (n:Nat)
 |l (n:Nat)
 |c (v:AV)
inductive MD where
 |no
 |t (n:Nat)
 |l (n:Nat)
inductive MO where
 |mv (x:MA)
 |pick (c x y:MA)
 |alloc (z:List AV)
 |box (n:Nat) (x:MA)
 |build (z:List AV) (ps:List (Nat×Nat×MA))
 |C9 (sz:Nat) (z:List AV) (n:Nat) (ps:List (Nat×MA))
 |ld (agg:Bool) (n:Nat) (x:MA)
 |pQ (n:Nat) (x v:MA)
 |Aa (x:MA)
 |bin (op:BinOp) (x y:MA)
 |un (op:UnOp) (x:MA)
 |conv (k:IntKind) (x:MA)
 |sN (x:MA)
 |qM (x:MA)
 |GA (f:Nat) (eO:List MA)
 |Da (sz bytes:Nat) (z:List AV) (l c:MA)
 |tg (k:Option Nat) (x:MA) (lo hi:Option MA)
 |GB (off:Nat) (x:MA)
 |GC (agg:Bool) (off n:Nat) (x:MA)
 |Bg (sz:Nat) (x i:MA)
 |Bi (len sz:Nat) (x i:MA)
 |Bj (x i:MA)
 |ext (x:MA) (n:Nat)
 |call (f:Nat) (args:List MA)
 |sH (x:MA) (args:List MA)
 |app (sz bytes:Nat) (x y:MA)
 |oo (sz bytes:Nat) (x y:MA)
 |qN (n:Nat) (x v:MA)
 |cap (x:MA)
 |L5 (sz bytes:Nat) (x n:MA)
 |len (s:Bool) (x:MA)
 |Ab (s:Bool) (x:MA)
 |ET (mx:Bool) (x y:MA)
 |beq (ne:Bool) (x y:MA)
 |tj (sl ne:Bool) (x:MA)
 |sq (ne:Bool) (n:Nat) (x y:MA)
 |EU (ne:Bool) (x:MA)
 |stop
structure MI where
 dst:MD
 op:MO
 guard:Option (MA×Bool)
inductive MC where
 |skip
 |Ww (os:List MI)
 |seq (a b:MC)
 |cond (c:MA) (a b:MC)
 |Wx (id:Nat) (b:MC)
 |loop (b:MC)
 |exit (id:Nat)
 |ret
 |O0 (pre tail:List MI)
 |stop
abbrev En:=List (Nat×AV)
def dZ:En->Nat->AV
 |[],_=>.any
 |(k,v)::e,t=>if k=t then v else dZ e t
def qO:En->Nat->AV->En
 |[],t,v=>[(t,v)]
 |(k,u)::e,t,v=>if k=t then(t,v)::e else(k,u)::qO e t v
def lu:List Nat->Nat->Bool
 |[],_=>false
 |x::xs,k=>if x=k then true else lu xs k
def jS (lv:List Nat):En->En
 |[]=>[]
 |(k,v)::e=>if lu lv k=true then(k,v)::jS lv e else jS lv e
structure St where
 L:En
 T:En
 H:List AO
def St.get (st:St):MA->AV
 | .t n=>dZ st.T n
 | .l n=>dZ st.L n
 | .c v=>v
def St.put (st:St):MD->AV->St
 | .no,_=>st
 | .t d,v=>⟨st.L,(d,v)::st.T,st.H⟩
 | .l d,v=>⟨qO st.L d v,st.T,st.H⟩
abbrev ja:=Nat->List AV->List AO->(AV->List AO->Prop)->Prop
def AV.cells:AV->List AV
 | .st cs=>cs
 |v=>[v]
def vG (op:BinOp) (a b:Int):Option Bool:=
 match op with
 | .eql=>some (decide (a=b))
 | .neq=>some (!decide (a=b))
 | .lss=>some (decide (a<b))
 | .leq=>some (decide (a<=b))
 | .gtr=>some (decide (b<a))
 | .geq=>some (decide (b<=a))
 |_=>none
def wr (k:IntKind) (n:Int):Int:=k.wrap n
def rB (op:BinOp) (k:IntKind) (x y:Int):Int:=
 let a:=BitVec.ofInt k.bits x;let b:=BitVec.ofInt k.bits y
 match op with
 | .and=>k.wrap (a&&&b).toNat
 | .or=>k.wrap (a|||b).toNat
 | .xor=>k.wrap (a^^^b).toNat
 |_=>k.wrap (a&&&~~~b).toNat
def fJ (op:BinOp) (k:IntKind) (a b:Int):Option PV:=
 match op with
 | .add=>some (.i k (wr k (a+b)))
 | .sub=>some (.i k (wr k (a-b)))
 | .mul=>some (.i k (wr k (a*b)))
 | .and=>some (.i k (rB .and k a b))
 | .or=>some (.i k (rB .or k a b))
 | .xor=>some (.i k (rB .xor k a b))
 | .andNot=>some (.i k (rB .andNot k a b))
 | .shl=>none
 | .shr=>none
 | .quo=>none
 | .rem=>none
 |op=>(vG op a b).map .b
def slt:List UInt8->List UInt8->Bool:=Op.bytesLess
def vH (op:BinOp) (a b:List UInt8):Option PV:=
 match op with
 | .eql=>some (.b (decide (a=b)))
 | .neq=>some (.b (!decide (a=b)))
 | .lss=>some (.b (slt a b))
 | .leq=>some (.b (slt a b||decide (a=b)))
 | .gtr=>some (.b (!(slt a b||decide (a=b))))
 | .geq=>some (.b (!slt a b))
 |_=>none
def jn (op:BinOp):AV->AV->Option AV
 | .p (.i k a),.p (.i k' b)=>if k=k' then(fJ op k a b).map .p else none
 | .p (.s a),.p (.s b)=>(vH op a b).map .p
 |_,_=>none
def DK (ne:Bool):AV->AV->Option AV
 | .p (.b a),.p (.b b)=>some (.p (.b (if ne then !(a==b)else(a==b))))
 |_,_=>none
def DL (ne:Bool):AV->Option AV
 | .p .ni=>some (.p (.b (!ne)))
 | .p .er=>some (.p (.b ne))
 |_=>none
def yI:List AV->List AV->Option Bool
 |[],[]=>some true
 | .p (.i k a)::xs,.p (.i k' b)::ys=>if k=k' then(yI xs ys).map (decide (a=b)&& ·)else none
 |_,_=>none
def O1 (ne:Bool) (n:Nat):AV->AV->Option AV
 | .st xs,.st ys=>if xs.length=n then(yI xs ys).map fun b=>.p (.b (if ne then !b else b))else none
 |_,_=>none
def Na (op:UnOp):AV->Option AV
 | .p (.b a)=>match op with| .not=>some (.p (.b (!a)))|_=>none
 | .p (.i k a)=>match op with| .neg=>some (.p (.i k (wr k (0-a))))|_=>none
 |_=>none
def bK (v:Option AV) (d:MD) (K:St->Prop) (st:St):Prop :=
 match v with
 |some v=>K (st.put d v)
 |none=>False
def vZ (op:BinOp) (x y:AV) (d:MD) (K:St->Prop) (st:St):Prop :=
 match op,x,y with
 | .add,.p (.s a),.p (.s b)=>a.length+b.length<=fb/\K (st.put d (.p (.s (a++b))))
 | .quo,.p (.i k a),.p (.i k' b)=>k=k'/\b≠0/\K (st.put d (.p (.i k (wr k (a.tdiv b)))))
 | .rem,.p (.i k a),.p (.i k' b)=>k=k'/\b≠0/\K (st.put d (.p (.i k (a.tmod b))))
 | .shl,.p (.i k a),.p (.i _ b)=>0<=b/\K (st.put d (.p (.i k (wr k (a*2^min b.toNat k.bits)))))
 | .shr,.p (.i k a),.p (.i _ b)=>0<=b/\K (st.put d (.p (.i k (a.fdiv (2^min b.toNat k.bits)))))
 |_,_,_=>False
def de (op:BinOp) (x y:AV) (d:MD) (K:St->Prop) (st:St):Prop :=
 match jn op x y with
 |some v=>K (st.put d v)
 |none=>vZ op x y d K st
def vI (s:Bool) (x:AV) (d:MD) (K:St->Prop) (st:St):Prop :=
 match s,x with
 |false,.p (.l xs)=>xs.length<=fb->K (st.put d (.p (.i .i64 xs.length)))
 |false,.p .nl=>K (st.put d (.p (.i .i64 0)))
 |true,.p (.s x)=>x.length<=fb->K (st.put d (.p (.i .i64 x.length)))
 |false,.gs _ _ _ n=>n<=fb->K (st.put d (.p (.i .i64 n)))
 |_,_=>False
def tl (s:Bool) (x:AV):Option AV:=
 match s,x with
 |false,.p (.l xs)=>some (.p (.i .i64 xs.length))
 |false,.p .nl=>some (.p (.i .i64 0))
 |true,.p (.s x)=>some (.p (.i .i64 x.length))
 |false,.gs _ _ _ n=>some (.p (.i .i64 n))
 |_,_=>none
def GD:AV->Option AV
 | .p .nl=>some (.p (.i .i64 0))
 |_=>none
def ly (H:List AO) (x:AV):Option (List AV):=
  match x with
  | .ptr id off=>match H[id]?with
    |some (.var cs)=>some (cs.drop off)
    |_ =>none
  | .ep id ver row fL=>match H[id]?with
    |some (.rows _ cA rs)=>if ver=cA then(rs[row]?).map (·.drop fL)else none
    |_ =>none
  | .ip row=>some (row.map .p)
  |_ =>none
def takeN:Nat->List AV->Option (List AV)
 |0,_=>some []
 |_+1,[]=>none
 |n+1,c::cs=>(takeN n cs).map (c:: ·)
def vw (agg:Bool) (n:Nat) (cs:Option (List AV)):Option AV:=
 match cs with
 |none=>none
 |some cs=>if agg then(takeN n cs).map .st else cs.head?
def dU (cs:List AV) (off:Nat) (us:List AV):Option (List AV):=
 match off,cs,us with
 |_,cs,[]=>some cs
 |0,_ ::cs,u::us=>(dU cs 0 us).map (u:: ·)
 |off+1,c::cs,us=>(dU cs off us).map (c:: ·)
 |_,[],_ ::_=>none
def AV.eZ:AV->Bool
 | .st _=>true
 |v=>v.one
def nu (H:List AO) (n:Nat) (x v:AV):Option (List AO):=
  if v.eZ&&v.cells.length==n then
    match x with
    | .ptr id off=>match H[id]?with
      |some (.var cs)=>(dU cs off v.cells).map fun gG=>H.set id (.var gG)
      |_ =>none
    | .ep id ver row fL=>match H[id]?with
      |some (.rows sz cA rs)=>if ver=cA then
          match rs[row]?with
          |some r=>(dU r fL v.cells).map fun r'=>H.set id (.rows sz cA (rs.set row r'))
          |none =>none
       else none
      |_ =>none
    |_ =>none
  else none
def tm (h:Option (List AO)) (d:MD) (K:St->Prop) (st:St):Prop :=
 match h with
 |some H=>K (St.put ⟨st.L,st.T,H⟩ d .any)
 |none=>False
def Bk (off:Nat):AV->Option AV
 | .ptr id o=>some (.ptr id (o+off))
 | .ep id ver row fL=>some (.ep id ver row (fL+off))
 | .ip row=>some (.ip (row.drop off))
 |_=>none
def v7:AV->Option AV
 | .ptr id o=>some (.ptr id o)
 | .ep id ver row fL=>some (.ep id ver row fL)
 | .fI f c=>some (.fI f c)
 |_=>none
def GF (n:Nat):AV->Option AV
 | .dX vs=>vs[n]?
 |_=>none
def xp (sz:Nat) (x i:AV) (d:MD) (K:St→Prop) (st:St):Prop :=
  match i with
  | .p (.i _ n)=>
    match x with
    | .p (.l xs)=>0≤n∧∃r,xs[n.toNat]?=some r∧r.length=sz∧K (st.put d (.ip r))
    | .gs id ver off m=>0≤n∧n<(m:Int)∧(match st.H[id]?with
        |some (.rows cP cA rs)=>cP=sz∧cA=ver∧K (st.put d (.ep id ver (off+n.toNat) 0))
        |_ =>False)
    |_ =>False
  |_ =>False
def Bl (len sz:Nat) (x i:AV) (d:MD) (K:St→Prop) (st:St):Prop :=
  match i with
  | .p (.i _ n)=>
    match x with
    | .ptr id o=>0≤n∧n<(len:Int)∧K (st.put d (.ptr id (o+n.toNat*sz)))
    |_ =>False
  |_ =>False
def Bm (x i:AV) (d:MD) (K:St→Prop) (st:St):Prop :=
  match i with
  | .p (.i _ n)=>
    match x with
    | .p (.s x)=>0≤n∧∃c,x[n.toNat]?=some c∧K (st.put d (.p (.i .u8 c.toNat)))
    |_ =>False
  |_ =>False
def mo (lo hi:Option AV) (n:Nat) (K:Nat->Nat->Prop):Prop :=
 match lo,hi with
 |none,none=>K 0 n
 |some (.p (.i _ a)),none=>0<=a/\a<=(n:Int)/\K a.toNat n
 |none,some (.p (.i _ b))=>0<=b/\b<=(n:Int)/\K 0 b.toNat
 |some (.p (.i _ a)),some (.p (.i _ b))=>0<=a/\a<=b/\b<=(n:Int)/\K a.toNat b.toNat
 |_,_=>False
def DM (sz id ver off n:Nat) (lo hi:Option AV) (d:MD) (K:St->Prop) (st:St):Option AO->Prop
 |some (.rows cP cA _)=>cP=sz/\cA=ver/\mo lo hi n fun a b=>K (st.put d (.gs id ver (off+a) (b-a)))
 |_=>False
def mq (k:Option Nat) (x:AV) (lo hi:Option AV) (d:MD) (K:St->Prop) (st:St):Prop :=
 match k,x with
 |some sz,.p (.l xs)=>(∀r∈xs,r.length=sz)/\mo lo hi xs.length fun a b=>K (st.put d (.p (.l ((xs.drop a).take (b-a)))))
 |none,.p (.s x)=>mo lo hi x.length fun a b=>K (st.put d (.p (.s ((x.drop a).take (b-a)))))
 |some _,.p .nl=>mo lo hi 0 fun _ _=>K (st.put d (.p .nl))
 |some sz,.gs id ver off n=>DM sz id ver off n lo hi d K st st.H[id]?
 |_,_=>False
def mY (st:St):List (Nat×Nat×MA)→List AV→Option (List AV)
  |[],z=>some z
  |(off,n,x)::ps,z=>
   let v:=st.get x
   if v.eZ&&v.cells.length==n then(dU z off v.cells).bind (mY st ps)else none
def uM (st:St) (z:List AV) (ps:List (Nat×Nat×MA)):Option AV:=(mY st ps z).map .st
def kL (st:St) (sz:Nat):List (Nat×MA)→List (List AV)→Option (List (List AV))
  |[],rs=>some rs
  |(i,x)::ps,rs=>
   let v:=st.get x
   if v.eZ&&v.cells.length==sz&&decide (i<rs.length)then kL st sz ps (rs.set i v.cells)else none
def vJ (o:Option AO) (mk:Nat->AV) (d:MD) (K:St->Prop) (st:St):Prop :=
 match o with
 |some o=>K (St.put ⟨st.L,st.T,st.H++[o]⟩ d (mk st.H.length))
 |none=>False
def GG (sz bytes:Nat) (z:List AV) (l c:AV) (d:MD) (K:St->Prop) (st:St):Prop :=
 match l,c with
 | .p (.i .i64 l),.p (.i .i64 c)=>0<=l/\l<=c/\c*bytes<=140737488355328/\c<=140737488355328/\
   K (St.put ⟨st.L,st.T,st.H++[.rows sz 0 (List.replicate l.toNat z)]⟩ d (.gs st.H.length 0 0 l.toNat))
 |_,_=>False
def Bn (sz bytes:Nat) (x n:AV) (d:MD) (K:St->Prop) (st:St):Prop :=
 match x,n with
 | .p .nl,.p (.i .i64 k)=>0<k/\k*bytes<=140737488355328/\k<=140737488355328/\K (St.put ⟨st.L,st.T,st.H++[.rows sz 0 []]⟩ d (.gs st.H.length 0 0 k.toNat))
 |_,_=>False
def oq (sz ver off n:Nat):Option AO->Option (List (List AV))
 |some (.rows cP cA rs)=>if cP=sz/\cA=ver/\off+n<=rs.length then some ((rs.drop off).take n)else none
 |_=>none
def jb:List UInt8->List (List AV)
 |[]=>[]
 |c::x=>[.p (.i .u8 c.toNat)]::jb x
def dt (H:List AO) (sz:Nat):AV->Option (List (List AV))
 | .p (.l ys)=>some (ys.map (·.map .p))
 | .p .nl=>some []
 | .p (.s x)=>if sz=1 then some (jb x)else none
 | .gs id ver off n=>oq sz ver off n H[id]?
 |_=>none
def Ac (sz bytes id ver off n:Nat) (ys:List (List AV)) (d:MD) (K:St->Prop) (st:St):Option AO->Prop
 |some (.rows cP cA rs)=>cP=sz/\cA=ver/\off=0/\n<=rs.length/\(n+ys.length)*bytes<=140737488355328/\n+ys.length<=140737488355328/\
  K (St.put ⟨st.L,st.T,st.H.set id (.rows sz (ver+1) (rs.take n++ys))⟩ d (.gs id (ver+1) 0 (n+ys.length)))
 |_=>False
def mu (sz bytes:Nat) (x:AV) (ys:List (List AV)) (d:MD) (K:St->Prop) (st:St):Prop :=
 match x with
 | .p .nl=>ys.length*bytes<=140737488355328/\ys.length<=140737488355328/\K (St.put ⟨st.L,st.T,st.H++[.rows sz 0 ys]⟩ d (.gs st.H.length 0 0 ys.length))
 | .gs id ver off n=>Ac sz bytes id ver off n ys d K st st.H[id]?
 |_=>False
def Ad (sz bytes:Nat) (x:AV) (ys:Option (List (List AV))) (d:MD) (K:St->Prop) (st:St):Prop :=
 match ys with
 |some ys=>(∀r∈ys,r.length=sz)/\mu sz bytes x ys d K st
 |none=>False
def DN (sz bytes:Nat) (x y:AV) (d:MD) (K:St->Prop) (st:St):Prop:=Ad sz bytes x (dt st.H sz y) d K st
def bytesOf:List (List AV)->Option (List UInt8)
 |[]=>some []
 |[.p (.i .u8 n)]::xs=>(bytesOf xs).map (UInt8.ofNat n.toNat:: ·)
 |_ ::_=>none
def ot:Option (List (List AV))->Option AV
 |some ys=>if ys.length<=140737488355328 then(bytesOf ys).map fun l=>.p (.s l)else none
 |none=>none
def pY (H:List AO):AV->Option AV
 | .p (.l ys)=>ot (dt H 1 (.p (.l ys)))
 | .p .nl=>ot (some [])
 | .gs id ver off n=>ot (dt H 1 (.gs id ver off n))
 |_=>none
def Bo:AV->AV->AV->Option AV
 | .p (.b c),x,y=>some (if c then x else y)
 |_,_,_=>none
def Ae (mx:Bool):AV->AV->Option AV
 | .p (.i k a),.p (.i k' b)=>if k=k' then some (.p (.i k (if mx then(if b>a then b else a)else(if b<a then b else a))))else none
 |_,_=>none
def yJ (ne:Bool) (ver:Nat) (d:MD) (K:St->Prop) (st:St):Option AO->Prop
 |some (.rows _ cA rs)=>cA=ver/\0<rs.length/\K (st.put d (.p (.b ne)))
 |_=>False
def jT (sl ne:Bool) (x:AV) (d:MD) (K:St->Prop) (st:St):Prop :=
 match sl,x with
 |true,.p .nl=>K (st.put d (.p (.b (!ne))))
 |true,.p (.l xs)=>xs≠[]/\K (st.put d (.p (.b ne)))
 |true,.gs id ver _ _=>yJ ne ver d K st st.H[id]?
 |false,.p .np=>K (st.put d (.p (.b (!ne))))
 |false,.ptr _ _=>K (st.put d (.p (.b ne)))
 |false,.ep _ _ _ _=>K (st.put d (.p (.b ne)))
 |false,.ip _=>K (st.put d (.p (.b ne)))
 |_,_=>False
def Bp (k:IntKind):AV->Option AV
 | .p (.i _ a)=>some (.p (.i k (wr k a)))
 |_=>none
def tq (θ:Th) (W:Im) (args:List AV) (vs:Array Value):Prop :=
 vs.size=args.length/\∀(j:Nat) (a:AV) (v:Value),args[j]?=some a->vs[j]?=some v->bc θ W a v
def Bq (P:Program) (f:Nat):Prop:=∃fn,P.funcs[f]?=some fn/\fn.body.isSome=true/\(fn.name== "runtime.NumGoroutine")=false
def aA (P:Program) (f:Nat) (args:List AV) (H:List AO) (Q:AV->List AO->Prop):Prop :=
 Bq P f/\∀(w:World) (θ:Th) (W:Im) (vs:Array Value),SR θ W H w->tq θ W args vs->
  Calls P f vs w fun e w'=>∃v r H' bd W',e=.returned v/\Q r H'/\SR bd W' H' w'/\bc bd W' r v/\eU θ W w bd W' w'
def rC (d:MD) (K:St->Prop) (st:St) (r:AV) (H:List AO):Prop:=K (St.put ⟨st.L,st.T,H⟩ d r)
def yK (C:ja) (x:AV) (args:List AV) (d:MD) (K:St->Prop) (st:St):Prop :=
 match x with
 | .fI f eO=>C f (args++eO) st.H (rC d K st)
 |_=>False
def fw (st:St):List MA->List AV
 |[]=>[]
 |x::xs=>st.get x::fw st xs
def bo (C:ja) (o:MO) (d:MD) (K:St->Prop) (st:St):Prop :=
 match o with
 | .mv x=>K (st.put d (st.get x))
 | .pick c x y=>bK (Bo (st.get c) (st.get x) (st.get y)) d K st
 | .alloc z=>vJ (some (.var z)) (fun id=>.ptr id 0) d K st
 | .box n x=>vJ (if(st.get x).eZ&&(st.get x).cells.length==n then some (.var (st.get x).cells)else none) (fun id=>.ptr id 0) d K st
 | .build z ps=>bK (uM st z ps) d K st
 | .C9 sz z n ps=>vJ ((kL st sz ps (List.replicate n z)).map fun rs=>.rows sz 0 rs) (fun id=>.gs id 0 0 n) d K st
 | .ld agg n x=>bK (vw agg n (ly st.H (st.get x))) d K st
 | .pQ n x v=>tm (nu st.H n (st.get x) (st.get v)) d K st
 | .Aa x=>bK (v7 (st.get x)) d K st
 | .bin op x y=>de op (st.get x) (st.get y) d K st
 | .un op x=>bK (Na op (st.get x)) d K st
 | .conv k x=>bK (Bp k (st.get x)) d K st
 | .sN x=>bK (pY st.H (st.get x)) d K st
 | .qM x=>bK (pY st.H (st.get x)) d K st
 | .GA f eO=>bK (some (.fI f (fw st eO))) d K st
 | .Da sz bytes z l c=>GG sz bytes z (st.get l) (st.get c) d K st
 | .tg k x lo hi=>mq k (st.get x) (lo.map st.get) (hi.map st.get) d K st
 | .GB off x=>bK (Bk off (st.get x)) d K st
 | .GC agg off n x=>bK (match st.get x with| .st cs=>vw agg n (some (cs.drop off))|_=>none) d K st
 | .Bg sz x i=>xp sz (st.get x) (st.get i) d K st
 | .Bi len sz x i=>Bl len sz (st.get x) (st.get i) d K st
 | .Bj x i=>Bm (st.get x) (st.get i) d K st
 | .ext x n=>bK (GF n (st.get x)) d K st
 | .call f args=>C f (fw st args) st.H (rC d K st)
 | .sH x args=>yK C (st.get x) (fw st args) d K st
 | .app sz bytes x y=>DN sz bytes (st.get x) (st.get y) d K st
 | .oo sz bytes x y=>DN sz bytes (st.get x) (st.get y) d K st
 | .qN n x v=>tm (nu st.H n (st.get x) (st.get v)) d K st
 | .len s x=>vI s (st.get x) d K st
 | .Ab s x=>bK (tl s (st.get x)) d K st
 | .cap x=>bK (GD (st.get x)) d K st
 | .L5 sz bytes x n=>Bn sz bytes (st.get x) (st.get n) d K st
 | .ET mx x y=>bK (Ae mx (st.get x) (st.get y)) d K st
 | .beq ne x y=>bK (DK ne (st.get x) (st.get y)) d K st
 | .tj sl ne x=>jT sl ne (st.get x) d K st
 | .EU ne x=>bK (DL ne (st.get x)) d K st
 | .sq ne n x y=>bK (O1 ne n (st.get x) (st.get y)) d K st
 | .stop=>False
def EV (c:Prop) (A B:St->Prop) (st:St):Prop:=(c->A st)/\(¬c->B st)
def la (v:AV) (A B:St->Prop) (st:St):Prop :=
 match v with
 | .p (.b t)=>EV (t=true) A B st
 |_=>False
def yL (d:MD) (K:St->Prop) (st:St):Prop:=K (st.put d (.dX []))
def mZ (v:AV) (want:Bool) (A B:St->Prop) (st:St):Prop :=
 match v,want with
 | .dX [],_=>B st
 |v,true=>la v A B st
 |v,false=>la v B A st
def Br (C:ja) (o:MI) (K:St->Prop) (st:St):Prop :=
 match o.guard with
 |none=>bo C o.op o.dst K st
 |some (t,want)=>mZ (st.get t) want (bo C o.op o.dst K) (yL o.dst K) st
def k9 (C:ja):List MI->(St->Prop)->St->Prop
 |[],K,st=>K st
 |o::os,K,st=>Br C o (k9 C os K) st
def bP (H H':List AO):Prop:=∀(id:Nat) (o:AO),H[id]?=some o->o≠.dead->H'[id]?=some o
abbrev PK:=List AO->St->Prop
def nv (Hc N:List AO) (K:PK) (st:St):Prop:=K Hc ⟨st.L,st.T,N⟩
def aW (r:AV) (H:List AO) (r':AV) (H':List AO):Prop:=r'=r/\H'=H
def Bs:AV->Option Nat
 | .gs id _ _ _=>some id
 | .ptr id _=>some id
 |_=>none
def O2 (args:List AV) (N A:List AO) (b:Nat):Prop:=∀x∈args,∀id ob,Bs x=some id->b<=id->N[id-b]?=some ob->A[id-b]?=some ob
def oy (C:ja) (Hm Hc N:List AO) (f:Nat) (args:List AV) (d:MD) (K:PK) (st:St):Prop :=
 (∃r xq,xq.length=Hc.length/\bP Hm xq/\(∀A,O2 args N A Hc.length->C f args (Hc++A) (aW r (xq++A)))/\K xq (st.put d r))\/
 (∃(ob:AO) (mk:Nat->AV),(∀(H:List AO) (j:Nat),bP Hm H->H[j]?=some .iP->C f args H (aW (mk j) (H.set j ob)))/\K Hc (St.put ⟨st.L,st.T,st.H++[ob]⟩ d (mk (Hc.length+st.H.length))))
def DO (Hm Hc N:List AO) (K:PK) (st:St):Prop:=st.H.length=Hc.length/\bP Hm st.H/\K st.H ⟨st.L,st.T,N⟩
def AL (Hc:List AO) (o:Option AO) (mk:Nat->AV) (d:MD) (K:PK) (st:St):Prop :=
 match o with
 |some o=>K Hc (St.put ⟨st.L,st.T,st.H++[o]⟩ d (mk (Hc.length+st.H.length)))
 |none=>False
inductive Kd where
 |quiet|call|new|eff|apn|rdn|bad
def kindOf:MO->Kd
 | .mv _| .pick .. | .build .. | .ld .. | .Aa _| .bin .. | .un .. | .conv .. | .sN _| .GA .. | .tg .. | .GB .. | .GC .. | .Bg .. | .Bi .. | .Bj .. | .ext .. | .cap _| .Ab .. | .ET .. | .beq .. | .tj .. | .sq .. | .EU ..=>.quiet
 | .call .. | .sH ..=>.call
 | .alloc _| .box .. | .C9 .. | .Da ..=>.new
 | .app .. | .pQ ..=>.eff
 | .oo .. | .qN ..=>.apn
 | .qM _=>.rdn
 |_=>.bad
def DP (C:ja) (Hm Hc:List AO) (o:MO) (d:MD) (K:PK) (st:St):Prop :=
  match o with
  | .call f args =>oy C Hm Hc st.H f (fw st args) d K st
  | .sH x args =>match st.get x with
    | .fI f eO=>oy C Hm Hc [] f (fw st args ++eO) d K st
    |_ =>False
  |_ =>False
def GH (Hc:List AO) (sz bytes:Nat) (z:List AV) (l c:AV) (d:MD) (K:PK) (st:St):Prop :=
 match l,c with
 | .p (.i .i64 l),.p (.i .i64 c)=>0<=l/\l<=c/\c*bytes<=140737488355328/\c<=140737488355328/\AL Hc (some (.rows sz 0 (List.replicate l.toNat z))) (fun id=>.gs id 0 0 l.toNat) d K st
 |_,_=>False
def ZO (Hc:List AO) (o:MO) (d:MD) (K:PK) (st:St):Prop :=
 match o with
 | .alloc z=>AL Hc (some (.var z)) (fun id=>.ptr id 0) d K st
 | .box n x=>AL Hc (if(st.get x).eZ&&(st.get x).cells.length==n then some (.var (st.get x).cells)else none) (fun id=>.ptr id 0) d K st
 | .C9 sz z n ps=>AL Hc ((kL st sz ps (List.replicate n z)).map fun rs=>.rows sz 0 rs) (fun id=>.gs id 0 0 n) d K st
 | .Da sz bytes z l c=>GH Hc sz bytes z (st.get l) (st.get c) d K st
 |_=>False
def pZ (Hm Hc N:List AO) (sz:Nat) (y:AV):Option (List (List AV)):=
 match y with
 | .gs id v o n=>if Hc.length<=id then oq sz v o n N[id-Hc.length]?else oq sz v o n Hm[id]?
 |y=>dt [] sz y
def O3 (Hc:List AO) (sz bytes id k v n:Nat) (ys:List (List AV)) (d:MD) (K:PK) (st:St):Option AO->Prop
 |some (.rows cP v' rs)=>cP=sz/\v'=v/\n<=rs.length/\(n+ys.length)*bytes<=140737488355328/\n+ys.length<=140737488355328/\
  K Hc (St.put ⟨st.L,st.T,st.H.set k (.rows sz (v+1) (rs.take n++ys))⟩ d (.gs id (v+1) 0 (n+ys.length)))
 |_=>False
def O4 (Hm Hc:List AO) (sz bytes:Nat) (x:AV) (ys:List (List AV)) (d:MD) (K:PK) (st:St):Prop :=
 (∀r∈ys,r.length=sz)/\((x=.p .nl/\ys≠[]/\ys.length*bytes<=140737488355328/\ys.length<=140737488355328/\AL Hc (some (.rows sz 0 ys)) (fun id=>.gs id 0 0 ys.length) d K st)\/
  mu sz bytes x ys d (DO Hm Hc st.H K) ⟨st.L,st.T,Hc⟩\/∃id v n,x=.gs id v 0 n/\Hc.length<=id/\O3 Hc sz bytes id (id-Hc.length) v n ys d K st st.H[id-Hc.length]?)
def tu (Hm Hc:List AO) (sz bytes:Nat) (x:AV) (ys:Option (List (List AV))) (d:MD) (K:PK) (st:St):Prop :=
 match ys with
 |some ys=>O4 Hm Hc sz bytes x ys d K st
 |none=>False
def O5 (Hc:List AO) (k off:Nat) (us:Option (List AV)) (d:MD) (K:PK) (st:St):Option AO→Prop
  |some (.var cs)=>match us.bind (dU cs off)with
   |some gG=>K Hc (St.put ⟨st.L,st.T,st.H.set k (.var gG)⟩ d .any)
   |none =>False
  |_ =>False
def Bt (n:Nat) (v:AV):Option (List AV):=if v.eZ&&v.cells.length==n then some v.cells else none
def Bu (Hc:List AO) (n:Nat) (x v:AV) (d:MD) (K:PK) (st:St):Prop :=
 match x with
 | .ptr id off=>Hc.length<=id/\O5 Hc (id-Hc.length) off (Bt n v) d K st st.H[id-Hc.length]?
 |_=>False
def MA.v8:MA->Bool| .c _=>true|_=>false
def acr (Hm Hc:List AO) (o:MO) (d:MD) (K:PK) (st:St):Prop :=
 match o with
 | .oo sz bytes x y=>if x.v8||y.v8 then False else tu Hm Hc sz bytes (st.get x) (pZ Hm Hc st.H sz (st.get y)) d K st
 | .qN n x v=>if x.v8 then False else Bu Hc n (st.get x) (st.get v) d K st
 |_=>False
def Af (Hc:List AO) (v:AV) (d:MD) (K:PK) (st:St):Prop :=
 match v with
 | .gs id ver off n=>Hc.length<=id/\bK (ot (oq 1 ver off n st.H[id-Hc.length]?)) d (K Hc) st
 |_=>False
def ae1 (Hc:List AO) (o:MO) (d:MD) (K:PK) (st:St):Prop :=
 match o with
 | .qM x=>if x.v8 then False else Af Hc (st.get x) d K st
 |_=>False
def eA (C:ja) (Hm Hc:List AO) (o:MO) (d:MD) (K:PK) (st:St):Prop :=
 match kindOf o with
 | .quiet=>bo C o d (nv Hc st.H K) ⟨st.L,st.T,Hm⟩
 | .call=>DP C Hm Hc o d K st
 | .new=>ZO Hc o d K st
 | .eff=>bo C o d (DO Hm Hc st.H K) ⟨st.L,st.T,Hc⟩
 | .apn=>acr Hm Hc o d K st
 | .rdn=>ae1 Hc o d K st
 | .bad=>False
def GI (C:ja) (Hm Hc:List AO) (o:MI) (K:PK) (st:St):Prop :=
 match o.guard with
 |none=>eA C Hm Hc o.op o.dst K st
 |some (t,want)=>mZ (st.get t) want (eA C Hm Hc o.op o.dst K) (yL o.dst (K Hc)) st
def Bv (C:ja) (Hm:List AO):List MI->PK->PK
 |[],K,Hc,st=>K Hc st
 |o::os,K,Hc,st=>GI C Hm Hc o (Bv C Hm os K) st
def L6 (K:St->Prop) (Hc:List AO) (st:St):Prop:=K ⟨st.L,st.T,Hc++st.H⟩
def L7 (C:ja) (pre:List MI) (K:St->Prop) (st:St):Prop:=∃Hm,bP Hm st.H/\Bv C Hm pre (L6 K) st.H ⟨st.L,st.T,[]⟩
inductive Ex where
 |nm|ex (id:Nat)|rt
def yM (K:St->Prop) (Q:Ex->St->Prop):Ex->St->Prop
 | .nm,st=>K st
 |e,st=>Q e st
def GJ (id:Nat) (Q:Ex->St->Prop):Ex->St->Prop
 | .ex i,st=>if i=id then Q .nm st else Q (.ex i) st
 |e,st=>Q e st
def DQ (K:St->Prop) (st:St):Prop:=K ⟨st.L,[],st.H⟩
def O6 (B:(Ex->St->Prop)->St->Prop) (Q:Ex->St->Prop) (st:St):Prop :=
 ∃(α:Type) (lv:List Nat) (I:α->St->Prop) (μ:α->Nat),(∃x,I x ⟨jS lv st.L,[],st.H⟩)/\
  ∀x dG,I x dG->B (yM (fun ZP=>∃y,I y ⟨jS lv ZP.L,[],ZP.H⟩/\μ y<μ x) Q) dG
def lJ (C:ja):MC->(Ex->St->Prop)->St->Prop
 | .skip,Q,st=>Q .nm st
 | .Ww os,Q,st=>k9 C os (DQ (Q .nm)) st
 | .seq a b,Q,st=>lJ C a (yM (lJ C b Q) Q) st
 | .cond c a b,Q,st=>la (st.get c) (lJ C a Q) (lJ C b Q) st
 | .Wx id b,Q,st=>lJ C b (GJ id Q) st
 | .loop b,Q,st=>O6 (lJ C b) Q st
 | .exit id,Q,st=>Q (.ex id) st
 | .ret,Q,st=>Q .rt st
 | .O0 pre tail,Q,st=>L7 C pre (k9 C tail (DQ (Q .nm))) st
 | .stop,_,_=>False
inductive MR where
 |t (n:Nat)
 |cell (agg:Bool) (n:Nat) (a:Nat)
def vK (st:St):MR→Option AV
  | .t n=>some (dZ st.L n)
  | .cell agg n a=>match dZ st.L a with
    | .ptr id o=>vw agg n (ly st.H (.ptr id o))
    |_ =>none
def mC (st:St):List MR→Option (List AV)
  |[]=>some []
  |r::rs=>match vK st r,mC st rs with
   |some v,some vs=>some (v::vs)
   |_,_ =>none
def Ag (st:St):List MR->Option AV
 |[r]=>vK st r
 |rs=>(mC st rs).map .dX
def Bw (rs:List MR) (Q:AV->List AO->Prop) (st:St):Prop :=
 match Ag st rs with
 |some v=>Q v st.H
 |none=>False
def tz (rs:List MR) (Q:AV->List AO->Prop):Ex->St->Prop
 | .ex _,_=>False
 |_,st=>Bw rs Q st
def ky:Nat->List AV->En
 |_,[]=>[]
 |i,a::as=>(i,a)::ky (i+1) as
end Go.AM
