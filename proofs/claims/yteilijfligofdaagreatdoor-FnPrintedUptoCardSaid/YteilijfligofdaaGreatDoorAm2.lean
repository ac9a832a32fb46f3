/- The small code of the abstract machine, its evaluation on abstract states, and the pass that makes it of the model's code: definitions alone. -/
import Derived.Test.YteilijfligofdaaGreatDoorAm1
set_option linter.all false
namespace Go.AM
inductive MA where
 |t (n:Nat)
 |l (n:Nat)
 |c (v:AV)
inductive MD where
 |no
 |t (n:Nat)
 |l (n:Nat)
inductive MO where
 |mv (x:MA)
 |pick (c x y:MA)
 |alloc (z:List AV)
 |box (n:Nat) (x:MA)
 |build (z:List AV) (ps:List (Nat×Nat×MA))
 |Dz (sz:Nat) (z:List AV) (n:Nat) (ps:List (Nat×MA))
 |ld (agg:Bool) (n:Nat) (x:MA)
 |pT (n:Nat) (x v:MA)
 |Ay (x:MA)
 |bin (op:BinOp) (x y:MA)
 |un (op:UnOp) (x:MA)
 |conv (k:IntKind) (x:MA)
 |tg (x:MA)
 |qW (x:MA)
 |GQ (f:Nat) (eL:List MA)
 |DA (sz bytes:Nat) (z:List AV) (l c:MA)
 |tF (k:Option Nat) (x:MA) (lo hi:Option MA)
 |GR (off:Nat) (x:MA)
 |GS (agg:Bool) (off n:Nat) (x:MA)
 |Bu (sz:Nat) (x i:MA)
 |Bv (len sz:Nat) (x i:MA)
 |Bw (x i:MA)
 |ext (x:MA) (n:Nat)
 |call (f:Nat) (args:List MA)
 |sY (x:MA) (args:List MA)
 |app (sz bytes:Nat) (x y:MA)
 |oF (sz bytes:Nat) (x y:MA)
 |qX (n:Nat) (x v:MA)
 |cap (x:MA)
 |Mz (sz bytes:Nat) (x n:MA)
 |len (s:Bool) (x:MA)
 |Az (s:Bool) (x:MA)
 |Fk (mx:Bool) (x y:MA)
 |beq (ne:Bool) (x y:MA)
 |tG (sl ne:Bool) (x:MA)
 |sq (ne:Bool) (n:Nat) (x y:MA)
 |Fm (ne:Bool) (x:MA)
 |stop
structure MI where
 dst:MD
 op:MO
 guard:Option (MA×Bool)
inductive MC where
 |skip
 |WJ (os:List MI)
 |seq (a b:MC)
 |cond (c:MA) (a b:MC)
 |WK (id:Nat) (b:MC)
 |loop (b:MC)
 |exit (id:Nat)
 |ret
 |P5 (pre tail:List MI)
 |stop
abbrev En:=List (Nat×AV)
def dQ:En->Nat->AV
 |[],_=>.any
 |(k,v)::e,t=>if k=t then v else dQ e t
def v8:En->Nat->AV->En
 |[],t,v=>[(t,v)]
 |(k,u)::e,t,v=>if k=t then(t,v)::e else(k,u)::v8 e t v
def mB:List Nat->Nat->Bool
 |[],_=>false
 |x::xs,k=>if x=k then true else mB xs k
def lQ (lv:List Nat):En->En
 |[]=>[]
 |(k,v)::e=>if mB lv k=true then(k,v)::lQ lv e else lQ lv e
structure St where
 L:En
 T:En
 H:List AO
def St.get (st:St):MA->AV
 | .t n=>dQ st.T n
 | .l n=>dQ st.L n
 | .c v=>v
def St.put (st:St):MD->AV->St
 | .no,_=>st
 | .t d,v=>⟨st.L,(d,v)::st.T,st.H⟩
 | .l d,v=>⟨v8 st.L d v,st.T,st.H⟩
abbrev iZ:=Nat->List AV->List AO->(AV->List AO->Prop)->Prop
def AV.cells:AV->List AV
 | .st cs=>cs
 |v=>[v]
def wa (op:BinOp) (a b:Int):Option Bool:=
 match op with
 | .eql=>some (decide (a=b))
 | .neq=>some (!decide (a=b))
 | .lss=>some (decide (a<b))
 | .leq=>some (decide (a<=b))
 | .gtr=>some (decide (b<a))
 | .geq=>some (decide (b<=a))
 |_=>none
def wr (k:IntKind) (n:Int):Int:=k.wrap n
def jD (op:BinOp) (k:IntKind) (x y:Int):Int:=
 let a:=BitVec.ofInt k.bits x;let b:=BitVec.ofInt k.bits y
 match op with
 | .and=>k.wrap (a&&&b).toNat
 | .or=>k.wrap (a|||b).toNat
 | .xor=>k.wrap (a^^^b).toNat
 |_=>k.wrap (a&&&~~~b).toNat
def fM (op:BinOp) (k:IntKind) (a b:Int):Option PV:=
 match op with
 | .add=>some (.i k (wr k (a+b)))
 | .sub=>some (.i k (wr k (a-b)))
 | .mul=>some (.i k (wr k (a*b)))
 | .and=>some (.i k (jD .and k a b))
 | .or=>some (.i k (jD .or k a b))
 | .xor=>some (.i k (jD .xor k a b))
 | .andNot=>some (.i k (jD .andNot k a b))
 | .shl=>none
 | .shr=>none
 | .quo=>none
 | .rem=>none
 |op=>(wa op a b).map .b
def slt:List UInt8->List UInt8->Bool:=Op.bytesLess
def wb (op:BinOp) (a b:List UInt8):Option PV:=
 match op with
 | .eql=>some (.b (decide (a=b)))
 | .neq=>some (.b (!decide (a=b)))
 | .lss=>some (.b (slt a b))
 | .leq=>some (.b (slt a b||decide (a=b)))
 | .gtr=>some (.b (!(slt a b||decide (a=b))))
 | .geq=>some (.b (!slt a b))
 |_=>none
def jo (op:BinOp):AV->AV->Option AV
 | .p (.i k a),.p (.i k' b)=>if k=k' then(fM op k a b).map .p else none
 | .p (.s a),.p (.s b)=>(wb op a b).map .p
 |_,_=>none
def D5 (ne:Bool):AV->AV->Option AV
 | .p (.b a),.p (.b b)=>some (.p (.b (if ne then !(a==b)else(a==b))))
 |_,_=>none
def D6 (ne:Bool):AV->Option AV
 | .p .ni=>some (.p (.b (!ne)))
 | .p .er=>some (.p (.b ne))
 |_=>none
def ze:List AV->List AV->Option Bool
 |[],[]=>some true
 | .p (.i k a)::xs,.p (.i k' b)::ys=>if k=k' then(ze xs ys).map (decide (a=b)&& ·)else none
 |_,_=>none
def P6 (ne:Bool) (n:Nat):AV->AV->Option AV
 | .st xs,.st ys=>if xs.length=n then(ze xs ys).map fun b=>.p (.b (if ne then !b else b))else none
 |_,_=>none
def N8 (op:UnOp):AV->Option AV
 | .p (.b a)=>match op with| .not=>some (.p (.b (!a)))|_=>none
 | .p (.i k a)=>match op with| .neg=>some (.p (.i k (wr k (0-a))))|_=>none
 |_=>none
def bC (v:Option AV) (d:MD) (K:St->Prop) (st:St):Prop :=
 match v with
 |some v=>K (st.put d v)
 |none=>False
def wD (op:BinOp) (x y:AV) (d:MD) (K:St->Prop) (st:St):Prop :=
 match op,x,y with
 | .add,.p (.s a),.p (.s b)=>a.length+b.length<=ia/\K (st.put d (.p (.s (a++b))))
 | .quo,.p (.i k a),.p (.i k' b)=>k=k'/\b≠0/\K (st.put d (.p (.i k (wr k (a.tdiv b)))))
 | .rem,.p (.i k a),.p (.i k' b)=>k=k'/\b≠0/\K (st.put d (.p (.i k (a.tmod b))))
 | .shl,.p (.i k a),.p (.i _ b)=>0<=b/\K (st.put d (.p (.i k (wr k (a*2^min b.toNat k.bits)))))
 | .shr,.p (.i k a),.p (.i _ b)=>0<=b/\K (st.put d (.p (.i k (a.fdiv (2^min b.toNat k.bits)))))
 |_,_,_=>False
def cZ (op:BinOp) (x y:AV) (d:MD) (K:St->Prop) (st:St):Prop :=
 match jo op x y with
 |some v=>K (st.put d v)
 |none=>wD op x y d K st
def wc (s:Bool) (x:AV) (d:MD) (K:St->Prop) (st:St):Prop :=
 match s,x with
 |false,.p (.l xs)=>xs.length<=ia->K (st.put d (.p (.i .i64 xs.length)))
 |false,.p .nl=>K (st.put d (.p (.i .i64 0)))
 |true,.p (.s x)=>x.length<=ia->K (st.put d (.p (.i .i64 x.length)))
 |false,.gs _ _ _ n=>n<=ia->K (st.put d (.p (.i .i64 n)))
 |_,_=>False
def tH (s:Bool) (x:AV):Option AV:=
 match s,x with
 |false,.p (.l xs)=>some (.p (.i .i64 xs.length))
 |false,.p .nl=>some (.p (.i .i64 0))
 |true,.p (.s x)=>some (.p (.i .i64 x.length))
 |false,.gs _ _ _ n=>some (.p (.i .i64 n))
 |_,_=>none
def GU:AV->Option AV
 | .p .nl=>some (.p (.i .i64 0))
 |_=>none
def ly (H:List AO) (x:AV):Option (List AV):=
  match x with
  | .ptr id off=>match H[id]?with
    |some (.var cs)=>some (cs.drop off)
    |_ =>none
  | .ep id ver row gl=>match H[id]?with
    |some (.rows _ cI rs)=>if ver=cI then(rs[row]?).map (·.drop gl)else none
    |_ =>none
  | .ip row=>some (row.map .p)
  |_ =>none
def takeN:Nat->List AV->Option (List AV)
 |0,_=>some []
 |_+1,[]=>none
 |n+1,c::cs=>(takeN n cs).map (c:: ·)
def vO (agg:Bool) (n:Nat) (cs:Option (List AV)):Option AV:=
 match cs with
 |none=>none
 |some cs=>if agg then(takeN n cs).map .st else cs.head?
def eG (cs:List AV) (off:Nat) (us:List AV):Option (List AV):=
 match off,cs,us with
 |_,cs,[]=>some cs
 |0,_ ::cs,u::us=>(eG cs 0 us).map (u:: ·)
 |off+1,c::cs,us=>(eG cs off us).map (c:: ·)
 |_,[],_ ::_=>none
def AV.e8:AV->Bool
 | .st _=>true
 |v=>v.one
def nG (H:List AO) (n:Nat) (x v:AV):Option (List AO):=
  if v.e8&&v.cells.length==n then
    match x with
    | .ptr id off=>match H[id]?with
      |some (.var cs)=>(eG cs off v.cells).map fun fP=>H.set id (.var fP)
      |_ =>none
    | .ep id ver row gl=>match H[id]?with
      |some (.rows sz cI rs)=>if ver=cI then
          match rs[row]?with
          |some r=>(eG r gl v.cells).map fun r'=>H.set id (.rows sz cI (rs.set row r'))
          |none =>none
       else none
      |_ =>none
    |_ =>none
  else none
def tI (h:Option (List AO)) (d:MD) (K:St->Prop) (st:St):Prop :=
 match h with
 |some H=>K (St.put ⟨st.L,st.T,H⟩ d .any)
 |none=>False
def Bx (off:Nat):AV->Option AV
 | .ptr id o=>some (.ptr id (o+off))
 | .ep id ver row gl=>some (.ep id ver row (gl+off))
 | .ip row=>some (.ip (row.drop off))
 |_=>none
def wE:AV->Option AV
 | .ptr id o=>some (.ptr id o)
 | .ep id ver row gl=>some (.ep id ver row gl)
 | .eB f c=>some (.eB f c)
 |_=>none
def GV (n:Nat):AV->Option AV
 | .dK vs=>vs[n]?
 |_=>none
def xH (sz:Nat) (x i:AV) (d:MD) (K:St→Prop) (st:St):Prop :=
  match i with
  | .p (.i _ n)=>
    match x with
    | .p (.l xs)=>0≤n∧∃r,xs[n.toNat]?=some r∧r.length=sz∧K (st.put d (.ip r))
    | .gs id ver off m=>0≤n∧n<(m:Int)∧(match st.H[id]?with
        |some (.rows cX cI rs)=>cX=sz∧cI=ver∧K (st.put d (.ep id ver (off+n.toNat) 0))
        |_ =>False)
    |_ =>False
  |_ =>False
def By (len sz:Nat) (x i:AV) (d:MD) (K:St→Prop) (st:St):Prop :=
  match i with
  | .p (.i _ n)=>
    match x with
    | .ptr id o=>0≤n∧n<(len:Int)∧K (st.put d (.ptr id (o+n.toNat*sz)))
    |_ =>False
  |_ =>False
def Bz (x i:AV) (d:MD) (K:St→Prop) (st:St):Prop :=
  match i with
  | .p (.i _ n)=>
    match x with
    | .p (.s x)=>0≤n∧∃c,x[n.toNat]?=some c∧K (st.put d (.p (.i .u8 c.toNat)))
    |_ =>False
  |_ =>False
def mC (lo hi:Option AV) (n:Nat) (K:Nat->Nat->Prop):Prop :=
 match lo,hi with
 |none,none=>K 0 n
 |some (.p (.i _ a)),none=>0<=a/\a<=(n:Int)/\K a.toNat n
 |none,some (.p (.i _ b))=>0<=b/\b<=(n:Int)/\K 0 b.toNat
 |some (.p (.i _ a)),some (.p (.i _ b))=>0<=a/\a<=b/\b<=(n:Int)/\K a.toNat b.toNat
 |_,_=>False
def D7 (sz id ver off n:Nat) (lo hi:Option AV) (d:MD) (K:St->Prop) (st:St):Option AO->Prop
 |some (.rows cX cI _)=>cX=sz/\cI=ver/\mC lo hi n fun a b=>K (st.put d (.gs id ver (off+a) (b-a)))
 |_=>False
def mD (k:Option Nat) (x:AV) (lo hi:Option AV) (d:MD) (K:St->Prop) (st:St):Prop :=
 match k,x with
 |some sz,.p (.l xs)=>(∀r∈xs,r.length=sz)/\mC lo hi xs.length fun a b=>K (st.put d (.p (.l ((xs.drop a).take (b-a)))))
 |none,.p (.s x)=>mC lo hi x.length fun a b=>K (st.put d (.p (.s ((x.drop a).take (b-a)))))
 |some _,.p .nl=>mC lo hi 0 fun _ _=>K (st.put d (.p .nl))
 |some sz,.gs id ver off n=>D7 sz id ver off n lo hi d K st st.H[id]?
 |_,_=>False
def nk (st:St):List (Nat×Nat×MA)→List AV→Option (List AV)
  |[],z=>some z
  |(off,n,x)::ps,z=>
   let v:=st.get x
   if v.e8&&v.cells.length==n then(eG z off v.cells).bind (nk st ps)else none
def vh (st:St) (z:List AV) (ps:List (Nat×Nat×MA)):Option AV:=(nk st ps z).map .st
def kJ (st:St) (sz:Nat):List (Nat×MA)→List (List AV)→Option (List (List AV))
  |[],rs=>some rs
  |(i,x)::ps,rs=>
   let v:=st.get x
   if v.e8&&v.cells.length==sz&&decide (i<rs.length)then kJ st sz ps (rs.set i v.cells)else none
def we (o:Option AO) (mk:Nat->AV) (d:MD) (K:St->Prop) (st:St):Prop :=
 match o with
 |some o=>K (St.put ⟨st.L,st.T,st.H++[o]⟩ d (mk st.H.length))
 |none=>False
def GW (sz bytes:Nat) (z:List AV) (l c:AV) (d:MD) (K:St->Prop) (st:St):Prop :=
 match l,c with
 | .p (.i .i64 l),.p (.i .i64 c)=>0<=l/\l<=c/\c*bytes<=140737488355328/\c<=140737488355328/\
   K (St.put ⟨st.L,st.T,st.H++[.rows sz 0 (List.replicate l.toNat z)]⟩ d (.gs st.H.length 0 0 l.toNat))
 |_,_=>False
def BA (sz bytes:Nat) (x n:AV) (d:MD) (K:St->Prop) (st:St):Prop :=
 match x,n with
 | .p .nl,.p (.i .i64 k)=>0<k/\k*bytes<=140737488355328/\k<=140737488355328/\K (St.put ⟨st.L,st.T,st.H++[.rows sz 0 []]⟩ d (.gs st.H.length 0 0 k.toNat))
 |_,_=>False
def oG (sz ver off n:Nat):Option AO->Option (List (List AV))
 |some (.rows cX cI rs)=>if cX=sz/\cI=ver/\off+n<=rs.length then some ((rs.drop off).take n)else none
 |_=>none
def ja:List UInt8->List (List AV)
 |[]=>[]
 |c::x=>[.p (.i .u8 c.toNat)]::ja x
def dj (H:List AO) (sz:Nat):AV->Option (List (List AV))
 | .p (.l ys)=>some (ys.map (·.map .p))
 | .p .nl=>some []
 | .p (.s x)=>if sz=1 then some (ja x)else none
 | .gs id ver off n=>oG sz ver off n H[id]?
 |_=>none
def AA (sz bytes id ver off n:Nat) (ys:List (List AV)) (d:MD) (K:St->Prop) (st:St):Option AO->Prop
 |some (.rows cX cI rs)=>cX=sz/\cI=ver/\off=0/\n<=rs.length/\(n+ys.length)*bytes<=140737488355328/\n+ys.length<=140737488355328/\
  K (St.put ⟨st.L,st.T,st.H.set id (.rows sz (ver+1) (rs.take n++ys))⟩ d (.gs id (ver+1) 0 (n+ys.length)))
 |_=>False
def lR (sz bytes:Nat) (x:AV) (ys:List (List AV)) (d:MD) (K:St->Prop) (st:St):Prop :=
 match x with
 | .p .nl=>ys.length*bytes<=140737488355328/\ys.length<=140737488355328/\K (St.put ⟨st.L,st.T,st.H++[.rows sz 0 ys]⟩ d (.gs st.H.length 0 0 ys.length))
 | .gs id ver off n=>AA sz bytes id ver off n ys d K st st.H[id]?
 |_=>False
def AB (sz bytes:Nat) (x:AV) (ys:Option (List (List AV))) (d:MD) (K:St->Prop) (st:St):Prop :=
 match ys with
 |some ys=>(∀r∈ys,r.length=sz)/\lR sz bytes x ys d K st
 |none=>False
def D8 (sz bytes:Nat) (x y:AV) (d:MD) (K:St->Prop) (st:St):Prop:=AB sz bytes x (dj st.H sz y) d K st
def bytesOf:List (List AV)->Option (List UInt8)
 |[]=>some []
 |[.p (.i .u8 n)]::xs=>(bytesOf xs).map (UInt8.ofNat n.toNat:: ·)
 |_ ::_=>none
def oH:Option (List (List AV))->Option AV
 |some ys=>if ys.length<=140737488355328 then(bytesOf ys).map fun l=>.p (.s l)else none
 |none=>none
def p8 (H:List AO):AV->Option AV
 | .p (.l ys)=>oH (dj H 1 (.p (.l ys)))
 | .p .nl=>oH (some [])
 | .gs id ver off n=>oH (dj H 1 (.gs id ver off n))
 |_=>none
def BB:AV->AV->AV->Option AV
 | .p (.b c),x,y=>some (if c then x else y)
 |_,_,_=>none
def AD (mx:Bool):AV->AV->Option AV
 | .p (.i k a),.p (.i k' b)=>if k=k' then some (.p (.i k (if mx then(if b>a then b else a)else(if b<a then b else a))))else none
 |_,_=>none
def zf (ne:Bool) (ver:Nat) (d:MD) (K:St->Prop) (st:St):Option AO->Prop
 |some (.rows _ cI rs)=>cI=ver/\0<rs.length/\K (st.put d (.p (.b ne)))
 |_=>False
def jU (sl ne:Bool) (x:AV) (d:MD) (K:St->Prop) (st:St):Prop :=
 match sl,x with
 |true,.p .nl=>K (st.put d (.p (.b (!ne))))
 |true,.p (.l xs)=>xs≠[]/\K (st.put d (.p (.b ne)))
 |true,.gs id ver _ _=>zf ne ver d K st st.H[id]?
 |false,.p .np=>K (st.put d (.p (.b (!ne))))
 |false,.ptr _ _=>K (st.put d (.p (.b ne)))
 |false,.ep _ _ _ _=>K (st.put d (.p (.b ne)))
 |false,.ip _=>K (st.put d (.p (.b ne)))
 |_,_=>False
def BC (k:IntKind):AV->Option AV
 | .p (.i _ a)=>some (.p (.i k (wr k a)))
 |_=>none
def xI (θ:Th) (W:Im) (args:List AV) (vs:Array Value):Prop :=
 vs.size=args.length/\∀(j:Nat) (a:AV) (v:Value),args[j]?=some a->vs[j]?=some v->bb θ W a v
def BD (P:Program) (f:Nat):Prop:=∃fn,P.funcs[f]?=some fn/\fn.body.isSome=true/\(fn.name== "runtime.NumGoroutine")=false
def al (P:Program) (f:Nat) (args:List AV) (H:List AO) (Q:AV->List AO->Prop):Prop :=
 BD P f/\∀(w:World) (θ:Th) (W:Im) (vs:Array Value),SR θ W H w->xI θ W args vs->
  Calls P f vs w fun e w'=>∃v r H' aX W',e=.returned v/\Q r H'/\SR aX W' H' w'/\bb aX W' r v/\eW θ W w aX W' w'
def rR (d:MD) (K:St->Prop) (st:St) (r:AV) (H:List AO):Prop:=K (St.put ⟨st.L,st.T,H⟩ d r)
def zg (C:iZ) (x:AV) (args:List AV) (d:MD) (K:St->Prop) (st:St):Prop :=
 match x with
 | .eB f eL=>C f (args++eL) st.H (rR d K st)
 |_=>False
def fF (st:St):List MA->List AV
 |[]=>[]
 |x::xs=>st.get x::fF st xs
def bh (C:iZ) (o:MO) (d:MD) (K:St->Prop) (st:St):Prop :=
 match o with
 | .mv x=>K (st.put d (st.get x))
 | .pick c x y=>bC (BB (st.get c) (st.get x) (st.get y)) d K st
 | .alloc z=>we (some (.var z)) (fun id=>.ptr id 0) d K st
 | .box n x=>we (if(st.get x).e8&&(st.get x).cells.length==n then some (.var (st.get x).cells)else none) (fun id=>.ptr id 0) d K st
 | .build z ps=>bC (vh st z ps) d K st
 | .Dz sz z n ps=>we ((kJ st sz ps (List.replicate n z)).map fun rs=>.rows sz 0 rs) (fun id=>.gs id 0 0 n) d K st
 | .ld agg n x=>bC (vO agg n (ly st.H (st.get x))) d K st
 | .pT n x v=>tI (nG st.H n (st.get x) (st.get v)) d K st
 | .Ay x=>bC (wE (st.get x)) d K st
 | .bin op x y=>cZ op (st.get x) (st.get y) d K st
 | .un op x=>bC (N8 op (st.get x)) d K st
 | .conv k x=>bC (BC k (st.get x)) d K st
 | .tg x=>bC (p8 st.H (st.get x)) d K st
 | .qW x=>bC (p8 st.H (st.get x)) d K st
 | .GQ f eL=>bC (some (.eB f (fF st eL))) d K st
 | .DA sz bytes z l c=>GW sz bytes z (st.get l) (st.get c) d K st
 | .tF k x lo hi=>mD k (st.get x) (lo.map st.get) (hi.map st.get) d K st
 | .GR off x=>bC (Bx off (st.get x)) d K st
 | .GS agg off n x=>bC (match st.get x with| .st cs=>vO agg n (some (cs.drop off))|_=>none) d K st
 | .Bu sz x i=>xH sz (st.get x) (st.get i) d K st
 | .Bv len sz x i=>By len sz (st.get x) (st.get i) d K st
 | .Bw x i=>Bz (st.get x) (st.get i) d K st
 | .ext x n=>bC (GV n (st.get x)) d K st
 | .call f args=>C f (fF st args) st.H (rR d K st)
 | .sY x args=>zg C (st.get x) (fF st args) d K st
 | .app sz bytes x y=>D8 sz bytes (st.get x) (st.get y) d K st
 | .oF sz bytes x y=>D8 sz bytes (st.get x) (st.get y) d K st
 | .qX n x v=>tI (nG st.H n (st.get x) (st.get v)) d K st
 | .len s x=>wc s (st.get x) d K st
 | .Az s x=>bC (tH s (st.get x)) d K st
 | .cap x=>bC (GU (st.get x)) d K st
 | .Mz sz bytes x n=>BA sz bytes (st.get x) (st.get n) d K st
 | .Fk mx x y=>bC (AD mx (st.get x) (st.get y)) d K st
 | .beq ne x y=>bC (D5 ne (st.get x) (st.get y)) d K st
 | .tG sl ne x=>jU sl ne (st.get x) d K st
 | .Fm ne x=>bC (D6 ne (st.get x)) d K st
 | .sq ne n x y=>bC (P6 ne n (st.get x) (st.get y)) d K st
 | .stop=>False
def Fo (c:Prop) (A B:St->Prop) (st:St):Prop:=(c->A st)/\(¬c->B st)
def lh (v:AV) (A B:St->Prop) (st:St):Prop :=
 match v with
 | .p (.b t)=>Fo (t=true) A B st
 |_=>False
def zh (d:MD) (K:St->Prop) (st:St):Prop:=K (st.put d (.dK []))
def nq (v:AV) (want:Bool) (A B:St->Prop) (st:St):Prop :=
 match v,want with
 | .dK [],_=>B st
 |v,true=>lh v A B st
 |v,false=>lh v B A st
def BE (C:iZ) (o:MI) (K:St->Prop) (st:St):Prop :=
 match o.guard with
 |none=>bh C o.op o.dst K st
 |some (t,want)=>nq (st.get t) want (bh C o.op o.dst K) (zh o.dst K) st
def k9 (C:iZ):List MI->(St->Prop)->St->Prop
 |[],K,st=>K st
 |o::os,K,st=>BE C o (k9 C os K) st
def cA (H H':List AO):Prop:=∀(id:Nat) (o:AO),H[id]?=some o->o≠.dead->H'[id]?=some o
abbrev PK:=List AO->St->Prop
def nH (Hc N:List AO) (K:PK) (st:St):Prop:=K Hc ⟨st.L,st.T,N⟩
def aP (r:AV) (H:List AO) (r':AV) (H':List AO):Prop:=r'=r/\H'=H
def BF:AV->Option Nat
 | .gs id _ _ _=>some id
 | .ptr id _=>some id
 |_=>none
def P7 (args:List AV) (N A:List AO) (b:Nat):Prop:=∀x∈args,∀id ob,BF x=some id->b<=id->N[id-b]?=some ob->A[id-b]?=some ob
def oK (C:iZ) (Hm Hc N:List AO) (f:Nat) (args:List AV) (d:MD) (K:PK) (st:St):Prop :=
 (∃r xJ,xJ.length=Hc.length/\cA Hm xJ/\(∀A,P7 args N A Hc.length->C f args (Hc++A) (aP r (xJ++A)))/\K xJ (st.put d r))\/
 (∃(ob:AO) (mk:Nat->AV),(∀(H:List AO) (j:Nat),cA Hm H->H[j]?=some .iQ->C f args H (aP (mk j) (H.set j ob)))/\K Hc (St.put ⟨st.L,st.T,st.H++[ob]⟩ d (mk (Hc.length+st.H.length))))
def D9 (Hm Hc N:List AO) (K:PK) (st:St):Prop:=st.H.length=Hc.length/\cA Hm st.H/\K st.H ⟨st.L,st.T,N⟩
def A3 (Hc:List AO) (o:Option AO) (mk:Nat->AV) (d:MD) (K:PK) (st:St):Prop :=
 match o with
 |some o=>K Hc (St.put ⟨st.L,st.T,st.H++[o]⟩ d (mk (Hc.length+st.H.length)))
 |none=>False
inductive Kd where
 |quiet|call|new|eff|apn|rdn|bad
def kindOf:MO->Kd
 | .mv _| .pick .. | .build .. | .ld .. | .Ay _| .bin .. | .un .. | .conv .. | .tg _| .GQ .. | .tF .. | .GR .. | .GS .. | .Bu .. | .Bv .. | .Bw .. | .ext .. | .cap _| .Az .. | .Fk .. | .beq .. | .tG .. | .sq .. | .Fm ..=>.quiet
 | .call .. | .sY ..=>.call
 | .alloc _| .box .. | .Dz .. | .DA ..=>.new
 | .app .. | .pT ..=>.eff
 | .oF .. | .qX ..=>.apn
 | .qW _=>.rdn
 |_=>.bad
def Ea (C:iZ) (Hm Hc:List AO) (o:MO) (d:MD) (K:PK) (st:St):Prop :=
  match o with
  | .call f args =>oK C Hm Hc st.H f (fF st args) d K st
  | .sY x args =>match st.get x with
    | .eB f eL=>oK C Hm Hc [] f (fF st args ++eL) d K st
    |_ =>False
  |_ =>False
def GX (Hc:List AO) (sz bytes:Nat) (z:List AV) (l c:AV) (d:MD) (K:PK) (st:St):Prop :=
 match l,c with
 | .p (.i .i64 l),.p (.i .i64 c)=>0<=l/\l<=c/\c*bytes<=140737488355328/\c<=140737488355328/\A3 Hc (some (.rows sz 0 (List.replicate l.toNat z))) (fun id=>.gs id 0 0 l.toNat) d K st
 |_,_=>False
def ZR (Hc:List AO) (o:MO) (d:MD) (K:PK) (st:St):Prop :=
 match o with
 | .alloc z=>A3 Hc (some (.var z)) (fun id=>.ptr id 0) d K st
 | .box n x=>A3 Hc (if(st.get x).e8&&(st.get x).cells.length==n then some (.var (st.get x).cells)else none) (fun id=>.ptr id 0) d K st
 | .Dz sz z n ps=>A3 Hc ((kJ st sz ps (List.replicate n z)).map fun rs=>.rows sz 0 rs) (fun id=>.gs id 0 0 n) d K st
 | .DA sz bytes z l c=>GX Hc sz bytes z (st.get l) (st.get c) d K st
 |_=>False
def p9 (Hm Hc N:List AO) (sz:Nat) (y:AV):Option (List (List AV)):=
 match y with
 | .gs id v o n=>if Hc.length<=id then oG sz v o n N[id-Hc.length]?else oG sz v o n Hm[id]?
 |y=>dj [] sz y
def P8 (Hc:List AO) (sz bytes id k v n:Nat) (ys:List (List AV)) (d:MD) (K:PK) (st:St):Option AO->Prop
 |some (.rows cX v' rs)=>cX=sz/\v'=v/\n<=rs.length/\(n+ys.length)*bytes<=140737488355328/\n+ys.length<=140737488355328/\
  K Hc (St.put ⟨st.L,st.T,st.H.set k (.rows sz (v+1) (rs.take n++ys))⟩ d (.gs id (v+1) 0 (n+ys.length)))
 |_=>False
def P9 (Hm Hc:List AO) (sz bytes:Nat) (x:AV) (ys:List (List AV)) (d:MD) (K:PK) (st:St):Prop :=
 (∀r∈ys,r.length=sz)/\((x=.p .nl/\ys≠[]/\ys.length*bytes<=140737488355328/\ys.length<=140737488355328/\A3 Hc (some (.rows sz 0 ys)) (fun id=>.gs id 0 0 ys.length) d K st)\/
  lR sz bytes x ys d (D9 Hm Hc st.H K) ⟨st.L,st.T,Hc⟩\/∃id v n,x=.gs id v 0 n/\Hc.length<=id/\P8 Hc sz bytes id (id-Hc.length) v n ys d K st st.H[id-Hc.length]?)
def tJ (Hm Hc:List AO) (sz bytes:Nat) (x:AV) (ys:Option (List (List AV))) (d:MD) (K:PK) (st:St):Prop :=
 match ys with
 |some ys=>P9 Hm Hc sz bytes x ys d K st
 |none=>False
def Qa (Hc:List AO) (k off:Nat) (us:Option (List AV)) (d:MD) (K:PK) (st:St):Option AO→Prop
  |some (.var cs)=>match us.bind (eG cs off)with
   |some fP=>K Hc (St.put ⟨st.L,st.T,st.H.set k (.var fP)⟩ d .any)
   |none =>False
  |_ =>False
def BG (n:Nat) (v:AV):Option (List AV):=if v.e8&&v.cells.length==n then some v.cells else none
def BH (Hc:List AO) (n:Nat) (x v:AV) (d:MD) (K:PK) (st:St):Prop :=
 match x with
 | .ptr id off=>Hc.length<=id/\Qa Hc (id-Hc.length) off (BG n v) d K st st.H[id-Hc.length]?
 |_=>False
def MA.wF:MA->Bool| .c _=>true|_=>false
def aca (Hm Hc:List AO) (o:MO) (d:MD) (K:PK) (st:St):Prop :=
 match o with
 | .oF sz bytes x y=>if x.wF||y.wF then False else tJ Hm Hc sz bytes (st.get x) (p9 Hm Hc st.H sz (st.get y)) d K st
 | .qX n x v=>if x.wF then False else BH Hc n (st.get x) (st.get v) d K st
 |_=>False
def AE (Hc:List AO) (v:AV) (d:MD) (K:PK) (st:St):Prop :=
 match v with
 | .gs id ver off n=>Hc.length<=id/\bC (oH (oG 1 ver off n st.H[id-Hc.length]?)) d (K Hc) st
 |_=>False
def aeM (Hc:List AO) (o:MO) (d:MD) (K:PK) (st:St):Prop :=
 match o with
 | .qW x=>if x.wF then False else AE Hc (st.get x) d K st
 |_=>False
def dY (C:iZ) (Hm Hc:List AO) (o:MO) (d:MD) (K:PK) (st:St):Prop :=
 match kindOf o with
 | .quiet=>bh C o d (nH Hc st.H K) ⟨st.L,st.T,Hm⟩
 | .call=>Ea C Hm Hc o d K st
 | .new=>ZR Hc o d K st
 | .eff=>bh C o d (D9 Hm Hc st.H K) ⟨st.L,st.T,Hc⟩
 | .apn=>aca Hm Hc o d K st
 | .rdn=>aeM Hc o d K st
 | .bad=>False
def GY (C:iZ) (Hm Hc:List AO) (o:MI) (K:PK) (st:St):Prop :=
 match o.guard with
 |none=>dY C Hm Hc o.op o.dst K st
 |some (t,want)=>nq (st.get t) want (dY C Hm Hc o.op o.dst K) (zh o.dst (K Hc)) st
def BI (C:iZ) (Hm:List AO):List MI->PK->PK
 |[],K,Hc,st=>K Hc st
 |o::os,K,Hc,st=>GY C Hm Hc o (BI C Hm os K) st
def MB (K:St->Prop) (Hc:List AO) (st:St):Prop:=K ⟨st.L,st.T,Hc++st.H⟩
def ME (C:iZ) (pre:List MI) (K:St->Prop) (st:St):Prop:=∃Hm,cA Hm st.H/\BI C Hm pre (MB K) st.H ⟨st.L,st.T,[]⟩
inductive Ex where
 |nm|ex (id:Nat)|rt
def zi (K:St->Prop) (Q:Ex->St->Prop):Ex->St->Prop
 | .nm,st=>K st
 |e,st=>Q e st
def GZ (id:Nat) (Q:Ex->St->Prop):Ex->St->Prop
 | .ex i,st=>if i=id then Q .nm st else Q (.ex i) st
 |e,st=>Q e st
def Eb (K:St->Prop) (st:St):Prop:=K ⟨st.L,[],st.H⟩
def Qb (B:(Ex->St->Prop)->St->Prop) (Q:Ex->St->Prop) (st:St):Prop :=
 ∃(α:Type) (lv:List Nat) (I:α->St->Prop) (μ:α->Nat),(∃x,I x ⟨lQ lv st.L,[],st.H⟩)/\
  ∀x dz,I x dz->B (zi (fun ZS=>∃y,I y ⟨lQ lv ZS.L,[],ZS.H⟩/\μ y<μ x) Q) dz
def mK (C:iZ):MC->(Ex->St->Prop)->St->Prop
 | .skip,Q,st=>Q .nm st
 | .WJ os,Q,st=>k9 C os (Eb (Q .nm)) st
 | .seq a b,Q,st=>mK C a (zi (mK C b Q) Q) st
 | .cond c a b,Q,st=>lh (st.get c) (mK C a Q) (mK C b Q) st
 | .WK id b,Q,st=>mK C b (GZ id Q) st
 | .loop b,Q,st=>Qb (mK C b) Q st
 | .exit id,Q,st=>Q (.ex id) st
 | .ret,Q,st=>Q .rt st
 | .P5 pre tail,Q,st=>ME C pre (k9 C tail (Eb (Q .nm))) st
 | .stop,_,_=>False
inductive MR where
 |t (n:Nat)
 |cell (agg:Bool) (n:Nat) (a:Nat)
def wg (st:St):MR→Option AV
  | .t n=>some (dQ st.L n)
  | .cell agg n a=>match dQ st.L a with
    | .ptr id o=>vO agg n (ly st.H (.ptr id o))
    |_ =>none
def mL (st:St):List MR→Option (List AV)
  |[]=>some []
  |r::rs=>match wg st r,mL st rs with
   |some v,some vs=>some (v::vs)
   |_,_ =>none
def AF (st:St):List MR->Option AV
 |[r]=>wg st r
 |rs=>(mL st rs).map .dK
def BJ (rs:List MR) (Q:AV->List AO->Prop) (st:St):Prop :=
 match AF st rs with
 |some v=>Q v st.H
 |none=>False
def BK (rs:List MR) (Q:AV->List AO->Prop):Ex->St->Prop
 | .ex _,_=>False
 |_,st=>BJ rs Q st
def ky:Nat->List AV->En
 |_,[]=>[]
 |i,a::as=>(i,a)::ky (i+1) as
end Go.AM
