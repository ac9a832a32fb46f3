/- Texts Am1 Am2 Am3 Am4 Am5 Am6 Am7, merged. -/
import Derived.Calls
import Derived.Below
import Derived.WalkKit
import Derived.Laws.MakeOwn
set_option linter.all false
namespace Go.AM
inductive PV where
 | b (x:Bool)
 | i (k:IntKind) (n:Int)
 | s (x:List UInt8)
 | l (xs:List (List PV))
 | nl | np | nf | nm | ni | er
inductive AV where
 | any
 | p (x:PV)
 | st (cs:List AV)
 | ptr (id off:Nat)
 | gs (id ver off n:Nat)
 | ep (id ver row col:Nat)
 | ip (row:List PV)
 | clo (f:Nat) (caps:List AV)
 | tup (vs:List AV)
 | mp (id:Nat)
inductive AO where
 | dead
 | rsv
 | glob (b:Nat) (v:Value)
 | tab (b:Nat) (v:Value) (o:Obj)
 | var (cs:List AV)
 | rows (sz ver:Nat) (rs:List (List AV))
 | mapo (es:List (AV × AV))
inductive Pl where
 | no | dead | nil
 | at (b sz tot:Nat)
abbrev Th:=Nat->Nat->Pl
abbrev Im:=Nat->Nat->Option Value
def maxL:Nat:=140737488355328
inductive PRel (W:Im):PV->Value->Prop
 | b (x:Bool):PRel W (.b x) (.bool x)
 | i (k:IntKind) (n:Int):PRel W (.i k n) (.int k n)
 | s (x:List UInt8) (h:x.length<=maxL):PRel W (.s x) (.string ⟨x.toArray⟩)
 | nl:PRel W .nl (.slice none 0 0)
 | np:PRel W .np (.pointer none)
 | nf:PRel W .nf .nilFunc
 | nm:PRel W .nm (.map none)
 | ni:PRel W .ni .nilIface
 | er (te:TypeId) (pe:Value):PRel W .er (.iface te pe)
 | l (xs:List (List PV)) (a:Option Addr) (cap sz:Nat) (f:Nat->Nat->Value)
   (hlen:xs.length<=cap) (hmax:xs.length<=maxL) (hnil:a=none->cap=0)
   (hsp:xs≠[]->∀ x,a=some x->x.spot=none)
   (hrow:∀ r∈xs,r.length=sz)
   (hcell:∀ (i:Nat) (r:List PV) (j:Nat) (q:PV),xs[i]?=some r->r[j]?=some q->∀ x,a=some x->W x.block (x.off+(i * sz+j))=some (f i j))
   (hrel:∀ (i:Nat) (r:List PV) (j:Nat) (q:PV),xs[i]?=some r->r[j]?=some q->PRel W q (f i j)) :
   PRel W (.l xs) (.slice a xs.length cap)
inductive ARel (θ:Th) (W:Im):AV->Value->Prop
 | any (v:Value):ARel θ W .any v
 | p (x:PV) (v:Value) (h:PRel W x v):ARel θ W (.p x) v
 | st (cs:List AV) (vs:Array Value) (hs:vs.size=cs.length)
   (hc:∀ (j:Nat) (c:AV) (v:Value),cs[j]?=some c->vs[j]?=some v->ARel θ W c v)
   (h1:∀ (j:Nat) (v:Value),vs[j]?=some v->v.oneCell'=true):ARel θ W (.st cs) (.agg vs)
 | ptr (id off b sz tot:Nat) (h:θ id 0=.at b sz tot):ARel θ W (.ptr id off) (.pointer (some ⟨b,off,none⟩))
 | ptrDead (id off:Nat) (a:Addr) (h:θ id 0=.dead):ARel θ W (.ptr id off) (.pointer (some a))
 | gsDead (id ver off n:Nat) (a:Option Addr) (cap:Nat) (h:θ id ver=.dead) (hn:n<=cap) (hm:n<=maxL):ARel θ W (.gs id ver off n) (.slice a n cap)
 | gsNil (id ver:Nat) (h:θ id ver=.nil):ARel θ W (.gs id ver 0 0) (.slice none 0 0)
 | gs (id ver off n b sz tot o cap:Nat) (h:θ id ver=.at b sz tot) (hn:n<=cap) (hm:n<=maxL) (hc:off+cap=tot) (ho:off<tot->o=off * sz) (h0:off=0->o=0) :
   ARel θ W (.gs id ver off n) (.slice (some ⟨b,o,none⟩) n cap)
 | ep (id ver row col b sz tot:Nat) (h:θ id ver=.at b sz tot):ARel θ W (.ep id ver row col) (.pointer (some ⟨b,row * sz+col,none⟩))
 | epDead (id ver row col:Nat) (a:Addr) (h:θ id ver=.dead):ARel θ W (.ep id ver row col) (.pointer (some a))
 | ip (row:List PV) (b o:Nat) (f:Nat->Value)
   (hcell:∀ (j:Nat) (q:PV),row[j]?=some q->W b (o+j)=some (f j))
   (hrel:∀ (j:Nat) (q:PV),row[j]?=some q->PRel W q (f j)):ARel θ W (.ip row) (.pointer (some ⟨b,o,none⟩))
 | clo (f:Nat) (caps:List AV) (vs:Array Value) (hs:vs.size=caps.length)
   (hc:∀ (j:Nat) (c:AV) (v:Value),caps[j]?=some c->vs[j]?=some v->ARel θ W c v):ARel θ W (.clo f caps) (.func (.func f) #[] vs)
 | tup (vs:List AV) (us:Array Value) (hs:us.size=vs.length)
   (hc:∀ (j:Nat) (c:AV) (v:Value),vs[j]?=some c->us[j]?=some v->ARel θ W c v):ARel θ W (.tup vs) (.tuple us)
 | mp (id b:Nat) (h:θ id 0=.at b 0 0):ARel θ W (.mp id) (.map (some b))
 | mpDead (id r:Nat) (h:θ id 0=.dead):ARel θ W (.mp id) (.map (some r))
def OR (θ:Th) (W:Im) (w:World) (id:Nat):AO->Prop
 | .dead=>∀ ver,θ id ver=.dead\/θ id ver=.no
 | .rsv=>∀ ver,θ id ver=.no
 | .glob b v=>W b 0=some v/\∀ ver,θ id ver=.no
 | .tab b v o=>W b 0=some v/\w.heap[b]?=some o/\∀ ver,θ id ver=.no
 | .var cs=>(∃ b sz tot ty vs,θ id 0=.at b sz tot/\w.heap[b]?=some (.cells vs ty (0,0))/\vs.size=cs.length /\
   (∀ (j:Nat) (c:AV) (v:Value),cs[j]?=some c->vs[j]?=some v->ARel θ W c v)/\(∀ (j:Nat) (v:Value),vs[j]?=some v->v.oneCell'=true))/\∀ ver,0<ver->θ id ver=.no
 | .rows sz ver rs=>((θ id ver=.nil/\rs=[])\/∃ b tot ty vs,θ id ver=.at b sz tot/\w.heap[b]?=some (.cells vs ty (0,0))/\vs.size=tot * sz/\rs.length<=tot /\
   (∀ r∈rs,r.length=sz) /\
   (∀ (i:Nat) (r:List AV) (j:Nat) (c:AV) (v:Value),rs[i]?=some r->r[j]?=some c->vs[i * sz+j]?=some v->ARel θ W c v)/\(∀ (j:Nat) (v:Value),vs[j]?=some v->v.oneCell'=true)) /\
   (∀ v',ver<v'->θ id v'=.no)/\∀ v',v'<ver->θ id v'=.dead
 | .mapo es=>(∃ b es' clock,θ id 0=.at b 0 0/\w.heap[b]?=some (.map es' clock)/\(es'.size=es.length/\∀ x∈es'.toList,x.born<clock) /\
   (∀ (j:Nat) (e:AV × AV) (e':MapEntry),es[j]?=some e->es'[j]?=some e'->ARel θ W e.1 e'.key/\ARel θ W e.2 e'.val))/\∀ ver,0<ver->θ id ver=.no
def Owned (θ:Th) (b:Nat):Prop:=∃ id ver sz tot,θ id ver=.at b sz tot
structure SR (θ:Th) (W:Im) (H:List AO) (w:World):Prop where
 imm:∀ b o v,W b o=some v->w.cell? ⟨b,o,none⟩=some v
 obj:∀ id o,H[id]?=some o->OR θ W w id o
 out:∀ id ver,H.length<=id->θ id ver=.no
 own:∀ b,Owned θ b->∀ o,W b o=none
 inj:∀ b id ver sz tot id' ver' sz' tot',θ id ver=.at b sz tot->θ id' ver'=.at b sz' tot'->id=id'/\ver=ver'
structure Stp (θ:Th) (W:Im) (w:World) (θ':Th) (W':Im) (w':World):Prop where
 os:w'.os=w.os
 tape:w'.tape=w.tape
 output:w'.output=w.output
 size:w.heap.size<=w'.heap.size
 keep:∀ b,b<w.heap.size->¬ Owned θ b->w'.heap[b]?=w.heap[b]?
 imm:∀ b o v,W b o=some v->W' b o=some v
 old:∀ b,b<w.heap.size->¬ Owned θ b->∀ o,W' b o=W b o
 th:∀ id ver,θ id ver≠.no->θ' id ver=θ id ver\/θ' id ver=.dead
 fresh:∀ b,Owned θ' b->Owned θ b\/w.heap.size<=b
theorem Stp.refl (θ:Th) (W:Im) (w:World):Stp θ W w θ W w :=
 ⟨rfl,rfl,rfl,Nat.le_refl _,fun _ _ _=>rfl,fun _ _ _ h=>h,fun _ _ _ _=>rfl,fun _ _ _=>.inl rfl,fun _ h=>.inl h⟩
theorem Stp.trans {θ θ₁ θ₂:Th} {W W₁ W₂:Im} {w w₁ w₂:World} (h:Stp θ W w θ₁ W₁ w₁) (k:Stp θ₁ W₁ w₁ θ₂ W₂ w₂):Stp θ W w θ₂ W₂ w₂ where
 os:=k.os.trans h.os
 tape:=k.tape.trans h.tape
 output:=k.output.trans h.output
 size:=Nat.le_trans h.size k.size
 keep:=fun b hb ho=>by
  rw [k.keep b (Nat.lt_of_lt_of_le hb h.size) (fun hc=>(h.fresh b hc).elim ho (fun h'=>by omega)),h.keep b hb ho]
 imm:=fun b o v hv=>k.imm b o v (h.imm b o v hv)
 old:=fun b hb ho o=>by
  rw [k.old b (Nat.lt_of_lt_of_le hb h.size) (fun hc=>(h.fresh b hc).elim ho (fun h'=>by omega)),h.old b hb ho o]
 th:=fun id ver hn=>by
  rcases h.th id ver hn with e | e
  ·rcases k.th id ver (by rw [e]; exact hn) with e' | e'
   ·exact .inl (e'.trans e)
   ·exact .inr e'
  ·rcases k.th id ver (by rw [e]; exact fun h=>by cases h) with e' | e'
   ·exact .inr (e'.trans e)
   ·exact .inr e'
 fresh:=fun b hb=>by
  rcases k.fresh b hb with h' | h'
  ·exact h.fresh b h'
  ·exact .inr (Nat.le_trans h.size h')
theorem PRel.mono {W W' : Im} (hW : ∀ b o v, W b o = some v → W' b o = some v) {x : PV} {v : Value} (h : PRel W x v) : PRel W' x v := by
  induction h with
  | b => exact .b _
  | i => exact .i _ _
  | s _ h => exact .s _ h
  | nl => exact .nl
  | np => exact .np
  | nf => exact .nf
  | nm => exact .nm
  | ni => exact .ni
  | er te pe => exact .er te pe
  | l xs a cap sz f hlen hmax hnil hsp hrow hcell hrel ih =>
    exact .l xs a cap sz f hlen hmax hnil hsp hrow (fun i r j q hi hj x hx => hW _ _ _ (hcell i r j q hi hj x hx)) (fun i r j q hi hj => ih i r j q hi hj)
theorem ARel.mono {θ θ' : Th} {W W' : Im} (hW : ∀ b o v, W b o = some v → W' b o = some v)
    (hθ : ∀ id ver, θ id ver ≠ .no → θ' id ver = θ id ver ∨ θ' id ver = .dead) {x : AV} {v : Value} (h : ARel θ W x v) : ARel θ' W' x v := by
  induction h with
  | any => exact .any _
  | p x v h => exact .p _ _ (h.mono hW)
  | st cs vs hs hc h1 ih => exact .st cs vs hs (fun j c v hj hv => ih j c v hj hv) h1
  | ptr id off b sz tot h =>
    rcases hθ id 0 (by rw [h]; exact fun h => by cases h) with e | e
    · exact .ptr id off b sz tot (e.trans h)
    · exact .ptrDead id off _ e
  | ptrDead id off a h =>
    rcases hθ id 0 (by rw [h]; exact fun h => by cases h) with e | e
    · exact .ptrDead id off a (e.trans h)
    · exact .ptrDead id off a e
  | gsDead id ver off n a cap h hn hm =>
    rcases hθ id ver (by rw [h]; exact fun h => by cases h) with e | e
    · exact .gsDead id ver off n a cap (e.trans h) hn hm
    · exact .gsDead id ver off n a cap e hn hm
  | gsNil id ver h =>
    rcases hθ id ver (by rw [h]; exact fun h => by cases h) with e | e
    · exact .gsNil id ver (e.trans h)
    · exact .gsDead id ver _ _ _ _ e (Nat.le_refl _) (Nat.zero_le _)
  | gs id ver off n b sz tot o cap h hn hm hc ho h0 =>
    rcases hθ id ver (by rw [h]; exact fun h => by cases h) with e | e
    · exact .gs id ver off n b sz tot o cap (e.trans h) hn hm hc ho h0
    · exact .gsDead id ver _ _ _ _ e hn hm
  | ep id ver row col b sz tot h =>
    rcases hθ id ver (by rw [h]; exact fun h => by cases h) with e | e
    · exact .ep id ver row col b sz tot (e.trans h)
    · exact .epDead id ver _ _ _ e
  | epDead id ver row col a h =>
    rcases hθ id ver (by rw [h]; exact fun h => by cases h) with e | e
    · exact .epDead id ver row col a (e.trans h)
    · exact .epDead id ver row col a e
  | ip row b o f hcell hrel => exact .ip row b o f (fun j q hj => hW _ _ _ (hcell j q hj)) (fun j q hj => (hrel j q hj).mono hW)
  | clo f caps vs hs hc ih => exact .clo f caps vs hs (fun j c v hj hv => ih j c v hj hv)
  | tup vs us hs hc ih => exact .tup vs us hs (fun j c v hj hv => ih j c v hj hv)
  | mp id b h =>
    rcases hθ id 0 (by rw [h]; exact fun h => by cases h) with e | e
    · exact .mp id b (e.trans h)
    · exact .mpDead id b e
  | mpDead id r h =>
    rcases hθ id 0 (by rw [h]; exact fun h => by cases h) with e | e
    · exact .mpDead id r (e.trans h)
    · exact .mpDead id r e
theorem ARel.step {θ θ':Th} {W W':Im} {w w':World} (hs:Stp θ W w θ' W' w') {x:AV} {v:Value} (h:ARel θ W x v):ARel θ' W' x v :=
 h.mono hs.imm hs.th
theorem PRel.one {W:Im} {x:PV} {v:Value} (h:PRel W x v):v.oneCell'=true:=by cases h <;> rfl
def AV.one:AV->Bool
 | .any | .st _ | .tup _=>false
 | _=>true
theorem ARel.one {θ:Th} {W:Im} {x:AV} {v:Value} (h:ARel θ W x v) (hx:x.one=true):v.oneCell'=true:=by
 cases h <;> first | rfl | (simp [AV.one] at hx; done) | assumption | exact PRel.one ‹_›
end Go.AM
set_option linter.all false
namespace Go.AM
inductive MA where
 | t (n:Nat)
 | l (n:Nat)
 | c (v:AV)
inductive MD where
 | no
 | t (n:Nat)
 | l (n:Nat)
inductive MO where
 | mv (x:MA)
 | pick (c x y:MA)
 | alloc (z:List AV)
 | box (n:Nat) (x:MA)
 | build (z:List AV) (ps:List (Nat × Nat × MA))
 | bsl (sz:Nat) (z:List AV) (n:Nat) (ps:List (Nat × MA))
 | ld (agg:Bool) (n:Nat) (x:MA)
 | sto (n:Nat) (x v:MA)
 | nilc (x:MA)
 | bin (op:BinOp) (x y:MA)
 | un (op:UnOp) (x:MA)
 | conv (k:IntKind) (x:MA)
 | b2s (x:MA)
 | b2sn (x:MA)
 | mkf (f:Nat) (caps:List MA)
 | mks (sz bytes:Nat) (z:List AV) (l c:MA)
 | slc (k:Option Nat) (x:MA) (lo hi:Option MA)
 | fad (off:Nat) (x:MA)
 | fld (agg:Bool) (off n:Nat) (x:MA)
 | ixs (sz:Nat) (x i:MA)
 | ixa (len sz:Nat) (x i:MA)
 | ixt (x i:MA)
 | ext (x:MA) (n:Nat)
 | call (f:Nat) (args:List MA)
 | calv (x:MA) (args:List MA)
 | app (sz bytes:Nat) (x y:MA)
 | appn (sz bytes:Nat) (x y:MA)
 | ston (n:Nat) (x v:MA)
 | cap (x:MA)
 | appz (sz bytes:Nat) (x n:MA)
 | len (s:Bool) (x:MA)
 | lenq (s:Bool) (x:MA)
 | mnx (mx:Bool) (x y:MA)
 | beq (ne:Bool) (x y:MA)
 | nilq (sl ne:Bool) (x:MA)
 | sq (ne:Bool) (n:Nat) (x y:MA)
 | nii (ne:Bool) (x:MA)
 | mkm
 | mget (kd:Option IntKind) (z:AV) (ok:Bool) (m k:MA)
 | mset (kd:Option IntKind) (m k v:MA)
 | peq (ne:Bool) (x y:MA)
 | lde (agg:Bool) (n:Nat) (x:MA)
 | ixse (sz:Nat) (x i:MA)
 | bslk (sz:Nat) (z:List AV) (n:Nat) (ps:List (Nat × MA))
 | s2b (x:MA)
 | stop
structure MI where
 dst:MD
 op:MO
 guard:Option (MA × Bool)
inductive MC where
 | skip
 | reg (os:List MI)
 | seq (a b:MC)
 | cond (c:MA) (a b:MC)
 | blk (id:Nat) (b:MC)
 | loop (b:MC)
 | exit (id:Nat)
 | ret
 | drw (pre tail:List MI)
 | stop
abbrev En:=List (Nat × AV)
def eget:En->Nat->AV
 | [],_=>.any
 | (k,v) :: e,t=>if k=t then v else eget e t
def eset:En->Nat->AV->En
 | [],t,v=>[(t,v)]
 | (k,u) :: e,t,v=>if k=t then (t,v) :: e else (k,u) :: eset e t v
def lmem:List Nat->Nat->Bool
 | [],_=>false
 | x :: xs,k=>if x=k then true else lmem xs k
def ekeep (lv:List Nat):En->En
 | []=>[]
 | (k,v) :: e=>if lmem lv k=true then (k,v) :: ekeep lv e else ekeep lv e
structure St where
 L:En
 T:En
 H:List AO
def St.get (st:St):MA->AV
 | .t n=>eget st.T n
 | .l n=>eget st.L n
 | .c v=>v
def St.put (st:St):MD->AV->St
 | .no,_=>st
 | .t d,v=>⟨st.L,(d,v) :: st.T,st.H⟩
 | .l d,v=>⟨eset st.L d v,st.T,st.H⟩
abbrev CallP:=Nat->List AV->List AO->(AV->List AO->Prop)->Prop
def AV.cells:AV->List AV
 | .st cs=>cs
 | v=>[v]
def bcmp (op:BinOp) (a b:Int):Option Bool :=
 match op with
 | .eql=>some (decide (a=b))
 | .neq=>some (!decide (a=b))
 | .lss=>some (decide (a<b))
 | .leq=>some (decide (a<=b))
 | .gtr=>some (decide (b<a))
 | .geq=>some (decide (b<=a))
 | _=>none
def wr (k:IntKind) (n:Int):Int:=k.wrap n
def ibits (op:BinOp) (k:IntKind) (x y:Int):Int :=
 let a:=BitVec.ofInt k.bits x
 let b:=BitVec.ofInt k.bits y
 match op with
 | .and=>k.wrap (a &&& b).toNat
 | .or=>k.wrap (a ||| b).toNat
 | .xor=>k.wrap (a ^^^ b).toNat
 | _=>k.wrap (a &&& ~~~b).toNat
def iarith (op:BinOp) (k:IntKind) (a b:Int):Option PV :=
 match op with
 | .add=>some (.i k (wr k (a+b)))
 | .sub=>some (.i k (wr k (a - b)))
 | .mul=>some (.i k (wr k (a * b)))
 | .and=>some (.i k (ibits .and k a b))
 | .or=>some (.i k (ibits .or k a b))
 | .xor=>some (.i k (ibits .xor k a b))
 | .andNot=>some (.i k (ibits .andNot k a b))
 | .shl=>none
 | .shr=>none
 | .quo=>none
 | .rem=>none
 | op=>(bcmp op a b).map .b
def slt:List UInt8->List UInt8->Bool:=Op.bytesLess
def seqs (op:BinOp) (a b:List UInt8):Option PV :=
 match op with
 | .eql=>some (.b (decide (a=b)))
 | .neq=>some (.b (!decide (a=b)))
 | .lss=>some (.b (slt a b))
 | .leq=>some (.b (slt a b || decide (a=b)))
 | .gtr=>some (.b (!(slt a b || decide (a=b))))
 | .geq=>some (.b (!slt a b))
 | _=>none
def ebin (op:BinOp):AV->AV->Option AV
 | .p (.i k a),.p (.i k' b)=>if k=k' then (iarith op k a b).map .p else none
 | .p (.s a),.p (.s b)=>(seqs op a b).map .p
 | _,_=>none
def beqV (ne:Bool):AV->AV->Option AV
 | .p (.b a),.p (.b b)=>some (.p (.b (if ne then !(a == b) else (a == b))))
 | _,_=>none
def niiV (ne:Bool):AV->Option AV
 | .p .ni=>some (.p (.b (!ne)))
 | .p .er=>some (.p (.b ne))
 | _=>none
def sqC:List AV->List AV->Option Bool
 | [],[]=>some true
 | .p (.i k a) :: xs,.p (.i k' b) :: ys=>if k=k' then (sqC xs ys).map (decide (a=b) && ·) else none
 | _,_=>none
def sqV (ne:Bool) (n:Nat):AV->AV->Option AV
 | .st xs,.st ys=>if xs.length=n then (sqC xs ys).map fun b=>.p (.b (if ne then !b else b)) else none
 | _,_=>none
def eun (op:UnOp):AV->Option AV
 | .p (.b a)=>match op with | .not=>some (.p (.b (!a))) | _=>none
 | .p (.i k a)=>match op with | .neg=>some (.p (.i k (wr k (0 - a)))) | _=>none
 | _=>none
def withV (v:Option AV) (d:MD) (K:St->Prop) (st:St):Prop :=
 match v with
 | some v=>K (st.put d v)
 | none=>False
def bin2K (op:BinOp) (x y:AV) (d:MD) (K:St->Prop) (st:St):Prop :=
 match op,x,y with
 | .add,.p (.s a),.p (.s b)=>a.length+b.length<=maxL/\K (st.put d (.p (.s (a++b))))
 | .quo,.p (.i k a),.p (.i k' b)=>k=k'/\b≠0/\K (st.put d (.p (.i k (wr k (a.tdiv b)))))
 | .rem,.p (.i k a),.p (.i k' b)=>k=k'/\b≠0/\K (st.put d (.p (.i k (a.tmod b))))
 | .shl,.p (.i k a),.p (.i _ b)=>0<=b/\K (st.put d (.p (.i k (wr k (a * 2 ^ min b.toNat k.bits)))))
 | .shr,.p (.i k a),.p (.i _ b)=>0<=b/\K (st.put d (.p (.i k (a.fdiv (2 ^ min b.toNat k.bits)))))
 | _,_,_=>False
def binK (op:BinOp) (x y:AV) (d:MD) (K:St->Prop) (st:St):Prop :=
 match ebin op x y with
 | some v=>K (st.put d v)
 | none=>bin2K op x y d K st
def lenK (s:Bool) (x:AV) (d:MD) (K:St->Prop) (st:St):Prop :=
 match s,x with
 | false,.p (.l xs)=>xs.length<=maxL->K (st.put d (.p (.i .i64 xs.length)))
 | false,.p .nl=>K (st.put d (.p (.i .i64 0)))
 | true,.p (.s x)=>x.length<=maxL->K (st.put d (.p (.i .i64 x.length)))
 | false,.gs _ _ _ n=>n<=maxL->K (st.put d (.p (.i .i64 n)))
 | _,_=>False
def lenqV (s:Bool) (x:AV):Option AV :=
 match s,x with
 | false,.p (.l xs)=>some (.p (.i .i64 xs.length))
 | false,.p .nl=>some (.p (.i .i64 0))
 | true,.p (.s x)=>some (.p (.i .i64 x.length))
 | false,.gs _ _ _ n=>some (.p (.i .i64 n))
 | _,_=>none
def capV:AV->Option AV
 | .p .nl=>some (.p (.i .i64 0))
 | _=>none
def ldAt (H : List AO) (x : AV) : Option (List AV) :=
  match x with
  | .ptr id off => match H[id]? with
    | some (.var cs) => some (cs.drop off)
    | _ => none
  | .ep id ver row col => match H[id]? with
    | some (.rows _ ver' rs) => if ver = ver' then (rs[row]?).map (·.drop col) else none
    | _ => none
  | .ip row => some (row.map .p)
  | _ => none
def takeN:Nat->List AV->Option (List AV)
 | 0,_=>some []
 | _+1,[]=>none
 | n+1,c :: cs=>(takeN n cs).map (c :: ·)
def ldV (agg:Bool) (n:Nat) (cs:Option (List AV)):Option AV :=
 match cs with
 | none=>none
 | some cs=>if agg then (takeN n cs).map .st else cs.head?
def splice (cs:List AV) (off:Nat) (us:List AV):Option (List AV) :=
 match off,cs,us with
 | _,cs,[]=>some cs
 | 0,_ :: cs,u :: us=>(splice cs 0 us).map (u :: ·)
 | off+1,c :: cs,us=>(splice cs off us).map (c :: ·)
 | _,[],_ :: _=>none
def AV.allOne:AV->Bool
 | .st _=>true
 | v=>v.one
def stoH (H : List AO) (n : Nat) (x v : AV) : Option (List AO) :=
  if v.allOne && v.cells.length == n then
    match x with
    | .ptr id off => match H[id]? with
      | some (.var cs) => (splice cs off v.cells).map fun cs' => H.set id (.var cs')
      | _ => none
    | .ep id ver row col => match H[id]? with
      | some (.rows sz ver' rs) => if ver = ver' then
          match rs[row]? with
          | some r => (splice r col v.cells).map fun r' => H.set id (.rows sz ver' (rs.set row r'))
          | none => none
        else none
      | _ => none
    | _ => none
  else none
def withH (h:Option (List AO)) (d:MD) (K:St->Prop) (st:St):Prop :=
 match h with
 | some H=>K (St.put ⟨st.L,st.T,H⟩ d .any)
 | none=>False
def fadV (off:Nat):AV->Option AV
 | .ptr id o=>some (.ptr id (o+off))
 | .ep id ver row col=>some (.ep id ver row (col+off))
 | .ip row=>some (.ip (row.drop off))
 | _=>none
def nilcV:AV->Option AV
 | .ptr id o=>some (.ptr id o)
 | .ep id ver row col=>some (.ep id ver row col)
 | .clo f c=>some (.clo f c)
 | _=>none
def extV (n:Nat):AV->Option AV
 | .tup vs=>vs[n]?
 | _=>none
def ixsK (sz : Nat) (x i : AV) (d : MD) (K : St → Prop) (st : St) : Prop :=
  match i with
  | .p (.i _ n) =>
    match x with
    | .p (.l xs) => 0 ≤ n ∧ ∃ r, xs[n.toNat]? = some r ∧ r.length = sz ∧ K (st.put d (.ip r))
    | .gs id ver off m => 0 ≤ n ∧ n < (m : Int) ∧ (match st.H[id]? with
        | some (.rows sz' ver' rs) => sz' = sz ∧ ver' = ver ∧ K (st.put d (.ep id ver (off + n.toNat) 0))
        | _ => False)
    | _ => False
  | _ => False
def ixaK (len sz : Nat) (x i : AV) (d : MD) (K : St → Prop) (st : St) : Prop :=
  match i with
  | .p (.i _ n) =>
    match x with
    | .ptr id o => 0 ≤ n ∧ n < (len : Int) ∧ K (st.put d (.ptr id (o + n.toNat * sz)))
    | _ => False
  | _ => False
def ixtK (x i : AV) (d : MD) (K : St → Prop) (st : St) : Prop :=
  match i with
  | .p (.i _ n) =>
    match x with
    | .p (.s x) => 0 ≤ n ∧ ∃ c, x[n.toNat]? = some c ∧ K (st.put d (.p (.i .u8 c.toNat)))
    | _ => False
  | _ => False
def bndK (lo hi:Option AV) (n:Nat) (K:Nat->Nat->Prop):Prop :=
 match lo,hi with
 | none,none=>K 0 n
 | some (.p (.i _ a)),none=>0<=a/\a<=(n:Int)/\K a.toNat n
 | none,some (.p (.i _ b))=>0<=b/\b<=(n:Int)/\K 0 b.toNat
 | some (.p (.i _ a)),some (.p (.i _ b))=>0<=a/\a<=b/\b<=(n:Int)/\K a.toNat b.toNat
 | _,_=>False
def slcR (sz id ver off n:Nat) (lo hi:Option AV) (d:MD) (K:St->Prop) (st:St):Option AO->Prop
 | some (.rows sz' ver' _)=>sz'=sz/\ver'=ver/\bndK lo hi n fun a b=>K (st.put d (.gs id ver (off+a) (b - a)))
 | _=>False
def slcK (k:Option Nat) (x:AV) (lo hi:Option AV) (d:MD) (K:St->Prop) (st:St):Prop :=
 match k,x with
 | some sz,.p (.l xs)=>(∀ r∈xs,r.length=sz)/\bndK lo hi xs.length fun a b=>K (st.put d (.p (.l ((xs.drop a).take (b - a)))))
 | none,.p (.s x)=>bndK lo hi x.length fun a b=>K (st.put d (.p (.s ((x.drop a).take (b - a)))))
 | some _,.p .nl=>bndK lo hi 0 fun _ _=>K (st.put d (.p .nl))
 | some sz,.gs id ver off n=>slcR sz id ver off n lo hi d K st st.H[id]?
 | _,_=>False
def partsV (st : St) : List (Nat × Nat × MA) → List AV → Option (List AV)
  | [], z => some z
  | (off, n, x) :: ps, z =>
    let v := st.get x
    if v.allOne && v.cells.length == n then (splice z off v.cells).bind (partsV st ps) else none
def buildV (st:St) (z:List AV) (ps:List (Nat × Nat × MA)):Option AV:=(partsV st ps z).map .st
def rowsV (st : St) (sz : Nat) : List (Nat × MA) → List (List AV) → Option (List (List AV))
  | [], rs => some rs
  | (i, x) :: ps, rs =>
    let v := st.get x
    if v.allOne && v.cells.length == sz && decide (i < rs.length) then rowsV st sz ps (rs.set i v.cells) else none
def newK (o:Option AO) (mk:Nat->AV) (d:MD) (K:St->Prop) (st:St):Prop :=
 match o with
 | some o=>K (St.put ⟨st.L,st.T,st.H++[o]⟩ d (mk st.H.length))
 | none=>False
def mksK (sz bytes:Nat) (z:List AV) (l c:AV) (d:MD) (K:St->Prop) (st:St):Prop :=
 match l,c with
 | .p (.i .i64 l),.p (.i .i64 c)=>0<=l/\l<=c/\c * bytes<=140737488355328/\c<=140737488355328 /\
   K (St.put ⟨st.L,st.T,st.H++[.rows sz 0 (List.replicate l.toNat z)]⟩ d (.gs st.H.length 0 0 l.toNat))
 | _,_=>False
def appzK (sz bytes:Nat) (x n:AV) (d:MD) (K:St->Prop) (st:St):Prop :=
 match x,n with
 | .p .nl,.p (.i .i64 k)=>0<k/\k * bytes<=140737488355328/\k<=140737488355328/\K (St.put ⟨st.L,st.T,st.H++[.rows sz 0 []]⟩ d (.gs st.H.length 0 0 k.toNat))
 | _,_=>False
def srcR (sz ver off n:Nat):Option AO->Option (List (List AV))
 | some (.rows sz' ver' rs)=>if sz'=sz/\ver'=ver/\off+n<=rs.length then some ((rs.drop off).take n) else none
 | _=>none
def bytesRows:List UInt8->List (List AV)
 | []=>[]
 | c :: x=>[.p (.i .u8 c.toNat)] :: bytesRows x
def srcRows (H:List AO) (sz:Nat):AV->Option (List (List AV))
 | .p (.l ys)=>some (ys.map (·.map .p))
 | .p .nl=>some []
 | .p (.s x)=>if sz=1 then some (bytesRows x) else none
 | .gs id ver off n=>srcR sz ver off n H[id]?
 | _=>none
def appR (sz bytes id ver off n:Nat) (ys:List (List AV)) (d:MD) (K:St->Prop) (st:St):Option AO->Prop
 | some (.rows sz' ver' rs)=>sz'=sz/\ver'=ver/\off=0/\n<=rs.length/\(n+ys.length) * bytes<=140737488355328/\n+ys.length<=140737488355328 /\
   K (St.put ⟨st.L,st.T,st.H.set id (.rows sz (ver+1) (rs.take n++ys))⟩ d (.gs id (ver+1) 0 (n+ys.length)))
 | _=>False
def appX (sz bytes:Nat) (x:AV) (ys:List (List AV)) (d:MD) (K:St->Prop) (st:St):Prop :=
 match x with
 | .p .nl=>ys.length * bytes<=140737488355328/\ys.length<=140737488355328/\K (St.put ⟨st.L,st.T,st.H++[.rows sz 0 ys]⟩ d (.gs st.H.length 0 0 ys.length))
 | .gs id ver off n=>appR sz bytes id ver off n ys d K st st.H[id]?
 | _=>False
def appY (sz bytes:Nat) (x:AV) (ys:Option (List (List AV))) (d:MD) (K:St->Prop) (st:St):Prop :=
 match ys with
 | some ys=>(∀ r∈ys,r.length=sz)/\appX sz bytes x ys d K st
 | none=>False
def appK (sz bytes:Nat) (x y:AV) (d:MD) (K:St->Prop) (st:St):Prop:=appY sz bytes x (srcRows st.H sz y) d K st
def bytesOf:List (List AV)->Option (List UInt8)
 | []=>some []
 | [.p (.i .u8 n)] :: xs=>(bytesOf xs).map (UInt8.ofNat n.toNat :: ·)
 | _ :: _=>none
def b2sR:Option (List (List AV))->Option AV
 | some ys=>if ys.length<=140737488355328 then (bytesOf ys).map fun l=>.p (.s l) else none
 | none=>none
def b2sV (H:List AO):AV->Option AV
 | .p (.l ys)=>b2sR (srcRows H 1 (.p (.l ys)))
 | .p .nl=>b2sR (some [])
 | .gs id ver off n=>b2sR (srcRows H 1 (.gs id ver off n))
 | _=>none
def pickV:AV->AV->AV->Option AV
 | .p (.b c),x,y=>some (if c then x else y)
 | _,_,_=>none
def mnxV (mx:Bool):AV->AV->Option AV
 | .p (.i k a),.p (.i k' b)=>if k=k' then some (.p (.i k (if mx then (if b > a then b else a) else (if b<a then b else a)))) else none
 | _,_=>none
def nilqR (ne:Bool) (ver:Nat) (d:MD) (K:St->Prop) (st:St):Option AO->Prop
 | some (.rows _ ver' rs)=>ver'=ver/\0<rs.length/\K (st.put d (.p (.b ne)))
 | _=>False
def nilqK (sl ne:Bool) (x:AV) (d:MD) (K:St->Prop) (st:St):Prop :=
 match sl,x with
 | true,.p .nl=>K (st.put d (.p (.b (!ne))))
 | true,.p (.l xs)=>xs≠[]/\K (st.put d (.p (.b ne)))
 | true,.gs id ver _ _=>nilqR ne ver d K st st.H[id]?
 | false,.p .np=>K (st.put d (.p (.b (!ne))))
 | false,.ptr _ _=>K (st.put d (.p (.b ne)))
 | false,.ep _ _ _ _=>K (st.put d (.p (.b ne)))
 | false,.ip _=>K (st.put d (.p (.b ne)))
 | _,_=>False
def convV (k:IntKind):AV->Option AV
 | .p (.i _ a)=>some (.p (.i k (wr k a)))
 | _=>none
def Rels (θ:Th) (W:Im) (args:List AV) (vs:Array Value):Prop :=
 vs.size=args.length/\∀ (j:Nat) (a:AV) (v:Value),args[j]?=some a->vs[j]?=some v->ARel θ W a v
def HasBody (P:Program) (f:Nat):Prop:=∃ fn,P.funcs[f]?=some fn/\fn.body.isSome=true/\(fn.name == "runtime.NumGoroutine")=false
def ACall (P:Program) (f:Nat) (args:List AV) (H:List AO) (Q:AV->List AO->Prop):Prop :=
 HasBody P f/\∀ (w:World) (θ:Th) (W:Im) (vs:Array Value),SR θ W H w->Rels θ W args vs ->
  Calls P f vs w fun e w'=>∃ v r H' θ' W',e=.returned v/\Q r H'/\SR θ' W' H' w'/\ARel θ' W' r v/\Stp θ W w θ' W' w'
def callK (d:MD) (K:St->Prop) (st:St) (r:AV) (H:List AO):Prop:=K (St.put ⟨st.L,st.T,H⟩ d r)
def calvK (C:CallP) (x:AV) (args:List AV) (d:MD) (K:St->Prop) (st:St):Prop :=
 match x with
 | .clo f caps=>C f (args++caps) st.H (callK d K st)
 | _=>False
def gets (st:St):List MA->List AV
 | []=>[]
 | x :: xs=>st.get x :: gets st xs
def aliveV (H : List AO) : AV → Bool
  | .ptr id _ => match H[id]? with
    | some (.var _) => true
    | _ => false
  | _ => false
def keyOk (kd:Option IntKind) (H:List AO) (k:AV):Bool :=
 match kd,k with
 | some kk,.p (.i k' _)=>decide (kk=k')
 | none,k=>aliveV H k
 | _,_=>false
def keyEq:AV->AV->Option Bool
 | .p (.i k a),.p (.i k' b)=>if k=k' then some (decide (a=b)) else none
 | .ptr id o,.ptr id' o'=>some (decide (id=id') && decide (o=o'))
 | _,_=>none
def mfind (k : AV) : List (AV × AV) → Option (Option (Nat × AV))
  | [] => some none
  | x :: es => match keyEq k x.1 with
    | some true => some (some (0, x.2))
    | some false => match mfind k es with
      | some (some (j, v)) => some (some (j + 1, v))
      | some none => some none
      | none => none
    | none => none
def mokV (ok:Bool) (v:AV) (b:Bool):AV:=if ok then .tup [v,.p (.b b)] else v
def mgetV (H : List AO) (kd : Option IntKind) (z : AV) (ok : Bool) (m k : AV) : Option AV :=
  match m with
  | .p .nm => if keyOk kd H k then some (mokV ok z false) else none
  | .mp id => match H[id]? with
    | some (.mapo es) => if keyOk kd H k && es.all (fun x => keyOk kd H x.1) then
        match mfind k es with
        | some (some (_, v)) => some (mokV ok v true)
        | some none => some (mokV ok z false)
        | none => none
      else none
    | _ => none
  | _ => none
def msetH (H : List AO) (kd : Option IntKind) (m k v : AV) : Option (List AO) :=
  match m with
  | .mp id => match H[id]? with
    | some (.mapo es) => if keyOk kd H k && es.all (fun x => keyOk kd H x.1) then
        match mfind k es with
        | some (some (j, _)) => some (H.set id (.mapo (es.set j (k, v))))
        | some none => some (H.set id (.mapo (es ++ [(k, v)])))
        | none => none
      else none
    | _ => none
  | _ => none
def peqV (H:List AO) (ne:Bool) (x y:AV):Option AV :=
 if aliveV H x && aliveV H y then (keyEq x y).map fun b=>.p (.b (if ne then !b else b)) else none
def s2bV:AV->Option AV
 | .p (.s l)=>some (.p (.l (l.map fun c=>[.i .u8 c.toNat])))
 | _=>none
def pureR:List AV->Option (List PV)
 | []=>some []
 | .p q :: r=>(pureR r).map (q :: ·)
 | _=>none
def pureRs : List (List AV) → Option (List (List PV))
  | [] => some []
  | r :: rs => match pureR r, pureRs rs with
    | some y, some ys => some (y :: ys)
    | _, _ => none
def bslkV (st:St) (sz:Nat) (z:List AV) (n:Nat) (ps:List (Nat × MA)):Option AV:=(rowsV st sz ps (List.replicate n z)).bind fun rs=>(pureRs rs).map fun ys=>.p (.l ys)
def stepU (C:CallP) (o:MO) (d:MD) (K:St->Prop) (st:St):Prop :=
 match o with
 | .mv x=>K (st.put d (st.get x))
 | .pick c x y=>withV (pickV (st.get c) (st.get x) (st.get y)) d K st
 | .alloc z=>newK (some (.var z)) (fun id=>.ptr id 0) d K st
 | .box n x=>newK (if (st.get x).allOne && (st.get x).cells.length == n then some (.var (st.get x).cells) else none) (fun id=>.ptr id 0) d K st
 | .build z ps=>withV (buildV st z ps) d K st
 | .bsl sz z n ps=>newK ((rowsV st sz ps (List.replicate n z)).map fun rs=>.rows sz 0 rs) (fun id=>.gs id 0 0 n) d K st
 | .ld agg n x=>withV (ldV agg n (ldAt st.H (st.get x))) d K st
 | .sto n x v=>withH (stoH st.H n (st.get x) (st.get v)) d K st
 | .nilc x=>withV (nilcV (st.get x)) d K st
 | .bin op x y=>binK op (st.get x) (st.get y) d K st
 | .un op x=>withV (eun op (st.get x)) d K st
 | .conv k x=>withV (convV k (st.get x)) d K st
 | .b2s x=>withV (b2sV st.H (st.get x)) d K st
 | .b2sn x=>withV (b2sV st.H (st.get x)) d K st
 | .mkf f caps=>withV (some (.clo f (gets st caps))) d K st
 | .mks sz bytes z l c=>mksK sz bytes z (st.get l) (st.get c) d K st
 | .slc k x lo hi=>slcK k (st.get x) (lo.map st.get) (hi.map st.get) d K st
 | .fad off x=>withV (fadV off (st.get x)) d K st
 | .fld agg off n x=>withV (match st.get x with | .st cs=>ldV agg n (some (cs.drop off)) | _=>none) d K st
 | .ixs sz x i=>ixsK sz (st.get x) (st.get i) d K st
 | .ixa len sz x i=>ixaK len sz (st.get x) (st.get i) d K st
 | .ixt x i=>ixtK (st.get x) (st.get i) d K st
 | .ext x n=>withV (extV n (st.get x)) d K st
 | .call f args=>C f (gets st args) st.H (callK d K st)
 | .calv x args=>calvK C (st.get x) (gets st args) d K st
 | .app sz bytes x y=>appK sz bytes (st.get x) (st.get y) d K st
 | .appn sz bytes x y=>appK sz bytes (st.get x) (st.get y) d K st
 | .ston n x v=>withH (stoH st.H n (st.get x) (st.get v)) d K st
 | .len s x=>lenK s (st.get x) d K st
 | .lenq s x=>withV (lenqV s (st.get x)) d K st
 | .cap x=>withV (capV (st.get x)) d K st
 | .appz sz bytes x n=>appzK sz bytes (st.get x) (st.get n) d K st
 | .mnx mx x y=>withV (mnxV mx (st.get x) (st.get y)) d K st
 | .beq ne x y=>withV (beqV ne (st.get x) (st.get y)) d K st
 | .nilq sl ne x=>nilqK sl ne (st.get x) d K st
 | .nii ne x=>withV (niiV ne (st.get x)) d K st
 | .sq ne n x y=>withV (sqV ne n (st.get x) (st.get y)) d K st
 | .mkm=>newK (some (.mapo [])) (fun id=>.mp id) d K st
 | .mget kd z ok m k=>withV (mgetV st.H kd z ok (st.get m) (st.get k)) d K st
 | .mset kd m k v=>withH (msetH st.H kd (st.get m) (st.get k) (st.get v)) d K st
 | .peq ne x y=>withV (peqV st.H ne (st.get x) (st.get y)) d K st
 | .lde agg n x=>withV (ldV agg n (ldAt st.H (st.get x))) d K st
 | .ixse sz x i=>ixsK sz (st.get x) (st.get i) d K st
 | .s2b x=>withV (s2bV (st.get x)) d K st
 | .bslk sz z n ps=>withV (bslkV st sz z n ps) d K st
 | .stop=>False
def splitK (c:Prop) (A B:St->Prop) (st:St):Prop:=(c->A st)/\(¬ c->B st)
def condK (v:AV) (A B:St->Prop) (st:St):Prop :=
 match v with
 | .p (.b t)=>splitK (t=true) A B st
 | _=>False
def skipK (d:MD) (K:St->Prop) (st:St):Prop:=K (st.put d (.tup []))
def guardK (v:AV) (want:Bool) (A B:St->Prop) (st:St):Prop :=
 match v,want with
 | .tup [],_=>B st
 | v,true=>condK v A B st
 | v,false=>condK v B A st
def stepI (C:CallP) (o:MI) (K:St->Prop) (st:St):Prop :=
 match o.guard with
 | none=>stepU C o.op o.dst K st
 | some (t,want)=>guardK (st.get t) want (stepU C o.op o.dst K) (skipK o.dst K) st
def runOps (C:CallP):List MI->(St->Prop)->St->Prop
 | [],K,st=>K st
 | o :: os,K,st=>stepI C o (runOps C os K) st
def Hext (H H':List AO):Prop:=∀ (id:Nat) (o:AO),H[id]?=some o->o≠.dead->H'[id]?=some o
abbrev PK:=List AO->St->Prop
def reK (Hc N:List AO) (K:PK) (st:St):Prop:=K Hc ⟨st.L,st.T,N⟩
def pureQ (r:AV) (H:List AO) (r':AV) (H':List AO):Prop:=r'=r/\H'=H
def idOf:AV->Option Nat
 | .gs id _ _ _=>some id
 | .ptr id _=>some id
 | _=>none
def InO (c:AV):AO->Prop
 | .var cs=>c∈cs
 | .rows _ _ rs=>∃ r∈rs,c∈r
 | .mapo es=>∃ x∈es,c=x.1\/c=x.2
 | _=>False
inductive Rch (N:List AO) (b:Nat) (p:Nat->Prop):Nat->Prop
 | arg {id:Nat} (h:p id) (hb:b<=id):Rch N b p id
 | step {id id':Nat} {ob:AO} {c:AV} (h:Rch N b p id) (hN:N[id - b]?=some ob) (hc:InO c ob) (e:idOf c=some id') (hb:b<=id'):Rch N b p id'
theorem Rch.mono {N:List AO} {b:Nat} {p q:Nat->Prop} (hpq:∀ i,p i->q i) {id:Nat} (h:Rch N b p id):Rch N b q id:=by
 induction h with
 | arg h hb=>exact .arg (hpq _ h) hb
 | step _ hN hc e hb ih=>exact .step ih hN hc e hb
theorem Rch.ge {N:List AO} {b:Nat} {p:Nat->Prop} {id:Nat} (h:Rch N b p id):b<=id:=by
 cases h with
 | arg _ hb=>exact hb
 | step _ _ _ _ hb=>exact hb
def FillA (args:List AV) (N A:List AO) (b:Nat):Prop:=∀ id ob,Rch N b (fun i=>∃ x∈args,idOf x=some i) id->N[id - b]?=some ob->A[id - b]?=some ob
theorem FillA.get {args:List AV} {N A:List AO} {b:Nat} (h:FillA args N A b):∀ x∈args,∀ id ob,idOf x=some id->b<=id->N[id - b]?=some ob->A[id - b]?=some ob:=fun x hx id ob e hb hN=>h id ob (.arg ⟨x,hx,e⟩ hb) hN
def pcallK (C:CallP) (Hm Hc N:List AO) (f:Nat) (args:List AV) (d:MD) (K:PK) (st:St):Prop :=
 (∃ r Hc',Hc'.length=Hc.length/\Hext Hm Hc'/\(∀ A,FillA args N A Hc.length->C f args (Hc++A) (pureQ r (Hc'++A)))/\K Hc' (st.put d r)) \/
 (∃ (ob:AO) (mk:Nat->AV),(∀ (H:List AO) (j:Nat),Hext Hm H->H[j]?=some .rsv->C f args H (pureQ (mk j) (H.set j ob)))/\K Hc (St.put ⟨st.L,st.T,st.H++[ob]⟩ d (mk (Hc.length+st.H.length))))
def effK (Hm Hc N:List AO) (K:PK) (st:St):Prop:=st.H.length=Hc.length/\Hext Hm st.H/\K st.H ⟨st.L,st.T,N⟩
def nwK (Hc:List AO) (o:Option AO) (mk:Nat->AV) (d:MD) (K:PK) (st:St):Prop :=
 match o with
 | some o=>K Hc (St.put ⟨st.L,st.T,st.H++[o]⟩ d (mk (Hc.length+st.H.length)))
 | none=>False
inductive Kd where
 | quiet | call | new | eff | apn | rdn | ear | bad
def kindOf:MO->Kd
 | .mv _ | .pick .. | .build .. | .ld .. | .nilc _ | .bin .. | .un .. | .conv .. | .b2s _ | .mkf .. | .slc .. | .fad .. | .fld .. | .ixs .. | .ixa .. | .ixt .. | .ext .. | .cap _ | .lenq .. | .mnx .. | .beq .. | .nilq .. | .sq .. | .nii .. | .s2b .. | .bslk ..=>.quiet
 | .call .. | .calv ..=>.call
 | .alloc _ | .box .. | .bsl .. | .mks ..=>.new
 | .app .. | .sto ..=>.eff
 | .appn .. | .ston ..=>.apn
 | .b2sn _=>.rdn
 | .lde .. | .ixse ..=>.ear
 | _=>.bad
def preC (C : CallP) (Hm Hc : List AO) (o : MO) (d : MD) (K : PK) (st : St) : Prop :=
  match o with
  | .call f args => pcallK C Hm Hc st.H f (gets st args) d K st
  | .calv x args => match st.get x with
    | .clo f caps => pcallK C Hm Hc [] f (gets st args ++ caps) d K st
    | _ => False
  | _ => False
def mksN (Hc:List AO) (sz bytes:Nat) (z:List AV) (l c:AV) (d:MD) (K:PK) (st:St):Prop :=
 match l,c with
 | .p (.i .i64 l),.p (.i .i64 c)=>0<=l/\l<=c/\c * bytes<=140737488355328/\c<=140737488355328/\nwK Hc (some (.rows sz 0 (List.replicate l.toNat z))) (fun id=>.gs id 0 0 l.toNat) d K st
 | _,_=>False
def preN (Hc:List AO) (o:MO) (d:MD) (K:PK) (st:St):Prop :=
 match o with
 | .alloc z=>nwK Hc (some (.var z)) (fun id=>.ptr id 0) d K st
 | .box n x=>nwK Hc (if (st.get x).allOne && (st.get x).cells.length == n then some (.var (st.get x).cells) else none) (fun id=>.ptr id 0) d K st
 | .bsl sz z n ps=>nwK Hc ((rowsV st sz ps (List.replicate n z)).map fun rs=>.rows sz 0 rs) (fun id=>.gs id 0 0 n) d K st
 | .mks sz bytes z l c=>mksN Hc sz bytes z (st.get l) (st.get c) d K st
 | _=>False
def srcN (Hm Hc N:List AO) (sz:Nat) (y:AV):Option (List (List AV)) :=
 match y with
 | .gs id v o n=>if Hc.length<=id then srcR sz v o n N[id - Hc.length]? else srcR sz v o n Hm[id]?
 | y=>srcRows [] sz y
def appnN (Hc:List AO) (sz bytes id k v n:Nat) (ys:List (List AV)) (d:MD) (K:PK) (st:St):Option AO->Prop
 | some (.rows sz' v' rs)=>sz'=sz/\v'=v/\n<=rs.length/\(n+ys.length) * bytes<=140737488355328/\n+ys.length<=140737488355328 /\
   K Hc (St.put ⟨st.L,st.T,st.H.set k (.rows sz (v+1) (rs.take n++ys))⟩ d (.gs id (v+1) 0 (n+ys.length)))
 | _=>False
def appnR (Hm Hc:List AO) (sz bytes:Nat) (x:AV) (ys:List (List AV)) (d:MD) (K:PK) (st:St):Prop :=
 (∀ r∈ys,r.length=sz)/\((x=.p .nl/\ys≠[]/\ys.length * bytes<=140737488355328/\ys.length<=140737488355328/\nwK Hc (some (.rows sz 0 ys)) (fun id=>.gs id 0 0 ys.length) d K st) \/
  appX sz bytes x ys d (effK Hm Hc st.H K) ⟨st.L,st.T,Hc⟩\/∃ id v n,x=.gs id v 0 n/\Hc.length<=id/\appnN Hc sz bytes id (id - Hc.length) v n ys d K st st.H[id - Hc.length]?)
def appnY (Hm Hc:List AO) (sz bytes:Nat) (x:AV) (ys:Option (List (List AV))) (d:MD) (K:PK) (st:St):Prop :=
 match ys with
 | some ys=>appnR Hm Hc sz bytes x ys d K st
 | none=>False
def stonR (Hc : List AO) (k off : Nat) (us : Option (List AV)) (d : MD) (K : PK) (st : St) : Option AO → Prop
  | some (.var cs) => match us.bind (splice cs off) with
    | some cs' => K Hc (St.put ⟨st.L, st.T, st.H.set k (.var cs')⟩ d .any)
    | none => False
  | _ => False
def stonU (n:Nat) (v:AV):Option (List AV):=if v.allOne && v.cells.length == n then some v.cells else none
def stonK (Hc:List AO) (n:Nat) (x v:AV) (d:MD) (K:PK) (st:St):Prop :=
 match x with
 | .ptr id off=>Hc.length<=id/\stonR Hc (id - Hc.length) off (stonU n v) d K st st.H[id - Hc.length]?
 | _=>False
def MA.isC:MA->Bool | .c _=>true | _=>false
def appnK (Hm Hc:List AO) (o:MO) (d:MD) (K:PK) (st:St):Prop :=
 match o with
 | .appn sz bytes x y=>if x.isC || y.isC then False else appnY Hm Hc sz bytes (st.get x) (srcN Hm Hc st.H sz (st.get y)) d K st
 | .ston n x v=>if x.isC then False else stonK Hc n (st.get x) (st.get v) d K st
 | _=>False
def rdnX (Hc:List AO) (v:AV) (d:MD) (K:PK) (st:St):Prop :=
 match v with
 | .gs id ver off n=>Hc.length<=id/\withV (b2sR (srcR 1 ver off n st.H[id - Hc.length]?)) d (K Hc) st
 | _=>False
def rdnK (Hc:List AO) (o:MO) (d:MD) (K:PK) (st:St):Prop :=
 match o with
 | .b2sn x=>if x.isC then False else rdnX Hc (st.get x) d K st
 | _=>False
def preU (C:CallP) (Hm Hc:List AO) (o:MO) (d:MD) (K:PK) (st:St):Prop :=
 match kindOf o with
 | .quiet=>stepU C o d (reK Hc st.H K) ⟨st.L,st.T,Hm⟩
 | .call=>preC C Hm Hc o d K st
 | .new=>preN Hc o d K st
 | .eff=>stepU C o d (effK Hm Hc st.H K) ⟨st.L,st.T,Hc⟩
 | .apn=>appnK Hm Hc o d K st
 | .rdn=>rdnK Hc o d K st
 | .ear=>stepU C o d (reK Hc st.H K) ⟨st.L,st.T,Hc⟩
 | .bad=>False
def preI (C:CallP) (Hm Hc:List AO) (o:MI) (K:PK) (st:St):Prop :=
 match o.guard with
 | none=>preU C Hm Hc o.op o.dst K st
 | some (t,want)=>guardK (st.get t) want (preU C Hm Hc o.op o.dst K) (skipK o.dst (K Hc)) st
def preK (C:CallP) (Hm:List AO):List MI->PK->PK
 | [],K,Hc,st=>K Hc st
 | o :: os,K,Hc,st=>preI C Hm Hc o (preK C Hm os K) st
def endK (K:St->Prop) (Hc:List AO) (st:St):Prop:=K ⟨st.L,st.T,Hc++st.H⟩
def drwK (C:CallP) (pre:List MI) (K:St->Prop) (st:St):Prop:=∃ Hm,Hext Hm st.H/\preK C Hm pre (endK K) st.H ⟨st.L,st.T,[]⟩
inductive Ex where
 | nm | ex (id:Nat) | rt
def thenK (K:St->Prop) (Q:Ex->St->Prop):Ex->St->Prop
 | .nm,st=>K st
 | e,st=>Q e st
def blkK (id:Nat) (Q:Ex->St->Prop):Ex->St->Prop
 | .ex i,st=>if i=id then Q .nm st else Q (.ex i) st
 | e,st=>Q e st
def regK (K:St->Prop) (st:St):Prop:=K ⟨st.L,[],st.H⟩
def loopK (B:(Ex->St->Prop)->St->Prop) (Q:Ex->St->Prop) (st:St):Prop :=
 ∃ (α:Type) (lv:List Nat) (I:α->St->Prop) (μ:α->Nat),(∃ x,I x ⟨ekeep lv st.L,[],st.H⟩) /\
  ∀ x st',I x st'->B (thenK (fun st''=>∃ y,I y ⟨ekeep lv st''.L,[],st''.H⟩/\μ y<μ x) Q) st'
def wpm (C:CallP):MC->(Ex->St->Prop)->St->Prop
 | .skip,Q,st=>Q .nm st
 | .reg os,Q,st=>runOps C os (regK (Q .nm)) st
 | .seq a b,Q,st=>wpm C a (thenK (wpm C b Q) Q) st
 | .cond c a b,Q,st=>condK (st.get c) (wpm C a Q) (wpm C b Q) st
 | .blk id b,Q,st=>wpm C b (blkK id Q) st
 | .loop b,Q,st=>loopK (wpm C b) Q st
 | .exit id,Q,st=>Q (.ex id) st
 | .ret,Q,st=>Q .rt st
 | .drw pre tail,Q,st=>drwK C pre (runOps C tail (regK (Q .nm))) st
 | .stop,_,_=>False
inductive MR where
 | t (n:Nat)
 | cell (agg:Bool) (n:Nat) (a:Nat)
def resV (st : St) : MR → Option AV
  | .t n => some (eget st.L n)
  | .cell agg n a => match eget st.L a with
    | .ptr id o => ldV agg n (ldAt st.H (.ptr id o))
    | _ => none
def resVs (st : St) : List MR → Option (List AV)
  | [] => some []
  | r :: rs => match resV st r, resVs st rs with
    | some v, some vs => some (v :: vs)
    | _, _ => none
def retV (st:St):List MR->Option AV
 | [r]=>resV st r
 | rs=>(resVs st rs).map .tup
def retK (rs:List MR) (Q:AV->List AO->Prop) (st:St):Prop :=
 match retV st rs with
 | some v=>Q v st.H
 | none=>False
def finK (rs:List MR) (Q:AV->List AO->Prop):Ex->St->Prop
 | .ex _,_=>False
 | _,st=>retK rs Q st
def argEnv:Nat->List AV->En
 | _,[]=>[]
 | i,a :: as=>(i,a) :: argEnv (i+1) as
end Go.AM
set_option linter.all false
namespace Go.AM
def ofVal1:Value->Option AV
 | .bool b=>some (.p (.b b))
 | .int k n=>some (.p (.i k n))
 | .string s=>if s.size<=maxL then some (.p (.s s.data.toList)) else none
 | .pointer none=>some (.p .np)
 | .slice none 0 0=>some (.p .nl)
 | .nilFunc=>some (.p .nf)
 | .map none=>some (.p .nm)
 | .nilIface=>some (.p .ni)
 | _=>none
def ofVals1 : List Value → Option (List AV)
  | [] => some []
  | v :: vs => match ofVal1 v, ofVals1 vs with
    | some a, some l => some (a :: l)
    | _, _ => none
def ofVal:Value->Option AV
 | .agg cs=>(ofVals1 cs.toList).map .st
 | v=>ofVal1 v
def cTmp (lv:List Nat) (t:Nat):MA:=if lmem lv t=true then .l t else .t t
def cArg (lv:List Nat):Operand->Option MA
 | .tmp t=>some (cTmp lv t)
 | .const v=>(ofVal v).map .c
 | .func f=>some (.c (.clo f []))
 | .global _=>none
def cArgs (lv : List Nat) : List Operand → Option (List MA)
  | [] => some []
  | x :: xs => match cArg lv x, cArgs lv xs with
    | some a, some l => some (a :: l)
    | _, _ => none
def zeroOf (P : Program) (t : TypeId) : Option (List AV) :=
  match P.info? t with
  | some i => match i.zero with
    | some z => ofVals1 z.cells.toList
    | none => none
  | none => none
def sizeT (P:Program) (t:TypeId):Option Nat:=(P.info? t).map (·.size)
def aggT (P:Program) (t:TypeId):Option Bool :=
 match P.underlying t with
 | some (.struct _)=>some true
 | some (.array _ _)=>some true
 | some _=>some false
 | none=>none
def fieldOf (P : Program) (s : TypeId) (f : Nat) : Option (Nat × TypeId × Nat) :=
  match P.underlying s with
  | some (.struct fs) => match fs[f]? with
    | some fd => (sizeT P fd.type).map fun n => (fd.offset, fd.type, n)
    | none => none
  | _ => none
def cParts (lv : List Nat) (P : Program) (t : TypeId) : List (Nat × Operand) → Option (List (Nat × Nat × MA))
  | [] => some []
  | (f, x) :: ps => match fieldOf P t f, cArg lv x, cParts lv P t ps with
    | some (off, _, n), some a, some l => some ((off, n, a) :: l)
    | _, _, _ => none
def cElems (lv : List Nat) : List (Nat × Operand) → Option (List (Nat × MA))
  | [] => some []
  | (i, x) :: ps => match cArg lv x, cElems lv ps with
    | some a, some l => some ((i, a) :: l)
    | _, _ => none
def cOpt (lv:List Nat):Option Operand->Option (Option MA)
 | none=>some none
 | some x=>(cArg lv x).map some
def elemT (P:Program) (t:TypeId):Option TypeId :=
 match P.underlying t with
 | some (.slice e)=>some e
 | _=>none
def cCall (lv : List Nat) (P : Program) (c : Call) : Option MO :=
  match c.callee, cArgs lv c.args.toList with
  | .value (.func f), some as => match P.funcs[f]? with
    | some fn => if fn.body.isSome && !(fn.name == "runtime.NumGoroutine") then some (.call f as) else none
    | none => none
  | .value (.tmp t), some as => some (.calv (cTmp lv t) as)
  | .builtin .len, some [x] => match (c.argTypes[0]?).bind P.underlying with
    | some (.slice _) => some (.len false x)
    | some .string => some (.len true x)
    | _ => none
  | .builtin .cap, some [x] => match (c.argTypes[0]?).bind P.underlying with
    | some (.slice _) => some (.cap x)
    | _ => none
  | .builtin .append, some [x, y] => match c.argTypes.toList with
    | [t, u0] => match P.underlying u0 with
     | none => none
     | some u => match elemT P t with
      | some e => match P.info? e with
        | some i => match zeroOf P e, u with
          | some z, .slice _ => if z.length == i.size && decide (0 < i.size) then some (.app i.size i.bytes x y) else none
          | some z, .string => if z.length == i.size && decide (0 < i.size) then some (.app i.size i.bytes x y) else none
          | some z, .int .i64 => if z.length == i.size && decide (0 < i.size) then some (.appz i.size i.bytes x y) else none
          | _, _ => none
        | none => none
      | none => none
    | _ => none
  | .builtin .min, some [x, y] => some (.mnx false x y)
  | .builtin .max, some [x, y] => some (.mnx true x y)
  | _, _ => none
def plainFs (P:Program):Nat->List Field->Bool
 | _,[]=>true
 | i,f :: fs=>f.offset == i && f.name != "_" && P.plainKey f.type && (match P.underlying f.type with | some (.int _)=>true | _=>false) && plainFs P (i+1) fs
def cSq (P:Program) (t:TypeId) (fs:List Field) (op:BinOp) (x y:MA):Option MO :=
 if plainFs P 0 fs && !P.eqGuardType P.depth t && !P.stoodInHeld t then
  match op with
  | .eql=>some (.sq false fs.length x y)
  | .neq=>some (.sq true fs.length x y)
  | _=>none
 else none
def cNii (op:BinOp) (x:MA):Option MO :=
 match op with
 | .eql=>some (.nii false x)
 | .neq=>some (.nii true x)
 | _=>none
def cNilq (sl:Bool) (op:BinOp) (x:MA):Option MO :=
 match op with
 | .eql=>some (.nilq sl false x)
 | .neq=>some (.nilq sl true x)
 | _=>none
def cPeq (P:Program) (e:TypeId) (op:BinOp) (x y:MA):Option MO :=
 match sizeT P e with
 | some n=>if decide (0<n) then match op with
   | .eql=>some (.peq false x y)
   | .neq=>some (.peq true x y)
   | _=>none
  else none
 | none=>none
def cKey (P : Program) (t : TypeId) : Option (Option IntKind) :=
  match P.underlying t with
  | some (.int k) => some (some k)
  | some (.pointer e) => match sizeT P e with
    | some n => if decide (0 < n) then some none else none
    | none => none
  | _ => none
def zero1 (P : Program) (t : TypeId) : Option AV :=
  match P.info? t with
  | some i => match i.zero with
    | some (.agg _) => none
    | some z => match ofVals1 [z] with
      | some [c] => some c
      | _ => none
    | none => none
  | none => none
def cMap (P : Program) (t : TypeId) : Option (Option IntKind × AV) :=
  match P.underlying t with
  | some (.map kt et) => match cKey P kt, zero1 P et with
    | some kd, some z => some (kd, z)
    | _, _ => none
  | _ => none
def cOp (lv : List Nat) (P : Program) (o : Op) : Option MO :=
  match o with
  | .move x => (cArg lv x).map .mv
  | .assign x => (cArg lv x).map .mv
  | .pick c a b => match cArg lv c, cArg lv a, cArg lv b with
    | some c, some a, some b => some (.pick c a b)
    | _, _, _ => none
  | .alloc t => (zeroOf P t).map .alloc
  | .box t x => match cArg lv x, sizeT P t with
    | some x, some n => some (.box n x)
    | _, _ => none
  | .build t ps => match P.underlying t with
    | some (.struct fs) => match zeroOf P t, cParts lv P t ps.toList with
      | some z, some ps => if fs.toList.all (fun f => (sizeT P f.type).isSome) && ps.all (fun m => decide (0 < m.2.1)) then some (.build z ps) else none
      | _, _ => none
    | _ => none
  | .buildSlice t n ps => match elemT P t with
    | some e => match sizeT P e, zeroOf P e, cElems lv ps.toList with
      | some sz, some z, some ps => if z.length == sz && decide (0 < sz) && decide (n * sz ≤ 16777216) then some (.bsl sz z n ps) else none
      | _, _, _ => none
    | none => none
  | .load t x => match cArg lv x, aggT P t, sizeT P t with
    | some x, some g, some n => some (.ld g n x)
    | _, _, _ => none
  | .store t x v => match cArg lv x, cArg lv v, sizeT P t with
    | some x, some v, some n => if decide (0 < n) then some (.sto n x v) else none
    | _, _, _ => none
  | .nilCheck x => (cArg lv x).map .nilc
  | .binOp op t x y _ => match cArg lv x, cArg lv y, P.underlying t with
    | some x, some y, some (.int _) => some (.bin op x y)
    | some x, some y, some .string => some (.bin op x y)
    | some x, some y, some .bool => match op with
      | .eql => some (.beq false x y)
      | .neq => some (.beq true x y)
      | _ => none
    | some x, some y, some (.struct fs) => cSq P t fs.toList op x y
    | some x, some (.c (.p .ni)), some (.interface _) => cNii op x
    | some x, some (.c (.p .nl)), some (.slice _) => cNilq true op x
    | some x, some (.c (.p .np)), some (.pointer _) => cNilq false op x
    | some x, some y, some (.pointer e) => cPeq P e op x y
    | _, _, _ => none
  | .unOp op _ x => (cArg lv x).map (.un op)
  | .convert s t x => match cArg lv x, P.underlying s, P.underlying t with
    | some x, some _, some (.int k) => some (.conv k x)
    | some x, some (.slice e), some .string => match P.underlying e with
      | some (.int .u8) => some (.b2s x)
      | _ => none
    | some x, some .string, some (.slice e) => match P.underlying e with
      | some (.int .u8) => some (.s2b x)
      | _ => none
    | _, _, _ => none
  | .makeFunc (.func f) first caps => if first.isEmpty then (cArgs lv caps.toList).map (.mkf f) else none
  | .makeSlice t l c => match elemT P t, cArg lv l, cArg lv c with
    | some e, some l, some c => match P.info? e, zeroOf P e with
      | some i, some z => if z.length == i.size && decide (0 < i.size) then some (.mks i.size i.bytes z l c) else none
      | _, _ => none
    | _, _, _ => none
  | .slice t x lo hi none => match P.underlying t, cArg lv x, cOpt lv lo, cOpt lv hi with
    | some .string, some x, some lo, some hi => some (.slc none x lo hi)
    | some (.slice e), some x, some lo, some hi => (sizeT P e).map fun n => .slc (some n) x lo hi
    | _, _, _, _ => none
  | .fieldAddr s x f => match fieldOf P s f, cArg lv x with
    | some (off, _, n), some x => if decide (0 < n) then some (.fad off x) else none
    | _, _ => none
  | .field s x f => match fieldOf P s f, cArg lv x with
    | some (off, t, n), some x => (aggT P t).map fun g => .fld g off n x
    | _, _ => none
  | .indexAddr t x i => match P.underlying t, cArg lv x, cArg lv i with
    | some (.slice e), some x, some i => (sizeT P e).bind fun n => if decide (0 < n) then some (.ixs n x i) else none
    | some (.array len e), some x, some i => (sizeT P e).map fun n => .ixa len n x i
    | _, _, _ => none
  | .index t x i => match P.underlying t, cArg lv x, cArg lv i with
    | some .string, some x, some i => some (.ixt x i)
    | _, _, _ => none
  | .extract x n => (cArg lv x).map fun x => .ext x n
  | .makeMap _ none => some .mkm
  | .lookup t m k ok => match cMap P t, cArg lv m, cArg lv k with
    | some (kd, z), some m, some k => some (.mget kd z ok m k)
    | _, _, _ => none
  | .mapUpdate t m k v => match cMap P t, cArg lv m, cArg lv k, cArg lv v with
    | some (kd, _), some m, some k, some v => some (.mset kd m k v)
    | _, _, _, _ => none
  | .call c => cCall lv P c
  | _ => none
def cGuard (lv : List Nat) (ops : Array Oper) : Option (Nat × Bool) → Option (Option (MA × Bool))
  | none => some none
  | some (j, want) => match (ops[j]?).bind (·.dst) with
    | some t => some (some (cTmp lv t, want))
    | none => none
def cDst (lv:List Nat):Option Nat->MD
 | none=>.no
 | some d=>if lmem lv d=true then .l d else .t d
def cOper (lv:List Nat) (P:Program) (N:Nat) (ops:Array Oper) (o:Oper):MI :=
 match cOp lv P o.op,cGuard lv ops o.guard with
 | some m,some g=>if o.dst.all (decide <| ·<N) then ⟨cDst lv o.dst,m,g⟩ else ⟨.no,.stop,none⟩
 | _,_=>⟨.no,.stop,none⟩
def freshY (ops:Array Oper) (y:MA):Bool :=
 match y with
 | .t t=>ops.toList.any fun o=>o.dst == some t && (match o.op with | .buildSlice _ _ _=>true | .makeSlice _ _ _=>true | .call c=>(match c.callee with | .builtin .append=>true | _=>false) | _=>false)
 | _=>false
def freshV (ops:Array Oper) (y:MA):Bool :=
 match y with
 | .t t=>ops.toList.any fun o=>o.dst == some t && (match o.op with | .alloc _=>true | _=>false)
 | .l t=>ops.toList.any fun o=>o.dst == some t && (match o.op with | .alloc _=>true | _=>false)
 | _=>false
def noUpd (ops:Array Oper):Bool :=
 ops.toList.all fun o=>match o.op with
 | .store _ _ _=>false
 | .call c=>(match c.callee with | .builtin .append=>false | _=>true)
 | _=>true
def isStO (o:Oper):Bool:=match o.op with | .store _ _ _=>true | _=>false
def isCaO (o:Oper):Bool:=match o.op with | .call _=>true | _=>false
def isRdO (o:Oper):Bool:=match o.op with | .load _ _=>true | .indexAddr _ _ _=>true | _=>false
def waitsOn (o:Oper):List Nat:=(o.after.toList.filter (Region.binds .any)).map (·.on)
def closStep (acc:List Nat) (es:List Nat):Nat:=es.foldl (fun s e=>s ||| 2 ^ e ||| acc.getD e 0) 0
def clos:List (List Nat)->List Nat->List Nat
 | [],acc=>acc
 | es :: ws,acc=>clos ws (acc++[closStep acc es])
def closOf (ops:Array Oper):List Nat:=clos (ops.toList.map waitsOn) []
def waitsT (cl:List Nat) (j i:Nat):Bool:=(cl.getD j 0).testBit i
def ordd (cl:List Nat) (i j:Nat):Bool:=i == j || (decide (j<i) && waitsT cl i j) || (decide (i<j) && waitsT cl j i)
def swp2 (cl : List Nat) (ops : Array Oper) : Bool :=
  (List.range ops.size).all fun i => match ops[i]? with
    | some o => if isRdO o = true then ((List.range ops.size).all fun j => match ops[j]? with
      | some p => if isStO p = true then ordd cl i j else true
      | none => true) else true
    | none => true
def swp (ops:Array Oper):Bool :=
 if 2<=(ops.toList.filter isStO).length then (if (ops.toList.any isCaO)=true then false else swp2 (closOf ops) ops) else false
def ixB (ops:Array Oper):Bool :=
 noUpd ops && !(ops.toList.any isCaO) && ops.toList.any fun o=>match o.op with
  | .indexAddr _ (.tmp t) _=>ops.toList.any fun p=>p.dst == some t && (match p.op with | .buildSlice _ _ _=>true | _=>false)
  | _=>false
def unl (ops:Array Oper):MO->MO
 | .len s x=>.lenq s x
 | .app sz b x y=>if (freshY ops x || freshY ops y) && !x.isC && !y.isC then .appn sz b x y else .app sz b x y
 | .sto n x v=>if freshV ops x then .ston n x v else .sto n x v
 | .b2s x=>if freshY ops x && noUpd ops then .b2sn x else .b2s x
 | .ld g n x=>if swp ops then .lde g n x else .ld g n x
 | .ixs sz x i=>if swp ops then .ixse sz x i else .ixs sz x i
 | .bsl sz z n ps=>if ixB ops then .bslk sz z n ps else .bsl sz z n ps
 | m=>m
def unlen (ops:Array Oper) (m:MI):MI:=⟨m.dst,unl ops m.op,m.guard⟩
def looks (ops : Array Oper) (o : Oper) : List Nat :=
  (o.op.operands.toList.filterMap fun | .tmp t => some t | _ => none) ++
  (match o.guard with
   | some (j, _) => ((ops[j]?).bind (·.dst)).toList
   | none => [])
def waitsAll (cl:List Nat) (j:Nat):Bool:=(List.range j).all fun i=>waitsT cl j i
def tailAt (cl:List Nat):Nat->Nat
 | 0=>0
 | j+1=>if waitsAll cl j then tailAt cl j else j+1
def apartOk (cl : List Nat) (ops : Array Oper) (i j : Nat) : Bool :=
  match ops[i]?, ops[j]? with
  | some x, some y =>
    (match y.dst with
     | some d => !(looks ops x).contains d || (decide (j < i) && waitsT cl i j) || (decide (i < j) && waitsT cl j i)
     | none => true) && (i == j || x.dst.isNone || x.dst != y.dst)
  | _, _ => false
def chainM:MO->Bool
 | .call .. | .calv .. | .app .. | .appn .. | .sto .. | .ston ..=>true
 | _=>false
def chainO (lv : List Nat) (P : Program) (ops : Array Oper) (i : Nat) : Bool :=
  match ops[i]? with
  | some o => match cOp lv P o.op with
    | some m => chainM m
    | none => false
  | none => false
def pairsOk (cl:List Nat):List Nat->Bool
 | []=>true
 | i :: is=>is.all (fun j=>waitsT cl j i) && pairsOk cl is
def drwOk (cl : List Nat) (ops : Array Oper) (m : Nat) (ch er : List Nat) : Bool :=
  decide (m ≤ ops.size) && pairsOk cl ch &&
  (er.all fun i => ch.all fun j => ordd cl i j) &&
  ((List.range m).all fun i => (List.range m).all fun j => apartOk cl ops i j) &&
  ((List.range ops.size).all fun i => match ops[i]? with
    | some o => (waitsOn o).all (decide <| · < i) && (decide (i < m) || waitsAll cl i)
    | none => false)
def isEar:MO->Bool
 | .lde ..=>true
 | .ixse ..=>true
 | _=>false
def earO (lv : List Nat) (P : Program) (ops : Array Oper) (i : Nat) : Bool :=
  match ops[i]? with
  | some o => match cOp lv P o.op with
    | some m => isEar (unl ops m)
    | none => false
  | none => false
def ears (lv:List Nat) (P:Program) (ops:Array Oper) (m:Nat):List Nat:=(List.range m).filter (earO lv P ops)
def chains (lv:List Nat) (P:Program) (ops:Array Oper) (m:Nat):List Nat:=(List.range m).filter (chainO lv P ops)
def compile (lv : List Nat) (P : Program) (N : Nat) : Code → MC
  | .skip => .skip
  | .region _ ops false => .reg (ops.toList.map (cOper lv P N ops))
  | .region _ ops true => if drwOk (closOf ops) ops (tailAt (closOf ops) ops.size) (chains lv P ops (tailAt (closOf ops) ops.size)) (ears lv P ops (tailAt (closOf ops) ops.size)) then .drw ((ops.toList.take (tailAt (closOf ops) ops.size)).map fun o => unlen ops (cOper lv P N ops o)) ((ops.toList.drop (tailAt (closOf ops) ops.size)).map (cOper lv P N ops)) else .stop
  | .seq a b => .seq (compile lv P N a) (compile lv P N b)
  | .cond c a b => match cArg lv c with
    | some c => .cond c (compile lv P N a) (compile lv P N b)
    | none => .stop
  | .block id b => .blk id (compile lv P N b)
  | .loop b => .loop (compile lv P N b)
  | .exit id => .exit id
  | .ret => .ret
  | _ => .stop
def cRes (lv : List Nat) (P : Program) (r : ResultVar) : Option MR :=
  match r with
  | .tmp t => if lmem lv t = true then some (.t t) else none
  | .cell a t => if lmem lv a = true then (match aggT P t, sizeT P t with
    | some g, some n => some (.cell g n a)
    | _, _ => none) else none
def cRess (lv : List Nat) (P : Program) : List ResultVar → Option (List MR)
  | [] => some []
  | r :: rs => match cRes lv P r, cRess lv P rs with
    | some m, some l => some (m :: l)
    | _, _ => none
end Go.AM
set_option linter.all false
namespace Go.AM
variable {C:CallP} {Q:Ex->St->Prop} {K A B:St->Prop} {st:St} {d:MD} {L T:En} {H:List AO}
@[go_sem] theorem wpm_skip:wpm C .skip Q st=Q .nm st:=rfl
@[go_sem] theorem wpm_reg (os):wpm C (.reg os) Q st=runOps C os (regK (Q .nm)) st:=rfl
@[go_sem] theorem wpm_seq (a b):wpm C (.seq a b) Q st=wpm C a (thenK (wpm C b Q) Q) st:=rfl
@[go_sem] theorem wpm_cond (c a b):wpm C (.cond c a b) Q st=condK (st.get c) (wpm C a Q) (wpm C b Q) st:=rfl
@[go_sem] theorem wpm_blk (id b):wpm C (.blk id b) Q st=wpm C b (blkK id Q) st:=rfl
@[go_sem] theorem wpm_loop (b):wpm C (.loop b) Q st=loopK (wpm C b) Q st:=rfl
@[go_sem] theorem wpm_exit (id):wpm C (.exit id) Q st=Q (.ex id) st:=rfl
@[go_sem] theorem wpm_ret:wpm C .ret Q st=Q .rt st:=rfl
variable {J:PK} {Hm Hc:List AO}
@[go_sem] theorem wpm_drw (pre tail):wpm C (.drw pre tail) Q st=drwK C pre (runOps C tail (regK (Q .nm))) st:=rfl
@[go_sem] theorem preK_nil:preK C Hm [] J Hc st=J Hc st:=rfl
@[go_sem] theorem preK_cons (o os):preK C Hm (o :: os) J Hc st=preI C Hm Hc o (preK C Hm os J) st:=rfl
@[go_sem] theorem preI_none (o):preI C Hm Hc ⟨d,o,none⟩ J st=preU C Hm Hc o d J st:=rfl
@[go_sem] theorem preI_some (o x w):preI C Hm Hc ⟨d,o,some (x,w)⟩ J st=guardK (st.get x) w (preU C Hm Hc o d J) (skipK d (J Hc)) st:=rfl
@[go_sem] theorem reK_eq (N):reK Hc N J ⟨L,T,H⟩=J Hc ⟨L,T,N⟩:=rfl
@[go_sem] theorem endK_eq:endK K Hc ⟨L,T,H⟩=K ⟨L,T,Hc++H⟩:=rfl
@[go_sem] theorem effK_eq (N):effK Hm Hc N J ⟨L,T,H⟩=(H.length=Hc.length/\Hext Hm H/\J H ⟨L,T,N⟩):=rfl
@[go_sem] theorem nwK_some (o mk):nwK Hc (some o) mk d J ⟨L,T,H⟩=J Hc (St.put ⟨L,T,H++[o]⟩ d (mk (Hc.length+H.length))):=rfl
@[go_sem] theorem pu_call (f args):preU C Hm Hc (.call f args) d J st=pcallK C Hm Hc st.H f (gets st args) d J st:=rfl
@[go_sem] theorem pu_calv (x args):preU C Hm Hc (.calv x args) d J st=preC C Hm Hc (.calv x args) d J st:=rfl
@[go_sem] theorem pu_alloc (z):preU C Hm Hc (.alloc z) d J st=nwK Hc (some (.var z)) (fun id=>.ptr id 0) d J st:=rfl
@[go_sem] theorem pu_box (n x):preU C Hm Hc (.box n x) d J st=nwK Hc (if (st.get x).allOne && (st.get x).cells.length == n then some (.var (st.get x).cells) else none) (fun id=>.ptr id 0) d J st:=rfl
@[go_sem] theorem pu_bsl (sz z n ps):preU C Hm Hc (.bsl sz z n ps) d J st=nwK Hc ((rowsV st sz ps (List.replicate n z)).map fun rs=>.rows sz 0 rs) (fun id=>.gs id 0 0 n) d J st:=rfl
@[go_sem] theorem pu_mks (sz b z l c):preU C Hm Hc (.mks sz b z l c) d J st=mksN Hc sz b z (st.get l) (st.get c) d J st:=rfl
@[go_sem] theorem mksN_i (sz b z) (l c:Int):mksN Hc sz b z (.p (.i .i64 l)) (.p (.i .i64 c)) d J st=(0<=l/\l<=c/\c * b<=140737488355328/\c<=140737488355328/\nwK Hc (some (.rows sz 0 (List.replicate l.toNat z))) (fun id=>.gs id 0 0 l.toNat) d J st):=rfl
@[go_sem] theorem pu_app (s b x y):preU C Hm Hc (.app s b x y) d J ⟨L,T,H⟩=stepU C (.app s b x y) d (effK Hm Hc H J) ⟨L,T,Hc⟩:=rfl
@[go_sem] theorem pu_appn_tt (s b i j):preU C Hm Hc (.appn s b (.t i) (.t j)) d J ⟨L,T,H⟩=appnY Hm Hc s b (eget T i) (srcN Hm Hc H s (eget T j)) d J ⟨L,T,H⟩:=rfl
@[go_sem] theorem pu_appn_tl (s b i j):preU C Hm Hc (.appn s b (.t i) (.l j)) d J ⟨L,T,H⟩=appnY Hm Hc s b (eget T i) (srcN Hm Hc H s (eget L j)) d J ⟨L,T,H⟩:=rfl
@[go_sem] theorem pu_appn_lt (s b i j):preU C Hm Hc (.appn s b (.l i) (.t j)) d J ⟨L,T,H⟩=appnY Hm Hc s b (eget L i) (srcN Hm Hc H s (eget T j)) d J ⟨L,T,H⟩:=rfl
@[go_sem] theorem pu_appn_ll (s b i j):preU C Hm Hc (.appn s b (.l i) (.l j)) d J ⟨L,T,H⟩=appnY Hm Hc s b (eget L i) (srcN Hm Hc H s (eget L j)) d J ⟨L,T,H⟩:=rfl
@[go_sem] theorem srcN_at (N s k v o n):srcN Hm Hc N s (.gs (Hc.length+k) v o n)=srcR s v o n N[k]?:=by
 unfold srcN
 simp only [Nat.le_add_right,if_true,Nat.add_sub_cancel_left]
@[go_sem] theorem srcN_at0 (N s v o n):srcN Hm Hc N s (.gs Hc.length v o n)=srcR s v o n N[0]?:=srcN_at N s 0 v o n
@[go_sem] theorem srcN_l (N s ys):srcN Hm Hc N s (.p (.l ys))=some (ys.map (·.map .p)):=rfl
@[go_sem] theorem srcN_nl (N s):srcN Hm Hc N s (.p .nl)=some []:=rfl
@[go_sem] theorem appnY_some (s b x ys):appnY Hm Hc s b x (some ys) d J ⟨L,T,H⟩=appnR Hm Hc s b x ys d J ⟨L,T,H⟩:=rfl
@[go_sem] theorem pu_ston_t (n i y):preU C Hm Hc (.ston n (.t i) y) d J ⟨L,T,H⟩=stonK Hc n (eget T i) (St.get ⟨L,T,H⟩ y) d J ⟨L,T,H⟩:=rfl
@[go_sem] theorem pu_ston_l (n i y):preU C Hm Hc (.ston n (.l i) y) d J ⟨L,T,H⟩=stonK Hc n (eget L i) (St.get ⟨L,T,H⟩ y) d J ⟨L,T,H⟩:=rfl
@[go_sem] theorem pu_sto (n x y):preU C Hm Hc (.sto n x y) d J ⟨L,T,H⟩=stepU C (.sto n x y) d (effK Hm Hc H J) ⟨L,T,Hc⟩:=rfl
@[go_sem] theorem pu_mv (x):preU C Hm Hc (.mv x) d J ⟨L,T,H⟩=stepU C (.mv x) d (reK Hc H J) ⟨L,T,Hm⟩:=rfl
@[go_sem] theorem pu_pick (x y z):preU C Hm Hc (.pick x y z) d J ⟨L,T,H⟩=stepU C (.pick x y z) d (reK Hc H J) ⟨L,T,Hm⟩:=rfl
@[go_sem] theorem pu_build (x y):preU C Hm Hc (.build x y) d J ⟨L,T,H⟩=stepU C (.build x y) d (reK Hc H J) ⟨L,T,Hm⟩:=rfl
@[go_sem] theorem pu_ld (x y z):preU C Hm Hc (.ld x y z) d J ⟨L,T,H⟩=stepU C (.ld x y z) d (reK Hc H J) ⟨L,T,Hm⟩:=rfl
@[go_sem] theorem pu_nilc (x):preU C Hm Hc (.nilc x) d J ⟨L,T,H⟩=stepU C (.nilc x) d (reK Hc H J) ⟨L,T,Hm⟩:=rfl
@[go_sem] theorem pu_bin (x y z):preU C Hm Hc (.bin x y z) d J ⟨L,T,H⟩=stepU C (.bin x y z) d (reK Hc H J) ⟨L,T,Hm⟩:=rfl
@[go_sem] theorem pu_un (x y):preU C Hm Hc (.un x y) d J ⟨L,T,H⟩=stepU C (.un x y) d (reK Hc H J) ⟨L,T,Hm⟩:=rfl
@[go_sem] theorem pu_conv (x y):preU C Hm Hc (.conv x y) d J ⟨L,T,H⟩=stepU C (.conv x y) d (reK Hc H J) ⟨L,T,Hm⟩:=rfl
@[go_sem] theorem pu_b2sn_t (i):preU C Hm Hc (.b2sn (.t i)) d J ⟨L,T,H⟩=rdnX Hc (eget T i) d J ⟨L,T,H⟩:=rfl
@[go_sem] theorem pu_b2sn_l (i):preU C Hm Hc (.b2sn (.l i)) d J ⟨L,T,H⟩=rdnX Hc (eget L i) d J ⟨L,T,H⟩:=rfl
@[go_sem] theorem rdnX_at (k v o n):rdnX Hc (.gs (Hc.length+k) v o n) d J ⟨L,T,H⟩=withV (b2sR (srcR 1 v o n H[k]?)) d (J Hc) ⟨L,T,H⟩:=by
 unfold rdnX
 simp only [Nat.le_add_right,true_and,Nat.add_sub_cancel_left]
@[go_sem] theorem rdnX_at0 (v o n):rdnX Hc (.gs Hc.length v o n) d J ⟨L,T,H⟩=withV (b2sR (srcR 1 v o n H[0]?)) d (J Hc) ⟨L,T,H⟩:=rdnX_at 0 v o n
@[go_sem] theorem pu_b2s (x):preU C Hm Hc (.b2s x) d J ⟨L,T,H⟩=stepU C (.b2s x) d (reK Hc H J) ⟨L,T,Hm⟩:=rfl
@[go_sem] theorem pu_mkf (x y):preU C Hm Hc (.mkf x y) d J ⟨L,T,H⟩=stepU C (.mkf x y) d (reK Hc H J) ⟨L,T,Hm⟩:=rfl
@[go_sem] theorem pu_slc (x y z u):preU C Hm Hc (.slc x y z u) d J ⟨L,T,H⟩=stepU C (.slc x y z u) d (reK Hc H J) ⟨L,T,Hm⟩:=rfl
@[go_sem] theorem pu_fad (x y):preU C Hm Hc (.fad x y) d J ⟨L,T,H⟩=stepU C (.fad x y) d (reK Hc H J) ⟨L,T,Hm⟩:=rfl
@[go_sem] theorem pu_fld (x y z u):preU C Hm Hc (.fld x y z u) d J ⟨L,T,H⟩=stepU C (.fld x y z u) d (reK Hc H J) ⟨L,T,Hm⟩:=rfl
@[go_sem] theorem pu_s2b (x):preU C Hm Hc (.s2b x) d J ⟨L,T,H⟩=stepU C (.s2b x) d (reK Hc H J) ⟨L,T,Hm⟩:=rfl
@[go_sem] theorem pu_bslk (sz z n ps):preU C Hm Hc (.bslk sz z n ps) d J ⟨L,T,H⟩=stepU C (.bslk sz z n ps) d (reK Hc H J) ⟨L,T,Hm⟩:=rfl
@[go_sem] theorem su_bslk (sz z n ps):stepU C (.bslk sz z n ps) d K st=withV (bslkV st sz z n ps) d K st:=rfl
attribute [go_sem] bslkV pureR pureRs
@[go_sem] theorem su_s2b (x):stepU C (.s2b x) d K st=withV (s2bV (st.get x)) d K st:=rfl
@[go_sem] theorem pu_lde (g n x):preU C Hm Hc (.lde g n x) d J ⟨L,T,H⟩=stepU C (.ld g n x) d (reK Hc H J) ⟨L,T,Hc⟩:=rfl
@[go_sem] theorem pu_ixse (x y z):preU C Hm Hc (.ixse x y z) d J ⟨L,T,H⟩=stepU C (.ixs x y z) d (reK Hc H J) ⟨L,T,Hc⟩:=rfl
@[go_sem] theorem pu_ixs (x y z):preU C Hm Hc (.ixs x y z) d J ⟨L,T,H⟩=stepU C (.ixs x y z) d (reK Hc H J) ⟨L,T,Hm⟩:=rfl
@[go_sem] theorem pu_ixa (x y z u):preU C Hm Hc (.ixa x y z u) d J ⟨L,T,H⟩=stepU C (.ixa x y z u) d (reK Hc H J) ⟨L,T,Hm⟩:=rfl
@[go_sem] theorem pu_ixt (x y):preU C Hm Hc (.ixt x y) d J ⟨L,T,H⟩=stepU C (.ixt x y) d (reK Hc H J) ⟨L,T,Hm⟩:=rfl
@[go_sem] theorem pu_ext (x y):preU C Hm Hc (.ext x y) d J ⟨L,T,H⟩=stepU C (.ext x y) d (reK Hc H J) ⟨L,T,Hm⟩:=rfl
@[go_sem] theorem pu_lenq (x y):preU C Hm Hc (.lenq x y) d J ⟨L,T,H⟩=stepU C (.lenq x y) d (reK Hc H J) ⟨L,T,Hm⟩:=rfl
@[go_sem] theorem pu_cap (x):preU C Hm Hc (.cap x) d J ⟨L,T,H⟩=stepU C (.cap x) d (reK Hc H J) ⟨L,T,Hm⟩:=rfl
@[go_sem] theorem pu_mnx (x y z):preU C Hm Hc (.mnx x y z) d J ⟨L,T,H⟩=stepU C (.mnx x y z) d (reK Hc H J) ⟨L,T,Hm⟩:=rfl
@[go_sem] theorem pu_nii (x y):preU C Hm Hc (.nii x y) d J ⟨L,T,H⟩=stepU C (.nii x y) d (reK Hc H J) ⟨L,T,Hm⟩:=rfl
@[go_sem] theorem pu_sq (n x y z):preU C Hm Hc (.sq x n y z) d J ⟨L,T,H⟩=stepU C (.sq x n y z) d (reK Hc H J) ⟨L,T,Hm⟩:=rfl
@[go_sem] theorem pu_nilq (x y z):preU C Hm Hc (.nilq x y z) d J ⟨L,T,H⟩=stepU C (.nilq x y z) d (reK Hc H J) ⟨L,T,Hm⟩:=rfl
@[go_sem] theorem pu_beq (x y z):preU C Hm Hc (.beq x y z) d J ⟨L,T,H⟩=stepU C (.beq x y z) d (reK Hc H J) ⟨L,T,Hm⟩:=rfl
theorem Hext.refl (H:List AO):Hext H H:=fun _ _ h _=>h
theorem drw_same {pre:List MI} (h:preK C H pre (endK K) H ⟨L,T,[]⟩):drwK C pre K ⟨L,T,H⟩:=⟨H,Hext.refl H,h⟩
@[go_sem] theorem su_lenq (s x):stepU C (.lenq s x) d K st=withV (lenqV s (st.get x)) d K st:=rfl
@[go_sem] theorem lenqV_l (xs):lenqV false (.p (.l xs))=some (.p (.i .i64 xs.length)):=rfl
@[go_sem] theorem lenqV_nl:lenqV false (.p .nl)=some (.p (.i .i64 0)):=rfl
@[go_sem] theorem lenqV_s (x):lenqV true (.p (.s x))=some (.p (.i .i64 x.length)):=rfl
@[go_sem] theorem lenqV_gs (i v o n):lenqV false (.gs i v o n)=some (.p (.i .i64 n)):=rfl
@[go_sem] theorem thenK_nm:thenK K Q .nm st=K st:=rfl
@[go_sem] theorem thenK_ex (i):thenK K Q (.ex i) st=Q (.ex i) st:=rfl
@[go_sem] theorem thenK_rt:thenK K Q .rt st=Q .rt st:=rfl
@[go_sem] theorem blkK_nm (i):blkK i Q .nm st=Q .nm st:=rfl
@[go_sem] theorem blkK_rt (i):blkK i Q .rt st=Q .rt st:=rfl
@[go_sem] theorem blkK_ex (i j):blkK i Q (.ex j) st=if j=i then Q .nm st else Q (.ex j) st:=rfl
@[go_sem] theorem regK_eq:regK K ⟨L,T,H⟩=K ⟨L,[],H⟩:=rfl
@[go_sem] theorem runOps_nil:runOps C [] K st=K st:=rfl
@[go_sem] theorem runOps_cons (o os):runOps C (o :: os) K st=stepI C o (runOps C os K) st:=rfl
@[go_sem] theorem stepI_none (o):stepI C ⟨d,o,none⟩ K st=stepU C o d K st:=rfl
@[go_sem] theorem stepI_some (o x w):stepI C ⟨d,o,some (x,w)⟩ K st=guardK (st.get x) w (stepU C o d K) (skipK d K) st:=rfl
@[go_sem] theorem guardK_t (c):guardK (.p (.b c)) true A B st=condK (.p (.b c)) A B st:=rfl
@[go_sem] theorem guardK_f (c):guardK (.p (.b c)) false A B st=condK (.p (.b c)) B A st:=rfl
@[go_sem] theorem guardK_u (w):guardK (.tup []) w A B st=B st:=by cases w <;> rfl
@[go_sem] theorem skipK_eq:skipK d K st=K (st.put d (.tup [])):=rfl
theorem guardK_inv {v:AV} {w:Bool} (h:guardK v w A B st):(v=.tup []/\B st)\/∃ b,v=.p (.b b)/\(b=w->A st)/\(b≠w->B st):=by
 unfold guardK at h
 split at h
 ·exact .inl ⟨rfl,h⟩
 ·unfold condK at h
  split at h
  ·rename_i b _; exact .inr ⟨b,rfl,h.1,fun hb=>h.2 hb⟩
  ·exact h.elim
 ·unfold condK at h
  split at h
  ·rename_i b _; exact .inr ⟨b,rfl,fun hb=>h.2 (by simp [hb]),fun hb=>h.1 (by cases b with | true=>rfl | false=>exact (hb rfl).elim)⟩
  ·exact h.elim
@[go_sem] theorem condK_t:condK (.p (.b true)) A B st=A st:=by simp [condK,splitK]
@[go_sem] theorem condK_f:condK (.p (.b false)) A B st=B st:=by simp [condK,splitK]
@[go_sem] theorem get_t (n):St.get ⟨L,T,H⟩ (.t n)=eget T n:=rfl
@[go_sem] theorem get_l (n):St.get ⟨L,T,H⟩ (.l n)=eget L n:=rfl
@[go_sem] theorem get_c (v):St.get st (.c v)=v:=rfl
@[go_sem] theorem put_no (v):St.put st .no v=st:=rfl
@[go_sem] theorem put_t (n v):St.put ⟨L,T,H⟩ (.t n) v=⟨L,(n,v) :: T,H⟩:=rfl
@[go_sem] theorem put_l (n v):St.put ⟨L,T,H⟩ (.l n) v=⟨eset L n v,T,H⟩:=rfl
@[go_sem] theorem eget_cons (k v t) (e:En):eget ((k,v) :: e) t=if k=t then v else eget e t:=rfl
@[go_sem] theorem eset_nil (t v):eset [] t v=[(t,v)]:=rfl
@[go_sem] theorem eset_cons (k u t v) (e:En):eset ((k,u) :: e) t v=if k=t then (t,v) :: e else (k,u) :: eset e t v:=rfl
@[go_sem] theorem lmem_nil (k):lmem [] k=false:=rfl
@[go_sem] theorem lmem_cons (x xs k):lmem (x :: xs) k=if x=k then true else lmem xs k:=rfl
@[go_sem] theorem ekeep_nil (lv):ekeep lv []=[]:=rfl
@[go_sem] theorem ekeep_cons (lv k v) (e:En):ekeep lv ((k,v) :: e)=if lmem lv k=true then (k,v) :: ekeep lv e else ekeep lv e:=rfl
@[go_sem] theorem gets_nil:gets st []=[]:=rfl
@[go_sem] theorem gets_cons (x xs):gets st (x :: xs)=st.get x :: gets st xs:=rfl
@[go_sem] theorem argEnv_nil (i):argEnv i []=[]:=rfl
@[go_sem] theorem argEnv_cons (i a as):argEnv i (a :: as)=(i,a) :: argEnv (i+1) as:=rfl
@[go_sem] theorem withV_some (v):withV (some v) d K st=K (st.put d v):=rfl
@[go_sem] theorem withH_some (h):withH (some h) d K ⟨L,T,H⟩=K (St.put ⟨L,T,h⟩ d .any):=rfl
@[go_sem] theorem newK_some (o mk):newK (some o) mk d K ⟨L,T,H⟩=K (St.put ⟨L,T,H++[o]⟩ d (mk H.length)):=rfl
@[go_sem] theorem callK_eq (r h):callK d K ⟨L,T,H⟩ r h=K (St.put ⟨L,T,h⟩ d r):=rfl
@[go_sem] theorem su_mv (x):stepU C (.mv x) d K st=K (st.put d (st.get x)):=rfl
@[go_sem] theorem su_pick (c x y):stepU C (.pick c x y) d K st=withV (pickV (st.get c) (st.get x) (st.get y)) d K st:=rfl
@[go_sem] theorem su_alloc (z):stepU C (.alloc z) d K st=newK (some (.var z)) (fun id=>.ptr id 0) d K st:=rfl
@[go_sem] theorem su_box (n x):stepU C (.box n x) d K st=newK (if (st.get x).allOne && (st.get x).cells.length == n then some (.var (st.get x).cells) else none) (fun id=>.ptr id 0) d K st:=rfl
@[go_sem] theorem su_build (z ps):stepU C (.build z ps) d K st=withV (buildV st z ps) d K st:=rfl
@[go_sem] theorem su_bsl (sz z n ps):stepU C (.bsl sz z n ps) d K st=newK ((rowsV st sz ps (List.replicate n z)).map fun rs=>.rows sz 0 rs) (fun id=>.gs id 0 0 n) d K st:=rfl
@[go_sem] theorem su_ld (g n x):stepU C (.ld g n x) d K ⟨L,T,H⟩=withV (ldV g n (ldAt H (St.get ⟨L,T,H⟩ x))) d K ⟨L,T,H⟩:=rfl
@[go_sem] theorem su_sto (n x v):stepU C (.sto n x v) d K ⟨L,T,H⟩=withH (stoH H n (St.get ⟨L,T,H⟩ x) (St.get ⟨L,T,H⟩ v)) d K ⟨L,T,H⟩:=rfl
@[go_sem] theorem su_nilc (x):stepU C (.nilc x) d K st=withV (nilcV (st.get x)) d K st:=rfl
@[go_sem] theorem su_bin (op x y):stepU C (.bin op x y) d K st=binK op (st.get x) (st.get y) d K st:=rfl
@[go_sem] theorem su_un (op x):stepU C (.un op x) d K st=withV (eun op (st.get x)) d K st:=rfl
@[go_sem] theorem su_conv (k x):stepU C (.conv k x) d K st=withV (convV k (st.get x)) d K st:=rfl
@[go_sem] theorem su_b2s (x):stepU C (.b2s x) d K ⟨L,T,H⟩=withV (b2sV H (St.get ⟨L,T,H⟩ x)) d K ⟨L,T,H⟩:=rfl
@[go_sem] theorem su_mkf (f cs):stepU C (.mkf f cs) d K st=K (st.put d (.clo f (gets st cs))):=rfl
@[go_sem] theorem su_mks (sz b z l c):stepU C (.mks sz b z l c) d K st=mksK sz b z (st.get l) (st.get c) d K st:=rfl
@[go_sem] theorem su_slc_nn (k x):stepU C (.slc k x none none) d K st=slcK k (st.get x) none none d K st:=rfl
@[go_sem] theorem su_slc_ns (k x y):stepU C (.slc k x none (some y)) d K st=slcK k (st.get x) none (some (st.get y)) d K st:=rfl
@[go_sem] theorem su_slc_sn (k x y):stepU C (.slc k x (some y) none) d K st=slcK k (st.get x) (some (st.get y)) none d K st:=rfl
@[go_sem] theorem su_slc_ss (k x y z):stepU C (.slc k x (some y) (some z)) d K st=slcK k (st.get x) (some (st.get y)) (some (st.get z)) d K st:=rfl
@[go_sem] theorem su_fad (o x):stepU C (.fad o x) d K st=withV (fadV o (st.get x)) d K st:=rfl
def fldV (g:Bool) (o n:Nat):AV->Option AV
 | .st cs=>ldV g n (some (cs.drop o))
 | _=>none
@[go_sem] theorem fldV_st (g o n cs):fldV g o n (.st cs)=ldV g n (some (cs.drop o)):=rfl
@[go_sem] theorem su_fld (g o n x):stepU C (.fld g o n x) d K st=withV (fldV g o n (st.get x)) d K st:=by
 show withV _ d K st=withV _ d K st
 congr 1
@[go_sem] theorem su_ixs (sz x i):stepU C (.ixs sz x i) d K st=ixsK sz (st.get x) (st.get i) d K st:=rfl
@[go_sem] theorem su_ixa (l sz x i):stepU C (.ixa l sz x i) d K st=ixaK l sz (st.get x) (st.get i) d K st:=rfl
@[go_sem] theorem su_ixt (x i):stepU C (.ixt x i) d K st=ixtK (st.get x) (st.get i) d K st:=rfl
@[go_sem] theorem su_ext (x n):stepU C (.ext x n) d K st=withV (extV n (st.get x)) d K st:=rfl
@[go_sem] theorem su_call (f as):stepU C (.call f as) d K ⟨L,T,H⟩=C f (gets ⟨L,T,H⟩ as) H (callK d K ⟨L,T,H⟩):=rfl
@[go_sem] theorem su_calv (x as):stepU C (.calv x as) d K st=calvK C (st.get x) (gets st as) d K st:=rfl
@[go_sem] theorem calvK_eq (f cs as):calvK C (.clo f cs) as d K ⟨L,T,H⟩=C f (as++cs) H (callK d K ⟨L,T,H⟩):=rfl
@[go_sem] theorem su_app (sz b x y):stepU C (.app sz b x y) d K st=appK sz b (st.get x) (st.get y) d K st:=rfl
@[go_sem] theorem su_len (s x):stepU C (.len s x) d K st=lenK s (st.get x) d K st:=rfl
@[go_sem] theorem su_appz (sz b x n):stepU C (.appz sz b x n) d K st=appzK sz b (st.get x) (st.get n) d K st:=rfl
@[go_sem] theorem appzK_nl (sz b) (k:Int):appzK sz b (.p .nl) (.p (.i .i64 k)) d K st=(0<k/\k * b<=140737488355328/\k<=140737488355328/\K (St.put ⟨st.L,st.T,st.H++[.rows sz 0 []]⟩ d (.gs st.H.length 0 0 k.toNat))):=rfl
@[go_sem] theorem su_cap (x):stepU C (.cap x) d K st=withV (capV (st.get x)) d K st:=rfl
@[go_sem] theorem capV_nl:capV (.p .nl)=some (.p (.i .i64 0)):=rfl
@[go_sem] theorem su_mnx (m x y):stepU C (.mnx m x y) d K st=withV (mnxV m (st.get x) (st.get y)) d K st:=rfl
@[go_sem] theorem su_nii (m x):stepU C (.nii m x) d K st=withV (niiV m (st.get x)) d K st:=rfl
@[go_sem] theorem niiV_ni (ne):niiV ne (.p .ni)=some (.p (.b (!ne))):=rfl
@[go_sem] theorem niiV_er (ne):niiV ne (.p .er)=some (.p (.b ne)):=rfl
@[go_sem] theorem su_sq (m n x y):stepU C (.sq m n x y) d K st=withV (sqV m n (st.get x) (st.get y)) d K st:=rfl
@[go_sem] theorem su_nilq (s m x):stepU C (.nilq s m x) d K st=nilqK s m (st.get x) d K st:=rfl
@[go_sem] theorem su_beq (m x y):stepU C (.beq m x y) d K st=withV (beqV m (st.get x) (st.get y)) d K st:=rfl
@[go_sem] theorem su_stop:stepU C .stop d K st=False:=rfl
@[go_sem] theorem slcK_l (sz xs lo hi):slcK (some sz) (.p (.l xs)) lo hi d K st=((∀ r∈xs,r.length=sz)/\bndK lo hi xs.length fun a b=>K (st.put d (.p (.l ((xs.drop a).take (b - a)))))):=rfl
@[go_sem] theorem slcK_s (x lo hi):slcK none (.p (.s x)) lo hi d K st=(bndK lo hi x.length fun a b=>K (st.put d (.p (.s ((x.drop a).take (b - a)))))):=rfl
@[go_sem] theorem slcK_nl (sz lo hi):slcK (some sz) (.p .nl) lo hi d K st=(bndK lo hi 0 fun _ _=>K (st.put d (.p .nl))):=rfl
@[go_sem] theorem slcK_gs (sz i v o n lo hi):slcK (some sz) (.gs i v o n) lo hi d K ⟨L,T,H⟩=slcR sz i v o n lo hi d K ⟨L,T,H⟩ H[i]?:=rfl
@[go_sem] theorem slcR_some (sz i v o n lo hi sz' v' rs):slcR sz i v o n lo hi d K st (some (.rows sz' v' rs))=(sz'=sz/\v'=v/\bndK lo hi n fun a b=>K (st.put d (.gs i v (o+a) (b - a)))):=rfl
@[go_sem] theorem bndK_nn (n) (R:Nat->Nat->Prop):bndK none none n R=R 0 n:=rfl
@[go_sem] theorem bndK_sn (k a n) (R:Nat->Nat->Prop):bndK (some (.p (.i k a))) none n R=(0<=a/\a<=(n:Int)/\R a.toNat n):=rfl
@[go_sem] theorem bndK_ns (k b n) (R:Nat->Nat->Prop):bndK none (some (.p (.i k b))) n R=(0<=b/\b<=(n:Int)/\R 0 b.toNat):=rfl
@[go_sem] theorem bndK_ss (k a k' b n) (R:Nat->Nat->Prop):bndK (some (.p (.i k a))) (some (.p (.i k' b))) n R=(0<=a/\a<=b/\b<=(n:Int)/\R a.toNat b.toNat):=rfl
@[go_sem] theorem appK_eq (sz b x y):appK sz b x y d K ⟨L,T,H⟩=appY sz b x (srcRows H sz y) d K ⟨L,T,H⟩:=rfl
@[go_sem] theorem appY_some (sz b x ys):appY sz b x (some ys) d K st=((∀ r∈ys,r.length=sz)/\appX sz b x ys d K st):=rfl
@[go_sem] theorem appX_nl (sz b ys):appX sz b (.p .nl) ys d K ⟨L,T,H⟩=(ys.length * b<=140737488355328/\ys.length<=140737488355328/\K (St.put ⟨L,T,H++[.rows sz 0 ys]⟩ d (.gs H.length 0 0 ys.length))):=rfl
@[go_sem] theorem appX_gs (sz b i v o n ys):appX sz b (.gs i v o n) ys d K ⟨L,T,H⟩=appR sz b i v o n ys d K ⟨L,T,H⟩ H[i]?:=rfl
@[go_sem] theorem appR_some (sz b i v o n ys sz' v' rs):appR sz b i v o n ys d K ⟨L,T,H⟩ (some (.rows sz' v' rs))=(sz'=sz/\v'=v/\o=0/\n<=rs.length/\(n+ys.length) * b<=140737488355328/\n+ys.length<=140737488355328 /\
  K (St.put ⟨L,T,H.set i (.rows sz (v+1) (rs.take n++ys))⟩ d (.gs i (v+1) 0 (n+ys.length)))):=rfl
@[go_sem] theorem srcRows_l (sz ys):srcRows H sz (.p (.l ys))=some (ys.map (·.map .p)):=rfl
@[go_sem] theorem srcRows_nl (sz):srcRows H sz (.p .nl)=some []:=rfl
@[go_sem] theorem srcRows_s (x):srcRows H 1 (.p (.s x))=some (bytesRows x):=rfl
@[go_sem] theorem srcRows_gs (sz i v o n):srcRows H sz (.gs i v o n)=srcR sz v o n H[i]?:=rfl
@[go_sem] theorem srcR_some (sz v o n sz' v' rs):srcR sz v o n (some (.rows sz' v' rs))=if sz'=sz/\v'=v/\o+n<=rs.length then some ((rs.drop o).take n) else none:=rfl
@[go_sem] theorem b2sV_l (ys):b2sV H (.p (.l ys))=b2sR (srcRows H 1 (.p (.l ys))):=rfl
@[go_sem] theorem b2sV_nl:b2sV H (.p .nl)=some (.p (.s [])):=rfl
@[go_sem] theorem b2sV_gs (i v o n):b2sV H (.gs i v o n)=b2sR (srcRows H 1 (.gs i v o n)):=rfl
@[go_sem] theorem b2sR_some (ys):b2sR (some ys)=if ys.length<=140737488355328 then (bytesOf ys).map fun l=>.p (.s l) else none:=rfl
@[go_sem] theorem mksK_eq (sz b z l c):mksK sz b z (.p (.i .i64 l)) (.p (.i .i64 c)) d K ⟨L,T,H⟩=(0<=l/\l<=c/\c * b<=140737488355328/\c<=140737488355328 /\
   K (St.put ⟨L,T,H++[.rows sz 0 (List.replicate l.toNat z)]⟩ d (.gs H.length 0 0 l.toNat))):=rfl
@[go_sem] theorem ixsK_l (sz xs k n):ixsK sz (.p (.l xs)) (.p (.i k n)) d K st=(0<=n/\∃ r,xs[n.toNat]?=some r/\r.length=sz/\K (st.put d (.ip r))):=rfl
def ixsR (sz id ver off:Nat) (n:Int) (d:MD) (K:St->Prop) (st:St):Option AO->Prop
 | some (.rows sz' ver' rs)=>sz'=sz/\ver'=ver/\K (st.put d (.ep id ver (off+n.toNat) 0))
 | _=>False
@[go_sem] theorem ixsR_some (sz i v o n sz' v' rs):ixsR sz i v o n d K st (some (.rows sz' v' rs))=(sz'=sz/\v'=v/\K (st.put d (.ep i v (o+n.toNat) 0))):=rfl
@[go_sem] theorem ixsK_gs (sz i v o m k n):ixsK sz (.gs i v o m) (.p (.i k n)) d K ⟨L,T,H⟩=(0<=n/\n<(m:Int)/\ixsR sz i v o n d K ⟨L,T,H⟩ H[i]?):=by
 simp only [ixsK]
 cases H[i]? with
 | none=>rfl
 | some o=>cases o <;> rfl
@[go_sem] theorem ixaK_ptr (len sz i o k n):ixaK len sz (.ptr i o) (.p (.i k n)) d K st=(0<=n/\n<(len:Int)/\K (st.put d (.ptr i (o+n.toNat * sz)))):=rfl
@[go_sem] theorem ixtK_s (x k n):ixtK (.p (.s x)) (.p (.i k n)) d K st=(0<=n/\∃ c,x[n.toNat]?=some c/\K (st.put d (.p (.i .u8 c.toNat)))):=rfl
@[go_sem] theorem buildV_eq (z ps):buildV st z ps=(partsV st ps z).map .st:=rfl
@[go_sem] theorem partsV_nil (z):partsV st [] z=some z:=rfl
@[go_sem] theorem partsV_cons (o n x ps z):partsV st ((o,n,x) :: ps) z=if (st.get x).allOne && (st.get x).cells.length == n then (splice z o (st.get x).cells).bind (partsV st ps) else none:=rfl
@[go_sem] theorem rowsV_nil (sz rs):rowsV st sz [] rs=some rs:=rfl
@[go_sem] theorem rowsV_cons (sz i x ps rs):rowsV st sz ((i,x) :: ps) rs=if (st.get x).allOne && (st.get x).cells.length == sz && decide (i<rs.length) then rowsV st sz ps (rs.set i (st.get x).cells) else none:=rfl
@[go_sem] theorem lenK_l (xs):lenK false (.p (.l xs)) d K st=(xs.length<=maxL->K (st.put d (.p (.i .i64 xs.length)))):=rfl
@[go_sem] theorem lenK_nl:lenK false (.p .nl) d K st=K (st.put d (.p (.i .i64 0))):=rfl
@[go_sem] theorem lenK_s (x):lenK true (.p (.s x)) d K st=(x.length<=maxL->K (st.put d (.p (.i .i64 x.length)))):=rfl
@[go_sem] theorem lenK_gs (i v o n):lenK false (.gs i v o n) d K st=(n<=maxL->K (st.put d (.p (.i .i64 n)))):=rfl
@[go_sem] theorem bk_add (k a b):binK .add (.p (.i k a)) (.p (.i k b)) d K st=K (st.put d (.p (.i k (wr k (a+b))))):=by simp [binK,ebin,iarith,withV]
@[go_sem] theorem bk_sub (k a b):binK .sub (.p (.i k a)) (.p (.i k b)) d K st=K (st.put d (.p (.i k (wr k (a - b))))):=by simp [binK,ebin,iarith,withV]
@[go_sem] theorem bk_mul (k a b):binK .mul (.p (.i k a)) (.p (.i k b)) d K st=K (st.put d (.p (.i k (wr k (a * b))))):=by simp [binK,ebin,iarith,withV]
@[go_sem] theorem bk_and (k a b):binK .and (.p (.i k a)) (.p (.i k b)) d K st=K (st.put d (.p (.i k (ibits .and k a b)))):=by simp [binK,ebin,iarith,withV]
@[go_sem] theorem bk_or (k a b):binK .or (.p (.i k a)) (.p (.i k b)) d K st=K (st.put d (.p (.i k (ibits .or k a b)))):=by simp [binK,ebin,iarith,withV]
@[go_sem] theorem bk_xor (k a b):binK .xor (.p (.i k a)) (.p (.i k b)) d K st=K (st.put d (.p (.i k (ibits .xor k a b)))):=by simp [binK,ebin,iarith,withV]
@[go_sem] theorem bk_andNot (k a b):binK .andNot (.p (.i k a)) (.p (.i k b)) d K st=K (st.put d (.p (.i k (ibits .andNot k a b)))):=by simp [binK,ebin,iarith,withV]
@[go_sem] theorem bk_eql (k a b):binK .eql (.p (.i k a)) (.p (.i k b)) d K st=K (st.put d (.p (.b (decide (a=b))))):=by simp [binK,ebin,iarith,bcmp,withV]
@[go_sem] theorem bk_neq (k a b):binK .neq (.p (.i k a)) (.p (.i k b)) d K st=K (st.put d (.p (.b (!decide (a=b))))):=by simp [binK,ebin,iarith,bcmp,withV]
@[go_sem] theorem bk_lss (k a b):binK .lss (.p (.i k a)) (.p (.i k b)) d K st=K (st.put d (.p (.b (decide (a<b))))):=by simp [binK,ebin,iarith,bcmp,withV]
@[go_sem] theorem bk_leq (k a b):binK .leq (.p (.i k a)) (.p (.i k b)) d K st=K (st.put d (.p (.b (decide (a<=b))))):=by simp [binK,ebin,iarith,bcmp,withV]
@[go_sem] theorem bk_gtr (k a b):binK .gtr (.p (.i k a)) (.p (.i k b)) d K st=K (st.put d (.p (.b (decide (b<a))))):=by simp [binK,ebin,iarith,bcmp,withV]
@[go_sem] theorem bk_geq (k a b):binK .geq (.p (.i k a)) (.p (.i k b)) d K st=K (st.put d (.p (.b (decide (b<=a))))):=by simp [binK,ebin,iarith,bcmp,withV]
@[go_sem] theorem bk_quo (k a b):binK .quo (.p (.i k a)) (.p (.i k b)) d K st=(b≠0/\K (st.put d (.p (.i k (wr k (a.tdiv b)))))):=by simp [binK,bin2K,ebin,iarith,bcmp]
@[go_sem] theorem bk_rem (k a b):binK .rem (.p (.i k a)) (.p (.i k b)) d K st=(b≠0/\K (st.put d (.p (.i k (a.tmod b))))):=by simp [binK,bin2K,ebin,iarith,bcmp]
@[go_sem] theorem bk_shl (k k' a b):binK .shl (.p (.i k a)) (.p (.i k' b)) d K st=(0<=b/\K (st.put d (.p (.i k (wr k (a * 2 ^ min b.toNat k.bits)))))):=by
 by_cases h:k=k' <;> simp [binK,bin2K,ebin,iarith,h]
@[go_sem] theorem bk_shr (k k' a b):binK .shr (.p (.i k a)) (.p (.i k' b)) d K st=(0<=b/\K (st.put d (.p (.i k (a.fdiv (2 ^ min b.toNat k.bits)))))):=by
 by_cases h:k=k' <;> simp [binK,bin2K,ebin,iarith,h]
@[go_sem] theorem bk_cat (a b):binK .add (.p (.s a)) (.p (.s b)) d K st=(a.length+b.length<=maxL/\K (st.put d (.p (.s (a++b))))):=rfl
@[go_sem] theorem bk_seql (a b):binK .eql (.p (.s a)) (.p (.s b)) d K st=K (st.put d (.p (.b (decide (a=b))))):=by simp [binK,ebin,seqs,withV]
@[go_sem] theorem bk_sneq (a b):binK .neq (.p (.s a)) (.p (.s b)) d K st=K (st.put d (.p (.b (!decide (a=b))))):=by simp [binK,ebin,seqs,withV]
@[go_sem] theorem bk_slss (a b):binK .lss (.p (.s a)) (.p (.s b)) d K st=K (st.put d (.p (.b (slt a b)))):=by simp [binK,ebin,seqs,withV]
@[go_sem] theorem bk_sleq (a b):binK .leq (.p (.s a)) (.p (.s b)) d K st=K (st.put d (.p (.b (slt a b || decide (a=b))))):=by simp [binK,ebin,seqs,withV]
@[go_sem] theorem bk_sgtr (a b):binK .gtr (.p (.s a)) (.p (.s b)) d K st=K (st.put d (.p (.b (!(slt a b || decide (a=b)))))):=by simp [binK,ebin,seqs,withV]
@[go_sem] theorem bk_sgeq (a b):binK .geq (.p (.s a)) (.p (.s b)) d K st=K (st.put d (.p (.b (!slt a b)))):=by simp [binK,ebin,seqs,withV]
@[go_sem] theorem eun_not (a):eun .not (.p (.b a))=some (.p (.b (!a))):=rfl
@[go_sem] theorem eun_neg (k a):eun .neg (.p (.i k a))=some (.p (.i k (wr k (0 - a)))):=rfl
@[go_sem] theorem pickV_b (c x y):pickV (.p (.b c)) x y=some (if c then x else y):=rfl
@[go_sem] theorem sqV_st (ne n xs ys):sqV ne n (.st xs) (.st ys)=if xs.length=n then (sqC xs ys).map fun b=>.p (.b (if ne then !b else b)) else none:=rfl
@[go_sem] theorem sqC_nil:sqC [] []=some true:=rfl
@[go_sem] theorem sqC_cons (k a b xs ys):sqC (.p (.i k a) :: xs) (.p (.i k b) :: ys)=(sqC xs ys).map (decide (a=b) && ·):=by simp [sqC]
@[go_sem] theorem nilqK_nl (ne):nilqK true ne (.p .nl) d K st=K (st.put d (.p (.b (!ne)))):=rfl
@[go_sem] theorem nilqK_l (ne xs):nilqK true ne (.p (.l xs)) d K st=(xs≠[]/\K (st.put d (.p (.b ne)))):=rfl
@[go_sem] theorem nilqK_gs (ne i v o n):nilqK true ne (.gs i v o n) d K ⟨L,T,H⟩=nilqR ne v d K ⟨L,T,H⟩ H[i]?:=rfl
@[go_sem] theorem nilqR_some (ne v sz v' rs):nilqR ne v d K st (some (.rows sz v' rs))=(v'=v/\0<rs.length/\K (st.put d (.p (.b ne)))):=rfl
@[go_sem] theorem nilqK_np (ne):nilqK false ne (.p .np) d K st=K (st.put d (.p (.b (!ne)))):=rfl
@[go_sem] theorem nilqK_ptr (ne i o):nilqK false ne (.ptr i o) d K st=K (st.put d (.p (.b ne))):=rfl
@[go_sem] theorem nilqK_ep (ne a b c e):nilqK false ne (.ep a b c e) d K st=K (st.put d (.p (.b ne))):=rfl
@[go_sem] theorem nilqK_ip (ne r):nilqK false ne (.ip r) d K st=K (st.put d (.p (.b ne))):=rfl
@[go_sem] theorem beqV_f (a b):beqV false (.p (.b a)) (.p (.b b))=some (.p (.b (a == b))):=rfl
@[go_sem] theorem beqV_t (a b):beqV true (.p (.b a)) (.p (.b b))=some (.p (.b (!(a == b)))):=rfl
@[go_sem] theorem mnxV_max (k a b):mnxV true (.p (.i k a)) (.p (.i k b))=some (.p (.i k (if b > a then b else a))):=by simp [mnxV]
@[go_sem] theorem mnxV_min (k a b):mnxV false (.p (.i k a)) (.p (.i k b))=some (.p (.i k (if b<a then b else a))):=by simp [mnxV]
@[go_sem] theorem convV_i (k k' a):convV k (.p (.i k' a))=some (.p (.i k (wr k a))):=rfl
@[go_sem] theorem extV_tup (n vs):extV n (.tup vs)=vs[n]?:=rfl
@[go_sem] theorem nilcV_ptr (i o):nilcV (.ptr i o)=some (.ptr i o):=rfl
@[go_sem] theorem nilcV_ep (i v r c):nilcV (.ep i v r c)=some (.ep i v r c):=rfl
@[go_sem] theorem nilcV_clo (f c):nilcV (.clo f c)=some (.clo f c):=rfl
@[go_sem] theorem fadV_ptr (n i o):fadV n (.ptr i o)=some (.ptr i (o+n)):=rfl
@[go_sem] theorem fadV_ep (n i v r c):fadV n (.ep i v r c)=some (.ep i v r (c+n)):=rfl
@[go_sem] theorem fadV_ip (n r):fadV n (.ip r)=some (.ip (r.drop n)):=rfl
@[go_sem] theorem ldV_one (n c cs):ldV false n (some (c :: cs))=some c:=rfl
@[go_sem] theorem ldV_agg (n cs):ldV true n (some cs)=(takeN n cs).map .st:=rfl
@[go_sem] theorem takeN_zero (cs):takeN 0 cs=some []:=rfl
@[go_sem] theorem takeN_succ (n c cs):takeN (n+1) (c :: cs)=(takeN n cs).map (c :: ·):=rfl
@[go_sem] theorem ldAt_ip (row):ldAt H (.ip row)=some (row.map .p):=rfl
def varDrop (off:Nat):Option AO->Option (List AV)
 | some (.var cs)=>some (cs.drop off)
 | _=>none
@[go_sem] theorem varDrop_some (off cs):varDrop off (some (.var cs))=some (cs.drop off):=rfl
@[go_sem] theorem ldAt_ptr (i o):ldAt H (.ptr i o)=varDrop o H[i]?:=by
 simp only [ldAt]; cases H[i]? with
 | none=>rfl
 | some o=>cases o <;> rfl
def rowDrop (ver row col:Nat):Option AO->Option (List AV)
 | some (.rows _ ver' rs)=>if ver=ver' then (rs[row]?).map (·.drop col) else none
 | _=>none
@[go_sem] theorem rowDrop_some (ver row col sz v rs):rowDrop ver row col (some (.rows sz v rs))=if ver=v then (rs[row]?).map (·.drop col) else none:=rfl
@[go_sem] theorem ldAt_ep (i v r c):ldAt H (.ep i v r c)=rowDrop v r c H[i]?:=by
 simp only [ldAt]; cases H[i]? with
 | none=>rfl
 | some o=>cases o <;> rfl
@[go_sem] theorem splice_nil (cs o):splice cs o []=some cs:=by cases o <;> cases cs <;> rfl
@[go_sem] theorem splice_zero (c cs u us):splice (c :: cs) 0 (u :: us)=(splice cs 0 us).map (u :: ·):=rfl
@[go_sem] theorem splice_succ (c cs o u us):splice (c :: cs) (o+1) (u :: us)=(splice cs o (u :: us)).map (c :: ·):=rfl
@[go_sem] theorem cells_st (cs):AV.cells (.st cs)=cs:=rfl
@[go_sem] theorem cells_p (x):AV.cells (.p x)=[.p x]:=rfl
@[go_sem] theorem cells_ptr (i o):AV.cells (.ptr i o)=[.ptr i o]:=rfl
@[go_sem] theorem cells_gs (i v o n):AV.cells (.gs i v o n)=[.gs i v o n]:=rfl
@[go_sem] theorem cells_clo (f c):AV.cells (.clo f c)=[.clo f c]:=rfl
@[go_sem] theorem allOne_st (cs):AV.allOne (.st cs)=true:=rfl
@[go_sem] theorem allOne_p (x):AV.allOne (.p x)=true:=rfl
@[go_sem] theorem allOne_ptr (i o):AV.allOne (.ptr i o)=true:=rfl
@[go_sem] theorem allOne_gs (i v o n):AV.allOne (.gs i v o n)=true:=rfl
@[go_sem] theorem allOne_clo (f c):AV.allOne (.clo f c)=true:=rfl
def stoV (H:List AO) (off id:Nat) (us:List AV):Option AO->Option (List AO)
 | some (.var cs)=>(splice cs off us).map fun cs'=>H.set id (.var cs')
 | _=>none
@[go_sem] theorem stoV_some (off id us cs):stoV H off id us (some (.var cs))=(splice cs off us).map fun cs'=>H.set id (.var cs'):=rfl
@[go_sem] theorem stoH_ptr (n i o v):stoH H n (.ptr i o) v=if v.allOne && v.cells.length == n then stoV H o i v.cells H[i]? else none:=by
 simp only [stoH]
 split
 ·cases H[i]? with
  | none=>rfl
  | some o=>cases o <;> rfl
 ·rfl
def stoR (H:List AO) (id ver row col:Nat) (us:List AV):Option AO->Option (List AO)
 | some (.rows sz ver' rs)=>if ver=ver' then
   match rs[row]? with
   | some r=>(splice r col us).map fun r'=>H.set id (.rows sz ver' (rs.set row r'))
   | none=>none
  else none
 | _=>none
@[go_sem] theorem stoH_ep (n i ver r c v):stoH H n (.ep i ver r c) v=if v.allOne && v.cells.length == n then stoR H i ver r c v.cells H[i]? else none:=by
 simp only [stoH]
 split
 ·cases H[i]? with
  | none=>rfl
  | some o=>cases o <;> rfl
 ·rfl
@[go_sem] theorem finK_nm (rs) (R:AV->List AO->Prop):finK rs R .nm st=retK rs R st:=rfl
@[go_sem] theorem finK_rt (rs) (R:AV->List AO->Prop):finK rs R .rt st=retK rs R st:=rfl
def outK (R:AV->List AO->Prop) (v:Option AV) (H:List AO):Prop :=
 match v with
 | some v=>R v H
 | none=>False
@[go_sem] theorem outK_some (R:AV->List AO->Prop) (v H):outK R (some v) H=R v H:=rfl
@[go_sem] theorem retK_eq (rs) (R:AV->List AO->Prop):retK rs R ⟨L,T,H⟩=outK R (retV ⟨L,T,H⟩ rs) H:=by
 simp only [retK]; cases retV ⟨L,T,H⟩ rs <;> rfl
@[go_sem] theorem retV_one (r):retV st [r]=resV st r:=rfl
@[go_sem] theorem retV_zero:retV st []=some (.tup []):=rfl
@[go_sem] theorem retV_two (r r' rs):retV st (r :: r' :: rs)=(resVs st (r :: r' :: rs)).map .tup:=rfl
def consO:Option AV->Option (List AV)->Option (List AV)
 | some v,some vs=>some (v :: vs)
 | _,_=>none
@[go_sem] theorem consO_some (v vs):consO (some v) (some vs)=some (v :: vs):=rfl
@[go_sem] theorem resVs_nil:resVs st []=some []:=rfl
@[go_sem] theorem resVs_cons (r rs):resVs st (r :: rs)=consO (resV st r) (resVs st rs):=by
 simp only [resVs]; cases resV st r <;> cases resVs st rs <;> rfl
@[go_sem] theorem resV_t (n):resV ⟨L,T,H⟩ (.t n)=some (eget L n):=rfl
def cellV (H:List AO) (agg:Bool) (n:Nat):AV->Option AV
 | .ptr id o=>ldV agg n (ldAt H (.ptr id o))
 | _=>none
@[go_sem] theorem cellV_ptr (g n i o):cellV H g n (.ptr i o)=ldV g n (ldAt H (.ptr i o)):=rfl
@[go_sem] theorem resV_cell (g n a):resV ⟨L,T,H⟩ (.cell g n a)=cellV H g n (eget L a):=by
 simp only [resV,cellV]
 try (split <;> rename_i h <;> simp [h])
attribute [go_sem] Option.map_some List.drop_zero List.drop_succ_cons List.length_cons List.length_nil List.getElem?_cons_zero List.getElem?_cons_succ List.set_cons_zero List.set_cons_succ List.append_nil List.nil_append List.cons_append List.map_cons List.map_nil List.head?_cons
theorem condK_split (t:Bool) (h1:t=true->A st) (h2:t=false->B st):condK (.p (.b t)) A B st:=by
 cases t
 ·exact ⟨(fun h=>by cases h),fun _=>h2 rfl⟩
 ·exact ⟨fun _=>h1 rfl,fun h=>(h rfl).elim⟩
end Go.AM
set_option linter.all false
namespace Go.AM
theorem cell_old {w:World} {b o:Nat} {v:Value} (h:w.cell? ⟨b,o,none⟩=some v):b<w.heap.size:=World.block_lt_of_cell? w _ h
theorem SR.lt {θ:Th} {W:Im} {H:List AO} {w:World} (h:SR θ W H w) {b o:Nat} {v:Value} (hw:W b o=some v):b<w.heap.size:=cell_old (h.imm b o v hw)
theorem SR.ownedLt {θ : Th} {W : Im} {H : List AO} {w : World} (h : SR θ W H w) {id ver b sz tot : Nat} (ho : θ id ver = .at b sz tot) : b < w.heap.size := by
  have hid : id < H.length := by
    rcases Nat.lt_or_ge id H.length with h' | h'
    · exact h'
    · rw [h.out id ver h'] at ho; cases ho
  have hg : H[id]? = some H[id] := by simp [hid]
  have := h.obj id _ hg
  cases e : H[id] with
  | dead => rw [e] at this; rcases this ver with h' | h' <;> rw [h'] at ho <;> cases ho
  | rsv => rw [e] at this; rw [this ver] at ho; cases ho
  | glob b v => rw [e] at this; rw [this.2 ver] at ho; cases ho
  | tab b v o => rw [e] at this; rw [this.2.2 ver] at ho; cases ho
  | var cs =>
    rw [e] at this
    obtain ⟨⟨b', sz', tot', ty, vs, h1, h2, _⟩, h3⟩ := this
    rcases Nat.eq_zero_or_pos ver with rfl | hv
    · rw [h1] at ho; cases ho; exact (Array.getElem?_eq_some_iff.1 h2).1
    · rw [h3 ver hv] at ho; cases ho
  | rows sz' ver' rs =>
    rw [e] at this
    obtain ⟨h1, h2, h3⟩ := this
    rcases Nat.lt_trichotomy ver ver' with hv | rfl | hv
    · rw [h3 ver hv] at ho; cases ho
    · rcases h1 with ⟨h1, _⟩ | ⟨b', tot', ty, vs, h1, h4, _⟩
      · rw [h1] at ho; cases ho
      · rw [h1] at ho; cases ho; exact (Array.getElem?_eq_some_iff.1 h4).1
    · rw [h2 ver hv] at ho; cases ho
  | mapo es =>
    rw [e] at this
    obtain ⟨⟨b', es', ck, h1, h2, _⟩, h3⟩ := this
    rcases Nat.eq_zero_or_pos ver with rfl | hv
    · rw [h1] at ho; cases ho; exact (Array.getElem?_eq_some_iff.1 h2).1
    · rw [h3 ver hv] at ho; cases ho
theorem OR.mono {θ θ' : Th} {W W' : Im} {w w' : World} {id : Nat} {o : AO} (h : OR θ W w id o)
    (hid : ∀ ver, θ' id ver = θ id ver) (hb : ∀ ver b sz tot, θ id ver = .at b sz tot → w'.heap[b]? = w.heap[b]?)
    (hr : ∀ x v, ARel θ W x v → ARel θ' W' x v) (hW : ∀ b o v, W b o = some v → W' b o = some v := by exact fun _ _ _ h => h) (ht : ∀ b v o, W b 0 = some v → w.heap[b]? = some o → w'.heap[b]? = some o := by exact fun _ _ _ _ h => h) : OR θ' W' w' id o := by
  cases o with
  | dead => exact fun ver => by rw [hid]; exact h ver
  | rsv => exact fun ver => by rw [hid]; exact h ver
  | glob b v => exact ⟨hW b 0 v h.1, fun ver => by rw [hid]; exact h.2 ver⟩
  | tab b v o => exact ⟨hW b 0 v h.1, ht b v o h.1 h.2.1, fun ver => by rw [hid]; exact h.2.2 ver⟩
  | var cs =>
    obtain ⟨⟨b, sz, tot, ty, vs, h1, h2, h3, h4, h5⟩, h6⟩ := h
    exact ⟨⟨b, sz, tot, ty, vs, by rw [hid]; exact h1, by rw [hb 0 b sz tot h1]; exact h2, h3, fun j c v hj hv => hr _ _ (h4 j c v hj hv), h5⟩, fun ver hv => by rw [hid]; exact h6 ver hv⟩
  | rows sz ver rs =>
    obtain ⟨h1, h2, h3⟩ := h
    refine ⟨?_, fun v hv => by rw [hid]; exact h2 v hv, fun v hv => by rw [hid]; exact h3 v hv⟩
    rcases h1 with ⟨h1, h4⟩ | ⟨b, tot, ty, vs, h1, h4, h5, h6, h7, h8, h9⟩
    · exact .inl ⟨by rw [hid]; exact h1, h4⟩
    · exact .inr ⟨b, tot, ty, vs, by rw [hid]; exact h1, by rw [hb ver b sz tot h1]; exact h4, h5, h6, h7, fun i r j c v hi hj hv => hr _ _ (h8 i r j c v hi hj hv), h9⟩
  | mapo es =>
    obtain ⟨⟨b, es', ck, h1, h2, h3, h4⟩, h5⟩ := h
    exact ⟨⟨b, es', ck, by rw [hid]; exact h1, by rw [hb 0 b 0 0 h1]; exact h2, h3, fun j e e' hj he => ⟨hr _ _ (h4 j e e' hj he).1, hr _ _ (h4 j e e' hj he).2⟩⟩, fun ver hv => by rw [hid]; exact h5 ver hv⟩
def thSet (θ:Th) (id ver:Nat) (pl:Pl):Th:=fun i v=>if i=id/\v=ver then pl else θ i v
theorem thSet_same (θ:Th) (id ver:Nat) (pl:Pl):thSet θ id ver pl id ver=pl:=by simp [thSet]
theorem thSet_other {θ:Th} {id ver:Nat} {pl:Pl} {i v:Nat} (h:¬ (i=id/\v=ver)):thSet θ id ver pl i v=θ i v:=by simp [thSet,h]
theorem SR.push {θ:Th} {W:Im} {H:List AO} {w w':World} (h:SR θ W H w) (o:AO) (pl:Pl)
  (hos:w'.os=w.os) (htp:w'.tape=w.tape) (hou:w'.output=w.output) (hsz:w.heap.size<=w'.heap.size)
  (hold:∀ b,b<w.heap.size->w'.heap[b]?=w.heap[b]?)
  (hpl:∀ b sz tot,pl=.at b sz tot->b=w.heap.size)
  (hno:pl≠.no)
  (ho:(∀ x v,ARel θ W x v->ARel (thSet θ H.length 0 pl) W x v)->OR (thSet θ H.length 0 pl) W w' H.length o) :
  SR (thSet θ H.length 0 pl) W (H++[o]) w'/\Stp θ W w (thSet θ H.length 0 pl) W w':=by
 have hθ:∀ id ver,θ id ver≠.no->thSet θ H.length 0 pl id ver=θ id ver:=by
  intro id ver hn
  refine thSet_other fun ⟨e,_⟩=>hn ?_
  exact h.out id ver (by omega)
 have hr:∀ x v,ARel θ W x v->ARel (thSet θ H.length 0 pl) W x v:=fun x v hx=>hx.mono (fun _ _ _ h=>h) (fun id ver hn=>.inl (hθ id ver hn))
 have hown:∀ b,Owned (thSet θ H.length 0 pl) b->Owned θ b\/w.heap.size=b:=by
  rintro b ⟨id,ver,sz,tot,hb⟩
  by_cases e:id=H.length/\ver=0
  ·obtain ⟨rfl,rfl⟩:=e
   rw [thSet_same] at hb
   exact .inr (hpl b sz tot hb).symm
  ·rw [thSet_other e] at hb
   exact .inl ⟨id,ver,sz,tot,hb⟩
 refine ⟨⟨?_,?_,?_,?_,?_⟩,⟨hos,htp,hou,hsz,fun b hb _=>hold b hb,fun _ _ _ h=>h,fun _ _ _ _=>rfl,fun id ver hn=>.inl (hθ id ver hn),fun b hb=>(hown b hb).imp id (fun e=>by omega)⟩⟩
 ·intro b o' v hv
  have hb:=h.imm b o' v hv
  rw [<- hb]
  exact World.cell?_of_block (hold b (cell_old hb))
 ·intro id o' hid
  rcases Nat.lt_trichotomy id H.length with hlt | heq | hgt
  ·rw [List.getElem?_append_left hlt] at hid
   refine (h.obj id o' hid).mono (fun ver=>thSet_other (by omega)) (fun ver b sz tot hb=>hold b (h.ownedLt hb)) hr (ht:=fun b v o hv ho=>by rw [hold b (h.lt hv)]; exact ho)
  ·subst heq
   rw [List.getElem?_append_right (Nat.le_refl _)] at hid
   simp at hid
   subst hid
   exact ho hr
  ·rw [List.getElem?_eq_none (by simp; omega)] at hid; cases hid
 ·intro id ver hid
  simp at hid
  rw [thSet_other (by omega)]
  exact h.out id ver (by omega)
 ·intro b hb o'
  rcases hown b hb with hb | hb
  ·exact h.own b hb o'
  ·cases e:W b o' with
   | none=>rfl
   | some v=>have:=h.lt e; omega
 ·intro b id ver sz tot id' ver' sz' tot' h1 h2
  by_cases e:id=H.length/\ver=0 <;> by_cases e':id'=H.length/\ver'=0
  ·exact ⟨by omega,by omega⟩
  ·obtain ⟨rfl,rfl⟩:=e
   rw [thSet_same] at h1
   rw [thSet_other e'] at h2
   have:=hpl _ _ _ h1
   have:=h.ownedLt h2
   omega
  ·obtain ⟨rfl,rfl⟩:=e'
   rw [thSet_same] at h2
   rw [thSet_other e] at h1
   have:=hpl _ _ _ h2
   have:=h.ownedLt h1
   omega
  ·rw [thSet_other e] at h1
   rw [thSet_other e'] at h2
   exact h.inj b _ _ _ _ _ _ _ _ h1 h2
theorem SR.write {θ:Th} {W:Im} {H:List AO} {w w':World} (h:SR θ W H w) (id ver b sz tot:Nat) (o:AO) (hid:id<H.length) (hb:θ id ver=.at b sz tot)
  (hos:w'.os=w.os) (htp:w'.tape=w.tape) (hou:w'.output=w.output) (hsz:w'.heap.size=w.heap.size)
  (hold:∀ k,k≠b->w'.heap[k]?=w.heap[k]?) (ho:OR θ W w' id o) :
  SR θ W (H.set id o) w'/\Stp θ W w θ W w':=by
 refine ⟨⟨?_,?_,?_,h.own,h.inj⟩,⟨hos,htp,hou,by omega,fun k _ hk=>hold k (fun e=>hk (e ▸ ⟨id,ver,sz,tot,hb⟩)),fun _ _ _ h=>h,fun _ _ _ _=>rfl,fun _ _ _=>.inl rfl,fun _ h=>.inl h⟩⟩
 ·intro k o' v hv
  rw [<- h.imm k o' v hv]
  refine World.cell?_of_block (hold k fun e=>?_)
  have:=h.own b ⟨id,ver,sz,tot,hb⟩ o'
  subst e
  rw [this] at hv
  cases hv
 ·intro i o' hi
  by_cases e:i=id
  ·subst e
   rw [List.getElem?_set_self hid] at hi
   cases hi
   exact ho
  ·rw [List.getElem?_set_ne (Ne.symm e)] at hi
   refine (h.obj i o' hi).mono (fun _=>rfl) (fun v k s t hk=>hold k ?_) (fun _ _ h=>h) (ht:=fun k v o hv ho=>by rw [hold k (fun e=>by have:=h.own b ⟨id,ver,sz,tot,hb⟩ 0; rw [<- e,hv] at this; cases this)]; exact ho)
   rintro rfl
   exact e (h.inj _ _ _ _ _ _ _ _ _ hk hb).1
 ·intro i v hi
  simp at hi
  exact h.out i v hi
theorem SR.grow {θ:Th} {W:Im} {H:List AO} {w w':World} (h:SR θ W H w) (id ver:Nat) (o:AO) (pl:Pl) (hid:id<H.length)
  (hcur:θ id ver≠.no) (hnext:θ id (ver+1)=.no)
  (hos:w'.os=w.os) (htp:w'.tape=w.tape) (hou:w'.output=w.output) (hsz:w.heap.size<=w'.heap.size)
  (hold:∀ k,k<w.heap.size->(∀ sz tot,θ id ver≠.at k sz tot)->w'.heap[k]?=w.heap[k]?)
  (hpl:∀ b sz tot,pl=.at b sz tot->(∃ sz' tot',θ id ver=.at b sz' tot')\/w.heap.size=b)
  (ho:(∀ x v,ARel θ W x v->ARel (thSet (thSet θ id ver .dead) id (ver+1) pl) W x v)->OR (thSet (thSet θ id ver .dead) id (ver+1) pl) W w' id o) :
  SR (thSet (thSet θ id ver .dead) id (ver+1) pl) W (H.set id o) w'/\Stp θ W w (thSet (thSet θ id ver .dead) id (ver+1) pl) W w':=by
 have e1:thSet (thSet θ id ver .dead) id (ver+1) pl id (ver+1)=pl:=thSet_same _ _ _ _
 have e2:thSet (thSet θ id ver .dead) id (ver+1) pl id ver=.dead:=by rw [thSet_other (by omega),thSet_same]
 have e3:∀ i v,¬ (i=id/\v=ver)->¬ (i=id/\v=ver+1)->thSet (thSet θ id ver .dead) id (ver+1) pl i v=θ i v:=fun i v a b=>by
  rw [thSet_other b,thSet_other a]
 have hθ:∀ i v,θ i v≠.no->thSet (thSet θ id ver .dead) id (ver+1) pl i v=θ i v\/thSet (thSet θ id ver .dead) id (ver+1) pl i v=.dead:=by
  intro i v hn
  by_cases a:i=id/\v=ver
  ·obtain ⟨rfl,rfl⟩:=a; exact .inr e2
  ·by_cases b:i=id/\v=ver+1
   ·obtain ⟨rfl,rfl⟩:=b; exact (hn hnext).elim
   ·exact .inl (e3 i v a b)
 have hr:∀ x v,ARel θ W x v->ARel (thSet (thSet θ id ver .dead) id (ver+1) pl) W x v:=fun x v hx=>hx.mono (fun _ _ _ h=>h) hθ
 have hown:∀ b,Owned (thSet (thSet θ id ver .dead) id (ver+1) pl) b->Owned θ b\/w.heap.size=b:=by
  rintro b ⟨i,v,sz,tot,hb⟩
  by_cases a:i=id/\v=ver
  ·obtain ⟨rfl,rfl⟩:=a; rw [e2] at hb; cases hb
  ·by_cases c:i=id/\v=ver+1
   ·obtain ⟨rfl,rfl⟩:=c
    rw [e1] at hb
    rcases hpl b sz tot hb with ⟨sz',tot',h'⟩ | h'
    ·exact .inl ⟨_,_,_,_,h'⟩
    ·exact .inr h'
   ·rw [e3 i v a c] at hb
    exact .inl ⟨i,v,sz,tot,hb⟩
 refine ⟨⟨?_,?_,?_,?_,?_⟩,⟨hos,htp,hou,hsz,fun k hk hno=>hold k hk (fun sz tot e=>hno ⟨id,ver,sz,tot,e⟩),fun _ _ _ h=>h,fun _ _ _ _=>rfl,hθ,fun b hb=>(hown b hb).imp (fun a=>a) (fun e=>by omega)⟩⟩
 ·intro k o' v hv
  have hc:=h.imm k o' v hv
  rw [<- hc]
  refine World.cell?_of_block (hold k (cell_old hc) fun sz tot e=>?_)
  have:=h.own k ⟨id,ver,sz,tot,e⟩ o'
  rw [this] at hv
  cases hv
 ·intro i o' hi
  by_cases e:i=id
  ·subst e
   rw [List.getElem?_set_self hid] at hi
   cases hi
   exact ho hr
  ·rw [List.getElem?_set_ne (Ne.symm e)] at hi
   refine (h.obj i o' hi).mono (fun v=>e3 i v (by omega) (by omega)) (fun v k s t hk=>hold k (h.ownedLt hk) fun sz tot e'=>?_) hr (ht:=fun k v o hv ho=>by rw [hold k (h.lt hv) (fun sz tot e=>by have:=h.own k ⟨id,ver,sz,tot,e⟩ 0; rw [hv] at this; cases this)]; exact ho)
   exact e (h.inj _ _ _ _ _ _ _ _ _ hk e').1
 ·intro i v hi
  simp at hi
  rw [e3 i v (by omega) (by omega)]
  exact h.out i v hi
 ·intro b hb o'
  rcases hown b hb with hb | hb
  ·exact h.own b hb o'
  ·cases e:W b o' with
   | none=>rfl
   | some v=>have:=h.lt e; omega
 ·intro b i v sz tot i' v' sz' tot' h1 h2
  have key:∀ i v sz tot,thSet (thSet θ id ver .dead) id (ver+1) pl i v=.at b sz tot ->
    (i=id/\v=ver+1/\((∃ s t,θ id ver=.at b s t)\/w.heap.size=b))\/(¬ (i=id/\v=ver)/\¬ (i=id/\v=ver+1)/\θ i v=.at b sz tot):=by
   intro i v sz tot hh
   by_cases a:i=id/\v=ver
   ·obtain ⟨rfl,rfl⟩:=a; rw [e2] at hh; cases hh
   ·by_cases c:i=id/\v=ver+1
    ·obtain ⟨rfl,rfl⟩:=c; rw [e1] at hh; exact .inl ⟨rfl,rfl,hpl b sz tot hh⟩
    ·rw [e3 i v a c] at hh; exact .inr ⟨a,c,hh⟩
  rcases key _ _ _ _ h1 with ⟨a1,a2,a3⟩ | ⟨a1,a2,a3⟩ <;> rcases key _ _ _ _ h2 with ⟨b1,b2,b3⟩ | ⟨b1,b2,b3⟩
  ·exact ⟨by omega,by omega⟩
  ·rcases a3 with ⟨s,t,a3⟩ | a3
   ·have:=h.inj _ _ _ _ _ _ _ _ _ a3 b3; omega
   ·have:=h.ownedLt b3; omega
  ·rcases b3 with ⟨s,t,b3⟩ | b3
   ·have:=h.inj _ _ _ _ _ _ _ _ _ b3 a3; omega
   ·have:=h.ownedLt a3; omega
  ·exact h.inj b _ _ _ _ _ _ _ _ a3 b3
end Go.AM
set_option linter.all false
namespace Go.AM
structure Rl (lv:List Nat) (N:Nat) (st:St) (a:Act) (w:World) (θ:Th) (W:Im):Prop where
 defers:a.defers=[]
 size:a.tmps.size=N
 loc:∀ t,lmem lv t=true->ARel θ W (eget st.L t) (a.tmps.getD t undef)
 tmp:∀ t,lmem lv t=false->ARel θ W (eget st.T t) (a.tmps.getD t undef)
 mem:SR θ W st.H w
theorem eget_eset (L : En) (d : Nat) (v : AV) (t : Nat) : eget (eset L d v) t = if d = t then v else eget L t := by
  induction L with
  | nil => simp [eset, eget]
  | cons kv L ih =>
    obtain ⟨k, u⟩ := kv
    simp only [eset]
    by_cases hk : k = d
    · subst hk
      simp only [if_true, eget]
      split <;> rfl
    · simp only [hk, if_false, eget, ih]
      by_cases hkt : k = t
      · subst hkt
        simp [show ¬ d = k from fun e => hk e.symm]
      · simp [hkt]
theorem getD_set (a:Array Value) (d t:Nat) (v:Value) (hd:d<a.size):(a.setIfInBounds d v).getD t undef=if d=t then v else a.getD t undef:=by
 by_cases h:d=t
 ·subst h; simp [Array.getD,hd]
 ·simp only [h,if_false]
  by_cases ht:t<a.size
  ·simp [Array.getD,ht,Array.getElem_setIfInBounds_ne,h]
  ·simp [Array.getD,ht]
theorem Rl.put {lv : List Nat} {N : Nat} {st : St} {a : Act} {w w' : World} {θ θ' : Th} {W W' : Im} {H' : List AO} (h : Rl lv N st a w θ W)
    {d : Option Nat} (hd : d.all (decide <| · < N) = true) {r : AV} {v : Value} (hr : ARel θ' W' r v) (hm : SR θ' W' H' w') (hs : Stp θ W w θ' W' w') :
    Rl lv N (St.put ⟨st.L, st.T, H'⟩ (cDst lv d) r) (a.put d v) w' θ' W' := by
  cases d with
  | none => exact ⟨h.defers, h.size, fun t ht => (h.loc t ht).step hs, fun t ht => (h.tmp t ht).step hs, hm⟩
  | some d =>
    have hd' : d < a.tmps.size := by rw [h.size]; simpa using hd
    unfold cDst
    by_cases hl : lmem lv d = true
    · simp only [hl, if_true, St.put, Act.put]
      refine ⟨h.defers, by simpa using h.size, ?_, ?_, hm⟩
      · intro t ht
        rw [eget_eset, getD_set _ _ _ _ hd']
        split
        · exact hr
        · exact (h.loc t ht).step hs
      · intro t ht
        rw [getD_set _ _ _ _ hd', if_neg (fun e => by subst e; rw [hl] at ht; cases ht)]
        exact (h.tmp t ht).step hs
    · simp only [hl, Bool.false_eq_true, if_false, St.put, Act.put]
      refine ⟨h.defers, by simpa using h.size, ?_, ?_, hm⟩
      · intro t ht
        rw [getD_set _ _ _ _ hd', if_neg (fun e => by subst e; exact hl ht)]
        exact (h.loc t ht).step hs
      · intro t ht
        rw [eget_cons, getD_set _ _ _ _ hd']
        split
        · exact hr
        · exact (h.tmp t ht).step hs
theorem ofVal1_rel {v:Value} {x:AV} (h:ofVal1 v=some x) (θ:Th) (W:Im):ARel θ W x v:=by
 unfold ofVal1 at h
 split at h
 all_goals first
  | (cases h; exact .p _ _ (.b _))
  | (cases h; exact .p _ _ (.i _ _))
  | (cases h; exact .p _ _ .np)
  | (cases h; exact .p _ _ .nl)
  | (cases h; exact .p _ _ .nf)
  | (cases h; exact .p _ _ .nm)
  | (cases h; exact .p _ _ .ni)
  | (cases h; done)
  | skip
 ·rename_i s
  split at h
  ·cases h
   have:(Value.string s)=.string ⟨s.data.toList.toArray⟩:=by simp
   rw [this]
   exact .p _ _ (.s _ (by rename_i hl; rw [Array.length_toList]; exact hl))
  ·cases h
theorem ofVal1_one {v:Value} {x:AV} (h:ofVal1 v=some x):v.oneCell'=true:=by
 unfold ofVal1 at h
 split at h <;> first | rfl | (cases h; done)
theorem ofVals1_rel {vs : List Value} {xs : List AV} (h : ofVals1 vs = some xs) (θ : Th) (W : Im) :
    vs.length = xs.length ∧ (∀ (j : Nat) (c : AV) (v : Value), xs[j]? = some c → vs[j]? = some v → ARel θ W c v) ∧ ∀ (j : Nat) (v : Value), vs[j]? = some v → v.oneCell' = true := by
  induction vs generalizing xs with
  | nil => cases h; exact ⟨rfl, fun j c v hj => by simp at hj, fun j v hj => by simp at hj⟩
  | cons v vs ih =>
    simp only [ofVals1] at h
    split at h
    · rename_i x l hx hl
      cases h
      obtain ⟨h1, h2, h3⟩ := ih hl
      refine ⟨by simp [h1], ?_, ?_⟩
      · intro j c u hj hv
        cases j with
        | zero => simp at hj hv; subst hj; subst hv; exact ofVal1_rel hx θ W
        | succ j => simp at hj hv; exact h2 j c u hj hv
      · intro j u hv
        cases j with
        | zero => simp at hv; subst hv; exact ofVal1_one hx
        | succ j => simp at hv; exact h3 j u hv
    · cases h
theorem ofVal_rel {v : Value} {x : AV} (h : ofVal v = some x) (θ : Th) (W : Im) : ARel θ W x v := by
  unfold ofVal at h
  split at h
  · rename_i cs
    cases hc : ofVals1 cs.toList with
    | none => rw [hc] at h; cases h
    | some xs =>
      rw [hc] at h
      cases h
      obtain ⟨h1, h2, h3⟩ := ofVals1_rel hc θ W
      exact .st xs cs (by simpa using h1) (fun j c v hj hv => h2 j c v hj (by simpa using hv)) (fun j v hv => h3 j v (by simpa using hv))
  · exact ofVal1_rel h θ W
theorem Rl.tmpArg {lv:List Nat} {N:Nat} {st:St} {a:Act} {w:World} {θ:Th} {W:Im} (h:Rl lv N st a w θ W) (t:Nat):ARel θ W (st.get (cTmp lv t)) (a.eval (.tmp t)):=by
 unfold cTmp
 cases hl:lmem lv t with
 | true=>exact h.loc t hl
 | false=>exact h.tmp t hl
theorem Rl.arg {lv : List Nat} {N : Nat} {st : St} {a : Act} {w : World} {θ : Th} {W : Im} (h : Rl lv N st a w θ W) {x : Operand} {m : MA} (hx : cArg lv x = some m) :
    ARel θ W (st.get m) (a.eval x) := by
  cases x with
  | tmp t => cases hx; exact h.tmpArg t
  | const v =>
    simp only [cArg] at hx
    cases hv : ofVal v with
    | none => rw [hv] at hx; cases hx
    | some y => rw [hv] at hx; cases hx; exact ofVal_rel hv θ W
  | global g => cases hx
  | func f =>
    cases hx
    exact .clo f [] #[] rfl (fun j c v hj => by simp at hj)
theorem Rl.args {lv : List Nat} {N : Nat} {st : St} {a : Act} {w : World} {θ : Th} {W : Im} (h : Rl lv N st a w θ W) {xs : List Operand} {ms : List MA} (hx : cArgs lv xs = some ms) :
    Rels θ W (gets st ms) ((xs.map a.eval).toArray) := by
  induction xs generalizing ms with
  | nil => cases hx; exact ⟨rfl, fun j c v hj => by simp [gets] at hj⟩
  | cons x xs ih =>
    simp only [cArgs] at hx
    split at hx
    · rename_i y l hy hl
      cases hx
      obtain ⟨h1, h2⟩ := ih hl
      refine ⟨by simpa [gets] using h1, ?_⟩
      intro j c v hj hv
      cases j with
      | zero => simp [gets] at hj hv; subst hj; subst hv; exact h.arg hy
      | succ j => simp only [gets, List.getElem?_cons_succ] at hj; simp at hv; exact h2 j c v hj (by simpa using hv)
    · cases hx
def OpOk (lv:List Nat) (P:Program) (N:Nat) (o:Oper) (st:St) (K:St->Prop):Prop :=
 ∀ (a:Act) (w:World) (θ:Th) (W:Im) (next:Act->World->Prop) (Q:Exit->Act->World->Prop),Rl lv N st a w θ W ->
  (∀ st' a' w' θ' W',K st'->Rl lv N st' a' w' θ' W'->Stp θ W w θ' W' w'->next a' w')->o.wp P a w next Q
section
variable {lv:List Nat} {P:Program} {N:Nat} {o:Oper} {st:St} {K:St->Prop} {a:Act} {w w':World} {θ θ':Th} {W W':Im}
 {next:Act->World->Prop} {Q:Exit->Act->World->Prop} {H':List AO}
theorem end_value (h:Rl lv N st a w θ W) (hd:o.dst.all (decide <| ·<N)=true)
  (hk:∀ st' a' w' θ' W',K st'->Rl lv N st' a' w' θ' W'->Stp θ W w θ' W' w'->next a' w')
  {v:Value} {r:AV} (hrun:(execOp a.eval o).run P w=.ok (.value v) w') (hr:ARel θ' W' r v) (hm:SR θ' W' H' w') (hs:Stp θ W w θ' W' w')
  (hK:K (St.put ⟨st.L,st.T,H'⟩ (cDst lv o.dst) r)):o.wp P a w next Q:=by
 unfold Oper.wp
 rw [hrun]
 exact hk _ _ _ _ _ hK (h.put hd hr hm hs) hs
theorem end_same (h:Rl lv N st a w θ W) (hd:o.dst.all (decide <| ·<N)=true)
  (hk:∀ st' a' w' θ' W',K st'->Rl lv N st' a' w' θ' W'->Stp θ W w θ' W' w'->next a' w')
  {v:Value} {r:AV} (hrun:(execOp a.eval o).run P w=.ok (.value v) w) (hr:ARel θ W r v)
  (hK:K (st.put (cDst lv o.dst) r)):o.wp P a w next Q :=
 end_value h hd hk hrun hr h.mem (Stp.refl θ W w) hK
theorem end_skip (h:Rl lv N st a w θ W) (hd:o.dst.all (decide <| ·<N)=true)
  (hk:∀ st' a' w' θ' W',K st'->Rl lv N st' a' w' θ' W'->Stp θ W w θ' W' w'->next a' w')
  (hrun:(execOp a.eval o).run P w=.ok .skip w') (hm:SR θ' W' H' w') (hs:Stp θ W w θ' W' w')
  (hK:K (St.put ⟨st.L,st.T,H'⟩ (cDst lv o.dst) .any)):o.wp P a w next Q:=by
 unfold Oper.wp
 rw [hrun]
 exact hk _ _ _ _ _ hK (h.put hd (.any _) hm hs) hs
theorem withV_inv {x:Option AV} {d:MD} (h:withV x d K st):∃ v,x=some v/\K (st.put d v):=by
 cases x with
 | none=>exact h.elim
 | some v=>exact ⟨v,rfl,h⟩
end
end Go.AM
set_option linter.all false
namespace Go.AM
variable {lv:List Nat} {P:Program} {N:Nat} {o:Oper} {st:St} {K:St->Prop} {θ:Th} {W:Im}
theorem ARel.p_inv {x:PV} {v:Value} (h:ARel θ W (.p x) v):PRel W x v:=by cases h; assumption
theorem ARel.b_inv {x:Bool} {v:Value} (h:ARel θ W (.p (.b x)) v):v=.bool x:=by cases h.p_inv; rfl
theorem ARel.i_inv {k:IntKind} {n:Int} {v:Value} (h:ARel θ W (.p (.i k n)) v):v=.int k n:=by cases h.p_inv; rfl
theorem ARel.s_inv {x:List UInt8} {v:Value} (h:ARel θ W (.p (.s x)) v):v=.string ⟨x.toArray⟩/\x.length<=maxL:=by
 cases h.p_inv; exact ⟨rfl,by assumption⟩
theorem cells_rel {x:AV} {v:Value} (h:ARel θ W x v) (hx:x.allOne=true) :
  v.cells.size=x.cells.length/\(∀ (j:Nat) (c:AV) (u:Value),x.cells[j]?=some c->v.cells[j]?=some u->ARel θ W c u)/\∀ (j:Nat) (u:Value),v.cells[j]?=some u->u.oneCell'=true:=by
 by_cases hs:∃ cs,x=.st cs
 ·obtain ⟨cs,rfl⟩:=hs
  cases h with
  | st _ vs h1 h2 h3=>exact ⟨h1,h2,h3⟩
 ·have h1:x.one=true:=by
   cases x <;> first | rfl | (simp [AV.allOne,AV.one] at hx; done) | (exact (hs ⟨_,rfl⟩).elim)
  have hv:=h.one h1
  have hc:v.cells=#[v]:=by cases v <;> first | rfl | (simp [Value.oneCell'] at hv; done)
  have hc':x.cells=[x]:=by cases x <;> first | rfl | (exact (hs ⟨_,rfl⟩).elim)
  rw [hc,hc']
  refine ⟨rfl,?_,?_⟩
  ·intro j c u hj hu
   cases j with
   | zero=>simp at hj hu; subst hj; subst hu; exact h
   | succ j=>simp at hj
  ·intro j u hu
   cases j with
   | zero=>simp at hu; subst hu; exact hv
   | succ j=>simp at hu
theorem ok_mv {x:Operand} {m:MA} (ho:o.op=.move x\/o.op=.assign x) (hx:cArg lv x=some m) (hd:o.dst.all (decide <| ·<N)=true)
  (h:K (st.put (cDst lv o.dst) (st.get m))):OpOk lv P N o st K:=by
 intro a w θ W next Q hR hk
 refine end_same hR hd hk (v:=a.eval x) (r:=st.get m) ?_ (hR.arg hx) h
 rcases ho with ho | ho <;> simp [execOp,ho]
theorem ok_pick {x y z:Operand} {mx my mz:MA} (ho:o.op=.pick x y z) (hx:cArg lv x=some mx) (hy:cArg lv y=some my) (hz:cArg lv z=some mz)
  (hd:o.dst.all (decide <| ·<N)=true) (h:withV (pickV (st.get mx) (st.get my) (st.get mz)) (cDst lv o.dst) K st):OpOk lv P N o st K:=by
 intro a w θ W next Q hR hk
 obtain ⟨v,hv,hK⟩:=withV_inv h
 have h1:=hR.arg hx
 unfold pickV at hv
 split at hv
 ·rename_i _ _ c e
  cases hv
  rw [e] at h1
  have e1:=h1.b_inv
  cases c
  ·refine end_same hR hd hk (v:=a.eval z) ?_ (hR.arg hz) hK
   simp [execOp,ho,e1,asBool]
  ·refine end_same hR hd hk (v:=a.eval y) ?_ (hR.arg hy) hK
   simp [execOp,ho,e1,asBool]
 ·cases hv
theorem newvar {H:List AO} {w:World} (h:SR θ W H w) (cs:List AV) (vs:Array Value) (ty:TypeId) (hs:vs.size=cs.length)
  (hc:∀ (j:Nat) (c:AV) (u:Value),cs[j]?=some c->vs[j]?=some u->ARel θ W c u) (h1:∀ (j:Nat) (u:Value),vs[j]?=some u->u.oneCell'=true) :
  ∃ θ',SR θ' W (H++[.var cs]) (w.alloc (.cells vs ty))/\Stp θ W w θ' W (w.alloc (.cells vs ty))/\ARel θ' W (.ptr H.length 0) (.pointer (some ⟨w.heap.size,0,none⟩)):=by
 obtain ⟨a,b⟩:=h.push (w':=w.alloc (.cells vs ty)) (.var cs) (.at w.heap.size 1 0) rfl rfl rfl (by simp) (fun k hb=>RowKit.Below.heap_alloc w _ k hb) (fun b sz tot e=>by cases e; rfl) (fun e=>by cases e)
  (fun hr=>⟨⟨w.heap.size,1,0,ty,vs,thSet_same _ _ _ _,heap_alloc_new w _,hs,fun j c v hj hv=>hr _ _ (hc j c v hj hv),h1⟩,fun ver hv=>by
   rw [thSet_other (by omega)]; exact h.out _ _ (Nat.le_refl _)⟩)
 exact ⟨_,a,b,.ptr _ 0 w.heap.size 1 0 (thSet_same _ _ _ _)⟩
theorem zeroOf_inv {t:TypeId} {z:List AV} (h:zeroOf P t=some z):∃ i zv,P.info? t=some i/\i.zero=some zv/\ofVals1 zv.cells.toList=some z:=by
 unfold zeroOf at h
 split at h
 ·rename_i i hi
  split at h
  ·rename_i zv hz
   exact ⟨i,zv,hi,hz,h⟩
  ·cases h
 ·cases h
theorem ok_alloc {t:TypeId} {z:List AV} (ho:o.op=.alloc t) (hz:zeroOf P t=some z) (hd:o.dst.all (decide <| ·<N)=true)
  (h:newK (some (.var z)) (fun id=>.ptr id 0) (cDst lv o.dst) K st):OpOk lv P N o st K:=by
 intro a w θ W next Q hR hk
 obtain ⟨i,zv,hi,hzv,hv⟩:=zeroOf_inv hz
 obtain ⟨h1,h2,h3⟩:=ofVals1_rel hv θ W
 obtain ⟨θ',a1,a2,a3⟩:=newvar hR.mem z zv.cells t (by simpa using h1) (fun j c u hj hu=>h2 j c u hj (by simpa using hu)) (fun j u hu=>h3 j u (by simpa using hu))
 refine end_value hR hd hk (v:=.pointer (some ⟨w.heap.size,0,none⟩)) ?_ a3 a1 a2 h
 simp [execOp,ho,Instr.alloc,zeroValue,typeInfo,hi,hzv,newVar,newRow]
theorem ok_box {t:TypeId} {n:Nat} {x:Operand} {m:MA} (ho:o.op=.box t x) (hx:cArg lv x=some m) (hd:o.dst.all (decide <| ·<N)=true)
  (h:newK (if (st.get m).allOne && (st.get m).cells.length == n then some (.var (st.get m).cells) else none) (fun id=>.ptr id 0) (cDst lv o.dst) K st):OpOk lv P N o st K:=by
 intro a w θ W next Q hR hk
 by_cases hc:((st.get m).allOne && (st.get m).cells.length == n)=true
 ·rw [if_pos hc] at h
  simp only [Bool.and_eq_true] at hc
  obtain ⟨h1,h2,h3⟩:=cells_rel (hR.arg hx) hc.1
  obtain ⟨θ',a1,a2,a3⟩:=newvar hR.mem (st.get m).cells (a.eval x).cells t h1 h2 h3
  refine end_value hR hd hk (v:=.pointer (some ⟨w.heap.size,0,none⟩)) ?_ a3 a1 a2 h
  simp [execOp,ho,Instr.box,newVar,newRow]
 ·rw [if_neg hc] at h
  exact h.elim
theorem takeN_len {n : Nat} {cs us : List AV} (h : takeN n cs = some us) : us.length = n ∧ ∀ (j : Nat) (c : AV), us[j]? = some c → cs[j]? = some c := by
  induction n generalizing cs us with
  | zero => cases h; exact ⟨rfl, fun j c hj => by simp at hj⟩
  | succ n ih =>
    cases cs with
    | nil => cases h
    | cons c cs =>
      simp only [takeN] at h
      cases hu : takeN n cs with
      | none => rw [hu] at h; cases h
      | some vs =>
        rw [hu] at h
        cases h
        obtain ⟨h1, h2⟩ := ih hu
        refine ⟨by simp [h1], fun j d hj => ?_⟩
        cases j with
        | zero => simpa using hj
        | succ j => simp at hj ⊢; exact h2 j d hj
def Reads (θ:Th) (W:Im) (w:World) (a:Addr) (cs:List AV):Prop :=
 a.spot=none/\∀ (j:Nat) (c:AV),cs[j]?=some c->∃ v,w.cell? (a.add j)=some v/\ARel θ W c v/\v.oneCell'=true
theorem Reads.load {w : World} {a : Addr} {cs : List AV} (h : Reads θ W w a cs) {t : TypeId} {g : Bool} {n : Nat} (hg : aggT P t = some g) (hn : sizeT P t = some n) {x : AV}
    (hx : ldV g n (some cs) = some x) : ∃ v, (loadVar t a).run P w = .ok v w ∧ ARel θ W x v ∧ (g = false → v.oneCell' = true) := by
  have hu : ∃ d, P.underlying t = some d ∧ (g = true ↔ ((∃ fs, d = .struct fs) ∨ ∃ n e, d = .array n e)) := by
    unfold aggT at hg
    split at hg
    · rename_i fs e; cases hg; exact ⟨_, e, by simp⟩
    · rename_i n e' e; cases hg; exact ⟨_, e, by simp⟩
    · rename_i d n1 n2 e
      cases hg
      refine ⟨d, e, by simp; exact ⟨fun fs e' => n1 fs e', fun a b e' => n2 a b e'⟩⟩
    · cases hg
  obtain ⟨d, hd, hgd⟩ := hu
  have hagg : (isAgg t).run P w = .ok g w := by
    simp only [isAgg, Sem.run_bind, run_underlying hd, Result.andThen_ok]
    cases g with
    | true => rcases hgd.1 rfl with ⟨fs, rfl⟩ | ⟨n, e, rfl⟩ <;> rfl
    | false =>
      have hno : ¬ ((∃ fs, d = .struct fs) ∨ ∃ n e, d = .array n e) := fun hh => by cases hgd.2 hh
      cases d <;> first | rfl | (exact (hno (.inl ⟨_, rfl⟩)).elim) | (exact (hno (.inr ⟨_, _, rfl⟩)).elim)
  obtain ⟨i, hi, rfl⟩ : ∃ i, P.info? t = some i ∧ i.size = n := by
    simp only [sizeT] at hn
    cases hi : P.info? t with
    | none => rw [hi] at hn; cases hn
    | some i => rw [hi] at hn; cases hn; exact ⟨i, rfl, rfl⟩
  cases g with
  | false =>
    cases cs with
    | nil => cases hx
    | cons c cs =>
      cases hx
      obtain ⟨v, h1, h2, h3⟩ := h.2 0 _ rfl
      have hz : a.add 0 = a := by simp [Addr.add]
      rw [hz] at h1
      exact ⟨v, by simp [loadVar, hagg, h1], h2, fun _ => h3⟩
  | true =>
    simp only [ldV, if_true] at hx
    cases hu : takeN i.size cs with
    | none => rw [hu] at hx; cases hx
    | some us =>
      rw [hu] at hx
      cases hx
      obtain ⟨h1, h2⟩ := takeN_len hu
      have hex : ∀ j, ∃ v, ∀ c, us[j]? = some c → w.cell? (a.add j) = some v ∧ ARel θ W c v ∧ v.oneCell' = true := by
        intro j
        cases hj : us[j]? with
        | none => exact ⟨undef, fun c hc => by cases hc⟩
        | some c =>
          obtain ⟨v, hv⟩ := h.2 j c (h2 j c hj)
          exact ⟨v, fun c' hc => by cases hc; exact hv⟩
      obtain ⟨f, hf⟩ := Classical.axiomOfChoice hex
      have hr := run_loadCells (P := P) w a i.size f (fun j hj => by
        have : us[j]? = some us[j] := by simp [h1, hj]
        exact (hf j _ this).1)
      refine ⟨.agg ((List.range i.size).map f).toArray, ?_, .st us _ (by simp [h1]) ?_ ?_, fun e => by cases e⟩
      · simp [loadVar, hagg, sizeOf, typeInfo, hi, hr]
      · intro j c v hj hv
        have hlt : j < i.size := by
          rcases Nat.lt_or_ge j i.size with h' | h'
          · exact h'
          · rw [List.getElem?_eq_none (by omega)] at hj; cases hj
        simp [hlt] at hv
        subst hv
        exact (hf j c hj).2.1
      · intro j v hv
        have hlt : j < i.size := by
          rcases Nat.lt_or_ge j i.size with h' | h'
          · exact h'
          · simp [h'] at hv
        simp [hlt] at hv
        subst hv
        have : us[j]? = some us[j] := by simp [h1, hlt]
        exact (hf j _ this).2.2
theorem ldAt_reads {H : List AO} {w : World} (hm : SR θ W H w) {x : AV} {v : Value} (hv : ARel θ W x v) {cs : List AV} (h : ldAt H x = some cs) : ∃ a, v = .pointer (some a) ∧ Reads θ W w a cs := by
  unfold ldAt at h
  split at h
  · rename_i id off
    split at h
    · rename_i cs' hid
      cases h
      obtain ⟨⟨b, sz, tot, ty, vs, h1, h2, h3, h4, h5⟩, _⟩ := hm.obj id _ hid
      cases hv with
      | ptr _ _ b' sz' tot' e =>
        rw [h1] at e
        cases e
        refine ⟨_, rfl, rfl, fun j c hj => ?_⟩
        simp only [List.getElem?_drop] at hj
        have hlt : off + j < vs.size := by
          rcases Nat.lt_or_ge (off + j) cs'.length with h' | h'
          · omega
          · rw [List.getElem?_eq_none h'] at hj; cases hj
        refine ⟨vs[off + j], ?_, h4 _ _ _ hj (by simp [hlt]), h5 (off + j) _ (by simp [hlt])⟩
        simp [World.cell?, Addr.add_lit, h2, hlt]
      | ptrDead _ _ _ e => rw [h1] at e; cases e
    · cases h
  · rename_i id ver row col
    split at h
    · rename_i sz ver' rs hid
      split at h
      · rename_i e; subst e
        cases hrow : rs[row]? with
        | none => rw [hrow] at h; cases h
        | some r =>
          rw [hrow] at h
          cases h
          obtain ⟨h1, _, _⟩ := hm.obj id _ hid
          rcases h1 with ⟨_, h1⟩ | ⟨b, tot, ty, vs, h1, h2, h3, h4, h5, h6, h7⟩
          · subst h1; simp at hrow
          · cases hv with
            | ep _ _ _ _ b' sz' tot' e =>
              rw [h1] at e
              cases e
              refine ⟨_, rfl, rfl, fun j c hj => ?_⟩
              simp only [List.getElem?_drop] at hj
              have hr : r.length = sz := h5 r (List.mem_of_getElem? hrow)
              have hjl : col + j < r.length := by
                rcases Nat.lt_or_ge (col + j) r.length with h' | h'
                · exact h'
                · rw [List.getElem?_eq_none h'] at hj; cases hj
              have hrl : row < rs.length := by
                rcases Nat.lt_or_ge row rs.length with h' | h'
                · exact h'
                · rw [List.getElem?_eq_none h'] at hrow; cases hrow
              have hlt : row * sz + col + j < vs.size := by
                have h8 : (row + 1) * sz ≤ tot * sz := Nat.mul_le_mul_right _ (by omega)
                rw [Nat.add_mul] at h8
                omega
              refine ⟨vs[row * sz + col + j], ?_, h6 row r (col + j) c _ hrow hj (by rw [← Nat.add_assoc]; simp [hlt]), h7 _ _ (Array.getElem?_eq_getElem hlt)⟩
              simp [World.cell?, Addr.add_lit, h2, hlt]
            | epDead _ _ _ _ _ e => rw [h1] at e; cases e
      · cases h
    · cases h
  · rename_i row
    cases h
    cases hv with
    | ip _ b o f hc hr =>
      refine ⟨_, rfl, rfl, fun j c hj => ?_⟩
      simp only [List.getElem?_map] at hj
      cases hq : row[j]? with
      | none => rw [hq] at hj; cases hj
      | some q =>
        rw [hq] at hj
        cases hj
        exact ⟨f j, by rw [Addr.add_lit]; exact hm.imm _ _ _ (hc j q hq), .p _ _ (hr j q hq), (hr j q hq).one⟩
  · cases h
theorem ok_ld {t : TypeId} {g : Bool} {n : Nat} {x : Operand} {m : MA} (ho : o.op = .load t x) (hx : cArg lv x = some m) (hg : aggT P t = some g) (hn : sizeT P t = some n)
    (hd : o.dst.all (decide <| · < N) = true) (h : withV (ldV g n (ldAt st.H (st.get m))) (cDst lv o.dst) K st) : OpOk lv P N o st K := by
  intro a w θ W next Q hR hk
  obtain ⟨y, hy, hK⟩ := withV_inv h
  cases hc : ldAt st.H (st.get m) with
  | none => rw [hc] at hy; cases hy
  | some cs =>
    rw [hc] at hy
    obtain ⟨ad, hv, hr⟩ := ldAt_reads hR.mem (hR.arg hx) hc
    obtain ⟨v, h1, h2, _⟩ := hr.load hg hn hy
    refine end_same hR hd hk (v := v) ?_ h2 hK
    simp [execOp, ho, hv, Instr.loadAt, Instr.sureAddr, h1]
end Go.AM