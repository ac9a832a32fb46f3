/- The values and states of the abstract machine, and how they stand for the model's values and worlds: definitions, and that the relations are kept when memory grows. -/
import Derived.Calls
import Derived.Below
import Derived.WalkKit
set_option linter.all false
namespace Go.AM
inductive PV where
 | b (x:Bool)
 | i (k:IntKind) (n:Int)
 | s (x:List UInt8)
 | l (xs:List (List PV))
 | nl | np | nf | nm | ni | er
inductive AV where
 | any
 | p (x:PV)
 | st (cs:List AV)
 | ptr (id off:Nat)
 | gs (id ver off n:Nat)
 | ep (id ver row col:Nat)
 | ip (row:List PV)
 | clo (f:Nat) (caps:List AV)
 | tup (vs:List AV)
inductive AO where
 | dead
 | rsv
 | glob (b:Nat) (v:Value)
 | tab (b:Nat) (v:Value) (o:Obj)
 | var (cs:List AV)
 | rows (sz ver:Nat) (rs:List (List AV))
inductive Pl where
 | no | dead | nil
 | at (b sz tot:Nat)
abbrev Th:=Nat->Nat->Pl
abbrev Im:=Nat->Nat->Option Value
def maxL:Nat:=140737488355328
inductive PRel (W:Im):PV->Value->Prop
 | b (x:Bool):PRel W (.b x) (.bool x)
 | i (k:IntKind) (n:Int):PRel W (.i k n) (.int k n)
 | s (x:List UInt8) (h:x.length<=maxL):PRel W (.s x) (.string ⟨x.toArray⟩)
 | nl:PRel W .nl (.slice none 0 0)
 | np:PRel W .np (.pointer none)
 | nf:PRel W .nf .nilFunc
 | nm:PRel W .nm (.map none)
 | ni:PRel W .ni .nilIface
 | er (te:TypeId) (pe:Value):PRel W .er (.iface te pe)
 | l (xs:List (List PV)) (a:Option Addr) (cap sz:Nat) (f:Nat->Nat->Value)
   (hlen:xs.length<=cap) (hmax:xs.length<=maxL) (hnil:a=none->cap=0)
   (hsp:xs≠[]->∀ x,a=some x->x.spot=none)
   (hrow:∀ r∈xs,r.length=sz)
   (hcell:∀ (i:Nat) (r:List PV) (j:Nat) (q:PV),xs[i]?=some r->r[j]?=some q->∀ x,a=some x->W x.block (x.off+(i * sz+j))=some (f i j))
   (hrel:∀ (i:Nat) (r:List PV) (j:Nat) (q:PV),xs[i]?=some r->r[j]?=some q->PRel W q (f i j)) :
   PRel W (.l xs) (.slice a xs.length cap)
inductive ARel (θ:Th) (W:Im):AV->Value->Prop
 | any (v:Value):ARel θ W .any v
 | p (x:PV) (v:Value) (h:PRel W x v):ARel θ W (.p x) v
 | st (cs:List AV) (vs:Array Value) (hs:vs.size=cs.length)
   (hc:∀ (j:Nat) (c:AV) (v:Value),cs[j]?=some c->vs[j]?=some v->ARel θ W c v)
   (h1:∀ (j:Nat) (v:Value),vs[j]?=some v->v.oneCell'=true):ARel θ W (.st cs) (.agg vs)
 | ptr (id off b sz tot:Nat) (h:θ id 0=.at b sz tot):ARel θ W (.ptr id off) (.pointer (some ⟨b,off,none⟩))
 | ptrDead (id off:Nat) (a:Addr) (h:θ id 0=.dead):ARel θ W (.ptr id off) (.pointer (some a))
 | gsDead (id ver off n:Nat) (a:Option Addr) (cap:Nat) (h:θ id ver=.dead) (hn:n<=cap) (hm:n<=maxL):ARel θ W (.gs id ver off n) (.slice a n cap)
 | gsNil (id ver:Nat) (h:θ id ver=.nil):ARel θ W (.gs id ver 0 0) (.slice none 0 0)
 | gs (id ver off n b sz tot o cap:Nat) (h:θ id ver=.at b sz tot) (hn:n<=cap) (hm:n<=maxL) (hc:off+cap=tot) (ho:off<tot->o=off * sz) (h0:off=0->o=0) :
   ARel θ W (.gs id ver off n) (.slice (some ⟨b,o,none⟩) n cap)
 | ep (id ver row col b sz tot:Nat) (h:θ id ver=.at b sz tot):ARel θ W (.ep id ver row col) (.pointer (some ⟨b,row * sz+col,none⟩))
 | epDead (id ver row col:Nat) (a:Addr) (h:θ id ver=.dead):ARel θ W (.ep id ver row col) (.pointer (some a))
 | ip (row:List PV) (b o:Nat) (f:Nat->Value)
   (hcell:∀ (j:Nat) (q:PV),row[j]?=some q->W b (o+j)=some (f j))
   (hrel:∀ (j:Nat) (q:PV),row[j]?=some q->PRel W q (f j)):ARel θ W (.ip row) (.pointer (some ⟨b,o,none⟩))
 | clo (f:Nat) (caps:List AV) (vs:Array Value) (hs:vs.size=caps.length)
   (hc:∀ (j:Nat) (c:AV) (v:Value),caps[j]?=some c->vs[j]?=some v->ARel θ W c v):ARel θ W (.clo f caps) (.func (.func f) #[] vs)
 | tup (vs:List AV) (us:Array Value) (hs:us.size=vs.length)
   (hc:∀ (j:Nat) (c:AV) (v:Value),vs[j]?=some c->us[j]?=some v->ARel θ W c v):ARel θ W (.tup vs) (.tuple us)
def OR (θ:Th) (W:Im) (w:World) (id:Nat):AO->Prop
 | .dead=>∀ ver,θ id ver=.dead\/θ id ver=.no
 | .rsv=>∀ ver,θ id ver=.no
 | .glob b v=>W b 0=some v/\∀ ver,θ id ver=.no
 | .tab b v o=>W b 0=some v/\w.heap[b]?=some o/\∀ ver,θ id ver=.no
 | .var cs=>(∃ b sz tot ty vs,θ id 0=.at b sz tot/\w.heap[b]?=some (.cells vs ty (0,0))/\vs.size=cs.length /\
   (∀ (j:Nat) (c:AV) (v:Value),cs[j]?=some c->vs[j]?=some v->ARel θ W c v)/\(∀ (j:Nat) (v:Value),vs[j]?=some v->v.oneCell'=true))/\∀ ver,0<ver->θ id ver=.no
 | .rows sz ver rs=>((θ id ver=.nil/\rs=[])\/∃ b tot ty vs,θ id ver=.at b sz tot/\w.heap[b]?=some (.cells vs ty (0,0))/\vs.size=tot * sz/\rs.length<=tot /\
   (∀ r∈rs,r.length=sz) /\
   (∀ (i:Nat) (r:List AV) (j:Nat) (c:AV) (v:Value),rs[i]?=some r->r[j]?=some c->vs[i * sz+j]?=some v->ARel θ W c v)/\(∀ (j:Nat) (v:Value),vs[j]?=some v->v.oneCell'=true)) /\
   (∀ v',ver<v'->θ id v'=.no)/\∀ v',v'<ver->θ id v'=.dead
def Owned (θ:Th) (b:Nat):Prop:=∃ id ver sz tot,θ id ver=.at b sz tot
structure SR (θ:Th) (W:Im) (H:List AO) (w:World):Prop where
 imm:∀ b o v,W b o=some v->w.cell? ⟨b,o,none⟩=some v
 obj:∀ id o,H[id]?=some o->OR θ W w id o
 out:∀ id ver,H.length<=id->θ id ver=.no
 own:∀ b,Owned θ b->∀ o,W b o=none
 inj:∀ b id ver sz tot id' ver' sz' tot',θ id ver=.at b sz tot->θ id' ver'=.at b sz' tot'->id=id'/\ver=ver'
structure Stp (θ:Th) (W:Im) (w:World) (θ':Th) (W':Im) (w':World):Prop where
 os:w'.os=w.os
 tape:w'.tape=w.tape
 output:w'.output=w.output
 size:w.heap.size<=w'.heap.size
 keep:∀ b,b<w.heap.size->¬ Owned θ b->w'.heap[b]?=w.heap[b]?
 imm:∀ b o v,W b o=some v->W' b o=some v
 old:∀ b,b<w.heap.size->¬ Owned θ b->∀ o,W' b o=W b o
 th:∀ id ver,θ id ver≠.no->θ' id ver=θ id ver\/θ' id ver=.dead
 fresh:∀ b,Owned θ' b->Owned θ b\/w.heap.size<=b
theorem Stp.refl (θ:Th) (W:Im) (w:World):Stp θ W w θ W w :=
 ⟨rfl,rfl,rfl,Nat.le_refl _,fun _ _ _=>rfl,fun _ _ _ h=>h,fun _ _ _ _=>rfl,fun _ _ _=>.inl rfl,fun _ h=>.inl h⟩
theorem Stp.trans {θ θ₁ θ₂:Th} {W W₁ W₂:Im} {w w₁ w₂:World} (h:Stp θ W w θ₁ W₁ w₁) (k:Stp θ₁ W₁ w₁ θ₂ W₂ w₂):Stp θ W w θ₂ W₂ w₂ where
 os:=k.os.trans h.os
 tape:=k.tape.trans h.tape
 output:=k.output.trans h.output
 size:=Nat.le_trans h.size k.size
 keep:=fun b hb ho=>by
  rw [k.keep b (Nat.lt_of_lt_of_le hb h.size) (fun hc=>(h.fresh b hc).elim ho (fun h'=>by omega)),h.keep b hb ho]
 imm:=fun b o v hv=>k.imm b o v (h.imm b o v hv)
 old:=fun b hb ho o=>by
  rw [k.old b (Nat.lt_of_lt_of_le hb h.size) (fun hc=>(h.fresh b hc).elim ho (fun h'=>by omega)),h.old b hb ho o]
 th:=fun id ver hn=>by
  rcases h.th id ver hn with e | e
  ·rcases k.th id ver (by rw [e]; exact hn) with e' | e'
   ·exact .inl (e'.trans e)
   ·exact .inr e'
  ·rcases k.th id ver (by rw [e]; exact fun h=>by cases h) with e' | e'
   ·exact .inr (e'.trans e)
   ·exact .inr e'
 fresh:=fun b hb=>by
  rcases k.fresh b hb with h' | h'
  ·exact h.fresh b h'
  ·exact .inr (Nat.le_trans h.size h')
theorem PRel.mono {W W' : Im} (hW : ∀ b o v, W b o = some v → W' b o = some v) {x : PV} {v : Value} (h : PRel W x v) : PRel W' x v := by
  induction h with
  | b => exact .b _
  | i => exact .i _ _
  | s _ h => exact .s _ h
  | nl => exact .nl
  | np => exact .np
  | nf => exact .nf
  | nm => exact .nm
  | ni => exact .ni
  | er te pe => exact .er te pe
  | l xs a cap sz f hlen hmax hnil hsp hrow hcell hrel ih =>
    exact .l xs a cap sz f hlen hmax hnil hsp hrow (fun i r j q hi hj x hx => hW _ _ _ (hcell i r j q hi hj x hx)) (fun i r j q hi hj => ih i r j q hi hj)
theorem ARel.mono {θ θ' : Th} {W W' : Im} (hW : ∀ b o v, W b o = some v → W' b o = some v)
    (hθ : ∀ id ver, θ id ver ≠ .no → θ' id ver = θ id ver ∨ θ' id ver = .dead) {x : AV} {v : Value} (h : ARel θ W x v) : ARel θ' W' x v := by
  induction h with
  | any => exact .any _
  | p x v h => exact .p _ _ (h.mono hW)
  | st cs vs hs hc h1 ih => exact .st cs vs hs (fun j c v hj hv => ih j c v hj hv) h1
  | ptr id off b sz tot h =>
    rcases hθ id 0 (by rw [h]; exact fun h => by cases h) with e | e
    · exact .ptr id off b sz tot (e.trans h)
    · exact .ptrDead id off _ e
  | ptrDead id off a h =>
    rcases hθ id 0 (by rw [h]; exact fun h => by cases h) with e | e
    · exact .ptrDead id off a (e.trans h)
    · exact .ptrDead id off a e
  | gsDead id ver off n a cap h hn hm =>
    rcases hθ id ver (by rw [h]; exact fun h => by cases h) with e | e
    · exact .gsDead id ver off n a cap (e.trans h) hn hm
    · exact .gsDead id ver off n a cap e hn hm
  | gsNil id ver h =>
    rcases hθ id ver (by rw [h]; exact fun h => by cases h) with e | e
    · exact .gsNil id ver (e.trans h)
    · exact .gsDead id ver _ _ _ _ e (Nat.le_refl _) (Nat.zero_le _)
  | gs id ver off n b sz tot o cap h hn hm hc ho h0 =>
    rcases hθ id ver (by rw [h]; exact fun h => by cases h) with e | e
    · exact .gs id ver off n b sz tot o cap (e.trans h) hn hm hc ho h0
    · exact .gsDead id ver _ _ _ _ e hn hm
  | ep id ver row col b sz tot h =>
    rcases hθ id ver (by rw [h]; exact fun h => by cases h) with e | e
    · exact .ep id ver row col b sz tot (e.trans h)
    · exact .epDead id ver _ _ _ e
  | epDead id ver row col a h =>
    rcases hθ id ver (by rw [h]; exact fun h => by cases h) with e | e
    · exact .epDead id ver row col a (e.trans h)
    · exact .epDead id ver row col a e
  | ip row b o f hcell hrel => exact .ip row b o f (fun j q hj => hW _ _ _ (hcell j q hj)) (fun j q hj => (hrel j q hj).mono hW)
  | clo f caps vs hs hc ih => exact .clo f caps vs hs (fun j c v hj hv => ih j c v hj hv)
  | tup vs us hs hc ih => exact .tup vs us hs (fun j c v hj hv => ih j c v hj hv)
theorem ARel.step {θ θ':Th} {W W':Im} {w w':World} (hs:Stp θ W w θ' W' w') {x:AV} {v:Value} (h:ARel θ W x v):ARel θ' W' x v :=
 h.mono hs.imm hs.th
theorem PRel.one {W:Im} {x:PV} {v:Value} (h:PRel W x v):v.oneCell'=true:=by cases h <;> rfl
def AV.one:AV->Bool
 | .any | .st _ | .tup _=>false
 | _=>true
theorem ARel.one {θ:Th} {W:Im} {x:AV} {v:Value} (h:ARel θ W x v) (hx:x.one=true):v.oneCell'=true:=by
 cases h <;> first | rfl | (simp [AV.one] at hx; done) | assumption | exact PRel.one ‹_›
end Go.AM
