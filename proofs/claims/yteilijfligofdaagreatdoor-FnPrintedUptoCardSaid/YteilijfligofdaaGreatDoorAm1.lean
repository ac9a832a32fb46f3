/- The values and states of the abstract machine, and how they stand for the model's values and worlds: definitions, and that the relations are kept when memory grows. -/
import Derived.Calls
import Derived.Below
import Derived.WalkKit
set_option linter.all false
namespace Go.AM
inductive PV where
 |b (x:Bool)
 |i (k:IntKind) (n:Int)
 |s (x:List UInt8)
 |l (xs:List (List PV))
 |nl|np|nf|nm|ni|er
inductive AV where
 |any
 |p (x:PV)
 |st (cs:List AV)
 |ptr (id off:Nat)
 |gs (id ver off n:Nat)
 |ep (id ver row gl:Nat)
 |ip (row:List PV)
 |eB (f:Nat) (eL:List AV)
 |dK (vs:List AV)
inductive AO where
 |dead
 |iQ
 |tE (b:Nat) (v:Value)
 |Fj (b:Nat) (v:Value) (o:Obj)
 |var (cs:List AV)
 |rows (sz ver:Nat) (rs:List (List AV))
inductive Pl where
 |no|dead|nil
 |at(b sz br:Nat)
abbrev Th:=Nat->Nat->Pl
abbrev Im:=Nat->Nat->Option Value
def ia:Nat:=140737488355328
inductive gm (W:Im):PV->Value->Prop
 |b (x:Bool):gm W (.b x) (.bool x)
 |i (k:IntKind) (n:Int):gm W (.i k n) (.int k n)
 |s (x:List UInt8) (h:x.length<=ia):gm W (.s x) (.string ⟨x.toArray⟩)
 |nl:gm W .nl (.slice none 0 0)
 |np:gm W .np (.pointer none)
 |nf:gm W .nf .nilFunc
 |nm:gm W .nm (.map none)
 |ni:gm W .ni .nilIface
 |er (te:TypeId) (pe:Value):gm W .er (.iface te pe)
 |l (xs:List (List PV)) (a:Option Addr) (cap sz:Nat) (f:Nat->Nat->Value)
  (hlen:xs.length<=cap) (Ax:xs.length<=ia) (v7:a=none->cap=0)
  (nE:xs≠[]->∀x,a=some x->x.spot=none)
  (fZ:∀r∈xs,r.length=sz)
  (eV:∀(i:Nat) (r:List PV) (j:Nat) (q:PV),xs[i]?=some r->r[j]?=some q->∀x,a=some x->W x.block (x.off+(i*sz+j))=some (f i j))
  (cY:∀(i:Nat) (r:List PV) (j:Nat) (q:PV),xs[i]?=some r->r[j]?=some q->gm W q (f i j)):
  gm W (.l xs) (.slice a xs.length cap)
inductive bb (θ:Th) (W:Im):AV->Value->Prop
 |any (v:Value):bb θ W .any v
 |p (x:PV) (v:Value) (h:gm W x v):bb θ W (.p x) v
 |st (cs:List AV) (vs:Array Value) (hs:vs.size=cs.length)
  (hc:∀(j:Nat) (c:AV) (v:Value),cs[j]?=some c->vs[j]?=some v->bb θ W c v)
  (h1:∀(j:Nat) (v:Value),vs[j]?=some v->v.oneCell'=true):bb θ W (.st cs) (.agg vs)
 |ptr (id off b sz br:Nat) (h:θ id 0=.at b sz br):bb θ W (.ptr id off) (.pointer (some ⟨b,off,none⟩))
 |fO (id off:Nat) (a:Addr) (h:θ id 0=.dead):bb θ W (.ptr id off) (.pointer (some a))
 |eS (id ver off n:Nat) (a:Option Addr) (cap:Nat) (h:θ id ver=.dead) (hn:n<=cap) (hm:n<=ia):bb θ W (.gs id ver off n) (.slice a n cap)
 |gC (id ver:Nat) (h:θ id ver=.nil):bb θ W (.gs id ver 0 0) (.slice none 0 0)
 |gs (id ver off n b sz br o cap:Nat) (h:θ id ver=.at b sz br) (hn:n<=cap) (hm:n<=ia) (hc:off+cap=br) (ho:off<br->o=off*sz) (h0:off=0->o=0):
  bb θ W (.gs id ver off n) (.slice (some ⟨b,o,none⟩) n cap)
 |ep (id ver row gl b sz br:Nat) (h:θ id ver=.at b sz br):bb θ W (.ep id ver row gl) (.pointer (some ⟨b,row*sz+gl,none⟩))
 |kx (id ver row gl:Nat) (a:Addr) (h:θ id ver=.dead):bb θ W (.ep id ver row gl) (.pointer (some a))
 |ip (row:List PV) (b o:Nat) (f:Nat->Value)
  (eV:∀(j:Nat) (q:PV),row[j]?=some q->W b (o+j)=some (f j))
  (cY:∀(j:Nat) (q:PV),row[j]?=some q->gm W q (f j)):bb θ W (.ip row) (.pointer (some ⟨b,o,none⟩))
 |eB (f:Nat) (eL:List AV) (vs:Array Value) (hs:vs.size=eL.length)
  (hc:∀(j:Nat) (c:AV) (v:Value),eL[j]?=some c->vs[j]?=some v->bb θ W c v):bb θ W (.eB f eL) (.func (.func f) #[] vs)
 |dK (vs:List AV) (us:Array Value) (hs:us.size=vs.length)
  (hc:∀(j:Nat) (c:AV) (v:Value),vs[j]?=some c->us[j]?=some v->bb θ W c v):bb θ W (.dK vs) (.tuple us)
def OR (θ:Th) (W:Im) (w:World) (id:Nat):AO->Prop
 | .dead=>∀ver,θ id ver=.dead\/θ id ver=.no
 | .iQ=>∀ver,θ id ver=.no
 | .tE b v=>W b 0=some v/\∀ver,θ id ver=.no
 | .Fj b v o=>W b 0=some v/\w.heap[b]?=some o/\∀ver,θ id ver=.no
 | .var cs=>(∃b sz br ty vs,θ id 0=.at b sz br/\w.heap[b]?=some (.cells vs ty (0,0))/\vs.size=cs.length/\
   (∀(j:Nat) (c:AV) (v:Value),cs[j]?=some c->vs[j]?=some v->bb θ W c v)/\(∀(j:Nat) (v:Value),vs[j]?=some v->v.oneCell'=true))/\∀ver,0<ver->θ id ver=.no
 | .rows sz ver rs=>((θ id ver=.nil/\rs=[])\/∃b br ty vs,θ id ver=.at b sz br/\w.heap[b]?=some (.cells vs ty (0,0))/\vs.size=br*sz/\rs.length<=br/\
   (∀r∈rs,r.length=sz)/\
   (∀(i:Nat) (r:List AV) (j:Nat) (c:AV) (v:Value),rs[i]?=some r->r[j]?=some c->vs[i*sz+j]?=some v->bb θ W c v)/\(∀(j:Nat) (v:Value),vs[j]?=some v->v.oneCell'=true))/\
   (∀v',ver<v'->θ id v'=.no)/\∀v',v'<ver->θ id v'=.dead
def lg (θ:Th) (b:Nat):Prop:=∃id ver sz br,θ id ver=.at b sz br
structure SR (θ:Th) (W:Im) (H:List AO) (w:World):Prop where
 nF:∀b o v,W b o=some v->w.cell? ⟨b,o,none⟩=some v
 obj:∀id o,H[id]?=some o->OR θ W w id o
 out:∀id ver,H.length<=id->θ id ver=.no
 own:∀b,lg θ b->∀o,W b o=none
 inj:∀b id ver sz br jC cI cX gn,θ id ver=.at b sz br->θ jC cI=.at b cX gn->id=jC/\ver=cI
structure eW (θ:Th) (W:Im) (w:World) (aX:Th) (W':Im) (w':World):Prop where
 os:w'.os=w.os
 tape:w'.tape=w.tape
 output:w'.output=w.output
 size:w.heap.size<=w'.heap.size
 eF:∀b,b<w.heap.size->¬lg θ b->w'.heap[b]?=w.heap[b]?
 nF:∀b o v,W b o=some v->W' b o=some v
 old:∀b,b<w.heap.size->¬lg θ b->∀o,W' b o=W b o
 th:∀id ver,θ id ver≠.no->aX id ver=θ id ver\/aX id ver=.dead
 fresh:∀b,lg aX b->lg θ b\/w.heap.size<=b
theorem eW.refl (θ:Th) (W:Im) (w:World):eW θ W w θ W w:=
 ⟨rfl,rfl,rfl,Nat.le_refl _,fun _ _ _=>rfl,fun _ _ _ h=>h,fun _ _ _ _=>rfl,fun _ _ _=>.inl rfl,fun _ h=>.inl h⟩
theorem eW.trans {θ P3 P4:Th} {W ZP ZQ:Im} {w xG My:World} (h:eW θ W w P3 ZP xG) (k:eW P3 ZP xG P4 ZQ My):eW θ W w P4 ZQ My where
 os:=k.os.trans h.os
 tape:=k.tape.trans h.tape
 output:=k.output.trans h.output
 size:=Nat.le_trans h.size k.size
 eF:=fun b hb ho=>by
  rw[k.eF b (Nat.lt_of_lt_of_le hb h.size) (fun hc=>(h.fresh b hc).elim ho (fun h'=>by omega)),h.eF b hb ho]
 nF:=fun b o v hv=>k.nF b o v (h.nF b o v hv)
 old:=fun b hb ho o=>by
  rw[k.old b (Nat.lt_of_lt_of_le hb h.size) (fun hc=>(h.fresh b hc).elim ho (fun h'=>by omega)),h.old b hb ho o]
 th:=fun id ver hn=>by
  rcases h.th id ver hn with e|e
  ·rcases k.th id ver (by rw[e];exact hn)with e'|e'
   ·exact .inl (e'.trans e)
   ·exact .inr e'
  ·rcases k.th id ver (by rw[e];exact fun h=>by cases h)with e'|e'
   ·exact .inr (e'.trans e)
   ·exact .inr e'
 fresh:=fun b hb=>by
  rcases k.fresh b hb with h'|h'
  ·exact h.fresh b h'
  ·exact .inr (Nat.le_trans h.size h')
theorem gm.mono {W W':Im} (hW:∀b o v,W b o=some v→W' b o=some v) {x:PV} {v:Value} (h:gm W x v):gm W' x v:=by
  induction h with
  |b=>exact .b _
  |i=>exact .i _ _
  |s _ h=>exact .s _ h
  |nl=>exact .nl
  |np=>exact .np
  |nf=>exact .nf
  |nm=>exact .nm
  |ni=>exact .ni
  |er te pe=>exact .er te pe
  |l xs a cap sz f hlen Ax v7 nE fZ eV cY ih=>
   exact .l xs a cap sz f hlen Ax v7 nE fZ (fun i r j q hi hj x hx=>hW _ _ _ (eV i r j q hi hj x hx)) (fun i r j q hi hj=>ih i r j q hi hj)
theorem bb.mono {θ aX:Th} {W W':Im} (hW:∀b o v,W b o=some v→W' b o=some v)
    (vN:∀id ver,θ id ver≠ .no→aX id ver=θ id ver∨aX id ver= .dead) {x:AV} {v:Value} (h:bb θ W x v):bb aX W' x v:=by
  induction h with
  |any=>exact .any _
  |p x v h=>exact .p _ _ (h.mono hW)
  |st cs vs hs hc h1 ih=>exact .st cs vs hs (fun j c v hj hv=>ih j c v hj hv) h1
  |ptr id off b sz br h=>
   rcases vN id 0 (by rw[h];exact fun h=>by cases h)with e|e
   · exact .ptr id off b sz br (e.trans h)
   · exact .fO id off _ e
  |fO id off a h=>
   rcases vN id 0 (by rw[h];exact fun h=>by cases h)with e|e
   · exact .fO id off a (e.trans h)
   · exact .fO id off a e
  |eS id ver off n a cap h hn hm=>
   rcases vN id ver (by rw[h];exact fun h=>by cases h)with e|e
   · exact .eS id ver off n a cap (e.trans h) hn hm
   · exact .eS id ver off n a cap e hn hm
  |gC id ver h=>
   rcases vN id ver (by rw[h];exact fun h=>by cases h)with e|e
   · exact .gC id ver (e.trans h)
   · exact .eS id ver _ _ _ _ e (Nat.le_refl _) (Nat.zero_le _)
  |gs id ver off n b sz br o cap h hn hm hc ho h0=>
   rcases vN id ver (by rw[h];exact fun h=>by cases h)with e|e
   · exact .gs id ver off n b sz br o cap (e.trans h) hn hm hc ho h0
   · exact .eS id ver _ _ _ _ e hn hm
  |ep id ver row gl b sz br h=>
   rcases vN id ver (by rw[h];exact fun h=>by cases h)with e|e
   · exact .ep id ver row gl b sz br (e.trans h)
   · exact .kx id ver _ _ _ e
  |kx id ver row gl a h=>
   rcases vN id ver (by rw[h];exact fun h=>by cases h)with e|e
   · exact .kx id ver row gl a (e.trans h)
   · exact .kx id ver row gl a e
  |ip row b o f eV cY=>exact .ip row b o f (fun j q hj=>hW _ _ _ (eV j q hj)) (fun j q hj=>(cY j q hj).mono hW)
  |eB f eL vs hs hc ih=>exact .eB f eL vs hs (fun j c v hj hv=>ih j c v hj hv)
  |dK vs us hs hc ih=>exact .dK vs us hs (fun j c v hj hv=>ih j c v hj hv)
theorem bb.step {θ aX:Th} {W W':Im} {w w':World} (hs:eW θ W w aX W' w') {x:AV} {v:Value} (h:bb θ W x v):bb aX W' x v:=
 h.mono hs.nF hs.th
theorem gm.one {W:Im} {x:PV} {v:Value} (h:gm W x v):v.oneCell'=true:=by cases h<;>rfl
def AV.one:AV->Bool
 | .any| .st _| .dK _=>false
 |_=>true
theorem bb.one {θ:Th} {W:Im} {x:AV} {v:Value} (h:bb θ W x v) (hx:x.one=true):v.oneCell'=true:=by
 cases h<;>first|rfl|(simp[AV.one]at hx;done)|assumption|exact gm.one ‹_›
end Go.AM
