/- The values and states of the abstract machine, and how they stand for the model's values and worlds: definitions, and that the relations are kept when memory grows. -/
import Derived.Calls
import Derived.Below
import Derived.WalkKit
set_option linter.all false
namespace Go.AM
inductive PV where
 |b (x:Bool)
 |i (k:IntKind) (n:Int)
 |s (x:List UInt8)
 |l (xs:List (List PV))
 |nl|np|nf|nm|ni|er
inductive AV where
 |any
 |p (x:PV)
 |st (cs:List AV)
 |ptr (id off:Nat)
 |gs (id ver off n:Nat)
 |ep (id ver row fL:Nat)
 |ip (row:List PV)
 |fI (f:Nat) (eO:List AV)
 |dX (vs:List AV)
inductive AO where
 |dead
 |iP
 |td (b:Nat) (v:Value)
 |ES (b:Nat) (v:Value) (o:Obj)
 |var (cs:List AV)
 |rows (sz ver:Nat) (rs:List (List AV))
inductive Pl where
 |no|dead|nil
 |at(b sz tot:Nat)
abbrev Th:=Nat->Nat->Pl
abbrev Im:=Nat->Nat->Option Value
def fb:Nat:=140737488355328
inductive gr (W:Im):PV->Value->Prop
 |b (x:Bool):gr W (.b x) (.bool x)
 |i (k:IntKind) (n:Int):gr W (.i k n) (.int k n)
 |s (x:List UInt8) (h:x.length<=fb):gr W (.s x) (.string ⟨x.toArray⟩)
 |nl:gr W .nl (.slice none 0 0)
 |np:gr W .np (.pointer none)
 |nf:gr W .nf .nilFunc
 |nm:gr W .nm (.map none)
 |ni:gr W .ni .nilIface
 |er (te:TypeId) (pe:Value):gr W .er (.iface te pe)
 |l (xs:List (List PV)) (a:Option Addr) (cap sz:Nat) (f:Nat->Nat->Value)
  (hlen:xs.length<=cap) (z8:xs.length<=fb) (vF:a=none->cap=0)
  (nt:xs≠[]->∀x,a=some x->x.spot=none)
  (gd:∀r∈xs,r.length=sz)
  (eS:∀(i:Nat) (r:List PV) (j:Nat) (q:PV),xs[i]?=some r->r[j]?=some q->∀x,a=some x->W x.block (x.off+(i*sz+j))=some (f i j))
  (cR:∀(i:Nat) (r:List PV) (j:Nat) (q:PV),xs[i]?=some r->r[j]?=some q->gr W q (f i j)):
  gr W (.l xs) (.slice a xs.length cap)
inductive bc (θ:Th) (W:Im):AV->Value->Prop
 |any (v:Value):bc θ W .any v
 |p (x:PV) (v:Value) (h:gr W x v):bc θ W (.p x) v
 |st (cs:List AV) (vs:Array Value) (hs:vs.size=cs.length)
  (hc:∀(j:Nat) (c:AV) (v:Value),cs[j]?=some c->vs[j]?=some v->bc θ W c v)
  (h1:∀(j:Nat) (v:Value),vs[j]?=some v->v.oneCell'=true):bc θ W (.st cs) (.agg vs)
 |ptr (id off b sz tot:Nat) (h:θ id 0=.at b sz tot):bc θ W (.ptr id off) (.pointer (some ⟨b,off,none⟩))
 |fM (id off:Nat) (a:Addr) (h:θ id 0=.dead):bc θ W (.ptr id off) (.pointer (some a))
 |ea (id ver off n:Nat) (a:Option Addr) (cap:Nat) (h:θ id ver=.dead) (hn:n<=cap) (hm:n<=fb):bc θ W (.gs id ver off n) (.slice a n cap)
 |fN (id ver:Nat) (h:θ id ver=.nil):bc θ W (.gs id ver 0 0) (.slice none 0 0)
 |gs (id ver off n b sz tot o cap:Nat) (h:θ id ver=.at b sz tot) (hn:n<=cap) (hm:n<=fb) (hc:off+cap=tot) (ho:off<tot->o=off*sz) (h0:off=0->o=0):
  bc θ W (.gs id ver off n) (.slice (some ⟨b,o,none⟩) n cap)
 |ep (id ver row fL b sz tot:Nat) (h:θ id ver=.at b sz tot):bc θ W (.ep id ver row fL) (.pointer (some ⟨b,row*sz+fL,none⟩))
 |kx (id ver row fL:Nat) (a:Addr) (h:θ id ver=.dead):bc θ W (.ep id ver row fL) (.pointer (some a))
 |ip (row:List PV) (b o:Nat) (f:Nat->Value)
  (eS:∀(j:Nat) (q:PV),row[j]?=some q->W b (o+j)=some (f j))
  (cR:∀(j:Nat) (q:PV),row[j]?=some q->gr W q (f j)):bc θ W (.ip row) (.pointer (some ⟨b,o,none⟩))
 |fI (f:Nat) (eO:List AV) (vs:Array Value) (hs:vs.size=eO.length)
  (hc:∀(j:Nat) (c:AV) (v:Value),eO[j]?=some c->vs[j]?=some v->bc θ W c v):bc θ W (.fI f eO) (.func (.func f) #[] vs)
 |dX (vs:List AV) (us:Array Value) (hs:us.size=vs.length)
  (hc:∀(j:Nat) (c:AV) (v:Value),vs[j]?=some c->us[j]?=some v->bc θ W c v):bc θ W (.dX vs) (.tuple us)
def OR (θ:Th) (W:Im) (w:World) (id:Nat):AO->Prop
 | .dead=>∀ver,θ id ver=.dead\/θ id ver=.no
 | .iP=>∀ver,θ id ver=.no
 | .td b v=>W b 0=some v/\∀ver,θ id ver=.no
 | .ES b v o=>W b 0=some v/\w.heap[b]?=some o/\∀ver,θ id ver=.no
 | .var cs=>(∃b sz tot ty vs,θ id 0=.at b sz tot/\w.heap[b]?=some (.cells vs ty (0,0))/\vs.size=cs.length/\
   (∀(j:Nat) (c:AV) (v:Value),cs[j]?=some c->vs[j]?=some v->bc θ W c v)/\(∀(j:Nat) (v:Value),vs[j]?=some v->v.oneCell'=true))/\∀ver,0<ver->θ id ver=.no
 | .rows sz ver rs=>((θ id ver=.nil/\rs=[])\/∃b tot ty vs,θ id ver=.at b sz tot/\w.heap[b]?=some (.cells vs ty (0,0))/\vs.size=tot*sz/\rs.length<=tot/\
   (∀r∈rs,r.length=sz)/\
   (∀(i:Nat) (r:List AV) (j:Nat) (c:AV) (v:Value),rs[i]?=some r->r[j]?=some c->vs[i*sz+j]?=some v->bc θ W c v)/\(∀(j:Nat) (v:Value),vs[j]?=some v->v.oneCell'=true))/\
   (∀v',ver<v'->θ id v'=.no)/\∀v',v'<ver->θ id v'=.dead
def gl (θ:Th) (b:Nat):Prop:=∃id ver sz tot,θ id ver=.at b sz tot
structure SR (θ:Th) (W:Im) (H:List AO) (w:World):Prop where
 kK:∀b o v,W b o=some v->w.cell? ⟨b,o,none⟩=some v
 obj:∀id o,H[id]?=some o->OR θ W w id o
 out:∀id ver,H.length<=id->θ id ver=.no
 own:∀b,gl θ b->∀o,W b o=none
 inj:∀b id ver sz tot jm cA cP fc,θ id ver=.at b sz tot->θ jm cA=.at b cP fc->id=jm/\ver=cA
structure eU (θ:Th) (W:Im) (w:World) (bd:Th) (W':Im) (w':World):Prop where
 os:w'.os=w.os
 tape:w'.tape=w.tape
 output:w'.output=w.output
 size:w.heap.size<=w'.heap.size
 gf:∀b,b<w.heap.size->¬gl θ b->w'.heap[b]?=w.heap[b]?
 kK:∀b o v,W b o=some v->W' b o=some v
 old:∀b,b<w.heap.size->¬gl θ b->∀o,W' b o=W b o
 th:∀id ver,θ id ver≠.no->bd id ver=θ id ver\/bd id ver=.dead
 fresh:∀b,gl bd b->gl θ b\/w.heap.size<=b
theorem eU.refl (θ:Th) (W:Im) (w:World):eU θ W w θ W w:=
 ⟨rfl,rfl,rfl,Nat.le_refl _,fun _ _ _=>rfl,fun _ _ _ h=>h,fun _ _ _ _=>rfl,fun _ _ _=>.inl rfl,fun _ h=>.inl h⟩
theorem eU.trans {θ OY OZ:Th} {W ZM ZN:Im} {w xo L4:World} (h:eU θ W w OY ZM xo) (k:eU OY ZM xo OZ ZN L4):eU θ W w OZ ZN L4 where
 os:=k.os.trans h.os
 tape:=k.tape.trans h.tape
 output:=k.output.trans h.output
 size:=Nat.le_trans h.size k.size
 gf:=fun b hb ho=>by
  rw[k.gf b (Nat.lt_of_lt_of_le hb h.size) (fun hc=>(h.fresh b hc).elim ho (fun h'=>by omega)),h.gf b hb ho]
 kK:=fun b o v hv=>k.kK b o v (h.kK b o v hv)
 old:=fun b hb ho o=>by
  rw[k.old b (Nat.lt_of_lt_of_le hb h.size) (fun hc=>(h.fresh b hc).elim ho (fun h'=>by omega)),h.old b hb ho o]
 th:=fun id ver hn=>by
  rcases h.th id ver hn with e|e
  ·rcases k.th id ver (by rw[e];exact hn)with e'|e'
   ·exact .inl (e'.trans e)
   ·exact .inr e'
  ·rcases k.th id ver (by rw[e];exact fun h=>by cases h)with e'|e'
   ·exact .inr (e'.trans e)
   ·exact .inr e'
 fresh:=fun b hb=>by
  rcases k.fresh b hb with h'|h'
  ·exact h.fresh b h'
  ·exact .inr (Nat.le_trans h.size h')
theorem gr.mono {W W':Im} (hW:∀b o v,W b o=some v→W' b o=some v) {x:PV} {v:Value} (h:gr W x v):gr W' x v:=by
  induction h with
  |b=>exact .b _
  |i=>exact .i _ _
  |s _ h=>exact .s _ h
  |nl=>exact .nl
  |np=>exact .np
  |nf=>exact .nf
  |nm=>exact .nm
  |ni=>exact .ni
  |er te pe=>exact .er te pe
  |l xs a cap sz f hlen z8 vF nt gd eS cR ih=>
   exact .l xs a cap sz f hlen z8 vF nt gd (fun i r j q hi hj x hx=>hW _ _ _ (eS i r j q hi hj x hx)) (fun i r j q hi hj=>ih i r j q hi hj)
theorem bc.mono {θ bd:Th} {W W':Im} (hW:∀b o v,W b o=some v→W' b o=some v)
    (vu:∀id ver,θ id ver≠ .no→bd id ver=θ id ver∨bd id ver= .dead) {x:AV} {v:Value} (h:bc θ W x v):bc bd W' x v:=by
  induction h with
  |any=>exact .any _
  |p x v h=>exact .p _ _ (h.mono hW)
  |st cs vs hs hc h1 ih=>exact .st cs vs hs (fun j c v hj hv=>ih j c v hj hv) h1
  |ptr id off b sz tot h=>
   rcases vu id 0 (by rw[h];exact fun h=>by cases h)with e|e
   · exact .ptr id off b sz tot (e.trans h)
   · exact .fM id off _ e
  |fM id off a h=>
   rcases vu id 0 (by rw[h];exact fun h=>by cases h)with e|e
   · exact .fM id off a (e.trans h)
   · exact .fM id off a e
  |ea id ver off n a cap h hn hm=>
   rcases vu id ver (by rw[h];exact fun h=>by cases h)with e|e
   · exact .ea id ver off n a cap (e.trans h) hn hm
   · exact .ea id ver off n a cap e hn hm
  |fN id ver h=>
   rcases vu id ver (by rw[h];exact fun h=>by cases h)with e|e
   · exact .fN id ver (e.trans h)
   · exact .ea id ver _ _ _ _ e (Nat.le_refl _) (Nat.zero_le _)
  |gs id ver off n b sz tot o cap h hn hm hc ho h0=>
   rcases vu id ver (by rw[h];exact fun h=>by cases h)with e|e
   · exact .gs id ver off n b sz tot o cap (e.trans h) hn hm hc ho h0
   · exact .ea id ver _ _ _ _ e hn hm
  |ep id ver row fL b sz tot h=>
   rcases vu id ver (by rw[h];exact fun h=>by cases h)with e|e
   · exact .ep id ver row fL b sz tot (e.trans h)
   · exact .kx id ver _ _ _ e
  |kx id ver row fL a h=>
   rcases vu id ver (by rw[h];exact fun h=>by cases h)with e|e
   · exact .kx id ver row fL a (e.trans h)
   · exact .kx id ver row fL a e
  |ip row b o f eS cR=>exact .ip row b o f (fun j q hj=>hW _ _ _ (eS j q hj)) (fun j q hj=>(cR j q hj).mono hW)
  |fI f eO vs hs hc ih=>exact .fI f eO vs hs (fun j c v hj hv=>ih j c v hj hv)
  |dX vs us hs hc ih=>exact .dX vs us hs (fun j c v hj hv=>ih j c v hj hv)
theorem bc.step {θ bd:Th} {W W':Im} {w w':World} (hs:eU θ W w bd W' w') {x:AV} {v:Value} (h:bc θ W x v):bc bd W' x v:=
 h.mono hs.kK hs.th
theorem gr.one {W:Im} {x:PV} {v:Value} (h:gr W x v):v.oneCell'=true:=by cases h<;>rfl
def AV.one:AV->Bool
 | .any| .st _| .dX _=>false
 |_=>true
theorem bc.one {θ:Th} {W:Im} {x:AV} {v:Value} (h:bc θ W x v) (hx:x.one=true):v.oneCell'=true:=by
 cases h<;>first|rfl|(simp[AV.one]at hx;done)|assumption|exact gr.one ‹_›
end Go.AM
