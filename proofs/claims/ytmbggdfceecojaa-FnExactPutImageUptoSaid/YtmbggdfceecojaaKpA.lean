/- Texts Am1 Am2 Am3 Am4 Am5 Am6 Am7 Am8 Am9 Am10 Am11 Am12 Am13 Am14 Am15, merged. -/
import Derived.Calls
import Derived.Below
import Derived.WalkKit
import Derived.Laws.MakeOwn
import Derived.Laws.BytesArg
/- The values and states of the abstract machine, and how they stand for the model's values and worlds: definitions, and that the relations are kept when memory grows. -/
set_option linter.all false
namespace Go.AM

/-- values of immutable data, by content -/
inductive PV where
  | b (x : Bool)
  | i (k : IntKind) (n : Int)
  | s (x : List UInt8)
  | l (xs : List (List PV))
  | nl | np | nf | nm | ni

/-- values: pure ones; aggregates, cell by cell; pointers to variables; slices into rows that are owned; pointers to immutable cells; closures; tuples -/
inductive AV where
  | any
  | p (x : PV)
  | st (cs : List AV)
  | ptr (id off : Nat)
  | gs (id ver off n : Nat)
  | ep (id ver row col : Nat)
  | ip (row : List PV)
  | clo (f : Nat) (caps : List AV)
  | tup (vs : List AV)

/-- objects that are owned: variables (cells), rows of elements of sz cells -/
inductive AO where
  | dead
  | rsv
  | var (cs : List AV)
  | rows (sz ver : Nat) (rs : List (List AV))

/-- where an object lies -/
inductive Pl where
  | no | dead | nil
  | at (b sz tot : Nat)

abbrev Th := Nat → Nat → Pl
abbrev Im := Nat → Nat → Option Value

def maxL : Nat := 140737488355328

inductive PRel (W : Im) : PV → Value → Prop
  | b (x : Bool) : PRel W (.b x) (.bool x)
  | i (k : IntKind) (n : Int) : PRel W (.i k n) (.int k n)
  | s (x : List UInt8) (h : x.length ≤ maxL) : PRel W (.s x) (.string ⟨x.toArray⟩)
  | nl : PRel W .nl (.slice none 0 0)
  | np : PRel W .np (.pointer none)
  | nf : PRel W .nf .nilFunc
  | nm : PRel W .nm (.map none)
  | ni : PRel W .ni .nilIface
  | l (xs : List (List PV)) (a : Option Addr) (cap sz : Nat) (f : Nat → Nat → Value)
      (hlen : xs.length ≤ cap) (hmax : xs.length ≤ maxL) (hnil : a = none → cap = 0)
      (hsp : xs ≠ [] → ∀ x, a = some x → x.spot = none)
      (hrow : ∀ r ∈ xs, r.length = sz)
      (hcell : ∀ (i : Nat) (r : List PV) (j : Nat) (q : PV), xs[i]? = some r → r[j]? = some q → ∀ x, a = some x → W x.block (x.off + (i * sz + j)) = some (f i j))
      (hrel : ∀ (i : Nat) (r : List PV) (j : Nat) (q : PV), xs[i]? = some r → r[j]? = some q → PRel W q (f i j)) :
      PRel W (.l xs) (.slice a xs.length cap)

inductive ARel (θ : Th) (W : Im) : AV → Value → Prop
  | any (v : Value) : ARel θ W .any v
  | p (x : PV) (v : Value) (h : PRel W x v) : ARel θ W (.p x) v
  | st (cs : List AV) (vs : Array Value) (hs : vs.size = cs.length)
      (hc : ∀ (j : Nat) (c : AV) (v : Value), cs[j]? = some c → vs[j]? = some v → ARel θ W c v)
      (h1 : ∀ (j : Nat) (v : Value), vs[j]? = some v → v.oneCell' = true) : ARel θ W (.st cs) (.agg vs)
  | ptr (id off b sz tot : Nat) (h : θ id 0 = .at b sz tot) : ARel θ W (.ptr id off) (.pointer (some ⟨b, off, none⟩))
  | ptrDead (id off : Nat) (a : Addr) (h : θ id 0 = .dead) : ARel θ W (.ptr id off) (.pointer (some a))
  | gsDead (id ver off n : Nat) (a : Option Addr) (cap : Nat) (h : θ id ver = .dead) (hn : n ≤ cap) (hm : n ≤ maxL) : ARel θ W (.gs id ver off n) (.slice a n cap)
  | gsNil (id ver : Nat) (h : θ id ver = .nil) : ARel θ W (.gs id ver 0 0) (.slice none 0 0)
  | gs (id ver off n b sz tot o cap : Nat) (h : θ id ver = .at b sz tot) (hn : n ≤ cap) (hm : n ≤ maxL) (hc : off + cap = tot) (ho : off < tot → o = off * sz) (h0 : off = 0 → o = 0) :
      ARel θ W (.gs id ver off n) (.slice (some ⟨b, o, none⟩) n cap)
  | ep (id ver row col b sz tot : Nat) (h : θ id ver = .at b sz tot) : ARel θ W (.ep id ver row col) (.pointer (some ⟨b, row * sz + col, none⟩))
  | epDead (id ver row col : Nat) (a : Addr) (h : θ id ver = .dead) : ARel θ W (.ep id ver row col) (.pointer (some a))
  | ip (row : List PV) (b o : Nat) (f : Nat → Value)
      (hcell : ∀ (j : Nat) (q : PV), row[j]? = some q → W b (o + j) = some (f j))
      (hrel : ∀ (j : Nat) (q : PV), row[j]? = some q → PRel W q (f j)) : ARel θ W (.ip row) (.pointer (some ⟨b, o, none⟩))
  | clo (f : Nat) (caps : List AV) (vs : Array Value) (hs : vs.size = caps.length)
      (hc : ∀ (j : Nat) (c : AV) (v : Value), caps[j]? = some c → vs[j]? = some v → ARel θ W c v) : ARel θ W (.clo f caps) (.func (.func f) #[] vs)
  | tup (vs : List AV) (us : Array Value) (hs : us.size = vs.length)
      (hc : ∀ (j : Nat) (c : AV) (v : Value), vs[j]? = some c → us[j]? = some v → ARel θ W c v) : ARel θ W (.tup vs) (.tuple us)

/-- the place of a variable, of rows -/
def OR (θ : Th) (W : Im) (w : World) (id : Nat) : AO → Prop
  | .dead => ∀ ver, θ id ver = .dead ∨ θ id ver = .no
  | .rsv => ∀ ver, θ id ver = .no
  | .var cs => (∃ b sz tot ty vs, θ id 0 = .at b sz tot ∧ w.heap[b]? = some (.cells vs ty (0, 0)) ∧ vs.size = cs.length ∧
      (∀ (j : Nat) (c : AV) (v : Value), cs[j]? = some c → vs[j]? = some v → ARel θ W c v) ∧ (∀ (j : Nat) (v : Value), vs[j]? = some v → v.oneCell' = true)) ∧ ∀ ver, 0 < ver → θ id ver = .no
  | .rows sz ver rs => ((θ id ver = .nil ∧ rs = []) ∨ ∃ b tot ty vs, θ id ver = .at b sz tot ∧ w.heap[b]? = some (.cells vs ty (0, 0)) ∧ vs.size = tot * sz ∧ rs.length ≤ tot ∧
      (∀ r ∈ rs, r.length = sz) ∧
      (∀ (i : Nat) (r : List AV) (j : Nat) (c : AV) (v : Value), rs[i]? = some r → r[j]? = some c → vs[i * sz + j]? = some v → ARel θ W c v) ∧ (∀ (j : Nat) (v : Value), vs[j]? = some v → v.oneCell' = true)) ∧
      (∀ v', ver < v' → θ id v' = .no) ∧ ∀ v', v' < ver → θ id v' = .dead

def Owned (θ : Th) (b : Nat) : Prop := ∃ id ver sz tot, θ id ver = .at b sz tot

structure SR (θ : Th) (W : Im) (H : List AO) (w : World) : Prop where
  imm : ∀ b o v, W b o = some v → w.cell? ⟨b, o, none⟩ = some v
  obj : ∀ id o, H[id]? = some o → OR θ W w id o
  out : ∀ id ver, H.length ≤ id → θ id ver = .no
  own : ∀ b, Owned θ b → ∀ o, W b o = none
  inj : ∀ b id ver sz tot id' ver' sz' tot', θ id ver = .at b sz tot → θ id' ver' = .at b sz' tot' → id = id' ∧ ver = ver'

structure Stp (θ : Th) (W : Im) (w : World) (θ' : Th) (W' : Im) (w' : World) : Prop where
  os : w'.os = w.os
  tape : w'.tape = w.tape
  output : w'.output = w.output
  size : w.heap.size ≤ w'.heap.size
  keep : ∀ b, b < w.heap.size → ¬ Owned θ b → w'.heap[b]? = w.heap[b]?
  imm : ∀ b o v, W b o = some v → W' b o = some v
  old : ∀ b, b < w.heap.size → ¬ Owned θ b → ∀ o, W' b o = W b o
  th : ∀ id ver, θ id ver ≠ .no → θ' id ver = θ id ver ∨ θ' id ver = .dead
  fresh : ∀ b, Owned θ' b → Owned θ b ∨ w.heap.size ≤ b

theorem Stp.refl (θ : Th) (W : Im) (w : World) : Stp θ W w θ W w :=
  ⟨rfl, rfl, rfl, Nat.le_refl _, fun _ _ _ => rfl, fun _ _ _ h => h, fun _ _ _ _ => rfl, fun _ _ _ => .inl rfl, fun _ h => .inl h⟩

theorem Stp.trans {θ θ₁ θ₂ : Th} {W W₁ W₂ : Im} {w w₁ w₂ : World} (h : Stp θ W w θ₁ W₁ w₁) (k : Stp θ₁ W₁ w₁ θ₂ W₂ w₂) : Stp θ W w θ₂ W₂ w₂ where
  os := k.os.trans h.os
  tape := k.tape.trans h.tape
  output := k.output.trans h.output
  size := Nat.le_trans h.size k.size
  keep := fun b hb ho => by
    rw [k.keep b (Nat.lt_of_lt_of_le hb h.size) (fun hc => (h.fresh b hc).elim ho (fun h' => by omega)), h.keep b hb ho]
  imm := fun b o v hv => k.imm b o v (h.imm b o v hv)
  old := fun b hb ho o => by
    rw [k.old b (Nat.lt_of_lt_of_le hb h.size) (fun hc => (h.fresh b hc).elim ho (fun h' => by omega)), h.old b hb ho o]
  th := fun id ver hn => by
    rcases h.th id ver hn with e | e
    · rcases k.th id ver (by rw [e]; exact hn) with e' | e'
      · exact .inl (e'.trans e)
      · exact .inr e'
    · rcases k.th id ver (by rw [e]; exact fun h => by cases h) with e' | e'
      · exact .inr (e'.trans e)
      · exact .inr e'
  fresh := fun b hb => by
    rcases k.fresh b hb with h' | h'
    · exact h.fresh b h'
    · exact .inr (Nat.le_trans h.size h')

theorem PRel.mono {W W' : Im} (hW : ∀ b o v, W b o = some v → W' b o = some v) {x : PV} {v : Value} (h : PRel W x v) : PRel W' x v := by
  induction h with
  | b => exact .b _
  | i => exact .i _ _
  | s _ h => exact .s _ h
  | nl => exact .nl
  | np => exact .np
  | nf => exact .nf
  | nm => exact .nm
  | ni => exact .ni
  | l xs a cap sz f hlen hmax hnil hsp hrow hcell hrel ih =>
    exact .l xs a cap sz f hlen hmax hnil hsp hrow (fun i r j q hi hj x hx => hW _ _ _ (hcell i r j q hi hj x hx)) (fun i r j q hi hj => ih i r j q hi hj)

/-- the relation of a value is kept where memory grows -/
theorem ARel.mono {θ θ' : Th} {W W' : Im} (hW : ∀ b o v, W b o = some v → W' b o = some v)
    (hθ : ∀ id ver, θ id ver ≠ .no → θ' id ver = θ id ver ∨ θ' id ver = .dead) {x : AV} {v : Value} (h : ARel θ W x v) : ARel θ' W' x v := by
  induction h with
  | any => exact .any _
  | p x v h => exact .p _ _ (h.mono hW)
  | st cs vs hs hc h1 ih => exact .st cs vs hs (fun j c v hj hv => ih j c v hj hv) h1
  | ptr id off b sz tot h =>
    rcases hθ id 0 (by rw [h]; exact fun h => by cases h) with e | e
    · exact .ptr id off b sz tot (e.trans h)
    · exact .ptrDead id off _ e
  | ptrDead id off a h =>
    rcases hθ id 0 (by rw [h]; exact fun h => by cases h) with e | e
    · exact .ptrDead id off a (e.trans h)
    · exact .ptrDead id off a e
  | gsDead id ver off n a cap h hn hm =>
    rcases hθ id ver (by rw [h]; exact fun h => by cases h) with e | e
    · exact .gsDead id ver off n a cap (e.trans h) hn hm
    · exact .gsDead id ver off n a cap e hn hm
  | gsNil id ver h =>
    rcases hθ id ver (by rw [h]; exact fun h => by cases h) with e | e
    · exact .gsNil id ver (e.trans h)
    · exact .gsDead id ver _ _ _ _ e (Nat.le_refl _) (Nat.zero_le _)
  | gs id ver off n b sz tot o cap h hn hm hc ho h0 =>
    rcases hθ id ver (by rw [h]; exact fun h => by cases h) with e | e
    · exact .gs id ver off n b sz tot o cap (e.trans h) hn hm hc ho h0
    · exact .gsDead id ver _ _ _ _ e hn hm
  | ep id ver row col b sz tot h =>
    rcases hθ id ver (by rw [h]; exact fun h => by cases h) with e | e
    · exact .ep id ver row col b sz tot (e.trans h)
    · exact .epDead id ver _ _ _ e
  | epDead id ver row col a h =>
    rcases hθ id ver (by rw [h]; exact fun h => by cases h) with e | e
    · exact .epDead id ver row col a (e.trans h)
    · exact .epDead id ver row col a e
  | ip row b o f hcell hrel => exact .ip row b o f (fun j q hj => hW _ _ _ (hcell j q hj)) (fun j q hj => (hrel j q hj).mono hW)
  | clo f caps vs hs hc ih => exact .clo f caps vs hs (fun j c v hj hv => ih j c v hj hv)
  | tup vs us hs hc ih => exact .tup vs us hs (fun j c v hj hv => ih j c v hj hv)

theorem ARel.step {θ θ' : Th} {W W' : Im} {w w' : World} (hs : Stp θ W w θ' W' w') {x : AV} {v : Value} (h : ARel θ W x v) : ARel θ' W' x v :=
  h.mono hs.imm hs.th

/-- a pure value is one cell -/
theorem PRel.one {W : Im} {x : PV} {v : Value} (h : PRel W x v) : v.oneCell' = true := by cases h <;> rfl

/-- what surely is one cell -/
def AV.one : AV → Bool
  | .any | .st _ | .tup _ => false
  | _ => true

theorem ARel.one {θ : Th} {W : Im} {x : AV} {v : Value} (h : ARel θ W x v) (hx : x.one = true) : v.oneCell' = true := by
  cases h <;> first | rfl | (simp [AV.one] at hx; done) | assumption | exact PRel.one ‹_›

end Go.AM

/- The small code of the abstract machine, its evaluation on abstract states, and the pass that makes it of the model's code: definitions alone. -/
set_option linter.all false
namespace Go.AM

/-- an operand: a temporary, a constant -/
inductive MA where
  | t (n : Nat)
  | l (n : Nat)
  | c (v : AV)

/-- where a result is laid: nowhere, among the temporaries of a region, among the locals -/
inductive MD where
  | no
  | t (n : Nat)
  | l (n : Nat)

inductive MO where
  | mv (x : MA)
  | pick (c x y : MA)
  | alloc (z : List AV)
  | box (n : Nat) (x : MA)
  | build (z : List AV) (ps : List (Nat × Nat × MA))
  | bsl (sz : Nat) (z : List AV) (n : Nat) (ps : List (Nat × MA))
  | ld (agg : Bool) (n : Nat) (x : MA)
  | sto (n : Nat) (x v : MA)
  | nilc (x : MA)
  | bin (op : BinOp) (x y : MA)
  | un (op : UnOp) (x : MA)
  | conv (k : IntKind) (x : MA)
  | b2s (x : MA)
  | mkf (f : Nat) (caps : List MA)
  | mks (sz bytes : Nat) (z : List AV) (l c : MA)
  | slc (k : Option Nat) (x : MA) (lo hi : Option MA)
  | fad (off : Nat) (x : MA)
  | fld (agg : Bool) (off n : Nat) (x : MA)
  | ixs (sz : Nat) (x i : MA)
  | ixa (len sz : Nat) (x i : MA)
  | ixt (x i : MA)
  | ext (x : MA) (n : Nat)
  | call (f : Nat) (args : List MA)
  | calv (x : MA) (args : List MA)
  | app (sz bytes : Nat) (x y : MA)
  | len (s : Bool) (x : MA)
  | lenq (s : Bool) (x : MA)
  | mnx (mx : Bool) (x y : MA)
  | beq (ne : Bool) (x y : MA)
  | stop

structure MI where
  dst : MD
  op : MO
  guard : Option (MA × Bool)

inductive MC where
  | skip
  | reg (os : List MI)
  | seq (a b : MC)
  | cond (c : MA) (a b : MC)
  | blk (id : Nat) (b : MC)
  | loop (b : MC)
  | exit (id : Nat)
  | ret
  | drw (pre tail : List MI)
  | stop

/-! the state -/
abbrev En := List (Nat × AV)
def eget : En → Nat → AV
  | [], _ => .any
  | (k, v) :: e, t => if k = t then v else eget e t
def eset : En → Nat → AV → En
  | [], t, v => [(t, v)]
  | (k, u) :: e, t, v => if k = t then (t, v) :: e else (k, u) :: eset e t v
def lmem : List Nat → Nat → Bool
  | [], _ => false
  | x :: xs, k => if x = k then true else lmem xs k
def ekeep (lv : List Nat) : En → En
  | [] => []
  | (k, v) :: e => if lmem lv k = true then (k, v) :: ekeep lv e else ekeep lv e

/-- the locals, the temporaries of the region, the objects -/
structure St where
  L : En
  T : En
  H : List AO

def St.get (st : St) : MA → AV
  | .t n => eget st.T n
  | .l n => eget st.L n
  | .c v => v

def St.put (st : St) : MD → AV → St
  | .no, _ => st
  | .t d, v => ⟨st.L, (d, v) :: st.T, st.H⟩
  | .l d, v => ⟨eset st.L d v, st.T, st.H⟩

abbrev CallP := Nat → List AV → List AO → (AV → List AO → Prop) → Prop

/-! values -/
def AV.cells : AV → List AV
  | .st cs => cs
  | v => [v]

def bcmp (op : BinOp) (a b : Int) : Option Bool :=
  match op with
  | .eql => some (decide (a = b))
  | .neq => some (!decide (a = b))
  | .lss => some (decide (a < b))
  | .leq => some (decide (a ≤ b))
  | .gtr => some (decide (b < a))
  | .geq => some (decide (b ≤ a))
  | _ => none

/-- an integer as it stands after an operation that may go out of its kind's range -/
def wr (k : IntKind) (n : Int) : Int := k.wrap n

def ibits (op : BinOp) (k : IntKind) (x y : Int) : Int :=
  let a := BitVec.ofInt k.bits x
  let b := BitVec.ofInt k.bits y
  match op with
  | .and => k.wrap (a &&& b).toNat
  | .or => k.wrap (a ||| b).toNat
  | .xor => k.wrap (a ^^^ b).toNat
  | _ => k.wrap (a &&& ~~~b).toNat

def iarith (op : BinOp) (k : IntKind) (a b : Int) : Option PV :=
  match op with
  | .add => some (.i k (wr k (a + b)))
  | .sub => some (.i k (wr k (a - b)))
  | .mul => some (.i k (wr k (a * b)))
  | .and => some (.i k (ibits .and k a b))
  | .or => some (.i k (ibits .or k a b))
  | .xor => some (.i k (ibits .xor k a b))
  | .andNot => some (.i k (ibits .andNot k a b))
  | .shl => none
  | .shr => none
  | .quo => none
  | .rem => none
  | op => (bcmp op a b).map .b

/-- strings in order -/
def slt : List UInt8 → List UInt8 → Bool := Op.bytesLess

def seqs (op : BinOp) (a b : List UInt8) : Option PV :=
  match op with
  | .eql => some (.b (decide (a = b)))
  | .neq => some (.b (!decide (a = b)))
  | .lss => some (.b (slt a b))
  | .leq => some (.b (slt a b || decide (a = b)))
  | .gtr => some (.b (!(slt a b || decide (a = b))))
  | .geq => some (.b (!slt a b))
  | _ => none

/-- what an operator gives, where no condition is asked -/
def ebin (op : BinOp) : AV → AV → Option AV
  | .p (.i k a), .p (.i k' b) => if k = k' then (iarith op k a b).map .p else none
  | .p (.s a), .p (.s b) => (seqs op a b).map .p
  | _, _ => none

def beqV (ne : Bool) : AV → AV → Option AV
  | .p (.b a), .p (.b b) => some (.p (.b (if ne then !(a == b) else (a == b))))
  | _, _ => none

def eun (op : UnOp) : AV → Option AV
  | .p (.b a) => match op with | .not => some (.p (.b (!a))) | _ => none
  | .p (.i k a) => match op with | .neg => some (.p (.i k (wr k (0 - a)))) | _ => none
  | _ => none

def withV (v : Option AV) (d : MD) (K : St → Prop) (st : St) : Prop :=
  match v with
  | some v => K (st.put d v)
  | none => False

/-- a division, a remainder, a shift, a text that is joined: with the condition under which it is done -/
def bin2K (op : BinOp) (x y : AV) (d : MD) (K : St → Prop) (st : St) : Prop :=
  match op, x, y with
  | .add, .p (.s a), .p (.s b) => a.length + b.length ≤ maxL ∧ K (st.put d (.p (.s (a ++ b))))
  | .quo, .p (.i k a), .p (.i k' b) => k = k' ∧ b ≠ 0 ∧ K (st.put d (.p (.i k (wr k (a.tdiv b)))))
  | .rem, .p (.i k a), .p (.i k' b) => k = k' ∧ b ≠ 0 ∧ K (st.put d (.p (.i k (a.tmod b))))
  | .shl, .p (.i k a), .p (.i _ b) => 0 ≤ b ∧ K (st.put d (.p (.i k (wr k (a * 2 ^ min b.toNat k.bits)))))
  | .shr, .p (.i k a), .p (.i _ b) => 0 ≤ b ∧ K (st.put d (.p (.i k (a.fdiv (2 ^ min b.toNat k.bits)))))
  | _, _, _ => False

def binK (op : BinOp) (x y : AV) (d : MD) (K : St → Prop) (st : St) : Prop :=
  match ebin op x y with
  | some v => K (st.put d v)
  | none => bin2K op x y d K st

def lenK (s : Bool) (x : AV) (d : MD) (K : St → Prop) (st : St) : Prop :=
  match s, x with
  | false, .p (.l xs) => xs.length ≤ maxL → K (st.put d (.p (.i .i64 xs.length)))
  | false, .p .nl => K (st.put d (.p (.i .i64 0)))
  | true, .p (.s x) => x.length ≤ maxL → K (st.put d (.p (.i .i64 x.length)))
  | false, .gs _ _ _ n => n ≤ maxL → K (st.put d (.p (.i .i64 n)))
  | _, _ => False

def lenqV (s : Bool) (x : AV) : Option AV :=
  match s, x with
  | false, .p (.l xs) => some (.p (.i .i64 xs.length))
  | false, .p .nl => some (.p (.i .i64 0))
  | true, .p (.s x) => some (.p (.i .i64 x.length))
  | false, .gs _ _ _ n => some (.p (.i .i64 n))
  | _, _ => none

/-- the cells that a pointer reads -/
def ldAt (H : List AO) (x : AV) : Option (List AV) :=
  match x with
  | .ptr id off => match H[id]? with
    | some (.var cs) => some (cs.drop off)
    | _ => none
  | .ep id ver row col => match H[id]? with
    | some (.rows _ ver' rs) => if ver = ver' then (rs[row]?).map (·.drop col) else none
    | _ => none
  | .ip row => some (row.map .p)
  | _ => none

def takeN : Nat → List AV → Option (List AV)
  | 0, _ => some []
  | _ + 1, [] => none
  | n + 1, c :: cs => (takeN n cs).map (c :: ·)

def ldV (agg : Bool) (n : Nat) (cs : Option (List AV)) : Option AV :=
  match cs with
  | none => none
  | some cs => if agg then (takeN n cs).map .st else cs.head?

/-- cells laid over others from a place on -/
def splice (cs : List AV) (off : Nat) (us : List AV) : Option (List AV) :=
  match off, cs, us with
  | _, cs, [] => some cs
  | 0, _ :: cs, u :: us => (splice cs 0 us).map (u :: ·)
  | off + 1, c :: cs, us => (splice cs off us).map (c :: ·)
  | _, [], _ :: _ => none

def AV.allOne : AV → Bool
  | .st _ => true
  | v => v.one

def stoH (H : List AO) (n : Nat) (x v : AV) : Option (List AO) :=
  if v.allOne && v.cells.length == n then
    match x with
    | .ptr id off => match H[id]? with
      | some (.var cs) => (splice cs off v.cells).map fun cs' => H.set id (.var cs')
      | _ => none
    | .ep id ver row col => match H[id]? with
      | some (.rows sz ver' rs) => if ver = ver' then
          match rs[row]? with
          | some r => (splice r col v.cells).map fun r' => H.set id (.rows sz ver' (rs.set row r'))
          | none => none
        else none
      | _ => none
    | _ => none
  else none

def withH (h : Option (List AO)) (d : MD) (K : St → Prop) (st : St) : Prop :=
  match h with
  | some H => K (St.put ⟨st.L, st.T, H⟩ d .any)
  | none => False

def fadV (off : Nat) : AV → Option AV
  | .ptr id o => some (.ptr id (o + off))
  | .ep id ver row col => some (.ep id ver row (col + off))
  | .ip row => some (.ip (row.drop off))
  | _ => none

def nilcV : AV → Option AV
  | .ptr id o => some (.ptr id o)
  | .ep id ver row col => some (.ep id ver row col)
  | .clo f c => some (.clo f c)
  | _ => none

def extV (n : Nat) : AV → Option AV
  | .tup vs => vs[n]?
  | _ => none

/-- an element of a slice -/
def ixsK (sz : Nat) (x i : AV) (d : MD) (K : St → Prop) (st : St) : Prop :=
  match i with
  | .p (.i _ n) =>
    match x with
    | .p (.l xs) => 0 ≤ n ∧ ∃ r, xs[n.toNat]? = some r ∧ r.length = sz ∧ K (st.put d (.ip r))
    | .gs id ver off m => 0 ≤ n ∧ n < (m : Int) ∧ (match st.H[id]? with
        | some (.rows sz' ver' rs) => sz' = sz ∧ ver' = ver ∧ K (st.put d (.ep id ver (off + n.toNat) 0))
        | _ => False)
    | _ => False
  | _ => False

def ixaK (len sz : Nat) (x i : AV) (d : MD) (K : St → Prop) (st : St) : Prop :=
  match i with
  | .p (.i _ n) =>
    match x with
    | .ptr id o => 0 ≤ n ∧ n < (len : Int) ∧ K (st.put d (.ptr id (o + n.toNat * sz)))
    | _ => False
  | _ => False

def ixtK (x i : AV) (d : MD) (K : St → Prop) (st : St) : Prop :=
  match i with
  | .p (.i _ n) =>
    match x with
    | .p (.s x) => 0 ≤ n ∧ ∃ c, x[n.toNat]? = some c ∧ K (st.put d (.p (.i .u8 c.toNat)))
    | _ => False
  | _ => False

def iOf : AV → Option Int
  | .p (.i _ n) => some n
  | _ => none

/-- the bounds of a slice expression -/
def bndK (lo hi : Option AV) (n : Nat) (K : Nat → Nat → Prop) : Prop :=
  match lo, hi with
  | none, none => K 0 n
  | some (.p (.i _ a)), none => 0 ≤ a ∧ a ≤ (n : Int) ∧ K a.toNat n
  | none, some (.p (.i _ b)) => 0 ≤ b ∧ b ≤ (n : Int) ∧ K 0 b.toNat
  | some (.p (.i _ a)), some (.p (.i _ b)) => 0 ≤ a ∧ a ≤ b ∧ b ≤ (n : Int) ∧ K a.toNat b.toNat
  | _, _ => False

def slcR (sz id ver off n : Nat) (lo hi : Option AV) (d : MD) (K : St → Prop) (st : St) : Option AO → Prop
  | some (.rows sz' ver' _) => sz' = sz ∧ ver' = ver ∧ bndK lo hi n fun a b => K (st.put d (.gs id ver (off + a) (b - a)))
  | _ => False

def slcK (k : Option Nat) (x : AV) (lo hi : Option AV) (d : MD) (K : St → Prop) (st : St) : Prop :=
  match k, x with
  | some sz, .p (.l xs) => (∀ r ∈ xs, r.length = sz) ∧ bndK lo hi xs.length fun a b => K (st.put d (.p (.l ((xs.drop a).take (b - a)))))
  | none, .p (.s x) => bndK lo hi x.length fun a b => K (st.put d (.p (.s ((x.drop a).take (b - a)))))
  | some _, .p .nl => bndK lo hi 0 fun _ _ => K (st.put d (.p .nl))
  | some sz, .gs id ver off n => slcR sz id ver off n lo hi d K st st.H[id]?
  | _, _ => False

/-- the cells of a part that is laid into a struct -/
def partsV (st : St) : List (Nat × Nat × MA) → List AV → Option (List AV)
  | [], z => some z
  | (off, n, x) :: ps, z =>
    let v := st.get x
    if v.allOne && v.cells.length == n then (splice z off v.cells).bind (partsV st ps) else none

def buildV (st : St) (z : List AV) (ps : List (Nat × Nat × MA)) : Option AV := (partsV st ps z).map .st

/-- the rows of a slice that is written out -/
def rowsV (st : St) (sz : Nat) : List (Nat × MA) → List (List AV) → Option (List (List AV))
  | [], rs => some rs
  | (i, x) :: ps, rs =>
    let v := st.get x
    if v.allOne && v.cells.length == sz && decide (i < rs.length) then rowsV st sz ps (rs.set i v.cells) else none

def newK (o : Option AO) (mk : Nat → AV) (d : MD) (K : St → Prop) (st : St) : Prop :=
  match o with
  | some o => K (St.put ⟨st.L, st.T, st.H ++ [o]⟩ d (mk st.H.length))
  | none => False

def mksK (sz bytes : Nat) (z : List AV) (l c : AV) (d : MD) (K : St → Prop) (st : St) : Prop :=
  match l, c with
  | .p (.i .i64 l), .p (.i .i64 c) => 0 ≤ l ∧ l ≤ c ∧ c * bytes ≤ 140737488355328 ∧ c ≤ 140737488355328 ∧
      K (St.put ⟨st.L, st.T, st.H ++ [.rows sz 0 (List.replicate l.toNat z)]⟩ d (.gs st.H.length 0 0 l.toNat))
  | _, _ => False

/-- what is appended, as rows -/
def srcR (sz ver off n : Nat) : Option AO → Option (List (List AV))
  | some (.rows sz' ver' rs) => if sz' = sz ∧ ver' = ver ∧ off + n ≤ rs.length then some ((rs.drop off).take n) else none
  | _ => none

def bytesRows : List UInt8 → List (List AV)
  | [] => []
  | c :: x => [.p (.i .u8 c.toNat)] :: bytesRows x

def srcRows (H : List AO) (sz : Nat) : AV → Option (List (List AV))
  | .p (.l ys) => some (ys.map (·.map .p))
  | .p .nl => some []
  | .p (.s x) => if sz = 1 then some (bytesRows x) else none
  | .gs id ver off n => srcR sz ver off n H[id]?
  | _ => none

/-- rows that are appended to a slice that is owned -/
def appR (sz bytes id ver off n : Nat) (ys : List (List AV)) (d : MD) (K : St → Prop) (st : St) : Option AO → Prop
  | some (.rows sz' ver' rs) => sz' = sz ∧ ver' = ver ∧ off = 0 ∧ n ≤ rs.length ∧ (n + ys.length) * bytes ≤ 140737488355328 ∧ n + ys.length ≤ 140737488355328 ∧
      K (St.put ⟨st.L, st.T, st.H.set id (.rows sz (ver + 1) (rs.take n ++ ys))⟩ d (.gs id (ver + 1) 0 (n + ys.length)))
  | _ => False

def appX (sz bytes : Nat) (x : AV) (ys : List (List AV)) (d : MD) (K : St → Prop) (st : St) : Prop :=
  match x with
  | .p .nl => ys.length * bytes ≤ 140737488355328 ∧ ys.length ≤ 140737488355328 ∧ K (St.put ⟨st.L, st.T, st.H ++ [.rows sz 0 ys]⟩ d (.gs st.H.length 0 0 ys.length))
  | .gs id ver off n => appR sz bytes id ver off n ys d K st st.H[id]?
  | _ => False

def appY (sz bytes : Nat) (x : AV) (ys : Option (List (List AV))) (d : MD) (K : St → Prop) (st : St) : Prop :=
  match ys with
  | some ys => (∀ r ∈ ys, r.length = sz) ∧ appX sz bytes x ys d K st
  | none => False

def appK (sz bytes : Nat) (x y : AV) (d : MD) (K : St → Prop) (st : St) : Prop := appY sz bytes x (srcRows st.H sz y) d K st

def bytesOf : List (List AV) → Option (List UInt8)
  | [] => some []
  | [.p (.i .u8 n)] :: xs => (bytesOf xs).map (UInt8.ofNat n.toNat :: ·)
  | _ :: _ => none

def b2sR : Option (List (List AV)) → Option AV
  | some ys => if ys.length ≤ 140737488355328 then (bytesOf ys).map fun l => .p (.s l) else none
  | none => none

def b2sV (H : List AO) : AV → Option AV
  | .p (.l ys) => b2sR (srcRows H 1 (.p (.l ys)))
  | .p .nl => b2sR (some [])
  | .gs id ver off n => b2sR (srcRows H 1 (.gs id ver off n))
  | _ => none

def pickV : AV → AV → AV → Option AV
  | .p (.b c), x, y => some (if c then x else y)
  | _, _, _ => none

def mnxV (mx : Bool) : AV → AV → Option AV
  | .p (.i k a), .p (.i k' b) => if k = k' then some (.p (.i k (if mx then (if b > a then b else a) else (if b < a then b else a)))) else none
  | _, _ => none

def convV (k : IntKind) : AV → Option AV
  | .p (.i _ a) => some (.p (.i k (wr k a)))
  | _ => none

/-! calls -/
def Rels (θ : Th) (W : Im) (args : List AV) (vs : Array Value) : Prop :=
  vs.size = args.length ∧ ∀ (j : Nat) (a : AV) (v : Value), args[j]? = some a → vs[j]? = some v → ARel θ W a v

/-- a call, told on abstract values: whatever the memory, it returns what Q says -/
def HasBody (P : Program) (f : Nat) : Prop := ∃ fn, P.funcs[f]? = some fn ∧ fn.body.isSome = true ∧ (fn.name == "runtime.NumGoroutine") = false

def ACall (P : Program) (f : Nat) (args : List AV) (H : List AO) (Q : AV → List AO → Prop) : Prop :=
  HasBody P f ∧ ∀ (w : World) (θ : Th) (W : Im) (vs : Array Value), SR θ W H w → Rels θ W args vs →
    Calls P f vs w fun e w' => ∃ v r H' θ' W', e = .returned v ∧ Q r H' ∧ SR θ' W' H' w' ∧ ARel θ' W' r v ∧ Stp θ W w θ' W' w'

def callK (d : MD) (K : St → Prop) (st : St) (r : AV) (H : List AO) : Prop := K (St.put ⟨st.L, st.T, H⟩ d r)

def calvK (C : CallP) (x : AV) (args : List AV) (d : MD) (K : St → Prop) (st : St) : Prop :=
  match x with
  | .clo f caps => C f (args ++ caps) st.H (callK d K st)
  | _ => False

def gets (st : St) : List MA → List AV
  | [] => []
  | x :: xs => st.get x :: gets st xs

/-- one operation -/
def stepU (C : CallP) (o : MO) (d : MD) (K : St → Prop) (st : St) : Prop :=
  match o with
  | .mv x => K (st.put d (st.get x))
  | .pick c x y => withV (pickV (st.get c) (st.get x) (st.get y)) d K st
  | .alloc z => newK (some (.var z)) (fun id => .ptr id 0) d K st
  | .box n x => newK (if (st.get x).allOne && (st.get x).cells.length == n then some (.var (st.get x).cells) else none) (fun id => .ptr id 0) d K st
  | .build z ps => withV (buildV st z ps) d K st
  | .bsl sz z n ps => newK ((rowsV st sz ps (List.replicate n z)).map fun rs => .rows sz 0 rs) (fun id => .gs id 0 0 n) d K st
  | .ld agg n x => withV (ldV agg n (ldAt st.H (st.get x))) d K st
  | .sto n x v => withH (stoH st.H n (st.get x) (st.get v)) d K st
  | .nilc x => withV (nilcV (st.get x)) d K st
  | .bin op x y => binK op (st.get x) (st.get y) d K st
  | .un op x => withV (eun op (st.get x)) d K st
  | .conv k x => withV (convV k (st.get x)) d K st
  | .b2s x => withV (b2sV st.H (st.get x)) d K st
  | .mkf f caps => withV (some (.clo f (gets st caps))) d K st
  | .mks sz bytes z l c => mksK sz bytes z (st.get l) (st.get c) d K st
  | .slc k x lo hi => slcK k (st.get x) (lo.map st.get) (hi.map st.get) d K st
  | .fad off x => withV (fadV off (st.get x)) d K st
  | .fld agg off n x => withV (match st.get x with | .st cs => ldV agg n (some (cs.drop off)) | _ => none) d K st
  | .ixs sz x i => ixsK sz (st.get x) (st.get i) d K st
  | .ixa len sz x i => ixaK len sz (st.get x) (st.get i) d K st
  | .ixt x i => ixtK (st.get x) (st.get i) d K st
  | .ext x n => withV (extV n (st.get x)) d K st
  | .call f args => C f (gets st args) st.H (callK d K st)
  | .calv x args => calvK C (st.get x) (gets st args) d K st
  | .app sz bytes x y => appK sz bytes (st.get x) (st.get y) d K st
  | .len s x => lenK s (st.get x) d K st
  | .lenq s x => withV (lenqV s (st.get x)) d K st
  | .mnx mx x y => withV (mnxV mx (st.get x) (st.get y)) d K st
  | .beq ne x y => withV (beqV ne (st.get x) (st.get y)) d K st
  | .stop => False

/-- a test that is not decided -/
def splitK (c : Prop) (A B : St → Prop) (st : St) : Prop := (c → A st) ∧ (¬ c → B st)

def condK (v : AV) (A B : St → Prop) (st : St) : Prop :=
  match v with
  | .p (.b t) => splitK (t = true) A B st
  | _ => False

/-- an operation that is not done leaves no value -/
def skipK (d : MD) (K : St → Prop) (st : St) : Prop := K (st.put d (.tup []))

def guardK (v : AV) (want : Bool) (A B : St → Prop) (st : St) : Prop :=
  match v, want with
  | .tup [], _ => B st
  | v, true => condK v A B st
  | v, false => condK v B A st

def stepI (C : CallP) (o : MI) (K : St → Prop) (st : St) : Prop :=
  match o.guard with
  | none => stepU C o.op o.dst K st
  | some (t, want) => guardK (st.get t) want (stepU C o.op o.dst K) (skipK o.dst K) st

def runOps (C : CallP) : List MI → (St → Prop) → St → Prop
  | [], K, st => K st
  | o :: os, K, st => stepI C o (runOps C os K) st

/-! regions whose order is drawn: the operations ahead of the forced tail. Hm: what all of them may look at; Hc: the objects behind the operations with effects so far, which stand in one order; the state's H: the new objects. -/
/-- objects that are kept, but for those that are dead -/
def Hext (H H' : List AO) : Prop := ∀ (id : Nat) (o : AO), H[id]? = some o → o ≠ .dead → H'[id]? = some o
abbrev PK := List AO → St → Prop
def reK (Hc N : List AO) (K : PK) (st : St) : Prop := K Hc ⟨st.L, st.T, N⟩
def pureQ (r : AV) (H : List AO) (r' : AV) (H' : List AO) : Prop := r' = r ∧ H' = H
def pcallK (C : CallP) (Hm Hc : List AO) (f : Nat) (args : List AV) (d : MD) (K : PK) (st : St) : Prop :=
  (∃ r Hc', Hc'.length = Hc.length ∧ Hext Hm Hc' ∧ (∀ A, C f args (Hc ++ A) (pureQ r (Hc' ++ A))) ∧ K Hc' (st.put d r)) ∨
  (∃ (ob : AO) (mk : Nat → AV), (∀ (H : List AO) (j : Nat), Hext Hm H → H[j]? = some .rsv → C f args H (pureQ (mk j) (H.set j ob))) ∧ K Hc (St.put ⟨st.L, st.T, st.H ++ [ob]⟩ d (mk (Hc.length + st.H.length))))
def effK (Hm Hc N : List AO) (K : PK) (st : St) : Prop := st.H.length = Hc.length ∧ Hext Hm st.H ∧ K st.H ⟨st.L, st.T, N⟩
def nwK (Hc : List AO) (o : Option AO) (mk : Nat → AV) (d : MD) (K : PK) (st : St) : Prop :=
  match o with
  | some o => K Hc (St.put ⟨st.L, st.T, st.H ++ [o]⟩ d (mk (Hc.length + st.H.length)))
  | none => False

inductive Kd where
  | quiet | call | new | eff | bad
def kindOf : MO → Kd
  | .mv _ | .pick .. | .build .. | .ld .. | .nilc _ | .bin .. | .un .. | .conv .. | .b2s _ | .mkf .. | .slc .. | .fad .. | .fld .. | .ixs .. | .ixa .. | .ixt .. | .ext .. | .lenq .. | .mnx .. | .beq .. => .quiet
  | .call .. | .calv .. => .call
  | .alloc _ | .box .. | .bsl .. | .mks .. => .new
  | .app .. | .sto .. => .eff
  | _ => .bad

def preC (C : CallP) (Hm Hc : List AO) (o : MO) (d : MD) (K : PK) (st : St) : Prop :=
  match o with
  | .call f args => pcallK C Hm Hc f (gets st args) d K st
  | .calv x args => match st.get x with
    | .clo f caps => pcallK C Hm Hc f (gets st args ++ caps) d K st
    | _ => False
  | _ => False

def mksN (Hc : List AO) (sz bytes : Nat) (z : List AV) (l c : AV) (d : MD) (K : PK) (st : St) : Prop :=
  match l, c with
  | .p (.i .i64 l), .p (.i .i64 c) => 0 ≤ l ∧ l ≤ c ∧ c * bytes ≤ 140737488355328 ∧ c ≤ 140737488355328 ∧ nwK Hc (some (.rows sz 0 (List.replicate l.toNat z))) (fun id => .gs id 0 0 l.toNat) d K st
  | _, _ => False

def preN (Hc : List AO) (o : MO) (d : MD) (K : PK) (st : St) : Prop :=
  match o with
  | .alloc z => nwK Hc (some (.var z)) (fun id => .ptr id 0) d K st
  | .box n x => nwK Hc (if (st.get x).allOne && (st.get x).cells.length == n then some (.var (st.get x).cells) else none) (fun id => .ptr id 0) d K st
  | .bsl sz z n ps => nwK Hc ((rowsV st sz ps (List.replicate n z)).map fun rs => .rows sz 0 rs) (fun id => .gs id 0 0 n) d K st
  | .mks sz bytes z l c => mksN Hc sz bytes z (st.get l) (st.get c) d K st
  | _ => False

def preU (C : CallP) (Hm Hc : List AO) (o : MO) (d : MD) (K : PK) (st : St) : Prop :=
  match kindOf o with
  | .quiet => stepU C o d (reK Hc st.H K) ⟨st.L, st.T, Hm⟩
  | .call => preC C Hm Hc o d K st
  | .new => preN Hc o d K st
  | .eff => stepU C o d (effK Hm Hc st.H K) ⟨st.L, st.T, Hc⟩
  | .bad => False

def preI (C : CallP) (Hm Hc : List AO) (o : MI) (K : PK) (st : St) : Prop :=
  match o.guard with
  | none => preU C Hm Hc o.op o.dst K st
  | some (t, want) => guardK (st.get t) want (preU C Hm Hc o.op o.dst K) (skipK o.dst (K Hc)) st

def preK (C : CallP) (Hm : List AO) : List MI → PK → PK
  | [], K, Hc, st => K Hc st
  | o :: os, K, Hc, st => preI C Hm Hc o (preK C Hm os K) st

def endK (K : St → Prop) (Hc : List AO) (st : St) : Prop := K ⟨st.L, st.T, Hc ++ st.H⟩
def drwK (C : CallP) (pre : List MI) (K : St → Prop) (st : St) : Prop := ∃ Hm, Hext Hm st.H ∧ preK C Hm pre (endK K) st.H ⟨st.L, st.T, []⟩

/-! code -/
inductive Ex where
  | nm | ex (id : Nat) | rt

def thenK (K : St → Prop) (Q : Ex → St → Prop) : Ex → St → Prop
  | .nm, st => K st
  | e, st => Q e st
def blkK (id : Nat) (Q : Ex → St → Prop) : Ex → St → Prop
  | .ex i, st => if i = id then Q .nm st else Q (.ex i) st
  | e, st => Q e st
def regK (K : St → Prop) (st : St) : Prop := K ⟨st.L, [], st.H⟩

/-- a loop: with a relation of its head's states and a measure; lv: what is kept of the temporaries at its head -/
def loopK (B : (Ex → St → Prop) → St → Prop) (Q : Ex → St → Prop) (st : St) : Prop :=
  ∃ (α : Type) (lv : List Nat) (I : α → St → Prop) (μ : α → Nat), (∃ x, I x ⟨ekeep lv st.L, [], st.H⟩) ∧
    ∀ x st', I x st' → B (thenK (fun st'' => ∃ y, I y ⟨ekeep lv st''.L, [], st''.H⟩ ∧ μ y < μ x) Q) st'

def wpm (C : CallP) : MC → (Ex → St → Prop) → St → Prop
  | .skip, Q, st => Q .nm st
  | .reg os, Q, st => runOps C os (regK (Q .nm)) st
  | .seq a b, Q, st => wpm C a (thenK (wpm C b Q) Q) st
  | .cond c a b, Q, st => condK (st.get c) (wpm C a Q) (wpm C b Q) st
  | .blk id b, Q, st => wpm C b (blkK id Q) st
  | .loop b, Q, st => loopK (wpm C b) Q st
  | .exit id, Q, st => Q (.ex id) st
  | .ret, Q, st => Q .rt st
  | .drw pre tail, Q, st => drwK C pre (runOps C tail (regK (Q .nm))) st
  | .stop, _, _ => False

/-- the results of a function -/
inductive MR where
  | t (n : Nat)
  | cell (agg : Bool) (n : Nat) (a : Nat)

def resV (st : St) : MR → Option AV
  | .t n => some (eget st.L n)
  | .cell agg n a => match eget st.L a with
    | .ptr id o => ldV agg n (ldAt st.H (.ptr id o))
    | _ => none
def resVs (st : St) : List MR → Option (List AV)
  | [] => some []
  | r :: rs => match resV st r, resVs st rs with
    | some v, some vs => some (v :: vs)
    | _, _ => none
def retV (st : St) : List MR → Option AV
  | [r] => resV st r
  | rs => (resVs st rs).map .tup

def retK (rs : List MR) (Q : AV → List AO → Prop) (st : St) : Prop :=
  match retV st rs with
  | some v => Q v st.H
  | none => False

def finK (rs : List MR) (Q : AV → List AO → Prop) : Ex → St → Prop
  | .ex _, _ => False
  | _, st => retK rs Q st

def argEnv : Nat → List AV → En
  | _, [] => []
  | i, a :: as => (i, a) :: argEnv (i + 1) as

end Go.AM

/- The pass that makes the small code of the model's code. -/
set_option linter.all false
namespace Go.AM

def ofVal1 : Value → Option AV
  | .bool b => some (.p (.b b))
  | .int k n => some (.p (.i k n))
  | .string s => if s.size ≤ maxL then some (.p (.s s.data.toList)) else none
  | .pointer none => some (.p .np)
  | .slice none 0 0 => some (.p .nl)
  | .nilFunc => some (.p .nf)
  | .map none => some (.p .nm)
  | .nilIface => some (.p .ni)
  | _ => none

def ofVals1 : List Value → Option (List AV)
  | [] => some []
  | v :: vs => match ofVal1 v, ofVals1 vs with
    | some a, some l => some (a :: l)
    | _, _ => none

def ofVal : Value → Option AV
  | .agg cs => (ofVals1 cs.toList).map .st
  | v => ofVal1 v

def cTmp (lv : List Nat) (t : Nat) : MA := if lmem lv t = true then .l t else .t t
def cArg (lv : List Nat) : Operand → Option MA
  | .tmp t => some (cTmp lv t)
  | .const v => (ofVal v).map .c
  | .func f => some (.c (.clo f []))
  | .global _ => none

def cArgs (lv : List Nat) : List Operand → Option (List MA)
  | [] => some []
  | x :: xs => match cArg lv x, cArgs lv xs with
    | some a, some l => some (a :: l)
    | _, _ => none

/-- the cells of a type's zero value, its size, its bytes -/
def zeroOf (P : Program) (t : TypeId) : Option (List AV) :=
  match P.info? t with
  | some i => match i.zero with
    | some z => ofVals1 z.cells.toList
    | none => none
  | none => none
def sizeT (P : Program) (t : TypeId) : Option Nat := (P.info? t).map (·.size)
def aggT (P : Program) (t : TypeId) : Option Bool :=
  match P.underlying t with
  | some (.struct _) => some true
  | some (.array _ _) => some true
  | some _ => some false
  | none => none

def fieldOf (P : Program) (s : TypeId) (f : Nat) : Option (Nat × TypeId × Nat) :=
  match P.underlying s with
  | some (.struct fs) => match fs[f]? with
    | some fd => (sizeT P fd.type).map fun n => (fd.offset, fd.type, n)
    | none => none
  | _ => none

def cParts (lv : List Nat) (P : Program) (t : TypeId) : List (Nat × Operand) → Option (List (Nat × Nat × MA))
  | [] => some []
  | (f, x) :: ps => match fieldOf P t f, cArg lv x, cParts lv P t ps with
    | some (off, _, n), some a, some l => some ((off, n, a) :: l)
    | _, _, _ => none
def cElems (lv : List Nat) : List (Nat × Operand) → Option (List (Nat × MA))
  | [] => some []
  | (i, x) :: ps => match cArg lv x, cElems lv ps with
    | some a, some l => some ((i, a) :: l)
    | _, _ => none

def cOpt (lv : List Nat) : Option Operand → Option (Option MA)
  | none => some none
  | some x => (cArg lv x).map some

def elemT (P : Program) (t : TypeId) : Option TypeId :=
  match P.underlying t with
  | some (.slice e) => some e
  | _ => none

def cCall (lv : List Nat) (P : Program) (c : Call) : Option MO :=
  match c.callee, cArgs lv c.args.toList with
  | .value (.func f), some as => match P.funcs[f]? with
    | some fn => if fn.body.isSome && !(fn.name == "runtime.NumGoroutine") then some (.call f as) else none
    | none => none
  | .value (.tmp t), some as => some (.calv (cTmp lv t) as)
  | .builtin .len, some [x] => match (c.argTypes[0]?).bind P.underlying with
    | some (.slice _) => some (.len false x)
    | some .string => some (.len true x)
    | _ => none
  | .builtin .append, some [x, y] => match c.argTypes.toList with
    | [t, u0] => match P.underlying u0 with
     | none => none
     | some u => match elemT P t with
      | some e => match P.info? e with
        | some i => match zeroOf P e, u with
          | some z, .slice _ => if z.length == i.size && decide (0 < i.size) then some (.app i.size i.bytes x y) else none
          | some z, .string => if z.length == i.size && decide (0 < i.size) then some (.app i.size i.bytes x y) else none
          | _, _ => none
        | none => none
      | none => none
    | _ => none
  | .builtin .min, some [x, y] => some (.mnx false x y)
  | .builtin .max, some [x, y] => some (.mnx true x y)
  | _, _ => none

def cOp (lv : List Nat) (P : Program) (o : Op) : Option MO :=
  match o with
  | .move x => (cArg lv x).map .mv
  | .assign x => (cArg lv x).map .mv
  | .pick c a b => match cArg lv c, cArg lv a, cArg lv b with
    | some c, some a, some b => some (.pick c a b)
    | _, _, _ => none
  | .alloc t => (zeroOf P t).map .alloc
  | .box t x => match cArg lv x, sizeT P t with
    | some x, some n => some (.box n x)
    | _, _ => none
  | .build t ps => match P.underlying t with
    | some (.struct fs) => match zeroOf P t, cParts lv P t ps.toList with
      | some z, some ps => if fs.toList.all (fun f => (sizeT P f.type).isSome) && ps.all (fun m => decide (0 < m.2.1)) then some (.build z ps) else none
      | _, _ => none
    | _ => none
  | .buildSlice t n ps => match elemT P t with
    | some e => match sizeT P e, zeroOf P e, cElems lv ps.toList with
      | some sz, some z, some ps => if z.length == sz && decide (0 < sz) && decide (n * sz ≤ 16777216) then some (.bsl sz z n ps) else none
      | _, _, _ => none
    | none => none
  | .load t x => match cArg lv x, aggT P t, sizeT P t with
    | some x, some g, some n => some (.ld g n x)
    | _, _, _ => none
  | .store t x v => match cArg lv x, cArg lv v, sizeT P t with
    | some x, some v, some n => if decide (0 < n) then some (.sto n x v) else none
    | _, _, _ => none
  | .nilCheck x => (cArg lv x).map .nilc
  | .binOp op t x y _ => match cArg lv x, cArg lv y, P.underlying t with
    | some x, some y, some (.int _) => some (.bin op x y)
    | some x, some y, some .string => some (.bin op x y)
    | some x, some y, some .bool => match op with
      | .eql => some (.beq false x y)
      | .neq => some (.beq true x y)
      | _ => none
    | _, _, _ => none
  | .unOp op _ x => (cArg lv x).map (.un op)
  | .convert s t x => match cArg lv x, P.underlying s, P.underlying t with
    | some x, some _, some (.int k) => some (.conv k x)
    | some x, some (.slice e), some .string => match P.underlying e with
      | some (.int .u8) => some (.b2s x)
      | _ => none
    | _, _, _ => none
  | .makeFunc (.func f) first caps => if first.isEmpty then (cArgs lv caps.toList).map (.mkf f) else none
  | .makeSlice t l c => match elemT P t, cArg lv l, cArg lv c with
    | some e, some l, some c => match P.info? e, zeroOf P e with
      | some i, some z => if z.length == i.size && decide (0 < i.size) then some (.mks i.size i.bytes z l c) else none
      | _, _ => none
    | _, _, _ => none
  | .slice t x lo hi none => match P.underlying t, cArg lv x, cOpt lv lo, cOpt lv hi with
    | some .string, some x, some lo, some hi => some (.slc none x lo hi)
    | some (.slice e), some x, some lo, some hi => (sizeT P e).map fun n => .slc (some n) x lo hi
    | _, _, _, _ => none
  | .fieldAddr s x f => match fieldOf P s f, cArg lv x with
    | some (off, _, n), some x => if decide (0 < n) then some (.fad off x) else none
    | _, _ => none
  | .field s x f => match fieldOf P s f, cArg lv x with
    | some (off, t, n), some x => (aggT P t).map fun g => .fld g off n x
    | _, _ => none
  | .indexAddr t x i => match P.underlying t, cArg lv x, cArg lv i with
    | some (.slice e), some x, some i => (sizeT P e).bind fun n => if decide (0 < n) then some (.ixs n x i) else none
    | some (.array len e), some x, some i => (sizeT P e).map fun n => .ixa len n x i
    | _, _, _ => none
  | .index t x i => match P.underlying t, cArg lv x, cArg lv i with
    | some .string, some x, some i => some (.ixt x i)
    | _, _, _ => none
  | .extract x n => (cArg lv x).map fun x => .ext x n
  | .call c => cCall lv P c
  | _ => none

def cGuard (lv : List Nat) (ops : Array Oper) : Option (Nat × Bool) → Option (Option (MA × Bool))
  | none => some none
  | some (j, want) => match (ops[j]?).bind (·.dst) with
    | some t => some (some (cTmp lv t, want))
    | none => none

/-- an operation; what is not served is a stop -/
def cDst (lv : List Nat) : Option Nat → MD
  | none => .no
  | some d => if lmem lv d = true then .l d else .t d

def cOper (lv : List Nat) (P : Program) (N : Nat) (ops : Array Oper) (o : Oper) : MI :=
  match cOp lv P o.op, cGuard lv ops o.guard with
  | some m, some g => if o.dst.all (decide <| · < N) then ⟨cDst lv o.dst, m, g⟩ else ⟨.no, .stop, none⟩
  | _, _ => ⟨.no, .stop, none⟩

/-- lengths without their bound, for regions whose order is drawn -/
def unlen (m : MI) : MI :=
  match m.op with
  | .len s x => ⟨m.dst, .lenq s x, m.guard⟩
  | _ => m

/-- the temporaries that an operation looks at -/
def looks (ops : Array Oper) (o : Oper) : List Nat :=
  (o.op.operands.toList.filterMap fun | .tmp t => some t | _ => none) ++
  (match o.guard with
   | some (j, _) => ((ops[j]?).bind (·.dst)).toList
   | none => [])
def waitsOn (o : Oper) : List Nat := (o.after.toList.filter (Region.binds .any)).map (·.on)

/-- for each operation, as a number's bits: those that it waits for, directly or through others -/
def closStep (acc : List Nat) (es : List Nat) : Nat := es.foldl (fun s e => s ||| 2 ^ e ||| acc.getD e 0) 0
def clos : List (List Nat) → List Nat → List Nat
  | [], acc => acc
  | es :: ws, acc => clos ws (acc ++ [closStep acc es])
def closOf (ops : Array Oper) : List Nat := clos (ops.toList.map waitsOn) []

def waitsT (cl : List Nat) (j i : Nat) : Bool := (cl.getD j 0).testBit i
/-- does the operation j wait for all ahead of it? -/
def waitsAll (cl : List Nat) (j : Nat) : Bool := (List.range j).all fun i => waitsT cl j i
/-- where the forced tail begins -/
def tailAt (cl : List Nat) : Nat → Nat
  | 0 => 0
  | j + 1 => if waitsAll cl j then tailAt cl j else j + 1

/-- two operations of which neither waits for the other do not meddle with one another's temporaries -/
def apartOk (cl : List Nat) (ops : Array Oper) (i j : Nat) : Bool :=
  match ops[i]?, ops[j]? with
  | some x, some y =>
    (match y.dst with
     | some d => !(looks ops x).contains d || (decide (j < i) && waitsT cl i j) || (decide (i < j) && waitsT cl j i)
     | none => true) && (i == j || x.dst.isNone || x.dst != y.dst)
  | _, _ => false
def chainM : MO → Bool
  | .call .. | .calv .. | .app .. | .sto .. => true
  | _ => false
def chainO (lv : List Nat) (P : Program) (ops : Array Oper) (i : Nat) : Bool :=
  match ops[i]? with
  | some o => match cOp lv P o.op with
    | some m => chainM m
    | none => false
  | none => false
/-- each waits for those ahead of it -/
def pairsOk (cl : List Nat) : List Nat → Bool
  | [] => true
  | i :: is => is.all (fun j => waitsT cl j i) && pairsOk cl is
def drwOk (cl : List Nat) (ops : Array Oper) (m : Nat) (ch : List Nat) : Bool :=
  decide (m ≤ ops.size) && pairsOk cl ch &&
  ((List.range m).all fun i => (List.range m).all fun j => apartOk cl ops i j) &&
  ((List.range ops.size).all fun i => match ops[i]? with
    | some o => (waitsOn o).all (decide <| · < i) && (decide (i < m) || waitsAll cl i)
    | none => false)
def chains (lv : List Nat) (P : Program) (ops : Array Oper) (m : Nat) : List Nat := (List.range m).filter (chainO lv P ops)

def compile (lv : List Nat) (P : Program) (N : Nat) : Code → MC
  | .skip => .skip
  | .region _ ops false => .reg (ops.toList.map (cOper lv P N ops))
  | .region _ ops true => if drwOk (closOf ops) ops (tailAt (closOf ops) ops.size) (chains lv P ops (tailAt (closOf ops) ops.size)) then .drw ((ops.toList.take (tailAt (closOf ops) ops.size)).map fun o => unlen (cOper lv P N ops o)) ((ops.toList.drop (tailAt (closOf ops) ops.size)).map (cOper lv P N ops)) else .stop
  | .seq a b => .seq (compile lv P N a) (compile lv P N b)
  | .cond c a b => match cArg lv c with
    | some c => .cond c (compile lv P N a) (compile lv P N b)
    | none => .stop
  | .block id b => .blk id (compile lv P N b)
  | .loop b => .loop (compile lv P N b)
  | .exit id => .exit id
  | .ret => .ret
  | _ => .stop

def cRes (lv : List Nat) (P : Program) (r : ResultVar) : Option MR :=
  match r with
  | .tmp t => if lmem lv t = true then some (.t t) else none
  | .cell a t => if lmem lv a = true then (match aggT P t, sizeT P t with
    | some g, some n => some (.cell g n a)
    | _, _ => none) else none
def cRess (lv : List Nat) (P : Program) : List ResultVar → Option (List MR)
  | [] => some []
  | r :: rs => match cRes lv P r, cRess lv P rs with
    | some m, some l => some (m :: l)
    | _, _ => none

/-- the temporaries that regions and tests name, one list a place -/
def opTmps (o : Oper) : List Nat := (o.op.operands.toList.filterMap fun | .tmp t => some t | _ => none) ++ o.dst.toList
def placesOf : Code → List (List Nat)
  | .region _ ops _ => [ops.toList.flatMap opTmps]
  | .seq a b => placesOf a ++ placesOf b
  | .cond c a b => (match c with | .tmp t => [[t]] | _ => []) ++ placesOf a ++ placesOf b
  | .block _ b => placesOf b
  | .loop b => placesOf b
  | _ => []
def liveOf (params : Nat) (rs : List ResultVar) (c : Code) : List Nat :=
  let ps := placesOf c ++ [List.range params, rs.map fun | .tmp t => t | .cell a _ => a]
  let all := (ps.flatMap fun l => l.eraseDups)
  (all.eraseDups).filter fun t => decide (2 ≤ all.count t)
end Go.AM

/- The evaluation of the small code as equations for simp: each by unfolding. -/
set_option linter.all false
namespace Go.AM
variable {C : CallP} {Q : Ex → St → Prop} {K A B : St → Prop} {st : St} {d : MD} {L T : En} {H : List AO}

@[go_sem] theorem wpm_skip : wpm C .skip Q st = Q .nm st := rfl
@[go_sem] theorem wpm_reg (os) : wpm C (.reg os) Q st = runOps C os (regK (Q .nm)) st := rfl
@[go_sem] theorem wpm_seq (a b) : wpm C (.seq a b) Q st = wpm C a (thenK (wpm C b Q) Q) st := rfl
@[go_sem] theorem wpm_cond (c a b) : wpm C (.cond c a b) Q st = condK (st.get c) (wpm C a Q) (wpm C b Q) st := rfl
@[go_sem] theorem wpm_blk (id b) : wpm C (.blk id b) Q st = wpm C b (blkK id Q) st := rfl
@[go_sem] theorem wpm_loop (b) : wpm C (.loop b) Q st = loopK (wpm C b) Q st := rfl
@[go_sem] theorem wpm_exit (id) : wpm C (.exit id) Q st = Q (.ex id) st := rfl
@[go_sem] theorem wpm_ret : wpm C .ret Q st = Q .rt st := rfl

variable {J : PK} {Hm Hc : List AO}
@[go_sem] theorem wpm_drw (pre tail) : wpm C (.drw pre tail) Q st = drwK C pre (runOps C tail (regK (Q .nm))) st := rfl
@[go_sem] theorem preK_nil : preK C Hm [] J Hc st = J Hc st := rfl
@[go_sem] theorem preK_cons (o os) : preK C Hm (o :: os) J Hc st = preI C Hm Hc o (preK C Hm os J) st := rfl
@[go_sem] theorem preI_none (o) : preI C Hm Hc ⟨d, o, none⟩ J st = preU C Hm Hc o d J st := rfl
@[go_sem] theorem preI_some (o x w) : preI C Hm Hc ⟨d, o, some (x, w)⟩ J st = guardK (st.get x) w (preU C Hm Hc o d J) (skipK d (J Hc)) st := rfl
@[go_sem] theorem reK_eq (N) : reK Hc N J ⟨L, T, H⟩ = J Hc ⟨L, T, N⟩ := rfl
@[go_sem] theorem endK_eq : endK K Hc ⟨L, T, H⟩ = K ⟨L, T, Hc ++ H⟩ := rfl
@[go_sem] theorem effK_eq (N) : effK Hm Hc N J ⟨L, T, H⟩ = (H.length = Hc.length ∧ Hext Hm H ∧ J H ⟨L, T, N⟩) := rfl
@[go_sem] theorem nwK_some (o mk) : nwK Hc (some o) mk d J ⟨L, T, H⟩ = J Hc (St.put ⟨L, T, H ++ [o]⟩ d (mk (Hc.length + H.length))) := rfl
@[go_sem] theorem pu_call (f args) : preU C Hm Hc (.call f args) d J st = pcallK C Hm Hc f (gets st args) d J st := rfl
@[go_sem] theorem pu_calv (x args) : preU C Hm Hc (.calv x args) d J st = preC C Hm Hc (.calv x args) d J st := rfl
@[go_sem] theorem pu_alloc (z) : preU C Hm Hc (.alloc z) d J st = nwK Hc (some (.var z)) (fun id => .ptr id 0) d J st := rfl
@[go_sem] theorem pu_box (n x) : preU C Hm Hc (.box n x) d J st = nwK Hc (if (st.get x).allOne && (st.get x).cells.length == n then some (.var (st.get x).cells) else none) (fun id => .ptr id 0) d J st := rfl
@[go_sem] theorem pu_bsl (sz z n ps) : preU C Hm Hc (.bsl sz z n ps) d J st = nwK Hc ((rowsV st sz ps (List.replicate n z)).map fun rs => .rows sz 0 rs) (fun id => .gs id 0 0 n) d J st := rfl
@[go_sem] theorem pu_mks (sz b z l c) : preU C Hm Hc (.mks sz b z l c) d J st = mksN Hc sz b z (st.get l) (st.get c) d J st := rfl
@[go_sem] theorem mksN_i (sz b z) (l c : Int) : mksN Hc sz b z (.p (.i .i64 l)) (.p (.i .i64 c)) d J st = (0 ≤ l ∧ l ≤ c ∧ c * b ≤ 140737488355328 ∧ c ≤ 140737488355328 ∧ nwK Hc (some (.rows sz 0 (List.replicate l.toNat z))) (fun id => .gs id 0 0 l.toNat) d J st) := rfl
@[go_sem] theorem pu_app (s b x y) : preU C Hm Hc (.app s b x y) d J ⟨L, T, H⟩ = stepU C (.app s b x y) d (effK Hm Hc H J) ⟨L, T, Hc⟩ := rfl
@[go_sem] theorem pu_sto (n x y) : preU C Hm Hc (.sto n x y) d J ⟨L, T, H⟩ = stepU C (.sto n x y) d (effK Hm Hc H J) ⟨L, T, Hc⟩ := rfl
@[go_sem] theorem pu_mv (x) : preU C Hm Hc (.mv x) d J ⟨L, T, H⟩ = stepU C (.mv x) d (reK Hc H J) ⟨L, T, Hm⟩ := rfl
@[go_sem] theorem pu_pick (x y z) : preU C Hm Hc (.pick x y z) d J ⟨L, T, H⟩ = stepU C (.pick x y z) d (reK Hc H J) ⟨L, T, Hm⟩ := rfl
@[go_sem] theorem pu_build (x y) : preU C Hm Hc (.build x y) d J ⟨L, T, H⟩ = stepU C (.build x y) d (reK Hc H J) ⟨L, T, Hm⟩ := rfl
@[go_sem] theorem pu_ld (x y z) : preU C Hm Hc (.ld x y z) d J ⟨L, T, H⟩ = stepU C (.ld x y z) d (reK Hc H J) ⟨L, T, Hm⟩ := rfl
@[go_sem] theorem pu_nilc (x) : preU C Hm Hc (.nilc x) d J ⟨L, T, H⟩ = stepU C (.nilc x) d (reK Hc H J) ⟨L, T, Hm⟩ := rfl
@[go_sem] theorem pu_bin (x y z) : preU C Hm Hc (.bin x y z) d J ⟨L, T, H⟩ = stepU C (.bin x y z) d (reK Hc H J) ⟨L, T, Hm⟩ := rfl
@[go_sem] theorem pu_un (x y) : preU C Hm Hc (.un x y) d J ⟨L, T, H⟩ = stepU C (.un x y) d (reK Hc H J) ⟨L, T, Hm⟩ := rfl
@[go_sem] theorem pu_conv (x y) : preU C Hm Hc (.conv x y) d J ⟨L, T, H⟩ = stepU C (.conv x y) d (reK Hc H J) ⟨L, T, Hm⟩ := rfl
@[go_sem] theorem pu_b2s (x) : preU C Hm Hc (.b2s x) d J ⟨L, T, H⟩ = stepU C (.b2s x) d (reK Hc H J) ⟨L, T, Hm⟩ := rfl
@[go_sem] theorem pu_mkf (x y) : preU C Hm Hc (.mkf x y) d J ⟨L, T, H⟩ = stepU C (.mkf x y) d (reK Hc H J) ⟨L, T, Hm⟩ := rfl
@[go_sem] theorem pu_slc (x y z u) : preU C Hm Hc (.slc x y z u) d J ⟨L, T, H⟩ = stepU C (.slc x y z u) d (reK Hc H J) ⟨L, T, Hm⟩ := rfl
@[go_sem] theorem pu_fad (x y) : preU C Hm Hc (.fad x y) d J ⟨L, T, H⟩ = stepU C (.fad x y) d (reK Hc H J) ⟨L, T, Hm⟩ := rfl
@[go_sem] theorem pu_fld (x y z u) : preU C Hm Hc (.fld x y z u) d J ⟨L, T, H⟩ = stepU C (.fld x y z u) d (reK Hc H J) ⟨L, T, Hm⟩ := rfl
@[go_sem] theorem pu_ixs (x y z) : preU C Hm Hc (.ixs x y z) d J ⟨L, T, H⟩ = stepU C (.ixs x y z) d (reK Hc H J) ⟨L, T, Hm⟩ := rfl
@[go_sem] theorem pu_ixa (x y z u) : preU C Hm Hc (.ixa x y z u) d J ⟨L, T, H⟩ = stepU C (.ixa x y z u) d (reK Hc H J) ⟨L, T, Hm⟩ := rfl
@[go_sem] theorem pu_ixt (x y) : preU C Hm Hc (.ixt x y) d J ⟨L, T, H⟩ = stepU C (.ixt x y) d (reK Hc H J) ⟨L, T, Hm⟩ := rfl
@[go_sem] theorem pu_ext (x y) : preU C Hm Hc (.ext x y) d J ⟨L, T, H⟩ = stepU C (.ext x y) d (reK Hc H J) ⟨L, T, Hm⟩ := rfl
@[go_sem] theorem pu_lenq (x y) : preU C Hm Hc (.lenq x y) d J ⟨L, T, H⟩ = stepU C (.lenq x y) d (reK Hc H J) ⟨L, T, Hm⟩ := rfl
@[go_sem] theorem pu_mnx (x y z) : preU C Hm Hc (.mnx x y z) d J ⟨L, T, H⟩ = stepU C (.mnx x y z) d (reK Hc H J) ⟨L, T, Hm⟩ := rfl
@[go_sem] theorem pu_beq (x y z) : preU C Hm Hc (.beq x y z) d J ⟨L, T, H⟩ = stepU C (.beq x y z) d (reK Hc H J) ⟨L, T, Hm⟩ := rfl
theorem Hext.refl (H : List AO) : Hext H H := fun _ _ h _ => h
theorem hext_dead (H : List AO) (i : Nat) (o : AO) : Hext (H.set i .dead) (H.set i o) := by
  intro id ob h hn
  by_cases e : i = id
  · subst e
    rw [List.getElem?_set] at h
    simp at h
    exact (hn h.2.symm).elim
  · rw [List.getElem?_set_ne e] at h ⊢; exact h
theorem hext_dead0 (H : List AO) (i : Nat) : Hext (H.set i .dead) H := by
  intro id ob h hn
  by_cases e : i = id
  · subst e
    rw [List.getElem?_set] at h
    simp at h
    exact (hn h.2.symm).elim
  · rw [List.getElem?_set_ne e] at h; exact h
/-- a drawn region without effects ahead of its tail -/
theorem drw_same {pre : List MI} (h : preK C H pre (endK K) H ⟨L, T, []⟩) : drwK C pre K ⟨L, T, H⟩ := ⟨H, Hext.refl H, h⟩
theorem pcall_pure {f : Nat} {xs : List AV} {r : AV} (h : ∀ A, C f xs (Hc ++ A) (pureQ r (Hc ++ A))) (hm : Hext Hm Hc) (k : J Hc (st.put d r)) : pcallK C Hm Hc f xs d J st := .inl ⟨r, Hc, rfl, hm, h, k⟩
/-- a call with effects -/
theorem pcall_chain {f : Nat} {xs : List AV} (r : AV) (Hc' : List AO) (hl : Hc'.length = Hc.length) (hm : Hext Hm Hc') (h : ∀ A, C f xs (Hc ++ A) (pureQ r (Hc' ++ A))) (k : J Hc' (st.put d r)) : pcallK C Hm Hc f xs d J st := .inl ⟨r, Hc', hl, hm, h, k⟩
/-- a call that gives a new object -/
theorem pcall_new {f : Nat} {xs : List AV} (ob : AO) (mk : Nat → AV) (h : ∀ H j, Hext Hm H → H[j]? = some .rsv → C f xs H (pureQ (mk j) (H.set j ob))) (k : J Hc (St.put ⟨L, T, H ++ [ob]⟩ d (mk (Hc.length + H.length)))) : pcallK C Hm Hc f xs d J ⟨L, T, H⟩ := .inr ⟨ob, mk, h, k⟩
@[go_sem] theorem su_lenq (s x) : stepU C (.lenq s x) d K st = withV (lenqV s (st.get x)) d K st := rfl
@[go_sem] theorem lenqV_l (xs) : lenqV false (.p (.l xs)) = some (.p (.i .i64 xs.length)) := rfl
@[go_sem] theorem lenqV_nl : lenqV false (.p .nl) = some (.p (.i .i64 0)) := rfl
@[go_sem] theorem lenqV_s (x) : lenqV true (.p (.s x)) = some (.p (.i .i64 x.length)) := rfl
@[go_sem] theorem lenqV_gs (i v o n) : lenqV false (.gs i v o n) = some (.p (.i .i64 n)) := rfl
@[go_sem] theorem thenK_nm : thenK K Q .nm st = K st := rfl
@[go_sem] theorem thenK_ex (i) : thenK K Q (.ex i) st = Q (.ex i) st := rfl
@[go_sem] theorem thenK_rt : thenK K Q .rt st = Q .rt st := rfl
@[go_sem] theorem blkK_nm (i) : blkK i Q .nm st = Q .nm st := rfl
@[go_sem] theorem blkK_rt (i) : blkK i Q .rt st = Q .rt st := rfl
@[go_sem] theorem blkK_ex (i j) : blkK i Q (.ex j) st = if j = i then Q .nm st else Q (.ex j) st := rfl
@[go_sem] theorem regK_eq : regK K ⟨L, T, H⟩ = K ⟨L, [], H⟩ := rfl
@[go_sem] theorem runOps_nil : runOps C [] K st = K st := rfl
@[go_sem] theorem runOps_cons (o os) : runOps C (o :: os) K st = stepI C o (runOps C os K) st := rfl
@[go_sem] theorem stepI_none (o) : stepI C ⟨d, o, none⟩ K st = stepU C o d K st := rfl
@[go_sem] theorem stepI_some (o x w) : stepI C ⟨d, o, some (x, w)⟩ K st = guardK (st.get x) w (stepU C o d K) (skipK d K) st := rfl
@[go_sem] theorem guardK_t (c) : guardK (.p (.b c)) true A B st = condK (.p (.b c)) A B st := rfl
@[go_sem] theorem guardK_f (c) : guardK (.p (.b c)) false A B st = condK (.p (.b c)) B A st := rfl
@[go_sem] theorem guardK_u (w) : guardK (.tup []) w A B st = B st := by cases w <;> rfl
@[go_sem] theorem skipK_eq : skipK d K st = K (st.put d (.tup [])) := rfl
/-- a guard: its test was not reached, or it is a bool -/
theorem guardK_inv {v : AV} {w : Bool} (h : guardK v w A B st) : (v = .tup [] ∧ B st) ∨ ∃ b, v = .p (.b b) ∧ (b = w → A st) ∧ (b ≠ w → B st) := by
  unfold guardK at h
  split at h
  · exact .inl ⟨rfl, h⟩
  · unfold condK at h
    split at h
    · rename_i b _; exact .inr ⟨b, rfl, h.1, fun hb => h.2 hb⟩
    · exact h.elim
  · unfold condK at h
    split at h
    · rename_i b _; exact .inr ⟨b, rfl, fun hb => h.2 (by simp [hb]), fun hb => h.1 (by cases b with | true => rfl | false => exact (hb rfl).elim)⟩
    · exact h.elim
@[go_sem] theorem condK_t : condK (.p (.b true)) A B st = A st := by simp [condK, splitK]
@[go_sem] theorem condK_f : condK (.p (.b false)) A B st = B st := by simp [condK, splitK]

@[go_sem] theorem get_t (n) : St.get ⟨L, T, H⟩ (.t n) = eget T n := rfl
@[go_sem] theorem get_l (n) : St.get ⟨L, T, H⟩ (.l n) = eget L n := rfl
@[go_sem] theorem get_c (v) : St.get st (.c v) = v := rfl
@[go_sem] theorem put_no (v) : St.put st .no v = st := rfl
@[go_sem] theorem put_t (n v) : St.put ⟨L, T, H⟩ (.t n) v = ⟨L, (n, v) :: T, H⟩ := rfl
@[go_sem] theorem put_l (n v) : St.put ⟨L, T, H⟩ (.l n) v = ⟨eset L n v, T, H⟩ := rfl
@[go_sem] theorem eget_cons (k v t) (e : En) : eget ((k, v) :: e) t = if k = t then v else eget e t := rfl
@[go_sem] theorem eset_nil (t v) : eset [] t v = [(t, v)] := rfl
@[go_sem] theorem eset_cons (k u t v) (e : En) : eset ((k, u) :: e) t v = if k = t then (t, v) :: e else (k, u) :: eset e t v := rfl
@[go_sem] theorem lmem_nil (k) : lmem [] k = false := rfl
@[go_sem] theorem lmem_cons (x xs k) : lmem (x :: xs) k = if x = k then true else lmem xs k := rfl
@[go_sem] theorem ekeep_nil (lv) : ekeep lv [] = [] := rfl
@[go_sem] theorem ekeep_cons (lv k v) (e : En) : ekeep lv ((k, v) :: e) = if lmem lv k = true then (k, v) :: ekeep lv e else ekeep lv e := rfl
@[go_sem] theorem gets_nil : gets st [] = [] := rfl
@[go_sem] theorem gets_cons (x xs) : gets st (x :: xs) = st.get x :: gets st xs := rfl
@[go_sem] theorem argEnv_nil (i) : argEnv i [] = [] := rfl
@[go_sem] theorem argEnv_cons (i a as) : argEnv i (a :: as) = (i, a) :: argEnv (i + 1) as := rfl

@[go_sem] theorem withV_some (v) : withV (some v) d K st = K (st.put d v) := rfl
@[go_sem] theorem withH_some (h) : withH (some h) d K ⟨L, T, H⟩ = K (St.put ⟨L, T, h⟩ d .any) := rfl
@[go_sem] theorem newK_some (o mk) : newK (some o) mk d K ⟨L, T, H⟩ = K (St.put ⟨L, T, H ++ [o]⟩ d (mk H.length)) := rfl
@[go_sem] theorem callK_eq (r h) : callK d K ⟨L, T, H⟩ r h = K (St.put ⟨L, T, h⟩ d r) := rfl

@[go_sem] theorem su_mv (x) : stepU C (.mv x) d K st = K (st.put d (st.get x)) := rfl
@[go_sem] theorem su_pick (c x y) : stepU C (.pick c x y) d K st = withV (pickV (st.get c) (st.get x) (st.get y)) d K st := rfl
@[go_sem] theorem su_alloc (z) : stepU C (.alloc z) d K st = newK (some (.var z)) (fun id => .ptr id 0) d K st := rfl
@[go_sem] theorem su_box (n x) : stepU C (.box n x) d K st = newK (if (st.get x).allOne && (st.get x).cells.length == n then some (.var (st.get x).cells) else none) (fun id => .ptr id 0) d K st := rfl
@[go_sem] theorem su_build (z ps) : stepU C (.build z ps) d K st = withV (buildV st z ps) d K st := rfl
@[go_sem] theorem su_bsl (sz z n ps) : stepU C (.bsl sz z n ps) d K st = newK ((rowsV st sz ps (List.replicate n z)).map fun rs => .rows sz 0 rs) (fun id => .gs id 0 0 n) d K st := rfl
@[go_sem] theorem su_ld (g n x) : stepU C (.ld g n x) d K ⟨L, T, H⟩ = withV (ldV g n (ldAt H (St.get ⟨L, T, H⟩ x))) d K ⟨L, T, H⟩ := rfl
@[go_sem] theorem su_sto (n x v) : stepU C (.sto n x v) d K ⟨L, T, H⟩ = withH (stoH H n (St.get ⟨L, T, H⟩ x) (St.get ⟨L, T, H⟩ v)) d K ⟨L, T, H⟩ := rfl
@[go_sem] theorem su_nilc (x) : stepU C (.nilc x) d K st = withV (nilcV (st.get x)) d K st := rfl
@[go_sem] theorem su_bin (op x y) : stepU C (.bin op x y) d K st = binK op (st.get x) (st.get y) d K st := rfl
@[go_sem] theorem su_un (op x) : stepU C (.un op x) d K st = withV (eun op (st.get x)) d K st := rfl
@[go_sem] theorem su_conv (k x) : stepU C (.conv k x) d K st = withV (convV k (st.get x)) d K st := rfl
@[go_sem] theorem su_b2s (x) : stepU C (.b2s x) d K ⟨L, T, H⟩ = withV (b2sV H (St.get ⟨L, T, H⟩ x)) d K ⟨L, T, H⟩ := rfl
@[go_sem] theorem su_mkf (f cs) : stepU C (.mkf f cs) d K st = K (st.put d (.clo f (gets st cs))) := rfl
@[go_sem] theorem su_mks (sz b z l c) : stepU C (.mks sz b z l c) d K st = mksK sz b z (st.get l) (st.get c) d K st := rfl
@[go_sem] theorem su_slc_nn (k x) : stepU C (.slc k x none none) d K st = slcK k (st.get x) none none d K st := rfl
@[go_sem] theorem su_slc_ns (k x y) : stepU C (.slc k x none (some y)) d K st = slcK k (st.get x) none (some (st.get y)) d K st := rfl
@[go_sem] theorem su_slc_sn (k x y) : stepU C (.slc k x (some y) none) d K st = slcK k (st.get x) (some (st.get y)) none d K st := rfl
@[go_sem] theorem su_slc_ss (k x y z) : stepU C (.slc k x (some y) (some z)) d K st = slcK k (st.get x) (some (st.get y)) (some (st.get z)) d K st := rfl
@[go_sem] theorem su_fad (o x) : stepU C (.fad o x) d K st = withV (fadV o (st.get x)) d K st := rfl
def fldV (g : Bool) (o n : Nat) : AV → Option AV
  | .st cs => ldV g n (some (cs.drop o))
  | _ => none
@[go_sem] theorem fldV_st (g o n cs) : fldV g o n (.st cs) = ldV g n (some (cs.drop o)) := rfl
@[go_sem] theorem su_fld (g o n x) : stepU C (.fld g o n x) d K st = withV (fldV g o n (st.get x)) d K st := by
  show withV _ d K st = withV _ d K st
  congr 1
@[go_sem] theorem su_ixs (sz x i) : stepU C (.ixs sz x i) d K st = ixsK sz (st.get x) (st.get i) d K st := rfl
@[go_sem] theorem su_ixa (l sz x i) : stepU C (.ixa l sz x i) d K st = ixaK l sz (st.get x) (st.get i) d K st := rfl
@[go_sem] theorem su_ixt (x i) : stepU C (.ixt x i) d K st = ixtK (st.get x) (st.get i) d K st := rfl
@[go_sem] theorem su_ext (x n) : stepU C (.ext x n) d K st = withV (extV n (st.get x)) d K st := rfl
@[go_sem] theorem su_call (f as) : stepU C (.call f as) d K ⟨L, T, H⟩ = C f (gets ⟨L, T, H⟩ as) H (callK d K ⟨L, T, H⟩) := rfl
@[go_sem] theorem su_calv (x as) : stepU C (.calv x as) d K st = calvK C (st.get x) (gets st as) d K st := rfl
@[go_sem] theorem calvK_eq (f cs as) : calvK C (.clo f cs) as d K ⟨L, T, H⟩ = C f (as ++ cs) H (callK d K ⟨L, T, H⟩) := rfl
@[go_sem] theorem su_app (sz b x y) : stepU C (.app sz b x y) d K st = appK sz b (st.get x) (st.get y) d K st := rfl
@[go_sem] theorem su_len (s x) : stepU C (.len s x) d K st = lenK s (st.get x) d K st := rfl
@[go_sem] theorem su_mnx (m x y) : stepU C (.mnx m x y) d K st = withV (mnxV m (st.get x) (st.get y)) d K st := rfl
@[go_sem] theorem su_beq (m x y) : stepU C (.beq m x y) d K st = withV (beqV m (st.get x) (st.get y)) d K st := rfl
@[go_sem] theorem su_stop : stepU C .stop d K st = False := rfl

@[go_sem] theorem slcK_l (sz xs lo hi) : slcK (some sz) (.p (.l xs)) lo hi d K st = ((∀ r ∈ xs, r.length = sz) ∧ bndK lo hi xs.length fun a b => K (st.put d (.p (.l ((xs.drop a).take (b - a)))))) := rfl
@[go_sem] theorem slcK_s (x lo hi) : slcK none (.p (.s x)) lo hi d K st = (bndK lo hi x.length fun a b => K (st.put d (.p (.s ((x.drop a).take (b - a)))))) := rfl
@[go_sem] theorem slcK_nl (sz lo hi) : slcK (some sz) (.p .nl) lo hi d K st = (bndK lo hi 0 fun _ _ => K (st.put d (.p .nl))) := rfl
@[go_sem] theorem slcK_gs (sz i v o n lo hi) : slcK (some sz) (.gs i v o n) lo hi d K ⟨L, T, H⟩ = slcR sz i v o n lo hi d K ⟨L, T, H⟩ H[i]? := rfl
@[go_sem] theorem slcR_some (sz i v o n lo hi sz' v' rs) : slcR sz i v o n lo hi d K st (some (.rows sz' v' rs)) = (sz' = sz ∧ v' = v ∧ bndK lo hi n fun a b => K (st.put d (.gs i v (o + a) (b - a)))) := rfl
@[go_sem] theorem bndK_nn (n) (R : Nat → Nat → Prop) : bndK none none n R = R 0 n := rfl
@[go_sem] theorem bndK_sn (k a n) (R : Nat → Nat → Prop) : bndK (some (.p (.i k a))) none n R = (0 ≤ a ∧ a ≤ (n : Int) ∧ R a.toNat n) := rfl
@[go_sem] theorem bndK_ns (k b n) (R : Nat → Nat → Prop) : bndK none (some (.p (.i k b))) n R = (0 ≤ b ∧ b ≤ (n : Int) ∧ R 0 b.toNat) := rfl
@[go_sem] theorem bndK_ss (k a k' b n) (R : Nat → Nat → Prop) : bndK (some (.p (.i k a))) (some (.p (.i k' b))) n R = (0 ≤ a ∧ a ≤ b ∧ b ≤ (n : Int) ∧ R a.toNat b.toNat) := rfl
@[go_sem] theorem appK_eq (sz b x y) : appK sz b x y d K ⟨L, T, H⟩ = appY sz b x (srcRows H sz y) d K ⟨L, T, H⟩ := rfl
@[go_sem] theorem appY_some (sz b x ys) : appY sz b x (some ys) d K st = ((∀ r ∈ ys, r.length = sz) ∧ appX sz b x ys d K st) := rfl
@[go_sem] theorem appX_nl (sz b ys) : appX sz b (.p .nl) ys d K ⟨L, T, H⟩ = (ys.length * b ≤ 140737488355328 ∧ ys.length ≤ 140737488355328 ∧ K (St.put ⟨L, T, H ++ [.rows sz 0 ys]⟩ d (.gs H.length 0 0 ys.length))) := rfl
@[go_sem] theorem appX_gs (sz b i v o n ys) : appX sz b (.gs i v o n) ys d K ⟨L, T, H⟩ = appR sz b i v o n ys d K ⟨L, T, H⟩ H[i]? := rfl
@[go_sem] theorem appR_some (sz b i v o n ys sz' v' rs) : appR sz b i v o n ys d K ⟨L, T, H⟩ (some (.rows sz' v' rs)) = (sz' = sz ∧ v' = v ∧ o = 0 ∧ n ≤ rs.length ∧ (n + ys.length) * b ≤ 140737488355328 ∧ n + ys.length ≤ 140737488355328 ∧
    K (St.put ⟨L, T, H.set i (.rows sz (v + 1) (rs.take n ++ ys))⟩ d (.gs i (v + 1) 0 (n + ys.length)))) := rfl
@[go_sem] theorem srcRows_l (sz ys) : srcRows H sz (.p (.l ys)) = some (ys.map (·.map .p)) := rfl
@[go_sem] theorem srcRows_nl (sz) : srcRows H sz (.p .nl) = some [] := rfl
@[go_sem] theorem srcRows_s (x) : srcRows H 1 (.p (.s x)) = some (bytesRows x) := rfl
@[go_sem] theorem srcRows_gs (sz i v o n) : srcRows H sz (.gs i v o n) = srcR sz v o n H[i]? := rfl
@[go_sem] theorem srcR_some (sz v o n sz' v' rs) : srcR sz v o n (some (.rows sz' v' rs)) = if sz' = sz ∧ v' = v ∧ o + n ≤ rs.length then some ((rs.drop o).take n) else none := rfl
@[go_sem] theorem b2sV_l (ys) : b2sV H (.p (.l ys)) = b2sR (srcRows H 1 (.p (.l ys))) := rfl
@[go_sem] theorem b2sV_nl : b2sV H (.p .nl) = some (.p (.s [])) := rfl
@[go_sem] theorem b2sV_gs (i v o n) : b2sV H (.gs i v o n) = b2sR (srcRows H 1 (.gs i v o n)) := rfl
@[go_sem] theorem b2sR_some (ys) : b2sR (some ys) = if ys.length ≤ 140737488355328 then (bytesOf ys).map fun l => .p (.s l) else none := rfl
@[go_sem] theorem mksK_eq (sz b z l c) : mksK sz b z (.p (.i .i64 l)) (.p (.i .i64 c)) d K ⟨L, T, H⟩ = (0 ≤ l ∧ l ≤ c ∧ c * b ≤ 140737488355328 ∧ c ≤ 140737488355328 ∧
      K (St.put ⟨L, T, H ++ [.rows sz 0 (List.replicate l.toNat z)]⟩ d (.gs H.length 0 0 l.toNat))) := rfl
@[go_sem] theorem ixsK_l (sz xs k n) : ixsK sz (.p (.l xs)) (.p (.i k n)) d K st = (0 ≤ n ∧ ∃ r, xs[n.toNat]? = some r ∧ r.length = sz ∧ K (st.put d (.ip r))) := rfl
def ixsR (sz id ver off : Nat) (n : Int) (d : MD) (K : St → Prop) (st : St) : Option AO → Prop
  | some (.rows sz' ver' rs) => sz' = sz ∧ ver' = ver ∧ K (st.put d (.ep id ver (off + n.toNat) 0))
  | _ => False
@[go_sem] theorem ixsR_some (sz i v o n sz' v' rs) : ixsR sz i v o n d K st (some (.rows sz' v' rs)) = (sz' = sz ∧ v' = v ∧ K (st.put d (.ep i v (o + n.toNat) 0))) := rfl
@[go_sem] theorem ixsK_gs (sz i v o m k n) : ixsK sz (.gs i v o m) (.p (.i k n)) d K ⟨L, T, H⟩ = (0 ≤ n ∧ n < (m : Int) ∧ ixsR sz i v o n d K ⟨L, T, H⟩ H[i]?) := by
  simp only [ixsK]
  cases H[i]? with
  | none => rfl
  | some o => cases o <;> rfl
@[go_sem] theorem ixaK_ptr (len sz i o k n) : ixaK len sz (.ptr i o) (.p (.i k n)) d K st = (0 ≤ n ∧ n < (len : Int) ∧ K (st.put d (.ptr i (o + n.toNat * sz)))) := rfl
@[go_sem] theorem ixtK_s (x k n) : ixtK (.p (.s x)) (.p (.i k n)) d K st = (0 ≤ n ∧ ∃ c, x[n.toNat]? = some c ∧ K (st.put d (.p (.i .u8 c.toNat)))) := rfl
@[go_sem] theorem buildV_eq (z ps) : buildV st z ps = (partsV st ps z).map .st := rfl
@[go_sem] theorem partsV_nil (z) : partsV st [] z = some z := rfl
@[go_sem] theorem partsV_cons (o n x ps z) : partsV st ((o, n, x) :: ps) z = if (st.get x).allOne && (st.get x).cells.length == n then (splice z o (st.get x).cells).bind (partsV st ps) else none := rfl
@[go_sem] theorem rowsV_nil (sz rs) : rowsV st sz [] rs = some rs := rfl
@[go_sem] theorem rowsV_cons (sz i x ps rs) : rowsV st sz ((i, x) :: ps) rs = if (st.get x).allOne && (st.get x).cells.length == sz && decide (i < rs.length) then rowsV st sz ps (rs.set i (st.get x).cells) else none := rfl
@[go_sem] theorem lenK_l (xs) : lenK false (.p (.l xs)) d K st = (xs.length ≤ maxL → K (st.put d (.p (.i .i64 xs.length)))) := rfl
@[go_sem] theorem lenK_nl : lenK false (.p .nl) d K st = K (st.put d (.p (.i .i64 0))) := rfl
@[go_sem] theorem lenK_s (x) : lenK true (.p (.s x)) d K st = (x.length ≤ maxL → K (st.put d (.p (.i .i64 x.length)))) := rfl
@[go_sem] theorem lenK_gs (i v o n) : lenK false (.gs i v o n) d K st = (n ≤ maxL → K (st.put d (.p (.i .i64 n)))) := rfl

@[go_sem] theorem bk_add (k a b) : binK .add (.p (.i k a)) (.p (.i k b)) d K st = K (st.put d (.p (.i k (wr k (a + b))))) := by simp [binK, ebin, iarith, withV]
@[go_sem] theorem bk_sub (k a b) : binK .sub (.p (.i k a)) (.p (.i k b)) d K st = K (st.put d (.p (.i k (wr k (a - b))))) := by simp [binK, ebin, iarith, withV]
@[go_sem] theorem bk_mul (k a b) : binK .mul (.p (.i k a)) (.p (.i k b)) d K st = K (st.put d (.p (.i k (wr k (a * b))))) := by simp [binK, ebin, iarith, withV]
@[go_sem] theorem bk_and (k a b) : binK .and (.p (.i k a)) (.p (.i k b)) d K st = K (st.put d (.p (.i k (ibits .and k a b)))) := by simp [binK, ebin, iarith, withV]
@[go_sem] theorem bk_or (k a b) : binK .or (.p (.i k a)) (.p (.i k b)) d K st = K (st.put d (.p (.i k (ibits .or k a b)))) := by simp [binK, ebin, iarith, withV]
@[go_sem] theorem bk_xor (k a b) : binK .xor (.p (.i k a)) (.p (.i k b)) d K st = K (st.put d (.p (.i k (ibits .xor k a b)))) := by simp [binK, ebin, iarith, withV]
@[go_sem] theorem bk_andNot (k a b) : binK .andNot (.p (.i k a)) (.p (.i k b)) d K st = K (st.put d (.p (.i k (ibits .andNot k a b)))) := by simp [binK, ebin, iarith, withV]
@[go_sem] theorem bk_eql (k a b) : binK .eql (.p (.i k a)) (.p (.i k b)) d K st = K (st.put d (.p (.b (decide (a = b))))) := by simp [binK, ebin, iarith, bcmp, withV]
@[go_sem] theorem bk_neq (k a b) : binK .neq (.p (.i k a)) (.p (.i k b)) d K st = K (st.put d (.p (.b (!decide (a = b))))) := by simp [binK, ebin, iarith, bcmp, withV]
@[go_sem] theorem bk_lss (k a b) : binK .lss (.p (.i k a)) (.p (.i k b)) d K st = K (st.put d (.p (.b (decide (a < b))))) := by simp [binK, ebin, iarith, bcmp, withV]
@[go_sem] theorem bk_leq (k a b) : binK .leq (.p (.i k a)) (.p (.i k b)) d K st = K (st.put d (.p (.b (decide (a ≤ b))))) := by simp [binK, ebin, iarith, bcmp, withV]
@[go_sem] theorem bk_gtr (k a b) : binK .gtr (.p (.i k a)) (.p (.i k b)) d K st = K (st.put d (.p (.b (decide (b < a))))) := by simp [binK, ebin, iarith, bcmp, withV]
@[go_sem] theorem bk_geq (k a b) : binK .geq (.p (.i k a)) (.p (.i k b)) d K st = K (st.put d (.p (.b (decide (b ≤ a))))) := by simp [binK, ebin, iarith, bcmp, withV]
@[go_sem] theorem bk_quo (k a b) : binK .quo (.p (.i k a)) (.p (.i k b)) d K st = (b ≠ 0 ∧ K (st.put d (.p (.i k (wr k (a.tdiv b)))))) := by simp [binK, bin2K, ebin, iarith, bcmp]
@[go_sem] theorem bk_rem (k a b) : binK .rem (.p (.i k a)) (.p (.i k b)) d K st = (b ≠ 0 ∧ K (st.put d (.p (.i k (a.tmod b))))) := by simp [binK, bin2K, ebin, iarith, bcmp]
@[go_sem] theorem bk_shl (k k' a b) : binK .shl (.p (.i k a)) (.p (.i k' b)) d K st = (0 ≤ b ∧ K (st.put d (.p (.i k (wr k (a * 2 ^ min b.toNat k.bits)))))) := by
  by_cases h : k = k' <;> simp [binK, bin2K, ebin, iarith, h]
@[go_sem] theorem bk_shr (k k' a b) : binK .shr (.p (.i k a)) (.p (.i k' b)) d K st = (0 ≤ b ∧ K (st.put d (.p (.i k (a.fdiv (2 ^ min b.toNat k.bits)))))) := by
  by_cases h : k = k' <;> simp [binK, bin2K, ebin, iarith, h]
@[go_sem] theorem bk_cat (a b) : binK .add (.p (.s a)) (.p (.s b)) d K st = (a.length + b.length ≤ maxL ∧ K (st.put d (.p (.s (a ++ b))))) := rfl
@[go_sem] theorem bk_seql (a b) : binK .eql (.p (.s a)) (.p (.s b)) d K st = K (st.put d (.p (.b (decide (a = b))))) := by simp [binK, ebin, seqs, withV]
@[go_sem] theorem bk_sneq (a b) : binK .neq (.p (.s a)) (.p (.s b)) d K st = K (st.put d (.p (.b (!decide (a = b))))) := by simp [binK, ebin, seqs, withV]
@[go_sem] theorem bk_slss (a b) : binK .lss (.p (.s a)) (.p (.s b)) d K st = K (st.put d (.p (.b (slt a b)))) := by simp [binK, ebin, seqs, withV]
@[go_sem] theorem bk_sleq (a b) : binK .leq (.p (.s a)) (.p (.s b)) d K st = K (st.put d (.p (.b (slt a b || decide (a = b))))) := by simp [binK, ebin, seqs, withV]
@[go_sem] theorem bk_sgtr (a b) : binK .gtr (.p (.s a)) (.p (.s b)) d K st = K (st.put d (.p (.b (!(slt a b || decide (a = b)))))) := by simp [binK, ebin, seqs, withV]
@[go_sem] theorem bk_sgeq (a b) : binK .geq (.p (.s a)) (.p (.s b)) d K st = K (st.put d (.p (.b (!slt a b)))) := by simp [binK, ebin, seqs, withV]

@[go_sem] theorem eun_not (a) : eun .not (.p (.b a)) = some (.p (.b (!a))) := rfl
@[go_sem] theorem eun_neg (k a) : eun .neg (.p (.i k a)) = some (.p (.i k (wr k (0 - a)))) := rfl
@[go_sem] theorem pickV_b (c x y) : pickV (.p (.b c)) x y = some (if c then x else y) := rfl
@[go_sem] theorem beqV_f (a b) : beqV false (.p (.b a)) (.p (.b b)) = some (.p (.b (a == b))) := rfl
@[go_sem] theorem beqV_t (a b) : beqV true (.p (.b a)) (.p (.b b)) = some (.p (.b (!(a == b)))) := rfl
@[go_sem] theorem mnxV_max (k a b) : mnxV true (.p (.i k a)) (.p (.i k b)) = some (.p (.i k (if b > a then b else a))) := by simp [mnxV]
@[go_sem] theorem mnxV_min (k a b) : mnxV false (.p (.i k a)) (.p (.i k b)) = some (.p (.i k (if b < a then b else a))) := by simp [mnxV]
@[go_sem] theorem convV_i (k k' a) : convV k (.p (.i k' a)) = some (.p (.i k (wr k a))) := rfl
@[go_sem] theorem extV_tup (n vs) : extV n (.tup vs) = vs[n]? := rfl
@[go_sem] theorem nilcV_ptr (i o) : nilcV (.ptr i o) = some (.ptr i o) := rfl
@[go_sem] theorem nilcV_ep (i v r c) : nilcV (.ep i v r c) = some (.ep i v r c) := rfl
@[go_sem] theorem nilcV_clo (f c) : nilcV (.clo f c) = some (.clo f c) := rfl
@[go_sem] theorem fadV_ptr (n i o) : fadV n (.ptr i o) = some (.ptr i (o + n)) := rfl
@[go_sem] theorem fadV_ep (n i v r c) : fadV n (.ep i v r c) = some (.ep i v r (c + n)) := rfl
@[go_sem] theorem fadV_ip (n r) : fadV n (.ip r) = some (.ip (r.drop n)) := rfl

@[go_sem] theorem ldV_one (n c cs) : ldV false n (some (c :: cs)) = some c := rfl
@[go_sem] theorem ldV_agg (n cs) : ldV true n (some cs) = (takeN n cs).map .st := rfl
@[go_sem] theorem takeN_zero (cs) : takeN 0 cs = some [] := rfl
@[go_sem] theorem takeN_succ (n c cs) : takeN (n + 1) (c :: cs) = (takeN n cs).map (c :: ·) := rfl
@[go_sem] theorem ldAt_ip (row) : ldAt H (.ip row) = some (row.map .p) := rfl
def varDrop (off : Nat) : Option AO → Option (List AV)
  | some (.var cs) => some (cs.drop off)
  | _ => none
@[go_sem] theorem varDrop_some (off cs) : varDrop off (some (.var cs)) = some (cs.drop off) := rfl
@[go_sem] theorem ldAt_ptr (i o) : ldAt H (.ptr i o) = varDrop o H[i]? := by
  simp only [ldAt]; cases H[i]? with
  | none => rfl
  | some o => cases o <;> rfl
def rowDrop (ver row col : Nat) : Option AO → Option (List AV)
  | some (.rows _ ver' rs) => if ver = ver' then (rs[row]?).map (·.drop col) else none
  | _ => none
@[go_sem] theorem rowDrop_some (ver row col sz v rs) : rowDrop ver row col (some (.rows sz v rs)) = if ver = v then (rs[row]?).map (·.drop col) else none := rfl
@[go_sem] theorem ldAt_ep (i v r c) : ldAt H (.ep i v r c) = rowDrop v r c H[i]? := by
  simp only [ldAt]; cases H[i]? with
  | none => rfl
  | some o => cases o <;> rfl
@[go_sem] theorem splice_nil (cs o) : splice cs o [] = some cs := by cases o <;> cases cs <;> rfl
@[go_sem] theorem splice_zero (c cs u us) : splice (c :: cs) 0 (u :: us) = (splice cs 0 us).map (u :: ·) := rfl
@[go_sem] theorem splice_succ (c cs o u us) : splice (c :: cs) (o + 1) (u :: us) = (splice cs o (u :: us)).map (c :: ·) := rfl
@[go_sem] theorem cells_st (cs) : AV.cells (.st cs) = cs := rfl
@[go_sem] theorem cells_p (x) : AV.cells (.p x) = [.p x] := rfl
@[go_sem] theorem cells_ptr (i o) : AV.cells (.ptr i o) = [.ptr i o] := rfl
@[go_sem] theorem cells_gs (i v o n) : AV.cells (.gs i v o n) = [.gs i v o n] := rfl
@[go_sem] theorem cells_clo (f c) : AV.cells (.clo f c) = [.clo f c] := rfl
@[go_sem] theorem allOne_st (cs) : AV.allOne (.st cs) = true := rfl
@[go_sem] theorem allOne_p (x) : AV.allOne (.p x) = true := rfl
@[go_sem] theorem allOne_ptr (i o) : AV.allOne (.ptr i o) = true := rfl
@[go_sem] theorem allOne_gs (i v o n) : AV.allOne (.gs i v o n) = true := rfl
@[go_sem] theorem allOne_clo (f c) : AV.allOne (.clo f c) = true := rfl
def stoV (H : List AO) (off id : Nat) (us : List AV) : Option AO → Option (List AO)
  | some (.var cs) => (splice cs off us).map fun cs' => H.set id (.var cs')
  | _ => none
@[go_sem] theorem stoV_some (off id us cs) : stoV H off id us (some (.var cs)) = (splice cs off us).map fun cs' => H.set id (.var cs') := rfl
@[go_sem] theorem stoH_ptr (n i o v) : stoH H n (.ptr i o) v = if v.allOne && v.cells.length == n then stoV H o i v.cells H[i]? else none := by
  simp only [stoH]
  split
  · cases H[i]? with
    | none => rfl
    | some o => cases o <;> rfl
  · rfl
def stoR (H : List AO) (id ver row col : Nat) (us : List AV) : Option AO → Option (List AO)
  | some (.rows sz ver' rs) => if ver = ver' then
      match rs[row]? with
      | some r => (splice r col us).map fun r' => H.set id (.rows sz ver' (rs.set row r'))
      | none => none
    else none
  | _ => none
@[go_sem] theorem stoH_ep (n i ver r c v) : stoH H n (.ep i ver r c) v = if v.allOne && v.cells.length == n then stoR H i ver r c v.cells H[i]? else none := by
  simp only [stoH]
  split
  · cases H[i]? with
    | none => rfl
    | some o => cases o <;> rfl
  · rfl

@[go_sem] theorem finK_nm (rs) (R : AV → List AO → Prop) : finK rs R .nm st = retK rs R st := rfl
@[go_sem] theorem finK_rt (rs) (R : AV → List AO → Prop) : finK rs R .rt st = retK rs R st := rfl
def outK (R : AV → List AO → Prop) (v : Option AV) (H : List AO) : Prop :=
  match v with
  | some v => R v H
  | none => False
@[go_sem] theorem outK_some (R : AV → List AO → Prop) (v H) : outK R (some v) H = R v H := rfl
@[go_sem] theorem retK_eq (rs) (R : AV → List AO → Prop) : retK rs R ⟨L, T, H⟩ = outK R (retV ⟨L, T, H⟩ rs) H := by
  simp only [retK]; cases retV ⟨L, T, H⟩ rs <;> rfl
@[go_sem] theorem retV_one (r) : retV st [r] = resV st r := rfl
@[go_sem] theorem retV_zero : retV st [] = some (.tup []) := rfl
@[go_sem] theorem retV_two (r r' rs) : retV st (r :: r' :: rs) = (resVs st (r :: r' :: rs)).map .tup := rfl
def consO : Option AV → Option (List AV) → Option (List AV)
  | some v, some vs => some (v :: vs)
  | _, _ => none
@[go_sem] theorem consO_some (v vs) : consO (some v) (some vs) = some (v :: vs) := rfl
@[go_sem] theorem resVs_nil : resVs st [] = some [] := rfl
@[go_sem] theorem resVs_cons (r rs) : resVs st (r :: rs) = consO (resV st r) (resVs st rs) := by
  simp only [resVs]; cases resV st r <;> cases resVs st rs <;> rfl
@[go_sem] theorem resV_t (n) : resV ⟨L, T, H⟩ (.t n) = some (eget L n) := rfl
def cellV (H : List AO) (agg : Bool) (n : Nat) : AV → Option AV
  | .ptr id o => ldV agg n (ldAt H (.ptr id o))
  | _ => none
@[go_sem] theorem cellV_ptr (g n i o) : cellV H g n (.ptr i o) = ldV g n (ldAt H (.ptr i o)) := rfl
@[go_sem] theorem resV_cell (g n a) : resV ⟨L, T, H⟩ (.cell g n a) = cellV H g n (eget L a) := by
  simp only [resV, cellV]
  split <;> rename_i h <;> simp [h]
attribute [go_sem] Option.map_some List.drop_zero List.drop_succ_cons List.length_cons List.length_nil List.getElem?_cons_zero List.getElem?_cons_succ List.set_cons_zero List.set_cons_succ List.append_nil List.nil_append List.cons_append List.map_cons List.map_nil List.head?_cons

/-- a test that is not decided -/
theorem condK_split (t : Bool) (h1 : t = true → A st) (h2 : t = false → B st) : condK (.p (.b t)) A B st := by
  cases t
  · exact ⟨(fun h => by cases h), fun _ => h2 rfl⟩
  · exact ⟨fun _ => h1 rfl, fun h => (h rfl).elim⟩
end Go.AM

/- Memory: how the states' relation is kept by a new object, by a write, by an append. -/
set_option linter.all false
namespace Go.AM

/-- what memory looks like where blocks are only added -/
theorem cell_old {w : World} {b o : Nat} {v : Value} (h : w.cell? ⟨b, o, none⟩ = some v) : b < w.heap.size := World.block_lt_of_cell? w _ h

theorem SR.lt {θ : Th} {W : Im} {H : List AO} {w : World} (h : SR θ W H w) {b o : Nat} {v : Value} (hw : W b o = some v) : b < w.heap.size := cell_old (h.imm b o v hw)

/-- an owned place belongs to an object that is alive -/
theorem SR.ownedLt {θ : Th} {W : Im} {H : List AO} {w : World} (h : SR θ W H w) {id ver b sz tot : Nat} (ho : θ id ver = .at b sz tot) : b < w.heap.size := by
  have hid : id < H.length := by
    rcases Nat.lt_or_ge id H.length with h' | h'
    · exact h'
    · rw [h.out id ver h'] at ho; cases ho
  have hg : H[id]? = some H[id] := by simp [hid]
  have := h.obj id _ hg
  cases e : H[id] with
  | dead => rw [e] at this; rcases this ver with h' | h' <;> rw [h'] at ho <;> cases ho
  | rsv => rw [e] at this; rw [this ver] at ho; cases ho
  | var cs =>
    rw [e] at this
    obtain ⟨⟨b', sz', tot', ty, vs, h1, h2, _⟩, h3⟩ := this
    rcases Nat.eq_zero_or_pos ver with rfl | hv
    · rw [h1] at ho; cases ho; exact (Array.getElem?_eq_some_iff.1 h2).1
    · rw [h3 ver hv] at ho; cases ho
  | rows sz' ver' rs =>
    rw [e] at this
    obtain ⟨h1, h2, h3⟩ := this
    rcases Nat.lt_trichotomy ver ver' with hv | rfl | hv
    · rw [h3 ver hv] at ho; cases ho
    · rcases h1 with ⟨h1, _⟩ | ⟨b', tot', ty, vs, h1, h4, _⟩
      · rw [h1] at ho; cases ho
      · rw [h1] at ho; cases ho; exact (Array.getElem?_eq_some_iff.1 h4).1
    · rw [h2 ver hv] at ho; cases ho

/-- an object's relation is kept where its block stays and the relations of values are kept -/
theorem OR.mono {θ θ' : Th} {W W' : Im} {w w' : World} {id : Nat} {o : AO} (h : OR θ W w id o)
    (hid : ∀ ver, θ' id ver = θ id ver) (hb : ∀ ver b sz tot, θ id ver = .at b sz tot → w'.heap[b]? = w.heap[b]?)
    (hr : ∀ x v, ARel θ W x v → ARel θ' W' x v) : OR θ' W' w' id o := by
  cases o with
  | dead => exact fun ver => by rw [hid]; exact h ver
  | rsv => exact fun ver => by rw [hid]; exact h ver
  | var cs =>
    obtain ⟨⟨b, sz, tot, ty, vs, h1, h2, h3, h4, h5⟩, h6⟩ := h
    exact ⟨⟨b, sz, tot, ty, vs, by rw [hid]; exact h1, by rw [hb 0 b sz tot h1]; exact h2, h3, fun j c v hj hv => hr _ _ (h4 j c v hj hv), h5⟩, fun ver hv => by rw [hid]; exact h6 ver hv⟩
  | rows sz ver rs =>
    obtain ⟨h1, h2, h3⟩ := h
    refine ⟨?_, fun v hv => by rw [hid]; exact h2 v hv, fun v hv => by rw [hid]; exact h3 v hv⟩
    rcases h1 with ⟨h1, h4⟩ | ⟨b, tot, ty, vs, h1, h4, h5, h6, h7, h8, h9⟩
    · exact .inl ⟨by rw [hid]; exact h1, h4⟩
    · exact .inr ⟨b, tot, ty, vs, by rw [hid]; exact h1, by rw [hb ver b sz tot h1]; exact h4, h5, h6, h7, fun i r j c v hi hj hv => hr _ _ (h8 i r j c v hi hj hv), h9⟩

/-- one place of the map of places turned -/
def thSet (θ : Th) (id ver : Nat) (pl : Pl) : Th := fun i v => if i = id ∧ v = ver then pl else θ i v
theorem thSet_same (θ : Th) (id ver : Nat) (pl : Pl) : thSet θ id ver pl id ver = pl := by simp [thSet]
theorem thSet_other {θ : Th} {id ver : Nat} {pl : Pl} {i v : Nat} (h : ¬ (i = id ∧ v = ver)) : thSet θ id ver pl i v = θ i v := by simp [thSet, h]

/-- A NEW OBJECT. -/
theorem SR.push {θ : Th} {W : Im} {H : List AO} {w w' : World} (h : SR θ W H w) (o : AO) (pl : Pl)
    (hos : w'.os = w.os) (htp : w'.tape = w.tape) (hou : w'.output = w.output) (hsz : w.heap.size ≤ w'.heap.size)
    (hold : ∀ b, b < w.heap.size → w'.heap[b]? = w.heap[b]?)
    (hpl : ∀ b sz tot, pl = .at b sz tot → b = w.heap.size)
    (hno : pl ≠ .no)
    (ho : (∀ x v, ARel θ W x v → ARel (thSet θ H.length 0 pl) W x v) → OR (thSet θ H.length 0 pl) W w' H.length o) :
    SR (thSet θ H.length 0 pl) W (H ++ [o]) w' ∧ Stp θ W w (thSet θ H.length 0 pl) W w' := by
  have hθ : ∀ id ver, θ id ver ≠ .no → thSet θ H.length 0 pl id ver = θ id ver := by
    intro id ver hn
    refine thSet_other fun ⟨e, _⟩ => hn ?_
    exact h.out id ver (by omega)
  have hr : ∀ x v, ARel θ W x v → ARel (thSet θ H.length 0 pl) W x v := fun x v hx => hx.mono (fun _ _ _ h => h) (fun id ver hn => .inl (hθ id ver hn))
  have hown : ∀ b, Owned (thSet θ H.length 0 pl) b → Owned θ b ∨ w.heap.size = b := by
    rintro b ⟨id, ver, sz, tot, hb⟩
    by_cases e : id = H.length ∧ ver = 0
    · obtain ⟨rfl, rfl⟩ := e
      rw [thSet_same] at hb
      exact .inr (hpl b sz tot hb).symm
    · rw [thSet_other e] at hb
      exact .inl ⟨id, ver, sz, tot, hb⟩
  refine ⟨⟨?_, ?_, ?_, ?_, ?_⟩, ⟨hos, htp, hou, hsz, fun b hb _ => hold b hb, fun _ _ _ h => h, fun _ _ _ _ => rfl, fun id ver hn => .inl (hθ id ver hn), fun b hb => (hown b hb).imp id (fun e => by omega)⟩⟩
  · intro b o' v hv
    have hb := h.imm b o' v hv
    rw [← hb]
    exact World.cell?_of_block (hold b (cell_old hb))
  · intro id o' hid
    rcases Nat.lt_trichotomy id H.length with hlt | heq | hgt
    · rw [List.getElem?_append_left hlt] at hid
      refine (h.obj id o' hid).mono (fun ver => thSet_other (by omega)) (fun ver b sz tot hb => hold b (h.ownedLt hb)) hr
    · subst heq
      rw [List.getElem?_append_right (Nat.le_refl _)] at hid
      simp at hid
      subst hid
      exact ho hr
    · rw [List.getElem?_eq_none (by simp; omega)] at hid; cases hid
  · intro id ver hid
    simp at hid
    rw [thSet_other (by omega)]
    exact h.out id ver (by omega)
  · intro b hb o'
    rcases hown b hb with hb | hb
    · exact h.own b hb o'
    · cases e : W b o' with
      | none => rfl
      | some v => have := h.lt e; omega
  · intro b id ver sz tot id' ver' sz' tot' h1 h2
    by_cases e : id = H.length ∧ ver = 0 <;> by_cases e' : id' = H.length ∧ ver' = 0
    · exact ⟨by omega, by omega⟩
    · obtain ⟨rfl, rfl⟩ := e
      rw [thSet_same] at h1
      rw [thSet_other e'] at h2
      have := hpl _ _ _ h1
      have := h.ownedLt h2
      omega
    · obtain ⟨rfl, rfl⟩ := e'
      rw [thSet_same] at h2
      rw [thSet_other e] at h1
      have := hpl _ _ _ h2
      have := h.ownedLt h1
      omega
    · rw [thSet_other e] at h1
      rw [thSet_other e'] at h2
      exact h.inj b _ _ _ _ _ _ _ _ h1 h2

/-- AN OBJECT's CONTENT TURNED in its own block. -/
theorem SR.write {θ : Th} {W : Im} {H : List AO} {w w' : World} (h : SR θ W H w) (id ver b sz tot : Nat) (o : AO) (hid : id < H.length) (hb : θ id ver = .at b sz tot)
    (hos : w'.os = w.os) (htp : w'.tape = w.tape) (hou : w'.output = w.output) (hsz : w'.heap.size = w.heap.size)
    (hold : ∀ k, k ≠ b → w'.heap[k]? = w.heap[k]?) (ho : OR θ W w' id o) :
    SR θ W (H.set id o) w' ∧ Stp θ W w θ W w' := by
  refine ⟨⟨?_, ?_, ?_, h.own, h.inj⟩, ⟨hos, htp, hou, by omega, fun k _ hk => hold k (fun e => hk (e ▸ ⟨id, ver, sz, tot, hb⟩)), fun _ _ _ h => h, fun _ _ _ _ => rfl, fun _ _ _ => .inl rfl, fun _ h => .inl h⟩⟩
  · intro k o' v hv
    rw [← h.imm k o' v hv]
    refine World.cell?_of_block (hold k fun e => ?_)
    have := h.own b ⟨id, ver, sz, tot, hb⟩ o'
    subst e
    rw [this] at hv
    cases hv
  · intro i o' hi
    by_cases e : i = id
    · subst e
      rw [List.getElem?_set_self hid] at hi
      cases hi
      exact ho
    · rw [List.getElem?_set_ne (Ne.symm e)] at hi
      refine (h.obj i o' hi).mono (fun _ => rfl) (fun v k s t hk => hold k ?_) (fun _ _ h => h)
      rintro rfl
      exact e (h.inj _ _ _ _ _ _ _ _ _ hk hb).1
  · intro i v hi
    simp at hi
    exact h.out i v hi

/-- ROWS THAT GROW: a new version of them, in the old block or in a new one. -/
theorem SR.grow {θ : Th} {W : Im} {H : List AO} {w w' : World} (h : SR θ W H w) (id ver : Nat) (o : AO) (pl : Pl) (hid : id < H.length)
    (hcur : θ id ver ≠ .no) (hnext : θ id (ver + 1) = .no)
    (hos : w'.os = w.os) (htp : w'.tape = w.tape) (hou : w'.output = w.output) (hsz : w.heap.size ≤ w'.heap.size)
    (hold : ∀ k, k < w.heap.size → (∀ sz tot, θ id ver ≠ .at k sz tot) → w'.heap[k]? = w.heap[k]?)
    (hpl : ∀ b sz tot, pl = .at b sz tot → (∃ sz' tot', θ id ver = .at b sz' tot') ∨ w.heap.size = b)
    (ho : (∀ x v, ARel θ W x v → ARel (thSet (thSet θ id ver .dead) id (ver + 1) pl) W x v) → OR (thSet (thSet θ id ver .dead) id (ver + 1) pl) W w' id o) :
    SR (thSet (thSet θ id ver .dead) id (ver + 1) pl) W (H.set id o) w' ∧ Stp θ W w (thSet (thSet θ id ver .dead) id (ver + 1) pl) W w' := by
  have e1 : thSet (thSet θ id ver .dead) id (ver + 1) pl id (ver + 1) = pl := thSet_same _ _ _ _
  have e2 : thSet (thSet θ id ver .dead) id (ver + 1) pl id ver = .dead := by rw [thSet_other (by omega), thSet_same]
  have e3 : ∀ i v, ¬ (i = id ∧ v = ver) → ¬ (i = id ∧ v = ver + 1) → thSet (thSet θ id ver .dead) id (ver + 1) pl i v = θ i v := fun i v a b => by
    rw [thSet_other b, thSet_other a]
  have hθ : ∀ i v, θ i v ≠ .no → thSet (thSet θ id ver .dead) id (ver + 1) pl i v = θ i v ∨ thSet (thSet θ id ver .dead) id (ver + 1) pl i v = .dead := by
    intro i v hn
    by_cases a : i = id ∧ v = ver
    · obtain ⟨rfl, rfl⟩ := a; exact .inr e2
    · by_cases b : i = id ∧ v = ver + 1
      · obtain ⟨rfl, rfl⟩ := b; exact (hn hnext).elim
      · exact .inl (e3 i v a b)
  have hr : ∀ x v, ARel θ W x v → ARel (thSet (thSet θ id ver .dead) id (ver + 1) pl) W x v := fun x v hx => hx.mono (fun _ _ _ h => h) hθ
  have hown : ∀ b, Owned (thSet (thSet θ id ver .dead) id (ver + 1) pl) b → Owned θ b ∨ w.heap.size = b := by
    rintro b ⟨i, v, sz, tot, hb⟩
    by_cases a : i = id ∧ v = ver
    · obtain ⟨rfl, rfl⟩ := a; rw [e2] at hb; cases hb
    · by_cases c : i = id ∧ v = ver + 1
      · obtain ⟨rfl, rfl⟩ := c
        rw [e1] at hb
        rcases hpl b sz tot hb with ⟨sz', tot', h'⟩ | h'
        · exact .inl ⟨_, _, _, _, h'⟩
        · exact .inr h'
      · rw [e3 i v a c] at hb
        exact .inl ⟨i, v, sz, tot, hb⟩
  refine ⟨⟨?_, ?_, ?_, ?_, ?_⟩, ⟨hos, htp, hou, hsz, fun k hk hno => hold k hk (fun sz tot e => hno ⟨id, ver, sz, tot, e⟩), fun _ _ _ h => h, fun _ _ _ _ => rfl, hθ, fun b hb => (hown b hb).imp (fun a => a) (fun e => by omega)⟩⟩
  · intro k o' v hv
    have hc := h.imm k o' v hv
    rw [← hc]
    refine World.cell?_of_block (hold k (cell_old hc) fun sz tot e => ?_)
    have := h.own k ⟨id, ver, sz, tot, e⟩ o'
    rw [this] at hv
    cases hv
  · intro i o' hi
    by_cases e : i = id
    · subst e
      rw [List.getElem?_set_self hid] at hi
      cases hi
      exact ho hr
    · rw [List.getElem?_set_ne (Ne.symm e)] at hi
      refine (h.obj i o' hi).mono (fun v => e3 i v (by omega) (by omega)) (fun v k s t hk => hold k (h.ownedLt hk) fun sz tot e' => ?_) hr
      exact e (h.inj _ _ _ _ _ _ _ _ _ hk e').1
  · intro i v hi
    simp at hi
    rw [e3 i v (by omega) (by omega)]
    exact h.out i v hi
  · intro b hb o'
    rcases hown b hb with hb | hb
    · exact h.own b hb o'
    · cases e : W b o' with
      | none => rfl
      | some v => have := h.lt e; omega
  · intro b i v sz tot i' v' sz' tot' h1 h2
    have key : ∀ i v sz tot, thSet (thSet θ id ver .dead) id (ver + 1) pl i v = .at b sz tot →
        (i = id ∧ v = ver + 1 ∧ ((∃ s t, θ id ver = .at b s t) ∨ w.heap.size = b)) ∨ (¬ (i = id ∧ v = ver) ∧ ¬ (i = id ∧ v = ver + 1) ∧ θ i v = .at b sz tot) := by
      intro i v sz tot hh
      by_cases a : i = id ∧ v = ver
      · obtain ⟨rfl, rfl⟩ := a; rw [e2] at hh; cases hh
      · by_cases c : i = id ∧ v = ver + 1
        · obtain ⟨rfl, rfl⟩ := c; rw [e1] at hh; exact .inl ⟨rfl, rfl, hpl b sz tot hh⟩
        · rw [e3 i v a c] at hh; exact .inr ⟨a, c, hh⟩
    rcases key _ _ _ _ h1 with ⟨a1, a2, a3⟩ | ⟨a1, a2, a3⟩ <;> rcases key _ _ _ _ h2 with ⟨b1, b2, b3⟩ | ⟨b1, b2, b3⟩
    · exact ⟨by omega, by omega⟩
    · rcases a3 with ⟨s, t, a3⟩ | a3
      · have := h.inj _ _ _ _ _ _ _ _ _ a3 b3; omega
      · have := h.ownedLt b3; omega
    · rcases b3 with ⟨s, t, b3⟩ | b3
      · have := h.inj _ _ _ _ _ _ _ _ _ b3 a3; omega
      · have := h.ownedLt a3; omega
    · exact h.inj b _ _ _ _ _ _ _ _ a3 b3

end Go.AM

/- How the states of the abstract machine stand for the model's frames; what carries over at one operation. -/
set_option linter.all false
namespace Go.AM

structure Rl (lv : List Nat) (N : Nat) (st : St) (a : Act) (w : World) (θ : Th) (W : Im) : Prop where
  defers : a.defers = []
  size : a.tmps.size = N
  loc : ∀ t, lmem lv t = true → ARel θ W (eget st.L t) (a.tmps.getD t undef)
  tmp : ∀ t, lmem lv t = false → ARel θ W (eget st.T t) (a.tmps.getD t undef)
  mem : SR θ W st.H w

theorem eget_eset (L : En) (d : Nat) (v : AV) (t : Nat) : eget (eset L d v) t = if d = t then v else eget L t := by
  induction L with
  | nil => simp [eset, eget]
  | cons kv L ih =>
    obtain ⟨k, u⟩ := kv
    simp only [eset]
    by_cases hk : k = d
    · subst hk
      simp only [if_true, eget]
      split <;> rfl
    · simp only [hk, if_false, eget, ih]
      by_cases hkt : k = t
      · subst hkt
        simp [show ¬ d = k from fun e => hk e.symm]
      · simp [hkt]

theorem getD_set (a : Array Value) (d t : Nat) (v : Value) (hd : d < a.size) : (a.setIfInBounds d v).getD t undef = if d = t then v else a.getD t undef := by
  by_cases h : d = t
  · subst h; simp [Array.getD, hd]
  · simp only [h, if_false]
    by_cases ht : t < a.size
    · simp [Array.getD, ht, Array.getElem_setIfInBounds_ne, h]
    · simp [Array.getD, ht]

theorem Rl.put {lv : List Nat} {N : Nat} {st : St} {a : Act} {w w' : World} {θ θ' : Th} {W W' : Im} {H' : List AO} (h : Rl lv N st a w θ W)
    {d : Option Nat} (hd : d.all (decide <| · < N) = true) {r : AV} {v : Value} (hr : ARel θ' W' r v) (hm : SR θ' W' H' w') (hs : Stp θ W w θ' W' w') :
    Rl lv N (St.put ⟨st.L, st.T, H'⟩ (cDst lv d) r) (a.put d v) w' θ' W' := by
  cases d with
  | none => exact ⟨h.defers, h.size, fun t ht => (h.loc t ht).step hs, fun t ht => (h.tmp t ht).step hs, hm⟩
  | some d =>
    have hd' : d < a.tmps.size := by rw [h.size]; simpa using hd
    unfold cDst
    by_cases hl : lmem lv d = true
    · simp only [hl, if_true, St.put, Act.put]
      refine ⟨h.defers, by simpa using h.size, ?_, ?_, hm⟩
      · intro t ht
        rw [eget_eset, getD_set _ _ _ _ hd']
        split
        · exact hr
        · exact (h.loc t ht).step hs
      · intro t ht
        rw [getD_set _ _ _ _ hd', if_neg (fun e => by subst e; rw [hl] at ht; cases ht)]
        exact (h.tmp t ht).step hs
    · simp only [hl, Bool.false_eq_true, if_false, St.put, Act.put]
      refine ⟨h.defers, by simpa using h.size, ?_, ?_, hm⟩
      · intro t ht
        rw [getD_set _ _ _ _ hd', if_neg (fun e => by subst e; exact hl ht)]
        exact (h.loc t ht).step hs
      · intro t ht
        rw [eget_cons, getD_set _ _ _ _ hd']
        split
        · exact hr
        · exact (h.tmp t ht).step hs

/-! operands -/
theorem ofVal1_rel {v : Value} {x : AV} (h : ofVal1 v = some x) (θ : Th) (W : Im) : ARel θ W x v := by
  unfold ofVal1 at h
  split at h
  all_goals first
    | (cases h; exact .p _ _ (.b _))
    | (cases h; exact .p _ _ (.i _ _))
    | (cases h; exact .p _ _ .np)
    | (cases h; exact .p _ _ .nl)
    | (cases h; exact .p _ _ .nf)
    | (cases h; exact .p _ _ .nm)
    | (cases h; exact .p _ _ .ni)
    | (cases h; done)
    | skip
  · rename_i s
    split at h
    · cases h
      have : (Value.string s) = .string ⟨s.data.toList.toArray⟩ := by simp
      rw [this]
      exact .p _ _ (.s _ (by rename_i hl; rw [Array.length_toList]; exact hl))
    · cases h

theorem ofVal1_one {v : Value} {x : AV} (h : ofVal1 v = some x) : v.oneCell' = true := by
  unfold ofVal1 at h
  split at h <;> first | rfl | (cases h; done)

theorem ofVals1_rel {vs : List Value} {xs : List AV} (h : ofVals1 vs = some xs) (θ : Th) (W : Im) :
    vs.length = xs.length ∧ (∀ (j : Nat) (c : AV) (v : Value), xs[j]? = some c → vs[j]? = some v → ARel θ W c v) ∧ ∀ (j : Nat) (v : Value), vs[j]? = some v → v.oneCell' = true := by
  induction vs generalizing xs with
  | nil => cases h; exact ⟨rfl, fun j c v hj => by simp at hj, fun j v hj => by simp at hj⟩
  | cons v vs ih =>
    simp only [ofVals1] at h
    split at h
    · rename_i x l hx hl
      cases h
      obtain ⟨h1, h2, h3⟩ := ih hl
      refine ⟨by simp [h1], ?_, ?_⟩
      · intro j c u hj hv
        cases j with
        | zero => simp at hj hv; subst hj; subst hv; exact ofVal1_rel hx θ W
        | succ j => simp at hj hv; exact h2 j c u hj hv
      · intro j u hv
        cases j with
        | zero => simp at hv; subst hv; exact ofVal1_one hx
        | succ j => simp at hv; exact h3 j u hv
    · cases h

theorem ofVal_rel {v : Value} {x : AV} (h : ofVal v = some x) (θ : Th) (W : Im) : ARel θ W x v := by
  unfold ofVal at h
  split at h
  · rename_i cs
    cases hc : ofVals1 cs.toList with
    | none => rw [hc] at h; cases h
    | some xs =>
      rw [hc] at h
      cases h
      obtain ⟨h1, h2, h3⟩ := ofVals1_rel hc θ W
      exact .st xs cs (by simpa using h1) (fun j c v hj hv => h2 j c v hj (by simpa using hv)) (fun j v hv => h3 j v (by simpa using hv))
  · exact ofVal1_rel h θ W

theorem Rl.tmpArg {lv : List Nat} {N : Nat} {st : St} {a : Act} {w : World} {θ : Th} {W : Im} (h : Rl lv N st a w θ W) (t : Nat) : ARel θ W (st.get (cTmp lv t)) (a.eval (.tmp t)) := by
  unfold cTmp
  cases hl : lmem lv t with
  | true => exact h.loc t hl
  | false => exact h.tmp t hl

theorem Rl.arg {lv : List Nat} {N : Nat} {st : St} {a : Act} {w : World} {θ : Th} {W : Im} (h : Rl lv N st a w θ W) {x : Operand} {m : MA} (hx : cArg lv x = some m) :
    ARel θ W (st.get m) (a.eval x) := by
  cases x with
  | tmp t => cases hx; exact h.tmpArg t
  | const v =>
    simp only [cArg] at hx
    cases hv : ofVal v with
    | none => rw [hv] at hx; cases hx
    | some y => rw [hv] at hx; cases hx; exact ofVal_rel hv θ W
  | global g => cases hx
  | func f =>
    cases hx
    exact .clo f [] #[] rfl (fun j c v hj => by simp at hj)

theorem Rl.args {lv : List Nat} {N : Nat} {st : St} {a : Act} {w : World} {θ : Th} {W : Im} (h : Rl lv N st a w θ W) {xs : List Operand} {ms : List MA} (hx : cArgs lv xs = some ms) :
    Rels θ W (gets st ms) ((xs.map a.eval).toArray) := by
  induction xs generalizing ms with
  | nil => cases hx; exact ⟨rfl, fun j c v hj => by simp [gets] at hj⟩
  | cons x xs ih =>
    simp only [cArgs] at hx
    split at hx
    · rename_i y l hy hl
      cases hx
      obtain ⟨h1, h2⟩ := ih hl
      refine ⟨by simpa [gets] using h1, ?_⟩
      intro j c v hj hv
      cases j with
      | zero => simp [gets] at hj hv; subst hj; subst hv; exact h.arg hy
      | succ j => simp only [gets, List.getElem?_cons_succ] at hj; simp at hv; exact h2 j c v hj (by simpa using hv)
    · cases hx

/-! one operation -/
def OpOk (lv : List Nat) (P : Program) (N : Nat) (o : Oper) (st : St) (K : St → Prop) : Prop :=
  ∀ (a : Act) (w : World) (θ : Th) (W : Im) (next : Act → World → Prop) (Q : Exit → Act → World → Prop), Rl lv N st a w θ W →
    (∀ st' a' w' θ' W', K st' → Rl lv N st' a' w' θ' W' → Stp θ W w θ' W' w' → next a' w') → o.wp P a w next Q

section
variable {lv : List Nat} {P : Program} {N : Nat} {o : Oper} {st : St} {K : St → Prop} {a : Act} {w w' : World} {θ θ' : Th} {W W' : Im}
  {next : Act → World → Prop} {Q : Exit → Act → World → Prop} {H' : List AO}

theorem end_value (h : Rl lv N st a w θ W) (hd : o.dst.all (decide <| · < N) = true)
    (hk : ∀ st' a' w' θ' W', K st' → Rl lv N st' a' w' θ' W' → Stp θ W w θ' W' w' → next a' w')
    {v : Value} {r : AV} (hrun : (execOp a.eval o).run P w = .ok (.value v) w') (hr : ARel θ' W' r v) (hm : SR θ' W' H' w') (hs : Stp θ W w θ' W' w')
    (hK : K (St.put ⟨st.L, st.T, H'⟩ (cDst lv o.dst) r)) : o.wp P a w next Q := by
  unfold Oper.wp
  rw [hrun]
  exact hk _ _ _ _ _ hK (h.put hd hr hm hs) hs

theorem end_same (h : Rl lv N st a w θ W) (hd : o.dst.all (decide <| · < N) = true)
    (hk : ∀ st' a' w' θ' W', K st' → Rl lv N st' a' w' θ' W' → Stp θ W w θ' W' w' → next a' w')
    {v : Value} {r : AV} (hrun : (execOp a.eval o).run P w = .ok (.value v) w) (hr : ARel θ W r v)
    (hK : K (st.put (cDst lv o.dst) r)) : o.wp P a w next Q :=
  end_value h hd hk hrun hr h.mem (Stp.refl θ W w) hK

theorem end_skip (h : Rl lv N st a w θ W) (hd : o.dst.all (decide <| · < N) = true)
    (hk : ∀ st' a' w' θ' W', K st' → Rl lv N st' a' w' θ' W' → Stp θ W w θ' W' w' → next a' w')
    (hrun : (execOp a.eval o).run P w = .ok .skip w') (hm : SR θ' W' H' w') (hs : Stp θ W w θ' W' w')
    (hK : K (St.put ⟨st.L, st.T, H'⟩ (cDst lv o.dst) .any)) : o.wp P a w next Q := by
  unfold Oper.wp
  rw [hrun]
  exact hk _ _ _ _ _ hK (h.put hd (.any _) hm hs) hs

theorem withV_inv {x : Option AV} {d : MD} (h : withV x d K st) : ∃ v, x = some v ∧ K (st.put d v) := by
  cases x with
  | none => exact h.elim
  | some v => exact ⟨v, rfl, h⟩
end
end Go.AM

/- The operations, one by one: what the small code computes is what the model runs. -/
set_option linter.all false
namespace Go.AM
variable {lv : List Nat} {P : Program} {N : Nat} {o : Oper} {st : St} {K : St → Prop} {θ : Th} {W : Im}

theorem ARel.p_inv {x : PV} {v : Value} (h : ARel θ W (.p x) v) : PRel W x v := by cases h; assumption
theorem ARel.b_inv {x : Bool} {v : Value} (h : ARel θ W (.p (.b x)) v) : v = .bool x := by cases h.p_inv; rfl
theorem ARel.i_inv {k : IntKind} {n : Int} {v : Value} (h : ARel θ W (.p (.i k n)) v) : v = .int k n := by cases h.p_inv; rfl
theorem ARel.s_inv {x : List UInt8} {v : Value} (h : ARel θ W (.p (.s x)) v) : v = .string ⟨x.toArray⟩ ∧ x.length ≤ maxL := by
  cases h.p_inv; exact ⟨rfl, by assumption⟩

theorem cells_rel {x : AV} {v : Value} (h : ARel θ W x v) (hx : x.allOne = true) :
    v.cells.size = x.cells.length ∧ (∀ (j : Nat) (c : AV) (u : Value), x.cells[j]? = some c → v.cells[j]? = some u → ARel θ W c u) ∧ ∀ (j : Nat) (u : Value), v.cells[j]? = some u → u.oneCell' = true := by
  by_cases hs : ∃ cs, x = .st cs
  · obtain ⟨cs, rfl⟩ := hs
    cases h with
    | st _ vs h1 h2 h3 => exact ⟨h1, h2, h3⟩
  · have h1 : x.one = true := by
      cases x <;> first | rfl | (simp [AV.allOne, AV.one] at hx; done) | (exact (hs ⟨_, rfl⟩).elim)
    have hv := h.one h1
    have hc : v.cells = #[v] := by cases v <;> first | rfl | (simp [Value.oneCell'] at hv; done)
    have hc' : x.cells = [x] := by cases x <;> first | rfl | (exact (hs ⟨_, rfl⟩).elim)
    rw [hc, hc']
    refine ⟨rfl, ?_, ?_⟩
    · intro j c u hj hu
      cases j with
      | zero => simp at hj hu; subst hj; subst hu; exact h
      | succ j => simp at hj
    · intro j u hu
      cases j with
      | zero => simp at hu; subst hu; exact hv
      | succ j => simp at hu

theorem ok_mv {x : Operand} {m : MA} (ho : o.op = .move x ∨ o.op = .assign x) (hx : cArg lv x = some m) (hd : o.dst.all (decide <| · < N) = true)
    (h : K (st.put (cDst lv o.dst) (st.get m))) : OpOk lv P N o st K := by
  intro a w θ W next Q hR hk
  refine end_same hR hd hk (v := a.eval x) (r := st.get m) ?_ (hR.arg hx) h
  rcases ho with ho | ho <;> simp [execOp, ho]

theorem ok_pick {x y z : Operand} {mx my mz : MA} (ho : o.op = .pick x y z) (hx : cArg lv x = some mx) (hy : cArg lv y = some my) (hz : cArg lv z = some mz)
    (hd : o.dst.all (decide <| · < N) = true) (h : withV (pickV (st.get mx) (st.get my) (st.get mz)) (cDst lv o.dst) K st) : OpOk lv P N o st K := by
  intro a w θ W next Q hR hk
  obtain ⟨v, hv, hK⟩ := withV_inv h
  have h1 := hR.arg hx
  unfold pickV at hv
  split at hv
  · rename_i _ _ c e
    cases hv
    rw [e] at h1
    have e1 := h1.b_inv
    cases c
    · refine end_same hR hd hk (v := a.eval z) ?_ (hR.arg hz) hK
      simp [execOp, ho, e1, asBool]
    · refine end_same hR hd hk (v := a.eval y) ?_ (hR.arg hy) hK
      simp [execOp, ho, e1, asBool]
  · cases hv

/-- A NEW VARIABLE. -/
theorem newvar {H : List AO} {w : World} (h : SR θ W H w) (cs : List AV) (vs : Array Value) (ty : TypeId) (hs : vs.size = cs.length)
    (hc : ∀ (j : Nat) (c : AV) (u : Value), cs[j]? = some c → vs[j]? = some u → ARel θ W c u) (h1 : ∀ (j : Nat) (u : Value), vs[j]? = some u → u.oneCell' = true) :
    ∃ θ', SR θ' W (H ++ [.var cs]) (w.alloc (.cells vs ty)) ∧ Stp θ W w θ' W (w.alloc (.cells vs ty)) ∧ ARel θ' W (.ptr H.length 0) (.pointer (some ⟨w.heap.size, 0, none⟩)) := by
  obtain ⟨a, b⟩ := h.push (w' := w.alloc (.cells vs ty)) (.var cs) (.at w.heap.size 1 0) rfl rfl rfl (by simp) (fun k hb => RowKit.Below.heap_alloc w _ k hb) (fun b sz tot e => by cases e; rfl) (fun e => by cases e)
    (fun hr => ⟨⟨w.heap.size, 1, 0, ty, vs, thSet_same _ _ _ _, heap_alloc_new w _, hs, fun j c v hj hv => hr _ _ (hc j c v hj hv), h1⟩, fun ver hv => by
      rw [thSet_other (by omega)]; exact h.out _ _ (Nat.le_refl _)⟩)
  exact ⟨_, a, b, .ptr _ 0 w.heap.size 1 0 (thSet_same _ _ _ _)⟩

theorem zeroOf_inv {t : TypeId} {z : List AV} (h : zeroOf P t = some z) : ∃ i zv, P.info? t = some i ∧ i.zero = some zv ∧ ofVals1 zv.cells.toList = some z := by
  unfold zeroOf at h
  split at h
  · rename_i i hi
    split at h
    · rename_i zv hz
      exact ⟨i, zv, hi, hz, h⟩
    · cases h
  · cases h

theorem ok_alloc {t : TypeId} {z : List AV} (ho : o.op = .alloc t) (hz : zeroOf P t = some z) (hd : o.dst.all (decide <| · < N) = true)
    (h : newK (some (.var z)) (fun id => .ptr id 0) (cDst lv o.dst) K st) : OpOk lv P N o st K := by
  intro a w θ W next Q hR hk
  obtain ⟨i, zv, hi, hzv, hv⟩ := zeroOf_inv hz
  obtain ⟨h1, h2, h3⟩ := ofVals1_rel hv θ W
  obtain ⟨θ', a1, a2, a3⟩ := newvar hR.mem z zv.cells t (by simpa using h1) (fun j c u hj hu => h2 j c u hj (by simpa using hu)) (fun j u hu => h3 j u (by simpa using hu))
  refine end_value hR hd hk (v := .pointer (some ⟨w.heap.size, 0, none⟩)) ?_ a3 a1 a2 h
  simp [execOp, ho, Instr.alloc, zeroValue, typeInfo, hi, hzv, newVar, newRow]

theorem ok_box {t : TypeId} {n : Nat} {x : Operand} {m : MA} (ho : o.op = .box t x) (hx : cArg lv x = some m) (hd : o.dst.all (decide <| · < N) = true)
    (h : newK (if (st.get m).allOne && (st.get m).cells.length == n then some (.var (st.get m).cells) else none) (fun id => .ptr id 0) (cDst lv o.dst) K st) : OpOk lv P N o st K := by
  intro a w θ W next Q hR hk
  by_cases hc : ((st.get m).allOne && (st.get m).cells.length == n) = true
  · rw [if_pos hc] at h
    simp only [Bool.and_eq_true] at hc
    obtain ⟨h1, h2, h3⟩ := cells_rel (hR.arg hx) hc.1
    obtain ⟨θ', a1, a2, a3⟩ := newvar hR.mem (st.get m).cells (a.eval x).cells t h1 h2 h3
    refine end_value hR hd hk (v := .pointer (some ⟨w.heap.size, 0, none⟩)) ?_ a3 a1 a2 h
    simp [execOp, ho, Instr.box, newVar, newRow]
  · rw [if_neg hc] at h
    exact h.elim

/-! loads -/
theorem takeN_len {n : Nat} {cs us : List AV} (h : takeN n cs = some us) : us.length = n ∧ ∀ (j : Nat) (c : AV), us[j]? = some c → cs[j]? = some c := by
  induction n generalizing cs us with
  | zero => cases h; exact ⟨rfl, fun j c hj => by simp at hj⟩
  | succ n ih =>
    cases cs with
    | nil => cases h
    | cons c cs =>
      simp only [takeN] at h
      cases hu : takeN n cs with
      | none => rw [hu] at h; cases h
      | some vs =>
        rw [hu] at h
        cases h
        obtain ⟨h1, h2⟩ := ih hu
        refine ⟨by simp [h1], fun j d hj => ?_⟩
        cases j with
        | zero => simpa using hj
        | succ j => simp at hj ⊢; exact h2 j d hj

/-- what a pointer reads, in the model's memory -/
def Reads (θ : Th) (W : Im) (w : World) (a : Addr) (cs : List AV) : Prop :=
  a.spot = none ∧ ∀ (j : Nat) (c : AV), cs[j]? = some c → ∃ v, w.cell? (a.add j) = some v ∧ ARel θ W c v ∧ v.oneCell' = true

theorem Reads.load {w : World} {a : Addr} {cs : List AV} (h : Reads θ W w a cs) {t : TypeId} {g : Bool} {n : Nat} (hg : aggT P t = some g) (hn : sizeT P t = some n) {x : AV}
    (hx : ldV g n (some cs) = some x) : ∃ v, (loadVar t a).run P w = .ok v w ∧ ARel θ W x v ∧ (g = false → v.oneCell' = true) := by
  have hu : ∃ d, P.underlying t = some d ∧ (g = true ↔ ((∃ fs, d = .struct fs) ∨ ∃ n e, d = .array n e)) := by
    unfold aggT at hg
    split at hg
    · rename_i fs e; cases hg; exact ⟨_, e, by simp⟩
    · rename_i n e' e; cases hg; exact ⟨_, e, by simp⟩
    · rename_i d n1 n2 e
      cases hg
      refine ⟨d, e, by simp; exact ⟨fun fs e' => n1 fs e', fun a b e' => n2 a b e'⟩⟩
    · cases hg
  obtain ⟨d, hd, hgd⟩ := hu
  have hagg : (isAgg t).run P w = .ok g w := by
    simp only [isAgg, Sem.run_bind, run_underlying hd, Result.andThen_ok]
    cases g with
    | true => rcases hgd.1 rfl with ⟨fs, rfl⟩ | ⟨n, e, rfl⟩ <;> rfl
    | false =>
      have hno : ¬ ((∃ fs, d = .struct fs) ∨ ∃ n e, d = .array n e) := fun hh => by cases hgd.2 hh
      cases d <;> first | rfl | (exact (hno (.inl ⟨_, rfl⟩)).elim) | (exact (hno (.inr ⟨_, _, rfl⟩)).elim)
  obtain ⟨i, hi, rfl⟩ : ∃ i, P.info? t = some i ∧ i.size = n := by
    simp only [sizeT] at hn
    cases hi : P.info? t with
    | none => rw [hi] at hn; cases hn
    | some i => rw [hi] at hn; cases hn; exact ⟨i, rfl, rfl⟩
  cases g with
  | false =>
    cases cs with
    | nil => cases hx
    | cons c cs =>
      cases hx
      obtain ⟨v, h1, h2, h3⟩ := h.2 0 _ rfl
      have hz : a.add 0 = a := by simp [Addr.add]
      rw [hz] at h1
      exact ⟨v, by simp [loadVar, hagg, h1], h2, fun _ => h3⟩
  | true =>
    simp only [ldV, if_true] at hx
    cases hu : takeN i.size cs with
    | none => rw [hu] at hx; cases hx
    | some us =>
      rw [hu] at hx
      cases hx
      obtain ⟨h1, h2⟩ := takeN_len hu
      have hex : ∀ j, ∃ v, ∀ c, us[j]? = some c → w.cell? (a.add j) = some v ∧ ARel θ W c v ∧ v.oneCell' = true := by
        intro j
        cases hj : us[j]? with
        | none => exact ⟨undef, fun c hc => by cases hc⟩
        | some c =>
          obtain ⟨v, hv⟩ := h.2 j c (h2 j c hj)
          exact ⟨v, fun c' hc => by cases hc; exact hv⟩
      obtain ⟨f, hf⟩ := Classical.axiomOfChoice hex
      have hr := run_loadCells (P := P) w a i.size f (fun j hj => by
        have : us[j]? = some us[j] := by simp [h1, hj]
        exact (hf j _ this).1)
      refine ⟨.agg ((List.range i.size).map f).toArray, ?_, .st us _ (by simp [h1]) ?_ ?_, fun e => by cases e⟩
      · simp [loadVar, hagg, sizeOf, typeInfo, hi, hr]
      · intro j c v hj hv
        have hlt : j < i.size := by
          rcases Nat.lt_or_ge j i.size with h' | h'
          · exact h'
          · rw [List.getElem?_eq_none (by omega)] at hj; cases hj
        simp [hlt] at hv
        subst hv
        exact (hf j c hj).2.1
      · intro j v hv
        have hlt : j < i.size := by
          rcases Nat.lt_or_ge j i.size with h' | h'
          · exact h'
          · simp [h'] at hv
        simp [hlt] at hv
        subst hv
        have : us[j]? = some us[j] := by simp [h1, hlt]
        exact (hf j _ this).2.2

/-- the cells of a pointer, by what it is -/
theorem ldAt_reads {H : List AO} {w : World} (hm : SR θ W H w) {x : AV} {v : Value} (hv : ARel θ W x v) {cs : List AV} (h : ldAt H x = some cs) : ∃ a, v = .pointer (some a) ∧ Reads θ W w a cs := by
  unfold ldAt at h
  split at h
  · rename_i id off
    split at h
    · rename_i cs' hid
      cases h
      obtain ⟨⟨b, sz, tot, ty, vs, h1, h2, h3, h4, h5⟩, _⟩ := hm.obj id _ hid
      cases hv with
      | ptr _ _ b' sz' tot' e =>
        rw [h1] at e
        cases e
        refine ⟨_, rfl, rfl, fun j c hj => ?_⟩
        simp only [List.getElem?_drop] at hj
        have hlt : off + j < vs.size := by
          rcases Nat.lt_or_ge (off + j) cs'.length with h' | h'
          · omega
          · rw [List.getElem?_eq_none h'] at hj; cases hj
        refine ⟨vs[off + j], ?_, h4 _ _ _ hj (by simp [hlt]), h5 (off + j) _ (by simp [hlt])⟩
        simp [World.cell?, Addr.add_lit, h2, hlt]
      | ptrDead _ _ _ e => rw [h1] at e; cases e
    · cases h
  · rename_i id ver row col
    split at h
    · rename_i sz ver' rs hid
      split at h
      · rename_i e; subst e
        cases hrow : rs[row]? with
        | none => rw [hrow] at h; cases h
        | some r =>
          rw [hrow] at h
          cases h
          obtain ⟨h1, _, _⟩ := hm.obj id _ hid
          rcases h1 with ⟨_, h1⟩ | ⟨b, tot, ty, vs, h1, h2, h3, h4, h5, h6, h7⟩
          · subst h1; simp at hrow
          · cases hv with
            | ep _ _ _ _ b' sz' tot' e =>
              rw [h1] at e
              cases e
              refine ⟨_, rfl, rfl, fun j c hj => ?_⟩
              simp only [List.getElem?_drop] at hj
              have hr : r.length = sz := h5 r (List.mem_of_getElem? hrow)
              have hjl : col + j < r.length := by
                rcases Nat.lt_or_ge (col + j) r.length with h' | h'
                · exact h'
                · rw [List.getElem?_eq_none h'] at hj; cases hj
              have hrl : row < rs.length := by
                rcases Nat.lt_or_ge row rs.length with h' | h'
                · exact h'
                · rw [List.getElem?_eq_none h'] at hrow; cases hrow
              have hlt : row * sz + col + j < vs.size := by
                have h8 : (row + 1) * sz ≤ tot * sz := Nat.mul_le_mul_right _ (by omega)
                rw [Nat.add_mul] at h8
                omega
              refine ⟨vs[row * sz + col + j], ?_, h6 row r (col + j) c _ hrow hj (by rw [← Nat.add_assoc]; simp [hlt]), h7 _ _ (Array.getElem?_eq_getElem hlt)⟩
              simp [World.cell?, Addr.add_lit, h2, hlt]
            | epDead _ _ _ _ _ e => rw [h1] at e; cases e
      · cases h
    · cases h
  · rename_i row
    cases h
    cases hv with
    | ip _ b o f hc hr =>
      refine ⟨_, rfl, rfl, fun j c hj => ?_⟩
      simp only [List.getElem?_map] at hj
      cases hq : row[j]? with
      | none => rw [hq] at hj; cases hj
      | some q =>
        rw [hq] at hj
        cases hj
        exact ⟨f j, by rw [Addr.add_lit]; exact hm.imm _ _ _ (hc j q hq), .p _ _ (hr j q hq), (hr j q hq).one⟩
  · cases h

theorem ok_ld {t : TypeId} {g : Bool} {n : Nat} {x : Operand} {m : MA} (ho : o.op = .load t x) (hx : cArg lv x = some m) (hg : aggT P t = some g) (hn : sizeT P t = some n)
    (hd : o.dst.all (decide <| · < N) = true) (h : withV (ldV g n (ldAt st.H (st.get m))) (cDst lv o.dst) K st) : OpOk lv P N o st K := by
  intro a w θ W next Q hR hk
  obtain ⟨y, hy, hK⟩ := withV_inv h
  cases hc : ldAt st.H (st.get m) with
  | none => rw [hc] at hy; cases hy
  | some cs =>
    rw [hc] at hy
    obtain ⟨ad, hv, hr⟩ := ldAt_reads hR.mem (hR.arg hx) hc
    obtain ⟨v, h1, h2, _⟩ := hr.load hg hn hy
    refine end_same hR hd hk (v := v) ?_ h2 hK
    simp [execOp, ho, hv, Instr.loadAt, Instr.sureAddr, h1]

end Go.AM

/- The operations, continued: stores, addresses, operators, indexes. -/
set_option linter.all false
namespace Go.AM
variable {lv : List Nat} {P : Program} {N : Nat} {o : Oper} {st : St} {K : St → Prop} {θ : Th} {W : Im}

theorem getElem?_over {α : Type} (vs us : List α) (s k : Nat) (h : s + us.length ≤ vs.length) :
    (vs.take s ++ us ++ vs.drop (s + us.length))[k]? = if k < s then vs[k]? else if k < s + us.length then us[k - s]? else vs[k]? := by
  rw [List.append_assoc]
  by_cases h1 : k < s
  · rw [if_pos h1, List.getElem?_append_left (by simp; omega), List.getElem?_take, if_pos h1]
  · rw [if_neg h1, List.getElem?_append_right (by simp; omega)]
    have : (vs.take s).length = s := by simp; omega
    rw [this]
    by_cases h2 : k < s + us.length
    · rw [if_pos h2, List.getElem?_append_left (by omega)]
    · rw [if_neg h2, List.getElem?_append_right (by omega), List.getElem?_drop]
      congr 1
      omega

theorem splice_spec {cs us cs' : List AV} {off : Nat} (h : splice cs off us = some cs') (hu : us ≠ []) :
    off + us.length ≤ cs.length ∧ cs' = cs.take off ++ us ++ cs.drop (off + us.length) := by
  induction cs generalizing off us cs' with
  | nil =>
    cases us with
    | nil => exact (hu rfl).elim
    | cons u us => cases off <;> cases h
  | cons c cs ih =>
    cases us with
    | nil => exact (hu rfl).elim
    | cons u us =>
      cases off with
      | zero =>
        simp only [splice] at h
        cases us with
        | nil =>
          rw [splice_nil] at h
          cases h
          simp
        | cons u' us =>
          cases hs : splice cs 0 (u' :: us) with
          | none => rw [hs] at h; cases h
          | some ds =>
            rw [hs] at h
            cases h
            obtain ⟨h1, h2⟩ := ih hs (by simp)
            refine ⟨by simp at h1 ⊢; omega, ?_⟩
            rw [h2]
            simp
      | succ off =>
        simp only [splice] at h
        cases hs : splice cs off (u :: us) with
        | none => rw [hs] at h; cases h
        | some ds =>
          rw [hs] at h
          cases h
          obtain ⟨h1, h2⟩ := ih hs (by simp)
          refine ⟨by simp at h1 ⊢; omega, ?_⟩
          rw [h2]
          simp [Nat.succ_add]

theorem size_setRow' (w : World) (g : Nat) (cs : Array Value) : (w.setRow g cs).heap.size = w.heap.size := by simp [World.setRow]

theorem ok_sto {t : TypeId} {n : Nat} {x v : Operand} {mx mv : MA} (ho : o.op = .store t x v) (hx : cArg lv x = some mx) (hv : cArg lv v = some mv) (hn : sizeT P t = some n) (hn0 : 0 < n)
    (hd : o.dst.all (decide <| · < N) = true) (h : withH (stoH st.H n (st.get mx) (st.get mv)) (cDst lv o.dst) K st) : OpOk lv P N o st K := by
  intro a w θ W next Q hR hk
  cases hH : stoH st.H n (st.get mx) (st.get mv) with
  | none => rw [hH] at h; exact h.elim
  | some H' =>
    rw [hH] at h
    unfold stoH at hH
    split at hH
    case isFalse => cases hH
    case isTrue hc =>
    simp only [Bool.and_eq_true, beq_iff_eq] at hc
    obtain ⟨c1, c2, c3⟩ := cells_rel (hR.arg hv) hc.1
    have hne : (st.get mv).cells ≠ [] := fun e => by rw [e] at hc; simp at hc; omega
    obtain ⟨i, hi, hsz⟩ : ∃ i, P.info? t = some i ∧ i.size = n := by
      simp only [sizeT] at hn
      cases hi : P.info? t with
      | none => rw [hi] at hn; cases hn
      | some i => rw [hi] at hn; cases hn; exact ⟨i, rfl, rfl⟩
    have hcs : (a.eval v).cells.size = i.size := by rw [c1, hc.2, hsz]
    have hlen : (a.eval v).cells.toList.length = (st.get mv).cells.length := by simpa using c1
    have run : ∀ (b off : Nat) (vs : Array Value) (ty : TypeId), a.eval x = .pointer (some ⟨b, off, none⟩) → w.heap[b]? = some (.cells vs ty (0, 0)) → off + (a.eval v).cells.toList.length ≤ vs.size →
        (execOp a.eval o).run P w = .ok .skip (w.setRow b (vs.toList.take off ++ (a.eval v).cells.toList ++ vs.toList.drop (off + (a.eval v).cells.toList.length)).toArray) := by
      intro b off vs ty hb1 hb2 hb3
      have hst := run_storeCells_at P b off ty (a.eval v).cells.toList 0 vs w hb2 (by simpa using hb3) (fun u hu => by
        obtain ⟨j, hj⟩ := List.getElem?_of_mem hu
        exact c3 j u (by simpa using hj))
      simp only [Nat.add_zero] at hst
      simp [execOp, ho, hb1, Instr.storeAt, Instr.sureAddr, storeVar, sizeOf, typeInfo, hi, hcs, hst]
    split at hH
    · rename_i id off e
      split at hH
      · rename_i cs hid
        cases hsp : splice cs off (st.get mv).cells with
        | none => rw [hsp] at hH; cases hH
        | some cs' =>
          rw [hsp] at hH
          cases hH
          obtain ⟨hs1, hs2⟩ := splice_spec hsp hne
          have hidl : id < st.H.length := by
            rcases Nat.lt_or_ge id st.H.length with h' | h'
            · exact h'
            · rw [List.getElem?_eq_none h'] at hid; cases hid
          obtain ⟨⟨b, sz, tot, ty, vs, h1, h2, h3, h4, h5⟩, h6⟩ := hR.mem.obj id _ hid
          have hp := hR.arg hx
          rw [e] at hp
          cases hp' : a.eval x with
          | pointer p =>
            rw [hp'] at hp
            cases hp with
            | ptr _ _ b' sz' tot' e' =>
              rw [h1] at e'; cases e'
              have hb3 : off + (a.eval v).cells.toList.length ≤ vs.size := by rw [hlen]; omega
              have hrun := run b off vs ty hp' h2 hb3
              obtain ⟨s1, s2⟩ := hR.mem.write (w' := w.setRow b (vs.toList.take off ++ (a.eval v).cells.toList ++ vs.toList.drop (off + (a.eval v).cells.toList.length)).toArray) id 0 b sz tot (.var cs') hidl h1 rfl rfl rfl (size_setRow' _ _ _) (fun k hk' => setRow_other _ _ _ _ hk')
                ⟨⟨b, sz, tot, ty, _, h1, setRow_heap w b vs _ ty _ h2, by rw [hs2]; simp; omega, fun j c u hj hu => by
                  rw [hs2, getElem?_over _ _ _ _ hs1] at hj
                  simp only [List.getElem?_toArray] at hu
                  rw [getElem?_over _ _ _ _ (by simpa using hb3), hlen] at hu
                  split at hj
                  · rename_i hlt; rw [if_pos hlt] at hu; exact h4 j c u hj (by simpa using hu)
                  · rename_i hlt; rw [if_neg hlt] at hu
                    split at hj
                    · rename_i hlt2; rw [if_pos hlt2] at hu; exact c2 _ c u hj (by simpa using hu)
                    · rename_i hlt2; rw [if_neg hlt2] at hu; exact h4 j c u hj (by simpa using hu), fun j u hu => by
                  simp only [List.getElem?_toArray] at hu
                  rw [getElem?_over _ _ _ _ (by simpa using hb3)] at hu
                  split at hu
                  · exact h5 j u (by simpa using hu)
                  · split at hu
                    · exact c3 _ u (by simpa using hu)
                    · exact h5 j u (by simpa using hu)⟩, h6⟩
              exact end_skip hR hd hk hrun s1 s2 h
            | ptrDead _ _ _ e' => rw [h1] at e'; cases e'
          | _ => rw [hp'] at hp; cases hp <;> (rename_i e' _; rw [h1] at e'; cases e')
      · cases hH
    · rename_i id ver row col e
      split at hH
      · rename_i sz ver' rs hid
        split at hH
        case isFalse => cases hH
        case isTrue ev =>
        subst ev
        cases hrow : rs[row]? with
        | none => rw [hrow] at hH; cases hH
        | some r =>
          rw [hrow] at hH
          simp only at hH
          cases hsp : splice r col (st.get mv).cells with
          | none => rw [hsp] at hH; cases hH
          | some r' =>
            rw [hsp] at hH
            cases hH
            obtain ⟨hs1, hs2⟩ := splice_spec hsp hne
            have hidl : id < st.H.length := by
              rcases Nat.lt_or_ge id st.H.length with h' | h'
              · exact h'
              · rw [List.getElem?_eq_none h'] at hid; cases hid
            have hrl : row < rs.length := by
              rcases Nat.lt_or_ge row rs.length with h' | h'
              · exact h'
              · rw [List.getElem?_eq_none h'] at hrow; cases hrow
            obtain ⟨h1, g1, g2⟩ := hR.mem.obj id _ hid
            rcases h1 with ⟨_, h1⟩ | ⟨b, tot, ty, vs, h1, h2, h3, h4, h5, h6, h7⟩
            · subst h1; simp at hrow
            · have hr : r.length = sz := h5 r (List.mem_of_getElem? hrow)
              have h8 : (row + 1) * sz ≤ tot * sz := Nat.mul_le_mul_right _ (by omega)
              rw [Nat.add_mul] at h8
              have hp := hR.arg hx
              rw [e] at hp
              cases hp' : a.eval x with
              | pointer p =>
                rw [hp'] at hp
                cases hp with
                | ep _ _ _ _ b' sz' tot' e' =>
                  rw [h1] at e'; cases e'
                  have hb3 : row * sz + col + (a.eval v).cells.toList.length ≤ vs.size := by rw [hlen]; omega
                  have hrun := run b (row * sz + col) vs ty hp' h2 hb3
                  obtain ⟨s1, s2⟩ := hR.mem.write (w' := w.setRow b (vs.toList.take (row * sz + col) ++ (a.eval v).cells.toList ++ vs.toList.drop (row * sz + col + (a.eval v).cells.toList.length)).toArray) id ver b sz tot (.rows sz ver (rs.set row r')) hidl h1 rfl rfl rfl (size_setRow' _ _ _) (fun k hk' => setRow_other _ _ _ _ hk')
                    ⟨.inr ⟨b, tot, ty, _, h1, setRow_heap w b vs _ ty _ h2, by simp; omega, by simpa using h4, fun q hq => by
                        rcases List.mem_or_eq_of_mem_set hq with hq | rfl
                        · exact h5 q hq
                        · rw [hs2]; simp; omega,
                      fun i q j c u hi hj hu => by
                        simp only [List.getElem?_toArray] at hu
                        rw [getElem?_over _ _ _ _ (by simpa using hb3), hlen] at hu
                        by_cases hir : i = row
                        · subst hir
                          rw [List.getElem?_set_self hrl] at hi
                          cases hi
                          rw [hs2, getElem?_over _ _ _ _ hs1] at hj
                          split at hj
                          · rename_i hlt
                            rw [if_pos (by omega)] at hu
                            exact h6 i r j c u hrow hj (by simpa using hu)
                          · rename_i hlt
                            rw [if_neg (by omega)] at hu
                            split at hj
                            · rename_i hlt2
                              rw [if_pos (by omega)] at hu
                              exact c2 _ c u hj (by rw [show i * sz + j - (i * sz + col) = j - col by omega] at hu; simpa using hu)
                            · rename_i hlt2
                              rw [if_neg (by omega)] at hu
                              exact h6 i r j c u hrow hj (by simpa using hu)
                        · rw [List.getElem?_set_ne (Ne.symm hir)] at hi
                          have hq : q.length = sz := h5 q (List.mem_of_getElem? hi)
                          have hjl : j < q.length := by
                            rcases Nat.lt_or_ge j q.length with h' | h'
                            · exact h'
                            · rw [List.getElem?_eq_none h'] at hj; cases hj
                          have hout : ¬ (row * sz + col ≤ i * sz + j ∧ i * sz + j < row * sz + col + (st.get mv).cells.length) := by
                            rintro ⟨q1, q2⟩
                            rcases Nat.lt_or_gt_of_ne hir with hl | hl
                            · have := Nat.mul_le_mul_right sz hl; rw [Nat.succ_mul] at this; omega
                            · have := Nat.mul_le_mul_right sz hl; rw [Nat.succ_mul] at this; omega
                          have hu' : vs.toList[i * sz + j]? = some u := by
                            split at hu
                            · exact hu
                            · rename_i q1
                              split at hu
                              · rename_i q2; exact (hout ⟨by omega, q2⟩).elim
                              · exact hu
                          exact h6 i q j c u hi hj (by simpa using hu'),
                      fun j u hu => by
                        simp only [List.getElem?_toArray] at hu
                        rw [getElem?_over _ _ _ _ (by simpa using hb3)] at hu
                        split at hu
                        · exact h7 j u (by simpa using hu)
                        · split at hu
                          · exact c3 _ u (by simpa using hu)
                          · exact h7 j u (by simpa using hu)⟩, g1, g2⟩
                  exact end_skip hR hd hk hrun s1 s2 h
                | epDead _ _ _ _ _ e' => rw [h1] at e'; cases e'
              | _ => rw [hp'] at hp; cases hp <;> (rename_i e' _; rw [h1] at e'; cases e')
      · cases hH
    · cases hH

end Go.AM

/- The operations, continued: addresses, operators, indexes, slices, lengths. -/
set_option linter.all false
namespace Go.AM
variable {lv : List Nat} {P : Program} {N : Nat} {o : Oper} {st : St} {K : St → Prop} {θ : Th} {W : Im}

theorem sizeT_inv {t : TypeId} {n : Nat} (h : sizeT P t = some n) : ∃ i, P.info? t = some i ∧ i.size = n := by
  simp only [sizeT] at h
  cases hi : P.info? t with
  | none => rw [hi] at h; cases h
  | some i => rw [hi] at h; cases h; exact ⟨i, rfl, rfl⟩

theorem ok_nilc {x : Operand} {m : MA} (ho : o.op = .nilCheck x) (hx : cArg lv x = some m)
    (hd : o.dst.all (decide <| · < N) = true) (h : withV (nilcV (st.get m)) (cDst lv o.dst) K st) : OpOk lv P N o st K := by
  intro a w θ W next Q hR hk
  obtain ⟨y, hy, hK⟩ := withV_inv h
  have h1 := hR.arg hx
  unfold nilcV at hy
  split at hy
  · rename_i id off e
    cases hy
    rw [e] at h1
    refine end_same hR hd hk (v := a.eval x) ?_ h1 hK
    cases hv : a.eval x with
    | pointer p =>
      rw [hv] at h1
      cases h1 <;> simp [execOp, ho, hv]
    | _ => rw [hv] at h1; cases h1
  · rename_i id ver row col e
    cases hy
    rw [e] at h1
    refine end_same hR hd hk (v := a.eval x) ?_ h1 hK
    cases hv : a.eval x with
    | pointer p =>
      rw [hv] at h1
      cases h1 <;> simp [execOp, ho, hv]
    | _ => rw [hv] at h1; cases h1
  · rename_i f c e
    cases hy
    rw [e] at h1
    refine end_same hR hd hk (v := a.eval x) ?_ h1 hK
    cases hv : a.eval x with
    | func fn f1 cs =>
      rw [hv] at h1
      cases h1
      simp [execOp, ho, hv]
    | _ => rw [hv] at h1; cases h1
  · cases hy

theorem ok_fad {s : TypeId} {f off n : Nat} {t : TypeId} {x : Operand} {m : MA} (ho : o.op = .fieldAddr s x f) (hx : cArg lv x = some m) (hf : fieldOf P s f = some (off, t, n)) (hn : 0 < n)
    (hd : o.dst.all (decide <| · < N) = true) (h : withV (fadV off (st.get m)) (cDst lv o.dst) K st) : OpOk lv P N o st K := by
  intro a w θ W next Q hR hk
  obtain ⟨y, hy, hK⟩ := withV_inv h
  have h1 := hR.arg hx
  unfold fieldOf at hf
  split at hf
  · rename_i fs hs
    split at hf
    · rename_i fd hfd
      cases hz : sizeT P fd.type with
      | none => rw [hz] at hf; cases hf
      | some n' =>
        rw [hz] at hf
        cases hf
        obtain ⟨i, hi, rfl⟩ := sizeT_inv hz
        have run : ∀ ad : Addr, a.eval x = .pointer (some ad) → (execOp a.eval o).run P w = .ok (.value (.pointer (some (ad.add fd.offset)))) w := by
          intro ad e
          have hne : ¬ i.size = 0 := by omega
          simp [execOp, ho, Instr.fieldAt, run_underlying hs, hfd, e, Instr.sureAddr, fieldPlace, sizeOf, typeInfo, hi, hne]
        unfold fadV at hy
        split at hy
        · rename_i id o' e
          cases hy
          rw [e] at h1
          generalize hv : a.eval x = v at h1
          cases h1 with
          | ptr _ _ b sz tot h => exact end_same hR hd hk (run _ hv) (by rw [Addr.add_lit]; exact .ptr _ _ b sz tot h) hK
          | ptrDead _ _ ad h => exact end_same hR hd hk (run _ hv) (.ptrDead _ _ _ h) hK
        · rename_i id ver row col e
          cases hy
          rw [e] at h1
          generalize hv : a.eval x = v at h1
          cases h1 with
          | ep _ _ _ _ b sz tot h => exact end_same hR hd hk (run _ hv) (by rw [Addr.add_lit, Nat.add_assoc]; exact .ep _ _ _ _ b sz tot h) hK
          | epDead _ _ _ _ ad h => exact end_same hR hd hk (run _ hv) (.epDead _ _ _ _ _ h) hK
        · rename_i row e
          cases hy
          rw [e] at h1
          generalize hv : a.eval x = v at h1
          cases h1 with
          | ip _ b o' f hc hr =>
            refine end_same hR hd hk (run _ hv) ?_ hK
            rw [Addr.add_lit]
            exact .ip _ b _ (fun j => f (fd.offset + j)) (fun j q hj => by rw [Nat.add_assoc]; exact hc _ q (by simpa using hj)) (fun j q hj => hr _ q (by simpa using hj))
        · cases hy
    · cases hf
  · cases hf

theorem beq_dec {α : Type} [DecidableEq α] [BEq α] [LawfulBEq α] (x y : α) : (x == y) = decide (x = y) := by by_cases h : x = y <;> simp [h]

/-- the run of an operator on integers, where it asks no condition -/
theorem run_ibin {op : BinOp} {k : IntKind} {x y : Int} {r : PV} (h : iarith op k x y = some r) (W : Im) (t : TypeId) (w : World) : ∃ v, (binOp op t (.int k x) (.int k y)).run P w = .ok v w ∧ PRel W r v := by
  cases op <;> simp [iarith, bcmp] at h <;> subst h
  case add => exact ⟨_, by simp [binOp, Op.intArith]; rfl, .i _ _⟩
  case sub => exact ⟨_, by simp [binOp, Op.intArith]; rfl, .i _ _⟩
  case mul => exact ⟨_, by simp [binOp, Op.intArith]; rfl, .i _ _⟩
  case and => exact ⟨_, by simp [binOp, Op.intBits]; rfl, .i _ _⟩
  case or => exact ⟨_, by simp [binOp, Op.intBits]; rfl, .i _ _⟩
  case xor => exact ⟨_, by simp [binOp, Op.intBits]; rfl, .i _ _⟩
  case andNot =>
    refine ⟨.int k (ibits .andNot k x y), ?_, .i _ _⟩
    show (if k ≠ k then (stuck "BinOp: operands of different kinds" : Sem Value) else Op.intBits .andNot k x y).run P w = _
    rw [if_neg (fun h => h rfl)]
    rfl
  case eql => exact ⟨.bool (decide (x = y)), by simp [binOp, Op.intCmp, beq_dec], .b _⟩
  case neq => exact ⟨.bool (!decide (x = y)), by simp [binOp, Op.intCmp, bne, beq_dec], .b _⟩
  case lss => exact ⟨.bool (decide (x < y)), by simp [binOp, Op.intCmp], .b _⟩
  case leq => exact ⟨.bool (decide (x ≤ y)), by simp [binOp, Op.intCmp], .b _⟩
  case gtr => exact ⟨.bool (decide (y < x)), by simp [binOp, Op.intCmp], .b _⟩
  case geq => exact ⟨.bool (decide (y ≤ x)), by simp [binOp, Op.intCmp], .b _⟩

theorem mk_toList (x : List UInt8) : (ByteArray.mk x.toArray).toList = x := by rw [ByteArray.toList_eq]

theorem run_sbin {op : BinOp} {x y : List UInt8} {r : PV} (h : seqs op x y = some r) (W : Im) (t : TypeId) (w : World) : ∃ v, (binOp op t (.string ⟨x.toArray⟩) (.string ⟨y.toArray⟩)).run P w = .ok v w ∧ PRel W r v := by
  cases op <;> simp [seqs] at h <;> subst h
  case eql => exact ⟨.bool (decide (x = y)), by simp [binOp, Op.stringOp, mk_toList, beq_dec], .b _⟩
  case neq => exact ⟨.bool (!decide (x = y)), by simp [binOp, Op.stringOp, mk_toList, beq_dec], .b _⟩
  case lss => exact ⟨.bool (slt x y), by simp [binOp, Op.stringOp, mk_toList, slt], .b _⟩
  case leq => exact ⟨.bool (slt x y || decide (x = y)), by simp [binOp, Op.stringOp, mk_toList, slt, beq_dec], .b _⟩
  case gtr => exact ⟨.bool (!slt x y && !decide (x = y)), by simp [binOp, Op.stringOp, mk_toList, slt, beq_dec], .b _⟩
  case geq => exact ⟨.bool (!slt x y), by simp [binOp, Op.stringOp, mk_toList, slt], .b _⟩

theorem eqGuard_plain (op : BinOp) (t : TypeId) (x y : Operand) (a b : Value) (h1 : a ≠ .nilIface) (h2 : ∀ cs, a ≠ .agg cs) (w : World) : (eqGuard op t x y a b).run P w = .ok () w := by
  unfold eqGuard
  cases a <;> first | (exact (h1 rfl).elim) | (exact (h2 _ rfl).elim) | (cases op <;> cases b <;> rfl)

theorem ok_bin {op : BinOp} {t u : TypeId} {x y : Operand} {mx my : MA} (ho : o.op = .binOp op t x y u) (hx : cArg lv x = some mx) (hy : cArg lv y = some my)
    (hd : o.dst.all (decide <| · < N) = true) (h : binK op (st.get mx) (st.get my) (cDst lv o.dst) K st) : OpOk lv P N o st K := by
  intro a w θ W next Q hR hk
  have h1 := hR.arg hx
  have h2 := hR.arg hy
  have run : ∀ v, a.eval x ≠ .nilIface → (∀ cs, a.eval x ≠ .agg cs) → (binOp op t (a.eval x) (a.eval y)).run P w = .ok v w → (execOp a.eval o).run P w = .ok (.value v) w := by
    intro v e1 e2 e3
    simp [execOp, ho, eqGuard_plain op t x y _ _ e1 e2, e3]
  unfold binK at h
  split at h
  · rename_i v hv
    have hK := h
    unfold ebin at hv
    split at hv
    · rename_i k p k' q e1 e2
      rw [e1] at h1; rw [e2] at h2
      split at hv
      · rename_i e; subst e
        cases hi : iarith op k p q with
        | none => rw [hi] at hv; cases hv
        | some r =>
          rw [hi] at hv
          cases hv
          have e3 := h1.i_inv
          have e4 := h2.i_inv
          obtain ⟨v, hr, hrel⟩ := run_ibin (P := P) hi W t w
          exact end_same hR hd hk (run v (by rw [e3]; simp) (by rw [e3]; simp) (by rw [e3, e4]; exact hr)) (.p _ _ hrel) hK
      · cases hv
    · rename_i p q e1 e2
      rw [e1] at h1; rw [e2] at h2
      cases hi : seqs op p q with
      | none => rw [hi] at hv; cases hv
      | some r =>
        rw [hi] at hv
        cases hv
        obtain ⟨e3, _⟩ := h1.s_inv
        obtain ⟨e4, _⟩ := h2.s_inv
        obtain ⟨v, hr, hrel⟩ := run_sbin (P := P) hi W t w
        exact end_same hR hd hk (run v (by rw [e3]; simp) (by rw [e3]; simp) (by rw [e3, e4]; exact hr)) (.p _ _ hrel) hK
    · cases hv
  · unfold bin2K at h
    split at h
    · rename_i p q e1 e2 _
      rw [e1] at h1; rw [e2] at h2
      obtain ⟨e3, l3⟩ := h1.s_inv
      obtain ⟨e4, l4⟩ := h2.s_inv
      refine end_same hR hd hk (run (.string ⟨(p ++ q).toArray⟩) (by rw [e3]; simp) (by rw [e3]; simp) ?_) (.p _ _ (.s _ (by simpa using h.1))) h.2
      have hs : (ByteArray.mk p.toArray).size + (ByteArray.mk q.toArray).size ≤ 9223372036854775807 := by
        show p.toArray.size + q.toArray.size ≤ _
        simp only [List.size_toArray]
        have := h.1
        unfold maxL at this
        omega
      have hj : (ByteArray.mk p.toArray ++ ByteArray.mk q.toArray) = ⟨(p ++ q).toArray⟩ := by
        apply ByteArray.ext
        simp
      rw [e3, e4, binOp_string_add, run_string_add_sum _ _ _ hs, hj]
    · rename_i k p k' q e1 e2 _
      rw [e1] at h1; rw [e2] at h2
      obtain ⟨rfl, hq, hK⟩ := h
      have e3 := h1.i_inv
      have e4 := h2.i_inv
      refine end_same hR hd hk (run _ (by rw [e3]; simp) (by rw [e3]; simp) ?_) (.p _ _ (.i _ _)) hK
      rw [e3, e4]
      simp [binOp, Op.intDiv, hq, wr]
    · rename_i k p k' q e1 e2 _
      rw [e1] at h1; rw [e2] at h2
      obtain ⟨rfl, hq, hK⟩ := h
      have e3 := h1.i_inv
      have e4 := h2.i_inv
      refine end_same hR hd hk (run _ (by rw [e3]; simp) (by rw [e3]; simp) ?_) (.p _ _ (.i _ _)) hK
      rw [e3, e4]
      simp [binOp, Op.intDiv, hq]
    · rename_i k p k' q e1 e2 _
      rw [e1] at h1; rw [e2] at h2
      obtain ⟨hq, hK⟩ := h
      have e3 := h1.i_inv
      have e4 := h2.i_inv
      refine end_same hR hd hk (run _ (by rw [e3]; simp) (by rw [e3]; simp) ?_) (.p _ _ (.i _ _)) hK
      rw [e3, e4]
      have hq' : ¬ q < 0 := by omega
      simp [binOp, Op.shift, hq', wr]
    · rename_i k p k' q e1 e2 _
      rw [e1] at h1; rw [e2] at h2
      obtain ⟨hq, hK⟩ := h
      have e3 := h1.i_inv
      have e4 := h2.i_inv
      refine end_same hR hd hk (run _ (by rw [e3]; simp) (by rw [e3]; simp) ?_) (.p _ _ (.i _ _)) hK
      rw [e3, e4]
      have hq' : ¬ q < 0 := by omega
      simp [binOp, Op.shift, hq']
    · exact h.elim

theorem equalIn_bool (d : Nat) {t : TypeId} (ht : P.underlying t = some .bool) (p q : Bool) (w : World) : (Op.equalIn (d + 1) t (.bool p) (.bool q)).run P w = .ok (p == q) w := by
  simp only [Op.equalIn, Sem.run_bind, run_underlying ht, Result.andThen_ok]
  rfl

theorem ok_beq {ne : Bool} {t u : TypeId} {x y : Operand} {mx my : MA} (ho : o.op = .binOp (if ne then .neq else .eql) t x y u) (ht : P.underlying t = some .bool) (hx : cArg lv x = some mx) (hy : cArg lv y = some my)
    (hd : o.dst.all (decide <| · < N) = true) (h : withV (beqV ne (st.get mx) (st.get my)) (cDst lv o.dst) K st) : OpOk lv P N o st K := by
  intro a w θ W next Q hR hk
  have h1 := hR.arg hx
  have h2 := hR.arg hy
  obtain ⟨v, hv, hK⟩ := withV_inv h
  unfold beqV at hv
  split at hv
  · rename_i p q e1 e2
    cases hv
    rw [e1] at h1; rw [e2] at h2
    have e3 := h1.b_inv
    have e4 := h2.b_inv
    refine end_same hR hd hk (v := .bool (if ne = true then !(p == q) else (p == q))) ?_ (.p _ _ (.b _)) hK
    have hg := eqGuard_plain (P := P) (if ne then .neq else .eql) t x y (a.eval x) (a.eval y) (by rw [e3]; simp) (by rw [e3]; simp) w
    have he : (Op.equal t (.bool p) (.bool q)).run P w = .ok (p == q) w := by
      exact equalIn_bool 9999 ht p q w
    cases ne
    · simp only [Bool.false_eq_true, if_false] at hg ho ⊢
      simp [execOp, ho, hg]
      rw [e3, e4]
      simp [binOp, he]
    · simp only [if_true] at hg ho ⊢
      simp [execOp, ho, hg]
      rw [e3, e4]
      simp [binOp, he]
  · cases hv

theorem ok_un {op : UnOp} {t : TypeId} {x : Operand} {m : MA} (ho : o.op = .unOp op t x) (hx : cArg lv x = some m)
    (hd : o.dst.all (decide <| · < N) = true) (h : withV (eun op (st.get m)) (cDst lv o.dst) K st) : OpOk lv P N o st K := by
  intro a w θ W next Q hR hk
  have h1 := hR.arg hx
  obtain ⟨v, hv, hK⟩ := withV_inv h
  unfold eun at hv
  split at hv
  · rename_i b e
    split at hv
    · cases hv
      rw [e] at h1
      have e1 := h1.b_inv
      exact end_same hR hd hk (v := .bool (!b)) (by simp [execOp, ho, e1, Op.unary]) (.p _ _ (.b _)) hK
    · cases hv
  · rename_i k n e
    split at hv
    · cases hv
      rw [e] at h1
      have e1 := h1.i_inv
      exact end_same hR hd hk (v := .int k (k.wrap (0 - n))) (by simp [execOp, ho, e1, Op.unary, Op.intArith]) (.p _ _ (.i _ _)) hK
    · cases hv
  · cases hv

theorem ok_conv {s t : TypeId} {k : IntKind} {d : TypeDesc} {x : Operand} {m : MA} (ho : o.op = .convert s t x) (hs : P.underlying s = some d) (ht : P.underlying t = some (.int k)) (hx : cArg lv x = some m)
    (hd : o.dst.all (decide <| · < N) = true) (h : withV (convV k (st.get m)) (cDst lv o.dst) K st) : OpOk lv P N o st K := by
  intro a w θ W next Q hR hk
  have h1 := hR.arg hx
  obtain ⟨v, hv, hK⟩ := withV_inv h
  unfold convV at hv
  split at hv
  · rename_i k' n e
    cases hv
    rw [e] at h1
    have e1 := h1.i_inv
    refine end_same hR hd hk (v := .int k (k.wrap n)) ?_ (.p _ _ (.i _ _)) hK
    simp [execOp, ho, e1, convert, run_underlying hs, run_underlying ht, Conv.intToInt]
  · cases hv

/-- the run of len, by what the value is -/
theorem run_len_slice {c : Call} {t e : TypeId} {x : Operand} {a : Act} {w : World} (ho : o.op = .call c) (hc : c.callee = .builtin .len) (hargs : c.args = #[x]) (ht : c.argTypes[0]? = some t)
    (hu : P.underlying t = some (.slice e)) {ad : Option Addr} {n cap : Nat} (hv : a.eval x = .slice ad n cap) : (execOp a.eval o).run P w = .ok (.value (.int .i64 n)) w := by
  simp [execOp, ho, resolve, hc, hargs, hv, invoke, builtin, Builtin.len_, ht, run_underlying hu, goInt]
theorem run_len_string {c : Call} {t : TypeId} {x : Operand} {a : Act} {w : World} (ho : o.op = .call c) (hc : c.callee = .builtin .len) (hargs : c.args = #[x]) (ht : c.argTypes[0]? = some t)
    (hu : P.underlying t = some .string) {s : ByteArray} (hv : a.eval x = .string s) : (execOp a.eval o).run P w = .ok (.value (.int .i64 s.size)) w := by
  simp [execOp, ho, resolve, hc, hargs, hv, invoke, builtin, Builtin.len_, ht, run_underlying hu, goInt]

end Go.AM

/- The operations, continued: lengths, indexes, slices, parts of structs, calls. -/
set_option linter.all false
namespace Go.AM
variable {lv : List Nat} {P : Program} {N : Nat} {o : Oper} {st : St} {K : St → Prop} {θ : Th} {W : Im}

theorem ok_len {c : Call} {t : TypeId} {s : Bool} {x : Operand} {m : MA} (ho : o.op = .call c) (hc : c.callee = .builtin .len) (hargs : c.args = #[x]) (ht : c.argTypes[0]? = some t)
    (hu : if s then P.underlying t = some .string else ∃ e, P.underlying t = some (.slice e)) (hx : cArg lv x = some m)
    (hd : o.dst.all (decide <| · < N) = true) (h : lenK s (st.get m) (cDst lv o.dst) K st) : OpOk lv P N o st K := by
  intro a w θ W next Q hR hk
  have h1 := hR.arg hx
  unfold lenK at h
  generalize hv : a.eval x = v at h1
  split at h
  · rename_i xs e1
    obtain ⟨e, hu⟩ := hu
    rw [e1] at h1
    cases h1.p_inv with
    | l _ _ _ _ _ _ hm => exact end_same hR hd hk (run_len_slice ho hc hargs ht hu hv) (.p _ _ (.i _ _)) (h hm)
  · rename_i e1
    obtain ⟨e, hu⟩ := hu
    rw [e1] at h1
    cases h1.p_inv
    exact end_same hR hd hk (run_len_slice ho hc hargs ht hu hv) (.p _ _ (.i _ _)) h
  · rename_i y e1
    rw [e1] at h1
    cases h1.p_inv with
    | s _ hm =>
      refine end_same hR hd hk (run_len_string ho hc hargs ht hu hv) (.p _ _ ?_) (h hm)
      have : (ByteArray.mk y.toArray).size = y.length := by show y.toArray.size = _; simp
      rw [this]
      exact .i _ _
  · rename_i id ver off n' e1
    obtain ⟨e, hu⟩ := hu
    rw [e1] at h1
    cases h1 with
    | gsDead _ _ _ _ _ _ _ _ hm => exact end_same hR hd hk (run_len_slice ho hc hargs ht hu hv) (.p _ _ (.i _ _)) (h hm)
    | gsNil => exact end_same hR hd hk (run_len_slice ho hc hargs ht hu hv) (.p _ _ (.i _ _)) (h (Nat.zero_le _))
    | gs _ _ _ _ _ _ _ _ _ _ _ hm => exact end_same hR hd hk (run_len_slice ho hc hargs ht hu hv) (.p _ _ (.i _ _)) (h hm)
  · exact h.elim

theorem add_lit' (ad : Addr) (h : ad.spot = none) (n : Nat) : ad.add n = ⟨ad.block, ad.off + n, none⟩ := by
  cases ad
  simp only at h
  subst h
  exact Addr.add_lit _ _ _

theorem ok_ixs {t e : TypeId} {sz : Nat} {x i : Operand} {mx mi : MA} (ho : o.op = .indexAddr t x i) (ht : P.underlying t = some (.slice e)) (hsz : sizeT P e = some sz) (h0 : 0 < sz) (hx : cArg lv x = some mx) (hi : cArg lv i = some mi)
    (hd : o.dst.all (decide <| · < N) = true) (h : ixsK sz (st.get mx) (st.get mi) (cDst lv o.dst) K st) : OpOk lv P N o st K := by
  intro a w θ W next Q hR hk
  have h1 := hR.arg hx
  have h2 := hR.arg hi
  obtain ⟨inf, hinf, hisz⟩ := sizeT_inv hsz
  unfold ixsK at h
  split at h
  case h_2 => exact h.elim
  case h_1 k n e2 =>
  rw [e2] at h2
  have e3 := h2.i_inv
  have run : ∀ (ad : Addr) (len cap : Nat), a.eval x = .slice (some ad) len cap → 0 ≤ n → n < (len : Int) → (execOp a.eval o).run P w = .ok (.value (.pointer (some (ad.add (n.toNat * sz))))) w := by
    intro ad len cap e h3 h4
    simp [execOp, ho, Instr.indexAt, e, e3, asIntOf, run_underlying ht, h3, h4, sizeOf, typeInfo, hinf, hisz]
  split at h
  · rename_i xs e1
    obtain ⟨hn, r, hr, hrl, hK⟩ := h
    rw [e1] at h1
    generalize hv : a.eval x = v at h1
    have hlt : n.toNat < xs.length := by
      rcases Nat.lt_or_ge n.toNat xs.length with h' | h'
      · exact h'
      · rw [List.getElem?_eq_none h'] at hr; cases hr
    cases h1.p_inv with
    | l _ ad cap sz' f hlen hmax hnil hsp hrow hcell hrel =>
      cases ad with
      | none => have := hnil rfl; omega
      | some ad =>
        have e4 : r.length = sz' := hrow r (List.mem_of_getElem? hr)
        refine end_same hR hd hk (run ad _ cap hv hn (by omega)) ?_ hK
        rw [add_lit' ad (hsp (List.ne_nil_of_mem (List.mem_of_getElem? hr)) ad rfl)]
        exact .ip r ad.block _ (f n.toNat) (fun j q hj => by
          have := hcell n.toNat r j q hr hj ad rfl
          rw [← e4, hrl] at this
          rw [Nat.add_assoc]
          exact this) (fun j q hj => hrel n.toNat r j q hr hj)
  · rename_i id ver off m e1
    obtain ⟨hn, hm, h⟩ := h
    split at h
    · rename_i sz' ver' rs hid
      obtain ⟨rfl, rfl, hK⟩ := h
      rw [e1] at h1
      generalize hv : a.eval x = v at h1
      obtain ⟨q1, q2, q3⟩ := hR.mem.obj id _ hid
      cases h1 with
      | gsDead _ _ _ _ _ _ hdead => rcases q1 with ⟨q1, _⟩ | ⟨b, tot, ty, vs, q1, _⟩ <;> (rw [hdead] at q1; cases q1)
      | gsNil => omega
      | gs _ _ _ _ b sz tot o' cap hat hnc hmm hcap ho' h0' =>
        rcases q1 with ⟨q1, _⟩ | ⟨b', tot', ty, vs, q1, _⟩
        · rw [hat] at q1; cases q1
        · rw [hat] at q1
          cases q1
          refine end_same hR hd hk (run _ _ cap hv hn hm) ?_ hK
          rw [Addr.add_lit, ho' (by omega), ← Nat.add_mul]
          exact .ep id _ (off + n.toNat) 0 b _ tot hat
    · exact h.elim
  · exact h.elim

theorem ok_ixa {t e : TypeId} {len sz : Nat} {x i : Operand} {mx mi : MA} (ho : o.op = .indexAddr t x i) (ht : P.underlying t = some (.array len e)) (hsz : sizeT P e = some sz) (hx : cArg lv x = some mx) (hi : cArg lv i = some mi)
    (hd : o.dst.all (decide <| · < N) = true) (h : ixaK len sz (st.get mx) (st.get mi) (cDst lv o.dst) K st) : OpOk lv P N o st K := by
  intro a w θ W next Q hR hk
  have h1 := hR.arg hx
  have h2 := hR.arg hi
  obtain ⟨inf, hinf, hisz⟩ := sizeT_inv hsz
  unfold ixaK at h
  split at h
  case h_2 => exact h.elim
  case h_1 k n e2 =>
  rw [e2] at h2
  have e3 := h2.i_inv
  split at h
  · rename_i id off e1
    obtain ⟨hn, hm, hK⟩ := h
    have run : ∀ (ad : Addr), a.eval x = .pointer (some ad) → (execOp a.eval o).run P w = .ok (.value (.pointer (some (ad.add (n.toNat * sz))))) w := by
      intro ad e
      simp [execOp, ho, Instr.indexAt, Instr.sureAddr, e, e3, asIntOf, run_underlying ht, hn, hm, sizeOf, typeInfo, hinf, hisz]
    rw [e1] at h1
    generalize hv : a.eval x = v at h1
    cases h1 with
    | ptr _ _ b s tot hat => exact end_same hR hd hk (run _ hv) (by rw [Addr.add_lit]; exact .ptr _ _ b s tot hat) hK
    | ptrDead _ _ ad hat => exact end_same hR hd hk (run _ hv) (.ptrDead _ _ _ hat) hK
  · exact h.elim

theorem ok_ixt {t : TypeId} {x i : Operand} {mx mi : MA} (ho : o.op = .index t x i) (ht : P.underlying t = some .string) (hx : cArg lv x = some mx) (hi : cArg lv i = some mi)
    (hd : o.dst.all (decide <| · < N) = true) (h : ixtK (st.get mx) (st.get mi) (cDst lv o.dst) K st) : OpOk lv P N o st K := by
  intro a w θ W next Q hR hk
  have h1 := hR.arg hx
  have h2 := hR.arg hi
  unfold ixtK at h
  split at h
  case h_2 => exact h.elim
  case h_1 k n e2 =>
  rw [e2] at h2
  have e3 := h2.i_inv
  split at h
  · rename_i y e1
    obtain ⟨hn, c, hc, hK⟩ := h
    rw [e1] at h1
    obtain ⟨e4, _⟩ := h1.s_inv
    refine end_same hR hd hk (v := .int .u8 c.toNat) ?_ (.p _ _ (.i _ _)) hK
    have : (ByteArray.mk y.toArray)[n.toNat]? = some c := by
      have hlt : n.toNat < y.length := by
        rcases Nat.lt_or_ge n.toNat y.length with h' | h'
        · exact h'
        · rw [List.getElem?_eq_none h'] at hc; cases hc
      have hsz : n.toNat < (ByteArray.mk y.toArray).size := by show n.toNat < y.toArray.size; simpa using hlt
      rw [getElem?_pos (ByteArray.mk y.toArray) n.toNat hsz]
      rw [List.getElem?_eq_getElem hlt] at hc
      cases hc
      rfl
    simp [execOp, ho, Instr.index, e3, e4, asIntOf, run_underlying ht, hn, this]
  · exact h.elim

theorem ok_ext {x : Operand} {n : Nat} {m : MA} (ho : o.op = .extract x n) (hx : cArg lv x = some m)
    (hd : o.dst.all (decide <| · < N) = true) (h : withV (extV n (st.get m)) (cDst lv o.dst) K st) : OpOk lv P N o st K := by
  intro a w θ W next Q hR hk
  have h1 := hR.arg hx
  obtain ⟨v, hv, hK⟩ := withV_inv h
  unfold extV at hv
  split at hv
  · rename_i vs e
    rw [e] at h1
    generalize hu : a.eval x = u at h1
    cases h1 with
    | tup _ us hs hc =>
      have hlt : n < us.size := by
        rcases Nat.lt_or_ge n vs.length with h' | h'
        · omega
        · rw [List.getElem?_eq_none h'] at hv; cases hv
      refine end_same hR hd hk (v := us[n]) ?_ (hc n _ _ hv (by simp [hlt])) hK
      simp [execOp, ho, hu, Instr.extract, hlt]
  · cases hv

theorem ok_mkf {f : FuncId} {first caps : Array Operand} {ms : List MA} (ho : o.op = .makeFunc (.func f) first caps) (hf : first = #[]) (hc : cArgs lv caps.toList = some ms)
    (hd : o.dst.all (decide <| · < N) = true) (h : K (st.put (cDst lv o.dst) (.clo f (gets st ms)))) : OpOk lv P N o st K := by
  intro a w θ W next Q hR hk
  obtain ⟨h1, h2⟩ := hR.args hc
  subst hf
  refine end_same hR hd hk (v := .func (.func f) #[] (caps.map a.eval)) ?_ ?_ h
  · simp [execOp, ho, Instr.makeFunc]
  · have e : caps.map a.eval = (caps.toList.map a.eval).toArray := by apply Array.ext'; simp
    rw [e]
    exact .clo f _ _ h1 h2

theorem ok_fld {s : TypeId} {f off n : Nat} {t : TypeId} {g : Bool} {x : Operand} {m : MA} (ho : o.op = .field s x f) (hx : cArg lv x = some m) (hf : fieldOf P s f = some (off, t, n)) (hg : aggT P t = some g)
    (hd : o.dst.all (decide <| · < N) = true) (h : withV (fldV g off n (st.get m)) (cDst lv o.dst) K st) : OpOk lv P N o st K := by
  intro a w θ W next Q hR hk
  have h1 := hR.arg hx
  obtain ⟨v, hv, hK⟩ := withV_inv h
  unfold fldV at hv
  split at hv
  · rename_i cs e
    rw [e] at h1
    generalize hu : a.eval x = u at h1
    cases h1 with
    | st _ vs hs hc h1c =>
      unfold fieldOf at hf
      split at hf
      · rename_i fs hfs
        split at hf
        · rename_i fd hfd
          cases hz : sizeT P fd.type with
          | none => rw [hz] at hf; cases hf
          | some n' =>
            rw [hz] at hf
            cases hf
            obtain ⟨i, hi, rfl⟩ := sizeT_inv hz
            have hag : ∃ d, P.underlying fd.type = some d ∧ (isAgg fd.type).run P w = .ok g w := by
              unfold aggT at hg
              split at hg
              · rename_i fs' e'; cases hg; exact ⟨_, e', by simp [isAgg, run_underlying e']⟩
              · rename_i k e' e''; cases hg; exact ⟨_, e'', by simp [isAgg, run_underlying e'']⟩
              · rename_i d n1 n2 e'
                cases hg
                refine ⟨d, e', ?_⟩
                simp only [isAgg, Sem.run_bind, run_underlying e', Result.andThen_ok]
                cases d <;> first | rfl | (exact (n1 _ rfl).elim) | (exact (n2 _ _ rfl).elim)
              · cases hg
            obtain ⟨d, hd', hrun⟩ := hag
            cases g with
            | false =>
              simp only [ldV, Bool.false_eq_true, if_false] at hv
              have hcell : cs[fd.offset]? = some v := by
                rw [List.head?_drop] at hv
                exact hv
              have hlt : fd.offset < vs.size := by
                rcases Nat.lt_or_ge fd.offset cs.length with h' | h'
                · omega
                · rw [List.getElem?_eq_none h'] at hcell; cases hcell
              refine end_same hR hd hk (v := vs[fd.offset]) ?_ (hc _ _ _ hcell (by simp [hlt])) hK
              simp [execOp, ho, hu, Instr.field, run_underlying hfs, hfd, asAgg, part, hrun, hlt]
            | true =>
              simp only [ldV, if_true] at hv
              cases hus : takeN i.size (cs.drop fd.offset) with
              | none => rw [hus] at hv; cases hv
              | some us =>
                rw [hus] at hv
                cases hv
                obtain ⟨l1, l2⟩ := takeN_len hus
                have hlast : us.length = 0 ∨ fd.offset + us.length ≤ cs.length := by
                  rcases Nat.eq_zero_or_pos us.length with h' | h'
                  · exact .inl h'
                  · have : us[us.length - 1]? = some us[us.length - 1] := by simp [h']
                    have := l2 _ _ this
                    simp only [List.getElem?_drop] at this
                    rcases Nat.lt_or_ge (fd.offset + (us.length - 1)) cs.length with h'' | h''
                    · exact .inr (by omega)
                    · rw [List.getElem?_eq_none h''] at this; cases this
                refine end_same hR hd hk (v := .agg (vs.extract fd.offset (fd.offset + i.size))) ?_ (.st us _ ?_ ?_ ?_) hK
                · simp [execOp, ho, hu, Instr.field, run_underlying hfs, hfd, asAgg, part, hrun, sizeOf, typeInfo, hi]
                · simp only [Array.size_extract]; omega
                · intro j c u hj hu'
                  have := l2 j c hj
                  simp only [List.getElem?_drop] at this
                  simp only [Array.getElem?_extract] at hu'
                  split at hu'
                  · exact hc _ _ _ this hu'
                  · cases hu'
                · intro j u hu'
                  simp only [Array.getElem?_extract] at hu'
                  split at hu'
                  · exact h1c _ _ hu'
                  · cases hu'
        · cases hf
      · cases hf
  · cases hv

theorem ok_mnx {c : Call} {mx : Bool} {x y : Operand} {m1 m2 : MA} (ho : o.op = .call c) (hc : c.callee = .builtin (if mx then .max else .min)) (hargs : c.args = #[x, y]) (hx : cArg lv x = some m1) (hy : cArg lv y = some m2)
    (hd : o.dst.all (decide <| · < N) = true) (h : withV (mnxV mx (st.get m1) (st.get m2)) (cDst lv o.dst) K st) : OpOk lv P N o st K := by
  intro a w θ W next Q hR hk
  have h1 := hR.arg hx
  have h2 := hR.arg hy
  obtain ⟨v, hv, hK⟩ := withV_inv h
  unfold mnxV at hv
  split at hv
  · rename_i k p k' q e1 e2
    split at hv
    · rename_i e; subst e
      cases hv
      rw [e1] at h1; rw [e2] at h2
      have e3 := h1.i_inv
      have e4 := h2.i_inv
      cases mx
      · refine end_same hR hd hk (v := .int k (if q < p then q else p)) ?_ (.p _ _ (.i _ _)) hK
        simp [execOp, ho, resolve, hc, hargs, invoke, builtin, Builtin.min_, Builtin.min2, e3, e4]
      · refine end_same hR hd hk (v := .int k (if q > p then q else p)) ?_ (.p _ _ (.i _ _)) hK
        simp [execOp, ho, resolve, hc, hargs, invoke, builtin, Builtin.max_, Builtin.max2, e3, e4]
    · cases hv
  · cases hv

/-! calls -/
theorem run_callFunc {f : Nat} (hf : HasBody P f) (args : Array Value) (w : World) : (callFunc f args).run P w = .ok (.enter f args) w := by
  obtain ⟨fn, h1, h2, h3⟩ := hf
  have h4 : fn.body.isNone = false := by cases hb : fn.body <;> simp_all
  have h5 : ¬ fn.name = "runtime.NumGoroutine" := by simpa using h3
  have h6 : ¬ fn.body = none := fun e => by rw [e] at h4; cases h4
  simp [callFunc, h1, h5, h6]

theorem end_call {f : Nat} {args : List AV} {vs : Array Value} {a : Act} {w : World} {next : Act → World → Prop} {Q : Exit → Act → World → Prop} (hR : Rl lv N st a w θ W)
    (hd : o.dst.all (decide <| · < N) = true) (hk : ∀ st' a' w' θ' W', K st' → Rl lv N st' a' w' θ' W' → Stp θ W w θ' W' w' → next a' w')
    (hrun : (execOp a.eval o).run P w = .ok (.enter f vs) w) (hargs : Rels θ W args vs) (h : ACall P f args st.H (callK (cDst lv o.dst) K st)) : o.wp P a w next Q := by
  unfold Oper.wp
  rw [hrun]
  refine (h.2 w θ W vs hR.mem hargs).mono ?_
  rintro e w' ⟨v, r, H', θ', W', rfl, hK, hm, hr, hs⟩
  exact hk _ _ _ _ _ hK (hR.put hd hr hm hs) hs

theorem ok_call {c : Call} {f : FuncId} {ms : List MA} (ho : o.op = .call c) (hc : c.callee = .value (.func f)) (hargs : cArgs lv c.args.toList = some ms)
    (hd : o.dst.all (decide <| · < N) = true) (h : ACall P f (gets st ms) st.H (callK (cDst lv o.dst) K st)) : OpOk lv P N o st K := by
  intro a w θ W next Q hR hk
  refine end_call hR hd hk (vs := (c.args.toList.map a.eval).toArray) ?_ (hR.args hargs) h
  have e : c.args.map a.eval = (c.args.toList.map a.eval).toArray := by apply Array.ext'; simp
  simp [execOp, ho, resolve, hc, Act.eval, Deferred.ofValue, invoke, run_callFunc h.1]
  exact e

theorem ok_calv {c : Call} {t : Tmp} {ms : List MA} (ho : o.op = .call c) (hc : c.callee = .value (.tmp t)) (hargs : cArgs lv c.args.toList = some ms)
    (hd : o.dst.all (decide <| · < N) = true) (h : calvK (ACall P) (st.get (cTmp lv t)) (gets st ms) (cDst lv o.dst) K st) : OpOk lv P N o st K := by
  intro a w θ W next Q hR hk
  have h1 := hR.tmpArg t
  unfold calvK at h
  split at h
  · rename_i f caps e
    rw [e] at h1
    generalize hu : a.eval (.tmp t) = u at h1
    cases h1 with
    | clo _ _ vs hs hcc =>
      obtain ⟨r1, r2⟩ := hR.args hargs
      refine end_call hR hd hk (vs := (c.args.toList.map a.eval).toArray ++ vs) ?_ ?_ h
      · have e : c.args.map a.eval = (c.args.toList.map a.eval).toArray := by apply Array.ext'; simp
        simp [execOp, ho, resolve, hc, hu, Deferred.ofValue, invoke, run_callFunc h.1]
        rw [e]
      · refine ⟨by simp at r1 ⊢; omega, fun j c' v hj hv => ?_⟩
        rcases Nat.lt_or_ge j (gets st ms).length with hlt | hge
        · rw [List.getElem?_append_left hlt] at hj
          rw [Array.getElem?_append_left (by omega)] at hv
          exact r2 j c' v hj hv
        · rw [List.getElem?_append_right hge] at hj
          rw [Array.getElem?_append_right (by omega), r1] at hv
          exact hcc _ _ _ hj hv
  · exact h.elim

end Go.AM

/- The operations, continued: slice expressions, new slices, appends, structs and slices that are written out, bytes to a string. -/
set_option linter.all false
namespace Go.AM
variable {lv : List Nat} {P : Program} {N : Nat} {o : Oper} {st : St} {K : St → Prop} {θ : Th} {W : Im}

def optVal (a : Act) : Option Operand → Option Value
  | none => none
  | some x => some (a.eval x)

theorem run_bounds {isSlice : Bool} {lo hi : Option Value} {lo' hi' : Option AV} {len cap : Nat} {R : Nat → Nat → Prop} (hlen : len ≤ cap)
    (hlo : match lo, lo' with | none, none => True | some v, some x => ARel θ W x v | _, _ => False)
    (hhi : match hi, hi' with | none, none => True | some v, some x => ARel θ W x v | _, _ => False)
    (h : bndK lo' hi' len R) : ∃ a b, a ≤ b ∧ b ≤ len ∧ R a b ∧ ∀ w, (Instr.sliceBounds isSlice len cap lo hi none).run P w = .ok (a, b, cap) w := by
  unfold bndK at h
  split at h
  · cases lo with
    | some v => exact hlo.elim
    | none =>
      cases hi with
      | some v => exact hhi.elim
      | none => exact ⟨0, len, Nat.zero_le _, Nat.le_refl _, h, fun w => by simp [Instr.sliceBounds]⟩
  · rename_i k a
    cases lo with
    | none => exact hlo.elim
    | some v =>
      cases hi with
      | some v => exact hhi.elim
      | none =>
        have e := ARel.i_inv hlo
        subst e
        obtain ⟨h1, h2, h3⟩ := h
        exact ⟨a.toNat, len, by omega, Nat.le_refl _, h3, fun w => by simp [Instr.sliceBounds, Instr.sliceBound, asIntOf, h1, h2]⟩
  · rename_i k b
    cases lo with
    | some v => exact hlo.elim
    | none =>
      cases hi with
      | none => exact hhi.elim
      | some v =>
        have e := ARel.i_inv hhi
        subst e
        obtain ⟨h1, h2, h3⟩ := h
        have h4 : b ≤ (cap : Int) := by omega
        exact ⟨0, b.toNat, Nat.zero_le _, by omega, h3, fun w => by simp [Instr.sliceBounds, Instr.sliceBound, asIntOf, h1, h4]⟩
  · rename_i k a k' b
    cases lo with
    | none => exact hlo.elim
    | some v =>
      cases hi with
      | none => exact hhi.elim
      | some v' =>
        have e := ARel.i_inv hlo
        subst e
        have e := ARel.i_inv hhi
        subst e
        obtain ⟨h1, h2, h3, h4⟩ := h
        have h5 : b ≤ (cap : Int) := by omega
        have h6 : 0 ≤ b := by omega
        have h7 : a ≤ (b.toNat : Int) := by omega
        have h8 : ¬ max b 0 < a := by omega
        exact ⟨a.toNat, b.toNat, by omega, by omega, h4, fun w => by simp [Instr.sliceBounds, Instr.sliceBound, asIntOf, h1, h5, h6, h7, h8]⟩
  · exact h.elim

theorem Rl.opt {a : Act} {w : World} (h : Rl lv N st a w θ W) {x : Option Operand} {m : Option MA} (hx : cOpt lv x = some m) :
    match optVal a x, m.map st.get with | none, none => True | some v, some y => ARel θ W y v | _, _ => False := by
  cases x with
  | none => cases hx; trivial
  | some x =>
    simp only [cOpt] at hx
    cases hy : cArg lv x with
    | none => rw [hy] at hx; cases hx
    | some y => rw [hy] at hx; cases hx; exact h.arg hy

theorem optVal_map (a : Act) (x : Option Operand) : x.map a.eval = optVal a x := by cases x <;> rfl

theorem run_slc {t : TypeId} {x : Operand} {lo hi : Option Operand} {a : Act} (ho : o.op = .slice t x lo hi none) {d : TypeDesc} (e : P.underlying t = some d) (hna : ∀ n e, d ≠ .array n e) (w : World) :
    (execOp a.eval o).run P w = ((Instr.slice t (a.eval x) (optVal a lo) (optVal a hi) none).run P w).andThen fun v w => .ok (.value v) w := by
  have : (Instr.sliceAt t (a.eval x) (optVal a lo) (optVal a hi) none).run P w = (Instr.slice t (a.eval x) (optVal a lo) (optVal a hi) none).run P w := by
    cases d <;> first | (exact (hna _ _ rfl).elim) | (simp [Instr.sliceAt, run_underlying e]; done)
  simp [execOp, ho, optVal_map, this]

theorem slcK_none_inv {x : AV} {lo hi : Option AV} {d : MD} (h : slcK none x lo hi d K st) : ∃ y, x = .p (.s y) ∧ bndK lo hi y.length fun a b => K (st.put d (.p (.s ((y.drop a).take (b - a))))) := by
  cases x with
  | p q => cases q with
    | s y => exact ⟨y, rfl, h⟩
    | _ => exact h.elim
  | _ => exact h.elim

theorem ok_slc_string {t : TypeId} {x : Operand} {lo hi : Option Operand} {m : MA} {ml mh : Option MA} (ho : o.op = .slice t x lo hi none) (ht : P.underlying t = some .string) (hx : cArg lv x = some m)
    (hlo : cOpt lv lo = some ml) (hhi : cOpt lv hi = some mh)
    (hd : o.dst.all (decide <| · < N) = true) (h : slcK none (st.get m) (ml.map st.get) (mh.map st.get) (cDst lv o.dst) K st) : OpOk lv P N o st K := by
  intro a w θ W next Q hR hk
  have h1 := hR.arg hx
  have g1 := hR.opt hlo
  have g2 := hR.opt hhi
  have hagg := run_slc (P := P) (a := a) ho ht (fun _ _ => by simp) w
  obtain ⟨y, e1, h⟩ := slcK_none_inv h
  rw [e1] at h1
  obtain ⟨e3, hy⟩ := h1.s_inv
  have hsz : (ByteArray.mk y.toArray).size = y.length := by show y.toArray.size = _; simp
  obtain ⟨p, q, hpq, hq, hK, hrun⟩ := run_bounds (P := P) (isSlice := false) (Nat.le_refl _) g1 g2 h
  refine end_same hR hd hk (v := .string ⟨(((y.drop p).take (q - p))).toArray⟩) ?_ (.p _ _ (.s _ (by simp; omega))) hK
  rw [hagg, e3]
  have he : (ByteArray.mk y.toArray).extract p q = ⟨((y.drop p).take (q - p)).toArray⟩ := by
    apply ByteArray.ext
    rw [ByteArray.data_extract]
    apply Array.ext'
    simp [List.take_drop, Nat.add_sub_cancel' hpq]
  simp [Instr.slice, run_underlying ht, hsz, hrun, he]

theorem ok_slc {t e : TypeId} {sz : Nat} {x : Operand} {lo hi : Option Operand} {m : MA} {ml mh : Option MA} (ho : o.op = .slice t x lo hi none) (ht : P.underlying t = some (.slice e)) (hsz : sizeT P e = some sz) (hx : cArg lv x = some m)
    (hlo : cOpt lv lo = some ml) (hhi : cOpt lv hi = some mh)
    (hd : o.dst.all (decide <| · < N) = true) (h : slcK (some sz) (st.get m) (ml.map st.get) (mh.map st.get) (cDst lv o.dst) K st) : OpOk lv P N o st K := by
  intro a w θ W next Q hR hk
  have h1 := hR.arg hx
  have g1 := hR.opt hlo
  have g2 := hR.opt hhi
  have hagg := run_slc (P := P) (a := a) ho ht (fun _ _ => by simp) w
  obtain ⟨inf, hinf, hisz⟩ := sizeT_inv hsz
  have run : ∀ (ad : Option Addr) (len cap p q : Nat), a.eval x = .slice ad len cap → (∀ w, (Instr.sliceBounds true len cap (optVal a lo) (optVal a hi) none).run P w = .ok (p, q, cap) w) →
      (execOp a.eval o).run P w = .ok (.value (.slice (if cap = p then ad else ad.map (·.add (p * sz))) (q - p) (cap - p))) w := by
    intro ad len cap p q e1 e2
    rw [hagg, e1]
    simp [Instr.slice, run_underlying ht, e2, sizeOf, typeInfo, hinf, hisz]
  generalize hv : a.eval x = v at h1
  unfold slcK at h
  split at h
  case h_5 => exact h.elim
  case h_2 => rename_i e _; cases e
  case h_1 sz' xs e0 e1 =>
    cases e0
    obtain ⟨hall, h⟩ := h
    rw [e1] at h1
    cases h1.p_inv with
    | l _ ad cap sz' f hlen hmax hnil hsp hrow hcell hrel =>
      obtain ⟨p, q, hpq, hq, hK, hrun⟩ := run_bounds (P := P) (isSlice := true) hlen g1 g2 h
      refine end_same hR hd hk (run ad _ cap p q hv hrun) ?_ hK
      have hl : (List.take (q - p) (List.drop p xs)).length = q - p := by simp; omega
      have hget : ∀ (i : Nat) (r : List PV), (List.take (q - p) (List.drop p xs))[i]? = some r → xs[p + i]? = some r ∧ p < q := by
        intro i r hi
        rw [List.getElem?_take] at hi
        split at hi
        · rw [List.getElem?_drop] at hi; exact ⟨hi, by omega⟩
        · cases hi
      refine .p _ _ ?_
      have key := PRel.l (W := W) (List.take (q - p) (List.drop p xs)) (if cap = p then ad else ad.map (·.add (p * sz))) (cap - p) sz' (fun i j => f (p + i) j) (by omega) (by omega) ?_ ?_ (fun r hr => hrow r (List.mem_of_mem_drop (List.mem_of_mem_take hr))) ?_ (fun i r j c hi hj => hrel _ r j c (hget i r hi).1 hj)
      · rw [hl] at key
        exact key
      · intro hno
        split at hno
        · rename_i hcp; omega
        · cases ad with
          | none => have := hnil rfl; omega
          | some ad => cases hno
      · intro hne x' hx'
        have hne' : xs ≠ [] := by rintro rfl; simp at hne
        split at hx'
        · exact hsp hne' x' hx'
        · cases ad with
          | none => cases hx'
          | some ad => cases hx'; simp only [add_lit' ad (hsp hne' ad rfl)]
      · intro i r j c hi hj x' hx'
        obtain ⟨hi', hpq'⟩ := hget i r hi
        rw [if_neg (by omega)] at hx'
        cases ad with
        | none => cases hx'
        | some ad =>
          cases hx'
          have hss : sz = sz' := by
            rw [← hrow r (List.mem_of_getElem? hi'), hall r (List.mem_of_getElem? hi')]
          subst hss
          simp only [add_lit' ad (hsp (List.ne_nil_of_mem (List.mem_of_getElem? hi')) ad rfl)]
          have := hcell (p + i) r j c hi' hj ad rfl
          rw [Nat.add_mul] at this
          rw [show ad.off + p * sz + (i * sz + j) = ad.off + (p * sz + i * sz + j) by omega]
          exact this
  case h_3 sz' e0 e1 =>
    rw [e1] at h1
    cases h1.p_inv
    obtain ⟨p, q, hpq, hq, hK, hrun⟩ := run_bounds (P := P) (isSlice := true) (Nat.le_refl _) g1 g2 h
    obtain rfl : q = 0 := by omega
    obtain rfl : p = 0 := by omega
    exact end_same hR hd hk (run none _ _ _ _ hv hrun) (.p _ _ .nl) hK
  case h_4 sz' id ver off n e0 e1 =>
    cases e0
    rw [e1] at h1
    unfold slcR at h
    split at h
    case h_2 => exact h.elim
    case h_1 sz' ver' rs hid =>
    obtain ⟨rfl, rfl, h⟩ := h
    obtain ⟨q1, q2, q3⟩ := hR.mem.obj id _ hid
    cases h1 with
    | gsDead _ _ _ _ ad cap hdead => rcases q1 with ⟨q1, _⟩ | ⟨b, tot, ty, vs, q1, _⟩ <;> (rw [hdead] at q1; cases q1)
    | gsNil _ _ hn =>
      obtain ⟨p, q, hpq, hq, hK, hrun⟩ := run_bounds (P := P) (isSlice := true) (Nat.le_refl _) g1 g2 h
      obtain rfl : q = 0 := by omega
      obtain rfl : p = 0 := by omega
      exact end_same hR hd hk (run none _ _ _ _ hv hrun) (.gsNil _ _ hn) hK
    | gs _ _ _ _ b sz tot o' cap hat hnc hmm hcap ho' h0' =>
      rcases q1 with ⟨q1, _⟩ | ⟨b', tot', ty, vs, q1, _⟩
      · rw [hat] at q1; cases q1
      rw [hat] at q1
      cases q1
      obtain ⟨p, q, hpq, hq, hK, hrun⟩ := run_bounds (P := P) (isSlice := true) hnc g1 g2 h
      refine end_same hR hd hk (run _ _ cap p q hv hrun) ?_ hK
      by_cases hcp : cap = p
      · rw [if_pos hcp]
        exact .gs id _ _ _ b _ tot o' _ hat (by omega) (by omega) (by omega) (fun hlt => by omega) (fun h0 => h0' (by omega))
      · rw [if_neg hcp]
        simp only [Option.map_some, Addr.add_lit]
        exact .gs id _ _ _ b _ tot _ _ hat (by omega) (by omega) (by omega) (fun _ => by rw [ho' (by omega), Nat.add_mul]) (fun h0 => by
          have e1 : off = 0 := by omega
          have e2 : p = 0 := by omega
          subst e1; subst e2
          rw [h0' rfl]; simp)

end Go.AM

/- The operations, continued: new slices and appends. -/
set_option linter.all false
namespace Go.AM
variable {lv : List Nat} {P : Program} {N : Nat} {o : Oper} {st : St} {K : St → Prop} {θ : Th} {W : Im}

/-- a new object of rows, in a new block -/
theorem newrows {H : List AO} {w w0 : World} (h : SR θ W H w) (sz : Nat) (rs : List (List AV)) (vs : Array Value) (ty : TypeId) (tot : Nat) (hw : w0.heap = w.heap) (hos : w0.os = w.os) (htp : w0.tape = w.tape) (hou : w0.output = w.output)
    (hs : vs.size = tot * sz) (hl : rs.length ≤ tot) (hr : ∀ r ∈ rs, r.length = sz)
    (hc : ∀ (i : Nat) (r : List AV) (j : Nat) (c : AV) (u : Value), rs[i]? = some r → r[j]? = some c → vs[i * sz + j]? = some u → ARel θ W c u) (h1 : ∀ (j : Nat) (u : Value), vs[j]? = some u → u.oneCell' = true) :
    ∃ θ', SR θ' W (H ++ [.rows sz 0 rs]) (w0.alloc (.cells vs ty)) ∧ Stp θ W w θ' W (w0.alloc (.cells vs ty)) ∧ θ' H.length 0 = .at w.heap.size sz tot := by
  obtain ⟨a, b⟩ := h.push (w' := w0.alloc (.cells vs ty)) (.rows sz 0 rs) (.at w.heap.size sz tot) hos htp hou (by simp [hw]) (fun k hb => by rw [RowKit.Below.heap_alloc w0 _ k (by rw [hw]; exact hb), hw]) (fun b sz tot e => by cases e; rfl) (fun e => by cases e)
    (fun hrel => ⟨.inr ⟨w.heap.size, tot, ty, vs, thSet_same _ _ _ _, by rw [← hw]; exact heap_alloc_new w0 _, hs, hl, hr, fun i r j c u hi hj hu => hrel _ _ (hc i r j c u hi hj hu), h1⟩, fun v' hv => by
      rw [thSet_other (by omega)]; exact h.out _ _ (Nat.le_refl _), fun v' hv => by omega⟩)
  exact ⟨_, a, b, thSet_same _ _ _ _⟩

theorem div_lt_of {k n sz : Nat} (h : k < n * sz) : k / sz < n := Nat.div_lt_of_lt_mul (by rw [Nat.mul_comm]; exact h)

theorem ok_mks {t e : TypeId} {i : TypeInfo} {z : List AV} {l c : Operand} {ml mc : MA} (ho : o.op = .makeSlice t l c) (ht : P.underlying t = some (.slice e)) (hi : P.info? e = some i) (hz : zeroOf P e = some z) (hzl : z.length = i.size) (h0 : 0 < i.size)
    (hl : cArg lv l = some ml) (hc : cArg lv c = some mc)
    (hd : o.dst.all (decide <| · < N) = true) (h : mksK i.size i.bytes z (st.get ml) (st.get mc) (cDst lv o.dst) K st) : OpOk lv P N o st K := by
  intro a w θ W next Q hR hk
  have h1 := hR.arg hl
  have h2 := hR.arg hc
  unfold mksK at h
  split at h
  case h_2 => exact h.elim
  case h_1 n c' e1 e2 =>
  obtain ⟨hn, hnc, hb, hc63, hK⟩ := h
  rw [e1] at h1
  rw [e2] at h2
  have e3 := h1.i_inv
  have e4 := h2.i_inv
  obtain ⟨i', zv, hi', hzv, hv⟩ := zeroOf_inv hz
  rw [hi] at hi'
  cases hi'
  obtain ⟨z1, z2, z3⟩ := ofVals1_rel hv θ W
  have hrun := run_make (P := P) w t e i zv ht hi hzv .i64 .i64 n c' hn hnc (by rw [Int.mul_comm]; omega) (by omega)
  have hzs : zv.cells.size = i.size := by rw [← hzl, ← z1]; simp
  have hcell : ∀ k, k < c'.toNat * i.size → (madeCells zv.cells (c'.toNat * i.size))[k]? = zv.cells[k % i.size]? := by
    intro k hk'
    have hm : k % i.size < zv.cells.size := by rw [hzs]; exact Nat.mod_lt _ h0
    simp [madeCells, hk', hzs, hm, Nat.mod_lt _ h0]
  obtain ⟨θ', a1, a2, a3⟩ := newrows hR.mem i.size (List.replicate n.toNat z) (madeCells zv.cells (c'.toNat * i.size)) e c'.toNat rfl rfl rfl rfl (size_madeCells _ _) (by simp; omega) (by simp; intro _; exact hzl)
    (fun p r j q u hp hj hu => by
      rw [List.getElem?_replicate] at hp
      split at hp
      · rename_i hlt
        cases hp
        have hj' : j < z.length := by
          rcases Nat.lt_or_ge j z.length with h' | h'
          · exact h'
          · rw [List.getElem?_eq_none h'] at hj; cases hj
        have hlt2 : p * i.size + j < c'.toNat * i.size := by
          have : (p + 1) * i.size ≤ c'.toNat * i.size := Nat.mul_le_mul_right _ (by omega)
          rw [Nat.add_mul] at this
          omega
        rw [hcell _ hlt2, Nat.mul_comm, Nat.mul_add_mod, Nat.mod_eq_of_lt (by omega)] at hu
        exact z2 j q u hj (by simpa using hu)
      · cases hp)
    (fun j u hu => by
      have hlt : j < c'.toNat * i.size := by
        rcases Nat.lt_or_ge j (c'.toNat * i.size) with h' | h'
        · exact h'
        · rw [Array.getElem?_eq_none (by rw [size_madeCells]; exact h')] at hu; cases hu
      rw [hcell _ hlt] at hu
      exact z3 _ u (by simpa using hu))
  refine end_value hR hd hk (v := .slice (some ⟨w.heap.size, 0, none⟩) n.toNat c'.toNat) ?_ (.gs _ 0 0 n.toNat w.heap.size i.size c'.toNat 0 c'.toNat a3 (by omega) (by unfold maxL; omega) (by omega) (fun _ => by simp) (fun _ => rfl)) a1 a2 hK
  simp [execOp, ho, e3, e4, hrun]

/-! appends -/
/-- what is appended: how the model reads it -/
def Src (P : Program) (θ : Th) (W : Im) (w : World) (sz : Nat) (v : Value) (ys : List (List AV)) : Prop :=
  ∃ news : List Value, news.length = ys.length * sz ∧ (∀ w', (Builtin.lenOf v).run P w' = .ok ys.length w') ∧
    (∀ w' : World, w'.heap = w.heap → (Builtin.firstCells sz ys.length v).run P w' = .ok news.toArray w') ∧
    (∀ u ∈ news, u.oneCell' = true) ∧ ∀ (i : Nat) (r : List AV) (j : Nat) (c : AV) (u : Value), ys[i]? = some r → r[j]? = some c → news[i * sz + j]? = some u → ARel θ W c u

theorem cell_heap {w w' : World} (h : w'.heap = w.heap) (a : Addr) : w'.cell? a = w.cell? a := by simp [World.cell?, h]

theorem src_slice {w : World} {sz : Nat} (h0 : 0 < sz) (ad : Addr) (n cap : Nat) (ys : List (List AV)) (hn : ys.length = n) (hr : ∀ r ∈ ys, r.length = sz)
    (hc : ∀ (i : Nat) (r : List AV) (j : Nat) (c : AV), ys[i]? = some r → r[j]? = some c → ∃ v, w.cell? (ad.add (i * sz + j)) = some v ∧ ARel θ W c v ∧ v.oneCell' = true) :
    Src P θ W w sz (.slice (some ad) n cap) ys := by
  subst hn
  have key : ∀ k, k < ys.length * sz → ∃ r c, ys[k / sz]? = some r ∧ r[k % sz]? = some c ∧ (k / sz) * sz + k % sz = k := by
    intro k hk
    have h1 : k / sz < ys.length := div_lt_of hk
    have h2 : (ys[k / sz]).length = sz := hr _ (List.getElem_mem h1)
    have h3 : k % sz < (ys[k / sz]).length := by rw [h2]; exact Nat.mod_lt _ h0
    exact ⟨ys[k / sz], (ys[k / sz])[k % sz], by simp [h1], by simp [h3], by rw [Nat.mul_comm]; exact Nat.div_add_mod k sz⟩
  have hex : ∀ k, ∃ v : Value, k < ys.length * sz → w.cell? (ad.add k) = some v ∧ v.oneCell' = true := by
    intro k
    by_cases hk : k < ys.length * sz
    · obtain ⟨r, c, h1, h2, h3⟩ := key k hk
      obtain ⟨v, v1, v2, v3⟩ := hc _ r _ c h1 h2
      rw [h3] at v1
      exact ⟨v, fun _ => ⟨v1, v3⟩⟩
    · exact ⟨undef, fun h => (hk h).elim⟩
  obtain ⟨f, hf⟩ := Classical.axiomOfChoice hex
  refine ⟨(List.range (ys.length * sz)).map f, by simp, fun w' => rfl, ?_, ?_, ?_⟩
  · intro w' hw'
    refine run_firstCells_some (P := P) w' sz ys.length ad ys.length cap _ (by simp) (fun j v hj => ?_)
    have hlt : j < ys.length * sz := by
      rcases Nat.lt_or_ge j (ys.length * sz) with h' | h'
      · exact h'
      · rw [List.getElem?_eq_none (by simpa using h')] at hj; cases hj
    simp [hlt] at hj
    subst hj
    rw [cell_heap hw']
    exact (hf j hlt).1
  · intro u hu
    simp only [List.mem_map, List.mem_range] at hu
    obtain ⟨k, hk, rfl⟩ := hu
    exact (hf k hk).2
  · intro i r j c u hi hj hu
    have hlt : i * sz + j < ys.length * sz := by
      rcases Nat.lt_or_ge (i * sz + j) (ys.length * sz) with h' | h'
      · exact h'
      · rw [List.getElem?_eq_none (by simpa using h')] at hu; cases hu
    simp [hlt] at hu
    subst hu
    obtain ⟨v, v1, v2, v3⟩ := hc i r j c hi hj
    have := (hf _ hlt).1
    rw [v1] at this
    cases this
    exact v2

theorem src_none {w : World} {sz : Nat} (cap : Nat) : Src P θ W w sz (.slice none 0 cap) [] :=
  ⟨[], by simp, fun w' => rfl, fun w' _ => by simp [Builtin.firstCells], by simp, fun i r j c u hi => by simp at hi⟩

theorem bytesRows_eq (x : List UInt8) : bytesRows x = x.map fun c => [.p (.i .u8 c.toNat)] := by
  induction x with
  | nil => rfl
  | cons c x ih => simp [bytesRows, ih]

theorem src_ok {H : List AO} {w : World} (hm : SR θ W H w) {sz : Nat} (h0 : 0 < sz) {y : AV} {v : Value} (hv : ARel θ W y v) {ys : List (List AV)} (hs : srcRows H sz y = some ys) (hr : ∀ r ∈ ys, r.length = sz) : Src P θ W w sz v ys := by
  unfold srcRows at hs
  split at hs
  · rename_i xs
    cases hs
    cases hv.p_inv with
    | l _ ad cap sz' f hlen hmax hnil hsp hrow hcell hrel =>
      cases ad with
      | none =>
        have h1 : xs = [] := List.eq_nil_of_length_eq_zero (by have := hnil rfl; omega)
        subst h1
        exact src_none cap
      | some ad =>
        refine src_slice h0 ad _ cap _ (by simp) hr ?_
        intro i r j c hi hj
        simp only [List.getElem?_map] at hi
        cases hx : xs[i]? with
        | none => rw [hx] at hi; cases hi
        | some r0 =>
          rw [hx] at hi
          cases hi
          simp only [List.getElem?_map] at hj
          cases hq : r0[j]? with
          | none => rw [hq] at hj; cases hj
          | some q =>
            rw [hq] at hj
            cases hj
            have hsz : sz' = sz := by
              rw [← hrow r0 (List.mem_of_getElem? hx)]
              have := hr (r0.map .p) (List.mem_map_of_mem (List.mem_of_getElem? hx))
              simpa using this
            subst hsz
            refine ⟨f i j, ?_, .p _ _ (hrel i r0 j q hx hq), (hrel i r0 j q hx hq).one⟩
            rw [add_lit' ad (hsp (List.ne_nil_of_mem (List.mem_of_getElem? hx)) ad rfl)]
            exact hm.imm _ _ _ (hcell i r0 j q hx hq ad rfl)
  · cases hs
    cases hv.p_inv
    exact src_none 0
  · rename_i x
    split at hs
    · rename_i e1
      subst e1
      cases hs
      rw [bytesRows_eq]
      obtain ⟨rfl, hx⟩ := hv.s_inv
      have hsz : (ByteArray.mk x.toArray).size = x.length := by show x.toArray.size = _; simp
      refine ⟨x.map fun b => .int .u8 b.toNat, by simp, fun w' => ?_, fun w' _ => ?_, ?_, ?_⟩
      · simp [Builtin.lenOf, hsz]
      · have he : (ByteArray.mk x.toArray).extract 0 x.length = ⟨x.toArray⟩ := by
          apply ByteArray.ext
          rw [ByteArray.data_extract]
          apply Array.ext'
          simp
        simp [Builtin.firstCells, he]
      · intro u hu
        simp only [List.mem_map] at hu
        obtain ⟨b, _, rfl⟩ := hu
        rfl
      · intro i r j c u hi hj hu
        simp only [List.getElem?_map] at hi
        cases hb : x[i]? with
        | none => rw [hb] at hi; cases hi
        | some b =>
          rw [hb] at hi
          cases hi
          cases j with
          | zero =>
            simp at hj
            subst hj
            simp [hb] at hu
            subst hu
            exact .p _ _ (.i _ _)
          | succ j => simp at hj
    · cases hs
  · rename_i id ver off n
    unfold srcR at hs
    split at hs
    · rename_i sz' ver' rs hid
      split at hs
      · rename_i hc
        obtain ⟨rfl, rfl, hlen⟩ := hc
        cases hs
        obtain ⟨q1, q2, q3⟩ := hm.obj id _ hid
        cases hv with
        | gsDead _ _ _ _ ad cap hdead => rcases q1 with ⟨q1, _⟩ | ⟨b, tot, ty, vs, q1, _⟩ <;> (rw [hdead] at q1; cases q1)
        | gsNil _ _ hn => simp; exact src_none 0
        | gs _ _ _ _ b sz tot o' cap hat hnc hmm hcap ho' h0' =>
          rcases q1 with ⟨q1, _⟩ | ⟨b', tot', ty, vs, q1, g1, g2, g3, g4, g5, g6⟩
          · rw [hat] at q1; cases q1
          rw [hat] at q1
          cases q1
          rcases Nat.eq_zero_or_pos n with rfl | hn
          · simp only [List.take_zero]
            exact src_slice h0 _ 0 cap [] rfl (by simp) (fun i r j c hi => by simp at hi)
          · refine src_slice h0 _ n cap _ (by simp; omega) hr ?_
            intro i r j c hi hj
            rw [List.getElem?_take] at hi
            split at hi
            case isFalse => cases hi
            case isTrue hin =>
            rw [List.getElem?_drop] at hi
            have hrl : r.length = sz' := g4 r (List.mem_of_getElem? hi)
            have hjl : j < r.length := by
              rcases Nat.lt_or_ge j r.length with h' | h'
              · exact h'
              · rw [List.getElem?_eq_none h'] at hj; cases hj
            have hlt : (off + i) * sz' + j < vs.size := by
              have h8 : (off + i + 1) * sz' ≤ tot * sz' := Nat.mul_le_mul_right _ (by omega)
              rw [Nat.add_mul (off + i) 1] at h8
              omega
            refine ⟨vs[(off + i) * sz' + j], ?_, g5 _ r j c _ hi hj (by simp [hlt]), g6 _ _ (Array.getElem?_eq_getElem hlt)⟩
            rw [ho' (by omega), Addr.add_lit, show off * sz' + (i * sz' + j) = (off + i) * sz' + j by rw [Nat.add_mul]; omega]
            simp [World.cell?, g1, hlt]
      · cases hs
    · cases hs
  · cases hs

/-! the run of an append -/
section
variable {t u ty e : TypeId} {i : TypeInfo} {z : Value} {du : TypeDesc}
theorem run_app_room (ht : P.underlying t = some (.slice e)) (hu : P.underlying u = some du) (hdu : (∃ e', du = .slice e') ∨ du = .string) (hi : P.info? e = some i)
    {w : World} {g n cap m : Nat} {cur : Array Value} {ty' : TypeId} (hg : w.heap[g]? = some (.cells cur ty' (0, 0))) {yv : Value} {news : List Value} (hl : news.length = m * i.size)
    (hlen : ∀ w', (Builtin.lenOf yv).run P w' = .ok m w') (hfirst : ∀ w' : World, w'.heap = w.heap → (Builtin.firstCells i.size m yv).run P w' = .ok news.toArray w') (h1 : ∀ u ∈ news, u.oneCell' = true)
    (hroom : n + m ≤ cap) (hfit : n * i.size + news.length ≤ cur.size) :
    (Builtin.append_ #[t, u] ty #[.slice (some ⟨g, 0, none⟩) n cap, yv]).run P w =
      .ok (.slice (some ⟨g, 0, none⟩) (n + m) cap) (w.setRow g (cur.toList.take (n * i.size) ++ news ++ cur.toList.drop (n * i.size + news.length)).toArray) := by
  have hst := run_storeCells_at P g (n * i.size) ty' news 0 cur w hg (by simpa using hfit) h1
  simp only [Nat.add_zero] at hst
  have hf := hfirst w rfl
  rcases hdu with ⟨e', rfl⟩ | rfl <;>
    simp [Builtin.append_, run_underlying ht, run_underlying hu, sizeOf, typeInfo, hi, hlen, hroom, hf, Addr.add_lit, hst]

theorem run_app_none (ht : P.underlying t = some (.slice e)) (hu : P.underlying u = some du) (hdu : (∃ e', du = .slice e') ∨ du = .string) (hi : P.info? e = some i)
    {w : World} {yv : Value} {news : List Value} (hlen : ∀ w', (Builtin.lenOf yv).run P w' = .ok 0 w') (hfirst : ∀ w' : World, w'.heap = w.heap → (Builtin.firstCells i.size 0 yv).run P w' = .ok news.toArray w') :
    (Builtin.append_ #[t, u] ty #[.slice none 0 0, yv]).run P w = .ok (.slice none 0 0) w := by
  have hf := hfirst w rfl
  rcases hdu with ⟨e', rfl⟩ | rfl <;>
    simp [Builtin.append_, run_underlying ht, run_underlying hu, sizeOf, typeInfo, hi, hlen, hf]

theorem run_app_grow (ht : P.underlying t = some (.slice e)) (hu : P.underlying u = some du) (hdu : (∃ e', du = .slice e') ∨ du = .string) (hi : P.info? e = some i) (hz : i.zero = some z)
    {w : World} {base : Option Addr} {n cap m : Nat} {olds : List Value} {yv : Value} {news : List Value}
    (hlen : ∀ w', (Builtin.lenOf yv).run P w' = .ok m w') (hfirst : ∀ w' : World, w'.heap = w.heap → (Builtin.firstCells i.size m yv).run P w' = .ok news.toArray w')
    (hold : ∀ w' : World, w'.heap = w.heap → (Builtin.firstCells i.size n (.slice base n cap)).run P w' = .ok olds.toArray w')
    (hg : cap < n + m) (h63 : n + m ≤ 140737488355328) (hb : (n + m) * i.bytes ≤ 140737488355328) :
    (Builtin.append_ #[t, u] ty #[.slice base n cap, yv]).run P w =
      .ok (.slice (some ⟨w.heap.size, 0, none⟩) (n + m) (grownCap w (n + m) cap e))
        (w.drew.alloc (.cells (olds.toArray ++ news.toArray ++ Builtin.zeroCells z.cells (grownCap w (n + m) cap e - (n + m))) e)) := by
  have hn : ¬ (n + m ≤ cap) := by omega
  have h63' : ¬ (9223372036854775807 < ((n : Int) + (m : Int))) := by omega
  have h48 := growslice_fits (need := n + m) (old := cap) (bytes := i.bytes) (by omega) hb
  have h48' : ¬ (281474976710656 < Builtin.nextslicecap (n + m) cap * i.bytes) := by omega
  have hf := hfirst w.drew rfl
  have hfo := hold w.drew rfl
  rcases hdu with ⟨e', rfl⟩ | rfl
  · simp [Builtin.append_, run_underlying ht, run_underlying hu, sizeOf, typeInfo, zeroValue, hi, hz, hlen, hn, h63', h48', Question.forced, hf, hfo, newRow, grownCap]
    congr 2
    apply Array.ext'
    simp [List.append_assoc]
  · simp [Builtin.append_, run_underlying ht, run_underlying hu, sizeOf, typeInfo, zeroValue, hi, hz, hlen, hn, h63', h48', Question.forced, hf, hfo, newRow, grownCap]
    congr 2
    apply Array.ext'
    simp [List.append_assoc]
end

end Go.AM

/- The operations, at their end: appends, structs and slices that are written out, bytes to a string. -/
set_option linter.all false
namespace Go.AM
variable {lv : List Nat} {P : Program} {N : Nat} {o : Oper} {st : St} {K : St → Prop} {θ : Th} {W : Im}

theorem zeroCells_mem {z : Array Value} {n j : Nat} {u : Value} (h0 : 0 < z.size) (h : (Builtin.zeroCells z n)[j]? = some u) : ∃ k : Nat, z[k]? = some u := by
  have hlt : j < n * z.size := by
    rcases Nat.lt_or_ge j (n * z.size) with h' | h'
    · exact h'
    · rw [Array.getElem?_eq_none (by rw [size_zeroCells]; exact h')] at h; cases h
  have hm := Nat.mod_lt j h0
  refine ⟨j % z.size, ?_⟩
  simp [Builtin.zeroCells, hlt, hm] at h
  simp [hm, h]

/-- the relation of rows that were joined of old ones, new ones and what is spare -/
theorem rows_join {sz n m : Nat} {rs ys : List (List AV)} {olds news : List Value} {zs : Array Value} (hsz : 0 < sz) (hn : n ≤ rs.length) (ho : olds.length = n * sz) (hl : news.length = m * sz) (hm : ys.length = m)
    (hr : ∀ r ∈ rs, r.length = sz) (hy : ∀ r ∈ ys, r.length = sz)
    (h1 : ∀ (i : Nat) (r : List AV) (j : Nat) (c : AV) (u : Value), i < n → rs[i]? = some r → r[j]? = some c → olds[i * sz + j]? = some u → ARel θ W c u)
    (h2 : ∀ (i : Nat) (r : List AV) (j : Nat) (c : AV) (u : Value), ys[i]? = some r → r[j]? = some c → news[i * sz + j]? = some u → ARel θ W c u) :
    ∀ (i : Nat) (r : List AV) (j : Nat) (c : AV) (u : Value), (rs.take n ++ ys)[i]? = some r → r[j]? = some c → (olds ++ news ++ zs.toList)[i * sz + j]? = some u → ARel θ W c u := by
  intro i r j c u hi hj hu
  have htl : (rs.take n).length = n := by simp; omega
  rcases Nat.lt_or_ge i n with hlt | hge
  · rw [List.getElem?_append_left (by omega), List.getElem?_take, if_pos hlt] at hi
    have hrl : r.length = sz := hr r (List.mem_of_getElem? hi)
    have hjl : j < r.length := by
      rcases Nat.lt_or_ge j r.length with h' | h'
      · exact h'
      · rw [List.getElem?_eq_none h'] at hj; cases hj
    have : (i + 1) * sz ≤ n * sz := Nat.mul_le_mul_right _ hlt
    rw [Nat.add_mul] at this
    rw [List.append_assoc, List.getElem?_append_left (by omega)] at hu
    exact h1 i r j c u hlt hi hj hu
  · rw [List.getElem?_append_right (by omega), htl] at hi
    have hrl : r.length = sz := hy r (List.mem_of_getElem? hi)
    have hjl : j < r.length := by
      rcases Nat.lt_or_ge j r.length with h' | h'
      · exact h'
      · rw [List.getElem?_eq_none h'] at hj; cases hj
    have hil : i - n < ys.length := by
      rcases Nat.lt_or_ge (i - n) ys.length with h' | h'
      · exact h'
      · rw [List.getElem?_eq_none h'] at hi; cases hi
    have e1 : i * sz = n * sz + (i - n) * sz := by rw [← Nat.add_mul]; congr 1; omega
    have e2 : (i - n + 1) * sz ≤ m * sz := Nat.mul_le_mul_right _ (by omega)
    rw [Nat.add_mul] at e2
    rw [List.append_assoc, List.getElem?_append_right (by omega), List.getElem?_append_left (by omega)] at hu
    rw [show i * sz + j - olds.length = (i - n) * sz + j by omega] at hu
    exact h2 (i - n) r j c u hi hj hu

theorem arr3 (a b : List Value) (z : Array Value) (j : Nat) : (a.toArray ++ b.toArray ++ z)[j]? = (a ++ b ++ z.toList)[j]? := by
  rw [← Array.getElem?_toList]
  simp

theorem one_join {z : Array Value} {k : Nat} {olds news : List Value} (h0 : 0 < z.size) (h1 : ∀ u ∈ olds, u.oneCell' = true) (h2 : ∀ u ∈ news, u.oneCell' = true) (h3 : ∀ (j : Nat) (u : Value), z[j]? = some u → u.oneCell' = true) :
    ∀ (j : Nat) (u : Value), (olds.toArray ++ news.toArray ++ Builtin.zeroCells z k)[j]? = some u → u.oneCell' = true := by
  intro j u hu
  have hu' : (olds ++ news ++ (Builtin.zeroCells z k).toList)[j]? = some u := by rw [← arr3]; exact hu
  have hmem := List.mem_of_getElem? hu'
  simp only [List.mem_append] at hmem
  rcases hmem with (h | h) | h
  · exact h1 u h
  · exact h2 u h
  · obtain ⟨j', hj'⟩ := List.getElem?_of_mem h
    obtain ⟨k', hk'⟩ := zeroCells_mem h0 (by simpa using hj')
    exact h3 k' u hk'

theorem size_join {z : Array Value} {sz n m nc : Nat} {olds news : List Value} (hz : z.size = sz) (ho : olds.length = n * sz) (hl : news.length = m * sz) (hc : n + m ≤ nc) :
    (olds.toArray ++ news.toArray ++ Builtin.zeroCells z (nc - (n + m))).size = nc * sz := by
  simp only [Array.size_append, List.size_toArray, size_zeroCells, hz, ho, hl, ← Nat.add_mul]
  congr 1
  omega

theorem run_app_op {c : Call} {x y : Operand} {t u : TypeId} (ho : o.op = .call c) (hc : c.callee = .builtin .append) (hargs : c.args = #[x, y]) (hty : c.argTypes = #[t, u]) (a : Act) (w : World) :
    (execOp a.eval o).run P w = ((Builtin.append_ #[t, u] o.type #[a.eval x, a.eval y]).run P w).andThen fun v w => .ok (.value v) w := by
  simp [execOp, ho, resolve, hc, hargs, hty, invoke, builtin]

theorem ok_app {c : Call} {x y : Operand} {t u e : TypeId} {i : TypeInfo} {zl : List AV} {du : TypeDesc} {mx my : MA} (ho : o.op = .call c) (hc : c.callee = .builtin .append) (hargs : c.args = #[x, y]) (hty : c.argTypes = #[t, u])
    (ht : P.underlying t = some (.slice e)) (hu : P.underlying u = some du) (hdu : (∃ e', du = .slice e') ∨ du = .string) (hi : P.info? e = some i) (hz : zeroOf P e = some zl) (hzl : zl.length = i.size) (h0 : 0 < i.size)
    (hx : cArg lv x = some mx) (hy : cArg lv y = some my)
    (hd : o.dst.all (decide <| · < N) = true) (h : appK i.size i.bytes (st.get mx) (st.get my) (cDst lv o.dst) K st) : OpOk lv P N o st K := by
  intro a w θ W next Q hR hk
  have h1 := hR.arg hx
  have h2 := hR.arg hy
  have hrun := run_app_op (P := P) ho hc hargs hty a w
  obtain ⟨i', zv, hi', hzv, hv⟩ := zeroOf_inv hz
  rw [hi] at hi'
  cases hi'
  obtain ⟨z1, z2, z3⟩ := ofVals1_rel hv θ W
  have hzs : zv.cells.size = i.size := by rw [← hzl, ← z1]; simp
  have hz3 : ∀ (j : Nat) (u : Value), zv.cells[j]? = some u → u.oneCell' = true := fun j u hj => z3 j u (by simpa using hj)
  unfold appK appY at h
  split at h
  case h_2 => exact h.elim
  case h_1 ys hys =>
  obtain ⟨hyr, h⟩ := h
  obtain ⟨news, s1, s2, s3, s4, s5⟩ := src_ok (P := P) hR.mem h0 h2 hys hyr
  unfold appX at h
  split at h
  case h_3 => exact h.elim
  case h_1 e1 =>
    obtain ⟨hb, hb63, hK⟩ := h
    rw [e1] at h1
    generalize hva : a.eval x = v at h1 hrun
    cases h1.p_inv
    by_cases hm : ys.length = 0
    · have hys0 : ys = [] := List.eq_nil_of_length_eq_zero hm
      subst hys0
      have hr2 := run_app_none (P := P) (ty := o.type) ht hu hdu hi (w := w) (news := news) s2 s3
      rw [hr2] at hrun
      obtain ⟨a1, a2⟩ := hR.mem.push (w' := w) (.rows i.size 0 []) .nil rfl rfl rfl (Nat.le_refl _) (fun _ _ => rfl) (fun b sz tot e => by cases e) (fun e => by cases e)
        (fun _ => ⟨.inl ⟨thSet_same _ _ _ _, rfl⟩, fun v' hv' => by rw [thSet_other (by omega)]; exact hR.mem.out _ _ (Nat.le_refl _), fun v' hv' => by omega⟩)
      exact end_value hR hd hk hrun (.gsNil _ 0 (thSet_same _ _ _ _)) a1 a2 hK
    · have hr2 := run_app_grow (P := P) (ty := o.type) ht hu hdu hi hzv (w := w) (base := none) (n := 0) (cap := 0) (olds := []) s2 s3 (fun w' _ => rfl) (by omega) (by omega) (by rw [Nat.zero_add]; exact hb)
      rw [hr2] at hrun
      have hge := grownCap_ge w (0 + ys.length) 0 e
      obtain ⟨θ', a1, a2, a3⟩ := newrows (w0 := w.drew) hR.mem i.size ys _ e (grownCap w (0 + ys.length) 0 e) rfl rfl rfl rfl (size_join (n := 0) (m := ys.length) (olds := []) hzs (by simp) s1 hge) (by omega) hyr
        (fun p r j q u hp hj hu' => rows_join (θ := θ) (W := W) (rs := []) (olds := []) (n := 0) (zs := Builtin.zeroCells zv.cells (grownCap w (0 + ys.length) 0 e - (0 + ys.length))) h0 (by simp) (by simp) s1 rfl (by simp) hyr (fun i r j c u hlt => by omega) s5 p r j q u (by simpa using hp) hj (by rw [← arr3]; exact hu'))
        (one_join (olds := []) (by omega) (by simp) s4 hz3)
      refine end_value hR hd hk hrun ?_ a1 a2 hK
      rw [Nat.zero_add] at hge a3 ⊢
      exact .gs _ 0 0 _ w.heap.size i.size _ 0 _ a3 hge (by unfold maxL; omega) (by omega) (fun _ => by simp) (fun _ => rfl)
  case h_2 id ver off n e1 =>
    unfold appR at h
    split at h
    case h_2 => exact h.elim
    case h_1 sz' ver' rs hid =>
    obtain ⟨rfl, rfl, rfl, hnr, hb, hb63, hK⟩ := h
    rw [e1] at h1
    generalize hva : a.eval x = v at h1 hrun
    have hidl : id < st.H.length := by
      rcases Nat.lt_or_ge id st.H.length with h' | h'
      · exact h'
      · rw [List.getElem?_eq_none h'] at hid; cases hid
    obtain ⟨q1, q2, q3⟩ := hR.mem.obj id _ hid
    have grown : ∀ (base : Option Addr) (cap : Nat) (olds : List Value), v = .slice base n cap → θ id ver' ≠ .no → (∀ k sz tot, θ id ver' = .at k sz tot → True) → olds.length = n * i.size → (∀ u ∈ olds, u.oneCell' = true) → (∀ r ∈ rs, r.length = i.size) →
        (∀ w' : World, w'.heap = w.heap → (Builtin.firstCells i.size n (.slice base n cap)).run P w' = .ok olds.toArray w') →
        (∀ (p : Nat) (r : List AV) (j : Nat) (q : AV) (u : Value), p < n → rs[p]? = some r → r[j]? = some q → olds[p * i.size + j]? = some u → ARel θ W q u) → cap < n + ys.length → o.wp P a w next Q := by
      intro base cap olds hvv hno _ hol ho1 hrl hold hor hgt
      have hr2 := run_app_grow (P := P) (ty := o.type) ht hu hdu hi hzv (w := w) (base := base) (n := n) (cap := cap) (olds := olds) s2 s3 hold hgt hb63 hb
      rw [hvv, hr2] at hrun
      have hge := grownCap_ge w (n + ys.length) cap e
      obtain ⟨a1, a2⟩ := hR.mem.grow (w' := w.drew.alloc (.cells (olds.toArray ++ news.toArray ++ Builtin.zeroCells zv.cells (grownCap w (n + ys.length) cap e - (n + ys.length))) e)) id ver' (.rows i.size (ver' + 1) (rs.take n ++ ys)) (.at w.heap.size i.size (grownCap w (n + ys.length) cap e)) hidl hno (q2 _ (by omega)) rfl rfl rfl (by simp)
        (fun k hk' _ => RowKit.Below.heap_alloc w.drew _ k hk') (fun b sz tot e' => by cases e'; exact .inr rfl)
        (fun hrel => ⟨.inr ⟨w.heap.size, _, e, _, thSet_same _ _ _ _, heap_alloc_new w.drew _, size_join hzs hol s1 hge, by simp; omega, fun r hr => by
            rcases List.mem_append.1 hr with hr | hr
            · exact hrl r (List.mem_of_mem_take hr)
            · exact hyr r hr,
          fun p r j q u hp hj hu' => hrel _ _ (rows_join (θ := θ) (W := W) (zs := Builtin.zeroCells zv.cells (grownCap w (n + ys.length) cap e - (n + ys.length))) h0 hnr hol s1 rfl hrl hyr hor s5 p r j q u hp hj (by rw [← arr3]; exact hu')),
          one_join (by omega) ho1 s4 hz3⟩, fun v' hv' => by rw [thSet_other (by omega), thSet_other (by omega)]; exact q2 v' (by omega), fun v' hv' => by
            rw [thSet_other (by omega)]
            by_cases ev : v' = ver'
            · subst ev; exact thSet_same _ _ _ _
            · rw [thSet_other (by omega)]; exact q3 v' (by omega)⟩)
      exact end_value hR hd hk hrun (.gs id _ 0 _ w.heap.size i.size _ 0 _ (thSet_same _ _ _ _) hge (by unfold maxL; omega) (by omega) (fun _ => by simp) (fun _ => rfl)) a1 a2 hK
    cases h1 with
    | gsDead _ _ _ _ ad cap hdead => rcases q1 with ⟨q1, _⟩ | ⟨b, tot, ty, vs, q1, _⟩ <;> (rw [hdead] at q1; cases q1)
    | gsNil _ _ hn =>
      rcases q1 with ⟨_, rfl⟩ | ⟨b, tot, ty, vs, q1, _⟩
      · by_cases hm : ys.length = 0
        · have hys0 : ys = [] := List.eq_nil_of_length_eq_zero hm
          subst hys0
          have hr2 := run_app_none (P := P) (ty := o.type) ht hu hdu hi (w := w) (news := news) s2 s3
          rw [hr2] at hrun
          obtain ⟨a1, a2⟩ := hR.mem.grow (w' := w) id ver' (.rows i.size (ver' + 1) (List.take 0 [] ++ [])) .nil hidl (by rw [hn]; exact fun e' => by cases e') (q2 _ (by omega)) rfl rfl rfl (Nat.le_refl _) (fun _ _ _ => rfl) (fun b sz tot e' => by cases e')
            (fun _ => ⟨.inl ⟨thSet_same _ _ _ _, rfl⟩, fun v' hv' => by rw [thSet_other (by omega), thSet_other (by omega)]; exact q2 v' (by omega), fun v' hv' => by
              rw [thSet_other (by omega)]
              by_cases ev : v' = ver'
              · subst ev; exact thSet_same _ _ _ _
              · rw [thSet_other (by omega)]; exact q3 v' (by omega)⟩)
          exact end_value hR hd hk hrun (.gsNil _ _ (thSet_same _ _ _ _)) a1 a2 hK
        · exact grown none 0 [] rfl (by rw [hn]; exact fun e' => by cases e') (fun _ _ _ _ => trivial) (by simp) (by simp) (by simp) (fun w' _ => rfl) (fun p r j q u hp => by omega) (by omega)
      · rw [hn] at q1; cases q1
    | gs _ _ _ _ b sz tot o' cap hat hnc hmm hcap ho' h0' =>
      rcases q1 with ⟨q1, _⟩ | ⟨b', tot', ty, vs, q1, g1, g2, g3, g4, g5, g6⟩
      · rw [hat] at q1; cases q1
      rw [hat] at q1
      cases q1
      have e0 : o' = 0 := h0' rfl
      subst e0
      have hct : cap = tot := by omega
      subst hct
      by_cases hroom : n + ys.length ≤ cap
      · have hfit : n * i.size + news.length ≤ vs.size := by rw [s1, g2, ← Nat.add_mul]; exact Nat.mul_le_mul_right _ hroom
        have hr2 := run_app_room (P := P) (ty := o.type) ht hu hdu hi (w := w) (n := n) (cap := cap) g1 s1 s2 s3 s4 hroom hfit
        rw [hr2] at hrun
        have hfit' : n * i.size + news.length ≤ vs.toList.length := by simpa using hfit
        obtain ⟨a1, a2⟩ := hR.mem.grow (w' := w.setRow b (vs.toList.take (n * i.size) ++ news ++ vs.toList.drop (n * i.size + news.length)).toArray) id ver' (.rows i.size (ver' + 1) (rs.take n ++ ys)) (.at b i.size cap) hidl (by rw [hat]; exact fun e' => by cases e') (q2 _ (by omega)) rfl rfl rfl (Nat.le_of_eq (size_setRow' _ _ _).symm)
          (fun k hk' hne => setRow_other _ _ _ _ (fun e' => hne _ _ (e' ▸ hat))) (fun b' sz' tot' e' => by cases e'; exact .inl ⟨_, _, hat⟩)
          (fun hrel => ⟨.inr ⟨b, cap, ty, _, thSet_same _ _ _ _, setRow_heap w b vs _ ty _ g1, by simp; omega, by simp; omega, fun r hr => by
              rcases List.mem_append.1 hr with hr | hr
              · exact g4 r (List.mem_of_mem_take hr)
              · exact hyr r hr,
            fun p r j q u hp hj hu' => hrel _ _ (by
              have hol : (vs.toList.take (n * i.size)).length = n * i.size := by simp; omega
              refine rows_join (θ := θ) (W := W) (zs := (vs.toList.drop (n * i.size + news.length)).toArray) h0 hnr hol s1 rfl g4 hyr ?_ s5 p r j q u hp hj (by simpa using hu')
              intro p' r' j' c' u' hlt hp' hj' hu2
              rw [List.getElem?_take] at hu2
              split at hu2
              · exact g5 p' r' j' c' u' hp' hj' (by simpa using hu2)
              · cases hu2),
            fun j u hu' => by
              have hu'' : (vs.toList.take (n * i.size) ++ news ++ vs.toList.drop (n * i.size + news.length))[j]? = some u := by simpa using hu'
              rw [getElem?_over _ _ _ _ hfit'] at hu''
              split at hu''
              · exact g6 j u (by simpa using hu'')
              · split at hu''
                · exact s4 u (List.mem_of_getElem? hu'')
                · exact g6 j u (by simpa using hu'')⟩, fun v' hv' => by rw [thSet_other (by omega), thSet_other (by omega)]; exact q2 v' (by omega), fun v' hv' => by
              rw [thSet_other (by omega)]
              by_cases ev : v' = ver'
              · subst ev; exact thSet_same _ _ _ _
              · rw [thSet_other (by omega)]; exact q3 v' (by omega)⟩)
        exact end_value hR hd hk hrun (.gs id _ 0 _ b i.size cap 0 _ (thSet_same _ _ _ _) hroom (by unfold maxL; omega) (by omega) (fun _ => by simp) (fun _ => rfl)) a1 a2 hK
      · refine grown (some ⟨b, 0, none⟩) cap (vs.toList.take (n * i.size)) rfl (by rw [hat]; exact fun e' => by cases e') (fun _ _ _ _ => trivial) ?_ ?_ g4 ?_ ?_ (by omega)
        · have : n * i.size ≤ cap * i.size := Nat.mul_le_mul_right _ (by omega)
          simp; omega
        · intro u hu'
          obtain ⟨j, hj⟩ := List.getElem?_of_mem (List.mem_of_mem_take hu')
          exact g6 j u (by simpa using hj)
        · intro w' hw'
          refine run_firstCells_some (P := P) w' i.size n _ n cap _ ?_ ?_
          · have : n * i.size ≤ cap * i.size := Nat.mul_le_mul_right _ (by omega)
            simp; omega
          · intro j v hj
            rw [cell_heap hw', Addr.add_lit]
            rw [List.getElem?_take] at hj
            split at hj
            · simpa [World.cell?, g1] using hj
            · cases hj
        · intro p r j q u hlt hp hj hu'
          rw [List.getElem?_take] at hu'
          split at hu'
          · exact g5 p r j q u hp hj (by simpa using hu')
          · cases hu'

end Go.AM

/- The operations, at their end: structs and slices that are written out, bytes to a string. -/
set_option linter.all false
namespace Go.AM
variable {lv : List Nat} {P : Program} {N : Nat} {o : Oper} {st : St} {K : St → Prop} {θ : Th} {W : Im}

/-- cells laid over others, as the model lays them -/
theorem fold_over (off : Nat) : ∀ (l : List Value) (s : Nat) (cs : Array Value), off + s + l.length ≤ cs.size →
    (((l.zipIdx s).foldl (fun (cs : Array Value) (p : Value × Nat) => cs.setIfInBounds (off + p.2) p.1) cs).size = cs.size) ∧
    ∀ k, ((l.zipIdx s).foldl (fun (cs : Array Value) (p : Value × Nat) => cs.setIfInBounds (off + p.2) p.1) cs)[k]? = if off + s ≤ k ∧ k < off + s + l.length then l[k - (off + s)]? else cs[k]?
  | [], s, cs, _ => ⟨rfl, fun k => by rw [if_neg (by simp only [List.length_nil]; omega)]; rfl⟩
  | v :: l, s, cs, h => by
    simp only [List.zipIdx_cons, List.foldl_cons]
    simp only [List.length_cons] at h
    obtain ⟨h1, h2⟩ := fold_over off l (s + 1) (cs.setIfInBounds (off + s) v) (by simp; omega)
    refine ⟨by rw [h1]; simp, fun k => ?_⟩
    rw [h2]
    simp only [List.length_cons]
    by_cases e : k = off + s
    · subst e
      rw [if_neg (by omega), if_pos (by omega)]
      have : off + s < cs.size := by omega
      simp [this]
    · by_cases c : off + (s + 1) ≤ k ∧ k < off + (s + 1) + l.length
      · rw [if_pos c, if_pos (by omega)]
        have e2 : k - (off + s) = (k - (off + (s + 1))) + 1 := by omega
        rw [e2, List.getElem?_cons_succ]
      · rw [if_neg c, if_neg (by omega)]
        rw [Array.getElem?_setIfInBounds_ne (by omega)]

/-- cells and their values: as many, related, each one cell -/
structure CRel (θ : Th) (W : Im) (cs : List AV) (vs : Array Value) : Prop where
  size : vs.size = cs.length
  rel : ∀ (j : Nat) (c : AV) (v : Value), cs[j]? = some c → vs[j]? = some v → ARel θ W c v
  one : ∀ (j : Nat) (v : Value), vs[j]? = some v → v.oneCell' = true

theorem CRel.over {cs us cs' : List AV} {vs uv : Array Value} {off : Nat} (h : CRel θ W cs vs) (hu : CRel θ W us uv) (hs : splice cs off us = some cs') (hne : us ≠ []) :
    off + uv.size ≤ vs.size ∧ CRel θ W cs' (uv.zipIdx.foldl (fun (cs : Array Value) (p : Value × Nat) => cs.setIfInBounds (off + p.2) p.1) vs) := by
  obtain ⟨h1, h2⟩ := splice_spec hs hne
  have hul := hu.size
  have hvl := h.size
  have e : uv.zipIdx.foldl (fun (cs : Array Value) (p : Value × Nat) => cs.setIfInBounds (off + p.2) p.1) vs = (uv.toList.zipIdx 0).foldl (fun (cs : Array Value) (p : Value × Nat) => cs.setIfInBounds (off + p.2) p.1) vs := by
    rw [← Array.foldl_toList, Array.toList_zipIdx]
  obtain ⟨f1, f2⟩ := fold_over off uv.toList 0 vs (by simp; omega)
  refine ⟨by omega, ?_, ?_, ?_⟩
  · rw [e, f1, h2]; simp; omega
  · intro j c v hj hv
    rw [e, f2] at hv
    rw [h2, getElem?_over _ _ _ _ h1] at hj
    simp only [Nat.add_zero, Array.length_toList] at hv
    split at hj
    · rename_i c1
      rw [if_neg (by omega)] at hv
      exact h.rel j c v hj hv
    · rename_i c1
      split at hj
      · rename_i c2
        rw [if_pos (by omega)] at hv
        exact hu.rel _ c v hj (by simpa using hv)
      · rename_i c2
        rw [if_neg (by omega)] at hv
        exact h.rel j c v hj hv
  · intro j v hv
    rw [e, f2] at hv
    split at hv
    · exact hu.one _ v (by simpa using hv)
    · exact h.one j v hv

theorem cells_crel {x : AV} {v : Value} (h : ARel θ W x v) (hx : x.allOne = true) : CRel θ W x.cells v.cells := by
  obtain ⟨a, b, c⟩ := cells_rel h hx
  exact ⟨a, b, c⟩

theorem fill_step (place : Nat → Option (Nat × Nat)) (cells : Array Value) (i : Nat) (v : Value) (rest : List (Nat × Value)) (off size : Nat) (hp : place i = some (off, size)) (h1 : v.cells.size = size) (h2 : off + v.cells.size ≤ cells.size) :
    Instr.fill place cells ((i, v) :: rest) = Instr.fill place (v.cells.zipIdx.foldl (fun (cs : Array Value) (p : Value × Nat) => cs.setIfInBounds (off + p.2) p.1) cells) rest := by
  have h3 : ¬ (v.cells.size ≠ size) := by simp [h1]
  have h4 : ¬ (off + v.cells.size > cells.size) := by omega
  simp [Instr.fill, hp, h1]
  intro h5
  omega

theorem fill_struct {t : TypeId} {fs : Array Field} {a : Act} {w : World} (hR : Rl lv N st a w θ W) (hfs : P.underlying t = some (.struct fs)) (places : Array (Nat × Nat))
    (hpl : ∀ (f : Nat) (fd : Field) (n : Nat), fs[f]? = some fd → sizeT P fd.type = some n → places[f]? = some (fd.offset, n)) :
    ∀ (ps : List (Nat × Operand)) (ms : List (Nat × Nat × MA)) (z z' : List AV) (vs : Array Value), cParts lv P t ps = some ms → partsV st ms z = some z' → CRel θ W z vs → (∀ m ∈ ms, 0 < m.2.1) →
      ∃ vs', Instr.fill (places[·]?) vs (ps.map fun p => (p.1, a.eval p.2)) = some vs' ∧ CRel θ W z' vs' := by
  intro ps
  induction ps with
  | nil =>
    intro ms z z' vs hc hp hr _
    cases hc
    cases hp
    exact ⟨vs, rfl, hr⟩
  | cons p ps ih =>
    obtain ⟨f, x⟩ := p
    intro ms z z' vs hc hp hr hpos
    simp only [cParts] at hc
    split at hc
    case h_2 => cases hc
    case h_1 off ft n m l h1 h2 h3 =>
    cases hc
    rw [partsV_cons] at hp
    split at hp
    case isFalse => cases hp
    case isTrue hcc =>
    simp only [Bool.and_eq_true, beq_iff_eq] at hcc
    have hn : 0 < n := hpos (off, n, m) (by simp)
    have hu := cells_crel (hR.arg h2) hcc.1
    cases hs : splice z off (st.get m).cells with
    | none => rw [hs] at hp; cases hp
    | some z1 =>
      rw [hs] at hp
      have hne : (st.get m).cells ≠ [] := fun e => by rw [e] at hcc; simp at hcc; omega
      obtain ⟨o1, o2⟩ := hr.over hu hs hne
      have hplace : places[f]? = some (off, n) := by
        unfold fieldOf at h1
        rw [hfs] at h1
        simp only at h1
        cases hfd : fs[f]? with
        | none => rw [hfd] at h1; cases h1
        | some fd =>
          rw [hfd] at h1
          simp only at h1
          cases hz : sizeT P fd.type with
          | none => rw [hz] at h1; cases h1
          | some n' => rw [hz] at h1; cases h1; exact hpl f fd n hfd hz
      obtain ⟨vs', v1, v2⟩ := ih l z1 z' _ h3 hp o2 (fun m hm => hpos m (List.mem_cons_of_mem _ hm))
      refine ⟨vs', ?_, v2⟩
      rw [List.map_cons, fill_step _ _ _ _ _ off n hplace (by rw [hu.size, hcc.2]) o1]
      exact v1

theorem run_places_list : ∀ (l : List Field), (∀ f ∈ l, ∃ n, sizeT P f.type = some n) → ∀ w, ∃ ps : List (Nat × Nat), (l.mapM fun f => do pure (f.offset, ← sizeOf f.type) : Sem _).run P w = .ok ps w ∧ ∀ (k : Nat) (fd : Field) (n : Nat), l[k]? = some fd → sizeT P fd.type = some n → ps[k]? = some (fd.offset, n)
  | [], _, w => ⟨[], by simp, fun k fd n hk => by simp at hk⟩
  | f :: l, h, w => by
    obtain ⟨n, hn⟩ := h f (by simp)
    obtain ⟨i, hi, hsz⟩ := sizeT_inv hn
    obtain ⟨ps, h1, h2⟩ := run_places_list l (fun f hf => h f (List.mem_cons_of_mem _ hf)) w
    refine ⟨(f.offset, n) :: ps, ?_, ?_⟩
    · simp only [bind_pure_comp] at h1 ⊢
      simp [List.mapM_cons, sizeOf, typeInfo, hi, hsz] at h1 ⊢
      simp [h1]
    · intro k fd m hk hm
      cases k with
      | zero => simp at hk; subst hk; rw [hn] at hm; cases hm; rfl
      | succ k => simp at hk ⊢; exact h2 k fd m hk hm

theorem run_places (fs : Array Field) (h : ∀ f ∈ fs, ∃ n, sizeT P f.type = some n) (w : World) :
    ∃ places : Array (Nat × Nat), (fs.mapM fun f => do pure (f.offset, ← sizeOf f.type) : Sem _).run P w = .ok places w ∧ ∀ (k : Nat) (fd : Field) (n : Nat), fs[k]? = some fd → sizeT P fd.type = some n → places[k]? = some (fd.offset, n) := by
  obtain ⟨ps, h1, h2⟩ := run_places_list (P := P) fs.toList (fun f hf => h f (by simpa using hf)) w
  refine ⟨ps.toArray, ?_, fun k fd n hk hn => by simpa using h2 k fd n (by simpa using hk) hn⟩
  rw [Array.mapM_eq_mapM_toList]
  simp only [bind_pure_comp] at h1 ⊢
  simp [h1]

theorem ok_build {t : TypeId} {ps : Array (Nat × Operand)} {fs : Array Field} {z : List AV} {ms : List (Nat × Nat × MA)} (ho : o.op = .build t ps) (hfs : P.underlying t = some (.struct fs)) (hsz : ∀ f ∈ fs, ∃ n, sizeT P f.type = some n) (hz : zeroOf P t = some z) (hps : cParts lv P t ps.toList = some ms) (hpos : ∀ m ∈ ms, 0 < m.2.1)
    (hd : o.dst.all (decide <| · < N) = true) (h : withV (buildV st z ms) (cDst lv o.dst) K st) : OpOk lv P N o st K := by
  intro a w θ W next Q hR hk
  obtain ⟨v, hv, hK⟩ := withV_inv h
  obtain ⟨i, zv, hi, hzv, hz1⟩ := zeroOf_inv hz
  obtain ⟨z1, z2, z3⟩ := ofVals1_rel hz1 θ W
  rw [buildV_eq] at hv
  cases hp : partsV st ms z with
  | none => rw [hp] at hv; cases hv
  | some z' =>
    rw [hp] at hv
    cases hv
    obtain ⟨places, p1, p2⟩ := run_places (P := P) fs hsz w
    obtain ⟨vs', f1, f2⟩ := fill_struct hR hfs places p2 ps.toList ms z z' zv.cells hps hp ⟨by simpa using z1, fun j c v hj hv => z2 j c v hj (by simpa using hv), fun j v hv => z3 j v (by simpa using hv)⟩ hpos
    refine end_same hR hd hk (v := .agg vs') ?_ (.st z' vs' f2.size f2.rel f2.one) hK
    have f1' : Instr.fill (places[·]?) zv.cells (ps.map fun x => (x.1, a.eval x.2)).toList = some vs' := by simpa using f1
    simp only [bind_pure_comp] at p1
    simp [execOp, ho, Instr.build, zeroValue, typeInfo, hi, hzv, run_underlying hfs, p1]
    simp at f1'
    rw [f1']
    rfl


/-- rows and the values of their cells -/
structure RRel (θ : Th) (W : Im) (sz : Nat) (rs : List (List AV)) (vs : Array Value) : Prop where
  size : vs.size = rs.length * sz
  len : ∀ r ∈ rs, r.length = sz
  rel : ∀ (i : Nat) (r : List AV) (j : Nat) (c : AV) (v : Value), rs[i]? = some r → r[j]? = some c → vs[i * sz + j]? = some v → ARel θ W c v
  one : ∀ (j : Nat) (v : Value), vs[j]? = some v → v.oneCell' = true

theorem RRel.set {sz : Nat} {rs : List (List AV)} {vs uv : Array Value} {us : List AV} {i : Nat} (h : RRel θ W sz rs vs) (hu : CRel θ W us uv) (hl : us.length = sz) (hi : i < rs.length) :
    i * sz + uv.size ≤ vs.size ∧ RRel θ W sz (rs.set i us) (uv.zipIdx.foldl (fun (cs : Array Value) (p : Value × Nat) => cs.setIfInBounds (i * sz + p.2) p.1) vs) := by
  have hul := hu.size
  have hvl := h.size
  have h8 : (i + 1) * sz ≤ rs.length * sz := Nat.mul_le_mul_right _ hi
  rw [Nat.add_mul] at h8
  have e : uv.zipIdx.foldl (fun (cs : Array Value) (p : Value × Nat) => cs.setIfInBounds (i * sz + p.2) p.1) vs = (uv.toList.zipIdx 0).foldl (fun (cs : Array Value) (p : Value × Nat) => cs.setIfInBounds (i * sz + p.2) p.1) vs := by
    rw [← Array.foldl_toList, Array.toList_zipIdx]
  obtain ⟨f1, f2⟩ := fold_over (i * sz) uv.toList 0 vs (by simp; omega)
  refine ⟨by omega, ?_, ?_, ?_, ?_⟩
  · rw [e, f1]; simpa using hvl
  · intro r hr
    rcases List.mem_or_eq_of_mem_set hr with hr | rfl
    · exact h.len r hr
    · exact hl
  · intro k r j c v hk hj hv
    rw [e, f2] at hv
    simp only [Nat.add_zero, Array.length_toList] at hv
    by_cases hki : k = i
    · subst hki
      rw [List.getElem?_set_self hi] at hk
      cases hk
      have hjl : j < us.length := by
        rcases Nat.lt_or_ge j us.length with h' | h'
        · exact h'
        · rw [List.getElem?_eq_none h'] at hj; cases hj
      rw [if_pos (by omega), show k * sz + j - k * sz = j by omega] at hv
      exact hu.rel j c v hj (by simpa using hv)
    · rw [List.getElem?_set_ne (Ne.symm hki)] at hk
      have hrl := h.len r (List.mem_of_getElem? hk)
      have hjl : j < r.length := by
        rcases Nat.lt_or_ge j r.length with h' | h'
        · exact h'
        · rw [List.getElem?_eq_none h'] at hj; cases hj
      have hout : ¬ (i * sz ≤ k * sz + j ∧ k * sz + j < i * sz + uv.size) := by
        rintro ⟨q1, q2⟩
        rcases Nat.lt_or_gt_of_ne hki with hl' | hl'
        · have := Nat.mul_le_mul_right sz hl'; rw [Nat.succ_mul] at this; omega
        · have := Nat.mul_le_mul_right sz hl'; rw [Nat.succ_mul] at this; omega
      rw [if_neg hout] at hv
      exact h.rel k r j c v hk hj hv
  · intro j v hv
    rw [e, f2] at hv
    split at hv
    · exact hu.one _ v (by simpa using hv)
    · exact h.one j v hv

theorem fill_rows {sz : Nat} {a : Act} {w : World} (hR : Rl lv N st a w θ W) :
    ∀ (ps : List (Nat × Operand)) (ms : List (Nat × MA)) (rs rs' : List (List AV)) (vs : Array Value), cElems lv ps = some ms → rowsV st sz ms rs = some rs' → RRel θ W sz rs vs →
      ∃ vs', Instr.fill (fun i => some (i * sz, sz)) vs (ps.map fun p => (p.1, a.eval p.2)) = some vs' ∧ RRel θ W sz rs' vs' ∧ rs'.length = rs.length := by
  intro ps
  induction ps with
  | nil =>
    intro ms rs rs' vs hc hp hr
    cases hc
    cases hp
    exact ⟨vs, rfl, hr, rfl⟩
  | cons p ps ih =>
    obtain ⟨i, x⟩ := p
    intro ms rs rs' vs hc hp hr
    simp only [cElems] at hc
    split at hc
    case h_2 => cases hc
    case h_1 m l h1 h2 =>
    cases hc
    rw [rowsV_cons] at hp
    split at hp
    case isFalse => cases hp
    case isTrue hcc =>
    simp only [Bool.and_eq_true, beq_iff_eq, decide_eq_true_eq] at hcc
    have hu := cells_crel (hR.arg h1) hcc.1.1
    obtain ⟨o1, o2⟩ := hr.set hu hcc.1.2 hcc.2
    obtain ⟨vs', v1, v2, v3⟩ := ih l (rs.set i (st.get m).cells) rs' _ h2 hp o2
    refine ⟨vs', ?_, v2, by rw [v3]; simp⟩
    rw [List.map_cons, fill_step _ _ _ _ _ (i * sz) sz rfl (by rw [hu.size, hcc.1.2]) o1]
    exact v1

theorem ok_bsl {t e : TypeId} {n sz : Nat} {ps : Array (Nat × Operand)} {z : List AV} {ms : List (Nat × MA)} (ho : o.op = .buildSlice t n ps) (ht : P.underlying t = some (.slice e)) (hsz : sizeT P e = some sz) (hz : zeroOf P e = some z) (hzl : z.length = sz) (h0 : 0 < sz) (hmax : n * sz ≤ 16777216)
    (hps : cElems lv ps.toList = some ms) (hd : o.dst.all (decide <| · < N) = true) (h : newK ((rowsV st sz ms (List.replicate n z)).map fun rs => .rows sz 0 rs) (fun id => .gs id 0 0 n) (cDst lv o.dst) K st) : OpOk lv P N o st K := by
  intro a w θ W next Q hR hk
  obtain ⟨i, zv, hi, hzv, hz1⟩ := zeroOf_inv hz
  obtain ⟨z1, z2, z3⟩ := ofVals1_rel hz1 θ W
  obtain ⟨i', hi', hisz⟩ := sizeT_inv hsz
  rw [hi] at hi'
  cases hi'
  cases hrs : rowsV st sz ms (List.replicate n z) with
  | none => rw [hrs] at h; exact h.elim
  | some rs =>
    rw [hrs] at h
    have hzs : zv.cells.size = sz := by rw [← hzl, ← z1]; simp
    have hcell : ∀ k, k < n * sz → (madeCells zv.cells (n * sz))[k]? = zv.cells[k % sz]? := by
      intro k hk'
      have hm : k % sz < zv.cells.size := by rw [hzs]; exact Nat.mod_lt _ h0
      simp [madeCells, hk', hzs, hm, Nat.mod_lt _ h0]
    have hrr : RRel θ W sz (List.replicate n z) (madeCells zv.cells (n * sz)) := by
      refine ⟨by rw [size_madeCells]; simp, by simp; intro _; exact hzl, ?_, ?_⟩
      · intro p r j q u hp hj hu
        rw [List.getElem?_replicate] at hp
        split at hp
        · rename_i hlt
          cases hp
          have hj' : j < z.length := by
            rcases Nat.lt_or_ge j z.length with h' | h'
            · exact h'
            · rw [List.getElem?_eq_none h'] at hj; cases hj
          have hlt2 : p * sz + j < n * sz := by
            have : (p + 1) * sz ≤ n * sz := Nat.mul_le_mul_right _ (by omega)
            rw [Nat.add_mul] at this
            omega
          rw [hcell _ hlt2, Nat.mul_comm, Nat.mul_add_mod, Nat.mod_eq_of_lt (by omega)] at hu
          exact z2 j q u hj (by simpa using hu)
        · cases hp
      · intro j u hu
        have hlt : j < n * sz := by
          rcases Nat.lt_or_ge j (n * sz) with h' | h'
          · exact h'
          · rw [Array.getElem?_eq_none (by rw [size_madeCells]; exact h')] at hu; cases hu
        rw [hcell _ hlt] at hu
        exact z3 _ u (by simpa using hu)
    obtain ⟨vs', f1, f2, f3⟩ := fill_rows hR ps.toList ms _ rs _ hps hrs hrr
    have hrl : rs.length = n := by rw [f3]; simp
    obtain ⟨θ', a1, a2, a3⟩ := newrows (w0 := w) hR.mem sz rs vs' e n rfl rfl rfl rfl (by rw [f2.size, hrl]) (by omega) f2.len f2.rel f2.one
    have hn1 : n ≤ n * sz := Nat.le_mul_of_pos_right n h0
    refine end_value hR hd hk (v := .slice (some ⟨w.heap.size, 0, none⟩) n n) ?_ (.gs _ 0 0 n w.heap.size sz n 0 n a3 (Nat.le_refl _) (by unfold maxL; omega) (by omega) (fun _ => by simp) (fun _ => rfl)) a1 a2 h
    have hnm : ¬ 16777216 < n * i.size := by rw [hisz]; omega
    have e2 : Array.map (fun x => zv.cells[x % zv.cells.size]!) (Array.range (n * sz)) = madeCells zv.cells (n * sz) := rfl
    have f1' : Instr.fill (fun i => some (i * sz, sz)) (madeCells zv.cells (n * sz)) (List.map (fun x => (x.1, a.eval x.2)) ps.toList) = some vs' := by simpa using f1
    by_cases hn0 : n = 0
    · subst hn0
      have e3 : Array.map (fun _ => (default : Value)) (Array.range 0) = madeCells zv.cells (0 * sz) := by
        apply Array.ext'
        simp [madeCells]
      simp [execOp, ho, Instr.buildSlice, run_underlying ht, sizeOf, typeInfo, hi, newRow]
      rw [hisz, e3, f1']
      rfl
    · have hne : ¬ n * i.size = 0 := by rw [hisz]; exact fun e => by rcases Nat.mul_eq_zero.1 e with e | e <;> omega
      simp [execOp, ho, Instr.buildSlice, run_underlying ht, sizeOf, typeInfo, zeroValue, hi, hzv, hnm, newRow, hn0]
      rw [if_neg (by omega)]
      rw [hisz, e2, f1']
      rfl

theorem bytesOf_spec {ys : List (List AV)} {l : List UInt8} (h : bytesOf ys = some l) : ∃ ns : List Int, ys = ns.map (fun n => [AV.p (.i .u8 n)]) ∧ l = ns.map (fun n => UInt8.ofNat n.toNat) := by
  induction ys generalizing l with
  | nil => cases h; exact ⟨[], rfl, rfl⟩
  | cons y ys ih =>
    unfold bytesOf at h
    split at h
    · rename_i e; cases e
    · rename_i n xs e
      cases e
      cases hb : bytesOf ys with
      | none => rw [hb] at h; cases h
      | some l' =>
        rw [hb] at h
        cases h
        obtain ⟨ns, h1, h2⟩ := ih hb
        exact ⟨n :: ns, by rw [h1]; rfl, by rw [h2]; rfl⟩
    · cases h

theorem ok_b2s {s t e : TypeId} {x : Operand} {m : MA} (ho : o.op = .convert s t x) (hs : P.underlying s = some (.slice e)) (he : P.underlying e = some (.int .u8)) (ht : P.underlying t = some .string) (hx : cArg lv x = some m)
    (hd : o.dst.all (decide <| · < N) = true) (h : withV (b2sV st.H (st.get m)) (cDst lv o.dst) K st) : OpOk lv P N o st K := by
  intro a w θ W next Q hR hk
  have h1 := hR.arg hx
  obtain ⟨v, hv, hK⟩ := withV_inv h
  have hb2 : ∃ ys l, srcRows st.H 1 (st.get m) = some ys ∧ ys.length ≤ 140737488355328 ∧ bytesOf ys = some l ∧ v = .p (.s l) ∧ ∀ s, a.eval x ≠ .string s := by
    have inv : ∀ o', b2sR o' = some v → ∃ ys l, o' = some ys ∧ ys.length ≤ 140737488355328 ∧ bytesOf ys = some l ∧ v = .p (.s l) := by
      intro o' ho'
      cases o' with
      | none => cases ho'
      | some ys =>
        simp only [b2sR] at ho'
        split at ho'
        · rename_i hl
          cases hb : bytesOf ys with
          | none => rw [hb] at ho'; cases ho'
          | some l => rw [hb] at ho'; cases ho'; exact ⟨ys, l, rfl, hl, hb, rfl⟩
        · cases ho'
    unfold b2sV at hv
    split at hv
    · rename_i ys e
      rw [e] at h1
      obtain ⟨ys', l, q1, q2, q3, q4⟩ := inv _ hv
      exact ⟨ys', l, by rw [e]; exact q1, q2, q3, q4, fun s hs => by rw [hs] at h1; cases h1.p_inv⟩
    · rename_i e
      rw [e] at h1
      obtain ⟨ys', l, q1, q2, q3, q4⟩ := inv _ hv
      cases q1
      exact ⟨[], l, by rw [e]; rfl, q2, q3, q4, fun s hs => by rw [hs] at h1; cases h1.p_inv⟩
    · rename_i id ver off n e
      rw [e] at h1
      obtain ⟨ys', l, q1, q2, q3, q4⟩ := inv _ hv
      exact ⟨ys', l, by rw [e]; exact q1, q2, q3, q4, fun s hs => by rw [hs] at h1; cases h1⟩
    · cases hv
  obtain ⟨ys, l, hys, hlen, hb, rfl, hstr⟩ := hb2
  obtain ⟨ns, e1, e2⟩ := bytesOf_spec hb
  obtain ⟨news, s1, s2, s3, s4, s5⟩ := src_ok (P := P) hR.mem (Nat.one_pos) h1 hys (by rw [e1]; intro r hr; simp only [List.mem_map] at hr; obtain ⟨n, _, rfl⟩ := hr; rfl)
  have hll : l.length = ys.length := by rw [e2, e1]; simp
  have hnews : news = ns.map (Value.int .u8) := by
    apply List.ext_getElem?
    intro k
    by_cases hk' : k < ns.length
    · have hkn : k < news.length := by rw [s1, e1]; simpa using hk'
      have := s5 k [AV.p (.i .u8 ns[k])] 0 (.p (.i .u8 ns[k])) news[k] (by rw [e1]; simp [hk']) rfl (by simp [hkn])
      have := this.i_inv
      simp [hk', hkn, this]
    · rw [List.getElem?_eq_none (by rw [s1, e1]; simp; omega), List.getElem?_eq_none (by simp; omega)]
  refine end_same hR hd hk (v := .string ⟨l.toArray⟩) ?_ (.p _ _ (.s _ (by rw [hll]; unfold maxL; omega))) hK
  generalize hva : a.eval x = va at h1 s2 s3 hstr
  have hsl : ∃ ad n cap, va = .slice ad n cap := by
    cases va with
    | slice ad n cap => exact ⟨ad, n, cap, rfl⟩
    | string s => exact (hstr s rfl).elim
    | _ => have := s2 w; simp [Builtin.lenOf] at this
  obtain ⟨ad, n, cap, rfl⟩ := hsl
  have hn : n = ys.length := by
    have := s2 w
    simp [Builtin.lenOf] at this
    exact this
  have hc := run_convert_bytes_string (P := P) w s t e ad n cap hs he ht
  cases ad with
  | none =>
    have h3 := s3 w rfl
    simp [Builtin.firstCells] at h3
    have hn0 : ns = [] := by
      rw [hnews] at h3
      cases ns with
      | nil => rfl
      | cons n ns => cases h3
    subst hn0
    simp at e2
    subst e2
    simp [execOp, ho, hva, hc, Conv.bytesToString]
    rfl
  | some ad =>
    have h3 := s3 w rfl
    have hload : (loadCells ad n).run P w = .ok (ns.map (Value.int .u8)).toArray w := by
      simpa [Builtin.firstCells, hn, hnews] using h3
    have hb2 := run_bytesToString (P := P) w ad n cap ns hload
    simp [execOp, ho, hva, hc, hb2, foldl_push_bytes]
    rw [e2]

end Go.AM

/- The whole: what the evaluation of a body's small code says, the model's run of the body does. -/
set_option linter.all false
namespace Go.AM
variable {lv : List Nat} {P : Program} {N : Nat} {o : Oper} {st : St} {K : St → Prop} {θ : Th} {W : Im}

theorem map_some_inv {α β : Type} {f : α → β} {x : Option α} {y : β} (h : x.map f = some y) : ∃ a, x = some a ∧ f a = y := by
  cases x with
  | none => cases h
  | some a => exact ⟨a, rfl, by simpa using h⟩

theorem args_one {c : Call} {m : MA} (h : cArgs lv c.args.toList = some [m]) : ∃ x, c.args = #[x] ∧ cArg lv x = some m := by
  cases hl : c.args.toList with
  | nil => rw [hl] at h; cases h
  | cons x xs =>
    rw [hl] at h
    simp only [cArgs] at h
    split at h
    · rename_i a l h1 h2
      cases h
      cases xs with
      | nil => exact ⟨x, by apply Array.ext'; simpa using hl, h1⟩
      | cons y ys =>
        simp only [cArgs] at h2
        split at h2
        · cases h2
        · cases h2
    · cases h

theorem args_two {c : Call} {m n : MA} (h : cArgs lv c.args.toList = some [m, n]) : ∃ x y, c.args = #[x, y] ∧ cArg lv x = some m ∧ cArg lv y = some n := by
  cases hl : c.args.toList with
  | nil => rw [hl] at h; cases h
  | cons x xs =>
    rw [hl] at h
    simp only [cArgs] at h
    split at h
    · rename_i a l h1 h2
      cases h
      cases xs with
      | nil => cases h2
      | cons y ys =>
        simp only [cArgs] at h2
        split at h2
        · rename_i b l h3 h4
          cases h2
          cases ys with
          | nil => exact ⟨x, y, by apply Array.ext'; simpa using hl, h1, h3⟩
          | cons z zs =>
            simp only [cArgs] at h4
            split at h4
            · cases h4
            · cases h4
        · cases h2
    · cases h

theorem call_ok {c : Call} {m : MO} (ho : o.op = .call c) (hm : cCall lv P c = some m) (hd : o.dst.all (decide <| · < N) = true) (h : stepU (ACall P) m (cDst lv o.dst) K st) : OpOk lv P N o st K := by
  unfold cCall at hm
  split at hm
  · rename_i f as hc ha
    split at hm
    · split at hm
      · cases hm; exact ok_call ho hc ha hd h
      · cases hm
    · cases hm
  · rename_i t as hc ha
    cases hm
    exact ok_calv ho hc ha hd h
  · rename_i x hc ha
    obtain ⟨y, hy, hx⟩ := args_one ha
    cases ht : c.argTypes[0]? with
    | none => rw [ht] at hm; cases hm
    | some t =>
      rw [ht] at hm
      simp only [Option.bind_some] at hm
      split at hm
      · rename_i e he; cases hm; exact ok_len (s := false) ho hc hy ht ⟨e, he⟩ hx hd h
      · rename_i he; cases hm; exact ok_len (s := true) ho hc hy ht he hx hd h
      · cases hm
  · rename_i x y hc ha
    obtain ⟨x', y', hy, hx1, hx2⟩ := args_two ha
    split at hm
    case h_2 => cases hm
    case h_1 t u0 htu =>
    have hty : c.argTypes = #[t, u0] := by apply Array.ext'; simpa using htu
    split at hm
    case h_1 => cases hm
    case h_2 u hu =>
    split at hm
    case h_2 => cases hm
    case h_1 e he =>
    split at hm
    case h_2 => cases hm
    case h_1 i hi =>
    have he' : P.underlying t = some (.slice e) := by
      unfold elemT at he
      split at he
      · rename_i e' h'; cases he; exact h'
      · cases he
    split at hm
    · rename_i z e' hz
      split at hm
      · rename_i hcc
        simp only [Bool.and_eq_true, beq_iff_eq, decide_eq_true_eq] at hcc
        cases hm
        exact ok_app ho hc hy hty he' hu (.inl ⟨e', rfl⟩) hi hz hcc.1 hcc.2 hx1 hx2 hd h
      · cases hm
    · rename_i z hz
      split at hm
      · rename_i hcc
        simp only [Bool.and_eq_true, beq_iff_eq, decide_eq_true_eq] at hcc
        cases hm
        exact ok_app ho hc hy hty he' hu (.inr rfl) hi hz hcc.1 hcc.2 hx1 hx2 hd h
      · cases hm
    · cases hm
  · rename_i x y hc ha
    obtain ⟨x', y', hy, hx1, hx2⟩ := args_two ha
    cases hm
    exact ok_mnx (mx := false) ho hc hy hx1 hx2 hd h
  · rename_i x y hc ha
    obtain ⟨x', y', hy, hx1, hx2⟩ := args_two ha
    cases hm
    exact ok_mnx (mx := true) ho hc hy hx1 hx2 hd h
  · cases hm

theorem step_ok {m : MO} (hm : cOp lv P o.op = some m) (hd : o.dst.all (decide <| · < N) = true) (h : stepU (ACall P) m (cDst lv o.dst) K st) : OpOk lv P N o st K := by
  cases ho : o.op with
  | move x => rw [ho] at hm; obtain ⟨a, ha, rfl⟩ := map_some_inv hm; exact ok_mv (.inl ho) ha hd h
  | assign x => rw [ho] at hm; obtain ⟨a, ha, rfl⟩ := map_some_inv hm; exact ok_mv (.inr ho) ha hd h
  | pick c x y =>
    rw [ho] at hm
    simp only [cOp] at hm
    split at hm
    · rename_i h1 h2 h3; cases hm; exact ok_pick ho h1 h2 h3 hd h
    · cases hm
  | alloc t => rw [ho] at hm; obtain ⟨z, hz, rfl⟩ := map_some_inv hm; exact ok_alloc ho hz hd h
  | box t x =>
    rw [ho] at hm
    simp only [cOp] at hm
    split at hm
    · rename_i h1 h2; cases hm; exact ok_box ho h1 hd h
    · cases hm
  | build t ps =>
    rw [ho] at hm
    simp only [cOp] at hm
    split at hm
    · rename_i fs hfs
      split at hm
      · rename_i z ms hz hps
        split at hm
        · rename_i hcc
          simp only [Bool.and_eq_true, List.all_eq_true, decide_eq_true_eq] at hcc
          cases hm
          exact ok_build ho hfs (fun f hf => Option.isSome_iff_exists.1 (hcc.1 f (by simpa using hf))) hz hps hcc.2 hd h
        · cases hm
      · cases hm
    · cases hm
  | buildSlice t n ps =>
    rw [ho] at hm
    simp only [cOp] at hm
    split at hm
    · rename_i e he
      have he' : P.underlying t = some (.slice e) := by
        unfold elemT at he
        split at he
        · rename_i e' h'; cases he; exact h'
        · cases he
      split at hm
      · rename_i sz z ms hsz hz hps
        split at hm
        · rename_i hcc
          simp only [Bool.and_eq_true, beq_iff_eq, decide_eq_true_eq] at hcc
          cases hm
          exact ok_bsl ho he' hsz hz hcc.1.1 hcc.1.2 hcc.2 hps hd h
        · cases hm
      · cases hm
    · cases hm
  | load t x =>
    rw [ho] at hm
    simp only [cOp] at hm
    split at hm
    · rename_i h1 h2 h3; cases hm; exact ok_ld ho h1 h2 h3 hd h
    · cases hm
  | store t x v =>
    rw [ho] at hm
    simp only [cOp] at hm
    split at hm
    · rename_i h1 h2 h3
      split at hm
      · rename_i hn; cases hm; exact ok_sto ho h1 h2 h3 (by simpa using hn) hd h
      · cases hm
    · cases hm
  | nilCheck x => rw [ho] at hm; obtain ⟨a, ha, rfl⟩ := map_some_inv hm; exact ok_nilc ho ha hd h
  | binOp op t x y u =>
    rw [ho] at hm
    simp only [cOp] at hm
    split at hm
    · rename_i h1 h2 h3; cases hm; exact ok_bin ho h1 h2 hd h
    · rename_i h1 h2 h3; cases hm; exact ok_bin ho h1 h2 hd h
    · rename_i h1 h2 h3
      split at hm
      · cases hm; exact ok_beq (ne := false) ho h3 h1 h2 hd h
      · cases hm; exact ok_beq (ne := true) ho h3 h1 h2 hd h
      · cases hm
    · cases hm
  | unOp op t x => rw [ho] at hm; obtain ⟨a, ha, rfl⟩ := map_some_inv hm; exact ok_un ho ha hd h
  | convert s t x =>
    rw [ho] at hm
    simp only [cOp] at hm
    split at hm
    · rename_i h1 h2 h3; cases hm; exact ok_conv ho h2 h3 h1 hd h
    · rename_i h1 h2 h3
      split at hm
      · rename_i h4; cases hm; exact ok_b2s ho h2 h4 h3 h1 hd h
      · cases hm
    · cases hm
  | makeFunc fn first caps =>
    rw [ho] at hm
    cases fn with
    | func f =>
      simp only [cOp] at hm
      split at hm
      · rename_i hf
        obtain ⟨a, ha, rfl⟩ := map_some_inv hm
        exact ok_mkf ho (by simpa using hf) ha hd h
      · cases hm
    | _ => cases hm
  | makeSlice t l c =>
    rw [ho] at hm
    simp only [cOp] at hm
    split at hm
    · rename_i e l' c' he h1 h2
      have he' : P.underlying t = some (.slice e) := by
        unfold elemT at he
        split at he
        · rename_i e' h'; cases he; exact h'
        · cases he
      split at hm
      · rename_i i z hi hz
        split at hm
        · rename_i hcc
          simp only [Bool.and_eq_true, beq_iff_eq, decide_eq_true_eq] at hcc
          cases hm
          exact ok_mks ho he' hi hz hcc.1 hcc.2 h1 h2 hd h
        · cases hm
      · cases hm
    · cases hm
  | slice t x lo hi mx =>
    rw [ho] at hm
    cases mx with
    | some _ => cases hm
    | none =>
      simp only [cOp] at hm
      split at hm
      · rename_i h1 h2 h3 h4; cases hm; exact ok_slc_string ho h1 h2 h3 h4 hd h
      · rename_i h1 h2 h3 h4
        obtain ⟨n, hn, rfl⟩ := map_some_inv hm
        exact ok_slc ho h1 hn h2 h3 h4 hd h
      · cases hm
  | fieldAddr s x f =>
    rw [ho] at hm
    simp only [cOp] at hm
    split at hm
    · rename_i h1 h2
      split at hm
      · rename_i hn; cases hm; exact ok_fad ho h2 h1 (by simpa using hn) hd h
      · cases hm
    · cases hm
  | field s x f =>
    rw [ho] at hm
    simp only [cOp] at hm
    split at hm
    · rename_i h1 h2
      obtain ⟨g, hg, rfl⟩ := map_some_inv hm
      exact ok_fld ho h2 h1 hg hd (by rw [← su_fld (C := ACall P)]; exact h)
    · cases hm
  | indexAddr t x i =>
    rw [ho] at hm
    simp only [cOp] at hm
    split at hm
    · rename_i e x' i' h1 h2 h3
      cases hs : sizeT P e with
      | none => rw [hs] at hm; cases hm
      | some n =>
        rw [hs] at hm
        simp only [Option.bind_some] at hm
        split at hm
        · rename_i hn; cases hm; exact ok_ixs ho h1 hs (by simpa using hn) h2 h3 hd h
        · cases hm
    · rename_i h1 h2 h3
      obtain ⟨n, hn, rfl⟩ := map_some_inv hm
      exact ok_ixa ho h1 hn h2 h3 hd h
    · cases hm
  | index t x i =>
    rw [ho] at hm
    simp only [cOp] at hm
    split at hm
    · rename_i h1 h2 h3; cases hm; exact ok_ixt ho h1 h2 h3 hd h
    · cases hm
  | extract x n => rw [ho] at hm; obtain ⟨a, ha, rfl⟩ := map_some_inv hm; exact ok_ext ho ha hd h
  | call c => rw [ho] at hm; exact call_ok ho hm hd h
  | _ => rw [ho] at hm; cases hm

end Go.AM
