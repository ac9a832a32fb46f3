/- Texts CoC CoD ShA McC ShB CoE CoF MaA, merged. -/
import Derived.Test.YtmbggdfceecojaaKwA
import Derived.Test.YtmbggdfceecojaaChecked
import Derived.Shelf.Strings.Search1
import Derived.KernelRfl
import Derived.ChangeKeysEq
/- Right codes: one instruction, by the reference. -/
set_option linter.all false
namespace Go.Proofs.Ytmbggdfceecojaa.Cd
open Go.AM Mc Ho

theorem l14Zero_any (x : InsD) (w : List UInt8) (hw : w.length ≤ 100) {H : List AO} : ACall Try.prog 163 [.st (x.cells.map .p), .p (.s w)] H (fun r H' => r = .p (.b (zeroD w x)) ∧ H' = H) :=
  (acall_lend (l14Zero x w hw) (fun r H' h => by subst h; exact grnd_b _) (lentAll_cons (ins_lent x) (lentAll_cons (.pure _) (lentAll_nil _)))).mono fun r H' ⟨h1, _, h2⟩ => ⟨h2, h1⟩
theorem l1Chars_any (s : List UInt8) (hs : s.length ≤ maxL) {H : List AO} : ACall Try.prog 164 [.p (.s s)] H (fun r H' => r = .p (.b (plainD s)) ∧ H' = H) :=
  (acall_lend (l1Chars s hs) (fun r H' h => by subst h; exact grnd_b _) (lentAll_cons (.pure _) (lentAll_nil _))).mono fun r H' ⟨h1, _, h2⟩ => ⟨h2, h1⟩
theorem plain_any (s : List UInt8) (hs : s.length ≤ maxL) {H : List AO} : ACall Try.prog 171 [.p (.s s)] H (fun r H' => r = .p (.b (plainD s)) ∧ H' = H) :=
  (acall_lend (plain s hs) (fun r H' h => by subst h; exact grnd_b _) (lentAll_cons (.pure _) (lentAll_nil _))).mono fun r H' ⟨h1, _, h2⟩ => ⟨h2, h1⟩

/-- what an operation's instruction tells -/
def opW (t : List UInt8) : Option (List UInt8) :=
  if t = [43] then some [97, 98, 99, 116] else if t = [45] then some [97, 98, 99, 116] else if t = [42] then some [97, 98, 99, 116] else if t = [61] then some [97, 98, 99, 116] else if t = [60] then some [97, 98, 99, 116] else if t = [94] then some [97, 98, 99, 116]
  else if t = [115, 105, 122, 101] then some [97, 98, 116] else if t = [114, 101, 97, 100] then some [97, 116] else if t = [112, 114, 105, 110, 116] then some [98, 116] else none
def zeroO (w : Option (List UInt8)) (x : InsD) : Bool := match w with | some w => zeroD w x | none => false

theorem ins_eta (x : InsD) : [AV.p (.i .i64 x.op), .p (.i .i64 x.a), .p (.i .i64 x.b), .p (.i .i64 x.c), .p (.i .i64 x.n), .p (.s x.text)] = x.cells.map .p := rfl

theorem l14Op (x : InsD) : ACall Try.prog 165 [.st (x.cells.map .p)] [] (fun r H' => r = .p (.b (zeroO (opW x.text) x))) := by
  refine call165 (by simp) ?_
  simp only [go_sem, Nat.reduceEqDiff, reduceIte, ↓reduceIte, Nat.reduceAdd, List.replicate_succ, List.replicate_zero, List.set_cons_zero, List.set_cons_succ, List.length_cons, List.length_nil, Nat.reduceLT, Nat.lt_add_one, ne_eq, Int.reduceEq, not_false_eq_true, Option.map_some, Nat.reduceLeDiff, Nat.zero_lt_succ, List.map_cons, List.map_nil, List.nil_append, List.cons_append, List.append_nil, bytesOf, List.take_succ_cons, List.take_zero, List.drop_zero, and_self, List.append_assoc, List.length_append, Int.reduceLT, Int.reduceLE, Int.toNat_zero, Int.reduceToNat, Int.cast_ofNat_Int, Int.natCast_zero, Int.natCast_one, Int.reduceAdd, List.map_append, Option.bind_some, mc165, mr165, InsD.cells]
  repeat' (refine condK_split _ (fun hd => ?_) (fun hd => ?_) <;> simp only [go_sem, Nat.reduceEqDiff, reduceIte, ↓reduceIte, Nat.reduceAdd, List.replicate_succ, List.replicate_zero, List.set_cons_zero, List.set_cons_succ, List.length_cons, List.length_nil, Nat.reduceLT, Nat.lt_add_one, ne_eq, Int.reduceEq, not_false_eq_true, Option.map_some, Nat.reduceLeDiff, Nat.zero_lt_succ, List.map_cons, List.map_nil, List.nil_append, List.cons_append, List.append_nil, bytesOf, List.take_succ_cons, List.take_zero, List.drop_zero, and_self, List.append_assoc, List.length_append, Int.reduceLT, Int.reduceLE, Int.toNat_zero, Int.reduceToNat, Int.cast_ofNat_Int, Int.natCast_zero, Int.natCast_one, Int.reduceAdd, List.map_append, Option.bind_some, hd])
  all_goals first
    | (simp_all [opW, zeroO]; done)
    | (rw [ins_eta]
       refine (l14Zero_any x _ (by simp)).mono ?_
       rintro r H' ⟨rfl, rfl⟩
       simp only [go_sem, Nat.reduceEqDiff, reduceIte, ↓reduceIte, Nat.reduceAdd, List.replicate_succ, List.replicate_zero, List.set_cons_zero, List.set_cons_succ, List.length_cons, List.length_nil, Nat.reduceLT, Nat.lt_add_one, ne_eq, Int.reduceEq, not_false_eq_true, Option.map_some, Nat.reduceLeDiff, Nat.zero_lt_succ, List.map_cons, List.map_nil, List.nil_append, List.cons_append, List.append_nil, bytesOf, List.take_succ_cons, List.take_zero, List.drop_zero, and_self, List.append_assoc, List.length_append, Int.reduceLT, Int.reduceLE, Int.toNat_zero, Int.reduceToNat, Int.cast_ofNat_Int, Int.natCast_zero, Int.natCast_one, Int.reduceAdd, List.map_append, Option.bind_some]
       simp_all [opW, zeroO])

theorem l14Op_any (x : InsD) {H : List AO} : ACall Try.prog 165 [.st (x.cells.map .p)] H (fun r H' => r = .p (.b (zeroO (opW x.text) x)) ∧ H' = H) :=
  (acall_lend (l14Op x) (fun r H' h => by subst h; exact grnd_b _) (lentAll_cons (ins_lent x) (lentAll_nil _))).mono fun r H' ⟨h1, _, h2⟩ => ⟨h2, h1⟩

def extraD (nI nS : Nat) (x : InsD) : Bool :=
  if x.op = 2 then plainD x.text && decide ((x.text.length : Int) ≤ 4000) else if x.op = 3 then inD x.n 0 (nS - 1) else if x.op = 5 then inD x.n 0 63 else if x.op = 6 then inD x.n 0 63 else if x.op = 8 then inD x.n 1 4000
  else if x.op = 9 then decide (0 ≤ x.n) else if x.op = 10 then decide (0 ≤ x.n) else if x.op = 11 then inD x.n 0 (nI - 1) else if x.op = 12 then inD x.n 0 (nI - 1) else if x.op = 15 then inD x.n 1 2 else true
def wantsD (x : InsD) : Option (List UInt8) :=
  if x.op = 1 then some [97, 110] else if x.op = 2 then some [97, 116] else if x.op = 3 then some [97, 110] else if x.op = 4 then some [97, 98] else if x.op = 5 then some [97, 110] else if x.op = 6 then some [97, 110]
  else if x.op = 7 then opW x.text else if x.op = 8 then some [97, 110] else if x.op = 9 then some [97, 98, 110] else if x.op = 10 then some [97, 98, 110] else if x.op = 11 then some [97, 110] else if x.op = 12 then some [110]
  else if x.op = 13 then some [97] else if x.op = 14 then some [97] else if x.op = 15 then some [110] else none
def insOk (nI nS : Nat) (x : InsD) : Bool := inD x.a 0 15 && inD x.b 0 15 && inD x.c 0 15 && zeroO (wantsD x) x && extraD nI nS x

set_option maxHeartbeats 4000000 in
set_option maxRecDepth 100000 in
theorem l14InstrOk (x : InsD) (hx : x.text.length ≤ maxL) (c : CodeD) (hc : okCode c) : ACall Try.prog 128 [.st (x.cells.map .p), .st (c.cells.map .p)] [] (fun r H' => r = .p (.b (insOk c.ins.length c.starts.length x))) := by
  have hl1 : c.ins.length ≤ 9223372036854775807 := by have := hc.1.1; unfold maxL at this; omega
  have hl2 : c.starts.length ≤ 9223372036854775807 := by have := hc.2; unfold maxL at this; omega
  refine call128 (by simp) ?_
  simp only [go_sem, Nat.reduceEqDiff, reduceIte, ↓reduceIte, Nat.reduceAdd, List.replicate_succ, List.replicate_zero, List.set_cons_zero, List.set_cons_succ, List.length_cons, List.length_nil, Nat.reduceLT, Nat.lt_add_one, ne_eq, Int.reduceEq, not_false_eq_true, Option.map_some, Nat.reduceLeDiff, Nat.zero_lt_succ, List.map_cons, List.map_nil, List.nil_append, List.cons_append, List.append_nil, bytesOf, List.take_succ_cons, List.take_zero, List.drop_zero, and_self, List.append_assoc, List.length_append, Int.reduceLT, Int.reduceLE, Int.toNat_zero, Int.reduceToNat, Int.cast_ofNat_Int, Int.natCast_zero, Int.natCast_one, Int.reduceAdd, List.map_append, Option.bind_some, mc128, mr128, InsD.cells, CodeD.cells]
  repeat' first
    | (refine condK_split _ (fun hd => ?_) (fun hd => ?_) <;> simp only [go_sem, Nat.reduceEqDiff, reduceIte, ↓reduceIte, Nat.reduceAdd, List.replicate_succ, List.replicate_zero, List.set_cons_zero, List.set_cons_succ, List.length_cons, List.length_nil, Nat.reduceLT, Nat.lt_add_one, ne_eq, Int.reduceEq, not_false_eq_true, Option.map_some, Nat.reduceLeDiff, Nat.zero_lt_succ, List.map_cons, List.map_nil, List.nil_append, List.cons_append, List.append_nil, bytesOf, List.take_succ_cons, List.take_zero, List.drop_zero, and_self, List.append_assoc, List.length_append, Int.reduceLT, Int.reduceLE, Int.toNat_zero, Int.reduceToNat, Int.cast_ofNat_Int, Int.natCast_zero, Int.natCast_one, Int.reduceAdd, List.map_append, Option.bind_some, hd, inss_len, ints_len])
    | (rw [ins_eta]; refine (l14Zero_any x _ (by simp)).mono ?_; rintro r H' ⟨rfl, rfl⟩; simp only [go_sem, Nat.reduceEqDiff, reduceIte, ↓reduceIte, Nat.reduceAdd, List.replicate_succ, List.replicate_zero, List.set_cons_zero, List.set_cons_succ, List.length_cons, List.length_nil, Nat.reduceLT, Nat.lt_add_one, ne_eq, Int.reduceEq, not_false_eq_true, Option.map_some, Nat.reduceLeDiff, Nat.zero_lt_succ, List.map_cons, List.map_nil, List.nil_append, List.cons_append, List.append_nil, bytesOf, List.take_succ_cons, List.take_zero, List.drop_zero, and_self, List.append_assoc, List.length_append, Int.reduceLT, Int.reduceLE, Int.toNat_zero, Int.reduceToNat, Int.cast_ofNat_Int, Int.natCast_zero, Int.natCast_one, Int.reduceAdd, List.map_append, Option.bind_some, InsD.cells, inss_len, ints_len])
    | (rw [ins_eta]; refine (l14Op_any x).mono ?_; rintro r H' ⟨rfl, rfl⟩; simp only [go_sem, Nat.reduceEqDiff, reduceIte, ↓reduceIte, Nat.reduceAdd, List.replicate_succ, List.replicate_zero, List.set_cons_zero, List.set_cons_succ, List.length_cons, List.length_nil, Nat.reduceLT, Nat.lt_add_one, ne_eq, Int.reduceEq, not_false_eq_true, Option.map_some, Nat.reduceLeDiff, Nat.zero_lt_succ, List.map_cons, List.map_nil, List.nil_append, List.cons_append, List.append_nil, bytesOf, List.take_succ_cons, List.take_zero, List.drop_zero, and_self, List.append_assoc, List.length_append, Int.reduceLT, Int.reduceLE, Int.toNat_zero, Int.reduceToNat, Int.cast_ofNat_Int, Int.natCast_zero, Int.natCast_one, Int.reduceAdd, List.map_append, Option.bind_some, InsD.cells, inss_len, ints_len])
    | (refine (l1In_any _ _ _).mono ?_; rintro r H' ⟨rfl, rfl⟩; simp only [go_sem, Nat.reduceEqDiff, reduceIte, ↓reduceIte, Nat.reduceAdd, List.replicate_succ, List.replicate_zero, List.set_cons_zero, List.set_cons_succ, List.length_cons, List.length_nil, Nat.reduceLT, Nat.lt_add_one, ne_eq, Int.reduceEq, not_false_eq_true, Option.map_some, Nat.reduceLeDiff, Nat.zero_lt_succ, List.map_cons, List.map_nil, List.nil_append, List.cons_append, List.append_nil, bytesOf, List.take_succ_cons, List.take_zero, List.drop_zero, and_self, List.append_assoc, List.length_append, Int.reduceLT, Int.reduceLE, Int.toNat_zero, Int.reduceToNat, Int.cast_ofNat_Int, Int.natCast_zero, Int.natCast_one, Int.reduceAdd, List.map_append, Option.bind_some, inss_len, ints_len])
    | (refine (l14Reg _).mono ?_; rintro r H' ⟨rfl, rfl⟩; simp only [go_sem, Nat.reduceEqDiff, reduceIte, ↓reduceIte, Nat.reduceAdd, List.replicate_succ, List.replicate_zero, List.set_cons_zero, List.set_cons_succ, List.length_cons, List.length_nil, Nat.reduceLT, Nat.lt_add_one, ne_eq, Int.reduceEq, not_false_eq_true, Option.map_some, Nat.reduceLeDiff, Nat.zero_lt_succ, List.map_cons, List.map_nil, List.nil_append, List.cons_append, List.append_nil, bytesOf, List.take_succ_cons, List.take_zero, List.drop_zero, and_self, List.append_assoc, List.length_append, Int.reduceLT, Int.reduceLE, Int.toNat_zero, Int.reduceToNat, Int.cast_ofNat_Int, Int.natCast_zero, Int.natCast_one, Int.reduceAdd, List.map_append, Option.bind_some, inss_len, ints_len])
    | (refine (l1Chars_any _ hx).mono ?_; rintro r H' ⟨rfl, rfl⟩; simp only [go_sem, Nat.reduceEqDiff, reduceIte, ↓reduceIte, Nat.reduceAdd, List.replicate_succ, List.replicate_zero, List.set_cons_zero, List.set_cons_succ, List.length_cons, List.length_nil, Nat.reduceLT, Nat.lt_add_one, ne_eq, Int.reduceEq, not_false_eq_true, Option.map_some, Nat.reduceLeDiff, Nat.zero_lt_succ, List.map_cons, List.map_nil, List.nil_append, List.cons_append, List.append_nil, bytesOf, List.take_succ_cons, List.take_zero, List.drop_zero, and_self, List.append_assoc, List.length_append, Int.reduceLT, Int.reduceLE, Int.toNat_zero, Int.reduceToNat, Int.cast_ofNat_Int, Int.natCast_zero, Int.natCast_one, Int.reduceAdd, List.map_append, Option.bind_some, inss_len, ints_len])
    | (intro _; rw [wr64 (by omega) (by omega)])
    | intro _
  all_goals simp only [decide_eq_false_iff_not, decide_eq_true_eq, Bool.not_eq_true', Bool.not_eq_false', Bool.not_eq_true, Bool.not_eq_false] at *
  all_goals (congr 2; simp [insOk, wantsD, extraD, zeroO, *])
end Go.Proofs.Ytmbggdfceecojaa.Cd

/- Right codes: a whole code, by the reference. -/
set_option linter.all false
namespace Go.Proofs.Ytmbggdfceecojaa.Cd
open Go.AM Mc Ho

def lastOk (c : CodeD) : Bool := match c.ins[c.ins.length - 1]? with
  | some x => decide (x.op = 12) || decide (x.op = 13) || decide (x.op = 14) || decide (x.op = 15)
  | none => false
def placeOk (c : CodeD) (n : Int) : Bool := inD n 0 (c.ins.length - 1)
def codeOk (c : CodeD) : Bool := inD c.ins.length 1 40000 && decide ((c.starts.length : Int) ≤ 400) && c.ins.all (insOk c.ins.length c.starts.length) && c.starts.all (placeOk c) && lastOk c

theorem code_eta (c : CodeD) : [AV.p (.l (inss c.ins)), .p (.l (ints c.starts))] = c.cells.map .p := rfl
theorem code_lent {H : List AO} (c : CodeD) : Lent H (.st (c.cells.map .p)) (.st (c.cells.map .p)) :=
  .st _ _ rfl fun j a b ha hb => by
    rw [ha] at hb; cases hb
    rw [List.getElem?_map] at ha
    cases hq : c.cells[j]? with
    | none => rw [hq] at ha; cases ha
    | some q => rw [hq] at ha; cases ha; exact .pure _
theorem l14InstrOk_any (x : InsD) (hx : x.text.length ≤ maxL) (c : CodeD) (hc : okCode c) {H : List AO} : ACall Try.prog 128 [.st (x.cells.map .p), .st (c.cells.map .p)] H (fun r H' => r = .p (.b (insOk c.ins.length c.starts.length x)) ∧ H' = H) :=
  (acall_lend (l14InstrOk x hx c hc) (fun r H' h => by subst h; exact grnd_b _) (lentAll_cons (ins_lent x) (lentAll_cons (code_lent c) (lentAll_nil _)))).mono fun r H' ⟨h1, _, h2⟩ => ⟨h2, h1⟩

theorem specCodeOk (c : CodeD) (hc : okCode c) : ACall Try.prog 70 [.st (c.cells.map .p)] [] (fun r H' => r = .p (.b (codeOk c))) := by
  have hl1 : c.ins.length ≤ 9223372036854775807 := by have := hc.1.1; unfold maxL at this; omega
  have hl2 : c.starts.length ≤ 9223372036854775807 := by have := hc.2; unfold maxL at this; omega
  refine call70 (by simp) ?_
  simp only [go_sem, Nat.reduceEqDiff, reduceIte, ↓reduceIte, Nat.reduceAdd, List.replicate_succ, List.replicate_zero, List.set_cons_zero, List.set_cons_succ, List.length_cons, List.length_nil, Nat.reduceLT, Nat.lt_add_one, ne_eq, Int.reduceEq, not_false_eq_true, Option.map_some, Nat.reduceLeDiff, Nat.zero_lt_succ, List.map_cons, List.map_nil, List.nil_append, List.cons_append, List.append_nil, bytesOf, List.take_succ_cons, List.take_zero, List.drop_zero, and_self, List.append_assoc, List.length_append, Int.reduceLT, Int.reduceLE, Int.toNat_zero, Int.reduceToNat, Int.cast_ofNat_Int, Int.natCast_zero, Int.natCast_one, Int.reduceAdd, List.map_append, Option.bind_some, mc70, mr70, CodeD.cells, inss_len, ints_len]
  intro _
  refine (l1In_any _ _ _).mono ?_
  rintro r H' ⟨rfl, rfl⟩
  simp only [go_sem, Nat.reduceEqDiff, reduceIte, ↓reduceIte, Nat.reduceAdd, List.replicate_succ, List.replicate_zero, List.set_cons_zero, List.set_cons_succ, List.length_cons, List.length_nil, Nat.reduceLT, Nat.lt_add_one, ne_eq, Int.reduceEq, not_false_eq_true, Option.map_some, Nat.reduceLeDiff, Nat.zero_lt_succ, List.map_cons, List.map_nil, List.nil_append, List.cons_append, List.append_nil, bytesOf, List.take_succ_cons, List.take_zero, List.drop_zero, and_self, List.append_assoc, List.length_append, Int.reduceLT, Int.reduceLE, Int.toNat_zero, Int.reduceToNat, Int.cast_ofNat_Int, Int.natCast_zero, Int.natCast_one, Int.reduceAdd, List.map_append, Option.bind_some]
  have hbad : inD c.ins.length 1 40000 = false ∨ decide ((400 : Int) < c.starts.length) = true → codeOk c = false := by
    intro h
    unfold codeOk
    rcases h with h | h
    · simp [h]
    · have : ¬ (c.starts.length : Int) ≤ 400 := by simp at h; omega
      simp [this]
  refine condK_split _ (fun h1 => ?_) (fun h1 => ?_)
  · simp only [go_sem, Nat.reduceEqDiff, reduceIte, ↓reduceIte, Nat.reduceAdd, List.replicate_succ, List.replicate_zero, List.set_cons_zero, List.set_cons_succ, List.length_cons, List.length_nil, Nat.reduceLT, Nat.lt_add_one, ne_eq, Int.reduceEq, not_false_eq_true, Option.map_some, Nat.reduceLeDiff, Nat.zero_lt_succ, List.map_cons, List.map_nil, List.nil_append, List.cons_append, List.append_nil, bytesOf, List.take_succ_cons, List.take_zero, List.drop_zero, and_self, List.append_assoc, List.length_append, Int.reduceLT, Int.reduceLE, Int.toNat_zero, Int.reduceToNat, Int.cast_ofNat_Int, Int.natCast_zero, Int.natCast_one, Int.reduceAdd, List.map_append, Option.bind_some, h1]
    rw [hbad (.inl (by simpa using h1))]
  · simp only [go_sem, Nat.reduceEqDiff, reduceIte, ↓reduceIte, Nat.reduceAdd, List.replicate_succ, List.replicate_zero, List.set_cons_zero, List.set_cons_succ, List.length_cons, List.length_nil, Nat.reduceLT, Nat.lt_add_one, ne_eq, Int.reduceEq, not_false_eq_true, Option.map_some, Nat.reduceLeDiff, Nat.zero_lt_succ, List.map_cons, List.map_nil, List.nil_append, List.cons_append, List.append_nil, bytesOf, List.take_succ_cons, List.take_zero, List.drop_zero, and_self, List.append_assoc, List.length_append, Int.reduceLT, Int.reduceLE, Int.toNat_zero, Int.reduceToNat, Int.cast_ofNat_Int, Int.natCast_zero, Int.natCast_one, Int.reduceAdd, List.map_append, Option.bind_some, h1, ints_len]
    intro _
    refine condK_split _ (fun h2 => ?_) (fun h2 => ?_)
    · simp only [go_sem, Nat.reduceEqDiff, reduceIte, ↓reduceIte, Nat.reduceAdd, List.replicate_succ, List.replicate_zero, List.set_cons_zero, List.set_cons_succ, List.length_cons, List.length_nil, Nat.reduceLT, Nat.lt_add_one, ne_eq, Int.reduceEq, not_false_eq_true, Option.map_some, Nat.reduceLeDiff, Nat.zero_lt_succ, List.map_cons, List.map_nil, List.nil_append, List.cons_append, List.append_nil, bytesOf, List.take_succ_cons, List.take_zero, List.drop_zero, and_self, List.append_assoc, List.length_append, Int.reduceLT, Int.reduceLE, Int.toNat_zero, Int.reduceToNat, Int.cast_ofNat_Int, Int.natCast_zero, Int.natCast_one, Int.reduceAdd, List.map_append, Option.bind_some]
      rw [hbad (.inr h2)]
    · simp only [go_sem, Nat.reduceEqDiff, reduceIte, ↓reduceIte, Nat.reduceAdd, List.replicate_succ, List.replicate_zero, List.set_cons_zero, List.set_cons_succ, List.length_cons, List.length_nil, Nat.reduceLT, Nat.lt_add_one, ne_eq, Int.reduceEq, not_false_eq_true, Option.map_some, Nat.reduceLeDiff, Nat.zero_lt_succ, List.map_cons, List.map_nil, List.nil_append, List.cons_append, List.append_nil, bytesOf, List.take_succ_cons, List.take_zero, List.drop_zero, and_self, List.append_assoc, List.length_append, Int.reduceLT, Int.reduceLE, Int.toNat_zero, Int.reduceToNat, Int.cast_ofNat_Int, Int.natCast_zero, Int.natCast_one, Int.reduceAdd, List.map_append, Option.bind_some]
      have hpos : 0 < c.ins.length := by simp [inD] at h1; omega
      have h40 : c.ins.length ≤ 40000 := by simp [inD] at h1; omega
      refine ⟨Nat, [0, 1, 2, 3], fun i st => i ≤ c.ins.length ∧ (c.ins.take i).all (insOk c.ins.length c.starts.length) = true ∧ st = ⟨[(0, .st (c.cells.map .p)), (1, .ptr 0 0), (2, .p (.b false)), (3, .p (.i .i64 i))], [], [.var (c.cells.map .p)]⟩, fun i => c.ins.length - i, ⟨0, ?_⟩, ?_⟩
      · simp only [go_sem, Nat.reduceEqDiff, reduceIte, ↓reduceIte, Nat.reduceAdd, List.replicate_succ, List.replicate_zero, List.set_cons_zero, List.set_cons_succ, List.length_cons, List.length_nil, Nat.reduceLT, Nat.lt_add_one, ne_eq, Int.reduceEq, not_false_eq_true, Option.map_some, Nat.reduceLeDiff, Nat.zero_lt_succ, List.map_cons, List.map_nil, List.nil_append, List.cons_append, List.append_nil, bytesOf, List.take_succ_cons, List.take_zero, List.drop_zero, and_self, List.append_assoc, List.length_append, Int.reduceLT, Int.reduceLE, Int.toNat_zero, Int.reduceToNat, Int.cast_ofNat_Int, Int.natCast_zero, Int.natCast_one, Int.reduceAdd, List.map_append, Option.bind_some]
        exact ⟨Nat.zero_le _, by simp, by simp [CodeD.cells]⟩
      · rintro i st ⟨hi, ht, rfl⟩
        simp only [go_sem, Nat.reduceEqDiff, reduceIte, ↓reduceIte, Nat.reduceAdd, List.replicate_succ, List.replicate_zero, List.set_cons_zero, List.set_cons_succ, List.length_cons, List.length_nil, Nat.reduceLT, Nat.lt_add_one, ne_eq, Int.reduceEq, not_false_eq_true, Option.map_some, Nat.reduceLeDiff, Nat.zero_lt_succ, List.map_cons, List.map_nil, List.nil_append, List.cons_append, List.append_nil, bytesOf, List.take_succ_cons, List.take_zero, List.drop_zero, and_self, List.append_assoc, List.length_append, Int.reduceLT, Int.reduceLE, Int.toNat_zero, Int.reduceToNat, Int.cast_ofNat_Int, Int.natCast_zero, Int.natCast_one, Int.reduceAdd, List.map_append, Option.bind_some, CodeD.cells, inss_len]
        intro _
        refine condK_split _ (fun hd => ?_) (fun hd => ?_)
        · have hil : i < c.ins.length := by simpa using hd
          simp only [go_sem, Nat.reduceEqDiff, reduceIte, ↓reduceIte, Nat.reduceAdd, List.replicate_succ, List.replicate_zero, List.set_cons_zero, List.set_cons_succ, List.length_cons, List.length_nil, Nat.reduceLT, Nat.lt_add_one, ne_eq, Int.reduceEq, not_false_eq_true, Option.map_some, Nat.reduceLeDiff, Nat.zero_lt_succ, List.map_cons, List.map_nil, List.nil_append, List.cons_append, List.append_nil, bytesOf, List.take_succ_cons, List.take_zero, List.drop_zero, and_self, List.append_assoc, List.length_append, Int.reduceLT, Int.reduceLE, Int.toNat_zero, Int.reduceToNat, Int.cast_ofNat_Int, Int.natCast_zero, Int.natCast_one, Int.reduceAdd, List.map_append, Option.bind_some]
          refine drw_same ?_
          simp only [go_sem, Nat.reduceEqDiff, reduceIte, ↓reduceIte, Nat.reduceAdd, List.replicate_succ, List.replicate_zero, List.set_cons_zero, List.set_cons_succ, List.length_cons, List.length_nil, Nat.reduceLT, Nat.lt_add_one, ne_eq, Int.reduceEq, not_false_eq_true, Option.map_some, Nat.reduceLeDiff, Nat.zero_lt_succ, List.map_cons, List.map_nil, List.nil_append, List.cons_append, List.append_nil, bytesOf, List.take_succ_cons, List.take_zero, List.drop_zero, and_self, List.append_assoc, List.length_append, Int.reduceLT, Int.reduceLE, Int.toNat_zero, Int.reduceToNat, Int.cast_ofNat_Int, Int.natCast_zero, Int.natCast_one, Int.reduceAdd, List.map_append, Option.bind_some, inss_at _ hil, ins_clen, ins_take, CodeD.cells]
          rw [code_eta]
          refine (l14InstrOk_any _ (hc.1.2 _ (List.getElem_mem hil)) c hc).mono ?_
          rintro r H' ⟨rfl, rfl⟩
          simp only [go_sem, Nat.reduceEqDiff, reduceIte, ↓reduceIte, Nat.reduceAdd, List.replicate_succ, List.replicate_zero, List.set_cons_zero, List.set_cons_succ, List.length_cons, List.length_nil, Nat.reduceLT, Nat.lt_add_one, ne_eq, Int.reduceEq, not_false_eq_true, Option.map_some, Nat.reduceLeDiff, Nat.zero_lt_succ, List.map_cons, List.map_nil, List.nil_append, List.cons_append, List.append_nil, bytesOf, List.take_succ_cons, List.take_zero, List.drop_zero, and_self, List.append_assoc, List.length_append, Int.reduceLT, Int.reduceLE, Int.toNat_zero, Int.reduceToNat, Int.cast_ofNat_Int, Int.natCast_zero, Int.natCast_one, Int.reduceAdd, List.map_append, Option.bind_some]
          refine condK_split _ (fun he => ?_) (fun he => ?_)
          · simp only [go_sem, Nat.reduceEqDiff, reduceIte, ↓reduceIte, Nat.reduceAdd, List.replicate_succ, List.replicate_zero, List.set_cons_zero, List.set_cons_succ, List.length_cons, List.length_nil, Nat.reduceLT, Nat.lt_add_one, ne_eq, Int.reduceEq, not_false_eq_true, Option.map_some, Nat.reduceLeDiff, Nat.zero_lt_succ, List.map_cons, List.map_nil, List.nil_append, List.cons_append, List.append_nil, bytesOf, List.take_succ_cons, List.take_zero, List.drop_zero, and_self, List.append_assoc, List.length_append, Int.reduceLT, Int.reduceLE, Int.toNat_zero, Int.reduceToNat, Int.cast_ofNat_Int, Int.natCast_zero, Int.natCast_one, Int.reduceAdd, List.map_append, Option.bind_some]
            have : codeOk c = false := by
              unfold codeOk
              rw [all_false hil (by simpa using he)]; simp
            rw [this]
          · simp only [go_sem, Nat.reduceEqDiff, reduceIte, ↓reduceIte, Nat.reduceAdd, List.replicate_succ, List.replicate_zero, List.set_cons_zero, List.set_cons_succ, List.length_cons, List.length_nil, Nat.reduceLT, Nat.lt_add_one, ne_eq, Int.reduceEq, not_false_eq_true, Option.map_some, Nat.reduceLeDiff, Nat.zero_lt_succ, List.map_cons, List.map_nil, List.nil_append, List.cons_append, List.append_nil, bytesOf, List.take_succ_cons, List.take_zero, List.drop_zero, and_self, List.append_assoc, List.length_append, Int.reduceLT, Int.reduceLE, Int.toNat_zero, Int.reduceToNat, Int.cast_ofNat_Int, Int.natCast_zero, Int.natCast_one, Int.reduceAdd, List.map_append, Option.bind_some]
            refine ⟨i + 1, ⟨hil, all_take hil ht (by simpa using he), ?_⟩, by omega⟩
            rw [wr1 hil hc.1.1]
        · have hil : i = c.ins.length := by simp at hd; omega
          subst hil
          rw [List.take_length] at ht
          simp only [go_sem, Nat.reduceEqDiff, reduceIte, ↓reduceIte, Nat.reduceAdd, List.replicate_succ, List.replicate_zero, List.set_cons_zero, List.set_cons_succ, List.length_cons, List.length_nil, Nat.reduceLT, Nat.lt_add_one, ne_eq, Int.reduceEq, not_false_eq_true, Option.map_some, Nat.reduceLeDiff, Nat.zero_lt_succ, List.map_cons, List.map_nil, List.nil_append, List.cons_append, List.append_nil, bytesOf, List.take_succ_cons, List.take_zero, List.drop_zero, and_self, List.append_assoc, List.length_append, Int.reduceLT, Int.reduceLE, Int.toNat_zero, Int.reduceToNat, Int.cast_ofNat_Int, Int.natCast_zero, Int.natCast_one, Int.reduceAdd, List.map_append, Option.bind_some]
          refine ⟨Nat, [0, 1, 2, 4], fun i st => i ≤ c.starts.length ∧ (c.starts.take i).all (placeOk c) = true ∧ st = ⟨[(0, .st (c.cells.map .p)), (1, .ptr 0 0), (2, .p (.b false)), (4, .p (.i .i64 i))], [], [.var (c.cells.map .p)]⟩, fun i => c.starts.length - i, ⟨0, ?_⟩, ?_⟩
          · simp only [go_sem, Nat.reduceEqDiff, reduceIte, ↓reduceIte, Nat.reduceAdd, List.replicate_succ, List.replicate_zero, List.set_cons_zero, List.set_cons_succ, List.length_cons, List.length_nil, Nat.reduceLT, Nat.lt_add_one, ne_eq, Int.reduceEq, not_false_eq_true, Option.map_some, Nat.reduceLeDiff, Nat.zero_lt_succ, List.map_cons, List.map_nil, List.nil_append, List.cons_append, List.append_nil, bytesOf, List.take_succ_cons, List.take_zero, List.drop_zero, and_self, List.append_assoc, List.length_append, Int.reduceLT, Int.reduceLE, Int.toNat_zero, Int.reduceToNat, Int.cast_ofNat_Int, Int.natCast_zero, Int.natCast_one, Int.reduceAdd, List.map_append, Option.bind_some]
            exact ⟨Nat.zero_le _, by simp, by simp [CodeD.cells]⟩
          · rintro i st ⟨hi, hu, rfl⟩
            simp only [go_sem, Nat.reduceEqDiff, reduceIte, ↓reduceIte, Nat.reduceAdd, List.replicate_succ, List.replicate_zero, List.set_cons_zero, List.set_cons_succ, List.length_cons, List.length_nil, Nat.reduceLT, Nat.lt_add_one, ne_eq, Int.reduceEq, not_false_eq_true, Option.map_some, Nat.reduceLeDiff, Nat.zero_lt_succ, List.map_cons, List.map_nil, List.nil_append, List.cons_append, List.append_nil, bytesOf, List.take_succ_cons, List.take_zero, List.drop_zero, and_self, List.append_assoc, List.length_append, Int.reduceLT, Int.reduceLE, Int.toNat_zero, Int.reduceToNat, Int.cast_ofNat_Int, Int.natCast_zero, Int.natCast_one, Int.reduceAdd, List.map_append, Option.bind_some, CodeD.cells, ints_len]
            intro _
            refine condK_split _ (fun hd => ?_) (fun hd => ?_)
            · have hil : i < c.starts.length := by simpa using hd
              simp only [go_sem, Nat.reduceEqDiff, reduceIte, ↓reduceIte, Nat.reduceAdd, List.replicate_succ, List.replicate_zero, List.set_cons_zero, List.set_cons_succ, List.length_cons, List.length_nil, Nat.reduceLT, Nat.lt_add_one, ne_eq, Int.reduceEq, not_false_eq_true, Option.map_some, Nat.reduceLeDiff, Nat.zero_lt_succ, List.map_cons, List.map_nil, List.nil_append, List.cons_append, List.append_nil, bytesOf, List.take_succ_cons, List.take_zero, List.drop_zero, and_self, List.append_assoc, List.length_append, Int.reduceLT, Int.reduceLE, Int.toNat_zero, Int.reduceToNat, Int.cast_ofNat_Int, Int.natCast_zero, Int.natCast_one, Int.reduceAdd, List.map_append, Option.bind_some]
              refine drw_same ?_
              simp only [go_sem, Nat.reduceEqDiff, reduceIte, ↓reduceIte, Nat.reduceAdd, List.replicate_succ, List.replicate_zero, List.set_cons_zero, List.set_cons_succ, List.length_cons, List.length_nil, Nat.reduceLT, Nat.lt_add_one, ne_eq, Int.reduceEq, not_false_eq_true, Option.map_some, Nat.reduceLeDiff, Nat.zero_lt_succ, List.map_cons, List.map_nil, List.nil_append, List.cons_append, List.append_nil, bytesOf, List.take_succ_cons, List.take_zero, List.drop_zero, and_self, List.append_assoc, List.length_append, Int.reduceLT, Int.reduceLE, Int.toNat_zero, Int.reduceToNat, Int.cast_ofNat_Int, Int.natCast_zero, Int.natCast_one, Int.reduceAdd, List.map_append, Option.bind_some, ints_at _ hil, inss_len, CodeD.cells]
              rw [wr64 (by omega) (by omega)]
              refine (l1In_any _ _ _).mono ?_
              rintro r H' ⟨rfl, rfl⟩
              simp only [go_sem, Nat.reduceEqDiff, reduceIte, ↓reduceIte, Nat.reduceAdd, List.replicate_succ, List.replicate_zero, List.set_cons_zero, List.set_cons_succ, List.length_cons, List.length_nil, Nat.reduceLT, Nat.lt_add_one, ne_eq, Int.reduceEq, not_false_eq_true, Option.map_some, Nat.reduceLeDiff, Nat.zero_lt_succ, List.map_cons, List.map_nil, List.nil_append, List.cons_append, List.append_nil, bytesOf, List.take_succ_cons, List.take_zero, List.drop_zero, and_self, List.append_assoc, List.length_append, Int.reduceLT, Int.reduceLE, Int.toNat_zero, Int.reduceToNat, Int.cast_ofNat_Int, Int.natCast_zero, Int.natCast_one, Int.reduceAdd, List.map_append, Option.bind_some]
              refine condK_split _ (fun he => ?_) (fun he => ?_)
              · simp only [go_sem, Nat.reduceEqDiff, reduceIte, ↓reduceIte, Nat.reduceAdd, List.replicate_succ, List.replicate_zero, List.set_cons_zero, List.set_cons_succ, List.length_cons, List.length_nil, Nat.reduceLT, Nat.lt_add_one, ne_eq, Int.reduceEq, not_false_eq_true, Option.map_some, Nat.reduceLeDiff, Nat.zero_lt_succ, List.map_cons, List.map_nil, List.nil_append, List.cons_append, List.append_nil, bytesOf, List.take_succ_cons, List.take_zero, List.drop_zero, and_self, List.append_assoc, List.length_append, Int.reduceLT, Int.reduceLE, Int.toNat_zero, Int.reduceToNat, Int.cast_ofNat_Int, Int.natCast_zero, Int.natCast_one, Int.reduceAdd, List.map_append, Option.bind_some]
                have : codeOk c = false := by
                  unfold codeOk
                  rw [all_false (p := placeOk c) hil (by simpa [placeOk] using he)]; simp
                rw [this]
              · simp only [go_sem, Nat.reduceEqDiff, reduceIte, ↓reduceIte, Nat.reduceAdd, List.replicate_succ, List.replicate_zero, List.set_cons_zero, List.set_cons_succ, List.length_cons, List.length_nil, Nat.reduceLT, Nat.lt_add_one, ne_eq, Int.reduceEq, not_false_eq_true, Option.map_some, Nat.reduceLeDiff, Nat.zero_lt_succ, List.map_cons, List.map_nil, List.nil_append, List.cons_append, List.append_nil, bytesOf, List.take_succ_cons, List.take_zero, List.drop_zero, and_self, List.append_assoc, List.length_append, Int.reduceLT, Int.reduceLE, Int.toNat_zero, Int.reduceToNat, Int.cast_ofNat_Int, Int.natCast_zero, Int.natCast_one, Int.reduceAdd, List.map_append, Option.bind_some]
                refine ⟨i + 1, ⟨hil, all_take hil hu (by simpa [placeOk] using he), ?_⟩, by omega⟩
                rw [wr1 hil hc.2]
            · have hil : i = c.starts.length := by simp at hd; omega
              subst hil
              rw [List.take_length] at hu
              simp only [go_sem, Nat.reduceEqDiff, reduceIte, ↓reduceIte, Nat.reduceAdd, List.replicate_succ, List.replicate_zero, List.set_cons_zero, List.set_cons_succ, List.length_cons, List.length_nil, Nat.reduceLT, Nat.lt_add_one, ne_eq, Int.reduceEq, not_false_eq_true, Option.map_some, Nat.reduceLeDiff, Nat.zero_lt_succ, List.map_cons, List.map_nil, List.nil_append, List.cons_append, List.append_nil, bytesOf, List.take_succ_cons, List.take_zero, List.drop_zero, and_self, List.append_assoc, List.length_append, Int.reduceLT, Int.reduceLE, Int.toNat_zero, Int.reduceToNat, Int.cast_ofNat_Int, Int.natCast_zero, Int.natCast_one, Int.reduceAdd, List.map_append, Option.bind_some, inss_len]
              intro _
              rw [wr64 (by omega) (by omega)]
              have hlast : c.ins.length - 1 < c.ins.length := by omega
              have e1 : ((c.ins.length : Int) - 1) = ((c.ins.length - 1 : Nat) : Int) := by omega
              rw [e1]
              simp only [go_sem, Nat.reduceEqDiff, reduceIte, ↓reduceIte, Nat.reduceAdd, List.replicate_succ, List.replicate_zero, List.set_cons_zero, List.set_cons_succ, List.length_cons, List.length_nil, Nat.reduceLT, Nat.lt_add_one, ne_eq, Int.reduceEq, not_false_eq_true, Option.map_some, Nat.reduceLeDiff, Nat.zero_lt_succ, List.map_cons, List.map_nil, List.nil_append, List.cons_append, List.append_nil, bytesOf, List.take_succ_cons, List.take_zero, List.drop_zero, and_self, List.append_assoc, List.length_append, Int.reduceLT, Int.reduceLE, Int.toNat_zero, Int.reduceToNat, Int.cast_ofNat_Int, Int.natCast_zero, Int.natCast_one, Int.reduceAdd, List.map_append, Option.bind_some, inss_at _ hlast, InsD.cells]
              have hco : codeOk c = (decide (c.ins[c.ins.length - 1].op = 12) || decide (c.ins[c.ins.length - 1].op = 13) || decide (c.ins[c.ins.length - 1].op = 14) || decide (c.ins[c.ins.length - 1].op = 15)) := by
                have h1' : inD c.ins.length 1 40000 = true := by simpa using h1
                have h2' : (c.starts.length : Int) ≤ 400 := by simpa using h2
                unfold codeOk lastOk
                rw [ht, hu, h1', List.getElem?_eq_getElem hlast]
                simp [h2']
              rw [hco]
              repeat' (refine condK_split _ (fun hd => ?_) (fun hd => ?_) <;> simp only [go_sem, Nat.reduceEqDiff, reduceIte, ↓reduceIte, Nat.reduceAdd, List.replicate_succ, List.replicate_zero, List.set_cons_zero, List.set_cons_succ, List.length_cons, List.length_nil, Nat.reduceLT, Nat.lt_add_one, ne_eq, Int.reduceEq, not_false_eq_true, Option.map_some, Nat.reduceLeDiff, Nat.zero_lt_succ, List.map_cons, List.map_nil, List.nil_append, List.cons_append, List.append_nil, bytesOf, List.take_succ_cons, List.take_zero, List.drop_zero, and_self, List.append_assoc, List.length_append, Int.reduceLT, Int.reduceLE, Int.toNat_zero, Int.reduceToNat, Int.cast_ofNat_Int, Int.natCast_zero, Int.natCast_one, Int.reduceAdd, List.map_append, Option.bind_some, hd])
              all_goals simp_all
end Go.Proofs.Ytmbggdfceecojaa.Cd

/- The search for a byte in a text: the kit's contract, at this program. -/
set_option linter.all false
namespace Go.Proofs.Ytmbggdfceecojaa.Cd
open Go.AM Go.Shelf Mc

def rhoS : Ren := ⟨fun n => if n = 217 then 240 else if n = 266 then 245 else n, fun n => n, fun n => n⟩
theorem run_zero {P : Program} {t : TypeId} {i : TypeInfo} {v : Value} (h : P.info? t = some i) (hz : i.zero = some v) (w : World) : (zeroValue t).run P w = .ok v w := by simp [zeroValue, typeInfo, h, hz]
theorem run_size {P : Program} {t : TypeId} {i : TypeInfo} (h : P.info? t = some i) (hs : i.size = 1) (w : World) : (Go.sizeOf t).run P w = .ok 1 w := by simp [Go.sizeOf, typeInfo, h, hs]
theorem info3 : (Try.prog.info? 3).map (fun i => (i.size, i.zero)) = some (1, some (.int .i64 0)) := by kernel_rfl
theorem sz3 (w : World) : (Go.sizeOf 3).run Try.prog w = .ok 1 w := by
  obtain ⟨i, h1, h2⟩ := Option.map_eq_some_iff.1 info3
  exact run_size h1 (congrArg Prod.fst h2) w
theorem zv3 (w : World) : (zeroValue 3).run Try.prog w = .ok (.int .i64 0) w := by
  obtain ⟨i, h1, h2⟩ := Option.map_eq_some_iff.1 info3
  exact run_zero h1 (congrArg Prod.snd h2) w
theorem info5 : (Try.prog.info? 5).map (fun i => (i.size, i.zero)) = some (1, some (.int .u8 0)) := by kernel_rfl
theorem sz5 (w : World) : (Go.sizeOf 5).run Try.prog w = .ok 1 w := by
  obtain ⟨i, h1, h2⟩ := Option.map_eq_some_iff.1 info5
  exact run_size h1 (congrArg Prod.fst h2) w
theorem zv5 (w : World) : (zeroValue 5).run Try.prog w = .ok (.int .u8 0) w := by
  obtain ⟨i, h1, h2⟩ := Option.map_eq_some_iff.1 info5
  exact run_zero h1 (congrArg Prod.snd h2) w
theorem info9 : (Try.prog.info? 9).map (fun i => (i.size, i.zero)) = some (1, some (.string ⟨#[]⟩)) := by kernel_rfl
theorem sz9 (w : World) : (Go.sizeOf 9).run Try.prog w = .ok 1 w := by
  obtain ⟨i, h1, h2⟩ := Option.map_eq_some_iff.1 info9
  exact run_size h1 (congrArg Prod.fst h2) w
theorem zv9 (w : World) : (zeroValue 9).run Try.prog w = .ok (.string ⟨#[]⟩) w := by
  obtain ⟨i, h1, h2⟩ := Option.map_eq_some_iff.1 info9
  exact run_zero h1 (congrArg Prod.snd h2) w
theorem laysIB : Lays.n217 Try.prog rhoS where
  mixed := by kernel_rfl
  f217 := by kernel_rfl
  f266 := by kernel_rfl
  t3 := by kernel_rfl
  a3 := run_isAgg_plain (t := 3) (show Try.prog.underlying 3 = some (TypeDesc.int IntKind.i64) from by kernel_rfl) rfl
  z3 := sz3
  v3 := zv3
  t5 := by kernel_rfl
  a5 := run_isAgg_plain (t := 5) (show Try.prog.underlying 5 = some (TypeDesc.int IntKind.u8) from by kernel_rfl) rfl
  z5 := sz5
  v5 := zv5
  t9 := by kernel_rfl
  a9 := run_isAgg_plain (t := 9) (show Try.prog.underlying 9 = some (TypeDesc.string) from by kernel_rfl) rfl
  z9 := sz9
  v9 := zv9

theorem acall_kept {P : Program} {f : Nat} {args : List AV} {H : List AO} {Q : AV → List AO → Prop} (hb : HasBody P f)
    (h : ∀ (w : World) (θ : Th) (W : Im) (vs : Array Value), Rels θ W args vs → ∃ v r, Calls P f vs w (fun e w' => e = .returned v ∧ w' = w) ∧ Q r H ∧ ARel θ W r v) : ACall P f args H Q := by
  refine ⟨hb, fun w θ W vs hSR hr => ?_⟩
  obtain ⟨v, r, h1, h2, h3⟩ := h w θ W vs hr
  refine h1.mono ?_
  rintro e w' ⟨rfl, rfl⟩
  exact ⟨v, r, H, θ, W, rfl, h2, hSR, h3, Stp.refl _ _ _⟩

theorem indexByte (s : List UInt8) (c : UInt8) {H : List AO} : ACall Try.prog 240 [.p (.s s), .p (.i .u8 c.toNat)] H (fun r H' => r = .p (.i .i64 (Lib.indexByte s c)) ∧ H' = H) := by
  refine acall_kept ⟨Try.f240, Try.func240, by kernel_rfl, by kernel_rfl⟩ ?_
  intro w θ W vs hr
  obtain ⟨h1, h2⟩ := hr
  have hvs : vs = #[.string ⟨s.toArray⟩, .int .u8 c.toNat] := by
    apply Array.ext'
    have hs : vs.toList.length = 2 := by simpa using h1
    match hl : vs.toList, hs with
    | [a, b], _ =>
      have ha := h2 0 _ a rfl (by rw [← Array.getElem?_toList, hl]; rfl)
      have hb := h2 1 _ b rfl (by rw [← Array.getElem?_toList, hl]; rfl)
      obtain ⟨e1, _⟩ := ha.s_inv
      have e2 := hb.i_inv
      rw [e1, e2]
  subst hvs
  have key := Any.stringslite_IndexByte laysIB ⟨s.toArray⟩ c.toNat w
  refine ⟨_, _, key, ⟨rfl, rfl⟩, ?_⟩
  simp
  exact .p _ _ (.i _ _)
end Go.Proofs.Ytmbggdfceecojaa.Cd

/- THE SMALL CODES of functions 235, and their ties to the program (printed by wip/tools/mkties.sh). -/
set_option linter.all false
namespace Go.Proofs.Ytmbggdfceecojaa.Mc
open Go.AM
def lv235 : List Nat := [0, 1, 4, 5, 6, 7, 8, 9, 10, 11, 12, 13, 16, 24, 31, 36, 59, 64, 73, 93, 107, 114, 132, 139]
def mc235 : MC :=
.seq (.reg [
    ⟨.l 4, .mv (.c (.p (.i .i64 0))), none⟩]) (
  .seq (.reg [
    ⟨.t 14, .mv (.l 1), none⟩,
    ⟨.t 15, .len true (.t 14), none⟩,
    ⟨.l 5, .mv (.t 15), none⟩]) (
  .seq (.blk 0 (
    .seq (.reg [
      ⟨.t 17, .mv (.l 5), none⟩,
      ⟨.t 18, .bin .eql (.t 17) (.c (.p (.i .i64 0))), none⟩,
      ⟨.t 19, .mv (.t 18), none⟩,
      ⟨.t 20, .mv (.l 1), some ((.t 19), false)⟩,
      ⟨.t 21, .mv (.l 0), some ((.t 19), false)⟩,
      ⟨.t 22, .bin .eql (.t 20) (.t 21), some ((.t 19), false)⟩,
      ⟨.t 23, .pick (.t 19) (.c (.p (.b true))) (.t 22), none⟩,
      ⟨.l 16, .mv (.t 23), none⟩]) (
    .cond (.l 16) (
      .seq (.reg [
        ⟨.l 4, .mv (.c (.p (.i .i64 0))), none⟩]) (
      .ret)) (
      .seq (.reg [
        ⟨.t 25, .mv (.l 5), none⟩,
        ⟨.t 26, .bin .eql (.t 25) (.c (.p (.i .i64 1))), none⟩,
        ⟨.l 24, .mv (.t 26), none⟩]) (
      .cond (.l 24) (
        .seq (.reg [
          ⟨.t 27, .mv (.l 0), none⟩,
          ⟨.t 28, .mv (.l 1), none⟩,
          ⟨.t 29, .ixt (.t 28) (.c (.p (.i .i64 0))), none⟩,
          ⟨.t 30, .call 240 [.t 27, .t 29], none⟩,
          ⟨.l 4, .mv (.t 30), none⟩]) (
        .ret)) (
        .seq (.reg [
          ⟨.t 32, .mv (.l 5), none⟩,
          ⟨.t 33, .mv (.l 0), none⟩,
          ⟨.t 34, .len true (.t 33), none⟩,
          ⟨.t 35, .bin .geq (.t 32) (.t 34), none⟩,
          ⟨.l 31, .mv (.t 35), none⟩]) (
        .cond (.l 31) (
          .seq (.reg [
            ⟨.l 4, .mv (.c (.p (.i .i64 (-1)))), none⟩]) (
          .ret)) (
          .seq (.reg [
            ⟨.t 37, .mv (.l 5), none⟩,
            ⟨.no, .stop, none⟩,
            ⟨.t 39, .bin .leq (.t 37) (.t 38), none⟩,
            ⟨.t 40, .mv (.t 39), none⟩,
            ⟨.t 41, .mv (.l 0), some ((.t 40), true)⟩,
            ⟨.t 42, .len true (.t 41), some ((.t 40), true)⟩,
            ⟨.t 43, .bin .leq (.t 42) (.c (.p (.i .i64 64))), some ((.t 40), true)⟩,
            ⟨.t 44, .pick (.t 40) (.t 43) (.c (.p (.b false))), none⟩,
            ⟨.l 36, .mv (.t 44), none⟩]) (
          .cond (.l 36) (
            .seq (.reg [
              ⟨.t 45, .mv (.l 0), none⟩,
              ⟨.t 46, .mv (.l 1), none⟩,
              ⟨.no, .stop, none⟩,
              ⟨.l 4, .mv (.t 47), none⟩]) (
            .ret)) (
            .skip)))))))))) (
  .seq (.reg [
    ⟨.t 48, .mv (.l 1), none⟩,
    ⟨.t 49, .ixt (.t 48) (.c (.p (.i .i64 0))), none⟩,
    ⟨.l 6, .mv (.t 49), none⟩]) (
  .seq (.reg [
    ⟨.t 50, .mv (.l 1), none⟩,
    ⟨.t 51, .ixt (.t 50) (.c (.p (.i .i64 1))), none⟩,
    ⟨.l 7, .mv (.t 51), none⟩]) (
  .seq (.reg [
    ⟨.l 8, .mv (.c (.p (.i .i64 0))), none⟩]) (
  .seq (.reg [
    ⟨.t 52, .mv (.l 0), none⟩,
    ⟨.t 53, .len true (.t 52), none⟩,
    ⟨.t 54, .mv (.l 5), none⟩,
    ⟨.t 55, .bin .sub (.t 53) (.t 54), none⟩,
    ⟨.t 56, .bin .add (.t 55) (.c (.p (.i .i64 1))), none⟩,
    ⟨.l 9, .mv (.t 56), none⟩]) (
  .seq (.reg [
    ⟨.l 10, .mv (.c (.p (.i .i64 0))), none⟩]) (
  .seq (.blk 1 (
    .loop (
      .seq (.seq (.reg [
        ⟨.t 57, .mv (.l 8), none⟩,
        ⟨.t 58, .mv (.l 9), none⟩,
        ⟨.l 59, .bin .lss (.t 57) (.t 58), none⟩]) (
      .cond (.l 59) (
        .skip) (
        .exit 1))) (
      .blk 2 (
        .seq (.seq (.reg [
          ⟨.t 60, .mv (.l 0), none⟩,
          ⟨.t 61, .mv (.l 8), none⟩,
          ⟨.t 62, .ixt (.t 60) (.t 61), none⟩,
          ⟨.t 63, .mv (.l 6), none⟩,
          ⟨.l 64, .bin .neq (.t 62) (.t 63), none⟩]) (
        .cond (.l 64) (
          .seq (.reg [
            ⟨.t 65, .mv (.l 0), none⟩,
            ⟨.t 66, .mv (.l 8), none⟩,
            ⟨.t 67, .bin .add (.t 66) (.c (.p (.i .i64 1))), none⟩,
            ⟨.t 68, .mv (.l 9), none⟩,
            ⟨.t 69, .slc none (.t 65) (some (.t 67)) (some (.t 68)), none⟩,
            ⟨.t 70, .mv (.l 6), none⟩,
            ⟨.t 71, .call 240 [.t 69, .t 70], none⟩,
            ⟨.l 11, .mv (.t 71), none⟩]) (
          .seq (.seq (.reg [
            ⟨.t 72, .mv (.l 11), none⟩,
            ⟨.l 73, .bin .lss (.t 72) (.c (.p (.i .i64 0))), none⟩]) (
          .cond (.l 73) (
            .seq (.reg [
              ⟨.l 4, .mv (.c (.p (.i .i64 (-1)))), none⟩]) (
            .ret)) (
            .skip))) (
          .reg [
            ⟨.t 74, .mv (.l 8), none⟩,
            ⟨.t 75, .mv (.l 11), none⟩,
            ⟨.t 76, .bin .add (.t 75) (.c (.p (.i .i64 1))), none⟩,
            ⟨.t 77, .bin .add (.t 74) (.t 76), none⟩,
            ⟨.l 8, .mv (.t 77), none⟩]))) (
          .skip))) (
        .seq (.seq (.reg [
          ⟨.t 78, .mv (.l 0), none⟩,
          ⟨.t 79, .mv (.l 8), none⟩,
          ⟨.t 80, .bin .add (.t 79) (.c (.p (.i .i64 1))), none⟩,
          ⟨.t 81, .ixt (.t 78) (.t 80), none⟩,
          ⟨.t 82, .mv (.l 7), none⟩,
          ⟨.t 83, .bin .eql (.t 81) (.t 82), none⟩,
          ⟨.t 84, .mv (.t 83), none⟩,
          ⟨.t 85, .mv (.l 0), some ((.t 84), true)⟩,
          ⟨.t 86, .mv (.l 8), some ((.t 84), true)⟩,
          ⟨.t 87, .mv (.l 8), some ((.t 84), true)⟩,
          ⟨.t 88, .mv (.l 5), some ((.t 84), true)⟩,
          ⟨.t 89, .bin .add (.t 87) (.t 88), some ((.t 84), true)⟩,
          ⟨.t 90, .slc none (.t 85) (some (.t 86)) (some (.t 89)), some ((.t 84), true)⟩,
          ⟨.t 91, .mv (.l 1), some ((.t 84), true)⟩,
          ⟨.t 92, .bin .eql (.t 90) (.t 91), some ((.t 84), true)⟩,
          ⟨.l 93, .pick (.t 84) (.t 92) (.c (.p (.b false))), none⟩]) (
        .cond (.l 93) (
          .seq (.reg [
            ⟨.t 94, .mv (.l 8), none⟩,
            ⟨.l 4, .mv (.t 94), none⟩]) (
          .ret)) (
          .skip))) (
        .seq (.reg [
          ⟨.t 95, .mv (.l 8), none⟩,
          ⟨.t 96, .bin .add (.t 95) (.c (.p (.i .i64 1))), none⟩,
          ⟨.l 8, .mv (.t 96), none⟩]) (
        .seq (.reg [
          ⟨.t 97, .mv (.l 10), none⟩,
          ⟨.t 98, .bin .add (.t 97) (.c (.p (.i .i64 1))), none⟩,
          ⟨.l 10, .mv (.t 98), none⟩]) (
        .seq (.reg [
          ⟨.t 99, .mv (.l 5), none⟩,
          ⟨.no, .stop, none⟩,
          ⟨.t 101, .bin .leq (.t 99) (.t 100), none⟩,
          ⟨.t 102, .mv (.t 101), none⟩,
          ⟨.t 103, .mv (.l 10), some ((.t 102), true)⟩,
          ⟨.t 104, .mv (.l 8), some ((.t 102), true)⟩,
          ⟨.t 105, .call 242 [.t 104], some ((.t 102), true)⟩,
          ⟨.t 106, .bin .gtr (.t 103) (.t 105), some ((.t 102), true)⟩,
          ⟨.l 107, .pick (.t 102) (.t 106) (.c (.p (.b false))), none⟩]) (
        .cond (.l 107) (
          .seq (.reg [
            ⟨.t 108, .mv (.l 0), none⟩,
            ⟨.t 109, .mv (.l 8), none⟩,
            ⟨.t 110, .slc none (.t 108) (some (.t 109)) none, none⟩,
            ⟨.t 111, .mv (.l 1), none⟩,
            ⟨.no, .stop, none⟩,
            ⟨.l 12, .mv (.t 112), none⟩]) (
          .seq (.seq (.reg [
            ⟨.t 113, .mv (.l 12), none⟩,
            ⟨.l 114, .bin .geq (.t 113) (.c (.p (.i .i64 0))), none⟩]) (
          .cond (.l 114) (
            .seq (.reg [
              ⟨.t 115, .mv (.l 12), none⟩,
              ⟨.t 116, .mv (.l 8), none⟩,
              ⟨.t 117, .bin .add (.t 115) (.t 116), none⟩,
              ⟨.l 4, .mv (.t 117), none⟩]) (
            .ret)) (
            .skip))) (
          .seq (.reg [
            ⟨.l 4, .mv (.c (.p (.i .i64 (-1)))), none⟩]) (
          .ret)))) (
          .seq (.reg [
            ⟨.t 118, .mv (.l 5), none⟩,
            ⟨.no, .stop, none⟩,
            ⟨.t 120, .bin .gtr (.t 118) (.t 119), none⟩,
            ⟨.t 121, .mv (.t 120), none⟩,
            ⟨.t 122, .mv (.l 10), some ((.t 121), true)⟩,
            ⟨.t 123, .mv (.l 8), some ((.t 121), true)⟩,
            ⟨.t 124, .bin .shr (.t 123) (.c (.p (.i .u64 4))), some ((.t 121), true)⟩,
            ⟨.t 125, .bin .add (.c (.p (.i .i64 4))) (.t 124), some ((.t 121), true)⟩,
            ⟨.t 126, .bin .geq (.t 122) (.t 125), some ((.t 121), true)⟩,
            ⟨.t 127, .pick (.t 121) (.t 126) (.c (.p (.b false))), none⟩,
            ⟨.t 128, .mv (.t 127), none⟩,
            ⟨.t 129, .mv (.l 8), some ((.t 128), true)⟩,
            ⟨.t 130, .mv (.l 9), some ((.t 128), true)⟩,
            ⟨.t 131, .bin .lss (.t 129) (.t 130), some ((.t 128), true)⟩,
            ⟨.l 132, .pick (.t 128) (.t 131) (.c (.p (.b false))), none⟩]) (
          .cond (.l 132) (
            .seq (.reg [
              ⟨.t 133, .mv (.l 0), none⟩,
              ⟨.t 134, .mv (.l 8), none⟩,
              ⟨.t 135, .slc none (.t 133) (some (.t 134)) none, none⟩,
              ⟨.t 136, .mv (.l 1), none⟩,
              ⟨.t 137, .call 243 [.t 135, .t 136], none⟩,
              ⟨.l 13, .mv (.t 137), none⟩]) (
            .seq (.seq (.reg [
              ⟨.t 138, .mv (.l 13), none⟩,
              ⟨.l 139, .bin .lss (.t 138) (.c (.p (.i .i64 0))), none⟩]) (
            .cond (.l 139) (
              .seq (.reg [
                ⟨.l 4, .mv (.c (.p (.i .i64 (-1)))), none⟩]) (
              .ret)) (
              .skip))) (
            .seq (.reg [
              ⟨.t 140, .mv (.l 8), none⟩,
              ⟨.t 141, .mv (.l 13), none⟩,
              ⟨.t 142, .bin .add (.t 140) (.t 141), none⟩,
              ⟨.l 4, .mv (.t 142), none⟩]) (
            .ret)))) (
            .skip))))))))))))) (
  .seq (.reg [
    ⟨.l 4, .mv (.c (.p (.i .i64 (-1)))), none⟩]) (
  .ret))))))))))
theorem mc235_eq : (Try.f235.body.map (compile lv235 Try.prog 143)) = some mc235 := by kernel_rfl
def mr235 : List MR := [.t 4]
theorem mr235_eq : cRess lv235 Try.prog Try.f235.results.toList = some mr235 := by kernel_rfl
theorem call235 {args : List AV} {H : List AO} {Q : AV → List AO → Prop} (hla : args.length ≤ 143) (h : wpm (ACall Try.prog) mc235 (finK mr235 Q) ⟨argEnv 0 args, [], H⟩) : ACall Try.prog 235 args H Q :=
  acall_mc (by kernel_rfl) Try.func235 mc235_eq Try.ntmps235 (by kernel_rfl) mr235_eq hla h
end Go.Proofs.Ytmbggdfceecojaa.Mc

/- Whether a text has a byte. -/
set_option linter.all false
namespace Go.Proofs.Ytmbggdfceecojaa.Cd
open Go.AM Mc

theorem has_index (s : List UInt8) (c : UInt8) : decide (0 ≤ Go.Lib.indexByte s c) = s.contains c := by
  induction s with
  | nil => rfl
  | cons b l ih =>
    unfold Go.Lib.indexByte
    by_cases h : b = c
    · subst h; simp
    · have h' : ¬ c = b := fun e => h e.symm
      have hb : (b == c) = false := by simp [h]
      have hg := Go.Lib.indexByte_ge l c
      rw [hb]
      simp only [Bool.false_eq_true, if_false]
      rw [List.contains_cons, ← ih]
      have hcb : (c == b) = false := by simp [h']
      rw [hcb, Bool.false_or, decide_eq_decide]
      split
      · rename_i e; simp at e; omega
      · rename_i e; simp at e; omega

theorem index1 (s : List UInt8) (hs : s.length ≤ maxL) (c : UInt8) : ACall Try.prog 235 [.p (.s s), .p (.s [c])] [] (fun r H' => ∃ z : Int, r = .p (.i .i64 z) ∧ decide (0 ≤ z) = s.contains c) := by
  refine call235 (by simp) ?_
  simp only [go_sem, Nat.reduceEqDiff, reduceIte, ↓reduceIte, Nat.reduceAdd, List.replicate_succ, List.replicate_zero, List.set_cons_zero, List.set_cons_succ, List.length_cons, List.length_nil, Nat.reduceLT, Nat.lt_add_one, ne_eq, Int.reduceEq, not_false_eq_true, Option.map_some, Nat.reduceLeDiff, Nat.zero_lt_succ, List.map_cons, List.map_nil, List.nil_append, List.cons_append, List.append_nil, bytesOf, List.take_succ_cons, List.take_zero, List.drop_zero, and_self, List.append_assoc, List.length_append, Int.reduceLT, Int.reduceLE, Int.toNat_zero, Int.reduceToNat, Int.cast_ofNat_Int, Int.natCast_zero, Int.natCast_one, Int.reduceAdd, List.map_append, Option.bind_some, mc235, mr235]
  intro _
  refine condK_split _ (fun h1 => ?_) (fun h1 => ?_)
  · simp only [go_sem, Nat.reduceEqDiff, reduceIte, ↓reduceIte, Nat.reduceAdd, List.replicate_succ, List.replicate_zero, List.set_cons_zero, List.set_cons_succ, List.length_cons, List.length_nil, Nat.reduceLT, Nat.lt_add_one, ne_eq, Int.reduceEq, not_false_eq_true, Option.map_some, Nat.reduceLeDiff, Nat.zero_lt_succ, List.map_cons, List.map_nil, List.nil_append, List.cons_append, List.append_nil, bytesOf, List.take_succ_cons, List.take_zero, List.drop_zero, and_self, List.append_assoc, List.length_append, Int.reduceLT, Int.reduceLE, Int.toNat_zero, Int.reduceToNat, Int.cast_ofNat_Int, Int.natCast_zero, Int.natCast_one, Int.reduceAdd, List.map_append, Option.bind_some, h1]
    have : [c] = s := by simpa using h1
    subst this
    exact ⟨0, rfl, by simp⟩
  · simp only [go_sem, Nat.reduceEqDiff, reduceIte, ↓reduceIte, Nat.reduceAdd, List.replicate_succ, List.replicate_zero, List.set_cons_zero, List.set_cons_succ, List.length_cons, List.length_nil, Nat.reduceLT, Nat.lt_add_one, ne_eq, Int.reduceEq, not_false_eq_true, Option.map_some, Nat.reduceLeDiff, Nat.zero_lt_succ, List.map_cons, List.map_nil, List.nil_append, List.cons_append, List.append_nil, bytesOf, List.take_succ_cons, List.take_zero, List.drop_zero, and_self, List.append_assoc, List.length_append, Int.reduceLT, Int.reduceLE, Int.toNat_zero, Int.reduceToNat, Int.cast_ofNat_Int, Int.natCast_zero, Int.natCast_one, Int.reduceAdd, List.map_append, Option.bind_some, h1]
    refine (indexByte s c).mono ?_
    rintro r H' ⟨rfl, rfl⟩
    simp only [go_sem, Nat.reduceEqDiff, reduceIte, ↓reduceIte, Nat.reduceAdd, List.replicate_succ, List.replicate_zero, List.set_cons_zero, List.set_cons_succ, List.length_cons, List.length_nil, Nat.reduceLT, Nat.lt_add_one, ne_eq, Int.reduceEq, not_false_eq_true, Option.map_some, Nat.reduceLeDiff, Nat.zero_lt_succ, List.map_cons, List.map_nil, List.nil_append, List.cons_append, List.append_nil, bytesOf, List.take_succ_cons, List.take_zero, List.drop_zero, and_self, List.append_assoc, List.length_append, Int.reduceLT, Int.reduceLE, Int.toNat_zero, Int.reduceToNat, Int.cast_ofNat_Int, Int.natCast_zero, Int.natCast_one, Int.reduceAdd, List.map_append, Option.bind_some]
    exact ⟨_, rfl, has_index s c⟩

theorem index (s : List UInt8) (hs : s.length ≤ maxL) (c : UInt8) : ACall Try.prog 214 [.p (.s s), .p (.s [c])] [] (fun r H' => ∃ z : Int, r = .p (.i .i64 z) ∧ decide (0 ≤ z) = s.contains c) := by
  refine call214 (by simp) ?_
  simp only [go_sem, Nat.reduceEqDiff, reduceIte, ↓reduceIte, Nat.reduceAdd, List.replicate_succ, List.replicate_zero, List.set_cons_zero, List.set_cons_succ, List.length_cons, List.length_nil, Nat.reduceLT, Nat.lt_add_one, ne_eq, Int.reduceEq, not_false_eq_true, Option.map_some, Nat.reduceLeDiff, Nat.zero_lt_succ, List.map_cons, List.map_nil, List.nil_append, List.cons_append, List.append_nil, bytesOf, List.take_succ_cons, List.take_zero, List.drop_zero, and_self, List.append_assoc, List.length_append, Int.reduceLT, Int.reduceLE, Int.toNat_zero, Int.reduceToNat, Int.cast_ofNat_Int, Int.natCast_zero, Int.natCast_one, Int.reduceAdd, List.map_append, Option.bind_some, mc214, mr214]
  refine (index1 s hs c).mono ?_
  rintro r H' ⟨z, rfl, hz⟩
  simp only [go_sem, Nat.reduceEqDiff, reduceIte, ↓reduceIte, Nat.reduceAdd, List.replicate_succ, List.replicate_zero, List.set_cons_zero, List.set_cons_succ, List.length_cons, List.length_nil, Nat.reduceLT, Nat.lt_add_one, ne_eq, Int.reduceEq, not_false_eq_true, Option.map_some, Nat.reduceLeDiff, Nat.zero_lt_succ, List.map_cons, List.map_nil, List.nil_append, List.cons_append, List.append_nil, bytesOf, List.take_succ_cons, List.take_zero, List.drop_zero, and_self, List.append_assoc, List.length_append, Int.reduceLT, Int.reduceLE, Int.toNat_zero, Int.reduceToNat, Int.cast_ofNat_Int, Int.natCast_zero, Int.natCast_one, Int.reduceAdd, List.map_append, Option.bind_some]
  exact ⟨z, rfl, hz⟩

theorem contains1 (s : List UInt8) (hs : s.length ≤ maxL) (c : UInt8) : ACall Try.prog 169 [.p (.s s), .p (.s [c])] [] (fun r H' => r = .p (.b (s.contains c))) := by
  refine call169 (by simp) ?_
  simp only [go_sem, Nat.reduceEqDiff, reduceIte, ↓reduceIte, Nat.reduceAdd, List.replicate_succ, List.replicate_zero, List.set_cons_zero, List.set_cons_succ, List.length_cons, List.length_nil, Nat.reduceLT, Nat.lt_add_one, ne_eq, Int.reduceEq, not_false_eq_true, Option.map_some, Nat.reduceLeDiff, Nat.zero_lt_succ, List.map_cons, List.map_nil, List.nil_append, List.cons_append, List.append_nil, bytesOf, List.take_succ_cons, List.take_zero, List.drop_zero, and_self, List.append_assoc, List.length_append, Int.reduceLT, Int.reduceLE, Int.toNat_zero, Int.reduceToNat, Int.cast_ofNat_Int, Int.natCast_zero, Int.natCast_one, Int.reduceAdd, List.map_append, Option.bind_some, mc169, mr169]
  refine (index s hs c).mono ?_
  rintro r H' ⟨z, rfl, hz⟩
  simp only [go_sem, Nat.reduceEqDiff, reduceIte, ↓reduceIte, Nat.reduceAdd, List.replicate_succ, List.replicate_zero, List.set_cons_zero, List.set_cons_succ, List.length_cons, List.length_nil, Nat.reduceLT, Nat.lt_add_one, ne_eq, Int.reduceEq, not_false_eq_true, Option.map_some, Nat.reduceLeDiff, Nat.zero_lt_succ, List.map_cons, List.map_nil, List.nil_append, List.cons_append, List.append_nil, bytesOf, List.take_succ_cons, List.take_zero, List.drop_zero, and_self, List.append_assoc, List.length_append, Int.reduceLT, Int.reduceLE, Int.toNat_zero, Int.reduceToNat, Int.cast_ofNat_Int, Int.natCast_zero, Int.natCast_one, Int.reduceAdd, List.map_append, Option.bind_some, hz]
theorem contains_any (s : List UInt8) (hs : s.length ≤ maxL) (c : UInt8) {H : List AO} : ACall Try.prog 169 [.p (.s s), .p (.s [c])] H (fun r H' => r = .p (.b (s.contains c)) ∧ H' = H) :=
  (acall_lend (contains1 s hs c) (fun r H' h => by subst h; exact grnd_b _) (lentAll_cons (.pure _) (lentAll_cons (.pure _) (lentAll_nil _)))).mono fun r H' ⟨h1, _, h2⟩ => ⟨h2, h1⟩
end Go.Proofs.Ytmbggdfceecojaa.Cd

/- Right codes: one instruction, by the program. -/
set_option linter.all false
namespace Go.Proofs.Ytmbggdfceecojaa.Cd
open Go.AM Mc Ho

def wantsR (w : Option (List UInt8)) : AV := match w with | some w => .tup [.p (.s w), .p (.b true)] | none => .tup [.p (.s []), .p (.b false)]

set_option maxHeartbeats 4000000 in
set_option maxRecDepth 100000 in
theorem wants (x : InsD) : ACall Try.prog 167 [.st (x.cells.map .p)] [] (fun r H' => r = wantsR (wantsD x)) := by
  refine call167 (by simp) ?_
  simp only [go_sem, Nat.reduceEqDiff, reduceIte, ↓reduceIte, Nat.reduceAdd, List.replicate_succ, List.replicate_zero, List.set_cons_zero, List.set_cons_succ, List.length_cons, List.length_nil, Nat.reduceLT, Nat.lt_add_one, ne_eq, Int.reduceEq, not_false_eq_true, Option.map_some, Nat.reduceLeDiff, Nat.zero_lt_succ, List.map_cons, List.map_nil, List.nil_append, List.cons_append, List.append_nil, bytesOf, List.take_succ_cons, List.take_zero, List.drop_zero, and_self, List.append_assoc, List.length_append, Int.reduceLT, Int.reduceLE, Int.toNat_zero, Int.reduceToNat, Int.cast_ofNat_Int, Int.natCast_zero, Int.natCast_one, Int.reduceAdd, List.map_append, Option.bind_some, mc167, mr167, InsD.cells]
  repeat' (refine condK_split _ (fun hd => ?_) (fun hd => ?_) <;> simp only [go_sem, Nat.reduceEqDiff, reduceIte, ↓reduceIte, Nat.reduceAdd, List.replicate_succ, List.replicate_zero, List.set_cons_zero, List.set_cons_succ, List.length_cons, List.length_nil, Nat.reduceLT, Nat.lt_add_one, ne_eq, Int.reduceEq, not_false_eq_true, Option.map_some, Nat.reduceLeDiff, Nat.zero_lt_succ, List.map_cons, List.map_nil, List.nil_append, List.cons_append, List.append_nil, bytesOf, List.take_succ_cons, List.take_zero, List.drop_zero, and_self, List.append_assoc, List.length_append, Int.reduceLT, Int.reduceLE, Int.toNat_zero, Int.reduceToNat, Int.cast_ofNat_Int, Int.natCast_zero, Int.natCast_one, Int.reduceAdd, List.map_append, Option.bind_some, hd])
  all_goals simp only [decide_eq_false_iff_not, decide_eq_true_eq, Bool.not_eq_true', Bool.not_eq_false', Bool.not_eq_true, Bool.not_eq_false] at *
  all_goals simp [wantsD, wantsR, opW, *]

theorem wantsR_grnd (w) : Grnd (wantsR w) := by
  cases w with
  | none => exact grnd_tup _ (by simp; exact ⟨grnd_s _, grnd_b _⟩)
  | some w => exact grnd_tup _ (by simp; exact ⟨grnd_s _, grnd_b _⟩)
theorem wants_any (x : InsD) {H : List AO} : ACall Try.prog 167 [.st (x.cells.map .p)] H (fun r H' => r = wantsR (wantsD x) ∧ H' = H) :=
  (acall_lend (wants x) (fun r H' h => by subst h; exact wantsR_grnd _) (lentAll_cons (ins_lent x) (lentAll_nil _))).mono fun r H' ⟨h1, _, h2⟩ => ⟨h2, h1⟩

theorem hasC {w : List UInt8} (hw : w.length ≤ maxL) (c : UInt8) {H : List AO} {j : Nat} (hj : H[j]? = some (.var [.p (.s w)])) : ACall Try.prog 168 [.p (.s [c]), .ptr j 0] H (fun r H' => r = .p (.b (w.contains c)) ∧ H' = H) := by
  refine call168 (by simp) ?_
  simp only [go_sem, Nat.reduceEqDiff, reduceIte, ↓reduceIte, Nat.reduceAdd, List.replicate_succ, List.replicate_zero, List.set_cons_zero, List.set_cons_succ, List.length_cons, List.length_nil, Nat.reduceLT, Nat.lt_add_one, ne_eq, Int.reduceEq, not_false_eq_true, Option.map_some, Nat.reduceLeDiff, Nat.zero_lt_succ, List.map_cons, List.map_nil, List.nil_append, List.cons_append, List.append_nil, bytesOf, List.take_succ_cons, List.take_zero, List.drop_zero, and_self, List.append_assoc, List.length_append, Int.reduceLT, Int.reduceLE, Int.toNat_zero, Int.reduceToNat, Int.cast_ofNat_Int, Int.natCast_zero, Int.natCast_one, Int.reduceAdd, List.map_append, Option.bind_some, mc168, mr168, hj]
  refine (contains_any w hw c).mono ?_
  rintro r H' ⟨rfl, rfl⟩
  simp only [go_sem, Nat.reduceEqDiff, reduceIte, ↓reduceIte, Nat.reduceAdd, List.replicate_succ, List.replicate_zero, List.set_cons_zero, List.set_cons_succ, List.length_cons, List.length_nil, Nat.reduceLT, Nat.lt_add_one, ne_eq, Int.reduceEq, not_false_eq_true, Option.map_some, Nat.reduceLeDiff, Nat.zero_lt_succ, List.map_cons, List.map_nil, List.nil_append, List.cons_append, List.append_nil, bytesOf, List.take_succ_cons, List.take_zero, List.drop_zero, and_self, List.append_assoc, List.length_append, Int.reduceLT, Int.reduceLE, Int.toNat_zero, Int.reduceToNat, Int.cast_ofNat_Int, Int.natCast_zero, Int.natCast_one, Int.reduceAdd, List.map_append, Option.bind_some]

def regD (h : Bool) (v : Int) : Bool := (h && inD v 0 15) || decide (v = 0)

theorem regC {w : List UInt8} (hw : w.length ≤ maxL) (c : UInt8) (v : Int) {H : List AO} {j k : Nat} (hj : H[j]? = some (.var [.p (.s w)])) (hk : H[k]? = some (.var [.clo 168 [.ptr j 0]])) :
    ACall Try.prog 170 [.p (.s [c]), .p (.i .i64 v), .ptr k 0] H (fun r H' => r = .p (.b (regD (w.contains c) v)) ∧ H' = H) := by
  refine call170 (by simp) ?_
  simp only [go_sem, Nat.reduceEqDiff, reduceIte, ↓reduceIte, Nat.reduceAdd, List.replicate_succ, List.replicate_zero, List.set_cons_zero, List.set_cons_succ, List.length_cons, List.length_nil, Nat.reduceLT, Nat.lt_add_one, ne_eq, Int.reduceEq, not_false_eq_true, Option.map_some, Nat.reduceLeDiff, Nat.zero_lt_succ, List.map_cons, List.map_nil, List.nil_append, List.cons_append, List.append_nil, bytesOf, List.take_succ_cons, List.take_zero, List.drop_zero, and_self, List.append_assoc, List.length_append, Int.reduceLT, Int.reduceLE, Int.toNat_zero, Int.reduceToNat, Int.cast_ofNat_Int, Int.natCast_zero, Int.natCast_one, Int.reduceAdd, List.map_append, Option.bind_some, mc170, mr170, hk]
  refine (hasC hw c hj).mono ?_
  rintro r H' ⟨rfl, rfl⟩
  simp only [go_sem, Nat.reduceEqDiff, reduceIte, ↓reduceIte, Nat.reduceAdd, List.replicate_succ, List.replicate_zero, List.set_cons_zero, List.set_cons_succ, List.length_cons, List.length_nil, Nat.reduceLT, Nat.lt_add_one, ne_eq, Int.reduceEq, not_false_eq_true, Option.map_some, Nat.reduceLeDiff, Nat.zero_lt_succ, List.map_cons, List.map_nil, List.nil_append, List.cons_append, List.append_nil, bytesOf, List.take_succ_cons, List.take_zero, List.drop_zero, and_self, List.append_assoc, List.length_append, Int.reduceLT, Int.reduceLE, Int.toNat_zero, Int.reduceToNat, Int.cast_ofNat_Int, Int.natCast_zero, Int.natCast_one, Int.reduceAdd, List.map_append, Option.bind_some]
  refine condK_split _ (fun h1 => ?_) (fun h1 => ?_)
  · simp only [go_sem, Nat.reduceEqDiff, reduceIte, ↓reduceIte, Nat.reduceAdd, List.replicate_succ, List.replicate_zero, List.set_cons_zero, List.set_cons_succ, List.length_cons, List.length_nil, Nat.reduceLT, Nat.lt_add_one, ne_eq, Int.reduceEq, not_false_eq_true, Option.map_some, Nat.reduceLeDiff, Nat.zero_lt_succ, List.map_cons, List.map_nil, List.nil_append, List.cons_append, List.append_nil, bytesOf, List.take_succ_cons, List.take_zero, List.drop_zero, and_self, List.append_assoc, List.length_append, Int.reduceLT, Int.reduceLE, Int.toNat_zero, Int.reduceToNat, Int.cast_ofNat_Int, Int.natCast_zero, Int.natCast_one, Int.reduceAdd, List.map_append, Option.bind_some, h1]
    refine (within_any _ _ _).mono ?_
    rintro r H' ⟨rfl, rfl⟩
    simp only [go_sem, Nat.reduceEqDiff, reduceIte, ↓reduceIte, Nat.reduceAdd, List.replicate_succ, List.replicate_zero, List.set_cons_zero, List.set_cons_succ, List.length_cons, List.length_nil, Nat.reduceLT, Nat.lt_add_one, ne_eq, Int.reduceEq, not_false_eq_true, Option.map_some, Nat.reduceLeDiff, Nat.zero_lt_succ, List.map_cons, List.map_nil, List.nil_append, List.cons_append, List.append_nil, bytesOf, List.take_succ_cons, List.take_zero, List.drop_zero, and_self, List.append_assoc, List.length_append, Int.reduceLT, Int.reduceLE, Int.toNat_zero, Int.reduceToNat, Int.cast_ofNat_Int, Int.natCast_zero, Int.natCast_one, Int.reduceAdd, List.map_append, Option.bind_some, h1]
    refine condK_split _ (fun h2 => ?_) (fun h2 => ?_)
    · simp only [go_sem, Nat.reduceEqDiff, reduceIte, ↓reduceIte, Nat.reduceAdd, List.replicate_succ, List.replicate_zero, List.set_cons_zero, List.set_cons_succ, List.length_cons, List.length_nil, Nat.reduceLT, Nat.lt_add_one, ne_eq, Int.reduceEq, not_false_eq_true, Option.map_some, Nat.reduceLeDiff, Nat.zero_lt_succ, List.map_cons, List.map_nil, List.nil_append, List.cons_append, List.append_nil, bytesOf, List.take_succ_cons, List.take_zero, List.drop_zero, and_self, List.append_assoc, List.length_append, Int.reduceLT, Int.reduceLE, Int.toNat_zero, Int.reduceToNat, Int.cast_ofNat_Int, Int.natCast_zero, Int.natCast_one, Int.reduceAdd, List.map_append, Option.bind_some, h2]
      simp [regD, h1, h2]
    · simp only [go_sem, Nat.reduceEqDiff, reduceIte, ↓reduceIte, Nat.reduceAdd, List.replicate_succ, List.replicate_zero, List.set_cons_zero, List.set_cons_succ, List.length_cons, List.length_nil, Nat.reduceLT, Nat.lt_add_one, ne_eq, Int.reduceEq, not_false_eq_true, Option.map_some, Nat.reduceLeDiff, Nat.zero_lt_succ, List.map_cons, List.map_nil, List.nil_append, List.cons_append, List.append_nil, bytesOf, List.take_succ_cons, List.take_zero, List.drop_zero, and_self, List.append_assoc, List.length_append, Int.reduceLT, Int.reduceLE, Int.toNat_zero, Int.reduceToNat, Int.cast_ofNat_Int, Int.natCast_zero, Int.natCast_one, Int.reduceAdd, List.map_append, Option.bind_some, h2]
      simp [regD, h1, h2]
  · simp only [go_sem, Nat.reduceEqDiff, reduceIte, ↓reduceIte, Nat.reduceAdd, List.replicate_succ, List.replicate_zero, List.set_cons_zero, List.set_cons_succ, List.length_cons, List.length_nil, Nat.reduceLT, Nat.lt_add_one, ne_eq, Int.reduceEq, not_false_eq_true, Option.map_some, Nat.reduceLeDiff, Nat.zero_lt_succ, List.map_cons, List.map_nil, List.nil_append, List.cons_append, List.append_nil, bytesOf, List.take_succ_cons, List.take_zero, List.drop_zero, and_self, List.append_assoc, List.length_append, Int.reduceLT, Int.reduceLE, Int.toNat_zero, Int.reduceToNat, Int.cast_ofNat_Int, Int.natCast_zero, Int.natCast_one, Int.reduceAdd, List.map_append, Option.bind_some, h1]
    simp [regD, h1]

theorem insOk_some {nI nS : Nat} {x : InsD} {w : List UInt8} (h : wantsD x = some w) : insOk nI nS x = (regD (w.contains 97) x.a && regD (w.contains 98) x.b && regD (w.contains 99) x.c && (w.contains 110 || decide (x.n = 0)) && (w.contains 116 || decide (x.text = [])) && extraD nI nS x) := by
  unfold insOk
  rw [h]
  simp only [zeroO, zeroD, regD]
  have key : ∀ (b : Bool) (v : Int), ((b && inD v 0 15) || decide (v = 0)) = (inD v 0 15 && (b || decide (v = 0))) := by
    intro b v
    by_cases hv : v = 0
    · subst hv; cases b <;> simp [inD]
    · cases b <;> simp [hv]
  rw [key, key, key]
  generalize inD x.a 0 15 = p1
  generalize inD x.b 0 15 = p2
  generalize inD x.c 0 15 = p3
  generalize (w.contains 97 || decide (x.a = 0)) = q1
  generalize (w.contains 98 || decide (x.b = 0)) = q2
  generalize (w.contains 99 || decide (x.c = 0)) = q3
  cases p1 <;> cases p2 <;> cases p3 <;> cases q1 <;> cases q2 <;> cases q3 <;> simp

def len4 : Option (List UInt8) → Prop
  | some w => w.length ≤ 4
  | none => True
theorem len4_ite {c : Prop} [Decidable c] {a b : Option (List UInt8)} (ha : len4 a) (hb : len4 b) : len4 (if c then a else b) := by
  by_cases h : c
  · rw [if_pos h]; exact ha
  · rw [if_neg h]; exact hb
theorem wants_len4 (x : InsD) : len4 (wantsD x) := by
  unfold wantsD opW
  repeat' (refine len4_ite ?_ ?_)
  all_goals first | exact trivial | (show List.length _ ≤ 4; simp)
theorem wants_len {x : InsD} {w : List UInt8} (h : wantsD x = some w) : w.length ≤ maxL := by
  have := wants_len4 x
  rw [h] at this
  unfold len4 at this
  unfold maxL; omega

set_option maxHeartbeats 4000000 in
set_option maxRecDepth 100000 in
theorem instrOk (x : InsD) (hx : x.text.length ≤ maxL) (c : CodeD) (hc : okCode c) : ACall Try.prog 132 [.st (c.cells.map .p), .st (x.cells.map .p)] [] (fun r H' => r = .p (.b (insOk c.ins.length c.starts.length x))) := by
  have hl1 : c.ins.length ≤ 9223372036854775807 := by have := hc.1.1; unfold maxL at this; omega
  have hl2 : c.starts.length ≤ 9223372036854775807 := by have := hc.2; unfold maxL at this; omega
  refine call132 (by simp) ?_
  simp only [go_sem, Nat.reduceEqDiff, reduceIte, ↓reduceIte, Nat.reduceAdd, List.replicate_succ, List.replicate_zero, List.set_cons_zero, List.set_cons_succ, List.length_cons, List.length_nil, Nat.reduceLT, Nat.lt_add_one, ne_eq, Int.reduceEq, not_false_eq_true, Option.map_some, Nat.reduceLeDiff, Nat.zero_lt_succ, List.map_cons, List.map_nil, List.nil_append, List.cons_append, List.append_nil, bytesOf, List.take_succ_cons, List.take_zero, List.drop_zero, and_self, List.append_assoc, List.length_append, Int.reduceLT, Int.reduceLE, Int.toNat_zero, Int.reduceToNat, Int.cast_ofNat_Int, Int.natCast_zero, Int.natCast_one, Int.reduceAdd, List.map_append, Option.bind_some, mc132, mr132, InsD.cells, CodeD.cells]
  rw [ins_eta]
  refine (wants_any x).mono ?_
  rintro r H' ⟨rfl, rfl⟩
  cases hw : wantsD x with
  | none =>
    simp only [go_sem, Nat.reduceEqDiff, reduceIte, ↓reduceIte, Nat.reduceAdd, List.replicate_succ, List.replicate_zero, List.set_cons_zero, List.set_cons_succ, List.length_cons, List.length_nil, Nat.reduceLT, Nat.lt_add_one, ne_eq, Int.reduceEq, not_false_eq_true, Option.map_some, Nat.reduceLeDiff, Nat.zero_lt_succ, List.map_cons, List.map_nil, List.nil_append, List.cons_append, List.append_nil, bytesOf, List.take_succ_cons, List.take_zero, List.drop_zero, and_self, List.append_assoc, List.length_append, Int.reduceLT, Int.reduceLE, Int.toNat_zero, Int.reduceToNat, Int.cast_ofNat_Int, Int.natCast_zero, Int.natCast_one, Int.reduceAdd, List.map_append, Option.bind_some, wantsR]
    simp [insOk, hw, zeroO]
  | some w =>
    have hwl := wants_len hw
    rw [insOk_some hw]
    simp only [go_sem, Nat.reduceEqDiff, reduceIte, ↓reduceIte, Nat.reduceAdd, List.replicate_succ, List.replicate_zero, List.set_cons_zero, List.set_cons_succ, List.length_cons, List.length_nil, Nat.reduceLT, Nat.lt_add_one, ne_eq, Int.reduceEq, not_false_eq_true, Option.map_some, Nat.reduceLeDiff, Nat.zero_lt_succ, List.map_cons, List.map_nil, List.nil_append, List.cons_append, List.append_nil, bytesOf, List.take_succ_cons, List.take_zero, List.drop_zero, and_self, List.append_assoc, List.length_append, Int.reduceLT, Int.reduceLE, Int.toNat_zero, Int.reduceToNat, Int.cast_ofNat_Int, Int.natCast_zero, Int.natCast_one, Int.reduceAdd, List.map_append, Option.bind_some, wantsR, InsD.cells]
    repeat' first
      | (refine condK_split _ (fun hd => ?_) (fun hd => ?_) <;> simp only [go_sem, Nat.reduceEqDiff, reduceIte, ↓reduceIte, Nat.reduceAdd, List.replicate_succ, List.replicate_zero, List.set_cons_zero, List.set_cons_succ, List.length_cons, List.length_nil, Nat.reduceLT, Nat.lt_add_one, ne_eq, Int.reduceEq, not_false_eq_true, Option.map_some, Nat.reduceLeDiff, Nat.zero_lt_succ, List.map_cons, List.map_nil, List.nil_append, List.cons_append, List.append_nil, bytesOf, List.take_succ_cons, List.take_zero, List.drop_zero, and_self, List.append_assoc, List.length_append, Int.reduceLT, Int.reduceLE, Int.toNat_zero, Int.reduceToNat, Int.cast_ofNat_Int, Int.natCast_zero, Int.natCast_one, Int.reduceAdd, List.map_append, Option.bind_some, hd, inss_len, ints_len])
      | (refine (regC hwl _ _ (j := 2) (k := 3) rfl rfl).mono ?_; rintro r H' ⟨rfl, rfl⟩; simp only [go_sem, Nat.reduceEqDiff, reduceIte, ↓reduceIte, Nat.reduceAdd, List.replicate_succ, List.replicate_zero, List.set_cons_zero, List.set_cons_succ, List.length_cons, List.length_nil, Nat.reduceLT, Nat.lt_add_one, ne_eq, Int.reduceEq, not_false_eq_true, Option.map_some, Nat.reduceLeDiff, Nat.zero_lt_succ, List.map_cons, List.map_nil, List.nil_append, List.cons_append, List.append_nil, bytesOf, List.take_succ_cons, List.take_zero, List.drop_zero, and_self, List.append_assoc, List.length_append, Int.reduceLT, Int.reduceLE, Int.toNat_zero, Int.reduceToNat, Int.cast_ofNat_Int, Int.natCast_zero, Int.natCast_one, Int.reduceAdd, List.map_append, Option.bind_some])
      | (refine (hasC hwl _ (j := 2) rfl).mono ?_; rintro r H' ⟨rfl, rfl⟩; simp only [go_sem, Nat.reduceEqDiff, reduceIte, ↓reduceIte, Nat.reduceAdd, List.replicate_succ, List.replicate_zero, List.set_cons_zero, List.set_cons_succ, List.length_cons, List.length_nil, Nat.reduceLT, Nat.lt_add_one, ne_eq, Int.reduceEq, not_false_eq_true, Option.map_some, Nat.reduceLeDiff, Nat.zero_lt_succ, List.map_cons, List.map_nil, List.nil_append, List.cons_append, List.append_nil, bytesOf, List.take_succ_cons, List.take_zero, List.drop_zero, and_self, List.append_assoc, List.length_append, Int.reduceLT, Int.reduceLE, Int.toNat_zero, Int.reduceToNat, Int.cast_ofNat_Int, Int.natCast_zero, Int.natCast_one, Int.reduceAdd, List.map_append, Option.bind_some])
      | (refine (within_any _ _ _).mono ?_; rintro r H' ⟨rfl, rfl⟩; simp only [go_sem, Nat.reduceEqDiff, reduceIte, ↓reduceIte, Nat.reduceAdd, List.replicate_succ, List.replicate_zero, List.set_cons_zero, List.set_cons_succ, List.length_cons, List.length_nil, Nat.reduceLT, Nat.lt_add_one, ne_eq, Int.reduceEq, not_false_eq_true, Option.map_some, Nat.reduceLeDiff, Nat.zero_lt_succ, List.map_cons, List.map_nil, List.nil_append, List.cons_append, List.append_nil, bytesOf, List.take_succ_cons, List.take_zero, List.drop_zero, and_self, List.append_assoc, List.length_append, Int.reduceLT, Int.reduceLE, Int.toNat_zero, Int.reduceToNat, Int.cast_ofNat_Int, Int.natCast_zero, Int.natCast_one, Int.reduceAdd, List.map_append, Option.bind_some, inss_len, ints_len])
      | (refine (plain_any _ hx).mono ?_; rintro r H' ⟨rfl, rfl⟩; simp only [go_sem, Nat.reduceEqDiff, reduceIte, ↓reduceIte, Nat.reduceAdd, List.replicate_succ, List.replicate_zero, List.set_cons_zero, List.set_cons_succ, List.length_cons, List.length_nil, Nat.reduceLT, Nat.lt_add_one, ne_eq, Int.reduceEq, not_false_eq_true, Option.map_some, Nat.reduceLeDiff, Nat.zero_lt_succ, List.map_cons, List.map_nil, List.nil_append, List.cons_append, List.append_nil, bytesOf, List.take_succ_cons, List.take_zero, List.drop_zero, and_self, List.append_assoc, List.length_append, Int.reduceLT, Int.reduceLE, Int.toNat_zero, Int.reduceToNat, Int.cast_ofNat_Int, Int.natCast_zero, Int.natCast_one, Int.reduceAdd, List.map_append, Option.bind_some])
      | (intro _; rw [wr64 (by omega) (by omega)])
      | intro _
    all_goals simp only [decide_eq_false_iff_not, decide_eq_true_eq, Bool.not_eq_true', Bool.not_eq_false', Bool.not_eq_true, Bool.not_eq_false] at *
    all_goals congr 2
    all_goals first | (simp [extraD, -List.contains_eq_mem, *]; done) | (simp_all [extraD]; done)
end Go.Proofs.Ytmbggdfceecojaa.Cd

/- Right codes: a whole code, by the program. -/
set_option linter.all false
namespace Go.Proofs.Ytmbggdfceecojaa.Cd
open Go.AM Mc Ho

theorem instrOk_any (x : InsD) (hx : x.text.length ≤ maxL) (c : CodeD) (hc : okCode c) {H : List AO} : ACall Try.prog 132 [.st (c.cells.map .p), .st (x.cells.map .p)] H (fun r H' => r = .p (.b (insOk c.ins.length c.starts.length x)) ∧ H' = H) :=
  (acall_lend (instrOk x hx c hc) (fun r H' h => by subst h; exact grnd_b _) (lentAll_cons (code_lent c) (lentAll_cons (ins_lent x) (lentAll_nil _)))).mono fun r H' ⟨h1, _, h2⟩ => ⟨h2, h1⟩

theorem code_take (c : CodeD) : takeN 2 (c.cells.map .p) = some (c.cells.map .p) := rfl
theorem fn131 (x : InsD) (hx : x.text.length ≤ maxL) (c : CodeD) (hc : okCode c) {H : List AO} {j : Nat} (hj : H[j]? = some (.var (c.cells.map .p))) :
    ACall Try.prog 131 [.st (x.cells.map .p), .ptr j 0] H (fun r H' => r = .p (.b (!insOk c.ins.length c.starts.length x)) ∧ ∃ G, H' = H ++ G) := by
  have hjl := (List.getElem?_eq_some_iff.1 hj).1
  refine call131 (by simp) ?_
  simp only [go_sem, Nat.reduceEqDiff, reduceIte, ↓reduceIte, Nat.reduceAdd, List.replicate_succ, List.replicate_zero, List.set_cons_zero, List.set_cons_succ, List.length_cons, List.length_nil, Nat.reduceLT, Nat.lt_add_one, ne_eq, Int.reduceEq, not_false_eq_true, Option.map_some, Nat.reduceLeDiff, Nat.zero_lt_succ, List.map_cons, List.map_nil, List.nil_append, List.cons_append, List.append_nil, bytesOf, List.take_succ_cons, List.take_zero, List.drop_zero, and_self, List.append_assoc, List.length_append, Int.reduceLT, Int.reduceLE, Int.toNat_zero, Int.reduceToNat, Int.cast_ofNat_Int, Int.natCast_zero, Int.natCast_one, Int.reduceAdd, List.map_append, Option.bind_some, mc131, mr131, InsD.cells, List.getElem?_append_left hjl, hj, code_take]
  rw [ins_eta]
  refine (instrOk_any x hx c hc).mono ?_
  rintro r H' ⟨rfl, rfl⟩
  simp only [go_sem, Nat.reduceEqDiff, reduceIte, ↓reduceIte, Nat.reduceAdd, List.replicate_succ, List.replicate_zero, List.set_cons_zero, List.set_cons_succ, List.length_cons, List.length_nil, Nat.reduceLT, Nat.lt_add_one, ne_eq, Int.reduceEq, not_false_eq_true, Option.map_some, Nat.reduceLeDiff, Nat.zero_lt_succ, List.map_cons, List.map_nil, List.nil_append, List.cons_append, List.append_nil, bytesOf, List.take_succ_cons, List.take_zero, List.drop_zero, and_self, List.append_assoc, List.length_append, Int.reduceLT, Int.reduceLE, Int.toNat_zero, Int.reduceToNat, Int.cast_ofNat_Int, Int.natCast_zero, Int.natCast_one, Int.reduceAdd, List.map_append, Option.bind_some]
  exact ⟨_, rfl⟩
theorem fn134 (x : Int) (c : CodeD) (hc : okCode c) {H : List AO} {j : Nat} (hj : H[j]? = some (.var (c.cells.map .p))) :
    ACall Try.prog 134 [.p (.i .i64 x), .ptr j 0] H (fun r H' => r = .p (.b (!placeOk c x)) ∧ ∃ G, H' = H ++ G) := by
  have hl1 : c.ins.length ≤ 9223372036854775807 := by have := hc.1.1; unfold maxL at this; omega
  refine call134 (by simp) ?_
  simp only [go_sem, Nat.reduceEqDiff, reduceIte, ↓reduceIte, Nat.reduceAdd, List.replicate_succ, List.replicate_zero, List.set_cons_zero, List.set_cons_succ, List.length_cons, List.length_nil, Nat.reduceLT, Nat.lt_add_one, ne_eq, Int.reduceEq, not_false_eq_true, Option.map_some, Nat.reduceLeDiff, Nat.zero_lt_succ, List.map_cons, List.map_nil, List.nil_append, List.cons_append, List.append_nil, bytesOf, List.take_succ_cons, List.take_zero, List.drop_zero, and_self, List.append_assoc, List.length_append, Int.reduceLT, Int.reduceLE, Int.toNat_zero, Int.reduceToNat, Int.cast_ofNat_Int, Int.natCast_zero, Int.natCast_one, Int.reduceAdd, List.map_append, Option.bind_some, mc134, mr134, hj, CodeD.cells, inss_len]
  intro _
  rw [wr64 (by omega) (by omega)]
  refine (within_any _ _ _).mono ?_
  rintro r H' ⟨rfl, rfl⟩
  simp only [go_sem, Nat.reduceEqDiff, reduceIte, ↓reduceIte, Nat.reduceAdd, List.replicate_succ, List.replicate_zero, List.set_cons_zero, List.set_cons_succ, List.length_cons, List.length_nil, Nat.reduceLT, Nat.lt_add_one, ne_eq, Int.reduceEq, not_false_eq_true, Option.map_some, Nat.reduceLeDiff, Nat.zero_lt_succ, List.map_cons, List.map_nil, List.nil_append, List.cons_append, List.append_nil, bytesOf, List.take_succ_cons, List.take_zero, List.drop_zero, and_self, List.append_assoc, List.length_append, Int.reduceLT, Int.reduceLE, Int.toNat_zero, Int.reduceToNat, Int.cast_ofNat_Int, Int.natCast_zero, Int.natCast_one, Int.reduceAdd, List.map_append, Option.bind_some]
  exact ⟨rfl, [], by simp⟩

/-- the first that passes a test, of instructions -/
theorem indexFn (l : List InsD) (hl : okIns l) (p : InsD → Bool) (f : Nat) (caps : List AV) (H : List AO)
    (hp : ∀ x ∈ l, ∀ G, ACall Try.prog f ([.st (x.cells.map .p)] ++ caps) (H ++ G) (fun r H' => r = .p (.b (p x)) ∧ ∃ G', H' = H ++ G ++ G')) :
    ACall Try.prog 166 [.p (.l (inss l)), .clo f caps] H (fun r H' => (∃ z : Int, r = .p (.i .i64 z) ∧ decide (0 ≤ z) = l.any p) ∧ ∃ G, H' = H ++ G) := by
  refine call166 (by simp) ?_
  simp only [go_sem, Nat.reduceEqDiff, reduceIte, ↓reduceIte, Nat.reduceAdd, List.replicate_succ, List.replicate_zero, List.set_cons_zero, List.set_cons_succ, List.length_cons, List.length_nil, Nat.reduceLT, Nat.lt_add_one, ne_eq, Int.reduceEq, not_false_eq_true, Option.map_some, Nat.reduceLeDiff, Nat.zero_lt_succ, List.map_cons, List.map_nil, List.nil_append, List.cons_append, List.append_nil, bytesOf, List.take_succ_cons, List.take_zero, List.drop_zero, and_self, List.append_assoc, List.length_append, Int.reduceLT, Int.reduceLE, Int.toNat_zero, Int.reduceToNat, Int.cast_ofNat_Int, Int.natCast_zero, Int.natCast_one, Int.reduceAdd, List.map_append, Option.bind_some, mc166, mr166, inss_len]
  intro _
  refine ⟨Nat × List AO, [0, 1, 4, 7, 8], fun x st => x.1 ≤ l.length ∧ (l.take x.1).all (fun y => !p y) = true ∧ st = ⟨[(0, .p (.l (inss l))), (1, .clo f caps), (4, .p (.i .i64 0)), (7, .p (.i .i64 l.length)), (8, .p (.i .i64 x.1))], [], H ++ x.2⟩, fun x => l.length - x.1, ⟨(0, []), ?_⟩, ?_⟩
  · simp only [go_sem, Nat.reduceEqDiff, reduceIte, ↓reduceIte, Nat.reduceAdd, List.replicate_succ, List.replicate_zero, List.set_cons_zero, List.set_cons_succ, List.length_cons, List.length_nil, Nat.reduceLT, Nat.lt_add_one, ne_eq, Int.reduceEq, not_false_eq_true, Option.map_some, Nat.reduceLeDiff, Nat.zero_lt_succ, List.map_cons, List.map_nil, List.nil_append, List.cons_append, List.append_nil, bytesOf, List.take_succ_cons, List.take_zero, List.drop_zero, and_self, List.append_assoc, List.length_append, Int.reduceLT, Int.reduceLE, Int.toNat_zero, Int.reduceToNat, Int.cast_ofNat_Int, Int.natCast_zero, Int.natCast_one, Int.reduceAdd, List.map_append, Option.bind_some]
    exact ⟨Nat.zero_le _, by simp⟩
  · rintro ⟨i, G⟩ st ⟨hi, ht, rfl⟩
    simp only at hi ht
    simp only [go_sem, Nat.reduceEqDiff, reduceIte, ↓reduceIte, Nat.reduceAdd, List.replicate_succ, List.replicate_zero, List.set_cons_zero, List.set_cons_succ, List.length_cons, List.length_nil, Nat.reduceLT, Nat.lt_add_one, ne_eq, Int.reduceEq, not_false_eq_true, Option.map_some, Nat.reduceLeDiff, Nat.zero_lt_succ, List.map_cons, List.map_nil, List.nil_append, List.cons_append, List.append_nil, bytesOf, List.take_succ_cons, List.take_zero, List.drop_zero, and_self, List.append_assoc, List.length_append, Int.reduceLT, Int.reduceLE, Int.toNat_zero, Int.reduceToNat, Int.cast_ofNat_Int, Int.natCast_zero, Int.natCast_one, Int.reduceAdd, List.map_append, Option.bind_some]
    refine condK_split _ (fun hc => ?_) (fun hc => ?_)
    · have hil : i < l.length := by simpa using hc
      simp only [go_sem, Nat.reduceEqDiff, reduceIte, ↓reduceIte, Nat.reduceAdd, List.replicate_succ, List.replicate_zero, List.set_cons_zero, List.set_cons_succ, List.length_cons, List.length_nil, Nat.reduceLT, Nat.lt_add_one, ne_eq, Int.reduceEq, not_false_eq_true, Option.map_some, Nat.reduceLeDiff, Nat.zero_lt_succ, List.map_cons, List.map_nil, List.nil_append, List.cons_append, List.append_nil, bytesOf, List.take_succ_cons, List.take_zero, List.drop_zero, and_self, List.append_assoc, List.length_append, Int.reduceLT, Int.reduceLE, Int.toNat_zero, Int.reduceToNat, Int.cast_ofNat_Int, Int.natCast_zero, Int.natCast_one, Int.reduceAdd, List.map_append, Option.bind_some, inss_at _ hil, ins_clen, ins_take]
      refine (hp _ (List.getElem_mem hil) G).mono ?_
      rintro r H' ⟨rfl, G', rfl⟩
      simp only [go_sem, Nat.reduceEqDiff, reduceIte, ↓reduceIte, Nat.reduceAdd, List.replicate_succ, List.replicate_zero, List.set_cons_zero, List.set_cons_succ, List.length_cons, List.length_nil, Nat.reduceLT, Nat.lt_add_one, ne_eq, Int.reduceEq, not_false_eq_true, Option.map_some, Nat.reduceLeDiff, Nat.zero_lt_succ, List.map_cons, List.map_nil, List.nil_append, List.cons_append, List.append_nil, bytesOf, List.take_succ_cons, List.take_zero, List.drop_zero, and_self, List.append_assoc, List.length_append, Int.reduceLT, Int.reduceLE, Int.toNat_zero, Int.reduceToNat, Int.cast_ofNat_Int, Int.natCast_zero, Int.natCast_one, Int.reduceAdd, List.map_append, Option.bind_some]
      refine condK_split _ (fun hd => ?_) (fun hd => ?_)
      · simp only [go_sem, Nat.reduceEqDiff, reduceIte, ↓reduceIte, Nat.reduceAdd, List.replicate_succ, List.replicate_zero, List.set_cons_zero, List.set_cons_succ, List.length_cons, List.length_nil, Nat.reduceLT, Nat.lt_add_one, ne_eq, Int.reduceEq, not_false_eq_true, Option.map_some, Nat.reduceLeDiff, Nat.zero_lt_succ, List.map_cons, List.map_nil, List.nil_append, List.cons_append, List.append_nil, bytesOf, List.take_succ_cons, List.take_zero, List.drop_zero, and_self, List.append_assoc, List.length_append, Int.reduceLT, Int.reduceLE, Int.toNat_zero, Int.reduceToNat, Int.cast_ofNat_Int, Int.natCast_zero, Int.natCast_one, Int.reduceAdd, List.map_append, Option.bind_some]
        refine ⟨⟨i, rfl, ?_⟩, G ++ G', rfl⟩
        have : l.any p = true := List.any_eq_true.2 ⟨_, List.getElem_mem hil, hd⟩
        rw [this]; simp
      · simp only [go_sem, Nat.reduceEqDiff, reduceIte, ↓reduceIte, Nat.reduceAdd, List.replicate_succ, List.replicate_zero, List.set_cons_zero, List.set_cons_succ, List.length_cons, List.length_nil, Nat.reduceLT, Nat.lt_add_one, ne_eq, Int.reduceEq, not_false_eq_true, Option.map_some, Nat.reduceLeDiff, Nat.zero_lt_succ, List.map_cons, List.map_nil, List.nil_append, List.cons_append, List.append_nil, bytesOf, List.take_succ_cons, List.take_zero, List.drop_zero, and_self, List.append_assoc, List.length_append, Int.reduceLT, Int.reduceLE, Int.toNat_zero, Int.reduceToNat, Int.cast_ofNat_Int, Int.natCast_zero, Int.natCast_one, Int.reduceAdd, List.map_append, Option.bind_some]
        refine ⟨(i + 1, G ++ G'), ⟨hil, all_take (p := fun y => !p y) hil ht (by simp [hd]), ?_⟩, by simp; omega⟩
        rw [wr1 hil hl.1]
    · have hil : i = l.length := by simp at hc; omega
      subst hil
      rw [List.take_length] at ht
      simp only [go_sem, Nat.reduceEqDiff, reduceIte, ↓reduceIte, Nat.reduceAdd, List.replicate_succ, List.replicate_zero, List.set_cons_zero, List.set_cons_succ, List.length_cons, List.length_nil, Nat.reduceLT, Nat.lt_add_one, ne_eq, Int.reduceEq, not_false_eq_true, Option.map_some, Nat.reduceLeDiff, Nat.zero_lt_succ, List.map_cons, List.map_nil, List.nil_append, List.cons_append, List.append_nil, bytesOf, List.take_succ_cons, List.take_zero, List.drop_zero, and_self, List.append_assoc, List.length_append, Int.reduceLT, Int.reduceLE, Int.toNat_zero, Int.reduceToNat, Int.cast_ofNat_Int, Int.natCast_zero, Int.natCast_one, Int.reduceAdd, List.map_append, Option.bind_some]
      refine ⟨⟨-1, rfl, ?_⟩, G, rfl⟩
      have : l.any p = false := by
        rw [List.any_eq_false]; intro y hy
        have := List.all_eq_true.1 ht y hy
        simpa using this
      rw [this]; rfl

theorem indexFnI (l : List Int) (hl : l.length ≤ maxL) (p : Int → Bool) (f : Nat) (caps : List AV) (H : List AO)
    (hp : ∀ x ∈ l, ∀ G, ACall Try.prog f ([.p (.i .i64 x)] ++ caps) (H ++ G) (fun r H' => r = .p (.b (p x)) ∧ ∃ G', H' = H ++ G ++ G')) :
    ACall Try.prog 172 [.p (.l (ints l)), .clo f caps] H (fun r H' => (∃ z : Int, r = .p (.i .i64 z) ∧ decide (0 ≤ z) = l.any p) ∧ ∃ G, H' = H ++ G) := by
  refine call172 (by simp) ?_
  simp only [go_sem, Nat.reduceEqDiff, reduceIte, ↓reduceIte, Nat.reduceAdd, List.replicate_succ, List.replicate_zero, List.set_cons_zero, List.set_cons_succ, List.length_cons, List.length_nil, Nat.reduceLT, Nat.lt_add_one, ne_eq, Int.reduceEq, not_false_eq_true, Option.map_some, Nat.reduceLeDiff, Nat.zero_lt_succ, List.map_cons, List.map_nil, List.nil_append, List.cons_append, List.append_nil, bytesOf, List.take_succ_cons, List.take_zero, List.drop_zero, and_self, List.append_assoc, List.length_append, Int.reduceLT, Int.reduceLE, Int.toNat_zero, Int.reduceToNat, Int.cast_ofNat_Int, Int.natCast_zero, Int.natCast_one, Int.reduceAdd, List.map_append, Option.bind_some, mc172, mr172, ints_len]
  intro _
  refine ⟨Nat × List AO, [0, 1, 4, 7, 8], fun x st => x.1 ≤ l.length ∧ (l.take x.1).all (fun y => !p y) = true ∧ st = ⟨[(0, .p (.l (ints l))), (1, .clo f caps), (4, .p (.i .i64 0)), (7, .p (.i .i64 l.length)), (8, .p (.i .i64 x.1))], [], H ++ x.2⟩, fun x => l.length - x.1, ⟨(0, []), ?_⟩, ?_⟩
  · simp only [go_sem, Nat.reduceEqDiff, reduceIte, ↓reduceIte, Nat.reduceAdd, List.replicate_succ, List.replicate_zero, List.set_cons_zero, List.set_cons_succ, List.length_cons, List.length_nil, Nat.reduceLT, Nat.lt_add_one, ne_eq, Int.reduceEq, not_false_eq_true, Option.map_some, Nat.reduceLeDiff, Nat.zero_lt_succ, List.map_cons, List.map_nil, List.nil_append, List.cons_append, List.append_nil, bytesOf, List.take_succ_cons, List.take_zero, List.drop_zero, and_self, List.append_assoc, List.length_append, Int.reduceLT, Int.reduceLE, Int.toNat_zero, Int.reduceToNat, Int.cast_ofNat_Int, Int.natCast_zero, Int.natCast_one, Int.reduceAdd, List.map_append, Option.bind_some]
    exact ⟨Nat.zero_le _, by simp⟩
  · rintro ⟨i, G⟩ st ⟨hi, ht, rfl⟩
    simp only at hi ht
    simp only [go_sem, Nat.reduceEqDiff, reduceIte, ↓reduceIte, Nat.reduceAdd, List.replicate_succ, List.replicate_zero, List.set_cons_zero, List.set_cons_succ, List.length_cons, List.length_nil, Nat.reduceLT, Nat.lt_add_one, ne_eq, Int.reduceEq, not_false_eq_true, Option.map_some, Nat.reduceLeDiff, Nat.zero_lt_succ, List.map_cons, List.map_nil, List.nil_append, List.cons_append, List.append_nil, bytesOf, List.take_succ_cons, List.take_zero, List.drop_zero, and_self, List.append_assoc, List.length_append, Int.reduceLT, Int.reduceLE, Int.toNat_zero, Int.reduceToNat, Int.cast_ofNat_Int, Int.natCast_zero, Int.natCast_one, Int.reduceAdd, List.map_append, Option.bind_some]
    refine condK_split _ (fun hc => ?_) (fun hc => ?_)
    · have hil : i < l.length := by simpa using hc
      simp only [go_sem, Nat.reduceEqDiff, reduceIte, ↓reduceIte, Nat.reduceAdd, List.replicate_succ, List.replicate_zero, List.set_cons_zero, List.set_cons_succ, List.length_cons, List.length_nil, Nat.reduceLT, Nat.lt_add_one, ne_eq, Int.reduceEq, not_false_eq_true, Option.map_some, Nat.reduceLeDiff, Nat.zero_lt_succ, List.map_cons, List.map_nil, List.nil_append, List.cons_append, List.append_nil, bytesOf, List.take_succ_cons, List.take_zero, List.drop_zero, and_self, List.append_assoc, List.length_append, Int.reduceLT, Int.reduceLE, Int.toNat_zero, Int.reduceToNat, Int.cast_ofNat_Int, Int.natCast_zero, Int.natCast_one, Int.reduceAdd, List.map_append, Option.bind_some, ints_at _ hil]
      refine (hp _ (List.getElem_mem hil) G).mono ?_
      rintro r H' ⟨rfl, G', rfl⟩
      simp only [go_sem, Nat.reduceEqDiff, reduceIte, ↓reduceIte, Nat.reduceAdd, List.replicate_succ, List.replicate_zero, List.set_cons_zero, List.set_cons_succ, List.length_cons, List.length_nil, Nat.reduceLT, Nat.lt_add_one, ne_eq, Int.reduceEq, not_false_eq_true, Option.map_some, Nat.reduceLeDiff, Nat.zero_lt_succ, List.map_cons, List.map_nil, List.nil_append, List.cons_append, List.append_nil, bytesOf, List.take_succ_cons, List.take_zero, List.drop_zero, and_self, List.append_assoc, List.length_append, Int.reduceLT, Int.reduceLE, Int.toNat_zero, Int.reduceToNat, Int.cast_ofNat_Int, Int.natCast_zero, Int.natCast_one, Int.reduceAdd, List.map_append, Option.bind_some]
      refine condK_split _ (fun hd => ?_) (fun hd => ?_)
      · simp only [go_sem, Nat.reduceEqDiff, reduceIte, ↓reduceIte, Nat.reduceAdd, List.replicate_succ, List.replicate_zero, List.set_cons_zero, List.set_cons_succ, List.length_cons, List.length_nil, Nat.reduceLT, Nat.lt_add_one, ne_eq, Int.reduceEq, not_false_eq_true, Option.map_some, Nat.reduceLeDiff, Nat.zero_lt_succ, List.map_cons, List.map_nil, List.nil_append, List.cons_append, List.append_nil, bytesOf, List.take_succ_cons, List.take_zero, List.drop_zero, and_self, List.append_assoc, List.length_append, Int.reduceLT, Int.reduceLE, Int.toNat_zero, Int.reduceToNat, Int.cast_ofNat_Int, Int.natCast_zero, Int.natCast_one, Int.reduceAdd, List.map_append, Option.bind_some]
        refine ⟨⟨i, rfl, ?_⟩, G ++ G', rfl⟩
        have : l.any p = true := List.any_eq_true.2 ⟨_, List.getElem_mem hil, hd⟩
        rw [this]; simp
      · simp only [go_sem, Nat.reduceEqDiff, reduceIte, ↓reduceIte, Nat.reduceAdd, List.replicate_succ, List.replicate_zero, List.set_cons_zero, List.set_cons_succ, List.length_cons, List.length_nil, Nat.reduceLT, Nat.lt_add_one, ne_eq, Int.reduceEq, not_false_eq_true, Option.map_some, Nat.reduceLeDiff, Nat.zero_lt_succ, List.map_cons, List.map_nil, List.nil_append, List.cons_append, List.append_nil, bytesOf, List.take_succ_cons, List.take_zero, List.drop_zero, and_self, List.append_assoc, List.length_append, Int.reduceLT, Int.reduceLE, Int.toNat_zero, Int.reduceToNat, Int.cast_ofNat_Int, Int.natCast_zero, Int.natCast_one, Int.reduceAdd, List.map_append, Option.bind_some]
        refine ⟨(i + 1, G ++ G'), ⟨hil, all_take (p := fun y => !p y) hil ht (by simp [hd]), ?_⟩, by simp; omega⟩
        rw [wr1 hil hl]
    · have hil : i = l.length := by simp at hc; omega
      subst hil
      rw [List.take_length] at ht
      simp only [go_sem, Nat.reduceEqDiff, reduceIte, ↓reduceIte, Nat.reduceAdd, List.replicate_succ, List.replicate_zero, List.set_cons_zero, List.set_cons_succ, List.length_cons, List.length_nil, Nat.reduceLT, Nat.lt_add_one, ne_eq, Int.reduceEq, not_false_eq_true, Option.map_some, Nat.reduceLeDiff, Nat.zero_lt_succ, List.map_cons, List.map_nil, List.nil_append, List.cons_append, List.append_nil, bytesOf, List.take_succ_cons, List.take_zero, List.drop_zero, and_self, List.append_assoc, List.length_append, Int.reduceLT, Int.reduceLE, Int.toNat_zero, Int.reduceToNat, Int.cast_ofNat_Int, Int.natCast_zero, Int.natCast_one, Int.reduceAdd, List.map_append, Option.bind_some]
      refine ⟨⟨-1, rfl, ?_⟩, G, rfl⟩
      have : l.any p = false := by
        rw [List.any_eq_false]; intro y hy
        have := List.all_eq_true.1 ht y hy
        simpa using this
      rw [this]; rfl

theorem any_not {α : Type} (l : List α) (p : α → Bool) : (l.any fun y => !p y) = !l.all p := by
  induction l with
  | nil => rfl
  | cons a l ih => simp only [List.any_cons, List.all_cons, ih, Bool.not_and]

theorem containsFn (c : CodeD) (hc : okCode c) (H : List AO) {j : Nat} (hj : H[j]? = some (.var (c.cells.map .p))) :
    ACall Try.prog 130 [.p (.l (inss c.ins)), .clo 131 [.ptr j 0]] H (fun r H' => r = .p (.b (!c.ins.all (insOk c.ins.length c.starts.length))) ∧ ∃ G, H' = H ++ G) := by
  have hjl := (List.getElem?_eq_some_iff.1 hj).1
  refine call130 (by simp) ?_
  simp only [go_sem, Nat.reduceEqDiff, reduceIte, ↓reduceIte, Nat.reduceAdd, List.replicate_succ, List.replicate_zero, List.set_cons_zero, List.set_cons_succ, List.length_cons, List.length_nil, Nat.reduceLT, Nat.lt_add_one, ne_eq, Int.reduceEq, not_false_eq_true, Option.map_some, Nat.reduceLeDiff, Nat.zero_lt_succ, List.map_cons, List.map_nil, List.nil_append, List.cons_append, List.append_nil, bytesOf, List.take_succ_cons, List.take_zero, List.drop_zero, and_self, List.append_assoc, List.length_append, Int.reduceLT, Int.reduceLE, Int.toNat_zero, Int.reduceToNat, Int.cast_ofNat_Int, Int.natCast_zero, Int.natCast_one, Int.reduceAdd, List.map_append, Option.bind_some, mc130, mr130]
  refine (indexFn c.ins hc.1 (fun x => !insOk c.ins.length c.starts.length x) 131 [.ptr j 0] H (fun x hx G => fn131 x (hc.1.2 x hx) c hc (by rw [List.getElem?_append_left hjl]; exact hj))).mono ?_
  rintro r H' ⟨⟨z, rfl, hz⟩, G, rfl⟩
  simp only [go_sem, Nat.reduceEqDiff, reduceIte, ↓reduceIte, Nat.reduceAdd, List.replicate_succ, List.replicate_zero, List.set_cons_zero, List.set_cons_succ, List.length_cons, List.length_nil, Nat.reduceLT, Nat.lt_add_one, ne_eq, Int.reduceEq, not_false_eq_true, Option.map_some, Nat.reduceLeDiff, Nat.zero_lt_succ, List.map_cons, List.map_nil, List.nil_append, List.cons_append, List.append_nil, bytesOf, List.take_succ_cons, List.take_zero, List.drop_zero, and_self, List.append_assoc, List.length_append, Int.reduceLT, Int.reduceLE, Int.toNat_zero, Int.reduceToNat, Int.cast_ofNat_Int, Int.natCast_zero, Int.natCast_one, Int.reduceAdd, List.map_append, Option.bind_some, hz]
  exact ⟨by rw [any_not], G, rfl⟩
theorem containsFnI (c : CodeD) (hc : okCode c) (H : List AO) {j : Nat} (hj : H[j]? = some (.var (c.cells.map .p))) :
    ACall Try.prog 133 [.p (.l (ints c.starts)), .clo 134 [.ptr j 0]] H (fun r H' => r = .p (.b (!c.starts.all (placeOk c))) ∧ ∃ G, H' = H ++ G) := by
  have hjl := (List.getElem?_eq_some_iff.1 hj).1
  refine call133 (by simp) ?_
  simp only [go_sem, Nat.reduceEqDiff, reduceIte, ↓reduceIte, Nat.reduceAdd, List.replicate_succ, List.replicate_zero, List.set_cons_zero, List.set_cons_succ, List.length_cons, List.length_nil, Nat.reduceLT, Nat.lt_add_one, ne_eq, Int.reduceEq, not_false_eq_true, Option.map_some, Nat.reduceLeDiff, Nat.zero_lt_succ, List.map_cons, List.map_nil, List.nil_append, List.cons_append, List.append_nil, bytesOf, List.take_succ_cons, List.take_zero, List.drop_zero, and_self, List.append_assoc, List.length_append, Int.reduceLT, Int.reduceLE, Int.toNat_zero, Int.reduceToNat, Int.cast_ofNat_Int, Int.natCast_zero, Int.natCast_one, Int.reduceAdd, List.map_append, Option.bind_some, mc133, mr133]
  refine (indexFnI c.starts hc.2 (fun x => !placeOk c x) 134 [.ptr j 0] H (fun x hx G => fn134 x c hc (by rw [List.getElem?_append_left hjl]; exact hj))).mono ?_
  rintro r H' ⟨⟨z, rfl, hz⟩, G, rfl⟩
  simp only [go_sem, Nat.reduceEqDiff, reduceIte, ↓reduceIte, Nat.reduceAdd, List.replicate_succ, List.replicate_zero, List.set_cons_zero, List.set_cons_succ, List.length_cons, List.length_nil, Nat.reduceLT, Nat.lt_add_one, ne_eq, Int.reduceEq, not_false_eq_true, Option.map_some, Nat.reduceLeDiff, Nat.zero_lt_succ, List.map_cons, List.map_nil, List.nil_append, List.cons_append, List.append_nil, bytesOf, List.take_succ_cons, List.take_zero, List.drop_zero, and_self, List.append_assoc, List.length_append, Int.reduceLT, Int.reduceLE, Int.toNat_zero, Int.reduceToNat, Int.cast_ofNat_Int, Int.natCast_zero, Int.natCast_one, Int.reduceAdd, List.map_append, Option.bind_some, hz]
  exact ⟨by rw [any_not], G, rfl⟩

theorem implCodeOk (c : CodeD) (hc : okCode c) : ACall Try.prog 74 [.st (c.cells.map .p)] [] (fun r H' => r = .p (.b (codeOk c))) := by
  have hl1 : c.ins.length ≤ 9223372036854775807 := by have := hc.1.1; unfold maxL at this; omega
  have hl2 : c.starts.length ≤ 9223372036854775807 := by have := hc.2; unfold maxL at this; omega
  refine call74 (by simp) ?_
  simp only [go_sem, Nat.reduceEqDiff, reduceIte, ↓reduceIte, Nat.reduceAdd, List.replicate_succ, List.replicate_zero, List.set_cons_zero, List.set_cons_succ, List.length_cons, List.length_nil, Nat.reduceLT, Nat.lt_add_one, ne_eq, Int.reduceEq, not_false_eq_true, Option.map_some, Nat.reduceLeDiff, Nat.zero_lt_succ, List.map_cons, List.map_nil, List.nil_append, List.cons_append, List.append_nil, bytesOf, List.take_succ_cons, List.take_zero, List.drop_zero, and_self, List.append_assoc, List.length_append, Int.reduceLT, Int.reduceLE, Int.toNat_zero, Int.reduceToNat, Int.cast_ofNat_Int, Int.natCast_zero, Int.natCast_one, Int.reduceAdd, List.map_append, Option.bind_some, mc74, mr74, CodeD.cells, inss_len, ints_len]
  intro _
  refine (within_any _ _ _).mono ?_
  rintro r H' ⟨rfl, rfl⟩
  simp only [go_sem, Nat.reduceEqDiff, reduceIte, ↓reduceIte, Nat.reduceAdd, List.replicate_succ, List.replicate_zero, List.set_cons_zero, List.set_cons_succ, List.length_cons, List.length_nil, Nat.reduceLT, Nat.lt_add_one, ne_eq, Int.reduceEq, not_false_eq_true, Option.map_some, Nat.reduceLeDiff, Nat.zero_lt_succ, List.map_cons, List.map_nil, List.nil_append, List.cons_append, List.append_nil, bytesOf, List.take_succ_cons, List.take_zero, List.drop_zero, and_self, List.append_assoc, List.length_append, Int.reduceLT, Int.reduceLE, Int.toNat_zero, Int.reduceToNat, Int.cast_ofNat_Int, Int.natCast_zero, Int.natCast_one, Int.reduceAdd, List.map_append, Option.bind_some]
  have hbad : inD c.ins.length 1 40000 = false ∨ decide ((400 : Int) < c.starts.length) = true → codeOk c = false := by
    intro h
    unfold codeOk
    rcases h with h | h
    · simp [h]
    · have : ¬ (c.starts.length : Int) ≤ 400 := by simp at h; omega
      simp [this]
  refine condK_split _ (fun h1 => ?_) (fun h1 => ?_)
  · simp only [go_sem, Nat.reduceEqDiff, reduceIte, ↓reduceIte, Nat.reduceAdd, List.replicate_succ, List.replicate_zero, List.set_cons_zero, List.set_cons_succ, List.length_cons, List.length_nil, Nat.reduceLT, Nat.lt_add_one, ne_eq, Int.reduceEq, not_false_eq_true, Option.map_some, Nat.reduceLeDiff, Nat.zero_lt_succ, List.map_cons, List.map_nil, List.nil_append, List.cons_append, List.append_nil, bytesOf, List.take_succ_cons, List.take_zero, List.drop_zero, and_self, List.append_assoc, List.length_append, Int.reduceLT, Int.reduceLE, Int.toNat_zero, Int.reduceToNat, Int.cast_ofNat_Int, Int.natCast_zero, Int.natCast_one, Int.reduceAdd, List.map_append, Option.bind_some, h1]
    rw [hbad (.inl (by simpa using h1))]
  · simp only [go_sem, Nat.reduceEqDiff, reduceIte, ↓reduceIte, Nat.reduceAdd, List.replicate_succ, List.replicate_zero, List.set_cons_zero, List.set_cons_succ, List.length_cons, List.length_nil, Nat.reduceLT, Nat.lt_add_one, ne_eq, Int.reduceEq, not_false_eq_true, Option.map_some, Nat.reduceLeDiff, Nat.zero_lt_succ, List.map_cons, List.map_nil, List.nil_append, List.cons_append, List.append_nil, bytesOf, List.take_succ_cons, List.take_zero, List.drop_zero, and_self, List.append_assoc, List.length_append, Int.reduceLT, Int.reduceLE, Int.toNat_zero, Int.reduceToNat, Int.cast_ofNat_Int, Int.natCast_zero, Int.natCast_one, Int.reduceAdd, List.map_append, Option.bind_some, h1, ints_len]
    intro _
    refine condK_split _ (fun h2 => ?_) (fun h2 => ?_)
    · simp only [go_sem, Nat.reduceEqDiff, reduceIte, ↓reduceIte, Nat.reduceAdd, List.replicate_succ, List.replicate_zero, List.set_cons_zero, List.set_cons_succ, List.length_cons, List.length_nil, Nat.reduceLT, Nat.lt_add_one, ne_eq, Int.reduceEq, not_false_eq_true, Option.map_some, Nat.reduceLeDiff, Nat.zero_lt_succ, List.map_cons, List.map_nil, List.nil_append, List.cons_append, List.append_nil, bytesOf, List.take_succ_cons, List.take_zero, List.drop_zero, and_self, List.append_assoc, List.length_append, Int.reduceLT, Int.reduceLE, Int.toNat_zero, Int.reduceToNat, Int.cast_ofNat_Int, Int.natCast_zero, Int.natCast_one, Int.reduceAdd, List.map_append, Option.bind_some]
      rw [hbad (.inr h2)]
    · simp only [go_sem, Nat.reduceEqDiff, reduceIte, ↓reduceIte, Nat.reduceAdd, List.replicate_succ, List.replicate_zero, List.set_cons_zero, List.set_cons_succ, List.length_cons, List.length_nil, Nat.reduceLT, Nat.lt_add_one, ne_eq, Int.reduceEq, not_false_eq_true, Option.map_some, Nat.reduceLeDiff, Nat.zero_lt_succ, List.map_cons, List.map_nil, List.nil_append, List.cons_append, List.append_nil, bytesOf, List.take_succ_cons, List.take_zero, List.drop_zero, and_self, List.append_assoc, List.length_append, Int.reduceLT, Int.reduceLE, Int.toNat_zero, Int.reduceToNat, Int.cast_ofNat_Int, Int.natCast_zero, Int.natCast_one, Int.reduceAdd, List.map_append, Option.bind_some]
      have hpos : 0 < c.ins.length := by simp [inD] at h1; omega
      have h1' : inD c.ins.length 1 40000 = true := by simpa using h1
      have h2' : (c.starts.length : Int) ≤ 400 := by simpa using h2
      refine (containsFn c hc _ (j := 0) rfl).mono ?_
      rintro r H' ⟨rfl, G, rfl⟩
      simp only [go_sem, Nat.reduceEqDiff, reduceIte, ↓reduceIte, Nat.reduceAdd, List.replicate_succ, List.replicate_zero, List.set_cons_zero, List.set_cons_succ, List.length_cons, List.length_nil, Nat.reduceLT, Nat.lt_add_one, ne_eq, Int.reduceEq, not_false_eq_true, Option.map_some, Nat.reduceLeDiff, Nat.zero_lt_succ, List.map_cons, List.map_nil, List.nil_append, List.cons_append, List.append_nil, bytesOf, List.take_succ_cons, List.take_zero, List.drop_zero, and_self, List.append_assoc, List.length_append, Int.reduceLT, Int.reduceLE, Int.toNat_zero, Int.reduceToNat, Int.cast_ofNat_Int, Int.natCast_zero, Int.natCast_one, Int.reduceAdd, List.map_append, Option.bind_some]
      refine condK_split _ (fun h3 => ?_) (fun h3 => ?_)
      · simp only [go_sem, Nat.reduceEqDiff, reduceIte, ↓reduceIte, Nat.reduceAdd, List.replicate_succ, List.replicate_zero, List.set_cons_zero, List.set_cons_succ, List.length_cons, List.length_nil, Nat.reduceLT, Nat.lt_add_one, ne_eq, Int.reduceEq, not_false_eq_true, Option.map_some, Nat.reduceLeDiff, Nat.zero_lt_succ, List.map_cons, List.map_nil, List.nil_append, List.cons_append, List.append_nil, bytesOf, List.take_succ_cons, List.take_zero, List.drop_zero, and_self, List.append_assoc, List.length_append, Int.reduceLT, Int.reduceLE, Int.toNat_zero, Int.reduceToNat, Int.cast_ofNat_Int, Int.natCast_zero, Int.natCast_one, Int.reduceAdd, List.map_append, Option.bind_some, h3]
        have h3' : c.ins.all (insOk c.ins.length c.starts.length) = false := by simpa using h3
        unfold codeOk
        rw [h3']; simp
      · simp only [go_sem, Nat.reduceEqDiff, reduceIte, ↓reduceIte, Nat.reduceAdd, List.replicate_succ, List.replicate_zero, List.set_cons_zero, List.set_cons_succ, List.length_cons, List.length_nil, Nat.reduceLT, Nat.lt_add_one, ne_eq, Int.reduceEq, not_false_eq_true, Option.map_some, Nat.reduceLeDiff, Nat.zero_lt_succ, List.map_cons, List.map_nil, List.nil_append, List.cons_append, List.append_nil, bytesOf, List.take_succ_cons, List.take_zero, List.drop_zero, and_self, List.append_assoc, List.length_append, Int.reduceLT, Int.reduceLE, Int.toNat_zero, Int.reduceToNat, Int.cast_ofNat_Int, Int.natCast_zero, Int.natCast_one, Int.reduceAdd, List.map_append, Option.bind_some, h3]
        have h3' : c.ins.all (insOk c.ins.length c.starts.length) = true := by simpa using h3
        refine (containsFnI c hc _ (j := 0) rfl).mono ?_
        rintro r H' ⟨rfl, G', rfl⟩
        simp only [go_sem, Nat.reduceEqDiff, reduceIte, ↓reduceIte, Nat.reduceAdd, List.replicate_succ, List.replicate_zero, List.set_cons_zero, List.set_cons_succ, List.length_cons, List.length_nil, Nat.reduceLT, Nat.lt_add_one, ne_eq, Int.reduceEq, not_false_eq_true, Option.map_some, Nat.reduceLeDiff, Nat.zero_lt_succ, List.map_cons, List.map_nil, List.nil_append, List.cons_append, List.append_nil, bytesOf, List.take_succ_cons, List.take_zero, List.drop_zero, and_self, List.append_assoc, List.length_append, Int.reduceLT, Int.reduceLE, Int.toNat_zero, Int.reduceToNat, Int.cast_ofNat_Int, Int.natCast_zero, Int.natCast_one, Int.reduceAdd, List.map_append, Option.bind_some, h3]
        refine condK_split _ (fun h4 => ?_) (fun h4 => ?_)
        · simp only [go_sem, Nat.reduceEqDiff, reduceIte, ↓reduceIte, Nat.reduceAdd, List.replicate_succ, List.replicate_zero, List.set_cons_zero, List.set_cons_succ, List.length_cons, List.length_nil, Nat.reduceLT, Nat.lt_add_one, ne_eq, Int.reduceEq, not_false_eq_true, Option.map_some, Nat.reduceLeDiff, Nat.zero_lt_succ, List.map_cons, List.map_nil, List.nil_append, List.cons_append, List.append_nil, bytesOf, List.take_succ_cons, List.take_zero, List.drop_zero, and_self, List.append_assoc, List.length_append, Int.reduceLT, Int.reduceLE, Int.toNat_zero, Int.reduceToNat, Int.cast_ofNat_Int, Int.natCast_zero, Int.natCast_one, Int.reduceAdd, List.map_append, Option.bind_some, h4]
          have h4' : c.starts.all (placeOk c) = false := by simpa using h4
          unfold codeOk
          rw [h4']; simp
        · simp only [go_sem, Nat.reduceEqDiff, reduceIte, ↓reduceIte, Nat.reduceAdd, List.replicate_succ, List.replicate_zero, List.set_cons_zero, List.set_cons_succ, List.length_cons, List.length_nil, Nat.reduceLT, Nat.lt_add_one, ne_eq, Int.reduceEq, not_false_eq_true, Option.map_some, Nat.reduceLeDiff, Nat.zero_lt_succ, List.map_cons, List.map_nil, List.nil_append, List.cons_append, List.append_nil, bytesOf, List.take_succ_cons, List.take_zero, List.drop_zero, and_self, List.append_assoc, List.length_append, Int.reduceLT, Int.reduceLE, Int.toNat_zero, Int.reduceToNat, Int.cast_ofNat_Int, Int.natCast_zero, Int.natCast_one, Int.reduceAdd, List.map_append, Option.bind_some, h4, inss_len]
          have h4' : c.starts.all (placeOk c) = true := by simpa using h4
          intro _
          rw [wr64 (by omega) (by omega)]
          have hlast : c.ins.length - 1 < c.ins.length := by omega
          have e1 : ((c.ins.length : Int) - 1) = ((c.ins.length - 1 : Nat) : Int) := by omega
          rw [e1]
          simp only [go_sem, Nat.reduceEqDiff, reduceIte, ↓reduceIte, Nat.reduceAdd, List.replicate_succ, List.replicate_zero, List.set_cons_zero, List.set_cons_succ, List.length_cons, List.length_nil, Nat.reduceLT, Nat.lt_add_one, ne_eq, Int.reduceEq, not_false_eq_true, Option.map_some, Nat.reduceLeDiff, Nat.zero_lt_succ, List.map_cons, List.map_nil, List.nil_append, List.cons_append, List.append_nil, bytesOf, List.take_succ_cons, List.take_zero, List.drop_zero, and_self, List.append_assoc, List.length_append, Int.reduceLT, Int.reduceLE, Int.toNat_zero, Int.reduceToNat, Int.cast_ofNat_Int, Int.natCast_zero, Int.natCast_one, Int.reduceAdd, List.map_append, Option.bind_some, inss_at _ hlast, InsD.cells]
          have hco : codeOk c = (decide (c.ins[c.ins.length - 1].op = 12) || decide (c.ins[c.ins.length - 1].op = 13) || decide (c.ins[c.ins.length - 1].op = 14) || decide (c.ins[c.ins.length - 1].op = 15)) := by
            unfold codeOk lastOk
            rw [h3', h4', h1', List.getElem?_eq_getElem hlast]
            simp [h2']
          rw [hco]
          repeat' (refine condK_split _ (fun hd => ?_) (fun hd => ?_) <;> simp only [go_sem, Nat.reduceEqDiff, reduceIte, ↓reduceIte, Nat.reduceAdd, List.replicate_succ, List.replicate_zero, List.set_cons_zero, List.set_cons_succ, List.length_cons, List.length_nil, Nat.reduceLT, Nat.lt_add_one, ne_eq, Int.reduceEq, not_false_eq_true, Option.map_some, Nat.reduceLeDiff, Nat.zero_lt_succ, List.map_cons, List.map_nil, List.nil_append, List.cons_append, List.append_nil, bytesOf, List.take_succ_cons, List.take_zero, List.drop_zero, and_self, List.append_assoc, List.length_append, Int.reduceLT, Int.reduceLE, Int.toNat_zero, Int.reduceToNat, Int.cast_ofNat_Int, Int.natCast_zero, Int.natCast_one, Int.reduceAdd, List.map_append, Option.bind_some, hd])
          all_goals simp_all
end Go.Proofs.Ytmbggdfceecojaa.Cd

/- The machine: what it does, in plain Lean. -/
set_option linter.all false
namespace Go.Proofs.Ytmbggdfceecojaa.Cd
open Go.AM Mc Ho

/-- words: a number, a string, a record, a block -/
inductive WD where
  | n (z : Int)
  | s (t : List UInt8)
  | r (k : Nat)
  | b (z : Int)
structure MD where
  regs : List WD
  slots : List WD
  heap : List (List WD)
  room : Int
  pc : Int
  inp : List Int
  out : List Int
  fin : Option (Int × Int)

def MD.g (m : MD) (i : Int) : WD := m.regs.getD i.toNat (.n 0)
def MD.p (m : MD) (i : Int) (w : WD) : MD := { m with regs := m.regs.set i.toNat w }
def MD.e (m : MD) (a b : Int) : MD := { m with fin := some (a, b) }

def arD (t : List UInt8) (a b : Int) : Int :=
  if t = [43] then wr .i64 (a + b) else if t = [45] then wr .i64 (a - b) else if t = [42] then wr .i64 (a * b) else if t = [61] then (if a = b then 1 else 0) else if t = [60] then (if a < b then 1 else 0) else 0

def roomS (n : Nat) : Int := (((n + 7) / 8 + 1 : Nat) : Int)

def catD (x : InsD) (m : MD) (t u : List UInt8) : MD :=
  if 500 < t.length + u.length then m.e 2 2
  else if m.room < roomS (t.length + u.length) then m.e 4 0
  else { m with room := m.room - roomS (t.length + u.length), regs := m.regs.set x.a.toNat (.s (t ++ u)) }

/-- an operation -/
def opD (x : InsD) (m : MD) : MD :=
  if x.text = [114, 101, 97, 100] then { m with inp := m.inp.tail, regs := m.regs.set x.a.toNat (.n (m.inp.headD (-1))) }
  else if x.text = [112, 114, 105, 110, 116] then match m.g x.b with
    | .n a => { m with out := m.out ++ [a] }
    | _ => m.e 0 0
  else if x.text = [115, 105, 122, 101] then match m.g x.b with
    | .s t => m.p x.a (.n t.length)
    | _ => m.e 0 0
  else if x.text = [94] then match m.g x.b, m.g x.c with
    | .s t, .s u => catD x m t u
    | _, _ => m.e 0 0
  else match m.g x.b, m.g x.c with
    | .n a, .n b => m.p x.a (.n (arD x.text a b))
    | _, _ => m.e 0 0

def newD (x : InsD) (m : MD) : MD :=
  if m.room < x.n + 1 then m.e 4 0
  else { m with room := m.room - (x.n + 1), heap := m.heap ++ [List.replicate x.n.toNat (.n 0)], regs := m.regs.set x.a.toNat (.r m.heap.length) }

def rowD (m : MD) (k : Nat) : List WD := m.heap.getD k []

def putMD (x : InsD) (m : MD) : MD := match m.g x.a with
  | .r k => if x.n < (rowD m k).length then { m with heap := m.heap.set k ((rowD m k).set x.n.toNat (m.g x.b)) } else m.e 0 0
  | _ => m.e 0 0
def getMD (x : InsD) (m : MD) : MD := match m.g x.b with
  | .r k => if x.n < (rowD m k).length then m.p x.a ((rowD m k).getD x.n.toNat (.n 0)) else m.e 0 0
  | _ => m.e 0 0

/-- what goes elsewhere -/
def goD (c : CodeD) (x : InsD) (m : MD) : MD :=
  if x.op = 11 then match m.g x.a with
    | .n z => if z = 0 then { m with pc := x.n } else m
    | _ => m.e 0 0
  else if x.op = 12 then { m with pc := x.n }
  else if x.op = 13 then match m.g x.a with
    | .b z => { m with pc := c.starts.getD z.toNat 0 }
    | _ => m.e 0 0
  else if x.op = 14 then match m.g x.a with
    | .n z => m.e 1 z
    | _ => m.e 0 0
  else m.e 2 x.n

def effD (c : CodeD) (x : InsD) (m : MD) : MD :=
  if x.op = 1 then m.p x.a (.n x.n)
  else if x.op = 2 then m.p x.a (.s x.text)
  else if x.op = 3 then m.p x.a (.b x.n)
  else if x.op = 4 then m.p x.a (m.g x.b)
  else if x.op = 5 then m.p x.a (m.slots.getD x.n.toNat (.n 0))
  else if x.op = 6 then { m with slots := m.slots.set x.n.toNat (m.g x.a) }
  else if x.op = 7 then opD x m
  else if x.op = 8 then newD x m
  else if x.op = 9 then putMD x m
  else if x.op = 10 then getMD x m
  else goD c x m

def insAt (c : CodeD) (i : Int) : InsD := c.ins.getD i.toNat ⟨0, 0, 0, 0, 0, []⟩
def stepD (c : CodeD) (m : MD) : MD := effD c (insAt c m.pc) { m with pc := m.pc + 1 }

/-- words that are right where there are so many records and blocks -/
def wOk (nh nb : Nat) : WD → Prop
  | .n _ => True
  | .s t => t.length ≤ 4000
  | .r k => k < nh
  | .b z => 0 ≤ z ∧ z < nb
theorem wOk.mono {nh nh' nb : Nat} (h : nh ≤ nh') {w : WD} (hw : wOk nh nb w) : wOk nh' nb w := by
  cases w <;> simp only [wOk] at hw ⊢ <;> omega

structure MOk (c : CodeD) (m : MD) : Prop where
  regs : m.regs.length = 16
  slots : m.slots.length = 64
  room0 : 0 ≤ m.room
  room : m.room + m.heap.length ≤ 100000
  wr : ∀ w ∈ m.regs, wOk m.heap.length c.starts.length w
  ws : ∀ w ∈ m.slots, wOk m.heap.length c.starts.length w
  wh : ∀ r ∈ m.heap, r.length ≤ 4000 ∧ ∀ w ∈ r, wOk m.heap.length c.starts.length w

structure InsOk (c : CodeD) (x : InsD) : Prop where
  ra : 0 ≤ x.a ∧ x.a < 16
  rb : 0 ≤ x.b ∧ x.b < 16
  rc : 0 ≤ x.c ∧ x.c < 16
  op : 1 ≤ x.op ∧ x.op ≤ 15
  str : x.op = 2 → x.text.length ≤ 4000
  lab : x.op = 3 → 0 ≤ x.n ∧ x.n < c.starts.length
  slot : x.op = 5 ∨ x.op = 6 → 0 ≤ x.n ∧ x.n < 64
  new : x.op = 8 → 1 ≤ x.n ∧ x.n ≤ 4000
  mem : x.op = 9 ∨ x.op = 10 → 0 ≤ x.n
  go : x.op = 11 ∨ x.op = 12 → 0 ≤ x.n ∧ x.n < c.ins.length
  text : x.op = 7 → x.text = [43] ∨ x.text = [45] ∨ x.text = [42] ∨ x.text = [61] ∨ x.text = [60] ∨ x.text = [94] ∨ x.text = [115, 105, 122, 101] ∨ x.text = [114, 101, 97, 100] ∨ x.text = [112, 114, 105, 110, 116]

theorem wantsD_none {x : InsD} (h : x.op < 1 ∨ 15 < x.op) : wantsD x = none := by
  unfold wantsD
  simp only [show ¬ x.op = 1 by omega, show ¬ x.op = 2 by omega, show ¬ x.op = 3 by omega, show ¬ x.op = 4 by omega, show ¬ x.op = 5 by omega, show ¬ x.op = 6 by omega, show ¬ x.op = 7 by omega, show ¬ x.op = 8 by omega, show ¬ x.op = 9 by omega, show ¬ x.op = 10 by omega, show ¬ x.op = 11 by omega, show ¬ x.op = 12 by omega, show ¬ x.op = 13 by omega, show ¬ x.op = 14 by omega, show ¬ x.op = 15 by omega, if_false]
theorem insOk_facts {c : CodeD} {x : InsD} (h : insOk c.ins.length c.starts.length x = true) : InsOk c x := by
  unfold insOk at h
  simp only [Bool.and_eq_true] at h
  obtain ⟨⟨⟨⟨h1, h2⟩, h3⟩, h4⟩, h5⟩ := h
  simp only [inD, Bool.and_eq_true, decide_eq_true_eq] at h1 h2 h3
  have hw : wantsD x ≠ none := by
    intro e
    rw [e] at h4
    simp [zeroO] at h4
  have hop : 1 ≤ x.op ∧ x.op ≤ 15 := by
    by_cases h : x.op < 1 ∨ 15 < x.op
    · exact absurd (wantsD_none h) hw
    · omega
  refine ⟨by omega, by omega, by omega, hop, ?_, ?_, ?_, ?_, ?_, ?_, ?_⟩
  · intro e; unfold extraD at h5; simp [e] at h5; omega
  · intro e; unfold extraD at h5; simp [e, inD] at h5; omega
  · rintro (e | e) <;> (unfold extraD at h5; simp [e, inD] at h5; omega)
  · intro e; unfold extraD at h5; simp [e, inD] at h5; omega
  · rintro (e | e) <;> (unfold extraD at h5; simp [e, inD] at h5; omega)
  · rintro (e | e) <;> (unfold extraD at h5; simp [e, inD] at h5; omega)
  · intro e
    unfold wantsD at hw
    simp only [e, Int.reduceEq, if_false, if_true] at hw
    by_cases e1 : x.text = [43]; · simp [e1]
    by_cases e2 : x.text = [45]; · simp [e2]
    by_cases e3 : x.text = [42]; · simp [e3]
    by_cases e4 : x.text = [61]; · simp [e4]
    by_cases e5 : x.text = [60]; · simp [e5]
    by_cases e6 : x.text = [94]; · simp [e6]
    by_cases e7 : x.text = [115, 105, 122, 101]; · simp [e7]
    by_cases e8 : x.text = [114, 101, 97, 100]; · simp [e8]
    by_cases e9 : x.text = [112, 114, 105, 110, 116]; · simp [e9]
    exfalso
    unfold opW at hw
    simp only [e1, e2, e3, e4, e5, e6, e7, e8, e9, if_false] at hw
    exact hw rfl

structure CFacts (c : CodeD) : Prop where
  len : 1 ≤ c.ins.length ∧ c.ins.length ≤ 40000
  slen : c.starts.length ≤ 400
  ins : ∀ x ∈ c.ins, InsOk c x
  st : ∀ z ∈ c.starts, 0 ≤ z ∧ z < c.ins.length
  last : ∀ x, c.ins[c.ins.length - 1]? = some x → x.op = 12 ∨ x.op = 13 ∨ x.op = 14 ∨ x.op = 15

theorem codeOk_facts {c : CodeD} (h : codeOk c = true) : CFacts c := by
  unfold codeOk at h
  simp only [Bool.and_eq_true] at h
  obtain ⟨⟨⟨⟨h1, h2⟩, h3⟩, h4⟩, h5⟩ := h
  simp only [inD, Bool.and_eq_true, decide_eq_true_eq] at h1 h2
  refine ⟨by omega, by omega, fun x hx => insOk_facts (List.all_eq_true.1 h3 x hx), fun z hz => ?_, fun x hx => ?_⟩
  · have := List.all_eq_true.1 h4 z hz
    simp only [placeOk, inD, Bool.and_eq_true, decide_eq_true_eq] at this
    omega
  · unfold lastOk at h5
    rw [hx] at h5
    simp at h5
    omega

theorem getD_mem {α : Type} {l : List α} {i : Nat} (d : α) (h : i < l.length) : l.getD i d ∈ l := by
  simp [List.getD_eq_getElem?_getD, List.getElem?_eq_getElem h]

theorem MOk.gOk {c : CodeD} {m : MD} (h : MOk c m) {i : Int} (h0 : 0 ≤ i) (h1 : i < 16) : wOk m.heap.length c.starts.length (m.g i) :=
  h.wr _ (getD_mem _ (by rw [h.regs]; omega))
theorem MOk.pOk {c : CodeD} {m : MD} (h : MOk c m) {i : Int} {w : WD} (hw : wOk m.heap.length c.starts.length w) : MOk c (m.p i w) where
  regs := by simp [MD.p, h.regs]
  slots := h.slots
  room0 := h.room0
  room := h.room
  wr := fun v hv => by
    rcases List.mem_or_eq_of_mem_set hv with h' | h'
    · exact h.wr _ h'
    · subst h'; exact hw
  ws := h.ws
  wh := h.wh
theorem MOk.eOk {c : CodeD} {m : MD} (h : MOk c m) (a b : Int) : MOk c (m.e a b) := ⟨h.regs, h.slots, h.room0, h.room, h.wr, h.ws, h.wh⟩
theorem MOk.pcOk {c : CodeD} {m : MD} (h : MOk c m) (a : Int) : MOk c { m with pc := a } := ⟨h.regs, h.slots, h.room0, h.room, h.wr, h.ws, h.wh⟩

theorem opD_ok {c : CodeD} {x : InsD} {m : MD} (h : MOk c m) (hx : InsOk c x) : MOk c (opD x m) := by
  have hb := h.gOk hx.rb.1 hx.rb.2
  have hc := h.gOk hx.rc.1 hx.rc.2
  unfold opD
  split
  · exact (h.pOk (i := x.a) (w := .n _) trivial : MOk c _) |> fun k => ⟨k.regs, k.slots, k.room0, k.room, k.wr, k.ws, k.wh⟩
  split
  · split
    · exact ⟨h.regs, h.slots, h.room0, h.room, h.wr, h.ws, h.wh⟩
    · exact h.eOk _ _
  split
  · split
    · exact h.pOk trivial
    · exact h.eOk _ _
  split
  · split
    · rename_i t u e1 e2
      unfold catD
      split
      · exact h.eOk _ _
      split
      · exact h.eOk _ _
      have k := h.pOk (i := x.a) (w := .s (t ++ u)) (by show (t ++ u).length ≤ 4000; rw [List.length_append]; omega)
      have h1 := h.room
      have h2 := h.room0
      have h3 : 0 ≤ roomS (t.length + u.length) := by unfold roomS; omega
      exact ⟨k.regs, k.slots, by simp only; omega, by simp only; omega, k.wr, k.ws, k.wh⟩
    · exact h.eOk _ _
  · split
    · exact h.pOk trivial
    · exact h.eOk _ _

theorem rowD_mem {m : MD} {k : Nat} (h : k < m.heap.length) : rowD m k ∈ m.heap := getD_mem _ h

theorem effD_ok {c : CodeD} {x : InsD} {m : MD} (h : MOk c m) (hx : InsOk c x) : MOk c (effD c x m) := by
  have ha := h.gOk hx.ra.1 hx.ra.2
  have hb := h.gOk hx.rb.1 hx.rb.2
  unfold effD
  split
  · exact h.pOk trivial
  split
  · exact h.pOk (hx.str ‹_›)
  split
  · exact h.pOk (hx.lab ‹_›)
  split
  · exact h.pOk hb
  split
  · have := hx.slot (.inl ‹_›)
    exact h.pOk (h.ws _ (getD_mem _ (by rw [h.slots]; omega)))
  split
  · exact ⟨h.regs, by simp [h.slots], h.room0, h.room, h.wr, fun v hv => by
      rcases List.mem_or_eq_of_mem_set hv with h' | h'
      · exact h.ws _ h'
      · subst h'; exact ha, h.wh⟩
  split
  · exact opD_ok h hx
  split
  · have hn := hx.new ‹_›
    unfold newD
    split
    · exact h.eOk _ _
    · have h1 := h.room
      have h2 := h.room0
      have hle : m.heap.length ≤ (m.heap ++ [List.replicate x.n.toNat (WD.n 0)]).length := by simp
      refine ⟨by simp [h.regs], h.slots, by simp only; omega, by simp; omega, fun v hv => ?_, fun v hv => (h.ws v hv).mono hle, fun r hr => ?_⟩
      · rcases List.mem_or_eq_of_mem_set hv with h' | h'
        · exact (h.wr v h').mono hle
        · subst h'; show m.heap.length < _; simp
      · rcases List.mem_append.1 hr with h' | h'
        · exact ⟨(h.wh r h').1, fun w hw => ((h.wh r h').2 w hw).mono hle⟩
        · rw [List.mem_singleton] at h'
          subst h'
          refine ⟨by simp; omega, fun w hw => ?_⟩
          rw [(List.mem_replicate.1 hw).2]; trivial
  split
  · have hn := hx.mem (.inl ‹_›)
    unfold putMD
    split
    · rename_i k e
      rw [e] at ha
      split
      · have hr := h.wh _ (rowD_mem ha)
        refine ⟨h.regs, h.slots, h.room0, by simp [h.room], by simpa using h.wr, by simpa using h.ws, fun r hr' => ?_⟩
        simp only [List.length_set]
        rcases List.mem_or_eq_of_mem_set hr' with h' | h'
        · exact h.wh r h'
        · subst h'
          refine ⟨by simpa using hr.1, fun w hw => ?_⟩
          rcases List.mem_or_eq_of_mem_set hw with h'' | h''
          · exact hr.2 w h''
          · subst h''; exact hb
      · exact h.eOk _ _
    · exact h.eOk _ _
  split
  · have hn := hx.mem (.inr ‹_›)
    unfold getMD
    split
    · rename_i k e
      rw [e] at hb
      split
      · have hr := h.wh _ (rowD_mem hb)
        exact h.pOk (hr.2 _ (getD_mem _ (by omega)))
      · exact h.eOk _ _
    · exact h.eOk _ _
  · unfold goD
    split
    · split
      · split
        · exact h.pcOk _
        · exact h
      · exact h.eOk _ _
    split
    · exact h.pcOk _
    split
    · split
      · exact h.pcOk _
      · exact h.eOk _ _
    split
    · split
      · exact h.eOk _ _
      · exact h.eOk _ _
    · exact h.eOk _ _

/-- where it stands, unless it has ended -/
def PcOk (c : CodeD) (m : MD) : Prop := m.fin = none → 0 ≤ m.pc ∧ m.pc < c.ins.length
theorem insAt_mem {c : CodeD} {i : Int} (h0 : 0 ≤ i) (h1 : i < c.ins.length) : insAt c i ∈ c.ins := getD_mem _ (by omega)
theorem insAt_get {c : CodeD} {i : Int} (h0 : 0 ≤ i) (h1 : i < c.ins.length) : c.ins[i.toNat]? = some (insAt c i) := by
  unfold insAt
  rw [List.getD_eq_getElem?_getD, List.getElem?_eq_getElem (by omega)]; rfl

theorem opD_pc {x : InsD} {m : MD} : (opD x m).pc = m.pc := by
  unfold opD catD MD.p MD.e
  repeat' split
  all_goals rfl

theorem goD_pc {c : CodeD} (hc : CFacts c) {x : InsD} {m : MD} (hm : MOk c m) (hx : InsOk c x) (h11 : 11 ≤ x.op) : (goD c x m).fin = none → ((goD c x m).pc = m.pc ∧ x.op = 11) ∨ (0 ≤ (goD c x m).pc ∧ (goD c x m).pc < c.ins.length) := by
  have ha := hm.gOk hx.ra.1 hx.ra.2
  unfold goD
  split
  · have := hx.go (.inl ‹_›)
    split
    · split
      · intro _; exact .inr this
      · intro _; exact .inl ⟨rfl, ‹_›⟩
    · intro h; cases h
  split
  · intro _; exact .inr (hx.go (.inr ‹_›))
  split
  · split
    · rename_i z e
      rw [e] at ha
      have ha' : 0 ≤ z ∧ z < c.starts.length := ha
      intro _
      exact .inr (hc.st _ (getD_mem _ (by omega)))
    · intro h; cases h
  split
  · split
    · intro h; cases h
    · intro h; cases h
  · intro h; cases h

theorem effD_pc {c : CodeD} (hc : CFacts c) {x : InsD} {m : MD} (hm : MOk c m) (hx : InsOk c x) : (effD c x m).fin = none → ((effD c x m).pc = m.pc ∧ x.op ≤ 11) ∨ (0 ≤ (effD c x m).pc ∧ (effD c x m).pc < c.ins.length) := by
  by_cases h : 11 ≤ x.op
  · have e : effD c x m = goD c x m := by
      unfold effD
      simp only [show ¬ x.op = 1 by omega, show ¬ x.op = 2 by omega, show ¬ x.op = 3 by omega, show ¬ x.op = 4 by omega, show ¬ x.op = 5 by omega, show ¬ x.op = 6 by omega, show ¬ x.op = 7 by omega, show ¬ x.op = 8 by omega, show ¬ x.op = 9 by omega, show ¬ x.op = 10 by omega, if_false]
    rw [e]
    intro hf
    rcases goD_pc hc hm hx h hf with ⟨h1, h2⟩ | h1
    · exact .inl ⟨h1, by omega⟩
    · exact .inr h1
  · intro _
    refine .inl ⟨?_, by omega⟩
    have h1 := hx.op
    have h2 : x.op = 1 ∨ x.op = 2 ∨ x.op = 3 ∨ x.op = 4 ∨ x.op = 5 ∨ x.op = 6 ∨ x.op = 7 ∨ x.op = 8 ∨ x.op = 9 ∨ x.op = 10 := by omega
    unfold effD
    rcases h2 with e | e | e | e | e | e | e | e | e | e <;> simp only [e, Int.reduceEq, if_true, if_false]
    all_goals first | rfl | exact opD_pc | skip
    · unfold newD; split <;> rfl
    · unfold putMD; split
      · split <;> rfl
      · rfl
    · unfold getMD; split
      · split <;> rfl
      · rfl

theorem stepD_ok {c : CodeD} (hc : CFacts c) {m : MD} (hm : MOk c m) (h0 : 0 ≤ m.pc) (h1 : m.pc < c.ins.length) : MOk c (stepD c m) ∧ PcOk c (stepD c m) := by
  have hx := hc.ins _ (insAt_mem h0 h1)
  refine ⟨effD_ok (hm.pcOk _) hx, fun hf => ?_⟩
  rcases effD_pc hc (hm.pcOk _) hx hf with ⟨h2, h3⟩ | h2
  · have e : (stepD c m).pc = m.pc + 1 := h2
    rw [e]
    refine ⟨by omega, ?_⟩
    by_cases h4 : m.pc + 1 < c.ins.length
    · exact h4
    · exfalso
      have e2 : c.ins.length - 1 = m.pc.toNat := by omega
      have := hc.last (insAt c m.pc) (by rw [e2]; exact insAt_get h0 h1)
      omega
  · exact h2

/-- so many steps, at most -/
def stepsD (c : CodeD) : Nat → MD → MD
  | 0, m => m
  | n + 1, m => if m.fin = none then stepsD c n (stepD c m) else m
def runD (c : CodeD) (n : Nat) (m : MD) : MD := if (stepsD c n m).fin = none then (stepsD c n m).e 3 0 else stepsD c n m
def startD (inp : List Int) (room : Int) : MD := ⟨List.replicate 16 (.n 0), List.replicate 64 (.n 0), [], room, 0, inp, [], none⟩
def runOk (c : CodeD) (inp : List Int) (room steps : Int) : Bool := codeOk c && decide (inp.length ≤ 200) && inD room 0 100000 && inD steps 0 300000
theorem startD_ok {c : CodeD} {inp : List Int} {room : Int} (h : inD room 0 100000 = true) : MOk c (startD inp room) := by
  simp only [inD, Bool.and_eq_true, decide_eq_true_eq] at h
  refine ⟨by simp [startD], by simp [startD], h.1, by simp [startD]; omega, fun w hw => ?_, fun w hw => ?_, fun r hr => by simp [startD] at hr⟩
  · rw [(List.mem_replicate.1 hw).2]; trivial
  · rw [(List.mem_replicate.1 hw).2]; trivial
theorem startD_pc {c : CodeD} (hc : CFacts c) {inp : List Int} {room : Int} : PcOk c (startD inp room) := fun _ => ⟨by simp [startD], by have := hc.len; simp [startD]; omega⟩
end Go.Proofs.Ytmbggdfceecojaa.Cd
