/- Texts PiD PiE PiF RcH TrA McE, merged. -/
import Derived.Test.YtmbggdfceecojaaKtC
import Derived.Test.YtmbggdfceecojaaChecked
import Derived.KernelRfl
/- Images of codes: what an image is; by the program. -/
set_option linter.all false
namespace Go.Proofs.Ytmbggdfceecojaa.Cd
open Go.AM Mc Ho

def strI (s : List UInt8) : List Int := s.map fun c => (c.toNat : Int)
theorem bytes_strI (s : List UInt8) : bytesRows s = intR .u8 (strI s) := by
  induction s with
  | nil => rfl
  | cons c s ih => simp [bytesRows, ih, intR, strI]
def encI (n : Int) : List Int := enc (zig n)
def insB (x : InsD) : List Int := [wr .u8 x.op, wr .u8 (wr .i64 (wr .i64 (16 * x.a) + x.b)), wr .u8 x.c] ++ encI x.n ++ encI x.text.length ++ strI x.text
def headB (c : CodeD) : List Int := [77, 78, 1] ++ encI c.starts.length ++ encI c.ins.length
def bodyB (c : CodeD) : List Int := headB c ++ c.starts.flatMap encI ++ c.ins.flatMap insB
def imgB (c : CodeD) : List Int := bodyB c ++ sumB (bodyB c)
def putD (c : CodeD) : List Int := if codeOk c = true ∧ (imgB c).length ≤ 200000 then imgB c else []

def rng (n : Int) : Prop := -9223372036854775808 ≤ n ∧ n ≤ 9223372036854775807
def rngCode (c : CodeD) : Prop := (∀ n ∈ c.starts, rng n) ∧ ∀ x ∈ c.ins, rng x.n

theorem rng_len {n : Nat} (h : n ≤ maxL) : rng n := by unfold maxL at h; unfold rng; omega
theorem encI_len {n : Int} (h : rng n) : (encI n).length ≤ 10 := enc10 h.1 h.2
theorem encI_byte (n : Int) : isB (encI n) := enc_byte _
theorem isB_app {a b : List Int} (ha : isB a) (hb : isB b) : isB (a ++ b) := fun x hx => (List.mem_append.1 hx).elim (ha x) (hb x)
theorem isB_str (s : List UInt8) : isB (strI s) := by
  intro b hb
  obtain ⟨c, _, rfl⟩ := List.mem_map.1 hb
  have := c.toNat_lt; omega
theorem isB_ins (x : InsD) : isB (insB x) := by
  refine isB_app (isB_app (isB_app ?_ (encI_byte _)) (encI_byte _)) (isB_str _)
  intro b hb
  simp only [List.mem_cons, List.not_mem_nil, or_false] at hb
  rcases hb with rfl | rfl | rfl <;> rw [wr_u8] <;> omega
theorem isB_flat {α : Type} (f : α → List Int) (h : ∀ a, isB (f a)) (l : List α) : isB (l.flatMap f) := by
  intro b hb
  obtain ⟨a, _, hb⟩ := List.mem_flatMap.1 hb
  exact h a b hb
theorem isB_body (c : CodeD) : isB (bodyB c) := by
  refine isB_app (isB_app (isB_app (isB_app ?_ (encI_byte _)) (encI_byte _)) (isB_flat _ encI_byte _)) (isB_flat _ isB_ins _)
  intro b hb
  simp at hb; omega

theorem flat_take {α : Type} (f : α → List Int) {l : List α} {i : Nat} (h : i < l.length) : (l.take (i + 1)).flatMap f = (l.take i).flatMap f ++ f l[i] := by
  rw [List.take_succ, List.flatMap_append, List.getElem?_eq_getElem h]; simp
theorem flat_enc_len (l : List Int) (h : ∀ n ∈ l, rng n) : (l.flatMap encI).length ≤ 10 * l.length := by
  induction l with
  | nil => simp
  | cons n l ih =>
    have h1 := encI_len (h n (by simp))
    have h2 := ih (fun m hm => h m (List.mem_cons_of_mem _ hm))
    simp only [List.flatMap_cons, List.length_append, List.length_cons]; omega
theorem insB_len (x : InsD) (h : rng x.n) (ht : x.text.length ≤ maxL) : (insB x).length ≤ 23 + x.text.length := by
  have h1 := encI_len h
  have h2 := encI_len (rng_len ht)
  simp [insB, strI]; omega
theorem flat_ins_len (l : List InsD) (h : ∀ x ∈ l, rng x.n ∧ x.text.length ≤ maxL) : (l.flatMap insB).length ≤ 23 * l.length + texts l := by
  induction l with
  | nil => simp [texts]
  | cons x l ih =>
    have h1 := insB_len x (h x (by simp)).1 (h x (by simp)).2
    have h2 := ih (fun m hm => h m (List.mem_cons_of_mem _ hm))
    simp only [List.flatMap_cons, List.length_append, List.length_cons, texts]; omega
theorem texts_take_le (l : List InsD) (i : Nat) : texts (l.take i) ≤ texts l := by
  induction l generalizing i with
  | nil => simp
  | cons x l ih =>
    cases i with
    | zero => simp [texts]
    | succ i => simp [texts]; exact ih i

/-- how much room is wanted at most -/
structure Fits (c : CodeD) : Prop where
  ok : okCode c
  sm : small c
  rg : rngCode c
theorem Fits.head {c : CodeD} (h : Fits c) : (headB c).length ≤ 23 := by
  have h1 := encI_len (rng_len h.ok.2)
  have h2 := encI_len (rng_len h.ok.1.1)
  simp [headB]; omega
theorem Fits.starts {c : CodeD} (h : Fits c) (i : Nat) : ((c.starts.take i).flatMap encI).length ≤ 10485760 := by
  have h1 := flat_enc_len (c.starts.take i) (fun n hn => h.rg.1 n (List.mem_of_mem_take hn))
  have h2 := h.sm
  unfold small at h2
  have : (c.starts.take i).length ≤ c.starts.length := by simp; omega
  omega
theorem Fits.ins {c : CodeD} (h : Fits c) (i : Nat) : ((c.ins.take i).flatMap insB).length ≤ 25165824 := by
  have h1 := flat_ins_len (c.ins.take i) (fun x hx => ⟨h.rg.2 x (List.mem_of_mem_take hx), h.ok.1.2 x (List.mem_of_mem_take hx)⟩)
  have h2 := h.sm
  unfold small at h2
  have h3 : (c.ins.take i).length ≤ c.ins.length := by simp; omega
  have h4 := texts_take_le c.ins i
  omega
theorem Fits.text {c : CodeD} (h : Fits c) {x : InsD} (hx : x ∈ c.ins) : x.text.length ≤ 1048576 := by
  have key : ∀ l : List InsD, x ∈ l → x.text.length ≤ texts l := by
    intro l
    induction l with
    | nil => intro h; cases h
    | cons y l ih =>
      intro hx
      rcases List.mem_cons.1 hx with rfl | hx
      · simp [texts]
      · have := ih hx; simp [texts]; omega
  have h1 := key _ hx
  have h2 := h.sm
  unfold small at h2
  omega

/-- a slice that is owned, as its caller's -/
theorem own_result {f : Nat} {xs bs : List AV} {H : List AO} {k : IntKind} {zs : List Int} (h : ACall Try.prog f bs [] (fun r H' => OwnR H' r 1 (intR k zs))) (hl : LentAll H xs bs) :
    ACall Try.prog f xs H (fun r H' => (zs = [] ∧ r = .p .nl ∧ H' = H) ∨ ∃ ver, r = .gs H.length ver 0 zs.length ∧ H' = H ++ [.rows 1 ver (intR k zs)]) := by
  refine acall_own h hl ?_
  rintro r H0 (⟨rfl, he⟩ | ⟨id, ver, rfl, hid⟩)
  · have hz : zs = [] := by simpa [intR] using he
    exact own_g (H := H) (R := fun (r : AV) (H' : List AO) => (zs = [] ∧ r = .p .nl ∧ H' = H) ∨ ∃ ver, r = .gs H.length ver 0 zs.length ∧ H' = H ++ [.rows 1 ver (intR k zs)]) grnd_nl (.inl ⟨hz, rfl, rfl⟩)
  · rw [intR_len]
    exact own_gs (H := H) (R := fun (r : AV) (H' : List AO) => (zs = [] ∧ r = .p .nl ∧ H' = H) ∨ ∃ ver, r = .gs H.length ver 0 zs.length ∧ H' = H ++ [.rows 1 ver (intR k zs)]) hid (grnd_intR _ _) (.inr ⟨ver, rfl, rfl⟩)

theorem own_var {H : List AO} {a : AV} {sz : Nat} {rs : List (List AV)} {j : Nat} {cs : List AV} (h : OwnR H a sz rs) (hj : H[j]? = some (.var cs)) : ∀ ver off n, a ≠ .gs j ver off n := by
  rintro ver off n rfl
  rcases h with ⟨h, _⟩ | ⟨id, v, h1, h2⟩
  · cases h
  · cases h1; rw [h2] at hj; cases hj
theorem kept_var {H H' : List AO} {a : AV} {sz : Nat} {rs : List (List AV)} {j : Nat} {cs : List AV} (hk : Kept a H H') (h : OwnR H a sz rs) (hj : H[j]? = some (.var cs)) : H'[j]? = some (.var cs) :=
  hk.2 j _ hj (own_var h hj)
theorem intR_take (k : IntKind) (zs : List Int) : List.take zs.length (intR k zs) = intR k zs := List.take_of_length_le (by simp [intR])

theorem rows_src (k : IntKind) (zs : List Int) : (rowsK k zs).map (·.map AV.p) = intR k zs := by simp [rowsK, intR]

theorem mark0 : ACall Try.prog 75 [] [] (fun r H' => r = .gs 0 0 0 3 ∧ H' = [.rows 1 0 (intR .u8 [77, 78, 1])]) := by
  refine call75 (by simp) ?_
  simp only [go_sem, Nat.reduceEqDiff, reduceIte, ↓reduceIte, Nat.reduceAdd, List.replicate_succ, List.replicate_zero, List.set_cons_zero, List.set_cons_succ, List.length_cons, List.length_nil, Nat.reduceLT, Nat.lt_add_one, ne_eq, Int.reduceEq, not_false_eq_true, Option.map_some, Nat.reduceLeDiff, Nat.zero_lt_succ, List.map_cons, List.map_nil, List.nil_append, List.cons_append, List.append_nil, bytesOf, List.take_succ_cons, List.take_zero, List.drop_zero, and_self, List.append_assoc, List.length_append, Int.reduceLT, Int.reduceLE, Int.toNat_zero, Int.reduceToNat, Int.cast_ofNat_Int, Int.natCast_zero, Int.natCast_one, Int.reduceAdd, List.map_append, Option.bind_some, mc75, mr75]
  rfl

theorem implPut0 (c : CodeD) (hf : Fits c) : ACall Try.prog 22 [.st (c.cells.map .p)] [] (fun r H' => OwnR H' r 1 (intR .u8 (putD c))) := by
  have hsm := hf.sm
  unfold small at hsm
  have hok : okCode c := hf.ok
  refine call22 (by simp) ?_
  simp only [go_sem, Nat.reduceEqDiff, reduceIte, ↓reduceIte, Nat.reduceAdd, List.replicate_succ, List.replicate_zero, List.set_cons_zero, List.set_cons_succ, List.length_cons, List.length_nil, Nat.reduceLT, Nat.lt_add_one, ne_eq, Int.reduceEq, not_false_eq_true, Option.map_some, Nat.reduceLeDiff, Nat.zero_lt_succ, List.map_cons, List.map_nil, List.nil_append, List.cons_append, List.append_nil, bytesOf, List.take_succ_cons, List.take_zero, List.drop_zero, and_self, List.append_assoc, List.length_append, Int.reduceLT, Int.reduceLE, Int.toNat_zero, Int.reduceToNat, Int.cast_ofNat_Int, Int.natCast_zero, Int.natCast_one, Int.reduceAdd, List.map_append, Option.bind_some, mc22, mr22, CodeD.cells]
  rw [code_eta]
  refine (acall_lend (implCodeOk c hf.ok) (fun r H' h => by subst h; exact grnd_b _) (lentAll_cons (code_lent c) (lentAll_nil _))).mono ?_
  rintro r H' ⟨rfl, _, rfl⟩
  simp only [go_sem, Nat.reduceEqDiff, reduceIte, ↓reduceIte, Nat.reduceAdd, List.replicate_succ, List.replicate_zero, List.set_cons_zero, List.set_cons_succ, List.length_cons, List.length_nil, Nat.reduceLT, Nat.lt_add_one, ne_eq, Int.reduceEq, not_false_eq_true, Option.map_some, Nat.reduceLeDiff, Nat.zero_lt_succ, List.map_cons, List.map_nil, List.nil_append, List.cons_append, List.append_nil, bytesOf, List.take_succ_cons, List.take_zero, List.drop_zero, and_self, List.append_assoc, List.length_append, Int.reduceLT, Int.reduceLE, Int.toNat_zero, Int.reduceToNat, Int.cast_ofNat_Int, Int.natCast_zero, Int.natCast_one, Int.reduceAdd, List.map_append, Option.bind_some]
  refine condK_split _ (fun hco => ?_) (fun hco => ?_)
  · simp only [go_sem, Nat.reduceEqDiff, reduceIte, ↓reduceIte, Nat.reduceAdd, List.replicate_succ, List.replicate_zero, List.set_cons_zero, List.set_cons_succ, List.length_cons, List.length_nil, Nat.reduceLT, Nat.lt_add_one, ne_eq, Int.reduceEq, not_false_eq_true, Option.map_some, Nat.reduceLeDiff, Nat.zero_lt_succ, List.map_cons, List.map_nil, List.nil_append, List.cons_append, List.append_nil, bytesOf, List.take_succ_cons, List.take_zero, List.drop_zero, and_self, List.append_assoc, List.length_append, Int.reduceLT, Int.reduceLE, Int.toNat_zero, Int.reduceToNat, Int.cast_ofNat_Int, Int.natCast_zero, Int.natCast_one, Int.reduceAdd, List.map_append, Option.bind_some]
    have : codeOk c = false := by simpa using hco
    refine .inl ⟨rfl, ?_⟩
    simp [putD, this, intR]
  · have hco' : codeOk c = true := by simpa using hco
    simp only [go_sem, Nat.reduceEqDiff, reduceIte, ↓reduceIte, Nat.reduceAdd, List.replicate_succ, List.replicate_zero, List.set_cons_zero, List.set_cons_succ, List.length_cons, List.length_nil, Nat.reduceLT, Nat.lt_add_one, ne_eq, Int.reduceEq, not_false_eq_true, Option.map_some, Nat.reduceLeDiff, Nat.zero_lt_succ, List.map_cons, List.map_nil, List.nil_append, List.cons_append, List.append_nil, bytesOf, List.take_succ_cons, List.take_zero, List.drop_zero, and_self, List.append_assoc, List.length_append, Int.reduceLT, Int.reduceLE, Int.toNat_zero, Int.reduceToNat, Int.cast_ofNat_Int, Int.natCast_zero, Int.natCast_one, Int.reduceAdd, List.map_append, Option.bind_some]
    refine drw_same ?_
    simp only [go_sem, Nat.reduceEqDiff, reduceIte, ↓reduceIte, Nat.reduceAdd, List.replicate_succ, List.replicate_zero, List.set_cons_zero, List.set_cons_succ, List.length_cons, List.length_nil, Nat.reduceLT, Nat.lt_add_one, ne_eq, Int.reduceEq, not_false_eq_true, Option.map_some, Nat.reduceLeDiff, Nat.zero_lt_succ, List.map_cons, List.map_nil, List.nil_append, List.cons_append, List.append_nil, bytesOf, List.take_succ_cons, List.take_zero, List.drop_zero, and_self, List.append_assoc, List.length_append, Int.reduceLT, Int.reduceLE, Int.toNat_zero, Int.reduceToNat, Int.cast_ofNat_Int, Int.natCast_zero, Int.natCast_one, Int.reduceAdd, List.map_append, Option.bind_some]
    refine pcall_new (.rows 1 0 (intR .u8 [77, 78, 1])) (fun j => .gs j 0 0 3) (acall_at mark0 (lentAll_nil _) ?_) ?_
    · rintro r H0 ⟨rfl, rfl⟩
      exact ⟨0, _, rfl, fun j => ⟨.gs 0 0 0 0 3 rfl, renO_g (grnd_intR _ _)⟩⟩
    simp only [go_sem, Nat.reduceEqDiff, reduceIte, ↓reduceIte, Nat.reduceAdd, List.replicate_succ, List.replicate_zero, List.set_cons_zero, List.set_cons_succ, List.length_cons, List.length_nil, Nat.reduceLT, Nat.lt_add_one, ne_eq, Int.reduceEq, not_false_eq_true, Option.map_some, Nat.reduceLeDiff, Nat.zero_lt_succ, List.map_cons, List.map_nil, List.nil_append, List.cons_append, List.append_nil, bytesOf, List.take_succ_cons, List.take_zero, List.drop_zero, and_self, List.append_assoc, List.length_append, Int.reduceLT, Int.reduceLE, Int.toNat_zero, Int.reduceToNat, Int.cast_ofNat_Int, Int.natCast_zero, Int.natCast_one, Int.reduceAdd, List.map_append, Option.bind_some, CodeD.cells, ints_len]
    refine (putShortI _ (rng_len hok.2).1 (rng_len hok.2).2).mono ?_
    rintro r H' ⟨rfl, rfl⟩
    have hl1 := encI_len (rng_len hok.2)
    have hl2 := encI_len (rng_len hok.1.1)
    have ho0 : OwnR [.var [.p (.l (inss c.ins)), .p (.l (ints c.starts))], .rows 1 0 (intR .u8 [77, 78, 1])] (.gs 1 0 0 3) 1 (intR .u8 [77, 78, 1]) := .inr ⟨1, 0, rfl, rfl⟩
    have hv0 : [AO.var [.p (.l (inss c.ins)), .p (.l (ints c.starts))], .rows 1 0 (intR .u8 [77, 78, 1])][0]? = some (.var [.p (.l (inss c.ins)), .p (.l (ints c.starts))]) := rfl
    generalize [AO.var [.p (.l (inss c.ins)), .p (.l (ints c.starts))], .rows 1 0 (intR .u8 [77, 78, 1])] = H0 at ho0 hv0 ⊢
    generalize AV.gs 1 0 0 3 = a0 at ho0 ⊢
    simp only [go_sem, Nat.reduceEqDiff, reduceIte, ↓reduceIte, Nat.reduceAdd, List.replicate_succ, List.replicate_zero, List.set_cons_zero, List.set_cons_succ, List.length_cons, List.length_nil, Nat.reduceLT, Nat.lt_add_one, ne_eq, Int.reduceEq, not_false_eq_true, Option.map_some, Nat.reduceLeDiff, Nat.zero_lt_succ, List.map_cons, List.map_nil, List.nil_append, List.cons_append, List.append_nil, bytesOf, List.take_succ_cons, List.take_zero, List.drop_zero, and_self, List.append_assoc, List.length_append, Int.reduceLT, Int.reduceLE, Int.toNat_zero, Int.reduceToNat, Int.cast_ofNat_Int, Int.natCast_zero, Int.natCast_one, Int.reduceAdd, List.map_append, Option.bind_some, rows_src]
    refine ⟨intR_len1 _ _, app_own ho0 (by simp [intR_len]; unfold encI at hl1; omega) (by simp [intR_len]; unfold encI at hl1; omega) fun a1 H1 ho1 hk1 _ => ?_⟩
    have hv1 : H1[0]? = some (.var [.p (.l (inss c.ins)), .p (.l (ints c.starts))]) := kept_var hk1 ho0 hv0
    rw [intR_app] at ho1
    simp only [go_sem, Nat.reduceEqDiff, reduceIte, ↓reduceIte, Nat.reduceAdd, List.replicate_succ, List.replicate_zero, List.set_cons_zero, List.set_cons_succ, List.length_cons, List.length_nil, Nat.reduceLT, Nat.lt_add_one, ne_eq, Int.reduceEq, not_false_eq_true, Option.map_some, Nat.reduceLeDiff, Nat.zero_lt_succ, List.map_cons, List.map_nil, List.nil_append, List.cons_append, List.append_nil, bytesOf, List.take_succ_cons, List.take_zero, List.drop_zero, and_self, List.append_assoc, List.length_append, Int.reduceLT, Int.reduceLE, Int.toNat_zero, Int.reduceToNat, Int.cast_ofNat_Int, Int.natCast_zero, Int.natCast_one, Int.reduceAdd, List.map_append, Option.bind_some, hv1, inss_len]
    intro _
    refine (putShortI _ (rng_len hok.1.1).1 (rng_len hok.1.1).2).mono ?_
    rintro r H' ⟨rfl, rfl⟩
    simp only [go_sem, Nat.reduceEqDiff, reduceIte, ↓reduceIte, Nat.reduceAdd, List.replicate_succ, List.replicate_zero, List.set_cons_zero, List.set_cons_succ, List.length_cons, List.length_nil, Nat.reduceLT, Nat.lt_add_one, ne_eq, Int.reduceEq, not_false_eq_true, Option.map_some, Nat.reduceLeDiff, Nat.zero_lt_succ, List.map_cons, List.map_nil, List.nil_append, List.cons_append, List.append_nil, bytesOf, List.take_succ_cons, List.take_zero, List.drop_zero, and_self, List.append_assoc, List.length_append, Int.reduceLT, Int.reduceLE, Int.toNat_zero, Int.reduceToNat, Int.cast_ofNat_Int, Int.natCast_zero, Int.natCast_one, Int.reduceAdd, List.map_append, Option.bind_some, rows_src]
    refine ⟨intR_len1 _ _, app_own ho1 (by simp [intR_len]; unfold encI at hl1 hl2; omega) (by simp [intR_len]; unfold encI at hl1 hl2; omega) fun a2 H2 ho2 hk2 _ => ?_⟩
    have hv2 : H2[0]? = some (.var [.p (.l (inss c.ins)), .p (.l (ints c.starts))]) := kept_var hk2 ho1 hv1
    rw [intR_app] at ho2
    have ho2' : OwnR H2 a2 1 (intR .u8 (headB c)) := ho2
    clear ho2 ho1 hk1 hk2 ho0 hv1 hv0
    simp only [go_sem, Nat.reduceEqDiff, reduceIte, ↓reduceIte, Nat.reduceAdd, List.replicate_succ, List.replicate_zero, List.set_cons_zero, List.set_cons_succ, List.length_cons, List.length_nil, Nat.reduceLT, Nat.lt_add_one, ne_eq, Int.reduceEq, not_false_eq_true, Option.map_some, Nat.reduceLeDiff, Nat.zero_lt_succ, List.map_cons, List.map_nil, List.nil_append, List.cons_append, List.append_nil, bytesOf, List.take_succ_cons, List.take_zero, List.drop_zero, and_self, List.append_assoc, List.length_append, Int.reduceLT, Int.reduceLE, Int.toNat_zero, Int.reduceToNat, Int.cast_ofNat_Int, Int.natCast_zero, Int.natCast_one, Int.reduceAdd, List.map_append, Option.bind_some, hv2, ints_len]
    intro _
    have hhead := hf.head
    refine ⟨Nat × AV × List AO, [0, 1, 2, 3, 24, 25, 26], fun x st => x.1 ≤ c.starts.length ∧ OwnR x.2.2 x.2.1 1 (intR .u8 (headB c ++ (c.starts.take x.1).flatMap encI)) ∧ x.2.2[0]? = some (.var [.p (.l (inss c.ins)), .p (.l (ints c.starts))]) ∧
      st = ⟨[(0, .st [.p (.l (inss c.ins)), .p (.l (ints c.starts))]), (1, .ptr 0 0), (2, .p .nl), (3, x.2.1), (24, .p (.l (ints c.starts))), (25, .p (.i .i64 c.starts.length)), (26, .p (.i .i64 x.1))], [], x.2.2⟩, fun x => c.starts.length - x.1, ⟨⟨0, a2, H2⟩, ?_⟩, ?_⟩
    · simp only [go_sem, Nat.reduceEqDiff, reduceIte, ↓reduceIte, Nat.reduceAdd, List.replicate_succ, List.replicate_zero, List.set_cons_zero, List.set_cons_succ, List.length_cons, List.length_nil, Nat.reduceLT, Nat.lt_add_one, ne_eq, Int.reduceEq, not_false_eq_true, Option.map_some, Nat.reduceLeDiff, Nat.zero_lt_succ, List.map_cons, List.map_nil, List.nil_append, List.cons_append, List.append_nil, bytesOf, List.take_succ_cons, List.take_zero, List.drop_zero, and_self, List.append_assoc, List.length_append, Int.reduceLT, Int.reduceLE, Int.toNat_zero, Int.reduceToNat, Int.cast_ofNat_Int, Int.natCast_zero, Int.natCast_one, Int.reduceAdd, List.map_append, Option.bind_some]
      exact ⟨Nat.zero_le _, by simpa using ho2', hv2⟩
    clear hv2 ho2'
    rintro ⟨i, a, H⟩ st ⟨hi, ho, hv, rfl⟩
    simp only at hi ho hv
    simp only [go_sem, Nat.reduceEqDiff, reduceIte, ↓reduceIte, Nat.reduceAdd, List.replicate_succ, List.replicate_zero, List.set_cons_zero, List.set_cons_succ, List.length_cons, List.length_nil, Nat.reduceLT, Nat.lt_add_one, ne_eq, Int.reduceEq, not_false_eq_true, Option.map_some, Nat.reduceLeDiff, Nat.zero_lt_succ, List.map_cons, List.map_nil, List.nil_append, List.cons_append, List.append_nil, bytesOf, List.take_succ_cons, List.take_zero, List.drop_zero, and_self, List.append_assoc, List.length_append, Int.reduceLT, Int.reduceLE, Int.toNat_zero, Int.reduceToNat, Int.cast_ofNat_Int, Int.natCast_zero, Int.natCast_one, Int.reduceAdd, List.map_append, Option.bind_some]
    refine condK_split _ (fun hd => ?_) (fun hd => ?_)
    · have hil : i < c.starts.length := by simpa using hd
      have hr := hf.rg.1 _ (List.getElem_mem hil)
      simp only [go_sem, Nat.reduceEqDiff, reduceIte, ↓reduceIte, Nat.reduceAdd, List.replicate_succ, List.replicate_zero, List.set_cons_zero, List.set_cons_succ, List.length_cons, List.length_nil, Nat.reduceLT, Nat.lt_add_one, ne_eq, Int.reduceEq, not_false_eq_true, Option.map_some, Nat.reduceLeDiff, Nat.zero_lt_succ, List.map_cons, List.map_nil, List.nil_append, List.cons_append, List.append_nil, bytesOf, List.take_succ_cons, List.take_zero, List.drop_zero, and_self, List.append_assoc, List.length_append, Int.reduceLT, Int.reduceLE, Int.toNat_zero, Int.reduceToNat, Int.cast_ofNat_Int, Int.natCast_zero, Int.natCast_one, Int.reduceAdd, List.map_append, Option.bind_some, ints_at _ hil]
      refine (putShortI _ hr.1 hr.2).mono ?_
      rintro r H' ⟨rfl, rfl⟩
      have h1 := hf.starts i
      have h2 := encI_len hr
      simp only [go_sem, Nat.reduceEqDiff, reduceIte, ↓reduceIte, Nat.reduceAdd, List.replicate_succ, List.replicate_zero, List.set_cons_zero, List.set_cons_succ, List.length_cons, List.length_nil, Nat.reduceLT, Nat.lt_add_one, ne_eq, Int.reduceEq, not_false_eq_true, Option.map_some, Nat.reduceLeDiff, Nat.zero_lt_succ, List.map_cons, List.map_nil, List.nil_append, List.cons_append, List.append_nil, bytesOf, List.take_succ_cons, List.take_zero, List.drop_zero, and_self, List.append_assoc, List.length_append, Int.reduceLT, Int.reduceLE, Int.toNat_zero, Int.reduceToNat, Int.cast_ofNat_Int, Int.natCast_zero, Int.natCast_one, Int.reduceAdd, List.map_append, Option.bind_some, rows_src]
      refine ⟨intR_len1 _ _, app_own ho (by simp only [intR_len, List.length_append]; unfold encI at h1 h2; unfold encI; omega) (by simp only [intR_len, List.length_append]; unfold encI at h1 h2; unfold encI; omega) fun a3 H3 ho3 hk3 _ => ?_⟩
      have hv3 : H3[0]? = some (.var [.p (.l (inss c.ins)), .p (.l (ints c.starts))]) := kept_var hk3 ho hv
      simp only [go_sem, Nat.reduceEqDiff, reduceIte, ↓reduceIte, Nat.reduceAdd, List.replicate_succ, List.replicate_zero, List.set_cons_zero, List.set_cons_succ, List.length_cons, List.length_nil, Nat.reduceLT, Nat.lt_add_one, ne_eq, Int.reduceEq, not_false_eq_true, Option.map_some, Nat.reduceLeDiff, Nat.zero_lt_succ, List.map_cons, List.map_nil, List.nil_append, List.cons_append, List.append_nil, bytesOf, List.take_succ_cons, List.take_zero, List.drop_zero, and_self, List.append_assoc, List.length_append, Int.reduceLT, Int.reduceLE, Int.toNat_zero, Int.reduceToNat, Int.cast_ofNat_Int, Int.natCast_zero, Int.natCast_one, Int.reduceAdd, List.map_append, Option.bind_some]
      refine ⟨(i + 1, a3, H3), ⟨hil, ?_, hv3, ?_⟩, by simp only; omega⟩
      · rw [intR_app] at ho3
        rw [flat_take _ hil, ← List.append_assoc]; exact ho3
      · rw [wr1 hil hok.2]
    have hil : i = c.starts.length := by simp at hd; omega
    subst hil
    rw [List.take_length] at ho
    simp only [go_sem, Nat.reduceEqDiff, reduceIte, ↓reduceIte, Nat.reduceAdd, List.replicate_succ, List.replicate_zero, List.set_cons_zero, List.set_cons_succ, List.length_cons, List.length_nil, Nat.reduceLT, Nat.lt_add_one, ne_eq, Int.reduceEq, not_false_eq_true, Option.map_some, Nat.reduceLeDiff, Nat.zero_lt_succ, List.map_cons, List.map_nil, List.nil_append, List.cons_append, List.append_nil, bytesOf, List.take_succ_cons, List.take_zero, List.drop_zero, and_self, List.append_assoc, List.length_append, Int.reduceLT, Int.reduceLE, Int.toNat_zero, Int.reduceToNat, Int.cast_ofNat_Int, Int.natCast_zero, Int.natCast_one, Int.reduceAdd, List.map_append, Option.bind_some, hv, inss_len]
    intro _
    refine ⟨Nat × AV × List AO, [0, 1, 2, 3, 36, 37, 38], fun x st => x.1 ≤ c.ins.length ∧ OwnR x.2.2 x.2.1 1 (intR .u8 (headB c ++ c.starts.flatMap encI ++ (c.ins.take x.1).flatMap insB)) ∧ x.2.2[0]? = some (.var [.p (.l (inss c.ins)), .p (.l (ints c.starts))]) ∧
      st = ⟨[(0, .st [.p (.l (inss c.ins)), .p (.l (ints c.starts))]), (1, .ptr 0 0), (2, .p .nl), (3, x.2.1), (36, .p (.l (inss c.ins))), (37, .p (.i .i64 c.ins.length)), (38, .p (.i .i64 x.1))], [], x.2.2⟩, fun x => c.ins.length - x.1, ⟨⟨0, a, H⟩, ?_⟩, ?_⟩
    · simp only [go_sem, Nat.reduceEqDiff, reduceIte, ↓reduceIte, Nat.reduceAdd, List.replicate_succ, List.replicate_zero, List.set_cons_zero, List.set_cons_succ, List.length_cons, List.length_nil, Nat.reduceLT, Nat.lt_add_one, ne_eq, Int.reduceEq, not_false_eq_true, Option.map_some, Nat.reduceLeDiff, Nat.zero_lt_succ, List.map_cons, List.map_nil, List.nil_append, List.cons_append, List.append_nil, bytesOf, List.take_succ_cons, List.take_zero, List.drop_zero, and_self, List.append_assoc, List.length_append, Int.reduceLT, Int.reduceLE, Int.toNat_zero, Int.reduceToNat, Int.cast_ofNat_Int, Int.natCast_zero, Int.natCast_one, Int.reduceAdd, List.map_append, Option.bind_some]
      exact ⟨Nat.zero_le _, by simpa using ho, hv⟩
    clear ho hv
    rintro ⟨i, a, H⟩ st ⟨hi, ho, hv, rfl⟩
    simp only at hi ho hv
    have hst := hf.starts c.starts.length
    rw [List.take_length] at hst
    simp only [go_sem, Nat.reduceEqDiff, reduceIte, ↓reduceIte, Nat.reduceAdd, List.replicate_succ, List.replicate_zero, List.set_cons_zero, List.set_cons_succ, List.length_cons, List.length_nil, Nat.reduceLT, Nat.lt_add_one, ne_eq, Int.reduceEq, not_false_eq_true, Option.map_some, Nat.reduceLeDiff, Nat.zero_lt_succ, List.map_cons, List.map_nil, List.nil_append, List.cons_append, List.append_nil, bytesOf, List.take_succ_cons, List.take_zero, List.drop_zero, and_self, List.append_assoc, List.length_append, Int.reduceLT, Int.reduceLE, Int.toNat_zero, Int.reduceToNat, Int.cast_ofNat_Int, Int.natCast_zero, Int.natCast_one, Int.reduceAdd, List.map_append, Option.bind_some]
    refine condK_split _ (fun hd => ?_) (fun hd => ?_)
    · have hil : i < c.ins.length := by simpa using hd
      simp only [go_sem, Nat.reduceEqDiff, reduceIte, ↓reduceIte, Nat.reduceAdd, List.replicate_succ, List.replicate_zero, List.set_cons_zero, List.set_cons_succ, List.length_cons, List.length_nil, Nat.reduceLT, Nat.lt_add_one, ne_eq, Int.reduceEq, not_false_eq_true, Option.map_some, Nat.reduceLeDiff, Nat.zero_lt_succ, List.map_cons, List.map_nil, List.nil_append, List.cons_append, List.append_nil, bytesOf, List.take_succ_cons, List.take_zero, List.drop_zero, and_self, List.append_assoc, List.length_append, Int.reduceLT, Int.reduceLE, Int.toNat_zero, Int.reduceToNat, Int.cast_ofNat_Int, Int.natCast_zero, Int.natCast_one, Int.reduceAdd, List.map_append, Option.bind_some, inss_at _ hil, ins_clen, ins_take, InsD.cells]
      have hxm := List.getElem_mem hil
      have hr := hf.rg.2 _ hxm
      have ht := hf.text hxm
      have htl : c.ins[i].text.length ≤ maxL := hok.1.2 _ hxm
      have hfi := hf.ins i
      have hn10 := encI_len hr
      have ht10 := encI_len (rng_len htl)
      unfold encI at hn10 ht10
      refine ⟨by simp, app_own ho.ext (by simp only [intR_len, List.length_append, List.length_cons, List.length_nil]; omega) (by simp only [intR_len, List.length_append, List.length_cons, List.length_nil]; omega) fun a3 H3 ho3 hk3 _ => ?_⟩
      have hv3 : H3[0]? = some (.var [.p (.l (inss c.ins)), .p (.l (ints c.starts))]) := kept_var hk3 ho.ext (by rw [List.getElem?_append_left (List.getElem?_eq_some_iff.1 hv).1]; exact hv)
      have hx3 := kept_var (j := H.length) hk3 ho.ext (get_off0 _ _)
      rw [show [[AV.p (.i .u8 (wr .u8 c.ins[i].op))], [AV.p (.i .u8 (wr .u8 (wr .i64 (wr .i64 (16 * c.ins[i].a) + c.ins[i].b))))], [AV.p (.i .u8 (wr .u8 c.ins[i].c))]] = intR .u8 [wr .u8 c.ins[i].op, wr .u8 (wr .i64 (wr .i64 (16 * c.ins[i].a) + c.ins[i].b)), wr .u8 c.ins[i].c] from rfl, intR_app] at ho3
      simp only [go_sem, Nat.reduceEqDiff, reduceIte, ↓reduceIte, Nat.reduceAdd, List.replicate_succ, List.replicate_zero, List.set_cons_zero, List.set_cons_succ, List.length_cons, List.length_nil, Nat.reduceLT, Nat.lt_add_one, ne_eq, Int.reduceEq, not_false_eq_true, Option.map_some, Nat.reduceLeDiff, Nat.zero_lt_succ, List.map_cons, List.map_nil, List.nil_append, List.cons_append, List.append_nil, bytesOf, List.take_succ_cons, List.take_zero, List.drop_zero, and_self, List.append_assoc, List.length_append, Int.reduceLT, Int.reduceLE, Int.toNat_zero, Int.reduceToNat, Int.cast_ofNat_Int, Int.natCast_zero, Int.natCast_one, Int.reduceAdd, List.map_append, Option.bind_some, hx3]
      refine (putShortI _ hr.1 hr.2).mono ?_
      rintro r H' ⟨rfl, rfl⟩
      simp only [go_sem, Nat.reduceEqDiff, reduceIte, ↓reduceIte, Nat.reduceAdd, List.replicate_succ, List.replicate_zero, List.set_cons_zero, List.set_cons_succ, List.length_cons, List.length_nil, Nat.reduceLT, Nat.lt_add_one, ne_eq, Int.reduceEq, not_false_eq_true, Option.map_some, Nat.reduceLeDiff, Nat.zero_lt_succ, List.map_cons, List.map_nil, List.nil_append, List.cons_append, List.append_nil, bytesOf, List.take_succ_cons, List.take_zero, List.drop_zero, and_self, List.append_assoc, List.length_append, Int.reduceLT, Int.reduceLE, Int.toNat_zero, Int.reduceToNat, Int.cast_ofNat_Int, Int.natCast_zero, Int.natCast_one, Int.reduceAdd, List.map_append, Option.bind_some, rows_src]
      refine ⟨intR_len1 _ _, app_own ho3 (by simp only [intR_len, List.length_append, List.length_cons, List.length_nil]; omega) (by simp only [intR_len, List.length_append, List.length_cons, List.length_nil]; omega) fun a4 H4 ho4 hk4 _ => ?_⟩
      have hv4 := kept_var hk4 ho3 hv3
      have hx4 := kept_var hk4 ho3 hx3
      rw [intR_app] at ho4
      simp only [go_sem, Nat.reduceEqDiff, reduceIte, ↓reduceIte, Nat.reduceAdd, List.replicate_succ, List.replicate_zero, List.set_cons_zero, List.set_cons_succ, List.length_cons, List.length_nil, Nat.reduceLT, Nat.lt_add_one, ne_eq, Int.reduceEq, not_false_eq_true, Option.map_some, Nat.reduceLeDiff, Nat.zero_lt_succ, List.map_cons, List.map_nil, List.nil_append, List.cons_append, List.append_nil, bytesOf, List.take_succ_cons, List.take_zero, List.drop_zero, and_self, List.append_assoc, List.length_append, Int.reduceLT, Int.reduceLE, Int.toNat_zero, Int.reduceToNat, Int.cast_ofNat_Int, Int.natCast_zero, Int.natCast_one, Int.reduceAdd, List.map_append, Option.bind_some, hx4]
      intro _
      refine (putShortI _ (rng_len htl).1 (rng_len htl).2).mono ?_
      rintro r H' ⟨rfl, rfl⟩
      simp only [go_sem, Nat.reduceEqDiff, reduceIte, ↓reduceIte, Nat.reduceAdd, List.replicate_succ, List.replicate_zero, List.set_cons_zero, List.set_cons_succ, List.length_cons, List.length_nil, Nat.reduceLT, Nat.lt_add_one, ne_eq, Int.reduceEq, not_false_eq_true, Option.map_some, Nat.reduceLeDiff, Nat.zero_lt_succ, List.map_cons, List.map_nil, List.nil_append, List.cons_append, List.append_nil, bytesOf, List.take_succ_cons, List.take_zero, List.drop_zero, and_self, List.append_assoc, List.length_append, Int.reduceLT, Int.reduceLE, Int.toNat_zero, Int.reduceToNat, Int.cast_ofNat_Int, Int.natCast_zero, Int.natCast_one, Int.reduceAdd, List.map_append, Option.bind_some, rows_src]
      refine ⟨intR_len1 _ _, app_own ho4 (by simp only [intR_len, List.length_append, List.length_cons, List.length_nil]; omega) (by simp only [intR_len, List.length_append, List.length_cons, List.length_nil]; omega) fun a5 H5 ho5 hk5 _ => ?_⟩
      have hv5 := kept_var hk5 ho4 hv4
      have hx5 := kept_var hk5 ho4 hx4
      rw [intR_app] at ho5
      simp only [go_sem, Nat.reduceEqDiff, reduceIte, ↓reduceIte, Nat.reduceAdd, List.replicate_succ, List.replicate_zero, List.set_cons_zero, List.set_cons_succ, List.length_cons, List.length_nil, Nat.reduceLT, Nat.lt_add_one, ne_eq, Int.reduceEq, not_false_eq_true, Option.map_some, Nat.reduceLeDiff, Nat.zero_lt_succ, List.map_cons, List.map_nil, List.nil_append, List.cons_append, List.append_nil, bytesOf, List.take_succ_cons, List.take_zero, List.drop_zero, and_self, List.append_assoc, List.length_append, Int.reduceLT, Int.reduceLE, Int.toNat_zero, Int.reduceToNat, Int.cast_ofNat_Int, Int.natCast_zero, Int.natCast_one, Int.reduceAdd, List.map_append, Option.bind_some, hx5, bytes_strI]
      refine ⟨intR_len1 _ _, app_own ho5 (by simp only [intR_len, List.length_append, List.length_cons, List.length_nil, strI, List.length_map]; omega) (by simp only [intR_len, List.length_append, List.length_cons, List.length_nil, strI, List.length_map]; omega) fun a6 H6 ho6 hk6 _ => ?_⟩
      have hv6 := kept_var hk6 ho5 hv5
      rw [intR_app] at ho6
      simp only [go_sem, Nat.reduceEqDiff, reduceIte, ↓reduceIte, Nat.reduceAdd, List.replicate_succ, List.replicate_zero, List.set_cons_zero, List.set_cons_succ, List.length_cons, List.length_nil, Nat.reduceLT, Nat.lt_add_one, ne_eq, Int.reduceEq, not_false_eq_true, Option.map_some, Nat.reduceLeDiff, Nat.zero_lt_succ, List.map_cons, List.map_nil, List.nil_append, List.cons_append, List.append_nil, bytesOf, List.take_succ_cons, List.take_zero, List.drop_zero, and_self, List.append_assoc, List.length_append, Int.reduceLT, Int.reduceLE, Int.toNat_zero, Int.reduceToNat, Int.cast_ofNat_Int, Int.natCast_zero, Int.natCast_one, Int.reduceAdd, List.map_append, Option.bind_some]
      refine ⟨(i + 1, a6, H6), ⟨hil, ?_, hv6, ?_⟩, by simp only; omega⟩
      · rw [flat_take _ hil]
        simpa [insB, encI] using ho6
      · rw [wr1 hil hok.1.1]
    · have hil : i = c.ins.length := by simp at hd; omega
      subst hil
      have hfi := hf.ins c.ins.length
      rw [List.take_length] at ho hfi
      have hbl : (bodyB c).length ≤ 36000000 := by simp only [bodyB, List.length_append]; omega
      have ho' : OwnR H a 1 (intR .u8 (bodyB c)) := ho
      simp only [go_sem, Nat.reduceEqDiff, reduceIte, ↓reduceIte, Nat.reduceAdd, List.replicate_succ, List.replicate_zero, List.set_cons_zero, List.set_cons_succ, List.length_cons, List.length_nil, Nat.reduceLT, Nat.lt_add_one, ne_eq, Int.reduceEq, not_false_eq_true, Option.map_some, Nat.reduceLeDiff, Nat.zero_lt_succ, List.map_cons, List.map_nil, List.nil_append, List.cons_append, List.append_nil, bytesOf, List.take_succ_cons, List.take_zero, List.drop_zero, and_self, List.append_assoc, List.length_append, Int.reduceLT, Int.reduceLE, Int.toNat_zero, Int.reduceToNat, Int.cast_ofNat_Int, Int.natCast_zero, Int.natCast_one, Int.reduceAdd, List.map_append, Option.bind_some]
      have hmx : (bodyB c).length ≤ maxL := by unfold maxL; omega
      refine (own_result (sumOf0 (bodyB c) (isB_body c) hmx) (lentAll_cons (own_lent ho') (lentAll_nil _))).mono ?_
      rintro r H' (⟨h, _⟩ | ⟨ver, rfl, rfl⟩)
      · simp [sumB] at h
      simp only [go_sem, Nat.reduceEqDiff, reduceIte, ↓reduceIte, Nat.reduceAdd, List.replicate_succ, List.replicate_zero, List.set_cons_zero, List.set_cons_succ, List.length_cons, List.length_nil, Nat.reduceLT, Nat.lt_add_one, ne_eq, Int.reduceEq, not_false_eq_true, Option.map_some, Nat.reduceLeDiff, Nat.zero_lt_succ, List.map_cons, List.map_nil, List.nil_append, List.cons_append, List.append_nil, bytesOf, List.take_succ_cons, List.take_zero, List.drop_zero, and_self, List.append_assoc, List.length_append, Int.reduceLT, Int.reduceLE, Int.toNat_zero, Int.reduceToNat, Int.cast_ofNat_Int, Int.natCast_zero, Int.natCast_one, Int.reduceAdd, List.map_append, Option.bind_some, intR_len, intR_take, Nat.le_refl]
      have hs4 : (sumB (bodyB c)).length = 4 := rfl
      refine ⟨intR_len1 _ _, app_own ho'.ext (by simp only [intR_len, hs4]; omega) (by simp only [intR_len, hs4]; omega) fun a7 H7 ho7 _ _ => ?_⟩
      rw [intR_app] at ho7
      have himg : (bodyB c ++ sumB (bodyB c)) = imgB c := rfl
      rw [himg] at ho7
      have hne : (imgB c).length = (bodyB c).length + 4 := by simp [imgB, hs4]
      rcases ho7 with ⟨_, he⟩ | ⟨id, ver, rfl, hid⟩
      · have : (intR .u8 (imgB c)).length = 0 := by rw [he]; rfl
        rw [intR_len] at this; omega
      · simp only [go_sem, Nat.reduceEqDiff, reduceIte, ↓reduceIte, Nat.reduceAdd, List.replicate_succ, List.replicate_zero, List.set_cons_zero, List.set_cons_succ, List.length_cons, List.length_nil, Nat.reduceLT, Nat.lt_add_one, ne_eq, Int.reduceEq, not_false_eq_true, Option.map_some, Nat.reduceLeDiff, Nat.zero_lt_succ, List.map_cons, List.map_nil, List.nil_append, List.cons_append, List.append_nil, bytesOf, List.take_succ_cons, List.take_zero, List.drop_zero, and_self, List.append_assoc, List.length_append, Int.reduceLT, Int.reduceLE, Int.toNat_zero, Int.reduceToNat, Int.cast_ofNat_Int, Int.natCast_zero, Int.natCast_one, Int.reduceAdd, List.map_append, Option.bind_some, intR_len]
        intro _
        refine condK_split _ (fun h2 => ?_) (fun h2 => ?_)
        · simp only [go_sem, Nat.reduceEqDiff, reduceIte, ↓reduceIte, Nat.reduceAdd, List.replicate_succ, List.replicate_zero, List.set_cons_zero, List.set_cons_succ, List.length_cons, List.length_nil, Nat.reduceLT, Nat.lt_add_one, ne_eq, Int.reduceEq, not_false_eq_true, Option.map_some, Nat.reduceLeDiff, Nat.zero_lt_succ, List.map_cons, List.map_nil, List.nil_append, List.cons_append, List.append_nil, bytesOf, List.take_succ_cons, List.take_zero, List.drop_zero, and_self, List.append_assoc, List.length_append, Int.reduceLT, Int.reduceLE, Int.toNat_zero, Int.reduceToNat, Int.cast_ofNat_Int, Int.natCast_zero, Int.natCast_one, Int.reduceAdd, List.map_append, Option.bind_some]
          have : ¬ (imgB c).length ≤ 200000 := by simp at h2; omega
          refine .inl ⟨rfl, ?_⟩
          simp [putD, this, intR]
        · simp only [go_sem, Nat.reduceEqDiff, reduceIte, ↓reduceIte, Nat.reduceAdd, List.replicate_succ, List.replicate_zero, List.set_cons_zero, List.set_cons_succ, List.length_cons, List.length_nil, Nat.reduceLT, Nat.lt_add_one, ne_eq, Int.reduceEq, not_false_eq_true, Option.map_some, Nat.reduceLeDiff, Nat.zero_lt_succ, List.map_cons, List.map_nil, List.nil_append, List.cons_append, List.append_nil, bytesOf, List.take_succ_cons, List.take_zero, List.drop_zero, and_self, List.append_assoc, List.length_append, Int.reduceLT, Int.reduceLE, Int.toNat_zero, Int.reduceToNat, Int.cast_ofNat_Int, Int.natCast_zero, Int.natCast_one, Int.reduceAdd, List.map_append, Option.bind_some]
          have : (imgB c).length ≤ 200000 := by simp at h2; omega
          rw [putD, if_pos ⟨hco', this⟩]
          exact .inr ⟨id, ver, by rw [intR_len], hid⟩
end Go.Proofs.Ytmbggdfceecojaa.Cd

/- Images of codes: by the reference. -/
set_option linter.all false
namespace Go.Proofs.Ytmbggdfceecojaa.Cd
open Go.AM Mc Ho

theorem putShort_all (n : Int) (h : rng n) (Hc : List AO) : ∀ A, ACall Try.prog 71 [.p (.i .i64 n)] (Hc ++ A) (pureQ (.p (.l (rowsK .u8 (enc (zig n))))) (Hc ++ A)) :=
  fun A => (putShort n h.1 h.2).mono fun r H' ⟨h1, h2⟩ => ⟨h2, h1⟩

theorem specPut0 (c : CodeD) (hf : Fits c) : ACall Try.prog 20 [.st (c.cells.map .p)] [] (fun r H' => OwnR H' r 1 (intR .u8 (putD c))) := by
  have hsm := hf.sm
  unfold small at hsm
  have hok : okCode c := hf.ok
  have hr1 := rng_len hok.2
  have hr2 := rng_len hok.1.1
  have hl1 := encI_len hr1
  have hl2 := encI_len hr2
  unfold encI at hl1 hl2
  refine call20 (by simp) ?_
  simp only [go_sem, Nat.reduceEqDiff, reduceIte, ↓reduceIte, Nat.reduceAdd, List.replicate_succ, List.replicate_zero, List.set_cons_zero, List.set_cons_succ, List.length_cons, List.length_nil, Nat.reduceLT, Nat.lt_add_one, ne_eq, Int.reduceEq, not_false_eq_true, Option.map_some, Nat.reduceLeDiff, Nat.zero_lt_succ, List.map_cons, List.map_nil, List.nil_append, List.cons_append, List.append_nil, bytesOf, List.take_succ_cons, List.take_zero, List.drop_zero, and_self, List.append_assoc, List.length_append, Int.reduceLT, Int.reduceLE, Int.toNat_zero, Int.reduceToNat, Int.cast_ofNat_Int, Int.natCast_zero, Int.natCast_one, Int.reduceAdd, List.map_append, Option.bind_some, mc20, mr20, CodeD.cells]
  rw [code_eta]
  refine (acall_lend (specCodeOk c hf.ok) (fun r H' h => by subst h; exact grnd_b _) (lentAll_cons (code_lent c) (lentAll_nil _))).mono ?_
  rintro r H' ⟨rfl, _, rfl⟩
  simp only [go_sem, Nat.reduceEqDiff, reduceIte, ↓reduceIte, Nat.reduceAdd, List.replicate_succ, List.replicate_zero, List.set_cons_zero, List.set_cons_succ, List.length_cons, List.length_nil, Nat.reduceLT, Nat.lt_add_one, ne_eq, Int.reduceEq, not_false_eq_true, Option.map_some, Nat.reduceLeDiff, Nat.zero_lt_succ, List.map_cons, List.map_nil, List.nil_append, List.cons_append, List.append_nil, bytesOf, List.take_succ_cons, List.take_zero, List.drop_zero, and_self, List.append_assoc, List.length_append, Int.reduceLT, Int.reduceLE, Int.toNat_zero, Int.reduceToNat, Int.cast_ofNat_Int, Int.natCast_zero, Int.natCast_one, Int.reduceAdd, List.map_append, Option.bind_some]
  refine condK_split _ (fun hco => ?_) (fun hco => ?_)
  · simp only [go_sem, Nat.reduceEqDiff, reduceIte, ↓reduceIte, Nat.reduceAdd, List.replicate_succ, List.replicate_zero, List.set_cons_zero, List.set_cons_succ, List.length_cons, List.length_nil, Nat.reduceLT, Nat.lt_add_one, ne_eq, Int.reduceEq, not_false_eq_true, Option.map_some, Nat.reduceLeDiff, Nat.zero_lt_succ, List.map_cons, List.map_nil, List.nil_append, List.cons_append, List.append_nil, bytesOf, List.take_succ_cons, List.take_zero, List.drop_zero, and_self, List.append_assoc, List.length_append, Int.reduceLT, Int.reduceLE, Int.toNat_zero, Int.reduceToNat, Int.cast_ofNat_Int, Int.natCast_zero, Int.natCast_one, Int.reduceAdd, List.map_append, Option.bind_some]
    have : codeOk c = false := by simpa using hco
    refine .inr ⟨1, 0, ?_, ?_⟩
    · simp [putD, this, intR]
    · simp [putD, this, intR]
  · have hco' : codeOk c = true := by simpa using hco
    simp only [go_sem, Nat.reduceEqDiff, reduceIte, ↓reduceIte, Nat.reduceAdd, List.replicate_succ, List.replicate_zero, List.set_cons_zero, List.set_cons_succ, List.length_cons, List.length_nil, Nat.reduceLT, Nat.lt_add_one, ne_eq, Int.reduceEq, not_false_eq_true, Option.map_some, Nat.reduceLeDiff, Nat.zero_lt_succ, List.map_cons, List.map_nil, List.nil_append, List.cons_append, List.append_nil, bytesOf, List.take_succ_cons, List.take_zero, List.drop_zero, and_self, List.append_assoc, List.length_append, Int.reduceLT, Int.reduceLE, Int.toNat_zero, Int.reduceToNat, Int.cast_ofNat_Int, Int.natCast_zero, Int.natCast_one, Int.reduceAdd, List.map_append, Option.bind_some, CodeD.cells]
    have ho0 : OwnR [.var [.p (.l (inss c.ins)), .p (.l (ints c.starts))], .rows 1 0 [[.p (.i .u8 77)], [.p (.i .u8 78)], [.p (.i .u8 1)]]] (.gs 1 0 0 3) 1 (intR .u8 [77, 78, 1]) := .inr ⟨1, 0, rfl, rfl⟩
    have hv0 : [AO.var [.p (.l (inss c.ins)), .p (.l (ints c.starts))], .rows 1 0 [[.p (.i .u8 77)], [.p (.i .u8 78)], [.p (.i .u8 1)]]][0]? = some (.var [.p (.l (inss c.ins)), .p (.l (ints c.starts))]) := rfl
    generalize [AO.var [.p (.l (inss c.ins)), .p (.l (ints c.starts))], .rows 1 0 [[.p (.i .u8 77)], [.p (.i .u8 78)], [.p (.i .u8 1)]]] = H0 at ho0 hv0 ⊢
    generalize AV.gs 1 0 0 3 = a0 at ho0 ⊢
    have hkv := killed_var ho0 hv0
    refine ⟨killed H0 a0, killed_ext _ _, ?_⟩
    simp only [go_sem, Nat.reduceEqDiff, reduceIte, ↓reduceIte, Nat.reduceAdd, List.replicate_succ, List.replicate_zero, List.set_cons_zero, List.set_cons_succ, List.length_cons, List.length_nil, Nat.reduceLT, Nat.lt_add_one, ne_eq, Int.reduceEq, not_false_eq_true, Option.map_some, Nat.reduceLeDiff, Nat.zero_lt_succ, List.map_cons, List.map_nil, List.nil_append, List.cons_append, List.append_nil, bytesOf, List.take_succ_cons, List.take_zero, List.drop_zero, and_self, List.append_assoc, List.length_append, Int.reduceLT, Int.reduceLE, Int.toNat_zero, Int.reduceToNat, Int.cast_ofNat_Int, Int.natCast_zero, Int.natCast_one, Int.reduceAdd, List.map_append, Option.bind_some, hkv, ints_len]
    refine pcall_pure (putShort_all _ hr1 _) (killed_ext _ _) ?_
    simp only [go_sem, Nat.reduceEqDiff, reduceIte, ↓reduceIte, Nat.reduceAdd, List.replicate_succ, List.replicate_zero, List.set_cons_zero, List.set_cons_succ, List.length_cons, List.length_nil, Nat.reduceLT, Nat.lt_add_one, ne_eq, Int.reduceEq, not_false_eq_true, Option.map_some, Nat.reduceLeDiff, Nat.zero_lt_succ, List.map_cons, List.map_nil, List.nil_append, List.cons_append, List.append_nil, bytesOf, List.take_succ_cons, List.take_zero, List.drop_zero, and_self, List.append_assoc, List.length_append, Int.reduceLT, Int.reduceLE, Int.toNat_zero, Int.reduceToNat, Int.cast_ofNat_Int, Int.natCast_zero, Int.natCast_one, Int.reduceAdd, List.map_append, Option.bind_some, rows_src]
    refine ⟨intR_len1 _ _, app_drw ho0 (by simp [intR]) (by simp [intR_len]; omega) (by simp [intR_len]; omega) fun a1 H1 ho1 hk1 => ?_⟩
    have hv1 := kept_var hk1 ho0 hv0
    rw [intR_app] at ho1
    simp only [go_sem, Nat.reduceEqDiff, reduceIte, ↓reduceIte, Nat.reduceAdd, List.replicate_succ, List.replicate_zero, List.set_cons_zero, List.set_cons_succ, List.length_cons, List.length_nil, Nat.reduceLT, Nat.lt_add_one, ne_eq, Int.reduceEq, not_false_eq_true, Option.map_some, Nat.reduceLeDiff, Nat.zero_lt_succ, List.map_cons, List.map_nil, List.nil_append, List.cons_append, List.append_nil, bytesOf, List.take_succ_cons, List.take_zero, List.drop_zero, and_self, List.append_assoc, List.length_append, Int.reduceLT, Int.reduceLE, Int.toNat_zero, Int.reduceToNat, Int.cast_ofNat_Int, Int.natCast_zero, Int.natCast_one, Int.reduceAdd, List.map_append, Option.bind_some, hkv, inss_len]
    refine (putShort _ hr2.1 hr2.2).mono ?_
    rintro r H' ⟨rfl, rfl⟩
    simp only [go_sem, Nat.reduceEqDiff, reduceIte, ↓reduceIte, Nat.reduceAdd, List.replicate_succ, List.replicate_zero, List.set_cons_zero, List.set_cons_succ, List.length_cons, List.length_nil, Nat.reduceLT, Nat.lt_add_one, ne_eq, Int.reduceEq, not_false_eq_true, Option.map_some, Nat.reduceLeDiff, Nat.zero_lt_succ, List.map_cons, List.map_nil, List.nil_append, List.cons_append, List.append_nil, bytesOf, List.take_succ_cons, List.take_zero, List.drop_zero, and_self, List.append_assoc, List.length_append, Int.reduceLT, Int.reduceLE, Int.toNat_zero, Int.reduceToNat, Int.cast_ofNat_Int, Int.natCast_zero, Int.natCast_one, Int.reduceAdd, List.map_append, Option.bind_some, rows_src]
    refine ⟨intR_len1 _ _, app_own ho1 (by simp [intR_len]; omega) (by simp [intR_len]; omega) fun a2 H2 ho2 hk2 _ => ?_⟩
    have hv2 := kept_var hk2 ho1 hv1
    rw [intR_app] at ho2
    have ho2' : OwnR H2 a2 1 (intR .u8 (headB c)) := ho2
    clear ho2 ho1 hk1 hk2 ho0 hv1 hv0 hkv
    have hhead := hf.head
    simp only [go_sem, Nat.reduceEqDiff, reduceIte, ↓reduceIte, Nat.reduceAdd, List.replicate_succ, List.replicate_zero, List.set_cons_zero, List.set_cons_succ, List.length_cons, List.length_nil, Nat.reduceLT, Nat.lt_add_one, ne_eq, Int.reduceEq, not_false_eq_true, Option.map_some, Nat.reduceLeDiff, Nat.zero_lt_succ, List.map_cons, List.map_nil, List.nil_append, List.cons_append, List.append_nil, bytesOf, List.take_succ_cons, List.take_zero, List.drop_zero, and_self, List.append_assoc, List.length_append, Int.reduceLT, Int.reduceLE, Int.toNat_zero, Int.reduceToNat, Int.cast_ofNat_Int, Int.natCast_zero, Int.natCast_one, Int.reduceAdd, List.map_append, Option.bind_some]
    refine ⟨Nat × AV × List AO, [0, 1, 2, 3, 4], fun x st => x.1 ≤ c.starts.length ∧ OwnR x.2.2 x.2.1 1 (intR .u8 (headB c ++ (c.starts.take x.1).flatMap encI)) ∧ x.2.2[0]? = some (.var [.p (.l (inss c.ins)), .p (.l (ints c.starts))]) ∧
      st = ⟨[(0, .st [.p (.l (inss c.ins)), .p (.l (ints c.starts))]), (1, .ptr 0 0), (2, .p .nl), (3, x.2.1), (4, .p (.i .i64 x.1))], [], x.2.2⟩, fun x => c.starts.length - x.1, ⟨⟨0, a2, H2⟩, ?_⟩, ?_⟩
    · simp only [go_sem, Nat.reduceEqDiff, reduceIte, ↓reduceIte, Nat.reduceAdd, List.replicate_succ, List.replicate_zero, List.set_cons_zero, List.set_cons_succ, List.length_cons, List.length_nil, Nat.reduceLT, Nat.lt_add_one, ne_eq, Int.reduceEq, not_false_eq_true, Option.map_some, Nat.reduceLeDiff, Nat.zero_lt_succ, List.map_cons, List.map_nil, List.nil_append, List.cons_append, List.append_nil, bytesOf, List.take_succ_cons, List.take_zero, List.drop_zero, and_self, List.append_assoc, List.length_append, Int.reduceLT, Int.reduceLE, Int.toNat_zero, Int.reduceToNat, Int.cast_ofNat_Int, Int.natCast_zero, Int.natCast_one, Int.reduceAdd, List.map_append, Option.bind_some]
      exact ⟨Nat.zero_le _, by simpa using ho2', hv2⟩
    clear hv2 ho2'
    rintro ⟨i, a, H⟩ st ⟨hi, ho, hv, rfl⟩
    simp only at hi ho hv
    simp only [go_sem, Nat.reduceEqDiff, reduceIte, ↓reduceIte, Nat.reduceAdd, List.replicate_succ, List.replicate_zero, List.set_cons_zero, List.set_cons_succ, List.length_cons, List.length_nil, Nat.reduceLT, Nat.lt_add_one, ne_eq, Int.reduceEq, not_false_eq_true, Option.map_some, Nat.reduceLeDiff, Nat.zero_lt_succ, List.map_cons, List.map_nil, List.nil_append, List.cons_append, List.append_nil, bytesOf, List.take_succ_cons, List.take_zero, List.drop_zero, and_self, List.append_assoc, List.length_append, Int.reduceLT, Int.reduceLE, Int.toNat_zero, Int.reduceToNat, Int.cast_ofNat_Int, Int.natCast_zero, Int.natCast_one, Int.reduceAdd, List.map_append, Option.bind_some, hv, ints_len]
    intro _
    refine condK_split _ (fun hd => ?_) (fun hd => ?_)
    · have hil : i < c.starts.length := by simpa using hd
      have hr := hf.rg.1 _ (List.getElem_mem hil)
      simp only [go_sem, Nat.reduceEqDiff, reduceIte, ↓reduceIte, Nat.reduceAdd, List.replicate_succ, List.replicate_zero, List.set_cons_zero, List.set_cons_succ, List.length_cons, List.length_nil, Nat.reduceLT, Nat.lt_add_one, ne_eq, Int.reduceEq, not_false_eq_true, Option.map_some, Nat.reduceLeDiff, Nat.zero_lt_succ, List.map_cons, List.map_nil, List.nil_append, List.cons_append, List.append_nil, bytesOf, List.take_succ_cons, List.take_zero, List.drop_zero, and_self, List.append_assoc, List.length_append, Int.reduceLT, Int.reduceLE, Int.toNat_zero, Int.reduceToNat, Int.cast_ofNat_Int, Int.natCast_zero, Int.natCast_one, Int.reduceAdd, List.map_append, Option.bind_some, ints_at _ hil, hv]
      refine (putShort _ hr.1 hr.2).mono ?_
      rintro r H' ⟨rfl, rfl⟩
      have h1 := hf.starts i
      have h2 := encI_len hr
      unfold encI at h2
      simp only [go_sem, Nat.reduceEqDiff, reduceIte, ↓reduceIte, Nat.reduceAdd, List.replicate_succ, List.replicate_zero, List.set_cons_zero, List.set_cons_succ, List.length_cons, List.length_nil, Nat.reduceLT, Nat.lt_add_one, ne_eq, Int.reduceEq, not_false_eq_true, Option.map_some, Nat.reduceLeDiff, Nat.zero_lt_succ, List.map_cons, List.map_nil, List.nil_append, List.cons_append, List.append_nil, bytesOf, List.take_succ_cons, List.take_zero, List.drop_zero, and_self, List.append_assoc, List.length_append, Int.reduceLT, Int.reduceLE, Int.toNat_zero, Int.reduceToNat, Int.cast_ofNat_Int, Int.natCast_zero, Int.natCast_one, Int.reduceAdd, List.map_append, Option.bind_some, rows_src]
      refine ⟨intR_len1 _ _, app_own ho (by simp only [intR_len, List.length_append]; omega) (by simp only [intR_len, List.length_append]; omega) fun a3 H3 ho3 hk3 _ => ?_⟩
      have hv3 := kept_var hk3 ho hv
      simp only [go_sem, Nat.reduceEqDiff, reduceIte, ↓reduceIte, Nat.reduceAdd, List.replicate_succ, List.replicate_zero, List.set_cons_zero, List.set_cons_succ, List.length_cons, List.length_nil, Nat.reduceLT, Nat.lt_add_one, ne_eq, Int.reduceEq, not_false_eq_true, Option.map_some, Nat.reduceLeDiff, Nat.zero_lt_succ, List.map_cons, List.map_nil, List.nil_append, List.cons_append, List.append_nil, bytesOf, List.take_succ_cons, List.take_zero, List.drop_zero, and_self, List.append_assoc, List.length_append, Int.reduceLT, Int.reduceLE, Int.toNat_zero, Int.reduceToNat, Int.cast_ofNat_Int, Int.natCast_zero, Int.natCast_one, Int.reduceAdd, List.map_append, Option.bind_some]
      refine ⟨(i + 1, a3, H3), ⟨hil, ?_, hv3, ?_⟩, by simp only; omega⟩
      · rw [intR_app] at ho3
        rw [flat_take _ hil, ← List.append_assoc]; exact ho3
      · rw [wr1 hil hok.2]
    have hil : i = c.starts.length := by simp at hd; omega
    subst hil
    rw [List.take_length] at ho
    simp only [go_sem, Nat.reduceEqDiff, reduceIte, ↓reduceIte, Nat.reduceAdd, List.replicate_succ, List.replicate_zero, List.set_cons_zero, List.set_cons_succ, List.length_cons, List.length_nil, Nat.reduceLT, Nat.lt_add_one, ne_eq, Int.reduceEq, not_false_eq_true, Option.map_some, Nat.reduceLeDiff, Nat.zero_lt_succ, List.map_cons, List.map_nil, List.nil_append, List.cons_append, List.append_nil, bytesOf, List.take_succ_cons, List.take_zero, List.drop_zero, and_self, List.append_assoc, List.length_append, Int.reduceLT, Int.reduceLE, Int.toNat_zero, Int.reduceToNat, Int.cast_ofNat_Int, Int.natCast_zero, Int.natCast_one, Int.reduceAdd, List.map_append, Option.bind_some]
    refine ⟨Nat × AV × List AO, [0, 1, 2, 3, 5], fun x st => x.1 ≤ c.ins.length ∧ OwnR x.2.2 x.2.1 1 (intR .u8 (headB c ++ c.starts.flatMap encI ++ (c.ins.take x.1).flatMap insB)) ∧ x.2.2[0]? = some (.var [.p (.l (inss c.ins)), .p (.l (ints c.starts))]) ∧
      st = ⟨[(0, .st [.p (.l (inss c.ins)), .p (.l (ints c.starts))]), (1, .ptr 0 0), (2, .p .nl), (3, x.2.1), (5, .p (.i .i64 x.1))], [], x.2.2⟩, fun x => c.ins.length - x.1, ⟨⟨0, a, H⟩, ?_⟩, ?_⟩
    · simp only [go_sem, Nat.reduceEqDiff, reduceIte, ↓reduceIte, Nat.reduceAdd, List.replicate_succ, List.replicate_zero, List.set_cons_zero, List.set_cons_succ, List.length_cons, List.length_nil, Nat.reduceLT, Nat.lt_add_one, ne_eq, Int.reduceEq, not_false_eq_true, Option.map_some, Nat.reduceLeDiff, Nat.zero_lt_succ, List.map_cons, List.map_nil, List.nil_append, List.cons_append, List.append_nil, bytesOf, List.take_succ_cons, List.take_zero, List.drop_zero, and_self, List.append_assoc, List.length_append, Int.reduceLT, Int.reduceLE, Int.toNat_zero, Int.reduceToNat, Int.cast_ofNat_Int, Int.natCast_zero, Int.natCast_one, Int.reduceAdd, List.map_append, Option.bind_some]
      exact ⟨Nat.zero_le _, by simpa using ho, hv⟩
    clear ho hv
    rintro ⟨i, a, H⟩ st ⟨hi, ho, hv, rfl⟩
    simp only at hi ho hv
    have hst := hf.starts c.starts.length
    rw [List.take_length] at hst
    have hhd : 3 ≤ (headB c).length := by simp only [headB, List.length_append, List.length_cons, List.length_nil]; omega
    have hs4 : (sumB (bodyB c)).length = 4 := rfl
    simp only [go_sem, Nat.reduceEqDiff, reduceIte, ↓reduceIte, Nat.reduceAdd, List.replicate_succ, List.replicate_zero, List.set_cons_zero, List.set_cons_succ, List.length_cons, List.length_nil, Nat.reduceLT, Nat.lt_add_one, ne_eq, Int.reduceEq, not_false_eq_true, Option.map_some, Nat.reduceLeDiff, Nat.zero_lt_succ, List.map_cons, List.map_nil, List.nil_append, List.cons_append, List.append_nil, bytesOf, List.take_succ_cons, List.take_zero, List.drop_zero, and_self, List.append_assoc, List.length_append, Int.reduceLT, Int.reduceLE, Int.toNat_zero, Int.reduceToNat, Int.cast_ofNat_Int, Int.natCast_zero, Int.natCast_one, Int.reduceAdd, List.map_append, Option.bind_some, hv, inss_len]
    intro _
    refine condK_split _ (fun hd => ?_) (fun hd => ?_)
    · have hil : i < c.ins.length := by simpa using hd
      simp only [go_sem, Nat.reduceEqDiff, reduceIte, ↓reduceIte, Nat.reduceAdd, List.replicate_succ, List.replicate_zero, List.set_cons_zero, List.set_cons_succ, List.length_cons, List.length_nil, Nat.reduceLT, Nat.lt_add_one, ne_eq, Int.reduceEq, not_false_eq_true, Option.map_some, Nat.reduceLeDiff, Nat.zero_lt_succ, List.map_cons, List.map_nil, List.nil_append, List.cons_append, List.append_nil, bytesOf, List.take_succ_cons, List.take_zero, List.drop_zero, and_self, List.append_assoc, List.length_append, Int.reduceLT, Int.reduceLE, Int.toNat_zero, Int.reduceToNat, Int.cast_ofNat_Int, Int.natCast_zero, Int.natCast_one, Int.reduceAdd, List.map_append, Option.bind_some, inss_at _ hil, ins_clen, ins_take, InsD.cells, hv]
      have hxm := List.getElem_mem hil
      have hr := hf.rg.2 _ hxm
      have ht := hf.text hxm
      have htl : c.ins[i].text.length ≤ maxL := hok.1.2 _ hxm
      have hrt := rng_len htl
      have hfi := hf.ins i
      have hn10 := encI_len hr
      have ht10 := encI_len hrt
      unfold encI at hn10 ht10
      refine ⟨by simp, app_own ho.ext (by simp only [intR_len, List.length_append, List.length_cons, List.length_nil]; omega) (by simp only [intR_len, List.length_append, List.length_cons, List.length_nil]; omega) fun a3 H3 ho3 hk3 _ => ?_⟩
      have hv3 := kept_var (j := 0) hk3 ho.ext (by rw [List.getElem?_append_left (List.getElem?_eq_some_iff.1 hv).1]; exact hv)
      have hx3 := kept_var (j := H.length) hk3 ho.ext (get_off0 _ _)
      rw [show [[AV.p (.i .u8 (wr .u8 c.ins[i].op))], [AV.p (.i .u8 (wr .u8 (wr .i64 (wr .i64 (16 * c.ins[i].a) + c.ins[i].b))))], [AV.p (.i .u8 (wr .u8 c.ins[i].c))]] = intR .u8 [wr .u8 c.ins[i].op, wr .u8 (wr .i64 (wr .i64 (16 * c.ins[i].a) + c.ins[i].b)), wr .u8 c.ins[i].c] from rfl, intR_app] at ho3
      have hkx := killed_var ho3 hx3
      simp only [go_sem, Nat.reduceEqDiff, reduceIte, ↓reduceIte, Nat.reduceAdd, List.replicate_succ, List.replicate_zero, List.set_cons_zero, List.set_cons_succ, List.length_cons, List.length_nil, Nat.reduceLT, Nat.lt_add_one, ne_eq, Int.reduceEq, not_false_eq_true, Option.map_some, Nat.reduceLeDiff, Nat.zero_lt_succ, List.map_cons, List.map_nil, List.nil_append, List.cons_append, List.append_nil, bytesOf, List.take_succ_cons, List.take_zero, List.drop_zero, and_self, List.append_assoc, List.length_append, Int.reduceLT, Int.reduceLE, Int.toNat_zero, Int.reduceToNat, Int.cast_ofNat_Int, Int.natCast_zero, Int.natCast_one, Int.reduceAdd, List.map_append, Option.bind_some]
      refine ⟨killed H3 a3, killed_ext _ _, ?_⟩
      simp only [go_sem, Nat.reduceEqDiff, reduceIte, ↓reduceIte, Nat.reduceAdd, List.replicate_succ, List.replicate_zero, List.set_cons_zero, List.set_cons_succ, List.length_cons, List.length_nil, Nat.reduceLT, Nat.lt_add_one, ne_eq, Int.reduceEq, not_false_eq_true, Option.map_some, Nat.reduceLeDiff, Nat.zero_lt_succ, List.map_cons, List.map_nil, List.nil_append, List.cons_append, List.append_nil, bytesOf, List.take_succ_cons, List.take_zero, List.drop_zero, and_self, List.append_assoc, List.length_append, Int.reduceLT, Int.reduceLE, Int.toNat_zero, Int.reduceToNat, Int.cast_ofNat_Int, Int.natCast_zero, Int.natCast_one, Int.reduceAdd, List.map_append, Option.bind_some, hkx]
      refine pcall_pure (putShort_all _ hr _) (killed_ext _ _) ?_
      simp only [go_sem, Nat.reduceEqDiff, reduceIte, ↓reduceIte, Nat.reduceAdd, List.replicate_succ, List.replicate_zero, List.set_cons_zero, List.set_cons_succ, List.length_cons, List.length_nil, Nat.reduceLT, Nat.lt_add_one, ne_eq, Int.reduceEq, not_false_eq_true, Option.map_some, Nat.reduceLeDiff, Nat.zero_lt_succ, List.map_cons, List.map_nil, List.nil_append, List.cons_append, List.append_nil, bytesOf, List.take_succ_cons, List.take_zero, List.drop_zero, and_self, List.append_assoc, List.length_append, Int.reduceLT, Int.reduceLE, Int.toNat_zero, Int.reduceToNat, Int.cast_ofNat_Int, Int.natCast_zero, Int.natCast_one, Int.reduceAdd, List.map_append, Option.bind_some, rows_src]
      refine ⟨intR_len1 _ _, app_drw ho3 (by simp [intR]) (by simp only [intR_len, List.length_append, List.length_cons, List.length_nil]; omega) (by simp only [intR_len, List.length_append, List.length_cons, List.length_nil]; omega) fun a4 H4 ho4 hk4 => ?_⟩
      have hv4 := kept_var hk4 ho3 hv3
      have hx4 := kept_var hk4 ho3 hx3
      rw [intR_app] at ho4
      simp only [go_sem, Nat.reduceEqDiff, reduceIte, ↓reduceIte, Nat.reduceAdd, List.replicate_succ, List.replicate_zero, List.set_cons_zero, List.set_cons_succ, List.length_cons, List.length_nil, Nat.reduceLT, Nat.lt_add_one, ne_eq, Int.reduceEq, not_false_eq_true, Option.map_some, Nat.reduceLeDiff, Nat.zero_lt_succ, List.map_cons, List.map_nil, List.nil_append, List.cons_append, List.append_nil, bytesOf, List.take_succ_cons, List.take_zero, List.drop_zero, and_self, List.append_assoc, List.length_append, Int.reduceLT, Int.reduceLE, Int.toNat_zero, Int.reduceToNat, Int.cast_ofNat_Int, Int.natCast_zero, Int.natCast_one, Int.reduceAdd, List.map_append, Option.bind_some, hkx]
      refine (putShort _ hrt.1 hrt.2).mono ?_
      rintro r H' ⟨rfl, rfl⟩
      simp only [go_sem, Nat.reduceEqDiff, reduceIte, ↓reduceIte, Nat.reduceAdd, List.replicate_succ, List.replicate_zero, List.set_cons_zero, List.set_cons_succ, List.length_cons, List.length_nil, Nat.reduceLT, Nat.lt_add_one, ne_eq, Int.reduceEq, not_false_eq_true, Option.map_some, Nat.reduceLeDiff, Nat.zero_lt_succ, List.map_cons, List.map_nil, List.nil_append, List.cons_append, List.append_nil, bytesOf, List.take_succ_cons, List.take_zero, List.drop_zero, and_self, List.append_assoc, List.length_append, Int.reduceLT, Int.reduceLE, Int.toNat_zero, Int.reduceToNat, Int.cast_ofNat_Int, Int.natCast_zero, Int.natCast_one, Int.reduceAdd, List.map_append, Option.bind_some, rows_src]
      refine ⟨intR_len1 _ _, app_own ho4 (by simp only [intR_len, List.length_append, List.length_cons, List.length_nil]; omega) (by simp only [intR_len, List.length_append, List.length_cons, List.length_nil]; omega) fun a5 H5 ho5 hk5 _ => ?_⟩
      have hv5 := kept_var hk5 ho4 hv4
      have hx5 := kept_var hk5 ho4 hx4
      rw [intR_app] at ho5
      simp only [go_sem, Nat.reduceEqDiff, reduceIte, ↓reduceIte, Nat.reduceAdd, List.replicate_succ, List.replicate_zero, List.set_cons_zero, List.set_cons_succ, List.length_cons, List.length_nil, Nat.reduceLT, Nat.lt_add_one, ne_eq, Int.reduceEq, not_false_eq_true, Option.map_some, Nat.reduceLeDiff, Nat.zero_lt_succ, List.map_cons, List.map_nil, List.nil_append, List.cons_append, List.append_nil, bytesOf, List.take_succ_cons, List.take_zero, List.drop_zero, and_self, List.append_assoc, List.length_append, Int.reduceLT, Int.reduceLE, Int.toNat_zero, Int.reduceToNat, Int.cast_ofNat_Int, Int.natCast_zero, Int.natCast_one, Int.reduceAdd, List.map_append, Option.bind_some, hx5, bytes_strI]
      refine ⟨intR_len1 _ _, app_own ho5 (by simp only [intR_len, List.length_append, List.length_cons, List.length_nil, strI, List.length_map]; omega) (by simp only [intR_len, List.length_append, List.length_cons, List.length_nil, strI, List.length_map]; omega) fun a6 H6 ho6 hk6 _ => ?_⟩
      have hv6 := kept_var hk6 ho5 hv5
      rw [intR_app] at ho6
      have ho7 : OwnR H6 a6 1 (intR .u8 (headB c ++ c.starts.flatMap encI ++ (c.ins.take (i + 1)).flatMap insB)) := by
        rw [flat_take _ hil]
        simpa [insB, encI] using ho6
      clear ho6 ho5 ho4 ho3 hk6 hk5 hk4 hk3
      rcases ho7 with ⟨_, he⟩ | ⟨id, ver, rfl, hid⟩
      · have : (intR .u8 (headB c ++ c.starts.flatMap encI ++ (c.ins.take (i + 1)).flatMap insB)).length = 0 := by rw [he]; rfl
        simp only [intR_len, List.length_append] at this; omega
      simp only [go_sem, Nat.reduceEqDiff, reduceIte, ↓reduceIte, Nat.reduceAdd, List.replicate_succ, List.replicate_zero, List.set_cons_zero, List.set_cons_succ, List.length_cons, List.length_nil, Nat.reduceLT, Nat.lt_add_one, ne_eq, Int.reduceEq, not_false_eq_true, Option.map_some, Nat.reduceLeDiff, Nat.zero_lt_succ, List.map_cons, List.map_nil, List.nil_append, List.cons_append, List.append_nil, bytesOf, List.take_succ_cons, List.take_zero, List.drop_zero, and_self, List.append_assoc, List.length_append, Int.reduceLT, Int.reduceLE, Int.toNat_zero, Int.reduceToNat, Int.cast_ofNat_Int, Int.natCast_zero, Int.natCast_one, Int.reduceAdd, List.map_append, Option.bind_some, intR_len]
      intro _
      refine condK_split _ (fun h2 => ?_) (fun h2 => ?_)
      · simp only [go_sem, Nat.reduceEqDiff, reduceIte, ↓reduceIte, Nat.reduceAdd, List.replicate_succ, List.replicate_zero, List.set_cons_zero, List.set_cons_succ, List.length_cons, List.length_nil, Nat.reduceLT, Nat.lt_add_one, ne_eq, Int.reduceEq, not_false_eq_true, Option.map_some, Nat.reduceLeDiff, Nat.zero_lt_succ, List.map_cons, List.map_nil, List.nil_append, List.cons_append, List.append_nil, bytesOf, List.take_succ_cons, List.take_zero, List.drop_zero, and_self, List.append_assoc, List.length_append, Int.reduceLT, Int.reduceLE, Int.toNat_zero, Int.reduceToNat, Int.cast_ofNat_Int, Int.natCast_zero, Int.natCast_one, Int.reduceAdd, List.map_append, Option.bind_some]
        have hbig : ¬ (imgB c).length ≤ 200000 := by
          have hsub : ((c.ins.take (i + 1)).flatMap insB).length ≤ (c.ins.flatMap insB).length := by
            have e := List.take_append_drop (i + 1) c.ins
            have : (c.ins.flatMap insB) = (c.ins.take (i + 1)).flatMap insB ++ (c.ins.drop (i + 1)).flatMap insB := by rw [← List.flatMap_append, e]
            rw [this]; simp
          simp only [imgB, bodyB, List.length_append]
          simp only [List.length_append, decide_eq_true_eq] at h2
          omega
        have hpd : putD c = [] := by simp [putD, hbig]
        rw [hpd]
        exact .inr ⟨_, 0, rfl, (get_off0 _ _).trans rfl⟩
      · simp only [go_sem, Nat.reduceEqDiff, reduceIte, ↓reduceIte, Nat.reduceAdd, List.replicate_succ, List.replicate_zero, List.set_cons_zero, List.set_cons_succ, List.length_cons, List.length_nil, Nat.reduceLT, Nat.lt_add_one, ne_eq, Int.reduceEq, not_false_eq_true, Option.map_some, Nat.reduceLeDiff, Nat.zero_lt_succ, List.map_cons, List.map_nil, List.nil_append, List.cons_append, List.append_nil, bytesOf, List.take_succ_cons, List.take_zero, List.drop_zero, and_self, List.append_assoc, List.length_append, Int.reduceLT, Int.reduceLE, Int.toNat_zero, Int.reduceToNat, Int.cast_ofNat_Int, Int.natCast_zero, Int.natCast_one, Int.reduceAdd, List.map_append, Option.bind_some]
        refine ⟨(i + 1, .gs id ver 0 ((headB c).length + ((c.starts.flatMap encI).length + ((c.ins.take (i + 1)).flatMap insB).length)), H6), ⟨hil, .inr ⟨id, ver, ?_, by simpa only [List.append_assoc] using hid⟩, hv6, ?_⟩, by simp only; omega⟩
        · simp only [intR_len, List.length_append]
        · rw [wr1 hil hok.1.1]
    · have hil : i = c.ins.length := by simp at hd; omega
      subst hil
      have hfi := hf.ins c.ins.length
      rw [List.take_length] at ho hfi
      have hbl : (bodyB c).length ≤ 36000000 := by simp only [bodyB, List.length_append]; omega
      have ho' : OwnR H a 1 (intR .u8 (bodyB c)) := ho
      simp only [go_sem, Nat.reduceEqDiff, reduceIte, ↓reduceIte, Nat.reduceAdd, List.replicate_succ, List.replicate_zero, List.set_cons_zero, List.set_cons_succ, List.length_cons, List.length_nil, Nat.reduceLT, Nat.lt_add_one, ne_eq, Int.reduceEq, not_false_eq_true, Option.map_some, Nat.reduceLeDiff, Nat.zero_lt_succ, List.map_cons, List.map_nil, List.nil_append, List.cons_append, List.append_nil, bytesOf, List.take_succ_cons, List.take_zero, List.drop_zero, and_self, List.append_assoc, List.length_append, Int.reduceLT, Int.reduceLE, Int.toNat_zero, Int.reduceToNat, Int.cast_ofNat_Int, Int.natCast_zero, Int.natCast_one, Int.reduceAdd, List.map_append, Option.bind_some]
      have hmx : (bodyB c).length ≤ maxL := by unfold maxL; omega
      refine (own_result (l20Sum0 (bodyB c) (isB_body c) hmx) (lentAll_cons (own_lent ho') (lentAll_nil _))).mono ?_
      rintro r H' (⟨h, _⟩ | ⟨ver, rfl, rfl⟩)
      · simp [sumB] at h
      simp only [go_sem, Nat.reduceEqDiff, reduceIte, ↓reduceIte, Nat.reduceAdd, List.replicate_succ, List.replicate_zero, List.set_cons_zero, List.set_cons_succ, List.length_cons, List.length_nil, Nat.reduceLT, Nat.lt_add_one, ne_eq, Int.reduceEq, not_false_eq_true, Option.map_some, Nat.reduceLeDiff, Nat.zero_lt_succ, List.map_cons, List.map_nil, List.nil_append, List.cons_append, List.append_nil, bytesOf, List.take_succ_cons, List.take_zero, List.drop_zero, and_self, List.append_assoc, List.length_append, Int.reduceLT, Int.reduceLE, Int.toNat_zero, Int.reduceToNat, Int.cast_ofNat_Int, Int.natCast_zero, Int.natCast_one, Int.reduceAdd, List.map_append, Option.bind_some, intR_len, intR_take, Nat.le_refl]
      refine ⟨intR_len1 _ _, app_own ho'.ext (by simp only [intR_len, hs4]; omega) (by simp only [intR_len, hs4]; omega) fun a7 H7 ho7 _ _ => ?_⟩
      rw [intR_app] at ho7
      have himg : (bodyB c ++ sumB (bodyB c)) = imgB c := rfl
      rw [himg] at ho7
      have hne : (imgB c).length = (bodyB c).length + 4 := by simp [imgB, hs4]
      rcases ho7 with ⟨_, he⟩ | ⟨id, ver, rfl, hid⟩
      · have : (intR .u8 (imgB c)).length = 0 := by rw [he]; rfl
        rw [intR_len] at this; omega
      · simp only [go_sem, Nat.reduceEqDiff, reduceIte, ↓reduceIte, Nat.reduceAdd, List.replicate_succ, List.replicate_zero, List.set_cons_zero, List.set_cons_succ, List.length_cons, List.length_nil, Nat.reduceLT, Nat.lt_add_one, ne_eq, Int.reduceEq, not_false_eq_true, Option.map_some, Nat.reduceLeDiff, Nat.zero_lt_succ, List.map_cons, List.map_nil, List.nil_append, List.cons_append, List.append_nil, bytesOf, List.take_succ_cons, List.take_zero, List.drop_zero, and_self, List.append_assoc, List.length_append, Int.reduceLT, Int.reduceLE, Int.toNat_zero, Int.reduceToNat, Int.cast_ofNat_Int, Int.natCast_zero, Int.natCast_one, Int.reduceAdd, List.map_append, Option.bind_some, intR_len]
        intro _
        refine condK_split _ (fun h2 => ?_) (fun h2 => ?_)
        · simp only [go_sem, Nat.reduceEqDiff, reduceIte, ↓reduceIte, Nat.reduceAdd, List.replicate_succ, List.replicate_zero, List.set_cons_zero, List.set_cons_succ, List.length_cons, List.length_nil, Nat.reduceLT, Nat.lt_add_one, ne_eq, Int.reduceEq, not_false_eq_true, Option.map_some, Nat.reduceLeDiff, Nat.zero_lt_succ, List.map_cons, List.map_nil, List.nil_append, List.cons_append, List.append_nil, bytesOf, List.take_succ_cons, List.take_zero, List.drop_zero, and_self, List.append_assoc, List.length_append, Int.reduceLT, Int.reduceLE, Int.toNat_zero, Int.reduceToNat, Int.cast_ofNat_Int, Int.natCast_zero, Int.natCast_one, Int.reduceAdd, List.map_append, Option.bind_some]
          have : ¬ (imgB c).length ≤ 200000 := by simp at h2; omega
          have hpd : putD c = [] := by simp [putD, this]
          rw [hpd]
          exact .inr ⟨_, 0, rfl, (get_off0 _ _).trans rfl⟩
        · simp only [go_sem, Nat.reduceEqDiff, reduceIte, ↓reduceIte, Nat.reduceAdd, List.replicate_succ, List.replicate_zero, List.set_cons_zero, List.set_cons_succ, List.length_cons, List.length_nil, Nat.reduceLT, Nat.lt_add_one, ne_eq, Int.reduceEq, not_false_eq_true, Option.map_some, Nat.reduceLeDiff, Nat.zero_lt_succ, List.map_cons, List.map_nil, List.nil_append, List.cons_append, List.append_nil, bytesOf, List.take_succ_cons, List.take_zero, List.drop_zero, and_self, List.append_assoc, List.length_append, Int.reduceLT, Int.reduceLE, Int.toNat_zero, Int.reduceToNat, Int.cast_ofNat_Int, Int.natCast_zero, Int.natCast_one, Int.reduceAdd, List.map_append, Option.bind_some]
          have : (imgB c).length ≤ 200000 := by simp at h2; omega
          rw [putD, if_pos ⟨hco', this⟩]
          exact .inr ⟨id, ver, by rw [intR_len], hid⟩
end Go.Proofs.Ytmbggdfceecojaa.Cd

/- PutImage: the law. -/
set_option linter.all false
namespace Go.Proofs.Ytmbggdfceecojaa.Cd
open Go.AM Mc Ho

theorem toCode_fresh (c : CodeD) (hc : okCode c) (hs : small c) {H : List AO} : ACall Try.prog 21 [.st (c.cells.map .p)] H (fun r H' => H' = H ∧ r = .st (c.cells.map .p)) := by
  refine acall_fresh (toCode0 c hc hs) ?_ ?_
  · intro b hb
    simp only [List.mem_singleton] at hb
    subst hb
    refine noid_st _ ?_
    intro a ha
    obtain ⟨q, _, rfl⟩ := List.mem_map.1 ha
    exact noid_p q
  · rintro r H' ⟨rfl, h3, h4⟩
    exact ⟨_, lent_code c (i := 3) h3 h4, rfl⟩

theorem putD_len {c : CodeD} : (putD c).length ≤ 200000 := by
  unfold putD
  split
  · rename_i h; exact h.2
  · simp

theorem specPut (c : CodeD) (hf : Fits c) {H : List AO} {a : AV} (ha : Lent H a (.st (c.cells.map .p))) : ACall Try.prog 20 [a] H (fun r H' => ∃ A, H' = H ++ A ∧ OwnAt H' r 1 (intR .u8 (putD c)) H.length H'.length) :=
  acall_ownAt (specPut0 c hf) (lentAll_cons ha (lentAll_nil _)) (grnd_intR _ _)
theorem implPut (c : CodeD) (hf : Fits c) {H : List AO} {a : AV} (ha : Lent H a (.st (c.cells.map .p))) : ACall Try.prog 22 [a] H (fun r H' => ∃ A, H' = H ++ A ∧ OwnAt H' r 1 (intR .u8 (putD c)) H.length H'.length) :=
  acall_ownAt (implPut0 c hf) (lentAll_cons ha (lentAll_nil _)) (grnd_intR _ _)
theorem szCode_any (c : CodeD) (hc : okCode c) {H : List AO} : ACall Try.prog 19 [.st (c.cells.map .p), .p (.i .i64 1048576)] H (fun r H' => (∃ q : Int, r = .p (.i .i64 q) ∧ (q < 0 ∨ (0 ≤ q ∧ small c))) ∧ H' = H) :=
  (acall_lend (szCode c hc) (fun r H' ⟨q, h, _⟩ => by subst h; exact grnd_i _ _) (lentAll_cons (code_lent c) (lentAll_cons (.pure _) (lentAll_nil _)))).mono fun r H' ⟨h1, _, h2⟩ => ⟨h2, h1⟩
theorem eqCode_any (c d : CodeD) (hc : okCode c) (hd : okCode d) {H : List AO} {a b : AV} (ha : Lent H a (.st (c.cells.map .p))) (hb : Lent H b (.st (d.cells.map .p))) : ACall Try.prog 24 [a, b] H (fun r H' => r = .p (.b (decide (c = d))) ∧ H' = H) :=
  (acall_lend (eqCode c d hc hd) (fun r H' h => by subst h; exact grnd_b _) (lentAll_cons ha (lentAll_cons hb (lentAll_nil _)))).mono fun r H' ⟨h1, _, h2⟩ => ⟨h2, h1⟩

theorem markByteS_own {H : List AO} {a : AV} {zs : List Int} {lo hi : Nat} (h : OwnAt H a 1 (intR .u8 zs) lo hi) (hn : zs.length ≤ 100000000) :
    ACall Try.prog 26 [a, .p (.i .i64 1)] H (fun r H' => r = .p (.i .i64 (1 + zs.length)) ∧ OwnAt H' a 1 (intR .u8 (pat 1 zs.length)) lo hi ∧ H'.length = H.length ∧ ∀ (j : Nat) o, H[j]? = some o → j < lo ∨ hi ≤ j → H'[j]? = some o) := by
  rcases h with ⟨rfl, he⟩ | ⟨id, ver, h0, h1, rfl, h3⟩
  · have hz : zs = [] := by simpa [intR] using he
    subst hz
    refine call26 (by simp) ?_
    simp only [go_sem, Nat.reduceEqDiff, reduceIte, ↓reduceIte, Nat.reduceAdd, List.replicate_succ, List.replicate_zero, List.set_cons_zero, List.set_cons_succ, List.length_cons, List.length_nil, Nat.reduceLT, Nat.lt_add_one, ne_eq, Int.reduceEq, not_false_eq_true, Option.map_some, Nat.reduceLeDiff, Nat.zero_lt_succ, List.map_cons, List.map_nil, List.nil_append, List.cons_append, List.append_nil, bytesOf, List.take_succ_cons, List.take_zero, List.drop_zero, and_self, List.append_assoc, List.length_append, Int.reduceLT, Int.reduceLE, Int.toNat_zero, Int.reduceToNat, Int.cast_ofNat_Int, Int.natCast_zero, Int.natCast_one, Int.reduceAdd, List.map_append, Option.bind_some, mc26, mr26]
    refine ⟨Unit, [0, 1, 4, 5], fun _ st => st = ⟨[(0, .p .nl), (1, .p (.i .i64 1)), (4, .p (.i .i64 0)), (5, .p (.i .i64 0))], [], H⟩, fun _ => 0, ⟨(), ?_⟩, ?_⟩
    · simp only [go_sem, Nat.reduceEqDiff, reduceIte, ↓reduceIte, Nat.reduceAdd, List.replicate_succ, List.replicate_zero, List.set_cons_zero, List.set_cons_succ, List.length_cons, List.length_nil, Nat.reduceLT, Nat.lt_add_one, ne_eq, Int.reduceEq, not_false_eq_true, Option.map_some, Nat.reduceLeDiff, Nat.zero_lt_succ, List.map_cons, List.map_nil, List.nil_append, List.cons_append, List.append_nil, bytesOf, List.take_succ_cons, List.take_zero, List.drop_zero, and_self, List.append_assoc, List.length_append, Int.reduceLT, Int.reduceLE, Int.toNat_zero, Int.reduceToNat, Int.cast_ofNat_Int, Int.natCast_zero, Int.natCast_one, Int.reduceAdd, List.map_append, Option.bind_some]
    · rintro _ st rfl
      simp only [go_sem, Nat.reduceEqDiff, reduceIte, ↓reduceIte, Nat.reduceAdd, List.replicate_succ, List.replicate_zero, List.set_cons_zero, List.set_cons_succ, List.length_cons, List.length_nil, Nat.reduceLT, Nat.lt_add_one, ne_eq, Int.reduceEq, not_false_eq_true, Option.map_some, Nat.reduceLeDiff, Nat.zero_lt_succ, List.map_cons, List.map_nil, List.nil_append, List.cons_append, List.append_nil, bytesOf, List.take_succ_cons, List.take_zero, List.drop_zero, and_self, List.append_assoc, List.length_append, Int.reduceLT, Int.reduceLE, Int.toNat_zero, Int.reduceToNat, Int.cast_ofNat_Int, Int.natCast_zero, Int.natCast_one, Int.reduceAdd, List.map_append, Option.bind_some, Int.reduceLT, decide_false]
      exact ⟨.inl ⟨rfl, by simp [pat, intR]⟩, fun j o h _ => h⟩
  · have hl := intR_len .u8 zs
    have k := markByteS (intR .u8 zs) h3 (intR_len1 _ _) (by rw [hl]; exact hn) 1 (by omega) (by omega)
    rw [hl] at k ⊢
    refine k.mono ?_
    rintro r H' ⟨rfl, rfl⟩
    refine ⟨rfl, .inr ⟨id, ver, h0, h1, by rw [intR_len, pat_len], set_get h3⟩, by simp, fun j o h hj => ?_⟩
    rw [List.getElem?_set_ne (by omega)]; exact h
theorem heldByteS_own {H : List AO} {a : AV} {n : Nat} {lo hi : Nat} (h : OwnAt H a 1 (intR .u8 (pat 1 n)) lo hi) (hn : n ≤ 100000000) :
    ACall Try.prog 27 [a, .p (.i .i64 1)] H (fun r H' => r = .p (.i .i64 (1 + n)) ∧ H' = H) := by
  rcases h with ⟨rfl, he⟩ | ⟨id, ver, h0, h1, rfl, h3⟩
  · have hz : n = 0 := by
      have : (intR .u8 (pat 1 n)).length = 0 := by rw [he]; rfl
      rw [intR_len, pat_len] at this; exact this
    subst hz
    refine call27 (by simp) ?_
    simp only [go_sem, Nat.reduceEqDiff, reduceIte, ↓reduceIte, Nat.reduceAdd, List.replicate_succ, List.replicate_zero, List.set_cons_zero, List.set_cons_succ, List.length_cons, List.length_nil, Nat.reduceLT, Nat.lt_add_one, ne_eq, Int.reduceEq, not_false_eq_true, Option.map_some, Nat.reduceLeDiff, Nat.zero_lt_succ, List.map_cons, List.map_nil, List.nil_append, List.cons_append, List.append_nil, bytesOf, List.take_succ_cons, List.take_zero, List.drop_zero, and_self, List.append_assoc, List.length_append, Int.reduceLT, Int.reduceLE, Int.toNat_zero, Int.reduceToNat, Int.cast_ofNat_Int, Int.natCast_zero, Int.natCast_one, Int.reduceAdd, List.map_append, Option.bind_some, mc27, mr27]
    refine ⟨Unit, [0, 1, 4, 5], fun _ st => st = ⟨[(0, .p .nl), (1, .p (.i .i64 1)), (4, .p (.i .i64 0)), (5, .p (.i .i64 0))], [], H⟩, fun _ => 0, ⟨(), ?_⟩, ?_⟩
    · simp only [go_sem, Nat.reduceEqDiff, reduceIte, ↓reduceIte, Nat.reduceAdd, List.replicate_succ, List.replicate_zero, List.set_cons_zero, List.set_cons_succ, List.length_cons, List.length_nil, Nat.reduceLT, Nat.lt_add_one, ne_eq, Int.reduceEq, not_false_eq_true, Option.map_some, Nat.reduceLeDiff, Nat.zero_lt_succ, List.map_cons, List.map_nil, List.nil_append, List.cons_append, List.append_nil, bytesOf, List.take_succ_cons, List.take_zero, List.drop_zero, and_self, List.append_assoc, List.length_append, Int.reduceLT, Int.reduceLE, Int.toNat_zero, Int.reduceToNat, Int.cast_ofNat_Int, Int.natCast_zero, Int.natCast_one, Int.reduceAdd, List.map_append, Option.bind_some]
    · rintro _ st rfl
      simp only [go_sem, Nat.reduceEqDiff, reduceIte, ↓reduceIte, Nat.reduceAdd, List.replicate_succ, List.replicate_zero, List.set_cons_zero, List.set_cons_succ, List.length_cons, List.length_nil, Nat.reduceLT, Nat.lt_add_one, ne_eq, Int.reduceEq, not_false_eq_true, Option.map_some, Nat.reduceLeDiff, Nat.zero_lt_succ, List.map_cons, List.map_nil, List.nil_append, List.cons_append, List.append_nil, bytesOf, List.take_succ_cons, List.take_zero, List.drop_zero, and_self, List.append_assoc, List.length_append, Int.reduceLT, Int.reduceLE, Int.toNat_zero, Int.reduceToNat, Int.cast_ofNat_Int, Int.natCast_zero, Int.natCast_one, Int.reduceAdd, List.map_append, Option.bind_some, Int.reduceLT, decide_false]
  · have hl : (intR .u8 (pat 1 n)).length = n := by rw [intR_len, pat_len]
    rw [hl]
    exact heldByteS n 1 h3 hn (by omega) (by omega)

theorem codeO_len (c : CodeD) : (codeO c).length = 2 := rfl
theorem codeO_get0 (H : List AO) (c : CodeD) : (H ++ codeO c)[H.length]? = some (.rows 6 0 (insR c.ins)) := by rw [get_off0]; rfl
theorem codeO_get1 (H : List AO) (c : CodeD) : (H ++ codeO c)[H.length + 1]? = some (.rows 1 0 (intR .i64 c.starts)) := by rw [get_off]; rfl

theorem lawPut (c : CodeD) (hok : okCode c) (hrg : rngCode c) : ACall Try.prog 4 [.st (c.cells.map .p)] [] (fun r _ => r = .p (.b true)) := by
  refine call4 (by simp) ?_
  simp only [go_sem, Nat.reduceEqDiff, reduceIte, ↓reduceIte, Nat.reduceAdd, List.replicate_succ, List.replicate_zero, List.set_cons_zero, List.set_cons_succ, List.length_cons, List.length_nil, Nat.reduceLT, Nat.lt_add_one, ne_eq, Int.reduceEq, not_false_eq_true, Option.map_some, Nat.reduceLeDiff, Nat.zero_lt_succ, List.map_cons, List.map_nil, List.nil_append, List.cons_append, List.append_nil, bytesOf, List.take_succ_cons, List.take_zero, List.drop_zero, and_self, List.append_assoc, List.length_append, Int.reduceLT, Int.reduceLE, Int.toNat_zero, Int.reduceToNat, Int.cast_ofNat_Int, Int.natCast_zero, Int.natCast_one, Int.reduceAdd, List.map_append, Option.bind_some, mc4, mr4, CodeD.cells]
  rw [code_eta]
  refine (szCode_any c hok).mono ?_
  rintro r H' ⟨⟨q, rfl, hq⟩, rfl⟩
  simp only [go_sem, Nat.reduceEqDiff, reduceIte, ↓reduceIte, Nat.reduceAdd, List.replicate_succ, List.replicate_zero, List.set_cons_zero, List.set_cons_succ, List.length_cons, List.length_nil, Nat.reduceLT, Nat.lt_add_one, ne_eq, Int.reduceEq, not_false_eq_true, Option.map_some, Nat.reduceLeDiff, Nat.zero_lt_succ, List.map_cons, List.map_nil, List.nil_append, List.cons_append, List.append_nil, bytesOf, List.take_succ_cons, List.take_zero, List.drop_zero, and_self, List.append_assoc, List.length_append, Int.reduceLT, Int.reduceLE, Int.toNat_zero, Int.reduceToNat, Int.cast_ofNat_Int, Int.natCast_zero, Int.natCast_one, Int.reduceAdd, List.map_append, Option.bind_some]
  refine condK_split _ (fun hq0 => ?_) (fun hq0 => ?_)
  · simp only [go_sem, Nat.reduceEqDiff, reduceIte, ↓reduceIte, Nat.reduceAdd, List.replicate_succ, List.replicate_zero, List.set_cons_zero, List.set_cons_succ, List.length_cons, List.length_nil, Nat.reduceLT, Nat.lt_add_one, ne_eq, Int.reduceEq, not_false_eq_true, Option.map_some, Nat.reduceLeDiff, Nat.zero_lt_succ, List.map_cons, List.map_nil, List.nil_append, List.cons_append, List.append_nil, bytesOf, List.take_succ_cons, List.take_zero, List.drop_zero, and_self, List.append_assoc, List.length_append, Int.reduceLT, Int.reduceLE, Int.toNat_zero, Int.reduceToNat, Int.cast_ofNat_Int, Int.natCast_zero, Int.natCast_one, Int.reduceAdd, List.map_append, Option.bind_some]
  have hq1 : ¬ q < 0 := by simpa using hq0
  have hsm : small c := by rcases hq with h | h; exact (hq1 h).elim; exact h.2
  have hf : Fits c := ⟨hok, hsm, hrg⟩
  have hpl := @putD_len c
  have hpm : (putD c).length ≤ maxL := by unfold maxL; omega
  simp only [go_sem, Nat.reduceEqDiff, reduceIte, ↓reduceIte, Nat.reduceAdd, List.replicate_succ, List.replicate_zero, List.set_cons_zero, List.set_cons_succ, List.length_cons, List.length_nil, Nat.reduceLT, Nat.lt_add_one, ne_eq, Int.reduceEq, not_false_eq_true, Option.map_some, Nat.reduceLeDiff, Nat.zero_lt_succ, List.map_cons, List.map_nil, List.nil_append, List.cons_append, List.append_nil, bytesOf, List.take_succ_cons, List.take_zero, List.drop_zero, and_self, List.append_assoc, List.length_append, Int.reduceLT, Int.reduceLE, Int.toNat_zero, Int.reduceToNat, Int.cast_ofNat_Int, Int.natCast_zero, Int.natCast_one, Int.reduceAdd, List.map_append, Option.bind_some, code_take]
  refine (toCode c hok hsm _).mono ?_
  rintro r H' ⟨rfl, rfl⟩
  simp only [go_sem, Nat.reduceEqDiff, reduceIte, ↓reduceIte, Nat.reduceAdd, List.replicate_succ, List.replicate_zero, List.set_cons_zero, List.set_cons_succ, List.length_cons, List.length_nil, Nat.reduceLT, Nat.lt_add_one, ne_eq, Int.reduceEq, not_false_eq_true, Option.map_some, Nat.reduceLeDiff, Nat.zero_lt_succ, List.map_cons, List.map_nil, List.nil_append, List.cons_append, List.append_nil, bytesOf, List.take_succ_cons, List.take_zero, List.drop_zero, and_self, List.append_assoc, List.length_append, Int.reduceLT, Int.reduceLE, Int.toNat_zero, Int.reduceToNat, Int.cast_ofNat_Int, Int.natCast_zero, Int.natCast_one, Int.reduceAdd, List.map_append, Option.bind_some]
  have hl0 := lent_code c (H := [AO.var (c.cells.map .p)] ++ codeO c) (i := 1) rfl rfl
  refine (specPut c hf hl0).mono ?_
  rintro w0 H1 ⟨A1, hH1, hw⟩
  have hv1 : H1[0]? = some (.var (c.cells.map .p)) := by rw [hH1]; rfl
  clear hH1 hl0
  simp only [go_sem, Nat.reduceEqDiff, reduceIte, ↓reduceIte, Nat.reduceAdd, List.replicate_succ, List.replicate_zero, List.set_cons_zero, List.set_cons_succ, List.length_cons, List.length_nil, Nat.reduceLT, Nat.lt_add_one, ne_eq, Int.reduceEq, not_false_eq_true, Option.map_some, Nat.reduceLeDiff, Nat.zero_lt_succ, List.map_cons, List.map_nil, List.nil_append, List.cons_append, List.append_nil, bytesOf, List.take_succ_cons, List.take_zero, List.drop_zero, and_self, List.append_assoc, List.length_append, Int.reduceLT, Int.reduceLE, Int.toNat_zero, Int.reduceToNat, Int.cast_ofNat_Int, Int.natCast_zero, Int.natCast_one, Int.reduceAdd, List.map_append, Option.bind_some, hv1, code_take]
  refine (toCode c hok hsm _).mono ?_
  rintro r H' ⟨rfl, rfl⟩
  simp only [go_sem, Nat.reduceEqDiff, reduceIte, ↓reduceIte, Nat.reduceAdd, List.replicate_succ, List.replicate_zero, List.set_cons_zero, List.set_cons_succ, List.length_cons, List.length_nil, Nat.reduceLT, Nat.lt_add_one, ne_eq, Int.reduceEq, not_false_eq_true, Option.map_some, Nat.reduceLeDiff, Nat.zero_lt_succ, List.map_cons, List.map_nil, List.nil_append, List.cons_append, List.append_nil, bytesOf, List.take_succ_cons, List.take_zero, List.drop_zero, and_self, List.append_assoc, List.length_append, Int.reduceLT, Int.reduceLE, Int.toNat_zero, Int.reduceToNat, Int.cast_ofNat_Int, Int.natCast_zero, Int.natCast_one, Int.reduceAdd, List.map_append, Option.bind_some, codeAt, codeO]
  have hw0 := hw
  have hi1 : 0 < H1.length := get_lt hv1
  refine (implPut c hf (lent_code c (i := H1.length) ?_ ?_)).mono ?_
  · rw [get_off0]; rfl
  · rw [get_off]; rfl
  rintro g0 H3 ⟨A3, hH3, hg⟩
  have hv3 : H3[0]? = some (.var (c.cells.map .p)) := by rw [hH3]; exact get_ext (get_ext hv1 _) _
  have h60 : H3[H1.length]? = some (.rows 6 0 (insR c.ins)) := by rw [hH3]; refine get_ext ?_ _; rw [get_off0]; rfl
  have h61 : H3[H1.length + 1]? = some (.rows 1 0 (intR .i64 c.starts)) := by rw [hH3]; refine get_ext ?_ _; rw [get_off]; rfl
  have hx3 : H3[H1.length + 2]? = some (.var [.gs H1.length 0 0 c.ins.length, .gs (H1.length + 1) 0 0 c.starts.length]) := by rw [hH3]; refine get_ext ?_ _; rw [get_off]; rfl
  have hw3 : OwnAt H3 w0 1 (intR .u8 (putD c)) 1 H1.length := by
    rw [hH3]
    refine OwnAt.ext (OwnAt.ext ?_ _) _
    rcases hw with h | ⟨id, ver, h0, h1, h2, h3⟩
    · exact .inl h
    · exact .inr ⟨id, ver, by simp at h0; omega, h1, h2, h3⟩
  have hg3 : OwnAt H3 g0 1 (intR .u8 (putD c)) (H1.length + 3) H3.length := by
    rcases hg with h | ⟨id, ver, h0, h1, h2, h3⟩
    · exact .inl h
    · exact .inr ⟨id, ver, by simp [codeO_len] at h0; omega, h1, h2, h3⟩
  clear hg hw0 hw hH3
  simp only [go_sem, Nat.reduceEqDiff, reduceIte, ↓reduceIte, Nat.reduceAdd, List.replicate_succ, List.replicate_zero, List.set_cons_zero, List.set_cons_succ, List.length_cons, List.length_nil, Nat.reduceLT, Nat.lt_add_one, ne_eq, Int.reduceEq, not_false_eq_true, Option.map_some, Nat.reduceLeDiff, Nat.zero_lt_succ, List.map_cons, List.map_nil, List.nil_append, List.cons_append, List.append_nil, bytesOf, List.take_succ_cons, List.take_zero, List.drop_zero, and_self, List.append_assoc, List.length_append, Int.reduceLT, Int.reduceLE, Int.toNat_zero, Int.reduceToNat, Int.cast_ofNat_Int, Int.natCast_zero, Int.natCast_one, Int.reduceAdd, List.map_append, Option.bind_some]
  refine (eqByteS_any _ _ hpm hpm (own_lent hg3.own) (own_lent hw3.own)).mono ?_
  rintro r H' ⟨rfl, rfl⟩
  simp only [go_sem, Nat.reduceEqDiff, reduceIte, ↓reduceIte, Nat.reduceAdd, List.replicate_succ, List.replicate_zero, List.set_cons_zero, List.set_cons_succ, List.length_cons, List.length_nil, Nat.reduceLT, Nat.lt_add_one, ne_eq, Int.reduceEq, not_false_eq_true, Option.map_some, Nat.reduceLeDiff, Nat.zero_lt_succ, List.map_cons, List.map_nil, List.nil_append, List.cons_append, List.append_nil, bytesOf, List.take_succ_cons, List.take_zero, List.drop_zero, and_self, List.append_assoc, List.length_append, Int.reduceLT, Int.reduceLE, Int.toNat_zero, Int.reduceToNat, Int.cast_ofNat_Int, Int.natCast_zero, Int.natCast_one, Int.reduceAdd, List.map_append, Option.bind_some]
  refine drw_same ?_
  simp only [go_sem, Nat.reduceEqDiff, reduceIte, ↓reduceIte, Nat.reduceAdd, List.replicate_succ, List.replicate_zero, List.set_cons_zero, List.set_cons_succ, List.length_cons, List.length_nil, Nat.reduceLT, Nat.lt_add_one, ne_eq, Int.reduceEq, not_false_eq_true, Option.map_some, Nat.reduceLeDiff, Nat.zero_lt_succ, List.map_cons, List.map_nil, List.nil_append, List.cons_append, List.append_nil, bytesOf, List.take_succ_cons, List.take_zero, List.drop_zero, and_self, List.append_assoc, List.length_append, Int.reduceLT, Int.reduceLE, Int.toNat_zero, Int.reduceToNat, Int.cast_ofNat_Int, Int.natCast_zero, Int.natCast_one, Int.reduceAdd, List.map_append, Option.bind_some, hx3, hv3, code_take]
  refine pcall_pure (fun A => (toCode_fresh c hok hsm).mono fun r H' ⟨h1, h2⟩ => ⟨h2, h1⟩) (Hext.refl _) ?_
  simp only [go_sem, Nat.reduceEqDiff, reduceIte, ↓reduceIte, Nat.reduceAdd, List.replicate_succ, List.replicate_zero, List.set_cons_zero, List.set_cons_succ, List.length_cons, List.length_nil, Nat.reduceLT, Nat.lt_add_one, ne_eq, Int.reduceEq, not_false_eq_true, Option.map_some, Nat.reduceLeDiff, Nat.zero_lt_succ, List.map_cons, List.map_nil, List.nil_append, List.cons_append, List.append_nil, bytesOf, List.take_succ_cons, List.take_zero, List.drop_zero, and_self, List.append_assoc, List.length_append, Int.reduceLT, Int.reduceLE, Int.toNat_zero, Int.reduceToNat, Int.cast_ofNat_Int, Int.natCast_zero, Int.natCast_one, Int.reduceAdd, List.map_append, Option.bind_some]
  refine (eqCode_any c c hok hok (lent_code c h60 h61) (code_lent c)).mono ?_
  rintro r H' ⟨rfl, rfl⟩
  simp only [go_sem, Nat.reduceEqDiff, reduceIte, ↓reduceIte, Nat.reduceAdd, List.replicate_succ, List.replicate_zero, List.set_cons_zero, List.set_cons_succ, List.length_cons, List.length_nil, Nat.reduceLT, Nat.lt_add_one, ne_eq, Int.reduceEq, not_false_eq_true, Option.map_some, Nat.reduceLeDiff, Nat.zero_lt_succ, List.map_cons, List.map_nil, List.nil_append, List.cons_append, List.append_nil, bytesOf, List.take_succ_cons, List.take_zero, List.drop_zero, and_self, List.append_assoc, List.length_append, Int.reduceLT, Int.reduceLE, Int.toNat_zero, Int.reduceToNat, Int.cast_ofNat_Int, Int.natCast_zero, Int.natCast_one, Int.reduceAdd, List.map_append, Option.bind_some, hx3]
  refine (markCode c hsm h60 h61).mono ?_
  rintro r H4 ⟨⟨k, hk0, rfl⟩, rs, us, o, hH4⟩
  have hkf : decide (k < 0) = false := by simp; exact hk0
  have hv4 : H4[0]? = some (.var (c.cells.map .p)) := by rw [hH4]; exact get_ext (get_set (get_set hv3 (by omega)) (by omega)) _
  have hw4 : OwnAt H4 w0 1 (intR .u8 (putD c)) 1 H1.length := by rw [hH4]; exact ((hw3.set _ (.inr (by omega))).set _ (.inr (by omega))).ext _
  have hg4 : OwnAt H4 g0 1 (intR .u8 (putD c)) (H1.length + 3) H'.length := by rw [hH4]; exact ((hg3.set _ (.inl (by omega))).set _ (.inl (by omega))).ext _
  have hl4 : H'.length ≤ H4.length := by rw [hH4]; simp
  clear hH4 hv3 h60 h61 hx3 hw3 hg3
  simp only [go_sem, Nat.reduceEqDiff, reduceIte, ↓reduceIte, Nat.reduceAdd, List.replicate_succ, List.replicate_zero, List.set_cons_zero, List.set_cons_succ, List.length_cons, List.length_nil, Nat.reduceLT, Nat.lt_add_one, ne_eq, Int.reduceEq, not_false_eq_true, Option.map_some, Nat.reduceLeDiff, Nat.zero_lt_succ, List.map_cons, List.map_nil, List.nil_append, List.cons_append, List.append_nil, bytesOf, List.take_succ_cons, List.take_zero, List.drop_zero, and_self, List.append_assoc, List.length_append, Int.reduceLT, Int.reduceLE, Int.toNat_zero, Int.reduceToNat, Int.cast_ofNat_Int, Int.natCast_zero, Int.natCast_one, Int.reduceAdd, List.map_append, Option.bind_some, hkf]
  refine (eqByteS_any _ _ hpm hpm (own_lent hg4.own) (own_lent hw4.own)).mono ?_
  rintro r H5 ⟨rfl, rfl⟩
  simp only [go_sem, Nat.reduceEqDiff, reduceIte, ↓reduceIte, Nat.reduceAdd, List.replicate_succ, List.replicate_zero, List.set_cons_zero, List.set_cons_succ, List.length_cons, List.length_nil, Nat.reduceLT, Nat.lt_add_one, ne_eq, Int.reduceEq, not_false_eq_true, Option.map_some, Nat.reduceLeDiff, Nat.zero_lt_succ, List.map_cons, List.map_nil, List.nil_append, List.cons_append, List.append_nil, bytesOf, List.take_succ_cons, List.take_zero, List.drop_zero, and_self, List.append_assoc, List.length_append, Int.reduceLT, Int.reduceLE, Int.toNat_zero, Int.reduceToNat, Int.cast_ofNat_Int, Int.natCast_zero, Int.natCast_one, Int.reduceAdd, List.map_append, Option.bind_some, hkf]
  refine (markByteS_own hg4 (by omega)).mono ?_
  rintro r H6 ⟨rfl, hg6, hl6, hk6⟩
  have hv6 := hk6 0 _ hv4 (.inl (by omega))
  have hw6 : OwnAt H6 w0 1 (intR .u8 (putD c)) 1 H1.length := by
    rcases hw4 with h | ⟨id, ver, h0, h1, h2, h3⟩
    · exact .inl h
    · exact .inr ⟨id, ver, h0, h1, h2, hk6 _ _ h3 (.inl (by omega))⟩
  simp only [go_sem, Nat.reduceEqDiff, reduceIte, ↓reduceIte, Nat.reduceAdd, List.replicate_succ, List.replicate_zero, List.set_cons_zero, List.set_cons_succ, List.length_cons, List.length_nil, Nat.reduceLT, Nat.lt_add_one, ne_eq, Int.reduceEq, not_false_eq_true, Option.map_some, Nat.reduceLeDiff, Nat.zero_lt_succ, List.map_cons, List.map_nil, List.nil_append, List.cons_append, List.append_nil, bytesOf, List.take_succ_cons, List.take_zero, List.drop_zero, and_self, List.append_assoc, List.length_append, Int.reduceLT, Int.reduceLE, Int.toNat_zero, Int.reduceToNat, Int.cast_ofNat_Int, Int.natCast_zero, Int.natCast_one, Int.reduceAdd, List.map_append, Option.bind_some]
  refine (heldByteS_own hg6 (by omega)).mono ?_
  rintro r H7 ⟨rfl, rfl⟩
  have hnn : decide (1 + ((putD c).length : Int) < 0) = false := by simp; omega
  simp only [go_sem, Nat.reduceEqDiff, reduceIte, ↓reduceIte, Nat.reduceAdd, List.replicate_succ, List.replicate_zero, List.set_cons_zero, List.set_cons_succ, List.length_cons, List.length_nil, Nat.reduceLT, Nat.lt_add_one, ne_eq, Int.reduceEq, not_false_eq_true, Option.map_some, Nat.reduceLeDiff, Nat.zero_lt_succ, List.map_cons, List.map_nil, List.nil_append, List.cons_append, List.append_nil, bytesOf, List.take_succ_cons, List.take_zero, List.drop_zero, and_self, List.append_assoc, List.length_append, Int.reduceLT, Int.reduceLE, Int.toNat_zero, Int.reduceToNat, Int.cast_ofNat_Int, Int.natCast_zero, Int.natCast_one, Int.reduceAdd, List.map_append, Option.bind_some, hnn]
  simp only [go_sem, Nat.reduceEqDiff, reduceIte, ↓reduceIte, Nat.reduceAdd, List.replicate_succ, List.replicate_zero, List.set_cons_zero, List.set_cons_succ, List.length_cons, List.length_nil, Nat.reduceLT, Nat.lt_add_one, ne_eq, Int.reduceEq, not_false_eq_true, Option.map_some, Nat.reduceLeDiff, Nat.zero_lt_succ, List.map_cons, List.map_nil, List.nil_append, List.cons_append, List.append_nil, bytesOf, List.take_succ_cons, List.take_zero, List.drop_zero, and_self, List.append_assoc, List.length_append, Int.reduceLT, Int.reduceLE, Int.toNat_zero, Int.reduceToNat, Int.cast_ofNat_Int, Int.natCast_zero, Int.natCast_one, Int.reduceAdd, List.map_append, Option.bind_some, hv6, code_take]
  refine (toCode c hok hsm _).mono ?_
  rintro r H8 ⟨rfl, rfl⟩
  simp only [go_sem, Nat.reduceEqDiff, reduceIte, ↓reduceIte, Nat.reduceAdd, List.replicate_succ, List.replicate_zero, List.set_cons_zero, List.set_cons_succ, List.length_cons, List.length_nil, Nat.reduceLT, Nat.lt_add_one, ne_eq, Int.reduceEq, not_false_eq_true, Option.map_some, Nat.reduceLeDiff, Nat.zero_lt_succ, List.map_cons, List.map_nil, List.nil_append, List.cons_append, List.append_nil, bytesOf, List.take_succ_cons, List.take_zero, List.drop_zero, and_self, List.append_assoc, List.length_append, Int.reduceLT, Int.reduceLE, Int.toNat_zero, Int.reduceToNat, Int.cast_ofNat_Int, Int.natCast_zero, Int.natCast_one, Int.reduceAdd, List.map_append, Option.bind_some]
  refine (implPut c hf (lent_code c (codeO_get0 _ _) (codeO_get1 _ _))).mono ?_
  rintro g1 H9 ⟨A9, hH9, hg9⟩
  have hw9 : OwnAt H9 w0 1 (intR .u8 (putD c)) 1 H1.length := by rw [hH9]; exact (hw6.ext _).ext _
  have hp9 : OwnAt H9 g0 1 (intR .u8 (pat 1 (putD c).length)) (H1.length + 3) H'.length := by rw [hH9]; exact (hg6.ext _).ext _
  clear hH9
  simp only [go_sem, Nat.reduceEqDiff, reduceIte, ↓reduceIte, Nat.reduceAdd, List.replicate_succ, List.replicate_zero, List.set_cons_zero, List.set_cons_succ, List.length_cons, List.length_nil, Nat.reduceLT, Nat.lt_add_one, ne_eq, Int.reduceEq, not_false_eq_true, Option.map_some, Nat.reduceLeDiff, Nat.zero_lt_succ, List.map_cons, List.map_nil, List.nil_append, List.cons_append, List.append_nil, bytesOf, List.take_succ_cons, List.take_zero, List.drop_zero, and_self, List.append_assoc, List.length_append, Int.reduceLT, Int.reduceLE, Int.toNat_zero, Int.reduceToNat, Int.cast_ofNat_Int, Int.natCast_zero, Int.natCast_one, Int.reduceAdd, List.map_append, Option.bind_some]
  refine (eqByteS_any _ _ hpm hpm (own_lent hg9.own) (own_lent hw9.own)).mono ?_
  rintro r H10 ⟨rfl, rfl⟩
  simp only [go_sem, Nat.reduceEqDiff, reduceIte, ↓reduceIte, Nat.reduceAdd, List.replicate_succ, List.replicate_zero, List.set_cons_zero, List.set_cons_succ, List.length_cons, List.length_nil, Nat.reduceLT, Nat.lt_add_one, ne_eq, Int.reduceEq, not_false_eq_true, Option.map_some, Nat.reduceLeDiff, Nat.zero_lt_succ, List.map_cons, List.map_nil, List.nil_append, List.cons_append, List.append_nil, bytesOf, List.take_succ_cons, List.take_zero, List.drop_zero, and_self, List.append_assoc, List.length_append, Int.reduceLT, Int.reduceLE, Int.toNat_zero, Int.reduceToNat, Int.cast_ofNat_Int, Int.natCast_zero, Int.natCast_one, Int.reduceAdd, List.map_append, Option.bind_some]
  refine (heldByteS_own hp9 (by omega)).mono ?_
  rintro r H11 ⟨rfl, rfl⟩
  simp only [go_sem, Nat.reduceEqDiff, reduceIte, ↓reduceIte, Nat.reduceAdd, List.replicate_succ, List.replicate_zero, List.set_cons_zero, List.set_cons_succ, List.length_cons, List.length_nil, Nat.reduceLT, Nat.lt_add_one, ne_eq, Int.reduceEq, not_false_eq_true, Option.map_some, Nat.reduceLeDiff, Nat.zero_lt_succ, List.map_cons, List.map_nil, List.nil_append, List.cons_append, List.append_nil, bytesOf, List.take_succ_cons, List.take_zero, List.drop_zero, and_self, List.append_assoc, List.length_append, Int.reduceLT, Int.reduceLE, Int.toNat_zero, Int.reduceToNat, Int.cast_ofNat_Int, Int.natCast_zero, Int.natCast_one, Int.reduceAdd, List.map_append, Option.bind_some, hnn]
end Go.Proofs.Ytmbggdfceecojaa.Cd

/- Reached: the law. -/
set_option linter.all false
namespace Go.Proofs.Ytmbggdfceecojaa.Cd
open Go.AM Mc Ho

def rowsB (bs : List Bool) : List (List PV) := bs.map fun b => [.b b]
theorem rowsB_len (bs) : (rowsB bs).length = bs.length := by simp [rowsB]
theorem rowsB_at {bs : List Bool} {i : Nat} (h : i < bs.length) : (rowsB bs)[i]? = some [.b bs[i]] := by simp [rowsB, h]
theorem boolR_len1 (bs : List Bool) : ∀ r ∈ boolR bs, r.length = 1 := by
  intro r hr
  obtain ⟨x, _, rfl⟩ := List.mem_map.1 hr
  rfl
theorem grnd_boolR (bs : List Bool) : ∀ r ∈ boolR bs, ∀ c ∈ r, Grnd c := by
  intro r hr c hc
  obtain ⟨x, _, rfl⟩ := List.mem_map.1 hr
  simp at hc; subst hc; exact grnd_b _
theorem lent_b (bs : List Bool) {H : List AO} {id ver : Nat} (hid : H[id]? = some (.rows 1 ver (boolR bs))) : Lent H (.gs id ver 0 bs.length) (.p (.l (rowsB bs))) := by
  refine .gs id ver 0 _ 1 _ (rowsB bs) hid (by simp [boolR]) (rowsB_len bs) (fun y hy => by obtain ⟨z, _, rfl⟩ := List.mem_map.1 hy; rfl) ?_
  intro i r y j c q hr hy hc hq
  rw [Nat.zero_add, boolR, List.getElem?_map] at hr
  rw [rowsB, List.getElem?_map] at hy
  cases hz : bs[i]? with
  | none => rw [hz] at hr; cases hr
  | some z =>
    rw [hz] at hr hy
    cases hr; cases hy
    cases j with
    | zero => cases hc; cases hq; exact .pure _
    | succ j => simp at hc
theorem ownB_lent {H : List AO} {a : AV} {bs : List Bool} (h : OwnR H a 1 (boolR bs)) : Lent H a (.p (.l (rowsB bs))) := by
  rcases h with ⟨rfl, h⟩ | ⟨id, ver, rfl, h⟩
  · have : bs = [] := by simpa [boolR] using h
    subst this
    exact .nl
  · rw [boolR_len]
    exact lent_b bs h

theorem eqBoolS (xs ys : List Bool) (hx : xs.length ≤ maxL) (hy : ys.length ≤ maxL) : ACall Try.prog 30 [.p (.l (rowsB xs)), .p (.l (rowsB ys))] [] (fun r H => r = .p (.b (decide (xs = ys)))) := by
  refine call30 (by simp) ?_
  simp only [go_sem, Nat.reduceEqDiff, reduceIte, ↓reduceIte, Nat.reduceAdd, mc30, mr30, rowsB_len]
  intro _ _
  refine condK_split _ (fun hc => ?_) (fun hc => ?_)
  · simp only [go_sem, Nat.reduceEqDiff, reduceIte, ↓reduceIte, Nat.reduceAdd]
    have : xs ≠ ys := by rintro rfl; simp at hc
    simp [this]
  · have hl : xs.length = ys.length := by simp at hc; omega
    simp only [go_sem, Nat.reduceEqDiff, reduceIte, ↓reduceIte, Nat.reduceAdd]
    refine ⟨Nat, [0, 1, 4, 5], fun i st => i ≤ xs.length ∧ xs.take i = ys.take i ∧ st = ⟨[(0, .p (.l (rowsB xs))), (1, .p (.l (rowsB ys))), (4, .p (.b false)), (5, .p (.i .i64 i))], [], []⟩, fun i => xs.length - i, ⟨0, ?_⟩, ?_⟩
    · simp only [go_sem, Nat.reduceEqDiff, reduceIte, ↓reduceIte, Nat.reduceAdd]
      exact ⟨Nat.zero_le _, rfl, rfl⟩
    · rintro i st ⟨hi, ht, rfl⟩
      simp only [go_sem, Nat.reduceEqDiff, reduceIte, ↓reduceIte, Nat.reduceAdd, rowsB_len]
      intro _
      refine condK_split _ (fun hc => ?_) (fun hc => ?_)
      · have hil : i < xs.length := by simpa using hc
        have hiy : i < ys.length := by omega
        simp only [go_sem, Nat.reduceEqDiff, reduceIte, ↓reduceIte, Nat.reduceAdd]
        (refine drw_same ?_; simp only [go_sem, Nat.reduceEqDiff, reduceIte, ↓reduceIte, Nat.reduceAdd, rowsB_at hil, rowsB_at hiy])
        refine condK_split _ (fun hd => ?_) (fun hd => ?_)
        · simp only [go_sem, Nat.reduceEqDiff, reduceIte, ↓reduceIte, Nat.reduceAdd]
          have : xs ≠ ys := by rintro rfl; simp at hd
          simp [this]
        · simp only [go_sem, Nat.reduceEqDiff, reduceIte, ↓reduceIte, Nat.reduceAdd]
          have he : xs[i] = ys[i] := by simpa using hd
          refine ⟨i + 1, ⟨hil, ?_, ?_⟩, by omega⟩
          · rw [List.take_succ, List.take_succ, ht, List.getElem?_eq_getElem hil, List.getElem?_eq_getElem hiy, he]
          · rw [wr1 hil hx]
      · have hil : i = xs.length := by simp at hc; omega
        simp only [go_sem, Nat.reduceEqDiff, reduceIte, ↓reduceIte, Nat.reduceAdd]
        subst hil
        have : xs = ys := by
          rw [List.take_length, hl, List.take_length] at ht
          exact ht
        simp [this]
theorem eqBoolS_any (xs ys : List Bool) (hx : xs.length ≤ maxL) (hy : ys.length ≤ maxL) {H : List AO} {a b : AV} (ha : Lent H a (.p (.l (rowsB xs)))) (hb : Lent H b (.p (.l (rowsB ys)))) : ACall Try.prog 30 [a, b] H (fun r H' => r = .p (.b (decide (xs = ys))) ∧ H' = H) :=
  (acall_lend (eqBoolS xs ys hx hy) (fun r H' h => by subst h; exact grnd_b _) (lentAll_cons ha (lentAll_cons hb (lentAll_nil _)))).mono fun r H' ⟨h1, _, h2⟩ => ⟨h2, h1⟩

/-- the pattern that marks bools -/
def patB (k : Int) (n : Nat) : List Bool := (List.range n).map fun j => decide ((k + (j : Nat)).tmod 3 = 0)
theorem patB_len (k n) : (patB k n).length = n := by simp [patB]

theorem markBoolS {H : List AO} {id ver : Nat} (old : List (List AV)) (hid : H[id]? = some (.rows 1 ver old)) (h1 : ∀ r ∈ old, r.length = 1) (hn : old.length ≤ 100000000) (k : Int) (hk0 : 0 ≤ k) (hk : k ≤ 100000000) :
    ACall Try.prog 31 [.gs id ver 0 old.length, .p (.i .i64 k)] H (fun r H' => r = .p (.i .i64 (k + old.length)) ∧ H' = H.set id (.rows 1 ver (boolR (patB k old.length)))) := by
  have hm : old.length ≤ maxL := by unfold maxL; omega
  refine call31 (by simp) ?_
  simp only [go_sem, Nat.reduceEqDiff, reduceIte, ↓reduceIte, Nat.reduceAdd, mc31, mr31]
  refine ⟨Nat, [0, 1, 4, 5], fun i st => i ≤ old.length ∧ st = ⟨[(0, .gs id ver 0 old.length), (1, .p (.i .i64 (k + i))), (4, .p (.i .i64 0)), (5, .p (.i .i64 i))], [], H.set id (.rows 1 ver (over (fun j => [.p (.b (decide ((k + (j : Nat)).tmod 3 = 0)))]) old i))⟩, fun i => old.length - i, ⟨0, ?_⟩, ?_⟩
  · simp only [go_sem, Nat.reduceEqDiff, reduceIte, ↓reduceIte, Nat.reduceAdd]
    refine ⟨Nat.zero_le _, ?_⟩
    rw [over_zero]
    rw [set_same hid]; simp
  · rintro i st ⟨hi, rfl⟩
    simp only [go_sem, Nat.reduceEqDiff, reduceIte, ↓reduceIte, Nat.reduceAdd]
    intro _
    refine condK_split _ (fun hc => ?_) (fun hc => ?_)
    · have hil : i < old.length := by simpa using hc
      simp only [go_sem, Nat.reduceEqDiff, reduceIte, ↓reduceIte, Nat.reduceAdd, List.replicate_succ, List.replicate_zero, List.set_cons_zero, List.set_cons_succ, List.length_cons, List.length_nil, Nat.reduceLT, Nat.lt_add_one, ne_eq, Int.reduceEq, not_false_eq_true, Option.map_some, Nat.reduceLeDiff, Nat.zero_lt_succ, List.map_cons, List.map_nil, List.nil_append, List.cons_append, List.append_nil, bytesOf, List.take_succ_cons, List.take_zero, List.drop_zero, and_self, List.append_assoc, List.length_append, Int.reduceLT, Int.reduceLE, Int.toNat_zero, Int.reduceToNat, Int.cast_ofNat_Int, Int.natCast_zero, Int.natCast_one, Int.reduceAdd, List.map_append, Option.bind_some, set_get hid, over_get _ _ hil]
      refine ⟨by simpa using hc, ?_⟩
      rw [stoR_at (over_get _ _ hil) (splice_one (h1 _ (List.getElem_mem hil)) _)]
      simp only [go_sem, Nat.reduceEqDiff, reduceIte, ↓reduceIte, Nat.reduceAdd]
      refine ⟨i + 1, ⟨hil, ?_⟩, by omega⟩
      rw [wr1 hil hm, wr64 (by omega) (by omega), List.set_set, over_set _ _ hil]
      simp only [Int.natCast_add, Int.natCast_one, Int.add_assoc]
    · have hil : i = old.length := by simp at hc; omega
      simp only [go_sem, Nat.reduceEqDiff, reduceIte, ↓reduceIte, Nat.reduceAdd]
      subst hil
      refine ⟨rfl, ?_⟩
      rw [over_all, boolR, patB, List.map_map]
      rfl

theorem patB_get (k : Int) (n : Nat) {i : Nat} (h : i < n) : (boolR (patB k n))[i]? = some [.p (.b (decide ((k + (i : Nat)).tmod 3 = 0)))] := by simp [boolR, patB, h]

theorem heldBoolS {H : List AO} {id ver : Nat} (n : Nat) (k : Int) (hid : H[id]? = some (.rows 1 ver (boolR (patB k n)))) (hn : n ≤ 100000000) (hk0 : 0 ≤ k) (hk : k ≤ 100000000) :
    ACall Try.prog 32 [.gs id ver 0 n, .p (.i .i64 k)] H (fun r H' => r = .p (.i .i64 (k + n)) ∧ H' = H) := by
  have hm : n ≤ maxL := by unfold maxL; omega
  refine call32 (by simp) ?_
  simp only [go_sem, Nat.reduceEqDiff, reduceIte, ↓reduceIte, Nat.reduceAdd, mc32, mr32]
  refine ⟨Nat, [0, 1, 4, 5], fun i st => i ≤ n ∧ st = ⟨[(0, .gs id ver 0 n), (1, .p (.i .i64 (k + i))), (4, .p (.i .i64 0)), (5, .p (.i .i64 i))], [], H⟩, fun i => n - i, ⟨0, ?_⟩, ?_⟩
  · simp only [go_sem, Nat.reduceEqDiff, reduceIte, ↓reduceIte, Nat.reduceAdd]
    exact ⟨Nat.zero_le _, by simp⟩
  · rintro i st ⟨hi, rfl⟩
    simp only [go_sem, Nat.reduceEqDiff, reduceIte, ↓reduceIte, Nat.reduceAdd]
    intro _
    refine condK_split _ (fun hc => ?_) (fun hc => ?_)
    · have hil : i < n := by simpa using hc
      simp only [go_sem, Nat.reduceEqDiff, reduceIte, ↓reduceIte, Nat.reduceAdd, List.replicate_succ, List.replicate_zero, List.set_cons_zero, List.set_cons_succ, List.length_cons, List.length_nil, Nat.reduceLT, Nat.lt_add_one, ne_eq, Int.reduceEq, not_false_eq_true, Option.map_some, Nat.reduceLeDiff, Nat.zero_lt_succ, List.map_cons, List.map_nil, List.nil_append, List.cons_append, List.append_nil, bytesOf, List.take_succ_cons, List.take_zero, List.drop_zero, and_self, List.append_assoc, List.length_append, Int.reduceLT, Int.reduceLE, Int.toNat_zero, Int.reduceToNat, Int.cast_ofNat_Int, Int.natCast_zero, Int.natCast_one, Int.reduceAdd, List.map_append, Option.bind_some, hid, patB_get k n hil]
      refine ⟨by simpa using hc, ?_⟩
      refine ⟨i + 1, ⟨hil, ?_⟩, by omega⟩
      rw [wr1 hil hm, wr64 (by omega) (by omega)]
      simp only [Int.natCast_add, Int.natCast_one, Int.add_assoc]
    · have hil : i = n := by simp at hc; omega
      simp only [go_sem, Nat.reduceEqDiff, reduceIte, ↓reduceIte, Nat.reduceAdd]
      subst hil
      rfl

theorem reachD_len {c : CodeD} : (reachD c).length ≤ 200000 := by
  unfold reachD
  split
  · rename_i h; have := (codeOk_wf h).le; simp; omega
  · simp
theorem specReached (c : CodeD) (hf : Fits c) {H : List AO} {a : AV} (ha : Lent H a (.st (c.cells.map .p))) : ACall Try.prog 28 [a] H (fun r H' => ∃ A, H' = H ++ A ∧ OwnAt H' r 1 (boolR (reachD c)) H.length H'.length) :=
  acall_ownAt (specReached0 c hf.ok) (lentAll_cons ha (lentAll_nil _)) (grnd_boolR _)
theorem implReached (c : CodeD) (hf : Fits c) {H : List AO} {a : AV} (ha : Lent H a (.st (c.cells.map .p))) : ACall Try.prog 29 [a] H (fun r H' => ∃ A, H' = H ++ A ∧ OwnAt H' r 1 (boolR (reachD c)) H.length H'.length) :=
  acall_ownAt (implReached0 c hf.ok) (lentAll_cons ha (lentAll_nil _)) (grnd_boolR _)
theorem markBoolS_own {H : List AO} {a : AV} {zs : List Bool} {lo hi : Nat} (h : OwnAt H a 1 (boolR zs) lo hi) (hn : zs.length ≤ 100000000) :
    ACall Try.prog 31 [a, .p (.i .i64 1)] H (fun r H' => r = .p (.i .i64 (1 + zs.length)) ∧ OwnAt H' a 1 (boolR (patB 1 zs.length)) lo hi ∧ H'.length = H.length ∧ ∀ (j : Nat) o, H[j]? = some o → j < lo ∨ hi ≤ j → H'[j]? = some o) := by
  rcases h with ⟨rfl, he⟩ | ⟨id, ver, h0, h1, rfl, h3⟩
  · have hz : zs = [] := by simpa [boolR] using he
    subst hz
    refine call31 (by simp) ?_
    simp only [go_sem, Nat.reduceEqDiff, reduceIte, ↓reduceIte, Nat.reduceAdd, List.replicate_succ, List.replicate_zero, List.set_cons_zero, List.set_cons_succ, List.length_cons, List.length_nil, Nat.reduceLT, Nat.lt_add_one, ne_eq, Int.reduceEq, not_false_eq_true, Option.map_some, Nat.reduceLeDiff, Nat.zero_lt_succ, List.map_cons, List.map_nil, List.nil_append, List.cons_append, List.append_nil, bytesOf, List.take_succ_cons, List.take_zero, List.drop_zero, and_self, List.append_assoc, List.length_append, Int.reduceLT, Int.reduceLE, Int.toNat_zero, Int.reduceToNat, Int.cast_ofNat_Int, Int.natCast_zero, Int.natCast_one, Int.reduceAdd, List.map_append, Option.bind_some, mc31, mr31]
    refine ⟨Unit, [0, 1, 4, 5], fun _ st => st = ⟨[(0, .p .nl), (1, .p (.i .i64 1)), (4, .p (.i .i64 0)), (5, .p (.i .i64 0))], [], H⟩, fun _ => 0, ⟨(), ?_⟩, ?_⟩
    · simp only [go_sem, Nat.reduceEqDiff, reduceIte, ↓reduceIte, Nat.reduceAdd, List.replicate_succ, List.replicate_zero, List.set_cons_zero, List.set_cons_succ, List.length_cons, List.length_nil, Nat.reduceLT, Nat.lt_add_one, ne_eq, Int.reduceEq, not_false_eq_true, Option.map_some, Nat.reduceLeDiff, Nat.zero_lt_succ, List.map_cons, List.map_nil, List.nil_append, List.cons_append, List.append_nil, bytesOf, List.take_succ_cons, List.take_zero, List.drop_zero, and_self, List.append_assoc, List.length_append, Int.reduceLT, Int.reduceLE, Int.toNat_zero, Int.reduceToNat, Int.cast_ofNat_Int, Int.natCast_zero, Int.natCast_one, Int.reduceAdd, List.map_append, Option.bind_some]
    · rintro _ st rfl
      simp only [go_sem, Nat.reduceEqDiff, reduceIte, ↓reduceIte, Nat.reduceAdd, List.replicate_succ, List.replicate_zero, List.set_cons_zero, List.set_cons_succ, List.length_cons, List.length_nil, Nat.reduceLT, Nat.lt_add_one, ne_eq, Int.reduceEq, not_false_eq_true, Option.map_some, Nat.reduceLeDiff, Nat.zero_lt_succ, List.map_cons, List.map_nil, List.nil_append, List.cons_append, List.append_nil, bytesOf, List.take_succ_cons, List.take_zero, List.drop_zero, and_self, List.append_assoc, List.length_append, Int.reduceLT, Int.reduceLE, Int.toNat_zero, Int.reduceToNat, Int.cast_ofNat_Int, Int.natCast_zero, Int.natCast_one, Int.reduceAdd, List.map_append, Option.bind_some, Int.reduceLT, decide_false]
      exact ⟨.inl ⟨rfl, by simp [patB, boolR]⟩, fun j o h _ => h⟩
  · have hl := boolR_len zs
    have k := markBoolS (boolR zs) h3 (boolR_len1 _) (by rw [hl]; exact hn) 1 (by omega) (by omega)
    rw [hl] at k ⊢
    refine k.mono ?_
    rintro r H' ⟨rfl, rfl⟩
    refine ⟨rfl, .inr ⟨id, ver, h0, h1, by rw [boolR_len, patB_len], set_get h3⟩, by simp, fun j o h hj => ?_⟩
    rw [List.getElem?_set_ne (by omega)]; exact h
theorem heldBoolS_own {H : List AO} {a : AV} {n : Nat} {lo hi : Nat} (h : OwnAt H a 1 (boolR (patB 1 n)) lo hi) (hn : n ≤ 100000000) :
    ACall Try.prog 32 [a, .p (.i .i64 1)] H (fun r H' => r = .p (.i .i64 (1 + n)) ∧ H' = H) := by
  rcases h with ⟨rfl, he⟩ | ⟨id, ver, h0, h1, rfl, h3⟩
  · have hz : n = 0 := by
      have : (boolR (patB 1 n)).length = 0 := by rw [he]; rfl
      rw [boolR_len, patB_len] at this; exact this
    subst hz
    refine call32 (by simp) ?_
    simp only [go_sem, Nat.reduceEqDiff, reduceIte, ↓reduceIte, Nat.reduceAdd, List.replicate_succ, List.replicate_zero, List.set_cons_zero, List.set_cons_succ, List.length_cons, List.length_nil, Nat.reduceLT, Nat.lt_add_one, ne_eq, Int.reduceEq, not_false_eq_true, Option.map_some, Nat.reduceLeDiff, Nat.zero_lt_succ, List.map_cons, List.map_nil, List.nil_append, List.cons_append, List.append_nil, bytesOf, List.take_succ_cons, List.take_zero, List.drop_zero, and_self, List.append_assoc, List.length_append, Int.reduceLT, Int.reduceLE, Int.toNat_zero, Int.reduceToNat, Int.cast_ofNat_Int, Int.natCast_zero, Int.natCast_one, Int.reduceAdd, List.map_append, Option.bind_some, mc32, mr32]
    refine ⟨Unit, [0, 1, 4, 5], fun _ st => st = ⟨[(0, .p .nl), (1, .p (.i .i64 1)), (4, .p (.i .i64 0)), (5, .p (.i .i64 0))], [], H⟩, fun _ => 0, ⟨(), ?_⟩, ?_⟩
    · simp only [go_sem, Nat.reduceEqDiff, reduceIte, ↓reduceIte, Nat.reduceAdd, List.replicate_succ, List.replicate_zero, List.set_cons_zero, List.set_cons_succ, List.length_cons, List.length_nil, Nat.reduceLT, Nat.lt_add_one, ne_eq, Int.reduceEq, not_false_eq_true, Option.map_some, Nat.reduceLeDiff, Nat.zero_lt_succ, List.map_cons, List.map_nil, List.nil_append, List.cons_append, List.append_nil, bytesOf, List.take_succ_cons, List.take_zero, List.drop_zero, and_self, List.append_assoc, List.length_append, Int.reduceLT, Int.reduceLE, Int.toNat_zero, Int.reduceToNat, Int.cast_ofNat_Int, Int.natCast_zero, Int.natCast_one, Int.reduceAdd, List.map_append, Option.bind_some]
    · rintro _ st rfl
      simp only [go_sem, Nat.reduceEqDiff, reduceIte, ↓reduceIte, Nat.reduceAdd, List.replicate_succ, List.replicate_zero, List.set_cons_zero, List.set_cons_succ, List.length_cons, List.length_nil, Nat.reduceLT, Nat.lt_add_one, ne_eq, Int.reduceEq, not_false_eq_true, Option.map_some, Nat.reduceLeDiff, Nat.zero_lt_succ, List.map_cons, List.map_nil, List.nil_append, List.cons_append, List.append_nil, bytesOf, List.take_succ_cons, List.take_zero, List.drop_zero, and_self, List.append_assoc, List.length_append, Int.reduceLT, Int.reduceLE, Int.toNat_zero, Int.reduceToNat, Int.cast_ofNat_Int, Int.natCast_zero, Int.natCast_one, Int.reduceAdd, List.map_append, Option.bind_some, Int.reduceLT, decide_false]
  · have hl : (boolR (patB 1 n)).length = n := by rw [boolR_len, patB_len]
    rw [hl]
    exact heldBoolS n 1 h3 hn (by omega) (by omega)

theorem lawReached (c : CodeD) (hok : okCode c) (hrg : rngCode c) : ACall Try.prog 5 [.st (c.cells.map .p)] [] (fun r _ => r = .p (.b true)) := by
  refine call5 (by simp) ?_
  simp only [go_sem, Nat.reduceEqDiff, reduceIte, ↓reduceIte, Nat.reduceAdd, List.replicate_succ, List.replicate_zero, List.set_cons_zero, List.set_cons_succ, List.length_cons, List.length_nil, Nat.reduceLT, Nat.lt_add_one, ne_eq, Int.reduceEq, not_false_eq_true, Option.map_some, Nat.reduceLeDiff, Nat.zero_lt_succ, List.map_cons, List.map_nil, List.nil_append, List.cons_append, List.append_nil, bytesOf, List.take_succ_cons, List.take_zero, List.drop_zero, and_self, List.append_assoc, List.length_append, Int.reduceLT, Int.reduceLE, Int.toNat_zero, Int.reduceToNat, Int.cast_ofNat_Int, Int.natCast_zero, Int.natCast_one, Int.reduceAdd, List.map_append, Option.bind_some, mc5, mr5, CodeD.cells]
  rw [code_eta]
  refine (szCode_any c hok).mono ?_
  rintro r H' ⟨⟨q, rfl, hq⟩, rfl⟩
  simp only [go_sem, Nat.reduceEqDiff, reduceIte, ↓reduceIte, Nat.reduceAdd, List.replicate_succ, List.replicate_zero, List.set_cons_zero, List.set_cons_succ, List.length_cons, List.length_nil, Nat.reduceLT, Nat.lt_add_one, ne_eq, Int.reduceEq, not_false_eq_true, Option.map_some, Nat.reduceLeDiff, Nat.zero_lt_succ, List.map_cons, List.map_nil, List.nil_append, List.cons_append, List.append_nil, bytesOf, List.take_succ_cons, List.take_zero, List.drop_zero, and_self, List.append_assoc, List.length_append, Int.reduceLT, Int.reduceLE, Int.toNat_zero, Int.reduceToNat, Int.cast_ofNat_Int, Int.natCast_zero, Int.natCast_one, Int.reduceAdd, List.map_append, Option.bind_some]
  refine condK_split _ (fun hq0 => ?_) (fun hq0 => ?_)
  · simp only [go_sem, Nat.reduceEqDiff, reduceIte, ↓reduceIte, Nat.reduceAdd, List.replicate_succ, List.replicate_zero, List.set_cons_zero, List.set_cons_succ, List.length_cons, List.length_nil, Nat.reduceLT, Nat.lt_add_one, ne_eq, Int.reduceEq, not_false_eq_true, Option.map_some, Nat.reduceLeDiff, Nat.zero_lt_succ, List.map_cons, List.map_nil, List.nil_append, List.cons_append, List.append_nil, bytesOf, List.take_succ_cons, List.take_zero, List.drop_zero, and_self, List.append_assoc, List.length_append, Int.reduceLT, Int.reduceLE, Int.toNat_zero, Int.reduceToNat, Int.cast_ofNat_Int, Int.natCast_zero, Int.natCast_one, Int.reduceAdd, List.map_append, Option.bind_some]
  have hq1 : ¬ q < 0 := by simpa using hq0
  have hsm : small c := by rcases hq with h | h; exact (hq1 h).elim; exact h.2
  have hf : Fits c := ⟨hok, hsm, hrg⟩
  have hpl := @reachD_len c
  have hpm : (reachD c).length ≤ maxL := by unfold maxL; omega
  simp only [go_sem, Nat.reduceEqDiff, reduceIte, ↓reduceIte, Nat.reduceAdd, List.replicate_succ, List.replicate_zero, List.set_cons_zero, List.set_cons_succ, List.length_cons, List.length_nil, Nat.reduceLT, Nat.lt_add_one, ne_eq, Int.reduceEq, not_false_eq_true, Option.map_some, Nat.reduceLeDiff, Nat.zero_lt_succ, List.map_cons, List.map_nil, List.nil_append, List.cons_append, List.append_nil, bytesOf, List.take_succ_cons, List.take_zero, List.drop_zero, and_self, List.append_assoc, List.length_append, Int.reduceLT, Int.reduceLE, Int.toNat_zero, Int.reduceToNat, Int.cast_ofNat_Int, Int.natCast_zero, Int.natCast_one, Int.reduceAdd, List.map_append, Option.bind_some, code_take]
  refine (toCode c hok hsm _).mono ?_
  rintro r H' ⟨rfl, rfl⟩
  simp only [go_sem, Nat.reduceEqDiff, reduceIte, ↓reduceIte, Nat.reduceAdd, List.replicate_succ, List.replicate_zero, List.set_cons_zero, List.set_cons_succ, List.length_cons, List.length_nil, Nat.reduceLT, Nat.lt_add_one, ne_eq, Int.reduceEq, not_false_eq_true, Option.map_some, Nat.reduceLeDiff, Nat.zero_lt_succ, List.map_cons, List.map_nil, List.nil_append, List.cons_append, List.append_nil, bytesOf, List.take_succ_cons, List.take_zero, List.drop_zero, and_self, List.append_assoc, List.length_append, Int.reduceLT, Int.reduceLE, Int.toNat_zero, Int.reduceToNat, Int.cast_ofNat_Int, Int.natCast_zero, Int.natCast_one, Int.reduceAdd, List.map_append, Option.bind_some]
  have hl0 := lent_code c (H := [AO.var (c.cells.map .p)] ++ codeO c) (i := 1) rfl rfl
  refine (specReached c hf hl0).mono ?_
  rintro w0 H1 ⟨A1, hH1, hw⟩
  have hv1 : H1[0]? = some (.var (c.cells.map .p)) := by rw [hH1]; rfl
  clear hH1 hl0
  simp only [go_sem, Nat.reduceEqDiff, reduceIte, ↓reduceIte, Nat.reduceAdd, List.replicate_succ, List.replicate_zero, List.set_cons_zero, List.set_cons_succ, List.length_cons, List.length_nil, Nat.reduceLT, Nat.lt_add_one, ne_eq, Int.reduceEq, not_false_eq_true, Option.map_some, Nat.reduceLeDiff, Nat.zero_lt_succ, List.map_cons, List.map_nil, List.nil_append, List.cons_append, List.append_nil, bytesOf, List.take_succ_cons, List.take_zero, List.drop_zero, and_self, List.append_assoc, List.length_append, Int.reduceLT, Int.reduceLE, Int.toNat_zero, Int.reduceToNat, Int.cast_ofNat_Int, Int.natCast_zero, Int.natCast_one, Int.reduceAdd, List.map_append, Option.bind_some, hv1, code_take]
  refine (toCode c hok hsm _).mono ?_
  rintro r H' ⟨rfl, rfl⟩
  simp only [go_sem, Nat.reduceEqDiff, reduceIte, ↓reduceIte, Nat.reduceAdd, List.replicate_succ, List.replicate_zero, List.set_cons_zero, List.set_cons_succ, List.length_cons, List.length_nil, Nat.reduceLT, Nat.lt_add_one, ne_eq, Int.reduceEq, not_false_eq_true, Option.map_some, Nat.reduceLeDiff, Nat.zero_lt_succ, List.map_cons, List.map_nil, List.nil_append, List.cons_append, List.append_nil, bytesOf, List.take_succ_cons, List.take_zero, List.drop_zero, and_self, List.append_assoc, List.length_append, Int.reduceLT, Int.reduceLE, Int.toNat_zero, Int.reduceToNat, Int.cast_ofNat_Int, Int.natCast_zero, Int.natCast_one, Int.reduceAdd, List.map_append, Option.bind_some, codeAt, codeO]
  have hw0 := hw
  have hi1 : 0 < H1.length := get_lt hv1
  refine (implReached c hf (lent_code c (i := H1.length) ?_ ?_)).mono ?_
  · rw [get_off0]; rfl
  · rw [get_off]; rfl
  rintro g0 H3 ⟨A3, hH3, hg⟩
  have hv3 : H3[0]? = some (.var (c.cells.map .p)) := by rw [hH3]; exact get_ext (get_ext hv1 _) _
  have h60 : H3[H1.length]? = some (.rows 6 0 (insR c.ins)) := by rw [hH3]; refine get_ext ?_ _; rw [get_off0]; rfl
  have h61 : H3[H1.length + 1]? = some (.rows 1 0 (intR .i64 c.starts)) := by rw [hH3]; refine get_ext ?_ _; rw [get_off]; rfl
  have hx3 : H3[H1.length + 2]? = some (.var [.gs H1.length 0 0 c.ins.length, .gs (H1.length + 1) 0 0 c.starts.length]) := by rw [hH3]; refine get_ext ?_ _; rw [get_off]; rfl
  have hw3 : OwnAt H3 w0 1 (boolR (reachD c)) 1 H1.length := by
    rw [hH3]
    refine OwnAt.ext (OwnAt.ext ?_ _) _
    rcases hw with h | ⟨id, ver, h0, h1, h2, h3⟩
    · exact .inl h
    · exact .inr ⟨id, ver, by simp at h0; omega, h1, h2, h3⟩
  have hg3 : OwnAt H3 g0 1 (boolR (reachD c)) (H1.length + 3) H3.length := by
    rcases hg with h | ⟨id, ver, h0, h1, h2, h3⟩
    · exact .inl h
    · exact .inr ⟨id, ver, by simp [codeO_len] at h0; omega, h1, h2, h3⟩
  clear hg hw0 hw hH3
  simp only [go_sem, Nat.reduceEqDiff, reduceIte, ↓reduceIte, Nat.reduceAdd, List.replicate_succ, List.replicate_zero, List.set_cons_zero, List.set_cons_succ, List.length_cons, List.length_nil, Nat.reduceLT, Nat.lt_add_one, ne_eq, Int.reduceEq, not_false_eq_true, Option.map_some, Nat.reduceLeDiff, Nat.zero_lt_succ, List.map_cons, List.map_nil, List.nil_append, List.cons_append, List.append_nil, bytesOf, List.take_succ_cons, List.take_zero, List.drop_zero, and_self, List.append_assoc, List.length_append, Int.reduceLT, Int.reduceLE, Int.toNat_zero, Int.reduceToNat, Int.cast_ofNat_Int, Int.natCast_zero, Int.natCast_one, Int.reduceAdd, List.map_append, Option.bind_some]
  refine (eqBoolS_any _ _ hpm hpm (ownB_lent hg3.own) (ownB_lent hw3.own)).mono ?_
  rintro r H' ⟨rfl, rfl⟩
  simp only [go_sem, Nat.reduceEqDiff, reduceIte, ↓reduceIte, Nat.reduceAdd, List.replicate_succ, List.replicate_zero, List.set_cons_zero, List.set_cons_succ, List.length_cons, List.length_nil, Nat.reduceLT, Nat.lt_add_one, ne_eq, Int.reduceEq, not_false_eq_true, Option.map_some, Nat.reduceLeDiff, Nat.zero_lt_succ, List.map_cons, List.map_nil, List.nil_append, List.cons_append, List.append_nil, bytesOf, List.take_succ_cons, List.take_zero, List.drop_zero, and_self, List.append_assoc, List.length_append, Int.reduceLT, Int.reduceLE, Int.toNat_zero, Int.reduceToNat, Int.cast_ofNat_Int, Int.natCast_zero, Int.natCast_one, Int.reduceAdd, List.map_append, Option.bind_some]
  refine drw_same ?_
  simp only [go_sem, Nat.reduceEqDiff, reduceIte, ↓reduceIte, Nat.reduceAdd, List.replicate_succ, List.replicate_zero, List.set_cons_zero, List.set_cons_succ, List.length_cons, List.length_nil, Nat.reduceLT, Nat.lt_add_one, ne_eq, Int.reduceEq, not_false_eq_true, Option.map_some, Nat.reduceLeDiff, Nat.zero_lt_succ, List.map_cons, List.map_nil, List.nil_append, List.cons_append, List.append_nil, bytesOf, List.take_succ_cons, List.take_zero, List.drop_zero, and_self, List.append_assoc, List.length_append, Int.reduceLT, Int.reduceLE, Int.toNat_zero, Int.reduceToNat, Int.cast_ofNat_Int, Int.natCast_zero, Int.natCast_one, Int.reduceAdd, List.map_append, Option.bind_some, hx3, hv3, code_take]
  refine pcall_pure (fun A => (toCode_fresh c hok hsm).mono fun r H' ⟨h1, h2⟩ => ⟨h2, h1⟩) (Hext.refl _) ?_
  simp only [go_sem, Nat.reduceEqDiff, reduceIte, ↓reduceIte, Nat.reduceAdd, List.replicate_succ, List.replicate_zero, List.set_cons_zero, List.set_cons_succ, List.length_cons, List.length_nil, Nat.reduceLT, Nat.lt_add_one, ne_eq, Int.reduceEq, not_false_eq_true, Option.map_some, Nat.reduceLeDiff, Nat.zero_lt_succ, List.map_cons, List.map_nil, List.nil_append, List.cons_append, List.append_nil, bytesOf, List.take_succ_cons, List.take_zero, List.drop_zero, and_self, List.append_assoc, List.length_append, Int.reduceLT, Int.reduceLE, Int.toNat_zero, Int.reduceToNat, Int.cast_ofNat_Int, Int.natCast_zero, Int.natCast_one, Int.reduceAdd, List.map_append, Option.bind_some]
  refine (eqCode_any c c hok hok (lent_code c h60 h61) (code_lent c)).mono ?_
  rintro r H' ⟨rfl, rfl⟩
  simp only [go_sem, Nat.reduceEqDiff, reduceIte, ↓reduceIte, Nat.reduceAdd, List.replicate_succ, List.replicate_zero, List.set_cons_zero, List.set_cons_succ, List.length_cons, List.length_nil, Nat.reduceLT, Nat.lt_add_one, ne_eq, Int.reduceEq, not_false_eq_true, Option.map_some, Nat.reduceLeDiff, Nat.zero_lt_succ, List.map_cons, List.map_nil, List.nil_append, List.cons_append, List.append_nil, bytesOf, List.take_succ_cons, List.take_zero, List.drop_zero, and_self, List.append_assoc, List.length_append, Int.reduceLT, Int.reduceLE, Int.toNat_zero, Int.reduceToNat, Int.cast_ofNat_Int, Int.natCast_zero, Int.natCast_one, Int.reduceAdd, List.map_append, Option.bind_some, hx3]
  refine (markCode c hsm h60 h61).mono ?_
  rintro r H4 ⟨⟨k, hk0, rfl⟩, rs, us, o, hH4⟩
  have hkf : decide (k < 0) = false := by simp; exact hk0
  have hv4 : H4[0]? = some (.var (c.cells.map .p)) := by rw [hH4]; exact get_ext (get_set (get_set hv3 (by omega)) (by omega)) _
  have hw4 : OwnAt H4 w0 1 (boolR (reachD c)) 1 H1.length := by rw [hH4]; exact ((hw3.set _ (.inr (by omega))).set _ (.inr (by omega))).ext _
  have hg4 : OwnAt H4 g0 1 (boolR (reachD c)) (H1.length + 3) H'.length := by rw [hH4]; exact ((hg3.set _ (.inl (by omega))).set _ (.inl (by omega))).ext _
  have hl4 : H'.length ≤ H4.length := by rw [hH4]; simp
  clear hH4 hv3 h60 h61 hx3 hw3 hg3
  simp only [go_sem, Nat.reduceEqDiff, reduceIte, ↓reduceIte, Nat.reduceAdd, List.replicate_succ, List.replicate_zero, List.set_cons_zero, List.set_cons_succ, List.length_cons, List.length_nil, Nat.reduceLT, Nat.lt_add_one, ne_eq, Int.reduceEq, not_false_eq_true, Option.map_some, Nat.reduceLeDiff, Nat.zero_lt_succ, List.map_cons, List.map_nil, List.nil_append, List.cons_append, List.append_nil, bytesOf, List.take_succ_cons, List.take_zero, List.drop_zero, and_self, List.append_assoc, List.length_append, Int.reduceLT, Int.reduceLE, Int.toNat_zero, Int.reduceToNat, Int.cast_ofNat_Int, Int.natCast_zero, Int.natCast_one, Int.reduceAdd, List.map_append, Option.bind_some, hkf]
  refine (eqBoolS_any _ _ hpm hpm (ownB_lent hg4.own) (ownB_lent hw4.own)).mono ?_
  rintro r H5 ⟨rfl, rfl⟩
  simp only [go_sem, Nat.reduceEqDiff, reduceIte, ↓reduceIte, Nat.reduceAdd, List.replicate_succ, List.replicate_zero, List.set_cons_zero, List.set_cons_succ, List.length_cons, List.length_nil, Nat.reduceLT, Nat.lt_add_one, ne_eq, Int.reduceEq, not_false_eq_true, Option.map_some, Nat.reduceLeDiff, Nat.zero_lt_succ, List.map_cons, List.map_nil, List.nil_append, List.cons_append, List.append_nil, bytesOf, List.take_succ_cons, List.take_zero, List.drop_zero, and_self, List.append_assoc, List.length_append, Int.reduceLT, Int.reduceLE, Int.toNat_zero, Int.reduceToNat, Int.cast_ofNat_Int, Int.natCast_zero, Int.natCast_one, Int.reduceAdd, List.map_append, Option.bind_some, hkf]
  refine (markBoolS_own hg4 (by omega)).mono ?_
  rintro r H6 ⟨rfl, hg6, hl6, hk6⟩
  have hv6 := hk6 0 _ hv4 (.inl (by omega))
  have hw6 : OwnAt H6 w0 1 (boolR (reachD c)) 1 H1.length := by
    rcases hw4 with h | ⟨id, ver, h0, h1, h2, h3⟩
    · exact .inl h
    · exact .inr ⟨id, ver, h0, h1, h2, hk6 _ _ h3 (.inl (by omega))⟩
  simp only [go_sem, Nat.reduceEqDiff, reduceIte, ↓reduceIte, Nat.reduceAdd, List.replicate_succ, List.replicate_zero, List.set_cons_zero, List.set_cons_succ, List.length_cons, List.length_nil, Nat.reduceLT, Nat.lt_add_one, ne_eq, Int.reduceEq, not_false_eq_true, Option.map_some, Nat.reduceLeDiff, Nat.zero_lt_succ, List.map_cons, List.map_nil, List.nil_append, List.cons_append, List.append_nil, bytesOf, List.take_succ_cons, List.take_zero, List.drop_zero, and_self, List.append_assoc, List.length_append, Int.reduceLT, Int.reduceLE, Int.toNat_zero, Int.reduceToNat, Int.cast_ofNat_Int, Int.natCast_zero, Int.natCast_one, Int.reduceAdd, List.map_append, Option.bind_some]
  refine (heldBoolS_own hg6 (by omega)).mono ?_
  rintro r H7 ⟨rfl, rfl⟩
  have hnn : decide (1 + ((reachD c).length : Int) < 0) = false := by simp; omega
  simp only [go_sem, Nat.reduceEqDiff, reduceIte, ↓reduceIte, Nat.reduceAdd, List.replicate_succ, List.replicate_zero, List.set_cons_zero, List.set_cons_succ, List.length_cons, List.length_nil, Nat.reduceLT, Nat.lt_add_one, ne_eq, Int.reduceEq, not_false_eq_true, Option.map_some, Nat.reduceLeDiff, Nat.zero_lt_succ, List.map_cons, List.map_nil, List.nil_append, List.cons_append, List.append_nil, bytesOf, List.take_succ_cons, List.take_zero, List.drop_zero, and_self, List.append_assoc, List.length_append, Int.reduceLT, Int.reduceLE, Int.toNat_zero, Int.reduceToNat, Int.cast_ofNat_Int, Int.natCast_zero, Int.natCast_one, Int.reduceAdd, List.map_append, Option.bind_some, hnn]
  simp only [go_sem, Nat.reduceEqDiff, reduceIte, ↓reduceIte, Nat.reduceAdd, List.replicate_succ, List.replicate_zero, List.set_cons_zero, List.set_cons_succ, List.length_cons, List.length_nil, Nat.reduceLT, Nat.lt_add_one, ne_eq, Int.reduceEq, not_false_eq_true, Option.map_some, Nat.reduceLeDiff, Nat.zero_lt_succ, List.map_cons, List.map_nil, List.nil_append, List.cons_append, List.append_nil, bytesOf, List.take_succ_cons, List.take_zero, List.drop_zero, and_self, List.append_assoc, List.length_append, Int.reduceLT, Int.reduceLE, Int.toNat_zero, Int.reduceToNat, Int.cast_ofNat_Int, Int.natCast_zero, Int.natCast_one, Int.reduceAdd, List.map_append, Option.bind_some, hv6, code_take]
  refine (toCode c hok hsm _).mono ?_
  rintro r H8 ⟨rfl, rfl⟩
  simp only [go_sem, Nat.reduceEqDiff, reduceIte, ↓reduceIte, Nat.reduceAdd, List.replicate_succ, List.replicate_zero, List.set_cons_zero, List.set_cons_succ, List.length_cons, List.length_nil, Nat.reduceLT, Nat.lt_add_one, ne_eq, Int.reduceEq, not_false_eq_true, Option.map_some, Nat.reduceLeDiff, Nat.zero_lt_succ, List.map_cons, List.map_nil, List.nil_append, List.cons_append, List.append_nil, bytesOf, List.take_succ_cons, List.take_zero, List.drop_zero, and_self, List.append_assoc, List.length_append, Int.reduceLT, Int.reduceLE, Int.toNat_zero, Int.reduceToNat, Int.cast_ofNat_Int, Int.natCast_zero, Int.natCast_one, Int.reduceAdd, List.map_append, Option.bind_some]
  refine (implReached c hf (lent_code c (codeO_get0 _ _) (codeO_get1 _ _))).mono ?_
  rintro g1 H9 ⟨A9, hH9, hg9⟩
  have hw9 : OwnAt H9 w0 1 (boolR (reachD c)) 1 H1.length := by rw [hH9]; exact (hw6.ext _).ext _
  have hp9 : OwnAt H9 g0 1 (boolR (patB 1 (reachD c).length)) (H1.length + 3) H'.length := by rw [hH9]; exact (hg6.ext _).ext _
  clear hH9
  simp only [go_sem, Nat.reduceEqDiff, reduceIte, ↓reduceIte, Nat.reduceAdd, List.replicate_succ, List.replicate_zero, List.set_cons_zero, List.set_cons_succ, List.length_cons, List.length_nil, Nat.reduceLT, Nat.lt_add_one, ne_eq, Int.reduceEq, not_false_eq_true, Option.map_some, Nat.reduceLeDiff, Nat.zero_lt_succ, List.map_cons, List.map_nil, List.nil_append, List.cons_append, List.append_nil, bytesOf, List.take_succ_cons, List.take_zero, List.drop_zero, and_self, List.append_assoc, List.length_append, Int.reduceLT, Int.reduceLE, Int.toNat_zero, Int.reduceToNat, Int.cast_ofNat_Int, Int.natCast_zero, Int.natCast_one, Int.reduceAdd, List.map_append, Option.bind_some]
  refine (eqBoolS_any _ _ hpm hpm (ownB_lent hg9.own) (ownB_lent hw9.own)).mono ?_
  rintro r H10 ⟨rfl, rfl⟩
  simp only [go_sem, Nat.reduceEqDiff, reduceIte, ↓reduceIte, Nat.reduceAdd, List.replicate_succ, List.replicate_zero, List.set_cons_zero, List.set_cons_succ, List.length_cons, List.length_nil, Nat.reduceLT, Nat.lt_add_one, ne_eq, Int.reduceEq, not_false_eq_true, Option.map_some, Nat.reduceLeDiff, Nat.zero_lt_succ, List.map_cons, List.map_nil, List.nil_append, List.cons_append, List.append_nil, bytesOf, List.take_succ_cons, List.take_zero, List.drop_zero, and_self, List.append_assoc, List.length_append, Int.reduceLT, Int.reduceLE, Int.toNat_zero, Int.reduceToNat, Int.cast_ofNat_Int, Int.natCast_zero, Int.natCast_one, Int.reduceAdd, List.map_append, Option.bind_some]
  refine (heldBoolS_own hp9 (by omega)).mono ?_
  rintro r H11 ⟨rfl, rfl⟩
  simp only [go_sem, Nat.reduceEqDiff, reduceIte, ↓reduceIte, Nat.reduceAdd, List.replicate_succ, List.replicate_zero, List.set_cons_zero, List.set_cons_succ, List.length_cons, List.length_nil, Nat.reduceLT, Nat.lt_add_one, ne_eq, Int.reduceEq, not_false_eq_true, Option.map_some, Nat.reduceLeDiff, Nat.zero_lt_succ, List.map_cons, List.map_nil, List.nil_append, List.cons_append, List.append_nil, bytesOf, List.take_succ_cons, List.take_zero, List.drop_zero, and_self, List.append_assoc, List.length_append, Int.reduceLT, Int.reduceLE, Int.toNat_zero, Int.reduceToNat, Int.cast_ofNat_Int, Int.natCast_zero, Int.natCast_one, Int.reduceAdd, List.map_append, Option.bind_some, hnn]
end Go.Proofs.Ytmbggdfceecojaa.Cd

/- Trim: the plain law; marks that are still held. -/
set_option linter.all false
namespace Go.Proofs.Ytmbggdfceecojaa.Cd
open Go.AM Mc Ho

/-- how many are reached ahead of a place -/
def pos (B : List Bool) : Nat → Nat
  | 0 => 0
  | i + 1 => pos B i + (if B[i]? = some true then 1 else 0)
theorem pos_le (B : List Bool) (i : Nat) : pos B i ≤ i := by
  induction i with
  | zero => exact Nat.le_refl _
  | succ i ih => unfold pos; split <;> omega
theorem pos_t {B : List Bool} {i : Nat} (h : B[i]? = some true) : pos B (i + 1) = pos B i + 1 := by rw [pos, if_pos h]
theorem pos_f {B : List Bool} {i : Nat} (h : B[i]? = some false) : pos B (i + 1) = pos B i := by rw [pos, if_neg (by rw [h]; simp)]; rfl
def kept (B : List Bool) (l : List InsD) : Nat → List InsD
  | 0 => []
  | i + 1 => kept B l i ++ (match l[i]? with | some x => if B[i]? = some true then [x] else [] | none => [])
theorem kept_t {B : List Bool} {l : List InsD} {i : Nat} (hi : i < l.length) (h : B[i]? = some true) : kept B l (i + 1) = kept B l i ++ [l[i]] := by
  rw [kept, List.getElem?_eq_getElem hi]; simp only [if_pos h]
theorem kept_f {B : List Bool} {l : List InsD} {i : Nat} (hi : i < l.length) (h : B[i]? = some false) : kept B l (i + 1) = kept B l i := by
  rw [kept, List.getElem?_eq_getElem hi]; simp [h]
theorem kept_len {B : List Bool} {l : List InsD} (hb : B.length = l.length) {i : Nat} (hi : i ≤ l.length) : (kept B l i).length = pos B i := by
  induction i with
  | zero => rfl
  | succ i ih =>
    have hil : i < l.length := hi
    have hib : i < B.length := by omega
    have e : B[i]? = some B[i] := List.getElem?_eq_getElem hib
    cases hB : B[i] with
    | true => rw [hB] at e; rw [kept_t hil e, pos_t e, List.length_append, ih (by omega)]; rfl
    | false => rw [hB] at e; rw [kept_f hil e, pos_f e, ih (by omega)]
theorem kept_mem {B : List Bool} {l : List InsD} {i : Nat} {x : InsD} (h : x ∈ kept B l i) : x ∈ l := by
  induction i with
  | zero => cases h
  | succ i ih =>
    rw [kept] at h
    rcases List.mem_append.1 h with h | h
    · exact ih h
    · split at h
      · rename_i y hy
        split at h
        · simp at h; subst h; exact List.mem_of_getElem? hy
        · cases h
      · cases h
theorem texts_app (a b : List InsD) : texts (a ++ b) = texts a + texts b := by
  induction a with
  | nil => simp [texts]
  | cons x a ih => simp only [List.cons_append, texts, ih]; omega
theorem kept_texts {B : List Bool} {l : List InsD} {i : Nat} (hi : i ≤ l.length) : texts (kept B l i) ≤ texts (l.take i) := by
  induction i with
  | zero => exact Nat.zero_le _
  | succ i ih =>
    have h1 := ih (by omega)
    have hil : i < l.length := hi
    rw [texts_take l hil, kept, List.getElem?_eq_getElem hil]
    simp only
    split
    · rw [texts_app]
      simp only [texts]
      omega
    · rw [List.append_nil]; omega

def reN (B : List Bool) (x : InsD) : InsD := if x.op = 11 ∨ x.op = 12 then { x with n := (pos B x.n.toNat : Int) } else x
theorem reN_text (B x) : (reN B x).text = x.text := by unfold reN; split <;> rfl
theorem texts_map (B : List Bool) (l : List InsD) : texts (l.map (reN B)) = texts l := by
  induction l with
  | nil => rfl
  | cons x l ih => simp only [List.map_cons, texts, ih, reN_text]
def reS (B : List Bool) (n : Nat) (s : Int) : Int := if B[s.toNat]? = some true then (pos B s.toNat : Int) else (n : Int) - 1
noncomputable def trimD (c : CodeD) : CodeD :=
  if codeOk c = true then ⟨(kept (reachD c) c.ins c.ins.length).map (reN (reachD c)), c.starts.map (reS (reachD c) (pos (reachD c) c.ins.length))⟩ else ⟨[], []⟩
theorem trimD_ok {c : CodeD} (h : okCode c) : okCode (trimD c) := by
  unfold trimD
  split
  · rename_i hc
    have hw := codeOk_wf hc
    have h1 := hw.le
    have h2 := hw.les
    have hb : (reachD c).length = c.ins.length := by unfold reachD; rw [if_pos hc]; simp
    refine ⟨⟨?_, ?_⟩, ?_⟩
    · rw [List.length_map, kept_len hb (Nat.le_refl _)]
      have := pos_le (reachD c) c.ins.length
      have := h.1.1
      omega
    · intro x hx
      obtain ⟨y, hy, rfl⟩ := List.mem_map.1 hx
      rw [reN_text]
      exact h.1.2 y (kept_mem hy)
    · simp only [List.length_map]; exact h.2
  · exact ⟨⟨by simp, fun x hx => by cases hx⟩, by simp⟩
theorem trimD_small {c : CodeD} (h : small c) : small (trimD c) := by
  unfold trimD
  split
  · rename_i hc
    have hb : (reachD c).length = c.ins.length := by unfold reachD; rw [if_pos hc]; simp
    have h0 := @kept_texts (reachD c) c.ins c.ins.length (Nat.le_refl _)
    have := pos_le (reachD c) c.ins.length
    rw [List.take_length] at h0
    unfold small at h ⊢
    rw [List.length_map, kept_len hb (Nat.le_refl _), texts_map, List.length_map]
    omega
  · simp [small, texts]

/-! a code whose slices are owned -/
def OwnC (H : List AO) (r : AV) (t : CodeD) : Prop := ∃ a b, r = .st [a, b] ∧ OwnR H a 6 (insR t.ins) ∧ OwnR H b 1 (intR .i64 t.starts)
def OwnCAt (H : List AO) (r : AV) (t : CodeD) (lo hi : Nat) : Prop := ∃ a b, r = .st [a, b] ∧ OwnAt H a 6 (insR t.ins) lo hi ∧ OwnAt H b 1 (intR .i64 t.starts) lo hi

theorem acall_ownC {f : Nat} {xs bs : List AV} {H : List AO} {t : CodeD} (h : ACall Try.prog f bs [] (fun r H' => OwnC H' r t)) (hl : LentAll H xs bs) :
    ACall Try.prog f xs H (fun r H' => ∃ A, H' = H ++ A ∧ OwnCAt H' r t H.length H'.length) := by
  refine acall_own h hl ?_
  rintro r H0 ⟨a, b, rfl, ha, hb⟩
  rcases ha with ⟨rfl, e1⟩ | ⟨i, u, rfl, h1⟩
  · rcases hb with ⟨rfl, e2⟩ | ⟨j, v, rfl, h2⟩
    · refine ⟨[], .st [.p .nl, .p .nl], [], by simp, rfl, .st _ _ rfl ?_, fun k id o hk => by simp at hk, [], rfl, _, _, rfl, .inl ⟨rfl, e1⟩, .inl ⟨rfl, e2⟩⟩
      intro k x y hx hy
      rw [hx] at hy; cases hy
      have := List.mem_of_getElem? hx
      simp at this; subst this; exact .g _ grnd_nl
    · refine ⟨[j], .st [.p .nl, .gs (H.length + 0) v 0 (intR .i64 t.starts).length], [.rows 1 v (intR .i64 t.starts)], by simp, rfl, .st _ _ rfl ?_, ?_, _, rfl, _, _, rfl, .inl ⟨rfl, e1⟩, .inr ⟨H.length, v, Nat.le_refl _, by simp, rfl, get_off0 _ _⟩⟩
      · intro k x y hx hy
        match k with
        | 0 => cases hx; cases hy; exact .g _ grnd_nl
        | 1 => cases hx; cases hy; exact .gs 0 j v _ _ rfl
        | k + 2 => simp at hx
      · intro k id o hk ho
        match k with
        | 0 => cases hk; cases ho; exact ⟨_, h2, renO_g (grnd_intR _ _)⟩
        | k + 1 => simp at hk
  · rcases hb with ⟨rfl, e2⟩ | ⟨j, v, rfl, h2⟩
    · refine ⟨[i], .st [.gs (H.length + 0) u 0 (insR t.ins).length, .p .nl], [.rows 6 u (insR t.ins)], by simp, rfl, .st _ _ rfl ?_, ?_, _, rfl, _, _, rfl, .inr ⟨H.length, u, Nat.le_refl _, by simp, rfl, get_off0 _ _⟩, .inl ⟨rfl, e2⟩⟩
      · intro k x y hx hy
        match k with
        | 0 => cases hx; cases hy; exact .gs 0 i u _ _ rfl
        | 1 => cases hx; cases hy; exact .g _ grnd_nl
        | k + 2 => simp at hx
      · intro k id o hk ho
        match k with
        | 0 => cases hk; cases ho; exact ⟨_, h1, renO_g (grnd_insR _)⟩
        | k + 1 => simp at hk
    · have hne : i ≠ j := by rintro rfl; rw [h1] at h2; cases h2
      refine ⟨[i, j], .st [.gs (H.length + 0) u 0 (insR t.ins).length, .gs (H.length + 1) v 0 (intR .i64 t.starts).length], [.rows 6 u (insR t.ins), .rows 1 v (intR .i64 t.starts)], by simp [hne], rfl, .st _ _ rfl ?_, ?_, _, rfl, _, _, rfl, .inr ⟨H.length, u, Nat.le_refl _, by simp, rfl, get_off0 _ _⟩, .inr ⟨H.length + 1, v, by omega, by simp, rfl, get_off _ _ 1⟩⟩
      · intro k x y hx hy
        match k with
        | 0 => cases hx; cases hy; exact .gs 0 i u _ _ rfl
        | 1 => cases hx; cases hy; exact .gs 1 j v _ _ rfl
        | k + 2 => simp at hx
      · intro k id o hk ho
        match k with
        | 0 => cases hk; cases ho; exact ⟨_, h1, renO_g (grnd_insR _)⟩
        | 1 => cases hk; cases ho; exact ⟨_, h2, renO_g (grnd_intR _ _)⟩
        | k + 2 => simp at hk

theorem lent_insv (l : List InsD) {H : List AO} {id ver : Nat} (hid : H[id]? = some (.rows 6 ver (insR l))) : Lent H (.gs id ver 0 l.length) (.p (.l (inss l))) := by
  refine .gs id ver 0 _ 6 _ (inss l) hid (by simp [insR]) (inss_len l) (fun y hy => by obtain ⟨z, _, rfl⟩ := List.mem_map.1 hy; rfl) ?_
  intro i r y j c q hr hy hc hq
  rw [Nat.zero_add, insR, List.getElem?_map] at hr
  rw [inss, List.getElem?_map] at hy
  cases hz : l[i]? with
  | none => rw [hz] at hr; cases hr
  | some z =>
    rw [hz] at hr hy
    cases hr; cases hy
    rw [List.getElem?_map, hq] at hc
    cases hc
    exact .pure _
theorem insR_len (l : List InsD) : (insR l).length = l.length := by simp [insR]
theorem intR_len' (k) (l : List Int) : (intR k l).length = l.length := by simp [intR]
theorem ownI_lent {H : List AO} {a : AV} {l : List InsD} (h : OwnR H a 6 (insR l)) : Lent H a (.p (.l (inss l))) := by
  rcases h with ⟨rfl, h⟩ | ⟨id, ver, rfl, h⟩
  · have : l = [] := by simpa [insR] using h
    subst this
    exact .nl
  · rw [insR_len]
    exact lent_insv l h
theorem ownZ_lent {H : List AO} {a : AV} {l : List Int} (h : OwnR H a 1 (intR .i64 l)) : Lent H a (.p (.l (ints l))) := by
  rcases h with ⟨rfl, h⟩ | ⟨id, ver, rfl, h⟩
  · have : l = [] := by simpa [intR] using h
    subst this
    exact .nl
  · rw [intR_len']
    exact lent_k .i64 l h
end Go.Proofs.Ytmbggdfceecojaa.Cd

/- THE SMALL CODES of functions 6 33 34 35 49 84, and their ties to the program (printed by wip/tools/mkties.sh). -/
set_option linter.all false
namespace Go.Proofs.Ytmbggdfceecojaa.Mc
open Go.AM
def lv6 : List Nat := [0, 1, 2, 3, 4, 5, 6, 7, 8, 9, 10, 15, 26, 31, 42, 50, 53, 60, 65, 68]
def mc6 : MC :=
.seq (.reg [
    ⟨.l 1, .box 2 (.l 0), none⟩,
    ⟨.l 2, .mv (.c (.p (.b false))), none⟩]) (
  .seq (.reg [
    ⟨.l 3, .mv (.c (.p (.i .i64 1048576))), none⟩]) (
  .seq (.reg [
    ⟨.t 11, .ld true 2 (.l 1), none⟩,
    ⟨.t 12, .mv (.l 3), none⟩,
    ⟨.t 13, .call 19 [.t 11, .t 12], none⟩,
    ⟨.l 3, .mv (.t 13), none⟩]) (
  .seq (.seq (.reg [
    ⟨.t 14, .mv (.l 3), none⟩,
    ⟨.l 15, .bin .lss (.t 14) (.c (.p (.i .i64 0))), none⟩]) (
  .cond (.l 15) (
    .seq (.reg [
      ⟨.l 2, .mv (.c (.p (.b true))), none⟩]) (
    .ret)) (
    .skip))) (
  .seq (.reg [
    ⟨.t 16, .ld true 2 (.l 1), none⟩,
    ⟨.t 17, .call 21 [.t 16], none⟩,
    ⟨.t 18, .call 33 [.t 17], none⟩,
    ⟨.l 4, .alloc [.p (.nl), .p (.nl)], none⟩,
    ⟨.no, .sto 2 (.l 4) (.t 18), none⟩]) (
  .seq (.reg [
    ⟨.t 19, .ld true 2 (.l 1), none⟩,
    ⟨.t 20, .call 21 [.t 19], none⟩,
    ⟨.l 5, .alloc [.p (.nl), .p (.nl)], none⟩,
    ⟨.no, .sto 2 (.l 5) (.t 20), none⟩]) (
  .seq (.reg [
    ⟨.t 21, .ld true 2 (.l 5), none⟩,
    ⟨.t 22, .call 34 [.t 21], none⟩,
    ⟨.l 6, .alloc [.p (.nl), .p (.nl)], none⟩,
    ⟨.no, .sto 2 (.l 6) (.t 22), none⟩]) (
  .seq (.seq (.reg [
    ⟨.t 23, .ld true 2 (.l 6), none⟩,
    ⟨.t 24, .ld true 2 (.l 4), none⟩,
    ⟨.t 25, .call 24 [.t 23, .t 24], none⟩,
    ⟨.l 26, .un .not (.t 25), none⟩]) (
  .cond (.l 26) (
    .seq (.reg [
      ⟨.l 2, .mv (.c (.p (.b false))), none⟩]) (
    .ret)) (
    .skip))) (
  .seq (.seq (.drw [
    ⟨.t 27, .ld true 2 (.l 5), none⟩,
    ⟨.t 28, .ld true 2 (.l 1), none⟩,
    ⟨.t 29, .call 21 [.t 28], none⟩] [
    ⟨.t 30, .call 24 [.t 27, .t 29], none⟩,
    ⟨.l 31, .un .not (.t 30), none⟩]) (
  .cond (.l 31) (
    .seq (.reg [
      ⟨.l 2, .mv (.c (.p (.b false))), none⟩]) (
    .ret)) (
    .skip))) (
  .seq (.reg [
    ⟨.l 7, .mv (.c (.p (.i .i64 1))), none⟩]) (
  .seq (.reg [
    ⟨.t 32, .ld true 2 (.l 5), none⟩,
    ⟨.t 33, .mv (.l 7), none⟩,
    ⟨.t 34, .call 25 [.t 32, .t 33], none⟩,
    ⟨.l 7, .mv (.t 34), none⟩]) (
  .seq (.seq (.reg [
    ⟨.t 35, .mv (.l 7), none⟩,
    ⟨.t 36, .bin .lss (.t 35) (.c (.p (.i .i64 0))), none⟩,
    ⟨.t 37, .mv (.t 36), none⟩,
    ⟨.t 38, .ld true 2 (.l 6), some ((.t 37), false)⟩,
    ⟨.t 39, .ld true 2 (.l 4), some ((.t 37), false)⟩,
    ⟨.t 40, .call 24 [.t 38, .t 39], some ((.t 37), false)⟩,
    ⟨.t 41, .un .not (.t 40), some ((.t 37), false)⟩,
    ⟨.l 42, .pick (.t 37) (.c (.p (.b true))) (.t 41), none⟩]) (
  .cond (.l 42) (
    .seq (.reg [
      ⟨.l 2, .mv (.c (.p (.b false))), none⟩]) (
    .ret)) (
    .skip))) (
  .seq (.reg [
    ⟨.l 8, .mv (.c (.p (.i .i64 1))), none⟩]) (
  .seq (.reg [
    ⟨.t 43, .ld true 2 (.l 6), none⟩,
    ⟨.t 44, .mv (.l 8), none⟩,
    ⟨.t 45, .call 25 [.t 43, .t 44], none⟩,
    ⟨.l 8, .mv (.t 45), none⟩]) (
  .seq (.reg [
    ⟨.l 9, .mv (.c (.p (.i .i64 1))), none⟩]) (
  .seq (.reg [
    ⟨.t 46, .ld true 2 (.l 6), none⟩,
    ⟨.t 47, .mv (.l 9), none⟩,
    ⟨.t 48, .call 35 [.t 46, .t 47], none⟩,
    ⟨.l 9, .mv (.t 48), none⟩]) (
  .seq (.seq (.reg [
    ⟨.t 49, .mv (.l 9), none⟩,
    ⟨.l 50, .bin .lss (.t 49) (.c (.p (.i .i64 0))), none⟩]) (
  .cond (.l 50) (
    .seq (.reg [
      ⟨.l 2, .mv (.c (.p (.b false))), none⟩]) (
    .ret)) (
    .skip))) (
  .seq (.seq (.reg [
    ⟨.t 51, .mv (.l 9), none⟩,
    ⟨.t 52, .mv (.l 8), none⟩,
    ⟨.l 53, .bin .neq (.t 51) (.t 52), none⟩]) (
  .cond (.l 53) (
    .seq (.reg [
      ⟨.l 2, .mv (.c (.p (.b false))), none⟩]) (
    .ret)) (
    .skip))) (
  .seq (.reg [
    ⟨.t 54, .ld true 2 (.l 1), none⟩,
    ⟨.t 55, .call 21 [.t 54], none⟩,
    ⟨.t 56, .call 34 [.t 55], none⟩,
    ⟨.l 10, .alloc [.p (.nl), .p (.nl)], none⟩,
    ⟨.no, .sto 2 (.l 10) (.t 56), none⟩]) (
  .seq (.seq (.reg [
    ⟨.t 57, .ld true 2 (.l 10), none⟩,
    ⟨.t 58, .ld true 2 (.l 4), none⟩,
    ⟨.t 59, .call 24 [.t 57, .t 58], none⟩,
    ⟨.l 60, .un .not (.t 59), none⟩]) (
  .cond (.l 60) (
    .seq (.reg [
      ⟨.l 2, .mv (.c (.p (.b false))), none⟩]) (
    .ret)) (
    .skip))) (
  .seq (.reg [
    ⟨.l 9, .mv (.c (.p (.i .i64 1))), none⟩]) (
  .seq (.reg [
    ⟨.t 61, .ld true 2 (.l 6), none⟩,
    ⟨.t 62, .mv (.l 9), none⟩,
    ⟨.t 63, .call 35 [.t 61, .t 62], none⟩,
    ⟨.l 9, .mv (.t 63), none⟩]) (
  .seq (.seq (.reg [
    ⟨.t 64, .mv (.l 9), none⟩,
    ⟨.l 65, .bin .lss (.t 64) (.c (.p (.i .i64 0))), none⟩]) (
  .cond (.l 65) (
    .seq (.reg [
      ⟨.l 2, .mv (.c (.p (.b false))), none⟩]) (
    .ret)) (
    .skip))) (
  .seq (.seq (.reg [
    ⟨.t 66, .mv (.l 9), none⟩,
    ⟨.t 67, .mv (.l 8), none⟩,
    ⟨.l 68, .bin .neq (.t 66) (.t 67), none⟩]) (
  .cond (.l 68) (
    .seq (.reg [
      ⟨.l 2, .mv (.c (.p (.b false))), none⟩]) (
    .ret)) (
    .skip))) (
  .seq (.reg [
    ⟨.l 2, .mv (.c (.p (.b true))), none⟩]) (
  .ret)))))))))))))))))))))))))
theorem mc6_eq : (Try.f6.body.map (compile lv6 Try.prog 69)) = some mc6 := by kernel_rfl
def mr6 : List MR := [.t 2]
theorem mr6_eq : cRess lv6 Try.prog Try.f6.results.toList = some mr6 := by kernel_rfl
theorem call6 {args : List AV} {H : List AO} {Q : AV → List AO → Prop} (hla : args.length ≤ 69) (h : wpm (ACall Try.prog) mc6 (finK mr6 Q) ⟨argEnv 0 args, [], H⟩) : ACall Try.prog 6 args H Q :=
  acall_mc (by kernel_rfl) Try.func6 mc6_eq Try.ntmps6 (by kernel_rfl) mr6_eq hla h
def lv33 : List Nat := [0, 1, 2, 3, 4, 5, 6, 7, 8, 9, 10, 13, 21, 31, 39, 51, 59, 76, 86]
def mc33 : MC :=
.seq (.reg [
    ⟨.l 1, .box 2 (.l 0), none⟩,
    ⟨.l 2, .alloc [.p (.nl), .p (.nl)], none⟩]) (
  .seq (.seq (.reg [
    ⟨.t 11, .ld true 2 (.l 1), none⟩,
    ⟨.t 12, .call 70 [.t 11], none⟩,
    ⟨.l 13, .un .not (.t 12), none⟩]) (
  .cond (.l 13) (
    .seq (.reg [
      ⟨.t 14, .build [.p (.nl), .p (.nl)] [], none⟩,
      ⟨.no, .sto 2 (.l 2) (.t 14), none⟩]) (
    .ret)) (
    .skip))) (
  .seq (.reg [
    ⟨.t 15, .ld true 2 (.l 1), none⟩,
    ⟨.t 16, .call 28 [.t 15], none⟩,
    ⟨.l 3, .mv (.t 16), none⟩]) (
  .seq (.reg [
    ⟨.t 17, .bsl 1 [.p (.i .i64 0)] 0 [], none⟩,
    ⟨.l 4, .mv (.t 17), none⟩]) (
  .seq (.reg [
    ⟨.l 5, .mv (.c (.p (.i .i64 0))), none⟩]) (
  .seq (.seq (.reg [
    ⟨.l 6, .mv (.c (.p (.i .i64 0))), none⟩]) (
  .blk 0 (
    .loop (
      .seq (.seq (.reg [
        ⟨.t 18, .mv (.l 6), none⟩,
        ⟨.t 19, .mv (.l 3), none⟩,
        ⟨.t 20, .len false (.t 19), none⟩,
        ⟨.l 21, .bin .lss (.t 18) (.t 20), none⟩]) (
      .cond (.l 21) (
        .skip) (
        .exit 0))) (
      .seq (.blk 1 (
        .seq (.reg [
          ⟨.t 24, .mv (.l 4), none⟩,
          ⟨.t 25, .mv (.l 5), none⟩,
          ⟨.t 26, .bsl 1 [.p (.i .i64 0)] 1 [(0, (.t 25))], none⟩,
          ⟨.t 27, .app 1 8 (.t 24) (.t 26), none⟩,
          ⟨.l 4, .mv (.t 27), none⟩]) (
        .seq (.reg [
          ⟨.t 28, .mv (.l 3), none⟩,
          ⟨.t 29, .mv (.l 6), none⟩,
          ⟨.t 30, .ixs 1 (.t 28) (.t 29), none⟩,
          ⟨.l 31, .ld false 1 (.t 30), none⟩]) (
        .cond (.l 31) (
          .reg [
            ⟨.t 32, .mv (.l 5), none⟩,
            ⟨.t 33, .bin .add (.t 32) (.c (.p (.i .i64 1))), none⟩,
            ⟨.l 5, .mv (.t 33), none⟩]) (
          .skip))))) (
      .reg [
        ⟨.t 22, .mv (.l 6), none⟩,
        ⟨.t 23, .bin .add (.t 22) (.c (.p (.i .i64 1))), none⟩,
        ⟨.l 6, .mv (.t 23), none⟩])))))) (
  .seq (.reg [
    ⟨.t 34, .build [.p (.nl), .p (.nl)] [], none⟩,
    ⟨.l 7, .alloc [.p (.nl), .p (.nl)], none⟩,
    ⟨.no, .sto 2 (.l 7) (.t 34), none⟩]) (
  .seq (.seq (.reg [
    ⟨.l 8, .mv (.c (.p (.i .i64 0))), none⟩]) (
  .blk 2 (
    .loop (
      .seq (.seq (.reg [
        ⟨.t 35, .mv (.l 8), none⟩,
        ⟨.t 36, .fad 0 (.l 1), none⟩,
        ⟨.t 37, .ld false 1 (.t 36), none⟩,
        ⟨.t 38, .len false (.t 37), none⟩,
        ⟨.l 39, .bin .lss (.t 35) (.t 38), none⟩]) (
      .cond (.l 39) (
        .skip) (
        .exit 2))) (
      .seq (.blk 3 (
        .seq (.reg [
          ⟨.t 42, .fad 0 (.l 1), none⟩,
          ⟨.t 43, .ld false 1 (.t 42), none⟩,
          ⟨.t 44, .mv (.l 8), none⟩,
          ⟨.t 45, .ixs 6 (.t 43) (.t 44), none⟩,
          ⟨.t 46, .ld true 6 (.t 45), none⟩,
          ⟨.l 9, .alloc [.p (.i .i64 0), .p (.i .i64 0), .p (.i .i64 0), .p (.i .i64 0), .p (.i .i64 0), .p (.s [])], none⟩,
          ⟨.no, .sto 6 (.l 9) (.t 46), none⟩]) (
        .seq (.seq (.reg [
          ⟨.t 47, .mv (.l 3), none⟩,
          ⟨.t 48, .mv (.l 8), none⟩,
          ⟨.t 49, .ixs 1 (.t 47) (.t 48), none⟩,
          ⟨.t 50, .ld false 1 (.t 49), none⟩,
          ⟨.l 51, .un .not (.t 50), none⟩]) (
        .cond (.l 51) (
          .exit 3) (
          .skip))) (
        .seq (.seq (.reg [
          ⟨.t 52, .fad 0 (.l 9), none⟩,
          ⟨.t 53, .ld false 1 (.t 52), none⟩,
          ⟨.t 54, .bin .eql (.t 53) (.c (.p (.i .i64 11))), none⟩,
          ⟨.t 55, .mv (.t 54), none⟩,
          ⟨.t 56, .fad 0 (.l 9), some ((.t 55), false)⟩,
          ⟨.t 57, .ld false 1 (.t 56), some ((.t 55), false)⟩,
          ⟨.t 58, .bin .eql (.t 57) (.c (.p (.i .i64 12))), some ((.t 55), false)⟩,
          ⟨.l 59, .pick (.t 55) (.c (.p (.b true))) (.t 58), none⟩]) (
        .cond (.l 59) (
          .reg [
            ⟨.t 60, .mv (.l 4), none⟩,
            ⟨.t 61, .fad 4 (.l 9), none⟩,
            ⟨.t 62, .ld false 1 (.t 61), none⟩,
            ⟨.t 63, .ixs 1 (.t 60) (.t 62), none⟩,
            ⟨.t 64, .ld false 1 (.t 63), none⟩,
            ⟨.t 65, .fad 4 (.l 9), none⟩,
            ⟨.no, .sto 1 (.t 65) (.t 64), none⟩]) (
          .skip))) (
        .reg [
          ⟨.t 66, .fad 0 (.l 7), none⟩,
          ⟨.t 67, .ld false 1 (.t 66), none⟩,
          ⟨.t 68, .ld true 6 (.l 9), none⟩,
          ⟨.t 69, .bsl 6 [.p (.i .i64 0), .p (.i .i64 0), .p (.i .i64 0), .p (.i .i64 0), .p (.i .i64 0), .p (.s [])] 1 [(0, (.t 68))], none⟩,
          ⟨.t 70, .app 6 56 (.t 67) (.t 69), none⟩,
          ⟨.t 71, .fad 0 (.l 7), none⟩,
          ⟨.no, .sto 1 (.t 71) (.t 70), none⟩]))))) (
      .reg [
        ⟨.t 40, .mv (.l 8), none⟩,
        ⟨.t 41, .bin .add (.t 40) (.c (.p (.i .i64 1))), none⟩,
        ⟨.l 8, .mv (.t 41), none⟩])))))) (
  .seq (.seq (.reg [
    ⟨.l 10, .mv (.c (.p (.i .i64 0))), none⟩]) (
  .blk 4 (
    .loop (
      .seq (.seq (.reg [
        ⟨.t 72, .mv (.l 10), none⟩,
        ⟨.t 73, .fad 1 (.l 1), none⟩,
        ⟨.t 74, .ld false 1 (.t 73), none⟩,
        ⟨.t 75, .len false (.t 74), none⟩,
        ⟨.l 76, .bin .lss (.t 72) (.t 75), none⟩]) (
      .cond (.l 76) (
        .skip) (
        .exit 4))) (
      .seq (.blk 5 (
        .seq (.reg [
          ⟨.t 79, .mv (.l 3), none⟩,
          ⟨.t 80, .fad 1 (.l 1), none⟩,
          ⟨.t 81, .ld false 1 (.t 80), none⟩,
          ⟨.t 82, .mv (.l 10), none⟩,
          ⟨.t 83, .ixs 1 (.t 81) (.t 82), none⟩,
          ⟨.t 84, .ld false 1 (.t 83), none⟩,
          ⟨.t 85, .ixs 1 (.t 79) (.t 84), none⟩,
          ⟨.l 86, .ld false 1 (.t 85), none⟩]) (
        .cond (.l 86) (
          .drw [
            ⟨.t 87, .fad 1 (.l 7), none⟩,
            ⟨.t 88, .ld false 1 (.t 87), none⟩,
            ⟨.t 89, .mv (.l 4), none⟩,
            ⟨.t 90, .fad 1 (.l 1), none⟩,
            ⟨.t 91, .ld false 1 (.t 90), none⟩,
            ⟨.t 92, .mv (.l 10), none⟩,
            ⟨.t 93, .ixs 1 (.t 91) (.t 92), none⟩,
            ⟨.t 94, .ld false 1 (.t 93), none⟩,
            ⟨.t 95, .ixs 1 (.t 89) (.t 94), none⟩,
            ⟨.t 96, .ld false 1 (.t 95), none⟩,
            ⟨.t 97, .bsl 1 [.p (.i .i64 0)] 1 [(0, (.t 96))], none⟩] [
            ⟨.t 98, .app 1 8 (.t 88) (.t 97), none⟩,
            ⟨.t 99, .fad 1 (.l 7), none⟩,
            ⟨.no, .sto 1 (.t 99) (.t 98), none⟩]) (
          .reg [
            ⟨.t 100, .fad 1 (.l 7), none⟩,
            ⟨.t 101, .ld false 1 (.t 100), none⟩,
            ⟨.t 102, .mv (.l 5), none⟩,
            ⟨.t 103, .bin .sub (.t 102) (.c (.p (.i .i64 1))), none⟩,
            ⟨.t 104, .bsl 1 [.p (.i .i64 0)] 1 [(0, (.t 103))], none⟩,
            ⟨.t 105, .app 1 8 (.t 101) (.t 104), none⟩,
            ⟨.t 106, .fad 1 (.l 7), none⟩,
            ⟨.no, .sto 1 (.t 106) (.t 105), none⟩])))) (
      .reg [
        ⟨.t 77, .mv (.l 10), none⟩,
        ⟨.t 78, .bin .add (.t 77) (.c (.p (.i .i64 1))), none⟩,
        ⟨.l 10, .mv (.t 78), none⟩])))))) (
  .seq (.reg [
    ⟨.t 107, .ld true 2 (.l 7), none⟩,
    ⟨.no, .sto 2 (.l 2) (.t 107), none⟩]) (
  .ret))))))))))
theorem mc33_eq : (Try.f33.body.map (compile lv33 Try.prog 108)) = some mc33 := by kernel_rfl
def mr33 : List MR := [.cell true 2 2]
theorem mr33_eq : cRess lv33 Try.prog Try.f33.results.toList = some mr33 := by kernel_rfl
theorem call33 {args : List AV} {H : List AO} {Q : AV → List AO → Prop} (hla : args.length ≤ 108) (h : wpm (ACall Try.prog) mc33 (finK mr33 Q) ⟨argEnv 0 args, [], H⟩) : ACall Try.prog 33 args H Q :=
  acall_mc (by kernel_rfl) Try.func33 mc33_eq Try.ntmps33 (by kernel_rfl) mr33_eq hla h
def lv34 : List Nat := [0, 1, 2, 3, 4, 5, 6, 7, 8, 9, 11, 15, 22, 23, 24, 25, 38, 47, 48, 49, 50, 61, 74, 75, 76, 77, 83]
def mc34 : MC :=
.seq (.reg [
    ⟨.l 1, .box 2 (.l 0), none⟩,
    ⟨.l 2, .alloc [.p (.nl), .p (.nl)], none⟩]) (
  .seq (.reg [
    ⟨.t 12, .ld true 2 (.l 1), none⟩,
    ⟨.t 13, .call 29 [.t 12], none⟩,
    ⟨.l 3, .mv (.t 13), none⟩]) (
  .seq (.seq (.reg [
    ⟨.t 14, .mv (.l 3), none⟩,
    ⟨.l 15, .nilq true false (.t 14), none⟩]) (
  .cond (.l 15) (
    .seq (.reg [
      ⟨.t 16, .build [.p (.nl), .p (.nl)] [], none⟩,
      ⟨.no, .sto 2 (.l 2) (.t 16), none⟩]) (
    .ret)) (
    .skip))) (
  .seq (.reg [
    ⟨.t 17, .fad 0 (.l 1), none⟩,
    ⟨.t 18, .ld false 1 (.t 17), none⟩,
    ⟨.t 19, .len false (.t 18), none⟩,
    ⟨.t 20, .mks 1 8 [.p (.i .i64 0)] (.t 19) (.t 19), none⟩,
    ⟨.l 4, .mv (.t 20), none⟩]) (
  .seq (.reg [
    ⟨.l 5, .alloc [.p (.nl), .p (.nl)], none⟩]) (
  .seq (.seq (.reg [
    ⟨.t 21, .fad 0 (.l 1), none⟩,
    ⟨.l 22, .ld false 1 (.t 21), none⟩,
    ⟨.l 23, .len false (.l 22), none⟩,
    ⟨.l 24, .mv (.c (.p (.i .i64 0))), none⟩]) (
  .blk 0 (
    .loop (
      .seq (.reg [
        ⟨.l 25, .bin .lss (.l 24) (.l 23), none⟩]) (
      .seq (.cond (.l 25) (
        .skip) (
        .exit 0)) (
      .seq (.blk 1 (
        .seq (.reg [
          ⟨.t 26, .mv (.l 24), none⟩,
          ⟨.t 27, .ixs 6 (.l 22) (.l 24), none⟩,
          ⟨.t 28, .ld true 6 (.t 27), none⟩,
          ⟨.l 7, .alloc [.p (.i .i64 0), .p (.i .i64 0), .p (.i .i64 0), .p (.i .i64 0), .p (.i .i64 0), .p (.s [])], none⟩,
          ⟨.l 6, .mv (.t 26), none⟩,
          ⟨.no, .sto 6 (.l 7) (.t 28), none⟩]) (
        .seq (.reg [
          ⟨.t 29, .mv (.l 4), none⟩,
          ⟨.t 30, .mv (.l 6), none⟩,
          ⟨.t 31, .fad 0 (.l 5), none⟩,
          ⟨.t 32, .ld false 1 (.t 31), none⟩,
          ⟨.t 33, .len false (.t 32), none⟩,
          ⟨.t 34, .ixs 1 (.t 29) (.t 30), none⟩,
          ⟨.no, .sto 1 (.t 34) (.t 33), none⟩]) (
        .seq (.reg [
          ⟨.t 35, .mv (.l 3), none⟩,
          ⟨.t 36, .mv (.l 6), none⟩,
          ⟨.t 37, .ixs 1 (.t 35) (.t 36), none⟩,
          ⟨.l 38, .ld false 1 (.t 37), none⟩]) (
        .cond (.l 38) (
          .reg [
            ⟨.t 39, .fad 0 (.l 5), none⟩,
            ⟨.t 40, .ld false 1 (.t 39), none⟩,
            ⟨.t 41, .ld true 6 (.l 7), none⟩,
            ⟨.t 42, .bsl 6 [.p (.i .i64 0), .p (.i .i64 0), .p (.i .i64 0), .p (.i .i64 0), .p (.i .i64 0), .p (.s [])] 1 [(0, (.t 41))], none⟩,
            ⟨.t 43, .app 6 56 (.t 40) (.t 42), none⟩,
            ⟨.t 44, .fad 0 (.l 5), none⟩,
            ⟨.no, .sto 1 (.t 44) (.t 43), none⟩]) (
          .skip)))))) (
      .reg [
        ⟨.t 45, .bin .add (.l 24) (.c (.p (.i .i64 1))), none⟩,
        ⟨.l 24, .mv (.t 45), none⟩]))))))) (
  .seq (.seq (.reg [
    ⟨.t 46, .fad 0 (.l 5), none⟩,
    ⟨.l 47, .ld false 1 (.t 46), none⟩,
    ⟨.l 48, .len false (.l 47), none⟩,
    ⟨.l 49, .mv (.c (.p (.i .i64 0))), none⟩]) (
  .blk 2 (
    .loop (
      .seq (.reg [
        ⟨.l 50, .bin .lss (.l 49) (.l 48), none⟩]) (
      .seq (.cond (.l 50) (
        .skip) (
        .exit 2)) (
      .seq (.blk 3 (
        .seq (.reg [
          ⟨.t 51, .mv (.l 49), none⟩,
          ⟨.t 52, .ixs 6 (.l 47) (.l 49), none⟩,
          ⟨.t 53, .ld true 6 (.t 52), none⟩,
          ⟨.l 9, .alloc [.p (.i .i64 0), .p (.i .i64 0), .p (.i .i64 0), .p (.i .i64 0), .p (.i .i64 0), .p (.s [])], none⟩,
          ⟨.l 8, .mv (.t 51), none⟩,
          ⟨.no, .sto 6 (.l 9) (.t 53), none⟩]) (
        .seq (.reg [
          ⟨.t 54, .fad 0 (.l 9), none⟩,
          ⟨.t 55, .ld false 1 (.t 54), none⟩,
          ⟨.t 56, .bin .eql (.t 55) (.c (.p (.i .i64 11))), none⟩,
          ⟨.t 57, .mv (.t 56), none⟩,
          ⟨.t 58, .fad 0 (.l 9), some ((.t 57), false)⟩,
          ⟨.t 59, .ld false 1 (.t 58), some ((.t 57), false)⟩,
          ⟨.t 60, .bin .eql (.t 59) (.c (.p (.i .i64 12))), some ((.t 57), false)⟩,
          ⟨.l 61, .pick (.t 57) (.c (.p (.b true))) (.t 60), none⟩]) (
        .cond (.l 61) (
          .drw [
            ⟨.t 62, .fad 0 (.l 5), none⟩,
            ⟨.t 63, .ld false 1 (.t 62), none⟩,
            ⟨.t 64, .mv (.l 8), none⟩,
            ⟨.t 65, .mv (.l 4), none⟩,
            ⟨.t 66, .fad 4 (.l 9), none⟩,
            ⟨.t 67, .ld false 1 (.t 66), none⟩,
            ⟨.t 68, .ixs 1 (.t 65) (.t 67), none⟩,
            ⟨.t 69, .ld false 1 (.t 68), none⟩] [
            ⟨.t 70, .ixs 6 (.t 63) (.t 64), none⟩,
            ⟨.t 71, .fad 4 (.t 70), none⟩,
            ⟨.no, .sto 1 (.t 71) (.t 69), none⟩]) (
          .skip))))) (
      .reg [
        ⟨.t 72, .bin .add (.l 49) (.c (.p (.i .i64 1))), none⟩,
        ⟨.l 49, .mv (.t 72), none⟩]))))))) (
  .seq (.seq (.reg [
    ⟨.t 73, .fad 1 (.l 1), none⟩,
    ⟨.l 74, .ld false 1 (.t 73), none⟩,
    ⟨.l 75, .len false (.l 74), none⟩,
    ⟨.l 76, .mv (.c (.p (.i .i64 0))), none⟩]) (
  .blk 4 (
    .loop (
      .seq (.reg [
        ⟨.l 77, .bin .lss (.l 76) (.l 75), none⟩]) (
      .seq (.cond (.l 77) (
        .skip) (
        .exit 4)) (
      .seq (.blk 5 (
        .seq (.reg [
          ⟨.t 78, .ixs 1 (.l 74) (.l 76), none⟩,
          ⟨.t 79, .ld false 1 (.t 78), none⟩,
          ⟨.l 11, .mv (.t 79), none⟩]) (
        .seq (.reg [
          ⟨.t 80, .mv (.l 3), none⟩,
          ⟨.t 81, .mv (.l 11), none⟩,
          ⟨.t 82, .ixs 1 (.t 80) (.t 81), none⟩,
          ⟨.l 83, .ld false 1 (.t 82), none⟩]) (
        .cond (.l 83) (
          .drw [
            ⟨.t 84, .fad 1 (.l 5), none⟩,
            ⟨.t 85, .ld false 1 (.t 84), none⟩,
            ⟨.t 86, .mv (.l 4), none⟩,
            ⟨.t 87, .mv (.l 11), none⟩,
            ⟨.t 88, .ixs 1 (.t 86) (.t 87), none⟩,
            ⟨.t 89, .ld false 1 (.t 88), none⟩,
            ⟨.t 90, .bsl 1 [.p (.i .i64 0)] 1 [(0, (.t 89))], none⟩] [
            ⟨.t 91, .app 1 8 (.t 85) (.t 90), none⟩,
            ⟨.t 92, .fad 1 (.l 5), none⟩,
            ⟨.no, .sto 1 (.t 92) (.t 91), none⟩]) (
          .reg [
            ⟨.t 93, .fad 1 (.l 5), none⟩,
            ⟨.t 94, .ld false 1 (.t 93), none⟩,
            ⟨.t 95, .fad 0 (.l 5), none⟩,
            ⟨.t 96, .ld false 1 (.t 95), none⟩,
            ⟨.t 97, .len false (.t 96), none⟩,
            ⟨.t 98, .bin .sub (.t 97) (.c (.p (.i .i64 1))), none⟩,
            ⟨.t 99, .bsl 1 [.p (.i .i64 0)] 1 [(0, (.t 98))], none⟩,
            ⟨.t 100, .app 1 8 (.t 94) (.t 99), none⟩,
            ⟨.t 101, .fad 1 (.l 5), none⟩,
            ⟨.no, .sto 1 (.t 101) (.t 100), none⟩]))))) (
      .reg [
        ⟨.t 102, .bin .add (.l 76) (.c (.p (.i .i64 1))), none⟩,
        ⟨.l 76, .mv (.t 102), none⟩]))))))) (
  .seq (.reg [
    ⟨.t 103, .ld true 2 (.l 5), none⟩,
    ⟨.no, .sto 2 (.l 2) (.t 103), none⟩]) (
  .ret)))))))))
theorem mc34_eq : (Try.f34.body.map (compile lv34 Try.prog 104)) = some mc34 := by kernel_rfl
def mr34 : List MR := [.cell true 2 2]
theorem mr34_eq : cRess lv34 Try.prog Try.f34.results.toList = some mr34 := by kernel_rfl
theorem call34 {args : List AV} {H : List AO} {Q : AV → List AO → Prop} (hla : args.length ≤ 104) (h : wpm (ACall Try.prog) mc34 (finK mr34 Q) ⟨argEnv 0 args, [], H⟩) : ACall Try.prog 34 args H Q :=
  acall_mc (by kernel_rfl) Try.func34 mc34_eq Try.ntmps34 (by kernel_rfl) mr34_eq hla h
def lv35 : List Nat := [0, 1, 2, 4, 10, 16]
def mc35 : MC :=
.seq (.reg [
    ⟨.l 2, .box 2 (.l 0), none⟩,
    ⟨.l 4, .mv (.c (.p (.i .i64 0))), none⟩]) (
  .seq (.reg [
    ⟨.t 5, .fad 0 (.l 2), none⟩,
    ⟨.t 6, .ld false 1 (.t 5), none⟩,
    ⟨.t 7, .mv (.l 1), none⟩,
    ⟨.t 8, .call 84 [.t 6, .t 7], none⟩,
    ⟨.l 1, .mv (.t 8), none⟩]) (
  .seq (.seq (.reg [
    ⟨.t 9, .mv (.l 1), none⟩,
    ⟨.l 10, .bin .lss (.t 9) (.c (.p (.i .i64 0))), none⟩]) (
  .cond (.l 10) (
    .seq (.reg [
      ⟨.l 4, .mv (.c (.p (.i .i64 (-1)))), none⟩]) (
    .ret)) (
    .skip))) (
  .seq (.reg [
    ⟨.t 11, .fad 1 (.l 2), none⟩,
    ⟨.t 12, .ld false 1 (.t 11), none⟩,
    ⟨.t 13, .mv (.l 1), none⟩,
    ⟨.t 14, .call 49 [.t 12, .t 13], none⟩,
    ⟨.l 1, .mv (.t 14), none⟩]) (
  .seq (.seq (.reg [
    ⟨.t 15, .mv (.l 1), none⟩,
    ⟨.l 16, .bin .lss (.t 15) (.c (.p (.i .i64 0))), none⟩]) (
  .cond (.l 16) (
    .seq (.reg [
      ⟨.l 4, .mv (.c (.p (.i .i64 (-1)))), none⟩]) (
    .ret)) (
    .skip))) (
  .seq (.reg [
    ⟨.t 17, .mv (.l 1), none⟩,
    ⟨.l 4, .mv (.t 17), none⟩]) (
  .ret))))))
theorem mc35_eq : (Try.f35.body.map (compile lv35 Try.prog 18)) = some mc35 := by kernel_rfl
def mr35 : List MR := [.t 4]
theorem mr35_eq : cRess lv35 Try.prog Try.f35.results.toList = some mr35 := by kernel_rfl
theorem call35 {args : List AV} {H : List AO} {Q : AV → List AO → Prop} (hla : args.length ≤ 18) (h : wpm (ACall Try.prog) mc35 (finK mr35 Q) ⟨argEnv 0 args, [], H⟩) : ACall Try.prog 35 args H Q :=
  acall_mc (by kernel_rfl) Try.func35 mc35_eq Try.ntmps35 (by kernel_rfl) mr35_eq hla h
def lv49 : List Nat := [0, 1, 4, 5, 9, 17]
def mc49 : MC :=
.seq (.reg [
    ⟨.l 4, .mv (.c (.p (.i .i64 0))), none⟩]) (
  .seq (.seq (.reg [
    ⟨.l 5, .mv (.c (.p (.i .i64 0))), none⟩]) (
  .blk 0 (
    .loop (
      .seq (.seq (.reg [
        ⟨.t 6, .mv (.l 5), none⟩,
        ⟨.t 7, .mv (.l 0), none⟩,
        ⟨.t 8, .len false (.t 7), none⟩,
        ⟨.l 9, .bin .lss (.t 6) (.t 8), none⟩]) (
      .cond (.l 9) (
        .skip) (
        .exit 0))) (
      .seq (.blk 1 (
        .seq (.seq (.reg [
          ⟨.t 12, .mv (.l 0), none⟩,
          ⟨.t 13, .mv (.l 5), none⟩,
          ⟨.t 14, .ixs 1 (.t 12) (.t 13), none⟩,
          ⟨.t 15, .ld false 1 (.t 14), none⟩,
          ⟨.t 16, .mv (.l 1), none⟩,
          ⟨.l 17, .bin .neq (.t 15) (.t 16), none⟩]) (
        .cond (.l 17) (
          .seq (.reg [
            ⟨.l 4, .mv (.c (.p (.i .i64 (-1)))), none⟩]) (
          .ret)) (
          .skip))) (
        .reg [
          ⟨.t 18, .mv (.l 1), none⟩,
          ⟨.t 19, .bin .add (.t 18) (.c (.p (.i .i64 1))), none⟩,
          ⟨.l 1, .mv (.t 19), none⟩]))) (
      .reg [
        ⟨.t 10, .mv (.l 5), none⟩,
        ⟨.t 11, .bin .add (.t 10) (.c (.p (.i .i64 1))), none⟩,
        ⟨.l 5, .mv (.t 11), none⟩])))))) (
  .seq (.reg [
    ⟨.t 20, .mv (.l 1), none⟩,
    ⟨.l 4, .mv (.t 20), none⟩]) (
  .ret)))
theorem mc49_eq : (Try.f49.body.map (compile lv49 Try.prog 21)) = some mc49 := by kernel_rfl
def mr49 : List MR := [.t 4]
theorem mr49_eq : cRess lv49 Try.prog Try.f49.results.toList = some mr49 := by kernel_rfl
theorem call49 {args : List AV} {H : List AO} {Q : AV → List AO → Prop} (hla : args.length ≤ 21) (h : wpm (ACall Try.prog) mc49 (finK mr49 Q) ⟨argEnv 0 args, [], H⟩) : ACall Try.prog 49 args H Q :=
  acall_mc (by kernel_rfl) Try.func49 mc49_eq Try.ntmps49 (by kernel_rfl) mr49_eq hla h
def lv84 : List Nat := [0, 1, 4, 5, 9, 18, 27, 36, 45, 54, 64]
def mc84 : MC :=
.seq (.reg [
    ⟨.l 4, .mv (.c (.p (.i .i64 0))), none⟩]) (
  .seq (.seq (.reg [
    ⟨.l 5, .mv (.c (.p (.i .i64 0))), none⟩]) (
  .blk 0 (
    .loop (
      .seq (.seq (.reg [
        ⟨.t 6, .mv (.l 5), none⟩,
        ⟨.t 7, .mv (.l 0), none⟩,
        ⟨.t 8, .len false (.t 7), none⟩,
        ⟨.l 9, .bin .lss (.t 6) (.t 8), none⟩]) (
      .cond (.l 9) (
        .skip) (
        .exit 0))) (
      .seq (.blk 1 (
        .seq (.seq (.reg [
          ⟨.t 12, .mv (.l 0), none⟩,
          ⟨.t 13, .mv (.l 5), none⟩,
          ⟨.t 14, .ixs 6 (.t 12) (.t 13), none⟩,
          ⟨.t 15, .fad 0 (.t 14), none⟩,
          ⟨.t 16, .ld false 1 (.t 15), none⟩,
          ⟨.t 17, .mv (.l 1), none⟩,
          ⟨.l 18, .bin .neq (.t 16) (.t 17), none⟩]) (
        .cond (.l 18) (
          .seq (.reg [
            ⟨.l 4, .mv (.c (.p (.i .i64 (-1)))), none⟩]) (
          .ret)) (
          .skip))) (
        .seq (.reg [
          ⟨.t 19, .mv (.l 1), none⟩,
          ⟨.t 20, .bin .add (.t 19) (.c (.p (.i .i64 1))), none⟩,
          ⟨.l 1, .mv (.t 20), none⟩]) (
        .seq (.seq (.reg [
          ⟨.t 21, .mv (.l 0), none⟩,
          ⟨.t 22, .mv (.l 5), none⟩,
          ⟨.t 23, .ixs 6 (.t 21) (.t 22), none⟩,
          ⟨.t 24, .fad 1 (.t 23), none⟩,
          ⟨.t 25, .ld false 1 (.t 24), none⟩,
          ⟨.t 26, .mv (.l 1), none⟩,
          ⟨.l 27, .bin .neq (.t 25) (.t 26), none⟩]) (
        .cond (.l 27) (
          .seq (.reg [
            ⟨.l 4, .mv (.c (.p (.i .i64 (-1)))), none⟩]) (
          .ret)) (
          .skip))) (
        .seq (.reg [
          ⟨.t 28, .mv (.l 1), none⟩,
          ⟨.t 29, .bin .add (.t 28) (.c (.p (.i .i64 1))), none⟩,
          ⟨.l 1, .mv (.t 29), none⟩]) (
        .seq (.seq (.reg [
          ⟨.t 30, .mv (.l 0), none⟩,
          ⟨.t 31, .mv (.l 5), none⟩,
          ⟨.t 32, .ixs 6 (.t 30) (.t 31), none⟩,
          ⟨.t 33, .fad 2 (.t 32), none⟩,
          ⟨.t 34, .ld false 1 (.t 33), none⟩,
          ⟨.t 35, .mv (.l 1), none⟩,
          ⟨.l 36, .bin .neq (.t 34) (.t 35), none⟩]) (
        .cond (.l 36) (
          .seq (.reg [
            ⟨.l 4, .mv (.c (.p (.i .i64 (-1)))), none⟩]) (
          .ret)) (
          .skip))) (
        .seq (.reg [
          ⟨.t 37, .mv (.l 1), none⟩,
          ⟨.t 38, .bin .add (.t 37) (.c (.p (.i .i64 1))), none⟩,
          ⟨.l 1, .mv (.t 38), none⟩]) (
        .seq (.seq (.reg [
          ⟨.t 39, .mv (.l 0), none⟩,
          ⟨.t 40, .mv (.l 5), none⟩,
          ⟨.t 41, .ixs 6 (.t 39) (.t 40), none⟩,
          ⟨.t 42, .fad 3 (.t 41), none⟩,
          ⟨.t 43, .ld false 1 (.t 42), none⟩,
          ⟨.t 44, .mv (.l 1), none⟩,
          ⟨.l 45, .bin .neq (.t 43) (.t 44), none⟩]) (
        .cond (.l 45) (
          .seq (.reg [
            ⟨.l 4, .mv (.c (.p (.i .i64 (-1)))), none⟩]) (
          .ret)) (
          .skip))) (
        .seq (.reg [
          ⟨.t 46, .mv (.l 1), none⟩,
          ⟨.t 47, .bin .add (.t 46) (.c (.p (.i .i64 1))), none⟩,
          ⟨.l 1, .mv (.t 47), none⟩]) (
        .seq (.seq (.reg [
          ⟨.t 48, .mv (.l 0), none⟩,
          ⟨.t 49, .mv (.l 5), none⟩,
          ⟨.t 50, .ixs 6 (.t 48) (.t 49), none⟩,
          ⟨.t 51, .fad 4 (.t 50), none⟩,
          ⟨.t 52, .ld false 1 (.t 51), none⟩,
          ⟨.t 53, .mv (.l 1), none⟩,
          ⟨.l 54, .bin .neq (.t 52) (.t 53), none⟩]) (
        .cond (.l 54) (
          .seq (.reg [
            ⟨.l 4, .mv (.c (.p (.i .i64 (-1)))), none⟩]) (
          .ret)) (
          .skip))) (
        .seq (.reg [
          ⟨.t 55, .mv (.l 1), none⟩,
          ⟨.t 56, .bin .add (.t 55) (.c (.p (.i .i64 1))), none⟩,
          ⟨.l 1, .mv (.t 56), none⟩]) (
        .seq (.seq (.drw [
          ⟨.t 57, .mv (.l 0), none⟩,
          ⟨.t 58, .mv (.l 5), none⟩,
          ⟨.t 59, .ixs 6 (.t 57) (.t 58), none⟩,
          ⟨.t 60, .fad 5 (.t 59), none⟩,
          ⟨.t 61, .ld false 1 (.t 60), none⟩,
          ⟨.t 62, .mv (.l 1), none⟩,
          ⟨.t 63, .call 137 [.t 62], none⟩] [
          ⟨.l 64, .bin .neq (.t 61) (.t 63), none⟩]) (
        .cond (.l 64) (
          .seq (.reg [
            ⟨.l 4, .mv (.c (.p (.i .i64 (-1)))), none⟩]) (
          .ret)) (
          .skip))) (
        .reg [
          ⟨.t 65, .mv (.l 1), none⟩,
          ⟨.t 66, .bin .add (.t 65) (.c (.p (.i .i64 1))), none⟩,
          ⟨.l 1, .mv (.t 66), none⟩]))))))))))))) (
      .reg [
        ⟨.t 10, .mv (.l 5), none⟩,
        ⟨.t 11, .bin .add (.t 10) (.c (.p (.i .i64 1))), none⟩,
        ⟨.l 5, .mv (.t 11), none⟩])))))) (
  .seq (.reg [
    ⟨.t 67, .mv (.l 1), none⟩,
    ⟨.l 4, .mv (.t 67), none⟩]) (
  .ret)))
theorem mc84_eq : (Try.f84.body.map (compile lv84 Try.prog 68)) = some mc84 := by kernel_rfl
def mr84 : List MR := [.t 4]
theorem mr84_eq : cRess lv84 Try.prog Try.f84.results.toList = some mr84 := by kernel_rfl
theorem call84 {args : List AV} {H : List AO} {Q : AV → List AO → Prop} (hla : args.length ≤ 68) (h : wpm (ACall Try.prog) mc84 (finK mr84 Q) ⟨argEnv 0 args, [], H⟩) : ACall Try.prog 84 args H Q :=
  acall_mc (by kernel_rfl) Try.func84 mc84_eq Try.ntmps84 (by kernel_rfl) mr84_eq hla h
end Go.Proofs.Ytmbggdfceecojaa.Mc
