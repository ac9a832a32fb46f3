/- Texts PiD PiE PiF RcH, merged. -/
import Derived.Test.YtmbggdfceecojaaKrC
/- Images of codes: what an image is; by the program. -/
set_option linter.all false
namespace Go.Proofs.Ytmbggdfceecojaa.Cd
open Go.AM Mc Ho

def strI (s : List UInt8) : List Int := s.map fun c => (c.toNat : Int)
theorem bytes_strI (s : List UInt8) : bytesRows s = intR .u8 (strI s) := by
  induction s with
  | nil => rfl
  | cons c s ih => simp [bytesRows, ih, intR, strI]
def encI (n : Int) : List Int := enc (zig n)
def insB (x : InsD) : List Int := [wr .u8 x.op, wr .u8 (wr .i64 (wr .i64 (16 * x.a) + x.b)), wr .u8 x.c] ++ encI x.n ++ encI x.text.length ++ strI x.text
def headB (c : CodeD) : List Int := [77, 78, 1] ++ encI c.starts.length ++ encI c.ins.length
def bodyB (c : CodeD) : List Int := headB c ++ c.starts.flatMap encI ++ c.ins.flatMap insB
def imgB (c : CodeD) : List Int := bodyB c ++ sumB (bodyB c)
def putD (c : CodeD) : List Int := if codeOk c = true ∧ (imgB c).length ≤ 200000 then imgB c else []

def rng (n : Int) : Prop := -9223372036854775808 ≤ n ∧ n ≤ 9223372036854775807
def rngCode (c : CodeD) : Prop := (∀ n ∈ c.starts, rng n) ∧ ∀ x ∈ c.ins, rng x.n

theorem rng_len {n : Nat} (h : n ≤ maxL) : rng n := by unfold maxL at h; unfold rng; omega
theorem encI_len {n : Int} (h : rng n) : (encI n).length ≤ 10 := enc10 h.1 h.2
theorem encI_byte (n : Int) : isB (encI n) := enc_byte _
theorem isB_app {a b : List Int} (ha : isB a) (hb : isB b) : isB (a ++ b) := fun x hx => (List.mem_append.1 hx).elim (ha x) (hb x)
theorem isB_str (s : List UInt8) : isB (strI s) := by
  intro b hb
  obtain ⟨c, _, rfl⟩ := List.mem_map.1 hb
  have := c.toNat_lt; omega
theorem isB_ins (x : InsD) : isB (insB x) := by
  refine isB_app (isB_app (isB_app ?_ (encI_byte _)) (encI_byte _)) (isB_str _)
  intro b hb
  simp only [List.mem_cons, List.not_mem_nil, or_false] at hb
  rcases hb with rfl | rfl | rfl <;> rw [wr_u8] <;> omega
theorem isB_flat {α : Type} (f : α → List Int) (h : ∀ a, isB (f a)) (l : List α) : isB (l.flatMap f) := by
  intro b hb
  obtain ⟨a, _, hb⟩ := List.mem_flatMap.1 hb
  exact h a b hb
theorem isB_body (c : CodeD) : isB (bodyB c) := by
  refine isB_app (isB_app (isB_app (isB_app ?_ (encI_byte _)) (encI_byte _)) (isB_flat _ encI_byte _)) (isB_flat _ isB_ins _)
  intro b hb
  simp at hb; omega

theorem flat_take {α : Type} (f : α → List Int) {l : List α} {i : Nat} (h : i < l.length) : (l.take (i + 1)).flatMap f = (l.take i).flatMap f ++ f l[i] := by
  rw [List.take_succ, List.flatMap_append, List.getElem?_eq_getElem h]; simp
theorem flat_enc_len (l : List Int) (h : ∀ n ∈ l, rng n) : (l.flatMap encI).length ≤ 10 * l.length := by
  induction l with
  | nil => simp
  | cons n l ih =>
    have h1 := encI_len (h n (by simp))
    have h2 := ih (fun m hm => h m (List.mem_cons_of_mem _ hm))
    simp only [List.flatMap_cons, List.length_append, List.length_cons]; omega
theorem insB_len (x : InsD) (h : rng x.n) (ht : x.text.length ≤ maxL) : (insB x).length ≤ 23 + x.text.length := by
  have h1 := encI_len h
  have h2 := encI_len (rng_len ht)
  simp [insB, strI]; omega
theorem flat_ins_len (l : List InsD) (h : ∀ x ∈ l, rng x.n ∧ x.text.length ≤ maxL) : (l.flatMap insB).length ≤ 23 * l.length + texts l := by
  induction l with
  | nil => simp [texts]
  | cons x l ih =>
    have h1 := insB_len x (h x (by simp)).1 (h x (by simp)).2
    have h2 := ih (fun m hm => h m (List.mem_cons_of_mem _ hm))
    simp only [List.flatMap_cons, List.length_append, List.length_cons, texts]; omega
theorem texts_take_le (l : List InsD) (i : Nat) : texts (l.take i) ≤ texts l := by
  induction l generalizing i with
  | nil => simp
  | cons x l ih =>
    cases i with
    | zero => simp [texts]
    | succ i => simp [texts]; exact ih i

/-- how much room is wanted at most -/
structure Fits (c : CodeD) : Prop where
  ok : okCode c
  sm : small c
  rg : rngCode c
theorem Fits.head {c : CodeD} (h : Fits c) : (headB c).length ≤ 23 := by
  have h1 := encI_len (rng_len h.ok.2)
  have h2 := encI_len (rng_len h.ok.1.1)
  simp [headB]; omega
theorem Fits.starts {c : CodeD} (h : Fits c) (i : Nat) : ((c.starts.take i).flatMap encI).length ≤ 10485760 := by
  have h1 := flat_enc_len (c.starts.take i) (fun n hn => h.rg.1 n (List.mem_of_mem_take hn))
  have h2 := h.sm
  unfold small at h2
  have : (c.starts.take i).length ≤ c.starts.length := by simp; omega
  omega
theorem Fits.ins {c : CodeD} (h : Fits c) (i : Nat) : ((c.ins.take i).flatMap insB).length ≤ 25165824 := by
  have h1 := flat_ins_len (c.ins.take i) (fun x hx => ⟨h.rg.2 x (List.mem_of_mem_take hx), h.ok.1.2 x (List.mem_of_mem_take hx)⟩)
  have h2 := h.sm
  unfold small at h2
  have h3 : (c.ins.take i).length ≤ c.ins.length := by simp; omega
  have h4 := texts_take_le c.ins i
  omega
theorem Fits.text {c : CodeD} (h : Fits c) {x : InsD} (hx : x ∈ c.ins) : x.text.length ≤ 1048576 := by
  have key : ∀ l : List InsD, x ∈ l → x.text.length ≤ texts l := by
    intro l
    induction l with
    | nil => intro h; cases h
    | cons y l ih =>
      intro hx
      rcases List.mem_cons.1 hx with rfl | hx
      · simp [texts]
      · have := ih hx; simp [texts]; omega
  have h1 := key _ hx
  have h2 := h.sm
  unfold small at h2
  omega

/-- a slice that is owned, as its caller's -/
theorem own_result {f : Nat} {xs bs : List AV} {H : List AO} {k : IntKind} {zs : List Int} (h : ACall Try.prog f bs [] (fun r H' => OwnR H' r 1 (intR k zs))) (hl : LentAll H xs bs) :
    ACall Try.prog f xs H (fun r H' => (zs = [] ∧ r = .p .nl ∧ H' = H) ∨ ∃ ver, r = .gs H.length ver 0 zs.length ∧ H' = H ++ [.rows 1 ver (intR k zs)]) := by
  refine acall_own h hl ?_
  rintro r H0 (⟨rfl, he⟩ | ⟨id, ver, rfl, hid⟩)
  · have hz : zs = [] := by simpa [intR] using he
    exact own_g (H := H) (R := fun (r : AV) (H' : List AO) => (zs = [] ∧ r = .p .nl ∧ H' = H) ∨ ∃ ver, r = .gs H.length ver 0 zs.length ∧ H' = H ++ [.rows 1 ver (intR k zs)]) grnd_nl (.inl ⟨hz, rfl, rfl⟩)
  · rw [intR_len]
    exact own_gs (H := H) (R := fun (r : AV) (H' : List AO) => (zs = [] ∧ r = .p .nl ∧ H' = H) ∨ ∃ ver, r = .gs H.length ver 0 zs.length ∧ H' = H ++ [.rows 1 ver (intR k zs)]) hid (grnd_intR _ _) (.inr ⟨ver, rfl, rfl⟩)

theorem own_var {H : List AO} {a : AV} {sz : Nat} {rs : List (List AV)} {j : Nat} {cs : List AV} (h : OwnR H a sz rs) (hj : H[j]? = some (.var cs)) : ∀ ver off n, a ≠ .gs j ver off n := by
  rintro ver off n rfl
  rcases h with ⟨h, _⟩ | ⟨id, v, h1, h2⟩
  · cases h
  · cases h1; rw [h2] at hj; cases hj
theorem kept_var {H H' : List AO} {a : AV} {sz : Nat} {rs : List (List AV)} {j : Nat} {cs : List AV} (hk : Kept a H H') (h : OwnR H a sz rs) (hj : H[j]? = some (.var cs)) : H'[j]? = some (.var cs) :=
  hk.2 j _ hj (own_var h hj)
theorem intR_take (k : IntKind) (zs : List Int) : List.take zs.length (intR k zs) = intR k zs := List.take_of_length_le (by simp [intR])

theorem rows_src (k : IntKind) (zs : List Int) : (rowsK k zs).map (·.map AV.p) = intR k zs := by simp [rowsK, intR]

theorem mark0 : ACall Try.prog 75 [] [] (fun r H' => r = .gs 0 0 0 3 ∧ H' = [.rows 1 0 (intR .u8 [77, 78, 1])]) := by
  refine call75 (by simp) ?_
  simp only [go_sem, Nat.reduceEqDiff, reduceIte, ↓reduceIte, Nat.reduceAdd, List.replicate_succ, List.replicate_zero, List.set_cons_zero, List.set_cons_succ, List.length_cons, List.length_nil, Nat.reduceLT, Nat.lt_add_one, ne_eq, Int.reduceEq, not_false_eq_true, Option.map_some, Nat.reduceLeDiff, Nat.zero_lt_succ, List.map_cons, List.map_nil, List.nil_append, List.cons_append, List.append_nil, bytesOf, List.take_succ_cons, List.take_zero, List.drop_zero, and_self, List.append_assoc, List.length_append, Int.reduceLT, Int.reduceLE, Int.toNat_zero, Int.reduceToNat, Int.cast_ofNat_Int, Int.natCast_zero, Int.natCast_one, Int.reduceAdd, List.map_append, Option.bind_some, mc75, mr75]
  rfl

theorem implPut0 (c : CodeD) (hf : Fits c) : ACall Try.prog 22 [.st (c.cells.map .p)] [] (fun r H' => OwnR H' r 1 (intR .u8 (putD c))) := by
  have hsm := hf.sm
  unfold small at hsm
  have hok : okCode c := hf.ok
  refine call22 (by simp) ?_
  simp only [go_sem, Nat.reduceEqDiff, reduceIte, ↓reduceIte, Nat.reduceAdd, List.replicate_succ, List.replicate_zero, List.set_cons_zero, List.set_cons_succ, List.length_cons, List.length_nil, Nat.reduceLT, Nat.lt_add_one, ne_eq, Int.reduceEq, not_false_eq_true, Option.map_some, Nat.reduceLeDiff, Nat.zero_lt_succ, List.map_cons, List.map_nil, List.nil_append, List.cons_append, List.append_nil, bytesOf, List.take_succ_cons, List.take_zero, List.drop_zero, and_self, List.append_assoc, List.length_append, Int.reduceLT, Int.reduceLE, Int.toNat_zero, Int.reduceToNat, Int.cast_ofNat_Int, Int.natCast_zero, Int.natCast_one, Int.reduceAdd, List.map_append, Option.bind_some, mc22, mr22, CodeD.cells]
  rw [code_eta]
  refine (acall_lend (implCodeOk c hf.ok) (fun r H' h => by subst h; exact grnd_b _) (lentAll_cons (code_lent c) (lentAll_nil _))).mono ?_
  rintro r H' ⟨rfl, _, rfl⟩
  simp only [go_sem, Nat.reduceEqDiff, reduceIte, ↓reduceIte, Nat.reduceAdd, List.replicate_succ, List.replicate_zero, List.set_cons_zero, List.set_cons_succ, List.length_cons, List.length_nil, Nat.reduceLT, Nat.lt_add_one, ne_eq, Int.reduceEq, not_false_eq_true, Option.map_some, Nat.reduceLeDiff, Nat.zero_lt_succ, List.map_cons, List.map_nil, List.nil_append, List.cons_append, List.append_nil, bytesOf, List.take_succ_cons, List.take_zero, List.drop_zero, and_self, List.append_assoc, List.length_append, Int.reduceLT, Int.reduceLE, Int.toNat_zero, Int.reduceToNat, Int.cast_ofNat_Int, Int.natCast_zero, Int.natCast_one, Int.reduceAdd, List.map_append, Option.bind_some]
  refine condK_split _ (fun hco => ?_) (fun hco => ?_)
  · simp only [go_sem, Nat.reduceEqDiff, reduceIte, ↓reduceIte, Nat.reduceAdd, List.replicate_succ, List.replicate_zero, List.set_cons_zero, List.set_cons_succ, List.length_cons, List.length_nil, Nat.reduceLT, Nat.lt_add_one, ne_eq, Int.reduceEq, not_false_eq_true, Option.map_some, Nat.reduceLeDiff, Nat.zero_lt_succ, List.map_cons, List.map_nil, List.nil_append, List.cons_append, List.append_nil, bytesOf, List.take_succ_cons, List.take_zero, List.drop_zero, and_self, List.append_assoc, List.length_append, Int.reduceLT, Int.reduceLE, Int.toNat_zero, Int.reduceToNat, Int.cast_ofNat_Int, Int.natCast_zero, Int.natCast_one, Int.reduceAdd, List.map_append, Option.bind_some]
    have : codeOk c = false := by simpa using hco
    refine .inl ⟨rfl, ?_⟩
    simp [putD, this, intR]
  · have hco' : codeOk c = true := by simpa using hco
    simp only [go_sem, Nat.reduceEqDiff, reduceIte, ↓reduceIte, Nat.reduceAdd, List.replicate_succ, List.replicate_zero, List.set_cons_zero, List.set_cons_succ, List.length_cons, List.length_nil, Nat.reduceLT, Nat.lt_add_one, ne_eq, Int.reduceEq, not_false_eq_true, Option.map_some, Nat.reduceLeDiff, Nat.zero_lt_succ, List.map_cons, List.map_nil, List.nil_append, List.cons_append, List.append_nil, bytesOf, List.take_succ_cons, List.take_zero, List.drop_zero, and_self, List.append_assoc, List.length_append, Int.reduceLT, Int.reduceLE, Int.toNat_zero, Int.reduceToNat, Int.cast_ofNat_Int, Int.natCast_zero, Int.natCast_one, Int.reduceAdd, List.map_append, Option.bind_some]
    refine drw_same ?_
    simp only [go_sem, Nat.reduceEqDiff, reduceIte, ↓reduceIte, Nat.reduceAdd, List.replicate_succ, List.replicate_zero, List.set_cons_zero, List.set_cons_succ, List.length_cons, List.length_nil, Nat.reduceLT, Nat.lt_add_one, ne_eq, Int.reduceEq, not_false_eq_true, Option.map_some, Nat.reduceLeDiff, Nat.zero_lt_succ, List.map_cons, List.map_nil, List.nil_append, List.cons_append, List.append_nil, bytesOf, List.take_succ_cons, List.take_zero, List.drop_zero, and_self, List.append_assoc, List.length_append, Int.reduceLT, Int.reduceLE, Int.toNat_zero, Int.reduceToNat, Int.cast_ofNat_Int, Int.natCast_zero, Int.natCast_one, Int.reduceAdd, List.map_append, Option.bind_some]
    refine pcall_new (.rows 1 0 (intR .u8 [77, 78, 1])) (fun j => .gs j 0 0 3) (acall_at mark0 (lentAll_nil _) ?_) ?_
    · rintro r H0 ⟨rfl, rfl⟩
      exact ⟨0, _, rfl, fun j => ⟨.gs 0 0 0 0 3 rfl, renO_g (grnd_intR _ _)⟩⟩
    simp only [go_sem, Nat.reduceEqDiff, reduceIte, ↓reduceIte, Nat.reduceAdd, List.replicate_succ, List.replicate_zero, List.set_cons_zero, List.set_cons_succ, List.length_cons, List.length_nil, Nat.reduceLT, Nat.lt_add_one, ne_eq, Int.reduceEq, not_false_eq_true, Option.map_some, Nat.reduceLeDiff, Nat.zero_lt_succ, List.map_cons, List.map_nil, List.nil_append, List.cons_append, List.append_nil, bytesOf, List.take_succ_cons, List.take_zero, List.drop_zero, and_self, List.append_assoc, List.length_append, Int.reduceLT, Int.reduceLE, Int.toNat_zero, Int.reduceToNat, Int.cast_ofNat_Int, Int.natCast_zero, Int.natCast_one, Int.reduceAdd, List.map_append, Option.bind_some, CodeD.cells, ints_len]
    refine (putShortI _ (rng_len hok.2).1 (rng_len hok.2).2).mono ?_
    rintro r H' ⟨rfl, rfl⟩
    have hl1 := encI_len (rng_len hok.2)
    have hl2 := encI_len (rng_len hok.1.1)
    have ho0 : OwnR [.var [.p (.l (inss c.ins)), .p (.l (ints c.starts))], .rows 1 0 (intR .u8 [77, 78, 1])] (.gs 1 0 0 3) 1 (intR .u8 [77, 78, 1]) := .inr ⟨1, 0, rfl, rfl⟩
    have hv0 : [AO.var [.p (.l (inss c.ins)), .p (.l (ints c.starts))], .rows 1 0 (intR .u8 [77, 78, 1])][0]? = some (.var [.p (.l (inss c.ins)), .p (.l (ints c.starts))]) := rfl
    generalize [AO.var [.p (.l (inss c.ins)), .p (.l (ints c.starts))], .rows 1 0 (intR .u8 [77, 78, 1])] = H0 at ho0 hv0 ⊢
    generalize AV.gs 1 0 0 3 = a0 at ho0 ⊢
    simp only [go_sem, Nat.reduceEqDiff, reduceIte, ↓reduceIte, Nat.reduceAdd, List.replicate_succ, List.replicate_zero, List.set_cons_zero, List.set_cons_succ, List.length_cons, List.length_nil, Nat.reduceLT, Nat.lt_add_one, ne_eq, Int.reduceEq, not_false_eq_true, Option.map_some, Nat.reduceLeDiff, Nat.zero_lt_succ, List.map_cons, List.map_nil, List.nil_append, List.cons_append, List.append_nil, bytesOf, List.take_succ_cons, List.take_zero, List.drop_zero, and_self, List.append_assoc, List.length_append, Int.reduceLT, Int.reduceLE, Int.toNat_zero, Int.reduceToNat, Int.cast_ofNat_Int, Int.natCast_zero, Int.natCast_one, Int.reduceAdd, List.map_append, Option.bind_some, rows_src]
    refine ⟨intR_len1 _ _, app_own ho0 (by simp [intR_len]; unfold encI at hl1; omega) (by simp [intR_len]; unfold encI at hl1; omega) fun a1 H1 ho1 hk1 _ => ?_⟩
    have hv1 : H1[0]? = some (.var [.p (.l (inss c.ins)), .p (.l (ints c.starts))]) := kept_var hk1 ho0 hv0
    rw [intR_app] at ho1
    simp only [go_sem, Nat.reduceEqDiff, reduceIte, ↓reduceIte, Nat.reduceAdd, List.replicate_succ, List.replicate_zero, List.set_cons_zero, List.set_cons_succ, List.length_cons, List.length_nil, Nat.reduceLT, Nat.lt_add_one, ne_eq, Int.reduceEq, not_false_eq_true, Option.map_some, Nat.reduceLeDiff, Nat.zero_lt_succ, List.map_cons, List.map_nil, List.nil_append, List.cons_append, List.append_nil, bytesOf, List.take_succ_cons, List.take_zero, List.drop_zero, and_self, List.append_assoc, List.length_append, Int.reduceLT, Int.reduceLE, Int.toNat_zero, Int.reduceToNat, Int.cast_ofNat_Int, Int.natCast_zero, Int.natCast_one, Int.reduceAdd, List.map_append, Option.bind_some, hv1, inss_len]
    intro _
    refine (putShortI _ (rng_len hok.1.1).1 (rng_len hok.1.1).2).mono ?_
    rintro r H' ⟨rfl, rfl⟩
    simp only [go_sem, Nat.reduceEqDiff, reduceIte, ↓reduceIte, Nat.reduceAdd, List.replicate_succ, List.replicate_zero, List.set_cons_zero, List.set_cons_succ, List.length_cons, List.length_nil, Nat.reduceLT, Nat.lt_add_one, ne_eq, Int.reduceEq, not_false_eq_true, Option.map_some, Nat.reduceLeDiff, Nat.zero_lt_succ, List.map_cons, List.map_nil, List.nil_append, List.cons_append, List.append_nil, bytesOf, List.take_succ_cons, List.take_zero, List.drop_zero, and_self, List.append_assoc, List.length_append, Int.reduceLT, Int.reduceLE, Int.toNat_zero, Int.reduceToNat, Int.cast_ofNat_Int, Int.natCast_zero, Int.natCast_one, Int.reduceAdd, List.map_append, Option.bind_some, rows_src]
    refine ⟨intR_len1 _ _, app_own ho1 (by simp [intR_len]; unfold encI at hl1 hl2; omega) (by simp [intR_len]; unfold encI at hl1 hl2; omega) fun a2 H2 ho2 hk2 _ => ?_⟩
    have hv2 : H2[0]? = some (.var [.p (.l (inss c.ins)), .p (.l (ints c.starts))]) := kept_var hk2 ho1 hv1
    rw [intR_app] at ho2
    have ho2' : OwnR H2 a2 1 (intR .u8 (headB c)) := ho2
    clear ho2 ho1 hk1 hk2 ho0 hv1 hv0
    simp only [go_sem, Nat.reduceEqDiff, reduceIte, ↓reduceIte, Nat.reduceAdd, List.replicate_succ, List.replicate_zero, List.set_cons_zero, List.set_cons_succ, List.length_cons, List.length_nil, Nat.reduceLT, Nat.lt_add_one, ne_eq, Int.reduceEq, not_false_eq_true, Option.map_some, Nat.reduceLeDiff, Nat.zero_lt_succ, List.map_cons, List.map_nil, List.nil_append, List.cons_append, List.append_nil, bytesOf, List.take_succ_cons, List.take_zero, List.drop_zero, and_self, List.append_assoc, List.length_append, Int.reduceLT, Int.reduceLE, Int.toNat_zero, Int.reduceToNat, Int.cast_ofNat_Int, Int.natCast_zero, Int.natCast_one, Int.reduceAdd, List.map_append, Option.bind_some, hv2, ints_len]
    intro _
    have hhead := hf.head
    refine ⟨Nat × AV × List AO, [0, 1, 2, 3, 24, 25, 26], fun x st => x.1 ≤ c.starts.length ∧ OwnR x.2.2 x.2.1 1 (intR .u8 (headB c ++ (c.starts.take x.1).flatMap encI)) ∧ x.2.2[0]? = some (.var [.p (.l (inss c.ins)), .p (.l (ints c.starts))]) ∧
      st = ⟨[(0, .st [.p (.l (inss c.ins)), .p (.l (ints c.starts))]), (1, .ptr 0 0), (2, .p .nl), (3, x.2.1), (24, .p (.l (ints c.starts))), (25, .p (.i .i64 c.starts.length)), (26, .p (.i .i64 x.1))], [], x.2.2⟩, fun x => c.starts.length - x.1, ⟨⟨0, a2, H2⟩, ?_⟩, ?_⟩
    · simp only [go_sem, Nat.reduceEqDiff, reduceIte, ↓reduceIte, Nat.reduceAdd, List.replicate_succ, List.replicate_zero, List.set_cons_zero, List.set_cons_succ, List.length_cons, List.length_nil, Nat.reduceLT, Nat.lt_add_one, ne_eq, Int.reduceEq, not_false_eq_true, Option.map_some, Nat.reduceLeDiff, Nat.zero_lt_succ, List.map_cons, List.map_nil, List.nil_append, List.cons_append, List.append_nil, bytesOf, List.take_succ_cons, List.take_zero, List.drop_zero, and_self, List.append_assoc, List.length_append, Int.reduceLT, Int.reduceLE, Int.toNat_zero, Int.reduceToNat, Int.cast_ofNat_Int, Int.natCast_zero, Int.natCast_one, Int.reduceAdd, List.map_append, Option.bind_some]
      exact ⟨Nat.zero_le _, by simpa using ho2', hv2⟩
    clear hv2 ho2'
    rintro ⟨i, a, H⟩ st ⟨hi, ho, hv, rfl⟩
    simp only at hi ho hv
    simp only [go_sem, Nat.reduceEqDiff, reduceIte, ↓reduceIte, Nat.reduceAdd, List.replicate_succ, List.replicate_zero, List.set_cons_zero, List.set_cons_succ, List.length_cons, List.length_nil, Nat.reduceLT, Nat.lt_add_one, ne_eq, Int.reduceEq, not_false_eq_true, Option.map_some, Nat.reduceLeDiff, Nat.zero_lt_succ, List.map_cons, List.map_nil, List.nil_append, List.cons_append, List.append_nil, bytesOf, List.take_succ_cons, List.take_zero, List.drop_zero, and_self, List.append_assoc, List.length_append, Int.reduceLT, Int.reduceLE, Int.toNat_zero, Int.reduceToNat, Int.cast_ofNat_Int, Int.natCast_zero, Int.natCast_one, Int.reduceAdd, List.map_append, Option.bind_some]
    refine condK_split _ (fun hd => ?_) (fun hd => ?_)
    · have hil : i < c.starts.length := by simpa using hd
      have hr := hf.rg.1 _ (List.getElem_mem hil)
      simp only [go_sem, Nat.reduceEqDiff, reduceIte, ↓reduceIte, Nat.reduceAdd, List.replicate_succ, List.replicate_zero, List.set_cons_zero, List.set_cons_succ, List.length_cons, List.length_nil, Nat.reduceLT, Nat.lt_add_one, ne_eq, Int.reduceEq, not_false_eq_true, Option.map_some, Nat.reduceLeDiff, Nat.zero_lt_succ, List.map_cons, List.map_nil, List.nil_append, List.cons_append, List.append_nil, bytesOf, List.take_succ_cons, List.take_zero, List.drop_zero, and_self, List.append_assoc, List.length_append, Int.reduceLT, Int.reduceLE, Int.toNat_zero, Int.reduceToNat, Int.cast_ofNat_Int, Int.natCast_zero, Int.natCast_one, Int.reduceAdd, List.map_append, Option.bind_some, ints_at _ hil]
      refine (putShortI _ hr.1 hr.2).mono ?_
      rintro r H' ⟨rfl, rfl⟩
      have h1 := hf.starts i
      have h2 := encI_len hr
      simp only [go_sem, Nat.reduceEqDiff, reduceIte, ↓reduceIte, Nat.reduceAdd, List.replicate_succ, List.replicate_zero, List.set_cons_zero, List.set_cons_succ, List.length_cons, List.length_nil, Nat.reduceLT, Nat.lt_add_one, ne_eq, Int.reduceEq, not_false_eq_true, Option.map_some, Nat.reduceLeDiff, Nat.zero_lt_succ, List.map_cons, List.map_nil, List.nil_append, List.cons_append, List.append_nil, bytesOf, List.take_succ_cons, List.take_zero, List.drop_zero, and_self, List.append_assoc, List.length_append, Int.reduceLT, Int.reduceLE, Int.toNat_zero, Int.reduceToNat, Int.cast_ofNat_Int, Int.natCast_zero, Int.natCast_one, Int.reduceAdd, List.map_append, Option.bind_some, rows_src]
      refine ⟨intR_len1 _ _, app_own ho (by simp only [intR_len, List.length_append]; unfold encI at h1 h2; unfold encI; omega) (by simp only [intR_len, List.length_append]; unfold encI at h1 h2; unfold encI; omega) fun a3 H3 ho3 hk3 _ => ?_⟩
      have hv3 : H3[0]? = some (.var [.p (.l (inss c.ins)), .p (.l (ints c.starts))]) := kept_var hk3 ho hv
      simp only [go_sem, Nat.reduceEqDiff, reduceIte, ↓reduceIte, Nat.reduceAdd, List.replicate_succ, List.replicate_zero, List.set_cons_zero, List.set_cons_succ, List.length_cons, List.length_nil, Nat.reduceLT, Nat.lt_add_one, ne_eq, Int.reduceEq, not_false_eq_true, Option.map_some, Nat.reduceLeDiff, Nat.zero_lt_succ, List.map_cons, List.map_nil, List.nil_append, List.cons_append, List.append_nil, bytesOf, List.take_succ_cons, List.take_zero, List.drop_zero, and_self, List.append_assoc, List.length_append, Int.reduceLT, Int.reduceLE, Int.toNat_zero, Int.reduceToNat, Int.cast_ofNat_Int, Int.natCast_zero, Int.natCast_one, Int.reduceAdd, List.map_append, Option.bind_some]
      refine ⟨(i + 1, a3, H3), ⟨hil, ?_, hv3, ?_⟩, by simp only; omega⟩
      · rw [intR_app] at ho3
        rw [flat_take _ hil, ← List.append_assoc]; exact ho3
      · rw [wr1 hil hok.2]
    have hil : i = c.starts.length := by simp at hd; omega
    subst hil
    rw [List.take_length] at ho
    simp only [go_sem, Nat.reduceEqDiff, reduceIte, ↓reduceIte, Nat.reduceAdd, List.replicate_succ, List.replicate_zero, List.set_cons_zero, List.set_cons_succ, List.length_cons, List.length_nil, Nat.reduceLT, Nat.lt_add_one, ne_eq, Int.reduceEq, not_false_eq_true, Option.map_some, Nat.reduceLeDiff, Nat.zero_lt_succ, List.map_cons, List.map_nil, List.nil_append, List.cons_append, List.append_nil, bytesOf, List.take_succ_cons, List.take_zero, List.drop_zero, and_self, List.append_assoc, List.length_append, Int.reduceLT, Int.reduceLE, Int.toNat_zero, Int.reduceToNat, Int.cast_ofNat_Int, Int.natCast_zero, Int.natCast_one, Int.reduceAdd, List.map_append, Option.bind_some, hv, inss_len]
    intro _
    refine ⟨Nat × AV × List AO, [0, 1, 2, 3, 36, 37, 38], fun x st => x.1 ≤ c.ins.length ∧ OwnR x.2.2 x.2.1 1 (intR .u8 (headB c ++ c.starts.flatMap encI ++ (c.ins.take x.1).flatMap insB)) ∧ x.2.2[0]? = some (.var [.p (.l (inss c.ins)), .p (.l (ints c.starts))]) ∧
      st = ⟨[(0, .st [.p (.l (inss c.ins)), .p (.l (ints c.starts))]), (1, .ptr 0 0), (2, .p .nl), (3, x.2.1), (36, .p (.l (inss c.ins))), (37, .p (.i .i64 c.ins.length)), (38, .p (.i .i64 x.1))], [], x.2.2⟩, fun x => c.ins.length - x.1, ⟨⟨0, a, H⟩, ?_⟩, ?_⟩
    · simp only [go_sem, Nat.reduceEqDiff, reduceIte, ↓reduceIte, Nat.reduceAdd, List.replicate_succ, List.replicate_zero, List.set_cons_zero, List.set_cons_succ, List.length_cons, List.length_nil, Nat.reduceLT, Nat.lt_add_one, ne_eq, Int.reduceEq, not_false_eq_true, Option.map_some, Nat.reduceLeDiff, Nat.zero_lt_succ, List.map_cons, List.map_nil, List.nil_append, List.cons_append, List.append_nil, bytesOf, List.take_succ_cons, List.take_zero, List.drop_zero, and_self, List.append_assoc, List.length_append, Int.reduceLT, Int.reduceLE, Int.toNat_zero, Int.reduceToNat, Int.cast_ofNat_Int, Int.natCast_zero, Int.natCast_one, Int.reduceAdd, List.map_append, Option.bind_some]
      exact ⟨Nat.zero_le _, by simpa using ho, hv⟩
    clear ho hv
    rintro ⟨i, a, H⟩ st ⟨hi, ho, hv, rfl⟩
    simp only at hi ho hv
    have hst := hf.starts c.starts.length
    rw [List.take_length] at hst
    simp only [go_sem, Nat.reduceEqDiff, reduceIte, ↓reduceIte, Nat.reduceAdd, List.replicate_succ, List.replicate_zero, List.set_cons_zero, List.set_cons_succ, List.length_cons, List.length_nil, Nat.reduceLT, Nat.lt_add_one, ne_eq, Int.reduceEq, not_false_eq_true, Option.map_some, Nat.reduceLeDiff, Nat.zero_lt_succ, List.map_cons, List.map_nil, List.nil_append, List.cons_append, List.append_nil, bytesOf, List.take_succ_cons, List.take_zero, List.drop_zero, and_self, List.append_assoc, List.length_append, Int.reduceLT, Int.reduceLE, Int.toNat_zero, Int.reduceToNat, Int.cast_ofNat_Int, Int.natCast_zero, Int.natCast_one, Int.reduceAdd, List.map_append, Option.bind_some]
    refine condK_split _ (fun hd => ?_) (fun hd => ?_)
    · have hil : i < c.ins.length := by simpa using hd
      simp only [go_sem, Nat.reduceEqDiff, reduceIte, ↓reduceIte, Nat.reduceAdd, List.replicate_succ, List.replicate_zero, List.set_cons_zero, List.set_cons_succ, List.length_cons, List.length_nil, Nat.reduceLT, Nat.lt_add_one, ne_eq, Int.reduceEq, not_false_eq_true, Option.map_some, Nat.reduceLeDiff, Nat.zero_lt_succ, List.map_cons, List.map_nil, List.nil_append, List.cons_append, List.append_nil, bytesOf, List.take_succ_cons, List.take_zero, List.drop_zero, and_self, List.append_assoc, List.length_append, Int.reduceLT, Int.reduceLE, Int.toNat_zero, Int.reduceToNat, Int.cast_ofNat_Int, Int.natCast_zero, Int.natCast_one, Int.reduceAdd, List.map_append, Option.bind_some, inss_at _ hil, ins_clen, ins_take, InsD.cells]
      have hxm := List.getElem_mem hil
      have hr := hf.rg.2 _ hxm
      have ht := hf.text hxm
      have htl : c.ins[i].text.length ≤ maxL := hok.1.2 _ hxm
      have hfi := hf.ins i
      have hn10 := encI_len hr
      have ht10 := encI_len (rng_len htl)
      unfold encI at hn10 ht10
      refine ⟨by simp, app_own ho.ext (by simp only [intR_len, List.length_append, List.length_cons, List.length_nil]; omega) (by simp only [intR_len, List.length_append, List.length_cons, List.length_nil]; omega) fun a3 H3 ho3 hk3 _ => ?_⟩
      have hv3 : H3[0]? = some (.var [.p (.l (inss c.ins)), .p (.l (ints c.starts))]) := kept_var hk3 ho.ext (by rw [List.getElem?_append_left (List.getElem?_eq_some_iff.1 hv).1]; exact hv)
      have hx3 := kept_var (j := H.length) hk3 ho.ext (get_off0 _ _)
      rw [show [[AV.p (.i .u8 (wr .u8 c.ins[i].op))], [AV.p (.i .u8 (wr .u8 (wr .i64 (wr .i64 (16 * c.ins[i].a) + c.ins[i].b))))], [AV.p (.i .u8 (wr .u8 c.ins[i].c))]] = intR .u8 [wr .u8 c.ins[i].op, wr .u8 (wr .i64 (wr .i64 (16 * c.ins[i].a) + c.ins[i].b)), wr .u8 c.ins[i].c] from rfl, intR_app] at ho3
      simp only [go_sem, Nat.reduceEqDiff, reduceIte, ↓reduceIte, Nat.reduceAdd, List.replicate_succ, List.replicate_zero, List.set_cons_zero, List.set_cons_succ, List.length_cons, List.length_nil, Nat.reduceLT, Nat.lt_add_one, ne_eq, Int.reduceEq, not_false_eq_true, Option.map_some, Nat.reduceLeDiff, Nat.zero_lt_succ, List.map_cons, List.map_nil, List.nil_append, List.cons_append, List.append_nil, bytesOf, List.take_succ_cons, List.take_zero, List.drop_zero, and_self, List.append_assoc, List.length_append, Int.reduceLT, Int.reduceLE, Int.toNat_zero, Int.reduceToNat, Int.cast_ofNat_Int, Int.natCast_zero, Int.natCast_one, Int.reduceAdd, List.map_append, Option.bind_some, hx3]
      refine (putShortI _ hr.1 hr.2).mono ?_
      rintro r H' ⟨rfl, rfl⟩
      simp only [go_sem, Nat.reduceEqDiff, reduceIte, ↓reduceIte, Nat.reduceAdd, List.replicate_succ, List.replicate_zero, List.set_cons_zero, List.set_cons_succ, List.length_cons, List.length_nil, Nat.reduceLT, Nat.lt_add_one, ne_eq, Int.reduceEq, not_false_eq_true, Option.map_some, Nat.reduceLeDiff, Nat.zero_lt_succ, List.map_cons, List.map_nil, List.nil_append, List.cons_append, List.append_nil, bytesOf, List.take_succ_cons, List.take_zero, List.drop_zero, and_self, List.append_assoc, List.length_append, Int.reduceLT, Int.reduceLE, Int.toNat_zero, Int.reduceToNat, Int.cast_ofNat_Int, Int.natCast_zero, Int.natCast_one, Int.reduceAdd, List.map_append, Option.bind_some, rows_src]
      refine ⟨intR_len1 _ _, app_own ho3 (by simp only [intR_len, List.length_append, List.length_cons, List.length_nil]; omega) (by simp only [intR_len, List.length_append, List.length_cons, List.length_nil]; omega) fun a4 H4 ho4 hk4 _ => ?_⟩
      have hv4 := kept_var hk4 ho3 hv3
      have hx4 := kept_var hk4 ho3 hx3
      rw [intR_app] at ho4
      simp only [go_sem, Nat.reduceEqDiff, reduceIte, ↓reduceIte, Nat.reduceAdd, List.replicate_succ, List.replicate_zero, List.set_cons_zero, List.set_cons_succ, List.length_cons, List.length_nil, Nat.reduceLT, Nat.lt_add_one, ne_eq, Int.reduceEq, not_false_eq_true, Option.map_some, Nat.reduceLeDiff, Nat.zero_lt_succ, List.map_cons, List.map_nil, List.nil_append, List.cons_append, List.append_nil, bytesOf, List.take_succ_cons, List.take_zero, List.drop_zero, and_self, List.append_assoc, List.length_append, Int.reduceLT, Int.reduceLE, Int.toNat_zero, Int.reduceToNat, Int.cast_ofNat_Int, Int.natCast_zero, Int.natCast_one, Int.reduceAdd, List.map_append, Option.bind_some, hx4]
      intro _
      refine (putShortI _ (rng_len htl).1 (rng_len htl).2).mono ?_
      rintro r H' ⟨rfl, rfl⟩
      simp only [go_sem, Nat.reduceEqDiff, reduceIte, ↓reduceIte, Nat.reduceAdd, List.replicate_succ, List.replicate_zero, List.set_cons_zero, List.set_cons_succ, List.length_cons, List.length_nil, Nat.reduceLT, Nat.lt_add_one, ne_eq, Int.reduceEq, not_false_eq_true, Option.map_some, Nat.reduceLeDiff, Nat.zero_lt_succ, List.map_cons, List.map_nil, List.nil_append, List.cons_append, List.append_nil, bytesOf, List.take_succ_cons, List.take_zero, List.drop_zero, and_self, List.append_assoc, List.length_append, Int.reduceLT, Int.reduceLE, Int.toNat_zero, Int.reduceToNat, Int.cast_ofNat_Int, Int.natCast_zero, Int.natCast_one, Int.reduceAdd, List.map_append, Option.bind_some, rows_src]
      refine ⟨intR_len1 _ _, app_own ho4 (by simp only [intR_len, List.length_append, List.length_cons, List.length_nil]; omega) (by simp only [intR_len, List.length_append, List.length_cons, List.length_nil]; omega) fun a5 H5 ho5 hk5 _ => ?_⟩
      have hv5 := kept_var hk5 ho4 hv4
      have hx5 := kept_var hk5 ho4 hx4
      rw [intR_app] at ho5
      simp only [go_sem, Nat.reduceEqDiff, reduceIte, ↓reduceIte, Nat.reduceAdd, List.replicate_succ, List.replicate_zero, List.set_cons_zero, List.set_cons_succ, List.length_cons, List.length_nil, Nat.reduceLT, Nat.lt_add_one, ne_eq, Int.reduceEq, not_false_eq_true, Option.map_some, Nat.reduceLeDiff, Nat.zero_lt_succ, List.map_cons, List.map_nil, List.nil_append, List.cons_append, List.append_nil, bytesOf, List.take_succ_cons, List.take_zero, List.drop_zero, and_self, List.append_assoc, List.length_append, Int.reduceLT, Int.reduceLE, Int.toNat_zero, Int.reduceToNat, Int.cast_ofNat_Int, Int.natCast_zero, Int.natCast_one, Int.reduceAdd, List.map_append, Option.bind_some, hx5, bytes_strI]
      refine ⟨intR_len1 _ _, app_own ho5 (by simp only [intR_len, List.length_append, List.length_cons, List.length_nil, strI, List.length_map]; omega) (by simp only [intR_len, List.length_append, List.length_cons, List.length_nil, strI, List.length_map]; omega) fun a6 H6 ho6 hk6 _ => ?_⟩
      have hv6 := kept_var hk6 ho5 hv5
      rw [intR_app] at ho6
      simp only [go_sem, Nat.reduceEqDiff, reduceIte, ↓reduceIte, Nat.reduceAdd, List.replicate_succ, List.replicate_zero, List.set_cons_zero, List.set_cons_succ, List.length_cons, List.length_nil, Nat.reduceLT, Nat.lt_add_one, ne_eq, Int.reduceEq, not_false_eq_true, Option.map_some, Nat.reduceLeDiff, Nat.zero_lt_succ, List.map_cons, List.map_nil, List.nil_append, List.cons_append, List.append_nil, bytesOf, List.take_succ_cons, List.take_zero, List.drop_zero, and_self, List.append_assoc, List.length_append, Int.reduceLT, Int.reduceLE, Int.toNat_zero, Int.reduceToNat, Int.cast_ofNat_Int, Int.natCast_zero, Int.natCast_one, Int.reduceAdd, List.map_append, Option.bind_some]
      refine ⟨(i + 1, a6, H6), ⟨hil, ?_, hv6, ?_⟩, by simp only; omega⟩
      · rw [flat_take _ hil]
        simpa [insB, encI] using ho6
      · rw [wr1 hil hok.1.1]
    · have hil : i = c.ins.length := by simp at hd; omega
      subst hil
      have hfi := hf.ins c.ins.length
      rw [List.take_length] at ho hfi
      have hbl : (bodyB c).length ≤ 36000000 := by simp only [bodyB, List.length_append]; omega
      have ho' : OwnR H a 1 (intR .u8 (bodyB c)) := ho
      simp only [go_sem, Nat.reduceEqDiff, reduceIte, ↓reduceIte, Nat.reduceAdd, List.replicate_succ, List.replicate_zero, List.set_cons_zero, List.set_cons_succ, List.length_cons, List.length_nil, Nat.reduceLT, Nat.lt_add_one, ne_eq, Int.reduceEq, not_false_eq_true, Option.map_some, Nat.reduceLeDiff, Nat.zero_lt_succ, List.map_cons, List.map_nil, List.nil_append, List.cons_append, List.append_nil, bytesOf, List.take_succ_cons, List.take_zero, List.drop_zero, and_self, List.append_assoc, List.length_append, Int.reduceLT, Int.reduceLE, Int.toNat_zero, Int.reduceToNat, Int.cast_ofNat_Int, Int.natCast_zero, Int.natCast_one, Int.reduceAdd, List.map_append, Option.bind_some]
      have hmx : (bodyB c).length ≤ maxL := by unfold maxL; omega
      refine (own_result (sumOf0 (bodyB c) (isB_body c) hmx) (lentAll_cons (own_lent ho') (lentAll_nil _))).mono ?_
      rintro r H' (⟨h, _⟩ | ⟨ver, rfl, rfl⟩)
      · simp [sumB] at h
      simp only [go_sem, Nat.reduceEqDiff, reduceIte, ↓reduceIte, Nat.reduceAdd, List.replicate_succ, List.replicate_zero, List.set_cons_zero, List.set_cons_succ, List.length_cons, List.length_nil, Nat.reduceLT, Nat.lt_add_one, ne_eq, Int.reduceEq, not_false_eq_true, Option.map_some, Nat.reduceLeDiff, Nat.zero_lt_succ, List.map_cons, List.map_nil, List.nil_append, List.cons_append, List.append_nil, bytesOf, List.take_succ_cons, List.take_zero, List.drop_zero, and_self, List.append_assoc, List.length_append, Int.reduceLT, Int.reduceLE, Int.toNat_zero, Int.reduceToNat, Int.cast_ofNat_Int, Int.natCast_zero, Int.natCast_one, Int.reduceAdd, List.map_append, Option.bind_some, intR_len, intR_take, Nat.le_refl]
      have hs4 : (sumB (bodyB c)).length = 4 := rfl
      refine ⟨intR_len1 _ _, app_own ho'.ext (by simp only [intR_len, hs4]; omega) (by simp only [intR_len, hs4]; omega) fun a7 H7 ho7 _ _ => ?_⟩
      rw [intR_app] at ho7
      have himg : (bodyB c ++ sumB (bodyB c)) = imgB c := rfl
      rw [himg] at ho7
      have hne : (imgB c).length = (bodyB c).length + 4 := by simp [imgB, hs4]
      rcases ho7 with ⟨_, he⟩ | ⟨id, ver, rfl, hid⟩
      · have : (intR .u8 (imgB c)).length = 0 := by rw [he]; rfl
        rw [intR_len] at this; omega
      · simp only [go_sem, Nat.reduceEqDiff, reduceIte, ↓reduceIte, Nat.reduceAdd, List.replicate_succ, List.replicate_zero, List.set_cons_zero, List.set_cons_succ, List.length_cons, List.length_nil, Nat.reduceLT, Nat.lt_add_one, ne_eq, Int.reduceEq, not_false_eq_true, Option.map_some, Nat.reduceLeDiff, Nat.zero_lt_succ, List.map_cons, List.map_nil, List.nil_append, List.cons_append, List.append_nil, bytesOf, List.take_succ_cons, List.take_zero, List.drop_zero, and_self, List.append_assoc, List.length_append, Int.reduceLT, Int.reduceLE, Int.toNat_zero, Int.reduceToNat, Int.cast_ofNat_Int, Int.natCast_zero, Int.natCast_one, Int.reduceAdd, List.map_append, Option.bind_some, intR_len]
        intro _
        refine condK_split _ (fun h2 => ?_) (fun h2 => ?_)
        · simp only [go_sem, Nat.reduceEqDiff, reduceIte, ↓reduceIte, Nat.reduceAdd, List.replicate_succ, List.replicate_zero, List.set_cons_zero, List.set_cons_succ, List.length_cons, List.length_nil, Nat.reduceLT, Nat.lt_add_one, ne_eq, Int.reduceEq, not_false_eq_true, Option.map_some, Nat.reduceLeDiff, Nat.zero_lt_succ, List.map_cons, List.map_nil, List.nil_append, List.cons_append, List.append_nil, bytesOf, List.take_succ_cons, List.take_zero, List.drop_zero, and_self, List.append_assoc, List.length_append, Int.reduceLT, Int.reduceLE, Int.toNat_zero, Int.reduceToNat, Int.cast_ofNat_Int, Int.natCast_zero, Int.natCast_one, Int.reduceAdd, List.map_append, Option.bind_some]
          have : ¬ (imgB c).length ≤ 200000 := by simp at h2; omega
          refine .inl ⟨rfl, ?_⟩
          simp [putD, this, intR]
        · simp only [go_sem, Nat.reduceEqDiff, reduceIte, ↓reduceIte, Nat.reduceAdd, List.replicate_succ, List.replicate_zero, List.set_cons_zero, List.set_cons_succ, List.length_cons, List.length_nil, Nat.reduceLT, Nat.lt_add_one, ne_eq, Int.reduceEq, not_false_eq_true, Option.map_some, Nat.reduceLeDiff, Nat.zero_lt_succ, List.map_cons, List.map_nil, List.nil_append, List.cons_append, List.append_nil, bytesOf, List.take_succ_cons, List.take_zero, List.drop_zero, and_self, List.append_assoc, List.length_append, Int.reduceLT, Int.reduceLE, Int.toNat_zero, Int.reduceToNat, Int.cast_ofNat_Int, Int.natCast_zero, Int.natCast_one, Int.reduceAdd, List.map_append, Option.bind_some]
          have : (imgB c).length ≤ 200000 := by simp at h2; omega
          rw [putD, if_pos ⟨hco', this⟩]
          exact .inr ⟨id, ver, by rw [intR_len], hid⟩
end Go.Proofs.Ytmbggdfceecojaa.Cd

/- Images of codes: by the reference. -/
set_option linter.all false
namespace Go.Proofs.Ytmbggdfceecojaa.Cd
open Go.AM Mc Ho

theorem putShort_all (n : Int) (h : rng n) (Hc : List AO) : ∀ A, ACall Try.prog 71 [.p (.i .i64 n)] (Hc ++ A) (pureQ (.p (.l (rowsK .u8 (enc (zig n))))) (Hc ++ A)) :=
  fun A => (putShort n h.1 h.2).mono fun r H' ⟨h1, h2⟩ => ⟨h2, h1⟩

theorem specPut0 (c : CodeD) (hf : Fits c) : ACall Try.prog 20 [.st (c.cells.map .p)] [] (fun r H' => OwnR H' r 1 (intR .u8 (putD c))) := by
  have hsm := hf.sm
  unfold small at hsm
  have hok : okCode c := hf.ok
  have hr1 := rng_len hok.2
  have hr2 := rng_len hok.1.1
  have hl1 := encI_len hr1
  have hl2 := encI_len hr2
  unfold encI at hl1 hl2
  refine call20 (by simp) ?_
  simp only [go_sem, Nat.reduceEqDiff, reduceIte, ↓reduceIte, Nat.reduceAdd, List.replicate_succ, List.replicate_zero, List.set_cons_zero, List.set_cons_succ, List.length_cons, List.length_nil, Nat.reduceLT, Nat.lt_add_one, ne_eq, Int.reduceEq, not_false_eq_true, Option.map_some, Nat.reduceLeDiff, Nat.zero_lt_succ, List.map_cons, List.map_nil, List.nil_append, List.cons_append, List.append_nil, bytesOf, List.take_succ_cons, List.take_zero, List.drop_zero, and_self, List.append_assoc, List.length_append, Int.reduceLT, Int.reduceLE, Int.toNat_zero, Int.reduceToNat, Int.cast_ofNat_Int, Int.natCast_zero, Int.natCast_one, Int.reduceAdd, List.map_append, Option.bind_some, mc20, mr20, CodeD.cells]
  rw [code_eta]
  refine (acall_lend (specCodeOk c hf.ok) (fun r H' h => by subst h; exact grnd_b _) (lentAll_cons (code_lent c) (lentAll_nil _))).mono ?_
  rintro r H' ⟨rfl, _, rfl⟩
  simp only [go_sem, Nat.reduceEqDiff, reduceIte, ↓reduceIte, Nat.reduceAdd, List.replicate_succ, List.replicate_zero, List.set_cons_zero, List.set_cons_succ, List.length_cons, List.length_nil, Nat.reduceLT, Nat.lt_add_one, ne_eq, Int.reduceEq, not_false_eq_true, Option.map_some, Nat.reduceLeDiff, Nat.zero_lt_succ, List.map_cons, List.map_nil, List.nil_append, List.cons_append, List.append_nil, bytesOf, List.take_succ_cons, List.take_zero, List.drop_zero, and_self, List.append_assoc, List.length_append, Int.reduceLT, Int.reduceLE, Int.toNat_zero, Int.reduceToNat, Int.cast_ofNat_Int, Int.natCast_zero, Int.natCast_one, Int.reduceAdd, List.map_append, Option.bind_some]
  refine condK_split _ (fun hco => ?_) (fun hco => ?_)
  · simp only [go_sem, Nat.reduceEqDiff, reduceIte, ↓reduceIte, Nat.reduceAdd, List.replicate_succ, List.replicate_zero, List.set_cons_zero, List.set_cons_succ, List.length_cons, List.length_nil, Nat.reduceLT, Nat.lt_add_one, ne_eq, Int.reduceEq, not_false_eq_true, Option.map_some, Nat.reduceLeDiff, Nat.zero_lt_succ, List.map_cons, List.map_nil, List.nil_append, List.cons_append, List.append_nil, bytesOf, List.take_succ_cons, List.take_zero, List.drop_zero, and_self, List.append_assoc, List.length_append, Int.reduceLT, Int.reduceLE, Int.toNat_zero, Int.reduceToNat, Int.cast_ofNat_Int, Int.natCast_zero, Int.natCast_one, Int.reduceAdd, List.map_append, Option.bind_some]
    have : codeOk c = false := by simpa using hco
    refine .inr ⟨1, 0, ?_, ?_⟩
    · simp [putD, this, intR]
    · simp [putD, this, intR]
  · have hco' : codeOk c = true := by simpa using hco
    simp only [go_sem, Nat.reduceEqDiff, reduceIte, ↓reduceIte, Nat.reduceAdd, List.replicate_succ, List.replicate_zero, List.set_cons_zero, List.set_cons_succ, List.length_cons, List.length_nil, Nat.reduceLT, Nat.lt_add_one, ne_eq, Int.reduceEq, not_false_eq_true, Option.map_some, Nat.reduceLeDiff, Nat.zero_lt_succ, List.map_cons, List.map_nil, List.nil_append, List.cons_append, List.append_nil, bytesOf, List.take_succ_cons, List.take_zero, List.drop_zero, and_self, List.append_assoc, List.length_append, Int.reduceLT, Int.reduceLE, Int.toNat_zero, Int.reduceToNat, Int.cast_ofNat_Int, Int.natCast_zero, Int.natCast_one, Int.reduceAdd, List.map_append, Option.bind_some, CodeD.cells]
    have ho0 : OwnR [.var [.p (.l (inss c.ins)), .p (.l (ints c.starts))], .rows 1 0 [[.p (.i .u8 77)], [.p (.i .u8 78)], [.p (.i .u8 1)]]] (.gs 1 0 0 3) 1 (intR .u8 [77, 78, 1]) := .inr ⟨1, 0, rfl, rfl⟩
    have hv0 : [AO.var [.p (.l (inss c.ins)), .p (.l (ints c.starts))], .rows 1 0 [[.p (.i .u8 77)], [.p (.i .u8 78)], [.p (.i .u8 1)]]][0]? = some (.var [.p (.l (inss c.ins)), .p (.l (ints c.starts))]) := rfl
    generalize [AO.var [.p (.l (inss c.ins)), .p (.l (ints c.starts))], .rows 1 0 [[.p (.i .u8 77)], [.p (.i .u8 78)], [.p (.i .u8 1)]]] = H0 at ho0 hv0 ⊢
    generalize AV.gs 1 0 0 3 = a0 at ho0 ⊢
    have hkv := killed_var ho0 hv0
    refine ⟨killed H0 a0, killed_ext _ _, ?_⟩
    simp only [go_sem, Nat.reduceEqDiff, reduceIte, ↓reduceIte, Nat.reduceAdd, List.replicate_succ, List.replicate_zero, List.set_cons_zero, List.set_cons_succ, List.length_cons, List.length_nil, Nat.reduceLT, Nat.lt_add_one, ne_eq, Int.reduceEq, not_false_eq_true, Option.map_some, Nat.reduceLeDiff, Nat.zero_lt_succ, List.map_cons, List.map_nil, List.nil_append, List.cons_append, List.append_nil, bytesOf, List.take_succ_cons, List.take_zero, List.drop_zero, and_self, List.append_assoc, List.length_append, Int.reduceLT, Int.reduceLE, Int.toNat_zero, Int.reduceToNat, Int.cast_ofNat_Int, Int.natCast_zero, Int.natCast_one, Int.reduceAdd, List.map_append, Option.bind_some, hkv, ints_len]
    refine pcall_pure (putShort_all _ hr1 _) (killed_ext _ _) ?_
    simp only [go_sem, Nat.reduceEqDiff, reduceIte, ↓reduceIte, Nat.reduceAdd, List.replicate_succ, List.replicate_zero, List.set_cons_zero, List.set_cons_succ, List.length_cons, List.length_nil, Nat.reduceLT, Nat.lt_add_one, ne_eq, Int.reduceEq, not_false_eq_true, Option.map_some, Nat.reduceLeDiff, Nat.zero_lt_succ, List.map_cons, List.map_nil, List.nil_append, List.cons_append, List.append_nil, bytesOf, List.take_succ_cons, List.take_zero, List.drop_zero, and_self, List.append_assoc, List.length_append, Int.reduceLT, Int.reduceLE, Int.toNat_zero, Int.reduceToNat, Int.cast_ofNat_Int, Int.natCast_zero, Int.natCast_one, Int.reduceAdd, List.map_append, Option.bind_some, rows_src]
    refine ⟨intR_len1 _ _, app_drw ho0 (by simp [intR]) (by simp [intR_len]; omega) (by simp [intR_len]; omega) fun a1 H1 ho1 hk1 => ?_⟩
    have hv1 := kept_var hk1 ho0 hv0
    rw [intR_app] at ho1
    simp only [go_sem, Nat.reduceEqDiff, reduceIte, ↓reduceIte, Nat.reduceAdd, List.replicate_succ, List.replicate_zero, List.set_cons_zero, List.set_cons_succ, List.length_cons, List.length_nil, Nat.reduceLT, Nat.lt_add_one, ne_eq, Int.reduceEq, not_false_eq_true, Option.map_some, Nat.reduceLeDiff, Nat.zero_lt_succ, List.map_cons, List.map_nil, List.nil_append, List.cons_append, List.append_nil, bytesOf, List.take_succ_cons, List.take_zero, List.drop_zero, and_self, List.append_assoc, List.length_append, Int.reduceLT, Int.reduceLE, Int.toNat_zero, Int.reduceToNat, Int.cast_ofNat_Int, Int.natCast_zero, Int.natCast_one, Int.reduceAdd, List.map_append, Option.bind_some, hkv, inss_len]
    refine (putShort _ hr2.1 hr2.2).mono ?_
    rintro r H' ⟨rfl, rfl⟩
    simp only [go_sem, Nat.reduceEqDiff, reduceIte, ↓reduceIte, Nat.reduceAdd, List.replicate_succ, List.replicate_zero, List.set_cons_zero, List.set_cons_succ, List.length_cons, List.length_nil, Nat.reduceLT, Nat.lt_add_one, ne_eq, Int.reduceEq, not_false_eq_true, Option.map_some, Nat.reduceLeDiff, Nat.zero_lt_succ, List.map_cons, List.map_nil, List.nil_append, List.cons_append, List.append_nil, bytesOf, List.take_succ_cons, List.take_zero, List.drop_zero, and_self, List.append_assoc, List.length_append, Int.reduceLT, Int.reduceLE, Int.toNat_zero, Int.reduceToNat, Int.cast_ofNat_Int, Int.natCast_zero, Int.natCast_one, Int.reduceAdd, List.map_append, Option.bind_some, rows_src]
    refine ⟨intR_len1 _ _, app_own ho1 (by simp [intR_len]; omega) (by simp [intR_len]; omega) fun a2 H2 ho2 hk2 _ => ?_⟩
    have hv2 := kept_var hk2 ho1 hv1
    rw [intR_app] at ho2
    have ho2' : OwnR H2 a2 1 (intR .u8 (headB c)) := ho2
    clear ho2 ho1 hk1 hk2 ho0 hv1 hv0 hkv
    have hhead := hf.head
    simp only [go_sem, Nat.reduceEqDiff, reduceIte, ↓reduceIte, Nat.reduceAdd, List.replicate_succ, List.replicate_zero, List.set_cons_zero, List.set_cons_succ, List.length_cons, List.length_nil, Nat.reduceLT, Nat.lt_add_one, ne_eq, Int.reduceEq, not_false_eq_true, Option.map_some, Nat.reduceLeDiff, Nat.zero_lt_succ, List.map_cons, List.map_nil, List.nil_append, List.cons_append, List.append_nil, bytesOf, List.take_succ_cons, List.take_zero, List.drop_zero, and_self, List.append_assoc, List.length_append, Int.reduceLT, Int.reduceLE, Int.toNat_zero, Int.reduceToNat, Int.cast_ofNat_Int, Int.natCast_zero, Int.natCast_one, Int.reduceAdd, List.map_append, Option.bind_some]
    refine ⟨Nat × AV × List AO, [0, 1, 2, 3, 4], fun x st => x.1 ≤ c.starts.length ∧ OwnR x.2.2 x.2.1 1 (intR .u8 (headB c ++ (c.starts.take x.1).flatMap encI)) ∧ x.2.2[0]? = some (.var [.p (.l (inss c.ins)), .p (.l (ints c.starts))]) ∧
      st = ⟨[(0, .st [.p (.l (inss c.ins)), .p (.l (ints c.starts))]), (1, .ptr 0 0), (2, .p .nl), (3, x.2.1), (4, .p (.i .i64 x.1))], [], x.2.2⟩, fun x => c.starts.length - x.1, ⟨⟨0, a2, H2⟩, ?_⟩, ?_⟩
    · simp only [go_sem, Nat.reduceEqDiff, reduceIte, ↓reduceIte, Nat.reduceAdd, List.replicate_succ, List.replicate_zero, List.set_cons_zero, List.set_cons_succ, List.length_cons, List.length_nil, Nat.reduceLT, Nat.lt_add_one, ne_eq, Int.reduceEq, not_false_eq_true, Option.map_some, Nat.reduceLeDiff, Nat.zero_lt_succ, List.map_cons, List.map_nil, List.nil_append, List.cons_append, List.append_nil, bytesOf, List.take_succ_cons, List.take_zero, List.drop_zero, and_self, List.append_assoc, List.length_append, Int.reduceLT, Int.reduceLE, Int.toNat_zero, Int.reduceToNat, Int.cast_ofNat_Int, Int.natCast_zero, Int.natCast_one, Int.reduceAdd, List.map_append, Option.bind_some]
      exact ⟨Nat.zero_le _, by simpa using ho2', hv2⟩
    clear hv2 ho2'
    rintro ⟨i, a, H⟩ st ⟨hi, ho, hv, rfl⟩
    simp only at hi ho hv
    simp only [go_sem, Nat.reduceEqDiff, reduceIte, ↓reduceIte, Nat.reduceAdd, List.replicate_succ, List.replicate_zero, List.set_cons_zero, List.set_cons_succ, List.length_cons, List.length_nil, Nat.reduceLT, Nat.lt_add_one, ne_eq, Int.reduceEq, not_false_eq_true, Option.map_some, Nat.reduceLeDiff, Nat.zero_lt_succ, List.map_cons, List.map_nil, List.nil_append, List.cons_append, List.append_nil, bytesOf, List.take_succ_cons, List.take_zero, List.drop_zero, and_self, List.append_assoc, List.length_append, Int.reduceLT, Int.reduceLE, Int.toNat_zero, Int.reduceToNat, Int.cast_ofNat_Int, Int.natCast_zero, Int.natCast_one, Int.reduceAdd, List.map_append, Option.bind_some, hv, ints_len]
    intro _
    refine condK_split _ (fun hd => ?_) (fun hd => ?_)
    · have hil : i < c.starts.length := by simpa using hd
      have hr := hf.rg.1 _ (List.getElem_mem hil)
      simp only [go_sem, Nat.reduceEqDiff, reduceIte, ↓reduceIte, Nat.reduceAdd, List.replicate_succ, List.replicate_zero, List.set_cons_zero, List.set_cons_succ, List.length_cons, List.length_nil, Nat.reduceLT, Nat.lt_add_one, ne_eq, Int.reduceEq, not_false_eq_true, Option.map_some, Nat.reduceLeDiff, Nat.zero_lt_succ, List.map_cons, List.map_nil, List.nil_append, List.cons_append, List.append_nil, bytesOf, List.take_succ_cons, List.take_zero, List.drop_zero, and_self, List.append_assoc, List.length_append, Int.reduceLT, Int.reduceLE, Int.toNat_zero, Int.reduceToNat, Int.cast_ofNat_Int, Int.natCast_zero, Int.natCast_one, Int.reduceAdd, List.map_append, Option.bind_some, ints_at _ hil, hv]
      refine (putShort _ hr.1 hr.2).mono ?_
      rintro r H' ⟨rfl, rfl⟩
      have h1 := hf.starts i
      have h2 := encI_len hr
      unfold encI at h2
      simp only [go_sem, Nat.reduceEqDiff, reduceIte, ↓reduceIte, Nat.reduceAdd, List.replicate_succ, List.replicate_zero, List.set_cons_zero, List.set_cons_succ, List.length_cons, List.length_nil, Nat.reduceLT, Nat.lt_add_one, ne_eq, Int.reduceEq, not_false_eq_true, Option.map_some, Nat.reduceLeDiff, Nat.zero_lt_succ, List.map_cons, List.map_nil, List.nil_append, List.cons_append, List.append_nil, bytesOf, List.take_succ_cons, List.take_zero, List.drop_zero, and_self, List.append_assoc, List.length_append, Int.reduceLT, Int.reduceLE, Int.toNat_zero, Int.reduceToNat, Int.cast_ofNat_Int, Int.natCast_zero, Int.natCast_one, Int.reduceAdd, List.map_append, Option.bind_some, rows_src]
      refine ⟨intR_len1 _ _, app_own ho (by simp only [intR_len, List.length_append]; omega) (by simp only [intR_len, List.length_append]; omega) fun a3 H3 ho3 hk3 _ => ?_⟩
      have hv3 := kept_var hk3 ho hv
      simp only [go_sem, Nat.reduceEqDiff, reduceIte, ↓reduceIte, Nat.reduceAdd, List.replicate_succ, List.replicate_zero, List.set_cons_zero, List.set_cons_succ, List.length_cons, List.length_nil, Nat.reduceLT, Nat.lt_add_one, ne_eq, Int.reduceEq, not_false_eq_true, Option.map_some, Nat.reduceLeDiff, Nat.zero_lt_succ, List.map_cons, List.map_nil, List.nil_append, List.cons_append, List.append_nil, bytesOf, List.take_succ_cons, List.take_zero, List.drop_zero, and_self, List.append_assoc, List.length_append, Int.reduceLT, Int.reduceLE, Int.toNat_zero, Int.reduceToNat, Int.cast_ofNat_Int, Int.natCast_zero, Int.natCast_one, Int.reduceAdd, List.map_append, Option.bind_some]
      refine ⟨(i + 1, a3, H3), ⟨hil, ?_, hv3, ?_⟩, by simp only; omega⟩
      · rw [intR_app] at ho3
        rw [flat_take _ hil, ← List.append_assoc]; exact ho3
      · rw [wr1 hil hok.2]
    have hil : i = c.starts.length := by simp at hd; omega
    subst hil
    rw [List.take_length] at ho
    simp only [go_sem, Nat.reduceEqDiff, reduceIte, ↓reduceIte, Nat.reduceAdd, List.replicate_succ, List.replicate_zero, List.set_cons_zero, List.set_cons_succ, List.length_cons, List.length_nil, Nat.reduceLT, Nat.lt_add_one, ne_eq, Int.reduceEq, not_false_eq_true, Option.map_some, Nat.reduceLeDiff, Nat.zero_lt_succ, List.map_cons, List.map_nil, List.nil_append, List.cons_append, List.append_nil, bytesOf, List.take_succ_cons, List.take_zero, List.drop_zero, and_self, List.append_assoc, List.length_append, Int.reduceLT, Int.reduceLE, Int.toNat_zero, Int.reduceToNat, Int.cast_ofNat_Int, Int.natCast_zero, Int.natCast_one, Int.reduceAdd, List.map_append, Option.bind_some]
    refine ⟨Nat × AV × List AO, [0, 1, 2, 3, 5], fun x st => x.1 ≤ c.ins.length ∧ OwnR x.2.2 x.2.1 1 (intR .u8 (headB c ++ c.starts.flatMap encI ++ (c.ins.take x.1).flatMap insB)) ∧ x.2.2[0]? = some (.var [.p (.l (inss c.ins)), .p (.l (ints c.starts))]) ∧
      st = ⟨[(0, .st [.p (.l (inss c.ins)), .p (.l (ints c.starts))]), (1, .ptr 0 0), (2, .p .nl), (3, x.2.1), (5, .p (.i .i64 x.1))], [], x.2.2⟩, fun x => c.ins.length - x.1, ⟨⟨0, a, H⟩, ?_⟩, ?_⟩
    · simp only [go_sem, Nat.reduceEqDiff, reduceIte, ↓reduceIte, Nat.reduceAdd, List.replicate_succ, List.replicate_zero, List.set_cons_zero, List.set_cons_succ, List.length_cons, List.length_nil, Nat.reduceLT, Nat.lt_add_one, ne_eq, Int.reduceEq, not_false_eq_true, Option.map_some, Nat.reduceLeDiff, Nat.zero_lt_succ, List.map_cons, List.map_nil, List.nil_append, List.cons_append, List.append_nil, bytesOf, List.take_succ_cons, List.take_zero, List.drop_zero, and_self, List.append_assoc, List.length_append, Int.reduceLT, Int.reduceLE, Int.toNat_zero, Int.reduceToNat, Int.cast_ofNat_Int, Int.natCast_zero, Int.natCast_one, Int.reduceAdd, List.map_append, Option.bind_some]
      exact ⟨Nat.zero_le _, by simpa using ho, hv⟩
    clear ho hv
    rintro ⟨i, a, H⟩ st ⟨hi, ho, hv, rfl⟩
    simp only at hi ho hv
    have hst := hf.starts c.starts.length
    rw [List.take_length] at hst
    have hhd : 3 ≤ (headB c).length := by simp only [headB, List.length_append, List.length_cons, List.length_nil]; omega
    have hs4 : (sumB (bodyB c)).length = 4 := rfl
    simp only [go_sem, Nat.reduceEqDiff, reduceIte, ↓reduceIte, Nat.reduceAdd, List.replicate_succ, List.replicate_zero, List.set_cons_zero, List.set_cons_succ, List.length_cons, List.length_nil, Nat.reduceLT, Nat.lt_add_one, ne_eq, Int.reduceEq, not_false_eq_true, Option.map_some, Nat.reduceLeDiff, Nat.zero_lt_succ, List.map_cons, List.map_nil, List.nil_append, List.cons_append, List.append_nil, bytesOf, List.take_succ_cons, List.take_zero, List.drop_zero, and_self, List.append_assoc, List.length_append, Int.reduceLT, Int.reduceLE, Int.toNat_zero, Int.reduceToNat, Int.cast_ofNat_Int, Int.natCast_zero, Int.natCast_one, Int.reduceAdd, List.map_append, Option.bind_some, hv, inss_len]
    intro _
    refine condK_split _ (fun hd => ?_) (fun hd => ?_)
    · have hil : i < c.ins.length := by simpa using hd
      simp only [go_sem, Nat.reduceEqDiff, reduceIte, ↓reduceIte, Nat.reduceAdd, List.replicate_succ, List.replicate_zero, List.set_cons_zero, List.set_cons_succ, List.length_cons, List.length_nil, Nat.reduceLT, Nat.lt_add_one, ne_eq, Int.reduceEq, not_false_eq_true, Option.map_some, Nat.reduceLeDiff, Nat.zero_lt_succ, List.map_cons, List.map_nil, List.nil_append, List.cons_append, List.append_nil, bytesOf, List.take_succ_cons, List.take_zero, List.drop_zero, and_self, List.append_assoc, List.length_append, Int.reduceLT, Int.reduceLE, Int.toNat_zero, Int.reduceToNat, Int.cast_ofNat_Int, Int.natCast_zero, Int.natCast_one, Int.reduceAdd, List.map_append, Option.bind_some, inss_at _ hil, ins_clen, ins_take, InsD.cells, hv]
      have hxm := List.getElem_mem hil
      have hr := hf.rg.2 _ hxm
      have ht := hf.text hxm
      have htl : c.ins[i].text.length ≤ maxL := hok.1.2 _ hxm
      have hrt := rng_len htl
      have hfi := hf.ins i
      have hn10 := encI_len hr
      have ht10 := encI_len hrt
      unfold encI at hn10 ht10
      refine ⟨by simp, app_own ho.ext (by simp only [intR_len, List.length_append, List.length_cons, List.length_nil]; omega) (by simp only [intR_len, List.length_append, List.length_cons, List.length_nil]; omega) fun a3 H3 ho3 hk3 _ => ?_⟩
      have hv3 := kept_var (j := 0) hk3 ho.ext (by rw [List.getElem?_append_left (List.getElem?_eq_some_iff.1 hv).1]; exact hv)
      have hx3 := kept_var (j := H.length) hk3 ho.ext (get_off0 _ _)
      rw [show [[AV.p (.i .u8 (wr .u8 c.ins[i].op))], [AV.p (.i .u8 (wr .u8 (wr .i64 (wr .i64 (16 * c.ins[i].a) + c.ins[i].b))))], [AV.p (.i .u8 (wr .u8 c.ins[i].c))]] = intR .u8 [wr .u8 c.ins[i].op, wr .u8 (wr .i64 (wr .i64 (16 * c.ins[i].a) + c.ins[i].b)), wr .u8 c.ins[i].c] from rfl, intR_app] at ho3
      have hkx := killed_var ho3 hx3
      simp only [go_sem, Nat.reduceEqDiff, reduceIte, ↓reduceIte, Nat.reduceAdd, List.replicate_succ, List.replicate_zero, List.set_cons_zero, List.set_cons_succ, List.length_cons, List.length_nil, Nat.reduceLT, Nat.lt_add_one, ne_eq, Int.reduceEq, not_false_eq_true, Option.map_some, Nat.reduceLeDiff, Nat.zero_lt_succ, List.map_cons, List.map_nil, List.nil_append, List.cons_append, List.append_nil, bytesOf, List.take_succ_cons, List.take_zero, List.drop_zero, and_self, List.append_assoc, List.length_append, Int.reduceLT, Int.reduceLE, Int.toNat_zero, Int.reduceToNat, Int.cast_ofNat_Int, Int.natCast_zero, Int.natCast_one, Int.reduceAdd, List.map_append, Option.bind_some]
      refine ⟨killed H3 a3, killed_ext _ _, ?_⟩
      simp only [go_sem, Nat.reduceEqDiff, reduceIte, ↓reduceIte, Nat.reduceAdd, List.replicate_succ, List.replicate_zero, List.set_cons_zero, List.set_cons_succ, List.length_cons, List.length_nil, Nat.reduceLT, Nat.lt_add_one, ne_eq, Int.reduceEq, not_false_eq_true, Option.map_some, Nat.reduceLeDiff, Nat.zero_lt_succ, List.map_cons, List.map_nil, List.nil_append, List.cons_append, List.append_nil, bytesOf, List.take_succ_cons, List.take_zero, List.drop_zero, and_self, List.append_assoc, List.length_append, Int.reduceLT, Int.reduceLE, Int.toNat_zero, Int.reduceToNat, Int.cast_ofNat_Int, Int.natCast_zero, Int.natCast_one, Int.reduceAdd, List.map_append, Option.bind_some, hkx]
      refine pcall_pure (putShort_all _ hr _) (killed_ext _ _) ?_
      simp only [go_sem, Nat.reduceEqDiff, reduceIte, ↓reduceIte, Nat.reduceAdd, List.replicate_succ, List.replicate_zero, List.set_cons_zero, List.set_cons_succ, List.length_cons, List.length_nil, Nat.reduceLT, Nat.lt_add_one, ne_eq, Int.reduceEq, not_false_eq_true, Option.map_some, Nat.reduceLeDiff, Nat.zero_lt_succ, List.map_cons, List.map_nil, List.nil_append, List.cons_append, List.append_nil, bytesOf, List.take_succ_cons, List.take_zero, List.drop_zero, and_self, List.append_assoc, List.length_append, Int.reduceLT, Int.reduceLE, Int.toNat_zero, Int.reduceToNat, Int.cast_ofNat_Int, Int.natCast_zero, Int.natCast_one, Int.reduceAdd, List.map_append, Option.bind_some, rows_src]
      refine ⟨intR_len1 _ _, app_drw ho3 (by simp [intR]) (by simp only [intR_len, List.length_append, List.length_cons, List.length_nil]; omega) (by simp only [intR_len, List.length_append, List.length_cons, List.length_nil]; omega) fun a4 H4 ho4 hk4 => ?_⟩
      have hv4 := kept_var hk4 ho3 hv3
      have hx4 := kept_var hk4 ho3 hx3
      rw [intR_app] at ho4
      simp only [go_sem, Nat.reduceEqDiff, reduceIte, ↓reduceIte, Nat.reduceAdd, List.replicate_succ, List.replicate_zero, List.set_cons_zero, List.set_cons_succ, List.length_cons, List.length_nil, Nat.reduceLT, Nat.lt_add_one, ne_eq, Int.reduceEq, not_false_eq_true, Option.map_some, Nat.reduceLeDiff, Nat.zero_lt_succ, List.map_cons, List.map_nil, List.nil_append, List.cons_append, List.append_nil, bytesOf, List.take_succ_cons, List.take_zero, List.drop_zero, and_self, List.append_assoc, List.length_append, Int.reduceLT, Int.reduceLE, Int.toNat_zero, Int.reduceToNat, Int.cast_ofNat_Int, Int.natCast_zero, Int.natCast_one, Int.reduceAdd, List.map_append, Option.bind_some, hkx]
      refine (putShort _ hrt.1 hrt.2).mono ?_
      rintro r H' ⟨rfl, rfl⟩
      simp only [go_sem, Nat.reduceEqDiff, reduceIte, ↓reduceIte, Nat.reduceAdd, List.replicate_succ, List.replicate_zero, List.set_cons_zero, List.set_cons_succ, List.length_cons, List.length_nil, Nat.reduceLT, Nat.lt_add_one, ne_eq, Int.reduceEq, not_false_eq_true, Option.map_some, Nat.reduceLeDiff, Nat.zero_lt_succ, List.map_cons, List.map_nil, List.nil_append, List.cons_append, List.append_nil, bytesOf, List.take_succ_cons, List.take_zero, List.drop_zero, and_self, List.append_assoc, List.length_append, Int.reduceLT, Int.reduceLE, Int.toNat_zero, Int.reduceToNat, Int.cast_ofNat_Int, Int.natCast_zero, Int.natCast_one, Int.reduceAdd, List.map_append, Option.bind_some, rows_src]
      refine ⟨intR_len1 _ _, app_own ho4 (by simp only [intR_len, List.length_append, List.length_cons, List.length_nil]; omega) (by simp only [intR_len, List.length_append, List.length_cons, List.length_nil]; omega) fun a5 H5 ho5 hk5 _ => ?_⟩
      have hv5 := kept_var hk5 ho4 hv4
      have hx5 := kept_var hk5 ho4 hx4
      rw [intR_app] at ho5
      simp only [go_sem, Nat.reduceEqDiff, reduceIte, ↓reduceIte, Nat.reduceAdd, List.replicate_succ, List.replicate_zero, List.set_cons_zero, List.set_cons_succ, List.length_cons, List.length_nil, Nat.reduceLT, Nat.lt_add_one, ne_eq, Int.reduceEq, not_false_eq_true, Option.map_some, Nat.reduceLeDiff, Nat.zero_lt_succ, List.map_cons, List.map_nil, List.nil_append, List.cons_append, List.append_nil, bytesOf, List.take_succ_cons, List.take_zero, List.drop_zero, and_self, List.append_assoc, List.length_append, Int.reduceLT, Int.reduceLE, Int.toNat_zero, Int.reduceToNat, Int.cast_ofNat_Int, Int.natCast_zero, Int.natCast_one, Int.reduceAdd, List.map_append, Option.bind_some, hx5, bytes_strI]
      refine ⟨intR_len1 _ _, app_own ho5 (by simp only [intR_len, List.length_append, List.length_cons, List.length_nil, strI, List.length_map]; omega) (by simp only [intR_len, List.length_append, List.length_cons, List.length_nil, strI, List.length_map]; omega) fun a6 H6 ho6 hk6 _ => ?_⟩
      have hv6 := kept_var hk6 ho5 hv5
      rw [intR_app] at ho6
      have ho7 : OwnR H6 a6 1 (intR .u8 (headB c ++ c.starts.flatMap encI ++ (c.ins.take (i + 1)).flatMap insB)) := by
        rw [flat_take _ hil]
        simpa [insB, encI] using ho6
      clear ho6 ho5 ho4 ho3 hk6 hk5 hk4 hk3
      rcases ho7 with ⟨_, he⟩ | ⟨id, ver, rfl, hid⟩
      · have : (intR .u8 (headB c ++ c.starts.flatMap encI ++ (c.ins.take (i + 1)).flatMap insB)).length = 0 := by rw [he]; rfl
        simp only [intR_len, List.length_append] at this; omega
      simp only [go_sem, Nat.reduceEqDiff, reduceIte, ↓reduceIte, Nat.reduceAdd, List.replicate_succ, List.replicate_zero, List.set_cons_zero, List.set_cons_succ, List.length_cons, List.length_nil, Nat.reduceLT, Nat.lt_add_one, ne_eq, Int.reduceEq, not_false_eq_true, Option.map_some, Nat.reduceLeDiff, Nat.zero_lt_succ, List.map_cons, List.map_nil, List.nil_append, List.cons_append, List.append_nil, bytesOf, List.take_succ_cons, List.take_zero, List.drop_zero, and_self, List.append_assoc, List.length_append, Int.reduceLT, Int.reduceLE, Int.toNat_zero, Int.reduceToNat, Int.cast_ofNat_Int, Int.natCast_zero, Int.natCast_one, Int.reduceAdd, List.map_append, Option.bind_some, intR_len]
      intro _
      refine condK_split _ (fun h2 => ?_) (fun h2 => ?_)
      · simp only [go_sem, Nat.reduceEqDiff, reduceIte, ↓reduceIte, Nat.reduceAdd, List.replicate_succ, List.replicate_zero, List.set_cons_zero, List.set_cons_succ, List.length_cons, List.length_nil, Nat.reduceLT, Nat.lt_add_one, ne_eq, Int.reduceEq, not_false_eq_true, Option.map_some, Nat.reduceLeDiff, Nat.zero_lt_succ, List.map_cons, List.map_nil, List.nil_append, List.cons_append, List.append_nil, bytesOf, List.take_succ_cons, List.take_zero, List.drop_zero, and_self, List.append_assoc, List.length_append, Int.reduceLT, Int.reduceLE, Int.toNat_zero, Int.reduceToNat, Int.cast_ofNat_Int, Int.natCast_zero, Int.natCast_one, Int.reduceAdd, List.map_append, Option.bind_some]
        have hbig : ¬ (imgB c).length ≤ 200000 := by
          have hsub : ((c.ins.take (i + 1)).flatMap insB).length ≤ (c.ins.flatMap insB).length := by
            have e := List.take_append_drop (i + 1) c.ins
            have : (c.ins.flatMap insB) = (c.ins.take (i + 1)).flatMap insB ++ (c.ins.drop (i + 1)).flatMap insB := by rw [← List.flatMap_append, e]
            rw [this]; simp
          simp only [imgB, bodyB, List.length_append]
          simp only [List.length_append, decide_eq_true_eq] at h2
          omega
        have hpd : putD c = [] := by simp [putD, hbig]
        rw [hpd]
        exact .inr ⟨_, 0, rfl, (get_off0 _ _).trans rfl⟩
      · simp only [go_sem, Nat.reduceEqDiff, reduceIte, ↓reduceIte, Nat.reduceAdd, List.replicate_succ, List.replicate_zero, List.set_cons_zero, List.set_cons_succ, List.length_cons, List.length_nil, Nat.reduceLT, Nat.lt_add_one, ne_eq, Int.reduceEq, not_false_eq_true, Option.map_some, Nat.reduceLeDiff, Nat.zero_lt_succ, List.map_cons, List.map_nil, List.nil_append, List.cons_append, List.append_nil, bytesOf, List.take_succ_cons, List.take_zero, List.drop_zero, and_self, List.append_assoc, List.length_append, Int.reduceLT, Int.reduceLE, Int.toNat_zero, Int.reduceToNat, Int.cast_ofNat_Int, Int.natCast_zero, Int.natCast_one, Int.reduceAdd, List.map_append, Option.bind_some]
        refine ⟨(i + 1, .gs id ver 0 ((headB c).length + ((c.starts.flatMap encI).length + ((c.ins.take (i + 1)).flatMap insB).length)), H6), ⟨hil, .inr ⟨id, ver, ?_, by simpa only [List.append_assoc] using hid⟩, hv6, ?_⟩, by simp only; omega⟩
        · simp only [intR_len, List.length_append]
        · rw [wr1 hil hok.1.1]
    · have hil : i = c.ins.length := by simp at hd; omega
      subst hil
      have hfi := hf.ins c.ins.length
      rw [List.take_length] at ho hfi
      have hbl : (bodyB c).length ≤ 36000000 := by simp only [bodyB, List.length_append]; omega
      have ho' : OwnR H a 1 (intR .u8 (bodyB c)) := ho
      simp only [go_sem, Nat.reduceEqDiff, reduceIte, ↓reduceIte, Nat.reduceAdd, List.replicate_succ, List.replicate_zero, List.set_cons_zero, List.set_cons_succ, List.length_cons, List.length_nil, Nat.reduceLT, Nat.lt_add_one, ne_eq, Int.reduceEq, not_false_eq_true, Option.map_some, Nat.reduceLeDiff, Nat.zero_lt_succ, List.map_cons, List.map_nil, List.nil_append, List.cons_append, List.append_nil, bytesOf, List.take_succ_cons, List.take_zero, List.drop_zero, and_self, List.append_assoc, List.length_append, Int.reduceLT, Int.reduceLE, Int.toNat_zero, Int.reduceToNat, Int.cast_ofNat_Int, Int.natCast_zero, Int.natCast_one, Int.reduceAdd, List.map_append, Option.bind_some]
      have hmx : (bodyB c).length ≤ maxL := by unfold maxL; omega
      refine (own_result (l20Sum0 (bodyB c) (isB_body c) hmx) (lentAll_cons (own_lent ho') (lentAll_nil _))).mono ?_
      rintro r H' (⟨h, _⟩ | ⟨ver, rfl, rfl⟩)
      · simp [sumB] at h
      simp only [go_sem, Nat.reduceEqDiff, reduceIte, ↓reduceIte, Nat.reduceAdd, List.replicate_succ, List.replicate_zero, List.set_cons_zero, List.set_cons_succ, List.length_cons, List.length_nil, Nat.reduceLT, Nat.lt_add_one, ne_eq, Int.reduceEq, not_false_eq_true, Option.map_some, Nat.reduceLeDiff, Nat.zero_lt_succ, List.map_cons, List.map_nil, List.nil_append, List.cons_append, List.append_nil, bytesOf, List.take_succ_cons, List.take_zero, List.drop_zero, and_self, List.append_assoc, List.length_append, Int.reduceLT, Int.reduceLE, Int.toNat_zero, Int.reduceToNat, Int.cast_ofNat_Int, Int.natCast_zero, Int.natCast_one, Int.reduceAdd, List.map_append, Option.bind_some, intR_len, intR_take, Nat.le_refl]
      refine ⟨intR_len1 _ _, app_own ho'.ext (by simp only [intR_len, hs4]; omega) (by simp only [intR_len, hs4]; omega) fun a7 H7 ho7 _ _ => ?_⟩
      rw [intR_app] at ho7
      have himg : (bodyB c ++ sumB (bodyB c)) = imgB c := rfl
      rw [himg] at ho7
      have hne : (imgB c).length = (bodyB c).length + 4 := by simp [imgB, hs4]
      rcases ho7 with ⟨_, he⟩ | ⟨id, ver, rfl, hid⟩
      · have : (intR .u8 (imgB c)).length = 0 := by rw [he]; rfl
        rw [intR_len] at this; omega
      · simp only [go_sem, Nat.reduceEqDiff, reduceIte, ↓reduceIte, Nat.reduceAdd, List.replicate_succ, List.replicate_zero, List.set_cons_zero, List.set_cons_succ, List.length_cons, List.length_nil, Nat.reduceLT, Nat.lt_add_one, ne_eq, Int.reduceEq, not_false_eq_true, Option.map_some, Nat.reduceLeDiff, Nat.zero_lt_succ, List.map_cons, List.map_nil, List.nil_append, List.cons_append, List.append_nil, bytesOf, List.take_succ_cons, List.take_zero, List.drop_zero, and_self, List.append_assoc, List.length_append, Int.reduceLT, Int.reduceLE, Int.toNat_zero, Int.reduceToNat, Int.cast_ofNat_Int, Int.natCast_zero, Int.natCast_one, Int.reduceAdd, List.map_append, Option.bind_some, intR_len]
        intro _
        refine condK_split _ (fun h2 => ?_) (fun h2 => ?_)
        · simp only [go_sem, Nat.reduceEqDiff, reduceIte, ↓reduceIte, Nat.reduceAdd, List.replicate_succ, List.replicate_zero, List.set_cons_zero, List.set_cons_succ, List.length_cons, List.length_nil, Nat.reduceLT, Nat.lt_add_one, ne_eq, Int.reduceEq, not_false_eq_true, Option.map_some, Nat.reduceLeDiff, Nat.zero_lt_succ, List.map_cons, List.map_nil, List.nil_append, List.cons_append, List.append_nil, bytesOf, List.take_succ_cons, List.take_zero, List.drop_zero, and_self, List.append_assoc, List.length_append, Int.reduceLT, Int.reduceLE, Int.toNat_zero, Int.reduceToNat, Int.cast_ofNat_Int, Int.natCast_zero, Int.natCast_one, Int.reduceAdd, List.map_append, Option.bind_some]
          have : ¬ (imgB c).length ≤ 200000 := by simp at h2; omega
          have hpd : putD c = [] := by simp [putD, this]
          rw [hpd]
          exact .inr ⟨_, 0, rfl, (get_off0 _ _).trans rfl⟩
        · simp only [go_sem, Nat.reduceEqDiff, reduceIte, ↓reduceIte, Nat.reduceAdd, List.replicate_succ, List.replicate_zero, List.set_cons_zero, List.set_cons_succ, List.length_cons, List.length_nil, Nat.reduceLT, Nat.lt_add_one, ne_eq, Int.reduceEq, not_false_eq_true, Option.map_some, Nat.reduceLeDiff, Nat.zero_lt_succ, List.map_cons, List.map_nil, List.nil_append, List.cons_append, List.append_nil, bytesOf, List.take_succ_cons, List.take_zero, List.drop_zero, and_self, List.append_assoc, List.length_append, Int.reduceLT, Int.reduceLE, Int.toNat_zero, Int.reduceToNat, Int.cast_ofNat_Int, Int.natCast_zero, Int.natCast_one, Int.reduceAdd, List.map_append, Option.bind_some]
          have : (imgB c).length ≤ 200000 := by simp at h2; omega
          rw [putD, if_pos ⟨hco', this⟩]
          exact .inr ⟨id, ver, by rw [intR_len], hid⟩
end Go.Proofs.Ytmbggdfceecojaa.Cd

/- PutImage: the law. -/
set_option linter.all false
namespace Go.Proofs.Ytmbggdfceecojaa.Cd
open Go.AM Mc Ho

theorem toCode_fresh (c : CodeD) (hc : okCode c) (hs : small c) {H : List AO} : ACall Try.prog 21 [.st (c.cells.map .p)] H (fun r H' => H' = H ∧ r = .st (c.cells.map .p)) := by
  refine acall_fresh (toCode0 c hc hs) ?_ ?_
  · intro b hb
    simp only [List.mem_singleton] at hb
    subst hb
    refine noid_st _ ?_
    intro a ha
    obtain ⟨q, _, rfl⟩ := List.mem_map.1 ha
    exact noid_p q
  · rintro r H' ⟨rfl, h3, h4⟩
    exact ⟨_, lent_code c (i := 3) h3 h4, rfl⟩

theorem putD_len {c : CodeD} : (putD c).length ≤ 200000 := by
  unfold putD
  split
  · rename_i h; exact h.2
  · simp

theorem specPut (c : CodeD) (hf : Fits c) {H : List AO} {a : AV} (ha : Lent H a (.st (c.cells.map .p))) : ACall Try.prog 20 [a] H (fun r H' => ∃ A, H' = H ++ A ∧ OwnAt H' r 1 (intR .u8 (putD c)) H.length H'.length) :=
  acall_ownAt (specPut0 c hf) (lentAll_cons ha (lentAll_nil _)) (grnd_intR _ _)
theorem implPut (c : CodeD) (hf : Fits c) {H : List AO} {a : AV} (ha : Lent H a (.st (c.cells.map .p))) : ACall Try.prog 22 [a] H (fun r H' => ∃ A, H' = H ++ A ∧ OwnAt H' r 1 (intR .u8 (putD c)) H.length H'.length) :=
  acall_ownAt (implPut0 c hf) (lentAll_cons ha (lentAll_nil _)) (grnd_intR _ _)
theorem szCode_any (c : CodeD) (hc : okCode c) {H : List AO} : ACall Try.prog 19 [.st (c.cells.map .p), .p (.i .i64 1048576)] H (fun r H' => (∃ q : Int, r = .p (.i .i64 q) ∧ (q < 0 ∨ (0 ≤ q ∧ small c))) ∧ H' = H) :=
  (acall_lend (szCode c hc) (fun r H' ⟨q, h, _⟩ => by subst h; exact grnd_i _ _) (lentAll_cons (code_lent c) (lentAll_cons (.pure _) (lentAll_nil _)))).mono fun r H' ⟨h1, _, h2⟩ => ⟨h2, h1⟩
theorem eqCode_any (c d : CodeD) (hc : okCode c) (hd : okCode d) {H : List AO} {a b : AV} (ha : Lent H a (.st (c.cells.map .p))) (hb : Lent H b (.st (d.cells.map .p))) : ACall Try.prog 24 [a, b] H (fun r H' => r = .p (.b (decide (c = d))) ∧ H' = H) :=
  (acall_lend (eqCode c d hc hd) (fun r H' h => by subst h; exact grnd_b _) (lentAll_cons ha (lentAll_cons hb (lentAll_nil _)))).mono fun r H' ⟨h1, _, h2⟩ => ⟨h2, h1⟩

theorem markByteS_own {H : List AO} {a : AV} {zs : List Int} {lo hi : Nat} (h : OwnAt H a 1 (intR .u8 zs) lo hi) (hn : zs.length ≤ 100000000) :
    ACall Try.prog 26 [a, .p (.i .i64 1)] H (fun r H' => r = .p (.i .i64 (1 + zs.length)) ∧ OwnAt H' a 1 (intR .u8 (pat 1 zs.length)) lo hi ∧ H'.length = H.length ∧ ∀ (j : Nat) o, H[j]? = some o → j < lo ∨ hi ≤ j → H'[j]? = some o) := by
  rcases h with ⟨rfl, he⟩ | ⟨id, ver, h0, h1, rfl, h3⟩
  · have hz : zs = [] := by simpa [intR] using he
    subst hz
    refine call26 (by simp) ?_
    simp only [go_sem, Nat.reduceEqDiff, reduceIte, ↓reduceIte, Nat.reduceAdd, List.replicate_succ, List.replicate_zero, List.set_cons_zero, List.set_cons_succ, List.length_cons, List.length_nil, Nat.reduceLT, Nat.lt_add_one, ne_eq, Int.reduceEq, not_false_eq_true, Option.map_some, Nat.reduceLeDiff, Nat.zero_lt_succ, List.map_cons, List.map_nil, List.nil_append, List.cons_append, List.append_nil, bytesOf, List.take_succ_cons, List.take_zero, List.drop_zero, and_self, List.append_assoc, List.length_append, Int.reduceLT, Int.reduceLE, Int.toNat_zero, Int.reduceToNat, Int.cast_ofNat_Int, Int.natCast_zero, Int.natCast_one, Int.reduceAdd, List.map_append, Option.bind_some, mc26, mr26]
    refine ⟨Unit, [0, 1, 4, 5], fun _ st => st = ⟨[(0, .p .nl), (1, .p (.i .i64 1)), (4, .p (.i .i64 0)), (5, .p (.i .i64 0))], [], H⟩, fun _ => 0, ⟨(), ?_⟩, ?_⟩
    · simp only [go_sem, Nat.reduceEqDiff, reduceIte, ↓reduceIte, Nat.reduceAdd, List.replicate_succ, List.replicate_zero, List.set_cons_zero, List.set_cons_succ, List.length_cons, List.length_nil, Nat.reduceLT, Nat.lt_add_one, ne_eq, Int.reduceEq, not_false_eq_true, Option.map_some, Nat.reduceLeDiff, Nat.zero_lt_succ, List.map_cons, List.map_nil, List.nil_append, List.cons_append, List.append_nil, bytesOf, List.take_succ_cons, List.take_zero, List.drop_zero, and_self, List.append_assoc, List.length_append, Int.reduceLT, Int.reduceLE, Int.toNat_zero, Int.reduceToNat, Int.cast_ofNat_Int, Int.natCast_zero, Int.natCast_one, Int.reduceAdd, List.map_append, Option.bind_some]
    · rintro _ st rfl
      simp only [go_sem, Nat.reduceEqDiff, reduceIte, ↓reduceIte, Nat.reduceAdd, List.replicate_succ, List.replicate_zero, List.set_cons_zero, List.set_cons_succ, List.length_cons, List.length_nil, Nat.reduceLT, Nat.lt_add_one, ne_eq, Int.reduceEq, not_false_eq_true, Option.map_some, Nat.reduceLeDiff, Nat.zero_lt_succ, List.map_cons, List.map_nil, List.nil_append, List.cons_append, List.append_nil, bytesOf, List.take_succ_cons, List.take_zero, List.drop_zero, and_self, List.append_assoc, List.length_append, Int.reduceLT, Int.reduceLE, Int.toNat_zero, Int.reduceToNat, Int.cast_ofNat_Int, Int.natCast_zero, Int.natCast_one, Int.reduceAdd, List.map_append, Option.bind_some, Int.reduceLT, decide_false]
      exact ⟨.inl ⟨rfl, by simp [pat, intR]⟩, fun j o h _ => h⟩
  · have hl := intR_len .u8 zs
    have k := markByteS (intR .u8 zs) h3 (intR_len1 _ _) (by rw [hl]; exact hn) 1 (by omega) (by omega)
    rw [hl] at k ⊢
    refine k.mono ?_
    rintro r H' ⟨rfl, rfl⟩
    refine ⟨rfl, .inr ⟨id, ver, h0, h1, by rw [intR_len, pat_len], set_get h3⟩, by simp, fun j o h hj => ?_⟩
    rw [List.getElem?_set_ne (by omega)]; exact h
theorem heldByteS_own {H : List AO} {a : AV} {n : Nat} {lo hi : Nat} (h : OwnAt H a 1 (intR .u8 (pat 1 n)) lo hi) (hn : n ≤ 100000000) :
    ACall Try.prog 27 [a, .p (.i .i64 1)] H (fun r H' => r = .p (.i .i64 (1 + n)) ∧ H' = H) := by
  rcases h with ⟨rfl, he⟩ | ⟨id, ver, h0, h1, rfl, h3⟩
  · have hz : n = 0 := by
      have : (intR .u8 (pat 1 n)).length = 0 := by rw [he]; rfl
      rw [intR_len, pat_len] at this; exact this
    subst hz
    refine call27 (by simp) ?_
    simp only [go_sem, Nat.reduceEqDiff, reduceIte, ↓reduceIte, Nat.reduceAdd, List.replicate_succ, List.replicate_zero, List.set_cons_zero, List.set_cons_succ, List.length_cons, List.length_nil, Nat.reduceLT, Nat.lt_add_one, ne_eq, Int.reduceEq, not_false_eq_true, Option.map_some, Nat.reduceLeDiff, Nat.zero_lt_succ, List.map_cons, List.map_nil, List.nil_append, List.cons_append, List.append_nil, bytesOf, List.take_succ_cons, List.take_zero, List.drop_zero, and_self, List.append_assoc, List.length_append, Int.reduceLT, Int.reduceLE, Int.toNat_zero, Int.reduceToNat, Int.cast_ofNat_Int, Int.natCast_zero, Int.natCast_one, Int.reduceAdd, List.map_append, Option.bind_some, mc27, mr27]
    refine ⟨Unit, [0, 1, 4, 5], fun _ st => st = ⟨[(0, .p .nl), (1, .p (.i .i64 1)), (4, .p (.i .i64 0)), (5, .p (.i .i64 0))], [], H⟩, fun _ => 0, ⟨(), ?_⟩, ?_⟩
    · simp only [go_sem, Nat.reduceEqDiff, reduceIte, ↓reduceIte, Nat.reduceAdd, List.replicate_succ, List.replicate_zero, List.set_cons_zero, List.set_cons_succ, List.length_cons, List.length_nil, Nat.reduceLT, Nat.lt_add_one, ne_eq, Int.reduceEq, not_false_eq_true, Option.map_some, Nat.reduceLeDiff, Nat.zero_lt_succ, List.map_cons, List.map_nil, List.nil_append, List.cons_append, List.append_nil, bytesOf, List.take_succ_cons, List.take_zero, List.drop_zero, and_self, List.append_assoc, List.length_append, Int.reduceLT, Int.reduceLE, Int.toNat_zero, Int.reduceToNat, Int.cast_ofNat_Int, Int.natCast_zero, Int.natCast_one, Int.reduceAdd, List.map_append, Option.bind_some]
    · rintro _ st rfl
      simp only [go_sem, Nat.reduceEqDiff, reduceIte, ↓reduceIte, Nat.reduceAdd, List.replicate_succ, List.replicate_zero, List.set_cons_zero, List.set_cons_succ, List.length_cons, List.length_nil, Nat.reduceLT, Nat.lt_add_one, ne_eq, Int.reduceEq, not_false_eq_true, Option.map_some, Nat.reduceLeDiff, Nat.zero_lt_succ, List.map_cons, List.map_nil, List.nil_append, List.cons_append, List.append_nil, bytesOf, List.take_succ_cons, List.take_zero, List.drop_zero, and_self, List.append_assoc, List.length_append, Int.reduceLT, Int.reduceLE, Int.toNat_zero, Int.reduceToNat, Int.cast_ofNat_Int, Int.natCast_zero, Int.natCast_one, Int.reduceAdd, List.map_append, Option.bind_some, Int.reduceLT, decide_false]
  · have hl : (intR .u8 (pat 1 n)).length = n := by rw [intR_len, pat_len]
    rw [hl]
    exact heldByteS n 1 h3 hn (by omega) (by omega)

theorem codeO_len (c : CodeD) : (codeO c).length = 2 := rfl
theorem codeO_get0 (H : List AO) (c : CodeD) : (H ++ codeO c)[H.length]? = some (.rows 6 0 (insR c.ins)) := by rw [get_off0]; rfl
theorem codeO_get1 (H : List AO) (c : CodeD) : (H ++ codeO c)[H.length + 1]? = some (.rows 1 0 (intR .i64 c.starts)) := by rw [get_off]; rfl

theorem lawPut (c : CodeD) (hok : okCode c) (hrg : rngCode c) : ACall Try.prog 4 [.st (c.cells.map .p)] [] (fun r _ => r = .p (.b true)) := by
  refine call4 (by simp) ?_
  simp only [go_sem, Nat.reduceEqDiff, reduceIte, ↓reduceIte, Nat.reduceAdd, List.replicate_succ, List.replicate_zero, List.set_cons_zero, List.set_cons_succ, List.length_cons, List.length_nil, Nat.reduceLT, Nat.lt_add_one, ne_eq, Int.reduceEq, not_false_eq_true, Option.map_some, Nat.reduceLeDiff, Nat.zero_lt_succ, List.map_cons, List.map_nil, List.nil_append, List.cons_append, List.append_nil, bytesOf, List.take_succ_cons, List.take_zero, List.drop_zero, and_self, List.append_assoc, List.length_append, Int.reduceLT, Int.reduceLE, Int.toNat_zero, Int.reduceToNat, Int.cast_ofNat_Int, Int.natCast_zero, Int.natCast_one, Int.reduceAdd, List.map_append, Option.bind_some, mc4, mr4, CodeD.cells]
  rw [code_eta]
  refine (szCode_any c hok).mono ?_
  rintro r H' ⟨⟨q, rfl, hq⟩, rfl⟩
  simp only [go_sem, Nat.reduceEqDiff, reduceIte, ↓reduceIte, Nat.reduceAdd, List.replicate_succ, List.replicate_zero, List.set_cons_zero, List.set_cons_succ, List.length_cons, List.length_nil, Nat.reduceLT, Nat.lt_add_one, ne_eq, Int.reduceEq, not_false_eq_true, Option.map_some, Nat.reduceLeDiff, Nat.zero_lt_succ, List.map_cons, List.map_nil, List.nil_append, List.cons_append, List.append_nil, bytesOf, List.take_succ_cons, List.take_zero, List.drop_zero, and_self, List.append_assoc, List.length_append, Int.reduceLT, Int.reduceLE, Int.toNat_zero, Int.reduceToNat, Int.cast_ofNat_Int, Int.natCast_zero, Int.natCast_one, Int.reduceAdd, List.map_append, Option.bind_some]
  refine condK_split _ (fun hq0 => ?_) (fun hq0 => ?_)
  · simp only [go_sem, Nat.reduceEqDiff, reduceIte, ↓reduceIte, Nat.reduceAdd, List.replicate_succ, List.replicate_zero, List.set_cons_zero, List.set_cons_succ, List.length_cons, List.length_nil, Nat.reduceLT, Nat.lt_add_one, ne_eq, Int.reduceEq, not_false_eq_true, Option.map_some, Nat.reduceLeDiff, Nat.zero_lt_succ, List.map_cons, List.map_nil, List.nil_append, List.cons_append, List.append_nil, bytesOf, List.take_succ_cons, List.take_zero, List.drop_zero, and_self, List.append_assoc, List.length_append, Int.reduceLT, Int.reduceLE, Int.toNat_zero, Int.reduceToNat, Int.cast_ofNat_Int, Int.natCast_zero, Int.natCast_one, Int.reduceAdd, List.map_append, Option.bind_some]
  have hq1 : ¬ q < 0 := by simpa using hq0
  have hsm : small c := by rcases hq with h | h; exact (hq1 h).elim; exact h.2
  have hf : Fits c := ⟨hok, hsm, hrg⟩
  have hpl := @putD_len c
  have hpm : (putD c).length ≤ maxL := by unfold maxL; omega
  simp only [go_sem, Nat.reduceEqDiff, reduceIte, ↓reduceIte, Nat.reduceAdd, List.replicate_succ, List.replicate_zero, List.set_cons_zero, List.set_cons_succ, List.length_cons, List.length_nil, Nat.reduceLT, Nat.lt_add_one, ne_eq, Int.reduceEq, not_false_eq_true, Option.map_some, Nat.reduceLeDiff, Nat.zero_lt_succ, List.map_cons, List.map_nil, List.nil_append, List.cons_append, List.append_nil, bytesOf, List.take_succ_cons, List.take_zero, List.drop_zero, and_self, List.append_assoc, List.length_append, Int.reduceLT, Int.reduceLE, Int.toNat_zero, Int.reduceToNat, Int.cast_ofNat_Int, Int.natCast_zero, Int.natCast_one, Int.reduceAdd, List.map_append, Option.bind_some, code_take]
  refine (toCode c hok hsm _).mono ?_
  rintro r H' ⟨rfl, rfl⟩
  simp only [go_sem, Nat.reduceEqDiff, reduceIte, ↓reduceIte, Nat.reduceAdd, List.replicate_succ, List.replicate_zero, List.set_cons_zero, List.set_cons_succ, List.length_cons, List.length_nil, Nat.reduceLT, Nat.lt_add_one, ne_eq, Int.reduceEq, not_false_eq_true, Option.map_some, Nat.reduceLeDiff, Nat.zero_lt_succ, List.map_cons, List.map_nil, List.nil_append, List.cons_append, List.append_nil, bytesOf, List.take_succ_cons, List.take_zero, List.drop_zero, and_self, List.append_assoc, List.length_append, Int.reduceLT, Int.reduceLE, Int.toNat_zero, Int.reduceToNat, Int.cast_ofNat_Int, Int.natCast_zero, Int.natCast_one, Int.reduceAdd, List.map_append, Option.bind_some]
  have hl0 := lent_code c (H := [AO.var (c.cells.map .p)] ++ codeO c) (i := 1) rfl rfl
  refine (specPut c hf hl0).mono ?_
  rintro w0 H1 ⟨A1, hH1, hw⟩
  have hv1 : H1[0]? = some (.var (c.cells.map .p)) := by rw [hH1]; rfl
  clear hH1 hl0
  simp only [go_sem, Nat.reduceEqDiff, reduceIte, ↓reduceIte, Nat.reduceAdd, List.replicate_succ, List.replicate_zero, List.set_cons_zero, List.set_cons_succ, List.length_cons, List.length_nil, Nat.reduceLT, Nat.lt_add_one, ne_eq, Int.reduceEq, not_false_eq_true, Option.map_some, Nat.reduceLeDiff, Nat.zero_lt_succ, List.map_cons, List.map_nil, List.nil_append, List.cons_append, List.append_nil, bytesOf, List.take_succ_cons, List.take_zero, List.drop_zero, and_self, List.append_assoc, List.length_append, Int.reduceLT, Int.reduceLE, Int.toNat_zero, Int.reduceToNat, Int.cast_ofNat_Int, Int.natCast_zero, Int.natCast_one, Int.reduceAdd, List.map_append, Option.bind_some, hv1, code_take]
  refine (toCode c hok hsm _).mono ?_
  rintro r H' ⟨rfl, rfl⟩
  simp only [go_sem, Nat.reduceEqDiff, reduceIte, ↓reduceIte, Nat.reduceAdd, List.replicate_succ, List.replicate_zero, List.set_cons_zero, List.set_cons_succ, List.length_cons, List.length_nil, Nat.reduceLT, Nat.lt_add_one, ne_eq, Int.reduceEq, not_false_eq_true, Option.map_some, Nat.reduceLeDiff, Nat.zero_lt_succ, List.map_cons, List.map_nil, List.nil_append, List.cons_append, List.append_nil, bytesOf, List.take_succ_cons, List.take_zero, List.drop_zero, and_self, List.append_assoc, List.length_append, Int.reduceLT, Int.reduceLE, Int.toNat_zero, Int.reduceToNat, Int.cast_ofNat_Int, Int.natCast_zero, Int.natCast_one, Int.reduceAdd, List.map_append, Option.bind_some, codeAt, codeO]
  have hw0 := hw
  have hi1 : 0 < H1.length := get_lt hv1
  refine (implPut c hf (lent_code c (i := H1.length) ?_ ?_)).mono ?_
  · rw [get_off0]; rfl
  · rw [get_off]; rfl
  rintro g0 H3 ⟨A3, hH3, hg⟩
  have hv3 : H3[0]? = some (.var (c.cells.map .p)) := by rw [hH3]; exact get_ext (get_ext hv1 _) _
  have h60 : H3[H1.length]? = some (.rows 6 0 (insR c.ins)) := by rw [hH3]; refine get_ext ?_ _; rw [get_off0]; rfl
  have h61 : H3[H1.length + 1]? = some (.rows 1 0 (intR .i64 c.starts)) := by rw [hH3]; refine get_ext ?_ _; rw [get_off]; rfl
  have hx3 : H3[H1.length + 2]? = some (.var [.gs H1.length 0 0 c.ins.length, .gs (H1.length + 1) 0 0 c.starts.length]) := by rw [hH3]; refine get_ext ?_ _; rw [get_off]; rfl
  have hw3 : OwnAt H3 w0 1 (intR .u8 (putD c)) 1 H1.length := by
    rw [hH3]
    refine OwnAt.ext (OwnAt.ext ?_ _) _
    rcases hw with h | ⟨id, ver, h0, h1, h2, h3⟩
    · exact .inl h
    · exact .inr ⟨id, ver, by simp at h0; omega, h1, h2, h3⟩
  have hg3 : OwnAt H3 g0 1 (intR .u8 (putD c)) (H1.length + 3) H3.length := by
    rcases hg with h | ⟨id, ver, h0, h1, h2, h3⟩
    · exact .inl h
    · exact .inr ⟨id, ver, by simp [codeO_len] at h0; omega, h1, h2, h3⟩
  clear hg hw0 hw hH3
  simp only [go_sem, Nat.reduceEqDiff, reduceIte, ↓reduceIte, Nat.reduceAdd, List.replicate_succ, List.replicate_zero, List.set_cons_zero, List.set_cons_succ, List.length_cons, List.length_nil, Nat.reduceLT, Nat.lt_add_one, ne_eq, Int.reduceEq, not_false_eq_true, Option.map_some, Nat.reduceLeDiff, Nat.zero_lt_succ, List.map_cons, List.map_nil, List.nil_append, List.cons_append, List.append_nil, bytesOf, List.take_succ_cons, List.take_zero, List.drop_zero, and_self, List.append_assoc, List.length_append, Int.reduceLT, Int.reduceLE, Int.toNat_zero, Int.reduceToNat, Int.cast_ofNat_Int, Int.natCast_zero, Int.natCast_one, Int.reduceAdd, List.map_append, Option.bind_some]
  refine (eqByteS_any _ _ hpm hpm (own_lent hg3.own) (own_lent hw3.own)).mono ?_
  rintro r H' ⟨rfl, rfl⟩
  simp only [go_sem, Nat.reduceEqDiff, reduceIte, ↓reduceIte, Nat.reduceAdd, List.replicate_succ, List.replicate_zero, List.set_cons_zero, List.set_cons_succ, List.length_cons, List.length_nil, Nat.reduceLT, Nat.lt_add_one, ne_eq, Int.reduceEq, not_false_eq_true, Option.map_some, Nat.reduceLeDiff, Nat.zero_lt_succ, List.map_cons, List.map_nil, List.nil_append, List.cons_append, List.append_nil, bytesOf, List.take_succ_cons, List.take_zero, List.drop_zero, and_self, List.append_assoc, List.length_append, Int.reduceLT, Int.reduceLE, Int.toNat_zero, Int.reduceToNat, Int.cast_ofNat_Int, Int.natCast_zero, Int.natCast_one, Int.reduceAdd, List.map_append, Option.bind_some]
  refine drw_same ?_
  simp only [go_sem, Nat.reduceEqDiff, reduceIte, ↓reduceIte, Nat.reduceAdd, List.replicate_succ, List.replicate_zero, List.set_cons_zero, List.set_cons_succ, List.length_cons, List.length_nil, Nat.reduceLT, Nat.lt_add_one, ne_eq, Int.reduceEq, not_false_eq_true, Option.map_some, Nat.reduceLeDiff, Nat.zero_lt_succ, List.map_cons, List.map_nil, List.nil_append, List.cons_append, List.append_nil, bytesOf, List.take_succ_cons, List.take_zero, List.drop_zero, and_self, List.append_assoc, List.length_append, Int.reduceLT, Int.reduceLE, Int.toNat_zero, Int.reduceToNat, Int.cast_ofNat_Int, Int.natCast_zero, Int.natCast_one, Int.reduceAdd, List.map_append, Option.bind_some, hx3, hv3, code_take]
  refine pcall_pure (fun A => (toCode_fresh c hok hsm).mono fun r H' ⟨h1, h2⟩ => ⟨h2, h1⟩) (Hext.refl _) ?_
  simp only [go_sem, Nat.reduceEqDiff, reduceIte, ↓reduceIte, Nat.reduceAdd, List.replicate_succ, List.replicate_zero, List.set_cons_zero, List.set_cons_succ, List.length_cons, List.length_nil, Nat.reduceLT, Nat.lt_add_one, ne_eq, Int.reduceEq, not_false_eq_true, Option.map_some, Nat.reduceLeDiff, Nat.zero_lt_succ, List.map_cons, List.map_nil, List.nil_append, List.cons_append, List.append_nil, bytesOf, List.take_succ_cons, List.take_zero, List.drop_zero, and_self, List.append_assoc, List.length_append, Int.reduceLT, Int.reduceLE, Int.toNat_zero, Int.reduceToNat, Int.cast_ofNat_Int, Int.natCast_zero, Int.natCast_one, Int.reduceAdd, List.map_append, Option.bind_some]
  refine (eqCode_any c c hok hok (lent_code c h60 h61) (code_lent c)).mono ?_
  rintro r H' ⟨rfl, rfl⟩
  simp only [go_sem, Nat.reduceEqDiff, reduceIte, ↓reduceIte, Nat.reduceAdd, List.replicate_succ, List.replicate_zero, List.set_cons_zero, List.set_cons_succ, List.length_cons, List.length_nil, Nat.reduceLT, Nat.lt_add_one, ne_eq, Int.reduceEq, not_false_eq_true, Option.map_some, Nat.reduceLeDiff, Nat.zero_lt_succ, List.map_cons, List.map_nil, List.nil_append, List.cons_append, List.append_nil, bytesOf, List.take_succ_cons, List.take_zero, List.drop_zero, and_self, List.append_assoc, List.length_append, Int.reduceLT, Int.reduceLE, Int.toNat_zero, Int.reduceToNat, Int.cast_ofNat_Int, Int.natCast_zero, Int.natCast_one, Int.reduceAdd, List.map_append, Option.bind_some, hx3]
  refine (markCode c hsm h60 h61).mono ?_
  rintro r H4 ⟨⟨k, hk0, rfl⟩, rs, us, o, hH4⟩
  have hkf : decide (k < 0) = false := by simp; exact hk0
  have hv4 : H4[0]? = some (.var (c.cells.map .p)) := by rw [hH4]; exact get_ext (get_set (get_set hv3 (by omega)) (by omega)) _
  have hw4 : OwnAt H4 w0 1 (intR .u8 (putD c)) 1 H1.length := by rw [hH4]; exact ((hw3.set _ (.inr (by omega))).set _ (.inr (by omega))).ext _
  have hg4 : OwnAt H4 g0 1 (intR .u8 (putD c)) (H1.length + 3) H'.length := by rw [hH4]; exact ((hg3.set _ (.inl (by omega))).set _ (.inl (by omega))).ext _
  have hl4 : H'.length ≤ H4.length := by rw [hH4]; simp
  clear hH4 hv3 h60 h61 hx3 hw3 hg3
  simp only [go_sem, Nat.reduceEqDiff, reduceIte, ↓reduceIte, Nat.reduceAdd, List.replicate_succ, List.replicate_zero, List.set_cons_zero, List.set_cons_succ, List.length_cons, List.length_nil, Nat.reduceLT, Nat.lt_add_one, ne_eq, Int.reduceEq, not_false_eq_true, Option.map_some, Nat.reduceLeDiff, Nat.zero_lt_succ, List.map_cons, List.map_nil, List.nil_append, List.cons_append, List.append_nil, bytesOf, List.take_succ_cons, List.take_zero, List.drop_zero, and_self, List.append_assoc, List.length_append, Int.reduceLT, Int.reduceLE, Int.toNat_zero, Int.reduceToNat, Int.cast_ofNat_Int, Int.natCast_zero, Int.natCast_one, Int.reduceAdd, List.map_append, Option.bind_some, hkf]
  refine (eqByteS_any _ _ hpm hpm (own_lent hg4.own) (own_lent hw4.own)).mono ?_
  rintro r H5 ⟨rfl, rfl⟩
  simp only [go_sem, Nat.reduceEqDiff, reduceIte, ↓reduceIte, Nat.reduceAdd, List.replicate_succ, List.replicate_zero, List.set_cons_zero, List.set_cons_succ, List.length_cons, List.length_nil, Nat.reduceLT, Nat.lt_add_one, ne_eq, Int.reduceEq, not_false_eq_true, Option.map_some, Nat.reduceLeDiff, Nat.zero_lt_succ, List.map_cons, List.map_nil, List.nil_append, List.cons_append, List.append_nil, bytesOf, List.take_succ_cons, List.take_zero, List.drop_zero, and_self, List.append_assoc, List.length_append, Int.reduceLT, Int.reduceLE, Int.toNat_zero, Int.reduceToNat, Int.cast_ofNat_Int, Int.natCast_zero, Int.natCast_one, Int.reduceAdd, List.map_append, Option.bind_some, hkf]
  refine (markByteS_own hg4 (by omega)).mono ?_
  rintro r H6 ⟨rfl, hg6, hl6, hk6⟩
  have hv6 := hk6 0 _ hv4 (.inl (by omega))
  have hw6 : OwnAt H6 w0 1 (intR .u8 (putD c)) 1 H1.length := by
    rcases hw4 with h | ⟨id, ver, h0, h1, h2, h3⟩
    · exact .inl h
    · exact .inr ⟨id, ver, h0, h1, h2, hk6 _ _ h3 (.inl (by omega))⟩
  simp only [go_sem, Nat.reduceEqDiff, reduceIte, ↓reduceIte, Nat.reduceAdd, List.replicate_succ, List.replicate_zero, List.set_cons_zero, List.set_cons_succ, List.length_cons, List.length_nil, Nat.reduceLT, Nat.lt_add_one, ne_eq, Int.reduceEq, not_false_eq_true, Option.map_some, Nat.reduceLeDiff, Nat.zero_lt_succ, List.map_cons, List.map_nil, List.nil_append, List.cons_append, List.append_nil, bytesOf, List.take_succ_cons, List.take_zero, List.drop_zero, and_self, List.append_assoc, List.length_append, Int.reduceLT, Int.reduceLE, Int.toNat_zero, Int.reduceToNat, Int.cast_ofNat_Int, Int.natCast_zero, Int.natCast_one, Int.reduceAdd, List.map_append, Option.bind_some]
  refine (heldByteS_own hg6 (by omega)).mono ?_
  rintro r H7 ⟨rfl, rfl⟩
  have hnn : decide (1 + ((putD c).length : Int) < 0) = false := by simp; omega
  simp only [go_sem, Nat.reduceEqDiff, reduceIte, ↓reduceIte, Nat.reduceAdd, List.replicate_succ, List.replicate_zero, List.set_cons_zero, List.set_cons_succ, List.length_cons, List.length_nil, Nat.reduceLT, Nat.lt_add_one, ne_eq, Int.reduceEq, not_false_eq_true, Option.map_some, Nat.reduceLeDiff, Nat.zero_lt_succ, List.map_cons, List.map_nil, List.nil_append, List.cons_append, List.append_nil, bytesOf, List.take_succ_cons, List.take_zero, List.drop_zero, and_self, List.append_assoc, List.length_append, Int.reduceLT, Int.reduceLE, Int.toNat_zero, Int.reduceToNat, Int.cast_ofNat_Int, Int.natCast_zero, Int.natCast_one, Int.reduceAdd, List.map_append, Option.bind_some, hnn]
  simp only [go_sem, Nat.reduceEqDiff, reduceIte, ↓reduceIte, Nat.reduceAdd, List.replicate_succ, List.replicate_zero, List.set_cons_zero, List.set_cons_succ, List.length_cons, List.length_nil, Nat.reduceLT, Nat.lt_add_one, ne_eq, Int.reduceEq, not_false_eq_true, Option.map_some, Nat.reduceLeDiff, Nat.zero_lt_succ, List.map_cons, List.map_nil, List.nil_append, List.cons_append, List.append_nil, bytesOf, List.take_succ_cons, List.take_zero, List.drop_zero, and_self, List.append_assoc, List.length_append, Int.reduceLT, Int.reduceLE, Int.toNat_zero, Int.reduceToNat, Int.cast_ofNat_Int, Int.natCast_zero, Int.natCast_one, Int.reduceAdd, List.map_append, Option.bind_some, hv6, code_take]
  refine (toCode c hok hsm _).mono ?_
  rintro r H8 ⟨rfl, rfl⟩
  simp only [go_sem, Nat.reduceEqDiff, reduceIte, ↓reduceIte, Nat.reduceAdd, List.replicate_succ, List.replicate_zero, List.set_cons_zero, List.set_cons_succ, List.length_cons, List.length_nil, Nat.reduceLT, Nat.lt_add_one, ne_eq, Int.reduceEq, not_false_eq_true, Option.map_some, Nat.reduceLeDiff, Nat.zero_lt_succ, List.map_cons, List.map_nil, List.nil_append, List.cons_append, List.append_nil, bytesOf, List.take_succ_cons, List.take_zero, List.drop_zero, and_self, List.append_assoc, List.length_append, Int.reduceLT, Int.reduceLE, Int.toNat_zero, Int.reduceToNat, Int.cast_ofNat_Int, Int.natCast_zero, Int.natCast_one, Int.reduceAdd, List.map_append, Option.bind_some]
  refine (implPut c hf (lent_code c (codeO_get0 _ _) (codeO_get1 _ _))).mono ?_
  rintro g1 H9 ⟨A9, hH9, hg9⟩
  have hw9 : OwnAt H9 w0 1 (intR .u8 (putD c)) 1 H1.length := by rw [hH9]; exact (hw6.ext _).ext _
  have hp9 : OwnAt H9 g0 1 (intR .u8 (pat 1 (putD c).length)) (H1.length + 3) H'.length := by rw [hH9]; exact (hg6.ext _).ext _
  clear hH9
  simp only [go_sem, Nat.reduceEqDiff, reduceIte, ↓reduceIte, Nat.reduceAdd, List.replicate_succ, List.replicate_zero, List.set_cons_zero, List.set_cons_succ, List.length_cons, List.length_nil, Nat.reduceLT, Nat.lt_add_one, ne_eq, Int.reduceEq, not_false_eq_true, Option.map_some, Nat.reduceLeDiff, Nat.zero_lt_succ, List.map_cons, List.map_nil, List.nil_append, List.cons_append, List.append_nil, bytesOf, List.take_succ_cons, List.take_zero, List.drop_zero, and_self, List.append_assoc, List.length_append, Int.reduceLT, Int.reduceLE, Int.toNat_zero, Int.reduceToNat, Int.cast_ofNat_Int, Int.natCast_zero, Int.natCast_one, Int.reduceAdd, List.map_append, Option.bind_some]
  refine (eqByteS_any _ _ hpm hpm (own_lent hg9.own) (own_lent hw9.own)).mono ?_
  rintro r H10 ⟨rfl, rfl⟩
  simp only [go_sem, Nat.reduceEqDiff, reduceIte, ↓reduceIte, Nat.reduceAdd, List.replicate_succ, List.replicate_zero, List.set_cons_zero, List.set_cons_succ, List.length_cons, List.length_nil, Nat.reduceLT, Nat.lt_add_one, ne_eq, Int.reduceEq, not_false_eq_true, Option.map_some, Nat.reduceLeDiff, Nat.zero_lt_succ, List.map_cons, List.map_nil, List.nil_append, List.cons_append, List.append_nil, bytesOf, List.take_succ_cons, List.take_zero, List.drop_zero, and_self, List.append_assoc, List.length_append, Int.reduceLT, Int.reduceLE, Int.toNat_zero, Int.reduceToNat, Int.cast_ofNat_Int, Int.natCast_zero, Int.natCast_one, Int.reduceAdd, List.map_append, Option.bind_some]
  refine (heldByteS_own hp9 (by omega)).mono ?_
  rintro r H11 ⟨rfl, rfl⟩
  simp only [go_sem, Nat.reduceEqDiff, reduceIte, ↓reduceIte, Nat.reduceAdd, List.replicate_succ, List.replicate_zero, List.set_cons_zero, List.set_cons_succ, List.length_cons, List.length_nil, Nat.reduceLT, Nat.lt_add_one, ne_eq, Int.reduceEq, not_false_eq_true, Option.map_some, Nat.reduceLeDiff, Nat.zero_lt_succ, List.map_cons, List.map_nil, List.nil_append, List.cons_append, List.append_nil, bytesOf, List.take_succ_cons, List.take_zero, List.drop_zero, and_self, List.append_assoc, List.length_append, Int.reduceLT, Int.reduceLE, Int.toNat_zero, Int.reduceToNat, Int.cast_ofNat_Int, Int.natCast_zero, Int.natCast_one, Int.reduceAdd, List.map_append, Option.bind_some, hnn]
end Go.Proofs.Ytmbggdfceecojaa.Cd

/- Reached: the law. -/
set_option linter.all false
namespace Go.Proofs.Ytmbggdfceecojaa.Cd
open Go.AM Mc Ho

def rowsB (bs : List Bool) : List (List PV) := bs.map fun b => [.b b]
theorem rowsB_len (bs) : (rowsB bs).length = bs.length := by simp [rowsB]
theorem rowsB_at {bs : List Bool} {i : Nat} (h : i < bs.length) : (rowsB bs)[i]? = some [.b bs[i]] := by simp [rowsB, h]
theorem boolR_len1 (bs : List Bool) : ∀ r ∈ boolR bs, r.length = 1 := by
  intro r hr
  obtain ⟨x, _, rfl⟩ := List.mem_map.1 hr
  rfl
theorem grnd_boolR (bs : List Bool) : ∀ r ∈ boolR bs, ∀ c ∈ r, Grnd c := by
  intro r hr c hc
  obtain ⟨x, _, rfl⟩ := List.mem_map.1 hr
  simp at hc; subst hc; exact grnd_b _
theorem lent_b (bs : List Bool) {H : List AO} {id ver : Nat} (hid : H[id]? = some (.rows 1 ver (boolR bs))) : Lent H (.gs id ver 0 bs.length) (.p (.l (rowsB bs))) := by
  refine .gs id ver 0 _ 1 _ (rowsB bs) hid (by simp [boolR]) (rowsB_len bs) (fun y hy => by obtain ⟨z, _, rfl⟩ := List.mem_map.1 hy; rfl) ?_
  intro i r y j c q hr hy hc hq
  rw [Nat.zero_add, boolR, List.getElem?_map] at hr
  rw [rowsB, List.getElem?_map] at hy
  cases hz : bs[i]? with
  | none => rw [hz] at hr; cases hr
  | some z =>
    rw [hz] at hr hy
    cases hr; cases hy
    cases j with
    | zero => cases hc; cases hq; exact .pure _
    | succ j => simp at hc
theorem ownB_lent {H : List AO} {a : AV} {bs : List Bool} (h : OwnR H a 1 (boolR bs)) : Lent H a (.p (.l (rowsB bs))) := by
  rcases h with ⟨rfl, h⟩ | ⟨id, ver, rfl, h⟩
  · have : bs = [] := by simpa [boolR] using h
    subst this
    exact .nl
  · rw [boolR_len]
    exact lent_b bs h

theorem eqBoolS (xs ys : List Bool) (hx : xs.length ≤ maxL) (hy : ys.length ≤ maxL) : ACall Try.prog 30 [.p (.l (rowsB xs)), .p (.l (rowsB ys))] [] (fun r H => r = .p (.b (decide (xs = ys)))) := by
  refine call30 (by simp) ?_
  simp only [go_sem, Nat.reduceEqDiff, reduceIte, ↓reduceIte, Nat.reduceAdd, mc30, mr30, rowsB_len]
  intro _ _
  refine condK_split _ (fun hc => ?_) (fun hc => ?_)
  · simp only [go_sem, Nat.reduceEqDiff, reduceIte, ↓reduceIte, Nat.reduceAdd]
    have : xs ≠ ys := by rintro rfl; simp at hc
    simp [this]
  · have hl : xs.length = ys.length := by simp at hc; omega
    simp only [go_sem, Nat.reduceEqDiff, reduceIte, ↓reduceIte, Nat.reduceAdd]
    refine ⟨Nat, [0, 1, 4, 5], fun i st => i ≤ xs.length ∧ xs.take i = ys.take i ∧ st = ⟨[(0, .p (.l (rowsB xs))), (1, .p (.l (rowsB ys))), (4, .p (.b false)), (5, .p (.i .i64 i))], [], []⟩, fun i => xs.length - i, ⟨0, ?_⟩, ?_⟩
    · simp only [go_sem, Nat.reduceEqDiff, reduceIte, ↓reduceIte, Nat.reduceAdd]
      exact ⟨Nat.zero_le _, rfl, rfl⟩
    · rintro i st ⟨hi, ht, rfl⟩
      simp only [go_sem, Nat.reduceEqDiff, reduceIte, ↓reduceIte, Nat.reduceAdd, rowsB_len]
      intro _
      refine condK_split _ (fun hc => ?_) (fun hc => ?_)
      · have hil : i < xs.length := by simpa using hc
        have hiy : i < ys.length := by omega
        simp only [go_sem, Nat.reduceEqDiff, reduceIte, ↓reduceIte, Nat.reduceAdd]
        (refine drw_same ?_; simp only [go_sem, Nat.reduceEqDiff, reduceIte, ↓reduceIte, Nat.reduceAdd, rowsB_at hil, rowsB_at hiy])
        refine condK_split _ (fun hd => ?_) (fun hd => ?_)
        · simp only [go_sem, Nat.reduceEqDiff, reduceIte, ↓reduceIte, Nat.reduceAdd]
          have : xs ≠ ys := by rintro rfl; simp at hd
          simp [this]
        · simp only [go_sem, Nat.reduceEqDiff, reduceIte, ↓reduceIte, Nat.reduceAdd]
          have he : xs[i] = ys[i] := by simpa using hd
          refine ⟨i + 1, ⟨hil, ?_, ?_⟩, by omega⟩
          · rw [List.take_succ, List.take_succ, ht, List.getElem?_eq_getElem hil, List.getElem?_eq_getElem hiy, he]
          · rw [wr1 hil hx]
      · have hil : i = xs.length := by simp at hc; omega
        simp only [go_sem, Nat.reduceEqDiff, reduceIte, ↓reduceIte, Nat.reduceAdd]
        subst hil
        have : xs = ys := by
          rw [List.take_length, hl, List.take_length] at ht
          exact ht
        simp [this]
theorem eqBoolS_any (xs ys : List Bool) (hx : xs.length ≤ maxL) (hy : ys.length ≤ maxL) {H : List AO} {a b : AV} (ha : Lent H a (.p (.l (rowsB xs)))) (hb : Lent H b (.p (.l (rowsB ys)))) : ACall Try.prog 30 [a, b] H (fun r H' => r = .p (.b (decide (xs = ys))) ∧ H' = H) :=
  (acall_lend (eqBoolS xs ys hx hy) (fun r H' h => by subst h; exact grnd_b _) (lentAll_cons ha (lentAll_cons hb (lentAll_nil _)))).mono fun r H' ⟨h1, _, h2⟩ => ⟨h2, h1⟩

/-- the pattern that marks bools -/
def patB (k : Int) (n : Nat) : List Bool := (List.range n).map fun j => decide ((k + (j : Nat)).tmod 3 = 0)
theorem patB_len (k n) : (patB k n).length = n := by simp [patB]

theorem markBoolS {H : List AO} {id ver : Nat} (old : List (List AV)) (hid : H[id]? = some (.rows 1 ver old)) (h1 : ∀ r ∈ old, r.length = 1) (hn : old.length ≤ 100000000) (k : Int) (hk0 : 0 ≤ k) (hk : k ≤ 100000000) :
    ACall Try.prog 31 [.gs id ver 0 old.length, .p (.i .i64 k)] H (fun r H' => r = .p (.i .i64 (k + old.length)) ∧ H' = H.set id (.rows 1 ver (boolR (patB k old.length)))) := by
  have hm : old.length ≤ maxL := by unfold maxL; omega
  refine call31 (by simp) ?_
  simp only [go_sem, Nat.reduceEqDiff, reduceIte, ↓reduceIte, Nat.reduceAdd, mc31, mr31]
  refine ⟨Nat, [0, 1, 4, 5], fun i st => i ≤ old.length ∧ st = ⟨[(0, .gs id ver 0 old.length), (1, .p (.i .i64 (k + i))), (4, .p (.i .i64 0)), (5, .p (.i .i64 i))], [], H.set id (.rows 1 ver (over (fun j => [.p (.b (decide ((k + (j : Nat)).tmod 3 = 0)))]) old i))⟩, fun i => old.length - i, ⟨0, ?_⟩, ?_⟩
  · simp only [go_sem, Nat.reduceEqDiff, reduceIte, ↓reduceIte, Nat.reduceAdd]
    refine ⟨Nat.zero_le _, ?_⟩
    rw [over_zero]
    rw [set_same hid]; simp
  · rintro i st ⟨hi, rfl⟩
    simp only [go_sem, Nat.reduceEqDiff, reduceIte, ↓reduceIte, Nat.reduceAdd]
    intro _
    refine condK_split _ (fun hc => ?_) (fun hc => ?_)
    · have hil : i < old.length := by simpa using hc
      simp only [go_sem, Nat.reduceEqDiff, reduceIte, ↓reduceIte, Nat.reduceAdd, List.replicate_succ, List.replicate_zero, List.set_cons_zero, List.set_cons_succ, List.length_cons, List.length_nil, Nat.reduceLT, Nat.lt_add_one, ne_eq, Int.reduceEq, not_false_eq_true, Option.map_some, Nat.reduceLeDiff, Nat.zero_lt_succ, List.map_cons, List.map_nil, List.nil_append, List.cons_append, List.append_nil, bytesOf, List.take_succ_cons, List.take_zero, List.drop_zero, and_self, List.append_assoc, List.length_append, Int.reduceLT, Int.reduceLE, Int.toNat_zero, Int.reduceToNat, Int.cast_ofNat_Int, Int.natCast_zero, Int.natCast_one, Int.reduceAdd, List.map_append, Option.bind_some, set_get hid, over_get _ _ hil]
      refine ⟨by simpa using hc, ?_⟩
      rw [stoR_at (over_get _ _ hil) (splice_one (h1 _ (List.getElem_mem hil)) _)]
      simp only [go_sem, Nat.reduceEqDiff, reduceIte, ↓reduceIte, Nat.reduceAdd]
      refine ⟨i + 1, ⟨hil, ?_⟩, by omega⟩
      rw [wr1 hil hm, wr64 (by omega) (by omega), List.set_set, over_set _ _ hil]
      simp only [Int.natCast_add, Int.natCast_one, Int.add_assoc]
    · have hil : i = old.length := by simp at hc; omega
      simp only [go_sem, Nat.reduceEqDiff, reduceIte, ↓reduceIte, Nat.reduceAdd]
      subst hil
      refine ⟨rfl, ?_⟩
      rw [over_all, boolR, patB, List.map_map]
      rfl

theorem patB_get (k : Int) (n : Nat) {i : Nat} (h : i < n) : (boolR (patB k n))[i]? = some [.p (.b (decide ((k + (i : Nat)).tmod 3 = 0)))] := by simp [boolR, patB, h]

theorem heldBoolS {H : List AO} {id ver : Nat} (n : Nat) (k : Int) (hid : H[id]? = some (.rows 1 ver (boolR (patB k n)))) (hn : n ≤ 100000000) (hk0 : 0 ≤ k) (hk : k ≤ 100000000) :
    ACall Try.prog 32 [.gs id ver 0 n, .p (.i .i64 k)] H (fun r H' => r = .p (.i .i64 (k + n)) ∧ H' = H) := by
  have hm : n ≤ maxL := by unfold maxL; omega
  refine call32 (by simp) ?_
  simp only [go_sem, Nat.reduceEqDiff, reduceIte, ↓reduceIte, Nat.reduceAdd, mc32, mr32]
  refine ⟨Nat, [0, 1, 4, 5], fun i st => i ≤ n ∧ st = ⟨[(0, .gs id ver 0 n), (1, .p (.i .i64 (k + i))), (4, .p (.i .i64 0)), (5, .p (.i .i64 i))], [], H⟩, fun i => n - i, ⟨0, ?_⟩, ?_⟩
  · simp only [go_sem, Nat.reduceEqDiff, reduceIte, ↓reduceIte, Nat.reduceAdd]
    exact ⟨Nat.zero_le _, by simp⟩
  · rintro i st ⟨hi, rfl⟩
    simp only [go_sem, Nat.reduceEqDiff, reduceIte, ↓reduceIte, Nat.reduceAdd]
    intro _
    refine condK_split _ (fun hc => ?_) (fun hc => ?_)
    · have hil : i < n := by simpa using hc
      simp only [go_sem, Nat.reduceEqDiff, reduceIte, ↓reduceIte, Nat.reduceAdd, List.replicate_succ, List.replicate_zero, List.set_cons_zero, List.set_cons_succ, List.length_cons, List.length_nil, Nat.reduceLT, Nat.lt_add_one, ne_eq, Int.reduceEq, not_false_eq_true, Option.map_some, Nat.reduceLeDiff, Nat.zero_lt_succ, List.map_cons, List.map_nil, List.nil_append, List.cons_append, List.append_nil, bytesOf, List.take_succ_cons, List.take_zero, List.drop_zero, and_self, List.append_assoc, List.length_append, Int.reduceLT, Int.reduceLE, Int.toNat_zero, Int.reduceToNat, Int.cast_ofNat_Int, Int.natCast_zero, Int.natCast_one, Int.reduceAdd, List.map_append, Option.bind_some, hid, patB_get k n hil]
      refine ⟨by simpa using hc, ?_⟩
      refine ⟨i + 1, ⟨hil, ?_⟩, by omega⟩
      rw [wr1 hil hm, wr64 (by omega) (by omega)]
      simp only [Int.natCast_add, Int.natCast_one, Int.add_assoc]
    · have hil : i = n := by simp at hc; omega
      simp only [go_sem, Nat.reduceEqDiff, reduceIte, ↓reduceIte, Nat.reduceAdd]
      subst hil
      rfl

theorem reachD_len {c : CodeD} : (reachD c).length ≤ 200000 := by
  unfold reachD
  split
  · rename_i h; have := (codeOk_wf h).le; simp; omega
  · simp
theorem specReached (c : CodeD) (hf : Fits c) {H : List AO} {a : AV} (ha : Lent H a (.st (c.cells.map .p))) : ACall Try.prog 28 [a] H (fun r H' => ∃ A, H' = H ++ A ∧ OwnAt H' r 1 (boolR (reachD c)) H.length H'.length) :=
  acall_ownAt (specReached0 c hf.ok) (lentAll_cons ha (lentAll_nil _)) (grnd_boolR _)
theorem implReached (c : CodeD) (hf : Fits c) {H : List AO} {a : AV} (ha : Lent H a (.st (c.cells.map .p))) : ACall Try.prog 29 [a] H (fun r H' => ∃ A, H' = H ++ A ∧ OwnAt H' r 1 (boolR (reachD c)) H.length H'.length) :=
  acall_ownAt (implReached0 c hf.ok) (lentAll_cons ha (lentAll_nil _)) (grnd_boolR _)
theorem markBoolS_own {H : List AO} {a : AV} {zs : List Bool} {lo hi : Nat} (h : OwnAt H a 1 (boolR zs) lo hi) (hn : zs.length ≤ 100000000) :
    ACall Try.prog 31 [a, .p (.i .i64 1)] H (fun r H' => r = .p (.i .i64 (1 + zs.length)) ∧ OwnAt H' a 1 (boolR (patB 1 zs.length)) lo hi ∧ H'.length = H.length ∧ ∀ (j : Nat) o, H[j]? = some o → j < lo ∨ hi ≤ j → H'[j]? = some o) := by
  rcases h with ⟨rfl, he⟩ | ⟨id, ver, h0, h1, rfl, h3⟩
  · have hz : zs = [] := by simpa [boolR] using he
    subst hz
    refine call31 (by simp) ?_
    simp only [go_sem, Nat.reduceEqDiff, reduceIte, ↓reduceIte, Nat.reduceAdd, List.replicate_succ, List.replicate_zero, List.set_cons_zero, List.set_cons_succ, List.length_cons, List.length_nil, Nat.reduceLT, Nat.lt_add_one, ne_eq, Int.reduceEq, not_false_eq_true, Option.map_some, Nat.reduceLeDiff, Nat.zero_lt_succ, List.map_cons, List.map_nil, List.nil_append, List.cons_append, List.append_nil, bytesOf, List.take_succ_cons, List.take_zero, List.drop_zero, and_self, List.append_assoc, List.length_append, Int.reduceLT, Int.reduceLE, Int.toNat_zero, Int.reduceToNat, Int.cast_ofNat_Int, Int.natCast_zero, Int.natCast_one, Int.reduceAdd, List.map_append, Option.bind_some, mc31, mr31]
    refine ⟨Unit, [0, 1, 4, 5], fun _ st => st = ⟨[(0, .p .nl), (1, .p (.i .i64 1)), (4, .p (.i .i64 0)), (5, .p (.i .i64 0))], [], H⟩, fun _ => 0, ⟨(), ?_⟩, ?_⟩
    · simp only [go_sem, Nat.reduceEqDiff, reduceIte, ↓reduceIte, Nat.reduceAdd, List.replicate_succ, List.replicate_zero, List.set_cons_zero, List.set_cons_succ, List.length_cons, List.length_nil, Nat.reduceLT, Nat.lt_add_one, ne_eq, Int.reduceEq, not_false_eq_true, Option.map_some, Nat.reduceLeDiff, Nat.zero_lt_succ, List.map_cons, List.map_nil, List.nil_append, List.cons_append, List.append_nil, bytesOf, List.take_succ_cons, List.take_zero, List.drop_zero, and_self, List.append_assoc, List.length_append, Int.reduceLT, Int.reduceLE, Int.toNat_zero, Int.reduceToNat, Int.cast_ofNat_Int, Int.natCast_zero, Int.natCast_one, Int.reduceAdd, List.map_append, Option.bind_some]
    · rintro _ st rfl
      simp only [go_sem, Nat.reduceEqDiff, reduceIte, ↓reduceIte, Nat.reduceAdd, List.replicate_succ, List.replicate_zero, List.set_cons_zero, List.set_cons_succ, List.length_cons, List.length_nil, Nat.reduceLT, Nat.lt_add_one, ne_eq, Int.reduceEq, not_false_eq_true, Option.map_some, Nat.reduceLeDiff, Nat.zero_lt_succ, List.map_cons, List.map_nil, List.nil_append, List.cons_append, List.append_nil, bytesOf, List.take_succ_cons, List.take_zero, List.drop_zero, and_self, List.append_assoc, List.length_append, Int.reduceLT, Int.reduceLE, Int.toNat_zero, Int.reduceToNat, Int.cast_ofNat_Int, Int.natCast_zero, Int.natCast_one, Int.reduceAdd, List.map_append, Option.bind_some, Int.reduceLT, decide_false]
      exact ⟨.inl ⟨rfl, by simp [patB, boolR]⟩, fun j o h _ => h⟩
  · have hl := boolR_len zs
    have k := markBoolS (boolR zs) h3 (boolR_len1 _) (by rw [hl]; exact hn) 1 (by omega) (by omega)
    rw [hl] at k ⊢
    refine k.mono ?_
    rintro r H' ⟨rfl, rfl⟩
    refine ⟨rfl, .inr ⟨id, ver, h0, h1, by rw [boolR_len, patB_len], set_get h3⟩, by simp, fun j o h hj => ?_⟩
    rw [List.getElem?_set_ne (by omega)]; exact h
theorem heldBoolS_own {H : List AO} {a : AV} {n : Nat} {lo hi : Nat} (h : OwnAt H a 1 (boolR (patB 1 n)) lo hi) (hn : n ≤ 100000000) :
    ACall Try.prog 32 [a, .p (.i .i64 1)] H (fun r H' => r = .p (.i .i64 (1 + n)) ∧ H' = H) := by
  rcases h with ⟨rfl, he⟩ | ⟨id, ver, h0, h1, rfl, h3⟩
  · have hz : n = 0 := by
      have : (boolR (patB 1 n)).length = 0 := by rw [he]; rfl
      rw [boolR_len, patB_len] at this; exact this
    subst hz
    refine call32 (by simp) ?_
    simp only [go_sem, Nat.reduceEqDiff, reduceIte, ↓reduceIte, Nat.reduceAdd, List.replicate_succ, List.replicate_zero, List.set_cons_zero, List.set_cons_succ, List.length_cons, List.length_nil, Nat.reduceLT, Nat.lt_add_one, ne_eq, Int.reduceEq, not_false_eq_true, Option.map_some, Nat.reduceLeDiff, Nat.zero_lt_succ, List.map_cons, List.map_nil, List.nil_append, List.cons_append, List.append_nil, bytesOf, List.take_succ_cons, List.take_zero, List.drop_zero, and_self, List.append_assoc, List.length_append, Int.reduceLT, Int.reduceLE, Int.toNat_zero, Int.reduceToNat, Int.cast_ofNat_Int, Int.natCast_zero, Int.natCast_one, Int.reduceAdd, List.map_append, Option.bind_some, mc32, mr32]
    refine ⟨Unit, [0, 1, 4, 5], fun _ st => st = ⟨[(0, .p .nl), (1, .p (.i .i64 1)), (4, .p (.i .i64 0)), (5, .p (.i .i64 0))], [], H⟩, fun _ => 0, ⟨(), ?_⟩, ?_⟩
    · simp only [go_sem, Nat.reduceEqDiff, reduceIte, ↓reduceIte, Nat.reduceAdd, List.replicate_succ, List.replicate_zero, List.set_cons_zero, List.set_cons_succ, List.length_cons, List.length_nil, Nat.reduceLT, Nat.lt_add_one, ne_eq, Int.reduceEq, not_false_eq_true, Option.map_some, Nat.reduceLeDiff, Nat.zero_lt_succ, List.map_cons, List.map_nil, List.nil_append, List.cons_append, List.append_nil, bytesOf, List.take_succ_cons, List.take_zero, List.drop_zero, and_self, List.append_assoc, List.length_append, Int.reduceLT, Int.reduceLE, Int.toNat_zero, Int.reduceToNat, Int.cast_ofNat_Int, Int.natCast_zero, Int.natCast_one, Int.reduceAdd, List.map_append, Option.bind_some]
    · rintro _ st rfl
      simp only [go_sem, Nat.reduceEqDiff, reduceIte, ↓reduceIte, Nat.reduceAdd, List.replicate_succ, List.replicate_zero, List.set_cons_zero, List.set_cons_succ, List.length_cons, List.length_nil, Nat.reduceLT, Nat.lt_add_one, ne_eq, Int.reduceEq, not_false_eq_true, Option.map_some, Nat.reduceLeDiff, Nat.zero_lt_succ, List.map_cons, List.map_nil, List.nil_append, List.cons_append, List.append_nil, bytesOf, List.take_succ_cons, List.take_zero, List.drop_zero, and_self, List.append_assoc, List.length_append, Int.reduceLT, Int.reduceLE, Int.toNat_zero, Int.reduceToNat, Int.cast_ofNat_Int, Int.natCast_zero, Int.natCast_one, Int.reduceAdd, List.map_append, Option.bind_some, Int.reduceLT, decide_false]
  · have hl : (boolR (patB 1 n)).length = n := by rw [boolR_len, patB_len]
    rw [hl]
    exact heldBoolS n 1 h3 hn (by omega) (by omega)

theorem lawReached (c : CodeD) (hok : okCode c) (hrg : rngCode c) : ACall Try.prog 5 [.st (c.cells.map .p)] [] (fun r _ => r = .p (.b true)) := by
  refine call5 (by simp) ?_
  simp only [go_sem, Nat.reduceEqDiff, reduceIte, ↓reduceIte, Nat.reduceAdd, List.replicate_succ, List.replicate_zero, List.set_cons_zero, List.set_cons_succ, List.length_cons, List.length_nil, Nat.reduceLT, Nat.lt_add_one, ne_eq, Int.reduceEq, not_false_eq_true, Option.map_some, Nat.reduceLeDiff, Nat.zero_lt_succ, List.map_cons, List.map_nil, List.nil_append, List.cons_append, List.append_nil, bytesOf, List.take_succ_cons, List.take_zero, List.drop_zero, and_self, List.append_assoc, List.length_append, Int.reduceLT, Int.reduceLE, Int.toNat_zero, Int.reduceToNat, Int.cast_ofNat_Int, Int.natCast_zero, Int.natCast_one, Int.reduceAdd, List.map_append, Option.bind_some, mc5, mr5, CodeD.cells]
  rw [code_eta]
  refine (szCode_any c hok).mono ?_
  rintro r H' ⟨⟨q, rfl, hq⟩, rfl⟩
  simp only [go_sem, Nat.reduceEqDiff, reduceIte, ↓reduceIte, Nat.reduceAdd, List.replicate_succ, List.replicate_zero, List.set_cons_zero, List.set_cons_succ, List.length_cons, List.length_nil, Nat.reduceLT, Nat.lt_add_one, ne_eq, Int.reduceEq, not_false_eq_true, Option.map_some, Nat.reduceLeDiff, Nat.zero_lt_succ, List.map_cons, List.map_nil, List.nil_append, List.cons_append, List.append_nil, bytesOf, List.take_succ_cons, List.take_zero, List.drop_zero, and_self, List.append_assoc, List.length_append, Int.reduceLT, Int.reduceLE, Int.toNat_zero, Int.reduceToNat, Int.cast_ofNat_Int, Int.natCast_zero, Int.natCast_one, Int.reduceAdd, List.map_append, Option.bind_some]
  refine condK_split _ (fun hq0 => ?_) (fun hq0 => ?_)
  · simp only [go_sem, Nat.reduceEqDiff, reduceIte, ↓reduceIte, Nat.reduceAdd, List.replicate_succ, List.replicate_zero, List.set_cons_zero, List.set_cons_succ, List.length_cons, List.length_nil, Nat.reduceLT, Nat.lt_add_one, ne_eq, Int.reduceEq, not_false_eq_true, Option.map_some, Nat.reduceLeDiff, Nat.zero_lt_succ, List.map_cons, List.map_nil, List.nil_append, List.cons_append, List.append_nil, bytesOf, List.take_succ_cons, List.take_zero, List.drop_zero, and_self, List.append_assoc, List.length_append, Int.reduceLT, Int.reduceLE, Int.toNat_zero, Int.reduceToNat, Int.cast_ofNat_Int, Int.natCast_zero, Int.natCast_one, Int.reduceAdd, List.map_append, Option.bind_some]
  have hq1 : ¬ q < 0 := by simpa using hq0
  have hsm : small c := by rcases hq with h | h; exact (hq1 h).elim; exact h.2
  have hf : Fits c := ⟨hok, hsm, hrg⟩
  have hpl := @reachD_len c
  have hpm : (reachD c).length ≤ maxL := by unfold maxL; omega
  simp only [go_sem, Nat.reduceEqDiff, reduceIte, ↓reduceIte, Nat.reduceAdd, List.replicate_succ, List.replicate_zero, List.set_cons_zero, List.set_cons_succ, List.length_cons, List.length_nil, Nat.reduceLT, Nat.lt_add_one, ne_eq, Int.reduceEq, not_false_eq_true, Option.map_some, Nat.reduceLeDiff, Nat.zero_lt_succ, List.map_cons, List.map_nil, List.nil_append, List.cons_append, List.append_nil, bytesOf, List.take_succ_cons, List.take_zero, List.drop_zero, and_self, List.append_assoc, List.length_append, Int.reduceLT, Int.reduceLE, Int.toNat_zero, Int.reduceToNat, Int.cast_ofNat_Int, Int.natCast_zero, Int.natCast_one, Int.reduceAdd, List.map_append, Option.bind_some, code_take]
  refine (toCode c hok hsm _).mono ?_
  rintro r H' ⟨rfl, rfl⟩
  simp only [go_sem, Nat.reduceEqDiff, reduceIte, ↓reduceIte, Nat.reduceAdd, List.replicate_succ, List.replicate_zero, List.set_cons_zero, List.set_cons_succ, List.length_cons, List.length_nil, Nat.reduceLT, Nat.lt_add_one, ne_eq, Int.reduceEq, not_false_eq_true, Option.map_some, Nat.reduceLeDiff, Nat.zero_lt_succ, List.map_cons, List.map_nil, List.nil_append, List.cons_append, List.append_nil, bytesOf, List.take_succ_cons, List.take_zero, List.drop_zero, and_self, List.append_assoc, List.length_append, Int.reduceLT, Int.reduceLE, Int.toNat_zero, Int.reduceToNat, Int.cast_ofNat_Int, Int.natCast_zero, Int.natCast_one, Int.reduceAdd, List.map_append, Option.bind_some]
  have hl0 := lent_code c (H := [AO.var (c.cells.map .p)] ++ codeO c) (i := 1) rfl rfl
  refine (specReached c hf hl0).mono ?_
  rintro w0 H1 ⟨A1, hH1, hw⟩
  have hv1 : H1[0]? = some (.var (c.cells.map .p)) := by rw [hH1]; rfl
  clear hH1 hl0
  simp only [go_sem, Nat.reduceEqDiff, reduceIte, ↓reduceIte, Nat.reduceAdd, List.replicate_succ, List.replicate_zero, List.set_cons_zero, List.set_cons_succ, List.length_cons, List.length_nil, Nat.reduceLT, Nat.lt_add_one, ne_eq, Int.reduceEq, not_false_eq_true, Option.map_some, Nat.reduceLeDiff, Nat.zero_lt_succ, List.map_cons, List.map_nil, List.nil_append, List.cons_append, List.append_nil, bytesOf, List.take_succ_cons, List.take_zero, List.drop_zero, and_self, List.append_assoc, List.length_append, Int.reduceLT, Int.reduceLE, Int.toNat_zero, Int.reduceToNat, Int.cast_ofNat_Int, Int.natCast_zero, Int.natCast_one, Int.reduceAdd, List.map_append, Option.bind_some, hv1, code_take]
  refine (toCode c hok hsm _).mono ?_
  rintro r H' ⟨rfl, rfl⟩
  simp only [go_sem, Nat.reduceEqDiff, reduceIte, ↓reduceIte, Nat.reduceAdd, List.replicate_succ, List.replicate_zero, List.set_cons_zero, List.set_cons_succ, List.length_cons, List.length_nil, Nat.reduceLT, Nat.lt_add_one, ne_eq, Int.reduceEq, not_false_eq_true, Option.map_some, Nat.reduceLeDiff, Nat.zero_lt_succ, List.map_cons, List.map_nil, List.nil_append, List.cons_append, List.append_nil, bytesOf, List.take_succ_cons, List.take_zero, List.drop_zero, and_self, List.append_assoc, List.length_append, Int.reduceLT, Int.reduceLE, Int.toNat_zero, Int.reduceToNat, Int.cast_ofNat_Int, Int.natCast_zero, Int.natCast_one, Int.reduceAdd, List.map_append, Option.bind_some, codeAt, codeO]
  have hw0 := hw
  have hi1 : 0 < H1.length := get_lt hv1
  refine (implReached c hf (lent_code c (i := H1.length) ?_ ?_)).mono ?_
  · rw [get_off0]; rfl
  · rw [get_off]; rfl
  rintro g0 H3 ⟨A3, hH3, hg⟩
  have hv3 : H3[0]? = some (.var (c.cells.map .p)) := by rw [hH3]; exact get_ext (get_ext hv1 _) _
  have h60 : H3[H1.length]? = some (.rows 6 0 (insR c.ins)) := by rw [hH3]; refine get_ext ?_ _; rw [get_off0]; rfl
  have h61 : H3[H1.length + 1]? = some (.rows 1 0 (intR .i64 c.starts)) := by rw [hH3]; refine get_ext ?_ _; rw [get_off]; rfl
  have hx3 : H3[H1.length + 2]? = some (.var [.gs H1.length 0 0 c.ins.length, .gs (H1.length + 1) 0 0 c.starts.length]) := by rw [hH3]; refine get_ext ?_ _; rw [get_off]; rfl
  have hw3 : OwnAt H3 w0 1 (boolR (reachD c)) 1 H1.length := by
    rw [hH3]
    refine OwnAt.ext (OwnAt.ext ?_ _) _
    rcases hw with h | ⟨id, ver, h0, h1, h2, h3⟩
    · exact .inl h
    · exact .inr ⟨id, ver, by simp at h0; omega, h1, h2, h3⟩
  have hg3 : OwnAt H3 g0 1 (boolR (reachD c)) (H1.length + 3) H3.length := by
    rcases hg with h | ⟨id, ver, h0, h1, h2, h3⟩
    · exact .inl h
    · exact .inr ⟨id, ver, by simp [codeO_len] at h0; omega, h1, h2, h3⟩
  clear hg hw0 hw hH3
  simp only [go_sem, Nat.reduceEqDiff, reduceIte, ↓reduceIte, Nat.reduceAdd, List.replicate_succ, List.replicate_zero, List.set_cons_zero, List.set_cons_succ, List.length_cons, List.length_nil, Nat.reduceLT, Nat.lt_add_one, ne_eq, Int.reduceEq, not_false_eq_true, Option.map_some, Nat.reduceLeDiff, Nat.zero_lt_succ, List.map_cons, List.map_nil, List.nil_append, List.cons_append, List.append_nil, bytesOf, List.take_succ_cons, List.take_zero, List.drop_zero, and_self, List.append_assoc, List.length_append, Int.reduceLT, Int.reduceLE, Int.toNat_zero, Int.reduceToNat, Int.cast_ofNat_Int, Int.natCast_zero, Int.natCast_one, Int.reduceAdd, List.map_append, Option.bind_some]
  refine (eqBoolS_any _ _ hpm hpm (ownB_lent hg3.own) (ownB_lent hw3.own)).mono ?_
  rintro r H' ⟨rfl, rfl⟩
  simp only [go_sem, Nat.reduceEqDiff, reduceIte, ↓reduceIte, Nat.reduceAdd, List.replicate_succ, List.replicate_zero, List.set_cons_zero, List.set_cons_succ, List.length_cons, List.length_nil, Nat.reduceLT, Nat.lt_add_one, ne_eq, Int.reduceEq, not_false_eq_true, Option.map_some, Nat.reduceLeDiff, Nat.zero_lt_succ, List.map_cons, List.map_nil, List.nil_append, List.cons_append, List.append_nil, bytesOf, List.take_succ_cons, List.take_zero, List.drop_zero, and_self, List.append_assoc, List.length_append, Int.reduceLT, Int.reduceLE, Int.toNat_zero, Int.reduceToNat, Int.cast_ofNat_Int, Int.natCast_zero, Int.natCast_one, Int.reduceAdd, List.map_append, Option.bind_some]
  refine drw_same ?_
  simp only [go_sem, Nat.reduceEqDiff, reduceIte, ↓reduceIte, Nat.reduceAdd, List.replicate_succ, List.replicate_zero, List.set_cons_zero, List.set_cons_succ, List.length_cons, List.length_nil, Nat.reduceLT, Nat.lt_add_one, ne_eq, Int.reduceEq, not_false_eq_true, Option.map_some, Nat.reduceLeDiff, Nat.zero_lt_succ, List.map_cons, List.map_nil, List.nil_append, List.cons_append, List.append_nil, bytesOf, List.take_succ_cons, List.take_zero, List.drop_zero, and_self, List.append_assoc, List.length_append, Int.reduceLT, Int.reduceLE, Int.toNat_zero, Int.reduceToNat, Int.cast_ofNat_Int, Int.natCast_zero, Int.natCast_one, Int.reduceAdd, List.map_append, Option.bind_some, hx3, hv3, code_take]
  refine pcall_pure (fun A => (toCode_fresh c hok hsm).mono fun r H' ⟨h1, h2⟩ => ⟨h2, h1⟩) (Hext.refl _) ?_
  simp only [go_sem, Nat.reduceEqDiff, reduceIte, ↓reduceIte, Nat.reduceAdd, List.replicate_succ, List.replicate_zero, List.set_cons_zero, List.set_cons_succ, List.length_cons, List.length_nil, Nat.reduceLT, Nat.lt_add_one, ne_eq, Int.reduceEq, not_false_eq_true, Option.map_some, Nat.reduceLeDiff, Nat.zero_lt_succ, List.map_cons, List.map_nil, List.nil_append, List.cons_append, List.append_nil, bytesOf, List.take_succ_cons, List.take_zero, List.drop_zero, and_self, List.append_assoc, List.length_append, Int.reduceLT, Int.reduceLE, Int.toNat_zero, Int.reduceToNat, Int.cast_ofNat_Int, Int.natCast_zero, Int.natCast_one, Int.reduceAdd, List.map_append, Option.bind_some]
  refine (eqCode_any c c hok hok (lent_code c h60 h61) (code_lent c)).mono ?_
  rintro r H' ⟨rfl, rfl⟩
  simp only [go_sem, Nat.reduceEqDiff, reduceIte, ↓reduceIte, Nat.reduceAdd, List.replicate_succ, List.replicate_zero, List.set_cons_zero, List.set_cons_succ, List.length_cons, List.length_nil, Nat.reduceLT, Nat.lt_add_one, ne_eq, Int.reduceEq, not_false_eq_true, Option.map_some, Nat.reduceLeDiff, Nat.zero_lt_succ, List.map_cons, List.map_nil, List.nil_append, List.cons_append, List.append_nil, bytesOf, List.take_succ_cons, List.take_zero, List.drop_zero, and_self, List.append_assoc, List.length_append, Int.reduceLT, Int.reduceLE, Int.toNat_zero, Int.reduceToNat, Int.cast_ofNat_Int, Int.natCast_zero, Int.natCast_one, Int.reduceAdd, List.map_append, Option.bind_some, hx3]
  refine (markCode c hsm h60 h61).mono ?_
  rintro r H4 ⟨⟨k, hk0, rfl⟩, rs, us, o, hH4⟩
  have hkf : decide (k < 0) = false := by simp; exact hk0
  have hv4 : H4[0]? = some (.var (c.cells.map .p)) := by rw [hH4]; exact get_ext (get_set (get_set hv3 (by omega)) (by omega)) _
  have hw4 : OwnAt H4 w0 1 (boolR (reachD c)) 1 H1.length := by rw [hH4]; exact ((hw3.set _ (.inr (by omega))).set _ (.inr (by omega))).ext _
  have hg4 : OwnAt H4 g0 1 (boolR (reachD c)) (H1.length + 3) H'.length := by rw [hH4]; exact ((hg3.set _ (.inl (by omega))).set _ (.inl (by omega))).ext _
  have hl4 : H'.length ≤ H4.length := by rw [hH4]; simp
  clear hH4 hv3 h60 h61 hx3 hw3 hg3
  simp only [go_sem, Nat.reduceEqDiff, reduceIte, ↓reduceIte, Nat.reduceAdd, List.replicate_succ, List.replicate_zero, List.set_cons_zero, List.set_cons_succ, List.length_cons, List.length_nil, Nat.reduceLT, Nat.lt_add_one, ne_eq, Int.reduceEq, not_false_eq_true, Option.map_some, Nat.reduceLeDiff, Nat.zero_lt_succ, List.map_cons, List.map_nil, List.nil_append, List.cons_append, List.append_nil, bytesOf, List.take_succ_cons, List.take_zero, List.drop_zero, and_self, List.append_assoc, List.length_append, Int.reduceLT, Int.reduceLE, Int.toNat_zero, Int.reduceToNat, Int.cast_ofNat_Int, Int.natCast_zero, Int.natCast_one, Int.reduceAdd, List.map_append, Option.bind_some, hkf]
  refine (eqBoolS_any _ _ hpm hpm (ownB_lent hg4.own) (ownB_lent hw4.own)).mono ?_
  rintro r H5 ⟨rfl, rfl⟩
  simp only [go_sem, Nat.reduceEqDiff, reduceIte, ↓reduceIte, Nat.reduceAdd, List.replicate_succ, List.replicate_zero, List.set_cons_zero, List.set_cons_succ, List.length_cons, List.length_nil, Nat.reduceLT, Nat.lt_add_one, ne_eq, Int.reduceEq, not_false_eq_true, Option.map_some, Nat.reduceLeDiff, Nat.zero_lt_succ, List.map_cons, List.map_nil, List.nil_append, List.cons_append, List.append_nil, bytesOf, List.take_succ_cons, List.take_zero, List.drop_zero, and_self, List.append_assoc, List.length_append, Int.reduceLT, Int.reduceLE, Int.toNat_zero, Int.reduceToNat, Int.cast_ofNat_Int, Int.natCast_zero, Int.natCast_one, Int.reduceAdd, List.map_append, Option.bind_some, hkf]
  refine (markBoolS_own hg4 (by omega)).mono ?_
  rintro r H6 ⟨rfl, hg6, hl6, hk6⟩
  have hv6 := hk6 0 _ hv4 (.inl (by omega))
  have hw6 : OwnAt H6 w0 1 (boolR (reachD c)) 1 H1.length := by
    rcases hw4 with h | ⟨id, ver, h0, h1, h2, h3⟩
    · exact .inl h
    · exact .inr ⟨id, ver, h0, h1, h2, hk6 _ _ h3 (.inl (by omega))⟩
  simp only [go_sem, Nat.reduceEqDiff, reduceIte, ↓reduceIte, Nat.reduceAdd, List.replicate_succ, List.replicate_zero, List.set_cons_zero, List.set_cons_succ, List.length_cons, List.length_nil, Nat.reduceLT, Nat.lt_add_one, ne_eq, Int.reduceEq, not_false_eq_true, Option.map_some, Nat.reduceLeDiff, Nat.zero_lt_succ, List.map_cons, List.map_nil, List.nil_append, List.cons_append, List.append_nil, bytesOf, List.take_succ_cons, List.take_zero, List.drop_zero, and_self, List.append_assoc, List.length_append, Int.reduceLT, Int.reduceLE, Int.toNat_zero, Int.reduceToNat, Int.cast_ofNat_Int, Int.natCast_zero, Int.natCast_one, Int.reduceAdd, List.map_append, Option.bind_some]
  refine (heldBoolS_own hg6 (by omega)).mono ?_
  rintro r H7 ⟨rfl, rfl⟩
  have hnn : decide (1 + ((reachD c).length : Int) < 0) = false := by simp; omega
  simp only [go_sem, Nat.reduceEqDiff, reduceIte, ↓reduceIte, Nat.reduceAdd, List.replicate_succ, List.replicate_zero, List.set_cons_zero, List.set_cons_succ, List.length_cons, List.length_nil, Nat.reduceLT, Nat.lt_add_one, ne_eq, Int.reduceEq, not_false_eq_true, Option.map_some, Nat.reduceLeDiff, Nat.zero_lt_succ, List.map_cons, List.map_nil, List.nil_append, List.cons_append, List.append_nil, bytesOf, List.take_succ_cons, List.take_zero, List.drop_zero, and_self, List.append_assoc, List.length_append, Int.reduceLT, Int.reduceLE, Int.toNat_zero, Int.reduceToNat, Int.cast_ofNat_Int, Int.natCast_zero, Int.natCast_one, Int.reduceAdd, List.map_append, Option.bind_some, hnn]
  simp only [go_sem, Nat.reduceEqDiff, reduceIte, ↓reduceIte, Nat.reduceAdd, List.replicate_succ, List.replicate_zero, List.set_cons_zero, List.set_cons_succ, List.length_cons, List.length_nil, Nat.reduceLT, Nat.lt_add_one, ne_eq, Int.reduceEq, not_false_eq_true, Option.map_some, Nat.reduceLeDiff, Nat.zero_lt_succ, List.map_cons, List.map_nil, List.nil_append, List.cons_append, List.append_nil, bytesOf, List.take_succ_cons, List.take_zero, List.drop_zero, and_self, List.append_assoc, List.length_append, Int.reduceLT, Int.reduceLE, Int.toNat_zero, Int.reduceToNat, Int.cast_ofNat_Int, Int.natCast_zero, Int.natCast_one, Int.reduceAdd, List.map_append, Option.bind_some, hv6, code_take]
  refine (toCode c hok hsm _).mono ?_
  rintro r H8 ⟨rfl, rfl⟩
  simp only [go_sem, Nat.reduceEqDiff, reduceIte, ↓reduceIte, Nat.reduceAdd, List.replicate_succ, List.replicate_zero, List.set_cons_zero, List.set_cons_succ, List.length_cons, List.length_nil, Nat.reduceLT, Nat.lt_add_one, ne_eq, Int.reduceEq, not_false_eq_true, Option.map_some, Nat.reduceLeDiff, Nat.zero_lt_succ, List.map_cons, List.map_nil, List.nil_append, List.cons_append, List.append_nil, bytesOf, List.take_succ_cons, List.take_zero, List.drop_zero, and_self, List.append_assoc, List.length_append, Int.reduceLT, Int.reduceLE, Int.toNat_zero, Int.reduceToNat, Int.cast_ofNat_Int, Int.natCast_zero, Int.natCast_one, Int.reduceAdd, List.map_append, Option.bind_some]
  refine (implReached c hf (lent_code c (codeO_get0 _ _) (codeO_get1 _ _))).mono ?_
  rintro g1 H9 ⟨A9, hH9, hg9⟩
  have hw9 : OwnAt H9 w0 1 (boolR (reachD c)) 1 H1.length := by rw [hH9]; exact (hw6.ext _).ext _
  have hp9 : OwnAt H9 g0 1 (boolR (patB 1 (reachD c).length)) (H1.length + 3) H'.length := by rw [hH9]; exact (hg6.ext _).ext _
  clear hH9
  simp only [go_sem, Nat.reduceEqDiff, reduceIte, ↓reduceIte, Nat.reduceAdd, List.replicate_succ, List.replicate_zero, List.set_cons_zero, List.set_cons_succ, List.length_cons, List.length_nil, Nat.reduceLT, Nat.lt_add_one, ne_eq, Int.reduceEq, not_false_eq_true, Option.map_some, Nat.reduceLeDiff, Nat.zero_lt_succ, List.map_cons, List.map_nil, List.nil_append, List.cons_append, List.append_nil, bytesOf, List.take_succ_cons, List.take_zero, List.drop_zero, and_self, List.append_assoc, List.length_append, Int.reduceLT, Int.reduceLE, Int.toNat_zero, Int.reduceToNat, Int.cast_ofNat_Int, Int.natCast_zero, Int.natCast_one, Int.reduceAdd, List.map_append, Option.bind_some]
  refine (eqBoolS_any _ _ hpm hpm (ownB_lent hg9.own) (ownB_lent hw9.own)).mono ?_
  rintro r H10 ⟨rfl, rfl⟩
  simp only [go_sem, Nat.reduceEqDiff, reduceIte, ↓reduceIte, Nat.reduceAdd, List.replicate_succ, List.replicate_zero, List.set_cons_zero, List.set_cons_succ, List.length_cons, List.length_nil, Nat.reduceLT, Nat.lt_add_one, ne_eq, Int.reduceEq, not_false_eq_true, Option.map_some, Nat.reduceLeDiff, Nat.zero_lt_succ, List.map_cons, List.map_nil, List.nil_append, List.cons_append, List.append_nil, bytesOf, List.take_succ_cons, List.take_zero, List.drop_zero, and_self, List.append_assoc, List.length_append, Int.reduceLT, Int.reduceLE, Int.toNat_zero, Int.reduceToNat, Int.cast_ofNat_Int, Int.natCast_zero, Int.natCast_one, Int.reduceAdd, List.map_append, Option.bind_some]
  refine (heldBoolS_own hp9 (by omega)).mono ?_
  rintro r H11 ⟨rfl, rfl⟩
  simp only [go_sem, Nat.reduceEqDiff, reduceIte, ↓reduceIte, Nat.reduceAdd, List.replicate_succ, List.replicate_zero, List.set_cons_zero, List.set_cons_succ, List.length_cons, List.length_nil, Nat.reduceLT, Nat.lt_add_one, ne_eq, Int.reduceEq, not_false_eq_true, Option.map_some, Nat.reduceLeDiff, Nat.zero_lt_succ, List.map_cons, List.map_nil, List.nil_append, List.cons_append, List.append_nil, bytesOf, List.take_succ_cons, List.take_zero, List.drop_zero, and_self, List.append_assoc, List.length_append, Int.reduceLT, Int.reduceLE, Int.toNat_zero, Int.reduceToNat, Int.cast_ofNat_Int, Int.natCast_zero, Int.natCast_one, Int.reduceAdd, List.map_append, Option.bind_some, hnn]
end Go.Proofs.Ytmbggdfceecojaa.Cd
