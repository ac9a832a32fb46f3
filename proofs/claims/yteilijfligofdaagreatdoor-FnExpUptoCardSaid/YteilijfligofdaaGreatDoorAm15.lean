/- The whole: what the evaluation of a body's small code says, the model's run of the body does. -/
import Derived.Test.YteilijfligofdaaGreatDoorAm14
set_option linter.all false
namespace Go.AM
variable {lv:List Nat} {P:Program} {N:Nat} {o:Oper} {st:St} {K:St->Prop} {θ:Th} {W:Im}
theorem map_some_inv {α β:Type} {f:α->β} {x:Option α} {y:β} (h:x.map f=some y):∃ a,x=some a/\f a=y:=by
 cases x with
 | none=>cases h
 | some a=>exact ⟨a,rfl,by simpa using h⟩
theorem args_one {c : Call} {m : MA} (h : cArgs lv c.args.toList = some [m]) : ∃ x, c.args = #[x] ∧ cArg lv x = some m := by
  cases hl : c.args.toList with
  | nil => rw [hl] at h; cases h
  | cons x xs =>
    rw [hl] at h
    simp only [cArgs] at h
    split at h
    · rename_i a l h1 h2
      cases h
      cases xs with
      | nil => exact ⟨x, by apply Array.ext'; simpa using hl, h1⟩
      | cons y ys =>
        simp only [cArgs] at h2
        split at h2
        · cases h2
        · cases h2
    · cases h
theorem args_two {c : Call} {m n : MA} (h : cArgs lv c.args.toList = some [m, n]) : ∃ x y, c.args = #[x, y] ∧ cArg lv x = some m ∧ cArg lv y = some n := by
  cases hl : c.args.toList with
  | nil => rw [hl] at h; cases h
  | cons x xs =>
    rw [hl] at h
    simp only [cArgs] at h
    split at h
    · rename_i a l h1 h2
      cases h
      cases xs with
      | nil => cases h2
      | cons y ys =>
        simp only [cArgs] at h2
        split at h2
        · rename_i b l h3 h4
          cases h2
          cases ys with
          | nil => exact ⟨x, y, by apply Array.ext'; simpa using hl, h1, h3⟩
          | cons z zs =>
            simp only [cArgs] at h4
            split at h4
            · cases h4
            · cases h4
        · cases h2
    · cases h
theorem call_ok {c : Call} {m : MO} (ho : o.op = .call c) (hm : cCall lv P c = some m) (hd : o.dst.all (decide <| · < N) = true) (h : stepU (ACall P) m (cDst lv o.dst) K st) : OpOk lv P N o st K := by
  unfold cCall at hm
  split at hm
  · rename_i f as hc ha
    split at hm
    · split at hm
      · cases hm; exact ok_call ho hc ha hd h
      · cases hm
    · cases hm
  · rename_i t as hc ha
    cases hm
    exact ok_calv ho hc ha hd h
  · rename_i x hc ha
    obtain ⟨y, hy, hx⟩ := args_one ha
    cases ht : c.argTypes[0]? with
    | none => rw [ht] at hm; cases hm
    | some t =>
      rw [ht] at hm
      simp only [Option.bind_some] at hm
      split at hm
      · rename_i e he; cases hm; exact ok_len (s := false) ho hc hy ht ⟨e, he⟩ hx hd h
      · rename_i he; cases hm; exact ok_len (s := true) ho hc hy ht he hx hd h
      · cases hm
  · rename_i x hc ha
    obtain ⟨y, hy, hx⟩ := args_one ha
    cases ht : c.argTypes[0]? with
    | none => rw [ht] at hm; cases hm
    | some t =>
      rw [ht] at hm
      simp only [Option.bind_some] at hm
      split at hm
      · rename_i e he; cases hm; exact ok_cap ho hc hy ht he hx hd h
      · cases hm
  · rename_i x y hc ha
    obtain ⟨x', y', hy, hx1, hx2⟩ := args_two ha
    split at hm
    case h_2 => cases hm
    case h_1 t u0 htu =>
    have hty : c.argTypes = #[t, u0] := by apply Array.ext'; simpa using htu
    split at hm
    case h_1 => cases hm
    case h_2 u hu =>
    split at hm
    case h_2 => cases hm
    case h_1 e he =>
    split at hm
    case h_2 => cases hm
    case h_1 i hi =>
    have he' : P.underlying t = some (.slice e) := by
      unfold elemT at he
      split at he
      · rename_i e' h'; cases he; exact h'
      · cases he
    split at hm
    · rename_i z e' hz
      split at hm
      · rename_i hcc
        simp only [Bool.and_eq_true, beq_iff_eq, decide_eq_true_eq] at hcc
        cases hm
        exact ok_app ho hc hy hty he' hu (.inl ⟨e', rfl⟩) hi hz hcc.1 hcc.2 hx1 hx2 hd h
      · cases hm
    · rename_i z hz
      split at hm
      · rename_i hcc
        simp only [Bool.and_eq_true, beq_iff_eq, decide_eq_true_eq] at hcc
        cases hm
        exact ok_app ho hc hy hty he' hu (.inr rfl) hi hz hcc.1 hcc.2 hx1 hx2 hd h
      · cases hm
    · rename_i z hz
      split at hm
      · rename_i hcc
        simp only [Bool.and_eq_true, beq_iff_eq, decide_eq_true_eq] at hcc
        cases hm
        exact ok_appz ho hc hy hty he' hu hi hz hcc.1 hcc.2 hx1 hx2 hd h
      · cases hm
    · cases hm
  · rename_i x y hc ha
    obtain ⟨x', y', hy, hx1, hx2⟩ := args_two ha
    cases hm
    exact ok_mnx (mx := false) ho hc hy hx1 hx2 hd h
  · rename_i x y hc ha
    obtain ⟨x', y', hy, hx1, hx2⟩ := args_two ha
    cases hm
    exact ok_mnx (mx := true) ho hc hy hx1 hx2 hd h
  · cases hm
theorem step_ok {m : MO} (hm : cOp lv P o.op = some m) (hd : o.dst.all (decide <| · < N) = true) (h : stepU (ACall P) m (cDst lv o.dst) K st) : OpOk lv P N o st K := by
  cases ho : o.op with
  | move x => rw [ho] at hm; obtain ⟨a, ha, rfl⟩ := map_some_inv hm; exact ok_mv (.inl ho) ha hd h
  | assign x => rw [ho] at hm; obtain ⟨a, ha, rfl⟩ := map_some_inv hm; exact ok_mv (.inr ho) ha hd h
  | pick c x y =>
    rw [ho] at hm
    simp only [cOp] at hm
    split at hm
    · rename_i h1 h2 h3; cases hm; exact ok_pick ho h1 h2 h3 hd h
    · cases hm
  | alloc t => rw [ho] at hm; obtain ⟨z, hz, rfl⟩ := map_some_inv hm; exact ok_alloc ho hz hd h
  | box t x =>
    rw [ho] at hm
    simp only [cOp] at hm
    split at hm
    · rename_i h1 h2; cases hm; exact ok_box ho h1 hd h
    · cases hm
  | build t ps =>
    rw [ho] at hm
    simp only [cOp] at hm
    split at hm
    · rename_i fs hfs
      split at hm
      · rename_i z ms hz hps
        split at hm
        · rename_i hcc
          simp only [Bool.and_eq_true, List.all_eq_true, decide_eq_true_eq] at hcc
          cases hm
          exact ok_build ho hfs (fun f hf => Option.isSome_iff_exists.1 (hcc.1 f (by simpa using hf))) hz hps hcc.2 hd h
        · cases hm
      · cases hm
    · cases hm
  | buildSlice t n ps =>
    rw [ho] at hm
    simp only [cOp] at hm
    split at hm
    · rename_i e he
      have he' : P.underlying t = some (.slice e) := by
        unfold elemT at he
        split at he
        · rename_i e' h'; cases he; exact h'
        · cases he
      split at hm
      · rename_i sz z ms hsz hz hps
        split at hm
        · rename_i hcc
          simp only [Bool.and_eq_true, beq_iff_eq, decide_eq_true_eq] at hcc
          cases hm
          exact ok_bsl ho he' hsz hz hcc.1.1 hcc.1.2 hcc.2 hps hd h
        · cases hm
      · cases hm
    · cases hm
  | load t x =>
    rw [ho] at hm
    simp only [cOp] at hm
    split at hm
    · rename_i h1 h2 h3; cases hm; exact ok_ld ho h1 h2 h3 hd h
    · cases hm
  | store t x v =>
    rw [ho] at hm
    simp only [cOp] at hm
    split at hm
    · rename_i h1 h2 h3
      split at hm
      · rename_i hn; cases hm; exact ok_sto ho h1 h2 h3 (by simpa using hn) hd h
      · cases hm
    · cases hm
  | nilCheck x => rw [ho] at hm; obtain ⟨a, ha, rfl⟩ := map_some_inv hm; exact ok_nilc ho ha hd h
  | binOp op t x y u =>
    rw [ho] at hm
    simp only [cOp] at hm
    split at hm
    · rename_i h1 h2 h3; cases hm; exact ok_bin ho h1 h2 hd h
    · rename_i h1 h2 h3; cases hm; exact ok_bin ho h1 h2 hd h
    · rename_i h1 h2 h3
      split at hm
      · cases hm; exact ok_beq (ne := false) ho h3 h1 h2 hd h
      · cases hm; exact ok_beq (ne := true) ho h3 h1 h2 hd h
      · cases hm
    · rename_i h1 h2 h3
      unfold cSq at hm
      split at hm
      · rename_i hc
        simp only [Bool.and_eq_true, Bool.not_eq_true'] at hc
        split at hm
        · cases hm; exact ok_sq (ne := false) ho h3 hc.1.1 hc.1.2 hc.2 h1 h2 hd h
        · cases hm; exact ok_sq (ne := true) ho h3 hc.1.1 hc.1.2 hc.2 h1 h2 hd h
        · cases hm
      · cases hm
    · rename_i h1 h2 h3
      unfold cNii at hm
      split at hm
      · cases hm; exact ok_nii (ne := false) ho h3 h1 h2 hd h
      · cases hm; exact ok_nii (ne := true) ho h3 h1 h2 hd h
      · cases hm
    · rename_i h1 h2 h3
      unfold cNilq at hm
      split at hm
      · cases hm; exact ok_nilq_s (ne := false) ho h3 h1 h2 hd h
      · cases hm; exact ok_nilq_s (ne := true) ho h3 h1 h2 hd h
      · cases hm
    · rename_i h1 h2 h3
      unfold cNilq at hm
      split at hm
      · cases hm; exact ok_nilq_p (ne := false) ho h3 h1 h2 hd h
      · cases hm; exact ok_nilq_p (ne := true) ho h3 h1 h2 hd h
      · cases hm
    · cases hm
  | unOp op t x => rw [ho] at hm; obtain ⟨a, ha, rfl⟩ := map_some_inv hm; exact ok_un ho ha hd h
  | convert s t x =>
    rw [ho] at hm
    simp only [cOp] at hm
    split at hm
    · rename_i h1 h2 h3; cases hm; exact ok_conv ho h2 h3 h1 hd h
    · rename_i h1 h2 h3
      split at hm
      · rename_i h4; cases hm; exact ok_b2s ho h2 h4 h3 h1 hd h
      · cases hm
    · cases hm
  | makeFunc fn first caps =>
    rw [ho] at hm
    cases fn with
    | func f =>
      simp only [cOp] at hm
      split at hm
      · rename_i hf
        obtain ⟨a, ha, rfl⟩ := map_some_inv hm
        exact ok_mkf ho (by simpa using hf) ha hd h
      · cases hm
    | _ => cases hm
  | makeSlice t l c =>
    rw [ho] at hm
    simp only [cOp] at hm
    split at hm
    · rename_i e l' c' he h1 h2
      have he' : P.underlying t = some (.slice e) := by
        unfold elemT at he
        split at he
        · rename_i e' h'; cases he; exact h'
        · cases he
      split at hm
      · rename_i i z hi hz
        split at hm
        · rename_i hcc
          simp only [Bool.and_eq_true, beq_iff_eq, decide_eq_true_eq] at hcc
          cases hm
          exact ok_mks ho he' hi hz hcc.1 hcc.2 h1 h2 hd h
        · cases hm
      · cases hm
    · cases hm
  | slice t x lo hi mx =>
    rw [ho] at hm
    cases mx with
    | some _ => cases hm
    | none =>
      simp only [cOp] at hm
      split at hm
      · rename_i h1 h2 h3 h4; cases hm; exact ok_slc_string ho h1 h2 h3 h4 hd h
      · rename_i h1 h2 h3 h4
        obtain ⟨n, hn, rfl⟩ := map_some_inv hm
        exact ok_slc ho h1 hn h2 h3 h4 hd h
      · cases hm
  | fieldAddr s x f =>
    rw [ho] at hm
    simp only [cOp] at hm
    split at hm
    · rename_i h1 h2
      split at hm
      · rename_i hn; cases hm; exact ok_fad ho h2 h1 (by simpa using hn) hd h
      · cases hm
    · cases hm
  | field s x f =>
    rw [ho] at hm
    simp only [cOp] at hm
    split at hm
    · rename_i h1 h2
      obtain ⟨g, hg, rfl⟩ := map_some_inv hm
      exact ok_fld ho h2 h1 hg hd (by rw [← su_fld (C := ACall P)]; exact h)
    · cases hm
  | indexAddr t x i =>
    rw [ho] at hm
    simp only [cOp] at hm
    split at hm
    · rename_i e x' i' h1 h2 h3
      cases hs : sizeT P e with
      | none => rw [hs] at hm; cases hm
      | some n =>
        rw [hs] at hm
        simp only [Option.bind_some] at hm
        split at hm
        · rename_i hn; cases hm; exact ok_ixs ho h1 hs (by simpa using hn) h2 h3 hd h
        · cases hm
    · rename_i h1 h2 h3
      obtain ⟨n, hn, rfl⟩ := map_some_inv hm
      exact ok_ixa ho h1 hn h2 h3 hd h
    · cases hm
  | index t x i =>
    rw [ho] at hm
    simp only [cOp] at hm
    split at hm
    · rename_i h1 h2 h3; cases hm; exact ok_ixt ho h1 h2 h3 hd h
    · cases hm
  | extract x n => rw [ho] at hm; obtain ⟨a, ha, rfl⟩ := map_some_inv hm; exact ok_ext ho ha hd h
  | call c => rw [ho] at hm; exact call_ok ho hm hd h
  | _ => rw [ho] at hm; cases hm
end Go.AM
