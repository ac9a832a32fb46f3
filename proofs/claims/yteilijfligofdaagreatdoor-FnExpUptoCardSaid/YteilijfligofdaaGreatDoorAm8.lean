/- The operations, continued: stores, addresses, operators, indexes. -/
import Derived.Test.YteilijfligofdaaGreatDoorAm7
set_option linter.all false
namespace Go.AM
variable {lv:List Nat} {P:Program} {N:Nat} {o:Oper} {st:St} {K:St->Prop} {θ:Th} {W:Im}
theorem getElem?_over {α:Type} (vs us:List α) (s k:Nat) (h:s+us.length<=vs.length) :
  (vs.take s++us++vs.drop (s+us.length))[k]?=if k<s then vs[k]? else if k<s+us.length then us[k - s]? else vs[k]?:=by
 rw [List.append_assoc]
 by_cases h1:k<s
 ·rw [if_pos h1,List.getElem?_append_left (by simp; omega),List.getElem?_take,if_pos h1]
 ·rw [if_neg h1,List.getElem?_append_right (by simp; omega)]
  have:(vs.take s).length=s:=by simp; omega
  rw [this]
  by_cases h2:k<s+us.length
  ·rw [if_pos h2,List.getElem?_append_left (by omega)]
  ·rw [if_neg h2,List.getElem?_append_right (by omega),List.getElem?_drop]
   congr 1
   omega
theorem splice_spec {cs us cs' : List AV} {off : Nat} (h : splice cs off us = some cs') (hu : us ≠ []) :
    off + us.length ≤ cs.length ∧ cs' = cs.take off ++ us ++ cs.drop (off + us.length) := by
  induction cs generalizing off us cs' with
  | nil =>
    cases us with
    | nil => exact (hu rfl).elim
    | cons u us => cases off <;> cases h
  | cons c cs ih =>
    cases us with
    | nil => exact (hu rfl).elim
    | cons u us =>
      cases off with
      | zero =>
        simp only [splice] at h
        cases us with
        | nil =>
          rw [splice_nil] at h
          cases h
          simp
        | cons u' us =>
          cases hs : splice cs 0 (u' :: us) with
          | none => rw [hs] at h; cases h
          | some ds =>
            rw [hs] at h
            cases h
            obtain ⟨h1, h2⟩ := ih hs (by simp)
            refine ⟨by simp at h1 ⊢; omega, ?_⟩
            rw [h2]
            simp
      | succ off =>
        simp only [splice] at h
        cases hs : splice cs off (u :: us) with
        | none => rw [hs] at h; cases h
        | some ds =>
          rw [hs] at h
          cases h
          obtain ⟨h1, h2⟩ := ih hs (by simp)
          refine ⟨by simp at h1 ⊢; omega, ?_⟩
          rw [h2]
          simp [Nat.succ_add]
theorem size_setRow' (w:World) (g:Nat) (cs:Array Value):(w.setRow g cs).heap.size=w.heap.size:=by simp [World.setRow]
theorem ok_sto {t : TypeId} {n : Nat} {x v : Operand} {mx mv : MA} (ho : o.op = .store t x v) (hx : cArg lv x = some mx) (hv : cArg lv v = some mv) (hn : sizeT P t = some n) (hn0 : 0 < n)
    (hd : o.dst.all (decide <| · < N) = true) (h : withH (stoH st.H n (st.get mx) (st.get mv)) (cDst lv o.dst) K st) : OpOk lv P N o st K := by
  intro a w θ W next Q hR hk
  cases hH : stoH st.H n (st.get mx) (st.get mv) with
  | none => rw [hH] at h; exact h.elim
  | some H' =>
    rw [hH] at h
    unfold stoH at hH
    split at hH
    case isFalse => cases hH
    case isTrue hc =>
    simp only [Bool.and_eq_true, beq_iff_eq] at hc
    obtain ⟨c1, c2, c3⟩ := cells_rel (hR.arg hv) hc.1
    have hne : (st.get mv).cells ≠ [] := fun e => by rw [e] at hc; simp at hc; omega
    obtain ⟨i, hi, hsz⟩ : ∃ i, P.info? t = some i ∧ i.size = n := by
      simp only [sizeT] at hn
      cases hi : P.info? t with
      | none => rw [hi] at hn; cases hn
      | some i => rw [hi] at hn; cases hn; exact ⟨i, rfl, rfl⟩
    have hcs : (a.eval v).cells.size = i.size := by rw [c1, hc.2, hsz]
    have hlen : (a.eval v).cells.toList.length = (st.get mv).cells.length := by simpa using c1
    have run : ∀ (b off : Nat) (vs : Array Value) (ty : TypeId), a.eval x = .pointer (some ⟨b, off, none⟩) → w.heap[b]? = some (.cells vs ty (0, 0)) → off + (a.eval v).cells.toList.length ≤ vs.size →
        (execOp a.eval o).run P w = .ok .skip (w.setRow b (vs.toList.take off ++ (a.eval v).cells.toList ++ vs.toList.drop (off + (a.eval v).cells.toList.length)).toArray) := by
      intro b off vs ty hb1 hb2 hb3
      have hst := run_storeCells_at P b off ty (a.eval v).cells.toList 0 vs w hb2 (by simpa using hb3) (fun u hu => by
        obtain ⟨j, hj⟩ := List.getElem?_of_mem hu
        exact c3 j u (by simpa using hj))
      simp only [Nat.add_zero] at hst
      simp [execOp, ho, hb1, Instr.storeAt, Instr.sureAddr, storeVar, sizeOf, typeInfo, hi, hcs, hst]
    split at hH
    · rename_i id off e
      split at hH
      · rename_i cs hid
        cases hsp : splice cs off (st.get mv).cells with
        | none => rw [hsp] at hH; cases hH
        | some cs' =>
          rw [hsp] at hH
          cases hH
          obtain ⟨hs1, hs2⟩ := splice_spec hsp hne
          have hidl : id < st.H.length := by
            rcases Nat.lt_or_ge id st.H.length with h' | h'
            · exact h'
            · rw [List.getElem?_eq_none h'] at hid; cases hid
          obtain ⟨⟨b, sz, tot, ty, vs, h1, h2, h3, h4, h5⟩, h6⟩ := hR.mem.obj id _ hid
          have hp := hR.arg hx
          rw [e] at hp
          cases hp' : a.eval x with
          | pointer p =>
            rw [hp'] at hp
            cases hp with
            | ptr _ _ b' sz' tot' e' =>
              rw [h1] at e'; cases e'
              have hb3 : off + (a.eval v).cells.toList.length ≤ vs.size := by rw [hlen]; omega
              have hrun := run b off vs ty hp' h2 hb3
              obtain ⟨s1, s2⟩ := hR.mem.write (w' := w.setRow b (vs.toList.take off ++ (a.eval v).cells.toList ++ vs.toList.drop (off + (a.eval v).cells.toList.length)).toArray) id 0 b sz tot (.var cs') hidl h1 rfl rfl rfl (size_setRow' _ _ _) (fun k hk' => setRow_other _ _ _ _ hk')
                ⟨⟨b, sz, tot, ty, _, h1, setRow_heap w b vs _ ty _ h2, by rw [hs2]; simp; omega, fun j c u hj hu => by
                  rw [hs2, getElem?_over _ _ _ _ hs1] at hj
                  simp only [List.getElem?_toArray] at hu
                  rw [getElem?_over _ _ _ _ (by simpa using hb3), hlen] at hu
                  split at hj
                  · rename_i hlt; rw [if_pos hlt] at hu; exact h4 j c u hj (by simpa using hu)
                  · rename_i hlt; rw [if_neg hlt] at hu
                    split at hj
                    · rename_i hlt2; rw [if_pos hlt2] at hu; exact c2 _ c u hj (by simpa using hu)
                    · rename_i hlt2; rw [if_neg hlt2] at hu; exact h4 j c u hj (by simpa using hu), fun j u hu => by
                  simp only [List.getElem?_toArray] at hu
                  rw [getElem?_over _ _ _ _ (by simpa using hb3)] at hu
                  split at hu
                  · exact h5 j u (by simpa using hu)
                  · split at hu
                    · exact c3 _ u (by simpa using hu)
                    · exact h5 j u (by simpa using hu)⟩, h6⟩
              exact end_skip hR hd hk hrun s1 s2 h
            | ptrDead _ _ _ e' => rw [h1] at e'; cases e'
          | _ => rw [hp'] at hp; cases hp <;> (rename_i e' _; rw [h1] at e'; cases e')
      · cases hH
    · rename_i id ver row col e
      split at hH
      · rename_i sz ver' rs hid
        split at hH
        case isFalse => cases hH
        case isTrue ev =>
        subst ev
        cases hrow : rs[row]? with
        | none => rw [hrow] at hH; cases hH
        | some r =>
          rw [hrow] at hH
          simp only at hH
          cases hsp : splice r col (st.get mv).cells with
          | none => rw [hsp] at hH; cases hH
          | some r' =>
            rw [hsp] at hH
            cases hH
            obtain ⟨hs1, hs2⟩ := splice_spec hsp hne
            have hidl : id < st.H.length := by
              rcases Nat.lt_or_ge id st.H.length with h' | h'
              · exact h'
              · rw [List.getElem?_eq_none h'] at hid; cases hid
            have hrl : row < rs.length := by
              rcases Nat.lt_or_ge row rs.length with h' | h'
              · exact h'
              · rw [List.getElem?_eq_none h'] at hrow; cases hrow
            obtain ⟨h1, g1, g2⟩ := hR.mem.obj id _ hid
            rcases h1 with ⟨_, h1⟩ | ⟨b, tot, ty, vs, h1, h2, h3, h4, h5, h6, h7⟩
            · subst h1; simp at hrow
            · have hr : r.length = sz := h5 r (List.mem_of_getElem? hrow)
              have h8 : (row + 1) * sz ≤ tot * sz := Nat.mul_le_mul_right _ (by omega)
              rw [Nat.add_mul] at h8
              have hp := hR.arg hx
              rw [e] at hp
              cases hp' : a.eval x with
              | pointer p =>
                rw [hp'] at hp
                cases hp with
                | ep _ _ _ _ b' sz' tot' e' =>
                  rw [h1] at e'; cases e'
                  have hb3 : row * sz + col + (a.eval v).cells.toList.length ≤ vs.size := by rw [hlen]; omega
                  have hrun := run b (row * sz + col) vs ty hp' h2 hb3
                  obtain ⟨s1, s2⟩ := hR.mem.write (w' := w.setRow b (vs.toList.take (row * sz + col) ++ (a.eval v).cells.toList ++ vs.toList.drop (row * sz + col + (a.eval v).cells.toList.length)).toArray) id ver b sz tot (.rows sz ver (rs.set row r')) hidl h1 rfl rfl rfl (size_setRow' _ _ _) (fun k hk' => setRow_other _ _ _ _ hk')
                    ⟨.inr ⟨b, tot, ty, _, h1, setRow_heap w b vs _ ty _ h2, by simp; omega, by simpa using h4, fun q hq => by
                        rcases List.mem_or_eq_of_mem_set hq with hq | rfl
                        · exact h5 q hq
                        · rw [hs2]; simp; omega,
                      fun i q j c u hi hj hu => by
                        simp only [List.getElem?_toArray] at hu
                        rw [getElem?_over _ _ _ _ (by simpa using hb3), hlen] at hu
                        by_cases hir : i = row
                        · subst hir
                          rw [List.getElem?_set_self hrl] at hi
                          cases hi
                          rw [hs2, getElem?_over _ _ _ _ hs1] at hj
                          split at hj
                          · rename_i hlt
                            rw [if_pos (by omega)] at hu
                            exact h6 i r j c u hrow hj (by simpa using hu)
                          · rename_i hlt
                            rw [if_neg (by omega)] at hu
                            split at hj
                            · rename_i hlt2
                              rw [if_pos (by omega)] at hu
                              exact c2 _ c u hj (by rw [show i * sz + j - (i * sz + col) = j - col by omega] at hu; simpa using hu)
                            · rename_i hlt2
                              rw [if_neg (by omega)] at hu
                              exact h6 i r j c u hrow hj (by simpa using hu)
                        · rw [List.getElem?_set_ne (Ne.symm hir)] at hi
                          have hq : q.length = sz := h5 q (List.mem_of_getElem? hi)
                          have hjl : j < q.length := by
                            rcases Nat.lt_or_ge j q.length with h' | h'
                            · exact h'
                            · rw [List.getElem?_eq_none h'] at hj; cases hj
                          have hout : ¬ (row * sz + col ≤ i * sz + j ∧ i * sz + j < row * sz + col + (st.get mv).cells.length) := by
                            rintro ⟨q1, q2⟩
                            rcases Nat.lt_or_gt_of_ne hir with hl | hl
                            · have := Nat.mul_le_mul_right sz hl; rw [Nat.succ_mul] at this; omega
                            · have := Nat.mul_le_mul_right sz hl; rw [Nat.succ_mul] at this; omega
                          have hu' : vs.toList[i * sz + j]? = some u := by
                            split at hu
                            · exact hu
                            · rename_i q1
                              split at hu
                              · rename_i q2; exact (hout ⟨by omega, q2⟩).elim
                              · exact hu
                          exact h6 i q j c u hi hj (by simpa using hu'),
                      fun j u hu => by
                        simp only [List.getElem?_toArray] at hu
                        rw [getElem?_over _ _ _ _ (by simpa using hb3)] at hu
                        split at hu
                        · exact h7 j u (by simpa using hu)
                        · split at hu
                          · exact c3 _ u (by simpa using hu)
                          · exact h7 j u (by simpa using hu)⟩, g1, g2⟩
                  exact end_skip hR hd hk hrun s1 s2 h
                | epDead _ _ _ _ _ e' => rw [h1] at e'; cases e'
              | _ => rw [hp'] at hp; cases hp <;> (rename_i e' _; rw [h1] at e'; cases e')
      · cases hH
    · cases hH
end Go.AM
