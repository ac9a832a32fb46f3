/- Texts Am8 Am9 Am10 Am11 Am12 Am13 Am14, merged. -/
import Derived.Test.YtiehnbbbhcaacaaGreatDoorKAMA
import Derived.Laws.BytesArg
import Derived.ChangeKeysEq
set_option linter.all false
namespace Go.AM
variable {lv:List Nat} {P:Program} {N:Nat} {o:Oper} {st:St} {K:St->Prop} {θ:Th} {W:Im}
theorem getElem?_over {α:Type} (vs us:List α) (s k:Nat) (h:s+us.length<=vs.length) :
  (vs.take s++us++vs.drop (s+us.length))[k]?=if k<s then vs[k]? else if k<s+us.length then us[k - s]? else vs[k]?:=by
 rw [List.append_assoc]
 by_cases h1:k<s
 ·rw [if_pos h1,List.getElem?_append_left (by simp; omega),List.getElem?_take,if_pos h1]
 ·rw [if_neg h1,List.getElem?_append_right (by simp; omega)]
  have:(vs.take s).length=s:=by simp; omega
  rw [this]
  by_cases h2:k<s+us.length
  ·rw [if_pos h2,List.getElem?_append_left (by omega)]
  ·rw [if_neg h2,List.getElem?_append_right (by omega),List.getElem?_drop]
   congr 1
   omega
theorem splice_spec {cs us cs' : List AV} {off : Nat} (h : splice cs off us = some cs') (hu : us ≠ []) :
    off + us.length ≤ cs.length ∧ cs' = cs.take off ++ us ++ cs.drop (off + us.length) := by
  induction cs generalizing off us cs' with
  | nil =>
    cases us with
    | nil => exact (hu rfl).elim
    | cons u us => cases off <;> cases h
  | cons c cs ih =>
    cases us with
    | nil => exact (hu rfl).elim
    | cons u us =>
      cases off with
      | zero =>
        simp only [splice] at h
        cases us with
        | nil =>
          rw [splice_nil] at h
          cases h
          simp
        | cons u' us =>
          cases hs : splice cs 0 (u' :: us) with
          | none => rw [hs] at h; cases h
          | some ds =>
            rw [hs] at h
            cases h
            obtain ⟨h1, h2⟩ := ih hs (by simp)
            refine ⟨by simp at h1 ⊢; omega, ?_⟩
            rw [h2]
            simp
      | succ off =>
        simp only [splice] at h
        cases hs : splice cs off (u :: us) with
        | none => rw [hs] at h; cases h
        | some ds =>
          rw [hs] at h
          cases h
          obtain ⟨h1, h2⟩ := ih hs (by simp)
          refine ⟨by simp at h1 ⊢; omega, ?_⟩
          rw [h2]
          simp [Nat.succ_add]
theorem size_setRow' (w:World) (g:Nat) (cs:Array Value):(w.setRow g cs).heap.size=w.heap.size:=by simp [World.setRow]
theorem ok_sto {t : TypeId} {n : Nat} {x v : Operand} {mx mv : MA} (ho : o.op = .store t x v) (hx : cArg lv x = some mx) (hv : cArg lv v = some mv) (hn : sizeT P t = some n) (hn0 : 0 < n)
    (hd : o.dst.all (decide <| · < N) = true) (h : withH (stoH st.H n (st.get mx) (st.get mv)) (cDst lv o.dst) K st) : OpOk lv P N o st K := by
  intro a w θ W next Q hR hk
  cases hH : stoH st.H n (st.get mx) (st.get mv) with
  | none => rw [hH] at h; exact h.elim
  | some H' =>
    rw [hH] at h
    unfold stoH at hH
    split at hH
    case isFalse => cases hH
    case isTrue hc =>
    simp only [Bool.and_eq_true, beq_iff_eq] at hc
    obtain ⟨c1, c2, c3⟩ := cells_rel (hR.arg hv) hc.1
    have hne : (st.get mv).cells ≠ [] := fun e => by rw [e] at hc; simp at hc; omega
    obtain ⟨i, hi, hsz⟩ : ∃ i, P.info? t = some i ∧ i.size = n := by
      simp only [sizeT] at hn
      cases hi : P.info? t with
      | none => rw [hi] at hn; cases hn
      | some i => rw [hi] at hn; cases hn; exact ⟨i, rfl, rfl⟩
    have hcs : (a.eval v).cells.size = i.size := by rw [c1, hc.2, hsz]
    have hlen : (a.eval v).cells.toList.length = (st.get mv).cells.length := by simpa using c1
    have run : ∀ (b off : Nat) (vs : Array Value) (ty : TypeId), a.eval x = .pointer (some ⟨b, off, none⟩) → w.heap[b]? = some (.cells vs ty (0, 0)) → off + (a.eval v).cells.toList.length ≤ vs.size →
        (execOp a.eval o).run P w = .ok .skip (w.setRow b (vs.toList.take off ++ (a.eval v).cells.toList ++ vs.toList.drop (off + (a.eval v).cells.toList.length)).toArray) := by
      intro b off vs ty hb1 hb2 hb3
      have hst := run_storeCells_at P b off ty (a.eval v).cells.toList 0 vs w hb2 (by simpa using hb3) (fun u hu => by
        obtain ⟨j, hj⟩ := List.getElem?_of_mem hu
        exact c3 j u (by simpa using hj))
      simp only [Nat.add_zero] at hst
      simp [execOp, ho, hb1, Instr.storeAt, Instr.sureAddr, storeVar, sizeOf, typeInfo, hi, hcs, hst]
    split at hH
    · rename_i id off e
      split at hH
      · rename_i cs hid
        cases hsp : splice cs off (st.get mv).cells with
        | none => rw [hsp] at hH; cases hH
        | some cs' =>
          rw [hsp] at hH
          cases hH
          obtain ⟨hs1, hs2⟩ := splice_spec hsp hne
          have hidl : id < st.H.length := by
            rcases Nat.lt_or_ge id st.H.length with h' | h'
            · exact h'
            · rw [List.getElem?_eq_none h'] at hid; cases hid
          obtain ⟨⟨b, sz, tot, ty, vs, h1, h2, h3, h4, h5⟩, h6⟩ := hR.mem.obj id _ hid
          have hp := hR.arg hx
          rw [e] at hp
          cases hp' : a.eval x with
          | pointer p =>
            rw [hp'] at hp
            cases hp with
            | ptr _ _ b' sz' tot' e' =>
              rw [h1] at e'; cases e'
              have hb3 : off + (a.eval v).cells.toList.length ≤ vs.size := by rw [hlen]; omega
              have hrun := run b off vs ty hp' h2 hb3
              obtain ⟨s1, s2⟩ := hR.mem.write (w' := w.setRow b (vs.toList.take off ++ (a.eval v).cells.toList ++ vs.toList.drop (off + (a.eval v).cells.toList.length)).toArray) id 0 b sz tot (.var cs') hidl h1 rfl rfl rfl (size_setRow' _ _ _) (fun k hk' => setRow_other _ _ _ _ hk')
                ⟨⟨b, sz, tot, ty, _, h1, setRow_heap w b vs _ ty _ h2, by rw [hs2]; simp; omega, fun j c u hj hu => by
                  rw [hs2, getElem?_over _ _ _ _ hs1] at hj
                  simp only [List.getElem?_toArray] at hu
                  rw [getElem?_over _ _ _ _ (by simpa using hb3), hlen] at hu
                  split at hj
                  · rename_i hlt; rw [if_pos hlt] at hu; exact h4 j c u hj (by simpa using hu)
                  · rename_i hlt; rw [if_neg hlt] at hu
                    split at hj
                    · rename_i hlt2; rw [if_pos hlt2] at hu; exact c2 _ c u hj (by simpa using hu)
                    · rename_i hlt2; rw [if_neg hlt2] at hu; exact h4 j c u hj (by simpa using hu), fun j u hu => by
                  simp only [List.getElem?_toArray] at hu
                  rw [getElem?_over _ _ _ _ (by simpa using hb3)] at hu
                  split at hu
                  · exact h5 j u (by simpa using hu)
                  · split at hu
                    · exact c3 _ u (by simpa using hu)
                    · exact h5 j u (by simpa using hu)⟩, h6⟩
              exact end_skip hR hd hk hrun s1 s2 h
            | ptrDead _ _ _ e' => rw [h1] at e'; cases e'
          | _ => rw [hp'] at hp; cases hp <;> (rename_i e' _; rw [h1] at e'; cases e')
      · cases hH
    · rename_i id ver row col e
      split at hH
      · rename_i sz ver' rs hid
        split at hH
        case isFalse => cases hH
        case isTrue ev =>
        subst ev
        cases hrow : rs[row]? with
        | none => rw [hrow] at hH; cases hH
        | some r =>
          rw [hrow] at hH
          simp only at hH
          cases hsp : splice r col (st.get mv).cells with
          | none => rw [hsp] at hH; cases hH
          | some r' =>
            rw [hsp] at hH
            cases hH
            obtain ⟨hs1, hs2⟩ := splice_spec hsp hne
            have hidl : id < st.H.length := by
              rcases Nat.lt_or_ge id st.H.length with h' | h'
              · exact h'
              · rw [List.getElem?_eq_none h'] at hid; cases hid
            have hrl : row < rs.length := by
              rcases Nat.lt_or_ge row rs.length with h' | h'
              · exact h'
              · rw [List.getElem?_eq_none h'] at hrow; cases hrow
            obtain ⟨h1, g1, g2⟩ := hR.mem.obj id _ hid
            rcases h1 with ⟨_, h1⟩ | ⟨b, tot, ty, vs, h1, h2, h3, h4, h5, h6, h7⟩
            · subst h1; simp at hrow
            · have hr : r.length = sz := h5 r (List.mem_of_getElem? hrow)
              have h8 : (row + 1) * sz ≤ tot * sz := Nat.mul_le_mul_right _ (by omega)
              rw [Nat.add_mul] at h8
              have hp := hR.arg hx
              rw [e] at hp
              cases hp' : a.eval x with
              | pointer p =>
                rw [hp'] at hp
                cases hp with
                | ep _ _ _ _ b' sz' tot' e' =>
                  rw [h1] at e'; cases e'
                  have hb3 : row * sz + col + (a.eval v).cells.toList.length ≤ vs.size := by rw [hlen]; omega
                  have hrun := run b (row * sz + col) vs ty hp' h2 hb3
                  obtain ⟨s1, s2⟩ := hR.mem.write (w' := w.setRow b (vs.toList.take (row * sz + col) ++ (a.eval v).cells.toList ++ vs.toList.drop (row * sz + col + (a.eval v).cells.toList.length)).toArray) id ver b sz tot (.rows sz ver (rs.set row r')) hidl h1 rfl rfl rfl (size_setRow' _ _ _) (fun k hk' => setRow_other _ _ _ _ hk')
                    ⟨.inr ⟨b, tot, ty, _, h1, setRow_heap w b vs _ ty _ h2, by simp; omega, by simpa using h4, fun q hq => by
                        rcases List.mem_or_eq_of_mem_set hq with hq | rfl
                        · exact h5 q hq
                        · rw [hs2]; simp; omega,
                      fun i q j c u hi hj hu => by
                        simp only [List.getElem?_toArray] at hu
                        rw [getElem?_over _ _ _ _ (by simpa using hb3), hlen] at hu
                        by_cases hir : i = row
                        · subst hir
                          rw [List.getElem?_set_self hrl] at hi
                          cases hi
                          rw [hs2, getElem?_over _ _ _ _ hs1] at hj
                          split at hj
                          · rename_i hlt
                            rw [if_pos (by omega)] at hu
                            exact h6 i r j c u hrow hj (by simpa using hu)
                          · rename_i hlt
                            rw [if_neg (by omega)] at hu
                            split at hj
                            · rename_i hlt2
                              rw [if_pos (by omega)] at hu
                              exact c2 _ c u hj (by rw [show i * sz + j - (i * sz + col) = j - col by omega] at hu; simpa using hu)
                            · rename_i hlt2
                              rw [if_neg (by omega)] at hu
                              exact h6 i r j c u hrow hj (by simpa using hu)
                        · rw [List.getElem?_set_ne (Ne.symm hir)] at hi
                          have hq : q.length = sz := h5 q (List.mem_of_getElem? hi)
                          have hjl : j < q.length := by
                            rcases Nat.lt_or_ge j q.length with h' | h'
                            · exact h'
                            · rw [List.getElem?_eq_none h'] at hj; cases hj
                          have hout : ¬ (row * sz + col ≤ i * sz + j ∧ i * sz + j < row * sz + col + (st.get mv).cells.length) := by
                            rintro ⟨q1, q2⟩
                            rcases Nat.lt_or_gt_of_ne hir with hl | hl
                            · have := Nat.mul_le_mul_right sz hl; rw [Nat.succ_mul] at this; omega
                            · have := Nat.mul_le_mul_right sz hl; rw [Nat.succ_mul] at this; omega
                          have hu' : vs.toList[i * sz + j]? = some u := by
                            split at hu
                            · exact hu
                            · rename_i q1
                              split at hu
                              · rename_i q2; exact (hout ⟨by omega, q2⟩).elim
                              · exact hu
                          exact h6 i q j c u hi hj (by simpa using hu'),
                      fun j u hu => by
                        simp only [List.getElem?_toArray] at hu
                        rw [getElem?_over _ _ _ _ (by simpa using hb3)] at hu
                        split at hu
                        · exact h7 j u (by simpa using hu)
                        · split at hu
                          · exact c3 _ u (by simpa using hu)
                          · exact h7 j u (by simpa using hu)⟩, g1, g2⟩
                  exact end_skip hR hd hk hrun s1 s2 h
                | epDead _ _ _ _ _ e' => rw [h1] at e'; cases e'
              | _ => rw [hp'] at hp; cases hp <;> (rename_i e' _; rw [h1] at e'; cases e')
      · cases hH
    · cases hH
end Go.AM
set_option linter.all false
namespace Go.AM
variable {lv:List Nat} {P:Program} {N:Nat} {o:Oper} {st:St} {K:St->Prop} {θ:Th} {W:Im}
theorem sizeT_inv {t:TypeId} {n:Nat} (h:sizeT P t=some n):∃ i,P.info? t=some i/\i.size=n:=by
 simp only [sizeT] at h
 cases hi:P.info? t with
 | none=>rw [hi] at h; cases h
 | some i=>rw [hi] at h; cases h; exact ⟨i,rfl,rfl⟩
theorem ok_nilc {x : Operand} {m : MA} (ho : o.op = .nilCheck x) (hx : cArg lv x = some m)
    (hd : o.dst.all (decide <| · < N) = true) (h : withV (nilcV (st.get m)) (cDst lv o.dst) K st) : OpOk lv P N o st K := by
  intro a w θ W next Q hR hk
  obtain ⟨y, hy, hK⟩ := withV_inv h
  have h1 := hR.arg hx
  unfold nilcV at hy
  split at hy
  · rename_i id off e
    cases hy
    rw [e] at h1
    refine end_same hR hd hk (v := a.eval x) ?_ h1 hK
    cases hv : a.eval x with
    | pointer p =>
      rw [hv] at h1
      cases h1 <;> simp [execOp, ho, hv]
    | _ => rw [hv] at h1; cases h1
  · rename_i id ver row col e
    cases hy
    rw [e] at h1
    refine end_same hR hd hk (v := a.eval x) ?_ h1 hK
    cases hv : a.eval x with
    | pointer p =>
      rw [hv] at h1
      cases h1 <;> simp [execOp, ho, hv]
    | _ => rw [hv] at h1; cases h1
  · rename_i f c e
    cases hy
    rw [e] at h1
    refine end_same hR hd hk (v := a.eval x) ?_ h1 hK
    cases hv : a.eval x with
    | func fn f1 cs =>
      rw [hv] at h1
      cases h1
      simp [execOp, ho, hv]
    | _ => rw [hv] at h1; cases h1
  · cases hy
theorem ok_fad {s : TypeId} {f off n : Nat} {t : TypeId} {x : Operand} {m : MA} (ho : o.op = .fieldAddr s x f) (hx : cArg lv x = some m) (hf : fieldOf P s f = some (off, t, n)) (hn : 0 < n)
    (hd : o.dst.all (decide <| · < N) = true) (h : withV (fadV off (st.get m)) (cDst lv o.dst) K st) : OpOk lv P N o st K := by
  intro a w θ W next Q hR hk
  obtain ⟨y, hy, hK⟩ := withV_inv h
  have h1 := hR.arg hx
  unfold fieldOf at hf
  split at hf
  · rename_i fs hs
    split at hf
    · rename_i fd hfd
      cases hz : sizeT P fd.type with
      | none => rw [hz] at hf; cases hf
      | some n' =>
        rw [hz] at hf
        cases hf
        obtain ⟨i, hi, rfl⟩ := sizeT_inv hz
        have run : ∀ ad : Addr, a.eval x = .pointer (some ad) → (execOp a.eval o).run P w = .ok (.value (.pointer (some (ad.add fd.offset)))) w := by
          intro ad e
          have hne : ¬ i.size = 0 := by omega
          simp [execOp, ho, Instr.fieldAt, run_underlying hs, hfd, e, Instr.sureAddr, fieldPlace, sizeOf, typeInfo, hi, hne]
        unfold fadV at hy
        split at hy
        · rename_i id o' e
          cases hy
          rw [e] at h1
          generalize hv : a.eval x = v at h1
          cases h1 with
          | ptr _ _ b sz tot h => exact end_same hR hd hk (run _ hv) (by rw [Addr.add_lit]; exact .ptr _ _ b sz tot h) hK
          | ptrDead _ _ ad h => exact end_same hR hd hk (run _ hv) (.ptrDead _ _ _ h) hK
        · rename_i id ver row col e
          cases hy
          rw [e] at h1
          generalize hv : a.eval x = v at h1
          cases h1 with
          | ep _ _ _ _ b sz tot h => exact end_same hR hd hk (run _ hv) (by rw [Addr.add_lit, Nat.add_assoc]; exact .ep _ _ _ _ b sz tot h) hK
          | epDead _ _ _ _ ad h => exact end_same hR hd hk (run _ hv) (.epDead _ _ _ _ _ h) hK
        · rename_i row e
          cases hy
          rw [e] at h1
          generalize hv : a.eval x = v at h1
          cases h1 with
          | ip _ b o' f hc hr =>
            refine end_same hR hd hk (run _ hv) ?_ hK
            rw [Addr.add_lit]
            exact .ip _ b _ (fun j => f (fd.offset + j)) (fun j q hj => by rw [Nat.add_assoc]; exact hc _ q (by simpa using hj)) (fun j q hj => hr _ q (by simpa using hj))
        · cases hy
    · cases hf
  · cases hf
theorem beq_dec {α:Type} [DecidableEq α] [BEq α] [LawfulBEq α] (x y:α):(x == y)=decide (x=y):=by by_cases h:x=y <;> simp [h]
theorem run_ibin {op:BinOp} {k:IntKind} {x y:Int} {r:PV} (h:iarith op k x y=some r) (W:Im) (t:TypeId) (w:World):∃ v,(binOp op t (.int k x) (.int k y)).run P w=.ok v w/\PRel W r v:=by
 cases op <;> simp [iarith,bcmp] at h <;> subst h
 case add=>exact ⟨_,by simp [binOp,Op.intArith]; rfl,.i _ _⟩
 case sub=>exact ⟨_,by simp [binOp,Op.intArith]; rfl,.i _ _⟩
 case mul=>exact ⟨_,by simp [binOp,Op.intArith]; rfl,.i _ _⟩
 case and=>exact ⟨_,by simp [binOp,Op.intBits]; rfl,.i _ _⟩
 case or=>exact ⟨_,by simp [binOp,Op.intBits]; rfl,.i _ _⟩
 case xor=>exact ⟨_,by simp [binOp,Op.intBits]; rfl,.i _ _⟩
 case andNot =>
  refine ⟨.int k (ibits .andNot k x y),?_,.i _ _⟩
  show (if k≠k then (stuck "BinOp: operands of different kinds":Sem Value) else Op.intBits .andNot k x y).run P w=_
  rw [if_neg (fun h=>h rfl)]
  rfl
 case eql=>exact ⟨.bool (decide (x=y)),by simp [binOp,Op.intCmp,beq_dec],.b _⟩
 case neq=>exact ⟨.bool (!decide (x=y)),by simp [binOp,Op.intCmp,bne,beq_dec],.b _⟩
 case lss=>exact ⟨.bool (decide (x<y)),by simp [binOp,Op.intCmp],.b _⟩
 case leq=>exact ⟨.bool (decide (x<=y)),by simp [binOp,Op.intCmp],.b _⟩
 case gtr=>exact ⟨.bool (decide (y<x)),by simp [binOp,Op.intCmp],.b _⟩
 case geq=>exact ⟨.bool (decide (y<=x)),by simp [binOp,Op.intCmp],.b _⟩
theorem mk_toList (x:List UInt8):(ByteArray.mk x.toArray).toList=x:=by rw [ByteArray.toList_eq]
theorem run_sbin {op:BinOp} {x y:List UInt8} {r:PV} (h:seqs op x y=some r) (W:Im) (t:TypeId) (w:World):∃ v,(binOp op t (.string ⟨x.toArray⟩) (.string ⟨y.toArray⟩)).run P w=.ok v w/\PRel W r v:=by
 cases op <;> simp [seqs] at h <;> subst h
 case eql=>exact ⟨.bool (decide (x=y)),by simp [binOp,Op.stringOp,mk_toList,beq_dec],.b _⟩
 case neq=>exact ⟨.bool (!decide (x=y)),by simp [binOp,Op.stringOp,mk_toList,beq_dec],.b _⟩
 case lss=>exact ⟨.bool (slt x y),by simp [binOp,Op.stringOp,mk_toList,slt],.b _⟩
 case leq=>exact ⟨.bool (slt x y || decide (x=y)),by simp [binOp,Op.stringOp,mk_toList,slt,beq_dec],.b _⟩
 case gtr=>exact ⟨.bool (!slt x y && !decide (x=y)),by simp [binOp,Op.stringOp,mk_toList,slt,beq_dec],.b _⟩
 case geq=>exact ⟨.bool (!slt x y),by simp [binOp,Op.stringOp,mk_toList,slt],.b _⟩
theorem eqGuard_plain (op:BinOp) (t:TypeId) (x y:Operand) (a b:Value) (h1:a≠.nilIface) (h2:∀ cs,a≠.agg cs) (w:World):(eqGuard op t x y a b).run P w=.ok () w:=by
 unfold eqGuard
 cases a <;> first | (exact (h1 rfl).elim) | (exact (h2 _ rfl).elim) | (cases op <;> cases b <;> rfl)
theorem ok_bin {op : BinOp} {t u : TypeId} {x y : Operand} {mx my : MA} (ho : o.op = .binOp op t x y u) (hx : cArg lv x = some mx) (hy : cArg lv y = some my)
    (hd : o.dst.all (decide <| · < N) = true) (h : binK op (st.get mx) (st.get my) (cDst lv o.dst) K st) : OpOk lv P N o st K := by
  intro a w θ W next Q hR hk
  have h1 := hR.arg hx
  have h2 := hR.arg hy
  have run : ∀ v, a.eval x ≠ .nilIface → (∀ cs, a.eval x ≠ .agg cs) → (binOp op t (a.eval x) (a.eval y)).run P w = .ok v w → (execOp a.eval o).run P w = .ok (.value v) w := by
    intro v e1 e2 e3
    simp [execOp, ho, eqGuard_plain op t x y _ _ e1 e2, e3]
  unfold binK at h
  split at h
  · rename_i v hv
    have hK := h
    unfold ebin at hv
    split at hv
    · rename_i k p k' q e1 e2
      rw [e1] at h1; rw [e2] at h2
      split at hv
      · rename_i e; subst e
        cases hi : iarith op k p q with
        | none => rw [hi] at hv; cases hv
        | some r =>
          rw [hi] at hv
          cases hv
          have e3 := h1.i_inv
          have e4 := h2.i_inv
          obtain ⟨v, hr, hrel⟩ := run_ibin (P := P) hi W t w
          exact end_same hR hd hk (run v (by rw [e3]; simp) (by rw [e3]; simp) (by rw [e3, e4]; exact hr)) (.p _ _ hrel) hK
      · cases hv
    · rename_i p q e1 e2
      rw [e1] at h1; rw [e2] at h2
      cases hi : seqs op p q with
      | none => rw [hi] at hv; cases hv
      | some r =>
        rw [hi] at hv
        cases hv
        obtain ⟨e3, _⟩ := h1.s_inv
        obtain ⟨e4, _⟩ := h2.s_inv
        obtain ⟨v, hr, hrel⟩ := run_sbin (P := P) hi W t w
        exact end_same hR hd hk (run v (by rw [e3]; simp) (by rw [e3]; simp) (by rw [e3, e4]; exact hr)) (.p _ _ hrel) hK
    · cases hv
  · unfold bin2K at h
    split at h
    · rename_i p q e1 e2 _
      rw [e1] at h1; rw [e2] at h2
      obtain ⟨e3, l3⟩ := h1.s_inv
      obtain ⟨e4, l4⟩ := h2.s_inv
      refine end_same hR hd hk (run (.string ⟨(p ++ q).toArray⟩) (by rw [e3]; simp) (by rw [e3]; simp) ?_) (.p _ _ (.s _ (by simpa using h.1))) h.2
      have hs : (ByteArray.mk p.toArray).size + (ByteArray.mk q.toArray).size ≤ 9223372036854775807 := by
        show p.toArray.size + q.toArray.size ≤ _
        simp only [List.size_toArray]
        have := h.1
        unfold maxL at this
        omega
      have hj : (ByteArray.mk p.toArray ++ ByteArray.mk q.toArray) = ⟨(p ++ q).toArray⟩ := by
        apply ByteArray.ext
        simp
      rw [e3, e4, binOp_string_add, run_string_add_sum _ _ _ hs, hj]
    · rename_i k p k' q e1 e2 _
      rw [e1] at h1; rw [e2] at h2
      obtain ⟨rfl, hq, hK⟩ := h
      have e3 := h1.i_inv
      have e4 := h2.i_inv
      refine end_same hR hd hk (run _ (by rw [e3]; simp) (by rw [e3]; simp) ?_) (.p _ _ (.i _ _)) hK
      rw [e3, e4]
      simp [binOp, Op.intDiv, hq, wr]
    · rename_i k p k' q e1 e2 _
      rw [e1] at h1; rw [e2] at h2
      obtain ⟨rfl, hq, hK⟩ := h
      have e3 := h1.i_inv
      have e4 := h2.i_inv
      refine end_same hR hd hk (run _ (by rw [e3]; simp) (by rw [e3]; simp) ?_) (.p _ _ (.i _ _)) hK
      rw [e3, e4]
      simp [binOp, Op.intDiv, hq]
    · rename_i k p k' q e1 e2 _
      rw [e1] at h1; rw [e2] at h2
      obtain ⟨hq, hK⟩ := h
      have e3 := h1.i_inv
      have e4 := h2.i_inv
      refine end_same hR hd hk (run _ (by rw [e3]; simp) (by rw [e3]; simp) ?_) (.p _ _ (.i _ _)) hK
      rw [e3, e4]
      have hq' : ¬ q < 0 := by omega
      simp [binOp, Op.shift, hq', wr]
    · rename_i k p k' q e1 e2 _
      rw [e1] at h1; rw [e2] at h2
      obtain ⟨hq, hK⟩ := h
      have e3 := h1.i_inv
      have e4 := h2.i_inv
      refine end_same hR hd hk (run _ (by rw [e3]; simp) (by rw [e3]; simp) ?_) (.p _ _ (.i _ _)) hK
      rw [e3, e4]
      have hq' : ¬ q < 0 := by omega
      simp [binOp, Op.shift, hq']
    · exact h.elim
theorem equalIn_bool (d:Nat) {t:TypeId} (ht:P.underlying t=some .bool) (p q:Bool) (w:World):(Op.equalIn (d+1) t (.bool p) (.bool q)).run P w=.ok (p == q) w:=by
 simp only [Op.equalIn,Sem.run_bind,run_underlying ht,Result.andThen_ok]
 rfl
theorem ok_beq {ne:Bool} {t u:TypeId} {x y:Operand} {mx my:MA} (ho:o.op=.binOp (if ne then .neq else .eql) t x y u) (ht:P.underlying t=some .bool) (hx:cArg lv x=some mx) (hy:cArg lv y=some my)
  (hd:o.dst.all (decide <| ·<N)=true) (h:withV (beqV ne (st.get mx) (st.get my)) (cDst lv o.dst) K st):OpOk lv P N o st K:=by
 intro a w θ W next Q hR hk
 have h1:=hR.arg hx
 have h2:=hR.arg hy
 obtain ⟨v,hv,hK⟩:=withV_inv h
 unfold beqV at hv
 split at hv
 ·rename_i p q e1 e2
  cases hv
  rw [e1] at h1; rw [e2] at h2
  have e3:=h1.b_inv
  have e4:=h2.b_inv
  refine end_same hR hd hk (v:=.bool (if ne=true then !(p == q) else (p == q))) ?_ (.p _ _ (.b _)) hK
  have hg:=eqGuard_plain (P:=P) (if ne then .neq else .eql) t x y (a.eval x) (a.eval y) (by rw [e3]; simp) (by rw [e3]; simp) w
  have he:(Op.equal t (.bool p) (.bool q)).run P w=.ok (p == q) w:=by
   exact equalIn_bool 9999 ht p q w
  cases ne
  ·simp only [Bool.false_eq_true,if_false] at hg ho ⊢
   simp [execOp,ho,hg]
   rw [e3,e4]
   simp [binOp,he]
  ·simp only [if_true] at hg ho ⊢
   simp [execOp,ho,hg]
   rw [e3,e4]
   simp [binOp,he]
 ·cases hv
theorem sqC_inv {W : Im} {θ : Th} (xs ys : Array Value) (d : Nat) (w : World) : ∀ (fs : List Field) (i : Nat) (cs ds : List AV) (b : Bool), plainFs P i fs = true → fs.length = cs.length → sqC cs ds = some b →
    (∀ (j : Nat) c, cs[j]? = some c → ∃ v, xs[i + j]? = some v ∧ ARel θ W c v) → (∀ (j : Nat) c, ds[j]? = some c → ∃ v, ys[i + j]? = some v ∧ ARel θ W c v) →
    (Op.eqFields (d + 1) xs ys fs).run P w = .ok b w
  | [], _, cs, ds, b, _, hl, hb, _, _ => by
    cases cs with
    | nil =>
      cases ds with
      | nil => simp only [sqC, Option.some.injEq] at hb; subst hb; simp [Op.eqFields]
      | cons _ _ => simp [sqC] at hb
    | cons _ _ => simp at hl
  | f :: fs, i, cs, ds, b, hp, hl, hb, hx, hy => by
    cases cs with
    | nil => simp at hl
    | cons c cs =>
      cases ds with
      | nil =>
        cases c with
        | p q => cases q <;> simp [sqC] at hb
        | _ => simp [sqC] at hb
      | cons e ds =>
        unfold sqC at hb
        split at hb
        · rename_i h1 h2; cases h1
        · rename_i k a xs' k' a' ys' h1 h2
          cases h1; cases h2
          split at hb
          · rename_i hk
            subst hk
            simp only [Option.map_eq_some_iff] at hb
            obtain ⟨b', hb', rfl⟩ := hb
            simp only [plainFs, Bool.and_eq_true, beq_iff_eq, bne_iff_ne, ne_eq] at hp
            obtain ⟨⟨⟨⟨ho, hn⟩, hpk⟩, hu⟩, hp'⟩ := hp
            obtain ⟨v, hv, hrv⟩ := hx 0 _ rfl
            obtain ⟨u, hu', hru⟩ := hy 0 _ rfl
            have ev := hrv.i_inv
            have eu := hru.i_inv
            subst ev; subst eu
            rw [Nat.add_zero, ← ho] at hv hu'
            have ih := sqC_inv (W := W) (θ := θ) xs ys d w fs (i + 1) cs ds b' hp' (by simpa using hl) hb' (fun j c hj => by have := hx (j + 1) c (by simpa using hj); rw [show i + 1 + j = i + (j + 1) by omega]; exact this) (fun j c hj => by have := hy (j + 1) c (by simpa using hj); rw [show i + 1 + j = i + (j + 1) by omega]; exact this)
            split at hu
            · rename_i kk hk'
              simp only [Op.eqFields, hn, not_false_eq_true, if_true, ne_eq]
              simp only [Sem.run_bind, run_part_plain w hpk hv, run_part_plain w hpk hu', Result.andThen_ok, run_equalIn_int w d f.type k kk a a' hk', Sem.run_ite]
              by_cases hab : a = a'
              · subst hab; simp [ih]
              · simp [hab]
            · cases hu
          · cases hb
        · cases hb
theorem ok_sq {ne : Bool} {t u : TypeId} {fs : Array Field} {x y : Operand} {mx my : MA} (ho : o.op = .binOp (if ne then .neq else .eql) t x y u) (ht : P.underlying t = some (.struct fs)) (hp : plainFs P 0 fs.toList = true) (hg1 : P.eqGuardType P.depth t = false) (hg2 : P.stoodInHeld t = false) (hx : cArg lv x = some mx) (hy : cArg lv y = some my)
    (hd : o.dst.all (decide <| · < N) = true) (h : withV (sqV ne fs.toList.length (st.get mx) (st.get my)) (cDst lv o.dst) K st) : OpOk lv P N o st K := by
  intro a w θ W next Q hR hk
  have h1 := hR.arg hx
  have h2 := hR.arg hy
  obtain ⟨v, hv, hK⟩ := withV_inv h
  unfold sqV at hv
  split at hv
  · rename_i cs ds e1 e2
    split at hv
    · rename_i hlen
      simp only [Option.map_eq_some_iff] at hv
      obtain ⟨b, hb, rfl⟩ := hv
      rw [e1] at h1; rw [e2] at h2
      have hst : ∀ {cs : List AV} {v : Value}, ARel θ W (.st cs) v → ∃ vs : Array Value, v = .agg vs ∧ ∀ (j : Nat) c, cs[j]? = some c → ∃ u, vs[0 + j]? = some u ∧ ARel θ W c u := by
        intro cs v h
        cases h with
        | st _ vs hs hc _ =>
          refine ⟨vs, rfl, fun j c hj => ?_⟩
          have hjl : j < vs.size := by rw [hs]; exact (List.getElem?_eq_some_iff.1 hj).1
          rw [Nat.zero_add]
          exact ⟨vs[j], by simp [hjl], hc j c _ hj (by simp [hjl])⟩
      obtain ⟨vs, e3, hvs⟩ := hst h1
      obtain ⟨us, e4, hus⟩ := hst h2
      have hfo : P.fieldsOf t = fs := by unfold Program.fieldsOf; rw [ht]
      have he : (Op.equalIn 10000 t (.agg vs) (.agg us)).run P w = .ok b w := by
        rw [run_equalIn_struct w 9999 t vs us (by rw [hfo]; exact ht) hg2, hfo]
        exact sqC_inv (W := W) (θ := θ) vs us 9998 w fs.toList 0 cs ds b hp hlen.symm hb hvs hus
      refine end_same hR hd hk (v := .bool (if ne = true then !b else b)) ?_ (.p _ _ (.b _)) hK
      have hg := run_eqGuard_agg w (if ne then .neq else .eql) t x y vs us hg1
      cases ne
      · simp only [Bool.false_eq_true, if_false] at hg ho ⊢
        simp [execOp, ho, e3, e4, hg, run_eql_struct, he]
      · simp only [if_true] at hg ho ⊢
        simp [execOp, ho, e3, e4, hg, run_neq_struct, he]
    · cases hv
  · cases hv
theorem equalIn_iface (d:Nat) {t:TypeId} {ms} (ht:P.underlying t=some (.interface ms)) (w:World):(Op.equalIn (d+1) t .nilIface .nilIface).run P w=.ok true w:=by
 simp only [Op.equalIn,Sem.run_bind,run_underlying ht,Result.andThen_ok]
 rfl
theorem equalIn_iface2 (d:Nat) {t:TypeId} {ms} (ht:P.underlying t=some (.interface ms)) (te:TypeId) (pe:Value) (w:World):(Op.equalIn (d+1) t (.iface te pe) .nilIface).run P w=.ok false w:=by
 simp only [Op.equalIn,Sem.run_bind,run_underlying ht,Result.andThen_ok]
 rfl
theorem ok_nii {ne:Bool} {t u:TypeId} {ms} {x y:Operand} {mx:MA} (ho:o.op=.binOp (if ne then .neq else .eql) t x y u) (ht:P.underlying t=some (.interface ms)) (hx:cArg lv x=some mx) (hy:cArg lv y=some (.c (.p .ni)))
  (hd:o.dst.all (decide <| ·<N)=true) (h:withV (niiV ne (st.get mx)) (cDst lv o.dst) K st):OpOk lv P N o st K:=by
 intro a w θ W next Q hR hk
 have h1:=hR.arg hx
 have h2:=hR.arg hy
 obtain ⟨v,hv,hK⟩:=withV_inv h
 unfold niiV at hv
 split at hv
 ·rename_i e1
  cases hv
  rw [e1] at h1
  have e3:a.eval x=.nilIface:=by
   generalize a.eval x=v at h1
   cases h1 with | p _ _ h=>cases h; rfl
  have e4:a.eval y=.nilIface:=by
   change ARel θ W (.p .ni) (a.eval y) at h2
   generalize a.eval y=v at h2
   cases h2 with | p _ _ h=>cases h; rfl
  have hyc:∃ c,y=.const c:=by
   cases y with
   | const c=>exact ⟨c,rfl⟩
   | tmp t=>simp only [cArg,cTmp] at hy; split at hy <;> cases hy
   | func f=>simp only [cArg] at hy; cases hy
   | global g=>simp only [cArg] at hy; cases hy
  obtain ⟨c,rfl⟩:=hyc
  refine end_same hR hd hk (v:=.bool (!ne)) ?_ (.p _ _ (.b _)) hK
  have he:(Op.equal t .nilIface .nilIface).run P w=.ok true w:=equalIn_iface 9999 ht w
  have hg:∀ op,(eqGuard op t x (.const c) .nilIface .nilIface).run P w=.ok () w:=fun op=>by
   unfold eqGuard
   cases op <;> first | rfl | (cases x <;> simp)
  cases ne
  ·simp only [Bool.false_eq_true,if_false] at ho ⊢
   simp [execOp,ho,e3,e4,hg,binOp,he]
  ·simp only [if_true] at ho ⊢
   simp [execOp,ho,e3,e4,hg,binOp,he]
 ·rename_i e1
  cases hv
  rw [e1] at h1
  have e3:∃ te pe,a.eval x=.iface te pe:=by
   generalize a.eval x=v at h1
   cases h1 with | p _ _ h=>cases h; exact ⟨_,_,rfl⟩
  obtain ⟨te,pe,e3⟩:=e3
  have e4:a.eval y=.nilIface:=by
   change ARel θ W (.p .ni) (a.eval y) at h2
   generalize a.eval y=v at h2
   cases h2 with | p _ _ h=>cases h; rfl
  refine end_same hR hd hk (v:=.bool ne) ?_ (.p _ _ (.b _)) hK
  have he:(Op.equal t (.iface te pe) .nilIface).run P w=.ok false w:=equalIn_iface2 9999 ht te pe w
  have hg:∀ op,(eqGuard op t x y (.iface te pe) .nilIface).run P w=.ok () w:=fun op=>by
   unfold eqGuard
   cases op <;> rfl
  cases ne
  ·simp only [Bool.false_eq_true,if_false] at ho ⊢
   simp [execOp,ho,e3,e4,hg,binOp,he]
  ·simp only [if_true] at ho ⊢
   simp [execOp,ho,e3,e4,hg,binOp,he]
 ·cases hv
theorem equalIn_slice (d:Nat) {t e:TypeId} (ht:P.underlying t=some (.slice e)) (a:Option Addr) (n c:Nat) (w:World):(Op.equalIn (d+1) t (.slice a n c) (.slice none 0 0)).run P w=.ok a.isNone w:=by
 simp only [Op.equalIn,Sem.run_bind,run_underlying ht,Result.andThen_ok]
 cases a <;> rfl
theorem equalIn_pointer (d:Nat) {t e:TypeId} (ht:P.underlying t=some (.pointer e)) (a:Option Addr) (w:World):(Op.equalIn (d+1) t (.pointer a) (.pointer none)).run P w=.ok a.isNone w:=by
 simp only [Op.equalIn,Sem.run_bind,run_underlying ht,Result.andThen_ok]
 cases a <;> rfl
theorem ok_nilq_s {ne : Bool} {t u e : TypeId} {x y : Operand} {mx : MA} (ho : o.op = .binOp (if ne then .neq else .eql) t x y u) (ht : P.underlying t = some (.slice e)) (hx : cArg lv x = some mx) (hy : cArg lv y = some (.c (.p .nl)))
    (hd : o.dst.all (decide <| · < N) = true) (h : nilqK true ne (st.get mx) (cDst lv o.dst) K st) : OpOk lv P N o st K := by
  intro a w θ W next Q hR hk
  have h1 := hR.arg hx
  have h2 := hR.arg hy
  have e4 : a.eval y = .slice none 0 0 := by
    change ARel θ W (.p .nl) (a.eval y) at h2
    generalize a.eval y = v at h2
    cases h2 with | p _ _ h => cases h; rfl
  suffices hs : ∃ (ad : Option Addr) (n c : Nat), a.eval x = .slice ad n c ∧ K (st.put (cDst lv o.dst) (.p (.b (if ne then !ad.isNone else ad.isNone)))) by
    obtain ⟨ad, n, c, e3, hK⟩ := hs
    refine end_same hR hd hk (v := .bool (if ne = true then !ad.isNone else ad.isNone)) ?_ (.p _ _ (.b _)) hK
    have hg := eqGuard_plain (P := P) (if ne then .neq else .eql) t x y (a.eval x) (a.eval y) (by rw [e3]; simp) (by rw [e3]; simp) w
    have he : (Op.equal t (.slice ad n c) (.slice none 0 0)).run P w = .ok ad.isNone w := equalIn_slice 9999 ht ad n c w
    cases ne
    · simp only [Bool.false_eq_true, if_false] at hg ho ⊢
      simp [execOp, ho, hg]
      rw [e3, e4]
      simp [binOp, he]
    · simp only [if_true] at hg ho ⊢
      simp [execOp, ho, hg]
      rw [e3, e4]
      simp [binOp, he]
  unfold nilqK at h
  split at h
  · rename_i e1 e2
    rw [e2] at h1
    generalize hv : a.eval x = v at h1
    cases h1 with
    | p _ _ h0 =>
      cases h0
      exact ⟨none, 0, 0, rfl, by cases ne <;> exact h⟩
  · rename_i xs e1 e2
    rw [e2] at h1
    generalize hv : a.eval x = v at h1
    cases h1 with
    | p _ _ h0 =>
      cases h0 with
      | l _ ad cap sz f hlen hmax hnil hsp hrow hcell hrel =>
        cases ad with
        | none =>
          have h3 := hnil rfl
          exact absurd (List.length_eq_zero_iff.1 (by omega)) h.1
        | some ad => exact ⟨some ad, _, _, rfl, by cases ne <;> exact h.2⟩
  · rename_i id ver off n e1 e2
    rw [e2] at h1
    unfold nilqR at h
    split at h
    · rename_i sz ver' rs hid
      obtain ⟨rfl, hl, hK⟩ := h
      obtain ⟨hob, _, _⟩ := hR.mem.obj _ _ hid
      rcases hob with ⟨_, rfl⟩ | ⟨b, tot, ty, vs, hth, _⟩
      · simp at hl
      · generalize hv : a.eval x = v at h1
        cases h1 with
        | gsDead _ _ _ _ _ _ h0 => rw [hth] at h0; cases h0
        | gsNil _ _ h0 => rw [hth] at h0; cases h0
        | gs => refine ⟨_, _, _, rfl, ?_⟩; cases ne <;> exact hK
    · exact h.elim
  all_goals first | exact h.elim | (rename_i e1 e2; cases e1)
theorem ok_nilq_p {ne : Bool} {t u e : TypeId} {x y : Operand} {mx : MA} (ho : o.op = .binOp (if ne then .neq else .eql) t x y u) (ht : P.underlying t = some (.pointer e)) (hx : cArg lv x = some mx) (hy : cArg lv y = some (.c (.p .np)))
    (hd : o.dst.all (decide <| · < N) = true) (h : nilqK false ne (st.get mx) (cDst lv o.dst) K st) : OpOk lv P N o st K := by
  intro a w θ W next Q hR hk
  have h1 := hR.arg hx
  have h2 := hR.arg hy
  have e4 : a.eval y = .pointer none := by
    change ARel θ W (.p .np) (a.eval y) at h2
    generalize a.eval y = v at h2
    cases h2 with | p _ _ h => cases h; rfl
  suffices hs : ∃ (ad : Option Addr), a.eval x = .pointer ad ∧ K (st.put (cDst lv o.dst) (.p (.b (if ne then !ad.isNone else ad.isNone)))) by
    obtain ⟨ad, e3, hK⟩ := hs
    refine end_same hR hd hk (v := .bool (if ne = true then !ad.isNone else ad.isNone)) ?_ (.p _ _ (.b _)) hK
    have hg := eqGuard_plain (P := P) (if ne then .neq else .eql) t x y (a.eval x) (a.eval y) (by rw [e3]; simp) (by rw [e3]; simp) w
    have he : (Op.equal t (.pointer ad) (.pointer none)).run P w = .ok ad.isNone w := equalIn_pointer 9999 ht ad w
    cases ne
    · simp only [Bool.false_eq_true, if_false] at hg ho ⊢
      simp [execOp, ho, hg]
      rw [e3, e4]
      simp [binOp, he]
    · simp only [if_true] at hg ho ⊢
      simp [execOp, ho, hg]
      rw [e3, e4]
      simp [binOp, he]
  unfold nilqK at h
  split at h
  all_goals first | exact h.elim | skip
  all_goals
    rename_i e1 e2
    first
    | (cases e1; done)
    | (rw [e2] at h1
       generalize hv : a.eval x = v at h1
       cases h1 with
       | p _ _ h0 => cases h0; exact ⟨none, rfl, by cases ne <;> exact h⟩)
    | (rw [e2] at h1
       generalize hv : a.eval x = v at h1
       cases h1 <;> (refine ⟨_, rfl, ?_⟩; cases ne <;> exact h))
theorem ok_un {op:UnOp} {t:TypeId} {x:Operand} {m:MA} (ho:o.op=.unOp op t x) (hx:cArg lv x=some m)
  (hd:o.dst.all (decide <| ·<N)=true) (h:withV (eun op (st.get m)) (cDst lv o.dst) K st):OpOk lv P N o st K:=by
 intro a w θ W next Q hR hk
 have h1:=hR.arg hx
 obtain ⟨v,hv,hK⟩:=withV_inv h
 unfold eun at hv
 split at hv
 ·rename_i b e
  split at hv
  ·cases hv
   rw [e] at h1
   have e1:=h1.b_inv
   exact end_same hR hd hk (v:=.bool (!b)) (by simp [execOp,ho,e1,Op.unary]) (.p _ _ (.b _)) hK
  ·cases hv
 ·rename_i k n e
  split at hv
  ·cases hv
   rw [e] at h1
   have e1:=h1.i_inv
   exact end_same hR hd hk (v:=.int k (k.wrap (0 - n))) (by simp [execOp,ho,e1,Op.unary,Op.intArith]) (.p _ _ (.i _ _)) hK
  ·cases hv
 ·cases hv
theorem ok_conv {s t:TypeId} {k:IntKind} {d:TypeDesc} {x:Operand} {m:MA} (ho:o.op=.convert s t x) (hs:P.underlying s=some d) (ht:P.underlying t=some (.int k)) (hx:cArg lv x=some m)
  (hd:o.dst.all (decide <| ·<N)=true) (h:withV (convV k (st.get m)) (cDst lv o.dst) K st):OpOk lv P N o st K:=by
 intro a w θ W next Q hR hk
 have h1:=hR.arg hx
 obtain ⟨v,hv,hK⟩:=withV_inv h
 unfold convV at hv
 split at hv
 ·rename_i k' n e
  cases hv
  rw [e] at h1
  have e1:=h1.i_inv
  refine end_same hR hd hk (v:=.int k (k.wrap n)) ?_ (.p _ _ (.i _ _)) hK
  simp [execOp,ho,e1,convert,run_underlying hs,run_underlying ht,Conv.intToInt]
 ·cases hv
theorem run_len_slice {c:Call} {t e:TypeId} {x:Operand} {a:Act} {w:World} (ho:o.op=.call c) (hc:c.callee=.builtin .len) (hargs:c.args=#[x]) (ht:c.argTypes[0]?=some t)
  (hu:P.underlying t=some (.slice e)) {ad:Option Addr} {n cap:Nat} (hv:a.eval x=.slice ad n cap):(execOp a.eval o).run P w=.ok (.value (.int .i64 n)) w:=by
 simp [execOp,ho,resolve,hc,hargs,hv,invoke,builtin,Builtin.len_,ht,run_underlying hu,goInt]
theorem run_cap_slice {c:Call} {t e:TypeId} {x:Operand} {a:Act} {w:World} (ho:o.op=.call c) (hc:c.callee=.builtin .cap) (hargs:c.args=#[x]) (ht:c.argTypes[0]?=some t)
  (hu:P.underlying t=some (.slice e)) {ad:Option Addr} {n cap:Nat} (hv:a.eval x=.slice ad n cap):(execOp a.eval o).run P w=.ok (.value (.int .i64 cap)) w:=by
 simp [execOp,ho,resolve,hc,hargs,hv,invoke,builtin,Builtin.cap_,ht,run_underlying hu,goInt]
theorem run_len_string {c:Call} {t:TypeId} {x:Operand} {a:Act} {w:World} (ho:o.op=.call c) (hc:c.callee=.builtin .len) (hargs:c.args=#[x]) (ht:c.argTypes[0]?=some t)
  (hu:P.underlying t=some .string) {s:ByteArray} (hv:a.eval x=.string s):(execOp a.eval o).run P w=.ok (.value (.int .i64 s.size)) w:=by
 simp [execOp,ho,resolve,hc,hargs,hv,invoke,builtin,Builtin.len_,ht,run_underlying hu,goInt]
end Go.AM
set_option linter.all false
namespace Go.AM
variable {lv:List Nat} {P:Program} {N:Nat} {o:Oper} {st:St} {K:St->Prop} {θ:Th} {W:Im}
theorem ok_len {c : Call} {t : TypeId} {s : Bool} {x : Operand} {m : MA} (ho : o.op = .call c) (hc : c.callee = .builtin .len) (hargs : c.args = #[x]) (ht : c.argTypes[0]? = some t)
    (hu : if s then P.underlying t = some .string else ∃ e, P.underlying t = some (.slice e)) (hx : cArg lv x = some m)
    (hd : o.dst.all (decide <| · < N) = true) (h : lenK s (st.get m) (cDst lv o.dst) K st) : OpOk lv P N o st K := by
  intro a w θ W next Q hR hk
  have h1 := hR.arg hx
  unfold lenK at h
  generalize hv : a.eval x = v at h1
  split at h
  · rename_i xs e1
    obtain ⟨e, hu⟩ := hu
    rw [e1] at h1
    cases h1.p_inv with
    | l _ _ _ _ _ _ hm => exact end_same hR hd hk (run_len_slice ho hc hargs ht hu hv) (.p _ _ (.i _ _)) (h hm)
  · rename_i e1
    obtain ⟨e, hu⟩ := hu
    rw [e1] at h1
    cases h1.p_inv
    exact end_same hR hd hk (run_len_slice ho hc hargs ht hu hv) (.p _ _ (.i _ _)) h
  · rename_i y e1
    rw [e1] at h1
    cases h1.p_inv with
    | s _ hm =>
      refine end_same hR hd hk (run_len_string ho hc hargs ht hu hv) (.p _ _ ?_) (h hm)
      have : (ByteArray.mk y.toArray).size = y.length := by show y.toArray.size = _; simp
      rw [this]
      exact .i _ _
  · rename_i id ver off n' e1
    obtain ⟨e, hu⟩ := hu
    rw [e1] at h1
    cases h1 with
    | gsDead _ _ _ _ _ _ _ _ hm => exact end_same hR hd hk (run_len_slice ho hc hargs ht hu hv) (.p _ _ (.i _ _)) (h hm)
    | gsNil => exact end_same hR hd hk (run_len_slice ho hc hargs ht hu hv) (.p _ _ (.i _ _)) (h (Nat.zero_le _))
    | gs _ _ _ _ _ _ _ _ _ _ _ hm => exact end_same hR hd hk (run_len_slice ho hc hargs ht hu hv) (.p _ _ (.i _ _)) (h hm)
  · exact h.elim
theorem ok_cap {c:Call} {t e:TypeId} {x:Operand} {m:MA} (ho:o.op=.call c) (hc:c.callee=.builtin .cap) (hargs:c.args=#[x]) (ht:c.argTypes[0]?=some t)
  (hu:P.underlying t=some (.slice e)) (hx:cArg lv x=some m)
  (hd:o.dst.all (decide <| ·<N)=true) (h:withV (capV (st.get m)) (cDst lv o.dst) K st):OpOk lv P N o st K:=by
 intro a w θ W next Q hR hk
 have h1:=hR.arg hx
 obtain ⟨v,hv,h⟩:=withV_inv h
 unfold capV at hv
 generalize hv2:a.eval x=v2 at h1
 split at hv
 ·rename_i e1
  cases hv
  rw [e1] at h1
  cases h1.p_inv
  exact end_same hR hd hk (run_cap_slice ho hc hargs ht hu hv2) (.p _ _ (.i _ _)) h
 ·cases hv
theorem add_lit' (ad:Addr) (h:ad.spot=none) (n:Nat):ad.add n=⟨ad.block,ad.off+n,none⟩:=by
 cases ad
 simp only at h
 subst h
 exact Addr.add_lit _ _ _
theorem ok_ixs {t e : TypeId} {sz : Nat} {x i : Operand} {mx mi : MA} (ho : o.op = .indexAddr t x i) (ht : P.underlying t = some (.slice e)) (hsz : sizeT P e = some sz) (h0 : 0 < sz) (hx : cArg lv x = some mx) (hi : cArg lv i = some mi)
    (hd : o.dst.all (decide <| · < N) = true) (h : ixsK sz (st.get mx) (st.get mi) (cDst lv o.dst) K st) : OpOk lv P N o st K := by
  intro a w θ W next Q hR hk
  have h1 := hR.arg hx
  have h2 := hR.arg hi
  obtain ⟨inf, hinf, hisz⟩ := sizeT_inv hsz
  unfold ixsK at h
  split at h
  case h_2 => exact h.elim
  case h_1 k n e2 =>
  rw [e2] at h2
  have e3 := h2.i_inv
  have run : ∀ (ad : Addr) (len cap : Nat), a.eval x = .slice (some ad) len cap → 0 ≤ n → n < (len : Int) → (execOp a.eval o).run P w = .ok (.value (.pointer (some (ad.add (n.toNat * sz))))) w := by
    intro ad len cap e h3 h4
    simp [execOp, ho, Instr.indexAt, e, e3, asIntOf, run_underlying ht, h3, h4, sizeOf, typeInfo, hinf, hisz]
  split at h
  · rename_i xs e1
    obtain ⟨hn, r, hr, hrl, hK⟩ := h
    rw [e1] at h1
    generalize hv : a.eval x = v at h1
    have hlt : n.toNat < xs.length := by
      rcases Nat.lt_or_ge n.toNat xs.length with h' | h'
      · exact h'
      · rw [List.getElem?_eq_none h'] at hr; cases hr
    cases h1.p_inv with
    | l _ ad cap sz' f hlen hmax hnil hsp hrow hcell hrel =>
      cases ad with
      | none => have := hnil rfl; omega
      | some ad =>
        have e4 : r.length = sz' := hrow r (List.mem_of_getElem? hr)
        refine end_same hR hd hk (run ad _ cap hv hn (by omega)) ?_ hK
        rw [add_lit' ad (hsp (List.ne_nil_of_mem (List.mem_of_getElem? hr)) ad rfl)]
        exact .ip r ad.block _ (f n.toNat) (fun j q hj => by
          have := hcell n.toNat r j q hr hj ad rfl
          rw [← e4, hrl] at this
          rw [Nat.add_assoc]
          exact this) (fun j q hj => hrel n.toNat r j q hr hj)
  · rename_i id ver off m e1
    obtain ⟨hn, hm, h⟩ := h
    split at h
    · rename_i sz' ver' rs hid
      obtain ⟨rfl, rfl, hK⟩ := h
      rw [e1] at h1
      generalize hv : a.eval x = v at h1
      obtain ⟨q1, q2, q3⟩ := hR.mem.obj id _ hid
      cases h1 with
      | gsDead _ _ _ _ _ _ hdead => rcases q1 with ⟨q1, _⟩ | ⟨b, tot, ty, vs, q1, _⟩ <;> (rw [hdead] at q1; cases q1)
      | gsNil => omega
      | gs _ _ _ _ b sz tot o' cap hat hnc hmm hcap ho' h0' =>
        rcases q1 with ⟨q1, _⟩ | ⟨b', tot', ty, vs, q1, _⟩
        · rw [hat] at q1; cases q1
        · rw [hat] at q1
          cases q1
          refine end_same hR hd hk (run _ _ cap hv hn hm) ?_ hK
          rw [Addr.add_lit, ho' (by omega), ← Nat.add_mul]
          exact .ep id _ (off + n.toNat) 0 b _ tot hat
    · exact h.elim
  · exact h.elim
theorem ok_ixa {t e:TypeId} {len sz:Nat} {x i:Operand} {mx mi:MA} (ho:o.op=.indexAddr t x i) (ht:P.underlying t=some (.array len e)) (hsz:sizeT P e=some sz) (hx:cArg lv x=some mx) (hi:cArg lv i=some mi)
  (hd:o.dst.all (decide <| ·<N)=true) (h:ixaK len sz (st.get mx) (st.get mi) (cDst lv o.dst) K st):OpOk lv P N o st K:=by
 intro a w θ W next Q hR hk
 have h1:=hR.arg hx
 have h2:=hR.arg hi
 obtain ⟨inf,hinf,hisz⟩:=sizeT_inv hsz
 unfold ixaK at h
 split at h
 case h_2=>exact h.elim
 case h_1 k n e2 =>
 rw [e2] at h2
 have e3:=h2.i_inv
 split at h
 ·rename_i id off e1
  obtain ⟨hn,hm,hK⟩:=h
  have run:∀ (ad:Addr),a.eval x=.pointer (some ad)->(execOp a.eval o).run P w=.ok (.value (.pointer (some (ad.add (n.toNat * sz))))) w:=by
   intro ad e
   simp [execOp,ho,Instr.indexAt,Instr.sureAddr,e,e3,asIntOf,run_underlying ht,hn,hm,sizeOf,typeInfo,hinf,hisz]
  rw [e1] at h1
  generalize hv:a.eval x=v at h1
  cases h1 with
  | ptr _ _ b s tot hat=>exact end_same hR hd hk (run _ hv) (by rw [Addr.add_lit]; exact .ptr _ _ b s tot hat) hK
  | ptrDead _ _ ad hat=>exact end_same hR hd hk (run _ hv) (.ptrDead _ _ _ hat) hK
 ·exact h.elim
theorem ok_ixt {t:TypeId} {x i:Operand} {mx mi:MA} (ho:o.op=.index t x i) (ht:P.underlying t=some .string) (hx:cArg lv x=some mx) (hi:cArg lv i=some mi)
  (hd:o.dst.all (decide <| ·<N)=true) (h:ixtK (st.get mx) (st.get mi) (cDst lv o.dst) K st):OpOk lv P N o st K:=by
 intro a w θ W next Q hR hk
 have h1:=hR.arg hx
 have h2:=hR.arg hi
 unfold ixtK at h
 split at h
 case h_2=>exact h.elim
 case h_1 k n e2 =>
 rw [e2] at h2
 have e3:=h2.i_inv
 split at h
 ·rename_i y e1
  obtain ⟨hn,c,hc,hK⟩:=h
  rw [e1] at h1
  obtain ⟨e4,_⟩:=h1.s_inv
  refine end_same hR hd hk (v:=.int .u8 c.toNat) ?_ (.p _ _ (.i _ _)) hK
  have:(ByteArray.mk y.toArray)[n.toNat]?=some c:=by
   have hlt:n.toNat<y.length:=by
    rcases Nat.lt_or_ge n.toNat y.length with h' | h'
    ·exact h'
    ·rw [List.getElem?_eq_none h'] at hc; cases hc
   have hsz:n.toNat<(ByteArray.mk y.toArray).size:=by show n.toNat<y.toArray.size; simpa using hlt
   rw [getElem?_pos (ByteArray.mk y.toArray) n.toNat hsz]
   rw [List.getElem?_eq_getElem hlt] at hc
   cases hc
   rfl
  simp [execOp,ho,Instr.index,e3,e4,asIntOf,run_underlying ht,hn,this]
 ·exact h.elim
theorem ok_ext {x : Operand} {n : Nat} {m : MA} (ho : o.op = .extract x n) (hx : cArg lv x = some m)
    (hd : o.dst.all (decide <| · < N) = true) (h : withV (extV n (st.get m)) (cDst lv o.dst) K st) : OpOk lv P N o st K := by
  intro a w θ W next Q hR hk
  have h1 := hR.arg hx
  obtain ⟨v, hv, hK⟩ := withV_inv h
  unfold extV at hv
  split at hv
  · rename_i vs e
    rw [e] at h1
    generalize hu : a.eval x = u at h1
    cases h1 with
    | tup _ us hs hc =>
      have hlt : n < us.size := by
        rcases Nat.lt_or_ge n vs.length with h' | h'
        · omega
        · rw [List.getElem?_eq_none h'] at hv; cases hv
      refine end_same hR hd hk (v := us[n]) ?_ (hc n _ _ hv (by simp [hlt])) hK
      simp [execOp, ho, hu, Instr.extract, hlt]
  · cases hv
theorem ok_mkf {f:FuncId} {first caps:Array Operand} {ms:List MA} (ho:o.op=.makeFunc (.func f) first caps) (hf:first=#[]) (hc:cArgs lv caps.toList=some ms)
  (hd:o.dst.all (decide <| ·<N)=true) (h:K (st.put (cDst lv o.dst) (.clo f (gets st ms)))):OpOk lv P N o st K:=by
 intro a w θ W next Q hR hk
 obtain ⟨h1,h2⟩:=hR.args hc
 subst hf
 refine end_same hR hd hk (v:=.func (.func f) #[] (caps.map a.eval)) ?_ ?_ h
 ·simp [execOp,ho,Instr.makeFunc]
 ·have e:caps.map a.eval=(caps.toList.map a.eval).toArray:=by apply Array.ext'; simp
  rw [e]
  exact .clo f _ _ h1 h2
theorem ok_fld {s : TypeId} {f off n : Nat} {t : TypeId} {g : Bool} {x : Operand} {m : MA} (ho : o.op = .field s x f) (hx : cArg lv x = some m) (hf : fieldOf P s f = some (off, t, n)) (hg : aggT P t = some g)
    (hd : o.dst.all (decide <| · < N) = true) (h : withV (fldV g off n (st.get m)) (cDst lv o.dst) K st) : OpOk lv P N o st K := by
  intro a w θ W next Q hR hk
  have h1 := hR.arg hx
  obtain ⟨v, hv, hK⟩ := withV_inv h
  unfold fldV at hv
  split at hv
  · rename_i cs e
    rw [e] at h1
    generalize hu : a.eval x = u at h1
    cases h1 with
    | st _ vs hs hc h1c =>
      unfold fieldOf at hf
      split at hf
      · rename_i fs hfs
        split at hf
        · rename_i fd hfd
          cases hz : sizeT P fd.type with
          | none => rw [hz] at hf; cases hf
          | some n' =>
            rw [hz] at hf
            cases hf
            obtain ⟨i, hi, rfl⟩ := sizeT_inv hz
            have hag : ∃ d, P.underlying fd.type = some d ∧ (isAgg fd.type).run P w = .ok g w := by
              unfold aggT at hg
              split at hg
              · rename_i fs' e'; cases hg; exact ⟨_, e', by simp [isAgg, run_underlying e']⟩
              · rename_i k e' e''; cases hg; exact ⟨_, e'', by simp [isAgg, run_underlying e'']⟩
              · rename_i d n1 n2 e'
                cases hg
                refine ⟨d, e', ?_⟩
                simp only [isAgg, Sem.run_bind, run_underlying e', Result.andThen_ok]
                cases d <;> first | rfl | (exact (n1 _ rfl).elim) | (exact (n2 _ _ rfl).elim)
              · cases hg
            obtain ⟨d, hd', hrun⟩ := hag
            cases g with
            | false =>
              simp only [ldV, Bool.false_eq_true, if_false] at hv
              have hcell : cs[fd.offset]? = some v := by
                rw [List.head?_drop] at hv
                exact hv
              have hlt : fd.offset < vs.size := by
                rcases Nat.lt_or_ge fd.offset cs.length with h' | h'
                · omega
                · rw [List.getElem?_eq_none h'] at hcell; cases hcell
              refine end_same hR hd hk (v := vs[fd.offset]) ?_ (hc _ _ _ hcell (by simp [hlt])) hK
              simp [execOp, ho, hu, Instr.field, run_underlying hfs, hfd, asAgg, part, hrun, hlt]
            | true =>
              simp only [ldV, if_true] at hv
              cases hus : takeN i.size (cs.drop fd.offset) with
              | none => rw [hus] at hv; cases hv
              | some us =>
                rw [hus] at hv
                cases hv
                obtain ⟨l1, l2⟩ := takeN_len hus
                have hlast : us.length = 0 ∨ fd.offset + us.length ≤ cs.length := by
                  rcases Nat.eq_zero_or_pos us.length with h' | h'
                  · exact .inl h'
                  · have : us[us.length - 1]? = some us[us.length - 1] := by simp [h']
                    have := l2 _ _ this
                    simp only [List.getElem?_drop] at this
                    rcases Nat.lt_or_ge (fd.offset + (us.length - 1)) cs.length with h'' | h''
                    · exact .inr (by omega)
                    · rw [List.getElem?_eq_none h''] at this; cases this
                refine end_same hR hd hk (v := .agg (vs.extract fd.offset (fd.offset + i.size))) ?_ (.st us _ ?_ ?_ ?_) hK
                · simp [execOp, ho, hu, Instr.field, run_underlying hfs, hfd, asAgg, part, hrun, sizeOf, typeInfo, hi]
                · simp only [Array.size_extract]; omega
                · intro j c u hj hu'
                  have := l2 j c hj
                  simp only [List.getElem?_drop] at this
                  simp only [Array.getElem?_extract] at hu'
                  split at hu'
                  · exact hc _ _ _ this hu'
                  · cases hu'
                · intro j u hu'
                  simp only [Array.getElem?_extract] at hu'
                  split at hu'
                  · exact h1c _ _ hu'
                  · cases hu'
        · cases hf
      · cases hf
  · cases hv
theorem ok_mnx {c:Call} {mx:Bool} {x y:Operand} {m1 m2:MA} (ho:o.op=.call c) (hc:c.callee=.builtin (if mx then .max else .min)) (hargs:c.args=#[x,y]) (hx:cArg lv x=some m1) (hy:cArg lv y=some m2)
  (hd:o.dst.all (decide <| ·<N)=true) (h:withV (mnxV mx (st.get m1) (st.get m2)) (cDst lv o.dst) K st):OpOk lv P N o st K:=by
 intro a w θ W next Q hR hk
 have h1:=hR.arg hx
 have h2:=hR.arg hy
 obtain ⟨v,hv,hK⟩:=withV_inv h
 unfold mnxV at hv
 split at hv
 ·rename_i k p k' q e1 e2
  split at hv
  ·rename_i e; subst e
   cases hv
   rw [e1] at h1; rw [e2] at h2
   have e3:=h1.i_inv
   have e4:=h2.i_inv
   cases mx
   ·refine end_same hR hd hk (v:=.int k (if q<p then q else p)) ?_ (.p _ _ (.i _ _)) hK
    simp [execOp,ho,resolve,hc,hargs,invoke,builtin,Builtin.min_,Builtin.min2,e3,e4]
   ·refine end_same hR hd hk (v:=.int k (if q > p then q else p)) ?_ (.p _ _ (.i _ _)) hK
    simp [execOp,ho,resolve,hc,hargs,invoke,builtin,Builtin.max_,Builtin.max2,e3,e4]
  ·cases hv
 ·cases hv
theorem run_callFunc {f:Nat} (hf:HasBody P f) (args:Array Value) (w:World):(callFunc f args).run P w=.ok (.enter f args) w:=by
 obtain ⟨fn,h1,h2,h3⟩:=hf
 have h4:fn.body.isNone=false:=by cases hb:fn.body <;> simp_all
 have h5:¬ fn.name= "runtime.NumGoroutine":=by simpa using h3
 have h6:¬ fn.body=none:=fun e=>by rw [e] at h4; cases h4
 simp [callFunc,h1,h5,h6]
theorem end_call {f:Nat} {args:List AV} {vs:Array Value} {a:Act} {w:World} {next:Act->World->Prop} {Q:Exit->Act->World->Prop} (hR:Rl lv N st a w θ W)
  (hd:o.dst.all (decide <| ·<N)=true) (hk:∀ st' a' w' θ' W',K st'->Rl lv N st' a' w' θ' W'->Stp θ W w θ' W' w'->next a' w')
  (hrun:(execOp a.eval o).run P w=.ok (.enter f vs) w) (hargs:Rels θ W args vs) (h:ACall P f args st.H (callK (cDst lv o.dst) K st)):o.wp P a w next Q:=by
 unfold Oper.wp
 rw [hrun]
 refine (h.2 w θ W vs hR.mem hargs).mono ?_
 rintro e w' ⟨v,r,H',θ',W',rfl,hK,hm,hr,hs⟩
 exact hk _ _ _ _ _ hK (hR.put hd hr hm hs) hs
theorem ok_call {c:Call} {f:FuncId} {ms:List MA} (ho:o.op=.call c) (hc:c.callee=.value (.func f)) (hargs:cArgs lv c.args.toList=some ms)
  (hd:o.dst.all (decide <| ·<N)=true) (h:ACall P f (gets st ms) st.H (callK (cDst lv o.dst) K st)):OpOk lv P N o st K:=by
 intro a w θ W next Q hR hk
 refine end_call hR hd hk (vs:=(c.args.toList.map a.eval).toArray) ?_ (hR.args hargs) h
 have e:c.args.map a.eval=(c.args.toList.map a.eval).toArray:=by apply Array.ext'; simp
 simp [execOp,ho,resolve,hc,Act.eval,Deferred.ofValue,invoke,run_callFunc h.1]
 exact e
theorem ok_calv {c : Call} {t : Tmp} {ms : List MA} (ho : o.op = .call c) (hc : c.callee = .value (.tmp t)) (hargs : cArgs lv c.args.toList = some ms)
    (hd : o.dst.all (decide <| · < N) = true) (h : calvK (ACall P) (st.get (cTmp lv t)) (gets st ms) (cDst lv o.dst) K st) : OpOk lv P N o st K := by
  intro a w θ W next Q hR hk
  have h1 := hR.tmpArg t
  unfold calvK at h
  split at h
  · rename_i f caps e
    rw [e] at h1
    generalize hu : a.eval (.tmp t) = u at h1
    cases h1 with
    | clo _ _ vs hs hcc =>
      obtain ⟨r1, r2⟩ := hR.args hargs
      refine end_call hR hd hk (vs := (c.args.toList.map a.eval).toArray ++ vs) ?_ ?_ h
      · have e : c.args.map a.eval = (c.args.toList.map a.eval).toArray := by apply Array.ext'; simp
        simp [execOp, ho, resolve, hc, hu, Deferred.ofValue, invoke, run_callFunc h.1]
        rw [e]
      · refine ⟨by simp at r1 ⊢; omega, fun j c' v hj hv => ?_⟩
        rcases Nat.lt_or_ge j (gets st ms).length with hlt | hge
        · rw [List.getElem?_append_left hlt] at hj
          rw [Array.getElem?_append_left (by omega)] at hv
          exact r2 j c' v hj hv
        · rw [List.getElem?_append_right hge] at hj
          rw [Array.getElem?_append_right (by omega), r1] at hv
          exact hcc _ _ _ hj hv
  · exact h.elim
end Go.AM
set_option linter.all false
namespace Go.AM
variable {lv:List Nat} {P:Program} {N:Nat} {o:Oper} {st:St} {K:St->Prop} {θ:Th} {W:Im}
def optVal (a:Act):Option Operand->Option Value
 | none=>none
 | some x=>some (a.eval x)
theorem run_bounds {isSlice : Bool} {lo hi : Option Value} {lo' hi' : Option AV} {len cap : Nat} {R : Nat → Nat → Prop} (hlen : len ≤ cap)
    (hlo : match lo, lo' with | none, none => True | some v, some x => ARel θ W x v | _, _ => False)
    (hhi : match hi, hi' with | none, none => True | some v, some x => ARel θ W x v | _, _ => False)
    (h : bndK lo' hi' len R) : ∃ a b, a ≤ b ∧ b ≤ len ∧ R a b ∧ ∀ w, (Instr.sliceBounds isSlice len cap lo hi none).run P w = .ok (a, b, cap) w := by
  unfold bndK at h
  split at h
  · cases lo with
    | some v => exact hlo.elim
    | none =>
      cases hi with
      | some v => exact hhi.elim
      | none => exact ⟨0, len, Nat.zero_le _, Nat.le_refl _, h, fun w => by simp [Instr.sliceBounds]⟩
  · rename_i k a
    cases lo with
    | none => exact hlo.elim
    | some v =>
      cases hi with
      | some v => exact hhi.elim
      | none =>
        have e := ARel.i_inv hlo
        subst e
        obtain ⟨h1, h2, h3⟩ := h
        exact ⟨a.toNat, len, by omega, Nat.le_refl _, h3, fun w => by simp [Instr.sliceBounds, Instr.sliceBound, asIntOf, h1, h2]⟩
  · rename_i k b
    cases lo with
    | some v => exact hlo.elim
    | none =>
      cases hi with
      | none => exact hhi.elim
      | some v =>
        have e := ARel.i_inv hhi
        subst e
        obtain ⟨h1, h2, h3⟩ := h
        have h4 : b ≤ (cap : Int) := by omega
        exact ⟨0, b.toNat, Nat.zero_le _, by omega, h3, fun w => by simp [Instr.sliceBounds, Instr.sliceBound, asIntOf, h1, h4]⟩
  · rename_i k a k' b
    cases lo with
    | none => exact hlo.elim
    | some v =>
      cases hi with
      | none => exact hhi.elim
      | some v' =>
        have e := ARel.i_inv hlo
        subst e
        have e := ARel.i_inv hhi
        subst e
        obtain ⟨h1, h2, h3, h4⟩ := h
        have h5 : b ≤ (cap : Int) := by omega
        have h6 : 0 ≤ b := by omega
        have h7 : a ≤ (b.toNat : Int) := by omega
        have h8 : ¬ max b 0 < a := by omega
        exact ⟨a.toNat, b.toNat, by omega, by omega, h4, fun w => by simp [Instr.sliceBounds, Instr.sliceBound, asIntOf, h1, h5, h6, h7, h8]⟩
  · exact h.elim
theorem Rl.opt {a : Act} {w : World} (h : Rl lv N st a w θ W) {x : Option Operand} {m : Option MA} (hx : cOpt lv x = some m) :
    match optVal a x, m.map st.get with | none, none => True | some v, some y => ARel θ W y v | _, _ => False := by
  cases x with
  | none => cases hx; trivial
  | some x =>
    simp only [cOpt] at hx
    cases hy : cArg lv x with
    | none => rw [hy] at hx; cases hx
    | some y => rw [hy] at hx; cases hx; exact h.arg hy
theorem optVal_map (a:Act) (x:Option Operand):x.map a.eval=optVal a x:=by cases x <;> rfl
theorem run_slc {t:TypeId} {x:Operand} {lo hi:Option Operand} {a:Act} (ho:o.op=.slice t x lo hi none) {d:TypeDesc} (e:P.underlying t=some d) (hna:∀ n e,d≠.array n e) (w:World) :
  (execOp a.eval o).run P w=((Instr.slice t (a.eval x) (optVal a lo) (optVal a hi) none).run P w).andThen fun v w=>.ok (.value v) w:=by
 have:(Instr.sliceAt t (a.eval x) (optVal a lo) (optVal a hi) none).run P w=(Instr.slice t (a.eval x) (optVal a lo) (optVal a hi) none).run P w:=by
  cases d <;> first | (exact (hna _ _ rfl).elim) | (simp [Instr.sliceAt,run_underlying e]; done)
 simp [execOp,ho,optVal_map,this]
theorem slcK_none_inv {x : AV} {lo hi : Option AV} {d : MD} (h : slcK none x lo hi d K st) : ∃ y, x = .p (.s y) ∧ bndK lo hi y.length fun a b => K (st.put d (.p (.s ((y.drop a).take (b - a))))) := by
  cases x with
  | p q => cases q with
    | s y => exact ⟨y, rfl, h⟩
    | _ => exact h.elim
  | _ => exact h.elim
theorem ok_slc_string {t:TypeId} {x:Operand} {lo hi:Option Operand} {m:MA} {ml mh:Option MA} (ho:o.op=.slice t x lo hi none) (ht:P.underlying t=some .string) (hx:cArg lv x=some m)
  (hlo:cOpt lv lo=some ml) (hhi:cOpt lv hi=some mh)
  (hd:o.dst.all (decide <| ·<N)=true) (h:slcK none (st.get m) (ml.map st.get) (mh.map st.get) (cDst lv o.dst) K st):OpOk lv P N o st K:=by
 intro a w θ W next Q hR hk
 have h1:=hR.arg hx
 have g1:=hR.opt hlo
 have g2:=hR.opt hhi
 have hagg:=run_slc (P:=P) (a:=a) ho ht (fun _ _=>by simp) w
 obtain ⟨y,e1,h⟩:=slcK_none_inv h
 rw [e1] at h1
 obtain ⟨e3,hy⟩:=h1.s_inv
 have hsz:(ByteArray.mk y.toArray).size=y.length:=by show y.toArray.size=_; simp
 obtain ⟨p,q,hpq,hq,hK,hrun⟩:=run_bounds (P:=P) (isSlice:=false) (Nat.le_refl _) g1 g2 h
 refine end_same hR hd hk (v:=.string ⟨(((y.drop p).take (q - p))).toArray⟩) ?_ (.p _ _ (.s _ (by simp; omega))) hK
 rw [hagg,e3]
 have he:(ByteArray.mk y.toArray).extract p q=⟨((y.drop p).take (q - p)).toArray⟩:=by
  apply ByteArray.ext
  rw [ByteArray.data_extract]
  apply Array.ext'
  simp [List.take_drop,Nat.add_sub_cancel' hpq]
 simp [Instr.slice,run_underlying ht,hsz,hrun,he]
theorem ok_slc {t e : TypeId} {sz : Nat} {x : Operand} {lo hi : Option Operand} {m : MA} {ml mh : Option MA} (ho : o.op = .slice t x lo hi none) (ht : P.underlying t = some (.slice e)) (hsz : sizeT P e = some sz) (hx : cArg lv x = some m)
    (hlo : cOpt lv lo = some ml) (hhi : cOpt lv hi = some mh)
    (hd : o.dst.all (decide <| · < N) = true) (h : slcK (some sz) (st.get m) (ml.map st.get) (mh.map st.get) (cDst lv o.dst) K st) : OpOk lv P N o st K := by
  intro a w θ W next Q hR hk
  have h1 := hR.arg hx
  have g1 := hR.opt hlo
  have g2 := hR.opt hhi
  have hagg := run_slc (P := P) (a := a) ho ht (fun _ _ => by simp) w
  obtain ⟨inf, hinf, hisz⟩ := sizeT_inv hsz
  have run : ∀ (ad : Option Addr) (len cap p q : Nat), a.eval x = .slice ad len cap → (∀ w, (Instr.sliceBounds true len cap (optVal a lo) (optVal a hi) none).run P w = .ok (p, q, cap) w) →
      (execOp a.eval o).run P w = .ok (.value (.slice (if cap = p then ad else ad.map (·.add (p * sz))) (q - p) (cap - p))) w := by
    intro ad len cap p q e1 e2
    rw [hagg, e1]
    simp [Instr.slice, run_underlying ht, e2, sizeOf, typeInfo, hinf, hisz]
  generalize hv : a.eval x = v at h1
  unfold slcK at h
  split at h
  case h_5 => exact h.elim
  case h_2 => rename_i e _; cases e
  case h_1 sz' xs e0 e1 =>
    cases e0
    obtain ⟨hall, h⟩ := h
    rw [e1] at h1
    cases h1.p_inv with
    | l _ ad cap sz' f hlen hmax hnil hsp hrow hcell hrel =>
      obtain ⟨p, q, hpq, hq, hK, hrun⟩ := run_bounds (P := P) (isSlice := true) hlen g1 g2 h
      refine end_same hR hd hk (run ad _ cap p q hv hrun) ?_ hK
      have hl : (List.take (q - p) (List.drop p xs)).length = q - p := by simp; omega
      have hget : ∀ (i : Nat) (r : List PV), (List.take (q - p) (List.drop p xs))[i]? = some r → xs[p + i]? = some r ∧ p < q := by
        intro i r hi
        rw [List.getElem?_take] at hi
        split at hi
        · rw [List.getElem?_drop] at hi; exact ⟨hi, by omega⟩
        · cases hi
      refine .p _ _ ?_
      have key := PRel.l (W := W) (List.take (q - p) (List.drop p xs)) (if cap = p then ad else ad.map (·.add (p * sz))) (cap - p) sz' (fun i j => f (p + i) j) (by omega) (by omega) ?_ ?_ (fun r hr => hrow r (List.mem_of_mem_drop (List.mem_of_mem_take hr))) ?_ (fun i r j c hi hj => hrel _ r j c (hget i r hi).1 hj)
      · rw [hl] at key
        exact key
      · intro hno
        split at hno
        · rename_i hcp; omega
        · cases ad with
          | none => have := hnil rfl; omega
          | some ad => cases hno
      · intro hne x' hx'
        have hne' : xs ≠ [] := by rintro rfl; simp at hne
        split at hx'
        · exact hsp hne' x' hx'
        · cases ad with
          | none => cases hx'
          | some ad => cases hx'; simp only [add_lit' ad (hsp hne' ad rfl)]
      · intro i r j c hi hj x' hx'
        obtain ⟨hi', hpq'⟩ := hget i r hi
        rw [if_neg (by omega)] at hx'
        cases ad with
        | none => cases hx'
        | some ad =>
          cases hx'
          have hss : sz = sz' := by
            rw [← hrow r (List.mem_of_getElem? hi'), hall r (List.mem_of_getElem? hi')]
          subst hss
          simp only [add_lit' ad (hsp (List.ne_nil_of_mem (List.mem_of_getElem? hi')) ad rfl)]
          have := hcell (p + i) r j c hi' hj ad rfl
          rw [Nat.add_mul] at this
          rw [show ad.off + p * sz + (i * sz + j) = ad.off + (p * sz + i * sz + j) by omega]
          exact this
  case h_3 sz' e0 e1 =>
    rw [e1] at h1
    cases h1.p_inv
    obtain ⟨p, q, hpq, hq, hK, hrun⟩ := run_bounds (P := P) (isSlice := true) (Nat.le_refl _) g1 g2 h
    obtain rfl : q = 0 := by omega
    obtain rfl : p = 0 := by omega
    exact end_same hR hd hk (run none _ _ _ _ hv hrun) (.p _ _ .nl) hK
  case h_4 sz' id ver off n e0 e1 =>
    cases e0
    rw [e1] at h1
    unfold slcR at h
    split at h
    case h_2 => exact h.elim
    case h_1 sz' ver' rs hid =>
    obtain ⟨rfl, rfl, h⟩ := h
    obtain ⟨q1, q2, q3⟩ := hR.mem.obj id _ hid
    cases h1 with
    | gsDead _ _ _ _ ad cap hdead => rcases q1 with ⟨q1, _⟩ | ⟨b, tot, ty, vs, q1, _⟩ <;> (rw [hdead] at q1; cases q1)
    | gsNil _ _ hn =>
      obtain ⟨p, q, hpq, hq, hK, hrun⟩ := run_bounds (P := P) (isSlice := true) (Nat.le_refl _) g1 g2 h
      obtain rfl : q = 0 := by omega
      obtain rfl : p = 0 := by omega
      exact end_same hR hd hk (run none _ _ _ _ hv hrun) (.gsNil _ _ hn) hK
    | gs _ _ _ _ b sz tot o' cap hat hnc hmm hcap ho' h0' =>
      rcases q1 with ⟨q1, _⟩ | ⟨b', tot', ty, vs, q1, _⟩
      · rw [hat] at q1; cases q1
      rw [hat] at q1
      cases q1
      obtain ⟨p, q, hpq, hq, hK, hrun⟩ := run_bounds (P := P) (isSlice := true) hnc g1 g2 h
      refine end_same hR hd hk (run _ _ cap p q hv hrun) ?_ hK
      by_cases hcp : cap = p
      · rw [if_pos hcp]
        exact .gs id _ _ _ b _ tot o' _ hat (by omega) (by omega) (by omega) (fun hlt => by omega) (fun h0 => h0' (by omega))
      · rw [if_neg hcp]
        simp only [Option.map_some, Addr.add_lit]
        exact .gs id _ _ _ b _ tot _ _ hat (by omega) (by omega) (by omega) (fun _ => by rw [ho' (by omega), Nat.add_mul]) (fun h0 => by
          have e1 : off = 0 := by omega
          have e2 : p = 0 := by omega
          subst e1; subst e2
          rw [h0' rfl]; simp)
end Go.AM
set_option linter.all false
namespace Go.AM
variable {lv:List Nat} {P:Program} {N:Nat} {o:Oper} {st:St} {K:St->Prop} {θ:Th} {W:Im}
theorem newrows {H:List AO} {w w0:World} (h:SR θ W H w) (sz:Nat) (rs:List (List AV)) (vs:Array Value) (ty:TypeId) (tot:Nat) (hw:w0.heap=w.heap) (hos:w0.os=w.os) (htp:w0.tape=w.tape) (hou:w0.output=w.output)
  (hs:vs.size=tot * sz) (hl:rs.length<=tot) (hr:∀ r∈rs,r.length=sz)
  (hc:∀ (i:Nat) (r:List AV) (j:Nat) (c:AV) (u:Value),rs[i]?=some r->r[j]?=some c->vs[i * sz+j]?=some u->ARel θ W c u) (h1:∀ (j:Nat) (u:Value),vs[j]?=some u->u.oneCell'=true) :
  ∃ θ',SR θ' W (H++[.rows sz 0 rs]) (w0.alloc (.cells vs ty))/\Stp θ W w θ' W (w0.alloc (.cells vs ty))/\θ' H.length 0=.at w.heap.size sz tot:=by
 obtain ⟨a,b⟩:=h.push (w':=w0.alloc (.cells vs ty)) (.rows sz 0 rs) (.at w.heap.size sz tot) hos htp hou (by simp [hw]) (fun k hb=>by rw [RowKit.Below.heap_alloc w0 _ k (by rw [hw]; exact hb),hw]) (fun b sz tot e=>by cases e; rfl) (fun e=>by cases e)
  (fun hrel=>⟨.inr ⟨w.heap.size,tot,ty,vs,thSet_same _ _ _ _,by rw [<- hw]; exact heap_alloc_new w0 _,hs,hl,hr,fun i r j c u hi hj hu=>hrel _ _ (hc i r j c u hi hj hu),h1⟩,fun v' hv=>by
   rw [thSet_other (by omega)]; exact h.out _ _ (Nat.le_refl _),fun v' hv=>by omega⟩)
 exact ⟨_,a,b,thSet_same _ _ _ _⟩
theorem div_lt_of {k n sz:Nat} (h:k<n * sz):k / sz<n:=Nat.div_lt_of_lt_mul (by rw [Nat.mul_comm]; exact h)
theorem ok_mks {t e:TypeId} {i:TypeInfo} {z:List AV} {l c:Operand} {ml mc:MA} (ho:o.op=.makeSlice t l c) (ht:P.underlying t=some (.slice e)) (hi:P.info? e=some i) (hz:zeroOf P e=some z) (hzl:z.length=i.size) (h0:0<i.size)
  (hl:cArg lv l=some ml) (hc:cArg lv c=some mc)
  (hd:o.dst.all (decide <| ·<N)=true) (h:mksK i.size i.bytes z (st.get ml) (st.get mc) (cDst lv o.dst) K st):OpOk lv P N o st K:=by
 intro a w θ W next Q hR hk
 have h1:=hR.arg hl
 have h2:=hR.arg hc
 unfold mksK at h
 split at h
 case h_2=>exact h.elim
 case h_1 n c' e1 e2 =>
 obtain ⟨hn,hnc,hb,hc63,hK⟩:=h
 rw [e1] at h1
 rw [e2] at h2
 have e3:=h1.i_inv
 have e4:=h2.i_inv
 obtain ⟨i',zv,hi',hzv,hv⟩:=zeroOf_inv hz
 rw [hi] at hi'
 cases hi'
 obtain ⟨z1,z2,z3⟩:=ofVals1_rel hv θ W
 have hrun:=run_make (P:=P) w t e i zv ht hi hzv .i64 .i64 n c' hn hnc (by rw [Int.mul_comm]; omega) (by omega)
 have hzs:zv.cells.size=i.size:=by rw [<- hzl,<- z1]; simp
 have hcell:∀ k,k<c'.toNat * i.size->(madeCells zv.cells (c'.toNat * i.size))[k]?=zv.cells[k % i.size]?:=by
  intro k hk'
  have hm:k % i.size<zv.cells.size:=by rw [hzs]; exact Nat.mod_lt _ h0
  simp [madeCells,hk',hzs,hm,Nat.mod_lt _ h0]
 obtain ⟨θ',a1,a2,a3⟩:=newrows hR.mem i.size (List.replicate n.toNat z) (madeCells zv.cells (c'.toNat * i.size)) e c'.toNat rfl rfl rfl rfl (size_madeCells _ _) (by simp; omega) (by simp; intro _; exact hzl)
  (fun p r j q u hp hj hu=>by
   rw [List.getElem?_replicate] at hp
   split at hp
   ·rename_i hlt
    cases hp
    have hj':j<z.length:=by
     rcases Nat.lt_or_ge j z.length with h' | h'
     ·exact h'
     ·rw [List.getElem?_eq_none h'] at hj; cases hj
    have hlt2:p * i.size+j<c'.toNat * i.size:=by
     have:(p+1) * i.size<=c'.toNat * i.size:=Nat.mul_le_mul_right _ (by omega)
     rw [Nat.add_mul] at this
     omega
    rw [hcell _ hlt2,Nat.mul_comm,Nat.mul_add_mod,Nat.mod_eq_of_lt (by omega)] at hu
    exact z2 j q u hj (by simpa using hu)
   ·cases hp)
  (fun j u hu=>by
   have hlt:j<c'.toNat * i.size:=by
    rcases Nat.lt_or_ge j (c'.toNat * i.size) with h' | h'
    ·exact h'
    ·rw [Array.getElem?_eq_none (by rw [size_madeCells]; exact h')] at hu; cases hu
   rw [hcell _ hlt] at hu
   exact z3 _ u (by simpa using hu))
 refine end_value hR hd hk (v:=.slice (some ⟨w.heap.size,0,none⟩) n.toNat c'.toNat) ?_ (.gs _ 0 0 n.toNat w.heap.size i.size c'.toNat 0 c'.toNat a3 (by omega) (by unfold maxL; omega) (by omega) (fun _=>by simp) (fun _=>rfl)) a1 a2 hK
 simp [execOp,ho,e3,e4,hrun]
def Src (P:Program) (θ:Th) (W:Im) (w:World) (sz:Nat) (v:Value) (ys:List (List AV)):Prop :=
 ∃ news:List Value,news.length=ys.length * sz/\(∀ w',(Builtin.lenOf v).run P w'=.ok ys.length w') /\
  (∀ w':World,w'.heap=w.heap->(Builtin.firstCells sz ys.length v).run P w'=.ok news.toArray w') /\
  (∀ u∈news,u.oneCell'=true)/\∀ (i:Nat) (r:List AV) (j:Nat) (c:AV) (u:Value),ys[i]?=some r->r[j]?=some c->news[i * sz+j]?=some u->ARel θ W c u
theorem cell_heap {w w':World} (h:w'.heap=w.heap) (a:Addr):w'.cell? a=w.cell? a:=by simp [World.cell?,h]
theorem src_slice {w:World} {sz:Nat} (h0:0<sz) (ad:Addr) (n cap:Nat) (ys:List (List AV)) (hn:ys.length=n) (hr:∀ r∈ys,r.length=sz)
  (hc:∀ (i:Nat) (r:List AV) (j:Nat) (c:AV),ys[i]?=some r->r[j]?=some c->∃ v,w.cell? (ad.add (i * sz+j))=some v/\ARel θ W c v/\v.oneCell'=true) :
  Src P θ W w sz (.slice (some ad) n cap) ys:=by
 subst hn
 have key:∀ k,k<ys.length * sz->∃ r c,ys[k / sz]?=some r/\r[k % sz]?=some c/\(k / sz) * sz+k % sz=k:=by
  intro k hk
  have h1:k / sz<ys.length:=div_lt_of hk
  have h2:(ys[k / sz]).length=sz:=hr _ (List.getElem_mem h1)
  have h3:k % sz<(ys[k / sz]).length:=by rw [h2]; exact Nat.mod_lt _ h0
  exact ⟨ys[k / sz],(ys[k / sz])[k % sz],by simp [h1],by simp [h3],by rw [Nat.mul_comm]; exact Nat.div_add_mod k sz⟩
 have hex:∀ k,∃ v:Value,k<ys.length * sz->w.cell? (ad.add k)=some v/\v.oneCell'=true:=by
  intro k
  by_cases hk:k<ys.length * sz
  ·obtain ⟨r,c,h1,h2,h3⟩:=key k hk
   obtain ⟨v,v1,v2,v3⟩:=hc _ r _ c h1 h2
   rw [h3] at v1
   exact ⟨v,fun _=>⟨v1,v3⟩⟩
  ·exact ⟨undef,fun h=>(hk h).elim⟩
 obtain ⟨f,hf⟩:=Classical.axiomOfChoice hex
 refine ⟨(List.range (ys.length * sz)).map f,by simp,fun w'=>rfl,?_,?_,?_⟩
 ·intro w' hw'
  refine run_firstCells_some (P:=P) w' sz ys.length ad ys.length cap _ (by simp) (fun j v hj=>?_)
  have hlt:j<ys.length * sz:=by
   rcases Nat.lt_or_ge j (ys.length * sz) with h' | h'
   ·exact h'
   ·rw [List.getElem?_eq_none (by simpa using h')] at hj; cases hj
  simp [hlt] at hj
  subst hj
  rw [cell_heap hw']
  exact (hf j hlt).1
 ·intro u hu
  simp only [List.mem_map,List.mem_range] at hu
  obtain ⟨k,hk,rfl⟩:=hu
  exact (hf k hk).2
 ·intro i r j c u hi hj hu
  have hlt:i * sz+j<ys.length * sz:=by
   rcases Nat.lt_or_ge (i * sz+j) (ys.length * sz) with h' | h'
   ·exact h'
   ·rw [List.getElem?_eq_none (by simpa using h')] at hu; cases hu
  simp [hlt] at hu
  subst hu
  obtain ⟨v,v1,v2,v3⟩:=hc i r j c hi hj
  have:=(hf _ hlt).1
  rw [v1] at this
  cases this
  exact v2
theorem src_none {w:World} {sz:Nat} (cap:Nat):Src P θ W w sz (.slice none 0 cap) [] :=
 ⟨[],by simp,fun w'=>rfl,fun w' _=>by simp [Builtin.firstCells],by simp,fun i r j c u hi=>by simp at hi⟩
theorem bytesRows_eq (x:List UInt8):bytesRows x=x.map fun c=>[.p (.i .u8 c.toNat)]:=by
 induction x with
 | nil=>rfl
 | cons c x ih=>simp [bytesRows,ih]
theorem src_ok {H : List AO} {w : World} (hm : SR θ W H w) {sz : Nat} (h0 : 0 < sz) {y : AV} {v : Value} (hv : ARel θ W y v) {ys : List (List AV)} (hs : srcRows H sz y = some ys) (hr : ∀ r ∈ ys, r.length = sz) : Src P θ W w sz v ys := by
  unfold srcRows at hs
  split at hs
  · rename_i xs
    cases hs
    cases hv.p_inv with
    | l _ ad cap sz' f hlen hmax hnil hsp hrow hcell hrel =>
      cases ad with
      | none =>
        have h1 : xs = [] := List.eq_nil_of_length_eq_zero (by have := hnil rfl; omega)
        subst h1
        exact src_none cap
      | some ad =>
        refine src_slice h0 ad _ cap _ (by simp) hr ?_
        intro i r j c hi hj
        simp only [List.getElem?_map] at hi
        cases hx : xs[i]? with
        | none => rw [hx] at hi; cases hi
        | some r0 =>
          rw [hx] at hi
          cases hi
          simp only [List.getElem?_map] at hj
          cases hq : r0[j]? with
          | none => rw [hq] at hj; cases hj
          | some q =>
            rw [hq] at hj
            cases hj
            have hsz : sz' = sz := by
              rw [← hrow r0 (List.mem_of_getElem? hx)]
              have := hr (r0.map .p) (List.mem_map_of_mem (List.mem_of_getElem? hx))
              simpa using this
            subst hsz
            refine ⟨f i j, ?_, .p _ _ (hrel i r0 j q hx hq), (hrel i r0 j q hx hq).one⟩
            rw [add_lit' ad (hsp (List.ne_nil_of_mem (List.mem_of_getElem? hx)) ad rfl)]
            exact hm.imm _ _ _ (hcell i r0 j q hx hq ad rfl)
  · cases hs
    cases hv.p_inv
    exact src_none 0
  · rename_i x
    split at hs
    · rename_i e1
      subst e1
      cases hs
      rw [bytesRows_eq]
      obtain ⟨rfl, hx⟩ := hv.s_inv
      have hsz : (ByteArray.mk x.toArray).size = x.length := by show x.toArray.size = _; simp
      refine ⟨x.map fun b => .int .u8 b.toNat, by simp, fun w' => ?_, fun w' _ => ?_, ?_, ?_⟩
      · simp [Builtin.lenOf, hsz]
      · have he : (ByteArray.mk x.toArray).extract 0 x.length = ⟨x.toArray⟩ := by
          apply ByteArray.ext
          rw [ByteArray.data_extract]
          apply Array.ext'
          simp
        simp [Builtin.firstCells, he]
      · intro u hu
        simp only [List.mem_map] at hu
        obtain ⟨b, _, rfl⟩ := hu
        rfl
      · intro i r j c u hi hj hu
        simp only [List.getElem?_map] at hi
        cases hb : x[i]? with
        | none => rw [hb] at hi; cases hi
        | some b =>
          rw [hb] at hi
          cases hi
          cases j with
          | zero =>
            simp at hj
            subst hj
            simp [hb] at hu
            subst hu
            exact .p _ _ (.i _ _)
          | succ j => simp at hj
    · cases hs
  · rename_i id ver off n
    unfold srcR at hs
    split at hs
    · rename_i sz' ver' rs hid
      split at hs
      · rename_i hc
        obtain ⟨rfl, rfl, hlen⟩ := hc
        cases hs
        obtain ⟨q1, q2, q3⟩ := hm.obj id _ hid
        cases hv with
        | gsDead _ _ _ _ ad cap hdead => rcases q1 with ⟨q1, _⟩ | ⟨b, tot, ty, vs, q1, _⟩ <;> (rw [hdead] at q1; cases q1)
        | gsNil _ _ hn => simp; exact src_none 0
        | gs _ _ _ _ b sz tot o' cap hat hnc hmm hcap ho' h0' =>
          rcases q1 with ⟨q1, _⟩ | ⟨b', tot', ty, vs, q1, g1, g2, g3, g4, g5, g6⟩
          · rw [hat] at q1; cases q1
          rw [hat] at q1
          cases q1
          rcases Nat.eq_zero_or_pos n with rfl | hn
          · simp only [List.take_zero]
            exact src_slice h0 _ 0 cap [] rfl (by simp) (fun i r j c hi => by simp at hi)
          · refine src_slice h0 _ n cap _ (by simp; omega) hr ?_
            intro i r j c hi hj
            rw [List.getElem?_take] at hi
            split at hi
            case isFalse => cases hi
            case isTrue hin =>
            rw [List.getElem?_drop] at hi
            have hrl : r.length = sz' := g4 r (List.mem_of_getElem? hi)
            have hjl : j < r.length := by
              rcases Nat.lt_or_ge j r.length with h' | h'
              · exact h'
              · rw [List.getElem?_eq_none h'] at hj; cases hj
            have hlt : (off + i) * sz' + j < vs.size := by
              have h8 : (off + i + 1) * sz' ≤ tot * sz' := Nat.mul_le_mul_right _ (by omega)
              rw [Nat.add_mul (off + i) 1] at h8
              omega
            refine ⟨vs[(off + i) * sz' + j], ?_, g5 _ r j c _ hi hj (by simp [hlt]), g6 _ _ (Array.getElem?_eq_getElem hlt)⟩
            rw [ho' (by omega), Addr.add_lit, show off * sz' + (i * sz' + j) = (off + i) * sz' + j by rw [Nat.add_mul]; omega]
            simp [World.cell?, g1, hlt]
      · cases hs
    · cases hs
  · cases hs
section
variable {t u ty e:TypeId} {i:TypeInfo} {z:Value} {du:TypeDesc}
theorem run_app_room (ht:P.underlying t=some (.slice e)) (hu:P.underlying u=some du) (hdu:(∃ e',du=.slice e')\/du=.string) (hi:P.info? e=some i)
  {w:World} {g n cap m:Nat} {cur:Array Value} {ty':TypeId} (hg:w.heap[g]?=some (.cells cur ty' (0,0))) {yv:Value} {news:List Value} (hl:news.length=m * i.size)
  (hlen:∀ w',(Builtin.lenOf yv).run P w'=.ok m w') (hfirst:∀ w':World,w'.heap=w.heap->(Builtin.firstCells i.size m yv).run P w'=.ok news.toArray w') (h1:∀ u∈news,u.oneCell'=true)
  (hroom:n+m<=cap) (hfit:n * i.size+news.length<=cur.size) :
  (Builtin.append_ #[t,u] ty #[.slice (some ⟨g,0,none⟩) n cap,yv]).run P w =
   .ok (.slice (some ⟨g,0,none⟩) (n+m) cap) (w.setRow g (cur.toList.take (n * i.size)++news++cur.toList.drop (n * i.size+news.length)).toArray):=by
 have hst:=run_storeCells_at P g (n * i.size) ty' news 0 cur w hg (by simpa using hfit) h1
 simp only [Nat.add_zero] at hst
 have hf:=hfirst w rfl
 rcases hdu with ⟨e',rfl⟩ | rfl <;>
  simp [Builtin.append_,run_underlying ht,run_underlying hu,sizeOf,typeInfo,hi,hlen,hroom,hf,Addr.add_lit,hst]
theorem run_app_none (ht:P.underlying t=some (.slice e)) (hu:P.underlying u=some du) (hdu:(∃ e',du=.slice e')\/du=.string) (hi:P.info? e=some i)
  {w:World} {yv:Value} {news:List Value} (hlen:∀ w',(Builtin.lenOf yv).run P w'=.ok 0 w') (hfirst:∀ w':World,w'.heap=w.heap->(Builtin.firstCells i.size 0 yv).run P w'=.ok news.toArray w') :
  (Builtin.append_ #[t,u] ty #[.slice none 0 0,yv]).run P w=.ok (.slice none 0 0) w:=by
 have hf:=hfirst w rfl
 rcases hdu with ⟨e',rfl⟩ | rfl <;>
  simp [Builtin.append_,run_underlying ht,run_underlying hu,sizeOf,typeInfo,hi,hlen,hf]
theorem run_app_zero (ht:P.underlying t=some (.slice e)) (hu:P.underlying u=some (.int .i64)) (hi:P.info? e=some i) (hz:i.zero=some z) (h0:0<i.size)
  {w:World} {k:Int} (hk:0<k) (h63:k<=140737488355328) (hb:k * i.bytes<=140737488355328) :
  (Builtin.append_ #[t,u] ty #[.slice none 0 0,.int .i64 k]).run P w =
   .ok (.slice (some ⟨w.heap.size,0,none⟩) k.toNat (grownCap w k.toNat 0 e))
    (w.drew.alloc (.cells (Builtin.zeroCells z.cells k.toNat++Builtin.zeroCells z.cells (grownCap w k.toNat 0 e - k.toNat)) e)):=by
 have hw:IntKind.i64.wrap k=k:=by simp [IntKind.wrap,IntKind.bits,IntKind.signed]; omega
 have hneg:¬ (k<0):=by omega
 have hgt:¬ (281474976710656<k * i.bytes):=by omega
 have hkk:((k.toNat:Nat):Int)=k:=Int.toNat_of_nonneg (by omega)
 have hn:¬ (k.toNat=0):=by omega
 have hsz:¬ (k.toNat * i.size=0):=by
  intro h
  rcases Nat.mul_eq_zero.1 h with h | h <;> omega
 have hbn:k.toNat * i.bytes<=140737488355328:=by
  have:((k.toNat * i.bytes:Nat):Int)<=140737488355328:=by rw [Int.natCast_mul,hkk]; exact hb
  omega
 have h63':¬ (9223372036854775807<k):=by omega
 have h48:=growslice_fits (need:=k.toNat) (old:=0) (bytes:=i.bytes) (by omega) hbn
 have h48':¬ (281474976710656<Builtin.nextslicecap k.toNat 0 * i.bytes):=by omega
 simp [Builtin.append_,run_underlying ht,run_underlying hu,sizeOf,typeInfo,zeroValue,hi,hz,hw,hneg,hgt,hn,hkk,hsz,h63',h48',Question.forced,newRow,grownCap,asInt,asIntOf,Builtin.firstCells]
 have hle:¬ (k<=0):=by omega
 have hmx:¬ (9223372036854775807<max k 0):=by omega
 rw [if_neg hle,if_neg hmx]
theorem run_app_grow (ht:P.underlying t=some (.slice e)) (hu:P.underlying u=some du) (hdu:(∃ e',du=.slice e')\/du=.string) (hi:P.info? e=some i) (hz:i.zero=some z)
  {w:World} {base:Option Addr} {n cap m:Nat} {olds:List Value} {yv:Value} {news:List Value}
  (hlen:∀ w',(Builtin.lenOf yv).run P w'=.ok m w') (hfirst:∀ w':World,w'.heap=w.heap->(Builtin.firstCells i.size m yv).run P w'=.ok news.toArray w')
  (hold:∀ w':World,w'.heap=w.heap->(Builtin.firstCells i.size n (.slice base n cap)).run P w'=.ok olds.toArray w')
  (hg:cap<n+m) (h63:n+m<=140737488355328) (hb:(n+m) * i.bytes<=140737488355328) :
  (Builtin.append_ #[t,u] ty #[.slice base n cap,yv]).run P w =
   .ok (.slice (some ⟨w.heap.size,0,none⟩) (n+m) (grownCap w (n+m) cap e))
    (w.drew.alloc (.cells (olds.toArray++news.toArray++Builtin.zeroCells z.cells (grownCap w (n+m) cap e - (n+m))) e)):=by
 have hn:¬ (n+m<=cap):=by omega
 have h63':¬ (9223372036854775807<((n:Int)+(m:Int))):=by omega
 have h48:=growslice_fits (need:=n+m) (old:=cap) (bytes:=i.bytes) (by omega) hb
 have h48':¬ (281474976710656<Builtin.nextslicecap (n+m) cap * i.bytes):=by omega
 have hf:=hfirst w.drew rfl
 have hfo:=hold w.drew rfl
 rcases hdu with ⟨e',rfl⟩ | rfl
 ·simp [Builtin.append_,run_underlying ht,run_underlying hu,sizeOf,typeInfo,zeroValue,hi,hz,hlen,hn,h63',h48',Question.forced,hf,hfo,newRow,grownCap]
  congr 2
  apply Array.ext'
  simp [List.append_assoc]
 ·simp [Builtin.append_,run_underlying ht,run_underlying hu,sizeOf,typeInfo,zeroValue,hi,hz,hlen,hn,h63',h48',Question.forced,hf,hfo,newRow,grownCap]
  congr 2
  apply Array.ext'
  simp [List.append_assoc]
end
end Go.AM
set_option linter.all false
namespace Go.AM
variable {lv:List Nat} {P:Program} {N:Nat} {o:Oper} {st:St} {K:St->Prop} {θ:Th} {W:Im}
theorem zeroCells_mem {z:Array Value} {n j:Nat} {u:Value} (h0:0<z.size) (h:(Builtin.zeroCells z n)[j]?=some u):∃ k:Nat,z[k]?=some u:=by
 have hlt:j<n * z.size:=by
  rcases Nat.lt_or_ge j (n * z.size) with h' | h'
  ·exact h'
  ·rw [Array.getElem?_eq_none (by rw [size_zeroCells]; exact h')] at h; cases h
 have hm:=Nat.mod_lt j h0
 refine ⟨j % z.size,?_⟩
 simp [Builtin.zeroCells,hlt,hm] at h
 simp [hm,h]
theorem rows_join {sz n m:Nat} {rs ys:List (List AV)} {olds news:List Value} {zs:Array Value} (hsz:0<sz) (hn:n<=rs.length) (ho:olds.length=n * sz) (hl:news.length=m * sz) (hm:ys.length=m)
  (hr:∀ r∈rs,r.length=sz) (hy:∀ r∈ys,r.length=sz)
  (h1:∀ (i:Nat) (r:List AV) (j:Nat) (c:AV) (u:Value),i<n->rs[i]?=some r->r[j]?=some c->olds[i * sz+j]?=some u->ARel θ W c u)
  (h2:∀ (i:Nat) (r:List AV) (j:Nat) (c:AV) (u:Value),ys[i]?=some r->r[j]?=some c->news[i * sz+j]?=some u->ARel θ W c u) :
  ∀ (i:Nat) (r:List AV) (j:Nat) (c:AV) (u:Value),(rs.take n++ys)[i]?=some r->r[j]?=some c->(olds++news++zs.toList)[i * sz+j]?=some u->ARel θ W c u:=by
 intro i r j c u hi hj hu
 have htl:(rs.take n).length=n:=by simp; omega
 rcases Nat.lt_or_ge i n with hlt | hge
 ·rw [List.getElem?_append_left (by omega),List.getElem?_take,if_pos hlt] at hi
  have hrl:r.length=sz:=hr r (List.mem_of_getElem? hi)
  have hjl:j<r.length:=by
   rcases Nat.lt_or_ge j r.length with h' | h'
   ·exact h'
   ·rw [List.getElem?_eq_none h'] at hj; cases hj
  have:(i+1) * sz<=n * sz:=Nat.mul_le_mul_right _ hlt
  rw [Nat.add_mul] at this
  rw [List.append_assoc,List.getElem?_append_left (by omega)] at hu
  exact h1 i r j c u hlt hi hj hu
 ·rw [List.getElem?_append_right (by omega),htl] at hi
  have hrl:r.length=sz:=hy r (List.mem_of_getElem? hi)
  have hjl:j<r.length:=by
   rcases Nat.lt_or_ge j r.length with h' | h'
   ·exact h'
   ·rw [List.getElem?_eq_none h'] at hj; cases hj
  have hil:i - n<ys.length:=by
   rcases Nat.lt_or_ge (i - n) ys.length with h' | h'
   ·exact h'
   ·rw [List.getElem?_eq_none h'] at hi; cases hi
  have e1:i * sz=n * sz+(i - n) * sz:=by rw [<- Nat.add_mul]; congr 1; omega
  have e2:(i - n+1) * sz<=m * sz:=Nat.mul_le_mul_right _ (by omega)
  rw [Nat.add_mul] at e2
  rw [List.append_assoc,List.getElem?_append_right (by omega),List.getElem?_append_left (by omega)] at hu
  rw [show i * sz+j - olds.length=(i - n) * sz+j by omega] at hu
  exact h2 (i - n) r j c u hi hj hu
theorem arr3 (a b:List Value) (z:Array Value) (j:Nat):(a.toArray++b.toArray++z)[j]?=(a++b++z.toList)[j]?:=by
 rw [<- Array.getElem?_toList]
 simp
theorem one_join {z:Array Value} {k:Nat} {olds news:List Value} (h0:0<z.size) (h1:∀ u∈olds,u.oneCell'=true) (h2:∀ u∈news,u.oneCell'=true) (h3:∀ (j:Nat) (u:Value),z[j]?=some u->u.oneCell'=true) :
  ∀ (j:Nat) (u:Value),(olds.toArray++news.toArray++Builtin.zeroCells z k)[j]?=some u->u.oneCell'=true:=by
 intro j u hu
 have hu':(olds++news++(Builtin.zeroCells z k).toList)[j]?=some u:=by rw [<- arr3]; exact hu
 have hmem:=List.mem_of_getElem? hu'
 simp only [List.mem_append] at hmem
 rcases hmem with (h | h) | h
 ·exact h1 u h
 ·exact h2 u h
 ·obtain ⟨j',hj'⟩:=List.getElem?_of_mem h
  obtain ⟨k',hk'⟩:=zeroCells_mem h0 (by simpa using hj')
  exact h3 k' u hk'
theorem size_join {z:Array Value} {sz n m nc:Nat} {olds news:List Value} (hz:z.size=sz) (ho:olds.length=n * sz) (hl:news.length=m * sz) (hc:n+m<=nc) :
  (olds.toArray++news.toArray++Builtin.zeroCells z (nc - (n+m))).size=nc * sz:=by
 simp only [Array.size_append,List.size_toArray,size_zeroCells,hz,ho,hl,<- Nat.add_mul]
 congr 1
 omega
theorem run_app_op {c:Call} {x y:Operand} {t u:TypeId} (ho:o.op=.call c) (hc:c.callee=.builtin .append) (hargs:c.args=#[x,y]) (hty:c.argTypes=#[t,u]) (a:Act) (w:World) :
  (execOp a.eval o).run P w=((Builtin.append_ #[t,u] o.type #[a.eval x,a.eval y]).run P w).andThen fun v w=>.ok (.value v) w:=by
 simp [execOp,ho,resolve,hc,hargs,hty,invoke,builtin]
theorem ok_app {c : Call} {x y : Operand} {t u e : TypeId} {i : TypeInfo} {zl : List AV} {du : TypeDesc} {mx my : MA} (ho : o.op = .call c) (hc : c.callee = .builtin .append) (hargs : c.args = #[x, y]) (hty : c.argTypes = #[t, u])
    (ht : P.underlying t = some (.slice e)) (hu : P.underlying u = some du) (hdu : (∃ e', du = .slice e') ∨ du = .string) (hi : P.info? e = some i) (hz : zeroOf P e = some zl) (hzl : zl.length = i.size) (h0 : 0 < i.size)
    (hx : cArg lv x = some mx) (hy : cArg lv y = some my)
    (hd : o.dst.all (decide <| · < N) = true) (h : appK i.size i.bytes (st.get mx) (st.get my) (cDst lv o.dst) K st) : OpOk lv P N o st K := by
  intro a w θ W next Q hR hk
  have h1 := hR.arg hx
  have h2 := hR.arg hy
  have hrun := run_app_op (P := P) ho hc hargs hty a w
  obtain ⟨i', zv, hi', hzv, hv⟩ := zeroOf_inv hz
  rw [hi] at hi'
  cases hi'
  obtain ⟨z1, z2, z3⟩ := ofVals1_rel hv θ W
  have hzs : zv.cells.size = i.size := by rw [← hzl, ← z1]; simp
  have hz3 : ∀ (j : Nat) (u : Value), zv.cells[j]? = some u → u.oneCell' = true := fun j u hj => z3 j u (by simpa using hj)
  unfold appK appY at h
  split at h
  case h_2 => exact h.elim
  case h_1 ys hys =>
  obtain ⟨hyr, h⟩ := h
  obtain ⟨news, s1, s2, s3, s4, s5⟩ := src_ok (P := P) hR.mem h0 h2 hys hyr
  unfold appX at h
  split at h
  case h_3 => exact h.elim
  case h_1 e1 =>
    obtain ⟨hb, hb63, hK⟩ := h
    rw [e1] at h1
    generalize hva : a.eval x = v at h1 hrun
    cases h1.p_inv
    by_cases hm : ys.length = 0
    · have hys0 : ys = [] := List.eq_nil_of_length_eq_zero hm
      subst hys0
      have hr2 := run_app_none (P := P) (ty := o.type) ht hu hdu hi (w := w) (news := news) s2 s3
      rw [hr2] at hrun
      obtain ⟨a1, a2⟩ := hR.mem.push (w' := w) (.rows i.size 0 []) .nil rfl rfl rfl (Nat.le_refl _) (fun _ _ => rfl) (fun b sz tot e => by cases e) (fun e => by cases e)
        (fun _ => ⟨.inl ⟨thSet_same _ _ _ _, rfl⟩, fun v' hv' => by rw [thSet_other (by omega)]; exact hR.mem.out _ _ (Nat.le_refl _), fun v' hv' => by omega⟩)
      exact end_value hR hd hk hrun (.gsNil _ 0 (thSet_same _ _ _ _)) a1 a2 hK
    · have hr2 := run_app_grow (P := P) (ty := o.type) ht hu hdu hi hzv (w := w) (base := none) (n := 0) (cap := 0) (olds := []) s2 s3 (fun w' _ => rfl) (by omega) (by omega) (by rw [Nat.zero_add]; exact hb)
      rw [hr2] at hrun
      have hge := grownCap_ge w (0 + ys.length) 0 e
      obtain ⟨θ', a1, a2, a3⟩ := newrows (w0 := w.drew) hR.mem i.size ys _ e (grownCap w (0 + ys.length) 0 e) rfl rfl rfl rfl (size_join (n := 0) (m := ys.length) (olds := []) hzs (by simp) s1 hge) (by omega) hyr
        (fun p r j q u hp hj hu' => rows_join (θ := θ) (W := W) (rs := []) (olds := []) (n := 0) (zs := Builtin.zeroCells zv.cells (grownCap w (0 + ys.length) 0 e - (0 + ys.length))) h0 (by simp) (by simp) s1 rfl (by simp) hyr (fun i r j c u hlt => by omega) s5 p r j q u (by simpa using hp) hj (by rw [← arr3]; exact hu'))
        (one_join (olds := []) (by omega) (by simp) s4 hz3)
      refine end_value hR hd hk hrun ?_ a1 a2 hK
      rw [Nat.zero_add] at hge a3 ⊢
      exact .gs _ 0 0 _ w.heap.size i.size _ 0 _ a3 hge (by unfold maxL; omega) (by omega) (fun _ => by simp) (fun _ => rfl)
  case h_2 id ver off n e1 =>
    unfold appR at h
    split at h
    case h_2 => exact h.elim
    case h_1 sz' ver' rs hid =>
    obtain ⟨rfl, rfl, rfl, hnr, hb, hb63, hK⟩ := h
    rw [e1] at h1
    generalize hva : a.eval x = v at h1 hrun
    have hidl : id < st.H.length := by
      rcases Nat.lt_or_ge id st.H.length with h' | h'
      · exact h'
      · rw [List.getElem?_eq_none h'] at hid; cases hid
    obtain ⟨q1, q2, q3⟩ := hR.mem.obj id _ hid
    have grown : ∀ (base : Option Addr) (cap : Nat) (olds : List Value), v = .slice base n cap → θ id ver' ≠ .no → (∀ k sz tot, θ id ver' = .at k sz tot → True) → olds.length = n * i.size → (∀ u ∈ olds, u.oneCell' = true) → (∀ r ∈ rs, r.length = i.size) →
        (∀ w' : World, w'.heap = w.heap → (Builtin.firstCells i.size n (.slice base n cap)).run P w' = .ok olds.toArray w') →
        (∀ (p : Nat) (r : List AV) (j : Nat) (q : AV) (u : Value), p < n → rs[p]? = some r → r[j]? = some q → olds[p * i.size + j]? = some u → ARel θ W q u) → cap < n + ys.length → o.wp P a w next Q := by
      intro base cap olds hvv hno _ hol ho1 hrl hold hor hgt
      have hr2 := run_app_grow (P := P) (ty := o.type) ht hu hdu hi hzv (w := w) (base := base) (n := n) (cap := cap) (olds := olds) s2 s3 hold hgt hb63 hb
      rw [hvv, hr2] at hrun
      have hge := grownCap_ge w (n + ys.length) cap e
      obtain ⟨a1, a2⟩ := hR.mem.grow (w' := w.drew.alloc (.cells (olds.toArray ++ news.toArray ++ Builtin.zeroCells zv.cells (grownCap w (n + ys.length) cap e - (n + ys.length))) e)) id ver' (.rows i.size (ver' + 1) (rs.take n ++ ys)) (.at w.heap.size i.size (grownCap w (n + ys.length) cap e)) hidl hno (q2 _ (by omega)) rfl rfl rfl (by simp)
        (fun k hk' _ => RowKit.Below.heap_alloc w.drew _ k hk') (fun b sz tot e' => by cases e'; exact .inr rfl)
        (fun hrel => ⟨.inr ⟨w.heap.size, _, e, _, thSet_same _ _ _ _, heap_alloc_new w.drew _, size_join hzs hol s1 hge, by simp; omega, fun r hr => by
            rcases List.mem_append.1 hr with hr | hr
            · exact hrl r (List.mem_of_mem_take hr)
            · exact hyr r hr,
          fun p r j q u hp hj hu' => hrel _ _ (rows_join (θ := θ) (W := W) (zs := Builtin.zeroCells zv.cells (grownCap w (n + ys.length) cap e - (n + ys.length))) h0 hnr hol s1 rfl hrl hyr hor s5 p r j q u hp hj (by rw [← arr3]; exact hu')),
          one_join (by omega) ho1 s4 hz3⟩, fun v' hv' => by rw [thSet_other (by omega), thSet_other (by omega)]; exact q2 v' (by omega), fun v' hv' => by
            rw [thSet_other (by omega)]
            by_cases ev : v' = ver'
            · subst ev; exact thSet_same _ _ _ _
            · rw [thSet_other (by omega)]; exact q3 v' (by omega)⟩)
      exact end_value hR hd hk hrun (.gs id _ 0 _ w.heap.size i.size _ 0 _ (thSet_same _ _ _ _) hge (by unfold maxL; omega) (by omega) (fun _ => by simp) (fun _ => rfl)) a1 a2 hK
    cases h1 with
    | gsDead _ _ _ _ ad cap hdead => rcases q1 with ⟨q1, _⟩ | ⟨b, tot, ty, vs, q1, _⟩ <;> (rw [hdead] at q1; cases q1)
    | gsNil _ _ hn =>
      rcases q1 with ⟨_, rfl⟩ | ⟨b, tot, ty, vs, q1, _⟩
      · by_cases hm : ys.length = 0
        · have hys0 : ys = [] := List.eq_nil_of_length_eq_zero hm
          subst hys0
          have hr2 := run_app_none (P := P) (ty := o.type) ht hu hdu hi (w := w) (news := news) s2 s3
          rw [hr2] at hrun
          obtain ⟨a1, a2⟩ := hR.mem.grow (w' := w) id ver' (.rows i.size (ver' + 1) (List.take 0 [] ++ [])) .nil hidl (by rw [hn]; exact fun e' => by cases e') (q2 _ (by omega)) rfl rfl rfl (Nat.le_refl _) (fun _ _ _ => rfl) (fun b sz tot e' => by cases e')
            (fun _ => ⟨.inl ⟨thSet_same _ _ _ _, rfl⟩, fun v' hv' => by rw [thSet_other (by omega), thSet_other (by omega)]; exact q2 v' (by omega), fun v' hv' => by
              rw [thSet_other (by omega)]
              by_cases ev : v' = ver'
              · subst ev; exact thSet_same _ _ _ _
              · rw [thSet_other (by omega)]; exact q3 v' (by omega)⟩)
          exact end_value hR hd hk hrun (.gsNil _ _ (thSet_same _ _ _ _)) a1 a2 hK
        · exact grown none 0 [] rfl (by rw [hn]; exact fun e' => by cases e') (fun _ _ _ _ => trivial) (by simp) (by simp) (by simp) (fun w' _ => rfl) (fun p r j q u hp => by omega) (by omega)
      · rw [hn] at q1; cases q1
    | gs _ _ _ _ b sz tot o' cap hat hnc hmm hcap ho' h0' =>
      rcases q1 with ⟨q1, _⟩ | ⟨b', tot', ty, vs, q1, g1, g2, g3, g4, g5, g6⟩
      · rw [hat] at q1; cases q1
      rw [hat] at q1
      cases q1
      have e0 : o' = 0 := h0' rfl
      subst e0
      have hct : cap = tot := by omega
      subst hct
      by_cases hroom : n + ys.length ≤ cap
      · have hfit : n * i.size + news.length ≤ vs.size := by rw [s1, g2, ← Nat.add_mul]; exact Nat.mul_le_mul_right _ hroom
        have hr2 := run_app_room (P := P) (ty := o.type) ht hu hdu hi (w := w) (n := n) (cap := cap) g1 s1 s2 s3 s4 hroom hfit
        rw [hr2] at hrun
        have hfit' : n * i.size + news.length ≤ vs.toList.length := by simpa using hfit
        obtain ⟨a1, a2⟩ := hR.mem.grow (w' := w.setRow b (vs.toList.take (n * i.size) ++ news ++ vs.toList.drop (n * i.size + news.length)).toArray) id ver' (.rows i.size (ver' + 1) (rs.take n ++ ys)) (.at b i.size cap) hidl (by rw [hat]; exact fun e' => by cases e') (q2 _ (by omega)) rfl rfl rfl (Nat.le_of_eq (size_setRow' _ _ _).symm)
          (fun k hk' hne => setRow_other _ _ _ _ (fun e' => hne _ _ (e' ▸ hat))) (fun b' sz' tot' e' => by cases e'; exact .inl ⟨_, _, hat⟩)
          (fun hrel => ⟨.inr ⟨b, cap, ty, _, thSet_same _ _ _ _, setRow_heap w b vs _ ty _ g1, by simp; omega, by simp; omega, fun r hr => by
              rcases List.mem_append.1 hr with hr | hr
              · exact g4 r (List.mem_of_mem_take hr)
              · exact hyr r hr,
            fun p r j q u hp hj hu' => hrel _ _ (by
              have hol : (vs.toList.take (n * i.size)).length = n * i.size := by simp; omega
              refine rows_join (θ := θ) (W := W) (zs := (vs.toList.drop (n * i.size + news.length)).toArray) h0 hnr hol s1 rfl g4 hyr ?_ s5 p r j q u hp hj (by simpa using hu')
              intro p' r' j' c' u' hlt hp' hj' hu2
              rw [List.getElem?_take] at hu2
              split at hu2
              · exact g5 p' r' j' c' u' hp' hj' (by simpa using hu2)
              · cases hu2),
            fun j u hu' => by
              have hu'' : (vs.toList.take (n * i.size) ++ news ++ vs.toList.drop (n * i.size + news.length))[j]? = some u := by simpa using hu'
              rw [getElem?_over _ _ _ _ hfit'] at hu''
              split at hu''
              · exact g6 j u (by simpa using hu'')
              · split at hu''
                · exact s4 u (List.mem_of_getElem? hu'')
                · exact g6 j u (by simpa using hu'')⟩, fun v' hv' => by rw [thSet_other (by omega), thSet_other (by omega)]; exact q2 v' (by omega), fun v' hv' => by
              rw [thSet_other (by omega)]
              by_cases ev : v' = ver'
              · subst ev; exact thSet_same _ _ _ _
              · rw [thSet_other (by omega)]; exact q3 v' (by omega)⟩)
        exact end_value hR hd hk hrun (.gs id _ 0 _ b i.size cap 0 _ (thSet_same _ _ _ _) hroom (by unfold maxL; omega) (by omega) (fun _ => by simp) (fun _ => rfl)) a1 a2 hK
      · refine grown (some ⟨b, 0, none⟩) cap (vs.toList.take (n * i.size)) rfl (by rw [hat]; exact fun e' => by cases e') (fun _ _ _ _ => trivial) ?_ ?_ g4 ?_ ?_ (by omega)
        · have : n * i.size ≤ cap * i.size := Nat.mul_le_mul_right _ (by omega)
          simp; omega
        · intro u hu'
          obtain ⟨j, hj⟩ := List.getElem?_of_mem (List.mem_of_mem_take hu')
          exact g6 j u (by simpa using hj)
        · intro w' hw'
          refine run_firstCells_some (P := P) w' i.size n _ n cap _ ?_ ?_
          · have : n * i.size ≤ cap * i.size := Nat.mul_le_mul_right _ (by omega)
            simp; omega
          · intro j v hj
            rw [cell_heap hw', Addr.add_lit]
            rw [List.getElem?_take] at hj
            split at hj
            · simpa [World.cell?, g1] using hj
            · cases hj
        · intro p r j q u hlt hp hj hu'
          rw [List.getElem?_take] at hu'
          split at hu'
          · exact g5 p r j q u hp hj (by simpa using hu')
          · cases hu'
theorem ok_appz {c:Call} {x y:Operand} {t u e:TypeId} {i:TypeInfo} {zl:List AV} {mx my:MA} (ho:o.op=.call c) (hc:c.callee=.builtin .append) (hargs:c.args=#[x,y]) (hty:c.argTypes=#[t,u])
  (ht:P.underlying t=some (.slice e)) (hu:P.underlying u=some (.int .i64)) (hi:P.info? e=some i) (hz:zeroOf P e=some zl) (hzl:zl.length=i.size) (h0:0<i.size)
  (hx:cArg lv x=some mx) (hy:cArg lv y=some my)
  (hd:o.dst.all (decide <| ·<N)=true) (h:appzK i.size i.bytes (st.get mx) (st.get my) (cDst lv o.dst) K st):OpOk lv P N o st K:=by
 intro a w θ W next Q hR hk
 have h1:=hR.arg hx
 have h2:=hR.arg hy
 have hrun:=run_app_op (P:=P) ho hc hargs hty a w
 obtain ⟨i',zv,hi',hzv,hv⟩:=zeroOf_inv hz
 rw [hi] at hi'
 cases hi'
 obtain ⟨z1,z2,z3⟩:=ofVals1_rel hv θ W
 have hzs:zv.cells.size=i.size:=by rw [<- hzl,<- z1]; simp
 have hz3:∀ (j:Nat) (u:Value),zv.cells[j]?=some u->u.oneCell'=true:=fun j u hj=>z3 j u (by simpa using hj)
 unfold appzK at h
 split at h
 case h_2=>exact h.elim
 case h_1 k e1 e2 =>
 obtain ⟨hk0,hb,h63,hK⟩:=h
 rw [e1] at h1
 rw [e2] at h2
 have e4:=h2.i_inv
 generalize hva:a.eval x=v at h1 hrun
 cases h1.p_inv
 rw [e4,run_app_zero (P:=P) (ty:=o.type) ht hu hi hzv h0 hk0 h63 hb] at hrun
 have hge:=grownCap_ge w k.toNat 0 e
 have hcs:∀ (j:Nat) (u:Value),(Builtin.zeroCells zv.cells k.toNat++Builtin.zeroCells zv.cells (grownCap w k.toNat 0 e - k.toNat))[j]?=some u->u.oneCell'=true:=by
  intro j u hu
  rw [Array.getElem?_append] at hu
  split at hu
  ·obtain ⟨k,hk⟩:=zeroCells_mem (by omega) hu; exact hz3 _ _ hk
  ·obtain ⟨k,hk⟩:=zeroCells_mem (by omega) hu; exact hz3 _ _ hk
 have hsz:(Builtin.zeroCells zv.cells k.toNat++Builtin.zeroCells zv.cells (grownCap w k.toNat 0 e - k.toNat)).size=grownCap w k.toNat 0 e * i.size:=by
  simp only [Array.size_append,Builtin.zeroCells,Array.size_map,Array.size_range,hzs]
  rw [<- Nat.add_mul]
  congr 1
  omega
 obtain ⟨θ',a1,a2,a3⟩:=newrows (w0:=w.drew) hR.mem i.size [] _ e (grownCap w k.toNat 0 e) rfl rfl rfl rfl hsz (by simp) (by simp) (fun p r j q u hp=>by simp at hp) hcs
 exact end_value hR hd hk hrun (.gs _ 0 0 _ w.heap.size i.size _ 0 _ a3 hge (by unfold maxL; omega) (by omega) (fun _=>by simp) (fun _=>rfl)) a1 a2 hK
end Go.AM
set_option linter.all false
namespace Go.AM
variable {lv:List Nat} {P:Program} {N:Nat} {o:Oper} {st:St} {K:St->Prop} {θ:Th} {W:Im}
theorem fold_over (off : Nat) : ∀ (l : List Value) (s : Nat) (cs : Array Value), off + s + l.length ≤ cs.size →
    (((l.zipIdx s).foldl (fun (cs : Array Value) (p : Value × Nat) => cs.setIfInBounds (off + p.2) p.1) cs).size = cs.size) ∧
    ∀ k, ((l.zipIdx s).foldl (fun (cs : Array Value) (p : Value × Nat) => cs.setIfInBounds (off + p.2) p.1) cs)[k]? = if off + s ≤ k ∧ k < off + s + l.length then l[k - (off + s)]? else cs[k]?
  | [], s, cs, _ => ⟨rfl, fun k => by rw [if_neg (by simp only [List.length_nil]; omega)]; rfl⟩
  | v :: l, s, cs, h => by
    simp only [List.zipIdx_cons, List.foldl_cons]
    simp only [List.length_cons] at h
    obtain ⟨h1, h2⟩ := fold_over off l (s + 1) (cs.setIfInBounds (off + s) v) (by simp; omega)
    refine ⟨by rw [h1]; simp, fun k => ?_⟩
    rw [h2]
    simp only [List.length_cons]
    by_cases e : k = off + s
    · subst e
      rw [if_neg (by omega), if_pos (by omega)]
      have : off + s < cs.size := by omega
      simp [this]
    · by_cases c : off + (s + 1) ≤ k ∧ k < off + (s + 1) + l.length
      · rw [if_pos c, if_pos (by omega)]
        have e2 : k - (off + s) = (k - (off + (s + 1))) + 1 := by omega
        rw [e2, List.getElem?_cons_succ]
      · rw [if_neg c, if_neg (by omega)]
        rw [Array.getElem?_setIfInBounds_ne (by omega)]
structure CRel (θ:Th) (W:Im) (cs:List AV) (vs:Array Value):Prop where
 size:vs.size=cs.length
 rel:∀ (j:Nat) (c:AV) (v:Value),cs[j]?=some c->vs[j]?=some v->ARel θ W c v
 one:∀ (j:Nat) (v:Value),vs[j]?=some v->v.oneCell'=true
theorem CRel.over {cs us cs':List AV} {vs uv:Array Value} {off:Nat} (h:CRel θ W cs vs) (hu:CRel θ W us uv) (hs:splice cs off us=some cs') (hne:us≠[]) :
  off+uv.size<=vs.size/\CRel θ W cs' (uv.zipIdx.foldl (fun (cs:Array Value) (p:Value × Nat)=>cs.setIfInBounds (off+p.2) p.1) vs):=by
 obtain ⟨h1,h2⟩:=splice_spec hs hne
 have hul:=hu.size
 have hvl:=h.size
 have e:uv.zipIdx.foldl (fun (cs:Array Value) (p:Value × Nat)=>cs.setIfInBounds (off+p.2) p.1) vs=(uv.toList.zipIdx 0).foldl (fun (cs:Array Value) (p:Value × Nat)=>cs.setIfInBounds (off+p.2) p.1) vs:=by
  rw [<- Array.foldl_toList,Array.toList_zipIdx]
 obtain ⟨f1,f2⟩:=fold_over off uv.toList 0 vs (by simp; omega)
 refine ⟨by omega,?_,?_,?_⟩
 ·rw [e,f1,h2]; simp; omega
 ·intro j c v hj hv
  rw [e,f2] at hv
  rw [h2,getElem?_over _ _ _ _ h1] at hj
  simp only [Nat.add_zero,Array.length_toList] at hv
  split at hj
  ·rename_i c1
   rw [if_neg (by omega)] at hv
   exact h.rel j c v hj hv
  ·rename_i c1
   split at hj
   ·rename_i c2
    rw [if_pos (by omega)] at hv
    exact hu.rel _ c v hj (by simpa using hv)
   ·rename_i c2
    rw [if_neg (by omega)] at hv
    exact h.rel j c v hj hv
 ·intro j v hv
  rw [e,f2] at hv
  split at hv
  ·exact hu.one _ v (by simpa using hv)
  ·exact h.one j v hv
theorem cells_crel {x:AV} {v:Value} (h:ARel θ W x v) (hx:x.allOne=true):CRel θ W x.cells v.cells:=by
 obtain ⟨a,b,c⟩:=cells_rel h hx
 exact ⟨a,b,c⟩
theorem fill_step (place:Nat->Option (Nat × Nat)) (cells:Array Value) (i:Nat) (v:Value) (rest:List (Nat × Value)) (off size:Nat) (hp:place i=some (off,size)) (h1:v.cells.size=size) (h2:off+v.cells.size<=cells.size) :
  Instr.fill place cells ((i,v) :: rest)=Instr.fill place (v.cells.zipIdx.foldl (fun (cs:Array Value) (p:Value × Nat)=>cs.setIfInBounds (off+p.2) p.1) cells) rest:=by
 have h3:¬ (v.cells.size≠size):=by simp [h1]
 have h4:¬ (off+v.cells.size > cells.size):=by omega
 simp [Instr.fill,hp,h1]
 intro h5
 omega
theorem fill_struct {t : TypeId} {fs : Array Field} {a : Act} {w : World} (hR : Rl lv N st a w θ W) (hfs : P.underlying t = some (.struct fs)) (places : Array (Nat × Nat))
    (hpl : ∀ (f : Nat) (fd : Field) (n : Nat), fs[f]? = some fd → sizeT P fd.type = some n → places[f]? = some (fd.offset, n)) :
    ∀ (ps : List (Nat × Operand)) (ms : List (Nat × Nat × MA)) (z z' : List AV) (vs : Array Value), cParts lv P t ps = some ms → partsV st ms z = some z' → CRel θ W z vs → (∀ m ∈ ms, 0 < m.2.1) →
      ∃ vs', Instr.fill (places[·]?) vs (ps.map fun p => (p.1, a.eval p.2)) = some vs' ∧ CRel θ W z' vs' := by
  intro ps
  induction ps with
  | nil =>
    intro ms z z' vs hc hp hr _
    cases hc
    cases hp
    exact ⟨vs, rfl, hr⟩
  | cons p ps ih =>
    obtain ⟨f, x⟩ := p
    intro ms z z' vs hc hp hr hpos
    simp only [cParts] at hc
    split at hc
    case h_2 => cases hc
    case h_1 off ft n m l h1 h2 h3 =>
    cases hc
    rw [partsV_cons] at hp
    split at hp
    case isFalse => cases hp
    case isTrue hcc =>
    simp only [Bool.and_eq_true, beq_iff_eq] at hcc
    have hn : 0 < n := hpos (off, n, m) (by simp)
    have hu := cells_crel (hR.arg h2) hcc.1
    cases hs : splice z off (st.get m).cells with
    | none => rw [hs] at hp; cases hp
    | some z1 =>
      rw [hs] at hp
      have hne : (st.get m).cells ≠ [] := fun e => by rw [e] at hcc; simp at hcc; omega
      obtain ⟨o1, o2⟩ := hr.over hu hs hne
      have hplace : places[f]? = some (off, n) := by
        unfold fieldOf at h1
        rw [hfs] at h1
        simp only at h1
        cases hfd : fs[f]? with
        | none => rw [hfd] at h1; cases h1
        | some fd =>
          rw [hfd] at h1
          simp only at h1
          cases hz : sizeT P fd.type with
          | none => rw [hz] at h1; cases h1
          | some n' => rw [hz] at h1; cases h1; exact hpl f fd n hfd hz
      obtain ⟨vs', v1, v2⟩ := ih l z1 z' _ h3 hp o2 (fun m hm => hpos m (List.mem_cons_of_mem _ hm))
      refine ⟨vs', ?_, v2⟩
      rw [List.map_cons, fill_step _ _ _ _ _ off n hplace (by rw [hu.size, hcc.2]) o1]
      exact v1
theorem run_places_list : ∀ (l : List Field), (∀ f ∈ l, ∃ n, sizeT P f.type = some n) → ∀ w, ∃ ps : List (Nat × Nat), (l.mapM fun f => do pure (f.offset, ← sizeOf f.type) : Sem _).run P w = .ok ps w ∧ ∀ (k : Nat) (fd : Field) (n : Nat), l[k]? = some fd → sizeT P fd.type = some n → ps[k]? = some (fd.offset, n)
  | [], _, w => ⟨[], by simp, fun k fd n hk => by simp at hk⟩
  | f :: l, h, w => by
    obtain ⟨n, hn⟩ := h f (by simp)
    obtain ⟨i, hi, hsz⟩ := sizeT_inv hn
    obtain ⟨ps, h1, h2⟩ := run_places_list l (fun f hf => h f (List.mem_cons_of_mem _ hf)) w
    refine ⟨(f.offset, n) :: ps, ?_, ?_⟩
    · simp only [bind_pure_comp] at h1 ⊢
      simp [List.mapM_cons, sizeOf, typeInfo, hi, hsz] at h1 ⊢
      simp [h1]
    · intro k fd m hk hm
      cases k with
      | zero => simp at hk; subst hk; rw [hn] at hm; cases hm; rfl
      | succ k => simp at hk ⊢; exact h2 k fd m hk hm
theorem run_places (fs:Array Field) (h:∀ f∈fs,∃ n,sizeT P f.type=some n) (w:World) :
  ∃ places:Array (Nat × Nat),(fs.mapM fun f=>do pure (f.offset,<- sizeOf f.type):Sem _).run P w=.ok places w/\∀ (k:Nat) (fd:Field) (n:Nat),fs[k]?=some fd->sizeT P fd.type=some n->places[k]?=some (fd.offset,n):=by
 obtain ⟨ps,h1,h2⟩:=run_places_list (P:=P) fs.toList (fun f hf=>h f (by simpa using hf)) w
 refine ⟨ps.toArray,?_,fun k fd n hk hn=>by simpa using h2 k fd n (by simpa using hk) hn⟩
 rw [Array.mapM_eq_mapM_toList]
 simp only [bind_pure_comp] at h1 ⊢
 simp [h1]
theorem ok_build {t : TypeId} {ps : Array (Nat × Operand)} {fs : Array Field} {z : List AV} {ms : List (Nat × Nat × MA)} (ho : o.op = .build t ps) (hfs : P.underlying t = some (.struct fs)) (hsz : ∀ f ∈ fs, ∃ n, sizeT P f.type = some n) (hz : zeroOf P t = some z) (hps : cParts lv P t ps.toList = some ms) (hpos : ∀ m ∈ ms, 0 < m.2.1)
    (hd : o.dst.all (decide <| · < N) = true) (h : withV (buildV st z ms) (cDst lv o.dst) K st) : OpOk lv P N o st K := by
  intro a w θ W next Q hR hk
  obtain ⟨v, hv, hK⟩ := withV_inv h
  obtain ⟨i, zv, hi, hzv, hz1⟩ := zeroOf_inv hz
  obtain ⟨z1, z2, z3⟩ := ofVals1_rel hz1 θ W
  rw [buildV_eq] at hv
  cases hp : partsV st ms z with
  | none => rw [hp] at hv; cases hv
  | some z' =>
    rw [hp] at hv
    cases hv
    obtain ⟨places, p1, p2⟩ := run_places (P := P) fs hsz w
    obtain ⟨vs', f1, f2⟩ := fill_struct hR hfs places p2 ps.toList ms z z' zv.cells hps hp ⟨by simpa using z1, fun j c v hj hv => z2 j c v hj (by simpa using hv), fun j v hv => z3 j v (by simpa using hv)⟩ hpos
    refine end_same hR hd hk (v := .agg vs') ?_ (.st z' vs' f2.size f2.rel f2.one) hK
    have f1' : Instr.fill (places[·]?) zv.cells (ps.map fun x => (x.1, a.eval x.2)).toList = some vs' := by simpa using f1
    simp only [bind_pure_comp] at p1
    simp [execOp, ho, Instr.build, zeroValue, typeInfo, hi, hzv, run_underlying hfs, p1]
    simp at f1'
    rw [f1']
    rfl
structure RRel (θ:Th) (W:Im) (sz:Nat) (rs:List (List AV)) (vs:Array Value):Prop where
 size:vs.size=rs.length * sz
 len:∀ r∈rs,r.length=sz
 rel:∀ (i:Nat) (r:List AV) (j:Nat) (c:AV) (v:Value),rs[i]?=some r->r[j]?=some c->vs[i * sz+j]?=some v->ARel θ W c v
 one:∀ (j:Nat) (v:Value),vs[j]?=some v->v.oneCell'=true
theorem RRel.set {sz:Nat} {rs:List (List AV)} {vs uv:Array Value} {us:List AV} {i:Nat} (h:RRel θ W sz rs vs) (hu:CRel θ W us uv) (hl:us.length=sz) (hi:i<rs.length) :
  i * sz+uv.size<=vs.size/\RRel θ W sz (rs.set i us) (uv.zipIdx.foldl (fun (cs:Array Value) (p:Value × Nat)=>cs.setIfInBounds (i * sz+p.2) p.1) vs):=by
 have hul:=hu.size
 have hvl:=h.size
 have h8:(i+1) * sz<=rs.length * sz:=Nat.mul_le_mul_right _ hi
 rw [Nat.add_mul] at h8
 have e:uv.zipIdx.foldl (fun (cs:Array Value) (p:Value × Nat)=>cs.setIfInBounds (i * sz+p.2) p.1) vs=(uv.toList.zipIdx 0).foldl (fun (cs:Array Value) (p:Value × Nat)=>cs.setIfInBounds (i * sz+p.2) p.1) vs:=by
  rw [<- Array.foldl_toList,Array.toList_zipIdx]
 obtain ⟨f1,f2⟩:=fold_over (i * sz) uv.toList 0 vs (by simp; omega)
 refine ⟨by omega,?_,?_,?_,?_⟩
 ·rw [e,f1]; simpa using hvl
 ·intro r hr
  rcases List.mem_or_eq_of_mem_set hr with hr | rfl
  ·exact h.len r hr
  ·exact hl
 ·intro k r j c v hk hj hv
  rw [e,f2] at hv
  simp only [Nat.add_zero,Array.length_toList] at hv
  by_cases hki:k=i
  ·subst hki
   rw [List.getElem?_set_self hi] at hk
   cases hk
   have hjl:j<us.length:=by
    rcases Nat.lt_or_ge j us.length with h' | h'
    ·exact h'
    ·rw [List.getElem?_eq_none h'] at hj; cases hj
   rw [if_pos (by omega),show k * sz+j - k * sz=j by omega] at hv
   exact hu.rel j c v hj (by simpa using hv)
  ·rw [List.getElem?_set_ne (Ne.symm hki)] at hk
   have hrl:=h.len r (List.mem_of_getElem? hk)
   have hjl:j<r.length:=by
    rcases Nat.lt_or_ge j r.length with h' | h'
    ·exact h'
    ·rw [List.getElem?_eq_none h'] at hj; cases hj
   have hout:¬ (i * sz<=k * sz+j/\k * sz+j<i * sz+uv.size):=by
    rintro ⟨q1,q2⟩
    rcases Nat.lt_or_gt_of_ne hki with hl' | hl'
    ·have:=Nat.mul_le_mul_right sz hl'; rw [Nat.succ_mul] at this; omega
    ·have:=Nat.mul_le_mul_right sz hl'; rw [Nat.succ_mul] at this; omega
   rw [if_neg hout] at hv
   exact h.rel k r j c v hk hj hv
 ·intro j v hv
  rw [e,f2] at hv
  split at hv
  ·exact hu.one _ v (by simpa using hv)
  ·exact h.one j v hv
theorem fill_rows {sz : Nat} {a : Act} {w : World} (hR : Rl lv N st a w θ W) :
    ∀ (ps : List (Nat × Operand)) (ms : List (Nat × MA)) (rs rs' : List (List AV)) (vs : Array Value), cElems lv ps = some ms → rowsV st sz ms rs = some rs' → RRel θ W sz rs vs →
      ∃ vs', Instr.fill (fun i => some (i * sz, sz)) vs (ps.map fun p => (p.1, a.eval p.2)) = some vs' ∧ RRel θ W sz rs' vs' ∧ rs'.length = rs.length := by
  intro ps
  induction ps with
  | nil =>
    intro ms rs rs' vs hc hp hr
    cases hc
    cases hp
    exact ⟨vs, rfl, hr, rfl⟩
  | cons p ps ih =>
    obtain ⟨i, x⟩ := p
    intro ms rs rs' vs hc hp hr
    simp only [cElems] at hc
    split at hc
    case h_2 => cases hc
    case h_1 m l h1 h2 =>
    cases hc
    rw [rowsV_cons] at hp
    split at hp
    case isFalse => cases hp
    case isTrue hcc =>
    simp only [Bool.and_eq_true, beq_iff_eq, decide_eq_true_eq] at hcc
    have hu := cells_crel (hR.arg h1) hcc.1.1
    obtain ⟨o1, o2⟩ := hr.set hu hcc.1.2 hcc.2
    obtain ⟨vs', v1, v2, v3⟩ := ih l (rs.set i (st.get m).cells) rs' _ h2 hp o2
    refine ⟨vs', ?_, v2, by rw [v3]; simp⟩
    rw [List.map_cons, fill_step _ _ _ _ _ (i * sz) sz rfl (by rw [hu.size, hcc.1.2]) o1]
    exact v1
theorem bsl_run {t e:TypeId} {n sz:Nat} {ps:Array (Nat × Operand)} {z:List AV} {ms:List (Nat × MA)} (ho:o.op=.buildSlice t n ps) (ht:P.underlying t=some (.slice e)) (hsz:sizeT P e=some sz) (hz:zeroOf P e=some z) (hzl:z.length=sz) (h0:0<sz) (hmax:n * sz<=16777216)
  (hps:cElems lv ps.toList=some ms) {a:Act} {w:World} (hR:Rl lv N st a w θ W) {rs:List (List AV)} (hrs:rowsV st sz ms (List.replicate n z)=some rs) :
  ∃ vs',(execOp a.eval o).run P w=.ok (.value (.slice (some ⟨w.heap.size,0,none⟩) n n)) (w.alloc (.cells vs' e))/\RRel θ W sz rs vs'/\rs.length=n:=by
 obtain ⟨i,zv,hi,hzv,hz1⟩:=zeroOf_inv hz
 obtain ⟨z1,z2,z3⟩:=ofVals1_rel hz1 θ W
 obtain ⟨i',hi',hisz⟩:=sizeT_inv hsz
 rw [hi] at hi'
 cases hi'
 have hzs:zv.cells.size=sz:=by rw [<- hzl,<- z1]; simp
 have hcell:∀ k,k<n * sz->(madeCells zv.cells (n * sz))[k]?=zv.cells[k % sz]?:=by
  intro k hk'
  have hm:k % sz<zv.cells.size:=by rw [hzs]; exact Nat.mod_lt _ h0
  simp [madeCells,hk',hzs,hm,Nat.mod_lt _ h0]
 have hrr:RRel θ W sz (List.replicate n z) (madeCells zv.cells (n * sz)):=by
  refine ⟨by rw [size_madeCells]; simp,by simp; intro _; exact hzl,?_,?_⟩
  ·intro p r j q u hp hj hu
   rw [List.getElem?_replicate] at hp
   split at hp
   ·rename_i hlt
    cases hp
    have hj':j<z.length:=by
     rcases Nat.lt_or_ge j z.length with h' | h'
     ·exact h'
     ·rw [List.getElem?_eq_none h'] at hj; cases hj
    have hlt2:p * sz+j<n * sz:=by
     have:(p+1) * sz<=n * sz:=Nat.mul_le_mul_right _ (by omega)
     rw [Nat.add_mul] at this
     omega
    rw [hcell _ hlt2,Nat.mul_comm,Nat.mul_add_mod,Nat.mod_eq_of_lt (by omega)] at hu
    exact z2 j q u hj (by simpa using hu)
   ·cases hp
  ·intro j u hu
   have hlt:j<n * sz:=by
    rcases Nat.lt_or_ge j (n * sz) with h' | h'
    ·exact h'
    ·rw [Array.getElem?_eq_none (by rw [size_madeCells]; exact h')] at hu; cases hu
   rw [hcell _ hlt] at hu
   exact z3 _ u (by simpa using hu)
 obtain ⟨vs',f1,f2,f3⟩:=fill_rows hR ps.toList ms _ rs _ hps hrs hrr
 have hrl:rs.length=n:=by rw [f3]; simp
 refine ⟨vs',?_,f2,hrl⟩
 have hnm:¬ 16777216<n * i.size:=by rw [hisz]; omega
 have e2:Array.map (fun x=>zv.cells[x % zv.cells.size]!) (Array.range (n * sz))=madeCells zv.cells (n * sz):=rfl
 have f1':Instr.fill (fun i=>some (i * sz,sz)) (madeCells zv.cells (n * sz)) (List.map (fun x=>(x.1,a.eval x.2)) ps.toList)=some vs':=by simpa using f1
 by_cases hn0:n=0
 ·subst hn0
  have e3:Array.map (fun _=>(default:Value)) (Array.range 0)=madeCells zv.cells (0 * sz):=by
   apply Array.ext'
   simp [madeCells]
  simp [execOp,ho,Instr.buildSlice,run_underlying ht,sizeOf,typeInfo,hi,newRow]
  rw [hisz,e3,f1']
  rfl
 ·have hne:¬ n * i.size=0:=by rw [hisz]; exact fun e=>by rcases Nat.mul_eq_zero.1 e with e | e <;> omega
  simp [execOp,ho,Instr.buildSlice,run_underlying ht,sizeOf,typeInfo,zeroValue,hi,hzv,hnm,newRow,hn0]
  rw [if_neg (by omega)]
  rw [hisz,e2,f1']
  rfl
theorem ok_bsl {t e : TypeId} {n sz : Nat} {ps : Array (Nat × Operand)} {z : List AV} {ms : List (Nat × MA)} (ho : o.op = .buildSlice t n ps) (ht : P.underlying t = some (.slice e)) (hsz : sizeT P e = some sz) (hz : zeroOf P e = some z) (hzl : z.length = sz) (h0 : 0 < sz) (hmax : n * sz ≤ 16777216)
    (hps : cElems lv ps.toList = some ms) (hd : o.dst.all (decide <| · < N) = true) (h : newK ((rowsV st sz ms (List.replicate n z)).map fun rs => .rows sz 0 rs) (fun id => .gs id 0 0 n) (cDst lv o.dst) K st) : OpOk lv P N o st K := by
  intro a w θ W next Q hR hk
  cases hrs : rowsV st sz ms (List.replicate n z) with
  | none => rw [hrs] at h; exact h.elim
  | some rs =>
    rw [hrs] at h
    obtain ⟨vs', hrun, f2, hrl⟩ := bsl_run ho ht hsz hz hzl h0 hmax hps hR hrs
    obtain ⟨θ', a1, a2, a3⟩ := newrows (w0 := w) hR.mem sz rs vs' e n rfl rfl rfl rfl (by rw [f2.size, hrl]) (by omega) f2.len f2.rel f2.one
    have hn1 : n ≤ n * sz := Nat.le_mul_of_pos_right n h0
    exact end_value hR hd hk (v := .slice (some ⟨w.heap.size, 0, none⟩) n n) hrun (.gs _ 0 0 n w.heap.size sz n 0 n a3 (Nat.le_refl _) (by unfold maxL; omega) (by omega) (fun _ => by simp) (fun _ => rfl)) a1 a2 h
theorem bytesOf_spec {ys : List (List AV)} {l : List UInt8} (h : bytesOf ys = some l) : ∃ ns : List Int, ys = ns.map (fun n => [AV.p (.i .u8 n)]) ∧ l = ns.map (fun n => UInt8.ofNat n.toNat) := by
  induction ys generalizing l with
  | nil => cases h; exact ⟨[], rfl, rfl⟩
  | cons y ys ih =>
    unfold bytesOf at h
    split at h
    · rename_i e; cases e
    · rename_i n xs e
      cases e
      cases hb : bytesOf ys with
      | none => rw [hb] at h; cases h
      | some l' =>
        rw [hb] at h
        cases h
        obtain ⟨ns, h1, h2⟩ := ih hb
        exact ⟨n :: ns, by rw [h1]; rfl, by rw [h2]; rfl⟩
    · cases h
theorem ok_b2s {s t e : TypeId} {x : Operand} {m : MA} (ho : o.op = .convert s t x) (hs : P.underlying s = some (.slice e)) (he : P.underlying e = some (.int .u8)) (ht : P.underlying t = some .string) (hx : cArg lv x = some m)
    (hd : o.dst.all (decide <| · < N) = true) (h : withV (b2sV st.H (st.get m)) (cDst lv o.dst) K st) : OpOk lv P N o st K := by
  intro a w θ W next Q hR hk
  have h1 := hR.arg hx
  obtain ⟨v, hv, hK⟩ := withV_inv h
  have hb2 : ∃ ys l, srcRows st.H 1 (st.get m) = some ys ∧ ys.length ≤ 140737488355328 ∧ bytesOf ys = some l ∧ v = .p (.s l) ∧ ∀ s, a.eval x ≠ .string s := by
    have inv : ∀ o', b2sR o' = some v → ∃ ys l, o' = some ys ∧ ys.length ≤ 140737488355328 ∧ bytesOf ys = some l ∧ v = .p (.s l) := by
      intro o' ho'
      cases o' with
      | none => cases ho'
      | some ys =>
        simp only [b2sR] at ho'
        split at ho'
        · rename_i hl
          cases hb : bytesOf ys with
          | none => rw [hb] at ho'; cases ho'
          | some l => rw [hb] at ho'; cases ho'; exact ⟨ys, l, rfl, hl, hb, rfl⟩
        · cases ho'
    unfold b2sV at hv
    split at hv
    · rename_i ys e
      rw [e] at h1
      obtain ⟨ys', l, q1, q2, q3, q4⟩ := inv _ hv
      exact ⟨ys', l, by rw [e]; exact q1, q2, q3, q4, fun s hs => by rw [hs] at h1; cases h1.p_inv⟩
    · rename_i e
      rw [e] at h1
      obtain ⟨ys', l, q1, q2, q3, q4⟩ := inv _ hv
      cases q1
      exact ⟨[], l, by rw [e]; rfl, q2, q3, q4, fun s hs => by rw [hs] at h1; cases h1.p_inv⟩
    · rename_i id ver off n e
      rw [e] at h1
      obtain ⟨ys', l, q1, q2, q3, q4⟩ := inv _ hv
      exact ⟨ys', l, by rw [e]; exact q1, q2, q3, q4, fun s hs => by rw [hs] at h1; cases h1⟩
    · cases hv
  obtain ⟨ys, l, hys, hlen, hb, rfl, hstr⟩ := hb2
  obtain ⟨ns, e1, e2⟩ := bytesOf_spec hb
  obtain ⟨news, s1, s2, s3, s4, s5⟩ := src_ok (P := P) hR.mem (Nat.one_pos) h1 hys (by rw [e1]; intro r hr; simp only [List.mem_map] at hr; obtain ⟨n, _, rfl⟩ := hr; rfl)
  have hll : l.length = ys.length := by rw [e2, e1]; simp
  have hnews : news = ns.map (Value.int .u8) := by
    apply List.ext_getElem?
    intro k
    by_cases hk' : k < ns.length
    · have hkn : k < news.length := by rw [s1, e1]; simpa using hk'
      have := s5 k [AV.p (.i .u8 ns[k])] 0 (.p (.i .u8 ns[k])) news[k] (by rw [e1]; simp [hk']) rfl (by simp [hkn])
      have := this.i_inv
      simp [hk', hkn, this]
    · rw [List.getElem?_eq_none (by rw [s1, e1]; simp; omega), List.getElem?_eq_none (by simp; omega)]
  refine end_same hR hd hk (v := .string ⟨l.toArray⟩) ?_ (.p _ _ (.s _ (by rw [hll]; unfold maxL; omega))) hK
  generalize hva : a.eval x = va at h1 s2 s3 hstr
  have hsl : ∃ ad n cap, va = .slice ad n cap := by
    cases va with
    | slice ad n cap => exact ⟨ad, n, cap, rfl⟩
    | string s => exact (hstr s rfl).elim
    | _ => have := s2 w; simp [Builtin.lenOf] at this
  obtain ⟨ad, n, cap, rfl⟩ := hsl
  have hn : n = ys.length := by
    have := s2 w
    simp [Builtin.lenOf] at this
    exact this
  have hc := run_convert_bytes_string (P := P) w s t e ad n cap hs he ht
  cases ad with
  | none =>
    have h3 := s3 w rfl
    simp [Builtin.firstCells] at h3
    have hn0 : ns = [] := by
      rw [hnews] at h3
      cases ns with
      | nil => rfl
      | cons n ns => cases h3
    subst hn0
    simp at e2
    subst e2
    simp [execOp, ho, hva, hc, Conv.bytesToString]
    rfl
  | some ad =>
    have h3 := s3 w rfl
    have hload : (loadCells ad n).run P w = .ok (ns.map (Value.int .u8)).toArray w := by
      simpa [Builtin.firstCells, hn, hnews] using h3
    have hb2 := run_bytesToString (P := P) w ad n cap ns hload
    simp [execOp, ho, hva, hc, hb2, foldl_push_bytes]
    rw [e2]
end Go.AM