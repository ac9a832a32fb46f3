/- The operations, continued: slice expressions, new slices, appends, structs and slices that are written out, bytes to a string. -/
import Derived.Test.YteilijfligofdaaGreatDoorAm10
set_option linter.all false
namespace Go.AM
variable {lv:List Nat} {P:Program} {N:Nat} {o:Oper} {st:St} {K:St->Prop} {θ:Th} {W:Im}
def optVal (a:Act):Option Operand->Option Value
 | none=>none
 | some x=>some (a.eval x)
theorem run_bounds {isSlice : Bool} {lo hi : Option Value} {lo' hi' : Option AV} {len cap : Nat} {R : Nat → Nat → Prop} (hlen : len ≤ cap)
    (hlo : match lo, lo' with | none, none => True | some v, some x => ARel θ W x v | _, _ => False)
    (hhi : match hi, hi' with | none, none => True | some v, some x => ARel θ W x v | _, _ => False)
    (h : bndK lo' hi' len R) : ∃ a b, a ≤ b ∧ b ≤ len ∧ R a b ∧ ∀ w, (Instr.sliceBounds isSlice len cap lo hi none).run P w = .ok (a, b, cap) w := by
  unfold bndK at h
  split at h
  · cases lo with
    | some v => exact hlo.elim
    | none =>
      cases hi with
      | some v => exact hhi.elim
      | none => exact ⟨0, len, Nat.zero_le _, Nat.le_refl _, h, fun w => by simp [Instr.sliceBounds]⟩
  · rename_i k a
    cases lo with
    | none => exact hlo.elim
    | some v =>
      cases hi with
      | some v => exact hhi.elim
      | none =>
        have e := ARel.i_inv hlo
        subst e
        obtain ⟨h1, h2, h3⟩ := h
        exact ⟨a.toNat, len, by omega, Nat.le_refl _, h3, fun w => by simp [Instr.sliceBounds, Instr.sliceBound, asIntOf, h1, h2]⟩
  · rename_i k b
    cases lo with
    | some v => exact hlo.elim
    | none =>
      cases hi with
      | none => exact hhi.elim
      | some v =>
        have e := ARel.i_inv hhi
        subst e
        obtain ⟨h1, h2, h3⟩ := h
        have h4 : b ≤ (cap : Int) := by omega
        exact ⟨0, b.toNat, Nat.zero_le _, by omega, h3, fun w => by simp [Instr.sliceBounds, Instr.sliceBound, asIntOf, h1, h4]⟩
  · rename_i k a k' b
    cases lo with
    | none => exact hlo.elim
    | some v =>
      cases hi with
      | none => exact hhi.elim
      | some v' =>
        have e := ARel.i_inv hlo
        subst e
        have e := ARel.i_inv hhi
        subst e
        obtain ⟨h1, h2, h3, h4⟩ := h
        have h5 : b ≤ (cap : Int) := by omega
        have h6 : 0 ≤ b := by omega
        have h7 : a ≤ (b.toNat : Int) := by omega
        have h8 : ¬ max b 0 < a := by omega
        exact ⟨a.toNat, b.toNat, by omega, by omega, h4, fun w => by simp [Instr.sliceBounds, Instr.sliceBound, asIntOf, h1, h5, h6, h7, h8]⟩
  · exact h.elim
theorem Rl.opt {a : Act} {w : World} (h : Rl lv N st a w θ W) {x : Option Operand} {m : Option MA} (hx : cOpt lv x = some m) :
    match optVal a x, m.map st.get with | none, none => True | some v, some y => ARel θ W y v | _, _ => False := by
  cases x with
  | none => cases hx; trivial
  | some x =>
    simp only [cOpt] at hx
    cases hy : cArg lv x with
    | none => rw [hy] at hx; cases hx
    | some y => rw [hy] at hx; cases hx; exact h.arg hy
theorem optVal_map (a:Act) (x:Option Operand):x.map a.eval=optVal a x:=by cases x <;> rfl
theorem run_slc {t:TypeId} {x:Operand} {lo hi:Option Operand} {a:Act} (ho:o.op=.slice t x lo hi none) {d:TypeDesc} (e:P.underlying t=some d) (hna:∀ n e,d≠.array n e) (w:World) :
  (execOp a.eval o).run P w=((Instr.slice t (a.eval x) (optVal a lo) (optVal a hi) none).run P w).andThen fun v w=>.ok (.value v) w:=by
 have:(Instr.sliceAt t (a.eval x) (optVal a lo) (optVal a hi) none).run P w=(Instr.slice t (a.eval x) (optVal a lo) (optVal a hi) none).run P w:=by
  cases d <;> first | (exact (hna _ _ rfl).elim) | (simp [Instr.sliceAt,run_underlying e]; done)
 simp [execOp,ho,optVal_map,this]
theorem slcK_none_inv {x : AV} {lo hi : Option AV} {d : MD} (h : slcK none x lo hi d K st) : ∃ y, x = .p (.s y) ∧ bndK lo hi y.length fun a b => K (st.put d (.p (.s ((y.drop a).take (b - a))))) := by
  cases x with
  | p q => cases q with
    | s y => exact ⟨y, rfl, h⟩
    | _ => exact h.elim
  | _ => exact h.elim
theorem ok_slc_string {t:TypeId} {x:Operand} {lo hi:Option Operand} {m:MA} {ml mh:Option MA} (ho:o.op=.slice t x lo hi none) (ht:P.underlying t=some .string) (hx:cArg lv x=some m)
  (hlo:cOpt lv lo=some ml) (hhi:cOpt lv hi=some mh)
  (hd:o.dst.all (decide <| ·<N)=true) (h:slcK none (st.get m) (ml.map st.get) (mh.map st.get) (cDst lv o.dst) K st):OpOk lv P N o st K:=by
 intro a w θ W next Q hR hk
 have h1:=hR.arg hx
 have g1:=hR.opt hlo
 have g2:=hR.opt hhi
 have hagg:=run_slc (P:=P) (a:=a) ho ht (fun _ _=>by simp) w
 obtain ⟨y,e1,h⟩:=slcK_none_inv h
 rw [e1] at h1
 obtain ⟨e3,hy⟩:=h1.s_inv
 have hsz:(ByteArray.mk y.toArray).size=y.length:=by show y.toArray.size=_; simp
 obtain ⟨p,q,hpq,hq,hK,hrun⟩:=run_bounds (P:=P) (isSlice:=false) (Nat.le_refl _) g1 g2 h
 refine end_same hR hd hk (v:=.string ⟨(((y.drop p).take (q - p))).toArray⟩) ?_ (.p _ _ (.s _ (by simp; omega))) hK
 rw [hagg,e3]
 have he:(ByteArray.mk y.toArray).extract p q=⟨((y.drop p).take (q - p)).toArray⟩:=by
  apply ByteArray.ext
  rw [ByteArray.data_extract]
  apply Array.ext'
  simp [List.take_drop,Nat.add_sub_cancel' hpq]
 simp [Instr.slice,run_underlying ht,hsz,hrun,he]
theorem ok_slc {t e : TypeId} {sz : Nat} {x : Operand} {lo hi : Option Operand} {m : MA} {ml mh : Option MA} (ho : o.op = .slice t x lo hi none) (ht : P.underlying t = some (.slice e)) (hsz : sizeT P e = some sz) (hx : cArg lv x = some m)
    (hlo : cOpt lv lo = some ml) (hhi : cOpt lv hi = some mh)
    (hd : o.dst.all (decide <| · < N) = true) (h : slcK (some sz) (st.get m) (ml.map st.get) (mh.map st.get) (cDst lv o.dst) K st) : OpOk lv P N o st K := by
  intro a w θ W next Q hR hk
  have h1 := hR.arg hx
  have g1 := hR.opt hlo
  have g2 := hR.opt hhi
  have hagg := run_slc (P := P) (a := a) ho ht (fun _ _ => by simp) w
  obtain ⟨inf, hinf, hisz⟩ := sizeT_inv hsz
  have run : ∀ (ad : Option Addr) (len cap p q : Nat), a.eval x = .slice ad len cap → (∀ w, (Instr.sliceBounds true len cap (optVal a lo) (optVal a hi) none).run P w = .ok (p, q, cap) w) →
      (execOp a.eval o).run P w = .ok (.value (.slice (if cap = p then ad else ad.map (·.add (p * sz))) (q - p) (cap - p))) w := by
    intro ad len cap p q e1 e2
    rw [hagg, e1]
    simp [Instr.slice, run_underlying ht, e2, sizeOf, typeInfo, hinf, hisz]
  generalize hv : a.eval x = v at h1
  unfold slcK at h
  split at h
  case h_5 => exact h.elim
  case h_2 => rename_i e _; cases e
  case h_1 sz' xs e0 e1 =>
    cases e0
    obtain ⟨hall, h⟩ := h
    rw [e1] at h1
    cases h1.p_inv with
    | l _ ad cap sz' f hlen hmax hnil hsp hrow hcell hrel =>
      obtain ⟨p, q, hpq, hq, hK, hrun⟩ := run_bounds (P := P) (isSlice := true) hlen g1 g2 h
      refine end_same hR hd hk (run ad _ cap p q hv hrun) ?_ hK
      have hl : (List.take (q - p) (List.drop p xs)).length = q - p := by simp; omega
      have hget : ∀ (i : Nat) (r : List PV), (List.take (q - p) (List.drop p xs))[i]? = some r → xs[p + i]? = some r ∧ p < q := by
        intro i r hi
        rw [List.getElem?_take] at hi
        split at hi
        · rw [List.getElem?_drop] at hi; exact ⟨hi, by omega⟩
        · cases hi
      refine .p _ _ ?_
      have key := PRel.l (W := W) (List.take (q - p) (List.drop p xs)) (if cap = p then ad else ad.map (·.add (p * sz))) (cap - p) sz' (fun i j => f (p + i) j) (by omega) (by omega) ?_ ?_ (fun r hr => hrow r (List.mem_of_mem_drop (List.mem_of_mem_take hr))) ?_ (fun i r j c hi hj => hrel _ r j c (hget i r hi).1 hj)
      · rw [hl] at key
        exact key
      · intro hno
        split at hno
        · rename_i hcp; omega
        · cases ad with
          | none => have := hnil rfl; omega
          | some ad => cases hno
      · intro hne x' hx'
        have hne' : xs ≠ [] := by rintro rfl; simp at hne
        split at hx'
        · exact hsp hne' x' hx'
        · cases ad with
          | none => cases hx'
          | some ad => cases hx'; simp only [add_lit' ad (hsp hne' ad rfl)]
      · intro i r j c hi hj x' hx'
        obtain ⟨hi', hpq'⟩ := hget i r hi
        rw [if_neg (by omega)] at hx'
        cases ad with
        | none => cases hx'
        | some ad =>
          cases hx'
          have hss : sz = sz' := by
            rw [← hrow r (List.mem_of_getElem? hi'), hall r (List.mem_of_getElem? hi')]
          subst hss
          simp only [add_lit' ad (hsp (List.ne_nil_of_mem (List.mem_of_getElem? hi')) ad rfl)]
          have := hcell (p + i) r j c hi' hj ad rfl
          rw [Nat.add_mul] at this
          rw [show ad.off + p * sz + (i * sz + j) = ad.off + (p * sz + i * sz + j) by omega]
          exact this
  case h_3 sz' e0 e1 =>
    rw [e1] at h1
    cases h1.p_inv
    obtain ⟨p, q, hpq, hq, hK, hrun⟩ := run_bounds (P := P) (isSlice := true) (Nat.le_refl _) g1 g2 h
    obtain rfl : q = 0 := by omega
    obtain rfl : p = 0 := by omega
    exact end_same hR hd hk (run none _ _ _ _ hv hrun) (.p _ _ .nl) hK
  case h_4 sz' id ver off n e0 e1 =>
    cases e0
    rw [e1] at h1
    unfold slcR at h
    split at h
    case h_2 => exact h.elim
    case h_1 sz' ver' rs hid =>
    obtain ⟨rfl, rfl, h⟩ := h
    obtain ⟨q1, q2, q3⟩ := hR.mem.obj id _ hid
    cases h1 with
    | gsDead _ _ _ _ ad cap hdead => rcases q1 with ⟨q1, _⟩ | ⟨b, tot, ty, vs, q1, _⟩ <;> (rw [hdead] at q1; cases q1)
    | gsNil _ _ hn =>
      obtain ⟨p, q, hpq, hq, hK, hrun⟩ := run_bounds (P := P) (isSlice := true) (Nat.le_refl _) g1 g2 h
      obtain rfl : q = 0 := by omega
      obtain rfl : p = 0 := by omega
      exact end_same hR hd hk (run none _ _ _ _ hv hrun) (.gsNil _ _ hn) hK
    | gs _ _ _ _ b sz tot o' cap hat hnc hmm hcap ho' h0' =>
      rcases q1 with ⟨q1, _⟩ | ⟨b', tot', ty, vs, q1, _⟩
      · rw [hat] at q1; cases q1
      rw [hat] at q1
      cases q1
      obtain ⟨p, q, hpq, hq, hK, hrun⟩ := run_bounds (P := P) (isSlice := true) hnc g1 g2 h
      refine end_same hR hd hk (run _ _ cap p q hv hrun) ?_ hK
      by_cases hcp : cap = p
      · rw [if_pos hcp]
        exact .gs id _ _ _ b _ tot o' _ hat (by omega) (by omega) (by omega) (fun hlt => by omega) (fun h0 => h0' (by omega))
      · rw [if_neg hcp]
        simp only [Option.map_some, Addr.add_lit]
        exact .gs id _ _ _ b _ tot _ _ hat (by omega) (by omega) (by omega) (fun _ => by rw [ho' (by omega), Nat.add_mul]) (fun h0 => by
          have e1 : off = 0 := by omega
          have e2 : p = 0 := by omega
          subst e1; subst e2
          rw [h0' rfl]; simp)
end Go.AM
