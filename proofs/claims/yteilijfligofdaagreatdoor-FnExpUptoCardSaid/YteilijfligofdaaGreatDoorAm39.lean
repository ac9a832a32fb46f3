/- Owned trees that a call makes, laid at places that are kept for them. -/
import Derived.Test.YteilijfligofdaaGreatDoorAm38
set_option linter.all false
namespace Go.AM
variable {P:Program}
mutual
def nT:TV->Nat
 | .p _=>0
 | .s _ rows=>nK rows
def nK:List (List TV)->Nat
 | []=>0
 | r :: l=>1+(nC r+nR l)
def nC:List TV->Nat
 | []=>0
 | t :: l=>nT t+nC l
def nR:List (List TV)->Nat
 | []=>0
 | r :: l=>nC r+nR l
end
mutual
def layT:TV->List Nat->AV × List AO
 | .p x,_=>(.p x,[])
 | .s sz rows,ps=>layK sz rows ps
def layK (sz:Nat):List (List TV)->List Nat->AV × List AO
 | [],_=>(.p .nl,[])
 | r :: l,[]=>(.p .nl,[])
 | r :: l,p :: ps=>(.gs p 0 0 (l.length+1),.rows sz 0 ((layC r (ps.take (nC r))).1 :: (layR l (ps.drop (nC r))).1) :: ((layC r (ps.take (nC r))).2++(layR l (ps.drop (nC r))).2))
def layC:List TV->List Nat->List AV × List AO
 | [],_=>([],[])
 | t :: l,ps=>((layT t (ps.take (nT t))).1 :: (layC l (ps.drop (nT t))).1,(layT t (ps.take (nT t))).2++(layC l (ps.drop (nT t))).2)
def layR:List (List TV)->List Nat->List (List AV) × List AO
 | [],_=>([],[])
 | r :: l,ps=>((layC r (ps.take (nC r))).1 :: (layR l (ps.drop (nC r))).1,(layC r (ps.take (nC r))).2++(layR l (ps.drop (nC r))).2)
end
theorem layR_len:∀ (l:List (List TV)) (ps:List Nat),(layR l ps).1.length=l.length
 | [],ps=>by rw [layR]; rfl
 | r :: l,ps=>by rw [layR]; simp [layR_len l]
theorem layC_len:∀ (l:List TV) (ps:List Nat),(layC l ps).1.length=l.length
 | [],ps=>by rw [layC]; rfl
 | r :: l,ps=>by rw [layC]; simp [layC_len l]
mutual
theorem layT_os:∀ (t:TV) (ps:List Nat),ps.length=nT t->(layT t ps).2.length=nT t
 | .p x,ps,h=>by rw [layT,nT]; rfl
 | .s sz rows,ps,h=>by rw [layT,nT] at *; exact layK_os sz rows ps h
theorem layK_os (sz : Nat) : ∀ (l : List (List TV)) (ps : List Nat), ps.length = nK l → (layK sz l ps).2.length = nK l
  | [], ps, h => by rw [layK, nK]; rfl
  | r :: l, [], h => by rw [nK] at h; simp at h; omega
  | r :: l, p :: ps, h => by
    rw [nK] at h ⊢
    have h1 := layC_os r (ps.take (nC r)) (by simp at h ⊢; omega)
    have h2 := layR_os l (ps.drop (nC r)) (by simp at h ⊢; omega)
    rw [layK]
    simp only [List.length_cons, List.length_append, h1, h2]
    omega
theorem layC_os : ∀ (l : List TV) (ps : List Nat), ps.length = nC l → (layC l ps).2.length = nC l
  | [], ps, h => by rw [layC, nC]; rfl
  | t :: l, ps, h => by
    rw [nC] at h ⊢
    have h1 := layT_os t (ps.take (nT t)) (by simp; omega)
    have h2 := layC_os l (ps.drop (nT t)) (by simp; omega)
    rw [layC]
    simp only [List.length_append, h1, h2]
theorem layR_os : ∀ (l : List (List TV)) (ps : List Nat), ps.length = nR l → (layR l ps).2.length = nR l
  | [], ps, h => by rw [layR, nR]; rfl
  | r :: l, ps, h => by
    rw [nR] at h ⊢
    have h1 := layC_os r (ps.take (nC r)) (by simp; omega)
    have h2 := layR_os l (ps.drop (nC r)) (by simp; omega)
    rw [layR]
    simp only [List.length_append, h1, h2]
end
def At (X:List AO) (ps:List Nat) (os:List AO):Prop:=∀ (k p:Nat) (o:AO),ps[k]?=some p->os[k]?=some o->X[p]?=some o
theorem At.left {X:List AO} {ps:List Nat} {a b:List AO} {n:Nat} (h:At X ps (a++b)) (ha:a.length=n):At X (ps.take n) a:=fun k p o hk ho=>by
 have hl:=(List.getElem?_eq_some_iff.1 ho).1
 rw [List.getElem?_take_of_lt (by omega)] at hk
 exact h k p o hk (by rw [List.getElem?_append_left hl]; exact ho)
theorem At.right {X:List AO} {ps:List Nat} {a b:List AO} {n:Nat} (h:At X ps (a++b)) (ha:a.length=n):At X (ps.drop n) b:=fun k p o hk ho=>by
 rw [List.getElem?_drop] at hk
 exact h (n+k) p o hk (by rw [List.getElem?_append_right (by omega)]; rw [<- ho]; congr 1; omega)
mutual
def WfT:TV->Prop
 | .p _=>True
 | .s sz rows=>WfR sz rows
def WfC:List TV->Prop
 | []=>True
 | t :: l=>WfT t/\WfC l
def WfR (sz:Nat):List (List TV)->Prop
 | []=>True
 | r :: l=>r.length=sz/\WfC r/\WfR sz l
end
mutual
theorem layT_own:∀ (t:TV) (ps:List Nat) (X:List AO),WfT t->ps.length=nT t->At X ps (layT t ps).2->Own X t (layT t ps).1 ps
 | .p x,ps,X,hw,h,hg=>by rw [nT] at h; rw [layT,Own]; exact ⟨rfl,List.length_eq_zero_iff.1 h⟩
 | .s sz rows,ps,X,hw,h,hg=>by rw [nT] at h; rw [WfT] at hw; rw [layT] at *; exact layK_own sz rows ps X hw h hg
theorem layK_own (sz : Nat) : ∀ (l : List (List TV)) (ps : List Nat) (X : List AO), WfR sz l → ps.length = nK l → At X ps (layK sz l ps).2 → Own X (.s sz l) (layK sz l ps).1 ps
  | [], ps, X, hw, h, hg => by rw [nK] at h; rw [layK, Own]; exact .inl ⟨rfl, rfl, List.length_eq_zero_iff.1 h⟩
  | r :: l, [], X, hw, h, hg => by rw [nK] at h; simp at h; omega
  | r :: l, p :: ps, X, hw, h, hg => by
    rw [nK] at h
    rw [WfR] at hw
    rw [layK] at *
    have h1 : (layC r (ps.take (nC r))).2.length = nC r := layC_os r (ps.take (nC r)) (by simp at h ⊢; omega)
    have hp := hg 0 p _ rfl rfl
    have hr : At X ps ((layC r (ps.take (nC r))).2 ++ (layR l (ps.drop (nC r))).2) := fun k q o hk ho => hg (k + 1) q o (by simpa using hk) (by simpa using ho)
    have k1 := layC_own r (ps.take (nC r)) X hw.2.1 (by simp at h ⊢; omega) (hr.left h1)
    have k2 := layR_own sz l (ps.drop (nC r)) X hw.2.2 (by simp at h ⊢; omega) (hr.right h1)
    rw [Own]
    refine .inr ⟨p, 0, (layC r (ps.take (nC r))).1 :: (layR l (ps.drop (nC r))).1, ps, by simp [layR_len], rfl, hp, ?_⟩
    rw [OwnRs]
    exact ⟨_, _, _, _, rfl, (List.take_append_drop _ _).symm, by rw [layC_len]; exact hw.1, k1, k2⟩
theorem layC_own : ∀ (l : List TV) (ps : List Nat) (X : List AO), WfC l → ps.length = nC l → At X ps (layC l ps).2 → OwnCs X l (layC l ps).1 ps
  | [], ps, X, hw, h, hg => by rw [nC] at h; rw [layC, OwnCs]; exact ⟨rfl, List.length_eq_zero_iff.1 h⟩
  | t :: l, ps, X, hw, h, hg => by
    rw [nC] at h
    rw [WfC] at hw
    rw [layC] at *
    have h1 : (layT t (ps.take (nT t))).2.length = nT t := layT_os t _ (by simp; omega)
    have k1 := layT_own t (ps.take (nT t)) X hw.1 (by simp; omega) (At.left hg h1)
    have k2 := layC_own l (ps.drop (nT t)) X hw.2 (by simp; omega) (At.right hg h1)
    rw [OwnCs]
    exact ⟨_, _, _, _, rfl, (List.take_append_drop _ _).symm, k1, k2⟩
theorem layR_own (sz : Nat) : ∀ (l : List (List TV)) (ps : List Nat) (X : List AO), WfR sz l → ps.length = nR l → At X ps (layR l ps).2 → OwnRs X sz l (layR l ps).1 ps
  | [], ps, X, hw, h, hg => by rw [nR] at h; rw [layR, OwnRs]; exact ⟨rfl, List.length_eq_zero_iff.1 h⟩
  | r :: l, ps, X, hw, h, hg => by
    rw [nR] at h
    rw [WfR] at hw
    rw [layR] at *
    have h1 : (layC r (ps.take (nC r))).2.length = nC r := layC_os r _ (by simp; omega)
    have k1 := layC_own r (ps.take (nC r)) X hw.2.1 (by simp; omega) (At.left hg h1)
    have k2 := layR_own sz l (ps.drop (nC r)) X hw.2.2 (by simp; omega) (At.right hg h1)
    rw [OwnRs]
    exact ⟨_, _, _, _, rfl, (List.take_append_drop _ _).symm, by rw [layC_len]; exact hw.1, k1, k2⟩
end
mutual
theorem Own.nle {H : List AO} : ∀ {t : TV} {a : AV} {ids : List Nat}, Own H t a ids → nT t ≤ ids.length
  | .p x, a, ids, h => by rw [nT]; omega
  | .s sz rows, a, ids, h => by
    rw [Own] at h
    rw [nT]
    rcases h with ⟨rfl, _, _⟩ | ⟨id, ver, rs, js, rfl, rfl, h1, h2⟩
    · rw [nK]; omega
    · have := h2.nleR
      cases rows with
      | nil => rw [nK]; omega
      | cons r l => rw [nK]; rw [nR] at this; simp; omega
theorem OwnCs.nleC {H : List AO} : ∀ {ts : List TV} {cs : List AV} {ids : List Nat}, OwnCs H ts cs ids → nC ts ≤ ids.length
  | [], cs, ids, h => by rw [nC]; omega
  | t :: ts, cs, ids, h => by
    rw [OwnCs] at h
    obtain ⟨a, cs', i, js, rfl, rfl, h1, h2⟩ := h
    have := h1.nle
    have := h2.nleC
    rw [nC]; simp; omega
theorem OwnRs.nleR {H : List AO} {sz : Nat} : ∀ {rows : List (List TV)} {rs : List (List AV)} {ids : List Nat}, OwnRs H sz rows rs ids → nR rows ≤ ids.length
  | [], rs, ids, h => by rw [nR]; omega
  | row :: rows, rs, ids, h => by
    rw [OwnRs] at h
    obtain ⟨r, rs', i, js, rfl, rfl, h0, h1, h2⟩ := h
    have := h1.nleC
    have := h2.nleR
    rw [nR]; simp; omega
end
def thL (θ:Th) (n:Nat) (vr:Nat->Nat) (z:List (Nat × Nat)):Th:=fun i v=>match z.find? (fun q=>q.1 == i) with
 | some q=>if v=0 then θ q.2 (vr q.2) else .no
 | none=>if i<n then θ i v else .no
theorem zip_find : ∀ {ps ids : List Nat} {p id : Nat}, ps.Nodup → (p, id) ∈ ps.zip ids → (ps.zip ids).find? (fun q => q.1 == p) = some (p, id)
  | [], ids, p, id, _, h => by simp at h
  | q :: ps, [], p, id, _, h => by simp at h
  | q :: ps, j :: ids, p, id, hn, h => by
    rw [List.zip_cons_cons] at h ⊢
    rcases List.mem_cons.1 h with e | h
    · cases e; simp
    · have hne : q ≠ p := by rintro rfl; exact (List.nodup_cons.1 hn).1 (List.of_mem_zip h).1
      rw [List.find?_cons_of_neg (by simpa using hne)]
      exact zip_find (List.nodup_cons.1 hn).2 h
theorem zip_none {ps ids:List Nat} {i:Nat} (h:i ∉ ps):(ps.zip ids).find? (fun q=>q.1 == i)=none:=by
 rw [List.find?_eq_none]
 rintro ⟨a,b⟩ hm
 have:=(List.of_mem_zip hm).1
 simp
 rintro rfl
 exact h this
theorem zip_split {α:Type} {ps:List Nat} {i js:List α} {n:Nat} (h:i.length=n) (hl:n<=ps.length):ps.zip (i++js)=(ps.take n).zip i++(ps.drop n).zip js:=by
 conv=>lhs; rw [<- List.take_append_drop n ps]
 exact List.zip_append (by simp; omega)
theorem zip_app {α:Type} {i js:List Nat} {a b:List α} (h:i.length=a.length):(i++js).zip (a++b)=i.zip a++js.zip b:=List.zip_append h
section
variable {θ:Th} {W:Im} {X:List AO} {n:Nat} {vr:Nat->Nat} {z:List (Nat × Nat)}
theorem lay_relT (hvr : ∀ (id sz ver : Nat) rs, X[id]? = some (.rows sz ver rs) → vr id = ver) {t : TV} {a : AV} {ids ps : List Nat} (h : Own X t a ids) (hl : ids.length = nT t) (hp : ps.length = nT t) (hz : ∀ q ∈ ps.zip ids, z.find? (fun x => x.1 == q.1) = some q) :
    ∀ v, ARel θ W a v → ARel (thL θ n vr z) W (layT t ps).1 v := by
  intro v hv
  cases t with
  | p x => rw [Own] at h; rw [h.1] at hv; rw [layT]; exact .p _ _ hv.p_inv
  | s sz rows =>
    rw [Own] at h
    rw [nT] at hl hp
    rw [layT]
    rcases h with ⟨rfl, rfl, rfl⟩ | ⟨id, ver, rs, js, rfl, rfl, h1, h2⟩
    · rw [layK]; exact .p _ _ hv.p_inv
    · cases rows with
      | nil => rw [nK] at hl; simp at hl
      | cons r l =>
        cases ps with
        | nil => rw [nK] at hp; simp at hp; omega
        | cons p ps =>
          have hf := hz (p, id) (by simp)
          have e0 : thL θ n vr z p 0 = θ id ver := by
            unfold thL
            rw [hf]
            simp only [if_true, hvr _ _ _ _ h1]
          have hlen := h2.len
          rw [layK]
          simp only [List.length_cons] at hlen
          rw [hlen] at hv
          cases hv with
          | gsDead _ _ _ _ a cap hd hn hm => exact .gsDead _ _ _ _ a cap (e0.trans hd) hn hm
          | gs _ _ _ _ b sz' tot o cap hd hn hm hc ho h0 => exact .gs _ _ _ _ b sz' tot o cap (e0.trans hd) hn hm hc ho h0
theorem lay_relC (hvr : ∀ (id sz ver : Nat) rs, X[id]? = some (.rows sz ver rs) → vr id = ver) : ∀ {l : List TV} {cs : List AV} {ids ps : List Nat}, OwnCs X l cs ids → ids.length = nC l → ps.length = nC l → (∀ q ∈ ps.zip ids, z.find? (fun x => x.1 == q.1) = some q) →
    (layC l ps).1.length = cs.length ∧ ∀ (j : Nat) c c', cs[j]? = some c → (layC l ps).1[j]? = some c' → ∀ v, ARel θ W c v → ARel (thL θ n vr z) W c' v
  | [], cs, ids, ps, h, _, _, _ => by
    rw [OwnCs] at h; rw [layC, h.1]
    exact ⟨rfl, fun j c c' hc => by simp at hc⟩
  | t :: l, cs, ids, ps, h, hl, hp, hz => by
    rw [OwnCs] at h
    obtain ⟨a, cs', i, js, rfl, rfl, h1, h2⟩ := h
    have g1 := h1.nle
    have g2 := h2.nleC
    rw [nC] at hl hp
    simp at hl
    rw [zip_split (n := nT t) (by omega) (by omega)] at hz
    have r1 := lay_relT (θ := θ) (W := W) (n := n) hvr h1 (by omega) (ps := ps.take (nT t)) (by simp; omega) (fun q hq => hz q (by simp [hq]))
    obtain ⟨k1, k2⟩ := lay_relC hvr h2 (by omega) (ps := ps.drop (nT t)) (by simp; omega) (fun q hq => hz q (by simp [hq]))
    rw [layC]
    refine ⟨by simp [k1], fun j c c' hc hc' => ?_⟩
    cases j with
    | zero => simp at hc hc'; subst hc hc'; exact r1
    | succ j => exact k2 j c c' (by simpa using hc) (by simpa using hc')
theorem lay_relR (hvr : ∀ (id sz ver : Nat) rs, X[id]? = some (.rows sz ver rs) → vr id = ver) {sz : Nat} : ∀ {l : List (List TV)} {rs : List (List AV)} {ids ps : List Nat}, OwnRs X sz l rs ids → ids.length = nR l → ps.length = nR l → (∀ q ∈ ps.zip ids, z.find? (fun x => x.1 == q.1) = some q) →
    (layR l ps).1.length = rs.length ∧ ∀ (i : Nat) r r', rs[i]? = some r → (layR l ps).1[i]? = some r' → r'.length = r.length ∧ ∀ (j : Nat) c c', r[j]? = some c → r'[j]? = some c' → ∀ v, ARel θ W c v → ARel (thL θ n vr z) W c' v
  | [], rs, ids, ps, h, _, _, _ => by
    rw [OwnRs] at h; rw [layR, h.1]
    exact ⟨rfl, fun j c c' hc => by simp at hc⟩
  | t :: l, rs, ids, ps, h, hl, hp, hz => by
    rw [OwnRs] at h
    obtain ⟨a, cs', i, js, rfl, rfl, h0, h1, h2⟩ := h
    have g1 := h1.nleC
    have g2 := h2.nleR
    rw [nR] at hl hp
    simp at hl
    rw [zip_split (n := nC t) (by omega) (by omega)] at hz
    obtain ⟨r0, r1⟩ := lay_relC (θ := θ) (W := W) (n := n) hvr h1 (by omega) (ps := ps.take (nC t)) (by simp; omega) (fun q hq => hz q (by simp [hq]))
    obtain ⟨k1, k2⟩ := lay_relR hvr h2 (by omega) (ps := ps.drop (nC t)) (by simp; omega) (fun q hq => hz q (by simp [hq]))
    rw [layR]
    refine ⟨by simp [k1], fun j c c' hc hc' => ?_⟩
    cases j with
    | zero => simp at hc hc'; subst hc hc'; exact ⟨r0, r1⟩
    | succ j => exact k2 j c c' (by simpa using hc) (by simpa using hc')
def GoodO (θ:Th) (W:Im) (X:List AO) (n:Nat) (vr:Nat->Nat) (z:List (Nat × Nat)) (id:Nat) (o:AO):Prop:=∃ (sz ver:Nat) (rs rs':List (List AV)),X[id]?=some (.rows sz ver rs)/\o=.rows sz 0 rs'/\rs'.length=rs.length /\
 ∀ (i:Nat) r r',rs[i]?=some r->rs'[i]?=some r'->r'.length=r.length/\∀ (j:Nat) c c',r[j]?=some c->r'[j]?=some c'->∀ v,ARel θ W c v->ARel (thL θ n vr z) W c' v
mutual
theorem lay_objT (hvr : ∀ (id sz ver : Nat) rs, X[id]? = some (.rows sz ver rs) → vr id = ver) : ∀ {t : TV} {a : AV} {ids ps : List Nat}, Own X t a ids → ids.length = nT t → ps.length = nT t → (∀ q ∈ ps.zip ids, z.find? (fun x => x.1 == q.1) = some q) → ∀ q ∈ ids.zip (layT t ps).2, GoodO θ W X n vr z q.1 q.2
  | .p x, a, ids, ps, h, hl, hp, hz => by rw [layT]; simp
  | .s sz rows, a, ids, ps, h, hl, hp, hz => by
    rw [Own] at h
    rw [nT] at hl hp
    rw [layT]
    rcases h with ⟨rfl, rfl, rfl⟩ | ⟨id, ver, rs, js, rfl, rfl, h1, h2⟩
    · simp
    · cases rows with
      | nil => rw [nK] at hl; simp at hl
      | cons r l =>
        cases ps with
        | nil => rw [nK] at hp; simp at hp; omega
        | cons p ps =>
          rw [nK] at hl hp
          rw [layK]
          simp at hl hp
          have hz' : ∀ q ∈ ps.zip js, z.find? (fun x => x.1 == q.1) = some q := fun q hq => hz q (by simp [hq])
          have e : (layR (r :: l) ps) = ((layC r (ps.take (nC r))).1 :: (layR l (ps.drop (nC r))).1, (layC r (ps.take (nC r))).2 ++ (layR l (ps.drop (nC r))).2) := by rw [layR]
          obtain ⟨k1, k2⟩ := lay_relR (θ := θ) (W := W) (n := n) hvr h2 (by rw [nR]; omega) (ps := ps) (by rw [nR]; omega) hz'
          have k3 := lay_objR hvr h2 (by rw [nR]; omega) (ps := ps) (by rw [nR]; omega) hz'
          rw [e] at k1 k2 k3
          rintro q hq
          rw [List.zip_cons_cons] at hq
          rcases List.mem_cons.1 hq with rfl | hq
          · exact ⟨sz, ver, rs, _, h1, rfl, k1, k2⟩
          · exact k3 q hq
theorem lay_objC (hvr : ∀ (id sz ver : Nat) rs, X[id]? = some (.rows sz ver rs) → vr id = ver) : ∀ {l : List TV} {cs : List AV} {ids ps : List Nat}, OwnCs X l cs ids → ids.length = nC l → ps.length = nC l → (∀ q ∈ ps.zip ids, z.find? (fun x => x.1 == q.1) = some q) → ∀ q ∈ ids.zip (layC l ps).2, GoodO θ W X n vr z q.1 q.2
  | [], cs, ids, ps, h, hl, hp, hz => by rw [layC]; simp
  | t :: l, cs, ids, ps, h, hl, hp, hz => by
    rw [OwnCs] at h
    obtain ⟨a, cs', i, js, rfl, rfl, h1, h2⟩ := h
    have g1 := h1.nle
    have g2 := h2.nleC
    rw [nC] at hl hp
    simp at hl
    rw [zip_split (n := nT t) (by omega) (by omega)] at hz
    have r1 := lay_objT hvr h1 (by omega) (ps := ps.take (nT t)) (by simp; omega) (fun q hq => hz q (by simp [hq]))
    have k1 := lay_objC hvr h2 (by omega) (ps := ps.drop (nT t)) (by simp; omega) (fun q hq => hz q (by simp [hq]))
    have hos := layT_os t (ps.take (nT t)) (by simp; omega)
    rw [layC, zip_app (by omega)]
    intro q hq
    rcases List.mem_append.1 hq with hq | hq
    · exact r1 q hq
    · exact k1 q hq
theorem lay_objR (hvr : ∀ (id sz ver : Nat) rs, X[id]? = some (.rows sz ver rs) → vr id = ver) {sz : Nat} : ∀ {l : List (List TV)} {rs : List (List AV)} {ids ps : List Nat}, OwnRs X sz l rs ids → ids.length = nR l → ps.length = nR l → (∀ q ∈ ps.zip ids, z.find? (fun x => x.1 == q.1) = some q) → ∀ q ∈ ids.zip (layR l ps).2, GoodO θ W X n vr z q.1 q.2
  | [], rs, ids, ps, h, hl, hp, hz => by rw [layR]; simp
  | t :: l, rs, ids, ps, h, hl, hp, hz => by
    rw [OwnRs] at h
    obtain ⟨a, cs', i, js, rfl, rfl, h0, h1, h2⟩ := h
    have g1 := h1.nleC
    have g2 := h2.nleR
    rw [nR] at hl hp
    simp at hl
    rw [zip_split (n := nC t) (by omega) (by omega)] at hz
    have r1 := lay_objC hvr h1 (by omega) (ps := ps.take (nC t)) (by simp; omega) (fun q hq => hz q (by simp [hq]))
    have k1 := lay_objR hvr h2 (by omega) (ps := ps.drop (nC t)) (by simp; omega) (fun q hq => hz q (by simp [hq]))
    have hos := layC_os t (ps.take (nC t)) (by simp; omega)
    rw [layR, zip_app (by omega)]
    intro q hq
    rcases List.mem_append.1 hq with hq | hq
    · exact r1 q hq
    · exact k1 q hq
end
end
theorem find_mem {z:List (Nat × Nat)} {i:Nat} {q:Nat × Nat} (h:z.find? (fun x=>x.1 == i)=some q):q∈z/\q.1=i :=
 ⟨List.mem_of_find?_eq_some h,by have:=List.find?_some h; simpa using this⟩
theorem zip_idx {α β:Type} {l:List α} {m:List β} {q:α × β} (h:q∈l.zip m):∃ k:Nat,l[k]?=some q.1/\m[k]?=some q.2:=by
 obtain ⟨k,hk⟩:=List.getElem?_of_mem h
 rw [List.getElem?_zip_eq_some] at hk
 exact ⟨k,hk⟩
theorem nodup_idx {l:List Nat} (h:l.Nodup) {j k:Nat} {a:Nat} (hj:l[j]?=some a) (hk:l[k]?=some a):j=k:=by
 have h1:=(List.getElem?_eq_some_iff.1 hj)
 have h2:=(List.getElem?_eq_some_iff.1 hk)
 obtain ⟨l1,e1⟩:=h1
 obtain ⟨l2,e2⟩:=h2
 exact (List.getElem_inj h).1 (e1.trans e2.symm)
theorem acall_lay {f : Nat} {args : List AV} {H Hc : List AO} {ts : List TV} {ps : List Nat}
    (h : ACall P f args H (fun r H' => ∃ cs ids G, r = .st cs ∧ H' = Hc ++ G ∧ OwnCs H' ts cs ids ∧ ids.Nodup ∧ ids.length = nC ts ∧ ∀ i ∈ ids, H.length ≤ i)) (hlen : Hc.length = H.length)
    (hobj : ∀ (id : Nat) o, Hc[id]? = some o → ∀ c, InO c o → Tf c ∨ ∃ (id' : Nat) (o' : AO), H[id']? = some o' ∧ InO c o') (hnd : ps.Nodup) (hpl : ps.length = nC ts) (hp : ∀ i ∈ ps, H[i]? = some .rsv ∧ Hc[i]? = some .rsv) :
    ACall P f args H (pureQ (.st (layC ts ps).1) (setL Hc ps (layC ts ps).2)) := by
  refine ⟨h.1, fun w θ W vs hSR hrel => ?_⟩
  refine (h.2 w θ W vs hSR hrel).mono ?_
  rintro e w' ⟨v, r, H', θ', W', rfl, ⟨cs, ids, G, rfl, rfl, ho, hin, hil, hib⟩, hS', hv, hst⟩
  obtain ⟨vr, hvr⟩ : ∃ vr : Nat → Nat, ∀ (id sz ver : Nat) rs, (Hc ++ G)[id]? = some (.rows sz ver rs) → vr id = ver :=
    ⟨fun id => match (Hc ++ G)[id]? with | some (.rows _ ver _) => ver | _ => 0, fun id sz ver rs h => by simp only [h]⟩
  have hz : ∀ q ∈ ps.zip ids, (ps.zip ids).find? (fun x => x.1 == q.1) = some q := fun q hq => zip_find hnd hq
  obtain ⟨c1, c2⟩ := lay_relC (θ := θ') (W := W') (n := H.length) hvr ho hil hpl hz
  have o1 := lay_objC (θ := θ') (W := W') (n := H.length) hvr ho hil hpl hz
  have hos := layC_os ts ps hpl
  have hpsl : ∀ i ∈ ps, i < Hc.length := fun i hi => get_lt (hp i hi).2
  generalize hzz : ps.zip ids = z at hz c2 o1
  generalize hθ2 : thL θ' H.length vr z = θ2 at c2
  have hout : ∀ {i v}, i ∉ ps → i < H.length → θ2 i v = θ' i v := fun {i v} h1 h2 => by rw [← hθ2, ← hzz]; unfold thL; rw [zip_none h1]; simp [h2]
  have hge : ∀ {i v}, i ∉ ps → ¬ i < H.length → θ2 i v = .no := fun {i v} h1 h2 => by rw [← hθ2, ← hzz]; unfold thL; rw [zip_none h1]; simp [h2]
  have hpno : ∀ {i v}, i ∈ ps → θ' i v = .no := fun {i v} h1 => hS'.obj i _ (get_ext (hp i h1).2 G) v
  have hat : ∀ {i v b s t}, θ2 i v = .at b s t → (∃ id, (i, id) ∈ z ∧ v = 0 ∧ θ' id (vr id) = .at b s t) ∨ (i ∉ ps ∧ i < H.length ∧ θ' i v = .at b s t) := by
    intro i v b s t hi
    by_cases hm : i ∈ ps
    · rw [← hθ2] at hi
      unfold thL at hi
      split at hi
      · rename_i q hq
        obtain ⟨q1, q2⟩ := find_mem hq
        split at hi
        · exact .inl ⟨q.2, by rw [← q2]; exact q1, by assumption, hi⟩
        · cases hi
      · split at hi
        · rw [hpno hm] at hi; cases hi
        · cases hi
    · by_cases hl : i < H.length
      · rw [hout hm hl] at hi; exact .inr ⟨hm, hl, hi⟩
      · rw [hge hm hl] at hi; cases hi
  have hown : ∀ b, Owned θ2 b → Owned θ' b := by
    rintro b ⟨i, v, s, t, hb⟩
    rcases hat hb with ⟨id, _, _, hb⟩ | ⟨_, _, hb⟩
    · exact ⟨_, _, _, _, hb⟩
    · exact ⟨_, _, _, _, hb⟩
  have cutr : ∀ {c : AV} {v : Value}, ARel (thCut θ' H.length) W' c v → ARel θ2 W' c v := fun hc => hc.mono (fun _ _ _ h => h) (fun i v hn => by
    left
    by_cases hl : i < H.length
    · rw [thCut_lt hl] at hn ⊢
      exact hout (fun hm => hn (hpno hm)) hl
    · exact (hn (by simp [thCut, hl])).elim)
  refine ⟨v, _, setL Hc ps (layC ts ps).2, θ2, W', rfl, ⟨rfl, rfl⟩, ⟨hS'.imm, ?_, ?_, fun b hb => hS'.own b (hown b hb), ?_⟩, ?_, ⟨hst.os, hst.tape, hst.output, hst.size, hst.keep, hst.imm, hst.old, ?_, fun b hb => hst.fresh b (hown b hb)⟩⟩
  · intro i o hi
    by_cases hm : i ∈ ps
    · obtain ⟨k, hk⟩ := List.getElem?_of_mem hm
      have hkl := (List.getElem?_eq_some_iff.1 hk).1
      have hko : (layC ts ps).2[k]? = some (layC ts ps).2[k] := by simp
      have hg := setL_get ps (layC ts ps).2 Hc k i _ hnd hpsl hk hko
      rw [hg] at hi
      cases hi
      have hki : ids[k]? = some ids[k] := by simp
      have hmem : (ids[k], (layC ts ps).2[k]) ∈ ids.zip (layC ts ps).2 := List.mem_of_getElem? (i := k) (List.getElem?_zip_eq_some.2 ⟨hki, hko⟩)
      have hpair : (i, ids[k]) ∈ z := by rw [← hzz]; exact List.mem_of_getElem? (i := k) (List.getElem?_zip_eq_some.2 ⟨hk, hki⟩)
      obtain ⟨sz, ver, rs, rs', h1, h2, h3, h4⟩ := o1 _ hmem
      simp only at h1 h2
      rw [h2]
      have e0 : θ2 i 0 = θ' ids[k] ver := by
        rw [← hθ2]
        unfold thL
        have := hz _ hpair
        simp only at this
        rw [this]
        simp only [if_true, hvr _ _ _ _ h1]
      rw [hθ2] at h4
      obtain ⟨g1, g2, g3⟩ := hS'.obj _ _ h1
      refine ⟨?_, fun v' hv' => ?_, fun v' hv' => by omega⟩
      · rcases g1 with ⟨g1, g4⟩ | ⟨b, tot, ty, vs', g1, g4, g5, g6, g7, g8, g9⟩
        · left
          exact ⟨e0.trans g1, by rw [g4] at h3; simpa using h3⟩
        · right
          refine ⟨b, tot, ty, vs', e0.trans g1, g4, g5, by omega, fun r' hr' => ?_, fun i' r' j c' v' a1 a2 a3 => ?_, g9⟩
          · obtain ⟨i', hi'⟩ := List.getElem?_of_mem hr'
            have hl' : i' < rs.length := by rw [← h3]; exact (List.getElem?_eq_some_iff.1 hi').1
            rw [(h4 i' rs[i'] r' (by simp [hl']) hi').1]
            exact g7 _ (List.getElem_mem hl')
          · have hl' : i' < rs.length := by rw [← h3]; exact (List.getElem?_eq_some_iff.1 a1).1
            have hri : rs[i']? = some rs[i'] := by simp [hl']
            obtain ⟨q1, q2⟩ := h4 i' _ r' hri a1
            have hj : j < rs[i'].length := by rw [← q1]; exact (List.getElem?_eq_some_iff.1 a2).1
            exact q2 j rs[i'][j] c' (by simp [hj]) a2 v' (g8 i' _ j _ v' hri (by simp [hj]) a3)
      · rw [← hθ2]
        unfold thL
        have := hz _ hpair
        simp only at this
        rw [this]
        simp only [show ¬ v' = 0 by omega, if_false]
    · rw [setL_ne ps _ _ _ hm] at hi
      have hlt := (List.getElem?_eq_some_iff.1 hi).1
      have hO := hS'.obj i o (get_ext hi G)
      have key : ∀ c, InO c o → ∀ v, ARel θ' W' c v → ARel θ2 W' c v := by
        intro c hc v hv
        rcases hobj i o hi c hc with hk | ⟨id', o', ho1, ho2⟩
        · exact hk _ _ _ _ hv
        · obtain ⟨v1, v2⟩ := (hSR.obj id' o' ho1).val
          cases o' with
          | var cs => obtain ⟨v0, h0⟩ := v1 cs rfl c ho2; exact cutr (cut_rel hSR.out h0 hv)
          | rows sz ver rs => obtain ⟨r, hr, hcr⟩ := ho2; obtain ⟨v0, h0⟩ := v2 sz ver rs rfl r hr c hcr; exact cutr (cut_rel hSR.out h0 hv)
          | dead => exact ho2.elim
          | rsv => exact ho2.elim
          | glob b v => exact ho2.elim
          | tab b v o => exact ho2.elim
      exact hO.cells (fun ver => hout hm (by omega)) (fun cs ec c hc v hv => key c (by subst ec; exact hc) v hv) (fun sz ver rs ec r hr c hc v hv => key c (by subst ec; exact ⟨r, hr, hc⟩) v hv)
  · intro i v hi
    rw [setL_len] at hi
    exact hge (fun hm => by have := hpsl i hm; omega) (by omega)
  · intro b i v s t i' v' s' t' h1 h2
    rcases hat h1 with ⟨id, a1, a2, g1⟩ | ⟨a1, a2, g1⟩ <;> rcases hat h2 with ⟨id', a3, a4, g2⟩ | ⟨a3, a4, g2⟩
    · have e := (hS'.inj b _ _ _ _ _ _ _ _ g1 g2).1
      subst e
      rw [← hzz] at a1 a3
      obtain ⟨k, k1, k2⟩ := zip_idx a1
      obtain ⟨k', k3, k4⟩ := zip_idx a3
      have := nodup_idx hin k2 k4
      subst this
      simp only at k1 k3
      rw [k1] at k3
      cases k3
      exact ⟨rfl, a2.trans a4.symm⟩
    · have e := (hS'.inj b _ _ _ _ _ _ _ _ g1 g2).1
      rw [← hzz] at a1
      have := hib _ (List.of_mem_zip a1).2
      omega
    · have e := (hS'.inj b _ _ _ _ _ _ _ _ g1 g2).1
      rw [← hzz] at a3
      have := hib _ (List.of_mem_zip a3).2
      omega
    · exact hS'.inj b _ _ _ _ _ _ _ _ g1 g2
  · cases hv with
    | st _ us hs hc h1 =>
      refine .st _ us (by omega) (fun j c u hj hu => ?_) h1
      have hjl : j < cs.length := by rw [← c1]; exact (List.getElem?_eq_some_iff.1 hj).1
      exact c2 j cs[j] c (by simp [hjl]) hj u (hc j cs[j] u (by simp [hjl]) hu)
  · intro i v hn
    have hi : i < H.length := by
      rcases Nat.lt_or_ge i H.length with h | h
      · exact h
      · exact (hn (hSR.out i v h)).elim
    have hip : i ∉ ps := fun hm => hn (hSR.obj i _ (hp i hm).1 v)
    rw [hout hip hi]
    exact hst.th i v hn
end Go.AM
