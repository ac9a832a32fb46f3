/- What is lent to a function that only reads it, and the frames of calls. -/
import Derived.Test.YtghcmccjchdgeaaGreatDoorAm23
set_option linter.all false
namespace Go.AM
variable {P:Program} {θ:Th} {W:Im}
def Grnd (a:AV):Prop:=∀ θ W θ' W' v,ARel θ W a v->ARel θ' W' a v
theorem grnd_s (x:List UInt8):Grnd (.p (.s x)):=fun _ _ _ _ _ h=>by obtain ⟨rfl,hx⟩:=h.s_inv; exact .p _ _ (.s _ hx)
inductive Lent (H:List AO):AV->AV->Prop
 | same (a:AV) (h:Grnd a):Lent H a a
 | pure (p:PV):Lent H (.p p) (.p p)
 | nl:Lent H (.p .nl) (.p (.l []))
 | gs (id ver off n sz:Nat) (rs:List (List AV)) (ys:List (List PV)) (hid:H[id]?=some (.rows sz ver rs)) (hlen:off+n<=rs.length) (hys:ys.length=n) (hsz:∀ y∈ys,y.length=sz)
   (hc:∀ (i:Nat) r y (j:Nat) c q,rs[off+i]?=some r->ys[i]?=some y->r[j]?=some c->y[j]?=some q->Lent H c (.p q)):Lent H (.gs id ver off n) (.p (.l ys))
 | st (as bs:List AV) (hlen:as.length=bs.length) (hc:∀ (j:Nat) a b,as[j]?=some a->bs[j]?=some b->Lent H a b):Lent H (.st as) (.st bs)
 | tup (as bs:List AV) (hlen:as.length=bs.length) (hc:∀ (j:Nat) a b,as[j]?=some a->bs[j]?=some b->Lent H a b):Lent H (.tup as) (.tup bs)
open Classical in
noncomputable def frz (θ:Th) (W:Im) (w:World):Im:=fun b o=>if Owned θ b then w.cell? ⟨b,o,none⟩ else W b o
def noTh:Th:=fun _ _=>.no
theorem not_owned (b:Nat):¬ Owned noTh b:=by rintro ⟨id,ver,sz,tot,h⟩; cases h
theorem SR.frz {H:List AO} {w:World} (h:SR θ W H w):SR noTh (frz θ W w) [] w:=by
 refine ⟨fun b o v hv=>?_,fun id o hid=>by simp at hid,fun _ _ _=>rfl,fun b hb=>(not_owned b hb).elim,fun b id ver sz tot id' ver' sz' tot' h1=>by cases h1⟩
 unfold AM.frz at hv
 split at hv
 ·exact hv
 ·exact h.imm b o v hv
theorem SR.frz_ext {H:List AO} {w:World} (h:SR θ W H w):∀ b o v,W b o=some v->AM.frz θ W w b o=some v:=by
 intro b o v hv
 unfold AM.frz
 split
 ·rename_i ho; rw [h.own b ho o] at hv; cases hv
 ·exact hv
theorem lent_rel {H : List AO} {w : World} (h : SR θ W H w) {a b : AV} (hl : Lent H a b) : ∀ {v : Value}, ARel θ W a v → ARel noTh (frz θ W w) b v := by
  induction hl with
  | same a hg => exact fun hv => hg _ _ _ _ _ hv
  | pure p => exact fun hv => .p _ _ (hv.p_inv.mono h.frz_ext)
  | nl =>
    intro v hv
    cases hv.p_inv
    exact .p _ _ (.l [] none 0 0 (fun _ _ => undef) (Nat.le_refl _) (Nat.zero_le _) (fun _ => rfl) (fun _ x hx => by cases hx) (fun r hr => by cases hr) (fun i r j q hi => by simp at hi) (fun i r j q hi => by simp at hi))
  | st as bs hlen hc ih =>
    intro v hv
    cases hv with
    | st _ us hs hc' h1 =>
      refine .st bs us (by omega) (fun j c u hj hu => ?_) h1
      have hlt : j < as.length := by rw [hlen]; exact (List.getElem?_eq_some_iff.1 hj).1
      exact ih j as[j] c (by simp [hlt]) hj (hc' j as[j] u (by simp [hlt]) hu)
  | tup as bs hlen hc ih =>
    intro v hv
    cases hv with
    | tup _ us hs hc' =>
      refine .tup bs us (by omega) (fun j c u hj hu => ?_)
      have hlt : j < as.length := by rw [hlen]; exact (List.getElem?_eq_some_iff.1 hj).1
      exact ih j as[j] c (by simp [hlt]) hj (hc' j as[j] u (by simp [hlt]) hu)
  | gs id ver off n sz rs ys hid hlen hys hsz hc ih =>
    intro v hv
    obtain ⟨h1, _, _⟩ := h.obj id _ hid
    have alive : ∀ {q : Pl}, θ id ver = q → q = .nil ∧ rs = [] ∨ ∃ b tot ty vs, q = .at b sz tot ∧ w.heap[b]? = some (.cells vs ty (0, 0)) ∧ vs.size = tot * sz ∧ rs.length ≤ tot ∧ (∀ r ∈ rs, r.length = sz) ∧
        (∀ (i : Nat) (r : List AV) (j : Nat) (c : AV) (v : Value), rs[i]? = some r → r[j]? = some c → vs[i * sz + j]? = some v → ARel θ W c v) := by
      intro q hq
      rcases h1 with ⟨h1, h2⟩ | ⟨b, tot, ty, vs, h1, h2, h3, h4, h5, h6, _⟩
      · exact .inl ⟨hq.symm.trans h1, h2⟩
      · exact .inr ⟨b, tot, ty, vs, hq.symm.trans h1, h2, h3, h4, h5, h6⟩
    cases hv with
    | gsDead _ _ _ _ a cap hd hn hm => rcases alive hd with ⟨e, _⟩ | ⟨b, tot, ty, vs, e, _⟩ <;> cases e
    | gsNil _ _ hd =>
      have : ys = [] := List.length_eq_zero_iff.1 hys
      subst this
      exact .p _ _ (.l [] none 0 0 (fun _ _ => undef) (Nat.le_refl _) (Nat.zero_le _) (fun _ => rfl) (fun _ x hx => by cases hx) (fun r hr => by cases hr) (fun i r j q hi => by simp at hi) (fun i r j q hi => by simp at hi))
    | gs _ _ _ _ b sz' tot o cap hd hn hm hcap ho h0 =>
      rcases alive hd with ⟨e, _⟩ | ⟨b', tot', ty, vs, e, h2, h3, h4, h5, h6⟩
      · cases e
      · cases e
        have cell : ∀ (i : Nat) (y : List PV) (j : Nat) (q : PV), ys[i]? = some y → y[j]? = some q → ∃ r c, rs[off + i]? = some r ∧ r[j]? = some c ∧ vs[(off + i) * sz + j]? = some (vs.getD ((off + i) * sz + j) undef) ∧ off < tot := by
          intro i y j q hi hj
          have hil : i < ys.length := (List.getElem?_eq_some_iff.1 hi).1
          have hyl := hsz y (List.mem_of_getElem? hi)
          have hjl : j < y.length := (List.getElem?_eq_some_iff.1 hj).1
          have hrl : off + i < rs.length := by omega
          have hrsz := h5 rs[off + i] (List.getElem_mem hrl)
          have hk : (off + i) * sz + j < vs.size := by
            have h8 : (off + i + 1) * sz ≤ tot * sz := Nat.mul_le_mul_right _ (by omega)
            rw [Nat.add_mul] at h8
            omega
          have hjr : j < rs[off + i].length := by omega
          have e3 : vs[(off + i) * sz + j]? = some (vs.getD ((off + i) * sz + j) undef) := by
            rw [Array.getD_eq_getD_getElem?, Array.getElem?_eq_getElem hk]; rfl
          exact ⟨rs[off + i], rs[off + i][j], List.getElem?_eq_getElem hrl, List.getElem?_eq_getElem hjr, e3, by omega⟩
        have hl2 : PRel (AM.frz θ W w) (.l ys) (.slice (some ⟨b, o, none⟩) ys.length cap) := by
          refine .l ys (some ⟨b, o, none⟩) cap sz (fun i j => vs.getD ((off + i) * sz + j) undef) (by omega) (by omega) (fun e => by cases e) (fun _ x hx => by cases hx; rfl) hsz ?_ ?_
          · intro i y j q hi hj x hx
            cases hx
            obtain ⟨r, c, q1, q2, q3, q4⟩ := cell i y j q hi hj
            have hown : Owned θ b := ⟨_, _, _, _, hd⟩
            have hidx : o + (i * sz + j) = (off + i) * sz + j := by rw [ho q4, Nat.add_mul]; omega
            show AM.frz θ W w b (o + (i * sz + j)) = _
            unfold AM.frz
            rw [if_pos hown, hidx]
            simp only [World.cell?, h2]
            exact q3
          · intro i y j q hi hj
            obtain ⟨r, c, q1, q2, q3, q4⟩ := cell i y j q hi hj
            exact (ih i r y j c q q1 hi q2 hj (h6 _ r j c _ q1 q2 q3)).p_inv
        rw [hys] at hl2
        exact .p _ _ hl2
def LentAll (H:List AO) (as bs:List AV):Prop:=as.length=bs.length/\∀ (j:Nat) a b,as[j]?=some a->bs[j]?=some b->Lent H a b
theorem lentAll_nil (H:List AO):LentAll H [] []:=⟨rfl,fun j a b h=>by simp at h⟩
theorem lentAll_cons {H:List AO} {a b:AV} {as bs:List AV} (h:Lent H a b) (hs:LentAll H as bs):LentAll H (a :: as) (b :: bs) :=
 ⟨by simp [hs.1],fun j x y hx hy=>by
  cases j with
  | zero=>simp at hx hy; subst hx; subst hy; exact h
  | succ j=>exact hs.2 j x y (by simpa using hx) (by simpa using hy)⟩
theorem Stp.old_heap {w w':World} {θ':Th} {W W':Im} (h:Stp noTh W w θ' W' w'):∀ b,b<w.heap.size->w'.heap[b]?=w.heap[b]?:=fun b hb=>h.keep b hb (not_owned b)
end Go.AM
