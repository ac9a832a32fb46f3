/- What a call makes and hands on, as data: all its new slices are never written again. -/
import Derived.Test.YteilijfligofdaaGreatDoorAm37
set_option linter.all false
namespace Go.AM
variable {P:Program}
inductive LentN (n:Nat) (H:List AO):AV->AV->Prop
 | tf (a:AV) (h:Tf a):LentN n H a a
 | nl:LentN n H (.p .nl) (.p (.l []))
 | gs (id ver off k sz:Nat) (rs:List (List AV)) (ys:List (List PV)) (hn:n<=id) (hid:H[id]?=some (.rows sz ver rs)) (hlen:off+k<=rs.length) (hys:ys.length=k) (hsz:∀ y∈ys,y.length=sz)
   (hc:∀ (i:Nat) r y (j:Nat) c q,rs[off+i]?=some r->ys[i]?=some y->r[j]?=some c->y[j]?=some q->LentN n H c (.p q)):LentN n H (.gs id ver off k) (.p (.l ys))
 | st (as bs:List AV) (hlen:as.length=bs.length) (hc:∀ (j:Nat) a b,as[j]?=some a->bs[j]?=some b->LentN n H a b):LentN n H (.st as) (.st bs)
 | tup (as bs:List AV) (hlen:as.length=bs.length) (hc:∀ (j:Nat) a b,as[j]?=some a->bs[j]?=some b->LentN n H a b):LentN n H (.tup as) (.tup bs)
theorem LentN.p {n:Nat} {H:List AO} (x:PV):LentN n H (.p x) (.p x):=.tf _ (tf_p x)
def OwnedN (n:Nat) (θ:Th) (b:Nat):Prop:=∃ id ver sz tot,n<=id/\θ id ver=.at b sz tot
open Classical in
noncomputable def frzN (n:Nat) (θ:Th) (W:Im) (w:World):Im:=fun b o=>if OwnedN n θ b then w.cell? ⟨b,o,none⟩ else W b o
theorem OwnedN.owned {n:Nat} {θ:Th} {b:Nat} (h:OwnedN n θ b):Owned θ b:=by
 obtain ⟨id,ver,sz,tot,_,h⟩:=h; exact ⟨id,ver,sz,tot,h⟩
theorem SR.frzN_ext {n:Nat} {θ:Th} {W:Im} {H:List AO} {w:World} (h:SR θ W H w):∀ b o v,W b o=some v->AM.frzN n θ W w b o=some v:=by
 intro b o v hv
 unfold AM.frzN
 split
 ·exact h.imm b o v hv
 ·exact hv
theorem lentN_rel {n : Nat} {θ : Th} {W : Im} {H : List AO} {w : World} (h : SR θ W H w) {a b : AV} (hl : LentN n H a b) : ∀ {v : Value}, ARel θ W a v → ARel (thCut θ n) (frzN n θ W w) b v := by
  induction hl with
  | tf a hg => exact fun hv => (hg _ (thCut θ n) _ _ hv).mono h.frzN_ext (fun _ _ _ => .inl rfl)
  | nl =>
    intro v hv
    cases hv.p_inv
    exact .p _ _ (.l [] none 0 0 (fun _ _ => undef) (Nat.le_refl _) (Nat.zero_le _) (fun _ => rfl) (fun _ x hx => by cases hx) (fun r hr => by cases hr) (fun i r j q hi => by simp at hi) (fun i r j q hi => by simp at hi))
  | st as bs hlen hc ih =>
    intro v hv
    cases hv with
    | st _ us hs hc' h1 =>
      refine .st bs us (by omega) (fun j c u hj hu => ?_) h1
      have hlt : j < as.length := by rw [hlen]; exact (List.getElem?_eq_some_iff.1 hj).1
      exact ih j as[j] c (by simp [hlt]) hj (hc' j as[j] u (by simp [hlt]) hu)
  | tup as bs hlen hc ih =>
    intro v hv
    cases hv with
    | tup _ us hs hc' =>
      refine .tup bs us (by omega) (fun j c u hj hu => ?_)
      have hlt : j < as.length := by rw [hlen]; exact (List.getElem?_eq_some_iff.1 hj).1
      exact ih j as[j] c (by simp [hlt]) hj (hc' j as[j] u (by simp [hlt]) hu)
  | gs id ver off k sz rs ys hn hid hlen hys hsz hc ih =>
    intro v hv
    obtain ⟨h1, _, _⟩ := h.obj id _ hid
    have alive : ∀ {q : Pl}, θ id ver = q → q = .nil ∧ rs = [] ∨ ∃ b tot ty vs, q = .at b sz tot ∧ w.heap[b]? = some (.cells vs ty (0, 0)) ∧ vs.size = tot * sz ∧ rs.length ≤ tot ∧ (∀ r ∈ rs, r.length = sz) ∧
        (∀ (i : Nat) (r : List AV) (j : Nat) (c : AV) (v : Value), rs[i]? = some r → r[j]? = some c → vs[i * sz + j]? = some v → ARel θ W c v) := by
      intro q hq
      rcases h1 with ⟨h1, h2⟩ | ⟨b, tot, ty, vs, h1, h2, h3, h4, h5, h6, _⟩
      · exact .inl ⟨hq.symm.trans h1, h2⟩
      · exact .inr ⟨b, tot, ty, vs, hq.symm.trans h1, h2, h3, h4, h5, h6⟩
    cases hv with
    | gsDead _ _ _ _ a cap hd hn' hm => rcases alive hd with ⟨e, _⟩ | ⟨b, tot, ty, vs, e, _⟩ <;> cases e
    | gsNil _ _ hd =>
      have : ys = [] := List.length_eq_zero_iff.1 hys
      subst this
      exact .p _ _ (.l [] none 0 0 (fun _ _ => undef) (Nat.le_refl _) (Nat.zero_le _) (fun _ => rfl) (fun _ x hx => by cases hx) (fun r hr => by cases hr) (fun i r j q hi => by simp at hi) (fun i r j q hi => by simp at hi))
    | gs _ _ _ _ b sz' tot o cap hd hn' hm hcap ho h0 =>
      rcases alive hd with ⟨e, _⟩ | ⟨b', tot', ty, vs, e, h2, h3, h4, h5, h6⟩
      · cases e
      · cases e
        have cell : ∀ (i : Nat) (y : List PV) (j : Nat) (q : PV), ys[i]? = some y → y[j]? = some q → ∃ r c, rs[off + i]? = some r ∧ r[j]? = some c ∧ vs[(off + i) * sz + j]? = some (vs.getD ((off + i) * sz + j) undef) ∧ off < tot := by
          intro i y j q hi hj
          have hil : i < ys.length := (List.getElem?_eq_some_iff.1 hi).1
          have hyl := hsz y (List.mem_of_getElem? hi)
          have hjl : j < y.length := (List.getElem?_eq_some_iff.1 hj).1
          have hrl : off + i < rs.length := by omega
          have hrsz := h5 rs[off + i] (List.getElem_mem hrl)
          have hk : (off + i) * sz + j < vs.size := by
            have h8 : (off + i + 1) * sz ≤ tot * sz := Nat.mul_le_mul_right _ (by omega)
            rw [Nat.add_mul] at h8
            omega
          have hjr : j < rs[off + i].length := by omega
          have e3 : vs[(off + i) * sz + j]? = some (vs.getD ((off + i) * sz + j) undef) := by
            rw [Array.getD_eq_getD_getElem?, Array.getElem?_eq_getElem hk]; rfl
          exact ⟨rs[off + i], rs[off + i][j], List.getElem?_eq_getElem hrl, List.getElem?_eq_getElem hjr, e3, by omega⟩
        have hl2 : PRel (AM.frzN n θ W w) (.l ys) (.slice (some ⟨b, o, none⟩) ys.length cap) := by
          refine .l ys (some ⟨b, o, none⟩) cap sz (fun i j => vs.getD ((off + i) * sz + j) undef) (by omega) (by omega) (fun e => by cases e) (fun _ x hx => by cases hx; rfl) hsz ?_ ?_
          · intro i y j q hi hj x hx
            cases hx
            obtain ⟨r, c, q1, q2, q3, q4⟩ := cell i y j q hi hj
            have hown : OwnedN n θ b := ⟨_, _, _, _, hn, hd⟩
            have hidx : o + (i * sz + j) = (off + i) * sz + j := by rw [ho q4, Nat.add_mul]; omega
            show AM.frzN n θ W w b (o + (i * sz + j)) = _
            unfold AM.frzN
            rw [if_pos hown, hidx]
            simp only [World.cell?, h2]
            exact q3
          · intro i y j q hi hj
            obtain ⟨r, c, q1, q2, q3, q4⟩ := cell i y j q hi hj
            exact (ih i r y j c q q1 hi q2 hj (h6 _ r j c _ q1 q2 q3)).p_inv
        rw [hys] at hl2
        exact .p _ _ hl2
theorem acall_frz {f:Nat} {args:List AV} {H Hc:List AO} {x:AV} (h:ACall P f args H (fun r H'=>∃ G,H'=Hc++G/\LentN H.length H' r x)) (hlen:Hc.length=H.length)
  (hobj:∀ (id:Nat) o,Hc[id]?=some o->∀ c,InO c o->Tf c\/∃ (id':Nat) (o':AO),H[id']?=some o'/\InO c o'):ACall P f args H (pureQ x Hc):=by
 refine ⟨h.1,fun w θ W vs hSR hrel=>?_⟩
 refine (h.2 w θ W vs hSR hrel).mono ?_
 rintro e w' ⟨v,r,H',θ',W',rfl,⟨G,rfl,hl⟩,hS',hv,hst⟩
 have hWext:∀ b o u,W' b o=some u->frzN H.length θ' W' w' b o=some u:=hS'.frzN_ext
 have hWno:∀ b,¬ OwnedN H.length θ' b->∀ o',frzN H.length θ' W' w' b o'=W' b o':=fun b hb o'=>by unfold frzN; rw [if_neg hb]
 refine ⟨v,x,Hc,thCut θ' H.length,frzN H.length θ' W' w',rfl,⟨rfl,rfl⟩,?_,lentN_rel hS' hl hv,?_⟩
 ·refine ⟨?_,?_,?_,?_,?_⟩
  ·intro b o u hu
   unfold frzN at hu
   split at hu
   ·exact hu
   ·exact hS'.imm b o u hu
  ·intro id o ho
   have hlt:=(List.getElem?_eq_some_iff.1 ho).1
   have ho':(Hc++G)[id]?=some o:=get_ext ho G
   have hO:=hS'.obj id o ho'
   have e:∀ ver,thCut θ' H.length id ver=θ' id ver:=fun ver=>thCut_lt (by omega)
   have key:∀ c,InO c o->∀ v,ARel θ' W' c v->ARel (thCut θ' H.length) W' c v:=by
    intro c hc v hv
    rcases hobj id o ho c hc with hk | ⟨id',o',ho1,ho2⟩
    ·exact hk _ _ _ _ hv
    ·obtain ⟨v1,v2⟩:=(hSR.obj id' o' ho1).val
     cases o' with
     | var cs=>obtain ⟨v0,h0⟩:=v1 cs rfl c ho2; exact cut_rel hSR.out h0 hv
     | rows sz ver rs=>obtain ⟨r,hr,hcr⟩:=ho2; obtain ⟨v0,h0⟩:=v2 sz ver rs rfl r hr c hcr; exact cut_rel hSR.out h0 hv
     | dead=>exact ho2.elim
     | rsv=>exact ho2.elim
     | glob b v=>exact ho2.elim
     | tab b v o=>exact ho2.elim
   exact (hO.cells e (fun cs ec c hc v hv=>key c (by subst ec; exact hc) v hv) (fun sz ver rs ec r hr c hc v hv=>key c (by subst ec; exact ⟨r,hr,hc⟩) v hv)).mono (fun _=>rfl) (fun _ _ _ _ _=>rfl) (fun y u hy=>hy.mono hWext (fun _ _ _=>.inl rfl)) hWext
  ·intro id ver hid
   simp [thCut,show ¬ id<H.length by omega]
  ·rintro b ⟨id,ver,sz,tot,hb⟩ o
   unfold thCut at hb
   split at hb
   ·rw [hWno b (fun h2=>by
     obtain ⟨id2,ver2,sz2,tot2,hn2,h3⟩:=h2
     have:=(hS'.inj b _ _ _ _ _ _ _ _ hb h3).1
     omega)]
    exact hS'.own b ⟨id,ver,sz,tot,hb⟩ o
   ·cases hb
  ·intro b id ver sz tot id' ver' sz' tot' h1 h2
   unfold thCut at h1 h2
   split at h1
   ·split at h2
    ·exact hS'.inj b id ver sz tot id' ver' sz' tot' h1 h2
    ·cases h2
   ·cases h1
 ·refine ⟨hst.os,hst.tape,hst.output,hst.size,hst.keep,fun b o u hu=>hWext b o u (hst.imm b o u hu),?_,?_,?_⟩
  ·intro b hb ho o'
   rw [hWno b (fun h2=>(hst.fresh b h2.owned).elim ho (fun h3=>by omega))]
   exact hst.old b hb ho o'
  ·intro id ver hne
   have hlt:id<H.length:=by
    rcases Nat.lt_or_ge id H.length with h | h
    ·exact h
    ·exact (hne (hSR.out id ver h)).elim
   rw [thCut_lt hlt]
   exact hst.th id ver hne
  ·rintro b ⟨id,ver,sz,tot,hb⟩
   refine hst.fresh b ⟨id,ver,sz,tot,?_⟩
   unfold thCut at hb
   split at hb
   ·exact hb
   ·cases hb
theorem acall_frz1 {f:Nat} {args:List AV} {H:List AO} {x:AV} (h:ACall P f args H (fun r H'=>∃ G,H'=H++G/\LentN H.length H' r x)):ACall P f args H (pureQ x H) :=
 acall_frz h rfl fun id o ho c hc=>.inr ⟨id,o,ho,hc⟩
theorem acall_frz_set {f:Nat} {args:List AV} {H:List AO} {i:Nat} {o o':AO} {x:AV} (h:ACall P f args H (fun r H'=>∃ G,H'=H.set i o'++G/\LentN H.length H' r x)) (hi:H[i]?=some o) (hc:∀ c,InO c o'->Tf c\/InO c o) :
  ACall P f args H (pureQ x (H.set i o')) :=
 acall_frz h (by simp) fun id o2 ho c hco=>by
  by_cases e:i=id
  ·subst e
   rw [set_get hi] at ho; cases ho
   rcases hc c hco with h1 | h1
   ·exact .inl h1
   ·exact .inr ⟨_,_,hi,h1⟩
  ·rw [List.getElem?_set_ne e] at ho
   exact .inr ⟨_,_,ho,hco⟩
end Go.AM
