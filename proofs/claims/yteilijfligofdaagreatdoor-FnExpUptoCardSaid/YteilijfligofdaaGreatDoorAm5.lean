/- Memory: how the states' relation is kept by a new object, by a write, by an append. -/
import Derived.Test.YteilijfligofdaaGreatDoorAm4
set_option linter.all false
namespace Go.AM
theorem cell_old {w:World} {b o:Nat} {v:Value} (h:w.cell? ⟨b,o,none⟩=some v):b<w.heap.size:=World.block_lt_of_cell? w _ h
theorem SR.lt {θ:Th} {W:Im} {H:List AO} {w:World} (h:SR θ W H w) {b o:Nat} {v:Value} (hw:W b o=some v):b<w.heap.size:=cell_old (h.imm b o v hw)
theorem SR.ownedLt {θ : Th} {W : Im} {H : List AO} {w : World} (h : SR θ W H w) {id ver b sz tot : Nat} (ho : θ id ver = .at b sz tot) : b < w.heap.size := by
  have hid : id < H.length := by
    rcases Nat.lt_or_ge id H.length with h' | h'
    · exact h'
    · rw [h.out id ver h'] at ho; cases ho
  have hg : H[id]? = some H[id] := by simp [hid]
  have := h.obj id _ hg
  cases e : H[id] with
  | dead => rw [e] at this; rcases this ver with h' | h' <;> rw [h'] at ho <;> cases ho
  | rsv => rw [e] at this; rw [this ver] at ho; cases ho
  | glob b v => rw [e] at this; rw [this.2 ver] at ho; cases ho
  | tab b v o => rw [e] at this; rw [this.2.2 ver] at ho; cases ho
  | var cs =>
    rw [e] at this
    obtain ⟨⟨b', sz', tot', ty, vs, h1, h2, _⟩, h3⟩ := this
    rcases Nat.eq_zero_or_pos ver with rfl | hv
    · rw [h1] at ho; cases ho; exact (Array.getElem?_eq_some_iff.1 h2).1
    · rw [h3 ver hv] at ho; cases ho
  | rows sz' ver' rs =>
    rw [e] at this
    obtain ⟨h1, h2, h3⟩ := this
    rcases Nat.lt_trichotomy ver ver' with hv | rfl | hv
    · rw [h3 ver hv] at ho; cases ho
    · rcases h1 with ⟨h1, _⟩ | ⟨b', tot', ty, vs, h1, h4, _⟩
      · rw [h1] at ho; cases ho
      · rw [h1] at ho; cases ho; exact (Array.getElem?_eq_some_iff.1 h4).1
    · rw [h2 ver hv] at ho; cases ho
theorem OR.mono {θ θ' : Th} {W W' : Im} {w w' : World} {id : Nat} {o : AO} (h : OR θ W w id o)
    (hid : ∀ ver, θ' id ver = θ id ver) (hb : ∀ ver b sz tot, θ id ver = .at b sz tot → w'.heap[b]? = w.heap[b]?)
    (hr : ∀ x v, ARel θ W x v → ARel θ' W' x v) (hW : ∀ b o v, W b o = some v → W' b o = some v := by exact fun _ _ _ h => h) (ht : ∀ b v o, W b 0 = some v → w.heap[b]? = some o → w'.heap[b]? = some o := by exact fun _ _ _ _ h => h) : OR θ' W' w' id o := by
  cases o with
  | dead => exact fun ver => by rw [hid]; exact h ver
  | rsv => exact fun ver => by rw [hid]; exact h ver
  | glob b v => exact ⟨hW b 0 v h.1, fun ver => by rw [hid]; exact h.2 ver⟩
  | tab b v o => exact ⟨hW b 0 v h.1, ht b v o h.1 h.2.1, fun ver => by rw [hid]; exact h.2.2 ver⟩
  | var cs =>
    obtain ⟨⟨b, sz, tot, ty, vs, h1, h2, h3, h4, h5⟩, h6⟩ := h
    exact ⟨⟨b, sz, tot, ty, vs, by rw [hid]; exact h1, by rw [hb 0 b sz tot h1]; exact h2, h3, fun j c v hj hv => hr _ _ (h4 j c v hj hv), h5⟩, fun ver hv => by rw [hid]; exact h6 ver hv⟩
  | rows sz ver rs =>
    obtain ⟨h1, h2, h3⟩ := h
    refine ⟨?_, fun v hv => by rw [hid]; exact h2 v hv, fun v hv => by rw [hid]; exact h3 v hv⟩
    rcases h1 with ⟨h1, h4⟩ | ⟨b, tot, ty, vs, h1, h4, h5, h6, h7, h8, h9⟩
    · exact .inl ⟨by rw [hid]; exact h1, h4⟩
    · exact .inr ⟨b, tot, ty, vs, by rw [hid]; exact h1, by rw [hb ver b sz tot h1]; exact h4, h5, h6, h7, fun i r j c v hi hj hv => hr _ _ (h8 i r j c v hi hj hv), h9⟩
def thSet (θ:Th) (id ver:Nat) (pl:Pl):Th:=fun i v=>if i=id/\v=ver then pl else θ i v
theorem thSet_same (θ:Th) (id ver:Nat) (pl:Pl):thSet θ id ver pl id ver=pl:=by simp [thSet]
theorem thSet_other {θ:Th} {id ver:Nat} {pl:Pl} {i v:Nat} (h:¬ (i=id/\v=ver)):thSet θ id ver pl i v=θ i v:=by simp [thSet,h]
theorem SR.push {θ:Th} {W:Im} {H:List AO} {w w':World} (h:SR θ W H w) (o:AO) (pl:Pl)
  (hos:w'.os=w.os) (htp:w'.tape=w.tape) (hou:w'.output=w.output) (hsz:w.heap.size<=w'.heap.size)
  (hold:∀ b,b<w.heap.size->w'.heap[b]?=w.heap[b]?)
  (hpl:∀ b sz tot,pl=.at b sz tot->b=w.heap.size)
  (hno:pl≠.no)
  (ho:(∀ x v,ARel θ W x v->ARel (thSet θ H.length 0 pl) W x v)->OR (thSet θ H.length 0 pl) W w' H.length o) :
  SR (thSet θ H.length 0 pl) W (H++[o]) w'/\Stp θ W w (thSet θ H.length 0 pl) W w':=by
 have hθ:∀ id ver,θ id ver≠.no->thSet θ H.length 0 pl id ver=θ id ver:=by
  intro id ver hn
  refine thSet_other fun ⟨e,_⟩=>hn ?_
  exact h.out id ver (by omega)
 have hr:∀ x v,ARel θ W x v->ARel (thSet θ H.length 0 pl) W x v:=fun x v hx=>hx.mono (fun _ _ _ h=>h) (fun id ver hn=>.inl (hθ id ver hn))
 have hown:∀ b,Owned (thSet θ H.length 0 pl) b->Owned θ b\/w.heap.size=b:=by
  rintro b ⟨id,ver,sz,tot,hb⟩
  by_cases e:id=H.length/\ver=0
  ·obtain ⟨rfl,rfl⟩:=e
   rw [thSet_same] at hb
   exact .inr (hpl b sz tot hb).symm
  ·rw [thSet_other e] at hb
   exact .inl ⟨id,ver,sz,tot,hb⟩
 refine ⟨⟨?_,?_,?_,?_,?_⟩,⟨hos,htp,hou,hsz,fun b hb _=>hold b hb,fun _ _ _ h=>h,fun _ _ _ _=>rfl,fun id ver hn=>.inl (hθ id ver hn),fun b hb=>(hown b hb).imp id (fun e=>by omega)⟩⟩
 ·intro b o' v hv
  have hb:=h.imm b o' v hv
  rw [<- hb]
  exact World.cell?_of_block (hold b (cell_old hb))
 ·intro id o' hid
  rcases Nat.lt_trichotomy id H.length with hlt | heq | hgt
  ·rw [List.getElem?_append_left hlt] at hid
   refine (h.obj id o' hid).mono (fun ver=>thSet_other (by omega)) (fun ver b sz tot hb=>hold b (h.ownedLt hb)) hr (ht:=fun b v o hv ho=>by rw [hold b (h.lt hv)]; exact ho)
  ·subst heq
   rw [List.getElem?_append_right (Nat.le_refl _)] at hid
   simp at hid
   subst hid
   exact ho hr
  ·rw [List.getElem?_eq_none (by simp; omega)] at hid; cases hid
 ·intro id ver hid
  simp at hid
  rw [thSet_other (by omega)]
  exact h.out id ver (by omega)
 ·intro b hb o'
  rcases hown b hb with hb | hb
  ·exact h.own b hb o'
  ·cases e:W b o' with
   | none=>rfl
   | some v=>have:=h.lt e; omega
 ·intro b id ver sz tot id' ver' sz' tot' h1 h2
  by_cases e:id=H.length/\ver=0 <;> by_cases e':id'=H.length/\ver'=0
  ·exact ⟨by omega,by omega⟩
  ·obtain ⟨rfl,rfl⟩:=e
   rw [thSet_same] at h1
   rw [thSet_other e'] at h2
   have:=hpl _ _ _ h1
   have:=h.ownedLt h2
   omega
  ·obtain ⟨rfl,rfl⟩:=e'
   rw [thSet_same] at h2
   rw [thSet_other e] at h1
   have:=hpl _ _ _ h2
   have:=h.ownedLt h1
   omega
  ·rw [thSet_other e] at h1
   rw [thSet_other e'] at h2
   exact h.inj b _ _ _ _ _ _ _ _ h1 h2
theorem SR.write {θ:Th} {W:Im} {H:List AO} {w w':World} (h:SR θ W H w) (id ver b sz tot:Nat) (o:AO) (hid:id<H.length) (hb:θ id ver=.at b sz tot)
  (hos:w'.os=w.os) (htp:w'.tape=w.tape) (hou:w'.output=w.output) (hsz:w'.heap.size=w.heap.size)
  (hold:∀ k,k≠b->w'.heap[k]?=w.heap[k]?) (ho:OR θ W w' id o) :
  SR θ W (H.set id o) w'/\Stp θ W w θ W w':=by
 refine ⟨⟨?_,?_,?_,h.own,h.inj⟩,⟨hos,htp,hou,by omega,fun k _ hk=>hold k (fun e=>hk (e ▸ ⟨id,ver,sz,tot,hb⟩)),fun _ _ _ h=>h,fun _ _ _ _=>rfl,fun _ _ _=>.inl rfl,fun _ h=>.inl h⟩⟩
 ·intro k o' v hv
  rw [<- h.imm k o' v hv]
  refine World.cell?_of_block (hold k fun e=>?_)
  have:=h.own b ⟨id,ver,sz,tot,hb⟩ o'
  subst e
  rw [this] at hv
  cases hv
 ·intro i o' hi
  by_cases e:i=id
  ·subst e
   rw [List.getElem?_set_self hid] at hi
   cases hi
   exact ho
  ·rw [List.getElem?_set_ne (Ne.symm e)] at hi
   refine (h.obj i o' hi).mono (fun _=>rfl) (fun v k s t hk=>hold k ?_) (fun _ _ h=>h) (ht:=fun k v o hv ho=>by rw [hold k (fun e=>by have:=h.own b ⟨id,ver,sz,tot,hb⟩ 0; rw [<- e,hv] at this; cases this)]; exact ho)
   rintro rfl
   exact e (h.inj _ _ _ _ _ _ _ _ _ hk hb).1
 ·intro i v hi
  simp at hi
  exact h.out i v hi
theorem SR.grow {θ:Th} {W:Im} {H:List AO} {w w':World} (h:SR θ W H w) (id ver:Nat) (o:AO) (pl:Pl) (hid:id<H.length)
  (hcur:θ id ver≠.no) (hnext:θ id (ver+1)=.no)
  (hos:w'.os=w.os) (htp:w'.tape=w.tape) (hou:w'.output=w.output) (hsz:w.heap.size<=w'.heap.size)
  (hold:∀ k,k<w.heap.size->(∀ sz tot,θ id ver≠.at k sz tot)->w'.heap[k]?=w.heap[k]?)
  (hpl:∀ b sz tot,pl=.at b sz tot->(∃ sz' tot',θ id ver=.at b sz' tot')\/w.heap.size=b)
  (ho:(∀ x v,ARel θ W x v->ARel (thSet (thSet θ id ver .dead) id (ver+1) pl) W x v)->OR (thSet (thSet θ id ver .dead) id (ver+1) pl) W w' id o) :
  SR (thSet (thSet θ id ver .dead) id (ver+1) pl) W (H.set id o) w'/\Stp θ W w (thSet (thSet θ id ver .dead) id (ver+1) pl) W w':=by
 have e1:thSet (thSet θ id ver .dead) id (ver+1) pl id (ver+1)=pl:=thSet_same _ _ _ _
 have e2:thSet (thSet θ id ver .dead) id (ver+1) pl id ver=.dead:=by rw [thSet_other (by omega),thSet_same]
 have e3:∀ i v,¬ (i=id/\v=ver)->¬ (i=id/\v=ver+1)->thSet (thSet θ id ver .dead) id (ver+1) pl i v=θ i v:=fun i v a b=>by
  rw [thSet_other b,thSet_other a]
 have hθ:∀ i v,θ i v≠.no->thSet (thSet θ id ver .dead) id (ver+1) pl i v=θ i v\/thSet (thSet θ id ver .dead) id (ver+1) pl i v=.dead:=by
  intro i v hn
  by_cases a:i=id/\v=ver
  ·obtain ⟨rfl,rfl⟩:=a; exact .inr e2
  ·by_cases b:i=id/\v=ver+1
   ·obtain ⟨rfl,rfl⟩:=b; exact (hn hnext).elim
   ·exact .inl (e3 i v a b)
 have hr:∀ x v,ARel θ W x v->ARel (thSet (thSet θ id ver .dead) id (ver+1) pl) W x v:=fun x v hx=>hx.mono (fun _ _ _ h=>h) hθ
 have hown:∀ b,Owned (thSet (thSet θ id ver .dead) id (ver+1) pl) b->Owned θ b\/w.heap.size=b:=by
  rintro b ⟨i,v,sz,tot,hb⟩
  by_cases a:i=id/\v=ver
  ·obtain ⟨rfl,rfl⟩:=a; rw [e2] at hb; cases hb
  ·by_cases c:i=id/\v=ver+1
   ·obtain ⟨rfl,rfl⟩:=c
    rw [e1] at hb
    rcases hpl b sz tot hb with ⟨sz',tot',h'⟩ | h'
    ·exact .inl ⟨_,_,_,_,h'⟩
    ·exact .inr h'
   ·rw [e3 i v a c] at hb
    exact .inl ⟨i,v,sz,tot,hb⟩
 refine ⟨⟨?_,?_,?_,?_,?_⟩,⟨hos,htp,hou,hsz,fun k hk hno=>hold k hk (fun sz tot e=>hno ⟨id,ver,sz,tot,e⟩),fun _ _ _ h=>h,fun _ _ _ _=>rfl,hθ,fun b hb=>(hown b hb).imp (fun a=>a) (fun e=>by omega)⟩⟩
 ·intro k o' v hv
  have hc:=h.imm k o' v hv
  rw [<- hc]
  refine World.cell?_of_block (hold k (cell_old hc) fun sz tot e=>?_)
  have:=h.own k ⟨id,ver,sz,tot,e⟩ o'
  rw [this] at hv
  cases hv
 ·intro i o' hi
  by_cases e:i=id
  ·subst e
   rw [List.getElem?_set_self hid] at hi
   cases hi
   exact ho hr
  ·rw [List.getElem?_set_ne (Ne.symm e)] at hi
   refine (h.obj i o' hi).mono (fun v=>e3 i v (by omega) (by omega)) (fun v k s t hk=>hold k (h.ownedLt hk) fun sz tot e'=>?_) hr (ht:=fun k v o hv ho=>by rw [hold k (h.lt hv) (fun sz tot e=>by have:=h.own k ⟨id,ver,sz,tot,e⟩ 0; rw [hv] at this; cases this)]; exact ho)
   exact e (h.inj _ _ _ _ _ _ _ _ _ hk e').1
 ·intro i v hi
  simp at hi
  rw [e3 i v (by omega) (by omega)]
  exact h.out i v hi
 ·intro b hb o'
  rcases hown b hb with hb | hb
  ·exact h.own b hb o'
  ·cases e:W b o' with
   | none=>rfl
   | some v=>have:=h.lt e; omega
 ·intro b i v sz tot i' v' sz' tot' h1 h2
  have key:∀ i v sz tot,thSet (thSet θ id ver .dead) id (ver+1) pl i v=.at b sz tot ->
    (i=id/\v=ver+1/\((∃ s t,θ id ver=.at b s t)\/w.heap.size=b))\/(¬ (i=id/\v=ver)/\¬ (i=id/\v=ver+1)/\θ i v=.at b sz tot):=by
   intro i v sz tot hh
   by_cases a:i=id/\v=ver
   ·obtain ⟨rfl,rfl⟩:=a; rw [e2] at hh; cases hh
   ·by_cases c:i=id/\v=ver+1
    ·obtain ⟨rfl,rfl⟩:=c; rw [e1] at hh; exact .inl ⟨rfl,rfl,hpl b sz tot hh⟩
    ·rw [e3 i v a c] at hh; exact .inr ⟨a,c,hh⟩
  rcases key _ _ _ _ h1 with ⟨a1,a2,a3⟩ | ⟨a1,a2,a3⟩ <;> rcases key _ _ _ _ h2 with ⟨b1,b2,b3⟩ | ⟨b1,b2,b3⟩
  ·exact ⟨by omega,by omega⟩
  ·rcases a3 with ⟨s,t,a3⟩ | a3
   ·have:=h.inj _ _ _ _ _ _ _ _ _ a3 b3; omega
   ·have:=h.ownedLt b3; omega
  ·rcases b3 with ⟨s,t,b3⟩ | b3
   ·have:=h.inj _ _ _ _ _ _ _ _ _ b3 a3; omega
   ·have:=h.ownedLt a3; omega
  ·exact h.inj b _ _ _ _ _ _ _ _ a3 b3
end Go.AM
