/- A call whose result is its caller's own: contracts at no memory, used at any. -/
import Derived.Test.YtnelfbcgplooiaaGreatAm26
set_option linter.all false
namespace Go.AM
variable {P:Program} {θ:Th} {W:Im}
inductive Ren (ids:List Nat) (b:Nat):AV→AV→Prop
 | g (a:AV) (h:Grnd a):Ren ids b a a
 | gs (k id ver off n:Nat) (h:ids[k]?=some id):Ren ids b (.gs id ver off n) (.gs (b+k) ver off n)
 | ptr (k id off:Nat) (h:ids[k]?=some id):Ren ids b (.ptr id off) (.ptr (b+k) off)
 | st (as bs:List AV) (hlen:as.length=bs.length) (hc:∀ (j:Nat) x y,as[j]?=some x→bs[j]?=some y→Ren ids b x y):Ren ids b (.st as) (.st bs)
 | tup (as bs:List AV) (hlen:as.length=bs.length) (hc:∀ (j:Nat) x y,as[j]?=some x→bs[j]?=some y→Ren ids b x y):Ren ids b (.tup as) (.tup bs)
inductive RenO (ids:List Nat) (b:Nat):AO→AO→Prop
 | rows (sz ver:Nat) (rs us:List (List AV)) (hlen:rs.length=us.length) (hl:∀ (i:Nat) r u,rs[i]?=some r→us[i]?=some u→r.length=u.length)
   (hc:∀ (i:Nat) r u (j:Nat) x y,rs[i]?=some r→us[i]?=some u→r[j]?=some x→u[j]?=some y→Ren ids b x y):RenO ids b (.rows sz ver rs) (.rows sz ver us)
 | var (as bs:List AV) (hlen:as.length=bs.length) (hc:∀ (j:Nat) x y,as[j]?=some x→bs[j]?=some y→Ren ids b x y):RenO ids b (.var as) (.var bs)
def thRen (θ θ':Th) (ids:List Nat) (b:Nat):Th:=fun id ver=>if id<b then θ id ver else match ids[id - b]? with
 | some id0=>θ' id0 ver
 | none=>.no
theorem thRen_old {θ θ':Th} {ids:List Nat} {b id ver:Nat} (h:id<b):thRen θ θ' ids b id ver=θ id ver:=by simp [thRen,h]
theorem thRen_new {θ θ':Th} {ids:List Nat} {b k id ver:Nat} (h:ids[k]?=some id):thRen θ θ' ids b (b+k) ver=θ' id ver:=by
 unfold thRen
 rw [if_neg (by omega),Nat.add_sub_cancel_left,h]
theorem ren_rel {θ' : Th} {W' : Im} {ids : List Nat} {b : Nat} {x y : AV} (h : Ren ids b x y) : ∀ {v : Value}, ARel θ' W' x v → ARel (thRen θ θ' ids b) W y v := by
  induction h with
  | g a h => exact fun hv => h _ _ _ _ _ hv
  | gs k id ver off n hk =>
    intro v hv
    have e : thRen θ θ' ids b (b + k) ver = θ' id ver := thRen_new hk
    cases hv with
    | gsDead _ _ _ _ a cap hd hn hm => exact .gsDead _ _ _ _ _ _ (e.trans hd) hn hm
    | gsNil _ _ hd => exact .gsNil _ _ (e.trans hd)
    | gs _ _ _ _ bb sz tot o cap hd hn hm hc ho h0 => exact .gs _ _ _ _ bb sz tot o cap (e.trans hd) hn hm hc ho h0
  | ptr k id off hk =>
    intro v hv
    have e : thRen θ θ' ids b (b + k) 0 = θ' id 0 := thRen_new hk
    cases hv with
    | ptr _ _ bb sz tot hd => exact .ptr _ _ bb sz tot (e.trans hd)
    | ptrDead _ _ a hd => exact .ptrDead _ _ a (e.trans hd)
  | st as bs hlen hc ih =>
    intro v hv
    cases hv with
    | st _ us hs hc' h1 =>
      refine .st bs us (by omega) (fun j c u hj hu => ?_) h1
      have hlt : j < as.length := by rw [hlen]; exact (List.getElem?_eq_some_iff.1 hj).1
      exact ih j as[j] c (by simp [hlt]) hj (hc' j as[j] u (by simp [hlt]) hu)
  | tup as bs hlen hc ih =>
    intro v hv
    cases hv with
    | tup _ us hs hc' =>
      refine .tup bs us (by omega) (fun j c u hj hu => ?_)
      have hlt : j < as.length := by rw [hlen]; exact (List.getElem?_eq_some_iff.1 hj).1
      exact ih j as[j] c (by simp [hlt]) hj (hc' j as[j] u (by simp [hlt]) hu)
theorem renO_rel {θ' : Th} {W' : Im} {ids : List Nat} {b k id : Nat} {o o' : AO} {w : World} (hk : ids[k]? = some id) (h : RenO ids b o o') (ho : OR θ' W' w id o) : OR (thRen θ θ' ids b) W w (b + k) o' := by
  have e : ∀ ver, thRen θ θ' ids b (b + k) ver = θ' id ver := fun ver => thRen_new hk
  cases h with
  | var as bs hlen hc =>
    obtain ⟨⟨bb, sz, tot, ty, vs, h1, h2, h3, h4, h5⟩, h6⟩ := ho
    refine ⟨⟨bb, sz, tot, ty, vs, (e 0).trans h1, h2, by omega, fun j c v hj hv => ?_, h5⟩, fun ver hv => (e ver).trans (h6 ver hv)⟩
    have hlt : j < as.length := by rw [hlen]; exact (List.getElem?_eq_some_iff.1 hj).1
    exact ren_rel (hc j as[j] c (by simp [hlt]) hj) (h4 j as[j] v (by simp [hlt]) hv)
  | rows sz ver rs us hlen hl hc =>
    obtain ⟨h1, h2, h3⟩ := ho
    refine ⟨?_, fun v hv => (e v).trans (h2 v hv), fun v hv => (e v).trans (h3 v hv)⟩
    rcases h1 with ⟨h1, h4⟩ | ⟨bb, tot, ty, vs, h1, h4, h5, h6, h7, h8, h9⟩
    · subst h4
      exact .inl ⟨(e ver).trans h1, List.eq_nil_of_length_eq_zero (by simpa using hlen.symm)⟩
    · refine .inr ⟨bb, tot, ty, vs, (e ver).trans h1, h4, h5, by omega, fun u hu => ?_, fun i u j c v hi hj hv => ?_, h9⟩
      · obtain ⟨i, hi⟩ := List.mem_iff_getElem?.1 hu
        have hlt : i < rs.length := by rw [hlen]; exact (List.getElem?_eq_some_iff.1 hi).1
        rw [← hl i rs[i] u (by simp [hlt]) hi]
        exact h7 _ (List.getElem_mem hlt)
      · have hlt : i < rs.length := by rw [hlen]; exact (List.getElem?_eq_some_iff.1 hi).1
        have hll := hl i rs[i] u (by simp [hlt]) hi
        have hjl : j < rs[i].length := by rw [hll]; exact (List.getElem?_eq_some_iff.1 hj).1
        exact ren_rel (hc i rs[i] u j rs[i][j] c (by simp [hlt]) hi (by simp [hjl]) hj) (h8 i rs[i] j rs[i][j] v (by simp [hlt]) (by simp [hjl]) hv)
theorem acall_own {f:Nat} {as bs:List AV} {H:List AO} {Q:AV→List AO→Prop} {R:AV→List AO→Prop} (h:ACall P f bs [] Q) (hl:LentAll H as bs)
  (hq:∀ r H0,Q r H0→∃ (ids:List Nat) (r':AV) (os:List AO),ids.Nodup∧os.length=ids.length∧Ren ids H.length r r'∧(∀ (k id:Nat) o,ids[k]?=some id→os[k]?=some o→∃ o0,H0[id]?=some o0∧RenO ids H.length o0 o)∧R r' (H++os)) :
  ACall P f as H R:=by
 refine ⟨h.1,fun w θ W vs hSR hrel=>?_⟩
 have hrel':Rels noTh (frz θ W w) bs vs:=by
  refine ⟨hrel.1.trans hl.1,fun j b v hb hv=>?_⟩
  have hlt:j<as.length:=by rw [hl.1]; exact (List.getElem?_eq_some_iff.1 hb).1
  exact lent_rel hSR (hl.2 j as[j] b (by simp [hlt]) hb) (hrel.2 j as[j] v (by simp [hlt]) hv)
 refine (h.2 w noTh (frz θ W w) vs hSR.frz hrel').mono ?_
 rintro e w' ⟨v,r,H0,θ',W',rfl,hqr,hSR',hA,hS⟩
 obtain ⟨ids,r',os,hnd,hlen,hren,hobj,hR⟩:=hq r H0 hqr
 have hold:=hS.old_heap
 have hfresh:∀ b,Owned θ' b→w.heap.size≤b:=fun b ho=>(hS.fresh b ho).elim (fun h=>(not_owned b h).elim) id
 have hown:∀ b,Owned (thRen θ θ' ids H.length) b→(Owned θ b∧b<w.heap.size)∨w.heap.size≤b:=by
  rintro b ⟨id,ver,sz,tot,ho⟩
  by_cases hid:id<H.length
  ·rw [thRen_old hid] at ho
   exact .inl ⟨⟨_,_,_,_,ho⟩,hSR.ownedLt ho⟩
  ·unfold thRen at ho
   rw [if_neg hid] at ho
   split at ho
   ·exact .inr (hfresh b ⟨_,_,_,_,ho⟩)
   ·cases ho
 refine ⟨v,r',H++os,thRen θ θ' ids H.length,W,rfl,hR,⟨fun b o u hu=>?_,fun id ob hid=>?_,fun id ver hid=>?_,fun b hb o=>?_,?_⟩,ren_rel hren hA,
  ⟨hS.os,hS.tape,hS.output,hS.size,fun b hb _=>hold b hb,fun _ _ _ h=>h,fun _ _ _ _=>rfl,fun id ver hn=>.inl ?_,fun b hb=>(hown b hb).imp (fun h=>h.1) (fun h=>h)⟩⟩
 ·have hc:=hSR.imm b o u hu
  have:=hold b (cell_old hc)
  simp only [World.cell?] at hc ⊢
  rw [this]; exact hc
 ·rcases Nat.lt_or_ge id H.length with hlt | hge
  ·rw [List.getElem?_append_left hlt] at hid
   have hsame:∀ ver,thRen θ θ' ids H.length id ver=θ id ver:=fun ver=>thRen_old hlt
   have hth:∀ i v,θ i v≠.no→thRen θ θ' ids H.length i v=θ i v∨thRen θ θ' ids H.length i v=.dead:=by
    intro i v hn
    have:i<H.length:=by
     rcases Nat.lt_or_ge i H.length with h1 | h1
     ·exact h1
     ·exact (hn (hSR.out i v h1)).elim
    exact .inl (thRen_old this)
   exact (hSR.obj id ob hid).mono hsame (fun ver b sz tot ho=>hold b (hSR.ownedLt ho)) (fun x u hx=>hx.mono (fun _ _ _ h=>h) hth)
  ·rw [List.getElem?_append_right hge] at hid
   have hk:id - H.length<ids.length:=by rw [← hlen]; exact (List.getElem?_eq_some_iff.1 hid).1
   have hk':=List.getElem?_eq_getElem hk
   obtain ⟨o0,h1,h2⟩:=hobj _ _ _ hk' hid
   have:=renO_rel (θ:=θ) (W:=W) hk' h2 (hSR'.obj _ o0 h1)
   rw [show H.length+(id - H.length)=id by omega] at this
   exact this
 ·have h1:¬ id<H.length:=by simp at hid; omega
  unfold thRen
  rw [if_neg h1,List.getElem?_eq_none (by simp at hid; omega)]
 ·rcases hown b hb with ⟨h1,_⟩ | h1
  ·exact hSR.own b h1 o
  ·cases hu:W b o with
   | none=>rfl
   | some u=>have:=hSR.lt hu; omega
 ·intro b id ver sz tot id' ver' sz' tot' h1 h2
  have split1:∀ {i vv s t},thRen θ θ' ids H.length i vv=.at b s t→(i<H.length∧θ i vv=.at b s t)∨∃ k j,i=H.length+k∧ids[k]?=some j∧θ' j vv=.at b s t:=by
   intro i vv s t hi
   by_cases hlt:i<H.length
   ·rw [thRen_old hlt] at hi; exact .inl ⟨hlt,hi⟩
   ·unfold thRen at hi
    rw [if_neg hlt] at hi
    split at hi
    ·rename_i j hj; exact .inr ⟨i - H.length,j,by omega,hj,hi⟩
    ·cases hi
  rcases split1 h1 with ⟨a1,b1⟩ | ⟨k,j,a1,b1,c1⟩ <;> rcases split1 h2 with ⟨a2,b2⟩ | ⟨k',j',a2,b2,c2⟩
  ·exact hSR.inj b _ _ _ _ _ _ _ _ b1 b2
  ·have:=hSR.ownedLt b1; have:=hfresh b ⟨_,_,_,_,c2⟩; omega
  ·have:=hSR.ownedLt b2; have:=hfresh b ⟨_,_,_,_,c1⟩; omega
  ·obtain ⟨e1,e2⟩:=hSR'.inj b _ _ _ _ _ _ _ _ c1 c2
   subst e1
   have:k=k':=by
    obtain ⟨p1,p2⟩:=List.getElem?_eq_some_iff.1 b1
    obtain ⟨p3,p4⟩:=List.getElem?_eq_some_iff.1 b2
    have hpw:=List.pairwise_iff_getElem.1 hnd
    rcases Nat.lt_trichotomy k k' with hlt | he | hgt
    ·exact (hpw k k' p1 p3 hlt (p2.trans p4.symm)).elim
    ·exact he
    ·exact (hpw k' k p3 p1 hgt (p4.trans p2.symm)).elim
   exact ⟨by omega,e2⟩
 ·have:id<H.length:=by
   rcases Nat.lt_or_ge id H.length with h1 | h1
   ·exact h1
   ·exact (hn (hSR.out id ver h1)).elim
  exact thRen_old this
end Go.AM
