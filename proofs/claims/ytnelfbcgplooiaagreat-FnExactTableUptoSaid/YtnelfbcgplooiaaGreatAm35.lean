/- What a call makes, laid at places that are kept for it. -/
import Derived.Test.YtnelfbcgplooiaaGreatAm34
set_option linter.all false
namespace Go.AM
variable {P:Program}
def Lw (n:Nat) (c:AV):Prop:=∀ θ W v,ARel θ W c v→ARel (thCut θ n) W c v
theorem lw_tf {n:Nat} {c:AV} (h:Tf c):Lw n c:=fun θ W v hv=>h _ _ _ _ hv
theorem lw_gs {n id ver off k:Nat} (h:id<n):Lw n (.gs id ver off k):=fun θ W v hv=>by
 have e:∀ ver,thCut θ n id ver=θ id ver:=fun ver=>thCut_lt h
 cases hv with
 | gsDead _ _ _ _ a cap hd hn hm=>exact .gsDead _ _ _ _ _ _ ((e _).trans hd) hn hm
 | gsNil _ _ hd=>exact .gsNil _ _ ((e _).trans hd)
 | gs _ _ _ _ bb sz tot o cap hd hn hm hc ho h0=>exact .gs _ _ _ _ bb sz tot o cap ((e _).trans hd) hn hm hc ho h0
theorem lw_st {n:Nat} {l:List AV} (h:∀ c∈l,Lw n c):Lw n (.st l):=fun θ W v hv=>by
 cases hv with
 | st _ us hs hc h1=>exact .st _ us hs (fun j c v hj hu=>h c (List.mem_of_getElem? hj) _ _ _ (hc j c v hj hu)) h1
theorem acall_cut {f:Nat} {args:List AV} {H Hc:List AO} {r0:AV} (h:ACall P f args H (fun r H'=>r=r0∧∃ G,H'=Hc++G)) (hlen:Hc.length=H.length) (hr:Lw H.length r0)
  (hobj:∀ (id:Nat) o,Hc[id]?=some o→∀ c,InO c o→Lw H.length c∨∃ (id':Nat) (o':AO),H[id']?=some o'∧InO c o'):ACall P f args H (pureQ r0 Hc):=by
 refine ⟨h.1,fun w θ W vs hSR hrel=>?_⟩
 refine (h.2 w θ W vs hSR hrel).mono ?_
 rintro e w' ⟨v,r,H',θ',W',rfl,⟨rfl,G,rfl⟩,hS',hv,hst⟩
 refine ⟨v,r,Hc,thCut θ' H.length,W',rfl,⟨rfl,rfl⟩,?_,hr _ _ _ hv,?_⟩
 ·refine ⟨hS'.imm,?_,?_,?_,?_⟩
  ·intro id o ho
   have hlt:=(List.getElem?_eq_some_iff.1 ho).1
   have ho':(Hc++G)[id]?=some o:=get_ext ho G
   have hO:=hS'.obj id o ho'
   have e:∀ ver,thCut θ' H.length id ver=θ' id ver:=fun ver=>thCut_lt (by omega)
   have key:∀ c,InO c o→∀ v,ARel θ' W' c v→ARel (thCut θ' H.length) W' c v:=by
    intro c hc v hv
    rcases hobj id o ho c hc with hk | ⟨id',o',ho1,ho2⟩
    ·exact hk _ _ _ hv
    ·obtain ⟨v1,v2⟩:=(hSR.obj id' o' ho1).val
     cases o' with
     | var cs=>obtain ⟨v0,h0⟩:=v1 cs rfl c ho2; exact cut_rel hSR.out h0 hv
     | rows sz ver rs=>obtain ⟨r,hr,hcr⟩:=ho2; obtain ⟨v0,h0⟩:=v2 sz ver rs rfl r hr c hcr; exact cut_rel hSR.out h0 hv
     | dead=>exact ho2.elim
     | rsv=>exact ho2.elim
   exact hO.cells e (fun cs ec c hc v hv=>key c (by subst ec; exact hc) v hv) (fun sz ver rs ec r hr c hc v hv=>key c (by subst ec; exact ⟨r,hr,hc⟩) v hv)
  ·intro id ver hid
   simp [thCut,show ¬ id<H.length by omega]
  ·rintro b ⟨id,ver,sz,tot,hb⟩ o
   refine hS'.own b ⟨id,ver,sz,tot,?_⟩ o
   unfold thCut at hb
   split at hb
   ·exact hb
   ·cases hb
  ·intro b id ver sz tot id' ver' sz' tot' h1 h2
   unfold thCut at h1 h2
   split at h1
   ·split at h2
    ·exact hS'.inj b id ver sz tot id' ver' sz' tot' h1 h2
    ·cases h2
   ·cases h1
 ·refine ⟨hst.os,hst.tape,hst.output,hst.size,hst.keep,hst.imm,hst.old,?_,?_⟩
  ·intro id ver hne
   have hlt:id<H.length:=by
    rcases Nat.lt_or_ge id H.length with h | h
    ·exact h
    ·exact (hne (hSR.out id ver h)).elim
   rw [thCut_lt hlt]
   exact hst.th id ver hne
  ·rintro b ⟨id,ver,sz,tot,hb⟩
   refine hst.fresh b ⟨id,ver,sz,tot,?_⟩
   unfold thCut at hb
   split at hb
   ·exact hb
   ·cases hb
def thMv (θ:Th) (id ver p:Nat):Th:=fun i v=>if i=p then (if v=0 then θ id ver else .no) else if i=id then (match θ i v with | .no=>.no | _=>.dead) else θ i v
def Mv (id ver p:Nat) (a b:AV):Prop:=∀ θ W v,(∀ ver,θ p ver=.no)→ARel θ W a v→ARel (thMv θ id ver p) W b v
theorem mv_noid {id ver p:Nat} {a:AV} (h:Noid a):Mv id ver p a a:=fun θ W v _ hv=>h _ _ _ _ hv
theorem mv_gs {id ver p off n:Nat}:Mv id ver p (.gs id ver off n) (.gs p 0 off n):=fun θ W v _ hv=>by
 have e:thMv θ id ver p p 0=θ id ver:=by simp [thMv]
 cases hv with
 | gsDead _ _ _ _ a cap hd hn hm=>exact .gsDead _ _ _ _ _ _ (e.trans hd) hn hm
 | gsNil _ _ hd=>exact .gsNil _ _ (e.trans hd)
 | gs _ _ _ _ bb sz tot o cap hd hn hm hc ho h0=>exact .gs _ _ _ _ bb sz tot o cap (e.trans hd) hn hm hc ho h0
theorem mv_st {id ver p : Nat} {l l' : List AV} (hl : l.length = l'.length) (h : ∀ (j : Nat) a b, l[j]? = some a → l'[j]? = some b → Mv id ver p a b) : Mv id ver p (.st l) (.st l') := fun θ W v hp hv => by
  cases hv with
  | st _ us hs hc h1 =>
    refine .st _ us (by omega) (fun j c v hj hu => ?_) h1
    have hlt : j < l.length := by rw [hl]; exact (List.getElem?_eq_some_iff.1 hj).1
    exact h j l[j] c (by simp [hlt]) hj _ _ _ hp (hc j l[j] v (by simp [hlt]) hu)
theorem acall_move {f:Nat} {args:List AV} {H:List AO} {Q R:AV→List AO→Prop} {p:Nat} (h:ACall P f args H Q) (hp:H[p]?=some .rsv)
  (hq:∀ r H',Q r H'→∃ (id ver sz:Nat) (rs:List (List AV)) (r':AV),H.length≤id∧H'[p]?=some .rsv∧H'[id]?=some (.rows sz ver rs)∧Mv id ver p r r'∧R r' ((H'.set p (.rows sz 0 rs)).set id .dead)):ACall P f args H R:=by
 refine ⟨h.1,fun w θ W vs hSR hrel=>?_⟩
 refine (h.2 w θ W vs hSR hrel).mono ?_
 rintro e w' ⟨v,r,H',θ',W',rfl,hqr,hS',hv,hst⟩
 obtain ⟨id,ver,sz,rs,r',hid,hp',ho,hmv,hR⟩:=hq r H' hqr
 have hpn:∀ ver,θ' p ver=.no:=hS'.obj p _ hp'
 have hpo:∀ ver,θ p ver=.no:=hSR.obj p _ hp
 have hne:id≠p:=by rintro rfl; rw [hp'] at ho; cases ho
 have hstep:∀ i v,θ' i v≠.no→thMv θ' id ver p i v=θ' i v∨thMv θ' id ver p i v=.dead:=by
  intro i v hn
  have hip:i≠p:=by rintro rfl; exact hn (hpn v)
  unfold thMv
  rw [if_neg hip]
  split
  ·right; split
   ·rename_i e; exact (hn e).elim
   ·rfl
  ·exact .inl rfl
 have eo:∀ {i v},i≠p→i≠id→thMv θ' id ver p i v=θ' i v:=fun h1 h2=>by simp [thMv,h1,h2]
 have hat:∀ {b i v s t},thMv θ' id ver p i v=.at b s t→(i=p∧v=0∧θ' id ver=.at b s t)∨(i≠p∧i≠id∧θ' i v=.at b s t):=by
  intro b i v s t hi
  unfold thMv at hi
  split at hi
  ·split at hi
   ·exact .inl ⟨by assumption,by assumption,hi⟩
   ·cases hi
  ·split at hi
   ·split at hi <;> cases hi
   ·exact .inr ⟨by assumption,by assumption,hi⟩
 have hown:∀ b,Owned (thMv θ' id ver p) b→Owned θ' b:=by
  rintro b ⟨i,v,s,t,hb⟩
  rcases hat hb with ⟨_,_,hb⟩ | ⟨_,_,hb⟩
  ·exact ⟨_,_,_,_,hb⟩
  ·exact ⟨_,_,_,_,hb⟩
 have hidl:=get_lt ho
 have hpl:=get_lt hp'
 have mono:∀ {c:AV} {v:Value},ARel θ' W' c v→ARel (thMv θ' id ver p) W' c v:=fun hc=>hc.mono (fun _ _ _ h=>h) hstep
 refine ⟨v,r',_,thMv θ' id ver p,W',rfl,hR,⟨hS'.imm,?_,?_,fun b hb=>hS'.own b (hown b hb),?_⟩,hmv _ _ _ hpn hv,⟨hst.os,hst.tape,hst.output,hst.size,hst.keep,hst.imm,hst.old,?_,fun b hb=>hst.fresh b (hown b hb)⟩⟩
 ·intro i o hi
  by_cases e1:i=id
  ·subst e1
   rw [List.getElem?_set_self (by simpa using hidl)] at hi
   cases hi
   intro ver'
   simp only [thMv,if_neg hne,if_pos]
   split
   ·exact .inr rfl
   ·exact .inl rfl
  rw [List.getElem?_set_ne (fun h=>e1 h.symm)] at hi
  by_cases e2:i=p
  ·subst e2
   rw [List.getElem?_set_self hpl] at hi
   cases hi
   obtain ⟨h1,h2,h3⟩:=hS'.obj id _ ho
   have e0:thMv θ' id ver i i 0=θ' id ver:=by simp [thMv]
   refine ⟨?_,fun v' hv'=>by simp [thMv,show ¬ v'=0 by omega],fun v' hv'=>by omega⟩
   rcases h1 with ⟨h1,h4⟩ | ⟨b,tot,ty,vs',h1,h4,h5,h6,h7,h8,h9⟩
   ·exact .inl ⟨e0.trans h1,h4⟩
   ·exact .inr ⟨b,tot,ty,vs',e0.trans h1,h4,h5,h6,h7,fun i' r j c v a1 a2 a3=>mono (h8 i' r j c v a1 a2 a3),h9⟩
  ·rw [List.getElem?_set_ne (fun h=>e2 h.symm)] at hi
   exact (hS'.obj i o hi).mono (fun ver'=>eo e2 e1) (fun ver' b sz tot ho=>rfl) (fun c u hc=>mono hc)
 ·intro i v hi
  simp at hi
  rw [eo (by omega) (by omega)]
  exact hS'.out i v hi
 ·intro b i v s t i' v' s' t' h1 h2
  rcases hat h1 with ⟨a1,a2,g1⟩ | ⟨a1,a2,g1⟩ <;> rcases hat h2 with ⟨a3,a4,g2⟩ | ⟨a3,a4,g2⟩
  ·exact ⟨a1.trans a3.symm,a2.trans a4.symm⟩
  ·exact (a4 (hS'.inj b _ _ _ _ _ _ _ _ g1 g2).1.symm).elim
  ·exact (a2 (hS'.inj b _ _ _ _ _ _ _ _ g1 g2).1).elim
  ·exact hS'.inj b _ _ _ _ _ _ _ _ g1 g2
 ·intro i v hn
  have hi:i<H.length:=by
   rcases Nat.lt_or_ge i H.length with h | h
   ·exact h
   ·exact (hn (hSR.out i v h)).elim
  have hip:i≠p:=by rintro rfl; exact hn (hpo v)
  rw [eo hip (by omega)]
  exact hst.th i v hn
theorem acall_ghost {f:Nat} {args:List AV} {H:List AO} {Q:AV→List AO→Prop} (n:Nat) (h:ACall P f args (H++List.replicate n .rsv) Q):ACall P f args H Q :=
 ⟨h.1,fun w θ W vs hSR hrel=>h.2 w θ W vs (hSR.reserve n) hrel⟩
def setL (H:List AO):List Nat→List AO→List AO
 | p :: ps,o :: os=>setL (H.set p o) ps os
 | _,_=>H
theorem setL_e (H:List AO) (os:List AO):setL H [] os=H:=by cases os <;> rfl
theorem setL_nil (H:List AO) (ps:List Nat):setL H ps []=H:=by cases ps <;> rfl
theorem setL_len:∀ (ps:List Nat) (os:List AO) (H:List AO),(setL H ps os).length=H.length
 | [],os,H=>by rw [setL_e]
 | p :: ps,[],H=>rfl
 | p :: ps,o :: os,H=>by rw [setL,setL_len ps os]; simp
theorem setL_ne : ∀ (ps : List Nat) (os : List AO) (H : List AO) (i : Nat), i ∉ ps → (setL H ps os)[i]? = H[i]?
  | [], os, H, i, _ => by rw [setL_e]
  | p :: ps, [], H, i, _ => rfl
  | p :: ps, o :: os, H, i, h => by
    simp at h
    rw [setL, setL_ne ps os _ i h.2, List.getElem?_set_ne (fun e => h.1 e.symm)]
theorem setL_set : ∀ (ps : List Nat) (os : List AO) (H : List AO) (i : Nat) (o : AO), i ∉ ps → (setL H ps os).set i o = setL (H.set i o) ps os
  | [], os, H, i, o, _ => by rw [setL_e, setL_e]
  | p :: ps, [], H, i, o, _ => rfl
  | p :: ps, o' :: os, H, i, o, h => by
    simp at h
    rw [setL, setL, setL_set ps os _ i o h.2, List.set_comm _ _ (fun e => h.1 e.symm)]
theorem setL_app : ∀ (ps : List Nat) (os : List AO) (H A : List AO), (∀ p ∈ ps, p < H.length) → setL (H ++ A) ps os = setL H ps os ++ A
  | [], os, H, A, _ => by rw [setL_e, setL_e]
  | p :: ps, [], H, A, _ => rfl
  | p :: ps, o :: os, H, A, h => by
    rw [setL, setL, List.set_append_left _ _ (h p (by simp)), setL_app ps os _ A (fun q hq => by simpa using h q (by simp [hq]))]
theorem setL_cat : ∀ (ps : List Nat) (os os' : List AO) (H : List AO), setL H ps (os ++ os') = setL (setL H ps os) (ps.drop os.length) os'
  | [], os, os', H => by cases os <;> cases os' <;> rfl
  | p :: ps, [], os', H => rfl
  | p :: ps, o :: os, os', H => by
    rw [List.cons_append, setL, setL, List.length_cons, List.drop_succ_cons]
    exact setL_cat ps os os' _
theorem setL_take : ∀ (ps : List Nat) (os : List AO) (H : List AO) (n : Nat), os.length ≤ n → setL H (ps.take n) os = setL H ps os
  | [], os, H, n, _ => by cases n <;> rfl
  | p :: ps, [], H, n, _ => by rw [setL_nil, setL_nil]
  | p :: ps, o :: os, H, n, h => by
    cases n with
    | zero => simp at h
    | succ n => rw [List.take_succ_cons, setL, setL, setL_take ps os _ n (by simpa using h)]
theorem setL_get : ∀ (ps : List Nat) (os : List AO) (H : List AO) (k p : Nat) (o : AO), ps.Nodup → (∀ p ∈ ps, p < H.length) → ps[k]? = some p → os[k]? = some o → (setL H ps os)[p]? = some o
  | [], os, H, k, p, o, _, _, h, _ => by simp at h
  | q :: ps, [], H, k, p, o, _, _, _, h => by simp at h
  | q :: ps, o' :: os, H, 0, p, o, hn, hl, h1, h2 => by
    simp at h1 h2
    subst h1 h2
    rw [setL, setL_ne ps os _ _ (List.nodup_cons.1 hn).1, List.getElem?_set_self (hl _ (by simp))]
  | q :: ps, o' :: os, H, k + 1, p, o, hn, hl, h1, h2 => by
    rw [setL]
    exact setL_get ps os _ k p o (List.nodup_cons.1 hn).2 (fun q hq => by simpa using hl q (by simp [hq])) (by simpa using h1) (by simpa using h2)
end Go.AM
