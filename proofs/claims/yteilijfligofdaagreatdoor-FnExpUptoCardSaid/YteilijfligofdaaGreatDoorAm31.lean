/- What is kept by one who owns some objects; cells that lie in a row, laid over and read. -/
import Derived.Test.YteilijfligofdaaGreatDoorAm30
set_option linter.all false
namespace Go.AM
structure Fr (P P':Nat->Prop) (H H':List AO):Prop where
 keep:∀ (j:Nat) o,H[j]?=some o->¬ P j->H'[j]?=some o
 new:∀ j,P' j->P j\/H.length<=j
 len:H.length<=H'.length
theorem flat_len {α : Type} {f : α → List AV} {k : Nat} (hf : ∀ a, (f a).length = k) : ∀ (l : List α), (l.flatMap f).length = l.length * k
  | [] => by simp
  | a :: l => by
    rw [List.flatMap_cons, List.length_append, hf, flat_len hf l, List.length_cons, Nat.add_mul, Nat.one_mul, Nat.add_comm]
theorem app_fr {K:St->Prop} {L T:En} {H:List AO} {d:MD} {sz bytes:Nat} {a:AV} {rs ys:List (List AV)} (h:OwnR H a sz rs)
  (hb:(rs.length+ys.length) * bytes<=140737488355328) (hl:rs.length+ys.length<=140737488355328)
  (k:∀ id ver H',H'[id]?=some (.rows sz ver (rs++ys))->((∃ v o n,a=.gs id v o n)\/H.length<=id)->(∀ (j:Nat) o,H[j]?=some o->(∀ v o' n,a≠.gs j v o' n)->H'[j]?=some o)->H.length<=H'.length ->
   K (St.put ⟨L,T,H'⟩ d (.gs id ver 0 (rs.length+ys.length)))):appX sz bytes a ys d K ⟨L,T,H⟩:=by
 rcases h with ⟨rfl,rfl⟩ | ⟨id,ver,rfl,h3⟩
 ·refine ⟨by simpa using hb,by simpa using hl,?_⟩
  have:=k H.length 0 (H++[.rows sz 0 ys]) (by simp) (.inr (Nat.le_refl _)) (fun j o hj _=>get_ext hj _) (by simp)
  rw [List.length_nil,Nat.zero_add] at this
  exact this
 ·show appR sz bytes id ver 0 rs.length ys d K ⟨L,T,H⟩ H[id]?
  rw [h3]
  refine ⟨rfl,rfl,rfl,Nat.le_refl _,hb,hl,?_⟩
  rw [List.take_length]
  exact k id (ver+1) _ (set_get h3) (.inl ⟨_,_,_,rfl⟩) (fun j o hj hne=>get_set hj (fun e=>hne _ _ _ (by rw [e]))) (by simp)
def InO (c:AV):AO->Prop
 | .var cs=>c∈cs
 | .rows _ _ rs=>∃ r∈rs,c∈r
 | _=>False
theorem acall_drop2 {P:Program} {f:Nat} {args:List AV} {H Hc:List AO} {r0:AV} (h:ACall P f args H (fun r H'=>r=r0/\∃ G,H'=Hc++G)) (hlen:Hc.length=H.length) (hr:Tf r0)
  (hobj:∀ (id:Nat) o,Hc[id]?=some o->∀ c,InO c o->Tf c\/∃ (id':Nat) (o':AO),H[id']?=some o'/\InO c o'):ACall P f args H (pureQ r0 Hc):=by
 refine ⟨h.1,fun w θ W vs hSR hrel=>?_⟩
 refine (h.2 w θ W vs hSR hrel).mono ?_
 rintro e w' ⟨v,r,H',θ',W',rfl,⟨rfl,G,rfl⟩,hS',hv,hst⟩
 refine ⟨v,r,Hc,thCut θ' H.length,W',rfl,⟨rfl,rfl⟩,?_,hr _ _ _ _ hv,?_⟩
 ·refine ⟨hS'.imm,?_,?_,?_,?_⟩
  ·intro id o ho
   have hlt:=(List.getElem?_eq_some_iff.1 ho).1
   have ho':(Hc++G)[id]?=some o:=get_ext ho G
   have hO:=hS'.obj id o ho'
   have e:∀ ver,thCut θ' H.length id ver=θ' id ver:=fun ver=>thCut_lt (by omega)
   have key:∀ c,InO c o->∀ v,ARel θ' W' c v->ARel (thCut θ' H.length) W' c v:=by
    intro c hc v hv
    rcases hobj id o ho c hc with hk | ⟨id',o',ho1,ho2⟩
    ·exact hk _ _ _ _ hv
    ·obtain ⟨v1,v2⟩:=(hSR.obj id' o' ho1).val
     cases o' with
     | var cs=>obtain ⟨v0,h0⟩:=v1 cs rfl c ho2; exact cut_rel hSR.out h0 hv
     | rows sz ver rs=>obtain ⟨r,hr,hcr⟩:=ho2; obtain ⟨v0,h0⟩:=v2 sz ver rs rfl r hr c hcr; exact cut_rel hSR.out h0 hv
     | dead=>exact ho2.elim
     | rsv=>exact ho2.elim
     | glob b v=>exact ho2.elim
     | tab b v o=>exact ho2.elim
   exact hO.cells e (fun cs ec c hc v hv=>key c (by subst ec; exact hc) v hv) (fun sz ver rs ec r hr c hc v hv=>key c (by subst ec; exact ⟨r,hr,hc⟩) v hv)
  ·intro id ver hid
   simp [thCut,show ¬ id<H.length by omega]
  ·rintro b ⟨id,ver,sz,tot,hb⟩ o
   refine hS'.own b ⟨id,ver,sz,tot,?_⟩ o
   unfold thCut at hb
   split at hb
   ·exact hb
   ·cases hb
  ·intro b id ver sz tot id' ver' sz' tot' h1 h2
   unfold thCut at h1 h2
   split at h1
   ·split at h2
    ·exact hS'.inj b id ver sz tot id' ver' sz' tot' h1 h2
    ·cases h2
   ·cases h1
 ·refine ⟨hst.os,hst.tape,hst.output,hst.size,hst.keep,hst.imm,hst.old,?_,?_⟩
  ·intro id ver hne
   have hlt:id<H.length:=by
    rcases Nat.lt_or_ge id H.length with h | h
    ·exact h
    ·exact (hne (hSR.out id ver h)).elim
   rw [thCut_lt hlt]
   exact hst.th id ver hne
  ·rintro b ⟨id,ver,sz,tot,hb⟩
   refine hst.fresh b ⟨id,ver,sz,tot,?_⟩
   unfold thCut at hb
   split at hb
   ·exact hb
   ·cases hb
theorem acall_drop1 {P:Program} {f:Nat} {args:List AV} {H:List AO} {r0:AV} (h:ACall P f args H (fun r H'=>r=r0/\∃ G,H'=H++G)) (hr:Tf r0):ACall P f args H (pureQ r0 H) :=
 acall_drop2 h rfl hr fun id o ho c hc=>.inr ⟨id,o,ho,hc⟩
theorem acall_pure {P:Program} {f:Nat} {as:List AV} {H H0:List AO} {r0:AV} {Q:AV->List AO->Prop} (h:ACall P f as H (pureQ r0 H0)) (k:Q r0 H0):ACall P f as H Q :=
 h.mono (by rintro r H' ⟨rfl,rfl⟩; exact k)
end Go.AM
