/- What is kept by one who owns some objects; cells that lie in a row, laid over and read. -/
import Derived.Test.YteilijfligofdaaGreatDoorAm30
set_option linter.all false
namespace Go.AM
structure Fr (P P':Nat->Prop) (H H':List AO):Prop where
 eF:∀(j:Nat) o,H[j]?=some o->¬P j->H'[j]?=some o
 new:∀j,P' j->P j\/H.length<=j
 len:H.length<=H'.length
theorem ri {α:Type} {f:α→List AV} {k:Nat} (hf:∀a,(f a).length=k):∀(l:List α),(l.flatMap f).length=l.length*k
  |[]=>by simp
  |a::l=>by
   rw[List.flatMap_cons,List.length_append,hf,ri hf l,List.length_cons,Nat.add_mul,Nat.one_mul,Nat.add_comm]
theorem gb {K:St->Prop} {L T:En} {H:List AO} {d:MD} {sz bytes:Nat} {a:AV} {rs ys:List (List AV)} (h:iG H a sz rs)
  (hb:(rs.length+ys.length)*bytes<=140737488355328) (hl:rs.length+ys.length<=140737488355328)
  (k:∀id ver H',H'[id]?=some (.rows sz ver (rs++ys))->((∃v o n,a=.gs id v o n)\/H.length<=id)->(∀(j:Nat) o,H[j]?=some o->(∀v o' n,a≠.gs j v o' n)->H'[j]?=some o)->H.length<=H'.length->
   K (St.put ⟨L,T,H'⟩ d (.gs id ver 0 (rs.length+ys.length)))):lR sz bytes a ys d K ⟨L,T,H⟩:=by
 rcases h with⟨rfl,rfl⟩|⟨id,ver,rfl,h3⟩
 ·refine⟨by simpa using hb,by simpa using hl,?_⟩
  have:=k H.length 0 (H++[.rows sz 0 ys]) (by simp) (.inr (Nat.le_refl _)) (fun j o hj _=>ag hj _) (by simp);rw[List.length_nil,Nat.zero_add]at this;exact this
 ·show AA sz bytes id ver 0 rs.length ys d K ⟨L,T,H⟩ H[id]?
  rw[h3];refine⟨rfl,rfl,rfl,Nat.le_refl _,hb,hl,?_⟩;rw[List.take_length];exact k id (ver+1) _ (aR h3) (.inl ⟨_,_,_,rfl⟩) (fun j o hj cK=>aM hj (fun e=>cK _ _ _ (by rw[e]))) (by simp)
def rj (c:AV):AO->Prop
 | .var cs=>c∈cs
 | .rows _ _ rs=>∃r∈rs,c∈r
 |_=>False
theorem FO {P:Program} {f:Nat} {args:List AV} {H Hc:List AO} {r0:AV} (h:al P f args H (fun r H'=>r=r0/\∃G,H'=Hc++G)) (hlen:Hc.length=H.length) (hr:Tf r0)
  (HA:∀(id:Nat) o,Hc[id]?=some o->∀c,rj c o->Tf c\/∃(jC:Nat) (o':AO),H[jC]?=some o'/\rj c o'):al P f args H (aP r0 Hc):=by
 refine⟨h.1,fun w θ W vs jI cY=>?_⟩;refine(h.2 w θ W vs jI cY).mono ?_;rintro e w' ⟨v,r,H',aX,W',rfl,⟨rfl,G,rfl⟩,pY,hv,bc⟩;refine⟨v,r,Hc,gX aX H.length,W',rfl,⟨rfl,rfl⟩,?_,hr _ _ _ _ hv,?_⟩
 ·refine⟨pY.nF,?_,?_,?_,?_⟩
  ·intro id o ho
   have aF:=(List.getElem?_eq_some_iff.1 ho).1;have mO:(Hc++G)[id]?=some o:=ag ho G;have hO:=pY.obj id o mO;have e:∀ver,gX aX H.length id ver=aX id ver:=fun ver=>oZ (by omega)
   have key:∀c,rj c o->∀v,bb aX W' c v->bb (gX aX H.length) W' c v:=by
    intro c hc v hv;rcases HA id o ho c hc with hk|⟨jC,o',Jy,ou⟩
    ·exact hk _ _ _ _ hv
    ·obtain⟨v1,v2⟩:=(jI.obj jC o' Jy).val
     cases o' with
     |var cs=>obtain⟨v0,h0⟩:=v1 cs rfl c ou;exact rh jI.out h0 hv
     |rows sz ver rs=>obtain⟨r,hr,Rb⟩:=ou;obtain⟨v0,h0⟩:=v2 sz ver rs rfl r hr c Rb;exact rh jI.out h0 hv
     |dead=>exact ou.elim
     |iQ=>exact ou.elim
     |tE b v=>exact ou.elim
     |Fj b v o=>exact ou.elim
   exact hO.cells e (fun cs ec c hc v hv=>key c (by subst ec;exact hc) v hv) (fun sz ver rs ec r hr c hc v hv=>key c (by subst ec;exact⟨r,hr,hc⟩) v hv)
  ·intro id ver hid
   simp[gX,show ¬id<H.length by omega]
  ·rintro b ⟨id,ver,sz,br,hb⟩ o
   refine pY.own b ⟨id,ver,sz,br,?_⟩ o;unfold gX at hb;split at hb
   ·exact hb
   ·cases hb
  ·intro b id ver sz br jC cI cX gn h1 h2
   unfold gX at h1 h2;split at h1
   ·split at h2
    ·exact pY.inj b id ver sz br jC cI cX gn h1 h2
    ·cases h2
   ·cases h1
 ·refine⟨bc.os,bc.tape,bc.output,bc.size,bc.eF,bc.nF,bc.old,?_,?_⟩
  ·intro id ver cK
   have aF:id<H.length:=by
    rcases Nat.lt_or_ge id H.length with h|h
    ·exact h
    ·exact(cK (jI.out id ver h)).elim
   rw[oZ aF];exact bc.th id ver cK
  ·rintro b ⟨id,ver,sz,br,hb⟩
   refine bc.fresh b ⟨id,ver,sz,br,?_⟩;unfold gX at hb;split at hb
   ·exact hb
   ·cases hb
theorem aV {P:Program} {f:Nat} {args:List AV} {H:List AO} {r0:AV} (h:al P f args H (fun r H'=>r=r0/\∃G,H'=H++G)) (hr:Tf r0):al P f args H (aP r0 H):=
 FO h rfl hr fun id o ho c hc=>.inr ⟨id,o,ho,hc⟩
theorem U {P:Program} {f:Nat} {as:List AV} {H H0:List AO} {r0:AV} {Q:AV->List AO->Prop} (h:al P f as H (aP r0 H0)) (k:Q r0 H0):al P f as H Q:=
 h.mono (by rintro r H' ⟨rfl,rfl⟩;exact k)
end Go.AM
