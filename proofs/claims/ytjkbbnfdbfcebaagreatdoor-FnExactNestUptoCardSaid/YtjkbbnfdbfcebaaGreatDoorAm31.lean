/- What is kept by one who owns some objects; cells that lie in a row, laid over and read. -/
import Derived.Test.YtjkbbnfdbfcebaaGreatDoorAm30
set_option linter.all false
namespace Go.AM
structure Fr (P P':Nat->Prop) (H H':List AO):Prop where
 gf:∀(j:Nat) o,H[j]?=some o->¬P j->H'[j]?=some o
 new:∀j,P' j->P j\/H.length<=j
 len:H.length<=H'.length
theorem jf:∀(old us X:List AV),old.length=us.length→dU (old++X) 0 us=some (us++X)
  |[],[],X,_ =>Aj _ _
  |a::old,u::us,X,h=>by
   show(dU (old++X) 0 us).map (u:: ·)=_;rw[jf old us X (by simpa using h)];rfl
theorem qX {α:Type} {f:α→List AV} {k:Nat} (hf:∀a,(f a).length=k):∀(l:List α),(l.flatMap f).length=l.length*k
  |[]=>by simp
  |a::l=>by
   rw[List.flatMap_cons,List.length_append,hf,qX hf l,List.length_cons,Nat.add_mul,Nat.one_mul,Nat.add_comm]
theorem B3:∀(a b:List AV),takeN a.length (a++b)=some a
  |[],b=>rfl
  |x::a,b=>by
   show(takeN a.length (a++b)).map (x:: ·)=_;rw[B3 a b];rfl
theorem Hg {a b:List AV} {n:Nat} (h:a.length=n):takeN n (a++b)=some a:=by subst h;exact B3 a b
theorem fq {K:St->Prop} {L T:En} {H:List AO} {d:MD} {sz bytes:Nat} {a:AV} {rs ys:List (List AV)} (h:jr H a sz rs)
  (hb:(rs.length+ys.length)*bytes<=140737488355328) (hl:rs.length+ys.length<=140737488355328)
  (k:∀id ver H',H'[id]?=some (.rows sz ver (rs++ys))->((∃v o n,a=.gs id v o n)\/H.length<=id)->(∀(j:Nat) o,H[j]?=some o->(∀v o' n,a≠.gs j v o' n)->H'[j]?=some o)->H.length<=H'.length->
   K (St.put ⟨L,T,H'⟩ d (.gs id ver 0 (rs.length+ys.length)))):mu sz bytes a ys d K ⟨L,T,H⟩:=by
 rcases h with⟨rfl,rfl⟩|⟨id,ver,rfl,h3⟩
 ·refine⟨by simpa using hb,by simpa using hl,?_⟩
  have:=k H.length 0 (H++[.rows sz 0 ys]) (by simp) (.inr (Nat.le_refl _)) (fun j o hj _=>ay hj _) (by simp);rw[List.length_nil,Nat.zero_add]at this;exact this
 ·show Ac sz bytes id ver 0 rs.length ys d K ⟨L,T,H⟩ H[id]?
  rw[h3];refine⟨rfl,rfl,rfl,Nat.le_refl _,hb,hl,?_⟩;rw[List.take_length];exact k id (ver+1) _ (bg h3) (.inl ⟨_,_,_,rfl⟩) (fun j o hj cX=>aU hj (fun e=>cX _ _ _ (by rw[e]))) (by simp)
def sT (c:AV):AO->Prop
 | .var cs=>c∈cs
 | .rows _ _ rs=>∃r∈rs,c∈r
 |_=>False
theorem Fo {P:Program} {f:Nat} {args:List AV} {H Hc:List AO} {r0:AV} (h:aA P f args H (fun r H'=>r=r0/\∃G,H'=Hc++G)) (hlen:Hc.length=H.length) (hr:Tf r0)
  (Hh:∀(id:Nat) o,Hc[id]?=some o->∀c,sT c o->Tf c\/∃(jm:Nat) (o':AO),H[jm]?=some o'/\sT c o'):aA P f args H (aW r0 Hc):=by
 refine⟨h.1,fun w θ W vs gm cR=>?_⟩;refine(h.2 w θ W vs gm cR).mono ?_;rintro e w' ⟨v,r,H',bd,W',rfl,⟨rfl,G,rfl⟩,oD,hv,ba⟩;refine⟨v,r,Hc,gY bd H.length,W',rfl,⟨rfl,rfl⟩,?_,hr _ _ _ _ hv,?_⟩
 ·refine⟨oD.kK,?_,?_,?_,?_⟩
  ·intro id o ho
   have aj:=(List.getElem?_eq_some_iff.1 ho).1;have mG:(Hc++G)[id]?=some o:=ay ho G;have hO:=oD.obj id o mG;have e:∀ver,gY bd H.length id ver=bd id ver:=fun ver=>oP (by omega)
   have key:∀c,sT c o->∀v,bc bd W' c v->bc (gY bd H.length) W' c v:=by
    intro c hc v hv;rcases Hh id o ho c hc with hk|⟨jm,o',I0,qY⟩
    ·exact hk _ _ _ _ hv
    ·obtain⟨v1,v2⟩:=(gm.obj jm o' I0).val
     cases o' with
     |var cs=>obtain⟨v0,h0⟩:=v1 cs rfl c qY;exact qW gm.out h0 hv
     |rows sz ver rs=>obtain⟨r,hr,Qi⟩:=qY;obtain⟨v0,h0⟩:=v2 sz ver rs rfl r hr c Qi;exact qW gm.out h0 hv
     |dead=>exact qY.elim
     |iP=>exact qY.elim
     |td b v=>exact qY.elim
     |ES b v o=>exact qY.elim
   exact hO.cells e (fun cs ec c hc v hv=>key c (by subst ec;exact hc) v hv) (fun sz ver rs ec r hr c hc v hv=>key c (by subst ec;exact⟨r,hr,hc⟩) v hv)
  ·intro id ver hid
   simp[gY,show ¬id<H.length by omega]
  ·rintro b ⟨id,ver,sz,tot,hb⟩ o
   refine oD.own b ⟨id,ver,sz,tot,?_⟩ o;unfold gY at hb;split at hb
   ·exact hb
   ·cases hb
  ·intro b id ver sz tot jm cA cP fc h1 h2
   unfold gY at h1 h2;split at h1
   ·split at h2
    ·exact oD.inj b id ver sz tot jm cA cP fc h1 h2
    ·cases h2
   ·cases h1
 ·refine⟨ba.os,ba.tape,ba.output,ba.size,ba.gf,ba.kK,ba.old,?_,?_⟩
  ·intro id ver cX
   have aj:id<H.length:=by
    rcases Nat.lt_or_ge id H.length with h|h
    ·exact h
    ·exact(cX (gm.out id ver h)).elim
   rw[oP aj];exact ba.th id ver cX
  ·rintro b ⟨id,ver,sz,tot,hb⟩
   refine ba.fresh b ⟨id,ver,sz,tot,?_⟩;unfold gY at hb;split at hb
   ·exact hb
   ·cases hb
theorem aD {P:Program} {f:Nat} {args:List AV} {H:List AO} {r0:AV} (h:aA P f args H (fun r H'=>r=r0/\∃G,H'=H++G)) (hr:Tf r0):aA P f args H (aW r0 H):=
 Fo h rfl hr fun id o ho c hc=>.inr ⟨id,o,ho,hc⟩
theorem U {P:Program} {f:Nat} {as:List AV} {H H0:List AO} {r0:AV} {Q:AV->List AO->Prop} (h:aA P f as H (aW r0 H0)) (k:Q r0 H0):aA P f as H Q:=
 h.mono (by rintro r H' ⟨rfl,rfl⟩;exact k)
end Go.AM
