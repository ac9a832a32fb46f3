/- A slice that was made and is not written any more is data from a call on: where a variable's cell speaks of it, the cell holds the data. -/
import Derived.Test.YtjkbbnfdbfcebaaGreatDoorAm40
set_option linter.all false
namespace Go.AM
variable {P:Program} {θ:Th} {W:Im} {H:List AO} {w:World}
theorem MB {id:Nat} {o:AO} (hS:SR θ W H w) (hid:H[id]?=some o) (ht:TfO o):SR (iD θ id) W (List.replicate id .dead++[o]) w:=by
 refine⟨hS.kK,?_,?_,fun b hb o'=>hS.own b (wy hb).1 o',?_⟩
 ·intro i o2 ho
  rcases Nat.lt_trichotomy i id with aj|heq|cJ
  ·rw[List.getElem?_append_left (by simpa using aj),List.getElem?_replicate,if_pos aj]at ho
   cases ho;intro ver;exact .inr (by simp[iD,show i≠id by omega])
  ·subst heq
   rw[List.getElem?_append_right (by simp)]at ho;simp at ho;subst ho;have tr:∀c v,Tf c->bc θ W c v->bc (iD θ i) W c v:=fun c v h1 h2=>h1 _ _ _ _ h2
   refine(hS.obj i o hid).cells (fun ver=>by simp[iD]) (fun cs ec c hc v hv=>?_) (fun sz ver rs ec r hr c hc v hv=>?_)
   ·subst ec;exact tr c v (ht c hc) hv
   ·subst ec;exact tr c v (ht r hr c hc) hv
  ·rw[List.getElem?_append_right (by simp;omega)]at ho
   rw[List.length_replicate,show i-id=(i-id-1)+1 by omega]at ho;simp at ho
 ·intro i ver hi
  have:i≠id:=by simp at hi;omega
  simp[iD,this]
 ·intro b i ver sz tot i' cA cP fc h1 h2
  unfold iD at h1 h2;split at h1
  ·split at h2
   ·exact hS.inj b i ver sz tot i' cA cP fc h1 h2
   ·cases h2
  ·cases h1
theorem Qm {id:Nat} {o:AO} (hS:SR θ W H w) (hid:H[id]?=some o) (ht:TfO o):SR (jL θ id) (mK (iD θ id) W w) (H.set id .dead) w/\(∀b o' u,W b o'=some u->mK (iD θ id) W w b o'=some u):=by
 have B8:id<H.length:=(List.getElem?_eq_some_iff.1 hid).1;have Xl:=MB hS hid ht;have wz:∀b o' u,W b o'=some u->mK (iD θ id) W w b o'=some u:=Xl.Hb;have My:∀b,¬gl (iD θ id) b->∀o',mK (iD θ id) W w b o'=W b o':=fun b hb o'=>by unfold mK;rw[if_neg hb]
 refine⟨⟨Xl.mK.kK,?_,?_,?_,?_⟩,wz⟩
 ·intro i o2 ho
  by_cases e:i=id
  ·subst e
   rw[List.getElem?_set_self B8]at ho;cases ho;intro ver;simp only[jL,if_pos];split
   ·exact .inr rfl
   ·exact .inl rfl
  ·rw[List.getElem?_set_ne (fun h=>e h.symm)]at ho
   exact(hS.obj i o2 ho).mono (fun ver=>rS e) (fun ver b sz tot ho=>rfl) (fun c u hc=>hc.mono wz (oE)) wz
 ·intro i ver hi
  rw[List.length_set]at hi;rw[rS (by omega)];exact hS.out i ver hi
 ·intro b hb o'
  obtain⟨i,ver,sz,tot,cX,h1⟩:=Ap hb
  rw[My b (fun h2=>by
   obtain⟨_,PT,sz2,ago,h3⟩:=wy h2;exact cX (hS.inj b _ _ _ _ _ _ _ _ h1 h3).1)]
  exact hS.own b ⟨_,_,_,_,h1⟩ o'
 ·intro b i ver sz tot i' cA cP fc h1 h2
  unfold jL at h1 h2;split at h1
  ·split at h1<;>cases h1
  split at h2
  ·split at h2<;>cases h2
  exact hS.inj b i ver sz tot i' cA cP fc h1 h2
theorem Ep (sz ver:Nat) (rs:List (List PV)):TfO (.rows sz ver (rs.map fun y=>y.map .p)):=by
 intro r hr c hc;obtain⟨y,_,rfl⟩:=List.mem_map.1 hr;obtain⟨q,_,rfl⟩:=List.mem_map.1 hc;exact bw _
theorem Qn {id sz ver:Nat} {rs:List (List PV)} (hS:SR θ W H w) (hid:H[id]?=some (.rows sz ver (rs.map fun y=>y.map .p))) {v:Value} (hv:bc θ W (.gs id ver 0 rs.length) v):bc (jL θ id) (mK (iD θ id) W w) (.p (.l rs)) v:=by
 have Xl:=MB hS hid (Ep _ _ _);have e1:∀ver,iD θ id id ver=θ id ver:=fun ver=>by simp[iD]
 have n9:∀y∈rs,y.length=sz:=by
  obtain⟨h1,_,_⟩:=hS.obj id _ hid;rcases h1 with⟨_,h2⟩|⟨b,tot,ty,vs,_,_,_,_,h5,_⟩
  ·intro y hy;have:rs=[]:=by simpa using h2
   subst this;cases hy
  ·intro y hy;simpa using h5 _ (List.mem_map.2 ⟨y,hy,rfl⟩)
 have hl:qV (List.replicate id .dead++[.rows sz ver (rs.map fun y=>y.map .p)]) (.gs id ver 0 rs.length) (.p (.l rs)):=by
  refine .gs _ _ _ _ sz (rs.map fun y=>y.map .p) _ (by rw[List.getElem?_append_right (by simp)];simp) (by simp) rfl n9 ?_;intro i r y j c q hr hy hc hq;rw[Nat.zero_add,List.getElem?_map,hy]at hr;cases hr;rw[List.getElem?_map,hq]at hc;cases hc;exact .pure q
 have pT:bc ou (mK (iD θ id) W w) (.p (.l rs)) v:=by
  refine Eb Xl hl ?_;clear hl;generalize rs.length=n at hv⊢
  cases hv with
  |ea _ _ _ _ a cap hd hn hm=>exact .ea _ _ _ _ a cap (by rw[e1];exact hd) hn hm
  |fN _ _ hd=>exact .fN _ _ (by rw[e1];exact hd)
  |gs _ _ _ _ b cP tot o' cap hd hn hm BH ho h0=>exact .gs _ _ _ _ b cP tot o' cap (by rw[e1];exact hd) hn hm BH ho h0
 exact pT.mono (fun _ _ _ h=>h) (fun i ver h=>(h rfl).elim)
theorem Ds {f:Nat} {args:List AV} {Q:AV->List AO->Prop} {p id sz ver:Nat} {rs:List (List PV)} {cs2 cs1:List AV} (hp:H[p]?=some (.var cs2)) (hid:H[id]?=some (.rows sz ver (rs.map fun y=>y.map .p))) (cX:p≠id)
  (hlen:cs1.length=cs2.length) (hc:∀(j:Nat) a b,cs2[j]?=some a->cs1[j]?=some b->b=a\/a=.gs id ver 0 rs.length/\b=.p (.l rs))
  (h:aA P f args ((H.set id .dead).set p (.var cs1)) Q):aA P f args H Q:=by
 refine⟨h.1,fun w θ W vs gm cR=>?_⟩;have B8:id<H.length:=(List.getElem?_eq_some_iff.1 hid).1;have tI:p<H.length:=(List.getElem?_eq_some_iff.1 hp).1;obtain⟨hK,wz⟩:=Qm gm hid (Ep _ _ _)
 have Mv:SR (jL θ id) (mK (iD θ id) W w) ((H.set id .dead).set p (.var cs1)) w:=by
  refine⟨hK.kK,fun i o ho=>?_,fun i ver hi=>hK.out i ver (by simpa using hi),hK.own,hK.inj⟩;by_cases e:i=p
  ·subst e
   rw[List.getElem?_set_self (by simpa using tI)]at ho;cases ho;obtain⟨⟨b,sz,tot,ty,us,h1,h2,h3,h4,h5⟩,h6⟩:=gm.obj i _ hp;refine⟨⟨b,sz,tot,ty,us,by rw[rS cX];exact h1,h2,by omega,fun j c v hj hv=>?_,h5⟩,fun ver hv=>by rw[rS cX];exact h6 ver hv⟩;have aj:j<cs2.length:=by rw[<-hlen];exact(List.getElem?_eq_some_iff.1 hj).1
   have hr:=h4 j cs2[j] v (by simp[aj]) hv;rcases hc j cs2[j] c (by simp[aj]) hj with e|⟨e1,e2⟩
   ·rw[e];exact hr.mono wz oE
   ·rw[e1]at hr;rw[e2];exact Qn gm hid hr
  ·rw[List.getElem?_set_ne (fun h=>e h.symm)]at ho
   exact hK.obj i o ho
 have Je:tq (jL θ id) (mK (iD θ id) W w) args vs:=⟨cR.1,fun j a v ha hv=>(cR.2 j a v ha hv).mono wz oE⟩;refine(h.2 w _ _ vs Mv Je).mono ?_;rintro e w' ⟨v,r,H',bd,W',rfl,hq,oD,hv,ba⟩
 have Qo:∀b,gl (jL θ id) b->gl θ b:=fun b hb=>by
  obtain⟨i,ver,sz,tot,_,h1⟩:=Ap hb;exact⟨_,_,_,_,h1⟩
 have adi:∀b,¬gl θ b->∀o,mK (iD θ id) W w b o=W b o:=fun b hb o=>by
  unfold mK;rw[if_neg fun h2=>hb (wy h2).1]
 refine⟨v,r,H',bd,W',rfl,hq,oD,hv,⟨ba.os,ba.tape,ba.output,ba.size,fun b hb ho=>ba.gf b hb fun h2=>ho (Qo b h2),fun b o u hu=>ba.kK b o u (wz b o u hu),
  fun b hb ho o=>by rw[ba.old b hb (fun h2=>ho (Qo b h2)) o,adi b ho],fun i ver hn=>?_,fun b hb=>(ba.fresh b hb).elim (fun h=>.inl (Qo b h)) .inr⟩⟩
 rcases oE (id:=id) i ver hn with e|e
 ·rcases ba.th i ver (by rw[e];exact hn)with e2|e2
  ·exact .inl (e2.trans e)
  ·exact .inr e2
 ·rcases ba.th i ver (by rw[e];exact fun h=>by cases h)with e2|e2
  ·exact .inr (e2.trans e)
  ·exact .inr e2
end Go.AM
