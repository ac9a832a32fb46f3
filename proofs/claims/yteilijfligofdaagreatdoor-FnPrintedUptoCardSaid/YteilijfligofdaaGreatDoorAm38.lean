/- What a call makes and hands on, as data: all its new slices are never written again. -/
import Derived.Test.YteilijfligofdaaGreatDoorAm37
set_option linter.all false
namespace Go.AM
variable {P:Program}
inductive bI (n:Nat) (H:List AO):AV->AV->Prop
 |tf (a:AV) (h:Tf a):bI n H a a
 |nl:bI n H (.p .nl) (.p (.l []))
 |gs (id ver off k sz:Nat) (rs:List (List AV)) (ys:List (List PV)) (hn:n<=id) (hid:H[id]?=some (.rows sz ver rs)) (hlen:off+k<=rs.length) (ie:ys.length=k) (eN:∀y∈ys,y.length=sz)
  (hc:∀(i:Nat) r y (j:Nat) c q,rs[off+i]?=some r->ys[i]?=some y->r[j]?=some c->y[j]?=some q->bI n H c (.p q)):bI n H (.gs id ver off k) (.p (.l ys))
 |st (as bs:List AV) (hlen:as.length=bs.length) (hc:∀(j:Nat) a b,as[j]?=some a->bs[j]?=some b->bI n H a b):bI n H (.st as) (.st bs)
 |dK (as bs:List AV) (hlen:as.length=bs.length) (hc:∀(j:Nat) a b,as[j]?=some a->bs[j]?=some b->bI n H a b):bI n H (.dK as) (.dK bs)
theorem bI.p {n:Nat} {H:List AO} (x:PV):bI n H (.p x) (.p x):=.tf _ (bw x)
def ye (n:Nat) (θ:Th) (b:Nat):Prop:=∃id ver sz br,n<=id/\θ id ver=.at b sz br
open Classical in
noncomputable def tZ (n:Nat) (θ:Th) (W:Im) (w:World):Im:=fun b o=>if ye n θ b then w.cell? ⟨b,o,none⟩else W b o
theorem ye.owned {n:Nat} {θ:Th} {b:Nat} (h:ye n θ b):lg θ b:=by
 obtain⟨id,ver,sz,br,_,h⟩:=h;exact⟨id,ver,sz,br,h⟩
theorem SR.Ez {n:Nat} {θ:Th} {W:Im} {H:List AO} {w:World} (h:SR θ W H w):∀b o v,W b o=some v->AM.tZ n θ W w b o=some v:=by
 intro b o v hv;unfold AM.tZ;split
 ·exact h.nF b o v hv
 ·exact hv
theorem JQ {n:Nat} {θ:Th} {W:Im} {H:List AO} {w:World} (h:SR θ W H w) {a b:AV} (hl:bI n H a b):∀{v:Value},bb θ W a v→bb (gX θ n) (tZ n θ W w) b v:=by
  induction hl with
  |tf a hg=>exact fun hv=>(hg _ (gX θ n) _ _ hv).mono h.Ez (fun _ _ _ => .inl rfl)
  |nl=>
   intro v hv;cases hv.gE
   exact .p _ _ (.l [] none 0 0 (fun _ _ =>undef) (Nat.le_refl _) (Nat.zero_le _) (fun _ =>rfl) (fun _ x hx=>by cases hx) (fun r hr=>by cases hr) (fun i r j q hi=>by simp at hi) (fun i r j q hi=>by simp at hi))
  |st as bs hlen hc ih=>
   intro v hv
   cases hv with
   |st _ us hs lT h1=>
    refine .st bs us (by omega) (fun j c u hj hu=> ?_) h1;have aF:j<as.length:=by rw[hlen];exact(List.getElem?_eq_some_iff.1 hj).1
    exact ih j as[j] c (by simp[aF]) hj (lT j as[j] u (by simp[aF]) hu)
  |dK as bs hlen hc ih=>
   intro v hv
   cases hv with
   |dK _ us hs lT=>
    refine .dK bs us (by omega) (fun j c u hj hu=> ?_);have aF:j<as.length:=by rw[hlen];exact(List.getElem?_eq_some_iff.1 hj).1
    exact ih j as[j] c (by simp[aF]) hj (lT j as[j] u (by simp[aF]) hu)
  |gs id ver off k sz rs ys hn hid hlen ie eN hc ih=>
   intro v hv;obtain⟨h1,_,_⟩:=h.obj id _ hid
   have alive:∀{q:Pl},θ id ver=q→q= .nil∧rs=[]∨∃b br ty vs,q= .at b sz br∧w.heap[b]?=some (.cells vs ty (0,0))∧vs.size=br*sz∧rs.length≤br∧(∀r∈rs,r.length=sz)∧
       (∀(i:Nat) (r:List AV) (j:Nat) (c:AV) (v:Value),rs[i]?=some r→r[j]?=some c→vs[i*sz+j]?=some v→bb θ W c v):=by
     intro q hq;rcases h1 with⟨h1,h2⟩|⟨b,br,ty,vs,h1,h2,h3,h4,h5,h6,_⟩
     · exact .inl ⟨hq.symm.trans h1,h2⟩
     · exact .inr ⟨b,br,ty,vs,hq.symm.trans h1,h2,h3,h4,h5,h6⟩
   cases hv with
   |eS _ _ _ _ a cap hd vQ hm=>rcases alive hd with⟨e,_⟩|⟨b,br,ty,vs,e,_⟩<;>cases e
   |gC _ _ hd=>
    have :ys=[]:=List.length_eq_zero_iff.1 ie;subst this
    exact .p _ _ (.l [] none 0 0 (fun _ _ =>undef) (Nat.le_refl _) (Nat.zero_le _) (fun _ =>rfl) (fun _ x hx=>by cases hx) (fun r hr=>by cases hr) (fun i r j q hi=>by simp at hi) (fun i r j q hi=>by simp at hi))
   |gs _ _ _ _ b cX br o cap hd vQ hm MS ho h0=>
    rcases alive hd with⟨e,_⟩|⟨b',gn,ty,vs,e,h2,h3,h4,h5,h6⟩
    · cases e
    · cases e
      have cell:∀(i:Nat) (y:List PV) (j:Nat) (q:PV),ys[i]?=some y→y[j]?=some q→∃r c,rs[off+i]?=some r∧r[j]?=some c∧vs[(off+i)*sz+j]?=some (vs.getD ((off+i)*sz+j) undef)∧off<br:=by
        intro i y j q hi hj;have Oe:i<ys.length:=(List.getElem?_eq_some_iff.1 hi).1;have Xt:=eN y (List.mem_of_getElem? hi);have jE:j<y.length:=(List.getElem?_eq_some_iff.1 hj).1;have qL:off+i<rs.length:=by omega
        have ah3:=h5 rs[off+i] (List.getElem_mem qL)
        have hk:(off+i)*sz+j<vs.size:=by
          have h8:(off+i+1)*sz≤br*sz:=Nat.mul_le_mul_right _ (by omega);rw[Nat.add_mul]at h8;omega
        have hjr:j<rs[off+i].length:=by omega
        have e3:vs[(off+i)*sz+j]?=some (vs.getD ((off+i)*sz+j) undef):=by
          rw[Array.getD_eq_getD_getElem?,Array.getElem?_eq_getElem hk];rfl
        exact⟨rs[off+i],rs[off+i][j],List.getElem?_eq_getElem qL,List.getElem?_eq_getElem hjr,e3,by omega⟩
      have pr:gm (AM.tZ n θ W w) (.l ys) (.slice (some ⟨b,o,none⟩) ys.length cap):=by
        refine .l ys (some ⟨b,o,none⟩) cap sz (fun i j=>vs.getD ((off+i)*sz+j) undef) (by omega) (by omega) (fun e=>by cases e) (fun _ x hx=>by cases hx;rfl) eN ?_ ?_
        · intro i y j q hi hj x hx
          cases hx;obtain⟨r,c,q1,q2,q3,q4⟩:=cell i y j q hi hj;have lS:ye n θ b:=⟨_,_,_,_,hn,hd⟩;have af8:o+(i*sz+j)=(off+i)*sz+j:=by rw[ho q4,Nat.add_mul];omega
          show AM.tZ n θ W w b (o+(i*sz+j))=_;unfold AM.tZ;rw[if_pos lS,af8];simp only[World.cell?,h2];exact q3
        · intro i y j q hi hj
          obtain⟨r,c,q1,q2,q3,q4⟩:=cell i y j q hi hj;exact(ih i r y j c q q1 hi q2 hj (h6 _ r j c _ q1 q2 q3)).gE
      rw[ie]at pr;exact .p _ _ pr
theorem Ck {f:Nat} {args:List AV} {H Hc:List AO} {x:AV} (h:al P f args H (fun r H'=>∃G,H'=Hc++G/\bI H.length H' r x)) (hlen:Hc.length=H.length)
  (HA:∀(id:Nat) o,Hc[id]?=some o->∀c,rj c o->Tf c\/∃(jC:Nat) (o':AO),H[jC]?=some o'/\rj c o'):al P f args H (aP x Hc):=by
 refine⟨h.1,fun w θ W vs jI cY=>?_⟩;refine(h.2 w θ W vs jI cY).mono ?_;rintro e w' ⟨v,r,H',aX,W',rfl,⟨G,rfl,hl⟩,pY,hv,bc⟩;have JR:∀b o u,W' b o=some u->tZ H.length aX W' w' b o=some u:=pY.Ez;have aaz:∀b,¬ye H.length aX b->∀o',tZ H.length aX W' w' b o'=W' b o':=fun b hb o'=>by unfold tZ;rw[if_neg hb]
 refine⟨v,x,Hc,gX aX H.length,tZ H.length aX W' w',rfl,⟨rfl,rfl⟩,?_,JQ pY hl hv,?_⟩
 ·refine⟨?_,?_,?_,?_,?_⟩
  ·intro b o u hu
   unfold tZ at hu;split at hu
   ·exact hu
   ·exact pY.nF b o u hu
  ·intro id o ho
   have aF:=(List.getElem?_eq_some_iff.1 ho).1;have mO:(Hc++G)[id]?=some o:=ag ho G;have hO:=pY.obj id o mO;have e:∀ver,gX aX H.length id ver=aX id ver:=fun ver=>oZ (by omega)
   have key:∀c,rj c o->∀v,bb aX W' c v->bb (gX aX H.length) W' c v:=by
    intro c hc v hv;rcases HA id o ho c hc with hk|⟨jC,o',Jy,ou⟩
    ·exact hk _ _ _ _ hv
    ·obtain⟨v1,v2⟩:=(jI.obj jC o' Jy).val
     cases o' with
     |var cs=>obtain⟨v0,h0⟩:=v1 cs rfl c ou;exact rh jI.out h0 hv
     |rows sz ver rs=>obtain⟨r,hr,Rb⟩:=ou;obtain⟨v0,h0⟩:=v2 sz ver rs rfl r hr c Rb;exact rh jI.out h0 hv
     |dead=>exact ou.elim
     |iQ=>exact ou.elim
     |tE b v=>exact ou.elim
     |Fj b v o=>exact ou.elim
   exact(hO.cells e (fun cs ec c hc v hv=>key c (by subst ec;exact hc) v hv) (fun sz ver rs ec r hr c hc v hv=>key c (by subst ec;exact⟨r,hr,hc⟩) v hv)).mono (fun _=>rfl) (fun _ _ _ _ _=>rfl) (fun y u hy=>hy.mono JR (fun _ _ _=>.inl rfl)) JR
  ·intro id ver hid
   simp[gX,show ¬id<H.length by omega]
  ·rintro b ⟨id,ver,sz,br,hb⟩ o
   unfold gX at hb;split at hb
   ·rw[aaz b (fun h2=>by
     obtain⟨id2,QR,sz2,ah4,bd,h3⟩:=h2;have:=(pY.inj b _ _ _ _ _ _ _ _ hb h3).1;omega)]
    exact pY.own b ⟨id,ver,sz,br,hb⟩ o
   ·cases hb
  ·intro b id ver sz br jC cI cX gn h1 h2
   unfold gX at h1 h2;split at h1
   ·split at h2
    ·exact pY.inj b id ver sz br jC cI cX gn h1 h2
    ·cases h2
   ·cases h1
 ·refine⟨bc.os,bc.tape,bc.output,bc.size,bc.eF,fun b o u hu=>JR b o u (bc.nF b o u hu),?_,?_,?_⟩
  ·intro b hb ho o'
   rw[aaz b (fun h2=>(bc.fresh b h2.owned).elim ho (fun h3=>by omega))];exact bc.old b hb ho o'
  ·intro id ver cK
   have aF:id<H.length:=by
    rcases Nat.lt_or_ge id H.length with h|h
    ·exact h
    ·exact(cK (jI.out id ver h)).elim
   rw[oZ aF];exact bc.th id ver cK
  ·rintro b ⟨id,ver,sz,br,hb⟩
   refine bc.fresh b ⟨id,ver,sz,br,?_⟩;unfold gX at hb;split at hb
   ·exact hb
   ·cases hb
theorem nN {f:Nat} {args:List AV} {H:List AO} {x:AV} (h:al P f args H (fun r H'=>∃G,H'=H++G/\bI H.length H' r x)):al P f args H (aP x H):=
 Ck h rfl fun id o ho c hc=>.inr ⟨id,o,ho,hc⟩
theorem Cl {f:Nat} {args:List AV} {H:List AO} {i:Nat} {o o':AO} {x:AV} (h:al P f args H (fun r H'=>∃G,H'=H.set i o'++G/\bI H.length H' r x)) (hi:H[i]?=some o) (hc:∀c,rj c o'->Tf c\/rj c o):
  al P f args H (aP x (H.set i o')):=
 Ck h (by simp) fun id o2 ho c hco=>by
  by_cases e:i=id
  ·subst e
   rw[aR hi]at ho;cases ho;rcases hc c hco with h1|h1
   ·exact .inl h1
   ·exact .inr ⟨_,_,hi,h1⟩
  ·rw[List.getElem?_set_ne e]at ho
   exact .inr ⟨_,_,ho,hco⟩
end Go.AM
