/- What a call makes and hands on, as data: all its new slices are never written again. -/
import Derived.Test.YtjkbbnfdbfcebaaGreatDoorAm37
set_option linter.all false
namespace Go.AM
variable {P:Program}
inductive cG (n:Nat) (H:List AO):AV->AV->Prop
 |tf (a:AV) (h:Tf a):cG n H a a
 |nl:cG n H (.p .nl) (.p (.l []))
 |gs (id ver off k sz:Nat) (rs:List (List AV)) (ys:List (List PV)) (hn:n<=id) (hid:H[id]?=some (.rows sz ver rs)) (hlen:off+k<=rs.length) (gI:ys.length=k) (cL:∀y∈ys,y.length=sz)
  (hc:∀(i:Nat) r y (j:Nat) c q,rs[off+i]?=some r->ys[i]?=some y->r[j]?=some c->y[j]?=some q->cG n H c (.p q)):cG n H (.gs id ver off k) (.p (.l ys))
 |st (as bs:List AV) (hlen:as.length=bs.length) (hc:∀(j:Nat) a b,as[j]?=some a->bs[j]?=some b->cG n H a b):cG n H (.st as) (.st bs)
 |dX (as bs:List AV) (hlen:as.length=bs.length) (hc:∀(j:Nat) a b,as[j]?=some a->bs[j]?=some b->cG n H a b):cG n H (.dX as) (.dX bs)
theorem cG.p {n:Nat} {H:List AO} (x:PV):cG n H (.p x) (.p x):=.tf _ (bw x)
def xO (n:Nat) (θ:Th) (b:Nat):Prop:=∃id ver sz tot,n<=id/\θ id ver=.at b sz tot
open Classical in
noncomputable def tP (n:Nat) (θ:Th) (W:Im) (w:World):Im:=fun b o=>if xO n θ b then w.cell? ⟨b,o,none⟩else W b o
theorem xO.owned {n:Nat} {θ:Th} {b:Nat} (h:xO n θ b):gl θ b:=by
 obtain⟨id,ver,sz,tot,_,h⟩:=h;exact⟨id,ver,sz,tot,h⟩
theorem SR.Ef {n:Nat} {θ:Th} {W:Im} {H:List AO} {w:World} (h:SR θ W H w):∀b o v,W b o=some v->AM.tP n θ W w b o=some v:=by
 intro b o v hv;unfold AM.tP;split
 ·exact h.kK b o v hv
 ·exact hv
theorem Jj {n:Nat} {θ:Th} {W:Im} {H:List AO} {w:World} (h:SR θ W H w) {a b:AV} (hl:cG n H a b):∀{v:Value},bc θ W a v→bc (gY θ n) (tP n θ W w) b v:=by
  induction hl with
  |tf a hg=>exact fun hv=>(hg _ (gY θ n) _ _ hv).mono h.Ef (fun _ _ _ => .inl rfl)
  |nl=>
   intro v hv;cases hv.fC
   exact .p _ _ (.l [] none 0 0 (fun _ _ =>undef) (Nat.le_refl _) (Nat.zero_le _) (fun _ =>rfl) (fun _ x hx=>by cases hx) (fun r hr=>by cases hr) (fun i r j q hi=>by simp at hi) (fun i r j q hi=>by simp at hi))
  |st as bs hlen hc ih=>
   intro v hv
   cases hv with
   |st _ us hs kM h1=>
    refine .st bs us (by omega) (fun j c u hj hu=> ?_) h1;have aj:j<as.length:=by rw[hlen];exact(List.getElem?_eq_some_iff.1 hj).1
    exact ih j as[j] c (by simp[aj]) hj (kM j as[j] u (by simp[aj]) hu)
  |dX as bs hlen hc ih=>
   intro v hv
   cases hv with
   |dX _ us hs kM=>
    refine .dX bs us (by omega) (fun j c u hj hu=> ?_);have aj:j<as.length:=by rw[hlen];exact(List.getElem?_eq_some_iff.1 hj).1
    exact ih j as[j] c (by simp[aj]) hj (kM j as[j] u (by simp[aj]) hu)
  |gs id ver off k sz rs ys hn hid hlen gI cL hc ih=>
   intro v hv;obtain⟨h1,_,_⟩:=h.obj id _ hid
   have alive:∀{q:Pl},θ id ver=q→q= .nil∧rs=[]∨∃b tot ty vs,q= .at b sz tot∧w.heap[b]?=some (.cells vs ty (0,0))∧vs.size=tot*sz∧rs.length≤tot∧(∀r∈rs,r.length=sz)∧
       (∀(i:Nat) (r:List AV) (j:Nat) (c:AV) (v:Value),rs[i]?=some r→r[j]?=some c→vs[i*sz+j]?=some v→bc θ W c v):=by
     intro q hq;rcases h1 with⟨h1,h2⟩|⟨b,tot,ty,vs,h1,h2,h3,h4,h5,h6,_⟩
     · exact .inl ⟨hq.symm.trans h1,h2⟩
     · exact .inr ⟨b,tot,ty,vs,hq.symm.trans h1,h2,h3,h4,h5,h6⟩
   cases hv with
   |ea _ _ _ _ a cap hd vy hm=>rcases alive hd with⟨e,_⟩|⟨b,tot,ty,vs,e,_⟩<;>cases e
   |fN _ _ hd=>
    have :ys=[]:=List.length_eq_zero_iff.1 gI;subst this
    exact .p _ _ (.l [] none 0 0 (fun _ _ =>undef) (Nat.le_refl _) (Nat.zero_le _) (fun _ =>rfl) (fun _ x hx=>by cases hx) (fun r hr=>by cases hr) (fun i r j q hi=>by simp at hi) (fun i r j q hi=>by simp at hi))
   |gs _ _ _ _ b cP tot o cap hd vy hm BH ho h0=>
    rcases alive hd with⟨e,_⟩|⟨b',fc,ty,vs,e,h2,h3,h4,h5,h6⟩
    · cases e
    · cases e
      have cell:∀(i:Nat) (y:List PV) (j:Nat) (q:PV),ys[i]?=some y→y[j]?=some q→∃r c,rs[off+i]?=some r∧r[j]?=some c∧vs[(off+i)*sz+j]?=some (vs.getD ((off+i)*sz+j) undef)∧off<tot:=by
        intro i y j q hi hj;have Nh:i<ys.length:=(List.getElem?_eq_some_iff.1 hi).1;have hyl:=cL y (List.mem_of_getElem? hi);have me:j<y.length:=(List.getElem?_eq_some_iff.1 hj).1;have n9:off+i<rs.length:=by omega
        have agj:=h5 rs[off+i] (List.getElem_mem n9)
        have hk:(off+i)*sz+j<vs.size:=by
          have h8:(off+i+1)*sz≤tot*sz:=Nat.mul_le_mul_right _ (by omega);rw[Nat.add_mul]at h8;omega
        have P7:j<rs[off+i].length:=by omega
        have e3:vs[(off+i)*sz+j]?=some (vs.getD ((off+i)*sz+j) undef):=by
          rw[Array.getD_eq_getD_getElem?,Array.getElem?_eq_getElem hk];rfl
        exact⟨rs[off+i],rs[off+i][j],List.getElem?_eq_getElem n9,List.getElem?_eq_getElem P7,e3,by omega⟩
      have jF:gr (AM.tP n θ W w) (.l ys) (.slice (some ⟨b,o,none⟩) ys.length cap):=by
        refine .l ys (some ⟨b,o,none⟩) cap sz (fun i j=>vs.getD ((off+i)*sz+j) undef) (by omega) (by omega) (fun e=>by cases e) (fun _ x hx=>by cases hx;rfl) cL ?_ ?_
        · intro i y j q hi hj x hx
          cases hx;obtain⟨r,c,q1,q2,q3,q4⟩:=cell i y j q hi hj;have kU:xO n θ b:=⟨_,_,_,_,hn,hd⟩;have Qe:o+(i*sz+j)=(off+i)*sz+j:=by rw[ho q4,Nat.add_mul];omega
          show AM.tP n θ W w b (o+(i*sz+j))=_;unfold AM.tP;rw[if_pos kU,Qe];simp only[World.cell?,h2];exact q3
        · intro i y j q hi hj
          obtain⟨r,c,q1,q2,q3,q4⟩:=cell i y j q hi hj;exact(ih i r y j c q q1 hi q2 hj (h6 _ r j c _ q1 q2 q3)).fC
      rw[gI]at jF;exact .p _ _ jF
theorem B5 {f:Nat} {args:List AV} {H Hc:List AO} {x:AV} (h:aA P f args H (fun r H'=>∃G,H'=Hc++G/\cG H.length H' r x)) (hlen:Hc.length=H.length)
  (Hh:∀(id:Nat) o,Hc[id]?=some o->∀c,sT c o->Tf c\/∃(jm:Nat) (o':AO),H[jm]?=some o'/\sT c o'):aA P f args H (aW x Hc):=by
 refine⟨h.1,fun w θ W vs gm cR=>?_⟩;refine(h.2 w θ W vs gm cR).mono ?_;rintro e w' ⟨v,r,H',bd,W',rfl,⟨G,rfl,hl⟩,oD,hv,ba⟩;have Jk:∀b o u,W' b o=some u->tP H.length bd W' w' b o=some u:=oD.Ef;have My:∀b,¬xO H.length bd b->∀o',tP H.length bd W' w' b o'=W' b o':=fun b hb o'=>by unfold tP;rw[if_neg hb]
 refine⟨v,x,Hc,gY bd H.length,tP H.length bd W' w',rfl,⟨rfl,rfl⟩,?_,Jj oD hl hv,?_⟩
 ·refine⟨?_,?_,?_,?_,?_⟩
  ·intro b o u hu
   unfold tP at hu;split at hu
   ·exact hu
   ·exact oD.kK b o u hu
  ·intro id o ho
   have aj:=(List.getElem?_eq_some_iff.1 ho).1;have mG:(Hc++G)[id]?=some o:=ay ho G;have hO:=oD.obj id o mG;have e:∀ver,gY bd H.length id ver=bd id ver:=fun ver=>oP (by omega)
   have key:∀c,sT c o->∀v,bc bd W' c v->bc (gY bd H.length) W' c v:=by
    intro c hc v hv;rcases Hh id o ho c hc with hk|⟨jm,o',I0,qY⟩
    ·exact hk _ _ _ _ hv
    ·obtain⟨v1,v2⟩:=(gm.obj jm o' I0).val
     cases o' with
     |var cs=>obtain⟨v0,h0⟩:=v1 cs rfl c qY;exact qW gm.out h0 hv
     |rows sz ver rs=>obtain⟨r,hr,Qi⟩:=qY;obtain⟨v0,h0⟩:=v2 sz ver rs rfl r hr c Qi;exact qW gm.out h0 hv
     |dead=>exact qY.elim
     |iP=>exact qY.elim
     |td b v=>exact qY.elim
     |ES b v o=>exact qY.elim
   exact(hO.cells e (fun cs ec c hc v hv=>key c (by subst ec;exact hc) v hv) (fun sz ver rs ec r hr c hc v hv=>key c (by subst ec;exact⟨r,hr,hc⟩) v hv)).mono (fun _=>rfl) (fun _ _ _ _ _=>rfl) (fun y u hy=>hy.mono Jk (fun _ _ _=>.inl rfl)) Jk
  ·intro id ver hid
   simp[gY,show ¬id<H.length by omega]
  ·rintro b ⟨id,ver,sz,tot,hb⟩ o
   unfold gY at hb;split at hb
   ·rw[My b (fun h2=>by
     obtain⟨id2,PT,sz2,ago,bh,h3⟩:=h2;have:=(oD.inj b _ _ _ _ _ _ _ _ hb h3).1;omega)]
    exact oD.own b ⟨id,ver,sz,tot,hb⟩ o
   ·cases hb
  ·intro b id ver sz tot jm cA cP fc h1 h2
   unfold gY at h1 h2;split at h1
   ·split at h2
    ·exact oD.inj b id ver sz tot jm cA cP fc h1 h2
    ·cases h2
   ·cases h1
 ·refine⟨ba.os,ba.tape,ba.output,ba.size,ba.gf,fun b o u hu=>Jk b o u (ba.kK b o u hu),?_,?_,?_⟩
  ·intro b hb ho o'
   rw[My b (fun h2=>(ba.fresh b h2.owned).elim ho (fun h3=>by omega))];exact ba.old b hb ho o'
  ·intro id ver cX
   have aj:id<H.length:=by
    rcases Nat.lt_or_ge id H.length with h|h
    ·exact h
    ·exact(cX (gm.out id ver h)).elim
   rw[oP aj];exact ba.th id ver cX
  ·rintro b ⟨id,ver,sz,tot,hb⟩
   refine ba.fresh b ⟨id,ver,sz,tot,?_⟩;unfold gY at hb;split at hb
   ·exact hb
   ·cases hb
theorem Hi {f:Nat} {args:List AV} {H:List AO} {x:AV} (h:aA P f args H (fun r H'=>∃G,H'=H++G/\cG H.length H' r x)):aA P f args H (aW x H):=
 B5 h rfl fun id o ho c hc=>.inr ⟨id,o,ho,hc⟩
theorem B6 {f:Nat} {args:List AV} {H:List AO} {i:Nat} {o o':AO} {x:AV} (h:aA P f args H (fun r H'=>∃G,H'=H.set i o'++G/\cG H.length H' r x)) (hi:H[i]?=some o) (hc:∀c,sT c o'->Tf c\/sT c o):
  aA P f args H (aW x (H.set i o')):=
 B5 h (by simp) fun id o2 ho c hco=>by
  by_cases e:i=id
  ·subst e
   rw[bg hi]at ho;cases ho;rcases hc c hco with h1|h1
   ·exact .inl h1
   ·exact .inr ⟨_,_,hi,h1⟩
  ·rw[List.getElem?_set_ne e]at ho
   exact .inr ⟨_,_,ho,hco⟩
end Go.AM
