/- What is lent to a function that only reads it, and the frames of calls. -/
import Derived.Test.YtjkbbnfdbfcebaaGreatDoorAm23
set_option linter.all false
namespace Go.AM
variable {P:Program} {θ:Th} {W:Im}
def aat (a:AV):Prop:=∀θ W bd W' v,bc θ W a v->bc bd W' a v
def aau (a:AV):Prop:=∀θ W bd v,bc θ W a v->bc bd W a v
theorem Xj (x:PV):aau (.p x):=fun _ _ _ _ h=>.p _ _ h.fC
inductive qV (H:List AO):AV->AV->Prop
 |same (a:AV) (h:aat a):qV H a a
 |pure (p:PV):qV H (.p p) (.p p)
 |nl:qV H (.p .nl) (.p (.l []))
 |gs (id ver off n sz:Nat) (rs:List (List AV)) (ys:List (List PV)) (hid:H[id]?=some (.rows sz ver rs)) (hlen:off+n<=rs.length) (gI:ys.length=n) (cL:∀y∈ys,y.length=sz)
  (hc:∀(i:Nat) r y (j:Nat) c q,rs[off+i]?=some r->ys[i]?=some y->r[j]?=some c->y[j]?=some q->qV H c (.p q)):qV H (.gs id ver off n) (.p (.l ys))
 |st (as bs:List AV) (hlen:as.length=bs.length) (hc:∀(j:Nat) a b,as[j]?=some a->bs[j]?=some b->qV H a b):qV H (.st as) (.st bs)
 |dX (as bs:List AV) (hlen:as.length=bs.length) (hc:∀(j:Nat) a b,as[j]?=some a->bs[j]?=some b->qV H a b):qV H (.dX as) (.dX bs)
open Classical in
noncomputable def mK (θ:Th) (W:Im) (w:World):Im:=fun b o=>if gl θ b then w.cell? ⟨b,o,none⟩else W b o
def ou:Th:=fun _ _=>.no
theorem mL (b:Nat):¬gl ou b:=by rintro⟨id,ver,sz,tot,h⟩;cases h
theorem SR.mK {H:List AO} {w:World} (h:SR θ W H w):SR ou (mK θ W w) [] w:=by
 refine⟨fun b o v hv=>?_,fun id o hid=>by simp at hid,fun _ _ _=>rfl,fun b hb=>(mL b hb).elim,fun b id ver sz tot jm cA cP fc h1=>by cases h1⟩;unfold AM.mK at hv;split at hv
 ·exact hv
 ·exact h.kK b o v hv
theorem SR.Hb {H:List AO} {w:World} (h:SR θ W H w):∀b o v,W b o=some v->AM.mK θ W w b o=some v:=by
 intro b o v hv;unfold AM.mK;split
 ·rename_i ho;rw[h.own b ho o]at hv;cases hv
 ·exact hv
theorem Eb {H:List AO} {w:World} (h:SR θ W H w) {a b:AV} (hl:qV H a b):∀{v:Value},bc θ W a v→bc ou (mK θ W w) b v:=by
  induction hl with
  |same a hg=>exact fun hv=>hg _ _ _ _ _ hv
  |pure p=>exact fun hv=> .p _ _ (hv.fC.mono h.Hb)
  |nl=>
   intro v hv;cases hv.fC
   exact .p _ _ (.l [] none 0 0 (fun _ _ =>undef) (Nat.le_refl _) (Nat.zero_le _) (fun _ =>rfl) (fun _ x hx=>by cases hx) (fun r hr=>by cases hr) (fun i r j q hi=>by simp at hi) (fun i r j q hi=>by simp at hi))
  |st as bs hlen hc ih=>
   intro v hv
   cases hv with
   |st _ us hs kM h1=>
    refine .st bs us (by omega) (fun j c u hj hu=> ?_) h1;have aj:j<as.length:=by rw[hlen];exact(List.getElem?_eq_some_iff.1 hj).1
    exact ih j as[j] c (by simp[aj]) hj (kM j as[j] u (by simp[aj]) hu)
  |dX as bs hlen hc ih=>
   intro v hv
   cases hv with
   |dX _ us hs kM=>
    refine .dX bs us (by omega) (fun j c u hj hu=> ?_);have aj:j<as.length:=by rw[hlen];exact(List.getElem?_eq_some_iff.1 hj).1
    exact ih j as[j] c (by simp[aj]) hj (kM j as[j] u (by simp[aj]) hu)
  |gs id ver off n sz rs ys hid hlen gI cL hc ih=>
   intro v hv;obtain⟨h1,_,_⟩:=h.obj id _ hid
   have alive:∀{q:Pl},θ id ver=q→q= .nil∧rs=[]∨∃b tot ty vs,q= .at b sz tot∧w.heap[b]?=some (.cells vs ty (0,0))∧vs.size=tot*sz∧rs.length≤tot∧(∀r∈rs,r.length=sz)∧
       (∀(i:Nat) (r:List AV) (j:Nat) (c:AV) (v:Value),rs[i]?=some r→r[j]?=some c→vs[i*sz+j]?=some v→bc θ W c v):=by
     intro q hq;rcases h1 with⟨h1,h2⟩|⟨b,tot,ty,vs,h1,h2,h3,h4,h5,h6,_⟩
     · exact .inl ⟨hq.symm.trans h1,h2⟩
     · exact .inr ⟨b,tot,ty,vs,hq.symm.trans h1,h2,h3,h4,h5,h6⟩
   cases hv with
   |ea _ _ _ _ a cap hd hn hm=>rcases alive hd with⟨e,_⟩|⟨b,tot,ty,vs,e,_⟩<;>cases e
   |fN _ _ hd=>
    have :ys=[]:=List.length_eq_zero_iff.1 gI;subst this
    exact .p _ _ (.l [] none 0 0 (fun _ _ =>undef) (Nat.le_refl _) (Nat.zero_le _) (fun _ =>rfl) (fun _ x hx=>by cases hx) (fun r hr=>by cases hr) (fun i r j q hi=>by simp at hi) (fun i r j q hi=>by simp at hi))
   |gs _ _ _ _ b cP tot o cap hd hn hm BH ho h0=>
    rcases alive hd with⟨e,_⟩|⟨b',fc,ty,vs,e,h2,h3,h4,h5,h6⟩
    · cases e
    · cases e
      have cell:∀(i:Nat) (y:List PV) (j:Nat) (q:PV),ys[i]?=some y→y[j]?=some q→∃r c,rs[off+i]?=some r∧r[j]?=some c∧vs[(off+i)*sz+j]?=some (vs.getD ((off+i)*sz+j) undef)∧off<tot:=by
        intro i y j q hi hj;have Nh:i<ys.length:=(List.getElem?_eq_some_iff.1 hi).1;have hyl:=cL y (List.mem_of_getElem? hi);have me:j<y.length:=(List.getElem?_eq_some_iff.1 hj).1;have n9:off+i<rs.length:=by omega
        have agj:=h5 rs[off+i] (List.getElem_mem n9)
        have hk:(off+i)*sz+j<vs.size:=by
          have h8:(off+i+1)*sz≤tot*sz:=Nat.mul_le_mul_right _ (by omega);rw[Nat.add_mul]at h8;omega
        have P7:j<rs[off+i].length:=by omega
        have e3:vs[(off+i)*sz+j]?=some (vs.getD ((off+i)*sz+j) undef):=by
          rw[Array.getD_eq_getD_getElem?,Array.getElem?_eq_getElem hk];rfl
        exact⟨rs[off+i],rs[off+i][j],List.getElem?_eq_getElem n9,List.getElem?_eq_getElem P7,e3,by omega⟩
      have jF:gr (AM.mK θ W w) (.l ys) (.slice (some ⟨b,o,none⟩) ys.length cap):=by
        refine .l ys (some ⟨b,o,none⟩) cap sz (fun i j=>vs.getD ((off+i)*sz+j) undef) (by omega) (by omega) (fun e=>by cases e) (fun _ x hx=>by cases hx;rfl) cL ?_ ?_
        · intro i y j q hi hj x hx
          cases hx;obtain⟨r,c,q1,q2,q3,q4⟩:=cell i y j q hi hj;have kU:gl θ b:=⟨_,_,_,_,hd⟩;have Qe:o+(i*sz+j)=(off+i)*sz+j:=by rw[ho q4,Nat.add_mul];omega
          show AM.mK θ W w b (o+(i*sz+j))=_;unfold AM.mK;rw[if_pos kU,Qe];simp only[World.cell?,h2];exact q3
        · intro i y j q hi hj
          obtain⟨r,c,q1,q2,q3,q4⟩:=cell i y j q hi hj;exact(ih i r y j c q q1 hi q2 hj (h6 _ r j c _ q1 q2 q3)).fC
      rw[gI]at jF;exact .p _ _ jF
theorem eU.Ec {w w':World} {bd:Th} {W W':Im} (h:eU ou W w bd W' w'):∀b,b<w.heap.size->w'.heap[b]?=w.heap[b]?:=fun b hb=>h.gf b hb (mL b)
theorem Fi {f:Nat} {bs:List AV} {H:List AO} {Q:AV->List AO->Prop} {R:AV->Prop} (h:aA P f bs [] Q) (hn:∀b∈bs,aau b) (hq:∀r H',Q r H'->∃x,qV H' r x/\R x):
  aA P f bs H (fun r H'=>H'=H/\R r):=by
 refine⟨h.1,fun w θ W vs gm cR=>?_⟩;have Je:tq ou W bs vs:=⟨cR.1,fun j b v hb hv=>hn b (List.mem_of_getElem? hb) _ _ _ _ (cR.2 j b v hb hv)⟩;have Qf:SR ou W [] w:=⟨gm.kK,fun id o hid=>by simp at hid,fun _ _ _=>rfl,fun b hb=>(mL b hb).elim,fun b id ver sz tot jm cA cP fc h1=>by cases h1⟩;refine(h.2 w ou W vs Qf Je).mono ?_;rintro e w' ⟨v,r,H',bd,W',rfl,hqr,Mv,hA,hS⟩;obtain⟨x,hx,hR⟩:=hq r H' hqr;have hold:=hS.Ec;have Xk:∀b,b<w.heap.size->¬gl bd b:=fun b hb ho=>(hS.fresh b ho).elim (mL b) (fun h=>by omega)
 have Jf:∀b,b<w.heap.size->∀o,mK bd W' w' b o=W b o:=by
  intro b hb o;unfold mK;rw[if_neg (Xk b hb)];exact hS.old b hb (mL b) o
 have xI:∀b o v,W b o=some v->mK bd W' w' b o=some v:=fun b o v hv=>by rw[Jf b (gm.lt hv) o];exact hv
 have ze:=(Eb Mv hx hA);have hAx:bc θ (mK bd W' w') x v:=ze.mono (fun _ _ _ h=>h) (fun id ver h=>(h rfl).elim)
 refine⟨v,x,H,θ,mK bd W' w',rfl,⟨rfl,hR⟩,⟨fun b o u hu=>Mv.mK.kK b o u hu,fun id ob hid=>?_,gm.out,fun b hb o=>?_,gm.inj⟩,hAx,
  ⟨hS.os,hS.tape,hS.output,hS.size,fun b hb _=>hold b hb,xI,fun b hb _ o=>Jf b hb o,fun _ _ _=>.inl rfl,fun _ h=>.inl h⟩⟩
 ·exact(gm.obj id ob hid).mono (fun _=>rfl) (fun ver b sz tot ho=>hold b (gm.jo ho)) (fun x u hx=>hx.mono xI (fun _ _ _=>.inl rfl)) xI (ht:=fun b v o hv ho=>by rw[hold b (gm.lt hv)];exact ho)
 ·obtain⟨id,ver,sz,tot,ho⟩:=hb
  rw[Jf b (gm.jo ho) o];exact gm.own b ⟨id,ver,sz,tot,ho⟩ o
end Go.AM
