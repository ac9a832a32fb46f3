/- Memory: how the states' relation is kept by a new object, by a write, by an append. -/
import Derived.Test.YtjkbbnfdbfcebaaGreatDoorAm4
set_option linter.all false
namespace Go.AM
theorem uN {w:World} {b o:Nat} {v:Value} (h:w.cell? ⟨b,o,none⟩=some v):b<w.heap.size:=World.block_lt_of_cell? w _ h
theorem SR.lt {θ:Th} {W:Im} {H:List AO} {w:World} (h:SR θ W H w) {b o:Nat} {v:Value} (hw:W b o=some v):b<w.heap.size:=uN (h.kK b o v hw)
theorem SR.jo {θ:Th} {W:Im} {H:List AO} {w:World} (h:SR θ W H w) {id ver b sz tot:Nat} (ho:θ id ver= .at b sz tot):b<w.heap.size:=by
  have hid:id<H.length:=by
    rcases Nat.lt_or_ge id H.length with h'|h'
    · exact h'
    · rw[h.out id ver h']at ho;cases ho
  have hg:H[id]?=some H[id]:=by simp[hid]
  have :=h.obj id _ hg
  cases e:H[id]with
  |dead=>rw[e]at this;rcases this ver with h'|h'<;>rw[h']at ho<;>cases ho
  |iP=>rw[e]at this;rw[this ver]at ho;cases ho
  |td b v=>rw[e]at this;rw[this.2 ver]at ho;cases ho
  |ES b v o=>rw[e]at this;rw[this.2.2 ver]at ho;cases ho
  |var cs=>
   rw[e]at this;obtain⟨⟨b',cP,fc,ty,vs,h1,h2,_⟩,h3⟩:=this;rcases Nat.eq_zero_or_pos ver with rfl|hv
   · rw[h1]at ho;cases ho;exact(Array.getElem?_eq_some_iff.1 h2).1
   · rw[h3 ver hv]at ho;cases ho
  |rows cP cA rs=>
   rw[e]at this;obtain⟨h1,h2,h3⟩:=this;rcases Nat.lt_trichotomy ver cA with hv|rfl|hv
   · rw[h3 ver hv]at ho;cases ho
   · rcases h1 with⟨h1,_⟩|⟨b',fc,ty,vs,h1,h4,_⟩
     · rw[h1]at ho;cases ho
     · rw[h1]at ho;cases ho;exact(Array.getElem?_eq_some_iff.1 h4).1
   · rw[h2 ver hv]at ho;cases ho
theorem OR.mono {θ bd:Th} {W W':Im} {w w':World} {id:Nat} {o:AO} (h:OR θ W w id o)
    (hid:∀ver,bd id ver=θ id ver) (hb:∀ver b sz tot,θ id ver= .at b sz tot→w'.heap[b]?=w.heap[b]?)
    (hr:∀x v,bc θ W x v→bc bd W' x v) (hW:∀b o v,W b o=some v→W' b o=some v:=by exact fun _ _ _ h=>h) (ht:∀b v o,W b 0=some v→w.heap[b]?=some o→w'.heap[b]?=some o:=by exact fun _ _ _ _ h=>h):OR bd W' w' id o:=by
  cases o with
  |dead=>exact fun ver=>by rw[hid];exact h ver
  |iP=>exact fun ver=>by rw[hid];exact h ver
  |td b v=>exact⟨hW b 0 v h.1,fun ver=>by rw[hid];exact h.2 ver⟩
  |ES b v o=>exact⟨hW b 0 v h.1,ht b v o h.1 h.2.1,fun ver=>by rw[hid];exact h.2.2 ver⟩
  |var cs=>
   obtain⟨⟨b,sz,tot,ty,vs,h1,h2,h3,h4,h5⟩,h6⟩:=h
   exact⟨⟨b,sz,tot,ty,vs,by rw[hid];exact h1,by rw[hb 0 b sz tot h1];exact h2,h3,fun j c v hj hv=>hr _ _ (h4 j c v hj hv),h5⟩,fun ver hv=>by rw[hid];exact h6 ver hv⟩
  |rows sz ver rs=>
   obtain⟨h1,h2,h3⟩:=h;refine⟨?_,fun v hv=>by rw[hid];exact h2 v hv,fun v hv=>by rw[hid];exact h3 v hv⟩;rcases h1 with⟨h1,h4⟩|⟨b,tot,ty,vs,h1,h4,h5,h6,h7,h8,h9⟩
   · exact .inl ⟨by rw[hid];exact h1,h4⟩
   · exact .inr ⟨b,tot,ty,vs,by rw[hid];exact h1,by rw[hb ver b sz tot h1];exact h4,h5,h6,h7,fun i r j c v hi hj hv=>hr _ _ (h8 i r j c v hi hj hv),h9⟩
def dj (θ:Th) (id ver:Nat) (pl:Pl):Th:=fun i v=>if i=id/\v=ver then pl else θ i v
theorem bU (θ:Th) (id ver:Nat) (pl:Pl):dj θ id ver pl id ver=pl:=by simp[dj]
theorem bx {θ:Th} {id ver:Nat} {pl:Pl} {i v:Nat} (h:¬(i=id/\v=ver)):dj θ id ver pl i v=θ i v:=by simp[dj,h]
theorem SR.push {θ:Th} {W:Im} {H:List AO} {w w':World} (h:SR θ W H w) (o:AO) (pl:Pl)
  (we:w'.os=w.os) (Bz:w'.tape=w.tape) (BA:w'.output=w.output) (cL:w.heap.size<=w'.heap.size)
  (hold:∀b,b<w.heap.size->w'.heap[b]?=w.heap[b]?)
  (qz:∀b sz tot,pl=.at b sz tot->b=w.heap.size)
  (lb:pl≠.no)
  (ho:(∀x v,bc θ W x v->bc (dj θ H.length 0 pl) W x v)->OR (dj θ H.length 0 pl) W w' H.length o):
  SR (dj θ H.length 0 pl) W (H++[o]) w'/\eU θ W w (dj θ H.length 0 pl) W w':=by
 have vu:∀id ver,θ id ver≠.no->dj θ H.length 0 pl id ver=θ id ver:=by
  intro id ver hn;refine bx fun⟨e,_⟩=>hn ?_
  exact h.out id ver (by omega)
 have hr:∀x v,bc θ W x v->bc (dj θ H.length 0 pl) W x v:=fun x v hx=>hx.mono (fun _ _ _ h=>h) (fun id ver hn=>.inl (vu id ver hn))
 have kU:∀b,gl (dj θ H.length 0 pl) b->gl θ b\/w.heap.size=b:=by
  rintro b ⟨id,ver,sz,tot,hb⟩;by_cases e:id=H.length/\ver=0
  ·obtain⟨rfl,rfl⟩:=e
   rw[bU]at hb;exact .inr (qz b sz tot hb).symm
  ·rw[bx e]at hb
   exact .inl ⟨id,ver,sz,tot,hb⟩
 refine⟨⟨?_,?_,?_,?_,?_⟩,⟨we,Bz,BA,cL,fun b hb _=>hold b hb,fun _ _ _ h=>h,fun _ _ _ _=>rfl,fun id ver hn=>.inl (vu id ver hn),fun b hb=>(kU b hb).imp id (fun e=>by omega)⟩⟩
 ·intro b o' v hv
  have hb:=h.kK b o' v hv;rw[<-hb];exact World.cell?_of_block (hold b (uN hb))
 ·intro id o' hid
  rcases Nat.lt_trichotomy id H.length with aj|heq|cJ
  ·rw[List.getElem?_append_left aj]at hid
   refine(h.obj id o' hid).mono (fun ver=>bx (by omega)) (fun ver b sz tot hb=>hold b (h.jo hb)) hr (ht:=fun b v o hv ho=>by rw[hold b (h.lt hv)];exact ho)
  ·subst heq
   rw[List.getElem?_append_right (Nat.le_refl _)]at hid;simp at hid;subst hid;exact ho hr
  ·rw[List.getElem?_eq_none (by simp;omega)]at hid;cases hid
 ·intro id ver hid
  simp at hid;rw[bx (by omega)];exact h.out id ver (by omega)
 ·intro b hb o'
  rcases kU b hb with hb|hb
  ·exact h.own b hb o'
  ·cases e:W b o' with
   |none=>rfl
   |some v=>have:=h.lt e;omega
 ·intro b id ver sz tot jm cA cP fc h1 h2
  by_cases e:id=H.length/\ver=0<;>by_cases e':jm=H.length/\cA=0
  ·exact⟨by omega,by omega⟩
  ·obtain⟨rfl,rfl⟩:=e
   rw[bU]at h1;rw[bx e']at h2;have:=qz _ _ _ h1;have:=h.jo h2;omega
  ·obtain⟨rfl,rfl⟩:=e'
   rw[bU]at h2;rw[bx e]at h1;have:=qz _ _ _ h2;have:=h.jo h1;omega
  ·rw[bx e]at h1
   rw[bx e']at h2;exact h.inj b _ _ _ _ _ _ _ _ h1 h2
theorem SR.write {θ:Th} {W:Im} {H:List AO} {w w':World} (h:SR θ W H w) (id ver b sz tot:Nat) (o:AO) (hid:id<H.length) (hb:θ id ver=.at b sz tot)
  (we:w'.os=w.os) (Bz:w'.tape=w.tape) (BA:w'.output=w.output) (cL:w'.heap.size=w.heap.size)
  (hold:∀k,k≠b->w'.heap[k]?=w.heap[k]?) (ho:OR θ W w' id o):
  SR θ W (H.set id o) w'/\eU θ W w θ W w':=by
 refine⟨⟨?_,?_,?_,h.own,h.inj⟩,⟨we,Bz,BA,by omega,fun k _ hk=>hold k (fun e=>hk (e▸⟨id,ver,sz,tot,hb⟩)),fun _ _ _ h=>h,fun _ _ _ _=>rfl,fun _ _ _=>.inl rfl,fun _ h=>.inl h⟩⟩
 ·intro k o' v hv
  rw[<-h.kK k o' v hv];refine World.cell?_of_block (hold k fun e=>?_);have:=h.own b ⟨id,ver,sz,tot,hb⟩ o';subst e;rw[this]at hv;cases hv
 ·intro i o' hi
  by_cases e:i=id
  ·subst e
   rw[List.getElem?_set_self hid]at hi;cases hi;exact ho
  ·rw[List.getElem?_set_ne (Ne.symm e)]at hi
   refine(h.obj i o' hi).mono (fun _=>rfl) (fun v k s t hk=>hold k ?_) (fun _ _ h=>h) (ht:=fun k v o hv ho=>by rw[hold k (fun e=>by have:=h.own b ⟨id,ver,sz,tot,hb⟩ 0;rw[<-e,hv]at this;cases this)];exact ho);rintro rfl;exact e (h.inj _ _ _ _ _ _ _ _ _ hk hb).1
 ·intro i v hi
  simp at hi;exact h.out i v hi
theorem SR.grow {θ:Th} {W:Im} {H:List AO} {w w':World} (h:SR θ W H w) (id ver:Nat) (o:AO) (pl:Pl) (hid:id<H.length)
  (aij:θ id ver≠.no) (ac5:θ id (ver+1)=.no)
  (we:w'.os=w.os) (Bz:w'.tape=w.tape) (BA:w'.output=w.output) (cL:w.heap.size<=w'.heap.size)
  (hold:∀k,k<w.heap.size->(∀sz tot,θ id ver≠.at k sz tot)->w'.heap[k]?=w.heap[k]?)
  (qz:∀b sz tot,pl=.at b sz tot->(∃cP fc,θ id ver=.at b cP fc)\/w.heap.size=b)
  (ho:(∀x v,bc θ W x v->bc (dj (dj θ id ver .dead) id (ver+1) pl) W x v)->OR (dj (dj θ id ver .dead) id (ver+1) pl) W w' id o):
  SR (dj (dj θ id ver .dead) id (ver+1) pl) W (H.set id o) w'/\eU θ W w (dj (dj θ id ver .dead) id (ver+1) pl) W w':=by
 have e1:dj (dj θ id ver .dead) id (ver+1) pl id (ver+1)=pl:=bU _ _ _ _;have e2:dj (dj θ id ver .dead) id (ver+1) pl id ver=.dead:=by rw[bx (by omega),bU]
 have e3:∀i v,¬(i=id/\v=ver)->¬(i=id/\v=ver+1)->dj (dj θ id ver .dead) id (ver+1) pl i v=θ i v:=fun i v a b=>by
  rw[bx b,bx a]
 have vu:∀i v,θ i v≠.no->dj (dj θ id ver .dead) id (ver+1) pl i v=θ i v\/dj (dj θ id ver .dead) id (ver+1) pl i v=.dead:=by
  intro i v hn;by_cases a:i=id/\v=ver
  ·obtain⟨rfl,rfl⟩:=a;exact .inr e2
  ·by_cases b:i=id/\v=ver+1
   ·obtain⟨rfl,rfl⟩:=b;exact(hn ac5).elim
   ·exact .inl (e3 i v a b)
 have hr:∀x v,bc θ W x v->bc (dj (dj θ id ver .dead) id (ver+1) pl) W x v:=fun x v hx=>hx.mono (fun _ _ _ h=>h) vu
 have kU:∀b,gl (dj (dj θ id ver .dead) id (ver+1) pl) b->gl θ b\/w.heap.size=b:=by
  rintro b ⟨i,v,sz,tot,hb⟩;by_cases a:i=id/\v=ver
  ·obtain⟨rfl,rfl⟩:=a;rw[e2]at hb;cases hb
  ·by_cases c:i=id/\v=ver+1
   ·obtain⟨rfl,rfl⟩:=c
    rw[e1]at hb;rcases qz b sz tot hb with⟨cP,fc,h'⟩|h'
    ·exact .inl ⟨_,_,_,_,h'⟩
    ·exact .inr h'
   ·rw[e3 i v a c]at hb
    exact .inl ⟨i,v,sz,tot,hb⟩
 refine⟨⟨?_,?_,?_,?_,?_⟩,⟨we,Bz,BA,cL,fun k hk lb=>hold k hk (fun sz tot e=>lb ⟨id,ver,sz,tot,e⟩),fun _ _ _ h=>h,fun _ _ _ _=>rfl,vu,fun b hb=>(kU b hb).imp (fun a=>a) (fun e=>by omega)⟩⟩
 ·intro k o' v hv
  have hc:=h.kK k o' v hv;rw[<-hc];refine World.cell?_of_block (hold k (uN hc) fun sz tot e=>?_);have:=h.own k ⟨id,ver,sz,tot,e⟩ o';rw[this]at hv;cases hv
 ·intro i o' hi
  by_cases e:i=id
  ·subst e
   rw[List.getElem?_set_self hid]at hi;cases hi;exact ho hr
  ·rw[List.getElem?_set_ne (Ne.symm e)]at hi
   refine(h.obj i o' hi).mono (fun v=>e3 i v (by omega) (by omega)) (fun v k s t hk=>hold k (h.jo hk) fun sz tot e'=>?_) hr (ht:=fun k v o hv ho=>by rw[hold k (h.lt hv) (fun sz tot e=>by have:=h.own k ⟨id,ver,sz,tot,e⟩ 0;rw[hv]at this;cases this)];exact ho);exact e (h.inj _ _ _ _ _ _ _ _ _ hk e').1
 ·intro i v hi
  simp at hi;rw[e3 i v (by omega) (by omega)];exact h.out i v hi
 ·intro b hb o'
  rcases kU b hb with hb|hb
  ·exact h.own b hb o'
  ·cases e:W b o' with
   |none=>rfl
   |some v=>have:=h.lt e;omega
 ·intro b i v sz tot i' v' cP fc h1 h2
  have key:∀i v sz tot,dj (dj θ id ver .dead) id (ver+1) pl i v=.at b sz tot->
    (i=id/\v=ver+1/\((∃s t,θ id ver=.at b s t)\/w.heap.size=b))\/(¬(i=id/\v=ver)/\¬(i=id/\v=ver+1)/\θ i v=.at b sz tot):=by
   intro i v sz tot hh;by_cases a:i=id/\v=ver
   ·obtain⟨rfl,rfl⟩:=a;rw[e2]at hh;cases hh
   ·by_cases c:i=id/\v=ver+1
    ·obtain⟨rfl,rfl⟩:=c;rw[e1]at hh;exact .inl ⟨rfl,rfl,qz b sz tot hh⟩
    ·rw[e3 i v a c]at hh;exact .inr ⟨a,c,hh⟩
  rcases key _ _ _ _ h1 with⟨a1,a2,a3⟩|⟨a1,a2,a3⟩<;>rcases key _ _ _ _ h2 with⟨b1,b2,b3⟩|⟨b1,b2,b3⟩
  ·exact⟨by omega,by omega⟩
  ·rcases a3 with⟨s,t,a3⟩|a3
   ·have:=h.inj _ _ _ _ _ _ _ _ _ a3 b3;omega
   ·have:=h.jo b3;omega
  ·rcases b3 with⟨s,t,b3⟩|b3
   ·have:=h.inj _ _ _ _ _ _ _ _ _ b3 a3;omega
   ·have:=h.jo a3;omega
  ·exact h.inj b _ _ _ _ _ _ _ _ a3 b3
end Go.AM
