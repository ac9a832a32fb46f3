/- Regions whose order is drawn: new objects at places that are kept for them; calls that leave the objects alone. -/
import Derived.Test.YtjkbbnfdbfcebaaGreatDoorAm17
set_option linter.all false
namespace Go.AM
variable {lv:List Nat} {P:Program} {N:Nat} {K:St->Prop} {θ:Th} {W:Im} {ops:Array Oper} {C:ja} {o:Oper}
theorem SR.GZ {H:List AO} {w:World} (h:SR θ W H w) (k:Nat):SR θ W (H++List.replicate k .iP) w:=by
 refine⟨h.kK,fun id o' hid=>?_,fun id ver hid=>h.out id ver (by simp at hid;omega),h.own,h.inj⟩;rcases Nat.lt_or_ge id H.length with aj|gH
 ·rw[List.getElem?_append_left aj]at hid
  exact h.obj id o' hid
 ·rw[List.getElem?_append_right gH,List.getElem?_replicate]at hid
  split at hid
  ·cases hid;exact fun ver=>h.out id ver gH
  ·cases hid
theorem SR.fill {H:List AO} {w w':World} (h:SR θ W H w) (id:Nat) (hid:H[id]?=some .iP) (o:AO) (pl:Pl)
  (we:w'.os=w.os) (Bz:w'.tape=w.tape) (BA:w'.output=w.output) (cL:w.heap.size<=w'.heap.size)
  (hold:∀b,b<w.heap.size->w'.heap[b]?=w.heap[b]?)
  (qz:∀b sz tot,pl=.at b sz tot->b=w.heap.size)
  (lb:pl≠.no)
  (ho:(∀x v,bc θ W x v->bc (dj θ id 0 pl) W x v)->OR (dj θ id 0 pl) W w' id o):
  SR (dj θ id 0 pl) W (H.set id o) w'/\eU θ W w (dj θ id 0 pl) W w':=by
 have xv:id<H.length:=by
  rcases Nat.lt_or_ge id H.length with h'|h'
  ·exact h'
  ·rw[List.getElem?_eq_none h']at hid;cases hid
 have wq:∀ver,θ id ver=.no:=h.obj id _ hid
 have vu:∀i ver,θ i ver≠.no->dj θ id 0 pl i ver=θ i ver:=by
  intro i ver hn;refine bx fun⟨e,_⟩=>hn ?_
  rw[e];exact wq ver
 have hr:∀x v,bc θ W x v->bc (dj θ id 0 pl) W x v:=fun x v hx=>hx.mono (fun _ _ _ h=>h) (fun i ver hn=>.inl (vu i ver hn))
 have kU:∀b,gl (dj θ id 0 pl) b->gl θ b\/w.heap.size=b:=by
  rintro b ⟨i,ver,sz,tot,hb⟩;by_cases e:i=id/\ver=0
  ·obtain⟨rfl,rfl⟩:=e
   rw[bU]at hb;exact .inr (qz b sz tot hb).symm
  ·rw[bx e]at hb
   exact .inl ⟨i,ver,sz,tot,hb⟩
 refine⟨⟨?_,?_,?_,?_,?_⟩,⟨we,Bz,BA,cL,fun b hb _=>hold b hb,fun _ _ _ h=>h,fun _ _ _ _=>rfl,fun i ver hn=>.inl (vu i ver hn),fun b hb=>(kU b hb).imp (fun a=>a) (fun e=>by omega)⟩⟩
 ·intro b o' v hv
  have hb:=h.kK b o' v hv;rw[<-hb];exact World.cell?_of_block (hold b (uN hb))
 ·intro i o' hi
  by_cases e:i=id
  ·subst e
   rw[List.getElem?_set_self xv]at hi;cases hi;exact ho hr
  ·rw[List.getElem?_set_ne (Ne.symm e)]at hi
   exact(h.obj i o' hi).mono (fun ver=>bx (by omega)) (fun ver b sz tot hb=>hold b (h.jo hb)) hr (ht:=fun b v o hv ho=>by rw[hold b (h.lt hv)];exact ho)
 ·intro i ver hi
  simp at hi;rw[bx (by omega)];exact h.out i ver hi
 ·intro b hb o'
  rcases kU b hb with hb|hb
  ·exact h.own b hb o'
  ·cases e:W b o' with
   |none=>rfl
   |some v=>have:=h.lt e;omega
 ·intro b i ver sz tot i' cA cP fc h1 h2
  by_cases e:i=id/\ver=0<;>by_cases e':i'=id/\cA=0
  ·exact⟨by omega,by omega⟩
  ·obtain⟨rfl,rfl⟩:=e
   rw[bU]at h1;rw[bx e']at h2;have:=qz _ _ _ h1;have:=h.jo h2;omega
  ·obtain⟨rfl,rfl⟩:=e'
   rw[bU]at h2;rw[bx e]at h1;have:=qz _ _ _ h2;have:=h.jo h1;omega
  ·rw[bx e]at h1
   rw[bx e']at h2;exact h.inj b _ _ _ _ _ _ _ _ h1 h2
theorem DZ {H:List AO} {w:World} (h:SR θ W H w) (id:Nat) (hid:H[id]?=some .iP) (cs:List AV) (vs:Array Value) (ty:TypeId) (hc:xz θ W cs vs):
  ∃bd,SR bd W (H.set id (.var cs)) (w.alloc (.cells vs ty))/\eU θ W w bd W (w.alloc (.cells vs ty))/\bc bd W (.ptr id 0) (.pointer (some ⟨w.heap.size,0,none⟩)):=by
 have wq:∀ver,θ id ver=.no:=h.obj id _ hid
 obtain⟨a,b⟩:=h.fill (w':=w.alloc (.cells vs ty)) id hid (.var cs) (.at w.heap.size 1 0) rfl rfl rfl (by simp) (fun k hb=>RowKit.Below.heap_alloc w _ k hb) (fun b sz tot e=>by cases e;rfl) (fun e=>by cases e)
  (fun hr=>⟨⟨w.heap.size,1,0,ty,vs,bU _ _ _ _,heap_alloc_new w _,hc.size,fun j c v hj hv=>hr _ _ (hc.rel j c v hj hv),hc.one⟩,fun ver hv=>by
   rw[bx (by omega)];exact wq ver⟩)
 exact⟨_,a,b,.ptr _ 0 w.heap.size 1 0 (bU _ _ _ _)⟩
theorem BS {H:List AO} {w:World} (h:SR θ W H w) (id:Nat) (hid:H[id]?=some .iP) (sz:Nat) (rs:List (List AV)) (vs:Array Value) (ty:TypeId) (tot:Nat)
  (hs:vs.size=tot*sz) (hl:rs.length<=tot) (hr:∀r∈rs,r.length=sz)
  (hc:∀(i:Nat) (r:List AV) (j:Nat) (c:AV) (u:Value),rs[i]?=some r->r[j]?=some c->vs[i*sz+j]?=some u->bc θ W c u) (h1:∀(j:Nat) (u:Value),vs[j]?=some u->u.oneCell'=true):
  ∃bd,SR bd W (H.set id (.rows sz 0 rs)) (w.alloc (.cells vs ty))/\eU θ W w bd W (w.alloc (.cells vs ty))/\bd id 0=.at w.heap.size sz tot:=by
 have wq:∀ver,θ id ver=.no:=h.obj id _ hid
 obtain⟨a,b⟩:=h.fill (w':=w.alloc (.cells vs ty)) id hid (.rows sz 0 rs) (.at w.heap.size sz tot) rfl rfl rfl (by simp) (fun k hb=>RowKit.Below.heap_alloc w _ k hb) (fun b sz tot e=>by cases e;rfl) (fun e=>by cases e)
  (fun cR=>⟨.inr ⟨w.heap.size,tot,ty,vs,bU _ _ _ _,heap_alloc_new w _,hs,hl,hr,fun i r j c u hi hj hu=>cR _ _ (hc i r j c u hi hj hu),h1⟩,fun v' hv=>by
   rw[bx (by omega)];exact wq v',fun v' hv=>by omega⟩)
 exact⟨_,a,b,bU _ _ _ _⟩
theorem G1 {H:List AO} {w w0:World} (h:SR θ W H w) (id:Nat) (hid:H[id]?=some .iP) (sz:Nat) (rs:List (List AV)) (vs:Array Value) (ty:TypeId) (tot:Nat) (hw:w0.heap=w.heap) (we:w0.os=w.os) (Bz:w0.tape=w.tape) (BA:w0.output=w.output)
  (hs:vs.size=tot*sz) (hl:rs.length<=tot) (hr:∀r∈rs,r.length=sz)
  (hc:∀(i:Nat) (r:List AV) (j:Nat) (c:AV) (u:Value),rs[i]?=some r->r[j]?=some c->vs[i*sz+j]?=some u->bc θ W c u) (h1:∀(j:Nat) (u:Value),vs[j]?=some u->u.oneCell'=true):
  ∃bd,SR bd W (H.set id (.rows sz 0 rs)) (w0.alloc (.cells vs ty))/\eU θ W w bd W (w0.alloc (.cells vs ty))/\bd id 0=.at w.heap.size sz tot:=by
 have wq:∀ver,θ id ver=.no:=h.obj id _ hid
 obtain⟨a,b⟩:=h.fill (w':=w0.alloc (.cells vs ty)) id hid (.rows sz 0 rs) (.at w.heap.size sz tot) we Bz BA (by simp[hw]) (fun k hb=>by rw[RowKit.Below.heap_alloc w0 _ k (by rw[hw];exact hb),hw]) (fun b sz tot e=>by cases e;rfl) (fun e=>by cases e)
  (fun cR=>⟨.inr ⟨w.heap.size,tot,ty,vs,bU _ _ _ _,by rw[<-hw];exact heap_alloc_new w0 _,hs,hl,hr,fun i r j c u hi hj hu=>cR _ _ (hc i r j c u hi hj hu),h1⟩,fun v' hv=>by
   rw[bx (by omega)];exact wq v',fun v' hv=>by omega⟩)
 exact⟨_,a,b,bU _ _ _ _⟩
def wu (o:MO) (s:St) (ob:AO) (mk:Nat->AV):Prop :=
 match o with
 | .alloc z=>ob=.var z/\mk=fun id=>.ptr id 0
 | .box n x=>((s.get x).eZ&&(s.get x).cells.length==n)=true/\ob=.var (s.get x).cells/\mk=fun id=>.ptr id 0
 | .C9 sz z n ps=>∃rs,kL s sz ps (List.replicate n z)=some rs/\ob=.rows sz 0 rs/\mk=fun id=>.gs id 0 0 n
 | .Da sz bytes z l c=>∃n c':Int,s.get l=.p (.i .i64 n)/\s.get c=.p (.i .i64 c')/\(0<=n/\n<=c'/\c'*bytes<=140737488355328/\c'<=140737488355328)/\ob=.rows sz 0 (List.replicate n.toNat z)/\mk=fun id=>.gs id 0 0 n.toNat
 |_=>False
theorem PL {J:PK} {Hc:List AO} {m:MO} {d:MD} {s:St} (hq:kindOf m= .new) (h:ZO Hc m d J s):∃ob mk,wu m s ob mk∧J Hc (St.put ⟨s.L,s.T,s.H++[ob]⟩ d (mk (Hc.length+s.H.length))):=by
  cases m with
  |alloc z=>exact⟨_,_,⟨rfl,rfl⟩,h⟩
  |box n x=>
   change AL Hc (if(s.get x).eZ&&(s.get x).cells.length==n then some (.var (s.get x).cells)else none) (fun id=> .ptr id 0) d J s at h;split at h
   · rename_i hc;exact⟨_,_,⟨hc,rfl,rfl⟩,h⟩
   · exact h.elim
  |C9 sz z n ps=>
   change AL Hc ((kL s sz ps (List.replicate n z)).map fun rs=> .rows sz 0 rs) (fun id=> .gs id 0 0 n) d J s at h
   cases hr:kL s sz ps (List.replicate n z)with
   |none =>rw[hr]at h;exact h.elim
   |some rs=>rw[hr]at h;exact⟨_,_,⟨rs,hr,rfl,rfl⟩,h⟩
  |Da sz b z l c=>
   change GH Hc sz b z (s.get l) (s.get c) d J s at h;unfold GH at h;split at h
   · rename_i n c' e1 e2
     obtain⟨h1,h2,h3,h4,h5⟩:=h;exact⟨_,_,⟨n,c',e1,e2,⟨h1,h2,h3,h4⟩,rfl,rfl⟩,h5⟩
   · exact h.elim
  |_ =>cases hq
theorem wu.agree {m:MO} {s s':St} {ob:AO} {mk:Nat→AV} (h:wu m s ob mk) (ha:Agree m.args s s'):wu m s' ob mk:=by
  cases m with
  |alloc z=>exact h
  |box n x=>
   have e:=ha x (by simp[MO.args]);simp only[wu]at h⊢;rw[←e]
   exact h
  |C9 sz z n ps=>
   obtain⟨rs,h1,h2⟩:=h
   exact⟨rs,by rw[←Agree.rows (ps:=ps) ha];exact h1,h2⟩
  |Da sz b z l c=>
   obtain⟨n,c',h1,h2,h3⟩:=h
   exact⟨n,c',by rw[←ha l (by simp[MO.args])];exact h1,by rw[←ha c (by simp[MO.args])];exact h2,h3⟩
  |_ =>exact h.elim
theorem E6 {op:Op} {sz b:Nat} {mx my:MA} (hm:dM lv P op=some (.app sz b mx my)):
    ∃(c:Call) (x y:Operand) (t u e:TypeId) (i:TypeInfo) (zl:List AV) (du:TypeDesc),op= .call c∧c.callee= .builtin .append∧c.args=#[x,y]∧c.argTypes=#[t,u]∧P.underlying t=some (.slice e)∧P.underlying u=some du∧((∃e',du= .slice e')∨du= .string)∧P.info? e=some i∧
      zeroOf P e=some zl∧zl.length=i.size∧0<i.size∧bQ lv x=some mx∧bQ lv y=some my∧sz=i.size∧b=i.bytes:=by
  cases op with
  |call c=>
   simp only[dM]at hm;unfold nY at hm;split at hm
   · split at hm
     · split at hm
       · cases hm
       · cases hm
     · cases hm
   · cases hm
   · rename_i x hc ha
     cases ht:c.argTypes[0]?with
     |none =>rw[ht]at hm;cases hm
     |some t=>
      rw[ht]at hm;simp only[Option.bind_some]at hm;split at hm<;>cases hm
   · rename_i x hc ha
     cases ht:c.argTypes[0]?with
     |none =>rw[ht]at hm;cases hm
     |some t=>
      rw[ht]at hm;simp only[Option.bind_some]at hm;split at hm<;>cases hm
   · rename_i x y hc ha
     obtain⟨x',y',hy,sR,mf⟩:=uQ ha;split at hm
     case h_2=>cases hm
     case h_1 t u0 htu=>
     have e8:c.argTypes=#[t,u0]:=by apply Array.ext';simpa using htu
     split at hm
     case h_1=>cases hm
     case h_2 u hu=>
     split at hm
     case h_2=>cases hm
     case h_1 e he=>
     split at hm
     case h_2=>cases hm
     case h_1 i hi=>
     have Dm:P.underlying t=some (.slice e):=by
       unfold rF at he;split at he
       · rename_i e' h';cases he;exact h'
       · cases he
     split at hm
     · rename_i z e' hz
       split at hm
       · rename_i fy
         simp only[Bool.and_eq_true,beq_iff_eq,decide_eq_true_eq]at fy;cases hm;exact⟨c,x',y',t,u0,e,i,z,_,rfl,hc,hy,e8,Dm,hu, .inl ⟨e',rfl⟩,hi,hz,fy.1,fy.2,sR,mf,rfl,rfl⟩
       · cases hm
     · rename_i z hz
       split at hm
       · rename_i fy
         simp only[Bool.and_eq_true,beq_iff_eq,decide_eq_true_eq]at fy;cases hm;exact⟨c,x',y',t,u0,e,i,z,_,rfl,hc,hy,e8,Dm,hu, .inr rfl,hi,hz,fy.1,fy.2,sR,mf,rfl,rfl⟩
       · cases hm
     · split at hm
       · cases hm
       · cases hm
     · cases hm
   · rename_i x y hc ha
     cases hm
   · rename_i x y hc ha
     cases hm
   · cases hm
  |slice t x lo hi mx=>
   cases mx with
   |some _ =>cases hm
   |none =>
    simp only[dM]at hm;split at hm
    · cases hm
    · obtain⟨n,_,h⟩:=bf hm;cases h
    · cases hm
  |makeFunc fn first eO=>
   cases fn with
   |func f=>
    simp only[dM]at hm;split at hm
    · obtain⟨x,_,h⟩:=bf hm;cases h
    · cases hm
   |_ =>cases hm
  |_ =>
   simp only[dM,mD,vL,Db,Option.map_eq_some_iff]at hm
   first
     |(cases hm;done)
     |(obtain⟨x,_,hm⟩:=hm;cases hm;done)
     |((repeat' split at hm)<;>first|(cases hm;done)|(simp only[Option.map_eq_some_iff,Option.bind_eq_some_iff]at hm;obtain⟨x,_,hm⟩:=hm;first|(cases hm;done)|(split at hm<;>cases hm)))
theorem xD {a:Act} {w w':World} {next:Act->World->Prop} {Q:Exit->Act->World->Prop} {s:St} {bd:Th} {H':List AO} {v:Value} {r:AV}
  (hR:Rl lv N s a w θ W) (hd:o.dst.all (decide <| ·<N)=true)
  (hk:∀a' w' bd W',Rl lv N (St.put ⟨s.L,s.T,H'⟩ (cB lv o.dst) r) a' w' bd W'->eU θ W w bd W' w'->next a' w')
  (dz:(execOp a.eval o).run P w=.ok (.value v) w') (hr:bc bd W r v) (hm:SR bd W H' w') (hs:eU θ W w bd W w'):o.wp P a w next Q:=by
 unfold Oper.wp;rw[dz];exact hk _ _ _ _ (hR.put hd hr hm hs) hs
theorem W9 {m:MO} {s:St} {ob:AO} {mk:Nat→AV} (hm:dM lv P o.op=some m) (hd:o.dst.all (decide <| · <N)=true) (hn:wu m s ob mk) {a:Act} {w:World} {next :Act→World→Prop} {Q:Exit→Act→World→Prop}
    (hR:Rl lv N s a w θ W) (id:Nat) (hid:s.H[id]?=some .iP)
    (hk:∀a' w' bd W',Rl lv N (St.put ⟨s.L,s.T,s.H.set id ob⟩ (cB lv o.dst) (mk id)) a' w' bd W'→eU θ W w bd W' w'→next a' w'):o.wp P a w next Q:=by
  cases ho:o.op with
  |alloc t=>
   rw[ho]at hm;obtain⟨z,hz,rfl⟩:=bf hm;obtain⟨rfl,rfl⟩:=hn;obtain⟨i,zv,hi,qQ,hv⟩:=gC hz;obtain⟨h1,h2,h3⟩:=fe hv θ W;obtain⟨bd,a1,a2,a3⟩:=DZ hR.mem id hid z zv.cells t ⟨by simpa using h1,fun j c u hj hu=>h2 j c u hj (by simpa using hu),fun j u hu=>h3 j u (by simpa using hu)⟩;refine xD hR hd hk (v:= .pointer (some ⟨w.heap.size,0,none⟩)) ?_ a3 a1 a2
   simp[execOp,ho,Instr.alloc,zeroValue,typeInfo,hi,qQ,newVar,newRow]
  |box t x=>
   rw[ho]at hm;simp only[dM]at hm;split at hm
   case h_2=>cases hm
   case h_1 hx cL=>
   cases hm;obtain⟨hc,rfl,rfl⟩:=hn;simp only[Bool.and_eq_true]at hc;obtain⟨bd,a1,a2,a3⟩:=DZ hR.mem id hid _ (a.eval x).cells t (tH (hR.arg hx) hc.1);refine xD hR hd hk (v:= .pointer (some ⟨w.heap.size,0,none⟩)) ?_ a3 a1 a2
   simp[execOp,ho,Instr.box,newVar,newRow]
  |buildSlice t n ps=>
   rw[ho]at hm;simp only[dM]at hm;split at hm
   case h_2=>cases hm
   case h_1 e he=>
   have ht:P.underlying t=some (.slice e):=by
     unfold rF at he;split at he
     · rename_i e' h';cases he;exact h'
     · cases he
   split at hm
   case h_2=>cases hm
   case h_1 sz z ms cL hz tI=>
   split at hm
   case isFalse=>cases hm
   case isTrue fy=>
   simp only[Bool.and_eq_true,beq_iff_eq,decide_eq_true_eq]at fy;obtain⟨⟨tE,h0⟩,z8⟩:=fy;cases hm;obtain⟨rs,kN,rfl,rfl⟩:=hn;obtain⟨i,zv,hi,qQ,BO⟩:=gC hz;obtain⟨z1,z2,z3⟩:=fe BO θ W;obtain⟨i',iQ,oW⟩:=jV cL;rw[hi]at iQ;cases iQ;have sO:zv.cells.size=sz:=by rw[←tE,←z1];simp
   have eS:∀k,k<n*sz→(madeCells zv.cells (n*sz))[k]?=zv.cells[k % sz]?:=by
     intro k ia;have hm:k % sz<zv.cells.size:=by rw[sO];exact Nat.mod_lt _ h0
     simp[madeCells,ia,sO,hm,Nat.mod_lt _ h0]
   have Nl:BP θ W sz (List.replicate n z) (madeCells zv.cells (n*sz)):=by
     refine⟨by rw[size_madeCells];simp,by simp;intro _;exact tE, ?_, ?_⟩
     · intro p r j q u hp hj hu
       rw[List.getElem?_replicate]at hp;split at hp
       · rename_i aj
         cases hp
         have tF:j<z.length:=by
           rcases Nat.lt_or_ge j z.length with h'|h'
           · exact h'
           · rw[List.getElem?_eq_none h']at hj;cases hj
         have gD:p*sz+j<n*sz:=by
           have :(p+1)*sz≤n*sz:=Nat.mul_le_mul_right _ (by omega);rw[Nat.add_mul]at this;omega
         rw[eS _ gD,Nat.mul_comm,Nat.mul_add_mod,Nat.mod_eq_of_lt (by omega)]at hu;exact z2 j q u hj (by simpa using hu)
       · cases hp
     · intro j u hu
       have aj:j<n*sz:=by
         rcases Nat.lt_or_ge j (n*sz)with h'|h'
         · exact h'
         · rw[Array.getElem?_eq_none (by rw[size_madeCells];exact h')]at hu;cases hu
       rw[eS _ aj]at hu;exact z3 _ u (by simpa using hu)
   obtain⟨qC,f1,f2,f3⟩:=BQ hR ps.toList ms _ rs _ tI kN Nl;have n9:rs.length=n:=by rw[f3];simp
   obtain⟨bd,a1,a2,a3⟩:=BS hR.mem id hid sz rs qC e n (by rw[f2.size,n9]) (by omega) f2.len f2.rel f2.one;have ar:n≤n*sz:=Nat.le_mul_of_pos_right n h0;refine xD hR hd hk (v:= .slice (some ⟨w.heap.size,0,none⟩) n n) ?_ (.gs _ 0 0 n w.heap.size sz n 0 n a3 (Nat.le_refl _) (by unfold fb;omega) (by omega) (fun _ =>by simp) (fun _ =>rfl)) a1 a2;have xA:¬16777216<n*i.size:=by rw[oW];omega
   have e2:Array.map (fun x=>zv.cells[x % zv.cells.size]!) (Array.range (n*sz))=madeCells zv.cells (n*sz):=rfl;have GU:Instr.fill (fun i=>some (i*sz,sz)) (madeCells zv.cells (n*sz)) (List.map (fun x=>(x.1,a.eval x.2)) ps.toList)=some qC:=by simpa using f1
   by_cases GN:n=0
   · subst GN
     have e3:Array.map (fun _ =>(default :Value)) (Array.range 0)=madeCells zv.cells (0*sz):=by
       apply Array.ext';simp[madeCells]
     simp[execOp,ho,Instr.buildSlice,run_underlying ht,sizeOf,typeInfo,hi,newRow];rw[oW,e3,GU]
     rfl
   · have cX:¬n*i.size=0:=by rw[oW];exact fun e=>by rcases Nat.mul_eq_zero.1 e with e|e<;>omega
     simp[execOp,ho,Instr.buildSlice,run_underlying ht,sizeOf,typeInfo,zeroValue,hi,qQ,xA,newRow,GN];rw[if_neg (by omega)];rw[oW,e2,GU]
     rfl
  |makeSlice t l c=>
   rw[ho]at hm;simp only[dM]at hm;split at hm
   case h_2=>cases hm
   case h_1 e ml mc he hl hc=>
   have ht:P.underlying t=some (.slice e):=by
     unfold rF at he;split at he
     · rename_i e' h';cases he;exact h'
     · cases he
   split at hm
   case h_2=>cases hm
   case h_1 i z hi hz=>
   split at hm
   case isFalse=>cases hm
   case isTrue fy=>
   simp only[Bool.and_eq_true,beq_iff_eq,decide_eq_true_eq]at fy;obtain⟨tE,h0⟩:=fy;cases hm;obtain⟨n,c',e1,e2,⟨hn,vx,hb,af8⟩,rfl,rfl⟩:=hn;have h1:=hR.arg hl;have h2:=hR.arg hc;rw[e1]at h1;rw[e2]at h2;have e3:=h1.ff;have e4:=h2.ff;obtain⟨i',zv,iQ,qQ,hv⟩:=gC hz;rw[hi]at iQ;cases iQ;obtain⟨z1,z2,z3⟩:=fe hv θ W;have dz:=run_make (P:=P) w t e i zv ht hi qQ .i64 .i64 n c' hn vx (by rw[Int.mul_comm];omega) (by omega);have sO:zv.cells.size=i.size:=by rw[←tE,←z1];simp
   have eS:∀k,k<c'.toNat*i.size→(madeCells zv.cells (c'.toNat*i.size))[k]?=zv.cells[k % i.size]?:=by
     intro k ia;have hm:k % i.size<zv.cells.size:=by rw[sO];exact Nat.mod_lt _ h0
     simp[madeCells,ia,sO,hm,Nat.mod_lt _ h0]
   obtain⟨bd,a1,a2,a3⟩:=BS hR.mem id hid i.size (List.replicate n.toNat z) (madeCells zv.cells (c'.toNat*i.size)) e c'.toNat (size_madeCells _ _) (by simp;omega) (by simp;intro _;exact tE)
     (fun p r j q u hp hj hu=>by
       rw[List.getElem?_replicate]at hp;split at hp
       · rename_i aj
         cases hp
         have tF:j<z.length:=by
           rcases Nat.lt_or_ge j z.length with h'|h'
           · exact h'
           · rw[List.getElem?_eq_none h']at hj;cases hj
         have gD:p*i.size+j<c'.toNat*i.size:=by
           have :(p+1)*i.size≤c'.toNat*i.size:=Nat.mul_le_mul_right _ (by omega);rw[Nat.add_mul]at this;omega
         rw[eS _ gD,Nat.mul_comm,Nat.mul_add_mod,Nat.mod_eq_of_lt (by omega)]at hu;exact z2 j q u hj (by simpa using hu)
       · cases hp)
     (fun j u hu=>by
       have aj:j<c'.toNat*i.size:=by
         rcases Nat.lt_or_ge j (c'.toNat*i.size)with h'|h'
         · exact h'
         · rw[Array.getElem?_eq_none (by rw[size_madeCells];exact h')]at hu;cases hu
       rw[eS _ aj]at hu;exact z3 _ u (by simpa using hu))
   refine xD hR hd hk (v:= .slice (some ⟨w.heap.size,0,none⟩) n.toNat c'.toNat) ?_ (.gs _ 0 0 n.toNat w.heap.size i.size c'.toNat 0 c'.toNat a3 (by omega) (by unfold fb;omega) (by omega) (fun _ =>by simp) (fun _ =>rfl)) a1 a2
   simp[execOp,ho,e3,e4,dz]
  |makeFunc fn first eO=>
   rw[ho]at hm
   cases fn with
   |func f=>
    simp only[dM]at hm;split at hm
    · obtain⟨x,_,rfl⟩:=bf hm;exact hn.elim
    · cases hm
   |_ =>cases hm
  |slice t x lo hi mx=>
   rw[ho]at hm
   cases mx with
   |some _ =>cases hm
   |none =>
    simp only[dM]at hm;split at hm
    · cases hm;exact hn.elim
    · obtain⟨n,_,rfl⟩:=bf hm;exact hn.elim
    · cases hm
  |call c=>
   rw[ho]at hm;simp only[dM,nY]at hm
   (repeat' split at hm)<;>first|(cases hm;done)|(cases hm;exact hn.elim)
  |_ =>
   rw[ho]at hm;simp only[dM,mD,vL,Db,Option.map_eq_some_iff]at hm
   first
     |(cases hm;done)
     |(obtain⟨x,_,rfl⟩:=hm;exact hn.elim)
     |((repeat' split at hm)<;>first|(cases hm;done)|(cases hm;exact hn.elim)|(simp only[Option.map_eq_some_iff,Option.bind_eq_some_iff]at hm;obtain⟨x,_,hm⟩:=hm;first|(cases hm;exact hn.elim)|(split at hm<;>cases hm<;>exact hn.elim)))
     |skip
theorem G2 {sz b:Nat} {mx my:MA} {s:St} (hm:dM lv P o.op=some (.app sz b mx my)) (hd:o.dst.all (decide <| ·<N)=true) {a:Act} {w:World} {next:Act->World->Prop} {Q:Exit->Act->World->Prop}
  (hR:Rl lv N s a w θ W) (yX:s.get mx=.p .nl) {ys:List (List AV)} (gI:dt s.H sz (s.get my)=some ys) (rL:∀r∈ys,r.length=sz) (cX:ys≠[]) (hb:ys.length*b<=140737488355328) (xy:ys.length<=140737488355328)
  (id:Nat) (hid:s.H[id]?=some .iP)
  (hk:∀a' w' bd W',Rl lv N (St.put ⟨s.L,s.T,s.H.set id (.rows sz 0 ys)⟩ (cB lv o.dst) (.gs id 0 0 ys.length)) a' w' bd W'->eU θ W w bd W' w'->next a' w'):o.wp P a w next Q:=by
 obtain⟨c,x,y,t,u,e,i,zl,du,ho,hc,df,e8,ht,hu,yT,hi,hz,tE,h0,hx,hy,rfl,rfl⟩:=E6 hm;have h1:=hR.arg hx;have h2:=hR.arg hy;have dz:=tG (P:=P) ho hc df e8 a w;obtain⟨i',zv,iQ,qQ,hv⟩:=gC hz;rw[hi]at iQ;cases iQ;obtain⟨z1,z2,z3⟩:=fe hv θ W;have sO:zv.cells.size=i.size:=by rw[<-tE,<-z1];simp
 have IZ:∀(j:Nat) (u:Value),zv.cells[j]?=some u->u.oneCell'=true:=fun j u hj=>z3 j u (by simpa using hj)
 obtain⟨news,s1,s2,s3,s4,s5⟩:=E1 (P:=P) hR.mem h0 h2 gI rL;have hm:ys.length≠0:=fun e=>cX (List.eq_nil_of_length_eq_zero e)
 rw[yX]at h1;generalize Ni:a.eval x=v at h1 dz;cases h1.fC;have oB:=qB (P:=P) (ty:=o.type) ht hu yT hi qQ (w:=w) (base:=none) (n:=0) (cap:=0) (olds:=[]) s2 s3 (fun w' _=>rfl) (by omega) (by omega) (by rw[Nat.zero_add];exact hb);rw[oB]at dz;have gH:=grownCap_ge w (0+ys.length) 0 e
 obtain⟨bd,a1,a2,a3⟩:=G1 (w0:=w.drew) hR.mem id hid i.size ys _ e (grownCap w (0+ys.length) 0 e) rfl rfl rfl rfl (wj (n:=0) (m:=ys.length) (olds:=[]) sO (by simp) s1 gH) (by omega) rL
  (fun p r j q u hp hj je=>rK (θ:=θ) (W:=W) (rs:=[]) (olds:=[]) (n:=0) (zs:=Builtin.zeroCells zv.cells (grownCap w (0+ys.length) 0 e-(0+ys.length))) h0 (by simp) (by simp) s1 rfl (by simp) rL (fun i r j c u aj=>by omega) s5 p r j q u (by simpa using hp) hj (by rw[<-Mm];exact je))
  (yU (olds:=[]) (by omega) (by simp) s4 IZ)
 refine xD hR hd hk dz ?_ a1 a2;rw[Nat.zero_add]at gH a3⊢;exact .gs _ 0 0 _ w.heap.size i.size _ 0 _ a3 gH (by unfold fb;omega) (by omega) (fun _=>by simp) (fun _=>rfl)
end Go.AM
