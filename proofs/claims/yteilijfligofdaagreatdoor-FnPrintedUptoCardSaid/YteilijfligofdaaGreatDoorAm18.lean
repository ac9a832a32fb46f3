/- Regions whose order is drawn: new objects at places that are kept for them; calls that leave the objects alone. -/
import Derived.Test.YteilijfligofdaaGreatDoorAm17
set_option linter.all false
namespace Go.AM
variable {lv:List Nat} {P:Program} {N:Nat} {K:St->Prop} {θ:Th} {W:Im} {ops:Array Oper} {C:iZ} {o:Oper}
theorem SR.Hl {H:List AO} {w:World} (h:SR θ W H w) (k:Nat):SR θ W (H++List.replicate k .iQ) w:=by
 refine⟨h.nF,fun id o' hid=>?_,fun id ver hid=>h.out id ver (by simp at hid;omega),h.own,h.inj⟩;rcases Nat.lt_or_ge id H.length with aF|ir
 ·rw[List.getElem?_append_left aF]at hid
  exact h.obj id o' hid
 ·rw[List.getElem?_append_right ir,List.getElem?_replicate]at hid
  split at hid
  ·cases hid;exact fun ver=>h.out id ver ir
  ·cases hid
theorem SR.fill {H:List AO} {w w':World} (h:SR θ W H w) (id:Nat) (hid:H[id]?=some .iQ) (o:AO) (pl:Pl)
  (wJ:w'.os=w.os) (BN:w'.tape=w.tape) (BO:w'.output=w.output) (eN:w.heap.size<=w'.heap.size)
  (hold:∀b,b<w.heap.size->w'.heap[b]?=w.heap[b]?)
  (qK:∀b sz br,pl=.at b sz br->b=w.heap.size)
  (lj:pl≠.no)
  (ho:(∀x v,bb θ W x v->bb (dh θ id 0 pl) W x v)->OR (dh θ id 0 pl) W w' id o):
  SR (dh θ id 0 pl) W (H.set id o) w'/\eW θ W w (dh θ id 0 pl) W w':=by
 have xN:id<H.length:=by
  rcases Nat.lt_or_ge id H.length with h'|h'
  ·exact h'
  ·rw[List.getElem?_eq_none h']at hid;cases hid
 have wT:∀ver,θ id ver=.no:=h.obj id _ hid
 have vN:∀i ver,θ i ver≠.no->dh θ id 0 pl i ver=θ i ver:=by
  intro i ver hn;refine bl fun⟨e,_⟩=>hn ?_
  rw[e];exact wT ver
 have hr:∀x v,bb θ W x v->bb (dh θ id 0 pl) W x v:=fun x v hx=>hx.mono (fun _ _ _ h=>h) (fun i ver hn=>.inl (vN i ver hn))
 have lS:∀b,lg (dh θ id 0 pl) b->lg θ b\/w.heap.size=b:=by
  rintro b ⟨i,ver,sz,br,hb⟩;by_cases e:i=id/\ver=0
  ·obtain⟨rfl,rfl⟩:=e
   rw[bR]at hb;exact .inr (qK b sz br hb).symm
  ·rw[bl e]at hb
   exact .inl ⟨i,ver,sz,br,hb⟩
 refine⟨⟨?_,?_,?_,?_,?_⟩,⟨wJ,BN,BO,eN,fun b hb _=>hold b hb,fun _ _ _ h=>h,fun _ _ _ _=>rfl,fun i ver hn=>.inl (vN i ver hn),fun b hb=>(lS b hb).imp (fun a=>a) (fun e=>by omega)⟩⟩
 ·intro b o' v hv
  have hb:=h.nF b o' v hv;rw[<-hb];exact World.cell?_of_block (hold b (vi hb))
 ·intro i o' hi
  by_cases e:i=id
  ·subst e
   rw[List.getElem?_set_self xN]at hi;cases hi;exact ho hr
  ·rw[List.getElem?_set_ne (Ne.symm e)]at hi
   exact(h.obj i o' hi).mono (fun ver=>bl (by omega)) (fun ver b sz br hb=>hold b (h.kU hb)) hr (ht:=fun b v o hv ho=>by rw[hold b (h.lt hv)];exact ho)
 ·intro i ver hi
  simp at hi;rw[bl (by omega)];exact h.out i ver hi
 ·intro b hb o'
  rcases lS b hb with hb|hb
  ·exact h.own b hb o'
  ·cases e:W b o' with
   |none=>rfl
   |some v=>have:=h.lt e;omega
 ·intro b i ver sz br i' cI cX gn h1 h2
  by_cases e:i=id/\ver=0<;>by_cases e':i'=id/\cI=0
  ·exact⟨by omega,by omega⟩
  ·obtain⟨rfl,rfl⟩:=e
   rw[bR]at h1;rw[bl e']at h2;have:=qK _ _ _ h1;have:=h.kU h2;omega
  ·obtain⟨rfl,rfl⟩:=e'
   rw[bR]at h2;rw[bl e]at h1;have:=qK _ _ _ h2;have:=h.kU h1;omega
  ·rw[bl e]at h1
   rw[bl e']at h2;exact h.inj b _ _ _ _ _ _ _ _ h1 h2
theorem El {H:List AO} {w:World} (h:SR θ W H w) (id:Nat) (hid:H[id]?=some .iQ) (cs:List AV) (vs:Array Value) (ty:TypeId) (hc:xR θ W cs vs):
  ∃aX,SR aX W (H.set id (.var cs)) (w.alloc (.cells vs ty))/\eW θ W w aX W (w.alloc (.cells vs ty))/\bb aX W (.ptr id 0) (.pointer (some ⟨w.heap.size,0,none⟩)):=by
 have wT:∀ver,θ id ver=.no:=h.obj id _ hid
 obtain⟨a,b⟩:=h.fill (w':=w.alloc (.cells vs ty)) id hid (.var cs) (.at w.heap.size 1 0) rfl rfl rfl (by simp) (fun k hb=>RowKit.Below.heap_alloc w _ k hb) (fun b sz br e=>by cases e;rfl) (fun e=>by cases e)
  (fun hr=>⟨⟨w.heap.size,1,0,ty,vs,bR _ _ _ _,heap_alloc_new w _,hc.size,fun j c v hj hv=>hr _ _ (hc.rel j c v hj hv),hc.one⟩,fun ver hv=>by
   rw[bl (by omega)];exact wT ver⟩)
 exact⟨_,a,b,.ptr _ 0 w.heap.size 1 0 (bR _ _ _ _)⟩
theorem B6 {H:List AO} {w:World} (h:SR θ W H w) (id:Nat) (hid:H[id]?=some .iQ) (sz:Nat) (rs:List (List AV)) (vs:Array Value) (ty:TypeId) (br:Nat)
  (hs:vs.size=br*sz) (hl:rs.length<=br) (hr:∀r∈rs,r.length=sz)
  (hc:∀(i:Nat) (r:List AV) (j:Nat) (c:AV) (u:Value),rs[i]?=some r->r[j]?=some c->vs[i*sz+j]?=some u->bb θ W c u) (h1:∀(j:Nat) (u:Value),vs[j]?=some u->u.oneCell'=true):
  ∃aX,SR aX W (H.set id (.rows sz 0 rs)) (w.alloc (.cells vs ty))/\eW θ W w aX W (w.alloc (.cells vs ty))/\aX id 0=.at w.heap.size sz br:=by
 have wT:∀ver,θ id ver=.no:=h.obj id _ hid
 obtain⟨a,b⟩:=h.fill (w':=w.alloc (.cells vs ty)) id hid (.rows sz 0 rs) (.at w.heap.size sz br) rfl rfl rfl (by simp) (fun k hb=>RowKit.Below.heap_alloc w _ k hb) (fun b sz br e=>by cases e;rfl) (fun e=>by cases e)
  (fun cY=>⟨.inr ⟨w.heap.size,br,ty,vs,bR _ _ _ _,heap_alloc_new w _,hs,hl,hr,fun i r j c u hi hj hu=>cY _ _ (hc i r j c u hi hj hu),h1⟩,fun v' hv=>by
   rw[bl (by omega)];exact wT v',fun v' hv=>by omega⟩)
 exact⟨_,a,b,bR _ _ _ _⟩
theorem Hn {H:List AO} {w w0:World} (h:SR θ W H w) (id:Nat) (hid:H[id]?=some .iQ) (sz:Nat) (rs:List (List AV)) (vs:Array Value) (ty:TypeId) (br:Nat) (hw:w0.heap=w.heap) (wJ:w0.os=w.os) (BN:w0.tape=w.tape) (BO:w0.output=w.output)
  (hs:vs.size=br*sz) (hl:rs.length<=br) (hr:∀r∈rs,r.length=sz)
  (hc:∀(i:Nat) (r:List AV) (j:Nat) (c:AV) (u:Value),rs[i]?=some r->r[j]?=some c->vs[i*sz+j]?=some u->bb θ W c u) (h1:∀(j:Nat) (u:Value),vs[j]?=some u->u.oneCell'=true):
  ∃aX,SR aX W (H.set id (.rows sz 0 rs)) (w0.alloc (.cells vs ty))/\eW θ W w aX W (w0.alloc (.cells vs ty))/\aX id 0=.at w.heap.size sz br:=by
 have wT:∀ver,θ id ver=.no:=h.obj id _ hid
 obtain⟨a,b⟩:=h.fill (w':=w0.alloc (.cells vs ty)) id hid (.rows sz 0 rs) (.at w.heap.size sz br) wJ BN BO (by simp[hw]) (fun k hb=>by rw[RowKit.Below.heap_alloc w0 _ k (by rw[hw];exact hb),hw]) (fun b sz br e=>by cases e;rfl) (fun e=>by cases e)
  (fun cY=>⟨.inr ⟨w.heap.size,br,ty,vs,bR _ _ _ _,by rw[<-hw];exact heap_alloc_new w0 _,hs,hl,hr,fun i r j c u hi hj hu=>cY _ _ (hc i r j c u hi hj hu),h1⟩,fun v' hv=>by
   rw[bl (by omega)];exact wT v',fun v' hv=>by omega⟩)
 exact⟨_,a,b,bR _ _ _ _⟩
def wU (o:MO) (s:St) (ob:AO) (mk:Nat->AV):Prop :=
 match o with
 | .alloc z=>ob=.var z/\mk=fun id=>.ptr id 0
 | .box n x=>((s.get x).e8&&(s.get x).cells.length==n)=true/\ob=.var (s.get x).cells/\mk=fun id=>.ptr id 0
 | .Dz sz z n ps=>∃rs,kJ s sz ps (List.replicate n z)=some rs/\ob=.rows sz 0 rs/\mk=fun id=>.gs id 0 0 n
 | .DA sz bytes z l c=>∃n c':Int,s.get l=.p (.i .i64 n)/\s.get c=.p (.i .i64 c')/\(0<=n/\n<=c'/\c'*bytes<=140737488355328/\c'<=140737488355328)/\ob=.rows sz 0 (List.replicate n.toNat z)/\mk=fun id=>.gs id 0 0 n.toNat
 |_=>False
theorem QM {J:PK} {Hc:List AO} {m:MO} {d:MD} {s:St} (hq:kindOf m= .new) (h:ZR Hc m d J s):∃ob mk,wU m s ob mk∧J Hc (St.put ⟨s.L,s.T,s.H++[ob]⟩ d (mk (Hc.length+s.H.length))):=by
  cases m with
  |alloc z=>exact⟨_,_,⟨rfl,rfl⟩,h⟩
  |box n x=>
   change A3 Hc (if(s.get x).e8&&(s.get x).cells.length==n then some (.var (s.get x).cells)else none) (fun id=> .ptr id 0) d J s at h;split at h
   · rename_i hc;exact⟨_,_,⟨hc,rfl,rfl⟩,h⟩
   · exact h.elim
  |Dz sz z n ps=>
   change A3 Hc ((kJ s sz ps (List.replicate n z)).map fun rs=> .rows sz 0 rs) (fun id=> .gs id 0 0 n) d J s at h
   cases hr:kJ s sz ps (List.replicate n z)with
   |none =>rw[hr]at h;exact h.elim
   |some rs=>rw[hr]at h;exact⟨_,_,⟨rs,hr,rfl,rfl⟩,h⟩
  |DA sz b z l c=>
   change GX Hc sz b z (s.get l) (s.get c) d J s at h;unfold GX at h;split at h
   · rename_i n c' e1 e2
     obtain⟨h1,h2,h3,h4,h5⟩:=h;exact⟨_,_,⟨n,c',e1,e2,⟨h1,h2,h3,h4⟩,rfl,rfl⟩,h5⟩
   · exact h.elim
  |_ =>cases hq
theorem wU.agree {m:MO} {s s':St} {ob:AO} {mk:Nat→AV} (h:wU m s ob mk) (ha:Agree m.args s s'):wU m s' ob mk:=by
  cases m with
  |alloc z=>exact h
  |box n x=>
   have e:=ha x (by simp[MO.args]);simp only[wU]at h⊢;rw[←e]
   exact h
  |Dz sz z n ps=>
   obtain⟨rs,h1,h2⟩:=h
   exact⟨rs,by rw[←Agree.rows (ps:=ps) ha];exact h1,h2⟩
  |DA sz b z l c=>
   obtain⟨n,c',h1,h2,h3⟩:=h
   exact⟨n,c',by rw[←ha l (by simp[MO.args])];exact h1,by rw[←ha c (by simp[MO.args])];exact h2,h3⟩
  |_ =>exact h.elim
theorem FA {op:Op} {sz b:Nat} {mx my:MA} (hm:dH lv P op=some (.app sz b mx my)):
    ∃(c:Call) (x y:Operand) (t u e:TypeId) (i:TypeInfo) (zl:List AV) (du:TypeDesc),op= .call c∧c.callee= .builtin .append∧c.args=#[x,y]∧c.argTypes=#[t,u]∧P.underlying t=some (.slice e)∧P.underlying u=some du∧((∃e',du= .slice e')∨du= .string)∧P.info? e=some i∧
      zeroOf P e=some zl∧zl.length=i.size∧0<i.size∧bK lv x=some mx∧bK lv y=some my∧sz=i.size∧b=i.bytes:=by
  cases op with
  |call c=>
   simp only[dH]at hm;unfold om at hm;split at hm
   · split at hm
     · split at hm
       · cases hm
       · cases hm
     · cases hm
   · cases hm
   · rename_i x hc ha
     cases ht:c.argTypes[0]?with
     |none =>rw[ht]at hm;cases hm
     |some t=>
      rw[ht]at hm;simp only[Option.bind_some]at hm;split at hm<;>cases hm
   · rename_i x hc ha
     cases ht:c.argTypes[0]?with
     |none =>rw[ht]at hm;cases hm
     |some t=>
      rw[ht]at hm;simp only[Option.bind_some]at hm;split at hm<;>cases hm
   · rename_i x y hc ha
     obtain⟨x',y',hy,mP,xT⟩:=vl ha;split at hm
     case h_2=>cases hm
     case h_1 t u0 htu=>
     have eY:c.argTypes=#[t,u0]:=by apply Array.ext';simpa using htu
     split at hm
     case h_1=>cases hm
     case h_2 u hu=>
     split at hm
     case h_2=>cases hm
     case h_1 e he=>
     split at hm
     case h_2=>cases hm
     case h_1 i hi=>
     have DL:P.underlying t=some (.slice e):=by
       unfold rU at he;split at he
       · rename_i e' h';cases he;exact h'
       · cases he
     split at hm
     · rename_i z e' hz
       split at hm
       · rename_i fH
         simp only[Bool.and_eq_true,beq_iff_eq,decide_eq_true_eq]at fH;cases hm;exact⟨c,x',y',t,u0,e,i,z,_,rfl,hc,hy,eY,DL,hu, .inl ⟨e',rfl⟩,hi,hz,fH.1,fH.2,mP,xT,rfl,rfl⟩
       · cases hm
     · rename_i z hz
       split at hm
       · rename_i fH
         simp only[Bool.and_eq_true,beq_iff_eq,decide_eq_true_eq]at fH;cases hm;exact⟨c,x',y',t,u0,e,i,z,_,rfl,hc,hy,eY,DL,hu, .inr rfl,hi,hz,fH.1,fH.2,mP,xT,rfl,rfl⟩
       · cases hm
     · split at hm
       · cases hm
       · cases hm
     · cases hm
   · rename_i x y hc ha
     cases hm
   · rename_i x y hc ha
     cases hm
   · cases hm
  |slice t x lo hi mx=>
   cases mx with
   |some _ =>cases hm
   |none =>
    simp only[dH]at hm;split at hm
    · cases hm
    · obtain⟨n,_,h⟩:=aY hm;cases h
    · cases hm
  |makeFunc fn first eL=>
   cases fn with
   |func f=>
    simp only[dH]at hm;split at hm
    · obtain⟨x,_,h⟩:=aY hm;cases h
    · cases hm
   |_ =>cases hm
  |_ =>
   simp only[dH,mM,wh,DB,Option.map_eq_some_iff]at hm
   first
     |(cases hm;done)
     |(obtain⟨x,_,hm⟩:=hm;cases hm;done)
     |((repeat' split at hm)<;>first|(cases hm;done)|(simp only[Option.map_eq_some_iff,Option.bind_eq_some_iff]at hm;obtain⟨x,_,hm⟩:=hm;first|(cases hm;done)|(split at hm<;>cases hm)))
theorem xW {a:Act} {w w':World} {next:Act->World->Prop} {Q:Exit->Act->World->Prop} {s:St} {aX:Th} {H':List AO} {v:Value} {r:AV}
  (hR:Rl lv N s a w θ W) (hd:o.dst.all (decide <| ·<N)=true)
  (hk:∀a' w' aX W',Rl lv N (St.put ⟨s.L,s.T,H'⟩ (cm lv o.dst) r) a' w' aX W'->eW θ W w aX W' w'->next a' w')
  (dp:(execOp a.eval o).run P w=.ok (.value v) w') (hr:bb aX W r v) (hm:SR aX W H' w') (hs:eW θ W w aX W w'):o.wp P a w next Q:=by
 unfold Oper.wp;rw[dp];exact hk _ _ _ _ (hR.put hd hr hm hs) hs
theorem Xk {m:MO} {s:St} {ob:AO} {mk:Nat→AV} (hm:dH lv P o.op=some m) (hd:o.dst.all (decide <| · <N)=true) (hn:wU m s ob mk) {a:Act} {w:World} {next :Act→World→Prop} {Q:Exit→Act→World→Prop}
    (hR:Rl lv N s a w θ W) (id:Nat) (hid:s.H[id]?=some .iQ)
    (hk:∀a' w' aX W',Rl lv N (St.put ⟨s.L,s.T,s.H.set id ob⟩ (cm lv o.dst) (mk id)) a' w' aX W'→eW θ W w aX W' w'→next a' w'):o.wp P a w next Q:=by
  cases ho:o.op with
  |alloc t=>
   rw[ho]at hm;obtain⟨z,hz,rfl⟩:=aY hm;obtain⟨rfl,rfl⟩:=hn;obtain⟨i,zv,hi,qZ,hv⟩:=gx hz;obtain⟨h1,h2,h3⟩:=fg hv θ W;obtain⟨aX,a1,a2,a3⟩:=El hR.mem id hid z zv.cells t ⟨by simpa using h1,fun j c u hj hu=>h2 j c u hj (by simpa using hu),fun j u hu=>h3 j u (by simpa using hu)⟩;refine xW hR hd hk (v:= .pointer (some ⟨w.heap.size,0,none⟩)) ?_ a3 a1 a2
   simp[execOp,ho,Instr.alloc,zeroValue,typeInfo,hi,qZ,newVar,newRow]
  |box t x=>
   rw[ho]at hm;simp only[dH]at hm;split at hm
   case h_2=>cases hm
   case h_1 hx eN=>
   cases hm;obtain⟨hc,rfl,rfl⟩:=hn;simp only[Bool.and_eq_true]at hc;obtain⟨aX,a1,a2,a3⟩:=El hR.mem id hid _ (a.eval x).cells t (tS (hR.arg hx) hc.1);refine xW hR hd hk (v:= .pointer (some ⟨w.heap.size,0,none⟩)) ?_ a3 a1 a2
   simp[execOp,ho,Instr.box,newVar,newRow]
  |buildSlice t n ps=>
   rw[ho]at hm;simp only[dH]at hm;split at hm
   case h_2=>cases hm
   case h_1 e he=>
   have ht:P.underlying t=some (.slice e):=by
     unfold rU at he;split at he
     · rename_i e' h';cases he;exact h'
     · cases he
   split at hm
   case h_2=>cases hm
   case h_1 sz z ms eN hz wQ=>
   split at hm
   case isFalse=>cases hm
   case isTrue fH=>
   simp only[Bool.and_eq_true,beq_iff_eq,decide_eq_true_eq]at fH;obtain⟨⟨tP,h0⟩,Ax⟩:=fH;cases hm;obtain⟨rs,kK,rfl,rfl⟩:=hn;obtain⟨i,zv,hi,qZ,B2⟩:=gx hz;obtain⟨z1,z2,z3⟩:=fg B2 θ W;obtain⟨i',iR,pf⟩:=jW eN;rw[hi]at iR;cases iR;have tj:zv.cells.size=sz:=by rw[←tP,←z1];simp
   have eV:∀k,k<n*sz→(madeCells zv.cells (n*sz))[k]?=zv.cells[k % sz]?:=by
     intro k ic;have hm:k % sz<zv.cells.size:=by rw[tj];exact Nat.mod_lt _ h0
     simp[madeCells,ic,tj,hm,Nat.mod_lt _ h0]
   have Oi:B3 θ W sz (List.replicate n z) (madeCells zv.cells (n*sz)):=by
     refine⟨by rw[size_madeCells];simp,by simp;intro _;exact tP, ?_, ?_⟩
     · intro p r j q u hp hj hu
       rw[List.getElem?_replicate]at hp;split at hp
       · rename_i aF
         cases hp
         have tQ:j<z.length:=by
           rcases Nat.lt_or_ge j z.length with h'|h'
           · exact h'
           · rw[List.getElem?_eq_none h']at hj;cases hj
         have gy:p*sz+j<n*sz:=by
           have :(p+1)*sz≤n*sz:=Nat.mul_le_mul_right _ (by omega);rw[Nat.add_mul]at this;omega
         rw[eV _ gy,Nat.mul_comm,Nat.mul_add_mod,Nat.mod_eq_of_lt (by omega)]at hu;exact z2 j q u hj (by simpa using hu)
       · cases hp
     · intro j u hu
       have aF:j<n*sz:=by
         rcases Nat.lt_or_ge j (n*sz)with h'|h'
         · exact h'
         · rw[Array.getElem?_eq_none (by rw[size_madeCells];exact h')]at hu;cases hu
       rw[eV _ aF]at hu;exact z3 _ u (by simpa using hu)
   obtain⟨qO,f1,f2,f3⟩:=B4 hR ps.toList ms _ rs _ wQ kK Oi;have qL:rs.length=n:=by rw[f3];simp
   obtain⟨aX,a1,a2,a3⟩:=B6 hR.mem id hid sz rs qO e n (by rw[f2.size,qL]) (by omega) f2.len f2.rel f2.one;have ah:n≤n*sz:=Nat.le_mul_of_pos_right n h0;refine xW hR hd hk (v:= .slice (some ⟨w.heap.size,0,none⟩) n n) ?_ (.gs _ 0 0 n w.heap.size sz n 0 n a3 (Nat.le_refl _) (by unfold ia;omega) (by omega) (fun _ =>by simp) (fun _ =>rfl)) a1 a2;have xS:¬16777216<n*i.size:=by rw[pf];omega
   have e2:Array.map (fun x=>zv.cells[x % zv.cells.size]!) (Array.range (n*sz))=madeCells zv.cells (n*sz):=rfl;have Hf:Instr.fill (fun i=>some (i*sz,sz)) (madeCells zv.cells (n*sz)) (List.map (fun x=>(x.1,a.eval x.2)) ps.toList)=some qO:=by simpa using f1
   by_cases G6:n=0
   · subst G6
     have e3:Array.map (fun _ =>(default :Value)) (Array.range 0)=madeCells zv.cells (0*sz):=by
       apply Array.ext';simp[madeCells]
     simp[execOp,ho,Instr.buildSlice,run_underlying ht,sizeOf,typeInfo,hi,newRow];rw[pf,e3,Hf]
     rfl
   · have cK:¬n*i.size=0:=by rw[pf];exact fun e=>by rcases Nat.mul_eq_zero.1 e with e|e<;>omega
     simp[execOp,ho,Instr.buildSlice,run_underlying ht,sizeOf,typeInfo,zeroValue,hi,qZ,xS,newRow,G6];rw[if_neg (by omega)];rw[pf,e2,Hf]
     rfl
  |makeSlice t l c=>
   rw[ho]at hm;simp only[dH]at hm;split at hm
   case h_2=>cases hm
   case h_1 e ml mc he hl hc=>
   have ht:P.underlying t=some (.slice e):=by
     unfold rU at he;split at he
     · rename_i e' h';cases he;exact h'
     · cases he
   split at hm
   case h_2=>cases hm
   case h_1 i z hi hz=>
   split at hm
   case isFalse=>cases hm
   case isTrue fH=>
   simp only[Bool.and_eq_true,beq_iff_eq,decide_eq_true_eq]at fH;obtain⟨tP,h0⟩:=fH;cases hm;obtain⟨n,c',e1,e2,⟨hn,vP,hb,afU⟩,rfl,rfl⟩:=hn;have h1:=hR.arg hl;have h2:=hR.arg hc;rw[e1]at h1;rw[e2]at h2;have e3:=h1.fh;have e4:=h2.fh;obtain⟨i',zv,iR,qZ,hv⟩:=gx hz;rw[hi]at iR;cases iR;obtain⟨z1,z2,z3⟩:=fg hv θ W;have dp:=run_make (P:=P) w t e i zv ht hi qZ .i64 .i64 n c' hn vP (by rw[Int.mul_comm];omega) (by omega);have tj:zv.cells.size=i.size:=by rw[←tP,←z1];simp
   have eV:∀k,k<c'.toNat*i.size→(madeCells zv.cells (c'.toNat*i.size))[k]?=zv.cells[k % i.size]?:=by
     intro k ic;have hm:k % i.size<zv.cells.size:=by rw[tj];exact Nat.mod_lt _ h0
     simp[madeCells,ic,tj,hm,Nat.mod_lt _ h0]
   obtain⟨aX,a1,a2,a3⟩:=B6 hR.mem id hid i.size (List.replicate n.toNat z) (madeCells zv.cells (c'.toNat*i.size)) e c'.toNat (size_madeCells _ _) (by simp;omega) (by simp;intro _;exact tP)
     (fun p r j q u hp hj hu=>by
       rw[List.getElem?_replicate]at hp;split at hp
       · rename_i aF
         cases hp
         have tQ:j<z.length:=by
           rcases Nat.lt_or_ge j z.length with h'|h'
           · exact h'
           · rw[List.getElem?_eq_none h']at hj;cases hj
         have gy:p*i.size+j<c'.toNat*i.size:=by
           have :(p+1)*i.size≤c'.toNat*i.size:=Nat.mul_le_mul_right _ (by omega);rw[Nat.add_mul]at this;omega
         rw[eV _ gy,Nat.mul_comm,Nat.mul_add_mod,Nat.mod_eq_of_lt (by omega)]at hu;exact z2 j q u hj (by simpa using hu)
       · cases hp)
     (fun j u hu=>by
       have aF:j<c'.toNat*i.size:=by
         rcases Nat.lt_or_ge j (c'.toNat*i.size)with h'|h'
         · exact h'
         · rw[Array.getElem?_eq_none (by rw[size_madeCells];exact h')]at hu;cases hu
       rw[eV _ aF]at hu;exact z3 _ u (by simpa using hu))
   refine xW hR hd hk (v:= .slice (some ⟨w.heap.size,0,none⟩) n.toNat c'.toNat) ?_ (.gs _ 0 0 n.toNat w.heap.size i.size c'.toNat 0 c'.toNat a3 (by omega) (by unfold ia;omega) (by omega) (fun _ =>by simp) (fun _ =>rfl)) a1 a2
   simp[execOp,ho,e3,e4,dp]
  |makeFunc fn first eL=>
   rw[ho]at hm
   cases fn with
   |func f=>
    simp only[dH]at hm;split at hm
    · obtain⟨x,_,rfl⟩:=aY hm;exact hn.elim
    · cases hm
   |_ =>cases hm
  |slice t x lo hi mx=>
   rw[ho]at hm
   cases mx with
   |some _ =>cases hm
   |none =>
    simp only[dH]at hm;split at hm
    · cases hm;exact hn.elim
    · obtain⟨n,_,rfl⟩:=aY hm;exact hn.elim
    · cases hm
  |call c=>
   rw[ho]at hm;simp only[dH,om]at hm
   (repeat' split at hm)<;>first|(cases hm;done)|(cases hm;exact hn.elim)
  |_ =>
   rw[ho]at hm;simp only[dH,mM,wh,DB,Option.map_eq_some_iff]at hm
   first
     |(cases hm;done)
     |(obtain⟨x,_,rfl⟩:=hm;exact hn.elim)
     |((repeat' split at hm)<;>first|(cases hm;done)|(cases hm;exact hn.elim)|(simp only[Option.map_eq_some_iff,Option.bind_eq_some_iff]at hm;obtain⟨x,_,hm⟩:=hm;first|(cases hm;exact hn.elim)|(split at hm<;>cases hm<;>exact hn.elim)))
     |skip
theorem Ho {sz b:Nat} {mx my:MA} {s:St} (hm:dH lv P o.op=some (.app sz b mx my)) (hd:o.dst.all (decide <| ·<N)=true) {a:Act} {w:World} {next:Act->World->Prop} {Q:Exit->Act->World->Prop}
  (hR:Rl lv N s a w θ W) (hx0:s.get mx=.p .nl) {ys:List (List AV)} (ie:dj s.H sz (s.get my)=some ys) (r7:∀r∈ys,r.length=sz) (cK:ys≠[]) (hb:ys.length*b<=140737488355328) (xQ:ys.length<=140737488355328)
  (id:Nat) (hid:s.H[id]?=some .iQ)
  (hk:∀a' w' aX W',Rl lv N (St.put ⟨s.L,s.T,s.H.set id (.rows sz 0 ys)⟩ (cm lv o.dst) (.gs id 0 0 ys.length)) a' w' aX W'->eW θ W w aX W' w'->next a' w'):o.wp P a w next Q:=by
 obtain⟨c,x,y,t,u,e,i,zl,du,ho,hc,da,eY,ht,hu,zt,hi,hz,tP,h0,hx,hy,rfl,rfl⟩:=FA hm;have h1:=hR.arg hx;have h2:=hR.arg hy;have dp:=tR (P:=P) ho hc da eY a w;obtain⟨i',zv,iR,qZ,hv⟩:=gx hz;rw[hi]at iR;cases iR;obtain⟨z1,z2,z3⟩:=fg hv θ W;have tj:zv.cells.size=i.size:=by rw[<-tP,<-z1];simp
 have Jx:∀(j:Nat) (u:Value),zv.cells[j]?=some u->u.oneCell'=true:=fun j u hj=>z3 j u (by simpa using hj)
 obtain⟨news,s1,s2,s3,s4,s5⟩:=Fv (P:=P) hR.mem h0 h2 ie r7;have hm:ys.length≠0:=fun e=>cK (List.eq_nil_of_length_eq_zero e)
 rw[hx0]at h1;generalize Of:a.eval x=v at h1 dp;cases h1.gE;have oO:=qN (P:=P) (ty:=o.type) ht hu zt hi qZ (w:=w) (base:=none) (n:=0) (cap:=0) (olds:=[]) s2 s3 (fun w' _=>rfl) (by omega) (by omega) (by rw[Nat.zero_add];exact hb);rw[oO]at dp;have ir:=grownCap_ge w (0+ys.length) 0 e
 obtain⟨aX,a1,a2,a3⟩:=Hn (w0:=w.drew) hR.mem id hid i.size ys _ e (grownCap w (0+ys.length) 0 e) rfl rfl rfl rfl (wO (n:=0) (m:=ys.length) (olds:=[]) tj (by simp) s1 ir) (by omega) r7
  (fun p r j q u hp hj jd=>rZ (θ:=θ) (W:=W) (rs:=[]) (olds:=[]) (n:=0) (zs:=Builtin.zeroCells zv.cells (grownCap w (0+ys.length) 0 e-(0+ys.length))) h0 (by simp) (by simp) s1 rfl (by simp) r7 (fun i r j c u aF=>by omega) s5 p r j q u (by simpa using hp) hj (by rw[<-MW];exact jd))
  (zu (olds:=[]) (by omega) (by simp) s4 Jx)
 refine xW hR hd hk dp ?_ a1 a2;rw[Nat.zero_add]at ir a3⊢;exact .gs _ 0 0 _ w.heap.size i.size _ 0 _ a3 ir (by unfold ia;omega) (by omega) (fun _=>by simp) (fun _=>rfl)
end Go.AM
