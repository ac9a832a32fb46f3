/- The operations, at their end: appends, structs and slices that are written out, bytes to a string. -/
import Derived.Test.YtjkbbnfdbfcebaaGreatDoorAm12
set_option linter.all false
namespace Go.AM
variable {lv:List Nat} {P:Program} {N:Nat} {o:Oper} {st:St} {K:St->Prop} {θ:Th} {W:Im}
theorem oZ {z:Array Value} {n j:Nat} {u:Value} (h0:0<z.size) (h:(Builtin.zeroCells z n)[j]?=some u):∃k:Nat,z[k]?=some u:=by
 have aj:j<n*z.size:=by
  rcases Nat.lt_or_ge j (n*z.size)with h'|h'
  ·exact h'
  ·rw[Array.getElem?_eq_none (by rw[size_zeroCells];exact h')]at h;cases h
 have hm:=Nat.mod_lt j h0;refine⟨j % z.size,?_⟩;simp[Builtin.zeroCells,aj,hm]at h;simp[hm,h]
theorem rK {sz n m:Nat} {rs ys:List (List AV)} {olds news:List Value} {zs:Array Value} (cL:0<sz) (hn:n<=rs.length) (ho:olds.length=n*sz) (hl:news.length=m*sz) (hm:ys.length=m)
  (hr:∀r∈rs,r.length=sz) (hy:∀r∈ys,r.length=sz)
  (h1:∀(i:Nat) (r:List AV) (j:Nat) (c:AV) (u:Value),i<n->rs[i]?=some r->r[j]?=some c->olds[i*sz+j]?=some u->bc θ W c u)
  (h2:∀(i:Nat) (r:List AV) (j:Nat) (c:AV) (u:Value),ys[i]?=some r->r[j]?=some c->news[i*sz+j]?=some u->bc θ W c u):
  ∀(i:Nat) (r:List AV) (j:Nat) (c:AV) (u:Value),(rs.take n++ys)[i]?=some r->r[j]?=some c->(olds++news++zs.toList)[i*sz+j]?=some u->bc θ W c u:=by
 intro i r j c u hi hj hu;have E3:(rs.take n).length=n:=by simp;omega
 rcases Nat.lt_or_ge i n with aj|gH
 ·rw[List.getElem?_append_left (by omega),List.getElem?_take,if_pos aj]at hi
  have n9:r.length=sz:=hr r (List.mem_of_getElem? hi)
  have me:j<r.length:=by
   rcases Nat.lt_or_ge j r.length with h'|h'
   ·exact h'
   ·rw[List.getElem?_eq_none h']at hj;cases hj
  have:(i+1)*sz<=n*sz:=Nat.mul_le_mul_right _ aj;rw[Nat.add_mul]at this;rw[List.append_assoc,List.getElem?_append_left (by omega)]at hu;exact h1 i r j c u aj hi hj hu
 ·rw[List.getElem?_append_right (by omega),E3]at hi
  have n9:r.length=sz:=hy r (List.mem_of_getElem? hi)
  have me:j<r.length:=by
   rcases Nat.lt_or_ge j r.length with h'|h'
   ·exact h'
   ·rw[List.getElem?_eq_none h']at hj;cases hj
  have Nh:i-n<ys.length:=by
   rcases Nat.lt_or_ge (i-n) ys.length with h'|h'
   ·exact h'
   ·rw[List.getElem?_eq_none h']at hi;cases hi
  have e1:i*sz=n*sz+(i-n)*sz:=by rw[<-Nat.add_mul];congr 1;omega
  have e2:(i-n+1)*sz<=m*sz:=Nat.mul_le_mul_right _ (by omega);rw[Nat.add_mul]at e2;rw[List.append_assoc,List.getElem?_append_right (by omega),List.getElem?_append_left (by omega)]at hu;rw[show i*sz+j-olds.length=(i-n)*sz+j by omega]at hu;exact h2 (i-n) r j c u hi hj hu
theorem Mm (a b:List Value) (z:Array Value) (j:Nat):(a.toArray++b.toArray++z)[j]?=(a++b++z.toList)[j]?:=by
 rw[<-Array.getElem?_toList];simp
theorem yU {z:Array Value} {k:Nat} {olds news:List Value} (h0:0<z.size) (h1:∀u∈olds,u.oneCell'=true) (h2:∀u∈news,u.oneCell'=true) (h3:∀(j:Nat) (u:Value),z[j]?=some u->u.oneCell'=true):
  ∀(j:Nat) (u:Value),(olds.toArray++news.toArray++Builtin.zeroCells z k)[j]?=some u->u.oneCell'=true:=by
 intro j u hu;have je:(olds++news++(Builtin.zeroCells z k).toList)[j]?=some u:=by rw[<-Mm];exact hu
 have BM:=List.mem_of_getElem? je;simp only[List.mem_append]at BM;rcases BM with(h|h)|h
 ·exact h1 u h
 ·exact h2 u h
 ·obtain⟨j',tF⟩:=List.getElem?_of_mem h
  obtain⟨k',ia⟩:=oZ h0 (by simpa using tF);exact h3 k' u ia
theorem wj {z:Array Value} {sz n m nc:Nat} {olds news:List Value} (hz:z.size=sz) (ho:olds.length=n*sz) (hl:news.length=m*sz) (hc:n+m<=nc):
  (olds.toArray++news.toArray++Builtin.zeroCells z (nc-(n+m))).size=nc*sz:=by
 simp only[Array.size_append,List.size_toArray,size_zeroCells,hz,ho,hl,<-Nat.add_mul];congr 1;omega
theorem tG {c:Call} {x y:Operand} {t u:TypeId} (ho:o.op=.call c) (hc:c.callee=.builtin .append) (df:c.args=#[x,y]) (e8:c.argTypes=#[t,u]) (a:Act) (w:World):
  (execOp a.eval o).run P w=((Builtin.append_ #[t,u] o.type #[a.eval x,a.eval y]).run P w).andThen fun v w=>.ok (.value v) w:=by
 simp[execOp,ho,resolve,hc,df,e8,invoke,builtin]
theorem Mn {c:Call} {x y:Operand} {t u e:TypeId} {i:TypeInfo} {zl:List AV} {du:TypeDesc} {mx my:MA} (ho:o.op= .call c) (hc:c.callee= .builtin .append) (df:c.args=#[x,y]) (e8:c.argTypes=#[t,u])
    (ht:P.underlying t=some (.slice e)) (hu:P.underlying u=some du) (yT:(∃e',du= .slice e')∨du= .string) (hi:P.info? e=some i) (hz:zeroOf P e=some zl) (tE:zl.length=i.size) (h0:0<i.size)
    (hx:bQ lv x=some mx) (hy:bQ lv y=some my)
    (hd:o.dst.all (decide <| · <N)=true) (h:DN i.size i.bytes (st.get mx) (st.get my) (cB lv o.dst) K st):fx lv P N o st K:=by
  intro a w θ W next Q hR hk
  have h1:=hR.arg hx;have h2:=hR.arg hy;have dz:=tG (P:=P) ho hc df e8 a w;obtain⟨i',zv,iQ,qQ,hv⟩:=gC hz;rw[hi]at iQ;cases iQ;obtain⟨z1,z2,z3⟩:=fe hv θ W;have sO:zv.cells.size=i.size:=by rw[←tE,←z1];simp
  have IZ:∀(j:Nat) (u:Value),zv.cells[j]?=some u→u.oneCell'=true :=fun j u hj=>z3 j u (by simpa using hj)
  unfold DN Ad at h;split at h
  case h_2=>exact h.elim
  case h_1 ys gI=>
  obtain⟨rL,h⟩:=h;obtain⟨news,s1,s2,s3,s4,s5⟩:=E1 (P:=P) hR.mem h0 h2 gI rL;unfold mu at h;split at h
  case h_3=>exact h.elim
  case h_1 e1=>
    obtain⟨hb,xy,hK⟩:=h;rw[e1]at h1;generalize Ni:a.eval x=v at h1 dz;cases h1.fC;by_cases hm:ys.length=0
    · have Pw:ys=[]:=List.eq_nil_of_length_eq_zero hm
      subst Pw;have oB:=vO (P:=P) (ty:=o.type) ht hu yT hi (w:=w) (news:=news) s2 s3;rw[oB]at dz
      obtain⟨a1,a2⟩:=hR.mem.push (w':=w) (.rows i.size 0 []) .nil rfl rfl rfl (Nat.le_refl _) (fun _ _ =>rfl) (fun b sz tot e=>by cases e) (fun e=>by cases e)
        (fun _ =>⟨.inl ⟨bU _ _ _ _,rfl⟩,fun v' yV=>by rw[bx (by omega)];exact hR.mem.out _ _ (Nat.le_refl _),fun v' yV=>by omega⟩)
      exact gL hR hd hk dz (.fN _ 0 (bU _ _ _ _)) a1 a2 hK
    · have oB:=qB (P:=P) (ty:=o.type) ht hu yT hi qQ (w:=w) (base:=none) (n:=0) (cap:=0) (olds:=[]) s2 s3 (fun w' _ =>rfl) (by omega) (by omega) (by rw[Nat.zero_add];exact hb)
      rw[oB]at dz;have gH:=grownCap_ge w (0+ys.length) 0 e
      obtain⟨bd,a1,a2,a3⟩:=xw (w0:=w.drew) hR.mem i.size ys _ e (grownCap w (0+ys.length) 0 e) rfl rfl rfl rfl (wj (n:=0) (m:=ys.length) (olds:=[]) sO (by simp) s1 gH) (by omega) rL
        (fun p r j q u hp hj je=>rK (θ:=θ) (W:=W) (rs:=[]) (olds:=[]) (n:=0) (zs:=Builtin.zeroCells zv.cells (grownCap w (0+ys.length) 0 e-(0+ys.length))) h0 (by simp) (by simp) s1 rfl (by simp) rL (fun i r j c u aj=>by omega) s5 p r j q u (by simpa using hp) hj (by rw[←Mm];exact je))
        (yU (olds:=[]) (by omega) (by simp) s4 IZ)
      refine gL hR hd hk dz ?_ a1 a2 hK;rw[Nat.zero_add]at gH a3⊢;exact .gs _ 0 0 _ w.heap.size i.size _ 0 _ a3 gH (by unfold fb;omega) (by omega) (fun _ =>by simp) (fun _ =>rfl)
  case h_2 id ver off n e1=>
    unfold Ac at h;split at h
    case h_2=>exact h.elim
    case h_1 cP cA rs hid=>
    obtain⟨rfl,rfl,rfl,hnr,hb,xy,hK⟩:=h;rw[e1]at h1;generalize Ni:a.eval x=v at h1 dz
    have xv:id<st.H.length:=by
      rcases Nat.lt_or_ge id st.H.length with h'|h'
      · exact h'
      · rw[List.getElem?_eq_none h']at hid;cases hid
    obtain⟨q1,q2,q3⟩:=hR.mem.obj id _ hid
    have grown:∀(base:Option Addr) (cap:Nat) (olds:List Value),v= .slice base n cap→θ id cA≠ .no→(∀k sz tot,θ id cA= .at k sz tot→True)→olds.length=n*i.size→(∀u∈olds,u.oneCell'=true)→(∀r∈rs,r.length=i.size)→
        (∀w':World,w'.heap=w.heap→(Builtin.firstCells i.size n (.slice base n cap)).run P w'= .ok olds.toArray w')→
        (∀(p:Nat) (r:List AV) (j:Nat) (q:AV) (u:Value),p<n→rs[p]?=some r→r[j]?=some q→olds[p*i.size+j]?=some u→bc θ W q u)→cap<n+ys.length→o.wp P a w next Q:=by
      intro base cap olds hvv lb _ W3 I0 n9 hold hor cJ;have oB:=qB (P:=P) (ty:=o.type) ht hu yT hi qQ (w:=w) (base:=base) (n:=n) (cap:=cap) (olds:=olds) s2 s3 hold cJ xy hb;rw[hvv,oB]at dz;have gH:=grownCap_ge w (n+ys.length) cap e
      obtain⟨a1,a2⟩:=hR.mem.grow (w':=w.drew.alloc (.cells (olds.toArray++news.toArray++Builtin.zeroCells zv.cells (grownCap w (n+ys.length) cap e-(n+ys.length))) e)) id cA (.rows i.size (cA+1) (rs.take n++ys)) (.at w.heap.size i.size (grownCap w (n+ys.length) cap e)) xv lb (q2 _ (by omega)) rfl rfl rfl (by simp)
        (fun k ia _ =>RowKit.Below.heap_alloc w.drew _ k ia) (fun b sz tot e'=>by cases e';exact .inr rfl)
        (fun cR=>⟨.inr ⟨w.heap.size,_,e,_,bU _ _ _ _,heap_alloc_new w.drew _,wj sO W3 s1 gH,by simp;omega,fun r hr=>by
            rcases List.mem_append.1 hr with hr|hr
            · exact n9 r (List.mem_of_mem_take hr)
            · exact rL r hr,
          fun p r j q u hp hj je=>cR _ _ (rK (θ:=θ) (W:=W) (zs:=Builtin.zeroCells zv.cells (grownCap w (n+ys.length) cap e-(n+ys.length))) h0 hnr W3 s1 rfl n9 rL hor s5 p r j q u hp hj (by rw[←Mm];exact je)),
          yU (by omega) I0 s4 IZ⟩,fun v' yV=>by rw[bx (by omega),bx (by omega)];exact q2 v' (by omega),fun v' yV=>by
            rw[bx (by omega)];by_cases ev:v'=cA
            · subst ev;exact bU _ _ _ _
            · rw[bx (by omega)];exact q3 v' (by omega)⟩)
      exact gL hR hd hk dz (.gs id _ 0 _ w.heap.size i.size _ 0 _ (bU _ _ _ _) gH (by unfold fb;omega) (by omega) (fun _ =>by simp) (fun _ =>rfl)) a1 a2 hK
    cases h1 with
    |ea _ _ _ _ ad cap wh=>rcases q1 with⟨q1,_⟩|⟨b,tot,ty,vs,q1,_⟩<;>(rw[wh]at q1;cases q1)
    |fN _ _ hn=>
     rcases q1 with⟨_,rfl⟩|⟨b,tot,ty,vs,q1,_⟩
     · by_cases hm:ys.length=0
       · have Pw:ys=[]:=List.eq_nil_of_length_eq_zero hm
         subst Pw;have oB:=vO (P:=P) (ty:=o.type) ht hu yT hi (w:=w) (news:=news) s2 s3;rw[oB]at dz
         obtain⟨a1,a2⟩:=hR.mem.grow (w':=w) id cA (.rows i.size (cA+1) (List.take 0 []++[])) .nil xv (by rw[hn];exact fun e'=>by cases e') (q2 _ (by omega)) rfl rfl rfl (Nat.le_refl _) (fun _ _ _ =>rfl) (fun b sz tot e'=>by cases e')
           (fun _ =>⟨.inl ⟨bU _ _ _ _,rfl⟩,fun v' yV=>by rw[bx (by omega),bx (by omega)];exact q2 v' (by omega),fun v' yV=>by
             rw[bx (by omega)];by_cases ev:v'=cA
             · subst ev;exact bU _ _ _ _
             · rw[bx (by omega)];exact q3 v' (by omega)⟩)
         exact gL hR hd hk dz (.fN _ _ (bU _ _ _ _)) a1 a2 hK
       · exact grown none 0 [] rfl (by rw[hn];exact fun e'=>by cases e') (fun _ _ _ _ =>trivial) (by simp) (by simp) (by simp) (fun w' _ =>rfl) (fun p r j q u hp=>by omega) (by omega)
     · rw[hn]at q1;cases q1
    |gs _ _ _ _ b sz tot o' cap nx vx Df BH mG yR=>
     rcases q1 with⟨q1,_⟩|⟨b',fc,ty,vs,q1,g1,g2,g3,g4,g5,g6⟩
     · rw[nx]at q1;cases q1
     rw[nx]at q1;cases q1;have e0:o'=0:=yR rfl;subst e0;have hct:cap=tot:=by omega
     subst hct;by_cases BL:n+ys.length≤cap
     · have eX:n*i.size+news.length≤vs.size:=by rw[s1,g2,←Nat.add_mul];exact Nat.mul_le_mul_right _ BL
       have oB:=Di (P:=P) (ty:=o.type) ht hu yT hi (w:=w) (n:=n) (cap:=cap) g1 s1 s2 s3 s4 BL eX;rw[oB]at dz;have ac8:n*i.size+news.length≤vs.toList.length:=by simpa using eX
       obtain⟨a1,a2⟩:=hR.mem.grow (w':=w.setRow b (vs.toList.take (n*i.size)++news++vs.toList.drop (n*i.size+news.length)).toArray) id cA (.rows i.size (cA+1) (rs.take n++ys)) (.at b i.size cap) xv (by rw[nx];exact fun e'=>by cases e') (q2 _ (by omega)) rfl rfl rfl (Nat.le_of_eq (qA _ _ _).symm)
         (fun k ia cX=>setRow_other _ _ _ _ (fun e'=>cX _ _ (e'▸nx))) (fun b' cP fc e'=>by cases e';exact .inl ⟨_,_,nx⟩)
         (fun cR=>⟨.inr ⟨b,cap,ty,_,bU _ _ _ _,setRow_heap w b vs _ ty _ g1,by simp;omega,by simp;omega,fun r hr=>by
             rcases List.mem_append.1 hr with hr|hr
             · exact g4 r (List.mem_of_mem_take hr)
             · exact rL r hr,
           fun p r j q u hp hj je=>cR _ _ (by
             have W3:(vs.toList.take (n*i.size)).length=n*i.size:=by simp;omega
             refine rK (θ:=θ) (W:=W) (zs:=(vs.toList.drop (n*i.size+news.length)).toArray) h0 hnr W3 s1 rfl g4 rL ?_ s5 p r j q u hp hj (by simpa using je);intro p' r' j' c' u' aj oV tF Px;rw[List.getElem?_take]at Px;split at Px
             · exact g5 p' r' j' c' u' oV tF (by simpa using Px)
             · cases Px),
           fun j u je=>by
             have DU:(vs.toList.take (n*i.size)++news++vs.toList.drop (n*i.size+news.length))[j]?=some u:=by simpa using je
             rw[fQ _ _ _ _ ac8]at DU;split at DU
             · exact g6 j u (by simpa using DU)
             · split at DU
               · exact s4 u (List.mem_of_getElem? DU)
               · exact g6 j u (by simpa using DU)⟩,fun v' yV=>by rw[bx (by omega),bx (by omega)];exact q2 v' (by omega),fun v' yV=>by
             rw[bx (by omega)];by_cases ev:v'=cA
             · subst ev;exact bU _ _ _ _
             · rw[bx (by omega)];exact q3 v' (by omega)⟩)
       exact gL hR hd hk dz (.gs id _ 0 _ b i.size cap 0 _ (bU _ _ _ _) BL (by unfold fb;omega) (by omega) (fun _ =>by simp) (fun _ =>rfl)) a1 a2 hK
     · refine grown (some ⟨b,0,none⟩) cap (vs.toList.take (n*i.size)) rfl (by rw[nx];exact fun e'=>by cases e') (fun _ _ _ _ =>trivial) ?_ ?_ g4 ?_ ?_ (by omega)
       · have :n*i.size≤cap*i.size:=Nat.mul_le_mul_right _ (by omega)
         simp;omega
       · intro u je
         obtain⟨j,hj⟩:=List.getElem?_of_mem (List.mem_of_mem_take je);exact g6 j u (by simpa using hj)
       · intro w' hw'
         refine run_firstCells_some (P:=P) w' i.size n _ n cap _ ?_ ?_
         · have :n*i.size≤cap*i.size:=Nat.mul_le_mul_right _ (by omega)
           simp;omega
         · intro j v hj
           rw[BK hw',Addr.add_lit];rw[List.getElem?_take]at hj;split at hj
           · simpa[World.cell?,g1]using hj
           · cases hj
       · intro p r j q u aj hp hj je
         rw[List.getElem?_take]at je;split at je
         · exact g5 p r j q u hp hj (by simpa using je)
         · cases je
theorem Py {c:Call} {x y:Operand} {t u e:TypeId} {i:TypeInfo} {zl:List AV} {mx my:MA} (ho:o.op=.call c) (hc:c.callee=.builtin .append) (df:c.args=#[x,y]) (e8:c.argTypes=#[t,u])
  (ht:P.underlying t=some (.slice e)) (hu:P.underlying u=some (.int .i64)) (hi:P.info? e=some i) (hz:zeroOf P e=some zl) (tE:zl.length=i.size) (h0:0<i.size)
  (hx:bQ lv x=some mx) (hy:bQ lv y=some my)
  (hd:o.dst.all (decide <| ·<N)=true) (h:Bn i.size i.bytes (st.get mx) (st.get my) (cB lv o.dst) K st):fx lv P N o st K:=by
 intro a w θ W next Q hR hk
 have h1:=hR.arg hx;have h2:=hR.arg hy;have dz:=tG (P:=P) ho hc df e8 a w;obtain⟨i',zv,iQ,qQ,hv⟩:=gC hz;rw[hi]at iQ;cases iQ;obtain⟨z1,z2,z3⟩:=fe hv θ W;have sO:zv.cells.size=i.size:=by rw[<-tE,<-z1];simp
 have IZ:∀(j:Nat) (u:Value),zv.cells[j]?=some u->u.oneCell'=true:=fun j u hj=>z3 j u (by simpa using hj)
 unfold Bn at h;split at h
 case h_2=>exact h.elim
 case h_1 k e1 e2=>
 obtain⟨hk0,hb,h63,hK⟩:=h;rw[e1]at h1;rw[e2]at h2;have e4:=h2.ff;generalize Ni:a.eval x=v at h1 dz;cases h1.fC;rw[e4,Dj (P:=P) (ty:=o.type) ht hu hi qQ h0 hk0 h63 hb]at dz;have gH:=grownCap_ge w k.toNat 0 e
 have gQ:∀(j:Nat) (u:Value),(Builtin.zeroCells zv.cells k.toNat++Builtin.zeroCells zv.cells (grownCap w k.toNat 0 e-k.toNat))[j]?=some u->u.oneCell'=true:=by
  intro j u hu;rw[Array.getElem?_append]at hu;split at hu
  ·obtain⟨k,hk⟩:=oZ (by omega) hu;exact IZ _ _ hk
  ·obtain⟨k,hk⟩:=oZ (by omega) hu;exact IZ _ _ hk
 have cL:(Builtin.zeroCells zv.cells k.toNat++Builtin.zeroCells zv.cells (grownCap w k.toNat 0 e-k.toNat)).size=grownCap w k.toNat 0 e*i.size:=by
  simp only[Array.size_append,Builtin.zeroCells,Array.size_map,Array.size_range,sO];rw[<-Nat.add_mul];congr 1;omega
 obtain⟨bd,a1,a2,a3⟩:=xw (w0:=w.drew) hR.mem i.size [] _ e (grownCap w k.toNat 0 e) rfl rfl rfl rfl cL (by simp) (by simp) (fun p r j q u hp=>by simp at hp) gQ;exact gL hR hd hk dz (.gs _ 0 0 _ w.heap.size i.size _ 0 _ a3 gH (by unfold fb;omega) (by omega) (fun _=>by simp) (fun _=>rfl)) a1 a2 hK
end Go.AM
