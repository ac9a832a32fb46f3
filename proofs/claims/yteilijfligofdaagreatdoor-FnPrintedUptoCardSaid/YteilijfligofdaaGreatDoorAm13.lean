/- The operations, at their end: appends, structs and slices that are written out, bytes to a string. -/
import Derived.Test.YteilijfligofdaaGreatDoorAm12
set_option linter.all false
namespace Go.AM
variable {lv:List Nat} {P:Program} {N:Nat} {o:Oper} {st:St} {K:St->Prop} {θ:Th} {W:Im}
theorem ph {z:Array Value} {n j:Nat} {u:Value} (h0:0<z.size) (h:(Builtin.zeroCells z n)[j]?=some u):∃k:Nat,z[k]?=some u:=by
 have aF:j<n*z.size:=by
  rcases Nat.lt_or_ge j (n*z.size)with h'|h'
  ·exact h'
  ·rw[Array.getElem?_eq_none (by rw[size_zeroCells];exact h')]at h;cases h
 have hm:=Nat.mod_lt j h0;refine⟨j % z.size,?_⟩;simp[Builtin.zeroCells,aF,hm]at h;simp[hm,h]
theorem rZ {sz n m:Nat} {rs ys:List (List AV)} {olds news:List Value} {zs:Array Value} (eN:0<sz) (hn:n<=rs.length) (ho:olds.length=n*sz) (hl:news.length=m*sz) (hm:ys.length=m)
  (hr:∀r∈rs,r.length=sz) (hy:∀r∈ys,r.length=sz)
  (h1:∀(i:Nat) (r:List AV) (j:Nat) (c:AV) (u:Value),i<n->rs[i]?=some r->r[j]?=some c->olds[i*sz+j]?=some u->bb θ W c u)
  (h2:∀(i:Nat) (r:List AV) (j:Nat) (c:AV) (u:Value),ys[i]?=some r->r[j]?=some c->news[i*sz+j]?=some u->bb θ W c u):
  ∀(i:Nat) (r:List AV) (j:Nat) (c:AV) (u:Value),(rs.take n++ys)[i]?=some r->r[j]?=some c->(olds++news++zs.toList)[i*sz+j]?=some u->bb θ W c u:=by
 intro i r j c u hi hj hu;have Fx:(rs.take n).length=n:=by simp;omega
 rcases Nat.lt_or_ge i n with aF|ir
 ·rw[List.getElem?_append_left (by omega),List.getElem?_take,if_pos aF]at hi
  have qL:r.length=sz:=hr r (List.mem_of_getElem? hi)
  have jE:j<r.length:=by
   rcases Nat.lt_or_ge j r.length with h'|h'
   ·exact h'
   ·rw[List.getElem?_eq_none h']at hj;cases hj
  have:(i+1)*sz<=n*sz:=Nat.mul_le_mul_right _ aF;rw[Nat.add_mul]at this;rw[List.append_assoc,List.getElem?_append_left (by omega)]at hu;exact h1 i r j c u aF hi hj hu
 ·rw[List.getElem?_append_right (by omega),Fx]at hi
  have qL:r.length=sz:=hy r (List.mem_of_getElem? hi)
  have jE:j<r.length:=by
   rcases Nat.lt_or_ge j r.length with h'|h'
   ·exact h'
   ·rw[List.getElem?_eq_none h']at hj;cases hj
  have Oe:i-n<ys.length:=by
   rcases Nat.lt_or_ge (i-n) ys.length with h'|h'
   ·exact h'
   ·rw[List.getElem?_eq_none h']at hi;cases hi
  have e1:i*sz=n*sz+(i-n)*sz:=by rw[<-Nat.add_mul];congr 1;omega
  have e2:(i-n+1)*sz<=m*sz:=Nat.mul_le_mul_right _ (by omega);rw[Nat.add_mul]at e2;rw[List.append_assoc,List.getElem?_append_right (by omega),List.getElem?_append_left (by omega)]at hu;rw[show i*sz+j-olds.length=(i-n)*sz+j by omega]at hu;exact h2 (i-n) r j c u hi hj hu
theorem MW (a b:List Value) (z:Array Value) (j:Nat):(a.toArray++b.toArray++z)[j]?=(a++b++z.toList)[j]?:=by
 rw[<-Array.getElem?_toList];simp
theorem zu {z:Array Value} {k:Nat} {olds news:List Value} (h0:0<z.size) (h1:∀u∈olds,u.oneCell'=true) (h2:∀u∈news,u.oneCell'=true) (h3:∀(j:Nat) (u:Value),z[j]?=some u->u.oneCell'=true):
  ∀(j:Nat) (u:Value),(olds.toArray++news.toArray++Builtin.zeroCells z k)[j]?=some u->u.oneCell'=true:=by
 intro j u hu;have jd:(olds++news++(Builtin.zeroCells z k).toList)[j]?=some u:=by rw[<-MW];exact hu
 have B0:=List.mem_of_getElem? jd;simp only[List.mem_append]at B0;rcases B0 with(h|h)|h
 ·exact h1 u h
 ·exact h2 u h
 ·obtain⟨j',tQ⟩:=List.getElem?_of_mem h
  obtain⟨k',ic⟩:=ph h0 (by simpa using tQ);exact h3 k' u ic
theorem wO {z:Array Value} {sz n m nc:Nat} {olds news:List Value} (hz:z.size=sz) (ho:olds.length=n*sz) (hl:news.length=m*sz) (hc:n+m<=nc):
  (olds.toArray++news.toArray++Builtin.zeroCells z (nc-(n+m))).size=nc*sz:=by
 simp only[Array.size_append,List.size_toArray,size_zeroCells,hz,ho,hl,<-Nat.add_mul];congr 1;omega
theorem tR {c:Call} {x y:Operand} {t u:TypeId} (ho:o.op=.call c) (hc:c.callee=.builtin .append) (da:c.args=#[x,y]) (eY:c.argTypes=#[t,u]) (a:Act) (w:World):
  (execOp a.eval o).run P w=((Builtin.append_ #[t,u] o.type #[a.eval x,a.eval y]).run P w).andThen fun v w=>.ok (.value v) w:=by
 simp[execOp,ho,resolve,hc,da,eY,invoke,builtin]
theorem MX {c:Call} {x y:Operand} {t u e:TypeId} {i:TypeInfo} {zl:List AV} {du:TypeDesc} {mx my:MA} (ho:o.op= .call c) (hc:c.callee= .builtin .append) (da:c.args=#[x,y]) (eY:c.argTypes=#[t,u])
    (ht:P.underlying t=some (.slice e)) (hu:P.underlying u=some du) (zt:(∃e',du= .slice e')∨du= .string) (hi:P.info? e=some i) (hz:zeroOf P e=some zl) (tP:zl.length=i.size) (h0:0<i.size)
    (hx:bK lv x=some mx) (hy:bK lv y=some my)
    (hd:o.dst.all (decide <| · <N)=true) (h:D8 i.size i.bytes (st.get mx) (st.get my) (cm lv o.dst) K st):fG lv P N o st K:=by
  intro a w θ W next Q hR hk
  have h1:=hR.arg hx;have h2:=hR.arg hy;have dp:=tR (P:=P) ho hc da eY a w;obtain⟨i',zv,iR,qZ,hv⟩:=gx hz;rw[hi]at iR;cases iR;obtain⟨z1,z2,z3⟩:=fg hv θ W;have tj:zv.cells.size=i.size:=by rw[←tP,←z1];simp
  have Jx:∀(j:Nat) (u:Value),zv.cells[j]?=some u→u.oneCell'=true :=fun j u hj=>z3 j u (by simpa using hj)
  unfold D8 AB at h;split at h
  case h_2=>exact h.elim
  case h_1 ys ie=>
  obtain⟨r7,h⟩:=h;obtain⟨news,s1,s2,s3,s4,s5⟩:=Fv (P:=P) hR.mem h0 h2 ie r7;unfold lR at h;split at h
  case h_3=>exact h.elim
  case h_1 e1=>
    obtain⟨hb,xQ,hK⟩:=h;rw[e1]at h1;generalize Of:a.eval x=v at h1 dp;cases h1.gE;by_cases hm:ys.length=0
    · have QB:ys=[]:=List.eq_nil_of_length_eq_zero hm
      subst QB;have oO:=wk (P:=P) (ty:=o.type) ht hu zt hi (w:=w) (news:=news) s2 s3;rw[oO]at dp
      obtain⟨a1,a2⟩:=hR.mem.push (w':=w) (.rows i.size 0 []) .nil rfl rfl rfl (Nat.le_refl _) (fun _ _ =>rfl) (fun b sz br e=>by cases e) (fun e=>by cases e)
        (fun _ =>⟨.inl ⟨bR _ _ _ _,rfl⟩,fun v' zw=>by rw[bl (by omega)];exact hR.mem.out _ _ (Nat.le_refl _),fun v' zw=>by omega⟩)
      exact gD hR hd hk dp (.gC _ 0 (bR _ _ _ _)) a1 a2 hK
    · have oO:=qN (P:=P) (ty:=o.type) ht hu zt hi qZ (w:=w) (base:=none) (n:=0) (cap:=0) (olds:=[]) s2 s3 (fun w' _ =>rfl) (by omega) (by omega) (by rw[Nat.zero_add];exact hb)
      rw[oO]at dp;have ir:=grownCap_ge w (0+ys.length) 0 e
      obtain⟨aX,a1,a2,a3⟩:=xO (w0:=w.drew) hR.mem i.size ys _ e (grownCap w (0+ys.length) 0 e) rfl rfl rfl rfl (wO (n:=0) (m:=ys.length) (olds:=[]) tj (by simp) s1 ir) (by omega) r7
        (fun p r j q u hp hj jd=>rZ (θ:=θ) (W:=W) (rs:=[]) (olds:=[]) (n:=0) (zs:=Builtin.zeroCells zv.cells (grownCap w (0+ys.length) 0 e-(0+ys.length))) h0 (by simp) (by simp) s1 rfl (by simp) r7 (fun i r j c u aF=>by omega) s5 p r j q u (by simpa using hp) hj (by rw[←MW];exact jd))
        (zu (olds:=[]) (by omega) (by simp) s4 Jx)
      refine gD hR hd hk dp ?_ a1 a2 hK;rw[Nat.zero_add]at ir a3⊢;exact .gs _ 0 0 _ w.heap.size i.size _ 0 _ a3 ir (by unfold ia;omega) (by omega) (fun _ =>by simp) (fun _ =>rfl)
  case h_2 id ver off n e1=>
    unfold AA at h;split at h
    case h_2=>exact h.elim
    case h_1 cX cI rs hid=>
    obtain⟨rfl,rfl,rfl,hnr,hb,xQ,hK⟩:=h;rw[e1]at h1;generalize Of:a.eval x=v at h1 dp
    have xN:id<st.H.length:=by
      rcases Nat.lt_or_ge id st.H.length with h'|h'
      · exact h'
      · rw[List.getElem?_eq_none h']at hid;cases hid
    obtain⟨q1,q2,q3⟩:=hR.mem.obj id _ hid
    have grown:∀(base:Option Addr) (cap:Nat) (olds:List Value),v= .slice base n cap→θ id cI≠ .no→(∀k sz br,θ id cI= .at k sz br→True)→olds.length=n*i.size→(∀u∈olds,u.oneCell'=true)→(∀r∈rs,r.length=i.size)→
        (∀w':World,w'.heap=w.heap→(Builtin.firstCells i.size n (.slice base n cap)).run P w'= .ok olds.toArray w')→
        (∀(p:Nat) (r:List AV) (j:Nat) (q:AV) (u:Value),p<n→rs[p]?=some r→r[j]?=some q→olds[p*i.size+j]?=some u→bb θ W q u)→cap<n+ys.length→o.wp P a w next Q:=by
      intro base cap olds hvv lj _ Xe Jy qL hold hor cG;have oO:=qN (P:=P) (ty:=o.type) ht hu zt hi qZ (w:=w) (base:=base) (n:=n) (cap:=cap) (olds:=olds) s2 s3 hold cG xQ hb;rw[hvv,oO]at dp;have ir:=grownCap_ge w (n+ys.length) cap e
      obtain⟨a1,a2⟩:=hR.mem.grow (w':=w.drew.alloc (.cells (olds.toArray++news.toArray++Builtin.zeroCells zv.cells (grownCap w (n+ys.length) cap e-(n+ys.length))) e)) id cI (.rows i.size (cI+1) (rs.take n++ys)) (.at w.heap.size i.size (grownCap w (n+ys.length) cap e)) xN lj (q2 _ (by omega)) rfl rfl rfl (by simp)
        (fun k ic _ =>RowKit.Below.heap_alloc w.drew _ k ic) (fun b sz br e'=>by cases e';exact .inr rfl)
        (fun cY=>⟨.inr ⟨w.heap.size,_,e,_,bR _ _ _ _,heap_alloc_new w.drew _,wO tj Xe s1 ir,by simp;omega,fun r hr=>by
            rcases List.mem_append.1 hr with hr|hr
            · exact qL r (List.mem_of_mem_take hr)
            · exact r7 r hr,
          fun p r j q u hp hj jd=>cY _ _ (rZ (θ:=θ) (W:=W) (zs:=Builtin.zeroCells zv.cells (grownCap w (n+ys.length) cap e-(n+ys.length))) h0 hnr Xe s1 rfl qL r7 hor s5 p r j q u hp hj (by rw[←MW];exact jd)),
          zu (by omega) Jy s4 Jx⟩,fun v' zw=>by rw[bl (by omega),bl (by omega)];exact q2 v' (by omega),fun v' zw=>by
            rw[bl (by omega)];by_cases ev:v'=cI
            · subst ev;exact bR _ _ _ _
            · rw[bl (by omega)];exact q3 v' (by omega)⟩)
      exact gD hR hd hk dp (.gs id _ 0 _ w.heap.size i.size _ 0 _ (bR _ _ _ _) ir (by unfold ia;omega) (by omega) (fun _ =>by simp) (fun _ =>rfl)) a1 a2 hK
    cases h1 with
    |eS _ _ _ _ ad cap wM=>rcases q1 with⟨q1,_⟩|⟨b,br,ty,vs,q1,_⟩<;>(rw[wM]at q1;cases q1)
    |gC _ _ hn=>
     rcases q1 with⟨_,rfl⟩|⟨b,br,ty,vs,q1,_⟩
     · by_cases hm:ys.length=0
       · have QB:ys=[]:=List.eq_nil_of_length_eq_zero hm
         subst QB;have oO:=wk (P:=P) (ty:=o.type) ht hu zt hi (w:=w) (news:=news) s2 s3;rw[oO]at dp
         obtain⟨a1,a2⟩:=hR.mem.grow (w':=w) id cI (.rows i.size (cI+1) (List.take 0 []++[])) .nil xN (by rw[hn];exact fun e'=>by cases e') (q2 _ (by omega)) rfl rfl rfl (Nat.le_refl _) (fun _ _ _ =>rfl) (fun b sz br e'=>by cases e')
           (fun _ =>⟨.inl ⟨bR _ _ _ _,rfl⟩,fun v' zw=>by rw[bl (by omega),bl (by omega)];exact q2 v' (by omega),fun v' zw=>by
             rw[bl (by omega)];by_cases ev:v'=cI
             · subst ev;exact bR _ _ _ _
             · rw[bl (by omega)];exact q3 v' (by omega)⟩)
         exact gD hR hd hk dp (.gC _ _ (bR _ _ _ _)) a1 a2 hK
       · exact grown none 0 [] rfl (by rw[hn];exact fun e'=>by cases e') (fun _ _ _ _ =>trivial) (by simp) (by simp) (by simp) (fun w' _ =>rfl) (fun p r j q u hp=>by omega) (by omega)
     · rw[hn]at q1;cases q1
    |gs _ _ _ _ b sz br o' cap nJ vP zo MS mO zp=>
     rcases q1 with⟨q1,_⟩|⟨b',gn,ty,vs,q1,g1,g2,g3,g4,g5,g6⟩
     · rw[nJ]at q1;cases q1
     rw[nJ]at q1;cases q1;have e0:o'=0:=zp rfl;subst e0;have hct:cap=br:=by omega
     subst hct;by_cases BZ:n+ys.length≤cap
     · have jL:n*i.size+news.length≤vs.size:=by rw[s1,g2,←Nat.add_mul];exact Nat.mul_le_mul_right _ BZ
       have oO:=DH (P:=P) (ty:=o.type) ht hu zt hi (w:=w) (n:=n) (cap:=cap) g1 s1 s2 s3 s4 BZ jL;rw[oO]at dp;have acT:n*i.size+news.length≤vs.toList.length:=by simpa using jL
       obtain⟨a1,a2⟩:=hR.mem.grow (w':=w.setRow b (vs.toList.take (n*i.size)++news++vs.toList.drop (n*i.size+news.length)).toArray) id cI (.rows i.size (cI+1) (rs.take n++ys)) (.at b i.size cap) xN (by rw[nJ];exact fun e'=>by cases e') (q2 _ (by omega)) rfl rfl rfl (Nat.le_of_eq (qM _ _ _).symm)
         (fun k ic cK=>setRow_other _ _ _ _ (fun e'=>cK _ _ (e'▸nJ))) (fun b' cX gn e'=>by cases e';exact .inl ⟨_,_,nJ⟩)
         (fun cY=>⟨.inr ⟨b,cap,ty,_,bR _ _ _ _,setRow_heap w b vs _ ty _ g1,by simp;omega,by simp;omega,fun r hr=>by
             rcases List.mem_append.1 hr with hr|hr
             · exact g4 r (List.mem_of_mem_take hr)
             · exact r7 r hr,
           fun p r j q u hp hj jd=>cY _ _ (by
             have Xe:(vs.toList.take (n*i.size)).length=n*i.size:=by simp;omega
             refine rZ (θ:=θ) (W:=W) (zs:=(vs.toList.drop (n*i.size+news.length)).toArray) h0 hnr Xe s1 rfl g4 r7 ?_ s5 p r j q u hp hj (by simpa using jd);intro p' r' j' c' u' aF pd tQ QC;rw[List.getElem?_take]at QC;split at QC
             · exact g5 p' r' j' c' u' pd tQ (by simpa using QC)
             · cases QC),
           fun j u jd=>by
             have Eg:(vs.toList.take (n*i.size)++news++vs.toList.drop (n*i.size+news.length))[j]?=some u:=by simpa using jd
             rw[fS _ _ _ _ acT]at Eg;split at Eg
             · exact g6 j u (by simpa using Eg)
             · split at Eg
               · exact s4 u (List.mem_of_getElem? Eg)
               · exact g6 j u (by simpa using Eg)⟩,fun v' zw=>by rw[bl (by omega),bl (by omega)];exact q2 v' (by omega),fun v' zw=>by
             rw[bl (by omega)];by_cases ev:v'=cI
             · subst ev;exact bR _ _ _ _
             · rw[bl (by omega)];exact q3 v' (by omega)⟩)
       exact gD hR hd hk dp (.gs id _ 0 _ b i.size cap 0 _ (bR _ _ _ _) BZ (by unfold ia;omega) (by omega) (fun _ =>by simp) (fun _ =>rfl)) a1 a2 hK
     · refine grown (some ⟨b,0,none⟩) cap (vs.toList.take (n*i.size)) rfl (by rw[nJ];exact fun e'=>by cases e') (fun _ _ _ _ =>trivial) ?_ ?_ g4 ?_ ?_ (by omega)
       · have :n*i.size≤cap*i.size:=Nat.mul_le_mul_right _ (by omega)
         simp;omega
       · intro u jd
         obtain⟨j,hj⟩:=List.getElem?_of_mem (List.mem_of_mem_take jd);exact g6 j u (by simpa using hj)
       · intro w' hw'
         refine run_firstCells_some (P:=P) w' i.size n _ n cap _ ?_ ?_
         · have :n*i.size≤cap*i.size:=Nat.mul_le_mul_right _ (by omega)
           simp;omega
         · intro j v hj
           rw[BY hw',Addr.add_lit];rw[List.getElem?_take]at hj;split at hj
           · simpa[World.cell?,g1]using hj
           · cases hj
       · intro p r j q u aF hp hj jd
         rw[List.getElem?_take]at jd;split at jd
         · exact g5 p r j q u hp hj (by simpa using jd)
         · cases jd
theorem QD {c:Call} {x y:Operand} {t u e:TypeId} {i:TypeInfo} {zl:List AV} {mx my:MA} (ho:o.op=.call c) (hc:c.callee=.builtin .append) (da:c.args=#[x,y]) (eY:c.argTypes=#[t,u])
  (ht:P.underlying t=some (.slice e)) (hu:P.underlying u=some (.int .i64)) (hi:P.info? e=some i) (hz:zeroOf P e=some zl) (tP:zl.length=i.size) (h0:0<i.size)
  (hx:bK lv x=some mx) (hy:bK lv y=some my)
  (hd:o.dst.all (decide <| ·<N)=true) (h:BA i.size i.bytes (st.get mx) (st.get my) (cm lv o.dst) K st):fG lv P N o st K:=by
 intro a w θ W next Q hR hk
 have h1:=hR.arg hx;have h2:=hR.arg hy;have dp:=tR (P:=P) ho hc da eY a w;obtain⟨i',zv,iR,qZ,hv⟩:=gx hz;rw[hi]at iR;cases iR;obtain⟨z1,z2,z3⟩:=fg hv θ W;have tj:zv.cells.size=i.size:=by rw[<-tP,<-z1];simp
 have Jx:∀(j:Nat) (u:Value),zv.cells[j]?=some u->u.oneCell'=true:=fun j u hj=>z3 j u (by simpa using hj)
 unfold BA at h;split at h
 case h_2=>exact h.elim
 case h_1 k e1 e2=>
 obtain⟨hk0,hb,h63,hK⟩:=h;rw[e1]at h1;rw[e2]at h2;have e4:=h2.fh;generalize Of:a.eval x=v at h1 dp;cases h1.gE;rw[e4,DI (P:=P) (ty:=o.type) ht hu hi qZ h0 hk0 h63 hb]at dp;have ir:=grownCap_ge w k.toNat 0 e
 have gU:∀(j:Nat) (u:Value),(Builtin.zeroCells zv.cells k.toNat++Builtin.zeroCells zv.cells (grownCap w k.toNat 0 e-k.toNat))[j]?=some u->u.oneCell'=true:=by
  intro j u hu;rw[Array.getElem?_append]at hu;split at hu
  ·obtain⟨k,hk⟩:=ph (by omega) hu;exact Jx _ _ hk
  ·obtain⟨k,hk⟩:=ph (by omega) hu;exact Jx _ _ hk
 have eN:(Builtin.zeroCells zv.cells k.toNat++Builtin.zeroCells zv.cells (grownCap w k.toNat 0 e-k.toNat)).size=grownCap w k.toNat 0 e*i.size:=by
  simp only[Array.size_append,Builtin.zeroCells,Array.size_map,Array.size_range,tj];rw[<-Nat.add_mul];congr 1;omega
 obtain⟨aX,a1,a2,a3⟩:=xO (w0:=w.drew) hR.mem i.size [] _ e (grownCap w k.toNat 0 e) rfl rfl rfl rfl eN (by simp) (by simp) (fun p r j q u hp=>by simp at hp) gU;exact gD hR hd hk dp (.gs _ 0 0 _ w.heap.size i.size _ 0 _ a3 ir (by unfold ia;omega) (by omega) (fun _=>by simp) (fun _=>rfl)) a1 a2 hK
end Go.AM
