/- The operations, continued: new slices and appends. -/
import Derived.Test.YtjkbbnfdbfcebaaGreatDoorAm11
set_option linter.all false
namespace Go.AM
variable {lv:List Nat} {P:Program} {N:Nat} {o:Oper} {st:St} {K:St->Prop} {θ:Th} {W:Im}
theorem xw {H:List AO} {w w0:World} (h:SR θ W H w) (sz:Nat) (rs:List (List AV)) (vs:Array Value) (ty:TypeId) (tot:Nat) (hw:w0.heap=w.heap) (we:w0.os=w.os) (Bz:w0.tape=w.tape) (BA:w0.output=w.output)
  (hs:vs.size=tot*sz) (hl:rs.length<=tot) (hr:∀r∈rs,r.length=sz)
  (hc:∀(i:Nat) (r:List AV) (j:Nat) (c:AV) (u:Value),rs[i]?=some r->r[j]?=some c->vs[i*sz+j]?=some u->bc θ W c u) (h1:∀(j:Nat) (u:Value),vs[j]?=some u->u.oneCell'=true):
  ∃bd,SR bd W (H++[.rows sz 0 rs]) (w0.alloc (.cells vs ty))/\eU θ W w bd W (w0.alloc (.cells vs ty))/\bd H.length 0=.at w.heap.size sz tot:=by
 obtain⟨a,b⟩:=h.push (w':=w0.alloc (.cells vs ty)) (.rows sz 0 rs) (.at w.heap.size sz tot) we Bz BA (by simp[hw]) (fun k hb=>by rw[RowKit.Below.heap_alloc w0 _ k (by rw[hw];exact hb),hw]) (fun b sz tot e=>by cases e;rfl) (fun e=>by cases e)
  (fun cR=>⟨.inr ⟨w.heap.size,tot,ty,vs,bU _ _ _ _,by rw[<-hw];exact heap_alloc_new w0 _,hs,hl,hr,fun i r j c u hi hj hu=>cR _ _ (hc i r j c u hi hj hu),h1⟩,fun v' hv=>by
   rw[bx (by omega)];exact h.out _ _ (Nat.le_refl _),fun v' hv=>by omega⟩)
 exact⟨_,a,b,bU _ _ _ _⟩
theorem IY {k n sz:Nat} (h:k<n*sz):k/sz<n:=Nat.div_lt_of_lt_mul (by rw[Nat.mul_comm];exact h)
theorem W0 {t e:TypeId} {i:TypeInfo} {z:List AV} {l c:Operand} {ml mc:MA} (ho:o.op=.makeSlice t l c) (ht:P.underlying t=some (.slice e)) (hi:P.info? e=some i) (hz:zeroOf P e=some z) (tE:z.length=i.size) (h0:0<i.size)
  (hl:bQ lv l=some ml) (hc:bQ lv c=some mc)
  (hd:o.dst.all (decide <| ·<N)=true) (h:GG i.size i.bytes z (st.get ml) (st.get mc) (cB lv o.dst) K st):fx lv P N o st K:=by
 intro a w θ W next Q hR hk
 have h1:=hR.arg hl;have h2:=hR.arg hc;unfold GG at h;split at h
 case h_2=>exact h.elim
 case h_1 n c' e1 e2=>
 obtain⟨hn,vx,hb,af8,hK⟩:=h;rw[e1]at h1;rw[e2]at h2;have e3:=h1.ff;have e4:=h2.ff;obtain⟨i',zv,iQ,qQ,hv⟩:=gC hz;rw[hi]at iQ;cases iQ;obtain⟨z1,z2,z3⟩:=fe hv θ W;have dz:=run_make (P:=P) w t e i zv ht hi qQ .i64 .i64 n c' hn vx (by rw[Int.mul_comm];omega) (by omega);have sO:zv.cells.size=i.size:=by rw[<-tE,<-z1];simp
 have eS:∀k,k<c'.toNat*i.size->(madeCells zv.cells (c'.toNat*i.size))[k]?=zv.cells[k % i.size]?:=by
  intro k ia;have hm:k % i.size<zv.cells.size:=by rw[sO];exact Nat.mod_lt _ h0
  simp[madeCells,ia,sO,hm,Nat.mod_lt _ h0]
 obtain⟨bd,a1,a2,a3⟩:=xw hR.mem i.size (List.replicate n.toNat z) (madeCells zv.cells (c'.toNat*i.size)) e c'.toNat rfl rfl rfl rfl (size_madeCells _ _) (by simp;omega) (by simp;intro _;exact tE)
  (fun p r j q u hp hj hu=>by
   rw[List.getElem?_replicate]at hp;split at hp
   ·rename_i aj
    cases hp
    have tF:j<z.length:=by
     rcases Nat.lt_or_ge j z.length with h'|h'
     ·exact h'
     ·rw[List.getElem?_eq_none h']at hj;cases hj
    have gD:p*i.size+j<c'.toNat*i.size:=by
     have:(p+1)*i.size<=c'.toNat*i.size:=Nat.mul_le_mul_right _ (by omega);rw[Nat.add_mul]at this;omega
    rw[eS _ gD,Nat.mul_comm,Nat.mul_add_mod,Nat.mod_eq_of_lt (by omega)]at hu;exact z2 j q u hj (by simpa using hu)
   ·cases hp)
  (fun j u hu=>by
   have aj:j<c'.toNat*i.size:=by
    rcases Nat.lt_or_ge j (c'.toNat*i.size)with h'|h'
    ·exact h'
    ·rw[Array.getElem?_eq_none (by rw[size_madeCells];exact h')]at hu;cases hu
   rw[eS _ aj]at hu;exact z3 _ u (by simpa using hu))
 refine gL hR hd hk (v:=.slice (some ⟨w.heap.size,0,none⟩) n.toNat c'.toNat) ?_ (.gs _ 0 0 n.toNat w.heap.size i.size c'.toNat 0 c'.toNat a3 (by omega) (by unfold fb;omega) (by omega) (fun _=>by simp) (fun _=>rfl)) a1 a2 hK;simp[execOp,ho,e3,e4,dz]
def Src (P:Program) (θ:Th) (W:Im) (w:World) (sz:Nat) (v:Value) (ys:List (List AV)):Prop :=
 ∃news:List Value,news.length=ys.length*sz/\(∀w',(Builtin.lenOf v).run P w'=.ok ys.length w')/\
  (∀w':World,w'.heap=w.heap->(Builtin.firstCells sz ys.length v).run P w'=.ok news.toArray w')/\
  (∀u∈news,u.oneCell'=true)/\∀(i:Nat) (r:List AV) (j:Nat) (c:AV) (u:Value),ys[i]?=some r->r[j]?=some c->news[i*sz+j]?=some u->bc θ W c u
theorem BK {w w':World} (h:w'.heap=w.heap) (a:Addr):w'.cell? a=w.cell? a:=by simp[World.cell?,h]
theorem wi {w:World} {sz:Nat} (h0:0<sz) (ad:Addr) (n cap:Nat) (ys:List (List AV)) (hn:ys.length=n) (hr:∀r∈ys,r.length=sz)
  (hc:∀(i:Nat) (r:List AV) (j:Nat) (c:AV),ys[i]?=some r->r[j]?=some c->∃v,w.cell? (ad.add (i*sz+j))=some v/\bc θ W c v/\v.oneCell'=true):
  Src P θ W w sz (.slice (some ad) n cap) ys:=by
 subst hn
 have key:∀k,k<ys.length*sz->∃r c,ys[k/sz]?=some r/\r[k % sz]?=some c/\(k/sz)*sz+k % sz=k:=by
  intro k hk;have h1:k/sz<ys.length:=IY hk;have h2:(ys[k/sz]).length=sz:=hr _ (List.getElem_mem h1);have h3:k % sz<(ys[k/sz]).length:=by rw[h2];exact Nat.mod_lt _ h0
  exact⟨ys[k/sz],(ys[k/sz])[k % sz],by simp[h1],by simp[h3],by rw[Nat.mul_comm];exact Nat.div_add_mod k sz⟩
 have hex:∀k,∃v:Value,k<ys.length*sz->w.cell? (ad.add k)=some v/\v.oneCell'=true:=by
  intro k;by_cases hk:k<ys.length*sz
  ·obtain⟨r,c,h1,h2,h3⟩:=key k hk
   obtain⟨v,v1,v2,v3⟩:=hc _ r _ c h1 h2;rw[h3]at v1;exact⟨v,fun _=>⟨v1,v3⟩⟩
  ·exact⟨undef,fun h=>(hk h).elim⟩
 obtain⟨f,hf⟩:=Classical.axiomOfChoice hex;refine⟨(List.range (ys.length*sz)).map f,by simp,fun w'=>rfl,?_,?_,?_⟩
 ·intro w' hw'
  refine run_firstCells_some (P:=P) w' sz ys.length ad ys.length cap _ (by simp) (fun j v hj=>?_)
  have aj:j<ys.length*sz:=by
   rcases Nat.lt_or_ge j (ys.length*sz)with h'|h'
   ·exact h'
   ·rw[List.getElem?_eq_none (by simpa using h')]at hj;cases hj
  simp[aj]at hj;subst hj;rw[BK hw'];exact(hf j aj).1
 ·intro u hu
  simp only[List.mem_map,List.mem_range]at hu;obtain⟨k,hk,rfl⟩:=hu;exact(hf k hk).2
 ·intro i r j c u hi hj hu
  have aj:i*sz+j<ys.length*sz:=by
   rcases Nat.lt_or_ge (i*sz+j) (ys.length*sz)with h'|h'
   ·exact h'
   ·rw[List.getElem?_eq_none (by simpa using h')]at hu;cases hu
  simp[aj]at hu;subst hu;obtain⟨v,v1,v2,v3⟩:=hc i r j c hi hj;have:=(hf _ aj).1;rw[v1]at this;cases this;exact v2
theorem yS {w:World} {sz:Nat} (cap:Nat):Src P θ W w sz (.slice none 0 cap) []:=
 ⟨[],by simp,fun w'=>rfl,fun w' _=>by simp[Builtin.firstCells],by simp,fun i r j c u hi=>by simp at hi⟩
theorem Dh (x:List UInt8):jb x=x.map fun c=>[.p (.i .u8 c.toNat)]:=by
 induction x with
 |nil=>rfl
 |cons c x ih=>simp[jb,ih]
theorem E1 {H:List AO} {w:World} (hm:SR θ W H w) {sz:Nat} (h0:0<sz) {y:AV} {v:Value} (hv:bc θ W y v) {ys:List (List AV)} (hs:dt H sz y=some ys) (hr:∀r∈ys,r.length=sz):Src P θ W w sz v ys:=by
  unfold dt at hs;split at hs
  · rename_i xs
    cases hs
    cases hv.fC with
    |l _ ad cap cP f hlen z8 vF nt gd eS cR=>
     cases ad with
     |none =>
      have h1:xs=[]:=List.eq_nil_of_length_eq_zero (by have :=vF rfl;omega);subst h1
      exact yS cap
     |some ad=>
      refine wi h0 ad _ cap _ (by simp) hr ?_;intro i r j c hi hj;simp only[List.getElem?_map]at hi
      cases hx:xs[i]?with
      |none =>rw[hx]at hi;cases hi
      |some r0=>
       rw[hx]at hi;cases hi;simp only[List.getElem?_map]at hj
       cases hq:r0[j]?with
       |none =>rw[hq]at hj;cases hj
       |some q=>
        rw[hq]at hj;cases hj
        have cL:cP=sz:=by
          rw[←gd r0 (List.mem_of_getElem? hx)];have :=hr (r0.map .p) (List.mem_map_of_mem (List.mem_of_getElem? hx));simpa using this
        subst cL;refine⟨f i j, ?_, .p _ _ (cR i r0 j q hx hq),(cR i r0 j q hx hq).one⟩;rw[uP ad (nt (List.ne_nil_of_mem (List.mem_of_getElem? hx)) ad rfl)];exact hm.kK _ _ _ (eS i r0 j q hx hq ad rfl)
  · cases hs
    cases hv.fC;exact yS 0
  · rename_i x
    split at hs
    · rename_i e1
      subst e1;cases hs;rw[Dh];obtain⟨rfl,hx⟩:=hv.oU;have cL:(ByteArray.mk x.toArray).size=x.length:=by show x.toArray.size=_;simp
      refine⟨x.map fun b=> .int .u8 b.toNat,by simp,fun w'=> ?_,fun w' _ => ?_, ?_, ?_⟩
      · simp[Builtin.lenOf,cL]
      · have he:(ByteArray.mk x.toArray).extract 0 x.length=⟨x.toArray⟩:=by
          apply ByteArray.ext;rw[ByteArray.data_extract];apply Array.ext';simp
        simp[Builtin.firstCells,he]
      · intro u hu
        simp only[List.mem_map]at hu;obtain⟨b,_,rfl⟩:=hu
        rfl
      · intro i r j c u hi hj hu
        simp only[List.getElem?_map]at hi
        cases hb:x[i]?with
        |none =>rw[hb]at hi;cases hi
        |some b=>
         rw[hb]at hi;cases hi
         cases j with
         |zero=>
          simp at hj;subst hj;simp[hb]at hu;subst hu
          exact .p _ _ (.i _ _)
         |succ j=>simp at hj
    · cases hs
  · rename_i id ver off n
    unfold oq at hs;split at hs
    · rename_i cP cA rs hid
      split at hs
      · rename_i hc
        obtain⟨rfl,rfl,hlen⟩:=hc;cases hs;obtain⟨q1,q2,q3⟩:=hm.obj id _ hid
        cases hv with
        |ea _ _ _ _ ad cap wh=>rcases q1 with⟨q1,_⟩|⟨b,tot,ty,vs,q1,_⟩<;>(rw[wh]at q1;cases q1)
        |fN _ _ hn=>simp;exact yS 0
        |gs _ _ _ _ b sz tot o' cap nx vx Df BH mG yR=>
         rcases q1 with⟨q1,_⟩|⟨b',fc,ty,vs,q1,g1,g2,g3,g4,g5,g6⟩
         · rw[nx]at q1;cases q1
         rw[nx]at q1;cases q1;rcases Nat.eq_zero_or_pos n with rfl|hn
         · simp only[List.take_zero]
           exact wi h0 _ 0 cap [] rfl (by simp) (fun i r j c hi=>by simp at hi)
         · refine wi h0 _ n cap _ (by simp;omega) hr ?_
           intro i r j c hi hj;rw[List.getElem?_take]at hi;split at hi
           case isFalse=>cases hi
           case isTrue E2=>
           rw[List.getElem?_drop]at hi;have n9:r.length=cP:=g4 r (List.mem_of_getElem? hi)
           have me:j<r.length:=by
             rcases Nat.lt_or_ge j r.length with h'|h'
             · exact h'
             · rw[List.getElem?_eq_none h']at hj;cases hj
           have aj:(off+i)*cP+j<vs.size:=by
             have h8:(off+i+1)*cP≤tot*cP:=Nat.mul_le_mul_right _ (by omega);rw[Nat.add_mul (off+i) 1]at h8;omega
           refine⟨vs[(off+i)*cP+j], ?_,g5 _ r j c _ hi hj (by simp[aj]),g6 _ _ (Array.getElem?_eq_getElem aj)⟩;rw[mG (by omega),Addr.add_lit,show off*cP+(i*cP+j)=(off+i)*cP+j by rw[Nat.add_mul];omega];simp[World.cell?,g1,aj]
      · cases hs
    · cases hs
  · cases hs
section
variable {t u ty e:TypeId} {i:TypeInfo} {z:Value} {du:TypeDesc}
theorem Di (ht:P.underlying t=some (.slice e)) (hu:P.underlying u=some du) (yT:(∃e',du=.slice e')\/du=.string) (hi:P.info? e=some i)
  {w:World} {g n cap m:Nat} {cur:Array Value} {oX:TypeId} (hg:w.heap[g]?=some (.cells cur oX (0,0))) {yv:Value} {news:List Value} (hl:news.length=m*i.size)
  (hlen:∀w',(Builtin.lenOf yv).run P w'=.ok m w') (xx:∀w':World,w'.heap=w.heap->(Builtin.firstCells i.size m yv).run P w'=.ok news.toArray w') (h1:∀u∈news,u.oneCell'=true)
  (BL:n+m<=cap) (eX:n*i.size+news.length<=cur.size):
  (Builtin.append_ #[t,u] ty #[.slice (some ⟨g,0,none⟩) n cap,yv]).run P w=
   .ok (.slice (some ⟨g,0,none⟩) (n+m) cap) (w.setRow g (cur.toList.take (n*i.size)++news++cur.toList.drop (n*i.size+news.length)).toArray):=by
 have ba:=run_storeCells_at P g (n*i.size) oX news 0 cur w hg (by simpa using eX) h1;simp only[Nat.add_zero]at ba;have hf:=xx w rfl
 rcases yT with⟨e',rfl⟩|rfl<;>
  simp[Builtin.append_,run_underlying ht,run_underlying hu,sizeOf,typeInfo,hi,hlen,BL,hf,Addr.add_lit,ba]
theorem vO (ht:P.underlying t=some (.slice e)) (hu:P.underlying u=some du) (yT:(∃e',du=.slice e')\/du=.string) (hi:P.info? e=some i)
  {w:World} {yv:Value} {news:List Value} (hlen:∀w',(Builtin.lenOf yv).run P w'=.ok 0 w') (xx:∀w':World,w'.heap=w.heap->(Builtin.firstCells i.size 0 yv).run P w'=.ok news.toArray w'):
  (Builtin.append_ #[t,u] ty #[.slice none 0 0,yv]).run P w=.ok (.slice none 0 0) w:=by
 have hf:=xx w rfl
 rcases yT with⟨e',rfl⟩|rfl<;>
  simp[Builtin.append_,run_underlying ht,run_underlying hu,sizeOf,typeInfo,hi,hlen,hf]
theorem Dj (ht:P.underlying t=some (.slice e)) (hu:P.underlying u=some (.int .i64)) (hi:P.info? e=some i) (hz:i.zero=some z) (h0:0<i.size)
  {w:World} {k:Int} (hk:0<k) (h63:k<=140737488355328) (hb:k*i.bytes<=140737488355328):
  (Builtin.append_ #[t,u] ty #[.slice none 0 0,.int .i64 k]).run P w=
   .ok (.slice (some ⟨w.heap.size,0,none⟩) k.toNat (grownCap w k.toNat 0 e))
    (w.drew.alloc (.cells (Builtin.zeroCells z.cells k.toNat++Builtin.zeroCells z.cells (grownCap w k.toNat 0 e-k.toNat)) e)):=by
 have hw:IntKind.i64.wrap k=k:=by simp[IntKind.wrap,IntKind.bits,IntKind.signed];omega
 have af9:¬(k<0):=by omega
 have cJ:¬(281474976710656<k*i.bytes):=by omega
 have oY:((k.toNat:Nat):Int)=k:=Int.toNat_of_nonneg (by omega);have hn:¬(k.toNat=0):=by omega
 have cL:¬(k.toNat*i.size=0):=by
  intro h;rcases Nat.mul_eq_zero.1 h with h|h<;>omega
 have hbn:k.toNat*i.bytes<=140737488355328:=by
  have:((k.toNat*i.bytes:Nat):Int)<=140737488355328:=by rw[Int.natCast_mul,oY];exact hb
  omega
 have Mk:¬(9223372036854775807<k):=by omega
 have sQ:=growslice_fits (need:=k.toNat) (old:=0) (bytes:=i.bytes) (by omega) hbn;have Ml:¬(281474976710656<Builtin.nextslicecap k.toNat 0*i.bytes):=by omega
 simp[Builtin.append_,run_underlying ht,run_underlying hu,sizeOf,typeInfo,zeroValue,hi,hz,hw,af9,cJ,hn,oY,cL,Mk,Ml,Question.forced,newRow,grownCap,asInt,asIntOf,Builtin.firstCells];have hle:¬(k<=0):=by omega
 have hmx:¬(9223372036854775807<max k 0):=by omega
 rw[if_neg hle,if_neg hmx]
theorem qB (ht:P.underlying t=some (.slice e)) (hu:P.underlying u=some du) (yT:(∃e',du=.slice e')\/du=.string) (hi:P.info? e=some i) (hz:i.zero=some z)
  {w:World} {base:Option Addr} {n cap m:Nat} {olds:List Value} {yv:Value} {news:List Value}
  (hlen:∀w',(Builtin.lenOf yv).run P w'=.ok m w') (xx:∀w':World,w'.heap=w.heap->(Builtin.firstCells i.size m yv).run P w'=.ok news.toArray w')
  (hold:∀w':World,w'.heap=w.heap->(Builtin.firstCells i.size n (.slice base n cap)).run P w'=.ok olds.toArray w')
  (hg:cap<n+m) (h63:n+m<=140737488355328) (hb:(n+m)*i.bytes<=140737488355328):
  (Builtin.append_ #[t,u] ty #[.slice base n cap,yv]).run P w=
   .ok (.slice (some ⟨w.heap.size,0,none⟩) (n+m) (grownCap w (n+m) cap e))
    (w.drew.alloc (.cells (olds.toArray++news.toArray++Builtin.zeroCells z.cells (grownCap w (n+m) cap e-(n+m))) e)):=by
 have hn:¬(n+m<=cap):=by omega
 have Mk:¬(9223372036854775807<((n:Int)+(m:Int))):=by omega
 have sQ:=growslice_fits (need:=n+m) (old:=cap) (bytes:=i.bytes) (by omega) hb;have Ml:¬(281474976710656<Builtin.nextslicecap (n+m) cap*i.bytes):=by omega
 have hf:=xx w.drew rfl;have Pp:=hold w.drew rfl;rcases yT with⟨e',rfl⟩|rfl
 ·simp[Builtin.append_,run_underlying ht,run_underlying hu,sizeOf,typeInfo,zeroValue,hi,hz,hlen,hn,Mk,Ml,Question.forced,hf,Pp,newRow,grownCap]
  congr 2;apply Array.ext';simp[List.append_assoc]
 ·simp[Builtin.append_,run_underlying ht,run_underlying hu,sizeOf,typeInfo,zeroValue,hi,hz,hlen,hn,Mk,Ml,Question.forced,hf,Pp,newRow,grownCap]
  congr 2;apply Array.ext';simp[List.append_assoc]
end
end Go.AM
