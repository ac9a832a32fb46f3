/- The operations, continued: new slices and appends. -/
import Derived.Test.YteilijfligofdaaGreatDoorAm11
set_option linter.all false
namespace Go.AM
variable {lv:List Nat} {P:Program} {N:Nat} {o:Oper} {st:St} {K:St->Prop} {θ:Th} {W:Im}
theorem xO {H:List AO} {w w0:World} (h:SR θ W H w) (sz:Nat) (rs:List (List AV)) (vs:Array Value) (ty:TypeId) (br:Nat) (hw:w0.heap=w.heap) (wJ:w0.os=w.os) (BN:w0.tape=w.tape) (BO:w0.output=w.output)
  (hs:vs.size=br*sz) (hl:rs.length<=br) (hr:∀r∈rs,r.length=sz)
  (hc:∀(i:Nat) (r:List AV) (j:Nat) (c:AV) (u:Value),rs[i]?=some r->r[j]?=some c->vs[i*sz+j]?=some u->bb θ W c u) (h1:∀(j:Nat) (u:Value),vs[j]?=some u->u.oneCell'=true):
  ∃aX,SR aX W (H++[.rows sz 0 rs]) (w0.alloc (.cells vs ty))/\eW θ W w aX W (w0.alloc (.cells vs ty))/\aX H.length 0=.at w.heap.size sz br:=by
 obtain⟨a,b⟩:=h.push (w':=w0.alloc (.cells vs ty)) (.rows sz 0 rs) (.at w.heap.size sz br) wJ BN BO (by simp[hw]) (fun k hb=>by rw[RowKit.Below.heap_alloc w0 _ k (by rw[hw];exact hb),hw]) (fun b sz br e=>by cases e;rfl) (fun e=>by cases e)
  (fun cY=>⟨.inr ⟨w.heap.size,br,ty,vs,bR _ _ _ _,by rw[<-hw];exact heap_alloc_new w0 _,hs,hl,hr,fun i r j c u hi hj hu=>cY _ _ (hc i r j c u hi hj hu),h1⟩,fun v' hv=>by
   rw[bl (by omega)];exact h.out _ _ (Nat.le_refl _),fun v' hv=>by omega⟩)
 exact⟨_,a,b,bR _ _ _ _⟩
theorem Jw {k n sz:Nat} (h:k<n*sz):k/sz<n:=Nat.div_lt_of_lt_mul (by rw[Nat.mul_comm];exact h)
theorem Xd {t e:TypeId} {i:TypeInfo} {z:List AV} {l c:Operand} {ml mc:MA} (ho:o.op=.makeSlice t l c) (ht:P.underlying t=some (.slice e)) (hi:P.info? e=some i) (hz:zeroOf P e=some z) (tP:z.length=i.size) (h0:0<i.size)
  (hl:bK lv l=some ml) (hc:bK lv c=some mc)
  (hd:o.dst.all (decide <| ·<N)=true) (h:GW i.size i.bytes z (st.get ml) (st.get mc) (cm lv o.dst) K st):fG lv P N o st K:=by
 intro a w θ W next Q hR hk
 have h1:=hR.arg hl;have h2:=hR.arg hc;unfold GW at h;split at h
 case h_2=>exact h.elim
 case h_1 n c' e1 e2=>
 obtain⟨hn,vP,hb,afU,hK⟩:=h;rw[e1]at h1;rw[e2]at h2;have e3:=h1.fh;have e4:=h2.fh;obtain⟨i',zv,iR,qZ,hv⟩:=gx hz;rw[hi]at iR;cases iR;obtain⟨z1,z2,z3⟩:=fg hv θ W;have dp:=run_make (P:=P) w t e i zv ht hi qZ .i64 .i64 n c' hn vP (by rw[Int.mul_comm];omega) (by omega);have tj:zv.cells.size=i.size:=by rw[<-tP,<-z1];simp
 have eV:∀k,k<c'.toNat*i.size->(madeCells zv.cells (c'.toNat*i.size))[k]?=zv.cells[k % i.size]?:=by
  intro k ic;have hm:k % i.size<zv.cells.size:=by rw[tj];exact Nat.mod_lt _ h0
  simp[madeCells,ic,tj,hm,Nat.mod_lt _ h0]
 obtain⟨aX,a1,a2,a3⟩:=xO hR.mem i.size (List.replicate n.toNat z) (madeCells zv.cells (c'.toNat*i.size)) e c'.toNat rfl rfl rfl rfl (size_madeCells _ _) (by simp;omega) (by simp;intro _;exact tP)
  (fun p r j q u hp hj hu=>by
   rw[List.getElem?_replicate]at hp;split at hp
   ·rename_i aF
    cases hp
    have tQ:j<z.length:=by
     rcases Nat.lt_or_ge j z.length with h'|h'
     ·exact h'
     ·rw[List.getElem?_eq_none h']at hj;cases hj
    have gy:p*i.size+j<c'.toNat*i.size:=by
     have:(p+1)*i.size<=c'.toNat*i.size:=Nat.mul_le_mul_right _ (by omega);rw[Nat.add_mul]at this;omega
    rw[eV _ gy,Nat.mul_comm,Nat.mul_add_mod,Nat.mod_eq_of_lt (by omega)]at hu;exact z2 j q u hj (by simpa using hu)
   ·cases hp)
  (fun j u hu=>by
   have aF:j<c'.toNat*i.size:=by
    rcases Nat.lt_or_ge j (c'.toNat*i.size)with h'|h'
    ·exact h'
    ·rw[Array.getElem?_eq_none (by rw[size_madeCells];exact h')]at hu;cases hu
   rw[eV _ aF]at hu;exact z3 _ u (by simpa using hu))
 refine gD hR hd hk (v:=.slice (some ⟨w.heap.size,0,none⟩) n.toNat c'.toNat) ?_ (.gs _ 0 0 n.toNat w.heap.size i.size c'.toNat 0 c'.toNat a3 (by omega) (by unfold ia;omega) (by omega) (fun _=>by simp) (fun _=>rfl)) a1 a2 hK;simp[execOp,ho,e3,e4,dp]
def Src (P:Program) (θ:Th) (W:Im) (w:World) (sz:Nat) (v:Value) (ys:List (List AV)):Prop :=
 ∃news:List Value,news.length=ys.length*sz/\(∀w',(Builtin.lenOf v).run P w'=.ok ys.length w')/\
  (∀w':World,w'.heap=w.heap->(Builtin.firstCells sz ys.length v).run P w'=.ok news.toArray w')/\
  (∀u∈news,u.oneCell'=true)/\∀(i:Nat) (r:List AV) (j:Nat) (c:AV) (u:Value),ys[i]?=some r->r[j]?=some c->news[i*sz+j]?=some u->bb θ W c u
theorem BY {w w':World} (h:w'.heap=w.heap) (a:Addr):w'.cell? a=w.cell? a:=by simp[World.cell?,h]
theorem wN {w:World} {sz:Nat} (h0:0<sz) (ad:Addr) (n cap:Nat) (ys:List (List AV)) (hn:ys.length=n) (hr:∀r∈ys,r.length=sz)
  (hc:∀(i:Nat) (r:List AV) (j:Nat) (c:AV),ys[i]?=some r->r[j]?=some c->∃v,w.cell? (ad.add (i*sz+j))=some v/\bb θ W c v/\v.oneCell'=true):
  Src P θ W w sz (.slice (some ad) n cap) ys:=by
 subst hn
 have key:∀k,k<ys.length*sz->∃r c,ys[k/sz]?=some r/\r[k % sz]?=some c/\(k/sz)*sz+k % sz=k:=by
  intro k hk;have h1:k/sz<ys.length:=Jw hk;have h2:(ys[k/sz]).length=sz:=hr _ (List.getElem_mem h1);have h3:k % sz<(ys[k/sz]).length:=by rw[h2];exact Nat.mod_lt _ h0
  exact⟨ys[k/sz],(ys[k/sz])[k % sz],by simp[h1],by simp[h3],by rw[Nat.mul_comm];exact Nat.div_add_mod k sz⟩
 have hex:∀k,∃v:Value,k<ys.length*sz->w.cell? (ad.add k)=some v/\v.oneCell'=true:=by
  intro k;by_cases hk:k<ys.length*sz
  ·obtain⟨r,c,h1,h2,h3⟩:=key k hk
   obtain⟨v,v1,v2,v3⟩:=hc _ r _ c h1 h2;rw[h3]at v1;exact⟨v,fun _=>⟨v1,v3⟩⟩
  ·exact⟨undef,fun h=>(hk h).elim⟩
 obtain⟨f,hf⟩:=Classical.axiomOfChoice hex;refine⟨(List.range (ys.length*sz)).map f,by simp,fun w'=>rfl,?_,?_,?_⟩
 ·intro w' hw'
  refine run_firstCells_some (P:=P) w' sz ys.length ad ys.length cap _ (by simp) (fun j v hj=>?_)
  have aF:j<ys.length*sz:=by
   rcases Nat.lt_or_ge j (ys.length*sz)with h'|h'
   ·exact h'
   ·rw[List.getElem?_eq_none (by simpa using h')]at hj;cases hj
  simp[aF]at hj;subst hj;rw[BY hw'];exact(hf j aF).1
 ·intro u hu
  simp only[List.mem_map,List.mem_range]at hu;obtain⟨k,hk,rfl⟩:=hu;exact(hf k hk).2
 ·intro i r j c u hi hj hu
  have aF:i*sz+j<ys.length*sz:=by
   rcases Nat.lt_or_ge (i*sz+j) (ys.length*sz)with h'|h'
   ·exact h'
   ·rw[List.getElem?_eq_none (by simpa using h')]at hu;cases hu
  simp[aF]at hu;subst hu;obtain⟨v,v1,v2,v3⟩:=hc i r j c hi hj;have:=(hf _ aF).1;rw[v1]at this;cases this;exact v2
theorem zq {w:World} {sz:Nat} (cap:Nat):Src P θ W w sz (.slice none 0 cap) []:=
 ⟨[],by simp,fun w'=>rfl,fun w' _=>by simp[Builtin.firstCells],by simp,fun i r j c u hi=>by simp at hi⟩
theorem DG (x:List UInt8):ja x=x.map fun c=>[.p (.i .u8 c.toNat)]:=by
 induction x with
 |nil=>rfl
 |cons c x ih=>simp[ja,ih]
theorem Fv {H:List AO} {w:World} (hm:SR θ W H w) {sz:Nat} (h0:0<sz) {y:AV} {v:Value} (hv:bb θ W y v) {ys:List (List AV)} (hs:dj H sz y=some ys) (hr:∀r∈ys,r.length=sz):Src P θ W w sz v ys:=by
  unfold dj at hs;split at hs
  · rename_i xs
    cases hs
    cases hv.gE with
    |l _ ad cap cX f hlen Ax v7 nE fZ eV cY=>
     cases ad with
     |none =>
      have h1:xs=[]:=List.eq_nil_of_length_eq_zero (by have :=v7 rfl;omega);subst h1
      exact zq cap
     |some ad=>
      refine wN h0 ad _ cap _ (by simp) hr ?_;intro i r j c hi hj;simp only[List.getElem?_map]at hi
      cases hx:xs[i]?with
      |none =>rw[hx]at hi;cases hi
      |some r0=>
       rw[hx]at hi;cases hi;simp only[List.getElem?_map]at hj
       cases hq:r0[j]?with
       |none =>rw[hq]at hj;cases hj
       |some q=>
        rw[hq]at hj;cases hj
        have eN:cX=sz:=by
          rw[←fZ r0 (List.mem_of_getElem? hx)];have :=hr (r0.map .p) (List.mem_map_of_mem (List.mem_of_getElem? hx));simpa using this
        subst eN;refine⟨f i j, ?_, .p _ _ (cY i r0 j q hx hq),(cY i r0 j q hx hq).one⟩;rw[vk ad (nE (List.ne_nil_of_mem (List.mem_of_getElem? hx)) ad rfl)];exact hm.nF _ _ _ (eV i r0 j q hx hq ad rfl)
  · cases hs
    cases hv.gE;exact zq 0
  · rename_i x
    split at hs
    · rename_i e1
      subst e1;cases hs;rw[DG];obtain⟨rfl,hx⟩:=hv.pb;have eN:(ByteArray.mk x.toArray).size=x.length:=by show x.toArray.size=_;simp
      refine⟨x.map fun b=> .int .u8 b.toNat,by simp,fun w'=> ?_,fun w' _ => ?_, ?_, ?_⟩
      · simp[Builtin.lenOf,eN]
      · have he:(ByteArray.mk x.toArray).extract 0 x.length=⟨x.toArray⟩:=by
          apply ByteArray.ext;rw[ByteArray.data_extract];apply Array.ext';simp
        simp[Builtin.firstCells,he]
      · intro u hu
        simp only[List.mem_map]at hu;obtain⟨b,_,rfl⟩:=hu
        rfl
      · intro i r j c u hi hj hu
        simp only[List.getElem?_map]at hi
        cases hb:x[i]?with
        |none =>rw[hb]at hi;cases hi
        |some b=>
         rw[hb]at hi;cases hi
         cases j with
         |zero=>
          simp at hj;subst hj;simp[hb]at hu;subst hu
          exact .p _ _ (.i _ _)
         |succ j=>simp at hj
    · cases hs
  · rename_i id ver off n
    unfold oG at hs;split at hs
    · rename_i cX cI rs hid
      split at hs
      · rename_i hc
        obtain⟨rfl,rfl,hlen⟩:=hc;cases hs;obtain⟨q1,q2,q3⟩:=hm.obj id _ hid
        cases hv with
        |eS _ _ _ _ ad cap wM=>rcases q1 with⟨q1,_⟩|⟨b,br,ty,vs,q1,_⟩<;>(rw[wM]at q1;cases q1)
        |gC _ _ hn=>simp;exact zq 0
        |gs _ _ _ _ b sz br o' cap nJ vP zo MS mO zp=>
         rcases q1 with⟨q1,_⟩|⟨b',gn,ty,vs,q1,g1,g2,g3,g4,g5,g6⟩
         · rw[nJ]at q1;cases q1
         rw[nJ]at q1;cases q1;rcases Nat.eq_zero_or_pos n with rfl|hn
         · simp only[List.take_zero]
           exact wN h0 _ 0 cap [] rfl (by simp) (fun i r j c hi=>by simp at hi)
         · refine wN h0 _ n cap _ (by simp;omega) hr ?_
           intro i r j c hi hj;rw[List.getElem?_take]at hi;split at hi
           case isFalse=>cases hi
           case isTrue Fw=>
           rw[List.getElem?_drop]at hi;have qL:r.length=cX:=g4 r (List.mem_of_getElem? hi)
           have jE:j<r.length:=by
             rcases Nat.lt_or_ge j r.length with h'|h'
             · exact h'
             · rw[List.getElem?_eq_none h']at hj;cases hj
           have aF:(off+i)*cX+j<vs.size:=by
             have h8:(off+i+1)*cX≤br*cX:=Nat.mul_le_mul_right _ (by omega);rw[Nat.add_mul (off+i) 1]at h8;omega
           refine⟨vs[(off+i)*cX+j], ?_,g5 _ r j c _ hi hj (by simp[aF]),g6 _ _ (Array.getElem?_eq_getElem aF)⟩;rw[mO (by omega),Addr.add_lit,show off*cX+(i*cX+j)=(off+i)*cX+j by rw[Nat.add_mul];omega];simp[World.cell?,g1,aF]
      · cases hs
    · cases hs
  · cases hs
section
variable {t u ty e:TypeId} {i:TypeInfo} {z:Value} {du:TypeDesc}
theorem DH (ht:P.underlying t=some (.slice e)) (hu:P.underlying u=some du) (zt:(∃e',du=.slice e')\/du=.string) (hi:P.info? e=some i)
  {w:World} {g n cap m:Nat} {cur:Array Value} {pg:TypeId} (hg:w.heap[g]?=some (.cells cur pg (0,0))) {yv:Value} {news:List Value} (hl:news.length=m*i.size)
  (hlen:∀w',(Builtin.lenOf yv).run P w'=.ok m w') (xP:∀w':World,w'.heap=w.heap->(Builtin.firstCells i.size m yv).run P w'=.ok news.toArray w') (h1:∀u∈news,u.oneCell'=true)
  (BZ:n+m<=cap) (jL:n*i.size+news.length<=cur.size):
  (Builtin.append_ #[t,u] ty #[.slice (some ⟨g,0,none⟩) n cap,yv]).run P w=
   .ok (.slice (some ⟨g,0,none⟩) (n+m) cap) (w.setRow g (cur.toList.take (n*i.size)++news++cur.toList.drop (n*i.size+news.length)).toArray):=by
 have bc:=run_storeCells_at P g (n*i.size) pg news 0 cur w hg (by simpa using jL) h1;simp only[Nat.add_zero]at bc;have hf:=xP w rfl
 rcases zt with⟨e',rfl⟩|rfl<;>
  simp[Builtin.append_,run_underlying ht,run_underlying hu,sizeOf,typeInfo,hi,hlen,BZ,hf,Addr.add_lit,bc]
theorem wk (ht:P.underlying t=some (.slice e)) (hu:P.underlying u=some du) (zt:(∃e',du=.slice e')\/du=.string) (hi:P.info? e=some i)
  {w:World} {yv:Value} {news:List Value} (hlen:∀w',(Builtin.lenOf yv).run P w'=.ok 0 w') (xP:∀w':World,w'.heap=w.heap->(Builtin.firstCells i.size 0 yv).run P w'=.ok news.toArray w'):
  (Builtin.append_ #[t,u] ty #[.slice none 0 0,yv]).run P w=.ok (.slice none 0 0) w:=by
 have hf:=xP w rfl
 rcases zt with⟨e',rfl⟩|rfl<;>
  simp[Builtin.append_,run_underlying ht,run_underlying hu,sizeOf,typeInfo,hi,hlen,hf]
theorem DI (ht:P.underlying t=some (.slice e)) (hu:P.underlying u=some (.int .i64)) (hi:P.info? e=some i) (hz:i.zero=some z) (h0:0<i.size)
  {w:World} {k:Int} (hk:0<k) (h63:k<=140737488355328) (hb:k*i.bytes<=140737488355328):
  (Builtin.append_ #[t,u] ty #[.slice none 0 0,.int .i64 k]).run P w=
   .ok (.slice (some ⟨w.heap.size,0,none⟩) k.toNat (grownCap w k.toNat 0 e))
    (w.drew.alloc (.cells (Builtin.zeroCells z.cells k.toNat++Builtin.zeroCells z.cells (grownCap w k.toNat 0 e-k.toNat)) e)):=by
 have hw:IntKind.i64.wrap k=k:=by simp[IntKind.wrap,IntKind.bits,IntKind.signed];omega
 have afV:¬(k<0):=by omega
 have cG:¬(281474976710656<k*i.bytes):=by omega
 have pV:((k.toNat:Nat):Int)=k:=Int.toNat_of_nonneg (by omega);have hn:¬(k.toNat=0):=by omega
 have eN:¬(k.toNat*i.size=0):=by
  intro h;rcases Nat.mul_eq_zero.1 h with h|h<;>omega
 have hbn:k.toNat*i.bytes<=140737488355328:=by
  have:((k.toNat*i.bytes:Nat):Int)<=140737488355328:=by rw[Int.natCast_mul,pV];exact hb
  omega
 have MU:¬(9223372036854775807<k):=by omega
 have tl:=growslice_fits (need:=k.toNat) (old:=0) (bytes:=i.bytes) (by omega) hbn;have MV:¬(281474976710656<Builtin.nextslicecap k.toNat 0*i.bytes):=by omega
 simp[Builtin.append_,run_underlying ht,run_underlying hu,sizeOf,typeInfo,zeroValue,hi,hz,hw,afV,cG,hn,pV,eN,MU,MV,Question.forced,newRow,grownCap,asInt,asIntOf,Builtin.firstCells];have hle:¬(k<=0):=by omega
 have hmx:¬(9223372036854775807<max k 0):=by omega
 rw[if_neg hle,if_neg hmx]
theorem qN (ht:P.underlying t=some (.slice e)) (hu:P.underlying u=some du) (zt:(∃e',du=.slice e')\/du=.string) (hi:P.info? e=some i) (hz:i.zero=some z)
  {w:World} {base:Option Addr} {n cap m:Nat} {olds:List Value} {yv:Value} {news:List Value}
  (hlen:∀w',(Builtin.lenOf yv).run P w'=.ok m w') (xP:∀w':World,w'.heap=w.heap->(Builtin.firstCells i.size m yv).run P w'=.ok news.toArray w')
  (hold:∀w':World,w'.heap=w.heap->(Builtin.firstCells i.size n (.slice base n cap)).run P w'=.ok olds.toArray w')
  (hg:cap<n+m) (h63:n+m<=140737488355328) (hb:(n+m)*i.bytes<=140737488355328):
  (Builtin.append_ #[t,u] ty #[.slice base n cap,yv]).run P w=
   .ok (.slice (some ⟨w.heap.size,0,none⟩) (n+m) (grownCap w (n+m) cap e))
    (w.drew.alloc (.cells (olds.toArray++news.toArray++Builtin.zeroCells z.cells (grownCap w (n+m) cap e-(n+m))) e)):=by
 have hn:¬(n+m<=cap):=by omega
 have MU:¬(9223372036854775807<((n:Int)+(m:Int))):=by omega
 have tl:=growslice_fits (need:=n+m) (old:=cap) (bytes:=i.bytes) (by omega) hb;have MV:¬(281474976710656<Builtin.nextslicecap (n+m) cap*i.bytes):=by omega
 have hf:=xP w.drew rfl;have Qt:=hold w.drew rfl;rcases zt with⟨e',rfl⟩|rfl
 ·simp[Builtin.append_,run_underlying ht,run_underlying hu,sizeOf,typeInfo,zeroValue,hi,hz,hlen,hn,MU,MV,Question.forced,hf,Qt,newRow,grownCap]
  congr 2;apply Array.ext';simp[List.append_assoc]
 ·simp[Builtin.append_,run_underlying ht,run_underlying hu,sizeOf,typeInfo,zeroValue,hi,hz,hlen,hn,MU,MV,Question.forced,hf,Qt,newRow,grownCap]
  congr 2;apply Array.ext';simp[List.append_assoc]
end
end Go.AM
