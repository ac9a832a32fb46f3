/- The operations, at their end: structs and slices that are written out, bytes to a string. -/
import Derived.Test.YteilijfligofdaaGreatDoorAm13
set_option linter.all false
namespace Go.AM
variable {lv:List Nat} {P:Program} {N:Nat} {o:Oper} {st:St} {K:St->Prop} {θ:Th} {W:Im}
theorem wP (off:Nat):∀(l:List Value) (s:Nat) (cs:Array Value),off+s+l.length≤cs.size→
    (((l.zipIdx s).foldl (fun(cs:Array Value) (p:Value×Nat)=>cs.setIfInBounds (off+p.2) p.1) cs).size=cs.size)∧
    ∀k,((l.zipIdx s).foldl (fun(cs:Array Value) (p:Value×Nat)=>cs.setIfInBounds (off+p.2) p.1) cs)[k]?=if off+s≤k∧k<off+s+l.length then l[k-(off+s)]?else cs[k]?
  |[],s,cs,_ =>⟨rfl,fun k=>by rw[if_neg (by simp only[List.length_nil];omega)];rfl⟩
  |v::l,s,cs,h=>by
   simp only[List.zipIdx_cons,List.foldl_cons];simp only[List.length_cons]at h;obtain⟨h1,h2⟩:=wP off l (s+1) (cs.setIfInBounds (off+s) v) (by simp;omega);refine⟨by rw[h1];simp,fun k=> ?_⟩;rw[h2];simp only[List.length_cons];by_cases e:k=off+s
   · subst e
     rw[if_neg (by omega),if_pos (by omega)];have :off+s<cs.size:=by omega
     simp[this]
   · by_cases c:off+(s+1)≤k∧k<off+(s+1)+l.length
     · rw[if_pos c,if_pos (by omega)]
       have e2:k-(off+s)=(k-(off+(s+1)))+1:=by omega
       rw[e2,List.getElem?_cons_succ]
     · rw[if_neg c,if_neg (by omega)]
       rw[Array.getElem?_setIfInBounds_ne (by omega)]
structure xR (θ:Th) (W:Im) (cs:List AV) (vs:Array Value):Prop where
 size:vs.size=cs.length
 rel:∀(j:Nat) (c:AV) (v:Value),cs[j]?=some c->vs[j]?=some v->bb θ W c v
 one:∀(j:Nat) (v:Value),vs[j]?=some v->v.oneCell'=true
theorem xR.over {cs us fP:List AV} {vs uv:Array Value} {off:Nat} (h:xR θ W cs vs) (hu:xR θ W us uv) (hs:eG cs off us=some fP) (cK:us≠[]):
  off+uv.size<=vs.size/\xR θ W fP (uv.zipIdx.foldl (fun(cs:Array Value) (p:Value×Nat)=>cs.setIfInBounds (off+p.2) p.1) vs):=by
 obtain⟨h1,h2⟩:=rY hs cK;have hul:=hu.size;have hvl:=h.size
 have e:uv.zipIdx.foldl (fun(cs:Array Value) (p:Value×Nat)=>cs.setIfInBounds (off+p.2) p.1) vs=(uv.toList.zipIdx 0).foldl (fun(cs:Array Value) (p:Value×Nat)=>cs.setIfInBounds (off+p.2) p.1) vs:=by
  rw[<-Array.foldl_toList,Array.toList_zipIdx]
 obtain⟨f1,f2⟩:=wP off uv.toList 0 vs (by simp;omega);refine⟨by omega,?_,?_,?_⟩
 ·rw[e,f1,h2];simp;omega
 ·intro j c v hj hv
  rw[e,f2]at hv;rw[h2,fS _ _ _ _ h1]at hj;simp only[Nat.add_zero,Array.length_toList]at hv;split at hj
  ·rename_i c1
   rw[if_neg (by omega)]at hv;exact h.rel j c v hj hv
  ·rename_i c1
   split at hj
   ·rename_i c2
    rw[if_pos (by omega)]at hv;exact hu.rel _ c v hj (by simpa using hv)
   ·rename_i c2
    rw[if_neg (by omega)]at hv;exact h.rel j c v hj hv
 ·intro j v hv
  rw[e,f2]at hv;split at hv
  ·exact hu.one _ v (by simpa using hv)
  ·exact h.one j v hv
theorem tS {x:AV} {v:Value} (h:bb θ W x v) (hx:x.e8=true):xR θ W x.cells v.cells:=by
 obtain⟨a,b,c⟩:=wL h hx;exact⟨a,b,c⟩
theorem B1 (place:Nat->Option (Nat×Nat)) (cells:Array Value) (i:Nat) (v:Value) (rest:List (Nat×Value)) (off size:Nat) (hp:place i=some (off,size)) (h1:v.cells.size=size) (h2:off+v.cells.size<=cells.size):
  Instr.fill place cells ((i,v)::rest)=Instr.fill place (v.cells.zipIdx.foldl (fun(cs:Array Value) (p:Value×Nat)=>cs.setIfInBounds (off+p.2) p.1) cells) rest:=by
 have h3:¬(v.cells.size≠size):=by simp[h1]
 have h4:¬(off+v.cells.size>cells.size):=by omega
 simp[Instr.fill,hp,h1];intro h5;omega
theorem Fy {t:TypeId} {fs:Array Field} {a:Act} {w:World} (hR:Rl lv N st a w θ W) (Fu:P.underlying t=some (.struct fs)) (places:Array (Nat×Nat))
    (qK:∀(f:Nat) (fd:Field) (n:Nat),fs[f]?=some fd→eX P fd.type=some n→places[f]?=some (fd.offset,n)):
    ∀(ps:List (Nat×Operand)) (ms:List (Nat×Nat×MA)) (z z':List AV) (vs:Array Value),rS lv P t ps=some ms→nk st ms z=some z'→xR θ W z vs→(∀m∈ms,0<m.2.1)→
      ∃qO,Instr.fill (places[·]?) vs (ps.map fun p=>(p.1,a.eval p.2))=some qO∧xR θ W z' qO:=by
  intro ps
  induction ps with
  |nil=>
   intro ms z z' vs hc hp hr _;cases hc;cases hp
   exact⟨vs,rfl,hr⟩
  |cons p ps ih=>
   obtain⟨f,x⟩:=p;intro ms z z' vs hc hp hr wm;simp only[rS]at hc;split at hc
   case h_2=>cases hc
   case h_1 off ft n m l h1 h2 h3=>
   cases hc;rw[rW]at hp;split at hp
   case isFalse=>cases hp
   case isTrue fH=>
   simp only[Bool.and_eq_true,beq_iff_eq]at fH;have hn:0<n:=wm (off,n,m) (by simp);have hu:=tS (hR.arg h2) fH.1
   cases hs:eG z off (st.get m).cells with
   |none =>rw[hs]at hp;cases hp
   |some z1=>
    rw[hs]at hp;have cK:(st.get m).cells≠[]:=fun e=>by rw[e]at fH;simp at fH;omega
    obtain⟨o1,o2⟩:=hr.over hu hs cK
    have Xf:places[f]?=some (off,n):=by
      unfold nI at h1;rw[Fu]at h1;simp only at h1
      cases DC:fs[f]?with
      |none =>rw[DC]at h1;cases h1
      |some fd=>
       rw[DC]at h1;simp only at h1
       cases hz:eX P fd.type with
       |none =>rw[hz]at h1;cases h1
       |some n'=>rw[hz]at h1;cases h1;exact qK f fd n DC hz
    obtain⟨qO,v1,v2⟩:=ih l z1 z' _ h3 hp o2 (fun m hm=>wm m (List.mem_cons_of_mem _ hm));refine⟨qO, ?_,v2⟩;rw[List.map_cons,B1 _ _ _ _ _ off n Xf (by rw[hu.size,fH.2]) o1];exact v1
theorem ra:∀(l:List Field),(∀f∈l,∃n,eX P f.type=some n)→∀w,∃ps:List (Nat×Nat),(l.mapM fun f=>do pure (f.offset,←sizeOf f.type):Sem _).run P w= .ok ps w∧∀(k:Nat) (fd:Field) (n:Nat),l[k]?=some fd→eX P fd.type=some n→ps[k]?=some (fd.offset,n)
  |[],_,w=>⟨[],by simp,fun k fd n hk=>by simp at hk⟩
  |f::l,h,w=>by
   obtain⟨n,hn⟩:=h f (by simp);obtain⟨i,hi,eN⟩:=jW hn;obtain⟨ps,h1,h2⟩:=ra l (fun f hf=>h f (List.mem_cons_of_mem _ hf)) w;refine⟨(f.offset,n)::ps, ?_, ?_⟩
   · simp only[bind_pure_comp]at h1⊢
     simp[List.mapM_cons,sizeOf,typeInfo,hi,eN]at h1⊢;simp[h1]
   · intro k fd m hk hm
     cases k with
     |zero=>simp at hk;subst hk;rw[hn]at hm;cases hm;rfl
     |succ k=>simp at hk⊢;exact h2 k fd m hk hm
theorem run_places (fs:Array Field) (h:∀f∈fs,∃n,eX P f.type=some n) (w:World):
  ∃places:Array (Nat×Nat),(fs.mapM fun f=>do pure (f.offset,<-sizeOf f.type):Sem _).run P w=.ok places w/\∀(k:Nat) (fd:Field) (n:Nat),fs[k]?=some fd->eX P fd.type=some n->places[k]?=some (fd.offset,n):=by
 obtain⟨ps,h1,h2⟩:=ra (P:=P) fs.toList (fun f hf=>h f (by simpa using hf)) w;refine⟨ps.toArray,?_,fun k fd n hk hn=>by simpa using h2 k fd n (by simpa using hk) hn⟩;rw[Array.mapM_eq_mapM_toList];simp only[bind_pure_comp]at h1⊢;simp[h1]
theorem Og {t:TypeId} {ps:Array (Nat×Operand)} {fs:Array Field} {z:List AV} {ms:List (Nat×Nat×MA)} (ho:o.op= .build t ps) (Fu:P.underlying t=some (.struct fs)) (eN:∀f∈fs,∃n,eX P f.type=some n) (hz:zeroOf P t=some z) (wQ:rS lv P t ps.toList=some ms) (wm:∀m∈ms,0<m.2.1)
    (hd:o.dst.all (decide <| · <N)=true) (h:bC (vh st z ms) (cm lv o.dst) K st):fG lv P N o st K:=by
  intro a w θ W next Q hR hk
  obtain⟨v,hv,hK⟩:=dk h;obtain⟨i,zv,hi,qZ,B2⟩:=gx hz;obtain⟨z1,z2,z3⟩:=fg B2 θ W;rw[wI]at hv
  cases hp:nk st ms z with
  |none =>rw[hp]at hv;cases hv
  |some z'=>
   rw[hp]at hv;cases hv;obtain⟨places,p1,p2⟩:=run_places (P:=P) fs eN w;obtain⟨qO,f1,f2⟩:=Fy hR Fu places p2 ps.toList ms z z' zv.cells wQ hp ⟨by simpa using z1,fun j c v hj hv=>z2 j c v hj (by simpa using hv),fun j v hv=>z3 j v (by simpa using hv)⟩ wm;refine bm hR hd hk (v:= .agg qO) ?_ (.st z' qO f2.size f2.rel f2.one) hK;have Hf:Instr.fill (places[·]?) zv.cells (ps.map fun x=>(x.1,a.eval x.2)).toList=some qO:=by simpa using f1
   simp only[bind_pure_comp]at p1;simp[execOp,ho,Instr.build,zeroValue,typeInfo,hi,qZ,run_underlying Fu,p1];simp at Hf;rw[Hf]
   rfl
structure B3 (θ:Th) (W:Im) (sz:Nat) (rs:List (List AV)) (vs:Array Value):Prop where
 size:vs.size=rs.length*sz
 len:∀r∈rs,r.length=sz
 rel:∀(i:Nat) (r:List AV) (j:Nat) (c:AV) (v:Value),rs[i]?=some r->r[j]?=some c->vs[i*sz+j]?=some v->bb θ W c v
 one:∀(j:Nat) (v:Value),vs[j]?=some v->v.oneCell'=true
theorem B3.set {sz:Nat} {rs:List (List AV)} {vs uv:Array Value} {us:List AV} {i:Nat} (h:B3 θ W sz rs vs) (hu:xR θ W us uv) (hl:us.length=sz) (hi:i<rs.length):
  i*sz+uv.size<=vs.size/\B3 θ W sz (rs.set i us) (uv.zipIdx.foldl (fun(cs:Array Value) (p:Value×Nat)=>cs.setIfInBounds (i*sz+p.2) p.1) vs):=by
 have hul:=hu.size;have hvl:=h.size;have h8:(i+1)*sz<=rs.length*sz:=Nat.mul_le_mul_right _ hi;rw[Nat.add_mul]at h8
 have e:uv.zipIdx.foldl (fun(cs:Array Value) (p:Value×Nat)=>cs.setIfInBounds (i*sz+p.2) p.1) vs=(uv.toList.zipIdx 0).foldl (fun(cs:Array Value) (p:Value×Nat)=>cs.setIfInBounds (i*sz+p.2) p.1) vs:=by
  rw[<-Array.foldl_toList,Array.toList_zipIdx]
 obtain⟨f1,f2⟩:=wP (i*sz) uv.toList 0 vs (by simp;omega);refine⟨by omega,?_,?_,?_,?_⟩
 ·rw[e,f1];simpa using hvl
 ·intro r hr
  rcases List.mem_or_eq_of_mem_set hr with hr|rfl
  ·exact h.len r hr
  ·exact hl
 ·intro k r j c v hk hj hv
  rw[e,f2]at hv;simp only[Nat.add_zero,Array.length_toList]at hv;by_cases Oh:k=i
  ·subst Oh
   rw[List.getElem?_set_self hi]at hk;cases hk
   have jE:j<us.length:=by
    rcases Nat.lt_or_ge j us.length with h'|h'
    ·exact h'
    ·rw[List.getElem?_eq_none h']at hj;cases hj
   rw[if_pos (by omega),show k*sz+j-k*sz=j by omega]at hv;exact hu.rel j c v hj (by simpa using hv)
  ·rw[List.getElem?_set_ne (Ne.symm Oh)]at hk
   have qL:=h.len r (List.mem_of_getElem? hk)
   have jE:j<r.length:=by
    rcases Nat.lt_or_ge j r.length with h'|h'
    ·exact h'
    ·rw[List.getElem?_eq_none h']at hj;cases hj
   have de:¬(i*sz<=k*sz+j/\k*sz+j<i*sz+uv.size):=by
    rintro⟨q1,q2⟩;rcases Nat.lt_or_gt_of_ne Oh with iC|iC
    ·have:=Nat.mul_le_mul_right sz iC;rw[Nat.succ_mul]at this;omega
    ·have:=Nat.mul_le_mul_right sz iC;rw[Nat.succ_mul]at this;omega
   rw[if_neg de]at hv;exact h.rel k r j c v hk hj hv
 ·intro j v hv
  rw[e,f2]at hv;split at hv
  ·exact hu.one _ v (by simpa using hv)
  ·exact h.one j v hv
theorem B4 {sz:Nat} {a:Act} {w:World} (hR:Rl lv N st a w θ W):
    ∀(ps:List (Nat×Operand)) (ms:List (Nat×MA)) (rs pW:List (List AV)) (vs:Array Value),rT lv ps=some ms→kJ st sz ms rs=some pW→B3 θ W sz rs vs→
      ∃qO,Instr.fill (fun i=>some (i*sz,sz)) vs (ps.map fun p=>(p.1,a.eval p.2))=some qO∧B3 θ W sz pW qO∧pW.length=rs.length:=by
  intro ps
  induction ps with
  |nil=>
   intro ms rs pW vs hc hp hr;cases hc;cases hp
   exact⟨vs,rfl,hr,rfl⟩
  |cons p ps ih=>
   obtain⟨i,x⟩:=p;intro ms rs pW vs hc hp hr;simp only[rT]at hc;split at hc
   case h_2=>cases hc
   case h_1 m l h1 h2=>
   cases hc;rw[tN]at hp;split at hp
   case isFalse=>cases hp
   case isTrue fH=>
   simp only[Bool.and_eq_true,beq_iff_eq,decide_eq_true_eq]at fH;have hu:=tS (hR.arg h1) fH.1.1;obtain⟨o1,o2⟩:=hr.set hu fH.1.2 fH.2;obtain⟨qO,v1,v2,v3⟩:=ih l (rs.set i (st.get m).cells) pW _ h2 hp o2;refine⟨qO, ?_,v2,by rw[v3];simp⟩;rw[List.map_cons,B1 _ _ _ _ _ (i*sz) sz rfl (by rw[hu.size,fH.1.2]) o1];exact v1
theorem Xg {t e:TypeId} {n sz:Nat} {ps:Array (Nat×Operand)} {z:List AV} {ms:List (Nat×MA)} (ho:o.op= .buildSlice t n ps) (ht:P.underlying t=some (.slice e)) (eN:eX P e=some sz) (hz:zeroOf P e=some z) (tP:z.length=sz) (h0:0<sz) (Ax:n*sz≤16777216)
    (wQ:rT lv ps.toList=some ms) (hd:o.dst.all (decide <| · <N)=true) (h:we ((kJ st sz ms (List.replicate n z)).map fun rs=> .rows sz 0 rs) (fun id=> .gs id 0 0 n) (cm lv o.dst) K st):fG lv P N o st K:=by
  intro a w θ W next Q hR hk
  obtain⟨i,zv,hi,qZ,B2⟩:=gx hz;obtain⟨z1,z2,z3⟩:=fg B2 θ W;obtain⟨i',iR,pf⟩:=jW eN;rw[hi]at iR;cases iR
  cases kK:kJ st sz ms (List.replicate n z)with
  |none =>rw[kK]at h;exact h.elim
  |some rs=>
   rw[kK]at h;have tj:zv.cells.size=sz:=by rw[←tP,←z1];simp
   have eV:∀k,k<n*sz→(madeCells zv.cells (n*sz))[k]?=zv.cells[k % sz]?:=by
     intro k ic;have hm:k % sz<zv.cells.size:=by rw[tj];exact Nat.mod_lt _ h0
     simp[madeCells,ic,tj,hm,Nat.mod_lt _ h0]
   have Oi:B3 θ W sz (List.replicate n z) (madeCells zv.cells (n*sz)):=by
     refine⟨by rw[size_madeCells];simp,by simp;intro _;exact tP, ?_, ?_⟩
     · intro p r j q u hp hj hu
       rw[List.getElem?_replicate]at hp;split at hp
       · rename_i aF
         cases hp
         have tQ:j<z.length:=by
           rcases Nat.lt_or_ge j z.length with h'|h'
           · exact h'
           · rw[List.getElem?_eq_none h']at hj;cases hj
         have gy:p*sz+j<n*sz:=by
           have :(p+1)*sz≤n*sz:=Nat.mul_le_mul_right _ (by omega);rw[Nat.add_mul]at this;omega
         rw[eV _ gy,Nat.mul_comm,Nat.mul_add_mod,Nat.mod_eq_of_lt (by omega)]at hu;exact z2 j q u hj (by simpa using hu)
       · cases hp
     · intro j u hu
       have aF:j<n*sz:=by
         rcases Nat.lt_or_ge j (n*sz)with h'|h'
         · exact h'
         · rw[Array.getElem?_eq_none (by rw[size_madeCells];exact h')]at hu;cases hu
       rw[eV _ aF]at hu;exact z3 _ u (by simpa using hu)
   obtain⟨qO,f1,f2,f3⟩:=B4 hR ps.toList ms _ rs _ wQ kK Oi;have qL:rs.length=n:=by rw[f3];simp
   obtain⟨aX,a1,a2,a3⟩:=xO (w0:=w) hR.mem sz rs qO e n rfl rfl rfl rfl (by rw[f2.size,qL]) (by omega) f2.len f2.rel f2.one;have ah:n≤n*sz:=Nat.le_mul_of_pos_right n h0;refine gD hR hd hk (v:= .slice (some ⟨w.heap.size,0,none⟩) n n) ?_ (.gs _ 0 0 n w.heap.size sz n 0 n a3 (Nat.le_refl _) (by unfold ia;omega) (by omega) (fun _ =>by simp) (fun _ =>rfl)) a1 a2 h;have xS:¬16777216<n*i.size:=by rw[pf];omega
   have e2:Array.map (fun x=>zv.cells[x % zv.cells.size]!) (Array.range (n*sz))=madeCells zv.cells (n*sz):=rfl;have Hf:Instr.fill (fun i=>some (i*sz,sz)) (madeCells zv.cells (n*sz)) (List.map (fun x=>(x.1,a.eval x.2)) ps.toList)=some qO:=by simpa using f1
   by_cases G6:n=0
   · subst G6
     have e3:Array.map (fun _ =>(default :Value)) (Array.range 0)=madeCells zv.cells (0*sz):=by
       apply Array.ext';simp[madeCells]
     simp[execOp,ho,Instr.buildSlice,run_underlying ht,sizeOf,typeInfo,hi,newRow];rw[pf,e3,Hf]
     rfl
   · have cK:¬n*i.size=0:=by rw[pf];exact fun e=>by rcases Nat.mul_eq_zero.1 e with e|e<;>omega
     simp[execOp,ho,Instr.buildSlice,run_underlying ht,sizeOf,typeInfo,zeroValue,hi,qZ,xS,newRow,G6];rw[if_neg (by omega)];rw[pf,e2,Hf]
     rfl
theorem DJ {ys:List (List AV)} {l:List UInt8} (h:bytesOf ys=some l):∃ns:List Int,ys=ns.map (fun n=>[AV.p (.i .u8 n)])∧l=ns.map (fun n=>UInt8.ofNat n.toNat):=by
  induction ys generalizing l with
  |nil=>cases h;exact⟨[],rfl,rfl⟩
  |cons y ys ih=>
   unfold bytesOf at h;split at h
   · rename_i e;cases e
   · rename_i n xs e
     cases e
     cases hb:bytesOf ys with
     |none =>rw[hb]at h;cases h
     |some l'=>
      rw[hb]at h;cases h;obtain⟨ns,h1,h2⟩:=ih hb;exact⟨n::ns,by rw[h1];rfl,by rw[h2];rfl⟩
   · cases h
theorem Xh {s t e:TypeId} {x:Operand} {m:MA} (ho:o.op= .convert s t x) (hs:P.underlying s=some (.slice e)) (he:P.underlying e=some (.int .u8)) (ht:P.underlying t=some .string) (hx:bK lv x=some m)
    (hd:o.dst.all (decide <| · <N)=true) (h:bC (p8 st.H (st.get m)) (cm lv o.dst) K st):fG lv P N o st K:=by
  intro a w θ W next Q hR hk
  have h1:=hR.arg hx;obtain⟨v,hv,hK⟩:=dk h
  have pU:∃ys l,dj st.H 1 (st.get m)=some ys∧ys.length≤140737488355328∧bytesOf ys=some l∧v= .p (.s l)∧∀s,a.eval x≠ .string s:=by
    have inv:∀o',oH o'=some v→∃ys l,o'=some ys∧ys.length≤140737488355328∧bytesOf ys=some l∧v= .p (.s l):=by
      intro o' mO
      cases o' with
      |none =>cases mO
      |some ys=>
       simp only[oH]at mO;split at mO
       · rename_i hl
         cases hb:bytesOf ys with
         |none =>rw[hb]at mO;cases mO
         |some l=>rw[hb]at mO;cases mO;exact⟨ys,l,rfl,hl,hb,rfl⟩
       · cases mO
    unfold p8 at hv;split at hv
    · rename_i ys e
      rw[e]at h1;obtain⟨Qq,l,q1,q2,q3,q4⟩:=inv _ hv;exact⟨Qq,l,by rw[e];exact q1,q2,q3,q4,fun s hs=>by rw[hs]at h1;cases h1.gE⟩
    · rename_i e
      rw[e]at h1;obtain⟨Qq,l,q1,q2,q3,q4⟩:=inv _ hv;cases q1;exact⟨[],l,by rw[e];rfl,q2,q3,q4,fun s hs=>by rw[hs]at h1;cases h1.gE⟩
    · rename_i id ver off n e
      rw[e]at h1;obtain⟨Qq,l,q1,q2,q3,q4⟩:=inv _ hv;exact⟨Qq,l,by rw[e];exact q1,q2,q3,q4,fun s hs=>by rw[hs]at h1;cases h1⟩
    · cases hv
  obtain⟨ys,l,ie,hlen,hb,rfl,aat⟩:=pU;obtain⟨ns,e1,e2⟩:=DJ hb;obtain⟨news,s1,s2,s3,s4,s5⟩:=Fv (P:=P) hR.mem (Nat.one_pos) h1 ie (by rw[e1];intro r hr;simp only[List.mem_map]at hr;obtain⟨n,_,rfl⟩:=hr;rfl);have hll:l.length=ys.length:=by rw[e2,e1];simp
  have QE:news=ns.map (Value.int .u8):=by
    apply List.ext_getElem?;intro k;by_cases ic:k<ns.length
    · have hkn:k<news.length:=by rw[s1,e1];simpa using ic
      have :=s5 k [AV.p (.i .u8 ns[k])] 0 (.p (.i .u8 ns[k])) news[k] (by rw[e1];simp[ic]) rfl (by simp[hkn]);have :=this.fh;simp[ic,hkn,this]
    · rw[List.getElem?_eq_none (by rw[s1,e1];simp;omega),List.getElem?_eq_none (by simp;omega)]
  refine bm hR hd hk (v:= .string ⟨l.toArray⟩) ?_ (.p _ _ (.s _ (by rw[hll];unfold ia;omega))) hK;generalize Of:a.eval x=va at h1 s2 s3 aat
  have DK:∃ad n cap,va= .slice ad n cap:=by
    cases va with
    |slice ad n cap=>exact⟨ad,n,cap,rfl⟩
    |string s=>exact(aat s rfl).elim
    |_ =>have :=s2 w;simp[Builtin.lenOf]at this
  obtain⟨ad,n,cap,rfl⟩:=DK
  have hn:n=ys.length:=by
    have :=s2 w;simp[Builtin.lenOf]at this;exact this
  have hc:=run_convert_bytes_string (P:=P) w s t e ad n cap hs he ht
  cases ad with
  |none =>
   have h3:=s3 w rfl;simp[Builtin.firstCells]at h3
   have G6:ns=[]:=by
     rw[QE]at h3
     cases ns with
     |nil=>rfl
     |cons n ns=>cases h3
   subst G6;simp at e2;subst e2;simp[execOp,ho,Of,hc,Conv.bytesToString]
   rfl
  |some ad=>
   have h3:=s3 w rfl
   have acU:(loadCells ad n).run P w= .ok (ns.map (Value.int .u8)).toArray w:=by
     simpa[Builtin.firstCells,hn,QE]using h3
   have pU:=run_bytesToString (P:=P) w ad n cap ns acU;simp[execOp,ho,Of,hc,pU,foldl_push_bytes];rw[e2]
end Go.AM
