/- The operations, at their end: structs and slices that are written out, bytes to a string. -/
import Derived.Test.YtjkbbnfdbfcebaaGreatDoorAm13
set_option linter.all false
namespace Go.AM
variable {lv:List Nat} {P:Program} {N:Nat} {o:Oper} {st:St} {K:St->Prop} {θ:Th} {W:Im}
theorem wk (off:Nat):∀(l:List Value) (s:Nat) (cs:Array Value),off+s+l.length≤cs.size→
    (((l.zipIdx s).foldl (fun(cs:Array Value) (p:Value×Nat)=>cs.setIfInBounds (off+p.2) p.1) cs).size=cs.size)∧
    ∀k,((l.zipIdx s).foldl (fun(cs:Array Value) (p:Value×Nat)=>cs.setIfInBounds (off+p.2) p.1) cs)[k]?=if off+s≤k∧k<off+s+l.length then l[k-(off+s)]?else cs[k]?
  |[],s,cs,_ =>⟨rfl,fun k=>by rw[if_neg (by simp only[List.length_nil];omega)];rfl⟩
  |v::l,s,cs,h=>by
   simp only[List.zipIdx_cons,List.foldl_cons];simp only[List.length_cons]at h;obtain⟨h1,h2⟩:=wk off l (s+1) (cs.setIfInBounds (off+s) v) (by simp;omega);refine⟨by rw[h1];simp,fun k=> ?_⟩;rw[h2];simp only[List.length_cons];by_cases e:k=off+s
   · subst e
     rw[if_neg (by omega),if_pos (by omega)];have :off+s<cs.size:=by omega
     simp[this]
   · by_cases c:off+(s+1)≤k∧k<off+(s+1)+l.length
     · rw[if_pos c,if_pos (by omega)]
       have e2:k-(off+s)=(k-(off+(s+1)))+1:=by omega
       rw[e2,List.getElem?_cons_succ]
     · rw[if_neg c,if_neg (by omega)]
       rw[Array.getElem?_setIfInBounds_ne (by omega)]
structure xz (θ:Th) (W:Im) (cs:List AV) (vs:Array Value):Prop where
 size:vs.size=cs.length
 rel:∀(j:Nat) (c:AV) (v:Value),cs[j]?=some c->vs[j]?=some v->bc θ W c v
 one:∀(j:Nat) (v:Value),vs[j]?=some v->v.oneCell'=true
theorem xz.over {cs us gG:List AV} {vs uv:Array Value} {off:Nat} (h:xz θ W cs vs) (hu:xz θ W us uv) (hs:dU cs off us=some gG) (cX:us≠[]):
  off+uv.size<=vs.size/\xz θ W gG (uv.zipIdx.foldl (fun(cs:Array Value) (p:Value×Nat)=>cs.setIfInBounds (off+p.2) p.1) vs):=by
 obtain⟨h1,h2⟩:=rJ hs cX;have hul:=hu.size;have hvl:=h.size
 have e:uv.zipIdx.foldl (fun(cs:Array Value) (p:Value×Nat)=>cs.setIfInBounds (off+p.2) p.1) vs=(uv.toList.zipIdx 0).foldl (fun(cs:Array Value) (p:Value×Nat)=>cs.setIfInBounds (off+p.2) p.1) vs:=by
  rw[<-Array.foldl_toList,Array.toList_zipIdx]
 obtain⟨f1,f2⟩:=wk off uv.toList 0 vs (by simp;omega);refine⟨by omega,?_,?_,?_⟩
 ·rw[e,f1,h2];simp;omega
 ·intro j c v hj hv
  rw[e,f2]at hv;rw[h2,fQ _ _ _ _ h1]at hj;simp only[Nat.add_zero,Array.length_toList]at hv;split at hj
  ·rename_i c1
   rw[if_neg (by omega)]at hv;exact h.rel j c v hj hv
  ·rename_i c1
   split at hj
   ·rename_i c2
    rw[if_pos (by omega)]at hv;exact hu.rel _ c v hj (by simpa using hv)
   ·rename_i c2
    rw[if_neg (by omega)]at hv;exact h.rel j c v hj hv
 ·intro j v hv
  rw[e,f2]at hv;split at hv
  ·exact hu.one _ v (by simpa using hv)
  ·exact h.one j v hv
theorem tH {x:AV} {v:Value} (h:bc θ W x v) (hx:x.eZ=true):xz θ W x.cells v.cells:=by
 obtain⟨a,b,c⟩:=wg h hx;exact⟨a,b,c⟩
theorem BN (place:Nat->Option (Nat×Nat)) (cells:Array Value) (i:Nat) (v:Value) (rest:List (Nat×Value)) (off size:Nat) (hp:place i=some (off,size)) (h1:v.cells.size=size) (h2:off+v.cells.size<=cells.size):
  Instr.fill place cells ((i,v)::rest)=Instr.fill place (v.cells.zipIdx.foldl (fun(cs:Array Value) (p:Value×Nat)=>cs.setIfInBounds (off+p.2) p.1) cells) rest:=by
 have h3:¬(v.cells.size≠size):=by simp[h1]
 have h4:¬(off+v.cells.size>cells.size):=by omega
 simp[Instr.fill,hp,h1];intro h5;omega
theorem E4 {t:TypeId} {fs:Array Field} {a:Act} {w:World} (hR:Rl lv N st a w θ W) (E0:P.underlying t=some (.struct fs)) (places:Array (Nat×Nat))
    (qz:∀(f:Nat) (fd:Field) (n:Nat),fs[f]?=some fd→eV P fd.type=some n→places[f]?=some (fd.offset,n)):
    ∀(ps:List (Nat×Operand)) (ms:List (Nat×Nat×MA)) (z z':List AV) (vs:Array Value),rD lv P t ps=some ms→mY st ms z=some z'→xz θ W z vs→(∀m∈ms,0<m.2.1)→
      ∃qC,Instr.fill (places[·]?) vs (ps.map fun p=>(p.1,a.eval p.2))=some qC∧xz θ W z' qC:=by
  intro ps
  induction ps with
  |nil=>
   intro ms z z' vs hc hp hr _;cases hc;cases hp
   exact⟨vs,rfl,hr⟩
  |cons p ps ih=>
   obtain⟨f,x⟩:=p;intro ms z z' vs hc hp hr vP;simp only[rD]at hc;split at hc
   case h_2=>cases hc
   case h_1 off ft n m l h1 h2 h3=>
   cases hc;rw[rH]at hp;split at hp
   case isFalse=>cases hp
   case isTrue fy=>
   simp only[Bool.and_eq_true,beq_iff_eq]at fy;have hn:0<n:=vP (off,n,m) (by simp);have hu:=tH (hR.arg h2) fy.1
   cases hs:dU z off (st.get m).cells with
   |none =>rw[hs]at hp;cases hp
   |some z1=>
    rw[hs]at hp;have cX:(st.get m).cells≠[]:=fun e=>by rw[e]at fy;simp at fy;omega
    obtain⟨o1,o2⟩:=hr.over hu hs cX
    have W4:places[f]?=some (off,n):=by
      unfold nw at h1;rw[E0]at h1;simp only at h1
      cases Dc:fs[f]?with
      |none =>rw[Dc]at h1;cases h1
      |some fd=>
       rw[Dc]at h1;simp only at h1
       cases hz:eV P fd.type with
       |none =>rw[hz]at h1;cases h1
       |some n'=>rw[hz]at h1;cases h1;exact qz f fd n Dc hz
    obtain⟨qC,v1,v2⟩:=ih l z1 z' _ h3 hp o2 (fun m hm=>vP m (List.mem_cons_of_mem _ hm));refine⟨qC, ?_,v2⟩;rw[List.map_cons,BN _ _ _ _ _ off n W4 (by rw[hu.size,fy.2]) o1];exact v1
theorem qS:∀(l:List Field),(∀f∈l,∃n,eV P f.type=some n)→∀w,∃ps:List (Nat×Nat),(l.mapM fun f=>do pure (f.offset,←sizeOf f.type):Sem _).run P w= .ok ps w∧∀(k:Nat) (fd:Field) (n:Nat),l[k]?=some fd→eV P fd.type=some n→ps[k]?=some (fd.offset,n)
  |[],_,w=>⟨[],by simp,fun k fd n hk=>by simp at hk⟩
  |f::l,h,w=>by
   obtain⟨n,hn⟩:=h f (by simp);obtain⟨i,hi,cL⟩:=jV hn;obtain⟨ps,h1,h2⟩:=qS l (fun f hf=>h f (List.mem_cons_of_mem _ hf)) w;refine⟨(f.offset,n)::ps, ?_, ?_⟩
   · simp only[bind_pure_comp]at h1⊢
     simp[List.mapM_cons,sizeOf,typeInfo,hi,cL]at h1⊢;simp[h1]
   · intro k fd m hk hm
     cases k with
     |zero=>simp at hk;subst hk;rw[hn]at hm;cases hm;rfl
     |succ k=>simp at hk⊢;exact h2 k fd m hk hm
theorem run_places (fs:Array Field) (h:∀f∈fs,∃n,eV P f.type=some n) (w:World):
  ∃places:Array (Nat×Nat),(fs.mapM fun f=>do pure (f.offset,<-sizeOf f.type):Sem _).run P w=.ok places w/\∀(k:Nat) (fd:Field) (n:Nat),fs[k]?=some fd->eV P fd.type=some n->places[k]?=some (fd.offset,n):=by
 obtain⟨ps,h1,h2⟩:=qS (P:=P) fs.toList (fun f hf=>h f (by simpa using hf)) w;refine⟨ps.toArray,?_,fun k fd n hk hn=>by simpa using h2 k fd n (by simpa using hk) hn⟩;rw[Array.mapM_eq_mapM_toList];simp only[bind_pure_comp]at h1⊢;simp[h1]
theorem Nj {t:TypeId} {ps:Array (Nat×Operand)} {fs:Array Field} {z:List AV} {ms:List (Nat×Nat×MA)} (ho:o.op= .build t ps) (E0:P.underlying t=some (.struct fs)) (cL:∀f∈fs,∃n,eV P f.type=some n) (hz:zeroOf P t=some z) (tI:rD lv P t ps.toList=some ms) (vP:∀m∈ms,0<m.2.1)
    (hd:o.dst.all (decide <| · <N)=true) (h:bK (uM st z ms) (cB lv o.dst) K st):fx lv P N o st K:=by
  intro a w θ W next Q hR hk
  obtain⟨v,hv,hK⟩:=dw h;obtain⟨i,zv,hi,qQ,BO⟩:=gC hz;obtain⟨z1,z2,z3⟩:=fe BO θ W;rw[wc]at hv
  cases hp:mY st ms z with
  |none =>rw[hp]at hv;cases hv
  |some z'=>
   rw[hp]at hv;cases hv;obtain⟨places,p1,p2⟩:=run_places (P:=P) fs cL w;obtain⟨qC,f1,f2⟩:=E4 hR E0 places p2 ps.toList ms z z' zv.cells tI hp ⟨by simpa using z1,fun j c v hj hv=>z2 j c v hj (by simpa using hv),fun j v hv=>z3 j v (by simpa using hv)⟩ vP;refine bA hR hd hk (v:= .agg qC) ?_ (.st z' qC f2.size f2.rel f2.one) hK;have GU:Instr.fill (places[·]?) zv.cells (ps.map fun x=>(x.1,a.eval x.2)).toList=some qC:=by simpa using f1
   simp only[bind_pure_comp]at p1;simp[execOp,ho,Instr.build,zeroValue,typeInfo,hi,qQ,run_underlying E0,p1];simp at GU;rw[GU]
   rfl
structure BP (θ:Th) (W:Im) (sz:Nat) (rs:List (List AV)) (vs:Array Value):Prop where
 size:vs.size=rs.length*sz
 len:∀r∈rs,r.length=sz
 rel:∀(i:Nat) (r:List AV) (j:Nat) (c:AV) (v:Value),rs[i]?=some r->r[j]?=some c->vs[i*sz+j]?=some v->bc θ W c v
 one:∀(j:Nat) (v:Value),vs[j]?=some v->v.oneCell'=true
theorem BP.set {sz:Nat} {rs:List (List AV)} {vs uv:Array Value} {us:List AV} {i:Nat} (h:BP θ W sz rs vs) (hu:xz θ W us uv) (hl:us.length=sz) (hi:i<rs.length):
  i*sz+uv.size<=vs.size/\BP θ W sz (rs.set i us) (uv.zipIdx.foldl (fun(cs:Array Value) (p:Value×Nat)=>cs.setIfInBounds (i*sz+p.2) p.1) vs):=by
 have hul:=hu.size;have hvl:=h.size;have h8:(i+1)*sz<=rs.length*sz:=Nat.mul_le_mul_right _ hi;rw[Nat.add_mul]at h8
 have e:uv.zipIdx.foldl (fun(cs:Array Value) (p:Value×Nat)=>cs.setIfInBounds (i*sz+p.2) p.1) vs=(uv.toList.zipIdx 0).foldl (fun(cs:Array Value) (p:Value×Nat)=>cs.setIfInBounds (i*sz+p.2) p.1) vs:=by
  rw[<-Array.foldl_toList,Array.toList_zipIdx]
 obtain⟨f1,f2⟩:=wk (i*sz) uv.toList 0 vs (by simp;omega);refine⟨by omega,?_,?_,?_,?_⟩
 ·rw[e,f1];simpa using hvl
 ·intro r hr
  rcases List.mem_or_eq_of_mem_set hr with hr|rfl
  ·exact h.len r hr
  ·exact hl
 ·intro k r j c v hk hj hv
  rw[e,f2]at hv;simp only[Nat.add_zero,Array.length_toList]at hv;by_cases Nk:k=i
  ·subst Nk
   rw[List.getElem?_set_self hi]at hk;cases hk
   have me:j<us.length:=by
    rcases Nat.lt_or_ge j us.length with h'|h'
    ·exact h'
    ·rw[List.getElem?_eq_none h']at hj;cases hj
   rw[if_pos (by omega),show k*sz+j-k*sz=j by omega]at hv;exact hu.rel j c v hj (by simpa using hv)
  ·rw[List.getElem?_set_ne (Ne.symm Nk)]at hk
   have n9:=h.len r (List.mem_of_getElem? hk)
   have me:j<r.length:=by
    rcases Nat.lt_or_ge j r.length with h'|h'
    ·exact h'
    ·rw[List.getElem?_eq_none h']at hj;cases hj
   have dh:¬(i*sz<=k*sz+j/\k*sz+j<i*sz+uv.size):=by
    rintro⟨q1,q2⟩;rcases Nat.lt_or_gt_of_ne Nk with iy|iy
    ·have:=Nat.mul_le_mul_right sz iy;rw[Nat.succ_mul]at this;omega
    ·have:=Nat.mul_le_mul_right sz iy;rw[Nat.succ_mul]at this;omega
   rw[if_neg dh]at hv;exact h.rel k r j c v hk hj hv
 ·intro j v hv
  rw[e,f2]at hv;split at hv
  ·exact hu.one _ v (by simpa using hv)
  ·exact h.one j v hv
theorem BQ {sz:Nat} {a:Act} {w:World} (hR:Rl lv N st a w θ W):
    ∀(ps:List (Nat×Operand)) (ms:List (Nat×MA)) (rs rM:List (List AV)) (vs:Array Value),rE lv ps=some ms→kL st sz ms rs=some rM→BP θ W sz rs vs→
      ∃qC,Instr.fill (fun i=>some (i*sz,sz)) vs (ps.map fun p=>(p.1,a.eval p.2))=some qC∧BP θ W sz rM qC∧rM.length=rs.length:=by
  intro ps
  induction ps with
  |nil=>
   intro ms rs rM vs hc hp hr;cases hc;cases hp
   exact⟨vs,rfl,hr,rfl⟩
  |cons p ps ih=>
   obtain⟨i,x⟩:=p;intro ms rs rM vs hc hp hr;simp only[rE]at hc;split at hc
   case h_2=>cases hc
   case h_1 m l h1 h2=>
   cases hc;rw[tC]at hp;split at hp
   case isFalse=>cases hp
   case isTrue fy=>
   simp only[Bool.and_eq_true,beq_iff_eq,decide_eq_true_eq]at fy;have hu:=tH (hR.arg h1) fy.1.1;obtain⟨o1,o2⟩:=hr.set hu fy.1.2 fy.2;obtain⟨qC,v1,v2,v3⟩:=ih l (rs.set i (st.get m).cells) rM _ h2 hp o2;refine⟨qC, ?_,v2,by rw[v3];simp⟩;rw[List.map_cons,BN _ _ _ _ _ (i*sz) sz rfl (by rw[hu.size,fy.1.2]) o1];exact v1
theorem W5 {t e:TypeId} {n sz:Nat} {ps:Array (Nat×Operand)} {z:List AV} {ms:List (Nat×MA)} (ho:o.op= .buildSlice t n ps) (ht:P.underlying t=some (.slice e)) (cL:eV P e=some sz) (hz:zeroOf P e=some z) (tE:z.length=sz) (h0:0<sz) (z8:n*sz≤16777216)
    (tI:rE lv ps.toList=some ms) (hd:o.dst.all (decide <| · <N)=true) (h:vJ ((kL st sz ms (List.replicate n z)).map fun rs=> .rows sz 0 rs) (fun id=> .gs id 0 0 n) (cB lv o.dst) K st):fx lv P N o st K:=by
  intro a w θ W next Q hR hk
  obtain⟨i,zv,hi,qQ,BO⟩:=gC hz;obtain⟨z1,z2,z3⟩:=fe BO θ W;obtain⟨i',iQ,oW⟩:=jV cL;rw[hi]at iQ;cases iQ
  cases kN:kL st sz ms (List.replicate n z)with
  |none =>rw[kN]at h;exact h.elim
  |some rs=>
   rw[kN]at h;have sO:zv.cells.size=sz:=by rw[←tE,←z1];simp
   have eS:∀k,k<n*sz→(madeCells zv.cells (n*sz))[k]?=zv.cells[k % sz]?:=by
     intro k ia;have hm:k % sz<zv.cells.size:=by rw[sO];exact Nat.mod_lt _ h0
     simp[madeCells,ia,sO,hm,Nat.mod_lt _ h0]
   have Nl:BP θ W sz (List.replicate n z) (madeCells zv.cells (n*sz)):=by
     refine⟨by rw[size_madeCells];simp,by simp;intro _;exact tE, ?_, ?_⟩
     · intro p r j q u hp hj hu
       rw[List.getElem?_replicate]at hp;split at hp
       · rename_i aj
         cases hp
         have tF:j<z.length:=by
           rcases Nat.lt_or_ge j z.length with h'|h'
           · exact h'
           · rw[List.getElem?_eq_none h']at hj;cases hj
         have gD:p*sz+j<n*sz:=by
           have :(p+1)*sz≤n*sz:=Nat.mul_le_mul_right _ (by omega);rw[Nat.add_mul]at this;omega
         rw[eS _ gD,Nat.mul_comm,Nat.mul_add_mod,Nat.mod_eq_of_lt (by omega)]at hu;exact z2 j q u hj (by simpa using hu)
       · cases hp
     · intro j u hu
       have aj:j<n*sz:=by
         rcases Nat.lt_or_ge j (n*sz)with h'|h'
         · exact h'
         · rw[Array.getElem?_eq_none (by rw[size_madeCells];exact h')]at hu;cases hu
       rw[eS _ aj]at hu;exact z3 _ u (by simpa using hu)
   obtain⟨qC,f1,f2,f3⟩:=BQ hR ps.toList ms _ rs _ tI kN Nl;have n9:rs.length=n:=by rw[f3];simp
   obtain⟨bd,a1,a2,a3⟩:=xw (w0:=w) hR.mem sz rs qC e n rfl rfl rfl rfl (by rw[f2.size,n9]) (by omega) f2.len f2.rel f2.one;have ar:n≤n*sz:=Nat.le_mul_of_pos_right n h0;refine gL hR hd hk (v:= .slice (some ⟨w.heap.size,0,none⟩) n n) ?_ (.gs _ 0 0 n w.heap.size sz n 0 n a3 (Nat.le_refl _) (by unfold fb;omega) (by omega) (fun _ =>by simp) (fun _ =>rfl)) a1 a2 h;have xA:¬16777216<n*i.size:=by rw[oW];omega
   have e2:Array.map (fun x=>zv.cells[x % zv.cells.size]!) (Array.range (n*sz))=madeCells zv.cells (n*sz):=rfl;have GU:Instr.fill (fun i=>some (i*sz,sz)) (madeCells zv.cells (n*sz)) (List.map (fun x=>(x.1,a.eval x.2)) ps.toList)=some qC:=by simpa using f1
   by_cases GN:n=0
   · subst GN
     have e3:Array.map (fun _ =>(default :Value)) (Array.range 0)=madeCells zv.cells (0*sz):=by
       apply Array.ext';simp[madeCells]
     simp[execOp,ho,Instr.buildSlice,run_underlying ht,sizeOf,typeInfo,hi,newRow];rw[oW,e3,GU]
     rfl
   · have cX:¬n*i.size=0:=by rw[oW];exact fun e=>by rcases Nat.mul_eq_zero.1 e with e|e<;>omega
     simp[execOp,ho,Instr.buildSlice,run_underlying ht,sizeOf,typeInfo,zeroValue,hi,qQ,xA,newRow,GN];rw[if_neg (by omega)];rw[oW,e2,GU]
     rfl
theorem Dk {ys:List (List AV)} {l:List UInt8} (h:bytesOf ys=some l):∃ns:List Int,ys=ns.map (fun n=>[AV.p (.i .u8 n)])∧l=ns.map (fun n=>UInt8.ofNat n.toNat):=by
  induction ys generalizing l with
  |nil=>cases h;exact⟨[],rfl,rfl⟩
  |cons y ys ih=>
   unfold bytesOf at h;split at h
   · rename_i e;cases e
   · rename_i n xs e
     cases e
     cases hb:bytesOf ys with
     |none =>rw[hb]at h;cases h
     |some l'=>
      rw[hb]at h;cases h;obtain⟨ns,h1,h2⟩:=ih hb;exact⟨n::ns,by rw[h1];rfl,by rw[h2];rfl⟩
   · cases h
theorem W6 {s t e:TypeId} {x:Operand} {m:MA} (ho:o.op= .convert s t x) (hs:P.underlying s=some (.slice e)) (he:P.underlying e=some (.int .u8)) (ht:P.underlying t=some .string) (hx:bQ lv x=some m)
    (hd:o.dst.all (decide <| · <N)=true) (h:bK (pY st.H (st.get m)) (cB lv o.dst) K st):fx lv P N o st K:=by
  intro a w θ W next Q hR hk
  have h1:=hR.arg hx;obtain⟨v,hv,hK⟩:=dw h
  have mE:∃ys l,dt st.H 1 (st.get m)=some ys∧ys.length≤140737488355328∧bytesOf ys=some l∧v= .p (.s l)∧∀s,a.eval x≠ .string s:=by
    have inv:∀o',ot o'=some v→∃ys l,o'=some ys∧ys.length≤140737488355328∧bytesOf ys=some l∧v= .p (.s l):=by
      intro o' mG
      cases o' with
      |none =>cases mG
      |some ys=>
       simp only[ot]at mG;split at mG
       · rename_i hl
         cases hb:bytesOf ys with
         |none =>rw[hb]at mG;cases mG
         |some l=>rw[hb]at mG;cases mG;exact⟨ys,l,rfl,hl,hb,rfl⟩
       · cases mG
    unfold pY at hv;split at hv
    · rename_i ys e
      rw[e]at h1;obtain⟨Pn,l,q1,q2,q3,q4⟩:=inv _ hv;exact⟨Pn,l,by rw[e];exact q1,q2,q3,q4,fun s hs=>by rw[hs]at h1;cases h1.fC⟩
    · rename_i e
      rw[e]at h1;obtain⟨Pn,l,q1,q2,q3,q4⟩:=inv _ hv;cases q1;exact⟨[],l,by rw[e];rfl,q2,q3,q4,fun s hs=>by rw[hs]at h1;cases h1.fC⟩
    · rename_i id ver off n e
      rw[e]at h1;obtain⟨Pn,l,q1,q2,q3,q4⟩:=inv _ hv;exact⟨Pn,l,by rw[e];exact q1,q2,q3,q4,fun s hs=>by rw[hs]at h1;cases h1⟩
    · cases hv
  obtain⟨ys,l,gI,hlen,hb,rfl,aaq⟩:=mE;obtain⟨ns,e1,e2⟩:=Dk hb;obtain⟨news,s1,s2,s3,s4,s5⟩:=E1 (P:=P) hR.mem (Nat.one_pos) h1 gI (by rw[e1];intro r hr;simp only[List.mem_map]at hr;obtain⟨n,_,rfl⟩:=hr;rfl);have hll:l.length=ys.length:=by rw[e2,e1];simp
  have Pz:news=ns.map (Value.int .u8):=by
    apply List.ext_getElem?;intro k;by_cases ia:k<ns.length
    · have hkn:k<news.length:=by rw[s1,e1];simpa using ia
      have :=s5 k [AV.p (.i .u8 ns[k])] 0 (.p (.i .u8 ns[k])) news[k] (by rw[e1];simp[ia]) rfl (by simp[hkn]);have :=this.ff;simp[ia,hkn,this]
    · rw[List.getElem?_eq_none (by rw[s1,e1];simp;omega),List.getElem?_eq_none (by simp;omega)]
  refine bA hR hd hk (v:= .string ⟨l.toArray⟩) ?_ (.p _ _ (.s _ (by rw[hll];unfold fb;omega))) hK;generalize Ni:a.eval x=va at h1 s2 s3 aaq
  have Dl:∃ad n cap,va= .slice ad n cap:=by
    cases va with
    |slice ad n cap=>exact⟨ad,n,cap,rfl⟩
    |string s=>exact(aaq s rfl).elim
    |_ =>have :=s2 w;simp[Builtin.lenOf]at this
  obtain⟨ad,n,cap,rfl⟩:=Dl
  have hn:n=ys.length:=by
    have :=s2 w;simp[Builtin.lenOf]at this;exact this
  have hc:=run_convert_bytes_string (P:=P) w s t e ad n cap hs he ht
  cases ad with
  |none =>
   have h3:=s3 w rfl;simp[Builtin.firstCells]at h3
   have GN:ns=[]:=by
     rw[Pz]at h3
     cases ns with
     |nil=>rfl
     |cons n ns=>cases h3
   subst GN;simp at e2;subst e2;simp[execOp,ho,Ni,hc,Conv.bytesToString]
   rfl
  |some ad=>
   have h3:=s3 w rfl
   have ac9:(loadCells ad n).run P w= .ok (ns.map (Value.int .u8)).toArray w:=by
     simpa[Builtin.firstCells,hn,Pz]using h3
   have mE:=run_bytesToString (P:=P) w ad n cap ns ac9;simp[execOp,ho,Ni,hc,mE,foldl_push_bytes];rw[e2]
end Go.AM
