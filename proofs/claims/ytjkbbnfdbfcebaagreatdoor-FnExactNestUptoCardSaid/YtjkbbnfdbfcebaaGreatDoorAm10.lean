/- The operations, continued: lengths, indexes, slices, parts of structs, calls. -/
import Derived.Test.YtjkbbnfdbfcebaaGreatDoorAm9
set_option linter.all false
namespace Go.AM
variable {lv:List Nat} {P:Program} {N:Nat} {o:Oper} {st:St} {K:St->Prop} {θ:Th} {W:Im}
theorem Mi {c:Call} {t:TypeId} {s:Bool} {x:Operand} {m:MA} (ho:o.op= .call c) (hc:c.callee= .builtin .len) (df:c.args=#[x]) (ht:c.argTypes[0]?=some t)
    (hu:if s then P.underlying t=some .string else ∃e,P.underlying t=some (.slice e)) (hx:bQ lv x=some m)
    (hd:o.dst.all (decide <| · <N)=true) (h:vI s (st.get m) (cB lv o.dst) K st):fx lv P N o st K:=by
  intro a w θ W next Q hR hk
  have h1:=hR.arg hx;unfold vI at h;generalize hv:a.eval x=v at h1;split at h
  · rename_i xs e1
    obtain⟨e,hu⟩:=hu;rw[e1]at h1
    cases h1.fC with
    |l _ _ _ _ _ _ hm=>exact bA hR hd hk (run_len_slice ho hc df ht hu hv) (.p _ _ (.i _ _)) (h hm)
  · rename_i e1
    obtain⟨e,hu⟩:=hu;rw[e1]at h1;cases h1.fC;exact bA hR hd hk (run_len_slice ho hc df ht hu hv) (.p _ _ (.i _ _)) h
  · rename_i y e1
    rw[e1]at h1
    cases h1.fC with
    |s _ hm=>
     refine bA hR hd hk (run_len_string ho hc df ht hu hv) (.p _ _ ?_) (h hm);have :(ByteArray.mk y.toArray).size=y.length:=by show y.toArray.size=_;simp
     rw[this];exact .i _ _
  · rename_i id ver off n' e1
    obtain⟨e,hu⟩:=hu;rw[e1]at h1
    cases h1 with
    |ea _ _ _ _ _ _ _ _ hm=>exact bA hR hd hk (run_len_slice ho hc df ht hu hv) (.p _ _ (.i _ _)) (h hm)
    |fN=>exact bA hR hd hk (run_len_slice ho hc df ht hu hv) (.p _ _ (.i _ _)) (h (Nat.zero_le _))
    |gs _ _ _ _ _ _ _ _ _ _ _ hm=>exact bA hR hd hk (run_len_slice ho hc df ht hu hv) (.p _ _ (.i _ _)) (h hm)
  · exact h.elim
theorem WS {c:Call} {t e:TypeId} {x:Operand} {m:MA} (ho:o.op=.call c) (hc:c.callee=.builtin .cap) (df:c.args=#[x]) (ht:c.argTypes[0]?=some t)
  (hu:P.underlying t=some (.slice e)) (hx:bQ lv x=some m)
  (hd:o.dst.all (decide <| ·<N)=true) (h:bK (GD (st.get m)) (cB lv o.dst) K st):fx lv P N o st K:=by
 intro a w θ W next Q hR hk
 have h1:=hR.arg hx;obtain⟨v,hv,h⟩:=dw h;unfold GD at hv;generalize hv2:a.eval x=v2 at h1;split at hv
 ·rename_i e1
  cases hv;rw[e1]at h1;cases h1.fC;exact bA hR hd hk (run_cap_slice ho hc df ht hu hv2) (.p _ _ (.i _ _)) h
 ·cases hv
theorem uP (ad:Addr) (h:ad.spot=none) (n:Nat):ad.add n=⟨ad.block,ad.off+n,none⟩:=by
 cases ad;simp only at h;subst h;exact Addr.add_lit _ _ _
theorem WT {t e:TypeId} {sz:Nat} {x i:Operand} {mx mi:MA} (ho:o.op= .indexAddr t x i) (ht:P.underlying t=some (.slice e)) (cL:eV P e=some sz) (h0:0<sz) (hx:bQ lv x=some mx) (hi:bQ lv i=some mi)
    (hd:o.dst.all (decide <| · <N)=true) (h:xp sz (st.get mx) (st.get mi) (cB lv o.dst) K st):fx lv P N o st K:=by
  intro a w θ W next Q hR hk
  have h1:=hR.arg hx;have h2:=hR.arg hi;obtain⟨inf,GP,oW⟩:=jV cL;unfold xp at h;split at h
  case h_2=>exact h.elim
  case h_1 k n e2=>
  rw[e2]at h2;have e3:=h2.ff
  have run:∀(ad:Addr) (len cap:Nat),a.eval x= .slice (some ad) len cap→0≤n→n<(len:Int)→(execOp a.eval o).run P w= .ok (.value (.pointer (some (ad.add (n.toNat*sz))))) w:=by
    intro ad len cap e h3 h4;simp[execOp,ho,Instr.indexAt,e,e3,asIntOf,run_underlying ht,h3,h4,sizeOf,typeInfo,GP,oW]
  split at h
  · rename_i xs e1
    obtain⟨hn,r,hr,n9,hK⟩:=h;rw[e1]at h1;generalize hv:a.eval x=v at h1
    have aj:n.toNat<xs.length:=by
      rcases Nat.lt_or_ge n.toNat xs.length with h'|h'
      · exact h'
      · rw[List.getElem?_eq_none h']at hr;cases hr
    cases h1.fC with
    |l _ ad cap cP f hlen z8 vF nt gd eS cR=>
     cases ad with
     |none =>have :=vF rfl;omega
     |some ad=>
      have e4:r.length=cP:=gd r (List.mem_of_getElem? hr);refine bA hR hd hk (run ad _ cap hv hn (by omega)) ?_ hK;rw[uP ad (nt (List.ne_nil_of_mem (List.mem_of_getElem? hr)) ad rfl)]
      exact .ip r ad.block _ (f n.toNat) (fun j q hj=>by
        have :=eS n.toNat r j q hr hj ad rfl;rw[←e4,n9]at this;rw[Nat.add_assoc];exact this) (fun j q hj=>cR n.toNat r j q hr hj)
  · rename_i id ver off m e1
    obtain⟨hn,hm,h⟩:=h;split at h
    · rename_i cP cA rs hid
      obtain⟨rfl,rfl,hK⟩:=h;rw[e1]at h1;generalize hv:a.eval x=v at h1;obtain⟨q1,q2,q3⟩:=hR.mem.obj id _ hid
      cases h1 with
      |ea _ _ _ _ _ _ wh=>rcases q1 with⟨q1,_⟩|⟨b,tot,ty,vs,q1,_⟩<;>(rw[wh]at q1;cases q1)
      |fN=>omega
      |gs _ _ _ _ b sz tot o' cap nx vx Df BH mG yR=>
       rcases q1 with⟨q1,_⟩|⟨b',fc,ty,vs,q1,_⟩
       · rw[nx]at q1;cases q1
       · rw[nx]at q1
         cases q1;refine bA hR hd hk (run _ _ cap hv hn hm) ?_ hK;rw[Addr.add_lit,mG (by omega),←Nat.add_mul];exact .ep id _ (off+n.toNat) 0 b _ tot nx
    · exact h.elim
  · exact h.elim
theorem WU {t e:TypeId} {len sz:Nat} {x i:Operand} {mx mi:MA} (ho:o.op=.indexAddr t x i) (ht:P.underlying t=some (.array len e)) (cL:eV P e=some sz) (hx:bQ lv x=some mx) (hi:bQ lv i=some mi)
  (hd:o.dst.all (decide <| ·<N)=true) (h:Bl len sz (st.get mx) (st.get mi) (cB lv o.dst) K st):fx lv P N o st K:=by
 intro a w θ W next Q hR hk
 have h1:=hR.arg hx;have h2:=hR.arg hi;obtain⟨inf,GP,oW⟩:=jV cL;unfold Bl at h;split at h
 case h_2=>exact h.elim
 case h_1 k n e2=>
 rw[e2]at h2;have e3:=h2.ff;split at h
 ·rename_i id off e1
  obtain⟨hn,hm,hK⟩:=h
  have run:∀(ad:Addr),a.eval x=.pointer (some ad)->(execOp a.eval o).run P w=.ok (.value (.pointer (some (ad.add (n.toNat*sz))))) w:=by
   intro ad e;simp[execOp,ho,Instr.indexAt,Instr.sureAddr,e,e3,asIntOf,run_underlying ht,hn,hm,sizeOf,typeInfo,GP,oW]
  rw[e1]at h1;generalize hv:a.eval x=v at h1
  cases h1 with
  |ptr _ _ b s tot nx=>exact bA hR hd hk (run _ hv) (by rw[Addr.add_lit];exact .ptr _ _ b s tot nx) hK
  |fM _ _ ad nx=>exact bA hR hd hk (run _ hv) (.fM _ _ _ nx) hK
 ·exact h.elim
theorem WV {t:TypeId} {x i:Operand} {mx mi:MA} (ho:o.op=.index t x i) (ht:P.underlying t=some .string) (hx:bQ lv x=some mx) (hi:bQ lv i=some mi)
  (hd:o.dst.all (decide <| ·<N)=true) (h:Bm (st.get mx) (st.get mi) (cB lv o.dst) K st):fx lv P N o st K:=by
 intro a w θ W next Q hR hk
 have h1:=hR.arg hx;have h2:=hR.arg hi;unfold Bm at h;split at h
 case h_2=>exact h.elim
 case h_1 k n e2=>
 rw[e2]at h2;have e3:=h2.ff;split at h
 ·rename_i y e1
  obtain⟨hn,c,hc,hK⟩:=h;rw[e1]at h1;obtain⟨e4,_⟩:=h1.oU;refine bA hR hd hk (v:=.int .u8 c.toNat) ?_ (.p _ _ (.i _ _)) hK
  have:(ByteArray.mk y.toArray)[n.toNat]?=some c:=by
   have aj:n.toNat<y.length:=by
    rcases Nat.lt_or_ge n.toNat y.length with h'|h'
    ·exact h'
    ·rw[List.getElem?_eq_none h']at hc;cases hc
   have cL:n.toNat<(ByteArray.mk y.toArray).size:=by show n.toNat<y.toArray.size;simpa using aj
   rw[getElem?_pos (ByteArray.mk y.toArray) n.toNat cL];rw[List.getElem?_eq_getElem aj]at hc;cases hc
   rfl
  simp[execOp,ho,Instr.index,e3,e4,asIntOf,run_underlying ht,hn,this]
 ·exact h.elim
theorem WW {x:Operand} {n:Nat} {m:MA} (ho:o.op= .extract x n) (hx:bQ lv x=some m)
    (hd:o.dst.all (decide <| · <N)=true) (h:bK (GF n (st.get m)) (cB lv o.dst) K st):fx lv P N o st K:=by
  intro a w θ W next Q hR hk
  have h1:=hR.arg hx;obtain⟨v,hv,hK⟩:=dw h;unfold GF at hv;split at hv
  · rename_i vs e
    rw[e]at h1;generalize hu:a.eval x=u at h1
    cases h1 with
    |dX _ us hs hc=>
     have aj:n<us.size:=by
       rcases Nat.lt_or_ge n vs.length with h'|h'
       · omega
       · rw[List.getElem?_eq_none h']at hv;cases hv
     refine bA hR hd hk (v:=us[n]) ?_ (hc n _ _ hv (by simp[aj])) hK;simp[execOp,ho,hu,Instr.extract,aj]
  · cases hv
theorem WX {f:FuncId} {first eO:Array Operand} {ms:List MA} (ho:o.op=.makeFunc (.func f) first eO) (hf:first=#[]) (hc:jU lv eO.toList=some ms)
  (hd:o.dst.all (decide <| ·<N)=true) (h:K (st.put (cB lv o.dst) (.fI f (fw st ms)))):fx lv P N o st K:=by
 intro a w θ W next Q hR hk
 obtain⟨h1,h2⟩:=hR.args hc;subst hf;refine bA hR hd hk (v:=.func (.func f) #[] (eO.map a.eval)) ?_ ?_ h
 ·simp[execOp,ho,Instr.makeFunc]
 ·have e:eO.map a.eval=(eO.toList.map a.eval).toArray:=by apply Array.ext';simp
  rw[e];exact .fI f _ _ h1 h2
theorem WY {s:TypeId} {f off n:Nat} {t:TypeId} {g:Bool} {x:Operand} {m:MA} (ho:o.op= .field s x f) (hx:bQ lv x=some m) (hf:nw P s f=some (off,t,n)) (hg:Ah P t=some g)
    (hd:o.dst.all (decide <| · <N)=true) (h:bK (L9 g off n (st.get m)) (cB lv o.dst) K st):fx lv P N o st K:=by
  intro a w θ W next Q hR hk
  have h1:=hR.arg hx;obtain⟨v,hv,hK⟩:=dw h;unfold L9 at hv;split at hv
  · rename_i cs e
    rw[e]at h1;generalize hu:a.eval x=u at h1
    cases h1 with
    |st _ vs hs hc h1c=>
     unfold nw at hf;split at hf
     · rename_i fs E0
       split at hf
       · rename_i fd Dc
         cases hz:eV P fd.type with
         |none =>rw[hz]at hf;cases hf
         |some n'=>
          rw[hz]at hf;cases hf;obtain⟨i,hi,rfl⟩:=jV hz
          have Pr:∃d,P.underlying fd.type=some d∧(isAgg fd.type).run P w= .ok g w:=by
            unfold Ah at hg;split at hg
            · rename_i fs' e';cases hg;exact⟨_,e',by simp[isAgg,run_underlying e']⟩
            · rename_i k e' e'';cases hg;exact⟨_,e'',by simp[isAgg,run_underlying e'']⟩
            · rename_i d n1 n2 e'
              cases hg;refine⟨d,e', ?_⟩;simp only[isAgg,Sem.run_bind,run_underlying e',Result.andThen_ok];cases d<;>first|rfl|(exact(n1 _ rfl).elim)|(exact(n2 _ _ rfl).elim)
            · cases hg
          obtain⟨d,kz,dz⟩:=Pr
          cases g with
          |false =>
           simp only[vw,Bool.false_eq_true,if_false]at hv
           have eS:cs[fd.offset]?=some v:=by
             rw[List.head?_drop]at hv;exact hv
           have aj:fd.offset<vs.size:=by
             rcases Nat.lt_or_ge fd.offset cs.length with h'|h'
             · omega
             · rw[List.getElem?_eq_none h']at eS;cases eS
           refine bA hR hd hk (v:=vs[fd.offset]) ?_ (hc _ _ _ eS (by simp[aj])) hK
           simp[execOp,ho,hu,Instr.field,run_underlying E0,Dc,asAgg,part,dz,aj]
          |true =>
           simp only[vw,if_true]at hv
           cases IW:takeN i.size (cs.drop fd.offset)with
           |none =>rw[IW]at hv;cases hv
           |some us=>
            rw[IW]at hv;cases hv;obtain⟨l1,l2⟩:=BC IW
            have aif:us.length=0∨fd.offset+us.length≤cs.length:=by
              rcases Nat.eq_zero_or_pos us.length with h'|h'
              · exact .inl h'
              · have :us[us.length-1]?=some us[us.length-1]:=by simp[h']
                have :=l2 _ _ this;simp only[List.getElem?_drop]at this;rcases Nat.lt_or_ge (fd.offset+(us.length-1)) cs.length with h''|h''
                · exact .inr (by omega)
                · rw[List.getElem?_eq_none h'']at this;cases this
            refine bA hR hd hk (v:= .agg (vs.extract fd.offset (fd.offset+i.size))) ?_ (.st us _ ?_ ?_ ?_) hK
            · simp[execOp,ho,hu,Instr.field,run_underlying E0,Dc,asAgg,part,dz,sizeOf,typeInfo,hi]
            · simp only[Array.size_extract];omega
            · intro j c u hj je
              have :=l2 j c hj;simp only[List.getElem?_drop]at this;simp only[Array.getElem?_extract]at je;split at je
              · exact hc _ _ _ this je
              · cases je
            · intro j u je
              simp only[Array.getElem?_extract]at je;split at je
              · exact h1c _ _ je
              · cases je
       · cases hf
     · cases hf
  · cases hv
theorem Mj {c:Call} {mx:Bool} {x y:Operand} {m1 m2:MA} (ho:o.op=.call c) (hc:c.callee=.builtin (if mx then .max else .min)) (df:c.args=#[x,y]) (hx:bQ lv x=some m1) (hy:bQ lv y=some m2)
  (hd:o.dst.all (decide <| ·<N)=true) (h:bK (Ae mx (st.get m1) (st.get m2)) (cB lv o.dst) K st):fx lv P N o st K:=by
 intro a w θ W next Q hR hk
 have h1:=hR.arg hx;have h2:=hR.arg hy;obtain⟨v,hv,hK⟩:=dw h;unfold Ae at hv;split at hv
 ·rename_i k p k' q e1 e2
  split at hv
  ·rename_i e;subst e
   cases hv;rw[e1]at h1;rw[e2]at h2;have e3:=h1.ff;have e4:=h2.ff;cases mx
   ·refine bA hR hd hk (v:=.int k (if q<p then q else p)) ?_ (.p _ _ (.i _ _)) hK
    simp[execOp,ho,resolve,hc,df,invoke,builtin,Builtin.min_,Builtin.min2,e3,e4]
   ·refine bA hR hd hk (v:=.int k (if q>p then q else p)) ?_ (.p _ _ (.i _ _)) hK
    simp[execOp,ho,resolve,hc,df,invoke,builtin,Builtin.max_,Builtin.max2,e3,e4]
  ·cases hv
 ·cases hv
theorem vN {f:Nat} (hf:Bq P f) (args:Array Value) (w:World):(callFunc f args).run P w=.ok (.enter f args) w:=by
 obtain⟨fn,h1,h2,h3⟩:=hf;have h4:fn.body.isNone=false:=by cases hb:fn.body<;>simp_all
 have h5:¬fn.name= "runtime.NumGoroutine":=by simpa using h3
 have h6:¬fn.body=none:=fun e=>by rw[e]at h4;cases h4
 simp[callFunc,h1,h5,h6]
theorem DT {f:Nat} {args:List AV} {vs:Array Value} {a:Act} {w:World} {next:Act->World->Prop} {Q:Exit->Act->World->Prop} (hR:Rl lv N st a w θ W)
  (hd:o.dst.all (decide <| ·<N)=true) (hk:∀dG a' w' bd W',K dG->Rl lv N dG a' w' bd W'->eU θ W w bd W' w'->next a' w')
  (dz:(execOp a.eval o).run P w=.ok (.enter f vs) w) (df:tq θ W args vs) (h:aA P f args st.H (rC (cB lv o.dst) K st)):o.wp P a w next Q:=by
 unfold Oper.wp;rw[dz];refine(h.2 w θ W vs hR.mem df).mono ?_;rintro e w' ⟨v,r,H',bd,W',rfl,hK,hm,hr,hs⟩;exact hk _ _ _ _ _ hK (hR.put hd hr hm hs) hs
theorem Ps {c:Call} {f:FuncId} {ms:List MA} (ho:o.op=.call c) (hc:c.callee=.value (.func f)) (df:jU lv c.args.toList=some ms)
  (hd:o.dst.all (decide <| ·<N)=true) (h:aA P f (fw st ms) st.H (rC (cB lv o.dst) K st)):fx lv P N o st K:=by
 intro a w θ W next Q hR hk
 refine DT hR hd hk (vs:=(c.args.toList.map a.eval).toArray) ?_ (hR.args df) h;have e:c.args.map a.eval=(c.args.toList.map a.eval).toArray:=by apply Array.ext';simp
 simp[execOp,ho,resolve,hc,Act.eval,Deferred.ofValue,invoke,vN h.1];exact e
theorem Pt {c:Call} {t:Tmp} {ms:List MA} (ho:o.op= .call c) (hc:c.callee= .value (.tmp t)) (df:jU lv c.args.toList=some ms)
    (hd:o.dst.all (decide <| · <N)=true) (h:yK (aA P) (st.get (fO lv t)) (fw st ms) (cB lv o.dst) K st):fx lv P N o st K:=by
  intro a w θ W next Q hR hk
  have h1:=hR.rI t;unfold yK at h;split at h
  · rename_i f eO e
    rw[e]at h1;generalize hu:a.eval (.tmp t)=u at h1
    cases h1 with
    |fI _ _ vs hs fy=>
     obtain⟨r1,r2⟩:=hR.args df;refine DT hR hd hk (vs:=(c.args.toList.map a.eval).toArray++vs) ?_ ?_ h
     · have e:c.args.map a.eval=(c.args.toList.map a.eval).toArray:=by apply Array.ext';simp
       simp[execOp,ho,resolve,hc,hu,Deferred.ofValue,invoke,vN h.1];rw[e]
     · refine⟨by simp at r1⊢;omega,fun j c' v hj hv=> ?_⟩
       rcases Nat.lt_or_ge j (fw st ms).length with aj|gH
       · rw[List.getElem?_append_left aj]at hj
         rw[Array.getElem?_append_left (by omega)]at hv;exact r2 j c' v hj hv
       · rw[List.getElem?_append_right gH]at hj
         rw[Array.getElem?_append_right (by omega),r1]at hv;exact fy _ _ _ hj hv
  · exact h.elim
end Go.AM
