/- The operations, continued: lengths, indexes, slices, parts of structs, calls. -/
import Derived.Test.YteilijfligofdaaGreatDoorAm9
set_option linter.all false
namespace Go.AM
variable {lv:List Nat} {P:Program} {N:Nat} {o:Oper} {st:St} {K:St->Prop} {θ:Th} {W:Im}
theorem MQ {c:Call} {t:TypeId} {s:Bool} {x:Operand} {m:MA} (ho:o.op= .call c) (hc:c.callee= .builtin .len) (da:c.args=#[x]) (ht:c.argTypes[0]?=some t)
    (hu:if s then P.underlying t=some .string else ∃e,P.underlying t=some (.slice e)) (hx:bK lv x=some m)
    (hd:o.dst.all (decide <| · <N)=true) (h:wc s (st.get m) (cm lv o.dst) K st):fG lv P N o st K:=by
  intro a w θ W next Q hR hk
  have h1:=hR.arg hx;unfold wc at h;generalize hv:a.eval x=v at h1;split at h
  · rename_i xs e1
    obtain⟨e,hu⟩:=hu;rw[e1]at h1
    cases h1.gE with
    |l _ _ _ _ _ _ hm=>exact bm hR hd hk (run_len_slice ho hc da ht hu hv) (.p _ _ (.i _ _)) (h hm)
  · rename_i e1
    obtain⟨e,hu⟩:=hu;rw[e1]at h1;cases h1.gE;exact bm hR hd hk (run_len_slice ho hc da ht hu hv) (.p _ _ (.i _ _)) h
  · rename_i y e1
    rw[e1]at h1
    cases h1.gE with
    |s _ hm=>
     refine bm hR hd hk (run_len_string ho hc da ht hu hv) (.p _ _ ?_) (h hm);have :(ByteArray.mk y.toArray).size=y.length:=by show y.toArray.size=_;simp
     rw[this];exact .i _ _
  · rename_i id ver off n' e1
    obtain⟨e,hu⟩:=hu;rw[e1]at h1
    cases h1 with
    |eS _ _ _ _ _ _ _ _ hm=>exact bm hR hd hk (run_len_slice ho hc da ht hu hv) (.p _ _ (.i _ _)) (h hm)
    |gC=>exact bm hR hd hk (run_len_slice ho hc da ht hu hv) (.p _ _ (.i _ _)) (h (Nat.zero_le _))
    |gs _ _ _ _ _ _ _ _ _ _ _ hm=>exact bm hR hd hk (run_len_slice ho hc da ht hu hv) (.p _ _ (.i _ _)) (h hm)
  · exact h.elim
theorem W5 {c:Call} {t e:TypeId} {x:Operand} {m:MA} (ho:o.op=.call c) (hc:c.callee=.builtin .cap) (da:c.args=#[x]) (ht:c.argTypes[0]?=some t)
  (hu:P.underlying t=some (.slice e)) (hx:bK lv x=some m)
  (hd:o.dst.all (decide <| ·<N)=true) (h:bC (GU (st.get m)) (cm lv o.dst) K st):fG lv P N o st K:=by
 intro a w θ W next Q hR hk
 have h1:=hR.arg hx;obtain⟨v,hv,h⟩:=dk h;unfold GU at hv;generalize hv2:a.eval x=v2 at h1;split at hv
 ·rename_i e1
  cases hv;rw[e1]at h1;cases h1.gE;exact bm hR hd hk (run_cap_slice ho hc da ht hu hv2) (.p _ _ (.i _ _)) h
 ·cases hv
theorem vk (ad:Addr) (h:ad.spot=none) (n:Nat):ad.add n=⟨ad.block,ad.off+n,none⟩:=by
 cases ad;simp only at h;subst h;exact Addr.add_lit _ _ _
theorem W6 {t e:TypeId} {sz:Nat} {x i:Operand} {mx mi:MA} (ho:o.op= .indexAddr t x i) (ht:P.underlying t=some (.slice e)) (eN:eX P e=some sz) (h0:0<sz) (hx:bK lv x=some mx) (hi:bK lv i=some mi)
    (hd:o.dst.all (decide <| · <N)=true) (h:xH sz (st.get mx) (st.get mi) (cm lv o.dst) K st):fG lv P N o st K:=by
  intro a w θ W next Q hR hk
  have h1:=hR.arg hx;have h2:=hR.arg hi;obtain⟨inf,G9,pf⟩:=jW eN;unfold xH at h;split at h
  case h_2=>exact h.elim
  case h_1 k n e2=>
  rw[e2]at h2;have e3:=h2.fh
  have run:∀(ad:Addr) (len cap:Nat),a.eval x= .slice (some ad) len cap→0≤n→n<(len:Int)→(execOp a.eval o).run P w= .ok (.value (.pointer (some (ad.add (n.toNat*sz))))) w:=by
    intro ad len cap e h3 h4;simp[execOp,ho,Instr.indexAt,e,e3,asIntOf,run_underlying ht,h3,h4,sizeOf,typeInfo,G9,pf]
  split at h
  · rename_i xs e1
    obtain⟨hn,r,hr,qL,hK⟩:=h;rw[e1]at h1;generalize hv:a.eval x=v at h1
    have aF:n.toNat<xs.length:=by
      rcases Nat.lt_or_ge n.toNat xs.length with h'|h'
      · exact h'
      · rw[List.getElem?_eq_none h']at hr;cases hr
    cases h1.gE with
    |l _ ad cap cX f hlen Ax v7 nE fZ eV cY=>
     cases ad with
     |none =>have :=v7 rfl;omega
     |some ad=>
      have e4:r.length=cX:=fZ r (List.mem_of_getElem? hr);refine bm hR hd hk (run ad _ cap hv hn (by omega)) ?_ hK;rw[vk ad (nE (List.ne_nil_of_mem (List.mem_of_getElem? hr)) ad rfl)]
      exact .ip r ad.block _ (f n.toNat) (fun j q hj=>by
        have :=eV n.toNat r j q hr hj ad rfl;rw[←e4,qL]at this;rw[Nat.add_assoc];exact this) (fun j q hj=>cY n.toNat r j q hr hj)
  · rename_i id ver off m e1
    obtain⟨hn,hm,h⟩:=h;split at h
    · rename_i cX cI rs hid
      obtain⟨rfl,rfl,hK⟩:=h;rw[e1]at h1;generalize hv:a.eval x=v at h1;obtain⟨q1,q2,q3⟩:=hR.mem.obj id _ hid
      cases h1 with
      |eS _ _ _ _ _ _ wM=>rcases q1 with⟨q1,_⟩|⟨b,br,ty,vs,q1,_⟩<;>(rw[wM]at q1;cases q1)
      |gC=>omega
      |gs _ _ _ _ b sz br o' cap nJ vP zo MS mO zp=>
       rcases q1 with⟨q1,_⟩|⟨b',gn,ty,vs,q1,_⟩
       · rw[nJ]at q1;cases q1
       · rw[nJ]at q1
         cases q1;refine bm hR hd hk (run _ _ cap hv hn hm) ?_ hK;rw[Addr.add_lit,mO (by omega),←Nat.add_mul];exact .ep id _ (off+n.toNat) 0 b _ br nJ
    · exact h.elim
  · exact h.elim
theorem W7 {t e:TypeId} {len sz:Nat} {x i:Operand} {mx mi:MA} (ho:o.op=.indexAddr t x i) (ht:P.underlying t=some (.array len e)) (eN:eX P e=some sz) (hx:bK lv x=some mx) (hi:bK lv i=some mi)
  (hd:o.dst.all (decide <| ·<N)=true) (h:By len sz (st.get mx) (st.get mi) (cm lv o.dst) K st):fG lv P N o st K:=by
 intro a w θ W next Q hR hk
 have h1:=hR.arg hx;have h2:=hR.arg hi;obtain⟨inf,G9,pf⟩:=jW eN;unfold By at h;split at h
 case h_2=>exact h.elim
 case h_1 k n e2=>
 rw[e2]at h2;have e3:=h2.fh;split at h
 ·rename_i id off e1
  obtain⟨hn,hm,hK⟩:=h
  have run:∀(ad:Addr),a.eval x=.pointer (some ad)->(execOp a.eval o).run P w=.ok (.value (.pointer (some (ad.add (n.toNat*sz))))) w:=by
   intro ad e;simp[execOp,ho,Instr.indexAt,Instr.sureAddr,e,e3,asIntOf,run_underlying ht,hn,hm,sizeOf,typeInfo,G9,pf]
  rw[e1]at h1;generalize hv:a.eval x=v at h1
  cases h1 with
  |ptr _ _ b s br nJ=>exact bm hR hd hk (run _ hv) (by rw[Addr.add_lit];exact .ptr _ _ b s br nJ) hK
  |fO _ _ ad nJ=>exact bm hR hd hk (run _ hv) (.fO _ _ _ nJ) hK
 ·exact h.elim
theorem W8 {t:TypeId} {x i:Operand} {mx mi:MA} (ho:o.op=.index t x i) (ht:P.underlying t=some .string) (hx:bK lv x=some mx) (hi:bK lv i=some mi)
  (hd:o.dst.all (decide <| ·<N)=true) (h:Bz (st.get mx) (st.get mi) (cm lv o.dst) K st):fG lv P N o st K:=by
 intro a w θ W next Q hR hk
 have h1:=hR.arg hx;have h2:=hR.arg hi;unfold Bz at h;split at h
 case h_2=>exact h.elim
 case h_1 k n e2=>
 rw[e2]at h2;have e3:=h2.fh;split at h
 ·rename_i y e1
  obtain⟨hn,c,hc,hK⟩:=h;rw[e1]at h1;obtain⟨e4,_⟩:=h1.pb;refine bm hR hd hk (v:=.int .u8 c.toNat) ?_ (.p _ _ (.i _ _)) hK
  have:(ByteArray.mk y.toArray)[n.toNat]?=some c:=by
   have aF:n.toNat<y.length:=by
    rcases Nat.lt_or_ge n.toNat y.length with h'|h'
    ·exact h'
    ·rw[List.getElem?_eq_none h']at hc;cases hc
   have eN:n.toNat<(ByteArray.mk y.toArray).size:=by show n.toNat<y.toArray.size;simpa using aF
   rw[getElem?_pos (ByteArray.mk y.toArray) n.toNat eN];rw[List.getElem?_eq_getElem aF]at hc;cases hc
   rfl
  simp[execOp,ho,Instr.index,e3,e4,asIntOf,run_underlying ht,hn,this]
 ·exact h.elim
theorem W9 {x:Operand} {n:Nat} {m:MA} (ho:o.op= .extract x n) (hx:bK lv x=some m)
    (hd:o.dst.all (decide <| · <N)=true) (h:bC (GV n (st.get m)) (cm lv o.dst) K st):fG lv P N o st K:=by
  intro a w θ W next Q hR hk
  have h1:=hR.arg hx;obtain⟨v,hv,hK⟩:=dk h;unfold GV at hv;split at hv
  · rename_i vs e
    rw[e]at h1;generalize hu:a.eval x=u at h1
    cases h1 with
    |dK _ us hs hc=>
     have aF:n<us.size:=by
       rcases Nat.lt_or_ge n vs.length with h'|h'
       · omega
       · rw[List.getElem?_eq_none h']at hv;cases hv
     refine bm hR hd hk (v:=us[n]) ?_ (hc n _ _ hv (by simp[aF])) hK;simp[execOp,ho,hu,Instr.extract,aF]
  · cases hv
theorem Xa {f:FuncId} {first eL:Array Operand} {ms:List MA} (ho:o.op=.makeFunc (.func f) first eL) (hf:first=#[]) (hc:jV lv eL.toList=some ms)
  (hd:o.dst.all (decide <| ·<N)=true) (h:K (st.put (cm lv o.dst) (.eB f (fF st ms)))):fG lv P N o st K:=by
 intro a w θ W next Q hR hk
 obtain⟨h1,h2⟩:=hR.args hc;subst hf;refine bm hR hd hk (v:=.func (.func f) #[] (eL.map a.eval)) ?_ ?_ h
 ·simp[execOp,ho,Instr.makeFunc]
 ·have e:eL.map a.eval=(eL.toList.map a.eval).toArray:=by apply Array.ext';simp
  rw[e];exact .eB f _ _ h1 h2
theorem Xb {s:TypeId} {f off n:Nat} {t:TypeId} {g:Bool} {x:Operand} {m:MA} (ho:o.op= .field s x f) (hx:bK lv x=some m) (hf:nI P s f=some (off,t,n)) (hg:AG P t=some g)
    (hd:o.dst.all (decide <| · <N)=true) (h:bC (MG g off n (st.get m)) (cm lv o.dst) K st):fG lv P N o st K:=by
  intro a w θ W next Q hR hk
  have h1:=hR.arg hx;obtain⟨v,hv,hK⟩:=dk h;unfold MG at hv;split at hv
  · rename_i cs e
    rw[e]at h1;generalize hu:a.eval x=u at h1
    cases h1 with
    |st _ vs hs hc h1c=>
     unfold nI at hf;split at hf
     · rename_i fs Fu
       split at hf
       · rename_i fd DC
         cases hz:eX P fd.type with
         |none =>rw[hz]at hf;cases hf
         |some n'=>
          rw[hz]at hf;cases hf;obtain⟨i,hi,rfl⟩:=jW hz
          have Qv:∃d,P.underlying fd.type=some d∧(isAgg fd.type).run P w= .ok g w:=by
            unfold AG at hg;split at hg
            · rename_i fs' e';cases hg;exact⟨_,e',by simp[isAgg,run_underlying e']⟩
            · rename_i k e' e'';cases hg;exact⟨_,e'',by simp[isAgg,run_underlying e'']⟩
            · rename_i d n1 n2 e'
              cases hg;refine⟨d,e', ?_⟩;simp only[isAgg,Sem.run_bind,run_underlying e',Result.andThen_ok];cases d<;>first|rfl|(exact(n1 _ rfl).elim)|(exact(n2 _ _ rfl).elim)
            · cases hg
          obtain⟨d,kz,dp⟩:=Qv
          cases g with
          |false =>
           simp only[vO,Bool.false_eq_true,if_false]at hv
           have eV:cs[fd.offset]?=some v:=by
             rw[List.head?_drop]at hv;exact hv
           have aF:fd.offset<vs.size:=by
             rcases Nat.lt_or_ge fd.offset cs.length with h'|h'
             · omega
             · rw[List.getElem?_eq_none h']at eV;cases eV
           refine bm hR hd hk (v:=vs[fd.offset]) ?_ (hc _ _ _ eV (by simp[aF])) hK
           simp[execOp,ho,hu,Instr.field,run_underlying Fu,DC,asAgg,part,dp,aF]
          |true =>
           simp only[vO,if_true]at hv
           cases Ju:takeN i.size (cs.drop fd.offset)with
           |none =>rw[Ju]at hv;cases hv
           |some us=>
            rw[Ju]at hv;cases hv;obtain⟨l1,l2⟩:=BQ Ju
            have ahY:us.length=0∨fd.offset+us.length≤cs.length:=by
              rcases Nat.eq_zero_or_pos us.length with h'|h'
              · exact .inl h'
              · have :us[us.length-1]?=some us[us.length-1]:=by simp[h']
                have :=l2 _ _ this;simp only[List.getElem?_drop]at this;rcases Nat.lt_or_ge (fd.offset+(us.length-1)) cs.length with h''|h''
                · exact .inr (by omega)
                · rw[List.getElem?_eq_none h'']at this;cases this
            refine bm hR hd hk (v:= .agg (vs.extract fd.offset (fd.offset+i.size))) ?_ (.st us _ ?_ ?_ ?_) hK
            · simp[execOp,ho,hu,Instr.field,run_underlying Fu,DC,asAgg,part,dp,sizeOf,typeInfo,hi]
            · simp only[Array.size_extract];omega
            · intro j c u hj jd
              have :=l2 j c hj;simp only[List.getElem?_drop]at this;simp only[Array.getElem?_extract]at jd;split at jd
              · exact hc _ _ _ this jd
              · cases jd
            · intro j u jd
              simp only[Array.getElem?_extract]at jd;split at jd
              · exact h1c _ _ jd
              · cases jd
       · cases hf
     · cases hf
  · cases hv
theorem MT {c:Call} {mx:Bool} {x y:Operand} {m1 m2:MA} (ho:o.op=.call c) (hc:c.callee=.builtin (if mx then .max else .min)) (da:c.args=#[x,y]) (hx:bK lv x=some m1) (hy:bK lv y=some m2)
  (hd:o.dst.all (decide <| ·<N)=true) (h:bC (AD mx (st.get m1) (st.get m2)) (cm lv o.dst) K st):fG lv P N o st K:=by
 intro a w θ W next Q hR hk
 have h1:=hR.arg hx;have h2:=hR.arg hy;obtain⟨v,hv,hK⟩:=dk h;unfold AD at hv;split at hv
 ·rename_i k p k' q e1 e2
  split at hv
  ·rename_i e;subst e
   cases hv;rw[e1]at h1;rw[e2]at h2;have e3:=h1.fh;have e4:=h2.fh;cases mx
   ·refine bm hR hd hk (v:=.int k (if q<p then q else p)) ?_ (.p _ _ (.i _ _)) hK
    simp[execOp,ho,resolve,hc,da,invoke,builtin,Builtin.min_,Builtin.min2,e3,e4]
   ·refine bm hR hd hk (v:=.int k (if q>p then q else p)) ?_ (.p _ _ (.i _ _)) hK
    simp[execOp,ho,resolve,hc,da,invoke,builtin,Builtin.max_,Builtin.max2,e3,e4]
  ·cases hv
 ·cases hv
theorem wj {f:Nat} (hf:BD P f) (args:Array Value) (w:World):(callFunc f args).run P w=.ok (.enter f args) w:=by
 obtain⟨fn,h1,h2,h3⟩:=hf;have h4:fn.body.isNone=false:=by cases hb:fn.body<;>simp_all
 have h5:¬fn.name= "runtime.NumGoroutine":=by simpa using h3
 have h6:¬fn.body=none:=fun e=>by rw[e]at h4;cases h4
 simp[callFunc,h1,h5,h6]
theorem Ee {f:Nat} {args:List AV} {vs:Array Value} {a:Act} {w:World} {next:Act->World->Prop} {Q:Exit->Act->World->Prop} (hR:Rl lv N st a w θ W)
  (hd:o.dst.all (decide <| ·<N)=true) (hk:∀dz a' w' aX W',K dz->Rl lv N dz a' w' aX W'->eW θ W w aX W' w'->next a' w')
  (dp:(execOp a.eval o).run P w=.ok (.enter f vs) w) (da:xI θ W args vs) (h:al P f args st.H (rR (cm lv o.dst) K st)):o.wp P a w next Q:=by
 unfold Oper.wp;rw[dp];refine(h.2 w θ W vs hR.mem da).mono ?_;rintro e w' ⟨v,r,H',aX,W',rfl,hK,hm,hr,hs⟩;exact hk _ _ _ _ _ hK (hR.put hd hr hm hs) hs
theorem Qw {c:Call} {f:FuncId} {ms:List MA} (ho:o.op=.call c) (hc:c.callee=.value (.func f)) (da:jV lv c.args.toList=some ms)
  (hd:o.dst.all (decide <| ·<N)=true) (h:al P f (fF st ms) st.H (rR (cm lv o.dst) K st)):fG lv P N o st K:=by
 intro a w θ W next Q hR hk
 refine Ee hR hd hk (vs:=(c.args.toList.map a.eval).toArray) ?_ (hR.args da) h;have e:c.args.map a.eval=(c.args.toList.map a.eval).toArray:=by apply Array.ext';simp
 simp[execOp,ho,resolve,hc,Act.eval,Deferred.ofValue,invoke,wj h.1];exact e
theorem Qx {c:Call} {t:Tmp} {ms:List MA} (ho:o.op= .call c) (hc:c.callee= .value (.tmp t)) (da:jV lv c.args.toList=some ms)
    (hd:o.dst.all (decide <| · <N)=true) (h:zg (al P) (st.get (fQ lv t)) (fF st ms) (cm lv o.dst) K st):fG lv P N o st K:=by
  intro a w θ W next Q hR hk
  have h1:=hR.rX t;unfold zg at h;split at h
  · rename_i f eL e
    rw[e]at h1;generalize hu:a.eval (.tmp t)=u at h1
    cases h1 with
    |eB _ _ vs hs fH=>
     obtain⟨r1,r2⟩:=hR.args da;refine Ee hR hd hk (vs:=(c.args.toList.map a.eval).toArray++vs) ?_ ?_ h
     · have e:c.args.map a.eval=(c.args.toList.map a.eval).toArray:=by apply Array.ext';simp
       simp[execOp,ho,resolve,hc,hu,Deferred.ofValue,invoke,wj h.1];rw[e]
     · refine⟨by simp at r1⊢;omega,fun j c' v hj hv=> ?_⟩
       rcases Nat.lt_or_ge j (fF st ms).length with aF|ir
       · rw[List.getElem?_append_left aF]at hj
         rw[Array.getElem?_append_left (by omega)]at hv;exact r2 j c' v hj hv
       · rw[List.getElem?_append_right ir]at hj
         rw[Array.getElem?_append_right (by omega),r1]at hv;exact fH _ _ _ hj hv
  · exact h.elim
end Go.AM
