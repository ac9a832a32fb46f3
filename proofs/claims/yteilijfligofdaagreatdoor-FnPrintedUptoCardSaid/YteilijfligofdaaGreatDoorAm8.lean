/- The operations, continued: stores, addresses, operators, indexes. -/
import Derived.Test.YteilijfligofdaaGreatDoorAm7
set_option linter.all false
namespace Go.AM
variable {lv:List Nat} {P:Program} {N:Nat} {o:Oper} {st:St} {K:St->Prop} {θ:Th} {W:Im}
theorem fS {α:Type} (vs us:List α) (s k:Nat) (h:s+us.length<=vs.length):
  (vs.take s++us++vs.drop (s+us.length))[k]?=if k<s then vs[k]?else if k<s+us.length then us[k-s]?else vs[k]?:=by
 rw[List.append_assoc];by_cases h1:k<s
 ·rw[if_pos h1,List.getElem?_append_left (by simp;omega),List.getElem?_take,if_pos h1]
 ·rw[if_neg h1,List.getElem?_append_right (by simp;omega)]
  have:(vs.take s).length=s:=by simp;omega
  rw[this];by_cases h2:k<s+us.length
  ·rw[if_pos h2,List.getElem?_append_left (by omega)]
  ·rw[if_neg h2,List.getElem?_append_right (by omega),List.getElem?_drop]
   congr 1;omega
theorem rY {cs us fP:List AV} {off:Nat} (h:eG cs off us=some fP) (hu:us≠[]):
    off+us.length≤cs.length∧fP=cs.take off++us++cs.drop (off+us.length):=by
  induction cs generalizing off us fP with
  |nil=>
   cases us with
   |nil=>exact(hu rfl).elim
   |cons u us=>cases off<;>cases h
  |cons c cs ih=>
   cases us with
   |nil=>exact(hu rfl).elim
   |cons u us=>
    cases off with
    |zero=>
     simp only[eG]at h
     cases us with
     |nil=>
      rw[G4]at h;cases h
      simp
     |cons u' us=>
      cases hs:eG cs 0 (u'::us)with
      |none =>rw[hs]at h;cases h
      |some ds=>
       rw[hs]at h;cases h;obtain⟨h1,h2⟩:=ih hs (by simp);refine⟨by simp at h1⊢;omega, ?_⟩;rw[h2]
       simp
    |succ off=>
     simp only[eG]at h
     cases hs:eG cs off (u::us)with
     |none =>rw[hs]at h;cases h
     |some ds=>
      rw[hs]at h;cases h;obtain⟨h1,h2⟩:=ih hs (by simp);refine⟨by simp at h1⊢;omega, ?_⟩;rw[h2];simp[Nat.succ_add]
theorem qM (w:World) (g:Nat) (cs:Array Value):(w.setRow g cs).heap.size=w.heap.size:=by simp[World.setRow]
theorem W3 {t:TypeId} {n:Nat} {x v:Operand} {mx mv:MA} (ho:o.op= .store t x v) (hx:bK lv x=some mx) (hv:bK lv v=some mv) (hn:eX P t=some n) (G6:0<n)
    (hd:o.dst.all (decide <| · <N)=true) (h:tI (nG st.H n (st.get mx) (st.get mv)) (cm lv o.dst) K st):fG lv P N o st K:=by
  intro a w θ W next Q hR hk
  cases hH:nG st.H n (st.get mx) (st.get mv)with
  |none =>rw[hH]at h;exact h.elim
  |some H'=>
   rw[hH]at h;unfold nG at hH;split at hH
   case isFalse=>cases hH
   case isTrue hc=>
   simp only[Bool.and_eq_true,beq_iff_eq]at hc;obtain⟨c1,c2,c3⟩:=wL (hR.arg hv) hc.1;have cK:(st.get mv).cells≠[]:=fun e=>by rw[e]at hc;simp at hc;omega
   obtain⟨i,hi,eN⟩:∃i,P.info? t=some i∧i.size=n:=by
     simp only[eX]at hn
     cases hi:P.info? t with
     |none =>rw[hi]at hn;cases hn
     |some i=>rw[hi]at hn;cases hn;exact⟨i,rfl,rfl⟩
   have gU:(a.eval v).cells.size=i.size:=by rw[c1,hc.2,eN]
   have hlen:(a.eval v).cells.toList.length=(st.get mv).cells.length:=by simpa using c1
   have run:∀(b off:Nat) (vs:Array Value) (ty:TypeId),a.eval x= .pointer (some ⟨b,off,none⟩)→w.heap[b]?=some (.cells vs ty (0,0))→off+(a.eval v).cells.toList.length≤vs.size→
       (execOp a.eval o).run P w= .ok .skip (w.setRow b (vs.toList.take off++(a.eval v).cells.toList++vs.toList.drop (off+(a.eval v).cells.toList.length)).toArray):=by
     intro b off vs ty hb1 pU Fs
     have bc:=run_storeCells_at P b off ty (a.eval v).cells.toList 0 vs w pU (by simpa using Fs) (fun u hu=>by
       obtain⟨j,hj⟩:=List.getElem?_of_mem hu;exact c3 j u (by simpa using hj))
     simp only[Nat.add_zero]at bc;simp[execOp,ho,hb1,Instr.storeAt,Instr.sureAddr,storeVar,sizeOf,typeInfo,hi,gU,bc]
   split at hH
   · rename_i id off e
     split at hH
     · rename_i cs hid
       cases nE:eG cs off (st.get mv).cells with
       |none =>rw[nE]at hH;cases hH
       |some fP=>
        rw[nE]at hH;cases hH;obtain⟨bx,bt⟩:=rY nE cK
        have xN:id<st.H.length:=by
          rcases Nat.lt_or_ge id st.H.length with h'|h'
          · exact h'
          · rw[List.getElem?_eq_none h']at hid;cases hid
        obtain⟨⟨b,sz,br,ty,vs,h1,h2,h3,h4,h5⟩,h6⟩:=hR.mem.obj id _ hid;have hp:=hR.arg hx;rw[e]at hp
        cases pd:a.eval x with
        |pointer p=>
         rw[pd]at hp
         cases hp with
         |ptr _ _ b' cX gn e'=>
          rw[h1]at e';cases e';have Fs:off+(a.eval v).cells.toList.length≤vs.size:=by rw[hlen];omega
          have dp:=run b off vs ty pd h2 Fs
          obtain⟨s1,s2⟩:=hR.mem.write (w':=w.setRow b (vs.toList.take off++(a.eval v).cells.toList++vs.toList.drop (off+(a.eval v).cells.toList.length)).toArray) id 0 b sz br (.var fP) xN h1 rfl rfl rfl (qM _ _ _) (fun k ic=>setRow_other _ _ _ _ ic)
            ⟨⟨b,sz,br,ty,_,h1,setRow_heap w b vs _ ty _ h2,by rw[bt];simp;omega,fun j c u hj hu=>by
              rw[bt,fS _ _ _ _ bx]at hj;simp only[List.getElem?_toArray]at hu;rw[fS _ _ _ _ (by simpa using Fs),hlen]at hu;split at hj
              · rename_i aF;rw[if_pos aF]at hu;exact h4 j c u hj (by simpa using hu)
              · rename_i aF;rw[if_neg aF]at hu
                split at hj
                · rename_i gy;rw[if_pos gy]at hu;exact c2 _ c u hj (by simpa using hu)
                · rename_i gy;rw[if_neg gy]at hu;exact h4 j c u hj (by simpa using hu),fun j u hu=>by
              simp only[List.getElem?_toArray]at hu;rw[fS _ _ _ _ (by simpa using Fs)]at hu;split at hu
              · exact h5 j u (by simpa using hu)
              · split at hu
                · exact c3 _ u (by simpa using hu)
                · exact h5 j u (by simpa using hu)⟩,h6⟩
          exact Ec hR hd hk dp s1 s2 h
         |fO _ _ _ e'=>rw[h1]at e';cases e'
        |_ =>rw[pd]at hp;cases hp<;>(rename_i e' _;rw[h1]at e';cases e')
     · cases hH
   · rename_i id ver row gl e
     split at hH
     · rename_i sz cI rs hid
       split at hH
       case isFalse=>cases hH
       case isTrue ev=>
       subst ev
       cases fZ:rs[row]?with
       |none =>rw[fZ]at hH;cases hH
       |some r=>
        rw[fZ]at hH;simp only at hH
        cases nE:eG r gl (st.get mv).cells with
        |none =>rw[nE]at hH;cases hH
        |some r'=>
         rw[nE]at hH;cases hH;obtain⟨bx,bt⟩:=rY nE cK
         have xN:id<st.H.length:=by
           rcases Nat.lt_or_ge id st.H.length with h'|h'
           · exact h'
           · rw[List.getElem?_eq_none h']at hid;cases hid
         have qL:row<rs.length:=by
           rcases Nat.lt_or_ge row rs.length with h'|h'
           · exact h'
           · rw[List.getElem?_eq_none h']at fZ;cases fZ
         obtain⟨h1,g1,g2⟩:=hR.mem.obj id _ hid;rcases h1 with⟨_,h1⟩|⟨b,br,ty,vs,h1,h2,h3,h4,h5,h6,h7⟩
         · subst h1;simp at fZ
         · have hr:r.length=sz:=h5 r (List.mem_of_getElem? fZ)
           have h8:(row+1)*sz≤br*sz:=Nat.mul_le_mul_right _ (by omega);rw[Nat.add_mul]at h8;have hp:=hR.arg hx;rw[e]at hp
           cases pd:a.eval x with
           |pointer p=>
            rw[pd]at hp
            cases hp with
            |ep _ _ _ _ b' cX gn e'=>
             rw[h1]at e';cases e';have Fs:row*sz+gl+(a.eval v).cells.toList.length≤vs.size:=by rw[hlen];omega
             have dp:=run b (row*sz+gl) vs ty pd h2 Fs
             obtain⟨s1,s2⟩:=hR.mem.write (w':=w.setRow b (vs.toList.take (row*sz+gl)++(a.eval v).cells.toList++vs.toList.drop (row*sz+gl+(a.eval v).cells.toList.length)).toArray) id ver b sz br (.rows sz ver (rs.set row r')) xN h1 rfl rfl rfl (qM _ _ _) (fun k ic=>setRow_other _ _ _ _ ic)
               ⟨.inr ⟨b,br,ty,_,h1,setRow_heap w b vs _ ty _ h2,by simp;omega,by simpa using h4,fun q hq=>by
                   rcases List.mem_or_eq_of_mem_set hq with hq|rfl
                   · exact h5 q hq
                   · rw[bt];simp;omega,
                 fun i q j c u hi hj hu=>by
                   simp only[List.getElem?_toArray]at hu;rw[fS _ _ _ _ (by simpa using Fs),hlen]at hu;by_cases hir:i=row
                   · subst hir
                     rw[List.getElem?_set_self qL]at hi;cases hi;rw[bt,fS _ _ _ _ bx]at hj;split at hj
                     · rename_i aF
                       rw[if_pos (by omega)]at hu;exact h6 i r j c u fZ hj (by simpa using hu)
                     · rename_i aF
                       rw[if_neg (by omega)]at hu;split at hj
                       · rename_i gy
                         rw[if_pos (by omega)]at hu;exact c2 _ c u hj (by rw[show i*sz+j-(i*sz+gl)=j-gl by omega]at hu;simpa using hu)
                       · rename_i gy
                         rw[if_neg (by omega)]at hu;exact h6 i r j c u fZ hj (by simpa using hu)
                   · rw[List.getElem?_set_ne (Ne.symm hir)]at hi
                     have hq:q.length=sz:=h5 q (List.mem_of_getElem? hi)
                     have jE:j<q.length:=by
                       rcases Nat.lt_or_ge j q.length with h'|h'
                       · exact h'
                       · rw[List.getElem?_eq_none h']at hj;cases hj
                     have de:¬(row*sz+gl≤i*sz+j∧i*sz+j<row*sz+gl+(st.get mv).cells.length):=by
                       rintro⟨q1,q2⟩;rcases Nat.lt_or_gt_of_ne hir with hl|hl
                       · have :=Nat.mul_le_mul_right sz hl;rw[Nat.succ_mul]at this;omega
                       · have :=Nat.mul_le_mul_right sz hl;rw[Nat.succ_mul]at this;omega
                     have jd:vs.toList[i*sz+j]?=some u:=by
                       split at hu
                       · exact hu
                       · rename_i q1
                         split at hu
                         · rename_i q2;exact(de ⟨by omega,q2⟩).elim
                         · exact hu
                     exact h6 i q j c u hi hj (by simpa using jd),
                 fun j u hu=>by
                   simp only[List.getElem?_toArray]at hu;rw[fS _ _ _ _ (by simpa using Fs)]at hu;split at hu
                   · exact h7 j u (by simpa using hu)
                   · split at hu
                     · exact c3 _ u (by simpa using hu)
                     · exact h7 j u (by simpa using hu)⟩,g1,g2⟩
             exact Ec hR hd hk dp s1 s2 h
            |kx _ _ _ _ _ e'=>rw[h1]at e';cases e'
           |_ =>rw[pd]at hp;cases hp<;>(rename_i e' _;rw[h1]at e';cases e')
     · cases hH
   · cases hH
end Go.AM
