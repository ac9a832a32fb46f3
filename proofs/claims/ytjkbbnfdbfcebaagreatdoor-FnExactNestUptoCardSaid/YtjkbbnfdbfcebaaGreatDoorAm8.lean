/- The operations, continued: stores, addresses, operators, indexes. -/
import Derived.Test.YtjkbbnfdbfcebaaGreatDoorAm7
set_option linter.all false
namespace Go.AM
variable {lv:List Nat} {P:Program} {N:Nat} {o:Oper} {st:St} {K:St->Prop} {θ:Th} {W:Im}
theorem fQ {α:Type} (vs us:List α) (s k:Nat) (h:s+us.length<=vs.length):
  (vs.take s++us++vs.drop (s+us.length))[k]?=if k<s then vs[k]?else if k<s+us.length then us[k-s]?else vs[k]?:=by
 rw[List.append_assoc];by_cases h1:k<s
 ·rw[if_pos h1,List.getElem?_append_left (by simp;omega),List.getElem?_take,if_pos h1]
 ·rw[if_neg h1,List.getElem?_append_right (by simp;omega)]
  have:(vs.take s).length=s:=by simp;omega
  rw[this];by_cases h2:k<s+us.length
  ·rw[if_pos h2,List.getElem?_append_left (by omega)]
  ·rw[if_neg h2,List.getElem?_append_right (by omega),List.getElem?_drop]
   congr 1;omega
theorem rJ {cs us gG:List AV} {off:Nat} (h:dU cs off us=some gG) (hu:us≠[]):
    off+us.length≤cs.length∧gG=cs.take off++us++cs.drop (off+us.length):=by
  induction cs generalizing off us gG with
  |nil=>
   cases us with
   |nil=>exact(hu rfl).elim
   |cons u us=>cases off<;>cases h
  |cons c cs ih=>
   cases us with
   |nil=>exact(hu rfl).elim
   |cons u us=>
    cases off with
    |zero=>
     simp only[dU]at h
     cases us with
     |nil=>
      rw[Aj]at h;cases h
      simp
     |cons u' us=>
      cases hs:dU cs 0 (u'::us)with
      |none =>rw[hs]at h;cases h
      |some ds=>
       rw[hs]at h;cases h;obtain⟨h1,h2⟩:=ih hs (by simp);refine⟨by simp at h1⊢;omega, ?_⟩;rw[h2]
       simp
    |succ off=>
     simp only[dU]at h
     cases hs:dU cs off (u::us)with
     |none =>rw[hs]at h;cases h
     |some ds=>
      rw[hs]at h;cases h;obtain⟨h1,h2⟩:=ih hs (by simp);refine⟨by simp at h1⊢;omega, ?_⟩;rw[h2];simp[Nat.succ_add]
theorem qA (w:World) (g:Nat) (cs:Array Value):(w.setRow g cs).heap.size=w.heap.size:=by simp[World.setRow]
theorem WO {t:TypeId} {n:Nat} {x v:Operand} {mx mv:MA} (ho:o.op= .store t x v) (hx:bQ lv x=some mx) (hv:bQ lv v=some mv) (hn:eV P t=some n) (GN:0<n)
    (hd:o.dst.all (decide <| · <N)=true) (h:tm (nu st.H n (st.get mx) (st.get mv)) (cB lv o.dst) K st):fx lv P N o st K:=by
  intro a w θ W next Q hR hk
  cases hH:nu st.H n (st.get mx) (st.get mv)with
  |none =>rw[hH]at h;exact h.elim
  |some H'=>
   rw[hH]at h;unfold nu at hH;split at hH
   case isFalse=>cases hH
   case isTrue hc=>
   simp only[Bool.and_eq_true,beq_iff_eq]at hc;obtain⟨c1,c2,c3⟩:=wg (hR.arg hv) hc.1;have cX:(st.get mv).cells≠[]:=fun e=>by rw[e]at hc;simp at hc;omega
   obtain⟨i,hi,cL⟩:∃i,P.info? t=some i∧i.size=n:=by
     simp only[eV]at hn
     cases hi:P.info? t with
     |none =>rw[hi]at hn;cases hn
     |some i=>rw[hi]at hn;cases hn;exact⟨i,rfl,rfl⟩
   have gQ:(a.eval v).cells.size=i.size:=by rw[c1,hc.2,cL]
   have hlen:(a.eval v).cells.toList.length=(st.get mv).cells.length:=by simpa using c1
   have run:∀(b off:Nat) (vs:Array Value) (ty:TypeId),a.eval x= .pointer (some ⟨b,off,none⟩)→w.heap[b]?=some (.cells vs ty (0,0))→off+(a.eval v).cells.toList.length≤vs.size→
       (execOp a.eval o).run P w= .ok .skip (w.setRow b (vs.toList.take off++(a.eval v).cells.toList++vs.toList.drop (off+(a.eval v).cells.toList.length)).toArray):=by
     intro b off vs ty hb1 mE EY
     have ba:=run_storeCells_at P b off ty (a.eval v).cells.toList 0 vs w mE (by simpa using EY) (fun u hu=>by
       obtain⟨j,hj⟩:=List.getElem?_of_mem hu;exact c3 j u (by simpa using hj))
     simp only[Nat.add_zero]at ba;simp[execOp,ho,hb1,Instr.storeAt,Instr.sureAddr,storeVar,sizeOf,typeInfo,hi,gQ,ba]
   split at hH
   · rename_i id off e
     split at hH
     · rename_i cs hid
       cases nt:dU cs off (st.get mv).cells with
       |none =>rw[nt]at hH;cases hH
       |some gG=>
        rw[nt]at hH;cases hH;obtain⟨bG,bD⟩:=rJ nt cX
        have xv:id<st.H.length:=by
          rcases Nat.lt_or_ge id st.H.length with h'|h'
          · exact h'
          · rw[List.getElem?_eq_none h']at hid;cases hid
        obtain⟨⟨b,sz,tot,ty,vs,h1,h2,h3,h4,h5⟩,h6⟩:=hR.mem.obj id _ hid;have hp:=hR.arg hx;rw[e]at hp
        cases oV:a.eval x with
        |pointer p=>
         rw[oV]at hp
         cases hp with
         |ptr _ _ b' cP fc e'=>
          rw[h1]at e';cases e';have EY:off+(a.eval v).cells.toList.length≤vs.size:=by rw[hlen];omega
          have dz:=run b off vs ty oV h2 EY
          obtain⟨s1,s2⟩:=hR.mem.write (w':=w.setRow b (vs.toList.take off++(a.eval v).cells.toList++vs.toList.drop (off+(a.eval v).cells.toList.length)).toArray) id 0 b sz tot (.var gG) xv h1 rfl rfl rfl (qA _ _ _) (fun k ia=>setRow_other _ _ _ _ ia)
            ⟨⟨b,sz,tot,ty,_,h1,setRow_heap w b vs _ ty _ h2,by rw[bD];simp;omega,fun j c u hj hu=>by
              rw[bD,fQ _ _ _ _ bG]at hj;simp only[List.getElem?_toArray]at hu;rw[fQ _ _ _ _ (by simpa using EY),hlen]at hu;split at hj
              · rename_i aj;rw[if_pos aj]at hu;exact h4 j c u hj (by simpa using hu)
              · rename_i aj;rw[if_neg aj]at hu
                split at hj
                · rename_i gD;rw[if_pos gD]at hu;exact c2 _ c u hj (by simpa using hu)
                · rename_i gD;rw[if_neg gD]at hu;exact h4 j c u hj (by simpa using hu),fun j u hu=>by
              simp only[List.getElem?_toArray]at hu;rw[fQ _ _ _ _ (by simpa using EY)]at hu;split at hu
              · exact h5 j u (by simpa using hu)
              · split at hu
                · exact c3 _ u (by simpa using hu)
                · exact h5 j u (by simpa using hu)⟩,h6⟩
          exact DR hR hd hk dz s1 s2 h
         |fM _ _ _ e'=>rw[h1]at e';cases e'
        |_ =>rw[oV]at hp;cases hp<;>(rename_i e' _;rw[h1]at e';cases e')
     · cases hH
   · rename_i id ver row fL e
     split at hH
     · rename_i sz cA rs hid
       split at hH
       case isFalse=>cases hH
       case isTrue ev=>
       subst ev
       cases gd:rs[row]?with
       |none =>rw[gd]at hH;cases hH
       |some r=>
        rw[gd]at hH;simp only at hH
        cases nt:dU r fL (st.get mv).cells with
        |none =>rw[nt]at hH;cases hH
        |some r'=>
         rw[nt]at hH;cases hH;obtain⟨bG,bD⟩:=rJ nt cX
         have xv:id<st.H.length:=by
           rcases Nat.lt_or_ge id st.H.length with h'|h'
           · exact h'
           · rw[List.getElem?_eq_none h']at hid;cases hid
         have n9:row<rs.length:=by
           rcases Nat.lt_or_ge row rs.length with h'|h'
           · exact h'
           · rw[List.getElem?_eq_none h']at gd;cases gd
         obtain⟨h1,g1,g2⟩:=hR.mem.obj id _ hid;rcases h1 with⟨_,h1⟩|⟨b,tot,ty,vs,h1,h2,h3,h4,h5,h6,h7⟩
         · subst h1;simp at gd
         · have hr:r.length=sz:=h5 r (List.mem_of_getElem? gd)
           have h8:(row+1)*sz≤tot*sz:=Nat.mul_le_mul_right _ (by omega);rw[Nat.add_mul]at h8;have hp:=hR.arg hx;rw[e]at hp
           cases oV:a.eval x with
           |pointer p=>
            rw[oV]at hp
            cases hp with
            |ep _ _ _ _ b' cP fc e'=>
             rw[h1]at e';cases e';have EY:row*sz+fL+(a.eval v).cells.toList.length≤vs.size:=by rw[hlen];omega
             have dz:=run b (row*sz+fL) vs ty oV h2 EY
             obtain⟨s1,s2⟩:=hR.mem.write (w':=w.setRow b (vs.toList.take (row*sz+fL)++(a.eval v).cells.toList++vs.toList.drop (row*sz+fL+(a.eval v).cells.toList.length)).toArray) id ver b sz tot (.rows sz ver (rs.set row r')) xv h1 rfl rfl rfl (qA _ _ _) (fun k ia=>setRow_other _ _ _ _ ia)
               ⟨.inr ⟨b,tot,ty,_,h1,setRow_heap w b vs _ ty _ h2,by simp;omega,by simpa using h4,fun q hq=>by
                   rcases List.mem_or_eq_of_mem_set hq with hq|rfl
                   · exact h5 q hq
                   · rw[bD];simp;omega,
                 fun i q j c u hi hj hu=>by
                   simp only[List.getElem?_toArray]at hu;rw[fQ _ _ _ _ (by simpa using EY),hlen]at hu;by_cases hir:i=row
                   · subst hir
                     rw[List.getElem?_set_self n9]at hi;cases hi;rw[bD,fQ _ _ _ _ bG]at hj;split at hj
                     · rename_i aj
                       rw[if_pos (by omega)]at hu;exact h6 i r j c u gd hj (by simpa using hu)
                     · rename_i aj
                       rw[if_neg (by omega)]at hu;split at hj
                       · rename_i gD
                         rw[if_pos (by omega)]at hu;exact c2 _ c u hj (by rw[show i*sz+j-(i*sz+fL)=j-fL by omega]at hu;simpa using hu)
                       · rename_i gD
                         rw[if_neg (by omega)]at hu;exact h6 i r j c u gd hj (by simpa using hu)
                   · rw[List.getElem?_set_ne (Ne.symm hir)]at hi
                     have hq:q.length=sz:=h5 q (List.mem_of_getElem? hi)
                     have me:j<q.length:=by
                       rcases Nat.lt_or_ge j q.length with h'|h'
                       · exact h'
                       · rw[List.getElem?_eq_none h']at hj;cases hj
                     have dh:¬(row*sz+fL≤i*sz+j∧i*sz+j<row*sz+fL+(st.get mv).cells.length):=by
                       rintro⟨q1,q2⟩;rcases Nat.lt_or_gt_of_ne hir with hl|hl
                       · have :=Nat.mul_le_mul_right sz hl;rw[Nat.succ_mul]at this;omega
                       · have :=Nat.mul_le_mul_right sz hl;rw[Nat.succ_mul]at this;omega
                     have je:vs.toList[i*sz+j]?=some u:=by
                       split at hu
                       · exact hu
                       · rename_i q1
                         split at hu
                         · rename_i q2;exact(dh ⟨by omega,q2⟩).elim
                         · exact hu
                     exact h6 i q j c u hi hj (by simpa using je),
                 fun j u hu=>by
                   simp only[List.getElem?_toArray]at hu;rw[fQ _ _ _ _ (by simpa using EY)]at hu;split at hu
                   · exact h7 j u (by simpa using hu)
                   · split at hu
                     · exact c3 _ u (by simpa using hu)
                     · exact h7 j u (by simpa using hu)⟩,g1,g2⟩
             exact DR hR hd hk dz s1 s2 h
            |kx _ _ _ _ _ e'=>rw[h1]at e';cases e'
           |_ =>rw[oV]at hp;cases hp<;>(rename_i e' _;rw[h1]at e';cases e')
     · cases hH
   · cases hH
end Go.AM
