/- The operations, continued: slice expressions, new slices, appends, structs and slices that are written out, bytes to a string. -/
import Derived.Test.YtjkbbnfdbfcebaaGreatDoorAm10
set_option linter.all false
namespace Go.AM
variable {lv:List Nat} {P:Program} {N:Nat} {o:Oper} {st:St} {K:St->Prop} {θ:Th} {W:Im}
def na (a:Act):Option Operand->Option Value
 |none=>none
 |some x=>some (a.eval x)
theorem ny {isSlice:Bool} {lo hi:Option Value} {Pu iQ:Option AV} {len cap:Nat} {R:Nat→Nat→Prop} (hlen:len≤cap)
    (dN:match lo,Pu with|none,none =>True|some v,some x=>bc θ W x v|_,_ =>False)
    (Dg:match hi,iQ with|none,none =>True|some v,some x=>bc θ W x v|_,_ =>False)
    (h:mo Pu iQ len R):∃a b,a≤b∧b≤len∧R a b∧∀w,(Instr.sliceBounds isSlice len cap lo hi none).run P w= .ok (a,b,cap) w:=by
  unfold mo at h;split at h
  · cases lo with
    |some v=>exact dN.elim
    |none =>
     cases hi with
     |some v=>exact Dg.elim
     |none =>exact⟨0,len,Nat.zero_le _,Nat.le_refl _,h,fun w=>by simp[Instr.sliceBounds]⟩
  · rename_i k a
    cases lo with
    |none =>exact dN.elim
    |some v=>
     cases hi with
     |some v=>exact Dg.elim
     |none =>
      have e:=bc.ff dN;subst e;obtain⟨h1,h2,h3⟩:=h;exact⟨a.toNat,len,by omega,Nat.le_refl _,h3,fun w=>by simp[Instr.sliceBounds,Instr.sliceBound,asIntOf,h1,h2]⟩
  · rename_i k b
    cases lo with
    |some v=>exact dN.elim
    |none =>
     cases hi with
     |none =>exact Dg.elim
     |some v=>
      have e:=bc.ff Dg;subst e;obtain⟨h1,h2,h3⟩:=h;have h4:b≤(cap:Int):=by omega
      exact⟨0,b.toNat,Nat.zero_le _,by omega,h3,fun w=>by simp[Instr.sliceBounds,Instr.sliceBound,asIntOf,h1,h4]⟩
  · rename_i k a k' b
    cases lo with
    |none =>exact dN.elim
    |some v=>
     cases hi with
     |none =>exact Dg.elim
     |some v'=>
      have e:=bc.ff dN;subst e;have e:=bc.ff Dg;subst e;obtain⟨h1,h2,h3,h4⟩:=h;have h5:b≤(cap:Int):=by omega
      have h6:0≤b:=by omega
      have h7:a≤(b.toNat:Int):=by omega
      have h8:¬max b 0<a:=by omega
      exact⟨a.toNat,b.toNat,by omega,by omega,h4,fun w=>by simp[Instr.sliceBounds,Instr.sliceBound,asIntOf,h1,h5,h6,h7,h8]⟩
  · exact h.elim
theorem Rl.opt {a:Act} {w:World} (h:Rl lv N st a w θ W) {x:Option Operand} {m:Option MA} (hx:tA lv x=some m):
    match na a x,m.map st.get with|none,none =>True|some v,some y=>bc θ W y v|_,_ =>False:=by
  cases x with
  |none =>cases hx;trivial
  |some x=>
   simp only[tA]at hx
   cases hy:bQ lv x with
   |none =>rw[hy]at hx;cases hx
   |some y=>rw[hy]at hx;cases hx;exact h.arg hy
theorem GQ (a:Act) (x:Option Operand):x.map a.eval=na a x:=by cases x<;>rfl
theorem GR {t:TypeId} {x:Operand} {lo hi:Option Operand} {a:Act} (ho:o.op=.slice t x lo hi none) {d:TypeDesc} (e:P.underlying t=some d) (hna:∀n e,d≠.array n e) (w:World):
  (execOp a.eval o).run P w=((Instr.slice t (a.eval x) (na a lo) (na a hi) none).run P w).andThen fun v w=>.ok (.value v) w:=by
 have:(Instr.sliceAt t (a.eval x) (na a lo) (na a hi) none).run P w=(Instr.slice t (a.eval x) (na a lo) (na a hi) none).run P w:=by
  cases d<;>first|(exact(hna _ _ rfl).elim)|(simp[Instr.sliceAt,run_underlying e];done)
 simp[execOp,ho,GQ,this]
theorem BI {x:AV} {lo hi:Option AV} {d:MD} (h:mq none x lo hi d K st):∃y,x= .p (.s y)∧mo lo hi y.length fun a b=>K (st.put d (.p (.s ((y.drop a).take (b-a))))):=by
  cases x with
  |p q=>cases q with
   |s y=>exact⟨y,rfl,h⟩
   |_ =>exact h.elim
  |_ =>exact h.elim
theorem BJ {t:TypeId} {x:Operand} {lo hi:Option Operand} {m:MA} {ml mh:Option MA} (ho:o.op=.slice t x lo hi none) (ht:P.underlying t=some .string) (hx:bQ lv x=some m)
  (dN:tA lv lo=some ml) (Dg:tA lv hi=some mh)
  (hd:o.dst.all (decide <| ·<N)=true) (h:mq none (st.get m) (ml.map st.get) (mh.map st.get) (cB lv o.dst) K st):fx lv P N o st K:=by
 intro a w θ W next Q hR hk
 have h1:=hR.arg hx;have g1:=hR.opt dN;have g2:=hR.opt Dg;have DS:=GR (P:=P) (a:=a) ho ht (fun _ _=>by simp) w;obtain⟨y,e1,h⟩:=BI h;rw[e1]at h1;obtain⟨e3,hy⟩:=h1.oU;have cL:(ByteArray.mk y.toArray).size=y.length:=by show y.toArray.size=_;simp
 obtain⟨p,q,Pv,hq,hK,dz⟩:=ny (P:=P) (isSlice:=false) (Nat.le_refl _) g1 g2 h;refine bA hR hd hk (v:=.string ⟨(((y.drop p).take (q-p))).toArray⟩) ?_ (.p _ _ (.s _ (by simp;omega))) hK;rw[DS,e3]
 have he:(ByteArray.mk y.toArray).extract p q=⟨((y.drop p).take (q-p)).toArray⟩:=by
  apply ByteArray.ext;rw[ByteArray.data_extract];apply Array.ext';simp[List.take_drop,Nat.add_sub_cancel' Pv]
 simp[Instr.slice,run_underlying ht,cL,dz,he]
theorem WZ {t e:TypeId} {sz:Nat} {x:Operand} {lo hi:Option Operand} {m:MA} {ml mh:Option MA} (ho:o.op= .slice t x lo hi none) (ht:P.underlying t=some (.slice e)) (cL:eV P e=some sz) (hx:bQ lv x=some m)
    (dN:tA lv lo=some ml) (Dg:tA lv hi=some mh)
    (hd:o.dst.all (decide <| · <N)=true) (h:mq (some sz) (st.get m) (ml.map st.get) (mh.map st.get) (cB lv o.dst) K st):fx lv P N o st K:=by
  intro a w θ W next Q hR hk
  have h1:=hR.arg hx;have g1:=hR.opt dN;have g2:=hR.opt Dg;have DS:=GR (P:=P) (a:=a) ho ht (fun _ _ =>by simp) w;obtain⟨inf,GP,oW⟩:=jV cL
  have run:∀(ad:Option Addr) (len cap p q:Nat),a.eval x= .slice ad len cap→(∀w,(Instr.sliceBounds true len cap (na a lo) (na a hi) none).run P w= .ok (p,q,cap) w)→
      (execOp a.eval o).run P w= .ok (.value (.slice (if cap=p then ad else ad.map (·.add (p*sz))) (q-p) (cap-p))) w:=by
    intro ad len cap p q e1 e2;rw[DS,e1];simp[Instr.slice,run_underlying ht,e2,sizeOf,typeInfo,GP,oW]
  generalize hv:a.eval x=v at h1;unfold mq at h;split at h
  case h_5=>exact h.elim
  case h_2=>rename_i e _;cases e
  case h_1 cP xs e0 e1=>
    cases e0;obtain⟨sI,h⟩:=h;rw[e1]at h1
    cases h1.fC with
    |l _ ad cap cP f hlen z8 vF nt gd eS cR=>
     obtain⟨p,q,Pv,hq,hK,dz⟩:=ny (P:=P) (isSlice:=true) hlen g1 g2 h;refine bA hR hd hk (run ad _ cap p q hv dz) ?_ hK;have hl:(List.take (q-p) (List.drop p xs)).length=q-p:=by simp;omega
     have Am:∀(i:Nat) (r:List PV),(List.take (q-p) (List.drop p xs))[i]?=some r→xs[p+i]?=some r∧p<q:=by
       intro i r hi;rw[List.getElem?_take]at hi;split at hi
       · rw[List.getElem?_drop]at hi;exact⟨hi,by omega⟩
       · cases hi
     refine .p _ _ ?_;have key:=gr.l (W:=W) (List.take (q-p) (List.drop p xs)) (if cap=p then ad else ad.map (·.add (p*sz))) (cap-p) cP (fun i j=>f (p+i) j) (by omega) (by omega) ?_ ?_ (fun r hr=>gd r (List.mem_of_mem_drop (List.mem_of_mem_take hr))) ?_ (fun i r j c hi hj=>cR _ r j c (Am i r hi).1 hj)
     · rw[hl]at key
       exact key
     · intro lb
       split at lb
       · rename_i Ng;omega
       · cases ad with
         |none =>have :=vF rfl;omega
         |some ad=>cases lb
     · intro cX x' GS
       have aap:xs≠[]:=by rintro rfl;simp at cX
       split at GS
       · exact nt aap x' GS
       · cases ad with
         |none =>cases GS
         |some ad=>cases GS;simp only[uP ad (nt aap ad rfl)]
     · intro i r j c hi hj x' GS
       obtain⟨iQ,aik⟩:=Am i r hi;rw[if_neg (by omega)]at GS
       cases ad with
       |none =>cases GS
       |some ad=>
        cases GS
        have hss:sz=cP:=by
          rw[←gd r (List.mem_of_getElem? iQ),sI r (List.mem_of_getElem? iQ)]
        subst hss;simp only[uP ad (nt (List.ne_nil_of_mem (List.mem_of_getElem? iQ)) ad rfl)];have :=eS (p+i) r j c iQ hj ad rfl;rw[Nat.add_mul]at this;rw[show ad.off+p*sz+(i*sz+j)=ad.off+(p*sz+i*sz+j)by omega];exact this
  case h_3 cP e0 e1=>
    rw[e1]at h1;cases h1.fC;obtain⟨p,q,Pv,hq,hK,dz⟩:=ny (P:=P) (isSlice:=true) (Nat.le_refl _) g1 g2 h;obtain rfl:q=0:=by omega
    obtain rfl:p=0:=by omega
    exact bA hR hd hk (run none _ _ _ _ hv dz) (.p _ _ .nl) hK
  case h_4 cP id ver off n e0 e1=>
    cases e0;rw[e1]at h1;unfold DM at h;split at h
    case h_2=>exact h.elim
    case h_1 cP cA rs hid=>
    obtain⟨rfl,rfl,h⟩:=h;obtain⟨q1,q2,q3⟩:=hR.mem.obj id _ hid
    cases h1 with
    |ea _ _ _ _ ad cap wh=>rcases q1 with⟨q1,_⟩|⟨b,tot,ty,vs,q1,_⟩<;>(rw[wh]at q1;cases q1)
    |fN _ _ hn=>
     obtain⟨p,q,Pv,hq,hK,dz⟩:=ny (P:=P) (isSlice:=true) (Nat.le_refl _) g1 g2 h;obtain rfl:q=0:=by omega
     obtain rfl:p=0:=by omega
     exact bA hR hd hk (run none _ _ _ _ hv dz) (.fN _ _ hn) hK
    |gs _ _ _ _ b sz tot o' cap nx vx Df BH mG yR=>
     rcases q1 with⟨q1,_⟩|⟨b',fc,ty,vs,q1,_⟩
     · rw[nx]at q1;cases q1
     rw[nx]at q1;cases q1;obtain⟨p,q,Pv,hq,hK,dz⟩:=ny (P:=P) (isSlice:=true) vx g1 g2 h;refine bA hR hd hk (run _ _ cap p q hv dz) ?_ hK;by_cases Ng:cap=p
     · rw[if_pos Ng]
       exact .gs id _ _ _ b _ tot o' _ nx (by omega) (by omega) (by omega) (fun aj=>by omega) (fun h0=>yR (by omega))
     · rw[if_neg Ng]
       simp only[Option.map_some,Addr.add_lit]
       exact .gs id _ _ _ b _ tot _ _ nx (by omega) (by omega) (by omega) (fun _ =>by rw[mG (by omega),Nat.add_mul]) (fun h0=>by
         have e1:off=0:=by omega
         have e2:p=0:=by omega
         subst e1;subst e2;rw[yR rfl];simp)
end Go.AM
