/- The operations, continued: slice expressions, new slices, appends, structs and slices that are written out, bytes to a string. -/
import Derived.Test.YteilijfligofdaaGreatDoorAm10
set_option linter.all false
namespace Go.AM
variable {lv:List Nat} {P:Program} {N:Nat} {o:Oper} {st:St} {K:St->Prop} {θ:Th} {W:Im}
def nr (a:Act):Option Operand->Option Value
 |none=>none
 |some x=>some (a.eval x)
theorem nL {isSlice:Bool} {lo hi:Option Value} {Qz iR:Option AV} {len cap:Nat} {R:Nat→Nat→Prop} (hlen:len≤cap)
    (eg:match lo,Qz with|none,none =>True|some v,some x=>bb θ W x v|_,_ =>False)
    (DF:match hi,iR with|none,none =>True|some v,some x=>bb θ W x v|_,_ =>False)
    (h:mC Qz iR len R):∃a b,a≤b∧b≤len∧R a b∧∀w,(Instr.sliceBounds isSlice len cap lo hi none).run P w= .ok (a,b,cap) w:=by
  unfold mC at h;split at h
  · cases lo with
    |some v=>exact eg.elim
    |none =>
     cases hi with
     |some v=>exact DF.elim
     |none =>exact⟨0,len,Nat.zero_le _,Nat.le_refl _,h,fun w=>by simp[Instr.sliceBounds]⟩
  · rename_i k a
    cases lo with
    |none =>exact eg.elim
    |some v=>
     cases hi with
     |some v=>exact DF.elim
     |none =>
      have e:=bb.fh eg;subst e;obtain⟨h1,h2,h3⟩:=h;exact⟨a.toNat,len,by omega,Nat.le_refl _,h3,fun w=>by simp[Instr.sliceBounds,Instr.sliceBound,asIntOf,h1,h2]⟩
  · rename_i k b
    cases lo with
    |some v=>exact eg.elim
    |none =>
     cases hi with
     |none =>exact DF.elim
     |some v=>
      have e:=bb.fh DF;subst e;obtain⟨h1,h2,h3⟩:=h;have h4:b≤(cap:Int):=by omega
      exact⟨0,b.toNat,Nat.zero_le _,by omega,h3,fun w=>by simp[Instr.sliceBounds,Instr.sliceBound,asIntOf,h1,h4]⟩
  · rename_i k a k' b
    cases lo with
    |none =>exact eg.elim
    |some v=>
     cases hi with
     |none =>exact DF.elim
     |some v'=>
      have e:=bb.fh eg;subst e;have e:=bb.fh DF;subst e;obtain⟨h1,h2,h3,h4⟩:=h;have h5:b≤(cap:Int):=by omega
      have h6:0≤b:=by omega
      have h7:a≤(b.toNat:Int):=by omega
      have h8:¬max b 0<a:=by omega
      exact⟨a.toNat,b.toNat,by omega,by omega,h4,fun w=>by simp[Instr.sliceBounds,Instr.sliceBound,asIntOf,h1,h5,h6,h7,h8]⟩
  · exact h.elim
theorem Rl.opt {a:Act} {w:World} (h:Rl lv N st a w θ W) {x:Option Operand} {m:Option MA} (hx:tL lv x=some m):
    match nr a x,m.map st.get with|none,none =>True|some v,some y=>bb θ W y v|_,_ =>False:=by
  cases x with
  |none =>cases hx;trivial
  |some x=>
   simp only[tL]at hx
   cases hy:bK lv x with
   |none =>rw[hy]at hx;cases hx
   |some y=>rw[hy]at hx;cases hx;exact h.arg hy
theorem Ha (a:Act) (x:Option Operand):x.map a.eval=nr a x:=by cases x<;>rfl
theorem Hb {t:TypeId} {x:Operand} {lo hi:Option Operand} {a:Act} (ho:o.op=.slice t x lo hi none) {d:TypeDesc} (e:P.underlying t=some d) (hna:∀n e,d≠.array n e) (w:World):
  (execOp a.eval o).run P w=((Instr.slice t (a.eval x) (nr a lo) (nr a hi) none).run P w).andThen fun v w=>.ok (.value v) w:=by
 have:(Instr.sliceAt t (a.eval x) (nr a lo) (nr a hi) none).run P w=(Instr.slice t (a.eval x) (nr a lo) (nr a hi) none).run P w:=by
  cases d<;>first|(exact(hna _ _ rfl).elim)|(simp[Instr.sliceAt,run_underlying e];done)
 simp[execOp,ho,Ha,this]
theorem BV {x:AV} {lo hi:Option AV} {d:MD} (h:mD none x lo hi d K st):∃y,x= .p (.s y)∧mC lo hi y.length fun a b=>K (st.put d (.p (.s ((y.drop a).take (b-a))))):=by
  cases x with
  |p q=>cases q with
   |s y=>exact⟨y,rfl,h⟩
   |_ =>exact h.elim
  |_ =>exact h.elim
theorem BW {t:TypeId} {x:Operand} {lo hi:Option Operand} {m:MA} {ml mh:Option MA} (ho:o.op=.slice t x lo hi none) (ht:P.underlying t=some .string) (hx:bK lv x=some m)
  (eg:tL lv lo=some ml) (DF:tL lv hi=some mh)
  (hd:o.dst.all (decide <| ·<N)=true) (h:mD none (st.get m) (ml.map st.get) (mh.map st.get) (cm lv o.dst) K st):fG lv P N o st K:=by
 intro a w θ W next Q hR hk
 have h1:=hR.arg hx;have g1:=hR.opt eg;have g2:=hR.opt DF;have Ed:=Hb (P:=P) (a:=a) ho ht (fun _ _=>by simp) w;obtain⟨y,e1,h⟩:=BV h;rw[e1]at h1;obtain⟨e3,hy⟩:=h1.pb;have eN:(ByteArray.mk y.toArray).size=y.length:=by show y.toArray.size=_;simp
 obtain⟨p,q,QA,hq,hK,dp⟩:=nL (P:=P) (isSlice:=false) (Nat.le_refl _) g1 g2 h;refine bm hR hd hk (v:=.string ⟨(((y.drop p).take (q-p))).toArray⟩) ?_ (.p _ _ (.s _ (by simp;omega))) hK;rw[Ed,e3]
 have he:(ByteArray.mk y.toArray).extract p q=⟨((y.drop p).take (q-p)).toArray⟩:=by
  apply ByteArray.ext;rw[ByteArray.data_extract];apply Array.ext';simp[List.take_drop,Nat.add_sub_cancel' QA]
 simp[Instr.slice,run_underlying ht,eN,dp,he]
theorem Xc {t e:TypeId} {sz:Nat} {x:Operand} {lo hi:Option Operand} {m:MA} {ml mh:Option MA} (ho:o.op= .slice t x lo hi none) (ht:P.underlying t=some (.slice e)) (eN:eX P e=some sz) (hx:bK lv x=some m)
    (eg:tL lv lo=some ml) (DF:tL lv hi=some mh)
    (hd:o.dst.all (decide <| · <N)=true) (h:mD (some sz) (st.get m) (ml.map st.get) (mh.map st.get) (cm lv o.dst) K st):fG lv P N o st K:=by
  intro a w θ W next Q hR hk
  have h1:=hR.arg hx;have g1:=hR.opt eg;have g2:=hR.opt DF;have Ed:=Hb (P:=P) (a:=a) ho ht (fun _ _ =>by simp) w;obtain⟨inf,G9,pf⟩:=jW eN
  have run:∀(ad:Option Addr) (len cap p q:Nat),a.eval x= .slice ad len cap→(∀w,(Instr.sliceBounds true len cap (nr a lo) (nr a hi) none).run P w= .ok (p,q,cap) w)→
      (execOp a.eval o).run P w= .ok (.value (.slice (if cap=p then ad else ad.map (·.add (p*sz))) (q-p) (cap-p))) w:=by
    intro ad len cap p q e1 e2;rw[Ed,e1];simp[Instr.slice,run_underlying ht,e2,sizeOf,typeInfo,G9,pf]
  generalize hv:a.eval x=v at h1;unfold mD at h;split at h
  case h_5=>exact h.elim
  case h_2=>rename_i e _;cases e
  case h_1 cX xs e0 e1=>
    cases e0;obtain⟨lA,h⟩:=h;rw[e1]at h1
    cases h1.gE with
    |l _ ad cap cX f hlen Ax v7 nE fZ eV cY=>
     obtain⟨p,q,QA,hq,hK,dp⟩:=nL (P:=P) (isSlice:=true) hlen g1 g2 h;refine bm hR hd hk (run ad _ cap p q hv dp) ?_ hK;have hl:(List.take (q-p) (List.drop p xs)).length=q-p:=by simp;omega
     have Ef:∀(i:Nat) (r:List PV),(List.take (q-p) (List.drop p xs))[i]?=some r→xs[p+i]?=some r∧p<q:=by
       intro i r hi;rw[List.getElem?_take]at hi;split at hi
       · rw[List.getElem?_drop]at hi;exact⟨hi,by omega⟩
       · cases hi
     refine .p _ _ ?_;have key:=gm.l (W:=W) (List.take (q-p) (List.drop p xs)) (if cap=p then ad else ad.map (·.add (p*sz))) (cap-p) cX (fun i j=>f (p+i) j) (by omega) (by omega) ?_ ?_ (fun r hr=>fZ r (List.mem_of_mem_drop (List.mem_of_mem_take hr))) ?_ (fun i r j c hi hj=>cY _ r j c (Ef i r hi).1 hj)
     · rw[hl]at key
       exact key
     · intro lj
       split at lj
       · rename_i Od;omega
       · cases ad with
         |none =>have :=v7 rfl;omega
         |some ad=>cases lj
     · intro cK x' He
       have aas:xs≠[]:=by rintro rfl;simp at cK
       split at He
       · exact nE aas x' He
       · cases ad with
         |none =>cases He
         |some ad=>cases He;simp only[vk ad (nE aas ad rfl)]
     · intro i r j c hi hj x' He
       obtain⟨iR,ah1⟩:=Ef i r hi;rw[if_neg (by omega)]at He
       cases ad with
       |none =>cases He
       |some ad=>
        cases He
        have hss:sz=cX:=by
          rw[←fZ r (List.mem_of_getElem? iR),lA r (List.mem_of_getElem? iR)]
        subst hss;simp only[vk ad (nE (List.ne_nil_of_mem (List.mem_of_getElem? iR)) ad rfl)];have :=eV (p+i) r j c iR hj ad rfl;rw[Nat.add_mul]at this;rw[show ad.off+p*sz+(i*sz+j)=ad.off+(p*sz+i*sz+j)by omega];exact this
  case h_3 cX e0 e1=>
    rw[e1]at h1;cases h1.gE;obtain⟨p,q,QA,hq,hK,dp⟩:=nL (P:=P) (isSlice:=true) (Nat.le_refl _) g1 g2 h;obtain rfl:q=0:=by omega
    obtain rfl:p=0:=by omega
    exact bm hR hd hk (run none _ _ _ _ hv dp) (.p _ _ .nl) hK
  case h_4 cX id ver off n e0 e1=>
    cases e0;rw[e1]at h1;unfold D7 at h;split at h
    case h_2=>exact h.elim
    case h_1 cX cI rs hid=>
    obtain⟨rfl,rfl,h⟩:=h;obtain⟨q1,q2,q3⟩:=hR.mem.obj id _ hid
    cases h1 with
    |eS _ _ _ _ ad cap wM=>rcases q1 with⟨q1,_⟩|⟨b,br,ty,vs,q1,_⟩<;>(rw[wM]at q1;cases q1)
    |gC _ _ hn=>
     obtain⟨p,q,QA,hq,hK,dp⟩:=nL (P:=P) (isSlice:=true) (Nat.le_refl _) g1 g2 h;obtain rfl:q=0:=by omega
     obtain rfl:p=0:=by omega
     exact bm hR hd hk (run none _ _ _ _ hv dp) (.gC _ _ hn) hK
    |gs _ _ _ _ b sz br o' cap nJ vP zo MS mO zp=>
     rcases q1 with⟨q1,_⟩|⟨b',gn,ty,vs,q1,_⟩
     · rw[nJ]at q1;cases q1
     rw[nJ]at q1;cases q1;obtain⟨p,q,QA,hq,hK,dp⟩:=nL (P:=P) (isSlice:=true) vP g1 g2 h;refine bm hR hd hk (run _ _ cap p q hv dp) ?_ hK;by_cases Od:cap=p
     · rw[if_pos Od]
       exact .gs id _ _ _ b _ br o' _ nJ (by omega) (by omega) (by omega) (fun aF=>by omega) (fun h0=>zp (by omega))
     · rw[if_neg Od]
       simp only[Option.map_some,Addr.add_lit]
       exact .gs id _ _ _ b _ br _ _ nJ (by omega) (by omega) (by omega) (fun _ =>by rw[mO (by omega),Nat.add_mul]) (fun h0=>by
         have e1:off=0:=by omega
         have e2:p=0:=by omega
         subst e1;subst e2;rw[zp rfl];simp)
end Go.AM
