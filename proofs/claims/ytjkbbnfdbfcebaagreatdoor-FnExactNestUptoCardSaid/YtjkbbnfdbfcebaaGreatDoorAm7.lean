/- The operations, one by one: what the small code computes is what the model runs. -/
import Derived.Test.YtjkbbnfdbfcebaaGreatDoorAm6
import Derived.Laws.MakeOwn
set_option linter.all false
namespace Go.AM
variable {lv:List Nat} {P:Program} {N:Nat} {o:Oper} {st:St} {K:St->Prop} {θ:Th} {W:Im}
theorem bc.fC {x:PV} {v:Value} (h:bc θ W (.p x) v):gr W x v:=by cases h;assumption
theorem bc.tD {x:Bool} {v:Value} (h:bc θ W (.p (.b x)) v):v=.bool x:=by cases h.fC;rfl
theorem bc.ff {k:IntKind} {n:Int} {v:Value} (h:bc θ W (.p (.i k n)) v):v=.int k n:=by cases h.fC;rfl
theorem bc.oU {x:List UInt8} {v:Value} (h:bc θ W (.p (.s x)) v):v=.string ⟨x.toArray⟩/\x.length<=fb:=by
 cases h.fC;exact⟨rfl,by assumption⟩
theorem wg {x:AV} {v:Value} (h:bc θ W x v) (hx:x.eZ=true):
  v.cells.size=x.cells.length/\(∀(j:Nat) (c:AV) (u:Value),x.cells[j]?=some c->v.cells[j]?=some u->bc θ W c u)/\∀(j:Nat) (u:Value),v.cells[j]?=some u->u.oneCell'=true:=by
 by_cases hs:∃cs,x=.st cs
 ·obtain⟨cs,rfl⟩:=hs
  cases h with
  |st _ vs h1 h2 h3=>exact⟨h1,h2,h3⟩
 ·have h1:x.one=true:=by
   cases x<;>first|rfl|(simp[AV.eZ,AV.one]at hx;done)|(exact(hs ⟨_,rfl⟩).elim)
  have hv:=h.one h1;have hc:v.cells=#[v]:=by cases v<;>first|rfl|(simp[Value.oneCell']at hv;done)
  have kM:x.cells=[x]:=by cases x<;>first|rfl|(exact(hs ⟨_,rfl⟩).elim)
  rw[hc,kM];refine⟨rfl,?_,?_⟩
  ·intro j c u hj hu
   cases j with
   |zero=>simp at hj hu;subst hj;subst hu;exact h
   |succ j=>simp at hj
  ·intro j u hu
   cases j with
   |zero=>simp at hu;subst hu;exact hv
   |succ j=>simp at hu
theorem Pj {x:Operand} {m:MA} (ho:o.op=.move x\/o.op=.assign x) (hx:bQ lv x=some m) (hd:o.dst.all (decide <| ·<N)=true)
  (h:K (st.put (cB lv o.dst) (st.get m))):fx lv P N o st K:=by
 intro a w θ W next Q hR hk
 refine bA hR hd hk (v:=a.eval x) (r:=st.get m) ?_ (hR.arg hx) h;rcases ho with ho|ho<;>simp[execOp,ho]
theorem Pk {x y z:Operand} {mx my mz:MA} (ho:o.op=.pick x y z) (hx:bQ lv x=some mx) (hy:bQ lv y=some my) (hz:bQ lv z=some mz)
  (hd:o.dst.all (decide <| ·<N)=true) (h:bK (Bo (st.get mx) (st.get my) (st.get mz)) (cB lv o.dst) K st):fx lv P N o st K:=by
 intro a w θ W next Q hR hk
 obtain⟨v,hv,hK⟩:=dw h;have h1:=hR.arg hx;unfold Bo at hv;split at hv
 ·rename_i _ _ c e
  cases hv;rw[e]at h1;have e1:=h1.tD;cases c
  ·refine bA hR hd hk (v:=a.eval z) ?_ (hR.arg hz) hK
   simp[execOp,ho,e1,asBool]
  ·refine bA hR hd hk (v:=a.eval y) ?_ (hR.arg hy) hK
   simp[execOp,ho,e1,asBool]
 ·cases hv
theorem Me {H:List AO} {w:World} (h:SR θ W H w) (cs:List AV) (vs:Array Value) (ty:TypeId) (hs:vs.size=cs.length)
  (hc:∀(j:Nat) (c:AV) (u:Value),cs[j]?=some c->vs[j]?=some u->bc θ W c u) (h1:∀(j:Nat) (u:Value),vs[j]?=some u->u.oneCell'=true):
  ∃bd,SR bd W (H++[.var cs]) (w.alloc (.cells vs ty))/\eU θ W w bd W (w.alloc (.cells vs ty))/\bc bd W (.ptr H.length 0) (.pointer (some ⟨w.heap.size,0,none⟩)):=by
 obtain⟨a,b⟩:=h.push (w':=w.alloc (.cells vs ty)) (.var cs) (.at w.heap.size 1 0) rfl rfl rfl (by simp) (fun k hb=>RowKit.Below.heap_alloc w _ k hb) (fun b sz tot e=>by cases e;rfl) (fun e=>by cases e)
  (fun hr=>⟨⟨w.heap.size,1,0,ty,vs,bU _ _ _ _,heap_alloc_new w _,hs,fun j c v hj hv=>hr _ _ (hc j c v hj hv),h1⟩,fun ver hv=>by
   rw[bx (by omega)];exact h.out _ _ (Nat.le_refl _)⟩)
 exact⟨_,a,b,.ptr _ 0 w.heap.size 1 0 (bU _ _ _ _)⟩
theorem gC {t:TypeId} {z:List AV} (h:zeroOf P t=some z):∃i zv,P.info? t=some i/\i.zero=some zv/\oS zv.cells.toList=some z:=by
 unfold zeroOf at h;split at h
 ·rename_i i hi
  split at h
  ·rename_i zv hz
   exact⟨i,zv,hi,hz,h⟩
  ·cases h
 ·cases h
theorem Nc {t:TypeId} {z:List AV} (ho:o.op=.alloc t) (hz:zeroOf P t=some z) (hd:o.dst.all (decide <| ·<N)=true)
  (h:vJ (some (.var z)) (fun id=>.ptr id 0) (cB lv o.dst) K st):fx lv P N o st K:=by
 intro a w θ W next Q hR hk
 obtain⟨i,zv,hi,qQ,hv⟩:=gC hz;obtain⟨h1,h2,h3⟩:=fe hv θ W;obtain⟨bd,a1,a2,a3⟩:=Me hR.mem z zv.cells t (by simpa using h1) (fun j c u hj hu=>h2 j c u hj (by simpa using hu)) (fun j u hu=>h3 j u (by simpa using hu));refine gL hR hd hk (v:=.pointer (some ⟨w.heap.size,0,none⟩)) ?_ a3 a1 a2 h;simp[execOp,ho,Instr.alloc,zeroValue,typeInfo,hi,qQ,newVar,newRow]
theorem WN {t:TypeId} {n:Nat} {x:Operand} {m:MA} (ho:o.op=.box t x) (hx:bQ lv x=some m) (hd:o.dst.all (decide <| ·<N)=true)
  (h:vJ (if(st.get m).eZ&&(st.get m).cells.length==n then some (.var (st.get m).cells)else none) (fun id=>.ptr id 0) (cB lv o.dst) K st):fx lv P N o st K:=by
 intro a w θ W next Q hR hk
 by_cases hc:((st.get m).eZ&&(st.get m).cells.length==n)=true
 ·rw[if_pos hc]at h
  simp only[Bool.and_eq_true]at hc;obtain⟨h1,h2,h3⟩:=wg (hR.arg hx) hc.1;obtain⟨bd,a1,a2,a3⟩:=Me hR.mem (st.get m).cells (a.eval x).cells t h1 h2 h3;refine gL hR hd hk (v:=.pointer (some ⟨w.heap.size,0,none⟩)) ?_ a3 a1 a2 h;simp[execOp,ho,Instr.box,newVar,newRow]
 ·rw[if_neg hc]at h
  exact h.elim
theorem BC {n:Nat} {cs us:List AV} (h:takeN n cs=some us):us.length=n∧∀(j:Nat) (c:AV),us[j]?=some c→cs[j]?=some c:=by
  induction n generalizing cs us with
  |zero=>cases h;exact⟨rfl,fun j c hj=>by simp at hj⟩
  |succ n ih=>
   cases cs with
   |nil=>cases h
   |cons c cs=>
    simp only[takeN]at h
    cases hu:takeN n cs with
    |none =>rw[hu]at h;cases h
    |some vs=>
     rw[hu]at h;cases h;obtain⟨h1,h2⟩:=ih hu;refine⟨by simp[h1],fun j d hj=> ?_⟩
     cases j with
     |zero=>simpa using hj
     |succ j=>simp at hj⊢;exact h2 j d hj
def Reads (θ:Th) (W:Im) (w:World) (a:Addr) (cs:List AV):Prop :=
 a.spot=none/\∀(j:Nat) (c:AV),cs[j]?=some c->∃v,w.cell? (a.add j)=some v/\bc θ W c v/\v.oneCell'=true
theorem Reads.load {w:World} {a:Addr} {cs:List AV} (h:Reads θ W w a cs) {t:TypeId} {g:Bool} {n:Nat} (hg:Ah P t=some g) (hn:eV P t=some n) {x:AV}
    (hx:vw g n (some cs)=some x):∃v,(loadVar t a).run P w= .ok v w∧bc θ W x v∧(g=false →v.oneCell'=true):=by
  have hu:∃d,P.underlying t=some d∧(g=true ↔((∃fs,d= .struct fs)∨∃n e,d= .array n e)):=by
    unfold Ah at hg;split at hg
    · rename_i fs e;cases hg;exact⟨_,e,by simp⟩
    · rename_i n e' e;cases hg;exact⟨_,e,by simp⟩
    · rename_i d n1 n2 e
      cases hg;refine⟨d,e,by simp;exact⟨fun fs e'=>n1 fs e',fun a b e'=>n2 a b e'⟩⟩
    · cases hg
  obtain⟨d,hd,nZ⟩:=hu
  have DS:(isAgg t).run P w= .ok g w:=by
    simp only[isAgg,Sem.run_bind,run_underlying hd,Result.andThen_ok]
    cases g with
    |true =>rcases nZ.1 rfl with⟨fs,rfl⟩|⟨n,e,rfl⟩<;>rfl
    |false =>
     have lb:¬((∃fs,d= .struct fs)∨∃n e,d= .array n e):=fun hh=>by cases nZ.2 hh
     cases d<;>first|rfl|(exact(lb (.inl ⟨_,rfl⟩)).elim)|(exact(lb (.inr ⟨_,_,rfl⟩)).elim)
  obtain⟨i,hi,rfl⟩:∃i,P.info? t=some i∧i.size=n:=by
    simp only[eV]at hn
    cases hi:P.info? t with
    |none =>rw[hi]at hn;cases hn
    |some i=>rw[hi]at hn;cases hn;exact⟨i,rfl,rfl⟩
  cases g with
  |false =>
   cases cs with
   |nil=>cases hx
   |cons c cs=>
    cases hx;obtain⟨v,h1,h2,h3⟩:=h.2 0 _ rfl;have hz:a.add 0=a:=by simp[Addr.add]
    rw[hz]at h1
    exact⟨v,by simp[loadVar,DS,h1],h2,fun _ =>h3⟩
  |true =>
   simp only[vw,if_true]at hx
   cases hu:takeN i.size cs with
   |none =>rw[hu]at hx;cases hx
   |some us=>
    rw[hu]at hx;cases hx;obtain⟨h1,h2⟩:=BC hu
    have hex:∀j,∃v,∀c,us[j]?=some c→w.cell? (a.add j)=some v∧bc θ W c v∧v.oneCell'=true :=by
      intro j
      cases hj:us[j]?with
      |none =>exact⟨undef,fun c hc=>by cases hc⟩
      |some c=>
       obtain⟨v,hv⟩:=h.2 j c (h2 j c hj);exact⟨v,fun c' hc=>by cases hc;exact hv⟩
    obtain⟨f,hf⟩:=Classical.axiomOfChoice hex
    have hr:=run_loadCells (P:=P) w a i.size f (fun j hj=>by
      have :us[j]?=some us[j]:=by simp[h1,hj]
      exact(hf j _ this).1)
    refine⟨.agg ((List.range i.size).map f).toArray, ?_, .st us _ (by simp[h1]) ?_ ?_,fun e=>by cases e⟩
    · simp[loadVar,DS,sizeOf,typeInfo,hi,hr]
    · intro j c v hj hv
      have aj:j<i.size:=by
        rcases Nat.lt_or_ge j i.size with h'|h'
        · exact h'
        · rw[List.getElem?_eq_none (by omega)]at hj;cases hj
      simp[aj]at hv;subst hv;exact(hf j c hj).2.1
    · intro j v hv
      have aj:j<i.size:=by
        rcases Nat.lt_or_ge j i.size with h'|h'
        · exact h'
        · simp[h']at hv
      simp[aj]at hv;subst hv;have :us[j]?=some us[j]:=by simp[h1,aj]
      exact(hf j _ this).2.2
theorem Al {H:List AO} {w:World} (hm:SR θ W H w) {x:AV} {v:Value} (hv:bc θ W x v) {cs:List AV} (h:ly H x=some cs):∃a,v= .pointer (some a)∧Reads θ W w a cs:=by
  unfold ly at h;split at h
  · rename_i id off
    split at h
    · rename_i gG hid
      cases h;obtain⟨⟨b,sz,tot,ty,vs,h1,h2,h3,h4,h5⟩,_⟩:=hm.obj id _ hid
      cases hv with
      |ptr _ _ b' cP fc e=>
       rw[h1]at e;cases e;refine⟨_,rfl,rfl,fun j c hj=> ?_⟩;simp only[List.getElem?_drop]at hj
       have aj:off+j<vs.size:=by
         rcases Nat.lt_or_ge (off+j) gG.length with h'|h'
         · omega
         · rw[List.getElem?_eq_none h']at hj;cases hj
       refine⟨vs[off+j], ?_,h4 _ _ _ hj (by simp[aj]),h5 (off+j) _ (by simp[aj])⟩
       simp[World.cell?,Addr.add_lit,h2,aj]
      |fM _ _ _ e=>rw[h1]at e;cases e
    · cases h
  · rename_i id ver row fL
    split at h
    · rename_i sz cA rs hid
      split at h
      · rename_i e;subst e
        cases gd:rs[row]?with
        |none =>rw[gd]at h;cases h
        |some r=>
         rw[gd]at h;cases h;obtain⟨h1,_,_⟩:=hm.obj id _ hid;rcases h1 with⟨_,h1⟩|⟨b,tot,ty,vs,h1,h2,h3,h4,h5,h6,h7⟩
         · subst h1;simp at gd
         · cases hv with
           |ep _ _ _ _ b' cP fc e=>
            rw[h1]at e;cases e;refine⟨_,rfl,rfl,fun j c hj=> ?_⟩;simp only[List.getElem?_drop]at hj;have hr:r.length=sz:=h5 r (List.mem_of_getElem? gd)
            have me:fL+j<r.length:=by
              rcases Nat.lt_or_ge (fL+j) r.length with h'|h'
              · exact h'
              · rw[List.getElem?_eq_none h']at hj;cases hj
            have n9:row<rs.length:=by
              rcases Nat.lt_or_ge row rs.length with h'|h'
              · exact h'
              · rw[List.getElem?_eq_none h']at gd;cases gd
            have aj:row*sz+fL+j<vs.size:=by
              have h8:(row+1)*sz≤tot*sz:=Nat.mul_le_mul_right _ (by omega);rw[Nat.add_mul]at h8;omega
            refine⟨vs[row*sz+fL+j], ?_,h6 row r (fL+j) c _ gd hj (by rw[←Nat.add_assoc];simp[aj]),h7 _ _ (Array.getElem?_eq_getElem aj)⟩
            simp[World.cell?,Addr.add_lit,h2,aj]
           |kx _ _ _ _ _ e=>rw[h1]at e;cases e
      · cases h
    · cases h
  · rename_i row
    cases h
    cases hv with
    |ip _ b o f hc hr=>
     refine⟨_,rfl,rfl,fun j c hj=> ?_⟩;simp only[List.getElem?_map]at hj
     cases hq:row[j]?with
     |none =>rw[hq]at hj;cases hj
     |some q=>
      rw[hq]at hj;cases hj;exact⟨f j,by rw[Addr.add_lit];exact hm.kK _ _ _ (hc j q hq), .p _ _ (hr j q hq),(hr j q hq).one⟩
  · cases h
theorem ac6 {t:TypeId} {g:Bool} {n:Nat} {x:Operand} {m:MA} (ho:o.op= .load t x) (hx:bQ lv x=some m) (hg:Ah P t=some g) (hn:eV P t=some n)
    (hd:o.dst.all (decide <| · <N)=true) (h:bK (vw g n (ly st.H (st.get m))) (cB lv o.dst) K st):fx lv P N o st K:=by
  intro a w θ W next Q hR hk
  obtain⟨y,hy,hK⟩:=dw h
  cases hc:ly st.H (st.get m)with
  |none =>rw[hc]at hy;cases hy
  |some cs=>
   rw[hc]at hy;obtain⟨ad,hv,hr⟩:=Al hR.mem (hR.arg hx) hc;obtain⟨v,h1,h2,_⟩:=hr.load hg hn hy;refine bA hR hd hk (v:=v) ?_ h2 hK;simp[execOp,ho,hv,Instr.loadAt,Instr.sureAddr,h1]
end Go.AM
