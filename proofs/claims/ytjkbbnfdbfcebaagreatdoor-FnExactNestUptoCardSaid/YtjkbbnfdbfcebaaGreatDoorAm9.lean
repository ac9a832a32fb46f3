/- The operations, continued: addresses, operators, indexes, slices, lengths. -/
import Derived.Test.YtjkbbnfdbfcebaaGreatDoorAm8
import Derived.Laws.BytesArg
import Derived.ChangeKeysEq
set_option linter.all false
namespace Go.AM
variable {lv:List Nat} {P:Program} {N:Nat} {o:Oper} {st:St} {K:St->Prop} {θ:Th} {W:Im}
theorem jV {t:TypeId} {n:Nat} (h:eV P t=some n):∃i,P.info? t=some i/\i.size=n:=by
 simp only[eV]at h
 cases hi:P.info? t with
 |none=>rw[hi]at h;cases h
 |some i=>rw[hi]at h;cases h;exact⟨i,rfl,rfl⟩
theorem Pm {x:Operand} {m:MA} (ho:o.op= .nilCheck x) (hx:bQ lv x=some m)
    (hd:o.dst.all (decide <| · <N)=true) (h:bK (v7 (st.get m)) (cB lv o.dst) K st):fx lv P N o st K:=by
  intro a w θ W next Q hR hk
  obtain⟨y,hy,hK⟩:=dw h;have h1:=hR.arg hx;unfold v7 at hy;split at hy
  · rename_i id off e
    cases hy;rw[e]at h1;refine bA hR hd hk (v:=a.eval x) ?_ h1 hK
    cases hv:a.eval x with
    |pointer p=>
     rw[hv]at h1
     cases h1<;>simp[execOp,ho,hv]
    |_ =>rw[hv]at h1;cases h1
  · rename_i id ver row fL e
    cases hy;rw[e]at h1;refine bA hR hd hk (v:=a.eval x) ?_ h1 hK
    cases hv:a.eval x with
    |pointer p=>
     rw[hv]at h1
     cases h1<;>simp[execOp,ho,hv]
    |_ =>rw[hv]at h1;cases h1
  · rename_i f c e
    cases hy;rw[e]at h1;refine bA hR hd hk (v:=a.eval x) ?_ h1 hK
    cases hv:a.eval x with
    |func fn f1 cs=>
     rw[hv]at h1;cases h1
     simp[execOp,ho,hv]
    |_ =>rw[hv]at h1;cases h1
  · cases hy
theorem WQ {s:TypeId} {f off n:Nat} {t:TypeId} {x:Operand} {m:MA} (ho:o.op= .fieldAddr s x f) (hx:bQ lv x=some m) (hf:nw P s f=some (off,t,n)) (hn:0<n)
    (hd:o.dst.all (decide <| · <N)=true) (h:bK (Bk off (st.get m)) (cB lv o.dst) K st):fx lv P N o st K:=by
  intro a w θ W next Q hR hk
  obtain⟨y,hy,hK⟩:=dw h;have h1:=hR.arg hx;unfold nw at hf;split at hf
  · rename_i fs hs
    split at hf
    · rename_i fd Dc
      cases hz:eV P fd.type with
      |none =>rw[hz]at hf;cases hf
      |some n'=>
       rw[hz]at hf;cases hf;obtain⟨i,hi,rfl⟩:=jV hz
       have run:∀ad:Addr,a.eval x= .pointer (some ad)→(execOp a.eval o).run P w= .ok (.value (.pointer (some (ad.add fd.offset)))) w:=by
         intro ad e;have cX:¬i.size=0:=by omega
         simp[execOp,ho,Instr.fieldAt,run_underlying hs,Dc,e,Instr.sureAddr,fieldPlace,sizeOf,typeInfo,hi,cX]
       unfold Bk at hy;split at hy
       · rename_i id o' e
         cases hy;rw[e]at h1;generalize hv:a.eval x=v at h1
         cases h1 with
         |ptr _ _ b sz tot h=>exact bA hR hd hk (run _ hv) (by rw[Addr.add_lit];exact .ptr _ _ b sz tot h) hK
         |fM _ _ ad h=>exact bA hR hd hk (run _ hv) (.fM _ _ _ h) hK
       · rename_i id ver row fL e
         cases hy;rw[e]at h1;generalize hv:a.eval x=v at h1
         cases h1 with
         |ep _ _ _ _ b sz tot h=>exact bA hR hd hk (run _ hv) (by rw[Addr.add_lit,Nat.add_assoc];exact .ep _ _ _ _ b sz tot h) hK
         |kx _ _ _ _ ad h=>exact bA hR hd hk (run _ hv) (.kx _ _ _ _ _ h) hK
       · rename_i row e
         cases hy;rw[e]at h1;generalize hv:a.eval x=v at h1
         cases h1 with
         |ip _ b o' f hc hr=>
          refine bA hR hd hk (run _ hv) ?_ hK;rw[Addr.add_lit];exact .ip _ b _ (fun j=>f (fd.offset+j)) (fun j q hj=>by rw[Nat.add_assoc];exact hc _ q (by simpa using hj)) (fun j q hj=>hr _ q (by simpa using hj))
       · cases hy
    · cases hf
  · cases hf
theorem qR {α:Type} [DecidableEq α] [BEq α] [LawfulBEq α] (x y:α):(x==y)=decide (x=y):=by by_cases h:x=y<;>simp[h]
theorem Nd {op:BinOp} {k:IntKind} {x y:Int} {r:PV} (h:fJ op k x y=some r) (W:Im) (t:TypeId) (w:World):∃v,(binOp op t (.int k x) (.int k y)).run P w=.ok v w/\gr W r v:=by
 cases op<;>simp[fJ,vG]at h<;>subst h
 case add=>exact⟨_,by simp[binOp,Op.intArith];rfl,.i _ _⟩
 case sub=>exact⟨_,by simp[binOp,Op.intArith];rfl,.i _ _⟩
 case mul=>exact⟨_,by simp[binOp,Op.intArith];rfl,.i _ _⟩
 case and=>exact⟨_,by simp[binOp,Op.intBits];rfl,.i _ _⟩
 case or=>exact⟨_,by simp[binOp,Op.intBits];rfl,.i _ _⟩
 case xor=>exact⟨_,by simp[binOp,Op.intBits];rfl,.i _ _⟩
 case andNot=>
  refine⟨.int k (rB .andNot k x y),?_,.i _ _⟩;show(if k≠k then(stuck "BinOp: operands of different kinds":Sem Value)else Op.intBits .andNot k x y).run P w=_;rw[if_neg (fun h=>h rfl)]
  rfl
 case eql=>exact⟨.bool (decide (x=y)),by simp[binOp,Op.intCmp,qR],.b _⟩
 case neq=>exact⟨.bool (!decide (x=y)),by simp[binOp,Op.intCmp,bne,qR],.b _⟩
 case lss=>exact⟨.bool (decide (x<y)),by simp[binOp,Op.intCmp],.b _⟩
 case leq=>exact⟨.bool (decide (x<=y)),by simp[binOp,Op.intCmp],.b _⟩
 case gtr=>exact⟨.bool (decide (y<x)),by simp[binOp,Op.intCmp],.b _⟩
 case geq=>exact⟨.bool (decide (y<=x)),by simp[binOp,Op.intCmp],.b _⟩
theorem mF (x:List UInt8):(ByteArray.mk x.toArray).toList=x:=by rw[ByteArray.toList_eq]
theorem Nf {op:BinOp} {x y:List UInt8} {r:PV} (h:vH op x y=some r) (W:Im) (t:TypeId) (w:World):∃v,(binOp op t (.string ⟨x.toArray⟩) (.string ⟨y.toArray⟩)).run P w=.ok v w/\gr W r v:=by
 cases op<;>simp[vH]at h<;>subst h
 case eql=>exact⟨.bool (decide (x=y)),by simp[binOp,Op.stringOp,mF,qR],.b _⟩
 case neq=>exact⟨.bool (!decide (x=y)),by simp[binOp,Op.stringOp,mF,qR],.b _⟩
 case lss=>exact⟨.bool (slt x y),by simp[binOp,Op.stringOp,mF,slt],.b _⟩
 case leq=>exact⟨.bool (slt x y||decide (x=y)),by simp[binOp,Op.stringOp,mF,slt,qR],.b _⟩
 case gtr=>exact⟨.bool (!slt x y&& !decide (x=y)),by simp[binOp,Op.stringOp,mF,slt,qR],.b _⟩
 case geq=>exact⟨.bool (!slt x y),by simp[binOp,Op.stringOp,mF,slt],.b _⟩
theorem lK (op:BinOp) (t:TypeId) (x y:Operand) (a b:Value) (h1:a≠.nilIface) (h2:∀cs,a≠.agg cs) (w:World):(eqGuard op t x y a b).run P w=.ok () w:=by
 unfold eqGuard;cases a<;>first|(exact(h1 rfl).elim)|(exact(h2 _ rfl).elim)|(cases op<;>cases b<;>rfl)
theorem Mf {op:BinOp} {t u:TypeId} {x y:Operand} {mx my:MA} (ho:o.op= .binOp op t x y u) (hx:bQ lv x=some mx) (hy:bQ lv y=some my)
    (hd:o.dst.all (decide <| · <N)=true) (h:de op (st.get mx) (st.get my) (cB lv o.dst) K st):fx lv P N o st K:=by
  intro a w θ W next Q hR hk
  have h1:=hR.arg hx;have h2:=hR.arg hy
  have run:∀v,a.eval x≠ .nilIface→(∀cs,a.eval x≠ .agg cs)→(binOp op t (a.eval x) (a.eval y)).run P w= .ok v w→(execOp a.eval o).run P w= .ok (.value v) w:=by
    intro v e1 e2 e3;simp[execOp,ho,lK op t x y _ _ e1 e2,e3]
  unfold de at h;split at h
  · rename_i v hv
    have hK:=h;unfold jn at hv;split at hv
    · rename_i k p k' q e1 e2
      rw[e1]at h1;rw[e2]at h2;split at hv
      · rename_i e;subst e
        cases hi:fJ op k p q with
        |none =>rw[hi]at hv;cases hv
        |some r=>
         rw[hi]at hv;cases hv;have e3:=h1.ff;have e4:=h2.ff;obtain⟨v,hr,cR⟩:=Nd (P:=P) hi W t w;exact bA hR hd hk (run v (by rw[e3];simp) (by rw[e3];simp) (by rw[e3,e4];exact hr)) (.p _ _ cR) hK
      · cases hv
    · rename_i p q e1 e2
      rw[e1]at h1;rw[e2]at h2
      cases hi:vH op p q with
      |none =>rw[hi]at hv;cases hv
      |some r=>
       rw[hi]at hv;cases hv;obtain⟨e3,_⟩:=h1.oU;obtain⟨e4,_⟩:=h2.oU;obtain⟨v,hr,cR⟩:=Nf (P:=P) hi W t w;exact bA hR hd hk (run v (by rw[e3];simp) (by rw[e3];simp) (by rw[e3,e4];exact hr)) (.p _ _ cR) hK
    · cases hv
  · unfold vZ at h
    split at h
    · rename_i p q e1 e2 _
      rw[e1]at h1;rw[e2]at h2;obtain⟨e3,l3⟩:=h1.oU;obtain⟨e4,l4⟩:=h2.oU;refine bA hR hd hk (run (.string ⟨(p++q).toArray⟩) (by rw[e3];simp) (by rw[e3];simp) ?_) (.p _ _ (.s _ (by simpa using h.1))) h.2
      have hs:(ByteArray.mk p.toArray).size+(ByteArray.mk q.toArray).size≤9223372036854775807:=by
        show p.toArray.size+q.toArray.size≤_;simp only[List.size_toArray];have :=h.1;unfold fb at this;omega
      have hj:(ByteArray.mk p.toArray++ByteArray.mk q.toArray)=⟨(p++q).toArray⟩:=by
        apply ByteArray.ext;simp
      rw[e3,e4,binOp_string_add,run_string_add_sum _ _ _ hs,hj]
    · rename_i k p k' q e1 e2 _
      rw[e1]at h1;rw[e2]at h2;obtain⟨rfl,hq,hK⟩:=h;have e3:=h1.ff;have e4:=h2.ff;refine bA hR hd hk (run _ (by rw[e3];simp) (by rw[e3];simp) ?_) (.p _ _ (.i _ _)) hK;rw[e3,e4];simp[binOp,Op.intDiv,hq,wr]
    · rename_i k p k' q e1 e2 _
      rw[e1]at h1;rw[e2]at h2;obtain⟨rfl,hq,hK⟩:=h;have e3:=h1.ff;have e4:=h2.ff;refine bA hR hd hk (run _ (by rw[e3];simp) (by rw[e3];simp) ?_) (.p _ _ (.i _ _)) hK;rw[e3,e4];simp[binOp,Op.intDiv,hq]
    · rename_i k p k' q e1 e2 _
      rw[e1]at h1;rw[e2]at h2;obtain⟨hq,hK⟩:=h;have e3:=h1.ff;have e4:=h2.ff;refine bA hR hd hk (run _ (by rw[e3];simp) (by rw[e3];simp) ?_) (.p _ _ (.i _ _)) hK;rw[e3,e4];have hq':¬q<0:=by omega
      simp[binOp,Op.shift,hq',wr]
    · rename_i k p k' q e1 e2 _
      rw[e1]at h1;rw[e2]at h2;obtain⟨hq,hK⟩:=h;have e3:=h1.ff;have e4:=h2.ff;refine bA hR hd hk (run _ (by rw[e3];simp) (by rw[e3];simp) ?_) (.p _ _ (.i _ _)) hK;rw[e3,e4];have hq':¬q<0:=by omega
      simp[binOp,Op.shift,hq']
    · exact h.elim
theorem Dd (d:Nat) {t:TypeId} (ht:P.underlying t=some .bool) (p q:Bool) (w:World):(Op.equalIn (d+1) t (.bool p) (.bool q)).run P w=.ok (p==q) w:=by
 simp only[Op.equalIn,Sem.run_bind,run_underlying ht,Result.andThen_ok]
 rfl
theorem Mg {ne:Bool} {t u:TypeId} {x y:Operand} {mx my:MA} (ho:o.op=.binOp (if ne then .neq else .eql) t x y u) (ht:P.underlying t=some .bool) (hx:bQ lv x=some mx) (hy:bQ lv y=some my)
  (hd:o.dst.all (decide <| ·<N)=true) (h:bK (DK ne (st.get mx) (st.get my)) (cB lv o.dst) K st):fx lv P N o st K:=by
 intro a w θ W next Q hR hk
 have h1:=hR.arg hx;have h2:=hR.arg hy;obtain⟨v,hv,hK⟩:=dw h;unfold DK at hv;split at hv
 ·rename_i p q e1 e2
  cases hv;rw[e1]at h1;rw[e2]at h2;have e3:=h1.tD;have e4:=h2.tD;refine bA hR hd hk (v:=.bool (if ne=true then !(p==q)else(p==q))) ?_ (.p _ _ (.b _)) hK;have hg:=lK (P:=P) (if ne then .neq else .eql) t x y (a.eval x) (a.eval y) (by rw[e3];simp) (by rw[e3];simp) w
  have he:(Op.equal t (.bool p) (.bool q)).run P w=.ok (p==q) w:=by
   exact Dd 9999 ht p q w
  cases ne
  ·simp only[Bool.false_eq_true,if_false]at hg ho⊢
   simp[execOp,ho,hg];rw[e3,e4];simp[binOp,he]
  ·simp only[if_true]at hg ho⊢
   simp[execOp,ho,hg];rw[e3,e4];simp[binOp,he]
 ·cases hv
theorem GO {W:Im} {θ:Th} (xs ys:Array Value) (d:Nat) (w:World):∀(fs:List Field) (i:Nat) (cs ds:List AV) (b:Bool),tB P i fs=true →fs.length=cs.length→yI cs ds=some b→
    (∀(j:Nat) c,cs[j]?=some c→∃v,xs[i+j]?=some v∧bc θ W c v)→(∀(j:Nat) c,ds[j]?=some c→∃v,ys[i+j]?=some v∧bc θ W c v)→
    (Op.eqFields (d+1) xs ys fs).run P w= .ok b w
  |[],_,cs,ds,b,_,hl,hb,_,_ =>by
   cases cs with
   |nil=>
    cases ds with
    |nil=>simp only[yI,Option.some.injEq]at hb;subst hb;simp[Op.eqFields]
    |cons _ _ =>simp[yI]at hb
   |cons _ _ =>simp at hl
  |f::fs,i,cs,ds,b,hp,hl,hb,hx,hy=>by
   cases cs with
   |nil=>simp at hl
   |cons c cs=>
    cases ds with
    |nil=>
     cases c with
     |p q=>cases q<;>simp[yI]at hb
     |_ =>simp[yI]at hb
    |cons e ds=>
     unfold yI at hb;split at hb
     · rename_i h1 h2;cases h1
     · rename_i k a xs' k' a' Pn h1 h2
       cases h1;cases h2;split at hb
       · rename_i hk
         subst hk;simp only[Option.map_eq_some_iff]at hb;obtain⟨b',IV,rfl⟩:=hb;simp only[tB,Bool.and_eq_true,beq_iff_eq,bne_iff_ne,ne_eq]at hp;obtain⟨⟨⟨⟨ho,hn⟩,hpk⟩,hu⟩,oV⟩:=hp;obtain⟨v,hv,hrv⟩:=hx 0 _ rfl;obtain⟨u,je,hru⟩:=hy 0 _ rfl;have ev:=hrv.ff;have eu:=hru.ff;subst ev;subst eu;rw[Nat.add_zero,←ho]at hv je;have ih:=GO (W:=W) (θ:=θ) xs ys d w fs (i+1) cs ds b' oV (by simpa using hl) IV (fun j c hj=>by have :=hx (j+1) c (by simpa using hj);rw[show i+1+j=i+(j+1)by omega];exact this) (fun j c hj=>by have :=hy (j+1) c (by simpa using hj);rw[show i+1+j=i+(j+1)by omega];exact this);split at hu
         · rename_i kk ia
           simp only[Op.eqFields,hn,not_false_eq_true,if_true,ne_eq];simp only[Sem.run_bind,run_part_plain w hpk hv,run_part_plain w hpk je,Result.andThen_ok,run_equalIn_int w d f.type k kk a a' ia,Sem.run_ite];by_cases hab:a=a'
           · subst hab;simp[ih]
           · simp[hab]
         · cases hu
       · cases hb
     · cases hb
theorem Po {ne:Bool} {t u:TypeId} {fs:Array Field} {x y:Operand} {mx my:MA} (ho:o.op= .binOp (if ne then .neq else .eql) t x y u) (ht:P.underlying t=some (.struct fs)) (hp:tB P 0 fs.toList=true) (jQ:P.eqGuardType P.depth t=false) (kA:P.stoodInHeld t=false) (hx:bQ lv x=some mx) (hy:bQ lv y=some my)
    (hd:o.dst.all (decide <| · <N)=true) (h:bK (O1 ne fs.toList.length (st.get mx) (st.get my)) (cB lv o.dst) K st):fx lv P N o st K:=by
  intro a w θ W next Q hR hk
  have h1:=hR.arg hx;have h2:=hR.arg hy;obtain⟨v,hv,hK⟩:=dw h;unfold O1 at hv;split at hv
  · rename_i cs ds e1 e2
    split at hv
    · rename_i hlen
      simp only[Option.map_eq_some_iff]at hv;obtain⟨b,hb,rfl⟩:=hv;rw[e1]at h1;rw[e2]at h2
      have ba:∀{cs:List AV} {v:Value},bc θ W (.st cs) v→∃vs:Array Value,v= .agg vs∧∀(j:Nat) c,cs[j]?=some c→∃u,vs[0+j]?=some u∧bc θ W c u:=by
        intro cs v h
        cases h with
        |st _ vs hs hc _ =>
         refine⟨vs,rfl,fun j c hj=> ?_⟩;have me:j<vs.size:=by rw[hs];exact(List.getElem?_eq_some_iff.1 hj).1
         rw[Nat.zero_add];exact⟨vs[j],by simp[me],hc j c _ hj (by simp[me])⟩
      obtain⟨vs,e3,WR⟩:=ba h1;obtain⟨us,e4,IW⟩:=ba h2;have Pp:P.fieldsOf t=fs:=by unfold Program.fieldsOf;rw[ht]
      have he:(Op.equalIn 10000 t (.agg vs) (.agg us)).run P w= .ok b w:=by
        rw[run_equalIn_struct w 9999 t vs us (by rw[Pp];exact ht) kA,Pp];exact GO (W:=W) (θ:=θ) vs us 9998 w fs.toList 0 cs ds b hp hlen.symm hb WR IW
      refine bA hR hd hk (v:= .bool (if ne=true then !b else b)) ?_ (.p _ _ (.b _)) hK;have hg:=run_eqGuard_agg w (if ne then .neq else .eql) t x y vs us jQ;cases ne
      · simp only[Bool.false_eq_true,if_false]at hg ho⊢
        simp[execOp,ho,e3,e4,hg,run_eql_struct,he]
      · simp only[if_true]at hg ho⊢
        simp[execOp,ho,e3,e4,hg,run_neq_struct,he]
    · cases hv
  · cases hv
theorem BD (d:Nat) {t:TypeId} {ms} (ht:P.underlying t=some (.interface ms)) (w:World):(Op.equalIn (d+1) t .nilIface .nilIface).run P w=.ok true w:=by
 simp only[Op.equalIn,Sem.run_bind,run_underlying ht,Result.andThen_ok]
 rfl
theorem AN (d:Nat) {t:TypeId} {ms} (ht:P.underlying t=some (.interface ms)) (te:TypeId) (pe:Value) (w:World):(Op.equalIn (d+1) t (.iface te pe) .nilIface).run P w=.ok false w:=by
 simp only[Op.equalIn,Sem.run_bind,run_underlying ht,Result.andThen_ok]
 rfl
theorem Mh {ne:Bool} {t u:TypeId} {ms} {x y:Operand} {mx:MA} (ho:o.op=.binOp (if ne then .neq else .eql) t x y u) (ht:P.underlying t=some (.interface ms)) (hx:bQ lv x=some mx) (hy:bQ lv y=some (.c (.p .ni)))
  (hd:o.dst.all (decide <| ·<N)=true) (h:bK (DL ne (st.get mx)) (cB lv o.dst) K st):fx lv P N o st K:=by
 intro a w θ W next Q hR hk
 have h1:=hR.arg hx;have h2:=hR.arg hy;obtain⟨v,hv,hK⟩:=dw h;unfold DL at hv;split at hv
 ·rename_i e1
  cases hv;rw[e1]at h1
  have e3:a.eval x=.nilIface:=by
   generalize a.eval x=v at h1;cases h1 with|p _ _ h=>cases h;rfl
  have e4:a.eval y=.nilIface:=by
   change bc θ W (.p .ni) (a.eval y)at h2;generalize a.eval y=v at h2;cases h2 with|p _ _ h=>cases h;rfl
  have De:∃c,y=.const c:=by
   cases y with
   |const c=>exact⟨c,rfl⟩
   |tmp t=>simp only[bQ,fO]at hy;split at hy<;>cases hy
   |func f=>simp only[bQ]at hy;cases hy
   |global g=>simp only[bQ]at hy;cases hy
  obtain⟨c,rfl⟩:=De;refine bA hR hd hk (v:=.bool (!ne)) ?_ (.p _ _ (.b _)) hK;have he:(Op.equal t .nilIface .nilIface).run P w=.ok true w:=BD 9999 ht w
  have hg:∀op,(eqGuard op t x (.const c) .nilIface .nilIface).run P w=.ok () w:=fun op=>by
   unfold eqGuard;cases op<;>first|rfl|(cases x<;>simp)
  cases ne
  ·simp only[Bool.false_eq_true,if_false]at ho⊢
   simp[execOp,ho,e3,e4,hg,binOp,he]
  ·simp only[if_true]at ho⊢
   simp[execOp,ho,e3,e4,hg,binOp,he]
 ·rename_i e1
  cases hv;rw[e1]at h1
  have e3:∃te pe,a.eval x=.iface te pe:=by
   generalize a.eval x=v at h1;cases h1 with|p _ _ h=>cases h;exact⟨_,_,rfl⟩
  obtain⟨te,pe,e3⟩:=e3
  have e4:a.eval y=.nilIface:=by
   change bc θ W (.p .ni) (a.eval y)at h2;generalize a.eval y=v at h2;cases h2 with|p _ _ h=>cases h;rfl
  refine bA hR hd hk (v:=.bool ne) ?_ (.p _ _ (.b _)) hK;have he:(Op.equal t (.iface te pe) .nilIface).run P w=.ok false w:=AN 9999 ht te pe w
  have hg:∀op,(eqGuard op t x y (.iface te pe) .nilIface).run P w=.ok () w:=fun op=>by
   unfold eqGuard;cases op<;>rfl
  cases ne
  ·simp only[Bool.false_eq_true,if_false]at ho⊢
   simp[execOp,ho,e3,e4,hg,binOp,he]
  ·simp only[if_true]at ho⊢
   simp[execOp,ho,e3,e4,hg,binOp,he]
 ·cases hv
theorem BE (d:Nat) {t e:TypeId} (ht:P.underlying t=some (.slice e)) (a:Option Addr) (n c:Nat) (w:World):(Op.equalIn (d+1) t (.slice a n c) (.slice none 0 0)).run P w=.ok a.isNone w:=by
 simp only[Op.equalIn,Sem.run_bind,run_underlying ht,Result.andThen_ok];cases a<;>rfl
theorem yQ (d:Nat) {t e:TypeId} (ht:P.underlying t=some (.pointer e)) (a:Option Addr) (w:World):(Op.equalIn (d+1) t (.pointer a) (.pointer none)).run P w=.ok a.isNone w:=by
 simp only[Op.equalIn,Sem.run_bind,run_underlying ht,Result.andThen_ok];cases a<;>rfl
theorem BF {ne:Bool} {t u e:TypeId} {x y:Operand} {mx:MA} (ho:o.op= .binOp (if ne then .neq else .eql) t x y u) (ht:P.underlying t=some (.slice e)) (hx:bQ lv x=some mx) (hy:bQ lv y=some (.c (.p .nl)))
    (hd:o.dst.all (decide <| · <N)=true) (h:jT true ne (st.get mx) (cB lv o.dst) K st):fx lv P N o st K:=by
  intro a w θ W next Q hR hk
  have h1:=hR.arg hx;have h2:=hR.arg hy
  have e4:a.eval y= .slice none 0 0:=by
    change bc θ W (.p .nl) (a.eval y)at h2;generalize a.eval y=v at h2;cases h2 with|p _ _ h=>cases h;rfl
  suffices hs:∃(ad:Option Addr) (n c:Nat),a.eval x= .slice ad n c∧K (st.put (cB lv o.dst) (.p (.b (if ne then !ad.isNone else ad.isNone))))by
    obtain⟨ad,n,c,e3,hK⟩:=hs;refine bA hR hd hk (v:= .bool (if ne=true then !ad.isNone else ad.isNone)) ?_ (.p _ _ (.b _)) hK;have hg:=lK (P:=P) (if ne then .neq else .eql) t x y (a.eval x) (a.eval y) (by rw[e3];simp) (by rw[e3];simp) w;have he:(Op.equal t (.slice ad n c) (.slice none 0 0)).run P w= .ok ad.isNone w:=BE 9999 ht ad n c w;cases ne
    · simp only[Bool.false_eq_true,if_false]at hg ho⊢
      simp[execOp,ho,hg];rw[e3,e4];simp[binOp,he]
    · simp only[if_true]at hg ho⊢
      simp[execOp,ho,hg];rw[e3,e4];simp[binOp,he]
  unfold jT at h;split at h
  · rename_i e1 e2
    rw[e2]at h1;generalize hv:a.eval x=v at h1
    cases h1 with
    |p _ _ h0=>
     cases h0;exact⟨none,0,0,rfl,by cases ne<;>exact h⟩
  · rename_i xs e1 e2
    rw[e2]at h1;generalize hv:a.eval x=v at h1
    cases h1 with
    |p _ _ h0=>
     cases h0 with
     |l _ ad cap sz f hlen z8 vF nt gd eS cR=>
      cases ad with
      |none =>
       have h3:=vF rfl
       exact absurd (List.length_eq_zero_iff.1 (by omega)) h.1
      |some ad=>exact⟨some ad,_,_,rfl,by cases ne<;>exact h.2⟩
  · rename_i id ver off n e1 e2
    rw[e2]at h1;unfold yJ at h;split at h
    · rename_i sz cA rs hid
      obtain⟨rfl,hl,hK⟩:=h;obtain⟨IX,_,_⟩:=hR.mem.obj _ _ hid;rcases IX with⟨_,rfl⟩|⟨b,tot,ty,vs,EZ,_⟩
      · simp at hl
      · generalize hv:a.eval x=v at h1
        cases h1 with
        |ea _ _ _ _ _ _ h0=>rw[EZ]at h0;cases h0
        |fN _ _ h0=>rw[EZ]at h0;cases h0
        |gs=>refine⟨_,_,_,rfl, ?_⟩;cases ne<;>exact hK
    · exact h.elim
  all_goals first|exact h.elim|(rename_i e1 e2;cases e1)
theorem BG {ne:Bool} {t u e:TypeId} {x y:Operand} {mx:MA} (ho:o.op= .binOp (if ne then .neq else .eql) t x y u) (ht:P.underlying t=some (.pointer e)) (hx:bQ lv x=some mx) (hy:bQ lv y=some (.c (.p .np)))
    (hd:o.dst.all (decide <| · <N)=true) (h:jT false ne (st.get mx) (cB lv o.dst) K st):fx lv P N o st K:=by
  intro a w θ W next Q hR hk
  have h1:=hR.arg hx;have h2:=hR.arg hy
  have e4:a.eval y= .pointer none :=by
    change bc θ W (.p .np) (a.eval y)at h2;generalize a.eval y=v at h2;cases h2 with|p _ _ h=>cases h;rfl
  suffices hs:∃(ad:Option Addr),a.eval x= .pointer ad∧K (st.put (cB lv o.dst) (.p (.b (if ne then !ad.isNone else ad.isNone))))by
    obtain⟨ad,e3,hK⟩:=hs;refine bA hR hd hk (v:= .bool (if ne=true then !ad.isNone else ad.isNone)) ?_ (.p _ _ (.b _)) hK;have hg:=lK (P:=P) (if ne then .neq else .eql) t x y (a.eval x) (a.eval y) (by rw[e3];simp) (by rw[e3];simp) w;have he:(Op.equal t (.pointer ad) (.pointer none)).run P w= .ok ad.isNone w:=yQ 9999 ht ad w;cases ne
    · simp only[Bool.false_eq_true,if_false]at hg ho⊢
      simp[execOp,ho,hg];rw[e3,e4];simp[binOp,he]
    · simp only[if_true]at hg ho⊢
      simp[execOp,ho,hg];rw[e3,e4];simp[binOp,he]
  unfold jT at h;split at h;all_goals first|exact h.elim|skip
  all_goals
    rename_i e1 e2
    first
    |(cases e1;done)
    |(rw[e2]at h1
      generalize hv:a.eval x=v at h1
      cases h1 with
      |p _ _ h0=>cases h0;exact⟨none,rfl,by cases ne<;>exact h⟩)
    |(rw[e2]at h1
      generalize hv:a.eval x=v at h1;cases h1<;>(refine⟨_,rfl, ?_⟩;cases ne<;>exact h))
theorem ac7 {op:UnOp} {t:TypeId} {x:Operand} {m:MA} (ho:o.op=.unOp op t x) (hx:bQ lv x=some m)
  (hd:o.dst.all (decide <| ·<N)=true) (h:bK (Na op (st.get m)) (cB lv o.dst) K st):fx lv P N o st K:=by
 intro a w θ W next Q hR hk
 have h1:=hR.arg hx;obtain⟨v,hv,hK⟩:=dw h;unfold Na at hv;split at hv
 ·rename_i b e
  split at hv
  ·cases hv
   rw[e]at h1;have e1:=h1.tD;exact bA hR hd hk (v:=.bool (!b)) (by simp[execOp,ho,e1,Op.unary]) (.p _ _ (.b _)) hK
  ·cases hv
 ·rename_i k n e
  split at hv
  ·cases hv
   rw[e]at h1;have e1:=h1.ff;exact bA hR hd hk (v:=.int k (k.wrap (0-n))) (by simp[execOp,ho,e1,Op.unary,Op.intArith]) (.p _ _ (.i _ _)) hK
  ·cases hv
 ·cases hv
theorem Pq {s t:TypeId} {k:IntKind} {d:TypeDesc} {x:Operand} {m:MA} (ho:o.op=.convert s t x) (hs:P.underlying s=some d) (ht:P.underlying t=some (.int k)) (hx:bQ lv x=some m)
  (hd:o.dst.all (decide <| ·<N)=true) (h:bK (Bp k (st.get m)) (cB lv o.dst) K st):fx lv P N o st K:=by
 intro a w θ W next Q hR hk
 have h1:=hR.arg hx;obtain⟨v,hv,hK⟩:=dw h;unfold Bp at hv;split at hv
 ·rename_i k' n e
  cases hv;rw[e]at h1;have e1:=h1.ff;refine bA hR hd hk (v:=.int k (k.wrap n)) ?_ (.p _ _ (.i _ _)) hK;simp[execOp,ho,e1,convert,run_underlying hs,run_underlying ht,Conv.intToInt]
 ·cases hv
theorem run_len_slice {c:Call} {t e:TypeId} {x:Operand} {a:Act} {w:World} (ho:o.op=.call c) (hc:c.callee=.builtin .len) (df:c.args=#[x]) (ht:c.argTypes[0]?=some t)
  (hu:P.underlying t=some (.slice e)) {ad:Option Addr} {n cap:Nat} (hv:a.eval x=.slice ad n cap):(execOp a.eval o).run P w=.ok (.value (.int .i64 n)) w:=by
 simp[execOp,ho,resolve,hc,df,hv,invoke,builtin,Builtin.len_,ht,run_underlying hu,goInt]
theorem run_cap_slice {c:Call} {t e:TypeId} {x:Operand} {a:Act} {w:World} (ho:o.op=.call c) (hc:c.callee=.builtin .cap) (df:c.args=#[x]) (ht:c.argTypes[0]?=some t)
  (hu:P.underlying t=some (.slice e)) {ad:Option Addr} {n cap:Nat} (hv:a.eval x=.slice ad n cap):(execOp a.eval o).run P w=.ok (.value (.int .i64 cap)) w:=by
 simp[execOp,ho,resolve,hc,df,hv,invoke,builtin,Builtin.cap_,ht,run_underlying hu,goInt]
theorem run_len_string {c:Call} {t:TypeId} {x:Operand} {a:Act} {w:World} (ho:o.op=.call c) (hc:c.callee=.builtin .len) (df:c.args=#[x]) (ht:c.argTypes[0]?=some t)
  (hu:P.underlying t=some .string) {s:ByteArray} (hv:a.eval x=.string s):(execOp a.eval o).run P w=.ok (.value (.int .i64 s.size)) w:=by
 simp[execOp,ho,resolve,hc,df,hv,invoke,builtin,Builtin.len_,ht,run_underlying hu,goInt]
end Go.AM
