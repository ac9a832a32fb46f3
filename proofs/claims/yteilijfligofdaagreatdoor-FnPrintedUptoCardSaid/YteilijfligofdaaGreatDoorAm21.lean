/- Regions whose order is drawn: the theorem. -/
import Derived.Test.YteilijfligofdaaGreatDoorAm20
set_option linter.all false
namespace Go.AM
variable {lv:List Nat} {P:Program} {N:Nat} {K:St->Prop} {θ:Th} {W:Im}
theorem vo (ops:Array Oper) (m:MO):(jb ops m).args=m.args:=by
 cases m with
 |app sz b x y=>simp only[jb];split <;>rfl
 |pT n x v=>simp only[jb];split <;>rfl
 |tg x=>simp only[jb];split <;>rfl
 |_=>rfl
theorem Er (ops:Array Oper) (d:MD) (m:MO) (g:Option (MA×Bool)):qJ ops ⟨d,m,g⟩=⟨d,jb ops m,g⟩:=rfl
theorem xZ {ops:Array Oper} {m:MO} {sz b:Nat} {x y:MA} (h:jb ops m= .oF sz b x y):m= .app sz b x y∨m= .oF sz b x y:=by
  cases m with
  |app cX b' x' y'=>
   simp only[jb]at h;split at h
   · cases h;exact .inl rfl
   · cases h
  |len s x=>cases h
  |pT n x v=>simp only[jb]at h;split at h<;>cases h
  |tg x=>simp only[jb]at h;split at h<;>cases h
  |_ =>exact .inr h
theorem zE {ops:Array Oper} {m:MO} {n:Nat} {x v:MA} (h:jb ops m= .qX n x v):m= .pT n x v∨m= .qX n x v:=by
  cases m with
  |app cX b' x' y'=>simp only[jb]at h;split at h<;>cases h
  |len s x=>cases h
  |pT n' x' v'=>
   simp only[jb]at h;split at h
   · cases h;exact .inl rfl
   · cases h
  |tg x=>simp only[jb]at h;split at h<;>cases h
  |_ =>exact .inr h
theorem Oo {ops:Array Oper} {m:MO} {x:MA} (h:jb ops m= .qW x):m= .qW x∨zk ops=true :=by
  cases m with
  |app cX b' x' y'=>simp only[jb]at h;split at h<;>cases h
  |len s x=>cases h
  |pT n x v=>simp only[jb]at h;split at h<;>cases h
  |tg x=>
   simp only[jb]at h;split at h
   · rename_i hc
     rw[Bool.and_eq_true]at hc;exact .inr hc.2
   · cases h
  |_ =>exact .inl h
theorem vp {ops:Array Oper} {C:iZ} {m:MO} {d:MD} {s:St} (h:bh C (jb ops m) d K s):bh C m d K s:=by
  cases m with
  |len t x=>
   change bC (tH t (s.get x)) d K s at h;rw[WS];obtain⟨v,hv,h⟩:=dk h;unfold tH at hv;unfold wc;split at hv
   · cases hv;exact fun _ =>h
   · cases hv;exact h
   · cases hv;exact fun _ =>h
   · cases hv;exact fun _ =>h
   · cases hv
  |app sz b x y=>
   simp only[jb]at h
   split at h<;>exact h
  |pT n x v=>
   simp only[jb]at h
   split at h<;>exact h
  |tg x=>
   simp only[jb]at h
   split at h<;>exact h
  |_ =>exact h
structure mS (lv:List Nat) (P:Program) (ops:Array Oper) (m:Nat):Prop where
 le:m<=ops.size
 chain:∀i j,i<j->j<m->jc lv P ops i=true->jc lv P ops j=true->oL (ib ops) j i=true
 apart:∀i j,i<m->j<m->xK (ib ops) ops i j=true
 lt:∀j o,ops[j]?=some o->∀e∈fR o,e<j
 tail:∀j,m<=j->j<ops.size->∀i,i<j->oL (ib ops) j i=true
theorem x7 {cl:List Nat}:∀{l:List Nat},xM cl l=true →l.Pairwise (fun i j=>oL cl j i=true)
  |[],_ =>List.Pairwise.nil
  |i::is,h=>by
   unfold xM at h;simp only[Bool.and_eq_true,List.all_eq_true]at h;exact List.Pairwise.cons h.1 (x7 h.2)
theorem FG {ops:Array Oper} {m:Nat} (h:BL (ib ops) ops m (Bi lv P ops m)=true):mS lv P ops m:=by
 unfold BL at h;simp only[Bool.and_eq_true,decide_eq_true_eq,List.all_eq_true,List.mem_range]at h;obtain⟨⟨⟨h1,h0⟩,h2⟩,h3⟩:=h;refine⟨h1,?_,fun i j hi hj=>h2 i hi j hj,?_,?_⟩
 ·intro i j hij hj iR tQ
  have hp:=List.pairwise_filter.1 (x7 h0);have:=(List.pairwise_iff_getElem.1 hp) i j (by simp;omega) (by simp;omega) hij;simp only[List.getElem_range]at this;exact this iR tQ
 ·intro j o ho e he
  have hj:j<ops.size:=(Array.getElem?_eq_some_iff.1 ho).1;have:=h3 j hj;rw[ho]at this;simp only[Bool.and_eq_true,List.all_eq_true,decide_eq_true_eq]at this;exact this.1 e he
 ·intro j hm hj i hi
  have:=h3 j hj;have ho:ops[j]?=some ops[j]:=by simp[hj]
  rw[ho]at this;simp only[Bool.and_eq_true,Bool.or_eq_true,decide_eq_true_eq]at this;rcases this.2 with h'|h'
  ·omega
  ·unfold zm at h'
   simp only[List.all_eq_true,List.mem_range]at h';exact h' i hi
theorem mS.uniq {ops:Array Oper} {m:Nat} (h:mS lv P ops m):Hs ops m:=by
  intro i j t hi hj h1 h2;have :=h.apart i j hi hj;unfold xK at this;unfold jG at h1 h2
  cases hx:ops[i]?with
  |none =>rw[hx]at h1;cases h1
  |some x=>
   cases hy:ops[j]?with
   |none =>rw[hy]at h2;cases h2
   |some y=>
    rw[hx]at h1;rw[hy]at h2;simp only[Option.bind_some]at h1 h2;rw[hx,hy]at this;simp only[Bool.and_eq_true,Bool.or_eq_true,beq_iff_eq,bne_iff_ne]at this;rcases this.2 with(h'|h')|h'
    · exact h'
    · rw[h1]at h';simp at h'
    · rw[h1,h2]at h';exact(h' rfl).elim
theorem zF {op:Op} {sz b:Nat} {x y:MA}:¬dH lv P op=some (.oF sz b x y):=by
  intro hm
  cases op with
  |call c=>
   simp only[dH,om]at hm
   (repeat' split at hm)<;>first|(cases hm;done)
  |slice t x lo hi mx=>
   cases mx with
   |some _ =>cases hm
   |none =>
    simp only[dH]at hm;split at hm
    · cases hm
    · obtain⟨n,_,h⟩:=aY hm;cases h
    · cases hm
  |makeFunc fn first eL=>
   cases fn with
   |func f=>
    simp only[dH]at hm;split at hm
    · obtain⟨x,_,h⟩:=aY hm;cases h
    · cases hm
   |_ =>cases hm
  |_ =>
   simp only[dH,mM,wh,DB,Option.map_eq_some_iff]at hm
   first
     |(cases hm;done)
     |(obtain⟨x,_,hm⟩:=hm;cases hm;done)
     |((repeat' split at hm)<;>first|(cases hm;done)|(simp only[Option.map_eq_some_iff,Option.bind_eq_some_iff]at hm;obtain⟨x,_,hm⟩:=hm;first|(cases hm;done)|(split at hm<;>cases hm)))
theorem Es {op:Op} {n:Nat} {x v:MA}:¬dH lv P op=some (.qX n x v):=by
  intro hm
  cases op with
  |call c=>
   simp only[dH,om]at hm
   (repeat' split at hm)<;>first|(cases hm;done)
  |slice t x lo hi mx=>
   cases mx with
   |some _ =>cases hm
   |none =>
    simp only[dH]at hm;split at hm
    · cases hm
    · obtain⟨n,_,h⟩:=aY hm;cases h
    · cases hm
  |makeFunc fn first eL=>
   cases fn with
   |func f=>
    simp only[dH]at hm;split at hm
    · obtain⟨x,_,h⟩:=aY hm;cases h
    · cases hm
   |_ =>cases hm
  |_ =>
   simp only[dH,mM,wh,DB,Option.map_eq_some_iff]at hm
   first
     |(cases hm;done)
     |(obtain⟨x,_,hm⟩:=hm;cases hm;done)
     |((repeat' split at hm)<;>first|(cases hm;done)|(simp only[Option.map_eq_some_iff,Option.bind_eq_some_iff]at hm;obtain⟨x,_,hm⟩:=hm;first|(cases hm;done)|(split at hm<;>cases hm)))
theorem Oq {C:iZ} (st:St) (d:MD) (x):bh C (.qW x) d K st=bC (p8 st.H (st.get x)) d K st:=rfl
theorem Ot {op:Op} {x:MA}:¬dH lv P op=some (.qW x):=by
  intro hm
  cases op with
  |call c=>
   simp only[dH,om]at hm
   (repeat' split at hm)<;>first|(cases hm;done)
  |slice t x lo hi mx=>
   cases mx with
   |some _ =>cases hm
   |none =>
    simp only[dH]at hm;split at hm
    · cases hm
    · obtain⟨n,_,h⟩:=aY hm;cases h
    · cases hm
  |makeFunc fn first eL=>
   cases fn with
   |func f=>
    simp only[dH]at hm;split at hm
    · obtain⟨x,_,h⟩:=aY hm;cases h
    · cases hm
   |_ =>cases hm
  |_ =>
   simp only[dH,mM,wh,DB,Option.map_eq_some_iff]at hm
   first
     |(cases hm;done)
     |(obtain⟨x,_,hm⟩:=hm;cases hm;done)
     |((repeat' split at hm)<;>first|(cases hm;done)|(simp only[Option.map_eq_some_iff,Option.bind_eq_some_iff]at hm;obtain⟨x,_,hm⟩:=hm;first|(cases hm;done)|(split at hm<;>cases hm)))
theorem DN {op:Op} {sz b:Nat} {x y:MA} (hm:dH lv P op=some (.app sz b x y)):∃c,op= .call c∧c.callee= .builtin .append:=by
  cases op with
  |call c=>
   simp only[dH,om]at hm
   (repeat' split at hm)<;>first|(cases hm;done)|exact⟨_,rfl,by assumption⟩
  |slice t x lo hi mx=>
   cases mx with
   |some _ =>cases hm
   |none =>
    simp only[dH]at hm;split at hm
    · cases hm
    · obtain⟨n,_,h⟩:=aY hm;cases h
    · cases hm
  |makeFunc fn first eL=>
   cases fn with
   |func f=>
    simp only[dH]at hm;split at hm
    · obtain⟨x,_,h⟩:=aY hm;cases h
    · cases hm
   |_ =>cases hm
  |_ =>
   simp only[dH,mM,wh,DB,Option.map_eq_some_iff]at hm
   first
     |(cases hm;done)
     |(obtain⟨x,_,hm⟩:=hm;cases hm;done)
     |((repeat' split at hm)<;>first|(cases hm;done)|(simp only[Option.map_eq_some_iff,Option.bind_eq_some_iff]at hm;obtain⟨x,_,hm⟩:=hm;first|(cases hm;done)|(split at hm<;>cases hm)))
theorem Ca {op:Op} {n:Nat} {x v:MA} (hm:dH lv P op=some (.pT n x v)):∃t y z,op= .store t y z:=by
  cases op with
  |call c=>
   simp only[dH,om]at hm
   (repeat' split at hm)<;>first|(cases hm;done)
  |slice t x lo hi mx=>
   cases mx with
   |some _ =>cases hm
   |none =>
    simp only[dH]at hm;split at hm
    · cases hm
    · obtain⟨n,_,h⟩:=aY hm;cases h
    · cases hm
  |store t y z=>exact⟨_,_,_,rfl⟩
  |makeFunc fn first eL=>
   cases fn with
   |func f=>
    simp only[dH]at hm;split at hm
    · obtain⟨x,_,h⟩:=aY hm;cases h
    · cases hm
   |_ =>cases hm
  |_ =>
   simp only[dH,mM,wh,DB,Option.map_eq_some_iff]at hm
   first
     |(cases hm;done)
     |(obtain⟨x,_,hm⟩:=hm;cases hm;done)
     |((repeat' split at hm)<;>first|(cases hm;done)|(simp only[Option.map_eq_some_iff,Option.bind_eq_some_iff]at hm;obtain⟨x,_,hm⟩:=hm;first|(cases hm;done)|(split at hm<;>cases hm)))
theorem JF {ops:Array Oper} {o:Oper} (hn:zk ops=true) (ho:o∈ops.toList) {sz b:Nat} {x y:MA}:¬dH lv P o.op=some (.app sz b x y):=by
 intro hm;have h:=List.all_eq_true.1 hn o ho;obtain⟨c,e,e2⟩:=DN hm;rw[e]at h;simp only[e2]at h;cases h
theorem JG {ops:Array Oper} {o:Oper} (hn:zk ops=true) (ho:o∈ops.toList) {n:Nat} {x v:MA}:¬dH lv P o.op=some (.pT n x v):=by
 intro hm;have h:=List.all_eq_true.1 hn o ho;obtain⟨t,y,z,e⟩:=Ca hm;rw[e]at h;cases h
section
variable {ops:Array Oper} {m:Nat} {outs:Nat->Out} {s0:St}
theorem Ou (hf:mS lv P ops m) {D:Nat→Bool} (hc:qc ops D) {i:Nat} (hi:i<m) {o:Oper} (ho:ops[i]?=some o) (A8:D i=false) (Bj:∀e∈fR o,D e=true) {t:Nat} (ht:t∈looks ops o):
    eD lv ops m outs s0 (below i) t=eD lv ops m outs s0 D t:=by
  unfold eD
  cases hw:wo ops m t with
  |none =>rfl
  |some j=>
   obtain⟨hj,Ov⟩:=FE hw;have Xm:=hf.apart i j hi hj;unfold xK at Xm;unfold jG at Ov
   cases hy:ops[j]?with
   |none =>rw[hy]at Ov;cases Ov
   |some y=>
    rw[hy]at Ov;simp only[Option.bind_some]at Ov;rw[ho,hy]at Xm;simp only[Ov,Bool.and_eq_true,Bool.or_eq_true,Bool.not_eq_true',decide_eq_true_eq]at Xm;have h1:=Xm.1;have hct:(looks ops o).contains t=true :=by simpa using ht
    rcases h1 with(h1|⟨h1,h2⟩)|⟨h1,h2⟩
    · rw[hct]at h1;cases h1
    · have hD:=iF hf.lt hc i j o ho Bj h2
      simp[below,h1,hD]
    · have hD:D j=false :=by
        cases e:D j with
        |false =>rfl
        |true =>
         have :=iF hf.lt hc j i y hy (hc j y e hy) h2;rw[A8]at this;cases this
      have QS:¬j<i:=by omega
      simp[below,QS,hD]
def lk (lv:List Nat) (P:Program) (N:Nat) (ops:Array Oper) (m:Nat) (outs:Nat->Out) (Hm:List AO) (s0:St) (pre:List MI):Prop :=
 ∀i o,i<m->ops[i]?=some o->∃m' g,dH lv P o.op=some m'/\Bg lv ops o.guard=some g/\o.dst.all (decide <| ·<N)=true/\pre[i]?=some ⟨cm lv o.dst,jb ops m',g⟩/\
  qP P Hm ⟨cm lv o.dst,jb ops m',g⟩ (gV pre outs (s0.H,⟨s0.L,s0.T,[]⟩) i) (outs i)
theorem Ow {Hm:List AO} {pre :List MI} (M0:pre =(ops.toList.take m).map fun o=>qJ ops (iE lv P N ops o)) (hg:∀i o,pre[i]?=some o→qP P Hm o (gV pre outs (s0.H,⟨s0.L,s0.T,[]⟩) i) (outs i)):lk lv P N ops m outs Hm s0 pre :=by
  intro i o hi ho
  have hp:pre[i]?=some (qJ ops (iE lv P N ops o)):=by
    rw[M0,List.getElem?_map,List.getElem?_take,if_pos hi];simp[ho]
  have pj:=hg i _ hp
  have QT:∀s out,¬qP P Hm (qJ ops ⟨.no, .stop,none⟩) s out:=by
    intro s out hh
    cases out with
    |val v=>
     rcases hh with hh|⟨_,_,_,_,_,_,e,_⟩
     · exact hh ⟨s.2.L,s.2.T,Hm⟩ (fun x hx=>by cases hx) (cA.refl Hm)
     · cases e
    |new ob mk=>rcases hh with hh|⟨_,_,_,_,_,e,_⟩|hh;cases hh.1;cases e;cases hh.1
    |mQ k v ob=>
     rcases hh with⟨_,_,_,_,_,_,_,_,_,e,_⟩|⟨_,_,_,_,_,_,_,_,e,_⟩
     · cases e
     · cases e
    |gp v Hc=>cases hh.1
  unfold iE at pj hp;split at pj
  · rename_i m' g hm oo
    rw[hm,oo]at hp;simp only at hp;split at pj
    · rename_i hd
      rw[if_pos hd,Er]at hp;rw[Er]at pj;exact⟨m',g,hm,oo,hd,hp,pj⟩
    · exact(QT _ _ pj).elim
  · exact(QT _ _ pj).elim
theorem JH {Hm:List AO} {o:MI} {s:List AO×St} {v:AV} {Hc:List AO} (h:qP P Hm o s (.gp v Hc)):zy P Hm o.op o.dst s (.gp v Hc):=by
 unfold qP at h;split at h
 ·exact h
 ·rename_i t want e
  rcases h with⟨_,h⟩|⟨b,h1,h2,h3⟩
  ·cases h
  ·by_cases e:b=want
   ·exact h2 e
   ·cases h3 e
theorem lk.gp {Hm:List AO} {pre:List MI} (hm:m<=ops.size) (hp:lk lv P N ops m outs Hm s0 pre) {i:Nat} {v:AV} {Hc:List AO} (hi:i<m) (ho:outs i=.gp v Hc):
  jc lv P ops i=true/\Hc.length=(gV pre outs (s0.H,⟨s0.L,s0.T,[]⟩) i).1.length/\cA Hm Hc:=by
 have JI:i<ops.size:=Nat.lt_of_lt_of_le hi hm;have JJ:ops[i]?=some ops[i]:=by simp[JI]
 obtain⟨m',g,h1,h2,h3,h4,h5⟩:=hp i ops[i] hi JJ;rw[ho]at h5;obtain⟨q1,q2,q3,_⟩:=JH h5;refine⟨?_,q2,q3⟩;unfold jc;rw[JJ];simp only[h1];cases m'<;>first|exact q1|rfl|(cases q1;done)|(change xL (jb ops (.tg _))=true at q1;simp only[jb]at q1;split at q1<;>cases q1)
theorem Cb {Hm:List AO} {o:MI} {s:List AO×St} {k:Nat} {v:AV} {ob:AO} (h:qP P Hm o s (.mQ k v ob)):MY Hm o.op s k v ob\/MZ o.op s k v ob:=by
 unfold qP at h;split at h
 ·exact h
 ·rename_i t want e
  rcases h with⟨_,h⟩|⟨b,h1,h2,h3⟩
  ·cases h
  ·by_cases e:b=want
   ·exact h2 e
   ·cases h3 e
theorem lk.mQ {Hm:List AO} {pre:List MI} (hm:m<=ops.size) (hp:lk lv P N ops m outs Hm s0 pre) {i k:Nat} {v:AV} {ob:AO} (hi:i<m) (ho:outs i=.mQ k v ob):jc lv P ops i=true:=by
 have JI:i<ops.size:=Nat.lt_of_lt_of_le hi hm;have JJ:ops[i]?=some ops[i]:=by simp[JI]
 obtain⟨m',g,h1,h2,h3,h4,h5⟩:=hp i ops[i] hi JJ;rw[ho]at h5;unfold jc;rw[JJ];simp only[h1];rcases Cb h5 with⟨_,_,_,_,_,_,_,_,_,e,_⟩|⟨_,_,_,_,_,_,_,_,e,_⟩
 ·rcases xZ e with e|e<;>rw[e]<;>rfl
 ·rcases zE e with e|e<;>rw[e]<;>rfl
theorem lk.acZ {Hm:List AO} {pre:List MI} (hm:m<=ops.size) (hp:lk lv P N ops m outs Hm s0 pre) (hn:zk ops=true) {i:Nat} (hi:i<m) (hu:jH outs i=true):False:=by
 have JI:i<ops.size:=Nat.lt_of_lt_of_le hi hm;have JJ:ops[i]?=some ops[i]:=by simp[JI]
 have B0:ops[i]∈ops.toList:=by simp
 unfold jH at hu;split at hu
 case h_2=>cases hu
 rename_i k v ob ho;obtain⟨m',g,h1,h2,h3,h4,h5⟩:=hp i ops[i] hi JJ;rw[ho]at h5;rcases Cb h5 with⟨_,_,_,_,_,_,_,_,_,e,_⟩|⟨_,_,_,_,_,_,_,_,e,_⟩
 ·rcases xZ e with e|e
  ·rw[e]at h1;exact JF hn B0 h1
  ·rw[e]at h1;exact zF h1
 ·rcases zE e with e|e
  ·rw[e]at h1;exact JG hn B0 h1
  ·rw[e]at h1;exact Es h1
theorem lk.lens {Hm:List AO} {pre :List MI} (hm:m≤ops.size) (hp:lk lv P N ops m outs Hm s0 pre):∀i,i≤m→(gV pre outs (s0.H,⟨s0.L,s0.T,[]⟩) i).1.length=s0.H.length
  |0,_ =>rfl
  |i+1,hi=>by
   have ih:=hp.lens hm i (by omega);have JI:i<ops.size:=Nat.lt_of_lt_of_le (show i<m by omega) hm;obtain⟨m',g,h1,h2,h3,h4,h5⟩:=hp i ops[i] (by omega) (by simp[JI]);simp only[gV,h4]
   cases ho:outs i with
   |val v=>exact ih
   |new ob mk=>exact ih
   |mQ k v ob=>exact ih
   |gp v Hc=>exact((hp.gp hm (by omega) ho).2.1).trans ih
theorem lk.len {Hm:List AO} {pre:List MI} (hm:m<=ops.size) (hp:lk lv P N ops m outs Hm s0 pre) (i:Nat) (v:AV) (Hc:List AO) (hi:i<m) (ho:outs i=.gp v Hc):Hc.length=s0.H.length:=
 ((hp.gp hm hi ho).2.1).trans (hp.lens hm i (by omega))
theorem tV {Hm:List AO} {pre:List MI} (hm:m<=ops.size) (hp:lk lv P N ops m outs Hm s0 pre) (D:Nat->Bool) {n:Nat} (hn:n<=m):(gN outs s0.H D n).length=s0.H.length:=
 B8 (p:=fun l=>l.length=s0.H.length) rfl (fun j v Hc hj ho=>hp.len hm j v Hc (by omega) ho)
theorem AL {D:Nat→Bool} {i:Nat} (hn:fT outs i=false) (hu:jH outs i=false):dN m outs (bW D i)=dN m outs D:=by
  have key:∀n,nD outs (bW D i) n=nD outs D n:=by
    intro n
    induction n with
    |zero=>rfl
    |succ n ih=>
     unfold nD;rw[ih];by_cases e:n=i
     · subst e
       cases ho:outs n with
       |new ob mk=>simp[fT,ho]at hn
       |mQ k v ob=>simp[jH,ho]at hu
       |_ =>rfl
     · rw[show bW D i n=D n by simp[bW,e]]
  exact key m
theorem JK {Hm:List AO} {pre :List MI} (hf:mS lv P ops m) (QU:cA Hm s0.H) (hp:lk lv P N ops m outs Hm s0 pre) {D:Nat→Bool} (hc:qc ops D) {i:Nat} (hi:i<m) {o:Oper} (ho:ops[i]?=some o) (A8:D i=false) (hU:zB outs D) (Bj:∀e∈fR o,D e=true)
    {a:Act} {w:World} {next :Act→World→Prop} {Q:Exit→Act→World→Prop} (hR:Rl lv N (SD ops m outs s0 D) a w θ W)
    (hk:∀a' w' aX W',Rl lv N (SD ops m outs s0 (bW D i)) a' w' aX W'→zB outs (bW D i)→eW θ W w aX W' w'→next a' w'):
    if Region.wanted o (yielded ops a.tmps)then o.wp P a w next Q else next (a.put o.dst undef) w:=by
  have hu:=hf.uniq;obtain⟨m',g,hm,hg,FH,hpi,pj⟩:=hp i o hi ho
  have Ep:∀k,k<m→∃o,pre[k]?=some o∧o.dst=cm lv (jG ops k):=by
    intro k ic;have QV:k<ops.size:=Nat.lt_of_lt_of_le ic hf.le;obtain⟨m2,g2,_,_,_,pX,_⟩:=hp k ops[k] ic (by simp[QV]);exact⟨_,pX,by simp[jG,QV]⟩
  have QW:jG ops i=o.dst:=by simp[jG,ho]
  obtain⟨QX,hcL,FI,QY⟩:=canon (lv:=lv) (outs:=outs) (s0:=s0) pre hu Ep (hp.len hf.le) i (by omega)
  have Qv:∀t,t∈looks ops o→(gV pre outs (s0.H,⟨s0.L,s0.T,[]⟩) i).2.get (fQ lv t)=(SD ops m outs s0 D).get (fQ lv t):=by
    intro t ht;rw[QY t,jN hu,Ou hf hc hi ho A8 Bj ht]
  have afZ:∀t,Operand.tmp t∈o.op.operands.toList→t∈looks ops o:=by
    intro t ht;unfold looks;refine List.mem_append.2 (.inl ?_);exact List.mem_filterMap.2 ⟨_,ht,rfl⟩
  have hA:Agree m'.args (gV pre outs (s0.H,⟨s0.L,s0.T,[]⟩) i).2 (SD ops m outs s0 D):=by
    intro x hx;rcases vm hm x hx with⟨v,rfl,_⟩|⟨t,rfl,ht⟩
    · rfl
    · exact Qv t (afZ t ht)
  have Cc:Agree (jb ops m').args (gV pre outs (s0.H,⟨s0.L,s0.T,[]⟩) i).2 (SD ops m outs s0 D):=by rw[vo];exact hA
  have Ht:cA Hm (SD ops m outs s0 D).H:=by
    have h1:cA Hm (gN outs s0.H D m):=B8 (p:=cA Hm) QU (fun j v Hc hj FJ=>(hp.gp hf.le hj FJ).2.2);intro id ob hid hn;exact Ek _ _ id ob (h1 id ob hid hn) hn
  have Bk:ot outs i=false →gN outs s0.H (bW D i) m=gN outs s0.H D m:=by
    intro hn;refine mR (fun j hj x8=> ?_);have cK:j≠i:=by rintro rfl;rw[hn]at x8;cases x8
    simp[bW,cK]
  have hUn:jH outs i=false →zB outs (bW D i):=by
    intro hn j k v ob hj QZ i0 h0 hr;have cK:j≠i:=by rintro rfl;simp[jH,hj]at hn
    have :D j=true :=by simpa[bW,cK]using QZ
    simp[bW,hU j k v ob hj this i0 h0 hr]
  have FK:∀v,outs i= .val v→∀dz a' w' aX W',dz=(SD ops m outs s0 D).put (cm lv o.dst) v→Rl lv N dz a' w' aX W'→eW θ W w aX W' w'→next a' w':=by
    intro v hv dz a' w' aX W' bc r8 lM;subst bc;refine hk a' w' aX W' (r8.congr (fun t=> ?_) ?_) (hUn (by simp[jH,hv])) lM
    · rw[lV,jN hu,jN hu,lW hu hi,QW]
      simp[valOf,hv]
    · rw[tU]
      show gN outs s0.H D m++dN m outs D=gN outs s0.H (bW D i) m++dN m outs (bW D i);rw[AL (by simp[fT,hv]) (by simp[jH,hv]),Bk (by simp[ot,hv])]
  have vq:jc lv P ops i=true →∀j,j<m→jc lv P ops j=true →D j=below i j:=by
    intro qQ j hj aau;have Hu:j<ops.size:=Nat.lt_of_lt_of_le hj hf.le;rcases Nat.lt_trichotomy j i with aF|he|cG
    · rw[iF hf.lt hc i j o ho Bj (hf.chain j i aF hi aau qQ)]
      simp[below,aF]
    · subst he;rw[A8];simp[below]
    · have QS:¬j<i:=by omega
      cases e:D j with
      |false =>simp[below,QS]
      |true =>
       have FJ:ops[j]?=some ops[j]:=by simp[Hu]
       have :=iF hf.lt hc j i _ FJ (hc j _ e FJ) (hf.chain i j cG hj qQ aau);rw[A8]at this;cases this
  have aav:∀j,j<m→ot outs j=true →jc lv P ops j=true :=by
    intro j hj x8;unfold ot at x8;split at x8
    · rename_i v' xJ e;exact(hp.gp hf.le hj e).1
    · cases x8
  have M1:∀j,j<m→jH outs j=true →jc lv P ops j=true :=by
    intro j hj x8;unfold jH at x8;split at x8
    · rename_i k' v' zC e;exact hp.mQ hf.le hj e
    · cases x8
  have hHc:jc lv P ops i=true →gN outs s0.H D m=(gV pre outs (s0.H,⟨s0.L,s0.T,[]⟩) i).1:=by
    intro qQ;rw[QX,mR (n:=m) (fun j hj x8=>vq qQ j hj (aav j hj x8)),xY (Nat.le_of_lt hi) (fun j h1 h2 _ =>by simp[below];omega)];exact mR (fun j hj _ =>by simp[below,hj])
  have FL:jc lv P ops i=true →QN (jb ops m') (gV pre outs (s0.H,⟨s0.L,s0.T,[]⟩) i).2.H (dN m outs D) (gV pre outs (s0.H,⟨s0.L,s0.T,[]⟩) i).1.length (SD ops m outs s0 D):=by
    intro qQ y JL id ob hg hle hN;have tW:=hp.lens hf.le i (by omega);rw[tW]at hle hN⊢;rw[FI]at hN;rw[vo]at JL;have A9:=tV hf.le hp D (Nat.le_refl m)
    obtain⟨t',et,_⟩:∃t',y=fQ lv t'∧Operand.tmp t'∈o.op.operands.toList:=by
      rcases vm hm _ JL with⟨v,e,hv⟩|h
      · rw[e]at hg
        change BF v=some id at hg;rw[hv]at hg;cases hg
      · exact h
    have cY:=hR.rX t';rw[←et]at cY
    have key:∀av vv,BF av=some id→bb θ W av vv→∃ver,θ id ver≠ .no:=by
      intro av vv hid hv
      cases hv with
      |eS _ ver _ _ _ _ h=>cases hid;exact⟨ver,by rw[h];exact fun e=>by cases e⟩
      |gC _ ver h=>cases hid;exact⟨ver,by rw[h];exact fun e=>by cases e⟩
      |gs _ ver _ _ _ _ _ _ _ h=>cases hid;exact⟨ver,by rw[h];exact fun e=>by cases e⟩
      |ptr _ _ _ _ _ h=>cases hid;exact⟨0,by rw[h];exact fun e=>by cases e⟩
      |fO _ _ _ h=>cases hid;exact⟨0,by rw[h];exact fun e=>by cases e⟩
      |_ =>cases hid
    obtain⟨ver,lj⟩:=key _ _ hg cY;rcases zD (Nat.le_of_lt hi) (fun j hj jd=>vq qQ j hj (M1 j hj jd)) hN with h|h
    · exact h
    · have kK:(SD ops m outs s0 D).H[id]?=some .iQ:=by
        show(gN outs s0.H D m++dN m outs D)[id]?=_;rw[List.getElem?_append_right (by omega),A9,h]
      exact absurd (hR.mem.obj id _ kK ver) lj
  have main:zy P Hm (jb ops m') (cm lv o.dst) (gV pre outs (s0.H,⟨s0.L,s0.T,[]⟩) i) (outs i)→o.wp P a w next Q:=by
    intro x9
    cases de:outs i with
    |val v=>
     rw[de]at x9;rcases x9 with x9|⟨x,id,ver,off,n,ob,vR,xX,ex,hle,kK,hv⟩
     · exact nM hm FH (vp (x9 _ Cc Ht)) a w θ W next Q hR (FK v de)
     have hnu:zk ops=true :=by
       rcases Oo vR with e|e
       · rw[e]at hm;exact absurd hm (Ot)
       · exact e
     have Hv:x∈(jb ops m').args:=by rw[vR];simp[MO.args]
     have gW:(SD ops m outs s0 D).get x= .gs id ver off n:=by rw[←Cc x Hv];exact ex
     have tW:=hp.lens hf.le i (by omega);have A9:=tV hf.le hp D (Nat.le_refl m);rw[tW]at hle kK;rw[FI]at kK
     have DK:(dN m outs D)[id-s0.H.length]?=some ob:=by
       rcases zD (Nat.le_of_lt hi) (fun j hj jd=>(hp.acZ hf.le hnu hj jd).elim) kK with h|h
       · exact h
       · have Cd:(SD ops m outs s0 D).H[id]?=some .iQ:=by
           show(gN outs s0.H D m++dN m outs D)[id]?=_;rw[List.getElem?_append_right (by omega),A9,h]
         obtain⟨t',et,_⟩:∃t',x=fQ lv t'∧Operand.tmp t'∈o.op.operands.toList:=by
           rcases vm hm x (by rw[←vo ops];exact Hv)with⟨v,e,_⟩|h
           · rw[e]at xX;cases xX
           · exact h
         have cY:=hR.rX t';rw[←et,gW]at cY
         have lj:θ id ver≠ .no:=by
           generalize Act.eval a (.tmp t')=vv at cY
           cases cY with
           |eS _ _ _ _ _ _ h=>rw[h];exact fun e=>by cases e
           |gC _ _ h=>rw[h];exact fun e=>by cases e
           |gs _ _ _ _ _ _ _ _ _ h=>rw[h];exact fun e=>by cases e
         exact absurd (hR.mem.obj id _ Cd ver) lj
     have Hw:(SD ops m outs s0 D).H[id]?=some ob:=by
       show(gN outs s0.H D m++dN m outs D)[id]?=_;rw[List.getElem?_append_right (by omega),A9];exact DK
     have h2:bh (al P) (jb ops m') (cm lv o.dst) (fun t=>t=(SD ops m outs s0 D).put (cm lv o.dst) v) (SD ops m outs s0 D):=by
       rw[vR];rw[Oq,gW];show bC (oH (oG 1 ver off n (SD ops m outs s0 D).H[id]?)) _ _ _;rw[Hw,hv]
       rfl
     exact nM hm FH (vp h2) a w θ W next Q hR (FK v de)
    |gp v Hc=>
     rw[de]at x9;obtain⟨hq,hl,hx,h1⟩:=x9;have qQ:=(hp.gp hf.le hi de).1;have Q0:∀j,j<m→ot outs j=true →D j=below i j:=fun j hj x8=>vq qQ j hj (aav j hj x8)
     have af0:gN outs s0.H (bW D i) m=Hc:=by
       rw[xY (i:=i+1) (show i+1≤m by omega) (fun j h1 h2 h3=>by
         have hb:=Q0 j h2 h3;have QS:¬j<i:=by omega
         have cK:¬j=i:=by omega
         simp[bW,hb,below,QS,cK])]
       simp[gN,de,bW]
     have h2:=h1 (SD ops m outs s0 D) (dN m outs D) Cc (by rw[←hHc qQ];rfl) Ht (FL qQ);refine nM hm FH (vp h2) a w θ W next Q hR ?_
     intro dz a' w' aX W' bc r8 lM;subst bc;refine hk a' w' aX W' (r8.congr (fun t=> ?_) ?_) (hUn (by simp[jH,de])) lM
     · rw[oq _ _ _ ((SD ops m outs s0 D).put (cm lv o.dst) v).H]
       have e1:(⟨((SD ops m outs s0 D).put (cm lv o.dst) v).L,((SD ops m outs s0 D).put (cm lv o.dst) v).T,((SD ops m outs s0 D).put (cm lv o.dst) v).H⟩:St).get (fQ lv t)=((SD ops m outs s0 D).put (cm lv o.dst) v).get (fQ lv t):=rfl;rw[e1,lV,jN hu,jN hu,lW hu hi,QW];simp[valOf,de]
     · show Hc++dN m outs D=gN outs s0.H (bW D i) m++dN m outs (bW D i)
       rw[AL (by simp[fT,de]) (by simp[jH,de]),af0]
    |new ob mk=>
     rw[de]at x9;have af1:fT outs i=true :=by simp[fT,de]
     have A9:=tV hf.le hp D (Nat.le_refl m)
     have Cd:(SD ops m outs s0 D).H[s0.H.length+cw outs i]?=some .iQ:=by
       show(gN outs s0.H D m++dN m outs D)[s0.H.length+cw outs i]?=_;rw[List.getElem?_append_right (by omega),show s0.H.length+cw outs i-(gN outs s0.H D m).length=cw outs i by omega,wV hi af1 A8 hU]
     have fin:∀a' w' aX W',Rl lv N (St.put ⟨(SD ops m outs s0 D).L,(SD ops m outs s0 D).T,(SD ops m outs s0 D).H.set (s0.H.length+cw outs i) ob⟩ (cm lv o.dst) (mk (s0.H.length+cw outs i))) a' w' aX W'→eW θ W w aX W' w'→next a' w':=by
       intro a' w' aX W' r8 lM;refine hk a' w' aX W' (r8.congr (fun t=> ?_) ?_) (hUn (by simp[jH,de])) lM
       · rw[lV,jN hu,lW hu hi,QW]
         rw[oq _ _ _ (SD ops m outs s0 D).H];have e1:(⟨(SD ops m outs s0 D).L,(SD ops m outs s0 D).T,(SD ops m outs s0 D).H⟩:St).get (fQ lv t)=eD lv ops m outs s0 D t:=jN hu D t;rw[e1];simp[valOf,de]
       · rw[tU]
         show(gN outs s0.H D m++dN m outs D).set (s0.H.length+cw outs i) ob=gN outs s0.H (bW D i) m++dN m outs (bW D i);rw[List.set_append_right _ _ (by omega),show s0.H.length+cw outs i-(gN outs s0.H D m).length=cw outs i by omega,←JD hi de A8 hU,Bk (by simp[ot,de])]
     rcases x9 with⟨hq,hn⟩|⟨sz,b,x,y,ys,vR,ex,⟨DE,ie,r7⟩,cK,hb,xQ,rfl,rfl⟩|⟨hq,hn⟩
     rotate_left
     · have em:m'= .app sz b x y:=by
         rcases xZ vR with e|e
         · exact e
         · rw[e]at hm;exact absurd hm (zF)
       have qQ:jc lv P ops i=true :=by
         unfold jc;rw[ho];simp only[hm,em];rfl
       have gW:(SD ops m outs s0 D).get x= .p .nl:=by rw[←Cc x (by rw[vR];simp[MO.args])];exact ex
       have Q1:=zz (s':=SD ops m outs s0 D) (A:=dN m outs D) DE ie (Cc y (by rw[vR];simp[MO.args])) (by rw[←hHc qQ];rfl) Ht (fun id v o n ob h1 h2 h3=>FL qQ y (by rw[vR];simp[MO.args]) id ob (by rw[h1];rfl) h2 h3);rw[em]at hm;exact Ho hm FH hR gW Q1 r7 cK hb xQ _ Cd fin
     rotate_left
     · have vQ:=hn.agree Cc
       have zo:jb ops m'=m':=by
         cases m' with
         |app sz b x y=>simp only[jb]at hq;split at hq<;>cases hq
         |pT n x v=>simp only[jb]at hq;split at hq<;>cases hq
         |tg x=>simp only[jb]at hq;split at hq<;>cases hq
         |_ =>first|rfl|cases hq
       rw[zo]at vQ;exact Xk hm FH vQ hR _ Cd fin
     · refine nM hm FH (vp (hn _ _ Cc Ht Cd)) a w θ W next Q hR ?_
       intro dz a' w' aX W' bc r8 lM;subst bc
       exact fin _ _ _ _ r8 lM
    |mQ k v ob=>
     rw[de]at x9;rcases x9 with x9|x9
     rotate_left
     · obtain⟨n,x,w2,id,off,cs,us,fP,vR,xX,ex,hle,pV,kK,Ju,nE,rfl,rfl⟩:=x9
       have em:m'= .pT n x w2:=by
         rcases zE vR with e|e
         · exact e
         · rw[e]at hm;exact absurd hm (Es)
       have qQ:=hp.mQ hf.le hi de;have Hv:x∈(jb ops m').args:=by rw[vR];simp[MO.args]
       have JL:w2∈(jb ops m').args:=by rw[vR];simp[MO.args]
       have gW:(SD ops m outs s0 D).get x= .ptr id off:=by rw[←Cc x Hv];exact ex
       have Xn:BG n ((SD ops m outs s0 D).get w2)=some us:=by rw[←Cc w2 JL];exact Ju
       have tW:=hp.lens hf.le i (by omega);have A9:=tV hf.le hp D (Nat.le_refl m)
       have Q2:k<cw outs i:=by
         rw[←jM outs (fun _ =>true),←FI];exact(List.getElem?_eq_some_iff.1 kK).1
       rw[tW]at hle pV;rw[FI]at kK
       have DK:(dN m outs D)[id-s0.H.length]?=some (.var cs):=by
         rw[←pV];rcases zD (Nat.le_of_lt hi) (fun j hj jd=>vq qQ j hj (M1 j hj jd)) kK with h|h
         · exact h
         · have Cd:(SD ops m outs s0 D).H[id]?=some .iQ:=by
             show(gN outs s0.H D m++dN m outs D)[id]?=_;rw[List.getElem?_append_right (by omega),A9,←pV,h]
           obtain⟨t',et,_⟩:∃t',x=fQ lv t'∧Operand.tmp t'∈o.op.operands.toList:=by
             rcases vm hm x (by rw[←vo ops];exact Hv)with⟨v,e,_⟩|h
             · rw[e]at xX;cases xX
             · exact h
           have cY:=hR.rX t';rw[←et,gW]at cY
           have lj:θ id 0≠ .no:=by
             generalize Act.eval a (.tmp t')=vv at cY
             cases cY with
             |ptr _ _ _ _ _ h=>rw[h];exact fun e=>by cases e
             |fO _ _ _ h=>rw[h];exact fun e=>by cases e
           exact absurd (hR.mem.obj id _ Cd 0) lj
       have Hw:(SD ops m outs s0 D).H[id]?=some (.var cs):=by
         show(gN outs s0.H D m++dN m outs D)[id]?=_;rw[List.getElem?_append_right (by omega),A9];exact DK
       have h2:bh (al P) m' (cm lv o.dst) (fun t=>t=St.put ⟨(SD ops m outs s0 D).L,(SD ops m outs s0 D).T,(SD ops m outs s0 D).H.set id (.var fP)⟩ (cm lv o.dst) .any) (SD ops m outs s0 D):=by
         rw[em,Hk,gW];unfold BG at Xn;split at Xn
         · rename_i hc
           cases Xn;unfold nG;rw[if_pos hc];simp only[Hw,nE,Option.map_some]
           rfl
         · cases Xn
       refine nM hm FH h2 a w θ W next Q hR ?_
       intro dz a' w' aX W' bc r8 lM;subst bc;refine hk a' w' aX W' (r8.congr (fun t=> ?_) ?_) ?_ lM
       · rw[lV,jN hu,lW hu hi,QW]
         rw[oq _ _ _ (SD ops m outs s0 D).H];have e1:(⟨(SD ops m outs s0 D).L,(SD ops m outs s0 D).T,(SD ops m outs s0 D).H⟩:St).get (fQ lv t)=eD lv ops m outs s0 D t:=jN hu D t;rw[e1];simp[valOf,de]
       · rw[tU]
         show(gN outs s0.H D m++dN m outs D).set id _ =gN outs s0.H (bW D i) m++dN m outs (bW D i)
         rw[List.set_append_right _ _ (by omega),A9,←pV,B9 hi de A8 Q2 (fun j h1 h2 h3=>by
           have :=vq qQ j h2 (M1 j h2 h3);rw[this];simp[below];omega),Bk (by simp[ot,de])]
       · intro j k' v' zC hj QZ i0 h0 hr
         by_cases cK:j=i
         · subst cK
           rw[de]at hj;cases hj
           have hi0:i0<j:=by
             rcases Nat.lt_or_ge i0 j with h|h
             · exact h
             · have :=kV outs h;omega
           cases e:D i0 with
           |true =>simp[bW,e]
           |false =>
            have :=wV (m:=m) (show i0<m by omega) h0 e hU;rw[hr,pV,DK]at this;cases this
         · have :D j=true :=by simpa[bW,cK]using QZ
           simp[bW,hU j k' v' zC hj this i0 h0 hr]
     obtain⟨sz,b,x,y,ys,id,ver,n,rs,vR,xX,ex,hle,pV,kK,hn,⟨DE,ie,r7⟩,hb,xQ,rfl,rfl⟩:=x9
     have em:m'= .app sz b x y:=by
       rcases xZ vR with e|e
       · exact e
       · rw[e]at hm;exact absurd hm (zF)
     have qQ:=hp.mQ hf.le hi de;have Hv:x∈(jb ops m').args:=by rw[vR];simp[MO.args]
     have JL:y∈(jb ops m').args:=by rw[vR];simp[MO.args]
     have gW:(SD ops m outs s0 D).get x= .gs id ver 0 n:=by rw[←Cc x Hv];exact ex
     have Q1:=zz (s':=SD ops m outs s0 D) (A:=dN m outs D) DE ie (Cc y JL) (by rw[←hHc qQ];rfl) Ht (fun id v o n ob h1 h2 h3=>FL qQ y JL id ob (by rw[h1];rfl) h2 h3);have tW:=hp.lens hf.le i (by omega);have A9:=tV hf.le hp D (Nat.le_refl m);have DK:=FL qQ x Hv id _ (by rw[gW];rfl) hle (by rw[←pV];exact kK)
     have Q2:k<cw outs i:=by
       rw[←jM outs (fun _ =>true),←FI];exact(List.getElem?_eq_some_iff.1 kK).1
     rw[tW]at hle pV DK
     have Hw:(SD ops m outs s0 D).H[id]?=some (.rows sz ver rs):=by
       show(gN outs s0.H D m++dN m outs D)[id]?=_;rw[List.getElem?_append_right (by omega),A9];exact DK
     have h2:bh (al P) m' (cm lv o.dst) (fun t=>t=St.put ⟨(SD ops m outs s0 D).L,(SD ops m outs s0 D).T,(SD ops m outs s0 D).H.set id (.rows sz (ver+1) (rs.take n++ys))⟩ (cm lv o.dst) (.gs id (ver+1) 0 (n+ys.length))) (SD ops m outs s0 D):=by
       rw[em];show AB sz b ((SD ops m outs s0 D).get x) (dj (SD ops m outs s0 D).H sz ((SD ops m outs s0 D).get y)) _ _ _;rw[Q1,gW];refine⟨r7, ?_⟩;rw[zx,Hw];exact⟨rfl,rfl,rfl,hn,hb,xQ,rfl⟩
     refine nM hm FH h2 a w θ W next Q hR ?_
     intro dz a' w' aX W' bc r8 lM;subst bc;refine hk a' w' aX W' (r8.congr (fun t=> ?_) ?_) ?_ lM
     · rw[lV,jN hu,lW hu hi,QW]
       rw[oq _ _ _ (SD ops m outs s0 D).H];have e1:(⟨(SD ops m outs s0 D).L,(SD ops m outs s0 D).T,(SD ops m outs s0 D).H⟩:St).get (fQ lv t)=eD lv ops m outs s0 D t:=jN hu D t;rw[e1];simp[valOf,de]
     · rw[tU]
       show(gN outs s0.H D m++dN m outs D).set id _ =gN outs s0.H (bW D i) m++dN m outs (bW D i)
       rw[List.set_append_right _ _ (by omega),A9,←pV,B9 hi de A8 Q2 (fun j h1 h2 h3=>by
         have :=vq qQ j h2 (M1 j h2 h3);rw[this];simp[below];omega),Bk (by simp[ot,de])]
     · intro j k' v' zC hj QZ i0 h0 hr
       by_cases cK:j=i
       · subst cK
         rw[de]at hj;cases hj
         have hi0:i0<j:=by
           rcases Nat.lt_or_ge i0 j with h|h
           · exact h
           · have :=kV outs h;omega
         cases e:D i0 with
         |true =>simp[bW,e]
         |false =>
          have :=wV (m:=m) (show i0<m by omega) h0 e hU;rw[hr,pV,DK]at this;cases this
       · have :D j=true :=by simpa[bW,cK]using QZ
         simp[bW,hU j k' v' zC hj this i0 h0 hr]
  unfold qP at pj
  cases oo:o.guard with
  |none =>
   rw[oo]at hg;cases hg;have hw:Region.wanted o (yielded ops a.tmps)=true :=by simp[Region.wanted,oo]
   rw[if_pos hw]
   exact main pj
  |some jw=>
   obtain⟨j,want⟩:=jw;rw[oo]at hg;simp only[Bg]at hg;split at hg
   case h_2=>cases hg
   case h_1 t ht=>
   cases hg
   have Fx:t∈looks ops o:=by
     unfold looks;refine List.mem_append.2 (.inr ?_);rw[oo];simp only[ht];simp
   have cY:=hR.rX t
   have skip :yielded ops a.tmps j≠some want→outs i= .val (.dK [])→if Region.wanted o (yielded ops a.tmps)then o.wp P a w next Q else next (a.put o.dst undef) w:=by
     intro hy de;have hw:¬Region.wanted o (yielded ops a.tmps)=true :=by simpa[Region.wanted,oo]using hy
     rw[if_neg hw];exact FK (.dK []) de _ _ _ _ _ rfl (hR.put FH (wR _ _) hR.mem (eW.refl _ _ _)) (eW.refl _ _ _)
   rcases pj with⟨hb,de⟩|⟨b,hb,h1,h2⟩
   · rw[Qv t Fx]at hb
     rw[hb]at cY;refine skip ?_ de;have e1:=Ei cY;simp only[Act.eval]at e1;unfold yielded;rw[ht];simp only[Option.bind_some];by_cases aF:t<a.tmps.size
     · simp[Array.getD,aF]at e1;simp[aF,e1]
     · simp[aF]
   · rw[Qv t Fx]at hb
     rw[hb]at cY;have e1:=cY.tO;simp only[Act.eval]at e1
     have xU:yielded ops a.tmps j=some b:=by
       have :a.tmps[t]?=some (.bool b):=by
         by_cases aF:t<a.tmps.size
         · simp[Array.getD,aF]at e1;simp[aF,e1]
         · simp[Array.getD,aF,undef]at e1
       simp[yielded,ht,this]
     by_cases e:b=want
     · have hw:Region.wanted o (yielded ops a.tmps)=true :=by simp[Region.wanted,oo,xU,e]
       rw[if_pos hw];exact main (h1 e)
     · exact skip (by rw[xU];simp[e]) (h2 e)
end
end Go.AM
