/- Regions whose order is drawn: the theorem. -/
import Derived.Test.YtjkbbnfdbfcebaaGreatDoorAm20
set_option linter.all false
namespace Go.AM
variable {lv:List Nat} {P:Program} {N:Nat} {K:St->Prop} {θ:Th} {W:Im}
theorem uS (ops:Array Oper) (m:MO):(jc ops m).args=m.args:=by
 cases m with
 |app sz b x y=>simp only[jc];split <;>rfl
 |pQ n x v=>simp only[jc];split <;>rfl
 |sN x=>simp only[jc];split <;>rfl
 |_=>rfl
theorem D6 (ops:Array Oper) (d:MD) (m:MO) (g:Option (MA×Bool)):qy ops ⟨d,m,g⟩=⟨d,jc ops m,g⟩:=rfl
theorem xG {ops:Array Oper} {m:MO} {sz b:Nat} {x y:MA} (h:jc ops m= .oo sz b x y):m= .app sz b x y∨m= .oo sz b x y:=by
  cases m with
  |app cP b' x' y'=>
   simp only[jc]at h;split at h
   · cases h;exact .inl rfl
   · cases h
  |len s x=>cases h
  |pQ n x v=>simp only[jc]at h;split at h<;>cases h
  |sN x=>simp only[jc]at h;split at h<;>cases h
  |_ =>exact .inr h
theorem zb {ops:Array Oper} {m:MO} {n:Nat} {x v:MA} (h:jc ops m= .qN n x v):m= .pQ n x v∨m= .qN n x v:=by
  cases m with
  |app cP b' x' y'=>simp only[jc]at h;split at h<;>cases h
  |len s x=>cases h
  |pQ n' x' v'=>
   simp only[jc]at h;split at h
   · cases h;exact .inl rfl
   · cases h
  |sN x=>simp only[jc]at h;split at h<;>cases h
  |_ =>exact .inr h
theorem Ns {ops:Array Oper} {m:MO} {x:MA} (h:jc ops m= .qM x):m= .qM x∨yO ops=true :=by
  cases m with
  |app cP b' x' y'=>simp only[jc]at h;split at h<;>cases h
  |len s x=>cases h
  |pQ n x v=>simp only[jc]at h;split at h<;>cases h
  |sN x=>
   simp only[jc]at h;split at h
   · rename_i hc
     rw[Bool.and_eq_true]at hc;exact .inr hc.2
   · cases h
  |_ =>exact .inl h
theorem uT {ops:Array Oper} {C:ja} {m:MO} {d:MD} {s:St} (h:bo C (jc ops m) d K s):bo C m d K s:=by
  cases m with
  |len t x=>
   change bK (tl t (s.get x)) d K s at h;rw[WE];obtain⟨v,hv,h⟩:=dw h;unfold tl at hv;unfold vI;split at hv
   · cases hv;exact fun _ =>h
   · cases hv;exact h
   · cases hv;exact fun _ =>h
   · cases hv;exact fun _ =>h
   · cases hv
  |app sz b x y=>
   simp only[jc]at h
   split at h<;>exact h
  |pQ n x v=>
   simp only[jc]at h
   split at h<;>exact h
  |sN x=>
   simp only[jc]at h
   split at h<;>exact h
  |_ =>exact h
structure mJ (lv:List Nat) (P:Program) (ops:Array Oper) (m:Nat):Prop where
 le:m<=ops.size
 chain:∀i j,i<j->j<m->jd lv P ops i=true->jd lv P ops j=true->oz (hQ ops) j i=true
 apart:∀i j,i<m->j<m->xr (hQ ops) ops i j=true
 lt:∀j o,ops[j]?=some o->∀e∈fP o,e<j
 tail:∀j,m<=j->j<ops.size->∀i,i<j->oz (hQ ops) j i=true
theorem xH {cl:List Nat}:∀{l:List Nat},xu cl l=true →l.Pairwise (fun i j=>oz cl j i=true)
  |[],_ =>List.Pairwise.nil
  |i::is,h=>by
   unfold xu at h;simp only[Bool.and_eq_true,List.all_eq_true]at h;exact List.Pairwise.cons h.1 (xH h.2)
theorem Fb {ops:Array Oper} {m:Nat} (h:Bx (hQ ops) ops m (A3 lv P ops m)=true):mJ lv P ops m:=by
 unfold Bx at h;simp only[Bool.and_eq_true,decide_eq_true_eq,List.all_eq_true,List.mem_range]at h;obtain⟨⟨⟨h1,h0⟩,h2⟩,h3⟩:=h;refine⟨h1,?_,fun i j hi hj=>h2 i hi j hj,?_,?_⟩
 ·intro i j hij hj iQ tF
  have hp:=List.pairwise_filter.1 (xH h0);have:=(List.pairwise_iff_getElem.1 hp) i j (by simp;omega) (by simp;omega) hij;simp only[List.getElem_range]at this;exact this iQ tF
 ·intro j o ho e he
  have hj:j<ops.size:=(Array.getElem?_eq_some_iff.1 ho).1;have:=h3 j hj;rw[ho]at this;simp only[Bool.and_eq_true,List.all_eq_true,decide_eq_true_eq]at this;exact this.1 e he
 ·intro j hm hj i hi
  have:=h3 j hj;have ho:ops[j]?=some ops[j]:=by simp[hj]
  rw[ho]at this;simp only[Bool.and_eq_true,Bool.or_eq_true,decide_eq_true_eq]at this;rcases this.2 with h'|h'
  ·omega
  ·unfold yP at h'
   simp only[List.all_eq_true,List.mem_range]at h';exact h' i hi
theorem mJ.uniq {ops:Array Oper} {m:Nat} (h:mJ lv P ops m):G6 ops m:=by
  intro i j t hi hj h1 h2;have :=h.apart i j hi hj;unfold xr at this;unfold jD at h1 h2
  cases hx:ops[i]?with
  |none =>rw[hx]at h1;cases h1
  |some x=>
   cases hy:ops[j]?with
   |none =>rw[hy]at h2;cases h2
   |some y=>
    rw[hx]at h1;rw[hy]at h2;simp only[Option.bind_some]at h1 h2;rw[hx,hy]at this;simp only[Bool.and_eq_true,Bool.or_eq_true,beq_iff_eq,bne_iff_ne]at this;rcases this.2 with(h'|h')|h'
    · exact h'
    · rw[h1]at h';simp at h'
    · rw[h1,h2]at h';exact(h' rfl).elim
theorem zd {op:Op} {sz b:Nat} {x y:MA}:¬dM lv P op=some (.oo sz b x y):=by
  intro hm
  cases op with
  |call c=>
   simp only[dM,nY]at hm
   (repeat' split at hm)<;>first|(cases hm;done)
  |slice t x lo hi mx=>
   cases mx with
   |some _ =>cases hm
   |none =>
    simp only[dM]at hm;split at hm
    · cases hm
    · obtain⟨n,_,h⟩:=bf hm;cases h
    · cases hm
  |makeFunc fn first eO=>
   cases fn with
   |func f=>
    simp only[dM]at hm;split at hm
    · obtain⟨x,_,h⟩:=bf hm;cases h
    · cases hm
   |_ =>cases hm
  |_ =>
   simp only[dM,mD,vL,Db,Option.map_eq_some_iff]at hm
   first
     |(cases hm;done)
     |(obtain⟨x,_,hm⟩:=hm;cases hm;done)
     |((repeat' split at hm)<;>first|(cases hm;done)|(simp only[Option.map_eq_some_iff,Option.bind_eq_some_iff]at hm;obtain⟨x,_,hm⟩:=hm;first|(cases hm;done)|(split at hm<;>cases hm)))
theorem D7 {op:Op} {n:Nat} {x v:MA}:¬dM lv P op=some (.qN n x v):=by
  intro hm
  cases op with
  |call c=>
   simp only[dM,nY]at hm
   (repeat' split at hm)<;>first|(cases hm;done)
  |slice t x lo hi mx=>
   cases mx with
   |some _ =>cases hm
   |none =>
    simp only[dM]at hm;split at hm
    · cases hm
    · obtain⟨n,_,h⟩:=bf hm;cases h
    · cases hm
  |makeFunc fn first eO=>
   cases fn with
   |func f=>
    simp only[dM]at hm;split at hm
    · obtain⟨x,_,h⟩:=bf hm;cases h
    · cases hm
   |_ =>cases hm
  |_ =>
   simp only[dM,mD,vL,Db,Option.map_eq_some_iff]at hm
   first
     |(cases hm;done)
     |(obtain⟨x,_,hm⟩:=hm;cases hm;done)
     |((repeat' split at hm)<;>first|(cases hm;done)|(simp only[Option.map_eq_some_iff,Option.bind_eq_some_iff]at hm;obtain⟨x,_,hm⟩:=hm;first|(cases hm;done)|(split at hm<;>cases hm)))
theorem Nt {C:ja} (st:St) (d:MD) (x):bo C (.qM x) d K st=bK (pY st.H (st.get x)) d K st:=rfl
theorem Nu {op:Op} {x:MA}:¬dM lv P op=some (.qM x):=by
  intro hm
  cases op with
  |call c=>
   simp only[dM,nY]at hm
   (repeat' split at hm)<;>first|(cases hm;done)
  |slice t x lo hi mx=>
   cases mx with
   |some _ =>cases hm
   |none =>
    simp only[dM]at hm;split at hm
    · cases hm
    · obtain⟨n,_,h⟩:=bf hm;cases h
    · cases hm
  |makeFunc fn first eO=>
   cases fn with
   |func f=>
    simp only[dM]at hm;split at hm
    · obtain⟨x,_,h⟩:=bf hm;cases h
    · cases hm
   |_ =>cases hm
  |_ =>
   simp only[dM,mD,vL,Db,Option.map_eq_some_iff]at hm
   first
     |(cases hm;done)
     |(obtain⟨x,_,hm⟩:=hm;cases hm;done)
     |((repeat' split at hm)<;>first|(cases hm;done)|(simp only[Option.map_eq_some_iff,Option.bind_eq_some_iff]at hm;obtain⟨x,_,hm⟩:=hm;first|(cases hm;done)|(split at hm<;>cases hm)))
theorem Dp {op:Op} {sz b:Nat} {x y:MA} (hm:dM lv P op=some (.app sz b x y)):∃c,op= .call c∧c.callee= .builtin .append:=by
  cases op with
  |call c=>
   simp only[dM,nY]at hm
   (repeat' split at hm)<;>first|(cases hm;done)|exact⟨_,rfl,by assumption⟩
  |slice t x lo hi mx=>
   cases mx with
   |some _ =>cases hm
   |none =>
    simp only[dM]at hm;split at hm
    · cases hm
    · obtain⟨n,_,h⟩:=bf hm;cases h
    · cases hm
  |makeFunc fn first eO=>
   cases fn with
   |func f=>
    simp only[dM]at hm;split at hm
    · obtain⟨x,_,h⟩:=bf hm;cases h
    · cases hm
   |_ =>cases hm
  |_ =>
   simp only[dM,mD,vL,Db,Option.map_eq_some_iff]at hm
   first
     |(cases hm;done)
     |(obtain⟨x,_,hm⟩:=hm;cases hm;done)
     |((repeat' split at hm)<;>first|(cases hm;done)|(simp only[Option.map_eq_some_iff,Option.bind_eq_some_iff]at hm;obtain⟨x,_,hm⟩:=hm;first|(cases hm;done)|(split at hm<;>cases hm)))
theorem BW {op:Op} {n:Nat} {x v:MA} (hm:dM lv P op=some (.pQ n x v)):∃t y z,op= .store t y z:=by
  cases op with
  |call c=>
   simp only[dM,nY]at hm
   (repeat' split at hm)<;>first|(cases hm;done)
  |slice t x lo hi mx=>
   cases mx with
   |some _ =>cases hm
   |none =>
    simp only[dM]at hm;split at hm
    · cases hm
    · obtain⟨n,_,h⟩:=bf hm;cases h
    · cases hm
  |store t y z=>exact⟨_,_,_,rfl⟩
  |makeFunc fn first eO=>
   cases fn with
   |func f=>
    simp only[dM]at hm;split at hm
    · obtain⟨x,_,h⟩:=bf hm;cases h
    · cases hm
   |_ =>cases hm
  |_ =>
   simp only[dM,mD,vL,Db,Option.map_eq_some_iff]at hm
   first
     |(cases hm;done)
     |(obtain⟨x,_,hm⟩:=hm;cases hm;done)
     |((repeat' split at hm)<;>first|(cases hm;done)|(simp only[Option.map_eq_some_iff,Option.bind_eq_some_iff]at hm;obtain⟨x,_,hm⟩:=hm;first|(cases hm;done)|(split at hm<;>cases hm)))
theorem I7 {ops:Array Oper} {o:Oper} (hn:yO ops=true) (ho:o∈ops.toList) {sz b:Nat} {x y:MA}:¬dM lv P o.op=some (.app sz b x y):=by
 intro hm;have h:=List.all_eq_true.1 hn o ho;obtain⟨c,e,e2⟩:=Dp hm;rw[e]at h;simp only[e2]at h;cases h
theorem I8 {ops:Array Oper} {o:Oper} (hn:yO ops=true) (ho:o∈ops.toList) {n:Nat} {x v:MA}:¬dM lv P o.op=some (.pQ n x v):=by
 intro hm;have h:=List.all_eq_true.1 hn o ho;obtain⟨t,y,z,e⟩:=BW hm;rw[e]at h;cases h
section
variable {ops:Array Oper} {m:Nat} {outs:Nat->Out} {s0:St}
theorem Nv (hf:mJ lv P ops m) {D:Nat→Bool} (hc:p4 ops D) {i:Nat} (hi:i<m) {o:Oper} (ho:ops[i]?=some o) (AQ:D i=false) (A4:∀e∈fP o,D e=true) {t:Nat} (ht:t∈looks ops o):
    eD lv ops m outs s0 (below i) t=eD lv ops m outs s0 D t:=by
  unfold eD
  cases hw:vQ ops m t with
  |none =>rfl
  |some j=>
   obtain⟨hj,Nw⟩:=Fa hw;have Xb:=hf.apart i j hi hj;unfold xr at Xb;unfold jD at Nw
   cases hy:ops[j]?with
   |none =>rw[hy]at Nw;cases Nw
   |some y=>
    rw[hy]at Nw;simp only[Option.bind_some]at Nw;rw[ho,hy]at Xb;simp only[Nw,Bool.and_eq_true,Bool.or_eq_true,Bool.not_eq_true',decide_eq_true_eq]at Xb;have h1:=Xb.1;have hct:(looks ops o).contains t=true :=by simpa using ht
    rcases h1 with(h1|⟨h1,h2⟩)|⟨h1,h2⟩
    · rw[hct]at h1;cases h1
    · have hD:=iC hf.lt hc i j o ho A4 h2
      simp[below,h1,hD]
    · have hD:D j=false :=by
        cases e:D j with
        |false =>rfl
        |true =>
         have :=iC hf.lt hc j i y hy (hc j y e hy) h2;rw[AQ]at this;cases this
      have PU:¬j<i:=by omega
      simp[below,PU,hD]
def lf (lv:List Nat) (P:Program) (N:Nat) (ops:Array Oper) (m:Nat) (outs:Nat->Out) (Hm:List AO) (s0:St) (pre:List MI):Prop :=
 ∀i o,i<m->ops[i]?=some o->∃m' g,dM lv P o.op=some m'/\A1 lv ops o.guard=some g/\o.dst.all (decide <| ·<N)=true/\pre[i]?=some ⟨cB lv o.dst,jc ops m',g⟩/\
  qD P Hm ⟨cB lv o.dst,jc ops m',g⟩ (gV pre outs (s0.H,⟨s0.L,s0.T,[]⟩) i) (outs i)
theorem Ny {Hm:List AO} {pre :List MI} (Mq:pre =(ops.toList.take m).map fun o=>qy ops (iB lv P N ops o)) (hg:∀i o,pre[i]?=some o→qD P Hm o (gV pre outs (s0.H,⟨s0.L,s0.T,[]⟩) i) (outs i)):lf lv P N ops m outs Hm s0 pre :=by
  intro i o hi ho
  have hp:pre[i]?=some (qy ops (iB lv P N ops o)):=by
    rw[Mq,List.getElem?_map,List.getElem?_take,if_pos hi];simp[ho]
  have o0:=hg i _ hp
  have PW:∀s out,¬qD P Hm (qy ops ⟨.no, .stop,none⟩) s out:=by
    intro s out hh
    cases out with
    |val v=>
     rcases hh with hh|⟨_,_,_,_,_,_,e,_⟩
     · exact hh ⟨s.2.L,s.2.T,Hm⟩ (fun x hx=>by cases hx) (bP.refl Hm)
     · cases e
    |new ob mk=>rcases hh with hh|⟨_,_,_,_,_,e,_⟩|hh;cases hh.1;cases e;cases hh.1
    |mH k v ob=>
     rcases hh with⟨_,_,_,_,_,_,_,_,_,e,_⟩|⟨_,_,_,_,_,_,_,_,e,_⟩
     · cases e
     · cases e
    |gu v Hc=>cases hh.1
  unfold iB at o0 hp;split at o0
  · rename_i m' g hm nZ
    rw[hm,nZ]at hp;simp only at hp;split at o0
    · rename_i hd
      rw[if_pos hd,D6]at hp;rw[D6]at o0;exact⟨m',g,hm,nZ,hd,hp,o0⟩
    · exact(PW _ _ o0).elim
  · exact(PW _ _ o0).elim
theorem I9 {Hm:List AO} {o:MI} {s:List AO×St} {v:AV} {Hc:List AO} (h:qD P Hm o s (.gu v Hc)):yY P Hm o.op o.dst s (.gu v Hc):=by
 unfold qD at h;split at h
 ·exact h
 ·rename_i t want e
  rcases h with⟨_,h⟩|⟨b,h1,h2,h3⟩
  ·cases h
  ·by_cases e:b=want
   ·exact h2 e
   ·cases h3 e
theorem lf.gu {Hm:List AO} {pre:List MI} (hm:m<=ops.size) (hp:lf lv P N ops m outs Hm s0 pre) {i:Nat} {v:AV} {Hc:List AO} (hi:i<m) (ho:outs i=.gu v Hc):
  jd lv P ops i=true/\Hc.length=(gV pre outs (s0.H,⟨s0.L,s0.T,[]⟩) i).1.length/\bP Hm Hc:=by
 have Ja:i<ops.size:=Nat.lt_of_lt_of_le hi hm;have Jb:ops[i]?=some ops[i]:=by simp[Ja]
 obtain⟨m',g,h1,h2,h3,h4,h5⟩:=hp i ops[i] hi Jb;rw[ho]at h5;obtain⟨q1,q2,q3,_⟩:=I9 h5;refine⟨?_,q2,q3⟩;unfold jd;rw[Jb];simp only[h1];cases m'<;>first|exact q1|rfl|(cases q1;done)|(change xt (jc ops (.sN _))=true at q1;simp only[jc]at q1;split at q1<;>cases q1)
theorem BY {Hm:List AO} {o:MI} {s:List AO×St} {k:Nat} {v:AV} {ob:AO} (h:qD P Hm o s (.mH k v ob)):Mo Hm o.op s k v ob\/Mp o.op s k v ob:=by
 unfold qD at h;split at h
 ·exact h
 ·rename_i t want e
  rcases h with⟨_,h⟩|⟨b,h1,h2,h3⟩
  ·cases h
  ·by_cases e:b=want
   ·exact h2 e
   ·cases h3 e
theorem lf.mH {Hm:List AO} {pre:List MI} (hm:m<=ops.size) (hp:lf lv P N ops m outs Hm s0 pre) {i k:Nat} {v:AV} {ob:AO} (hi:i<m) (ho:outs i=.mH k v ob):jd lv P ops i=true:=by
 have Ja:i<ops.size:=Nat.lt_of_lt_of_le hi hm;have Jb:ops[i]?=some ops[i]:=by simp[Ja]
 obtain⟨m',g,h1,h2,h3,h4,h5⟩:=hp i ops[i] hi Jb;rw[ho]at h5;unfold jd;rw[Jb];simp only[h1];rcases BY h5 with⟨_,_,_,_,_,_,_,_,_,e,_⟩|⟨_,_,_,_,_,_,_,_,e,_⟩
 ·rcases xG e with e|e<;>rw[e]<;>rfl
 ·rcases zb e with e|e<;>rw[e]<;>rfl
theorem lf.adg {Hm:List AO} {pre:List MI} (hm:m<=ops.size) (hp:lf lv P N ops m outs Hm s0 pre) (hn:yO ops=true) {i:Nat} (hi:i<m) (hu:jE outs i=true):False:=by
 have Ja:i<ops.size:=Nat.lt_of_lt_of_le hi hm;have Jb:ops[i]?=some ops[i]:=by simp[Ja]
 have BM:ops[i]∈ops.toList:=by simp
 unfold jE at hu;split at hu
 case h_2=>cases hu
 rename_i k v ob ho;obtain⟨m',g,h1,h2,h3,h4,h5⟩:=hp i ops[i] hi Jb;rw[ho]at h5;rcases BY h5 with⟨_,_,_,_,_,_,_,_,_,e,_⟩|⟨_,_,_,_,_,_,_,_,e,_⟩
 ·rcases xG e with e|e
  ·rw[e]at h1;exact I7 hn BM h1
  ·rw[e]at h1;exact zd h1
 ·rcases zb e with e|e
  ·rw[e]at h1;exact I8 hn BM h1
  ·rw[e]at h1;exact D7 h1
theorem lf.lens {Hm:List AO} {pre :List MI} (hm:m≤ops.size) (hp:lf lv P N ops m outs Hm s0 pre):∀i,i≤m→(gV pre outs (s0.H,⟨s0.L,s0.T,[]⟩) i).1.length=s0.H.length
  |0,_ =>rfl
  |i+1,hi=>by
   have ih:=hp.lens hm i (by omega);have Ja:i<ops.size:=Nat.lt_of_lt_of_le (show i<m by omega) hm;obtain⟨m',g,h1,h2,h3,h4,h5⟩:=hp i ops[i] (by omega) (by simp[Ja]);simp only[gV,h4]
   cases ho:outs i with
   |val v=>exact ih
   |new ob mk=>exact ih
   |mH k v ob=>exact ih
   |gu v Hc=>exact((hp.gu hm (by omega) ho).2.1).trans ih
theorem lf.len {Hm:List AO} {pre:List MI} (hm:m<=ops.size) (hp:lf lv P N ops m outs Hm s0 pre) (i:Nat) (v:AV) (Hc:List AO) (hi:i<m) (ho:outs i=.gu v Hc):Hc.length=s0.H.length:=
 ((hp.gu hm hi ho).2.1).trans (hp.lens hm i (by omega))
theorem tL {Hm:List AO} {pre:List MI} (hm:m<=ops.size) (hp:lf lv P N ops m outs Hm s0 pre) (D:Nat->Bool) {n:Nat} (hn:n<=m):(gR outs s0.H D n).length=s0.H.length:=
 BU (p:=fun l=>l.length=s0.H.length) rfl (fun j v Hc hj ho=>hp.len hm j v Hc (by omega) ho)
theorem Ao {D:Nat→Bool} {i:Nat} (hn:fR outs i=false) (hu:jE outs i=false):dY m outs (bY D i)=dY m outs D:=by
  have key:∀n,nD outs (bY D i) n=nD outs D n:=by
    intro n
    induction n with
    |zero=>rfl
    |succ n ih=>
     unfold nD;rw[ih];by_cases e:n=i
     · subst e
       cases ho:outs n with
       |new ob mk=>simp[fR,ho]at hn
       |mH k v ob=>simp[jE,ho]at hu
       |_ =>rfl
     · rw[show bY D i n=D n by simp[bY,e]]
  exact key m
theorem Jc {Hm:List AO} {pre :List MI} (hf:mJ lv P ops m) (PY:bP Hm s0.H) (hp:lf lv P N ops m outs Hm s0 pre) {D:Nat→Bool} (hc:p4 ops D) {i:Nat} (hi:i<m) {o:Oper} (ho:ops[i]?=some o) (AQ:D i=false) (hU:y8 outs D) (A4:∀e∈fP o,D e=true)
    {a:Act} {w:World} {next :Act→World→Prop} {Q:Exit→Act→World→Prop} (hR:Rl lv N (SD ops m outs s0 D) a w θ W)
    (hk:∀a' w' bd W',Rl lv N (SD ops m outs s0 (bY D i)) a' w' bd W'→y8 outs (bY D i)→eU θ W w bd W' w'→next a' w'):
    if Region.wanted o (yielded ops a.tmps)then o.wp P a w next Q else next (a.put o.dst undef) w:=by
  have hu:=hf.uniq;obtain⟨m',g,hm,hg,Fc,hpi,o0⟩:=hp i o hi ho
  have D5:∀k,k<m→∃o,pre[k]?=some o∧o.dst=cB lv (jD ops k):=by
    intro k ia;have PZ:k<ops.size:=Nat.lt_of_lt_of_le ia hf.le;obtain⟨m2,g2,_,_,_,pR,_⟩:=hp k ops[k] ia (by simp[PZ]);exact⟨_,pR,by simp[jD,PZ]⟩
  have P0:jD ops i=o.dst:=by simp[jD,ho]
  obtain⟨P1,hcL,Fe,P2⟩:=canon (lv:=lv) (outs:=outs) (s0:=s0) pre hu D5 (hp.len hf.le) i (by omega)
  have Pr:∀t,t∈looks ops o→(gV pre outs (s0.H,⟨s0.L,s0.T,[]⟩) i).2.get (fO lv t)=(SD ops m outs s0 D).get (fO lv t):=by
    intro t ht;rw[P2 t,jK hu,Nv hf hc hi ho AQ A4 ht]
  have agd:∀t,Operand.tmp t∈o.op.operands.toList→t∈looks ops o:=by
    intro t ht;unfold looks;refine List.mem_append.2 (.inl ?_);exact List.mem_filterMap.2 ⟨_,ht,rfl⟩
  have hA:Agree m'.args (gV pre outs (s0.H,⟨s0.L,s0.T,[]⟩) i).2 (SD ops m outs s0 D):=by
    intro x hx;rcases uR hm x hx with⟨v,rfl,_⟩|⟨t,rfl,ht⟩
    · rfl
    · exact Pr t (agd t ht)
  have ze:Agree (jc ops m').args (gV pre outs (s0.H,⟨s0.L,s0.T,[]⟩) i).2 (SD ops m outs s0 D):=by rw[uS];exact hA
  have xI:bP Hm (SD ops m outs s0 D).H:=by
    have h1:bP Hm (gR outs s0.H D m):=BU (p:=bP Hm) PY (fun j v Hc hj Ff=>(hp.gu hf.le hj Ff).2.2);intro id ob hid hn;exact DY _ _ id ob (h1 id ob hid hn) hn
  have A7:oc outs i=false →gR outs s0.H (bY D i) m=gR outs s0.H D m:=by
    intro hn;refine mI (fun j hj xJ=> ?_);have cX:j≠i:=by rintro rfl;rw[hn]at xJ;cases xJ
    simp[bY,cX]
  have hUn:jE outs i=false →y8 outs (bY D i):=by
    intro hn j k v ob hj P3 i0 h0 hr;have cX:j≠i:=by rintro rfl;simp[jE,hj]at hn
    have :D j=true :=by simpa[bY,cX]using P3
    simp[bY,hU j k v ob hj this i0 h0 hr]
  have Fg:∀v,outs i= .val v→∀dG a' w' bd W',dG=(SD ops m outs s0 D).put (cB lv o.dst) v→Rl lv N dG a' w' bd W'→eU θ W w bd W' w'→next a' w':=by
    intro v hv dG a' w' bd W' ba rN lH;subst ba;refine hk a' w' bd W' (rN.congr (fun t=> ?_) ?_) (hUn (by simp[jE,hv])) lH
    · rw[lL,jK hu,jK hu,lM hu hi,P0]
      simp[valOf,hv]
    · rw[tJ]
      show gR outs s0.H D m++dY m outs D=gR outs s0.H (bY D i) m++dY m outs (bY D i);rw[Ao (by simp[fR,hv]) (by simp[jE,hv]),A7 (by simp[oc,hv])]
  have uU:jd lv P ops i=true →∀j,j<m→jd lv P ops j=true →D j=below i j:=by
    intro qE j hj aar;have Xc:j<ops.size:=Nat.lt_of_lt_of_le hj hf.le;rcases Nat.lt_trichotomy j i with aj|he|cJ
    · rw[iC hf.lt hc i j o ho A4 (hf.chain j i aj hi aar qE)]
      simp[below,aj]
    · subst he;rw[AQ];simp[below]
    · have PU:¬j<i:=by omega
      cases e:D j with
      |false =>simp[below,PU]
      |true =>
       have Ff:ops[j]?=some ops[j]:=by simp[Xc]
       have :=iC hf.lt hc j i _ Ff (hc j _ e Ff) (hf.chain i j cJ hj qE aar);rw[AQ]at this;cases this
  have aas:∀j,j<m→oc outs j=true →jd lv P ops j=true :=by
    intro j hj xJ;unfold oc at xJ;split at xJ
    · rename_i v' xq e;exact(hp.gu hf.le hj e).1
    · cases xJ
  have Mr:∀j,j<m→jE outs j=true →jd lv P ops j=true :=by
    intro j hj xJ;unfold jE at xJ;split at xJ
    · rename_i k' v' y9 e;exact hp.mH hf.le hj e
    · cases xJ
  have hHc:jd lv P ops i=true →gR outs s0.H D m=(gV pre outs (s0.H,⟨s0.L,s0.T,[]⟩) i).1:=by
    intro qE;rw[P1,mI (n:=m) (fun j hj xJ=>uU qE j hj (aas j hj xJ)),xF (Nat.le_of_lt hi) (fun j h1 h2 _ =>by simp[below];omega)];exact mI (fun j hj _ =>by simp[below,hj])
  have Fh:jd lv P ops i=true →PN (jc ops m') (gV pre outs (s0.H,⟨s0.L,s0.T,[]⟩) i).2.H (dY m outs D) (gV pre outs (s0.H,⟨s0.L,s0.T,[]⟩) i).1.length (SD ops m outs s0 D):=by
    intro qE y Jd id ob hg hle hN;have tM:=hp.lens hf.le i (by omega);rw[tM]at hle hN⊢;rw[Fe]at hN;rw[uS]at Jd;have AR:=tL hf.le hp D (Nat.le_refl m)
    obtain⟨t',et,_⟩:∃t',y=fO lv t'∧Operand.tmp t'∈o.op.operands.toList:=by
      rcases uR hm _ Jd with⟨v,e,hv⟩|h
      · rw[e]at hg
        change Bs v=some id at hg;rw[hv]at hg;cases hg
      · exact h
    have cR:=hR.rI t';rw[←et]at cR
    have key:∀av vv,Bs av=some id→bc θ W av vv→∃ver,θ id ver≠ .no:=by
      intro av vv hid hv
      cases hv with
      |ea _ ver _ _ _ _ h=>cases hid;exact⟨ver,by rw[h];exact fun e=>by cases e⟩
      |fN _ ver h=>cases hid;exact⟨ver,by rw[h];exact fun e=>by cases e⟩
      |gs _ ver _ _ _ _ _ _ _ h=>cases hid;exact⟨ver,by rw[h];exact fun e=>by cases e⟩
      |ptr _ _ _ _ _ h=>cases hid;exact⟨0,by rw[h];exact fun e=>by cases e⟩
      |fM _ _ _ h=>cases hid;exact⟨0,by rw[h];exact fun e=>by cases e⟩
      |_ =>cases hid
    obtain⟨ver,lb⟩:=key _ _ hg cR;rcases za (Nat.le_of_lt hi) (fun j hj je=>uU qE j hj (Mr j hj je)) hN with h|h
    · exact h
    · have kN:(SD ops m outs s0 D).H[id]?=some .iP:=by
        show(gR outs s0.H D m++dY m outs D)[id]?=_;rw[List.getElem?_append_right (by omega),AR,h]
      exact absurd (hR.mem.obj id _ kN ver) lb
  have main:yY P Hm (jc ops m') (cB lv o.dst) (gV pre outs (s0.H,⟨s0.L,s0.T,[]⟩) i) (outs i)→o.wp P a w next Q:=by
    intro xK
    cases dh:outs i with
    |val v=>
     rw[dh]at xK;rcases xK with xK|⟨x,id,ver,off,n,ob,vz,xE,ex,hle,kN,hv⟩
     · exact nz hm Fc (uT (xK _ ze xI)) a w θ W next Q hR (Fg v dh)
     have hnu:yO ops=true :=by
       rcases Ns vz with e|e
       · rw[e]at hm;exact absurd hm (Nu)
       · exact e
     have G7:x∈(jc ops m').args:=by rw[vz];simp[MO.args]
     have gW:(SD ops m outs s0 D).get x= .gs id ver off n:=by rw[←ze x G7];exact ex
     have tM:=hp.lens hf.le i (by omega);have AR:=tL hf.le hp D (Nat.le_refl m);rw[tM]at hle kN;rw[Fe]at kN
     have Dl:(dY m outs D)[id-s0.H.length]?=some ob:=by
       rcases za (Nat.le_of_lt hi) (fun j hj je=>(hp.adg hf.le hnu hj je).elim) kN with h|h
       · exact h
       · have BZ:(SD ops m outs s0 D).H[id]?=some .iP:=by
           show(gR outs s0.H D m++dY m outs D)[id]?=_;rw[List.getElem?_append_right (by omega),AR,h]
         obtain⟨t',et,_⟩:∃t',x=fO lv t'∧Operand.tmp t'∈o.op.operands.toList:=by
           rcases uR hm x (by rw[←uS ops];exact G7)with⟨v,e,_⟩|h
           · rw[e]at xE;cases xE
           · exact h
         have cR:=hR.rI t';rw[←et,gW]at cR
         have lb:θ id ver≠ .no:=by
           generalize Act.eval a (.tmp t')=vv at cR
           cases cR with
           |ea _ _ _ _ _ _ h=>rw[h];exact fun e=>by cases e
           |fN _ _ h=>rw[h];exact fun e=>by cases e
           |gs _ _ _ _ _ _ _ _ _ h=>rw[h];exact fun e=>by cases e
         exact absurd (hR.mem.obj id _ BZ ver) lb
     have G8:(SD ops m outs s0 D).H[id]?=some ob:=by
       show(gR outs s0.H D m++dY m outs D)[id]?=_;rw[List.getElem?_append_right (by omega),AR];exact Dl
     have h2:bo (aA P) (jc ops m') (cB lv o.dst) (fun t=>t=(SD ops m outs s0 D).put (cB lv o.dst) v) (SD ops m outs s0 D):=by
       rw[vz];rw[Nt,gW];show bK (ot (oq 1 ver off n (SD ops m outs s0 D).H[id]?)) _ _ _;rw[G8,hv]
       rfl
     exact nz hm Fc (uT h2) a w θ W next Q hR (Fg v dh)
    |gu v Hc=>
     rw[dh]at xK;obtain⟨hq,hl,hx,h1⟩:=xK;have qE:=(hp.gu hf.le hi dh).1;have P4:∀j,j<m→oc outs j=true →D j=below i j:=fun j hj xJ=>uU qE j hj (aas j hj xJ)
     have age:gR outs s0.H (bY D i) m=Hc:=by
       rw[xF (i:=i+1) (show i+1≤m by omega) (fun j h1 h2 h3=>by
         have hb:=P4 j h2 h3;have PU:¬j<i:=by omega
         have cX:¬j=i:=by omega
         simp[bY,hb,below,PU,cX])]
       simp[gR,dh,bY]
     have h2:=h1 (SD ops m outs s0 D) (dY m outs D) ze (by rw[←hHc qE];rfl) xI (Fh qE);refine nz hm Fc (uT h2) a w θ W next Q hR ?_
     intro dG a' w' bd W' ba rN lH;subst ba;refine hk a' w' bd W' (rN.congr (fun t=> ?_) ?_) (hUn (by simp[jE,dh])) lH
     · rw[oa _ _ _ ((SD ops m outs s0 D).put (cB lv o.dst) v).H]
       have e1:(⟨((SD ops m outs s0 D).put (cB lv o.dst) v).L,((SD ops m outs s0 D).put (cB lv o.dst) v).T,((SD ops m outs s0 D).put (cB lv o.dst) v).H⟩:St).get (fO lv t)=((SD ops m outs s0 D).put (cB lv o.dst) v).get (fO lv t):=rfl;rw[e1,lL,jK hu,jK hu,lM hu hi,P0];simp[valOf,dh]
     · show Hc++dY m outs D=gR outs s0.H (bY D i) m++dY m outs (bY D i)
       rw[Ao (by simp[fR,dh]) (by simp[jE,dh]),age]
    |new ob mk=>
     rw[dh]at xK;have agf:fR outs i=true :=by simp[fR,dh]
     have AR:=tL hf.le hp D (Nat.le_refl m)
     have BZ:(SD ops m outs s0 D).H[s0.H.length+cD outs i]?=some .iP:=by
       show(gR outs s0.H D m++dY m outs D)[s0.H.length+cD outs i]?=_;rw[List.getElem?_append_right (by omega),show s0.H.length+cD outs i-(gR outs s0.H D m).length=cD outs i by omega,wv hi agf AQ hU]
     have fin:∀a' w' bd W',Rl lv N (St.put ⟨(SD ops m outs s0 D).L,(SD ops m outs s0 D).T,(SD ops m outs s0 D).H.set (s0.H.length+cD outs i) ob⟩ (cB lv o.dst) (mk (s0.H.length+cD outs i))) a' w' bd W'→eU θ W w bd W' w'→next a' w':=by
       intro a' w' bd W' rN lH;refine hk a' w' bd W' (rN.congr (fun t=> ?_) ?_) (hUn (by simp[jE,dh])) lH
       · rw[lL,jK hu,lM hu hi,P0]
         rw[oa _ _ _ (SD ops m outs s0 D).H];have e1:(⟨(SD ops m outs s0 D).L,(SD ops m outs s0 D).T,(SD ops m outs s0 D).H⟩:St).get (fO lv t)=eD lv ops m outs s0 D t:=jK hu D t;rw[e1];simp[valOf,dh]
       · rw[tJ]
         show(gR outs s0.H D m++dY m outs D).set (s0.H.length+cD outs i) ob=gR outs s0.H (bY D i) m++dY m outs (bY D i);rw[List.set_append_right _ _ (by omega),show s0.H.length+cD outs i-(gR outs s0.H D m).length=cD outs i by omega,←I5 hi dh AQ hU,A7 (by simp[oc,dh])]
     rcases xK with⟨hq,hn⟩|⟨sz,b,x,y,ys,vz,ex,⟨De,gI,rL⟩,cX,hb,xy,rfl,rfl⟩|⟨hq,hn⟩
     rotate_left
     · have em:m'= .app sz b x y:=by
         rcases xG vz with e|e
         · exact e
         · rw[e]at hm;exact absurd hm (zd)
       have qE:jd lv P ops i=true :=by
         unfold jd;rw[ho];simp only[hm,em];rfl
       have gW:(SD ops m outs s0 D).get x= .p .nl:=by rw[←ze x (by rw[vz];simp[MO.args])];exact ex
       have P5:=yZ (s':=SD ops m outs s0 D) (A:=dY m outs D) De gI (ze y (by rw[vz];simp[MO.args])) (by rw[←hHc qE];rfl) xI (fun id v o n ob h1 h2 h3=>Fh qE y (by rw[vz];simp[MO.args]) id ob (by rw[h1];rfl) h2 h3);rw[em]at hm;exact G2 hm Fc hR gW P5 rL cX hb xy _ BZ fin
     rotate_left
     · have vy:=hn.agree ze
       have Df:jc ops m'=m':=by
         cases m' with
         |app sz b x y=>simp only[jc]at hq;split at hq<;>cases hq
         |pQ n x v=>simp only[jc]at hq;split at hq<;>cases hq
         |sN x=>simp only[jc]at hq;split at hq<;>cases hq
         |_ =>first|rfl|cases hq
       rw[Df]at vy;exact W9 hm Fc vy hR _ BZ fin
     · refine nz hm Fc (uT (hn _ _ ze xI BZ)) a w θ W next Q hR ?_
       intro dG a' w' bd W' ba rN lH;subst ba
       exact fin _ _ _ _ rN lH
    |mH k v ob=>
     rw[dh]at xK;rcases xK with xK|xK
     rotate_left
     · obtain⟨n,x,w2,id,off,cs,us,gG,vz,xE,ex,hle,oY,kN,IW,nt,rfl,rfl⟩:=xK
       have em:m'= .pQ n x w2:=by
         rcases zb vz with e|e
         · exact e
         · rw[e]at hm;exact absurd hm (D7)
       have qE:=hp.mH hf.le hi dh;have G7:x∈(jc ops m').args:=by rw[vz];simp[MO.args]
       have Jd:w2∈(jc ops m').args:=by rw[vz];simp[MO.args]
       have gW:(SD ops m outs s0 D).get x= .ptr id off:=by rw[←ze x G7];exact ex
       have Xd:Bt n ((SD ops m outs s0 D).get w2)=some us:=by rw[←ze w2 Jd];exact IW
       have tM:=hp.lens hf.le i (by omega);have AR:=tL hf.le hp D (Nat.le_refl m)
       have P6:k<cD outs i:=by
         rw[←jJ outs (fun _ =>true),←Fe];exact(List.getElem?_eq_some_iff.1 kN).1
       rw[tM]at hle oY;rw[Fe]at kN
       have Dl:(dY m outs D)[id-s0.H.length]?=some (.var cs):=by
         rw[←oY];rcases za (Nat.le_of_lt hi) (fun j hj je=>uU qE j hj (Mr j hj je)) kN with h|h
         · exact h
         · have BZ:(SD ops m outs s0 D).H[id]?=some .iP:=by
             show(gR outs s0.H D m++dY m outs D)[id]?=_;rw[List.getElem?_append_right (by omega),AR,←oY,h]
           obtain⟨t',et,_⟩:∃t',x=fO lv t'∧Operand.tmp t'∈o.op.operands.toList:=by
             rcases uR hm x (by rw[←uS ops];exact G7)with⟨v,e,_⟩|h
             · rw[e]at xE;cases xE
             · exact h
           have cR:=hR.rI t';rw[←et,gW]at cR
           have lb:θ id 0≠ .no:=by
             generalize Act.eval a (.tmp t')=vv at cR
             cases cR with
             |ptr _ _ _ _ _ h=>rw[h];exact fun e=>by cases e
             |fM _ _ _ h=>rw[h];exact fun e=>by cases e
           exact absurd (hR.mem.obj id _ BZ 0) lb
       have G8:(SD ops m outs s0 D).H[id]?=some (.var cs):=by
         show(gR outs s0.H D m++dY m outs D)[id]?=_;rw[List.getElem?_append_right (by omega),AR];exact Dl
       have h2:bo (aA P) m' (cB lv o.dst) (fun t=>t=St.put ⟨(SD ops m outs s0 D).L,(SD ops m outs s0 D).T,(SD ops m outs s0 D).H.set id (.var gG)⟩ (cB lv o.dst) .any) (SD ops m outs s0 D):=by
         rw[em,GY,gW];unfold Bt at Xd;split at Xd
         · rename_i hc
           cases Xd;unfold nu;rw[if_pos hc];simp only[G8,nt,Option.map_some]
           rfl
         · cases Xd
       refine nz hm Fc h2 a w θ W next Q hR ?_
       intro dG a' w' bd W' ba rN lH;subst ba;refine hk a' w' bd W' (rN.congr (fun t=> ?_) ?_) ?_ lH
       · rw[lL,jK hu,lM hu hi,P0]
         rw[oa _ _ _ (SD ops m outs s0 D).H];have e1:(⟨(SD ops m outs s0 D).L,(SD ops m outs s0 D).T,(SD ops m outs s0 D).H⟩:St).get (fO lv t)=eD lv ops m outs s0 D t:=jK hu D t;rw[e1];simp[valOf,dh]
       · rw[tJ]
         show(gR outs s0.H D m++dY m outs D).set id _ =gR outs s0.H (bY D i) m++dY m outs (bY D i)
         rw[List.set_append_right _ _ (by omega),AR,←oY,BV hi dh AQ P6 (fun j h1 h2 h3=>by
           have :=uU qE j h2 (Mr j h2 h3);rw[this];simp[below];omega),A7 (by simp[oc,dh])]
       · intro j k' v' y9 hj P3 i0 h0 hr
         by_cases cX:j=i
         · subst cX
           rw[dh]at hj;cases hj
           have hi0:i0<j:=by
             rcases Nat.lt_or_ge i0 j with h|h
             · exact h
             · have :=kV outs h;omega
           cases e:D i0 with
           |true =>simp[bY,e]
           |false =>
            have :=wv (m:=m) (show i0<m by omega) h0 e hU;rw[hr,oY,Dl]at this;cases this
         · have :D j=true :=by simpa[bY,cX]using P3
           simp[bY,hU j k' v' y9 hj this i0 h0 hr]
     obtain⟨sz,b,x,y,ys,id,ver,n,rs,vz,xE,ex,hle,oY,kN,hn,⟨De,gI,rL⟩,hb,xy,rfl,rfl⟩:=xK
     have em:m'= .app sz b x y:=by
       rcases xG vz with e|e
       · exact e
       · rw[e]at hm;exact absurd hm (zd)
     have qE:=hp.mH hf.le hi dh;have G7:x∈(jc ops m').args:=by rw[vz];simp[MO.args]
     have Jd:y∈(jc ops m').args:=by rw[vz];simp[MO.args]
     have gW:(SD ops m outs s0 D).get x= .gs id ver 0 n:=by rw[←ze x G7];exact ex
     have P5:=yZ (s':=SD ops m outs s0 D) (A:=dY m outs D) De gI (ze y Jd) (by rw[←hHc qE];rfl) xI (fun id v o n ob h1 h2 h3=>Fh qE y Jd id ob (by rw[h1];rfl) h2 h3);have tM:=hp.lens hf.le i (by omega);have AR:=tL hf.le hp D (Nat.le_refl m);have Dl:=Fh qE x G7 id _ (by rw[gW];rfl) hle (by rw[←oY];exact kN)
     have P6:k<cD outs i:=by
       rw[←jJ outs (fun _ =>true),←Fe];exact(List.getElem?_eq_some_iff.1 kN).1
     rw[tM]at hle oY Dl
     have G8:(SD ops m outs s0 D).H[id]?=some (.rows sz ver rs):=by
       show(gR outs s0.H D m++dY m outs D)[id]?=_;rw[List.getElem?_append_right (by omega),AR];exact Dl
     have h2:bo (aA P) m' (cB lv o.dst) (fun t=>t=St.put ⟨(SD ops m outs s0 D).L,(SD ops m outs s0 D).T,(SD ops m outs s0 D).H.set id (.rows sz (ver+1) (rs.take n++ys))⟩ (cB lv o.dst) (.gs id (ver+1) 0 (n+ys.length))) (SD ops m outs s0 D):=by
       rw[em];show Ad sz b ((SD ops m outs s0 D).get x) (dt (SD ops m outs s0 D).H sz ((SD ops m outs s0 D).get y)) _ _ _;rw[P5,gW];refine⟨rL, ?_⟩;rw[yW,G8];exact⟨rfl,rfl,rfl,hn,hb,xy,rfl⟩
     refine nz hm Fc h2 a w θ W next Q hR ?_
     intro dG a' w' bd W' ba rN lH;subst ba;refine hk a' w' bd W' (rN.congr (fun t=> ?_) ?_) ?_ lH
     · rw[lL,jK hu,lM hu hi,P0]
       rw[oa _ _ _ (SD ops m outs s0 D).H];have e1:(⟨(SD ops m outs s0 D).L,(SD ops m outs s0 D).T,(SD ops m outs s0 D).H⟩:St).get (fO lv t)=eD lv ops m outs s0 D t:=jK hu D t;rw[e1];simp[valOf,dh]
     · rw[tJ]
       show(gR outs s0.H D m++dY m outs D).set id _ =gR outs s0.H (bY D i) m++dY m outs (bY D i)
       rw[List.set_append_right _ _ (by omega),AR,←oY,BV hi dh AQ P6 (fun j h1 h2 h3=>by
         have :=uU qE j h2 (Mr j h2 h3);rw[this];simp[below];omega),A7 (by simp[oc,dh])]
     · intro j k' v' y9 hj P3 i0 h0 hr
       by_cases cX:j=i
       · subst cX
         rw[dh]at hj;cases hj
         have hi0:i0<j:=by
           rcases Nat.lt_or_ge i0 j with h|h
           · exact h
           · have :=kV outs h;omega
         cases e:D i0 with
         |true =>simp[bY,e]
         |false =>
          have :=wv (m:=m) (show i0<m by omega) h0 e hU;rw[hr,oY,Dl]at this;cases this
       · have :D j=true :=by simpa[bY,cX]using P3
         simp[bY,hU j k' v' y9 hj this i0 h0 hr]
  unfold qD at o0
  cases nZ:o.guard with
  |none =>
   rw[nZ]at hg;cases hg;have hw:Region.wanted o (yielded ops a.tmps)=true :=by simp[Region.wanted,nZ]
   rw[if_pos hw]
   exact main o0
  |some jw=>
   obtain⟨j,want⟩:=jw;rw[nZ]at hg;simp only[A1]at hg;split at hg
   case h_2=>cases hg
   case h_1 t ht=>
   cases hg
   have E3:t∈looks ops o:=by
     unfold looks;refine List.mem_append.2 (.inr ?_);rw[nZ];simp only[ht];simp
   have cR:=hR.rI t
   have skip :yielded ops a.tmps j≠some want→outs i= .val (.dX [])→if Region.wanted o (yielded ops a.tmps)then o.wp P a w next Q else next (a.put o.dst undef) w:=by
     intro hy dh;have hw:¬Region.wanted o (yielded ops a.tmps)=true :=by simpa[Region.wanted,nZ]using hy
     rw[if_neg hw];exact Fg (.dX []) dh _ _ _ _ _ rfl (hR.put Fc (wm _ _) hR.mem (eU.refl _ _ _)) (eU.refl _ _ _)
   rcases o0 with⟨hb,dh⟩|⟨b,hb,h1,h2⟩
   · rw[Pr t E3]at hb
     rw[hb]at cR;refine skip ?_ dh;have e1:=DW cR;simp only[Act.eval]at e1;unfold yielded;rw[ht];simp only[Option.bind_some];by_cases aj:t<a.tmps.size
     · simp[Array.getD,aj]at e1;simp[aj,e1]
     · simp[aj]
   · rw[Pr t E3]at hb
     rw[hb]at cR;have e1:=cR.tD;simp only[Act.eval]at e1
     have xB:yielded ops a.tmps j=some b:=by
       have :a.tmps[t]?=some (.bool b):=by
         by_cases aj:t<a.tmps.size
         · simp[Array.getD,aj]at e1;simp[aj,e1]
         · simp[Array.getD,aj,undef]at e1
       simp[yielded,ht,this]
     by_cases e:b=want
     · have hw:Region.wanted o (yielded ops a.tmps)=true :=by simp[Region.wanted,nZ,xB,e]
       rw[if_pos hw];exact main (h1 e)
     · exact skip (by rw[xB];simp[e]) (h2 e)
end
end Go.AM
