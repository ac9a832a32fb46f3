/- Regions whose order is drawn: one evaluation in the order of the text serves every order. -/
import Derived.Test.YteilijfligofdaaGreatDoorAm18
set_option linter.all false
namespace Go.AM
variable {lv:List Nat} {P:Program} {N:Nat} {K:St->Prop} {θ:Th} {W:Im} {C:iZ}
theorem al.mono {f:Nat} {args:List AV} {H:List AO} {R R':AV->List AO->Prop} (h:al P f args H R) (hr:∀r H',R r H'->R' r H'):al P f args H R':=
 ⟨h.1,fun w θ W vs hm ha=>(h.2 w θ W vs hm ha).mono fun e w' ⟨v,r,H',aX,W',h1,h2,h3⟩=>⟨v,r,H',aX,W',h1,hr _ _ h2,h3⟩⟩
inductive Out where
 |val (v:AV)
 |new (ob:AO) (mk:Nat->AV)
 |gp (v:AV) (Hc:List AO)
 |mQ (k:Nat) (v:AV) (ob:AO)
def ga (s:List AO×St) (d:MD):Out->List AO×St
 | .val v=>(s.1,s.2.put d v)
 | .new ob mk=>(s.1,St.put ⟨s.2.L,s.2.T,s.2.H++[ob]⟩ d (mk (s.1.length+s.2.H.length)))
 | .gp v Hc=>(Hc,s.2.put d v)
 | .mQ k v ob=>(s.1,St.put ⟨s.2.L,s.2.T,s.2.H.set k ob⟩ d v)
def gV (pre :List MI) (outs:Nat→Out) (s:List AO×St):Nat→List AO×St
  |0=>s
  |i+1=>match pre[i]?with
   |some o=>ga (gV pre outs s i) o.dst (outs i)
   |none =>gV pre outs s i
def QN (op:MO) (N A:List AO) (b:Nat) (s':St):Prop:=∀y∈op.args,∀id ob,BF (s'.get y)=some id->b<=id->N[id-b]?=some ob->A[id-b]?=some ob
def QO (Hm:List AO) (s:List AO×St) (sz b:Nat) (y:MA) (ys:List (List AV)):Prop :=
 y.wF=false/\p9 Hm s.1 s.2.H sz (s.2.get y)=some ys/\∀r∈ys,r.length=sz
def Xl (Hm:List AO) (op:MO) (s:List AO×St) (ob:AO) (mk:Nat->AV):Prop :=
 ∃sz b x y ys,op=.oF sz b x y/\s.2.get x=.p .nl/\QO Hm s sz b y ys/\ys≠[]/\
  ys.length*b<=140737488355328/\ys.length<=140737488355328/\ob=.rows sz 0 ys/\mk=fun id=>.gs id 0 0 ys.length
def MY (Hm:List AO) (op:MO) (s:List AO×St) (k:Nat) (v:AV) (ob:AO):Prop :=
 ∃sz b x y ys id ver n rs,op=.oF sz b x y/\x.wF=false/\s.2.get x=.gs id ver 0 n/\s.1.length<=id/\k=id-s.1.length/\s.2.H[k]?=some (.rows sz ver rs)/\n<=rs.length/\QO Hm s sz b y ys/\
  (n+ys.length)*b<=140737488355328/\n+ys.length<=140737488355328/\v=.gs id (ver+1) 0 (n+ys.length)/\ob=.rows sz (ver+1) (rs.take n++ys)
def MZ (op:MO) (s:List AO×St) (k:Nat) (v:AV) (ob:AO):Prop :=
 ∃n x w id off cs us fP,op=.qX n x w/\x.wF=false/\s.2.get x=.ptr id off/\s.1.length<=id/\k=id-s.1.length/\s.2.H[k]?=some (.var cs)/\BG n (s.2.get w)=some us/\eG cs off us=some fP/\v=.any/\ob=.var fP
def acX (op:MO) (s:List AO×St) (v:AV):Prop :=
 ∃x id ver off n ob,op=.qW x/\x.wF=false/\s.2.get x=.gs id ver off n/\s.1.length<=id/\s.2.H[id-s.1.length]?=some ob/\oH (oG 1 ver off n (some ob))=some v
def zy (P:Program) (Hm:List AO) (op:MO) (d:MD) (s:List AO×St):Out->Prop
 | .val v=>(∀s',Agree op.args s.2 s'->cA Hm s'.H->bh (al P) op d (fun t=>t=s'.put d v) s')\/acX op s v
 | .new ob mk=>(kindOf op=.new/\wU op s.2 ob mk)\/Xl Hm op s ob mk\/((xL op=true)/\∀s' j,Agree op.args s.2 s'->cA Hm s'.H->s'.H[j]?=some .iQ->bh (al P) op d (fun t=>t=St.put ⟨s'.L,s'.T,s'.H.set j ob⟩ d (mk j)) s')
 | .gp v Hc=>xL op=true/\Hc.length=s.1.length/\cA Hm Hc/\∀s' A,Agree op.args s.2 s'->s'.H=s.1++A->cA Hm s'.H->QN op s.2.H A s.1.length s'->bh (al P) op d (fun t=>t=⟨(s'.put d v).L,(s'.put d v).T,Hc++A⟩) s'
 | .mQ k v ob=>MY Hm op s k v ob\/MZ op s k v ob
def qP (P:Program) (Hm:List AO) (o:MI) (s:List AO×St) (out:Out):Prop :=
 match o.guard with
 |none=>zy P Hm o.op o.dst s out
 |some (t,want)=>(s.2.get t=.dK []/\out=.val (.dK []))\/∃b,s.2.get t=.p (.b b)/\(b=want->zy P Hm o.op o.dst s out)/\(b≠want->out=.val (.dK []))
theorem zz {Hm:List AO} {s:List AO×St} {sz:Nat} {y:MA} {ys:List (List AV)} (DE:y.wF=false) (ie:p9 Hm s.1 s.2.H sz (s.2.get y)=some ys) {s':St} {A:List AO} (ey:s.2.get y=s'.get y) (hA:s'.H=s.1++A) (hx:cA Hm s'.H)
    (hf:∀id v o n ob,s'.get y= .gs id v o n→s.1.length≤id→s.2.H[id-s.1.length]?=some ob→A[id-s.1.length]?=some ob):dj s'.H sz (s'.get y)=some ys:=by
  rw[ey]at ie
  cases hv:s'.get y with
  |gs id v o n=>
   rw[hv]at ie;show oG sz v o n s'.H[id]?=some ys;unfold p9 at ie;simp only at ie;split at ie
   · rename_i hle
     rw[hA,List.getElem?_append_right hle]
     cases hN:s.2.H[id-s.1.length]?with
     |none =>rw[hN]at ie;cases ie
     |some ob=>rw[hf id v o n ob hv hle hN,←hN];exact ie
   · cases hN:Hm[id]?with
     |none =>rw[hN]at ie;cases ie
     |some ob=>
      rw[hN]at ie;have A7:ob≠ .dead:=by rintro rfl;cases ie
      rw[hx id ob hN A7];exact ie
  |p x=>
   rw[hv]at ie
   exact sb (H:=[]) (fun id o h _ =>by simp at h) ie
  |_ =>rw[hv]at ie;cases ie
theorem oq (L T:En) (H H':List AO) (x:MA):St.get ⟨L,T,H⟩ x=St.get ⟨L,T,H'⟩ x:=by cases x<;>rfl
theorem Em {J:PK} {Hm Hc:List AO} {op:MO} {d:MD} {s:St} (h:dY (al P) Hm Hc op d J s):∃out,zy P Hm op d (Hc,s) out∧J (ga (Hc,s) d out).1 (ga (Hc,s) d out).2:=by
  unfold dY at h;split at h
  · rename_i hq
    obtain⟨v,h1,h2⟩:=Jz hq h;refine⟨.val v, .inl fun s' ha he=>h2 s' (fun x hx=>by rw[oq _ _ Hm s.H];exact ha x hx) he, ?_⟩;cases d<;>exact h1
  · rename_i hq
    have fin:∀(N:List AO) (f:Nat) (xs:List AV),(∀s':St,Agree op.args s s'→∀K:St→Prop,al P f xs s'.H (rR d K s')→bh (al P) op d K s')→xL op=true →(∀(s':St) A,Agree op.args s s'→QN op s.H A Hc.length s'→P7 xs N A Hc.length)→oK (al P) Hm Hc N f xs d J s→
        ∃out,zy P Hm op d (Hc,s) out∧J (ga (Hc,s) d out).1 (ga (Hc,s) d out).2:=by
      rintro N f xs QP QQ hfa (⟨r,xJ,h1,h2,h3,h4⟩|⟨ob,mk,h3,h4⟩);rotate_left
      · refine⟨.new ob mk, .inr (.inr ⟨QQ,fun s' j ha he hj=>QP s' ha _ ?_⟩),h4⟩
        refine(h3 s'.H j he hj).mono ?_;rintro r' H' ⟨rfl,rfl⟩
        rfl
      refine⟨.gp r xJ,⟨QQ,h1,h2,fun s' A ha hA _ hf=>QP s' ha _ ?_⟩,h4⟩;rw[hA];refine(h3 A (hfa s' A ha hf)).mono ?_;rintro r' H' ⟨rfl,rfl⟩;show St.put ⟨s'.L,s'.T,xJ++A⟩ d r'=_;rw[oP]
    cases op with
    |call f args =>
     refine fin s.H f (fF s args) (fun s' ha K hc=> ?_) rfl (fun s' A ha hf=> ?_) h
     · show al P f (fF s' args) s'.H (rR d K s')
       rw[←Agree.fF (l:=args) ha];exact hc
     · rw[Agree.fF (l:=args) ha]
       intro x hx id ob hid hle hN
       have :∃y∈args,s'.get y=x:=by
         clear hf hid hN fin h hq
         have key:∀l:List MA,x∈fF s' l→∃y∈l,s'.get y=x:=by
           intro l
           induction l with
           |nil=>intro h;cases h
           |cons y l ih=>
            intro h;rcases List.mem_cons.1 h with e|e
            · exact⟨y,by simp,e.symm⟩
            · obtain⟨z,hz,sc⟩:=ih e
              exact⟨z,List.mem_cons_of_mem _ hz,sc⟩
         exact key args hx
       obtain⟨y,hy,rfl⟩:=this
       exact hf y hy id ob hid hle hN
    |sY x args =>
     change(match s.get x with| .eB f eL=>oK (al P) Hm Hc [] f (fF s args ++eL) d J s|_ =>False)at h;split at h
     · rename_i f eL e
       refine fin [] f (fF s args ++eL) (fun s' ha K hc=> ?_) rfl (fun s' A ha hf x hx id ob hid hle hN=>by simp at hN) h;show zg (al P) (s'.get x) (fF s' args) d K s';rw[←ha x (by simp[MO.args]),e,←Agree.fF (l:=args) (fun y hy=>ha y (by simp[MO.args,hy]))];exact hc
     · exact h.elim
    |_ =>cases hq
  · rename_i hq
    obtain⟨ob,mk,h1,h2⟩:=QM hq h;exact⟨.new ob mk, .inl ⟨hq,h1⟩,h2⟩
  · rename_i hq
    obtain⟨v,H',⟨h1,h2,h3⟩,h4⟩:=QK hq h;refine⟨.gp v H',⟨(by cases op<;>first|rfl|(cases hq;done)),h1,h2,fun s' A ha hA _ _ =>h4 h1 s' A (fun x hx=>by rw[oq _ _ Hc s.H];exact ha x hx) hA⟩, ?_⟩;cases d<;>exact h3
  · rename_i hq
    cases op with
    |oF sz b x y=>
     change(if x.wF||y.wF then False else tJ Hm Hc sz b (s.get x) (p9 Hm Hc s.H sz (s.get y)) d J s)at h;split at h
     · exact h.elim
     rename_i fH;simp only[Bool.or_eq_true,not_or,Bool.not_eq_true]at fH;obtain⟨xX,DE⟩:=fH;unfold tJ at h;split at h
     case h_2=>exact h.elim
     case h_1 ys ie=>
     obtain⟨r7,⟨hx,cK,hb,xQ,hK⟩|h2|⟨id,ver,n,hx,hle,h2⟩⟩:=h
     · exact⟨.new (.rows sz 0 ys) (fun id=> .gs id 0 0 ys.length), .inr (.inl ⟨sz,b,x,y,ys,rfl,hx,⟨DE,ie,r7⟩,cK,hb,xQ,rfl,rfl⟩),hK⟩
     · unfold lR at h2
       split at h2
       · obtain⟨q1,q2,h2⟩:=h2
         rw[oP]at h2;have :=h2.1;simp at this
       · rename_i id2 QR ah2 n2 e2
         unfold AA at h2;split at h2
         · rename_i cX cI rs hid
           obtain⟨rfl,rfl,rfl,q4,q5,q6,h2⟩:=h2;have aF:=(List.getElem?_eq_some_iff.1 hid).1
           have h2':D9 Hm Hc s.H J ⟨(St.put s d (.gs id2 (cI+1) 0 (n2+ys.length))).L,(St.put s d (.gs id2 (cI+1) 0 (n2+ys.length))).T,Hc.set id2 (.rows cX (cI+1) (rs.take n2++ys))⟩:=by
             rw[oP]at h2;cases d<;>exact h2
           obtain⟨k1,k2,k3⟩:=h2';refine⟨.gp (.gs id2 (cI+1) 0 (n2+ys.length)) (Hc.set id2 (.rows cX (cI+1) (rs.take n2++ys))),⟨rfl,k1,k2,fun s' A ha hA hx hf=> ?_⟩, ?_⟩
           · have ex:=ha x (by simp[MO.args])
             have ey:=ha y (by simp[MO.args]);have lM:=zz (s:=(Hc,s)) DE ie ey hA hx (fun id v o n ob h1 h2 h3=>hf y (by simp[MO.args]) id ob (by rw[h1];rfl) h2 h3);show AB cX b (s'.get x) (dj s'.H cX (s'.get y)) d _ s';rw[lM,←ex];refine⟨r7, ?_⟩;have e2':s.get x= .gs id2 cI 0 n2:=e2;rw[e2',zx,hA,List.getElem?_append_left aF,hid];refine⟨rfl,rfl,rfl,q4,q5,q6, ?_⟩;rw[hA,List.set_append_left _ _ aF];exact oP s' _ d _
           · cases d<;>exact k3
         · exact h2.elim
       · exact h2.elim
     · unfold P8 at h2
       split at h2
       · rename_i cX cI rs hid
         obtain⟨rfl,rfl,q4,q5,q6,h2⟩:=h2;exact⟨.mQ (id-Hc.length) (.gs id (cI+1) 0 (n+ys.length)) (.rows cX (cI+1) (rs.take n++ys)), .inl ⟨cX,b,x,y,ys,id,cI,n,rs,rfl,xX,hx,hle,rfl,hid,q4,⟨DE,ie,r7⟩,q5,q6,rfl,rfl⟩,h2⟩
       · exact h2.elim
    |qX n x w=>
     change(if x.wF then False else BH Hc n (s.get x) (s.get w) d J s)at h;split at h
     · exact h.elim
     rename_i xX;simp only[Bool.not_eq_true]at xX;unfold BH at h;split at h
     case h_2=>exact h.elim
     case h_1 id off hx=>
     obtain⟨hle,h⟩:=h;unfold Qa at h;split at h
     case h_2=>exact h.elim
     case h_1 cs hid=>
     cases hu:BG n (s.get w)with
     |none =>rw[hu]at h;exact h.elim
     |some us=>
      rw[hu,Option.bind_some]at h
      cases hs:eG cs off us with
      |none =>rw[hs]at h;exact h.elim
      |some fP=>
       rw[hs]at h
       exact⟨.mQ (id-Hc.length) .any (.var fP), .inr ⟨n,x,w,id,off,cs,us,fP,rfl,xX,hx,hle,rfl,hid,hu,hs,rfl,rfl⟩,h⟩
    |_ =>cases hq
  · rename_i hq
    cases op with
    |qW x=>
     change(if x.wF then False else AE Hc (s.get x) d J s)at h;split at h
     · exact h.elim
     rename_i xX;simp only[Bool.not_eq_true]at xX;unfold AE at h;split at h
     case h_2=>exact h.elim
     case h_1 id ver off n hx=>
     obtain⟨hle,h⟩:=h;obtain⟨v,hv,h⟩:=dk h
     cases Jv:s.H[id-Hc.length]?with
     |none =>rw[Jv]at hv;simp[oG,oH]at hv
     |some ob=>
      rw[Jv]at hv;refine⟨.val v, .inr ⟨x,id,ver,off,n,ob,rfl,xX,hx,hle,Jv,hv⟩, ?_⟩
      cases d<;>exact h
    |_ =>cases hq
  · exact h.elim
theorem JA {v:AV} {A B:St->Prop} {s:St} (h:lh v A B s):∃b,v=.p (.b b)/\(b=true->A s)/\(b=false->B s):=by
 unfold lh at h;split at h
 ·rename_i b;exact⟨b,rfl,h.1,fun hb=>h.2 (by simp[hb])⟩
 ·exact h.elim
theorem Om {J:PK} {Hm Hc:List AO} {o:MI} {s:St} (h:GY (al P) Hm Hc o J s):∃out,qP P Hm o (Hc,s) out∧J (ga (Hc,s) o.dst out).1 (ga (Hc,s) o.dst out).2:=by
  obtain⟨d,op,g⟩:=o
  cases g with
  |none =>exact Em h
  |some tw=>
   obtain⟨t,want⟩:=tw;rw[Jp]at h;rcases AH h with⟨e,h3⟩|⟨b,hb,h1,h2⟩
   · exact⟨.val (.dK []), .inl ⟨e,rfl⟩,h3⟩
   · by_cases e:b=want
     · obtain⟨out,q1,q2⟩:=Em (h1 e)
       exact⟨out, .inr ⟨b,hb,fun _ =>q1,fun cK=>(cK e).elim⟩,q2⟩
     · exact⟨.val (.dK []), .inr ⟨b,hb,fun he=>(e he).elim,fun _ =>rfl⟩,h2 e⟩
def Hp (o:Out) (f:Nat->Out):Nat->Out
 |0=>o
 |i+1=>f i
theorem zA (o:MI) (os:List MI) (out:Out) (outs:Nat→Out) (s:List AO×St):∀i,gV (o::os) (Hp out outs) s (i+1)=gV os outs (ga s o.dst out) i
  |0=>rfl
  |i+1=>by
   rw[gV,zA o os out outs s i];simp only[List.getElem?_cons_succ,gV]
   rfl
theorem trace {J:PK} {Hm:List AO}:∀(pre :List MI) (s:List AO×St),BI (al P) Hm pre J s.1 s.2→∃outs:Nat→Out,(∀i o,pre[i]?=some o→qP P Hm o (gV pre outs s i) (outs i))∧J (gV pre outs s pre.length).1 (gV pre outs s pre.length).2
  |[],s,h=>⟨fun _ => .val .any,fun i o hi=>by simp at hi,h⟩
  |o::os,s,h=>by
   rw[Jo]at h;obtain⟨out,h1,h2⟩:=Om h;obtain⟨outs,h3,h4⟩:=trace os _ h2;refine⟨Hp out outs, ?_, ?_⟩
   · intro i o' hi
     cases i with
     |zero=>simp at hi;subst hi;exact h1
     |succ i=>rw[zA];exact h3 i o' (by simpa using hi)
   · rw[List.length_cons,zA];exact h4
theorem lV (s:St) (d:Option Nat) (v:AV) (t:Nat):(St.put s (cm lv d) v).get (fQ lv t)=if d=some t then v else s.get (fQ lv t):=by
  cases d with
  |none =>rfl
  |some d=>
   unfold cm fQ;by_cases h1:mB lv d=true <;>by_cases h2:mB lv t=true
   · simp only[h1,h2,if_true,St.put,St.get,BP,Option.some.injEq]
   · simp only[h1,h2,Bool.false_eq_true,if_true,if_false,St.put,St.get,Option.some.injEq]
     have cK:¬d=t:=fun e=>h2 (e▸h1)
     rw[if_neg cK]
   · simp only[h1,h2,Bool.false_eq_true,if_true,if_false,St.put,St.get,Option.some.injEq]
     have cK:¬d=t:=fun e=>h1 (e▸h2)
     rw[if_neg cK]
   · simp only[h1,h2,Bool.false_eq_true,if_false,St.put,St.get,wH,Option.some.injEq]
theorem tU (s:St) (d:MD) (v:AV):(St.put s d v).H=s.H:=by cases d<;>rfl
theorem Rl.congr {s s':St} {a:Act} {w:World} (h:Rl lv N s a w θ W) (hg:∀t,s.get (fQ lv t)=s'.get (fQ lv t)) (hH:s.H=s'.H):Rl lv N s' a w θ W:=by
 refine⟨h.defers,h.size,fun t ht=>?_,fun t ht=>?_,hH▸h.mem⟩
 ·have:=hg t
  simp only[fQ,ht,if_true,St.get]at this;rw[<-this];exact h.loc t ht
 ·have:=hg t
  simp only[fQ,ht,Bool.false_eq_true,if_false,St.get]at this;rw[<-this];exact h.tmp t ht
def jX (lv:List Nat) (l:List Operand) (x:MA):Prop:=(∃v,x=.c v/\BF v=none)\/∃t,x=fQ lv t/\Operand.tmp t∈l
theorem JB {v:Value} {a:AV} (h:qb v=some a):BF a=none:=by
 unfold qb at h
 (repeat' split at h)<;>first|(cases h;rfl)|(cases h;done)
theorem On {v:Value} {a:AV} (h:zj v=some a):BF a=none:=by
 unfold zj at h;split at h
 ·obtain⟨l,_,rfl⟩:=aY h;rfl
 ·exact JB h
theorem bB {y:Operand} {x:MA} (h:bK lv y=some x) {l:List Operand} (hy:y∈l):jX lv l x:=by
 cases y with
 |tmp t=>cases h;exact .inr ⟨t,rfl,hy⟩
 |const v=>obtain⟨a,h2,rfl⟩:=aY h;exact .inl ⟨a,rfl,On h2⟩
 |global g=>cases h
 |func f=>cases h;exact .inl ⟨_,rfl,rfl⟩
theorem iS {ys:List Operand} {xs:List MA} (h:jV lv ys=some xs) {l:List Operand} (hy:∀y∈ys,y∈l):∀x∈xs,jX lv l x:=by
  induction ys generalizing xs with
  |nil=>cases h;intro x hx;cases hx
  |cons y ys ih=>
   simp only[jV]at h;split at h
   · rename_i a l' h1 h2
     cases h;intro x hx;rcases List.mem_cons.1 hx with rfl|hx
     · exact bB h1 (hy y (by simp))
     · exact ih h2 (fun z hz=>hy z (List.mem_cons_of_mem _ hz)) x hx
   · cases h
theorem FB {t:TypeId} {ps:List (Nat×Operand)} {ms:List (Nat×Nat×MA)} (h:rS lv P t ps=some ms) {l:List Operand} (hy:∀p∈ps,p.2∈l):∀x∈ms.map (·.2.2),jX lv l x:=by
  induction ps generalizing ms with
  |nil=>cases h;intro x hx;cases hx
  |cons p ps ih=>
   obtain⟨f,y⟩:=p;simp only[rS]at h;split at h
   · rename_i off ft n a l' h1 h2 h3
     cases h;intro x hx;rcases List.mem_cons.1 hx with rfl|hx
     · exact bB h2 (hy (f,y) (by simp))
     · exact ih h3 (fun z hz=>hy z (List.mem_cons_of_mem _ hz)) x hx
   · cases h
theorem FC {ps:List (Nat×Operand)} {ms:List (Nat×MA)} (h:rT lv ps=some ms) {l:List Operand} (hy:∀p∈ps,p.2∈l):∀x∈ms.map (·.2),jX lv l x:=by
  induction ps generalizing ms with
  |nil=>cases h;intro x hx;cases hx
  |cons p ps ih=>
   obtain⟨f,y⟩:=p;simp only[rT]at h;split at h
   · rename_i a l' h1 h2
     cases h;intro x hx;rcases List.mem_cons.1 hx with rfl|hx
     · exact bB h1 (hy (f,y) (by simp))
     · exact ih h2 (fun z hz=>hy z (List.mem_cons_of_mem _ hz)) x hx
   · cases h
theorem B7 {y:Option Operand} {x:Option MA} (h:tL lv y=some x) {l:List Operand} (hy:∀z,y=some z→z∈l):∀z∈x.toList,jX lv l z:=by
  cases y with
  |none =>cases h;intro z hz;cases hz
  |some y=>
   obtain⟨a,h1,rfl⟩:=aY h;intro z hz;simp at hz;subst hz;exact bB h1 (hy y rfl)
theorem Hq {c:Call} {m:MO} (h:om lv P c=some m):∀x∈m.args,jX lv c.operands.toList x:=by
 have da:∀y∈c.args.toList,y∈c.operands.toList:=by
  intro y hy;simp only[Call.operands,Array.toList_append,List.mem_append];exact .inr hy
 unfold om at h;split at h
 ·rename_i f as hc ha
  split at h
  ·split at h
   ·cases h;exact iS ha da
   ·cases h
  ·cases h
 ·rename_i t as hc ha
  cases h;intro x hx;rcases List.mem_cons.1 hx with rfl|hx
  ·exact .inr ⟨t,rfl,by simp[Call.operands,hc]⟩
  ·exact iS ha da x hx
 ·rename_i x hc ha
  have:=iS ha da
  (repeat' split at h)<;>first|(cases h;done)|(cases h;exact this)
 ·rename_i x hc ha
  have:=iS ha da
  (repeat' split at h)<;>first|(cases h;done)|(cases h;exact this)
 ·rename_i x y hc ha
  have:=iS ha da
  (repeat' split at h)<;>first|(cases h;done)|(cases h;exact this)
 ·rename_i x y hc ha
  cases h;exact iS ha da
 ·rename_i x y hc ha
  cases h;exact iS ha da
 ·cases h
theorem vm {op:Op} {m:MO} (h:dH lv P op=some m):∀x∈m.args,jX lv op.operands.toList x:=by
  cases op with
  |move y=>obtain⟨a,h1,rfl⟩:=aY h;intro x hx;simp only[MO.args,List.mem_singleton]at hx;subst hx;exact bB h1 (by simp[Op.operands])
  |assign y=>obtain⟨a,h1,rfl⟩:=aY h;intro x hx;simp only[MO.args,List.mem_singleton]at hx;subst hx;exact bB h1 (by simp[Op.operands])
  |pick c a b=>
   simp only[dH]at h;split at h
   · rename_i h1 h2 h3
     cases h;intro x hx;simp only[MO.args,List.mem_cons,List.not_mem_nil,or_false]at hx;rcases hx with rfl|rfl|rfl
     · exact bB h1 (by simp[Op.operands])
     · exact bB h2 (by simp[Op.operands])
     · exact bB h3 (by simp[Op.operands])
   · cases h
  |alloc t=>obtain⟨a,h1,rfl⟩:=aY h;intro x hx;cases hx
  |box t y=>
   simp only[dH]at h;split at h
   · rename_i h1 h2;cases h;intro x hx;simp only[MO.args,List.mem_singleton]at hx;subst hx;exact bB h1 (by simp[Op.operands])
   · cases h
  |build t ps=>
   simp only[dH]at h;split at h
   · split at h
     · rename_i h1 h2
       split at h
       · cases h;exact FB h2 (fun p hp=>by simp[Op.operands];exact⟨p.1,by simpa using hp⟩)
       · cases h
     · cases h
   · cases h
  |buildSlice t n ps=>
   simp only[dH]at h;split at h
   · split at h
     · rename_i h1 h2 h3
       split at h
       · cases h;exact FC h3 (fun p hp=>by simp[Op.operands];exact⟨p.1,by simpa using hp⟩)
       · cases h
     · cases h
   · cases h
  |load t y=>
   simp only[dH]at h;split at h
   · rename_i h1 h2 h3;cases h;intro x hx;simp only[MO.args,List.mem_singleton]at hx;subst hx;exact bB h1 (by simp[Op.operands])
   · cases h
  |store t y v=>
   simp only[dH]at h;split at h
   · rename_i h1 h2 h3
     split at h
     · cases h
       intro x hx;simp only[MO.args,List.mem_cons,List.not_mem_nil,or_false]at hx;rcases hx with rfl|rfl
       · exact bB h1 (by simp[Op.operands])
       · exact bB h2 (by simp[Op.operands])
     · cases h
   · cases h
  |nilCheck y=>obtain⟨a,h1,rfl⟩:=aY h;intro x hx;simp only[MO.args,List.mem_singleton]at hx;subst hx;exact bB h1 (by simp[Op.operands])
  |binOp bop t y z u=>
   simp only[dH]at h;split at h
   · rename_i h1 h2 h3
     cases h;intro x hx;simp only[MO.args,List.mem_cons,List.not_mem_nil,or_false]at hx;rcases hx with rfl|rfl
     · exact bB h1 (by simp[Op.operands])
     · exact bB h2 (by simp[Op.operands])
   · rename_i h1 h2 h3
     cases h;intro x hx;simp only[MO.args,List.mem_cons,List.not_mem_nil,or_false]at hx;rcases hx with rfl|rfl
     · exact bB h1 (by simp[Op.operands])
     · exact bB h2 (by simp[Op.operands])
   · rename_i h1 h2 h3
     have fin:∀a b:MA,bK lv y=some a→bK lv z=some b→∀x∈[a,b],jX lv (Op.binOp bop t y z u).operands.toList x:=by
       intro a b ha hb x hx;simp only[List.mem_cons,List.not_mem_nil,or_false]at hx;rcases hx with rfl|rfl
       · exact bB ha (by simp[Op.operands])
       · exact bB hb (by simp[Op.operands])
     split at h
     · cases h;exact fin _ _ h1 h2
     · cases h;exact fin _ _ h1 h2
     · cases h
   · rename_i h1 h2 h3
     have fin:∀a b:MA,bK lv y=some a→bK lv z=some b→∀x∈[a,b],jX lv (Op.binOp bop t y z u).operands.toList x:=by
       intro a b ha hb x hx;simp only[List.mem_cons,List.not_mem_nil,or_false]at hx;rcases hx with rfl|rfl
       · exact bB ha (by simp[Op.operands])
       · exact bB hb (by simp[Op.operands])
     unfold DB at h;split at h
     · split at h
       · cases h;exact fin _ _ h1 h2
       · cases h;exact fin _ _ h1 h2
       · cases h
     · cases h
   · rename_i h1 h2 h3
     unfold wh at h;split at h
     · cases h;intro x hx;simp only[MO.args,List.mem_singleton]at hx;subst hx;exact bB h1 (by simp[Op.operands])
     · cases h;intro x hx;simp only[MO.args,List.mem_singleton]at hx;subst hx;exact bB h1 (by simp[Op.operands])
     · cases h
   · rename_i h1 h2 h3
     unfold mM at h;split at h
     · cases h;intro x hx;simp only[MO.args,List.mem_singleton]at hx;subst hx;exact bB h1 (by simp[Op.operands])
     · cases h;intro x hx;simp only[MO.args,List.mem_singleton]at hx;subst hx;exact bB h1 (by simp[Op.operands])
     · cases h
   · rename_i h1 h2 h3
     unfold mM at h;split at h
     · cases h;intro x hx;simp only[MO.args,List.mem_singleton]at hx;subst hx;exact bB h1 (by simp[Op.operands])
     · cases h;intro x hx;simp only[MO.args,List.mem_singleton]at hx;subst hx;exact bB h1 (by simp[Op.operands])
     · cases h
   · cases h
  |unOp uop t y=>obtain⟨a,h1,rfl⟩:=aY h;intro x hx;simp only[MO.args,List.mem_singleton]at hx;subst hx;exact bB h1 (by simp[Op.operands])
  |convert s t y=>
   simp only[dH]at h;split at h
   · rename_i h1 h2 h3;cases h;intro x hx;simp only[MO.args,List.mem_singleton]at hx;subst hx;exact bB h1 (by simp[Op.operands])
   · rename_i h1 h2 h3
     split at h
     · cases h;intro x hx;simp only[MO.args,List.mem_singleton]at hx;subst hx;exact bB h1 (by simp[Op.operands])
     · cases h
   · cases h
  |makeFunc fn first eL=>
   cases fn with
   |func f=>
    simp only[dH]at h;split at h
    · obtain⟨a,h1,rfl⟩:=aY h
      exact iS h1 (fun y hy=>by simp only[Op.operands,Array.toList_append,List.mem_append];exact .inr hy)
    · cases h
   |_ =>cases h
  |makeSlice t l c=>
   simp only[dH]at h;split at h
   · rename_i h1 h2 h3
     split at h
     · split at h
       · cases h
         intro x hx;simp only[MO.args,List.mem_cons,List.not_mem_nil,or_false]at hx;rcases hx with rfl|rfl
         · exact bB h2 (by simp[Op.operands])
         · exact bB h3 (by simp[Op.operands])
       · cases h
     · cases h
   · cases h
  |slice t y lo hi mx=>
   cases mx with
   |some _ =>cases h
   |none =>
    have fin:∀k a b c,bK lv y=some a→tL lv lo=some b→tL lv hi=some c→∀x∈MO.args (.tF k a b c),jX lv (Op.slice t y lo hi none).operands.toList x:=by
      intro k a b c h1 h2 h3 x hx;simp only[MO.args,List.mem_cons,List.mem_append]at hx;rcases hx with rfl|hx|hx
      · exact bB h1 (by simp[Op.operands])
      · exact B7 h2 (fun z hz=>by subst hz;simp[Op.operands]) x hx
      · exact B7 h3 (fun z hz=>by subst hz;simp[Op.operands]) x hx
    simp only[dH]at h;split at h
    · rename_i h1 h2 h3 h4;cases h;exact fin _ _ _ _ h2 h3 h4
    · rename_i h1 h2 h3 h4;obtain⟨n,_,rfl⟩:=aY h;exact fin _ _ _ _ h2 h3 h4
    · cases h
  |fieldAddr s y f=>
   simp only[dH]at h;split at h
   · rename_i h1 h2
     split at h
     · cases h;intro x hx;simp only[MO.args,List.mem_singleton]at hx;subst hx;exact bB h2 (by simp[Op.operands])
     · cases h
   · cases h
  |field s y f=>
   simp only[dH]at h;split at h
   · rename_i h1 h2
     obtain⟨n,_,rfl⟩:=aY h;intro x hx;simp only[MO.args,List.mem_singleton]at hx;subst hx;exact bB h2 (by simp[Op.operands])
   · cases h
  |indexAddr t y i=>
   have fin:∀a b,bK lv y=some a→bK lv i=some b→∀x∈[a,b],jX lv (Op.indexAddr t y i).operands.toList x:=by
     intro a b ha hb x hx;simp only[List.mem_cons,List.not_mem_nil,or_false]at hx;rcases hx with rfl|rfl
     · exact bB ha (by simp[Op.operands])
     · exact bB hb (by simp[Op.operands])
   simp only[dH]at h;split at h
   · rename_i h1 h2 h3
     simp only[Option.bind_eq_some_iff]at h;obtain⟨n,_,h⟩:=h;split at h
     · cases h;exact fin _ _ h2 h3
     · cases h
   · rename_i h1 h2 h3
     obtain⟨n,_,rfl⟩:=aY h;exact fin _ _ h2 h3
   · cases h
  |index t y i=>
   simp only[dH]at h;split at h
   · rename_i h1 h2 h3
     cases h;intro x hx;simp only[MO.args,List.mem_cons,List.not_mem_nil,or_false]at hx;rcases hx with rfl|rfl
     · exact bB h2 (by simp[Op.operands])
     · exact bB h3 (by simp[Op.operands])
   · cases h
  |extract y n=>obtain⟨a,h1,rfl⟩:=aY h;intro x hx;simp only[MO.args,List.mem_singleton]at hx;subst hx;exact bB h1 (by simp[Op.operands])
  |call c=>exact Hq h
  |_ =>cases h
end Go.AM
