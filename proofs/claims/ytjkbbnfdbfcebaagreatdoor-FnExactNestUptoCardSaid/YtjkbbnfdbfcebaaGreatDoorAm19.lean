/- Regions whose order is drawn: one evaluation in the order of the text serves every order. -/
import Derived.Test.YtjkbbnfdbfcebaaGreatDoorAm18
set_option linter.all false
namespace Go.AM
variable {lv:List Nat} {P:Program} {N:Nat} {K:St->Prop} {θ:Th} {W:Im} {C:ja}
theorem aA.mono {f:Nat} {args:List AV} {H:List AO} {R R':AV->List AO->Prop} (h:aA P f args H R) (hr:∀r H',R r H'->R' r H'):aA P f args H R':=
 ⟨h.1,fun w θ W vs hm ha=>(h.2 w θ W vs hm ha).mono fun e w' ⟨v,r,H',bd,W',h1,h2,h3⟩=>⟨v,r,H',bd,W',h1,hr _ _ h2,h3⟩⟩
inductive Out where
 |val (v:AV)
 |new (ob:AO) (mk:Nat->AV)
 |gu (v:AV) (Hc:List AO)
 |mH (k:Nat) (v:AV) (ob:AO)
def gg (s:List AO×St) (d:MD):Out->List AO×St
 | .val v=>(s.1,s.2.put d v)
 | .new ob mk=>(s.1,St.put ⟨s.2.L,s.2.T,s.2.H++[ob]⟩ d (mk (s.1.length+s.2.H.length)))
 | .gu v Hc=>(Hc,s.2.put d v)
 | .mH k v ob=>(s.1,St.put ⟨s.2.L,s.2.T,s.2.H.set k ob⟩ d v)
def gV (pre :List MI) (outs:Nat→Out) (s:List AO×St):Nat→List AO×St
  |0=>s
  |i+1=>match pre[i]?with
   |some o=>gg (gV pre outs s i) o.dst (outs i)
   |none =>gV pre outs s i
def PN (op:MO) (N A:List AO) (b:Nat) (s':St):Prop:=∀y∈op.args,∀id ob,Bs (s'.get y)=some id->b<=id->N[id-b]?=some ob->A[id-b]?=some ob
def PO (Hm:List AO) (s:List AO×St) (sz b:Nat) (y:MA) (ys:List (List AV)):Prop :=
 y.v8=false/\pZ Hm s.1 s.2.H sz (s.2.get y)=some ys/\∀r∈ys,r.length=sz
def Xa (Hm:List AO) (op:MO) (s:List AO×St) (ob:AO) (mk:Nat->AV):Prop :=
 ∃sz b x y ys,op=.oo sz b x y/\s.2.get x=.p .nl/\PO Hm s sz b y ys/\ys≠[]/\
  ys.length*b<=140737488355328/\ys.length<=140737488355328/\ob=.rows sz 0 ys/\mk=fun id=>.gs id 0 0 ys.length
def Mo (Hm:List AO) (op:MO) (s:List AO×St) (k:Nat) (v:AV) (ob:AO):Prop :=
 ∃sz b x y ys id ver n rs,op=.oo sz b x y/\x.v8=false/\s.2.get x=.gs id ver 0 n/\s.1.length<=id/\k=id-s.1.length/\s.2.H[k]?=some (.rows sz ver rs)/\n<=rs.length/\PO Hm s sz b y ys/\
  (n+ys.length)*b<=140737488355328/\n+ys.length<=140737488355328/\v=.gs id (ver+1) 0 (n+ys.length)/\ob=.rows sz (ver+1) (rs.take n++ys)
def Mp (op:MO) (s:List AO×St) (k:Nat) (v:AV) (ob:AO):Prop :=
 ∃n x w id off cs us gG,op=.qN n x w/\x.v8=false/\s.2.get x=.ptr id off/\s.1.length<=id/\k=id-s.1.length/\s.2.H[k]?=some (.var cs)/\Bt n (s.2.get w)=some us/\dU cs off us=some gG/\v=.any/\ob=.var gG
def ade (op:MO) (s:List AO×St) (v:AV):Prop :=
 ∃x id ver off n ob,op=.qM x/\x.v8=false/\s.2.get x=.gs id ver off n/\s.1.length<=id/\s.2.H[id-s.1.length]?=some ob/\ot (oq 1 ver off n (some ob))=some v
def yY (P:Program) (Hm:List AO) (op:MO) (d:MD) (s:List AO×St):Out->Prop
 | .val v=>(∀s',Agree op.args s.2 s'->bP Hm s'.H->bo (aA P) op d (fun t=>t=s'.put d v) s')\/ade op s v
 | .new ob mk=>(kindOf op=.new/\wu op s.2 ob mk)\/Xa Hm op s ob mk\/((xt op=true)/\∀s' j,Agree op.args s.2 s'->bP Hm s'.H->s'.H[j]?=some .iP->bo (aA P) op d (fun t=>t=St.put ⟨s'.L,s'.T,s'.H.set j ob⟩ d (mk j)) s')
 | .gu v Hc=>xt op=true/\Hc.length=s.1.length/\bP Hm Hc/\∀s' A,Agree op.args s.2 s'->s'.H=s.1++A->bP Hm s'.H->PN op s.2.H A s.1.length s'->bo (aA P) op d (fun t=>t=⟨(s'.put d v).L,(s'.put d v).T,Hc++A⟩) s'
 | .mH k v ob=>Mo Hm op s k v ob\/Mp op s k v ob
def qD (P:Program) (Hm:List AO) (o:MI) (s:List AO×St) (out:Out):Prop :=
 match o.guard with
 |none=>yY P Hm o.op o.dst s out
 |some (t,want)=>(s.2.get t=.dX []/\out=.val (.dX []))\/∃b,s.2.get t=.p (.b b)/\(b=want->yY P Hm o.op o.dst s out)/\(b≠want->out=.val (.dX []))
theorem yZ {Hm:List AO} {s:List AO×St} {sz:Nat} {y:MA} {ys:List (List AV)} (De:y.v8=false) (gI:pZ Hm s.1 s.2.H sz (s.2.get y)=some ys) {s':St} {A:List AO} (ey:s.2.get y=s'.get y) (hA:s'.H=s.1++A) (hx:bP Hm s'.H)
    (hf:∀id v o n ob,s'.get y= .gs id v o n→s.1.length≤id→s.2.H[id-s.1.length]?=some ob→A[id-s.1.length]?=some ob):dt s'.H sz (s'.get y)=some ys:=by
  rw[ey]at gI
  cases hv:s'.get y with
  |gs id v o n=>
   rw[hv]at gI;show oq sz v o n s'.H[id]?=some ys;unfold pZ at gI;simp only at gI;split at gI
   · rename_i hle
     rw[hA,List.getElem?_append_right hle]
     cases hN:s.2.H[id-s.1.length]?with
     |none =>rw[hN]at gI;cases gI
     |some ob=>rw[hf id v o n ob hv hle hN,←hN];exact gI
   · cases hN:Hm[id]?with
     |none =>rw[hN]at gI;cases gI
     |some ob=>
      rw[hN]at gI;have AP:ob≠ .dead:=by rintro rfl;cases gI
      rw[hx id ob hN AP];exact gI
  |p x=>
   rw[hv]at gI
   exact rP (H:=[]) (fun id o h _ =>by simp at h) gI
  |_ =>rw[hv]at gI;cases gI
theorem oa (L T:En) (H H':List AO) (x:MA):St.get ⟨L,T,H⟩ x=St.get ⟨L,T,H'⟩ x:=by cases x<;>rfl
theorem D3 {J:PK} {Hm Hc:List AO} {op:MO} {d:MD} {s:St} (h:eA (aA P) Hm Hc op d J s):∃out,yY P Hm op d (Hc,s) out∧J (gg (Hc,s) d out).1 (gg (Hc,s) d out).2:=by
  unfold eA at h;split at h
  · rename_i hq
    obtain⟨v,h1,h2⟩:=I1 hq h;refine⟨.val v, .inl fun s' ha he=>h2 s' (fun x hx=>by rw[oa _ _ Hm s.H];exact ha x hx) he, ?_⟩;cases d<;>exact h1
  · rename_i hq
    have fin:∀(N:List AO) (f:Nat) (xs:List AV),(∀s':St,Agree op.args s s'→∀K:St→Prop,aA P f xs s'.H (rC d K s')→bo (aA P) op d K s')→xt op=true →(∀(s':St) A,Agree op.args s s'→PN op s.H A Hc.length s'→O2 xs N A Hc.length)→oy (aA P) Hm Hc N f xs d J s→
        ∃out,yY P Hm op d (Hc,s) out∧J (gg (Hc,s) d out).1 (gg (Hc,s) d out).2:=by
      rintro N f xs PQ PR hfa (⟨r,xq,h1,h2,h3,h4⟩|⟨ob,mk,h3,h4⟩);rotate_left
      · refine⟨.new ob mk, .inr (.inr ⟨PR,fun s' j ha he hj=>PQ s' ha _ ?_⟩),h4⟩
        refine(h3 s'.H j he hj).mono ?_;rintro r' H' ⟨rfl,rfl⟩
        rfl
      refine⟨.gu r xq,⟨PR,h1,h2,fun s' A ha hA _ hf=>PQ s' ha _ ?_⟩,h4⟩;rw[hA];refine(h3 A (hfa s' A ha hf)).mono ?_;rintro r' H' ⟨rfl,rfl⟩;show St.put ⟨s'.L,s'.T,xq++A⟩ d r'=_;rw[oC]
    cases op with
    |call f args =>
     refine fin s.H f (fw s args) (fun s' ha K hc=> ?_) rfl (fun s' A ha hf=> ?_) h
     · show aA P f (fw s' args) s'.H (rC d K s')
       rw[←Agree.fw (l:=args) ha];exact hc
     · rw[Agree.fw (l:=args) ha]
       intro x hx id ob hid hle hN
       have :∃y∈args,s'.get y=x:=by
         clear hf hid hN fin h hq
         have key:∀l:List MA,x∈fw s' l→∃y∈l,s'.get y=x:=by
           intro l
           induction l with
           |nil=>intro h;cases h
           |cons y l ih=>
            intro h;rcases List.mem_cons.1 h with e|e
            · exact⟨y,by simp,e.symm⟩
            · obtain⟨z,hz,rQ⟩:=ih e
              exact⟨z,List.mem_cons_of_mem _ hz,rQ⟩
         exact key args hx
       obtain⟨y,hy,rfl⟩:=this
       exact hf y hy id ob hid hle hN
    |sH x args =>
     change(match s.get x with| .fI f eO=>oy (aA P) Hm Hc [] f (fw s args ++eO) d J s|_ =>False)at h;split at h
     · rename_i f eO e
       refine fin [] f (fw s args ++eO) (fun s' ha K hc=> ?_) rfl (fun s' A ha hf x hx id ob hid hle hN=>by simp at hN) h;show yK (aA P) (s'.get x) (fw s' args) d K s';rw[←ha x (by simp[MO.args]),e,←Agree.fw (l:=args) (fun y hy=>ha y (by simp[MO.args,hy]))];exact hc
     · exact h.elim
    |_ =>cases hq
  · rename_i hq
    obtain⟨ob,mk,h1,h2⟩:=PL hq h;exact⟨.new ob mk, .inl ⟨hq,h1⟩,h2⟩
  · rename_i hq
    obtain⟨v,H',⟨h1,h2,h3⟩,h4⟩:=PJ hq h;refine⟨.gu v H',⟨(by cases op<;>first|rfl|(cases hq;done)),h1,h2,fun s' A ha hA _ _ =>h4 h1 s' A (fun x hx=>by rw[oa _ _ Hc s.H];exact ha x hx) hA⟩, ?_⟩;cases d<;>exact h3
  · rename_i hq
    cases op with
    |oo sz b x y=>
     change(if x.v8||y.v8 then False else tu Hm Hc sz b (s.get x) (pZ Hm Hc s.H sz (s.get y)) d J s)at h;split at h
     · exact h.elim
     rename_i fy;simp only[Bool.or_eq_true,not_or,Bool.not_eq_true]at fy;obtain⟨xE,De⟩:=fy;unfold tu at h;split at h
     case h_2=>exact h.elim
     case h_1 ys gI=>
     obtain⟨rL,⟨hx,cX,hb,xy,hK⟩|h2|⟨id,ver,n,hx,hle,h2⟩⟩:=h
     · exact⟨.new (.rows sz 0 ys) (fun id=> .gs id 0 0 ys.length), .inr (.inl ⟨sz,b,x,y,ys,rfl,hx,⟨De,gI,rL⟩,cX,hb,xy,rfl,rfl⟩),hK⟩
     · unfold mu at h2
       split at h2
       · obtain⟨q1,q2,h2⟩:=h2
         rw[oC]at h2;have :=h2.1;simp at this
       · rename_i id2 PT ail n2 e2
         unfold Ac at h2;split at h2
         · rename_i cP cA rs hid
           obtain⟨rfl,rfl,rfl,q4,q5,q6,h2⟩:=h2;have aj:=(List.getElem?_eq_some_iff.1 hid).1
           have Np:DO Hm Hc s.H J ⟨(St.put s d (.gs id2 (cA+1) 0 (n2+ys.length))).L,(St.put s d (.gs id2 (cA+1) 0 (n2+ys.length))).T,Hc.set id2 (.rows cP (cA+1) (rs.take n2++ys))⟩:=by
             rw[oC]at h2;cases d<;>exact h2
           obtain⟨k1,k2,k3⟩:=Np;refine⟨.gu (.gs id2 (cA+1) 0 (n2+ys.length)) (Hc.set id2 (.rows cP (cA+1) (rs.take n2++ys))),⟨rfl,k1,k2,fun s' A ha hA hx hf=> ?_⟩, ?_⟩
           · have ex:=ha x (by simp[MO.args])
             have ey:=ha y (by simp[MO.args]);have lH:=yZ (s:=(Hc,s)) De gI ey hA hx (fun id v o n ob h1 h2 h3=>hf y (by simp[MO.args]) id ob (by rw[h1];rfl) h2 h3);show Ad cP b (s'.get x) (dt s'.H cP (s'.get y)) d _ s';rw[lH,←ex];refine⟨rL, ?_⟩;have e2':s.get x= .gs id2 cA 0 n2:=e2;rw[e2',yW,hA,List.getElem?_append_left aj,hid];refine⟨rfl,rfl,rfl,q4,q5,q6, ?_⟩;rw[hA,List.set_append_left _ _ aj];exact oC s' _ d _
           · cases d<;>exact k3
         · exact h2.elim
       · exact h2.elim
     · unfold O3 at h2
       split at h2
       · rename_i cP cA rs hid
         obtain⟨rfl,rfl,q4,q5,q6,h2⟩:=h2;exact⟨.mH (id-Hc.length) (.gs id (cA+1) 0 (n+ys.length)) (.rows cP (cA+1) (rs.take n++ys)), .inl ⟨cP,b,x,y,ys,id,cA,n,rs,rfl,xE,hx,hle,rfl,hid,q4,⟨De,gI,rL⟩,q5,q6,rfl,rfl⟩,h2⟩
       · exact h2.elim
    |qN n x w=>
     change(if x.v8 then False else Bu Hc n (s.get x) (s.get w) d J s)at h;split at h
     · exact h.elim
     rename_i xE;simp only[Bool.not_eq_true]at xE;unfold Bu at h;split at h
     case h_2=>exact h.elim
     case h_1 id off hx=>
     obtain⟨hle,h⟩:=h;unfold O5 at h;split at h
     case h_2=>exact h.elim
     case h_1 cs hid=>
     cases hu:Bt n (s.get w)with
     |none =>rw[hu]at h;exact h.elim
     |some us=>
      rw[hu,Option.bind_some]at h
      cases hs:dU cs off us with
      |none =>rw[hs]at h;exact h.elim
      |some gG=>
       rw[hs]at h
       exact⟨.mH (id-Hc.length) .any (.var gG), .inr ⟨n,x,w,id,off,cs,us,gG,rfl,xE,hx,hle,rfl,hid,hu,hs,rfl,rfl⟩,h⟩
    |_ =>cases hq
  · rename_i hq
    cases op with
    |qM x=>
     change(if x.v8 then False else Af Hc (s.get x) d J s)at h;split at h
     · exact h.elim
     rename_i xE;simp only[Bool.not_eq_true]at xE;unfold Af at h;split at h
     case h_2=>exact h.elim
     case h_1 id ver off n hx=>
     obtain⟨hle,h⟩:=h;obtain⟨v,hv,h⟩:=dw h
     cases IX:s.H[id-Hc.length]?with
     |none =>rw[IX]at hv;simp[oq,ot]at hv
     |some ob=>
      rw[IX]at hv;refine⟨.val v, .inr ⟨x,id,ver,off,n,ob,rfl,xE,hx,hle,IX,hv⟩, ?_⟩
      cases d<;>exact h
    |_ =>cases hq
  · exact h.elim
theorem I2 {v:AV} {A B:St->Prop} {s:St} (h:la v A B s):∃b,v=.p (.b b)/\(b=true->A s)/\(b=false->B s):=by
 unfold la at h;split at h
 ·rename_i b;exact⟨b,rfl,h.1,fun hb=>h.2 (by simp[hb])⟩
 ·exact h.elim
theorem Nq {J:PK} {Hm Hc:List AO} {o:MI} {s:St} (h:GI (aA P) Hm Hc o J s):∃out,qD P Hm o (Hc,s) out∧J (gg (Hc,s) o.dst out).1 (gg (Hc,s) o.dst out).2:=by
  obtain⟨d,op,g⟩:=o
  cases g with
  |none =>exact D3 h
  |some tw=>
   obtain⟨t,want⟩:=tw;rw[IQ]at h;rcases Ai h with⟨e,h3⟩|⟨b,hb,h1,h2⟩
   · exact⟨.val (.dX []), .inl ⟨e,rfl⟩,h3⟩
   · by_cases e:b=want
     · obtain⟨out,q1,q2⟩:=D3 (h1 e)
       exact⟨out, .inr ⟨b,hb,fun _ =>q1,fun cX=>(cX e).elim⟩,q2⟩
     · exact⟨.val (.dX []), .inr ⟨b,hb,fun he=>(e he).elim,fun _ =>rfl⟩,h2 e⟩
def G3 (o:Out) (f:Nat->Out):Nat->Out
 |0=>o
 |i+1=>f i
theorem y7 (o:MI) (os:List MI) (out:Out) (outs:Nat→Out) (s:List AO×St):∀i,gV (o::os) (G3 out outs) s (i+1)=gV os outs (gg s o.dst out) i
  |0=>rfl
  |i+1=>by
   rw[gV,y7 o os out outs s i];simp only[List.getElem?_cons_succ,gV]
   rfl
theorem trace {J:PK} {Hm:List AO}:∀(pre :List MI) (s:List AO×St),Bv (aA P) Hm pre J s.1 s.2→∃outs:Nat→Out,(∀i o,pre[i]?=some o→qD P Hm o (gV pre outs s i) (outs i))∧J (gV pre outs s pre.length).1 (gV pre outs s pre.length).2
  |[],s,h=>⟨fun _ => .val .any,fun i o hi=>by simp at hi,h⟩
  |o::os,s,h=>by
   rw[IP]at h;obtain⟨out,h1,h2⟩:=Nq h;obtain⟨outs,h3,h4⟩:=trace os _ h2;refine⟨G3 out outs, ?_, ?_⟩
   · intro i o' hi
     cases i with
     |zero=>simp at hi;subst hi;exact h1
     |succ i=>rw[y7];exact h3 i o' (by simpa using hi)
   · rw[List.length_cons,y7];exact h4
theorem lL (s:St) (d:Option Nat) (v:AV) (t:Nat):(St.put s (cB lv d) v).get (fO lv t)=if d=some t then v else s.get (fO lv t):=by
  cases d with
  |none =>rfl
  |some d=>
   unfold cB fO;by_cases h1:lu lv d=true <;>by_cases h2:lu lv t=true
   · simp only[h1,h2,if_true,St.put,St.get,BB,Option.some.injEq]
   · simp only[h1,h2,Bool.false_eq_true,if_true,if_false,St.put,St.get,Option.some.injEq]
     have cX:¬d=t:=fun e=>h2 (e▸h1)
     rw[if_neg cX]
   · simp only[h1,h2,Bool.false_eq_true,if_true,if_false,St.put,St.get,Option.some.injEq]
     have cX:¬d=t:=fun e=>h1 (e▸h2)
     rw[if_neg cX]
   · simp only[h1,h2,Bool.false_eq_true,if_false,St.put,St.get,wb,Option.some.injEq]
theorem tJ (s:St) (d:MD) (v:AV):(St.put s d v).H=s.H:=by cases d<;>rfl
theorem Rl.congr {s s':St} {a:Act} {w:World} (h:Rl lv N s a w θ W) (hg:∀t,s.get (fO lv t)=s'.get (fO lv t)) (hH:s.H=s'.H):Rl lv N s' a w θ W:=by
 refine⟨h.defers,h.size,fun t ht=>?_,fun t ht=>?_,hH▸h.mem⟩
 ·have:=hg t
  simp only[fO,ht,if_true,St.get]at this;rw[<-this];exact h.loc t ht
 ·have:=hg t
  simp only[fO,ht,Bool.false_eq_true,if_false,St.get]at this;rw[<-this];exact h.tmp t ht
def jW (lv:List Nat) (l:List Operand) (x:MA):Prop:=(∃v,x=.c v/\Bs v=none)\/∃t,x=fO lv t/\Operand.tmp t∈l
theorem I3 {v:Value} {a:AV} (h:p3 v=some a):Bs a=none:=by
 unfold p3 at h
 (repeat' split at h)<;>first|(cases h;rfl)|(cases h;done)
theorem Nr {v:Value} {a:AV} (h:yN v=some a):Bs a=none:=by
 unfold yN at h;split at h
 ·obtain⟨l,_,rfl⟩:=bf h;rfl
 ·exact I3 h
theorem bH {y:Operand} {x:MA} (h:bQ lv y=some x) {l:List Operand} (hy:y∈l):jW lv l x:=by
 cases y with
 |tmp t=>cases h;exact .inr ⟨t,rfl,hy⟩
 |const v=>obtain⟨a,h2,rfl⟩:=bf h;exact .inl ⟨a,rfl,Nr h2⟩
 |global g=>cases h
 |func f=>cases h;exact .inl ⟨_,rfl,rfl⟩
theorem iS {ys:List Operand} {xs:List MA} (h:jU lv ys=some xs) {l:List Operand} (hy:∀y∈ys,y∈l):∀x∈xs,jW lv l x:=by
  induction ys generalizing xs with
  |nil=>cases h;intro x hx;cases hx
  |cons y ys ih=>
   simp only[jU]at h;split at h
   · rename_i a l' h1 h2
     cases h;intro x hx;rcases List.mem_cons.1 hx with rfl|hx
     · exact bH h1 (hy y (by simp))
     · exact ih h2 (fun z hz=>hy z (List.mem_cons_of_mem _ hz)) x hx
   · cases h
theorem E7 {t:TypeId} {ps:List (Nat×Operand)} {ms:List (Nat×Nat×MA)} (h:rD lv P t ps=some ms) {l:List Operand} (hy:∀p∈ps,p.2∈l):∀x∈ms.map (·.2.2),jW lv l x:=by
  induction ps generalizing ms with
  |nil=>cases h;intro x hx;cases hx
  |cons p ps ih=>
   obtain⟨f,y⟩:=p;simp only[rD]at h;split at h
   · rename_i off ft n a l' h1 h2 h3
     cases h;intro x hx;rcases List.mem_cons.1 hx with rfl|hx
     · exact bH h2 (hy (f,y) (by simp))
     · exact ih h3 (fun z hz=>hy z (List.mem_cons_of_mem _ hz)) x hx
   · cases h
theorem E8 {ps:List (Nat×Operand)} {ms:List (Nat×MA)} (h:rE lv ps=some ms) {l:List Operand} (hy:∀p∈ps,p.2∈l):∀x∈ms.map (·.2),jW lv l x:=by
  induction ps generalizing ms with
  |nil=>cases h;intro x hx;cases hx
  |cons p ps ih=>
   obtain⟨f,y⟩:=p;simp only[rE]at h;split at h
   · rename_i a l' h1 h2
     cases h;intro x hx;rcases List.mem_cons.1 hx with rfl|hx
     · exact bH h1 (hy (f,y) (by simp))
     · exact ih h2 (fun z hz=>hy z (List.mem_cons_of_mem _ hz)) x hx
   · cases h
theorem BT {y:Option Operand} {x:Option MA} (h:tA lv y=some x) {l:List Operand} (hy:∀z,y=some z→z∈l):∀z∈x.toList,jW lv l z:=by
  cases y with
  |none =>cases h;intro z hz;cases hz
  |some y=>
   obtain⟨a,h1,rfl⟩:=bf h;intro z hz;simp at hz;subst hz;exact bH h1 (hy y rfl)
theorem G4 {c:Call} {m:MO} (h:nY lv P c=some m):∀x∈m.args,jW lv c.operands.toList x:=by
 have df:∀y∈c.args.toList,y∈c.operands.toList:=by
  intro y hy;simp only[Call.operands,Array.toList_append,List.mem_append];exact .inr hy
 unfold nY at h;split at h
 ·rename_i f as hc ha
  split at h
  ·split at h
   ·cases h;exact iS ha df
   ·cases h
  ·cases h
 ·rename_i t as hc ha
  cases h;intro x hx;rcases List.mem_cons.1 hx with rfl|hx
  ·exact .inr ⟨t,rfl,by simp[Call.operands,hc]⟩
  ·exact iS ha df x hx
 ·rename_i x hc ha
  have:=iS ha df
  (repeat' split at h)<;>first|(cases h;done)|(cases h;exact this)
 ·rename_i x hc ha
  have:=iS ha df
  (repeat' split at h)<;>first|(cases h;done)|(cases h;exact this)
 ·rename_i x y hc ha
  have:=iS ha df
  (repeat' split at h)<;>first|(cases h;done)|(cases h;exact this)
 ·rename_i x y hc ha
  cases h;exact iS ha df
 ·rename_i x y hc ha
  cases h;exact iS ha df
 ·cases h
theorem uR {op:Op} {m:MO} (h:dM lv P op=some m):∀x∈m.args,jW lv op.operands.toList x:=by
  cases op with
  |move y=>obtain⟨a,h1,rfl⟩:=bf h;intro x hx;simp only[MO.args,List.mem_singleton]at hx;subst hx;exact bH h1 (by simp[Op.operands])
  |assign y=>obtain⟨a,h1,rfl⟩:=bf h;intro x hx;simp only[MO.args,List.mem_singleton]at hx;subst hx;exact bH h1 (by simp[Op.operands])
  |pick c a b=>
   simp only[dM]at h;split at h
   · rename_i h1 h2 h3
     cases h;intro x hx;simp only[MO.args,List.mem_cons,List.not_mem_nil,or_false]at hx;rcases hx with rfl|rfl|rfl
     · exact bH h1 (by simp[Op.operands])
     · exact bH h2 (by simp[Op.operands])
     · exact bH h3 (by simp[Op.operands])
   · cases h
  |alloc t=>obtain⟨a,h1,rfl⟩:=bf h;intro x hx;cases hx
  |box t y=>
   simp only[dM]at h;split at h
   · rename_i h1 h2;cases h;intro x hx;simp only[MO.args,List.mem_singleton]at hx;subst hx;exact bH h1 (by simp[Op.operands])
   · cases h
  |build t ps=>
   simp only[dM]at h;split at h
   · split at h
     · rename_i h1 h2
       split at h
       · cases h;exact E7 h2 (fun p hp=>by simp[Op.operands];exact⟨p.1,by simpa using hp⟩)
       · cases h
     · cases h
   · cases h
  |buildSlice t n ps=>
   simp only[dM]at h;split at h
   · split at h
     · rename_i h1 h2 h3
       split at h
       · cases h;exact E8 h3 (fun p hp=>by simp[Op.operands];exact⟨p.1,by simpa using hp⟩)
       · cases h
     · cases h
   · cases h
  |load t y=>
   simp only[dM]at h;split at h
   · rename_i h1 h2 h3;cases h;intro x hx;simp only[MO.args,List.mem_singleton]at hx;subst hx;exact bH h1 (by simp[Op.operands])
   · cases h
  |store t y v=>
   simp only[dM]at h;split at h
   · rename_i h1 h2 h3
     split at h
     · cases h
       intro x hx;simp only[MO.args,List.mem_cons,List.not_mem_nil,or_false]at hx;rcases hx with rfl|rfl
       · exact bH h1 (by simp[Op.operands])
       · exact bH h2 (by simp[Op.operands])
     · cases h
   · cases h
  |nilCheck y=>obtain⟨a,h1,rfl⟩:=bf h;intro x hx;simp only[MO.args,List.mem_singleton]at hx;subst hx;exact bH h1 (by simp[Op.operands])
  |binOp bop t y z u=>
   simp only[dM]at h;split at h
   · rename_i h1 h2 h3
     cases h;intro x hx;simp only[MO.args,List.mem_cons,List.not_mem_nil,or_false]at hx;rcases hx with rfl|rfl
     · exact bH h1 (by simp[Op.operands])
     · exact bH h2 (by simp[Op.operands])
   · rename_i h1 h2 h3
     cases h;intro x hx;simp only[MO.args,List.mem_cons,List.not_mem_nil,or_false]at hx;rcases hx with rfl|rfl
     · exact bH h1 (by simp[Op.operands])
     · exact bH h2 (by simp[Op.operands])
   · rename_i h1 h2 h3
     have fin:∀a b:MA,bQ lv y=some a→bQ lv z=some b→∀x∈[a,b],jW lv (Op.binOp bop t y z u).operands.toList x:=by
       intro a b ha hb x hx;simp only[List.mem_cons,List.not_mem_nil,or_false]at hx;rcases hx with rfl|rfl
       · exact bH ha (by simp[Op.operands])
       · exact bH hb (by simp[Op.operands])
     split at h
     · cases h;exact fin _ _ h1 h2
     · cases h;exact fin _ _ h1 h2
     · cases h
   · rename_i h1 h2 h3
     have fin:∀a b:MA,bQ lv y=some a→bQ lv z=some b→∀x∈[a,b],jW lv (Op.binOp bop t y z u).operands.toList x:=by
       intro a b ha hb x hx;simp only[List.mem_cons,List.not_mem_nil,or_false]at hx;rcases hx with rfl|rfl
       · exact bH ha (by simp[Op.operands])
       · exact bH hb (by simp[Op.operands])
     unfold Db at h;split at h
     · split at h
       · cases h;exact fin _ _ h1 h2
       · cases h;exact fin _ _ h1 h2
       · cases h
     · cases h
   · rename_i h1 h2 h3
     unfold vL at h;split at h
     · cases h;intro x hx;simp only[MO.args,List.mem_singleton]at hx;subst hx;exact bH h1 (by simp[Op.operands])
     · cases h;intro x hx;simp only[MO.args,List.mem_singleton]at hx;subst hx;exact bH h1 (by simp[Op.operands])
     · cases h
   · rename_i h1 h2 h3
     unfold mD at h;split at h
     · cases h;intro x hx;simp only[MO.args,List.mem_singleton]at hx;subst hx;exact bH h1 (by simp[Op.operands])
     · cases h;intro x hx;simp only[MO.args,List.mem_singleton]at hx;subst hx;exact bH h1 (by simp[Op.operands])
     · cases h
   · rename_i h1 h2 h3
     unfold mD at h;split at h
     · cases h;intro x hx;simp only[MO.args,List.mem_singleton]at hx;subst hx;exact bH h1 (by simp[Op.operands])
     · cases h;intro x hx;simp only[MO.args,List.mem_singleton]at hx;subst hx;exact bH h1 (by simp[Op.operands])
     · cases h
   · cases h
  |unOp uop t y=>obtain⟨a,h1,rfl⟩:=bf h;intro x hx;simp only[MO.args,List.mem_singleton]at hx;subst hx;exact bH h1 (by simp[Op.operands])
  |convert s t y=>
   simp only[dM]at h;split at h
   · rename_i h1 h2 h3;cases h;intro x hx;simp only[MO.args,List.mem_singleton]at hx;subst hx;exact bH h1 (by simp[Op.operands])
   · rename_i h1 h2 h3
     split at h
     · cases h;intro x hx;simp only[MO.args,List.mem_singleton]at hx;subst hx;exact bH h1 (by simp[Op.operands])
     · cases h
   · cases h
  |makeFunc fn first eO=>
   cases fn with
   |func f=>
    simp only[dM]at h;split at h
    · obtain⟨a,h1,rfl⟩:=bf h
      exact iS h1 (fun y hy=>by simp only[Op.operands,Array.toList_append,List.mem_append];exact .inr hy)
    · cases h
   |_ =>cases h
  |makeSlice t l c=>
   simp only[dM]at h;split at h
   · rename_i h1 h2 h3
     split at h
     · split at h
       · cases h
         intro x hx;simp only[MO.args,List.mem_cons,List.not_mem_nil,or_false]at hx;rcases hx with rfl|rfl
         · exact bH h2 (by simp[Op.operands])
         · exact bH h3 (by simp[Op.operands])
       · cases h
     · cases h
   · cases h
  |slice t y lo hi mx=>
   cases mx with
   |some _ =>cases h
   |none =>
    have fin:∀k a b c,bQ lv y=some a→tA lv lo=some b→tA lv hi=some c→∀x∈MO.args (.tg k a b c),jW lv (Op.slice t y lo hi none).operands.toList x:=by
      intro k a b c h1 h2 h3 x hx;simp only[MO.args,List.mem_cons,List.mem_append]at hx;rcases hx with rfl|hx|hx
      · exact bH h1 (by simp[Op.operands])
      · exact BT h2 (fun z hz=>by subst hz;simp[Op.operands]) x hx
      · exact BT h3 (fun z hz=>by subst hz;simp[Op.operands]) x hx
    simp only[dM]at h;split at h
    · rename_i h1 h2 h3 h4;cases h;exact fin _ _ _ _ h2 h3 h4
    · rename_i h1 h2 h3 h4;obtain⟨n,_,rfl⟩:=bf h;exact fin _ _ _ _ h2 h3 h4
    · cases h
  |fieldAddr s y f=>
   simp only[dM]at h;split at h
   · rename_i h1 h2
     split at h
     · cases h;intro x hx;simp only[MO.args,List.mem_singleton]at hx;subst hx;exact bH h2 (by simp[Op.operands])
     · cases h
   · cases h
  |field s y f=>
   simp only[dM]at h;split at h
   · rename_i h1 h2
     obtain⟨n,_,rfl⟩:=bf h;intro x hx;simp only[MO.args,List.mem_singleton]at hx;subst hx;exact bH h2 (by simp[Op.operands])
   · cases h
  |indexAddr t y i=>
   have fin:∀a b,bQ lv y=some a→bQ lv i=some b→∀x∈[a,b],jW lv (Op.indexAddr t y i).operands.toList x:=by
     intro a b ha hb x hx;simp only[List.mem_cons,List.not_mem_nil,or_false]at hx;rcases hx with rfl|rfl
     · exact bH ha (by simp[Op.operands])
     · exact bH hb (by simp[Op.operands])
   simp only[dM]at h;split at h
   · rename_i h1 h2 h3
     simp only[Option.bind_eq_some_iff]at h;obtain⟨n,_,h⟩:=h;split at h
     · cases h;exact fin _ _ h2 h3
     · cases h
   · rename_i h1 h2 h3
     obtain⟨n,_,rfl⟩:=bf h;exact fin _ _ h2 h3
   · cases h
  |index t y i=>
   simp only[dM]at h;split at h
   · rename_i h1 h2 h3
     cases h;intro x hx;simp only[MO.args,List.mem_cons,List.not_mem_nil,or_false]at hx;rcases hx with rfl|rfl
     · exact bH h2 (by simp[Op.operands])
     · exact bH h3 (by simp[Op.operands])
   · cases h
  |extract y n=>obtain⟨a,h1,rfl⟩:=bf h;intro x hx;simp only[MO.args,List.mem_singleton]at hx;subst hx;exact bH h1 (by simp[Op.operands])
  |call c=>exact G4 h
  |_ =>cases h
end Go.AM
