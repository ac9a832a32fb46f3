/- Texts PgA QaA QaB QaC QaD QaE QaF QaG QbA QbD QbE QbF QbG QbH QbI, merged. -/
import Derived.Test.YteilijfligofdaaGreatDoorAm40
import Derived.Test.YteilijfligofdaaGreatDoorChecked
import Derived.KernelRfl
import Derived.Shelf.LaysC
import Derived.Shelf.Strconv.AtoiAll
set_option linter.all false
namespace Go.Proofs.YteilijfligofdaaGreatDoor.Pg
open Go.AM
inductive af where
 |mk (kind:Int) (name:List UInt8) (pos:Int) (kids:List af)
inductive ae where
 |mk (kind:Int) (name:List UInt8) (num pos:Int) (kids:List ae)
mutual
inductive aa where
 |mk (kind:Int) (name:List UInt8) (num:Int) (text:List UInt8) (pos:Int) (kids:List aa) (aaD:List ar)
inductive ar where
 |mk (pat:ae) (exp:aa)
end
structure ai where
 name:List UInt8
 has:Bool
 arg:af
 pos:Int
structure ao where
 name:List UInt8
 vars:List (List UInt8)
 ctors:List ai
 pos:Int
structure aI where
 types:List ao
 body:aa
mutual
def af.cells:af->List PV
 | .mk k n p ks=>[.i .i64 k,.s n,.i .i64 p,.l (af.aJ ks)]
def af.aJ:List af->List (List PV)
 |[]=>[]
 |t::l=>t.cells::af.aJ l
end
mutual
def ae.cells:ae->List PV
 | .mk k n u p ks=>[.i .i64 k,.s n,.i .i64 u,.i .i64 p,.l (ae.aJ ks)]
def ae.aJ:List ae->List (List PV)
 |[]=>[]
 |t::l=>t.cells::ae.aJ l
end
mutual
def aa.cells:aa->List PV
 | .mk k n u t p ks bf=>[.i .i64 k,.s n,.i .i64 u,.s t,.i .i64 p,.l (aa.aJ ks),.l (aa.bL bf)]
def aa.aJ:List aa->List (List PV)
 |[]=>[]
 |t::l=>t.cells::aa.aJ l
def ar.cells:ar->List PV
 | .mk p e=>p.cells++e.cells
def aa.bL:List ar->List (List PV)
 |[]=>[]
 |t::l=>t.cells::aa.bL l
end
def ai.cells (c:ai):List PV:=[.s c.name,.b c.has]++c.arg.cells++[.i .i64 c.pos]
def eH (l:List (List UInt8)):List (List PV):=l.map fun s=>[.s s]
def ao.cells (d:ao):List PV:=[.s d.name,.l (eH d.vars),.l (d.ctors.map ai.cells),.i .i64 d.pos]
def aI.cells (p:aI):List PV:=.l (p.types.map ao.cells)::p.body.cells
mutual
def af.sz:af->Nat
 | .mk k n p ks=>n.length+af.eO ks
def af.eO:List af->Nat
 |[]=>0
 |t::l=>1+t.sz+af.eO l
end
mutual
def ae.sz:ae->Nat
 | .mk k n u p ks=>n.length+ae.eO ks
def ae.eO:List ae->Nat
 |[]=>0
 |t::l=>1+t.sz+ae.eO l
end
mutual
def aa.sz:aa->Nat
 | .mk k n u t p ks bf=>n.length+t.length+aa.eO ks+aa.nP bf
def aa.eO:List aa->Nat
 |[]=>0
 |t::l=>1+t.sz+aa.eO l
def ar.sz:ar->Nat
 | .mk p e=>p.sz+e.sz
def aa.nP:List ar->Nat
 |[]=>0
 |t::l=>1+t.sz+aa.nP l
end
def lX:List (List UInt8)->Nat
 |[]=>0
 |s::l=>1+s.length+lX l
def ai.sz (c:ai):Nat:=c.name.length+c.arg.sz
def fI:List ai->Nat
 |[]=>0
 |s::l=>1+s.sz+fI l
def ao.sz (d:ao):Nat:=d.name.length+lX d.vars+fI d.ctors
def fU:List ao->Nat
 |[]=>0
 |s::l=>1+s.sz+fU l
def aI.sz (p:aI):Nat:=fU p.types+p.body.sz
theorem af.bD (l:List af):af.aJ l=l.map af.cells:=by
 induction l with
 |nil=>rfl
 |cons t l ih=>rw[af.aJ,ih];rfl
theorem ae.bD (l:List ae):ae.aJ l=l.map ae.cells:=by
 induction l with
 |nil=>rfl
 |cons t l ih=>rw[ae.aJ,ih];rfl
theorem aa.bD (l:List aa):aa.aJ l=l.map aa.cells:=by
 induction l with
 |nil=>rfl
 |cons t l ih=>rw[aa.aJ,ih];rfl
theorem aa.cd (l:List ar):aa.bL l=l.map ar.cells:=by
 induction l with
 |nil=>rfl
 |cons t l ih=>rw[aa.bL,ih];rfl
def ll {α:Type} (f:α->Nat):List α->Nat
 |[]=>0
 |a::l=>1+f a+ll f l
theorem sh {α:Type} (f:α->Nat) (l:List α):l.length<=ll f l:=by
 induction l with
 |nil=>simp
 |cons a l ih=>simp[ll];omega
theorem gF {α:Type} (f:α→Nat) {l:List α} {a:α} (h:a∈l):f a<ll f l:=by
  induction l with
  |nil=>cases h
  |cons b l ih=>
   simp[ll];rcases List.mem_cons.1 h with rfl|h
   · omega
   · have :=ih h;omega
theorem af.lY (l):af.eO l=ll af.sz l:=by
 induction l with
 |nil=>rfl
 |cons t l ih=>rw[af.eO,ih];rfl
theorem ae.lY (l):ae.eO l=ll ae.sz l:=by
 induction l with
 |nil=>rfl
 |cons t l ih=>rw[ae.eO,ih];rfl
theorem aa.lY (l):aa.eO l=ll aa.sz l:=by
 induction l with
 |nil=>rfl
 |cons t l ih=>rw[aa.eO,ih];rfl
theorem aa.FQ (l):aa.nP l=ll ar.sz l:=by
 induction l with
 |nil=>rfl
 |cons t l ih=>rw[aa.nP,ih];rfl
theorem HF (l):fI l=ll ai.sz l:=by
 induction l with
 |nil=>rfl
 |cons t l ih=>rw[fI,ih];rfl
theorem HG (l):fU l=ll ao.sz l:=by
 induction l with
 |nil=>rfl
 |cons t l ih=>rw[fU,ih];rfl
structure Tok where
 k:Int
 t:List UInt8
 n:Int
 p:Int
def Tok.cells (x:Tok):List PV:=[.i .i64 x.k,.s x.t,.i .i64 x.n,.i .i64 x.p]
def gq (c:UInt8):Bool:=decide ((97:Int)<=(c.toNat:Int))&&decide ((c.toNat:Int)<=122)
def ig (c:UInt8):Bool:=decide ((65:Int)<=(c.toNat:Int))&&decide ((c.toNat:Int)<=90)
def ez (c:UInt8):Bool:=decide ((48:Int)<=(c.toNat:Int))&&decide ((c.toNat:Int)<=57)
def cx (c:UInt8):Bool:=gq c||ig c||ez c||decide ((c.toNat:Int)=95)
def ub (c:UInt8):Bool:=decide ((32:Int)<=(c.toNat:Int))&&decide ((c.toNat:Int)<=126)
def kG (c:UInt8):Bool:=!decide ((c.toNat:Int)=10)
def qd (q:UInt8->Bool):List UInt8->Nat
 |[]=>0
 |c::l=>if q c then qd q l+1 else 0
def bo (q:UInt8->Bool) (s:List UInt8) (i:Nat):Nat:=i+qd q (s.drop i)
theorem Rj (q) (l:List UInt8):qd q l<=l.length:=by
 induction l with
 |nil=>simp[qd]
 |cons c l ih=>rw[qd];split <;>simp <;>omega
theorem lB (q) {s:List UInt8} {i:Nat} (h:i<=s.length):bo q s i<=s.length:=by
 have:=Rj q (s.drop i);simp at this;unfold bo;omega
theorem o0 (q) (s:List UInt8) (i:Nat):i<=bo q s i:=by unfold bo;omega
theorem Cn {s:List UInt8} {i:Nat} (h:i<s.length):s.drop i=s[i]::s.drop (i+1):=List.drop_eq_getElem_cons h
theorem kW {q} {s:List UInt8} {i:Nat} (h:i<s.length) (hq:q s[i]=true):bo q s i=bo q s (i+1):=by
 unfold bo;rw[Cn h,qd,if_pos hq];omega
theorem uc {q} {s:List UInt8} {i:Nat} (h:i<s.length) (hq:q s[i]=false):bo q s i=i:=by
 unfold bo;rw[Cn h,qd,if_neg (by simp[hq])]
 rfl
theorem ud (q) {s:List UInt8} {i:Nat} (h:s.length<=i):bo q s i=i:=by
 unfold bo;rw[List.drop_of_length_le h];rfl
def keys:List (List UInt8):=[[116,121,112,101],[111,102],[108,101,116],[114,101,99],[105,110],[102,117,110],[105,102],[116,104,101,110],[101,108,115,101],[109,97,116,99,104],[119,105,116,104],[101,110,100],[116,114,117,101],[102,97,108,115,101],[114,101,102],[114,101,97,100],[112,114,105,110,116],[101,120,105,116],[115,105,122,101]]
def bA:List (List UInt8):=[[45,62],[58,61],[61],[60],[43],[45],[42],[94],[59],[124],[40],[41],[44],[95],[33]]
def isKey (s:List UInt8):Bool:=decide (s∈keys)
def preB (g l:List UInt8):Bool:=decide (l.take g.length=g)
def eP (l:List UInt8):List (List UInt8)->List UInt8
 |[]=>[]
 |g::gs=>if preB g l then g else eP l gs
def fv:List UInt8->Nat->Nat
 |[],n=>n
 |c::l,n=>fv l (n*10+(c.toNat-48))
def gQ:Nat:=9223372036854775807
def gi (s:List UInt8) (i:Nat) (out:List UInt8):Option (List UInt8×Nat):=
 if h:i<s.length then
  if(s[i].toNat:Int)=34 then some (out,i+1)
  else if(s[i].toNat:Int)=92 then
   if h2:i+1<s.length then
    if(s[i+1].toNat:Int)=110 then gi s (i+2) (out++[10])
    else if(s[i+1].toNat:Int)=34\/(s[i+1].toNat:Int)=92 then gi s (i+2) (out++[s[i+1]])
    else none
   else none
  else if ub s[i]then gi s (i+1) (out++[s[i]])else none
 else none
termination_by s.length-i
def jf (s:List UInt8) (i:Nat) (c:UInt8) (f:Nat):(Tok×Nat)⊕Int:=
 if 12<bo cx s f-f then .inr 2
 else .inl (⟨if(c.toNat:Int)=39 then 5 else if ig c then 4 else if isKey ((s.drop f).take (bo cx s f-f))then 6 else 3,(s.drop f).take (bo cx s f-f),0,i⟩,bo cx s f)
def fb (s:List UInt8) (i:Nat) (c:UInt8):(Tok×Nat)⊕Int:=jf s i c (if(c.toNat:Int)=39 then i+1 else i)
def rm (s:List UInt8) (i:Nat) (c:UInt8):(Tok×Nat)⊕Int:=
 let e:=bo ez s i;let v:=fv ((s.drop i).take (e-i)) 0
 if gQ<v\/(1<e-i/\(c.toNat:Int)=48)then .inr 3 else .inl (⟨1,[],v,i⟩,e)
def qe (s:List UInt8) (i:Nat):(Tok×Nat)⊕Int:=
 match gi s (i+1) []with
 |some (t,e)=>.inl (⟨2,t,0,i⟩,e)
 |none=>.inr 4
def ov (s:List UInt8) (i:Nat):(Tok×Nat)⊕Int:=
 let g:=eP (s.drop i) bA
 if g=[]then .inr 1 else .inl (⟨7,g,0,i⟩,i+g.length)
def tick (s:List UInt8) (i:Nat) (c:UInt8):Bool:=decide ((c.toNat:Int)=39)&&(decide (i+1<s.length)&&gq (s.getD (i+1) 0))
def iI (s:List UInt8) (i:Nat) (c:UInt8):(Tok×Nat)⊕Int:=
 if ez c then rm s i c
 else if gq c||ig c||tick s i c then fb s i c
 else if(c.toNat:Int)=34 then qe s i
 else ov s i
def blank (c:UInt8):Bool:=decide ((c.toNat:Int)=32)||decide ((c.toNat:Int)=9)||decide ((c.toNat:Int)=10)
def dE (s:List UInt8) (most i:Nat) (out:List Tok):List Tok⊕(Int×Nat):=
 if h:i<s.length then
  if blank s[i]then dE s most (i+1) out
  else if(s[i].toNat:Int)=35 then(if i<bo kG s i then dE s most (bo kG s i) out else .inl out)
  else match iI s i s[i]with
   | .inr c=>.inr (c,i)
   | .inl (t,e)=>if out.length=most then .inr (5,i)else if i<e then dE s most e (out++[t])else .inl out
 else .inl (out++[⟨8,[],0,s.length⟩])
termination_by s.length-i
theorem OI {s:List UInt8}:∀(n i:Nat) (out t:List UInt8) (e:Nat),s.length-i≤n→gi s i out=some (t,e)→i<e∧e≤s.length∧t.length+i+1≤out.length+e:=by
  intro n
  induction n with
  |zero=>intro i out t e hn h;rw[gi,dif_neg (by omega)]at h;cases h
  |succ n ih=>
   intro i out t e hn h;rw[gi]at h;split at h
   · split at h
     · cases h;omega
     split at h
     · split at h
       · split at h
         · have :=ih _ _ _ _ (by omega) h;simp at this;omega
         split at h
         · have :=ih _ _ _ _ (by omega) h;simp at this;omega
         · cases h
       · cases h
     split at h
     · have :=ih _ _ _ _ (by omega) h;simp at this;omega
     · cases h
   · cases h
theorem pt {s:List UInt8} {i:Nat} (h:i<s.length) (hc:(s[i].toNat:Int)=35):i<bo kG s i:=by
 rw[kW h (by simp[kG,hc])];have:=o0 kG s (i+1);omega
theorem rn (l):∀gs:List (List UInt8),(eP l gs).length≤l.length∧((eP l gs)=[]∨eP l gs∈gs)
  |[]=>by simp[eP]
  |g::gs=>by
   have ih:=rn l gs;rw[eP];split
   · rename_i h
     simp only[preB,decide_eq_true_eq]at h;have :=congrArg List.length h;rw[List.length_take]at this;exact⟨by omega, .inr (by simp)⟩
   · exact⟨ih.1,ih.2.imp id (by intro h;simp[h])⟩
theorem rp {s:List UInt8} {i:Nat} (h:i<s.length) {t:Tok} {e:Nat} (ht:iI s i s[i]=.inl (t,e)):i<e/\e<=s.length/\t.p=i/\1<=t.k/\t.k<=7/\t.t.length<=s.length/\0<=t.n/\t.n<=gQ:=by
 unfold iI at ht;split at ht
 ·rename_i hd
  simp only[rm]at ht;split at ht
  ·cases ht
  ·rename_i hv
   cases ht;have:=lB ez (s:=s) (i:=i+1) (by omega);have:=o0 ez s (i+1);rw[kW h hd];refine⟨by omega,by omega,rfl,by simp,by simp,by simp,by simp,?_⟩;rw[<-kW h hd];simp only[not_or]at hv;show(↑(fv _ _):Int)<=_;omega
 split at ht
 ·rename_i hd hw
  have cG:i<bo cx s (if(s[i].toNat:Int)=39 then i+1 else i)/\bo cx s (if(s[i].toNat:Int)=39 then i+1 else i)<=s.length:=by
   split
   ·have:=lB cx (s:=s) (i:=i+1) (by omega)
    have:=o0 cx s (i+1);omega
   ·rename_i lZ
    have hn:cx s[i]=true:=by
     simp only[Bool.or_eq_true]at hw;rcases hw with(hw|hw)|hw
     ·simp[cx,hw]
     ·simp[cx,hw]
     ·simp[tick,lZ]at hw
    rw[kW h hn];have:=lB cx (s:=s) (i:=i+1) (by omega);have:=o0 cx s (i+1);omega
  unfold fb at ht;generalize (if(s[i].toNat:Int)=39 then i+1 else i)=f at ht cG;unfold jf at ht;by_cases gz:12<bo cx s f-f
  ·rw[if_pos gz]at ht;cases ht
  ·rw[if_neg gz]at ht
   cases ht;refine⟨cG.1,cG.2,rfl,?_,?_,?_,by simp,by simp[gQ]⟩
   ·simp only[];(repeat' split)<;>decide
   ·simp only[];(repeat' split)<;>decide
   ·simp;omega
 split at ht
 ·simp only[qe]at ht
  split at ht
  ·rename_i hs
   cases ht;have:=OI _ _ _ _ _ (Nat.le_refl _) hs;simp at this;refine⟨by omega,by omega,rfl,by simp,by simp,by simp only[];omega,by simp,by simp[gQ]⟩
  ·cases ht
 ·simp only[ov]at ht
  have hl:=(rn (s.drop i) bA).1;split at ht
  ·cases ht
  ·rename_i cK
   cases ht;have:0<(eP (s.drop i) bA).length:=List.length_pos_iff.2 cK;simp at hl;refine⟨by omega,by omega,rfl,by simp,by simp,by simp only[];omega,by simp,by simp[gQ]⟩
theorem OJ {s:List UInt8} {i:Nat} {c:UInt8} {t:Tok} {e:Nat} (ht:iI s i c=.inl (t,e)):t.k=6->isKey t.t=true:=by
 unfold iI at ht;split at ht
 ·simp only[rm]at ht
  split at ht
  ·cases ht
  ·cases ht;intro h;simp at h
 split at ht
 ·unfold fb at ht
  generalize (if(c.toNat:Int)=39 then i+1 else i)=f at ht;unfold jf at ht;by_cases gz:12<bo cx s f-f
  ·rw[if_pos gz]at ht;cases ht
  ·rw[if_neg gz]at ht
   cases ht;intro h;simp only[]at h⊢;by_cases hk:isKey (List.take (bo cx s f-f) (List.drop f s))=true
   ·exact hk
   ·rw[if_neg hk]at h
    split at h
    ·simp at h
    ·split at h<;>simp at h
 split at ht
 ·simp only[qe]at ht
  split at ht
  ·cases ht;intro h;simp at h
  ·cases ht
 ·simp only[ov]at ht
  split at ht
  ·cases ht
  ·cases ht;intro h;simp at h
theorem ij {s:List UInt8} {most i:Nat} {out:List Tok} (h:i<s.length) (hb:blank s[i]=true):dE s most i out=dE s most (i+1) out:=by
 rw[dE,dif_pos h,if_pos hb]
theorem nQ {s:List UInt8} {most i:Nat} {out:List Tok} (h:i<s.length) (hb:blank s[i]=false) (hc:(s[i].toNat:Int)=35):dE s most i out=dE s most (bo kG s i) out:=by
 rw[dE,dif_pos h,if_neg (by simp[hb]),if_pos hc,if_pos (pt h hc)]
theorem pw {s:List UInt8} {most i:Nat} {out:List Tok} (h:i<s.length) (hb:blank s[i]=false) (hc:¬(s[i].toNat:Int)=35) {c:Int} (ht:iI s i s[i]=.inr c):dE s most i out=.inr (c,i):=by
 rw[dE,dif_pos h,if_neg (by simp[hb]),if_neg hc,ht]
theorem lC {s:List UInt8} {most i:Nat} {out:List Tok} (h:i<s.length) (hb:blank s[i]=false) (hc:¬(s[i].toNat:Int)=35) {t:Tok} {e:Nat} (ht:iI s i s[i]=.inl (t,e)) (hm:out.length=most):dE s most i out=.inr (5,i):=by
 rw[dE,dif_pos h,if_neg (by simp[hb]),if_neg hc,ht];simp only[if_pos hm]
theorem mV {s:List UInt8} {most i:Nat} {out:List Tok} (h:i<s.length) (hb:blank s[i]=false) (hc:¬(s[i].toNat:Int)=35) {t:Tok} {e:Nat} (ht:iI s i s[i]=.inl (t,e)) (hm:¬out.length=most):dE s most i out=dE s most e (out++[t]):=by
 rw[dE,dif_pos h,if_neg (by simp[hb]),if_neg hc,ht];simp only[if_neg hm,if_pos (rp h ht).1]
theorem jg {s:List UInt8} {most i:Nat} {out:List Tok} (h:¬i<s.length):dE s most i out=.inl (out++[⟨8,[],0,s.length⟩]):=by
 rw[dE,dif_neg h]
def kX (s:List UInt8):List Tok⊕(Int×Nat):=if 4000<s.length then .inr (5,0)else dE s 1200 0 []
structure bH (l:List Tok):Prop where
 pos:0<l.length
 fin:∀(i:Nat) x,l[i]?=some x->(x.k=8↔i+1=l.length)
 key:∀x∈l,x.k=6->isKey x.t=true
theorem zK {s:List UInt8} {most:Nat}:∀(n i:Nat) (out l:List Tok),s.length-i≤n→(∀x∈out,x.k≠8∧(x.k=6→isKey x.t=true))→dE s most i out= .inl l→bH l∧l.length≤out.length+(s.length-i)+1:=by
  have fin:∀(i:Nat) (out:List Tok),(∀x∈out,x.k≠8∧(x.k=6→isKey x.t=true))→bH (out++[⟨8,[],0,s.length⟩])∧(out++[(⟨8,[],0,s.length⟩:Tok)]).length≤out.length+(s.length-i)+1:=by
    intro i out ho;refine⟨⟨by simp,fun j x hx=> ?_,fun x hx hk=> ?_⟩,by simp⟩;rotate_left
    · rcases List.mem_append.1 hx with hx|hx
      · exact(ho x hx).2 hk
      · simp at hx;subst hx;simp at hk
    rcases Nat.lt_or_ge j out.length with hj|hj
    · rw[List.getElem?_append_left hj]at hx
      have :=(ho x (List.mem_of_getElem? hx)).1;simp only[this,false_iff,List.length_append,List.length_cons,List.length_nil];omega
    · rw[List.getElem?_append_right hj]at hx
      have :j-out.length=0:=by
        rcases Nat.eq_zero_or_pos (j-out.length)with h|h
        · exact h
        · rw[List.getElem?_eq_none (by simp;omega)]at hx;cases hx
      rw[this]at hx;cases hx;simp;omega
  intro n
  induction n with
  |zero=>
   intro i out l hn ho h;rw[jg (by omega)]at h;cases h
   exact fin i out ho
  |succ n ih=>
   intro i out l hn ho h;by_cases hi:i<s.length
   · cases hb:blank s[i]with
     |true =>
      rw[ij hi hb]at h;have :=ih _ _ _ (by omega) ho h
      exact⟨this.1,by omega⟩
     |false =>
      by_cases hc:(s[i].toNat:Int)=35
      · rw[nQ hi hb hc]at h
        have hg:=pt hi hc;have :=ih _ _ _ (by omega) ho h;exact⟨this.1,by omega⟩
      · rcases ht:iI s i s[i]with⟨t,e⟩|c
        · by_cases hm:out.length=most
          · rw[lC hi hb hc ht hm]at h;cases h
          · rw[mV hi hb hc ht hm]at h
            have hg:=rp hi ht
            have :=ih _ _ _ (by omega) (by
              intro x hx;rcases List.mem_append.1 hx with hx|hx
              · exact ho x hx
              · simp at hx;subst hx;exact⟨by omega,OJ ht⟩) h
            simp at this;exact⟨this.1,by omega⟩
        · rw[pw hi hb hc ht]at h;cases h
   · rw[jg hi]at h
     cases h;exact fin i out ho
theorem nS {s:List UInt8} {l:List Tok} (h:kX s=.inl l):bH l/\l.length<=4001:=by
 unfold kX at h;split at h
 ·cases h
 ·have:=zK _ _ _ _ (Nat.le_refl _) (by simp) h
  simp at this;exact⟨this.1,by omega⟩
structure PS where
 i:Nat
 nest:Nat
 d:Nat
 c:Int
 ps:Int
abbrev PM (α:Type):=PS->α×PS
def af9:Tok:=⟨8,[],0,0⟩
def aD (T:List Tok) (s:PS):Tok:=T.getD s.i af9
def aE (s:PS):PS:={s with i:=s.i+1}
def dI (T:List Tok) (c:Int) (s:PS):PS:=if s.c=0 then{s with c:=c,ps:=(aD T s).p}else s
def aH (T:List Tok) (x:List UInt8) (s:PS):Bool:=decide (s.c=0)&&(decide ((aD T s).k=6)||decide ((aD T s).k=7))&&decide ((aD T s).t=x)
def bp (T:List Tok) (k:Int) (s:PS):Bool:=decide (s.c=0)&&decide ((aD T s).k=k)
def aS (T:List Tok) (x:List UInt8) (s:PS):PS:=if aH T x s then aE s else dI T 11 s
def cU (T:List Tok) (k:Int) (s:PS):List UInt8×PS:=if bp T k s then((aD T s).t,aE s)else([],dI T 11 s)
def cM (T:List Tok) (most d:Nat) (s:PS):PS:=
 let s1:=if most<d then dI T 12 s else s
 if s1.c=0 then{s1 with d:=max s1.d d}else s1
def many {α:Type} (g:PS->Bool) (m:PM α):Nat->PM (List α)
 |0,s=>([],s)
 |n+1,s=>if g s then((m s).1::(many g m n (m s).2).1,(many g m n (m s).2).2)else([],s)
def carry {α:Type} (g:PS->Bool) (m:α->PM α):Nat->α->PM α
 |0,a,s=>(a,s)
 |n+1,a,s=>if g s then carry g m n (m a s).1 (m a s).2 else(a,s)
def zL (T:List Tok) (s t:PS):Prop:=s.i<=t.i/\t.i<T.length/\(s.c≠0->t=s)/\t.nest=s.nest
def gR (T:List Tok) (f:PS->PS):Prop:=∀s,s.i<T.length->zL T s (f s)
theorem zL.rfl {T:List Tok} {s:PS} (h:s.i<T.length):zL T s s:=⟨Nat.le_refl _,h,fun _=>Eq.refl _,Eq.refl _⟩
theorem zL.trans {T:List Tok} {s t u:PS} (h:zL T s t) (k:zL T t u):zL T s u:=by
 obtain⟨h1,h2,h3,h4⟩:=h;obtain⟨k1,k2,k3,k4⟩:=k;exact⟨Nat.le_trans h1 k1,k2,fun hc=>by have:=h3 hc;subst this;exact k3 hc,k4.trans h4⟩
theorem yf {T:List Tok}:gR T (fun s=>s):=fun s h=>zL.rfl h
theorem si {T:List Tok} (hT:bH T) {s:PS} (h:s.i<T.length) (hk:(aD T s).k≠8):s.i+1<T.length:=by
 have e:T[s.i]?=some (aD T s):=by simp[aD,h]
 have:=hT.fin _ _ e;omega
theorem cB {T:List Tok} {x:List UInt8} {s:PS} (h:aH T x s=true):s.c=0/\(aD T s).k≠8:=by
 simp[aH]at h;exact⟨h.1.1,by omega⟩
theorem qR {T:List Tok} {k:Int} {s:PS} (h:bp T k s=true):s.c=0/\(aD T s).k=k:=by simpa[bp]using h
theorem pz {T:List Tok} {x:List UInt8} {s:PS} (h:s.c≠0):aH T x s=false:=by simp[aH,h]
theorem wX {T:List Tok} {k:Int} {s:PS} (h:s.c≠0):bp T k s=false:=by simp[bp,h]
theorem rq {T:List Tok} {c:Int} {s:PS} (h:s.c≠0):dI T c s=s:=by simp[dI,h]
theorem iJ {T:List Tok} {c:Int} {s:PS} (h:s.c=0):dI T c s={s with c:=c,ps:=(aD T s).p}:=by simp[dI,h]
theorem mW (T:List Tok) (c:Int):gR T (dI T c):=fun s h=>by
 unfold dI;split
 ·rename_i hc;exact⟨Nat.le_refl _,h,fun h=>(h hc).elim,rfl⟩
 ·exact⟨Nat.le_refl _,h,fun _=>rfl,rfl⟩
theorem aG {T:List Tok} (hT:bH T) (x):gR T (aS T x):=fun s h=>by
 unfold aS;split
 ·rename_i hb
  obtain⟨h1,h2⟩:=cB hb;exact⟨by simp[aE],by simpa[aE]using si hT h h2,fun h=>(h h1).elim,rfl⟩
 ·exact mW T 11 s h
theorem JV {T:List Tok} (hT:bH T) {k:Int} (hk:k≠8):gR T (fun s=>(cU T k s).2):=fun s h=>by
 show zL T s (cU T k s).2;unfold cU;by_cases hb:bp T k s=true
 ·obtain⟨h1,h2⟩:=qR hb
  rw[if_pos hb];exact⟨by simp[aE],by simpa[aE]using si hT h (by omega),fun h=>(h h1).elim,rfl⟩
 ·rw[if_neg hb];exact mW T 11 s h
theorem JW {T:List Tok} {most d} {s:PS} (h:s.c≠0):cM T most d s=s:=by
 unfold cM;split <;>simp[rq h,h]
theorem yg (T:List Tok) (most d:Nat):gR T (cM T most d):=fun s h=>by
 by_cases hc:s.c=0
 ·refine⟨?_,?_,fun h=>(h hc).elim,?_⟩<;>(unfold cM;simp only[];(repeat' split)<;>simp[dI,hc,h])
 ·rw[JW hc];exact⟨Nat.le_refl _,h,fun _=>rfl,rfl⟩
theorem kC {α:Type} {g:PS->Bool} {m:PM α} {s:PS} (h:g s=false):∀n,many g m n s=([],s)
 |0=>rfl
 |n+1=>by rw[many,h];simp
theorem ru {α:Type} {g:PS->Bool} {m:α->PM α} {a:α} {s:PS} (h:g s=false):∀n,carry g m n a s=(a,s)
 |0=>rfl
 |n+1=>by rw[carry,h];simp
def eI (T:List Tok) (g:PS->Bool):Prop:=∀s,g s=true->s.c=0/\(aD T s).k≠8
theorem wY {T:List Tok} {α:Type} {g:PS→Bool} {m:PM α} (hg:eI T g) (hm:∀s,s.i<T.length→g s=true →s.i≤(m s).2.i∧(m s).2.i<T.length∧(m s).2.nest=s.nest):∀n,gR T (fun s=>(many g m n s).2)
  |0=>yf
  |n+1=>fun s h=>by
   cases hb:g s with
   |false =>simp only[kC hb];exact yf s h
   |true =>
    obtain⟨h1,h2,h3⟩:=hm s h hb;obtain⟨k1,k2,k3,k4⟩:=wY hg hm n _ h2;simp only[many,hb,if_true];exact⟨Nat.le_trans h1 k1,k2,fun hc=>(hc (hg s hb).1).elim,k4.trans h3⟩
theorem ue {T:List Tok} {α:Type} {g:PS→Bool} {m:α→PM α} (hg:eI T g) (hm:∀a s,s.i<T.length→g s=true →s.i≤(m a s).2.i∧(m a s).2.i<T.length∧(m a s).2.nest=s.nest):∀n a,gR T (fun s=>(carry g m n a s).2)
  |0,a=>yf
  |n+1,a=>fun s h=>by
   cases hb:g s with
   |false =>simp only[ru hb];exact yf s h
   |true =>
    obtain⟨h1,h2,h3⟩:=hm a s h hb;obtain⟨k1,k2,k3,k4⟩:=ue hg hm n (m a s).1 _ h2;simp only[carry,hb,if_true];exact⟨Nat.le_trans h1 k1,k2,fun hc=>(hc (hg s hb).1).elim,k4.trans h3⟩
theorem aw (T x):eI T (aH T x):=fun s h=>cB h
theorem cr (T) {k:Int} (hk:k≠8):eI T (bp T k):=fun s h=>⟨(qR h).1,by rw[(qR h).2];exact hk⟩
theorem eI.or {T:List Tok} {g h:PS->Bool} (hg:eI T g) (hh:eI T h):eI T (fun s=>g s||h s):=fun s hs=>by
 rcases Bool.or_eq_true _ _ ▸hs with h1|h1
 ·exact hg s h1
 ·exact hh s h1
theorem gR.aE {T:List Tok} (hT:bH T) {f:PS->PS} (hf:gR T f) {s:PS} (h:s.i<T.length) (hk:(aD T s).k≠8):s.i<(f (aE s)).i/\(f (aE s)).i<T.length/\(f (aE s)).nest=s.nest:=by
 obtain⟨h1,h2,_,h4⟩:=hf (Pg.aE s) (by simpa[Pg.aE]using si hT h hk);exact⟨h1,h2,h4⟩
def az {α β:Type} (m:PM α) (k:α->PM β):PM β:=fun s=>k (m s).1 (m s).2
def aO {α:Type} (a:α):PM α:=fun s=>(a,s)
def cg {α:Type} (f:PS->PS) (m:PM α):PM α:=fun s=>m (f s)
def dZ {α:Type} (T:List Tok) (k:Tok->PM α):PM α:=fun s=>k (aD T s) s
def bg {α:Type} (g:PS->Bool) (m1 m2:PM α):PM α:=fun s=>if g s then m1 (aE s)else m2 s
def dU {α:Type} (g:PS->Bool) (m1 m2:PM α):PM α:=fun s=>if g s then m1 s else m2 s
def bM {α:Type} (m:PM α):PM α:=fun s=>m (aE s)
def jJ {α:Type} (T:List Tok) (most d:Nat) (z:α) (m:PM α):PM α:=fun s=>if(cM T most d s).c=0 then m (cM T most d s)else(z,cM T most d s)
def cz (T:List Tok) (lim:Nat) (s:PS):PS:=
 let s1:=if s.c=0/\s.nest=lim then dI T 12 s else s
 let s2:={s1 with nest:=s1.nest+1}
 if s2.c=0/\s2.d<s2.nest then{s2 with d:=s2.nest}else s2
def shut (s:PS):PS:={s with nest:=s.nest-1}
def qf {α:Type} (T:List Tok) (lim:Nat) (z:α) (m:PM α):PM α:=fun s=>
 if(cz T lim s).c=0 then((m (cz T lim s)).1,shut (m (cz T lim s)).2)else(z,shut (cz T lim s))
def ab (T:List Tok) {α:Type} (m:PM α):Prop:=∀s,s.i<T.length->zL T s (m s).2
theorem ab.bind {T:List Tok} {α β:Type} {m:PM α} {k:α->PM β} (hm:ab T m) (hk:∀a,ab T (k a)):ab T (az m k):=fun s h=>
 (hm s h).trans (hk (m s).1 _ (hm s h).2.1)
theorem ab.ret {T:List Tok} {α:Type} (a:α):ab T (aO a):=fun s h=>zL.rfl h
theorem ab.step {T:List Tok} {α:Type} {f:PS->PS} {m:PM α} (hf:gR T f) (hm:ab T m):ab T (cg f m):=fun s h=>(hf s h).trans (hm _ (hf s h).2.1)
theorem ab.now {T:List Tok} {α:Type} {k:Tok->PM α} (hk:∀t,ab T (k t)):ab T (dZ T k):=fun s h=>hk (aD T s) s h
theorem ab.bg {T:List Tok} (hT:bH T) {α:Type} {g:PS→Bool} {m1 m2:PM α} (hg:eI T g) (h1:ab T m1) (h2:ab T m2):ab T (bg g m1 m2):=fun s h=>by
  cases hb:g s with
  |false =>simp only[Pg.bg,hb];exact h2 s h
  |true =>
   obtain⟨hc,hk⟩:=hg s hb;obtain⟨a1,a2,a3⟩:=gR.aE hT h1 h hk;simp only[Pg.bg,hb,if_true];exact⟨Nat.le_of_lt a1,a2,fun lT=>(lT hc).elim,a3⟩
theorem ab.dU {T:List Tok} {α:Type} {g:PS->Bool} {m1 m2:PM α} (h1:ab T m1) (h2:ab T m2):ab T (dU g m1 m2):=fun s h=>by
 cases hb:g s with
 |false=>simp only[Pg.dU,hb];exact h2 s h
 |true=>simp only[Pg.dU,hb,if_true];exact h1 s h
theorem ab.many {T:List Tok} {α:Type} {g:PS->Bool} {m:PM α} (hg:eI T g) (hm:ab T m) (n:Nat):ab T (many g m n):=
 wY hg (fun s h _=>⟨(hm s h).1,(hm s h).2.1,(hm s h).2.2.2⟩) n
theorem ab.gj {T:List Tok} (hT:bH T) {α:Type} {g:PS->Bool} {m:PM α} (hg:eI T g) (hm:ab T m) (n:Nat):ab T (Pg.many g (bM m) n):=
 wY hg (fun s h hb=>by
  have:=gR.aE hT hm h (hg s hb).2;exact⟨Nat.le_of_lt this.1,this.2.1,this.2.2⟩) n
theorem ab.carry {T:List Tok} {α:Type} {g:PS->Bool} {m:α->PM α} (hg:eI T g) (hm:∀a,ab T (m a)) (n:Nat) (a:α):ab T (carry g m n a):=
 ue hg (fun a s h _=>⟨(hm a s h).1,(hm a s h).2.1,(hm a s h).2.2.2⟩) n a
theorem ab.Bl {T:List Tok} (hT:bH T) {α:Type} {g:PS->Bool} {m:Tok->α->PM α} (hg:eI T g) (hm:∀t a,ab T (m t a)) (n:Nat) (a:α):ab T (Pg.carry g (fun a=>dZ T fun t=>bM (m t a)) n a):=
 ue hg (fun a s h hb=>by
  have:=gR.aE hT (hm (aD T s) a) h (hg s hb).2;exact⟨Nat.le_of_lt this.1,this.2.1,this.2.2⟩) n a
theorem ab.deep {T:List Tok} {α:Type} {most d:Nat} {z:α} {m:PM α} (hm:ab T m):ab T (jJ T most d z m):=fun s h=>by
 obtain⟨h1,h2,h3,h4⟩:=yg T most d s h;by_cases hc:(cM T most d s).c=0
 ·obtain⟨k1,k2,k3,k4⟩:=hm _ h2
  simp only[jJ,if_pos hc];exact⟨Nat.le_trans h1 k1,k2,fun lT=>by rw[h3 lT]at hc;exact(lT hc).elim,k4.trans h4⟩
 ·simp only[jJ,if_neg hc]
  exact⟨h1,h2,h3,h4⟩
theorem yh {T:List Tok} {lim:Nat} {s:PS} (h:s.c≠0):cz T lim s={s with nest:=s.nest+1}:=by simp[cz,h]
theorem ab.Xu {T:List Tok} {α:Type} {lim:Nat} {z:α} {m:PM α} (hm:ab T m):ab T (qf T lim z m):=fun s h=>by
 have h0:(cz T lim s).i=s.i/\(cz T lim s).nest=s.nest+1:=by
  unfold cz;simp only[];by_cases h1:s.c=0/\s.nest=lim
  ·simp only[if_pos h1,iJ h1.1]
   split <;>exact⟨rfl,rfl⟩
  ·simp only[if_neg h1]
   split <;>exact⟨rfl,rfl⟩
 by_cases hc:(cz T lim s).c=0
 ·obtain⟨k1,k2,k3,k4⟩:=hm (cz T lim s) (by rw[h0.1];exact h)
  simp only[qf,if_pos hc];refine⟨by rw[<-h0.1];exact k1,k2,fun lT=>by rw[yh lT]at hc;exact(lT hc).elim,?_⟩;show(m (cz T lim s)).2.nest-1=s.nest;rw[k4,h0.2];rfl
 ·simp only[qf,if_neg hc]
  refine⟨by rw[<-h0.1];exact Nat.le_refl _,by show(cz T lim s).i<_;rw[h0.1];exact h,fun lT=>?_,?_⟩
  ·rw[yh lT];rfl
  ·show(cz T lim s).nest-1=s.nest
   rw[h0.2];rfl
def af.pos:af->Int| .mk _ _ p _=>p
def af.put:af->List af->af| .mk k n p ks,l=>.mk k n p (ks++l)
def aa.pos:aa->Int| .mk _ _ _ _ p _ _=>p
def aa.Xv:aa->List aa->aa| .mk k n u t p _ bf,l=>.mk k n u t p l bf
def ae.Xv:ae->List ae->ae| .mk k n u p _,l=>.mk k n u p l
def vS:af:=.mk 0 [] 0 []
def Co:ae:=.mk 0 [] 0 0 []
def AN:aa:=.mk 0 [] 0 [] 0 [] []
def leaf (k:Int) (n:List UInt8) (u:Int) (t:List UInt8) (p:Int):aa:=.mk k n u t p [] []
section
variable (T:List Tok) (N:Nat)
def dR (ty:PM af):PM af:=dZ T fun t=>
 bg (bp T 5) (aO (.mk 2 t.t t.p []))<|
 bg (bp T 3) (aO (.mk 1 t.t t.p []))<|
 cg (aS T [40])<|az ty fun o=>cg (aS T [41]) (aO o)
def iT (s:PS):Bool:=bp T 5 s||bp T 3 s||aH T [40] s
def eU (ty:PM af):PM af:=dZ T fun t=>
 bg (aH T [114,101,102]) (az (dR T ty) fun x=>aO (.mk 5 [] t.p [x]))<|
 bg (bp T 3) (az (many (iT T) (dR T ty) N) fun l=>aO (.mk 1 t.t t.p l)) (dR T ty)
def fk (a:af) (l:List af):af:=if l=[]then a else .mk 4 [] a.pos (a::l)
def EI (most:Nat) (ty:PM af) (d:Nat):PM af:=jJ T most d vS<|
 az (eU T N ty) fun a=>az (many (aH T [42]) (bM (eU T N ty)) N) fun l=>
 bg (aH T [45,62]) (az ty fun b=>aO (.mk 3 [] (fk a l).pos [fk a l,b])) (aO (fk a l))
def l9 (most:Nat):Nat->Nat->PM af
 |0,_=>aO vS
 |k+1,d=>EI T N most (l9 most k (d+1)) d
def iu (ty:PM af):PM af:=dZ T fun t=>
 bg (aH T [114,101,102]) (az (dR T ty) fun x=>aO (.mk 5 [] t.p [x]))<|
 az (dR T ty) fun o=>if t.k=3 then az (many (iT T) (dR T ty) N) fun l=>aO (o.put l)else aO o
def wq (ty:PM af):PM af:=az (iu T N ty) fun a=>
 dU (aH T [42]) (az (many (aH T [42]) (bM (iu T N ty)) N) fun l=>aO (.mk 4 [] a.pos (a::l))) (aO a)
def HI (lim:Nat) (ty:PM af):PM af:=qf T lim vS<|
 az (wq T N ty) fun a=>bg (aH T [45,62]) (az ty fun b=>aO (.mk 3 [] a.pos [a,b])) (aO a)
def OK (lim:Nat):Nat->PM af
 |0=>aO vS
 |k+1=>HI T N lim (OK lim k)
def dV (s:PS):Bool:=bp T 3 s||bp T 1 s||bp T 4 s||aH T [95] s||aH T [116,114,117,101] s||aH T [102,97,108,115,101] s||aH T [40] s
def oQ (pat:PM ae):PM ae:=dZ T fun t=>cg (aS T [40])<|
 bg (aH T [41]) (aO (.mk 5 [] 0 t.p []))<|
 dU (fun s=>!decide (s.c=0)) (aO (.mk 5 [] 0 t.p []))<|
 az pat fun a=>az (many (aH T [44]) (bM pat) N) fun l=>cg (aS T [41])<|
 aO (if l=[]then a else .mk 6 [] 0 t.p (a::l))
def fx (pat:PM ae):PM ae:=dZ T fun t=>
 bg (aH T [95]) (aO (.mk 1 [] 0 t.p []))<|
 bg (bp T 3) (aO (.mk 2 t.t 0 t.p []))<|
 bg (bp T 1) (aO (.mk 3 [] t.n t.p []))<|
 bg (aH T [116,114,117,101]) (aO (.mk 4 [] 1 t.p []))<|
 bg (aH T [102,97,108,115,101]) (aO (.mk 4 [] 0 t.p []))<|
 bg (bp T 4) (aO (.mk 7 t.t 0 t.p [])) (oQ T N pat)
def zM (most:Nat) (pat:PM ae) (d:Nat):PM ae:=jJ T most d Co<|dZ T fun t=>
 bg (bp T 4) (dU (dV T) (az (fx T N pat) fun a=>aO (.mk 7 t.t 0 t.p [a])) (aO (.mk 7 t.t 0 t.p []))) (fx T N pat)
def pA (most:Nat):Nat->Nat->PM ae
 |0,_=>aO Co
 |k+1,d=>zM T N most (pA most k (d+1)) d
def ed (t:Tok) (pat:PM ae):PM ae:=
 if t.k=3 then aO (.mk 2 t.t 0 t.p [])else if t.k=4 then aO (.mk 7 t.t 0 t.p [])else if t.k=1 then aO (.mk 3 [] t.n t.p [])else
 if t.t=[95]then aO (.mk 1 [] 0 t.p [])else if t.t=[116,114,117,101]then aO (.mk 4 [] 1 t.p [])else if t.t=[102,97,108,115,101]then aO (.mk 4 [] 0 t.p [])else
 bg (aH T [41]) (aO (.mk 5 [] 0 t.p []))<|
 az pat fun a=>az (many (aH T [44]) (bM pat) N) fun l=>cg (aS T [41])<|
 aO (if l=[]then a else .mk 6 [] 0 t.p (a::l))
def kO (pat:PM ae):PM ae:=dZ T fun t=>bg (dV T) (ed T N t pat) (cg (dI T 11) (aO Co))
def Cp (lim:Nat) (pat:PM ae):PM ae:=qf T lim Co<|dZ T fun t=>az (kO T N pat) fun x=>
 if t.k=4 then dU (dV T) (az (kO T N pat) fun a=>aO (x.Xv [a])) (aO x)else aO x
def AP (lim:Nat):Nat->PM ae
 |0=>aO Co
 |k+1=>Cp T N lim (AP lim k)
def dW (s:PS):Bool:=bp T 1 s||bp T 2 s||bp T 3 s||bp T 4 s||aH T [116,114,117,101] s||aH T [102,97,108,115,101] s||aH T [114,101,97,100] s||aH T [40] s
def DP (ex:PM aa):PM aa:=dZ T fun t=>cg (aS T [40])<|
 bg (aH T [41]) (aO (leaf 4 [] 0 [] t.p))<|
 dU (fun s=>!decide (s.c=0)) (aO (leaf 4 [] 0 [] t.p))<|
 az ex fun a=>az (many (aH T [44]) (bM ex) N) fun l=>cg (aS T [41])<|
 aO (if l=[]then a else .mk 7 [] 0 [] t.p (a::l) [])
def fy (ex:PM aa):PM aa:=dZ T fun t=>
 bg (bp T 1) (aO (leaf 1 [] t.n [] t.p))<|
 bg (bp T 2) (aO (leaf 2 [] 0 t.t t.p))<|
 bg (aH T [116,114,117,101]) (aO (leaf 3 [] 1 [] t.p))<|
 bg (aH T [102,97,108,115,101]) (aO (leaf 3 [] 0 [] t.p))<|
 bg (bp T 3) (aO (leaf 5 t.t 0 [] t.p))<|
 bg (bp T 4) (aO (leaf 6 t.t 0 [] t.p))<|
 bg (aH T [114,101,97,100]) (aO (leaf 15 t.t 0 [] t.p)) (DP T N ex)
def iv (s:PS):Bool:=aH T [112,114,105,110,116] s||aH T [101,120,105,116] s||aH T [115,105,122,101] s||aH T [114,101,102] s||aH T [33] s
def node1 (k:Int) (n:List UInt8) (p:Int) (a:aa):aa:=.mk k n 0 [] p [a] []
def node2 (k:Int) (n:List UInt8) (p:Int) (a b:aa):aa:=.mk k n 0 [] p [a,b] []
def sZ (ex:PM aa):PM aa:=dZ T fun t=>
 bg (iv T) (az (fy T N ex) fun a=>aO (node1 15 t.t t.p a))<|
 bg (bp T 4) (dU (dW T) (az (fy T N ex) fun a=>aO (node1 6 t.t t.p a)) (aO (leaf 6 t.t 0 [] t.p))) (fy T N ex)
def yi (atom:PM aa) (a:aa):PM aa:=carry (dW T) (fun a=>az atom fun b=>aO (node2 9 [] a.pos a b)) N a
def iw (L:List (List UInt8)) (s:PS):Bool:=bp T 7 s&&decide ((aD T s).t∈L)
def lD (L:List (List UInt8)) (side:PM aa) (a:aa):PM aa:=carry (iw T L) (fun a=>dZ T fun t=>bM (az side fun b=>aO (node2 14 t.t t.p a b))) N a
def uf (ex:PM aa):PM aa:=az (sZ T N ex) (yi T N (fy T N ex))
def ug (ex:PM aa):PM aa:=az (uf T N ex) (lD T N [[42]] (uf T N ex))
def wZ (ex:PM aa):PM aa:=az (ug T N ex) (lD T N [[43],[45],[94]] (ug T N ex))
def fc (g:PS->Bool) (side:PM aa) (a:aa):PM aa:=dZ T fun t=>bg g (az side fun b=>aO (node2 14 t.t t.p a b)) (aO a)
def vx (ex:PM aa):PM aa:=az (wZ T N ex) (fc T (fun s=>aH T [61] s||aH T [60] s) (wZ T N ex))
def sk (ex:PM aa):PM aa:=az (vx T N ex) (fc T (aH T [58,61]) (vx T N ex))
def uh (ex:PM aa) (p:Int):PM aa:=
 bg (aH T [114,101,99])
  (az (cU T 3) fun n=>az (cU T 3) fun f=>cg (aS T [61])<|az ex fun a=>cg (aS T [105,110])<|az ex fun b=>aO (.mk 11 n 0 f p [a,b] []))
  (az (cU T 3) fun n=>cg (aS T [61])<|az ex fun a=>cg (aS T [105,110])<|az ex fun b=>aO (.mk 10 n 0 [] p [a,b] []))
def wu (ex:PM aa) (p:Int):PM aa:=az (cU T 3) fun n=>cg (aS T [45,62])<|az ex fun a=>aO (node1 8 n p a)
def DQ (ex:PM aa) (p:Int):PM aa:=az ex fun a=>cg (aS T [116,104,101,110])<|az ex fun b=>cg (aS T [101,108,115,101])<|az ex fun c=>aO (.mk 12 [] 0 [] p [a,b,c] [])
def iA (pat:PM ae) (ex:PM aa):PM ar:=az pat fun a=>cg (aS T [45,62])<|az ex fun e=>aO (.mk a e)
def ow (arm:PM ar):PM (List ar):=az arm fun a=>az (many (aH T [124]) (bM arm) N) fun l=>aO (a::l)
def yj (pat:PM ae) (ex:PM aa) (p:Int):PM aa:=az ex fun a=>cg (aS T [119,105,116,104])<|cg (aS T [124])<|
 az (dU (fun s=>decide (s.c=0)) (ow T N (iA T pat ex)) (aO [])) fun l=>cg (aS T [101,110,100])<|aO (.mk 13 [] 0 [] p [a] l)
def zN (most:Nat) (pat:PM ae) (ex:PM aa) (d:Nat):PM aa:=jJ T most d AN<|dZ T fun t=>
 bg (aH T [108,101,116]) (uh T ex t.p)<|bg (aH T [102,117,110]) (wu T ex t.p)<|bg (aH T [105,102]) (DQ T ex t.p)<|
 bg (aH T [109,97,116,99,104]) (yj T N pat ex t.p) (sk T N ex)
def fm (most:Nat):Nat->Nat->PM aa
 |0,_=>aO AN
 |k+1,d=>zN T N most (pA T N most k (d+1)) (fm most k (d+1)) d
def fe (t:Tok) (ex:PM aa):PM aa:=
 if t.k=1 then aO (leaf 1 [] t.n [] t.p)else if t.k=2 then aO (leaf 2 [] 0 t.t t.p)else if t.k=3 then aO (leaf 5 t.t 0 [] t.p)else
 if t.k=4 then aO (leaf 6 t.t 0 [] t.p)else if t.t=[114,101,97,100]then aO (leaf 15 t.t 0 [] t.p)else
 if t.t=[116,114,117,101]then aO (leaf 3 [] 1 [] t.p)else if t.t=[102,97,108,115,101]then aO (leaf 3 [] 0 [] t.p)else
 bg (aH T [41]) (aO (leaf 4 [] 0 [] t.p))<|
 az ex fun a=>az (many (aH T [44]) (bM ex) N) fun l=>cg (aS T [41])<|
 aO (if l=[]then a else .mk 7 [] 0 [] t.p (a::l) [])
def dx (ex:PM aa):PM aa:=dZ T fun t=>bg (dW T) (fe T N t ex) (cg (dI T 11) (aO AN))
def wv (ex:PM aa):PM aa:=dZ T fun t=>
 bg (iv T) (az (dx T N ex) fun a=>aO (node1 15 t.t t.p a))<|
 az (dx T N ex) fun e=>if t.k=4 then dU (dW T) (az (dx T N ex) fun a=>aO (e.Xv [a])) (aO e)else aO e
def jY (ex:PM aa):PM aa:=az (wv T N ex) (yi T N (dx T N ex))
def lp (ex:PM aa):PM aa:=az (jY T N ex) (lD T N [[42]] (jY T N ex))
def pB (ex:PM aa):PM aa:=az (lp T N ex) (lD T N [[43],[45],[94]] (lp T N ex))
def pC (ex:PM aa):PM aa:=az (pB T N ex) (fc T (iw T [[61],[60]]) (pB T N ex))
def ui (ex:PM aa):PM aa:=az (pC T N ex) (fc T (iw T [[58,61]]) (pC T N ex))
def yk (pat:PM ae) (ex:PM aa) (p:Int):PM aa:=az ex fun a=>cg (aS T [119,105,116,104])<|cg (aS T [124])<|
 az (ow T N (iA T pat ex)) fun l=>cg (aS T [101,110,100])<|aO (.mk 13 [] 0 [] p [a] l)
def Cr (lim:Nat) (pat:PM ae) (ex:PM aa):PM aa:=qf T lim AN<|dZ T fun t=>
 bg (aH T [108,101,116]) (uh T ex t.p)<|bg (aH T [102,117,110]) (wu T ex t.p)<|bg (aH T [105,102]) (DQ T ex t.p)<|
 bg (aH T [109,97,116,99,104]) (yk T N pat ex t.p) (ui T N ex)
def EJ (lim:Nat):Nat->PM aa
 |0=>aO AN
 |k+1=>Cr T N lim (AP T N lim k) (EJ lim k)
def fL (ty:PM af):PM ai:=dZ T fun t=>az (cU T 4) fun n=>bg (aH T [111,102]) (az ty fun a=>aO ⟨n,true,a,t.p⟩) (aO ⟨n,false,vS,t.p⟩)
def iK (ty:PM af):PM ao:=dZ T fun t=>cg (aS T [116,121,112,101])<|az (many (bp T 5) (cU T 5) N) fun vs=>az (cU T 3) fun n=>cg (aS T [61])<|
 az (fL T ty) fun c=>az (many (aH T [124]) (bM (fL T ty)) N) fun cs=>cg (aS T [59])<|aO ⟨n,vs,c::cs,t.p⟩
def iU (s:PS):PS:=if bp T 8 s then s else dI T 11 s
def jh (ty:PM af) (ex:PM aa):PM aI:=az (many (aH T [116,121,112,101]) (iK T N ty) N) fun ds=>az ex fun e=>cg (iU T)<|aO ⟨ds,e⟩
end
section
variable {T:List Tok} {N:Nat}
theorem only_tySt:eI T (iT T):=((cr T (by decide)).or (cr T (by decide))).or (aw T _)
theorem uj:eI T (dV T):=((((((cr T (by decide)).or (cr T (by decide))).or (cr T (by decide))).or (aw T _)).or (aw T _)).or (aw T _)).or (aw T _)
theorem only_atNx:eI T (dW T):=(((((((cr T (by decide)).or (cr T (by decide))).or (cr T (by decide))).or (cr T (by decide))).or (aw T _)).or (aw T _)).or (aw T _)).or (aw T _)
theorem qg:eI T (iv T):=((((aw T _).or (aw T _)).or (aw T _)).or (aw T _)).or (aw T _)
theorem ee (L):eI T (iw T L):=fun s h=>by
 have:bp T 7 s=true:=by unfold iw at h;cases hk:bp T 7 s with
  |true=>rfl
  |false=>rw[hk]at h;cases h
 exact cr T (by decide) s this
theorem ry (T):gR T (iU T):=fun s h=>by
 unfold iU;split
 ·exact zL.rfl h
 ·exact mW T 11 s h
theorem ab.word (hT:bH T) {k:Int} (hk:k≠8):ab T (cU T k):=JV hT hk
variable (hT:bH T)
include hT
omit hT in
theorem nU {c:Prop} [Decidable c] {α:Type} {m1 m2:PM α} (h1:ab T m1) (h2:ab T m2):ab T (if c then m1 else m2):=by
 split
 ·exact h1
 ·exact h2
theorem ji {ty:PM af} (eY:ab T ty):ab T (dR T ty):=(ab.now fun _=>(ab.bg hT (cr T (by decide)) (ab.ret _) (ab.bg hT (cr T (by decide)) (ab.ret _) (ab.step (aG hT _) (ab.bind eY fun _=>(ab.step (aG hT _) (ab.ret _)))))))
theorem ik {ty:PM af} (eY:ab T ty):ab T (eU T N ty):=(ab.now fun _=>(ab.bg hT (aw T _) (ab.bind (ji hT eY) fun _=>(ab.ret _)) (ab.bg hT (cr T (by decide)) (ab.bind (ab.many only_tySt (ji hT eY) _) fun _=>(ab.ret _)) (ji hT eY))))
theorem JX {most:Nat} {ty:PM af} {d:Nat} (eY:ab T ty):ab T (EI T N most ty d):=(ab.deep (ab.bind (ik hT eY) fun _=>(ab.bind (ab.gj hT (aw T _) (ik hT eY) _) fun _=>(ab.bg hT (aw T _) (ab.bind eY fun _=>(ab.ret _)) (ab.ret _)))))
theorem lE {ty:PM af} (eY:ab T ty):ab T (iu T N ty):=(ab.now fun _=>(ab.bg hT (aw T _) (ab.bind (ji hT eY) fun _=>(ab.ret _)) (ab.bind (ji hT eY) fun _=>(nU (ab.bind (ab.many only_tySt (ji hT eY) _) fun _=>(ab.ret _)) (ab.ret _)))))
theorem Cs {ty:PM af} (eY:ab T ty):ab T (wq T N ty):=(ab.bind (lE hT eY) fun _=>(ab.dU (ab.bind (ab.gj hT (aw T _) (lE hT eY) _) fun _=>(ab.ret _)) (ab.ret _)))
theorem JY {lim:Nat} {ty:PM af} (eY:ab T ty):ab T (HI T N lim ty):=(ab.Xu (ab.bind (Cs hT eY) fun _=>(ab.bg hT (aw T _) (ab.bind eY fun _=>(ab.ret _)) (ab.ret _))))
theorem FR {pat:PM ae} (iL:ab T pat):ab T (oQ T N pat):=(ab.now fun _=>(ab.step (aG hT _) (ab.bg hT (aw T _) (ab.ret _) (ab.dU (ab.ret _) (ab.bind iL fun _=>(ab.bind (ab.gj hT (aw T _) iL _) fun _=>(ab.step (aG hT _) (ab.ret _))))))))
theorem lF {pat:PM ae} (iL:ab T pat):ab T (fx T N pat):=(ab.now fun _=>(ab.bg hT (aw T _) (ab.ret _) (ab.bg hT (cr T (by decide)) (ab.ret _) (ab.bg hT (cr T (by decide)) (ab.ret _) (ab.bg hT (aw T _) (ab.ret _) (ab.bg hT (aw T _) (ab.ret _) (ab.bg hT (cr T (by decide)) (ab.ret _) (FR hT iL))))))))
theorem HJ {most:Nat} {pat:PM ae} {d:Nat} (iL:ab T pat):ab T (zM T N most pat d):=(ab.deep (ab.now fun _=>(ab.bg hT (cr T (by decide)) (ab.dU (ab.bind (lF hT iL) fun _=>(ab.ret _)) (ab.ret _)) (lF hT iL))))
theorem FT {t:Tok} {pat:PM ae} (iL:ab T pat):ab T (ed T N t pat):=(nU (ab.ret _) (nU (ab.ret _) (nU (ab.ret _) (nU (ab.ret _) (nU (ab.ret _) (nU (ab.ret _) (ab.bg hT (aw T _) (ab.ret _) (ab.bind iL fun _=>(ab.bind (ab.gj hT (aw T _) iL _) fun _=>(ab.step (aG hT _) (ab.ret _)))))))))))
theorem qh {pat:PM ae} (iL:ab T pat):ab T (kO T N pat):=(ab.now fun _=>(ab.bg hT uj (FT hT iL) (ab.step (mW T 11) (ab.ret _))))
theorem HK {lim:Nat} {pat:PM ae} (iL:ab T pat):ab T (Cp T N lim pat):=(ab.Xu (ab.now fun _=>(ab.bind (qh hT iL) fun _=>(nU (ab.dU (ab.bind (qh hT iL) fun _=>(ab.ret _)) (ab.ret _)) (ab.ret _)))))
theorem OL {ex:PM aa} (hex:ab T ex):ab T (DP T N ex):=(ab.now fun _=>(ab.step (aG hT _) (ab.bg hT (aw T _) (ab.ret _) (ab.dU (ab.ret _) (ab.bind hex fun _=>(ab.bind (ab.gj hT (aw T _) hex _) fun _=>(ab.step (aG hT _) (ab.ret _))))))))
theorem jZ {ex:PM aa} (hex:ab T ex):ab T (fy T N ex):=(ab.now fun _=>(ab.bg hT (cr T (by decide)) (ab.ret _) (ab.bg hT (cr T (by decide)) (ab.ret _) (ab.bg hT (aw T _) (ab.ret _) (ab.bg hT (aw T _) (ab.ret _) (ab.bg hT (cr T (by decide)) (ab.ret _) (ab.bg hT (cr T (by decide)) (ab.ret _) (ab.bg hT (aw T _) (ab.ret _) (OL hT hex)))))))))
theorem w4 {ex:PM aa} (hex:ab T ex):ab T (sZ T N ex):=(ab.now fun _=>(ab.bg hT qg (ab.bind (jZ hT hex) fun _=>(ab.ret _)) (ab.bg hT (cr T (by decide)) (ab.dU (ab.bind (jZ hT hex) fun _=>(ab.ret _)) (ab.ret _)) (jZ hT hex))))
theorem sn {atom:PM aa} {a:aa} (ac1:ab T atom):ab T (yi T N atom a):=ab.carry only_atNx (fun a=>ab.bind ac1 fun _=>ab.ret _) _ _
theorem mX {L:List (List UInt8)} {side:PM aa} {a:aa} (JZ:ab T side):ab T (lD T N L side a):=ab.Bl hT (ee _) (fun t a=>ab.bind JZ fun _=>ab.ret _) _ _
theorem pD {ex:PM aa} (hex:ab T ex):ab T (uf T N ex):=(ab.bind (w4 hT hex) fun _=>(sn hT (jZ hT hex)))
theorem nV {ex:PM aa} (hex:ab T ex):ab T (ug T N ex):=(ab.bind (pD hT hex) fun _=>(mX hT (pD hT hex)))
theorem nW {ex:PM aa} (hex:ab T ex):ab T (wZ T N ex):=(ab.bind (nV hT hex) fun _=>(mX hT (nV hT hex)))
theorem iW {g:PS->Bool} {side:PM aa} {a:aa} (hg:eI T g) (JZ:ab T side):ab T (fc T g side a):=(ab.now fun _=>(ab.bg hT hg (ab.bind JZ fun _=>(ab.ret _)) (ab.ret _)))
theorem ma {ex:PM aa} (hex:ab T ex):ab T (vx T N ex):=(ab.bind (nW hT hex) fun _=>(iW hT ((aw T _).or (aw T _)) (nW hT hex)))
theorem FU {ex:PM aa} (hex:ab T ex):ab T (sk T N ex):=(ab.bind (ma hT hex) fun _=>(iW hT (aw T _) (ma hT hex)))
theorem w5 {ex:PM aa} {p:Int} (hex:ab T ex):ab T (uh T ex p):=(ab.bg hT (aw T _) (ab.bind (ab.word hT (by decide)) fun _=>(ab.bind (ab.word hT (by decide)) fun _=>(ab.step (aG hT _) (ab.bind hex fun _=>(ab.step (aG hT _) (ab.bind hex fun _=>(ab.ret _))))))) (ab.bind (ab.word hT (by decide)) fun _=>(ab.step (aG hT _) (ab.bind hex fun _=>(ab.step (aG hT _) (ab.bind hex fun _=>(ab.ret _)))))))
theorem w6 {ex:PM aa} {p:Int} (hex:ab T ex):ab T (wu T ex p):=(ab.bind (ab.word hT (by decide)) fun _=>(ab.step (aG hT _) (ab.bind hex fun _=>(ab.ret _))))
theorem zO {ex:PM aa} {p:Int} (hex:ab T ex):ab T (DQ T ex p):=(ab.bind hex fun _=>(ab.step (aG hT _) (ab.bind hex fun _=>(ab.step (aG hT _) (ab.bind hex fun _=>(ab.ret _))))))
theorem pE {pat:PM ae} {ex:PM aa} (iL:ab T pat) (hex:ab T ex):ab T (iA T pat ex):=(ab.bind iL fun _=>(ab.step (aG hT _) (ab.bind hex fun _=>(ab.ret _))))
theorem uk {arm:PM ar} (M8:ab T arm):ab T (ow T N arm):=(ab.bind M8 fun _=>(ab.bind (ab.gj hT (aw T _) M8 _) fun _=>(ab.ret _)))
theorem FV {pat:PM ae} {ex:PM aa} {p:Int} (iL:ab T pat) (hex:ab T ex):ab T (yj T N pat ex p):=(ab.bind hex fun _=>(ab.step (aG hT _) (ab.step (aG hT _) (ab.bind (ab.dU (uk hT (pE hT iL hex)) (ab.ret _)) fun _=>(ab.step (aG hT _) (ab.ret _))))))
theorem HL {most:Nat} {pat:PM ae} {ex:PM aa} {d:Nat} (iL:ab T pat) (hex:ab T ex):ab T (zN T N most pat ex d):=(ab.deep (ab.now fun _=>(ab.bg hT (aw T _) (w5 hT hex) (ab.bg hT (aw T _) (w6 hT hex) (ab.bg hT (aw T _) (zO hT hex) (ab.bg hT (aw T _) (FV hT iL hex) (FU hT hex)))))))
theorem AQ {t:Tok} {ex:PM aa} (hex:ab T ex):ab T (fe T N t ex):=(nU (ab.ret _) (nU (ab.ret _) (nU (ab.ret _) (nU (ab.ret _) (nU (ab.ret _) (nU (ab.ret _) (nU (ab.ret _) (ab.bg hT (aw T _) (ab.ret _) (ab.bind hex fun _=>(ab.bind (ab.gj hT (aw T _) hex _) fun _=>(ab.step (aG hT _) (ab.ret _))))))))))))
theorem j6 {ex:PM aa} (hex:ab T ex):ab T (dx T N ex):=(ab.now fun _=>(ab.bg hT only_atNx (AQ hT hex) (ab.step (mW T 11) (ab.ret _))))
theorem w7 {ex:PM aa} (hex:ab T ex):ab T (wv T N ex):=(ab.now fun _=>(ab.bg hT qg (ab.bind (j6 hT hex) fun _=>(ab.ret _)) (ab.bind (j6 hT hex) fun _=>(nU (ab.dU (ab.bind (j6 hT hex) fun _=>(ab.ret _)) (ab.ret _)) (ab.ret _)))))
theorem um {ex:PM aa} (hex:ab T ex):ab T (jY T N ex):=(ab.bind (w7 hT hex) fun _=>(sn hT (j6 hT hex)))
theorem uo {ex:PM aa} (hex:ab T ex):ab T (lp T N ex):=(ab.bind (um hT hex) fun _=>(mX hT (um hT hex)))
theorem uq {ex:PM aa} (hex:ab T ex):ab T (pB T N ex):=(ab.bind (uo hT hex) fun _=>(mX hT (uo hT hex)))
theorem ur {ex:PM aa} (hex:ab T ex):ab T (pC T N ex):=(ab.bind (uq hT hex) fun _=>(iW hT (ee _) (uq hT hex)))
theorem AR {ex:PM aa} (hex:ab T ex):ab T (ui T N ex):=(ab.bind (ur hT hex) fun _=>(iW hT (ee _) (ur hT hex)))
theorem yl {pat:PM ae} {ex:PM aa} {p:Int} (iL:ab T pat) (hex:ab T ex):ab T (yk T N pat ex p):=(ab.bind hex fun _=>(ab.step (aG hT _) (ab.step (aG hT _) (ab.bind (uk hT (pE hT iL hex)) fun _=>(ab.step (aG hT _) (ab.ret _))))))
theorem HM {lim:Nat} {pat:PM ae} {ex:PM aa} (iL:ab T pat) (hex:ab T ex):ab T (Cr T N lim pat ex):=(ab.Xu (ab.now fun _=>(ab.bg hT (aw T _) (w5 hT hex) (ab.bg hT (aw T _) (w6 hT hex) (ab.bg hT (aw T _) (zO hT hex) (ab.bg hT (aw T _) (yl hT iL hex) (AR hT hex)))))))
theorem j8 {ty:PM af} (eY:ab T ty):ab T (fL T ty):=(ab.now fun _=>(ab.bind (ab.word hT (by decide)) fun _=>(ab.bg hT (aw T _) (ab.bind eY fun _=>(ab.ret _)) (ab.ret _))))
theorem qi {ty:PM af} (eY:ab T ty):ab T (iK T N ty):=(ab.now fun _=>(ab.step (aG hT _) (ab.bind (ab.many (cr T (by decide)) (ab.word hT (by decide)) _) fun _=>(ab.bind (ab.word hT (by decide)) fun _=>(ab.step (aG hT _) (ab.bind (j8 hT eY) fun _=>(ab.bind (ab.gj hT (aw T _) (j8 hT eY) _) fun _=>(ab.step (aG hT _) (ab.ret _)))))))))
theorem AS {ty:PM af} {ex:PM aa} (eY:ab T ty) (hex:ab T ex):ab T (jh T N ty ex):=(ab.bind (ab.many (aw T _) (qi hT eY) _) fun _=>(ab.bind hex fun _=>(ab.step (ry T) (ab.ret _))))
theorem gA (most:Nat):∀k d,ab T (l9 T N most k d)
 |0,d=>ab.ret _
 |k+1,d=>JX hT (gA most k (d+1))
theorem vy (lim:Nat):∀k,ab T (OK T N lim k)
 |0=>ab.ret _
 |k+1=>JY hT (vy lim k)
theorem mY (most:Nat):∀k d,ab T (pA T N most k d)
 |0,d=>ab.ret _
 |k+1,d=>HJ hT (mY most k (d+1))
theorem so (lim:Nat):∀k,ab T (AP T N lim k)
 |0=>ab.ret _
 |k+1=>HK hT (so lim k)
theorem cE (most:Nat):∀k d,ab T (fm T N most k d)
 |0,d=>ab.ret _
 |k+1,d=>HL hT (mY hT most k (d+1)) (cE most k (d+1))
theorem su (lim:Nat):∀k,ab T (EJ T N lim k)
 |0=>ab.ret _
 |k+1=>HM hT (so hT lim k) (su lim k)
end
structure mb (T:List Tok) (e:Nat) (s t:PS):Prop where
 i:s.i=t.i
 d:s.d=t.d
 c:s.c=0
 c2:t.c=0
 nest:t.nest=e
 lt:s.i<T.length
structure J0 (T:List Tok) (s t:PS):Prop where
 ne:s.c≠0
 c:s.c=t.c
 ps:s.ps=t.ps
 lt:s.i<T.length
 lt2:t.i<T.length
def Out (T:List Tok) (e:Nat) {α:Type} (r q:α×PS):Prop:=(r.1=q.1/\mb T e r.2 q.2)\/J0 T r.2 q.2
def nX (T:List Tok) (e:Nat) {α:Type} (m n:PM α):Prop:=∀s t,mb T e s t->Out T e (m s) (n t)
section
variable {T:List Tok} {e:Nat}
theorem mb.tok {s t:PS} (h:mb T e s t):aD T s=aD T t:=by unfold aD;rw[h.i]
theorem mb.aH {s t:PS} (h:mb T e s t) (x):aH T x s=aH T x t:=by unfold Pg.aH;rw[h.tok,h.c,h.c2]
theorem mb.bp {s t:PS} (h:mb T e s t) (k):bp T k s=bp T k t:=by unfold Pg.bp;rw[h.tok,h.c,h.c2]
def me (T:List Tok) (e:Nat) (g g':PS->Bool):Prop:=∀s t,mb T e s t->g s=g' t
theorem zP (x):me T e (aH T x) (aH T x):=fun s t h=>h.aH x
theorem EK (k):me T e (bp T k) (bp T k):=fun s t h=>h.bp k
theorem J1:me T e (iT T) (iT T):=fun s t h=>by simp only[iT,h.aH,h.bp]
theorem uw:me T e (dV T) (dV T):=fun s t h=>by simp only[dV,h.aH,h.bp]
theorem sv:me T e (dW T) (dW T):=fun s t h=>by simp only[dW,h.aH,h.bp]
theorem AT:me T e (iv T) (iv T):=fun s t h=>by simp only[iv,h.aH,h.bp]
theorem OM (L):me T e (iw T L) (iw T L):=fun s t h=>by simp only[iw,h.bp,h.tok]
theorem mb.aE (hT:bH T) {s t:PS} (h:mb T e s t) (hk:(aD T s).k≠8):mb T e (Pg.aE s) (Pg.aE t):=
 ⟨by simp only[Pg.aE,h.i],h.d,h.c,h.c2,h.nest,si hT h.lt hk⟩
theorem mb.fail {s t:PS} (h:mb T e s t) {c:Int} (hc:c≠0):J0 T (dI T c s) (dI T c t):=by
 rw[iJ h.c,iJ h.c2];exact⟨hc,rfl,by simp only[h.tok],h.lt,by show t.i<_;rw[<-h.i];exact h.lt⟩
theorem mb.want (hT:bH T) {s t:PS} (h:mb T e s t) (x):mb T e (aS T x s) (aS T x t)\/J0 T (aS T x s) (aS T x t):=by
 unfold aS;rw[<-h.aH];by_cases hb:Pg.aH T x s=true
 ·rw[if_pos hb,if_pos hb];exact .inl (h.aE hT (cB hb).2)
 ·rw[if_neg hb,if_neg hb];exact .inr (h.fail (by decide))
theorem mb.aga {s t:PS} (h:mb T e s t):mb T e (iU T s) (iU T t)\/J0 T (iU T s) (iU T t):=by
 unfold iU;rw[<-h.bp];by_cases hb:Pg.bp T 8 s=true
 ·rw[if_pos hb,if_pos hb];exact .inl h
 ·rw[if_neg hb,if_neg hb];exact .inr (h.fail (by decide))
theorem J0.stay {α β:Type} {s t:PS} (h:J0 T s t) {m:PM α} {n:PM β} (hm:ab T m) (hn:ab T n):J0 T (m s).2 (n t).2:=by
 rw[(hm s h.lt).2.2.1 h.ne,(hn t h.lt2).2.2.1 (by rw[<-h.c];exact h.ne)];exact h
theorem ym {α:Type} (a:α):nX T e (aO a) (aO a):=fun s t h=>.inl ⟨rfl,h⟩
theorem ON {α β:Type} {m n:PM α} {k l:α->PM β} (h:nX T e m n) (hk:∀a,ab T (k a)) (hl:∀a,ab T (l a)) (HE:∀a,nX T e (k a) (l a)):nX T e (az m k) (az n l):=fun s t bc=>by
 rcases h s t bc with⟨h1,h2⟩|h1
 ·have:=HE (m s).1 _ _ h2
  unfold az;rwa[<-h1]
 ·exact .inr (h1.stay (hk _) (hl _))
theorem OO (hT:bH T) {α:Type} {x} {m n:PM α} (hm:ab T m) (hn:ab T n) (h:nX T e m n):nX T e (cg (aS T x) m) (cg (aS T x) n):=fun s t bc=>by
 rcases bc.want hT x with h1|h1
 ·exact h _ _ h1
 ·exact .inr (h1.stay hm hn)
theorem Rk {α:Type} {m n:PM α} (hm:ab T m) (hn:ab T n) (h:nX T e m n):nX T e (cg (iU T) m) (cg (iU T) n):=fun s t bc=>by
 rcases bc.aga with h1|h1
 ·exact h _ _ h1
 ·exact .inr (h1.stay hm hn)
theorem Rm {α:Type} {k l:Tok->PM α} (h:∀x,nX T e (k x) (l x)):nX T e (dZ T k) (dZ T l):=fun s t bc=>by
 unfold dZ;rw[<-bc.tok];exact h _ s t bc
theorem EL (hT:bH T) {α:Type} {g g':PS->Bool} {m1 m2 n1 n2:PM α} (hg:eI T g) (hs:me T e g g') (h1:nX T e m1 n1) (h2:nX T e m2 n2):nX T e (bg g m1 m2) (bg g' n1 n2):=fun s t bc=>by
 unfold bg;rw[<-hs s t bc];by_cases hb:g s=true
 ·rw[if_pos hb,if_pos hb];exact h1 _ _ (bc.aE hT (hg s hb).2)
 ·rw[if_neg hb,if_neg hb];exact h2 _ _ bc
theorem OP {α:Type} {g g':PS->Bool} {m1 m2 n1 n2:PM α} (hs:me T e g g') (h1:nX T e m1 n1) (h2:nX T e m2 n2):nX T e (dU g m1 m2) (dU g' n1 n2):=fun s t bc=>by
 unfold dU;rw[<-hs s t bc];by_cases hb:g s=true
 ·rw[if_pos hb,if_pos hb];exact h1 _ _ bc
 ·rw[if_neg hb,if_neg hb];exact h2 _ _ bc
theorem OQ (hT:bH T) {k:Int} (hk:k≠8):nX T e (cU T k) (cU T k):=fun s t bc=>by
 unfold cU;rw[<-bc.bp];by_cases hb:bp T k s=true
 ·rw[if_pos hb,if_pos hb,<-bc.tok];exact .inl ⟨rfl,bc.aE hT (by rw[(qR hb).2];exact hk)⟩
 ·rw[if_neg hb,if_neg hb];exact .inr (bc.fail (by decide))
theorem zQ {α:Type} {g:PS→Bool} {m n:PM α} (hg:eI T g) (hs:me T e g g) (hm:ab T (many g m 1)) (bc:∀j,ab T (many g m j)) (HN:∀j,ab T (many g n j)) (h:∀s t,mb T e s t→g s=true →Out T e (m s) (n t)):∀j,nX T e (many g m j) (many g n j)
  |0=>ym []
  |j+1=>fun s t rb=>by
   by_cases hb:g s=true
   · have pU:g t=true :=by rw[←hs s t rb];exact hb
     simp only[many,hb,pU,if_true];rcases h s t rb hb with⟨h1,h2⟩|h1
     · rcases zQ hg hs hm bc HN h j _ _ h2 with⟨h3,h4⟩|h3
       · exact .inl ⟨by rw[h1,h3],h4⟩
       · exact .inr h3
     · exact .inr (h1.stay (bc j) (HN j))
   · have pU:g t=false :=by rw[←hs s t rb];simpa using hb
     have Jt:g s=false :=by simpa using hb
     rw[kC Jt,kC pU];exact .inl ⟨rfl,rb⟩
theorem w8 {α:Type} {g:PS→Bool} {m n:α→PM α} (hs:me T e g g) (bc:∀j a,ab T (carry g m j a)) (HN:∀j a,ab T (carry g n j a)) (h:∀a s t,mb T e s t→g s=true →Out T e (m a s) (n a t)):∀j a,nX T e (carry g m j a) (carry g n j a)
  |0,a=>ym a
  |j+1,a=>fun s t rb=>by
   by_cases hb:g s=true
   · have pU:g t=true :=by rw[←hs s t rb];exact hb
     simp only[carry,hb,pU,if_true];rcases h a s t rb hb with⟨h1,h2⟩|h1
     · rw[h1];exact w8 hs bc HN h j _ _ _ h2
     · exact .inr (h1.stay (bc j _) (HN j _))
   · have pU:g t=false :=by rw[←hs s t rb];simpa using hb
     have Jt:g s=false :=by simpa using hb
     rw[ru Jt,ru pU];exact .inl ⟨rfl,rb⟩
theorem J2 {α:Type} {g:PS->Bool} {m n:PM α} (hg:eI T g) (hs:me T e g g) (hm:ab T m) (hn:ab T n) (h:nX T e m n) (j:Nat):nX T e (many g m j) (many g n j):=
 zQ hg hs (hm:=ab.many hg hm 1) (fun j=>ab.many hg hm j) (fun j=>ab.many hg hn j) (fun s t bc _=>h s t bc) j
theorem J3 (hT:bH T) {α:Type} {g:PS->Bool} {m n:PM α} (hg:eI T g) (hs:me T e g g) (hm:ab T m) (hn:ab T n) (h:nX T e m n) (j:Nat):nX T e (many g (bM m) j) (many g (bM n) j):=
 zQ hg hs (hm:=ab.gj hT hg hm 1) (fun j=>ab.gj hT hg hm j) (fun j=>ab.gj hT hg hn j) (fun s t bc hb=>h _ _ (bc.aE hT (hg s hb).2)) j
theorem Rn {α:Type} {most lim:Nat} {z:α} {m n:PM α} (rz:most<e+1↔e=lim) (h:nX T (e+1) m n):nX T e (jJ T most (e+1) z m) (qf T lim z n):=fun s t bc=>by
 by_cases hd:most<e+1
 ·have he:t.c=0/\t.nest=lim:=⟨bc.c2,by rw[bc.nest];exact rz.1 hd⟩
  have hb:=bc.fail (c:=12) (by decide)
  have e1:cM T most (e+1) s=dI T 12 s:=by
   unfold cM;rw[if_pos hd];simp only[if_neg hb.ne]
  have pU:(dI T 12 t).c≠0:=by rw[<-hb.c];exact hb.ne
  have e2:cz T lim t={dI T 12 t with nest:=(dI T 12 t).nest+1}:=by
   unfold cz;rw[if_pos he];simp only[pU,false_and,if_false]
  refine .inr ?_;unfold jJ qf;rw[e1,e2];rw[if_neg hb.ne,if_neg (show ¬({dI T 12 t with nest:=(dI T 12 t).nest+1}:PS).c=0 from pU)];exact⟨hb.ne,hb.c,hb.ps,hb.lt,hb.lt2⟩
 ·have he:¬(t.c=0/\t.nest=lim):=fun h=>hd (rz.2 (by rw[<-bc.nest];exact h.2))
  have e1:cM T most (e+1) s={s with d:=max s.d (e+1)}:=by
   unfold cM;rw[if_neg hd];simp only[bc.c,if_true]
  have e2:cz T lim t={t with nest:=e+1,d:=max s.d (e+1)}:=by
   unfold cz;rw[if_neg he];simp only[bc.c2,bc.nest,true_and,<-bc.d];split
   ·rw[Nat.max_eq_right (by omega)]
   ·rw[Nat.max_eq_left (by omega)]
  have h2:mb T (e+1) ({s with d:=max s.d (e+1)}) ({t with nest:=e+1,d:=max s.d (e+1)}):=⟨bc.i,rfl,bc.c,bc.c2,rfl,bc.lt⟩;unfold jJ qf;rw[e1,e2,if_pos (show({s with d:=max s.d (e+1)}:PS).c=0 from bc.c),if_pos (show({t with nest:=e+1,d:=max s.d (e+1)}:PS).c=0 from bc.c2)];rcases h _ _ h2 with⟨h3,h4⟩|h3
  ·exact .inl ⟨h3,⟨h4.i,h4.d,h4.c,h4.c2,by show _-1=e;rw[h4.nest];rfl,h4.lt⟩⟩
  ·exact .inr ⟨h3.ne,h3.c,h3.ps,h3.lt,h3.lt2⟩
end
def bT (T:List Tok) (e:Nat) {α:Type} (m n:PM α):Prop:=ab T m/\ab T n/\nX T e m n
section
variable {T:List Tok} {e N:Nat}
theorem dA {α:Type} (a:α):bT T e (aO a) (aO a):=⟨ab.ret a,ab.ret a,ym a⟩
theorem bN {α β:Type} {m n:PM α} {k l:α->PM β} (h:bT T e m n) (hk:∀a,bT T e (k a) (l a)):bT T e (az m k) (az n l):=
 ⟨ab.bind h.1 fun a=>(hk a).1,ab.bind h.2.1 fun a=>(hk a).2.1,ON h.2.2 (fun a=>(hk a).1) (fun a=>(hk a).2.1) fun a=>(hk a).2.2⟩
theorem fV (hT:bH T) {α:Type} {x} {m n:PM α} (h:bT T e m n):bT T e (cg (aS T x) m) (cg (aS T x) n):=
 ⟨ab.step (aG hT x) h.1,ab.step (aG hT x) h.2.1,OO hT h.1 h.2.1 h.2.2⟩
theorem Xw {α:Type} {m n:PM α} (h:bT T e m n):bT T e (cg (iU T) m) (cg (iU T) n):=
 ⟨ab.step (ry T) h.1,ab.step (ry T) h.2.1,Rk h.1 h.2.1 h.2.2⟩
theorem yn {α:Type} {k l:Tok->PM α} (h:∀x,bT T e (k x) (l x)):bT T e (dZ T k) (dZ T l):=
 ⟨ab.now fun x=>(h x).1,ab.now fun x=>(h x).2.1,Rm fun x=>(h x).2.2⟩
theorem HO (hT:bH T) {α:Type} {g:PS->Bool} {m1 m2 n1 n2:PM α} (hg:eI T g) (hs:me T e g g) (h1:bT T e m1 n1) (h2:bT T e m2 n2):bT T e (bg g m1 m2) (bg g n1 n2):=
 ⟨ab.bg hT hg h1.1 h2.1,ab.bg hT hg h1.2.1 h2.2.1,EL hT hg hs h1.2.2 h2.2.2⟩
theorem HP {α:Type} {g:PS->Bool} {m1 m2 n1 n2:PM α} (hs:me T e g g) (h1:bT T e m1 n1) (h2:bT T e m2 n2):bT T e (dU g m1 m2) (dU g n1 n2):=
 ⟨ab.dU h1.1 h2.1,ab.dU h1.2.1 h2.2.1,OP hs h1.2.2 h2.2.2⟩
theorem Ct (hT:bH T) {α:Type} {x} {m1 m2 n1 n2:PM α} (h1:bT T e m1 n1) (h2:bT T e m2 n2):bT T e (bg (aH T x) m1 m2) (bg (aH T x) n1 n2):=HO hT (aw T x) (zP x) h1 h2
theorem aaE (hT:bH T) {α:Type} {x:Int} (hx:x≠8) {m1 m2 n1 n2:PM α} (h1:bT T e m1 n1) (h2:bT T e m2 n2):bT T e (bg (bp T x) m1 m2) (bg (bp T x) n1 n2):=HO hT (cr T hx) (EK x) h1 h2
theorem pF (hT:bH T) {k:Int} (hk:k≠8):bT T e (cU T k) (cU T k):=⟨ab.word hT hk,ab.word hT hk,OQ hT hk⟩
theorem Cu {α:Type} {g:PS->Bool} {m n:PM α} (hg:eI T g) (hs:me T e g g) (h:bT T e m n) (j:Nat):bT T e (many g m j) (many g n j):=
 ⟨ab.many hg h.1 j,ab.many hg h.2.1 j,J2 hg hs h.1 h.2.1 h.2.2 j⟩
theorem vz (hT:bH T) {α:Type} {x} {m n:PM α} (h:bT T e m n) (j:Nat):bT T e (many (aH T x) (bM m) j) (many (aH T x) (bM n) j):=
 ⟨ab.gj hT (aw T x) h.1 j,ab.gj hT (aw T x) h.2.1 j,J3 hT (aw T x) (zP x) h.1 h.2.1 h.2.2 j⟩
theorem FW {α:Type} {most lim:Nat} {z:α} {m n:PM α} (rz:most<e+1↔e=lim) (h:bT T (e+1) m n):bT T e (jJ T most (e+1) z m) (qf T lim z n):=
 ⟨ab.deep h.1,ab.Xu h.2.1,Rn rz h.2.2⟩
theorem w9 {α:Type} {m n:PM α} (h1:ab T m) (h2:ab T n) (h:∀s t,mb T e s t->Out T e (m s) (n t)):bT T e m n:=⟨h1,h2,h⟩
theorem bT.at {α:Type} {m n:PM α} (h:bT T e m n) {s t:PS} (bc:mb T e s t):Out T e (m s) (n t):=h.2.2 s t bc
variable (hT:bH T)
include hT
theorem Ro {ty pg:PM af} (h:bT T e ty pg):bT T e (dR T ty) (dR T pg):=
 yn fun t=>aaE hT (by decide) (dA _)<|aaE hT (by decide) (dA _)<|fV hT<|bN h fun o=>fV hT (dA o)
theorem FX {k:Int} {s:PS} (hc:s.c=0):bp T k s=decide ((aD T s).k=k):=by simp[bp,hc]
omit hT in
theorem bE {α:Type} (k:Tok->PM α) (s:PS):dZ T k s=k (aD T s) s:=rfl
omit hT in
theorem aQ {α:Type} {g:PS->Bool} {m1 m2:PM α} {s:PS} (h:g s=true):bg g m1 m2 s=m1 (aE s):=by simp[bg,h]
omit hT in
theorem aU {α:Type} {g:PS->Bool} {m1 m2:PM α} {s:PS} (h:g s=false):bg g m1 m2 s=m2 s:=by simp[bg,h]
omit hT in
theorem fE {α:Type} {g:PS->Bool} {m1 m2:PM α} {s:PS} (h:g s=true):dU g m1 m2 s=m1 s:=by simp[dU,h]
omit hT in
theorem jj {α:Type} {g:PS->Bool} {m1 m2:PM α} {s:PS} (h:g s=false):dU g m1 m2 s=m2 s:=by simp[dU,h]
omit hT in
theorem aN {α β:Type} (m:PM α) (k:α->PM β) (s:PS):az m k s=k (m s).1 (m s).2:=rfl
omit hT in
theorem cV {α:Type} (f:PS->PS) (m:PM α) (s:PS):cg f m s=m (f s):=rfl
omit hT in
theorem il {α:Type} (a:α) (s:PS):aO a s=(a,s):=rfl
omit hT in
theorem gG {α:Type} {a:α} {s t:PS} (h:mb T e s t):Out T e (aO a s) (aO a t):=.inl ⟨rfl,h⟩
theorem HQ {ty pg:PM af} (h:bT T e ty pg):bT T e (eU T N ty) (iu T N pg):=by
  refine w9 (ik hT h.1) (lE hT h.2.1) fun s t bc=> ?_
  have eY:=Ro hT h;unfold eU iu;rw[bE,bE,←bc.tok]
  cases h1:aH T [114,101,102] s with
  |true =>
   rw[aQ h1,aQ ((bc.aH _).symm.trans h1)]
   exact(bN eY fun x=>dA _).at (bc.aE hT (cB h1).2)
  |false =>
   rw[aU h1,aU ((bc.aH _).symm.trans h1)];by_cases h3:(aD T s).k=3
   · have k3:bp T 3 s=true :=by rw[FX hT bc.c,h3];rfl
     have k3t:bp T 3 t=true :=by rw[←bc.bp];exact k3
     have k5t:bp T 5 t=false :=by rw[←bc.bp,FX hT bc.c,h3];rfl
     have e1:dR T pg t=(.mk 1 (aD T s).t (aD T s).p [],aE t):=by
       unfold dR;rw[bE,aU k5t,aQ k3t,←bc.tok];rfl
     rw[aQ k3,aN (m:=dR T pg),e1];simp only[if_pos h3];exact(bN (Cu only_tySt J1 eY N) fun l=>dA (af.mk 1 (aD T s).t (aD T s).p l)).at (bc.aE hT (by rw[h3];decide))
   · have k3:bp T 3 s=false :=by rw[FX hT bc.c];simp[h3]
     rw[aU k3];simp only[if_neg h3];exact eY.at bc
theorem Rp {α:Type} {g:PS->Bool} {m:PM α} {s:PS} (h:g s=true) {n:Nat} (hn:0<n):(many g m n s).1≠[]:=by
 cases n with
 |zero=>omega
 |succ n=>rw[many,if_pos h];simp
theorem ac2 {most lim:Nat} (hN:0<N) (rz:most<e+1↔e=lim) {ty pg:PM af} (h:bT T (e+1) ty pg):bT T e (EI T N most ty (e+1)) (HI T N lim pg):=by
  refine FW rz ?_
  have hp:bT T (e+1) (az (eU T N ty) fun a=>az (many (aH T [42]) (bM (eU T N ty)) N) fun l=>aO (fk a l)) (wq T N pg):=by
    refine bN (HQ hT h) fun a=> ?_
    refine w9 (ab.bind (ab.gj hT (aw T _) (ik hT h.1) N) fun l=>ab.ret _) (ab.dU (ab.bind (ab.gj hT (aw T _) (lE hT h.2.1) N) fun l=>ab.ret _) (ab.ret _)) fun s t bc=> ?_
    cases h1:aH T [42] s with
    |true =>
     rw[fE ((bc.aH _).symm.trans h1)];have :=(bN (vz hT (x:=[42]) (HQ (N:=N) hT h) N) fun l=>dA (af.mk 4 [] a.pos (a::l))).at bc;have cK:=Rp hT (m:=bM (eU T N ty)) h1 hN;rw[aN]at this⊢;simp only[fk,if_neg cK]
     exact this
    |false =>
     rw[jj ((bc.aH _).symm.trans h1),aN,kC h1];exact .inl ⟨by simp[fk,aO],bc⟩
  have h2:=bN hp fun a=>Ct hT (x:=[45,62]) (bN h fun b=>dA (af.mk 3 [] a.pos [a,b])) (dA a)
  exact h2
theorem HR {α:Type} {pat jt:PM α} (h:bT T e pat jt) (f:α->List α->α):bT T e (az pat fun a=>az (many (aH T [44]) (bM pat) N) fun l=>cg (aS T [41]) (aO (f a l))) (az jt fun a=>az (many (aH T [44]) (bM jt) N) fun l=>cg (aS T [41]) (aO (f a l))):=
 bN h fun a=>bN (vz hT h N) fun l=>fV hT (dA _)
theorem HS {x} {s:PS} (hc:s.c=0):aH T x s=true ↔((aD T s).k=6\/(aD T s).k=7)/\(aD T s).t=x:=by simp[aH,hc]
theorem rA {x} {s:PS} (hc:s.c=0):bp T x s=true ↔(aD T s).k=x:=by simp[bp,hc]
theorem Xx {pat jt:PM ae} (h:bT T e pat jt) {s t:PS} (bc:mb T e s t):Out T e (fx T N pat s) (kO T N jt t):=by
  have hkt:=fun x=>bc.bp (T:=T) x
  have htt:=fun x=>bc.aH (T:=T) x
  have ki:=fun x=>rA (x:=x) hT bc.c
  have ti:=fun x=>HS (x:=x) hT bc.c
  unfold fx kO;rw[bE,bE,←bc.tok];generalize hx:aD T s=x at ki ti⊢;have pX:∀{b},dV T s=b→dV T t=b:=fun h=>by rw[←uw s t bc];exact h
  have vT:=fun(hk:dV T s=true)=>bc.aE hT (uj s hk).2
  have e0:dV T s=(bp T 3 s||bp T 1 s||bp T 4 s||aH T [95] s||aH T [116,114,117,101] s||aH T [102,97,108,115,101] s||aH T [40] s):=rfl
  cases a1:aH T [95] s with
  |true =>
   have hp:dV T s=true :=by simp[e0,a1]
   obtain⟨q1,q2⟩:=(ti _).1 a1;rw[aQ a1,aQ (pX hp)];unfold ed;rw[if_neg (by omega),if_neg (by omega),if_neg (by omega),if_pos q2]
   exact gG (vT hp)
  |false =>
  rw[aU a1]
  cases a2:bp T 3 s with
  |true =>
   have hp:dV T s=true :=by simp[e0,a2]
   rw[aQ a2,aQ (pX hp)];unfold ed;rw[if_pos ((ki _).1 a2)]
   exact gG (vT hp)
  |false =>
  rw[aU a2]
  cases a3:bp T 1 s with
  |true =>
   have hp:dV T s=true :=by simp[e0,a3]
   have q:=(ki _).1 a3;rw[aQ a3,aQ (pX hp)];unfold ed;rw[if_neg (by omega),if_neg (by omega),if_pos q]
   exact gG (vT hp)
  |false =>
  rw[aU a3]
  cases a4:aH T [116,114,117,101] s with
  |true =>
   have hp:dV T s=true :=by simp[e0,a4]
   obtain⟨q1,q2⟩:=(ti _).1 a4;rw[aQ a4,aQ (pX hp)];unfold ed;rw[if_neg (by omega),if_neg (by omega),if_neg (by omega),if_neg (by rw[q2];decide),if_pos q2]
   exact gG (vT hp)
  |false =>
  rw[aU a4]
  cases a5:aH T [102,97,108,115,101] s with
  |true =>
   have hp:dV T s=true :=by simp[e0,a5]
   obtain⟨q1,q2⟩:=(ti _).1 a5;rw[aQ a5,aQ (pX hp)];unfold ed;rw[if_neg (by omega),if_neg (by omega),if_neg (by omega),if_neg (by rw[q2];decide),if_neg (by rw[q2];decide),if_pos q2]
   exact gG (vT hp)
  |false =>
  rw[aU a5]
  cases a6:bp T 4 s with
  |true =>
   have hp:dV T s=true :=by simp[e0,a6]
   have q:=(ki _).1 a6;rw[aQ a6,aQ (pX hp)];unfold ed;rw[if_neg (by omega),if_pos q]
   exact gG (vT hp)
  |false =>
  rw[aU a6];unfold oQ;rw[bE,cV,hx]
  cases a7:aH T [40] s with
  |true =>
   have hp:dV T s=true :=by simp[e0,a7]
   obtain⟨q1,q2⟩:=(ti _).1 a7;have ew:aS T [40] s=aE s:=by unfold aS;rw[if_pos a7]
   rw[aQ (pX hp),ew];unfold ed;rw[if_neg (by omega),if_neg (by omega),if_neg (by omega),if_neg (by rw[q2];decide),if_neg (by rw[q2];decide),if_neg (by rw[q2];decide)];have h2:=vT hp
   cases b1:aH T [41] (aE s)with
   |true =>
    rw[aQ b1,aQ ((h2.aH _).symm.trans b1)]
    exact gG (h2.aE hT (cB b1).2)
   |false =>
    rw[aU b1,aU ((h2.aH _).symm.trans b1),jj (by simp[h2.c])]
    exact(HR hT h (fun a l=>if l=[]then a else ae.mk 6 [] 0 x.p (a::l))).at h2
  |false =>
   have hp:dV T s=false :=by simp[e0,a1,a2,a3,a4,a5,a6,a7]
   have ew:aS T [40] s=dI T 11 s:=by unfold aS;rw[a7];rfl
   have hb:=bc.fail (T:=T) (c:=11) (by decide);rw[aU (pX hp),ew,aU (pz hb.ne),fE (by simp[hb.ne]),cV];exact .inr hb
theorem Rq {pat jt:PM ae} (h:bT T e pat jt):bT T e (fx T N pat) (kO T N jt):=w9 (lF hT h.1) (qh hT h.2.1) fun s t bc=>Xx hT h bc
theorem Xy {most lim:Nat} (rz:most<e+1↔e=lim) {pat jt:PM ae} (h:bT T (e+1) pat jt):bT T e (zM T N most pat (e+1)) (Cp T N lim jt):=by
  refine FW rz ?_;have hA:=Rq (N:=N) hT h;refine w9 (ab.now fun t=>ab.bg hT (cr T (by decide)) (ab.dU (ab.bind hA.1 fun _ =>ab.ret _) (ab.ret _)) hA.1) (ab.now fun t=>ab.bind hA.2.1 fun x=>nU (ab.dU (ab.bind hA.2.1 fun _ =>ab.ret _) (ab.ret _)) (ab.ret _)) fun s t bc=> ?_
  rw[bE,bE,←bc.tok]
  cases h4:bp T 4 s with
  |true =>
   have q:=(rA hT bc.c).1 h4;have hp:dV T t=true :=by rw[←uw s t bc];simp[dV,h4]
   have e1:kO T N jt t=(.mk 7 (aD T s).t 0 (aD T s).p [],aE t):=by
     unfold kO ed;rw[bE,aQ hp,←bc.tok,if_neg (by omega),if_pos q];rfl
   rw[aQ h4,aN (m:=kO T N jt),e1];simp only[if_pos q]
   exact(HP uw (bN hA fun a=>dA (ae.mk 7 (aD T s).t 0 (aD T s).p [a])) (dA _)).at (bc.aE hT (by rw[q];decide))
  |false =>
   have q:¬(aD T s).k=4:=fun h=>by rw[(rA hT bc.c).2 h]at h4;cases h4
   rw[aU h4];simp only[if_neg q];exact hA.at bc
theorem HT {most lim:Nat}:∀(k e:Nat),(∀e',e<=e'->e'<e+k->(most<e'+1↔e'=lim))->bT T e (pA T N most k (e+1)) (AP T N lim k)
 |0,e,_=>dA _
 |k+1,e,rz=>Xy hT (rz e (Nat.le_refl _) (by omega)) (HT k (e+1) fun e' h1 h2=>rz e' (by omega) (by omega))
theorem M9 {most lim:Nat} (hN:0<N):∀(k e:Nat),(∀e',e<=e'->e'<e+k->(most<e'+1↔e'=lim))->bT T e (l9 T N most k (e+1)) (OK T N lim k)
 |0,e,_=>dA _
 |k+1,e,rz=>ac2 hT hN (rz e (Nat.le_refl _) (by omega)) (M9 hN k (e+1) fun e' h1 h2=>rz e' (by omega) (by omega))
end
section
variable {T:List Tok} {e N:Nat} (hT:bH T)
include hT
theorem Rr {pat jt:PM aa} (h:bT T e pat jt) {s t:PS} (bc:mb T e s t):Out T e (fy T N pat s) (dx T N jt t):=by
  have ki:=fun x=>rA (x:=x) hT bc.c
  have ti:=fun x=>HS (x:=x) hT bc.c
  unfold fy dx;rw[bE,bE,←bc.tok];generalize hx:aD T s=x at ki ti⊢;have pX:∀{b},dW T s=b→dW T t=b:=fun h=>by rw[←sv s t bc];exact h
  have vT:=fun(hk:dW T s=true)=>bc.aE hT (only_atNx s hk).2
  have e0:dW T s=(bp T 1 s||bp T 2 s||bp T 3 s||bp T 4 s||aH T [116,114,117,101] s||aH T [102,97,108,115,101] s||aH T [114,101,97,100] s||aH T [40] s):=rfl
  cases a1:bp T 1 s with
  |true =>
   have hp:dW T s=true :=by simp[e0,a1]
   rw[aQ a1,aQ (pX hp)];unfold fe;rw[if_pos ((ki _).1 a1)]
   exact gG (vT hp)
  |false =>
  rw[aU a1]
  cases a2:bp T 2 s with
  |true =>
   have hp:dW T s=true :=by simp[e0,a2]
   have q:=(ki _).1 a2;rw[aQ a2,aQ (pX hp)];unfold fe;rw[if_neg (by omega),if_pos q]
   exact gG (vT hp)
  |false =>
  rw[aU a2]
  cases a4:aH T [116,114,117,101] s with
  |true =>
   have hp:dW T s=true :=by simp[e0,a4]
   obtain⟨q1,q2⟩:=(ti _).1 a4;rw[aQ a4,aQ (pX hp)];unfold fe;rw[if_neg (by omega),if_neg (by omega),if_neg (by omega),if_neg (by omega),if_neg (by rw[q2];decide),if_pos q2]
   exact gG (vT hp)
  |false =>
  rw[aU a4]
  cases a5:aH T [102,97,108,115,101] s with
  |true =>
   have hp:dW T s=true :=by simp[e0,a5]
   obtain⟨q1,q2⟩:=(ti _).1 a5;rw[aQ a5,aQ (pX hp)];unfold fe;rw[if_neg (by omega),if_neg (by omega),if_neg (by omega),if_neg (by omega),if_neg (by rw[q2];decide),if_neg (by rw[q2];decide),if_pos q2]
   exact gG (vT hp)
  |false =>
  rw[aU a5]
  cases a3:bp T 3 s with
  |true =>
   have hp:dW T s=true :=by simp[e0,a3]
   have q:=(ki _).1 a3;rw[aQ a3,aQ (pX hp)];unfold fe;rw[if_neg (by omega),if_neg (by omega),if_pos q]
   exact gG (vT hp)
  |false =>
  rw[aU a3]
  cases a6:bp T 4 s with
  |true =>
   have hp:dW T s=true :=by simp[e0,a6]
   have q:=(ki _).1 a6;rw[aQ a6,aQ (pX hp)];unfold fe;rw[if_neg (by omega),if_neg (by omega),if_neg (by omega),if_pos q]
   exact gG (vT hp)
  |false =>
  rw[aU a6]
  cases a8:aH T [114,101,97,100] s with
  |true =>
   have hp:dW T s=true :=by simp[e0,a8]
   obtain⟨q1,q2⟩:=(ti _).1 a8;rw[aQ a8,aQ (pX hp)];unfold fe;rw[if_neg (by omega),if_neg (by omega),if_neg (by omega),if_neg (by omega),if_pos q2]
   exact gG (vT hp)
  |false =>
  rw[aU a8];unfold DP;rw[bE,cV,hx]
  cases a7:aH T [40] s with
  |true =>
   have hp:dW T s=true :=by simp[e0,a7]
   obtain⟨q1,q2⟩:=(ti _).1 a7;have ew:aS T [40] s=aE s:=by unfold aS;rw[if_pos a7]
   rw[aQ (pX hp),ew];unfold fe;rw[if_neg (by omega),if_neg (by omega),if_neg (by omega),if_neg (by omega),if_neg (by rw[q2];decide),if_neg (by rw[q2];decide),if_neg (by rw[q2];decide)];have h2:=vT hp
   cases b1:aH T [41] (aE s)with
   |true =>
    rw[aQ b1,aQ ((h2.aH _).symm.trans b1)]
    exact gG (h2.aE hT (cB b1).2)
   |false =>
    rw[aU b1,aU ((h2.aH _).symm.trans b1),jj (by simp[h2.c])]
    exact(HR hT h (fun a l=>if l=[]then a else aa.mk 7 [] 0 [] x.p (a::l) [])).at h2
  |false =>
   have hp:dW T s=false :=by simp[e0,a1,a2,a3,a4,a5,a6,a7,a8]
   have ew:aS T [40] s=dI T 11 s:=by unfold aS;rw[a7];rfl
   have hb:=bc.fail (T:=T) (c:=11) (by decide);rw[aU (pX hp),ew,aU (pz hb.ne),fE (by simp[hb.ne]),cV];exact .inr hb
theorem HU {ex gW:PM aa} (h:bT T e ex gW):bT T e (fy T N ex) (dx T N gW):=w9 (jZ hT h.1) (j6 hT h.2.1) fun s t bc=>Rr hT h bc
theorem Xz {ex gW:PM aa} (h:bT T e ex gW):bT T e (sZ T N ex) (wv T N gW):=by
  have hA:=HU (N:=N) hT h;refine w9 (w4 hT h.1) (w7 hT h.2.1) fun s t bc=> ?_
  unfold sZ wv;rw[bE,bE,←bc.tok]
  cases h1:iv T s with
  |true =>
   rw[aQ h1,aQ ((AT s t bc).symm.trans h1)]
   exact(bN hA fun a=>dA _).at (bc.aE hT (qg s h1).2)
  |false =>
   rw[aU h1,aU ((AT s t bc).symm.trans h1)]
   cases h4:bp T 4 s with
   |true =>
    have q:=(rA hT bc.c).1 h4;have hp:dW T t=true :=by rw[←sv s t bc];simp[dW,h4]
    have e1:dx T N gW t=(leaf 6 (aD T s).t 0 [] (aD T s).p,aE t):=by
      unfold dx fe;rw[bE,aQ hp,←bc.tok,if_neg (by omega),if_neg (by omega),if_neg (by omega),if_pos q];rfl
    rw[aQ h4,aN (m:=dx T N gW),e1];simp only[if_pos q]
    exact(HP sv (bN hA fun a=>dA (node1 6 (aD T s).t (aD T s).p a)) (dA _)).at (bc.aE hT (by rw[q];decide))
   |false =>
    have q:¬(aD T s).k=4:=fun h=>by rw[(rA hT bc.c).2 h]at h4;cases h4
    rw[aU h4];simp only[if_neg q];exact hA.at bc
theorem Rt {m n:PM aa} (h:bT T e m n) (a:aa):bT T e (yi T N m a) (yi T N n a):=
 ⟨sn hT h.1,sn hT h.2.1,w8 sv (fun j a=>ab.carry only_atNx (fun a=>ab.bind h.1 fun _=>ab.ret _) j a) (fun j a=>ab.carry only_atNx (fun a=>ab.bind h.2.1 fun _=>ab.ret _) j a) (fun a s t bc _=>(bN h fun b=>dA (node2 9 [] a.pos a b)).at bc) N a⟩
theorem HV {L} {m n:PM aa} (h:bT T e m n) (a:aa):bT T e (lD T N L m a) (lD T N L n a):=
 ⟨mX hT h.1,mX hT h.2.1,w8 (OM L) (fun j a=>ab.Bl hT (ee _) (fun t a=>ab.bind h.1 fun _=>ab.ret _) j a) (fun j a=>ab.Bl hT (ee _) (fun t a=>ab.bind h.2.1 fun _=>ab.ret _) j a)
  (fun a s t bc hb=>by
   rw[bE,bE,<-bc.tok];exact(bN h fun b=>dA (node2 14 (aD T s).t (aD T s).p a b)).at (bc.aE hT (ee L s hb).2)) N a⟩
theorem EM {g g':PS->Bool} (hg:eI T g) (hg':eI T g') (hs:me T e g g') {m n:PM aa} (h:bT T e m n) (a:aa):bT T e (fc T g m a) (fc T g' n a):=
 yn fun t=>⟨ab.bg hT hg (ab.bind h.1 fun _=>ab.ret _) (ab.ret _),ab.bg hT hg' (ab.bind h.2.1 fun _=>ab.ret _) (ab.ret _),EL hT hg hs (bN h fun b=>dA (node2 14 t.t t.p a b)).2.2 (ym a)⟩
theorem FY {s:PS} (hs:s.i<T.length) {x:List UInt8} (hx:isKey x=false):aH T x s=(bp T 7 s&&decide ((aD T s).t=x)):=by
 have hm:aD T s∈T:=by
  have:T[s.i]?=some (aD T s):=by simp[aD,hs]
  exact List.mem_of_getElem? this
 unfold aH bp;by_cases h6:(aD T s).k=6
 ·have:=hT.key _ hm h6
  have cK:(aD T s).t≠x:=by rintro rfl;rw[this]at hx;cases hx
  simp[cK]
 ·simp[h6]
theorem Ru:me T e (fun s=>aH T [61] s||aH T [60] s) (iw T [[61],[60]]):=fun s t bc=>by
 simp only[iw,FY hT bc.lt (x:=[61]) (by decide),FY hT bc.lt (x:=[60]) (by decide),bc.bp,bc.tok];cases bp T 7 t<;>simp
theorem Rv:me T e (aH T [58,61]) (iw T [[58,61]]):=fun s t bc=>by
 simp only[iw,FY hT bc.lt (x:=[58,61]) (by decide),bc.bp,bc.tok];cases bp T 7 t<;>simp
theorem XA {ex gW:PM aa} (h:bT T e ex gW):bT T e (sk T N ex) (ui T N gW):=by
 have h5:bT T e (uf T N ex) (jY T N gW):=bN (Xz hT h) fun a=>Rt hT (HU hT h) a
 have h4:bT T e (ug T N ex) (lp T N gW):=bN h5 fun a=>HV hT h5 a
 have h3:bT T e (wZ T N ex) (pB T N gW):=bN h4 fun a=>HV hT h4 a
 have h2:bT T e (vx T N ex) (pC T N gW):=bN h3 fun a=>EM hT ((aw T _).or (aw T _)) (ee _) (Ru hT) h3 a
 exact bN h2 fun a=>EM hT (aw T _) (ee _) (Rv hT) h2 a
theorem XB {ex gW:PM aa} (h:bT T e ex gW) (p:Int):bT T e (uh T ex p) (uh T gW p):=
 Ct hT (bN (pF hT (by decide)) fun n=>bN (pF hT (by decide)) fun f=>fV hT<|bN h fun a=>fV hT<|bN h fun b=>dA _)
  (bN (pF hT (by decide)) fun n=>fV hT<|bN h fun a=>fV hT<|bN h fun b=>dA _)
theorem XC {ex gW:PM aa} (h:bT T e ex gW) (p:Int):bT T e (wu T ex p) (wu T gW p):=
 bN (pF hT (by decide)) fun n=>fV hT<|bN h fun a=>dA _
theorem XD {ex gW:PM aa} (h:bT T e ex gW) (p:Int):bT T e (DQ T ex p) (DQ T gW p):=
 bN h fun a=>fV hT<|bN h fun b=>fV hT<|bN h fun c=>dA _
theorem OS {pat jt:PM ae} (hp:bT T e pat jt) {ex gW:PM aa} (h:bT T e ex gW) (p:Int):bT T e (yj T N pat ex p) (yk T N jt gW p):=by
 have ha:bT T e (iA T pat ex) (iA T jt gW):=bN hp fun a=>fV hT<|bN h fun b=>dA _
 have hs:bT T e (ow T N (iA T pat ex)) (ow T N (iA T jt gW)):=bN ha fun a=>bN (vz hT ha N) fun l=>dA _
 refine bN h fun a=>fV hT<|fV hT<|bN (m:=dU (fun s=>decide (s.c=0)) (ow T N (iA T pat ex)) (aO [])) ?_ fun l=>fV hT (dA _)
 refine w9 (ab.dU hs.1 (ab.ret _)) hs.2.1 fun s t bc=>?_
 rw[fE (by simp[bc.c])];exact hs.at bc
theorem XF {most lim:Nat} (rz:most<e+1↔e=lim) {pat jt:PM ae} (hp:bT T (e+1) pat jt) {ex gW:PM aa} (h:bT T (e+1) ex gW):bT T e (zN T N most pat ex (e+1)) (Cr T N lim jt gW):=
 FW rz<|yn fun t=>Ct hT (XB hT h t.p)<|Ct hT (XC hT h t.p)<|Ct hT (XD hT h t.p)<|Ct hT (OS hT hp h t.p) (XA hT h)
theorem HW {most lim:Nat}:∀(k e:Nat),(∀e',e<=e'->e'<e+k->(most<e'+1↔e'=lim))->bT T e (fm T N most k (e+1)) (EJ T N lim k)
 |0,e,_=>dA _
 |k+1,e,rz=>XF hT (rz e (Nat.le_refl _) (by omega)) (HT hT k (e+1) fun e' h1 h2=>rz e' (by omega) (by omega)) (HW k (e+1) fun e' h1 h2=>rz e' (by omega) (by omega))
theorem HX {ty pg:PM af} (h:bT T e ty pg):bT T e (fL T ty) (fL T pg):=
 yn fun t=>bN (pF hT (by decide)) fun n=>Ct hT (bN h fun a=>dA _) (dA _)
theorem Rw {ty pg:PM af} (h:bT T e ty pg):bT T e (iK T N ty) (iK T N pg):=
 yn fun t=>fV hT<|bN (Cu (cr T (by decide)) (EK 5) (pF hT (by decide)) N) fun vs=>bN (pF hT (by decide)) fun n=>fV hT<|
  bN (HX hT h) fun c=>bN (vz hT (HX hT h) N) fun cs=>fV hT (dA _)
theorem Rx {ty pg:PM af} (h:bT T e ty pg) {ex gW:PM aa} (hx:bT T e ex gW):bT T e (jh T N ty ex) (jh T N pg gW):=
 bN (Cu (aw T _) (zP _) (Rw hT h) N) fun ds=>bN hx fun b=>Xw (dA _)
end
def told {α:Type} (m:PM α):α⊕(Int×Int):=
 let r:=m ⟨0,0,0,0,0⟩
 if r.2.c=0 then .inl r.1 else .inr (r.2.c,r.2.ps)
theorem Ry {T:List Tok} (hT:bH T) {α:Type} {m n:PM α} (h:bT T 0 m n):told m=told n:=by
 have h0:mb T 0 ⟨0,0,0,0,0⟩ ⟨0,0,0,0,0⟩:=⟨rfl,rfl,rfl,rfl,rfl,hT.pos⟩;unfold told;rcases h.at h0 with⟨h1,h2⟩|h1
 ·simp only[h2.c,h2.c2,if_true,h1]
 ·simp only[if_neg h1.ne,if_neg (show ¬(n ⟨0,0,0,0,0⟩).2.c=0 by rw[<-h1.c];exact h1.ne),h1.c,h1.ps]
end Go.Proofs.YteilijfligofdaaGreatDoor.Pg
set_option linter.all false
set_option maxRecDepth 100000
namespace Go.Proofs.YteilijfligofdaaGreatDoor.Mc
open Go.AM
def Na:bz (Tryz.f33.body.map (compile [0,2,3,4,5,6,7,8,11,20,37,39] Tryz.prog 56)):=⟨_,by conv=>lhs;cbv⟩
def Rz:List MR:=[.t 2,.cell true 2 3]
theorem call33:ax Tryz.prog 33 56 Na.m Rz:=Na.call Tryz.func33 (by kernel_rfl)
def Nb:bz (Tryz.f29.body.map (compile [0,2,3,6] Tryz.prog 12)):=⟨_,by conv=>lhs;cbv⟩
def RA:List MR:=[.t 2,.cell true 2 3]
theorem call29:ax Tryz.prog 29 12 Nb.m RA:=Nb.call Tryz.func29 (by kernel_rfl)
def RB:bz (Tryz.f93.body.map (compile [0,1,4,8,24,30,40] Tryz.prog 45)):=⟨_,by conv=>lhs;cbv⟩
def aaF:List MR:=[.t 4]
theorem call93:ax Tryz.prog 93 45 RB.m aaF:=RB.call Tryz.func93 (by kernel_rfl)
def RC:bz (Tryz.f94.body.map (compile [0,1,4,5,6,7,8,9,10,15,24,56,69,95] Tryz.prog 107)):=⟨_,by conv=>lhs;cbv⟩
def aaG:List MR:=[.cell true 4 4,.t 5,.t 6]
theorem call94:ax Tryz.prog 94 107 RC.m aaG:=RC.call Tryz.func94 (by kernel_rfl)
def RD:bz (Tryz.f50.body.map (compile [0,1,4,5,6,7,8,9,10,14,17,18,24,38,43] Tryz.prog 58)):=⟨_,by conv=>lhs;cbv⟩
def aaH:List MR:=[.t 4,.cell true 2 5]
theorem call50:ax Tryz.prog 50 58 RD.m aaH:=RD.call Tryz.func50 (by kernel_rfl)
def J4:bz (Tryz.f136.body.map (compile [0,2] Tryz.prog 5)):=⟨_,by conv=>lhs;cbv⟩
def RE:List MR:=[.t 2]
theorem call136:ax Tryz.prog 136 5 J4.m RE:=J4.call Tryz.func136 (by kernel_rfl)
def J5:bz (Tryz.f137.body.map (compile [0,1,4,5,6,7,8,9,10,22,32,51] Tryz.prog 58)):=⟨_,by conv=>lhs;cbv⟩
def RF:List MR:=[.cell true 4 4,.t 5,.t 6]
theorem call137:ax Tryz.prog 137 58 J5.m RF:=J5.call Tryz.func137 (by kernel_rfl)
def J6:bz (Tryz.f126.body.map (compile [0,2] Tryz.prog 5)):=⟨_,by conv=>lhs;cbv⟩
def RG:List MR:=[.t 2]
theorem call126:ax Tryz.prog 126 5 J6.m RG:=J6.call Tryz.func126 (by kernel_rfl)
def J7:bz (Tryz.f125.body.map (compile [0,2] Tryz.prog 5)):=⟨_,by conv=>lhs;cbv⟩
def RH:List MR:=[.t 2]
theorem call125:ax Tryz.prog 125 5 J7.m RH:=J7.call Tryz.func125 (by kernel_rfl)
def FZ:bz (Tryz.f138.body.map (compile [0,1,4,5,6,7,8,9,14,28,37,44,49,56] Tryz.prog 63)):=⟨_,by conv=>lhs;cbv⟩
def J8:List MR:=[.cell true 4 4,.t 5,.t 6]
theorem call138:ax Tryz.prog 138 63 FZ.m J8:=FZ.call Tryz.func138 (by kernel_rfl)
def J9:bz (Tryz.f139.body.map (compile [0,1,4,5,6,7,8,9,16,22,31,68,69] Tryz.prog 86)):=⟨_,by conv=>lhs;cbv⟩
def RI:List MR:=[.cell true 4 4,.t 5,.t 6]
theorem call139:ax Tryz.prog 139 86 J9.m RI:=J9.call Tryz.func139 (by kernel_rfl)
def Ka:bz (Tryz.f140.body.map (compile [0] Tryz.prog 2)):=⟨_,by conv=>lhs;cbv⟩
def RJ:List MR:=[.t 0]
theorem call140:ax Tryz.prog 140 2 Ka.m RJ:=Ka.call Tryz.func140 (by kernel_rfl)
def Kb:bz (Tryz.f111.body.map (compile [0,1,2,6,17] Tryz.prog 21)):=⟨_,by conv=>lhs;cbv⟩
def RK:List MR:=[.t 6]
theorem call111:ax Tryz.prog 111 21 Kb.m RK:=Kb.call Tryz.func111 (by kernel_rfl)
def Kc:bz (Tryz.f112.body.map (compile [0,2] Tryz.prog 5)):=⟨_,by conv=>lhs;cbv⟩
def RL:List MR:=[.t 2]
theorem call112:ax Tryz.prog 112 5 Kc.m RL:=Kc.call Tryz.func112 (by kernel_rfl)
def Ke:bz (Tryz.f113.body.map (compile [0,1,4,5,6,7,8,9,10,11,15,24,51,62,75] Tryz.prog 87)):=⟨_,by conv=>lhs;cbv⟩
def RM:List MR:=[.cell true 4 4,.t 5,.cell true 2 6]
theorem call113:ax Tryz.prog 113 87 Ke.m RM:=Ke.call Tryz.func113 (by kernel_rfl)
def RN:bz (Tryz.f70.body.map (compile [0,1,2,6] Tryz.prog 15)):=⟨_,by conv=>lhs;cbv⟩
def aaI:List MR:=[.t 6]
theorem call70:ax Tryz.prog 70 15 RN.m aaI:=RN.call Tryz.func70 (by kernel_rfl)
def Kf:bz (Tryz.f127.body.map (compile [0,2] Tryz.prog 17)):=⟨_,by conv=>lhs;cbv⟩
def RO:List MR:=[.t 2]
theorem call127:ax Tryz.prog 127 17 Kf.m RO:=Kf.call Tryz.func127 (by kernel_rfl)
def Kg:bz (Tryz.f124.body.map (compile [0,2,3,4,9,17] Tryz.prog 18)):=⟨_,by conv=>lhs;cbv⟩
def RP:List MR:=[.t 2]
theorem call124:ax Tryz.prog 124 18 Kg.m RP:=Kg.call Tryz.func124 (by kernel_rfl)
def Kh:bz (Tryz.f120.body.map (compile [0,2] Tryz.prog 9)):=⟨_,by conv=>lhs;cbv⟩
def RQ:List MR:=[.t 2]
theorem call120:ax Tryz.prog 120 9 Kh.m RQ:=Kh.call Tryz.func120 (by kernel_rfl)
def Ki:bz (Tryz.f153.body.map (compile [0,2] Tryz.prog 9)):=⟨_,by conv=>lhs;cbv⟩
def RR:List MR:=[.t 2]
theorem call153:ax Tryz.prog 153 9 Ki.m RR:=Ki.call Tryz.func153 (by kernel_rfl)
def Kj:bz (Tryz.f154.body.map (compile [0,1,4,5,6,7,8,9,34] Tryz.prog 43)):=⟨_,by conv=>lhs;cbv⟩
def RS:List MR:=[.cell true 4 4,.t 5,.cell true 2 6]
theorem call154:ax Tryz.prog 154 43 Kj.m RS:=Kj.call Tryz.func154 (by kernel_rfl)
def Kk:bz (Tryz.f129.body.map (compile [0,2] Tryz.prog 9)):=⟨_,by conv=>lhs;cbv⟩
def RT:List MR:=[.t 2]
theorem call129:ax Tryz.prog 129 9 Kk.m RT:=Kk.call Tryz.func129 (by kernel_rfl)
def Kl:bz (Tryz.f155.body.map (compile [0,1,4,5,6,7,8,9,13,21,33,49] Tryz.prog 54)):=⟨_,by conv=>lhs;cbv⟩
def RU:List MR:=[.cell true 4 4,.t 5,.cell true 2 6]
theorem call155:ax Tryz.prog 155 54 Kl.m RU:=Kl.call Tryz.func155 (by kernel_rfl)
def Km:bz (Tryz.f156.body.map (compile [0,1,4,5,6,7,8,9,15,21,28,36,39,40,42,48] Tryz.prog 57)):=⟨_,by conv=>lhs;cbv⟩
def RV:List MR:=[.t 4,.t 5,.t 6]
theorem call156:ax Tryz.prog 156 57 Km.m RV:=Km.call Tryz.func156 (by kernel_rfl)
def Kn:bz (Tryz.f157.body.map (compile [0,1,4,6,7,8,9,10,17] Tryz.prog 20)):=⟨_,by conv=>lhs;cbv⟩
def RW:List MR:=[.t 4]
theorem call157:ax Tryz.prog 157 20 Kn.m RW:=Kn.call Tryz.func157 (by kernel_rfl)
def Ko:bz (Tryz.f130.body.map (compile [0,1,4] Tryz.prog 9)):=⟨_,by conv=>lhs;cbv⟩
def RY:List MR:=[.t 4]
theorem call130:ax Tryz.prog 130 9 Ko.m RY:=Ko.call Tryz.func130 (by kernel_rfl)
def RZ:bz (Tryz.f76.body.map (compile [0,1,2,6] Tryz.prog 15)):=⟨_,by conv=>lhs;cbv⟩
def aaJ:List MR:=[.t 6]
theorem call76:ax Tryz.prog 76 15 RZ.m aaJ:=RZ.call Tryz.func76 (by kernel_rfl)
def Kq:bz (Tryz.f128.body.map (compile [0,2] Tryz.prog 6)):=⟨_,by conv=>lhs;cbv⟩
def R0:List MR:=[.t 2]
theorem call128:ax Tryz.prog 128 6 Kq.m R0:=Kq.call Tryz.func128 (by kernel_rfl)
def Kr:bz (Tryz.f161.body.map (compile [0,2] Tryz.prog 17)):=⟨_,by conv=>lhs;cbv⟩
def R1:List MR:=[.t 2]
theorem call161:ax Tryz.prog 161 17 Kr.m R1:=Kr.call Tryz.func161 (by kernel_rfl)
def Ks:bz (Tryz.f177.body.map (compile [0] Tryz.prog 2)):=⟨_,by conv=>lhs;cbv⟩
def R3:List MR:=[.t 0]
theorem call177:ax Tryz.prog 177 2 Ks.m R3:=Ks.call Tryz.func177 (by kernel_rfl)
def Kt:bz (Tryz.f178.body.map (compile [0,1,4] Tryz.prog 8)):=⟨_,by conv=>lhs;cbv⟩
def R4:List MR:=[.t 4]
theorem call178:ax Tryz.prog 178 8 Kt.m R4:=Kt.call Tryz.func178 (by kernel_rfl)
def Ku:bz (Tryz.f164.body.map (compile [0,1,4,5,7,8,9,16] Tryz.prog 19)):=⟨_,by conv=>lhs;cbv⟩
def R5:List MR:=[.t 4]
theorem call164:ax Tryz.prog 164 19 Ku.m R5:=Ku.call Tryz.func164 (by kernel_rfl)
def Kv:bz (Tryz.f199.body.map (compile [0,1,4] Tryz.prog 18)):=⟨_,by conv=>lhs;cbv⟩
def R6:List MR:=[.t 4]
theorem call199:ax Tryz.prog 199 18 Kv.m R6:=Kv.call Tryz.func199 (by kernel_rfl)
end Go.Proofs.YteilijfligofdaaGreatDoor.Mc
namespace Go.Proofs.YteilijfligofdaaGreatDoor.Qp
open Go.AM Mc Pg
theorem ea {n:Int} (h1:-9223372036854775808<=n) (h2:n<=9223372036854775807):wr .i64 n=n:=by
 simp[wr,IntKind.wrap,IntKind.bits,IntKind.signed];omega
theorem cH (x:Nat) (h:x<=4611686018427387904):wr .i64 ((x:Int)+1)=((x+1:Nat):Int):=by rw[ea (by omega) (by omega)];omega
theorem bP:ia=140737488355328:=rfl
theorem dT {p:Prop} (h:p) (i:Decidable p):@decide p i=true:=decide_eq_true h
theorem dF {p:Prop} (h:¬p) (i:Decidable p):@decide p i=false:=decide_eq_false h
abbrev Cv (c:UInt8):AV:=.p (.i .u8 (c.toNat:Int))
def xa (f:Nat) (q:UInt8->Bool):Prop:=∀(c:UInt8) (H:List AO),al Tryz.prog f [Cv c] H (aP (.p (.b (q c))) H)
theorem vA:xa 120 gq:=by
 intro c H;refine call120 (by simp) ?_;simp only[go_sem,simprocAttr,Kh,RQ];cases h:decide ((97:Int)<=(c.toNat:Int))
 ·simp only[go_sem,simprocAttr,h]
  exact⟨by simp[gq,h],rfl⟩
 ·simp only[go_sem,simprocAttr,h]
  exact⟨by simp[gq,h],rfl⟩
theorem Bm:xa 129 ig:=by
 intro c H;refine call129 (by simp) ?_;simp only[go_sem,simprocAttr,Kk,RT];cases h:decide ((65:Int)<=(c.toNat:Int))
 ·simp only[go_sem,simprocAttr,h]
  exact⟨by simp[ig,h],rfl⟩
 ·simp only[go_sem,simprocAttr,h]
  exact⟨by simp[ig,h],rfl⟩
theorem F0:xa 153 ez:=by
 intro c H;refine call153 (by simp) ?_;simp only[go_sem,simprocAttr,Ki,RR];cases h:decide ((48:Int)<=(c.toNat:Int))
 ·simp only[go_sem,simprocAttr,h]
  exact⟨by simp[ez,h],rfl⟩
 ·simp only[go_sem,simprocAttr,h]
  exact⟨by simp[ez,h],rfl⟩
theorem F1:xa 161 cx:=by
 intro c H;refine call161 (by simp) ?_;simp only[go_sem,simprocAttr,Kr,R1];refine U (vA c H) ?_;cases h1:gq c
 ·simp only[go_sem,simprocAttr,h1]
  refine U (Bm c H) ?_;cases h2:ig c
  ·simp only[go_sem,simprocAttr,h2]
   refine U (F0 c H) ?_;cases h3:ez c
   ·simp only[go_sem,simprocAttr,h3]
    exact⟨by simp[cx,h1,h2,h3],rfl⟩
   ·simp only[go_sem,simprocAttr,h3]
    exact⟨by simp[cx,h1,h2,h3],rfl⟩
  ·simp only[go_sem,simprocAttr,h2]
   exact⟨by simp[cx,h1,h2],rfl⟩
 ·simp only[go_sem,simprocAttr,h1]
  exact⟨by simp[cx,h1],rfl⟩
theorem nlC:xa 112 kG:=by
 intro c H;refine call112 (by simp) ?_;simp only[go_sem,simprocAttr,Kc,RL];exact⟨rfl,rfl⟩
theorem EN {f:Nat} {q:UInt8->Bool} (hf:xa f q) {s:List UInt8} (hs:s.length<=1099511627776) {i:Nat} (hi:i<=s.length) (H:List AO):
  al Tryz.prog 111 [.p (.s s),.p (.i .i64 i),.eB f []] H (aP (.p (.i .i64 (bo q s i:Nat))) H):=by
 refine call111 (by simp) ?_;simp only[go_sem,simprocAttr,Kb,RK];refine⟨Nat,[0,1,2,6],fun x st=>(i<=x/\x<=s.length/\bo q s x=bo q s i)/\st=⟨[(0,.p (.s s)),(1,.p (.i .i64 x)),(2,.eB f []),(6,.p (.i .i64 0))],[],H⟩,fun x=>s.length-x,⟨i,?_⟩,?_⟩
 ·simp only[go_sem,simprocAttr]
  exact⟨Nat.le_refl _,hi⟩
 ·rintro x _ ⟨⟨h1,h2,h3⟩,rfl⟩
  by_cases aF:x<s.length
  ·have d1:decide ((x:Int)<(s.length:Int))=true:=by simp;omega
   have hg:s[x]?=some s[x]:=by simp[aF]
   simp only[go_sem,simprocAttr,d1,hg];intro _;refine U (hf s[x] H) ?_;cases hq:q s[x]
   ·simp only[go_sem,simprocAttr,hq]
    refine⟨?_,rfl⟩;rw[<-h3,uc aF hq]
   ·simp only[go_sem,simprocAttr,hq,cH x (by omega)]
    exact⟨x+1,⟨⟨by omega,by omega,by rw[<-h3,kW aF hq]⟩,rfl⟩,by omega⟩
  ·have d1:decide ((x:Int)<(s.length:Int))=false:=by simp;omega
   simp only[go_sem,simprocAttr,d1];intro _;refine⟨?_,rfl⟩;rw[<-h3,ud q (by omega)]
theorem eZ (H A:List AO) (k:Nat):(H++A)[H.length+k]?=A[k]?:=by rw[List.getElem?_append_right (by omega),Nat.add_sub_cancel_left]
theorem fX (H A:List AO):(H++A)[H.length]?=A[0]?:=eZ H A 0
theorem p4 (H A:List AO) (k:Nat) (o:AO):(H++A).set (H.length+k) o=H++A.set k o:=by rw[List.set_append_right _ _ (by omega),Nat.add_sub_cancel_left]
theorem tm (H A:List AO) (o:AO):(H++A).set H.length o=H++A.set 0 o:=p4 H A 0 o
attribute [go_sem] eZ fX p4 tm
theorem mf (cs:List AV) (h:∀c∈cs,Tf c):Tf (.dK cs):=fun θ aX W v hv=>by
 cases hv with
 |dK _ us hs hc=>exact .dK _ us hs fun j c v hj hu=>h c (List.mem_of_getElem? hj) _ _ _ _ (hc j c v hj hu)
theorem dP (cs:List PV):Tf (.st (cs.map .p)):=JP _ (by intro c hc;obtain⟨x,_,rfl⟩:=List.mem_map.1 hc;exact bw x)
theorem XG {H:List AO} {j v:Nat} {L:List (List UInt8)} {t:List UInt8} (hj:H[j]?=some (.rows 1 v (L.map fun x=>[.p (.s x)]))) (hl:L.length<=1000):
  al Tryz.prog 164 [.gs j v 0 L.length,.p (.s t)] H (fun r H'=>H'=H/\∃z:Int,r=.p (.i .i64 z)/\decide (0<=z)=decide (t∈L)):=by
 refine call164 (by simp) ?_;simp only[go_sem,simprocAttr,Ku,R5];intro _;refine⟨Nat,[0,1,7,8],fun x st=>(x<=L.length/\t∉L.take x)/\st=⟨[(0,.gs j v 0 L.length),(1,.p (.s t)),(7,.p (.i .i64 L.length)),(8,.p (.i .i64 x))],[],H⟩,fun x=>L.length-x,⟨0,?_⟩,?_⟩
 ·simp only[go_sem,simprocAttr]
  simp
 ·rintro x _ ⟨⟨hx,hn⟩,rfl⟩
  by_cases aF:x<L.length
  ·have d1:decide ((x:Int)<(L.length:Int))=true:=by simp;omega
   have hg:(L.map fun x=>[AV.p (.s x)])[x]?=some [.p (.s L[x])]:=by simp[aF]
   simp only[go_sem,simprocAttr,d1,hj,hg,aF];by_cases ht:t=L[x]
   ·have d2:decide (t=L[x])=true:=by simp[ht]
    simp only[go_sem,simprocAttr,d2];refine⟨by omega,(x:Int),rfl,?_⟩;rw[decide_eq_true (show(0:Int)<=(x:Int)by omega),decide_eq_true (by rw[ht];exact List.getElem_mem aF)]
   ·have d2:decide (t=L[x])=false:=by simp[ht]
    simp only[go_sem,simprocAttr,d2,cH x (by omega)];refine⟨by omega,x+1,⟨⟨by omega,?_⟩,rfl⟩,by omega⟩;rw[List.take_succ_eq_append_getElem aF];simp only[List.mem_append,List.mem_singleton,not_or];exact⟨hn,ht⟩
  ·have d1:decide ((x:Int)<(L.length:Int))=false:=by simp;omega
   simp only[go_sem,simprocAttr,d1];refine⟨-1,rfl,?_⟩;rw[List.take_of_length_le (by omega)]at hn;simp[hn]
theorem sw {H:List AO} {j v:Nat} {L:List (List UInt8)} {t:List UInt8} (hj:H[j]?=some (.rows 1 v (L.map fun x=>[.p (.s x)]))) (hl:L.length<=1000):
  al Tryz.prog 130 [.gs j v 0 L.length,.p (.s t)] H (aP (.p (.b (decide (t∈L)))) H):=by
 refine call130 (by simp) ?_;simp only[go_sem,simprocAttr,Ko,RY];refine(XG hj hl).mono ?_;rintro r H' ⟨rfl,z,rfl,hz⟩;simp only[go_sem,simprocAttr,hz];exact⟨rfl,rfl⟩
theorem aaK (t:List UInt8) (H:List AO):al Tryz.prog 128 [.p (.s t)] H (aP (.p (.b (isKey t))) H):=by
 refine aV ?_ (bw _);refine call128 (by simp) ?_;simp only[go_sem,simprocAttr,Kq,R0];refine U (sw (L:=keys) (t:=t) (by rw[fX];rfl) (by decide)) ?_;simp only[go_sem,simprocAttr];exact⟨rfl,_,rfl⟩
abbrev tv (x:Tok):AV:=.st (x.cells.map .p)
def mg:(Tok×Nat)⊕Int->Nat->AV
 | .inl (t,e),_=>.dK [tv t,.p (.i .i64 (e:Int)),.st [.p (.i .i64 0),.p (.i .i64 0)]]
 | .inr c,i=>.dK [.st [.p (.i .i64 0),.p (.s []),.p (.i .i64 0),.p (.i .i64 0)],.p (.i .i64 0),.st [.p (.i .i64 c),.p (.i .i64 (i:Int))]]
theorem zR (x i):Tf (mg x i):=by
 rcases x with⟨t,e⟩|c
 ·refine mf _ ?_
  intro c hc;simp only[List.mem_cons,List.not_mem_nil,or_false]at hc;rcases hc with rfl|rfl|rfl
  ·exact dP _
  ·exact bw _
  ·exact dP [.i .i64 0,.i .i64 0]
 ·refine mf _ ?_
  intro x hc;simp only[List.mem_cons,List.not_mem_nil,or_false]at hc;rcases hc with rfl|rfl|rfl
  ·exact dP [.i .i64 0,.s [],.i .i64 0,.i .i64 0]
  ·exact bw _
  ·exact dP [.i .i64 c,.i .i64 i]
theorem zS {s:List UInt8} (hs:s.length<=1099511627776) {i f:Nat} (hi:i<s.length) (hf:f<=s.length):bo cx s f<=s.length/\f<=bo cx s f:=⟨lB _ hf,o0 _ _ _⟩
theorem Kw {s:List UInt8} (hs:s.length<=1099511627776) {i:Nat} (hi:i<s.length) (H:List AO):
  al Tryz.prog 155 [.p (.s s),.p (.i .i64 i)] H (aP (mg (fb s i s[i]) i) H):=by
 refine aV ?_ (zR _ _);have hg:s[i]?=some s[i]:=by simp[hi]
 refine call155 (by simp) ?_;simp only[go_sem,simprocAttr,Kl,RU,hg];cases lZ:decide ((s[i].toNat:Int)=39)
 ·simp only[go_sem,simprocAttr,lZ,hg]
  refine U (Bm s[i] _) ?_;have ta:=of_decide_eq_false lZ;cases ux:ig s[i]
  ·simp only[go_sem,simprocAttr,ux]
   obtain⟨r1,r2⟩:=zS hs hi (f:=i) (by omega);refine U (EN F1 hs (i:=i) (by omega) _) ?_;have ew:wr .i64 ((bo cx s (i):Int)-((i:Nat):Int))=((bo cx s (i)-(i):Nat):Int):=by rw[ea (by omega) (by omega)];omega
   by_cases gz:12<bo cx s (i)-(i)
   ·have d12:decide ((12:Int)<((bo cx s (i)-(i):Nat):Int))=true:=by simp;omega
    simp only[go_sem,simprocAttr,ew,d12];have hw:fb s i s[i]=.inr 2:=by unfold fb jf;rw[if_neg ta,if_pos gz]
    rw[hw];exact⟨rfl,_,rfl⟩
   ·have d12:decide ((12:Int)<((bo cx s (i)-(i):Nat):Int))=false:=by simp;omega
    simp only[go_sem,simprocAttr,ew,d12];refine⟨by omega,by omega,?_⟩;refine U (aaK _ _) ?_;cases hk:isKey (List.take (bo cx s (i)-(i)) (List.drop (i) s))
    ·simp only[go_sem,simprocAttr,hk]
     have hw:fb s i s[i]=.inl (⟨3,List.take (bo cx s (i)-(i)) (List.drop (i) s),0,i⟩,bo cx s (i)):=by unfold fb jf;rw[if_neg ta,if_neg gz,hk,ux];simp[ta]
     rw[hw];exact⟨rfl,_,rfl⟩
    ·simp only[go_sem,simprocAttr,hk]
     have hw:fb s i s[i]=.inl (⟨6,List.take (bo cx s (i)-(i)) (List.drop (i) s),0,i⟩,bo cx s (i)):=by unfold fb jf;rw[if_neg ta,if_neg gz,hk,ux];simp[ta]
     rw[hw];exact⟨rfl,_,rfl⟩
  ·simp only[go_sem,simprocAttr,ux]
   obtain⟨r1,r2⟩:=zS hs hi (f:=i) (by omega);refine U (EN F1 hs (i:=i) (by omega) _) ?_;have ew:wr .i64 ((bo cx s (i):Int)-((i:Nat):Int))=((bo cx s (i)-(i):Nat):Int):=by rw[ea (by omega) (by omega)];omega
   by_cases gz:12<bo cx s (i)-(i)
   ·have d12:decide ((12:Int)<((bo cx s (i)-(i):Nat):Int))=true:=by simp;omega
    simp only[go_sem,simprocAttr,ew,d12];have hw:fb s i s[i]=.inr 2:=by unfold fb jf;rw[if_neg ta,if_pos gz]
    rw[hw];exact⟨rfl,_,rfl⟩
   ·have d12:decide ((12:Int)<((bo cx s (i)-(i):Nat):Int))=false:=by simp;omega
    simp only[go_sem,simprocAttr,ew,d12];refine⟨by omega,by omega,?_⟩;have hw:fb s i s[i]=.inl (⟨4,List.take (bo cx s (i)-(i)) (List.drop (i) s),0,i⟩,bo cx s (i)):=by unfold fb jf;rw[if_neg ta,if_neg gz];simp[ta,ux]
    rw[hw];exact⟨rfl,_,rfl⟩
 ·have ta:=of_decide_eq_true lZ
  simp only[go_sem,simprocAttr,lZ,hg,cH i (by omega)];obtain⟨r1,r2⟩:=zS hs hi (f:=i+1) (by omega);refine U (EN F1 hs (i:=i+1) (by omega) _) ?_;have ew:wr .i64 ((bo cx s (i+1):Int)-((i+1:Nat):Int))=((bo cx s (i+1)-(i+1):Nat):Int):=by rw[ea (by omega) (by omega)];omega
  by_cases gz:12<bo cx s (i+1)-(i+1)
  ·have d12:decide ((12:Int)<((bo cx s (i+1)-(i+1):Nat):Int))=true:=by simp;omega
   simp only[go_sem,simprocAttr,ew,d12];have hw:fb s i s[i]=.inr 2:=by unfold fb jf;rw[if_pos ta,if_pos gz]
   rw[hw];exact⟨rfl,_,rfl⟩
  ·have d12:decide ((12:Int)<((bo cx s (i+1)-(i+1):Nat):Int))=false:=by simp;omega
   simp only[go_sem,simprocAttr,ew,d12];refine⟨by omega,by omega,?_⟩;have hw:fb s i s[i]=.inl (⟨5,List.take (bo cx s (i+1)-(i+1)) (List.drop (i+1) s),0,i⟩,bo cx s (i+1)):=by unfold fb jf;rw[if_pos ta,if_neg gz];simp[ta]
   rw[hw];exact⟨rfl,_,rfl⟩
theorem ac3 (s g:List UInt8) (hs:s.length<=1099511627776) (hg:g.length<=100) (H:List AO):al Tryz.prog 178 [.p (.s s),.p (.s g)] H (aP (.p (.b (preB g s))) H):=by
 refine call178 (by simp) ?_;simp only[go_sem,simprocAttr,Kt,R4];refine U (r0:=.p (.b (preB g s))) (H0:=H) ?_ ?_
 ·refine call199 (by simp) ?_
  simp only[go_sem,simprocAttr,Kv,R6];intro _ _;by_cases hl:g.length<=s.length
  ·have d1:decide ((g.length:Int)<=(s.length:Int))=true:=by simp;omega
   simp only[go_sem,simprocAttr,d1];intro _;exact⟨by omega,by simp[preB],rfl⟩
  ·have d1:decide ((g.length:Int)<=(s.length:Int))=false:=by simp;omega
   simp only[go_sem,simprocAttr,d1];refine⟨?_,rfl⟩
   have:preB g s=false:=by
    unfold preB;refine decide_eq_false fun h=>?_
    have:=congrArg List.length h;rw[List.length_take]at this;omega
   rw[this]
 ·simp only[go_sem,simprocAttr]
  exact⟨rfl,rfl⟩
def gr (L:List (List UInt8)):List (List AV):=L.map fun x=>[.p (.s x)]
theorem j9 {L:List (List UInt8)} {x:Nat} (h:x<L.length):(gr L)[x]?=some [.p (.s L[x])]:=by simp[gr,h]
theorem XH (H:List AO):al Tryz.prog 177 [] H (fun r H'=>r=.gs H.length 0 0 15/\H'=H++[.rows 1 0 (gr bA)]):=by
 refine call177 (by simp) ?_;simp only[go_sem,simprocAttr,Ks,R3]
 rfl
theorem qj {l:List UInt8} {L:List (List UInt8)} {x:Nat} (h:x<L.length):eP l (L.drop x)=if preB L[x] l then L[x]else eP l (L.drop (x+1)):=by
 rw[List.drop_eq_getElem_cons h,eP]
theorem qm {x:Nat} (h:x<bA.length):bA[x].length<=2:=by
 have:∀g∈bA,g.length<=2:=by decide
 exact this _ (List.getElem_mem h)
theorem Kx {s:List UInt8} (hs:s.length<=1099511627776) {i:Nat} (hi:i<=s.length) (H:List AO):
  al Tryz.prog 157 [.p (.s s),.p (.i .i64 i)] H (aP (.p (.s (eP (s.drop i) bA))) H):=by
 refine aV ?_ (bw _);refine call157 (by simp) ?_;simp only[go_sem,simprocAttr,Kn,RW];refine(XH H).mono ?_;rintro r H' ⟨rfl,rfl⟩;simp only[go_sem,simprocAttr];intro _;refine⟨Nat,[0,1,4,7,8,9],fun x st=>(x<=15/\eP (s.drop i) (bA.drop x)=eP (s.drop i) bA)/\st=⟨[(0,.p (.s s)),(1,.p (.i .i64 i)),(4,.p (.s [])),(7,.gs H.length 0 0 15),(8,.p (.i .i64 15)),(9,.p (.i .i64 x))],[],H++[.rows 1 0 (gr bA)]⟩,fun x=>15-x,⟨0,?_⟩,?_⟩
 ·simp only[go_sem,simprocAttr]
 ·rintro x _ ⟨⟨hx,hn⟩,rfl⟩
  have hlen:bA.length=15:=rfl;by_cases aF:x<15
  ·have dr:x<bA.length:=aF
   have d1:decide ((x:Int)<15)=true:=by simp;omega
   rw[qj dr]at hn;have et:List.take (s.length-i) (s.drop i)=s.drop i:=List.take_of_length_le (by simp);simp only[go_sem,simprocAttr,d1,j9 dr];refine⟨by omega,?_⟩;rw[et];refine⟨by omega,?_⟩;refine U (ac3 (s.drop i) bA[x] (by rw[List.length_drop];omega) (by have:=qm dr;omega) _) ?_;cases hp:preB bA[x] (s.drop i)
   ·rw[hp]at hn
    simp only[go_sem,simprocAttr,hp,cH x (by omega)];exact⟨x+1,⟨⟨by omega,by simpa using hn⟩,rfl⟩,by omega⟩
   ·rw[hp]at hn
    simp only[go_sem,simprocAttr,hp];rw[if_pos rfl]at hn;exact⟨by rw[hn],_,rfl⟩
  ·have d1:decide ((x:Int)<15)=false:=by simp;omega
   have:bA.drop x=[]:=List.drop_of_length_le (by omega);rw[this,eP]at hn;simp only[go_sem,simprocAttr,d1];exact⟨by rw[<-hn],_,rfl⟩
def cR (l:List UInt8):List (List AV):=l.map fun c=>[Cv c]
theorem bF (l):(cR l).length=l.length:=by simp[cR]
theorem ka (l c):cR (l++[c])=cR l++[[Cv c]]:=by simp[cR]
theorem Ky (l:List UInt8):bytesOf (cR l)=some l:=by
  induction l with
  |nil=>rfl
  |cons c l ih=>
   show(bytesOf (cR l)).map _ =_;rw[ih];simp
theorem yo {H:List AO} {a:AV} {l:List UInt8} (h:iG H a 1 (cR l)) (hl:l.length<=140737488355328):p8 H a=some (.p (.s l)):=by
 rcases h with⟨rfl,h⟩|⟨id,ver,rfl,h⟩
 ·have:l=[]:=by simpa[cR]using h
  rw[this];rfl
 ·simp only[go_sem,simprocAttr,h]
  have iC:(cR l).length<=140737488355328:=by rw[bF];exact hl
  rw[if_pos (Nat.le_refl _),List.take_length,Jq,if_pos iC,Ky]
  rfl
theorem gH {H H':List AO} (h:∀(j:Nat) o,H[j]?=some o->H'[j]?=some o):∃G,H'=H++G:=by
 refine⟨H'.drop H.length,List.ext_getElem? fun j=>?_⟩;rcases Nat.lt_or_ge j H.length with hj|hj
 ·rw[List.getElem?_append_left hj,h j H[j] (by simp[hj])];simp[hj]
 ·rw[List.getElem?_append_right hj,List.getElem?_drop];congr 1;omega
theorem uy {H H':List AO} (h:∀(j:Nat) o,H[j]?=some o->H'[j]?=some o):H.length<=H'.length:=by
 obtain⟨G,rfl⟩:=gH h;simp
theorem F2 (c:UInt8):wr .i64 (c.toNat:Int)=(c.toNat:Int):=ea (by omega) (by have:=c.toNat_lt;omega)
theorem uz (n lo hi:Int) (H:List AO):al Tryz.prog 76 [.p (.i .i64 n),.p (.i .i64 lo),.p (.i .i64 hi)] H (aP (.p (.b (decide (lo<=n)&&decide (n<=hi)))) H):=by
 refine call76 (by simp) ?_;simp only[go_sem,simprocAttr,RZ,aaJ];cases h:decide (lo<=n)
 ·simp only[go_sem,simprocAttr,h]
  exact⟨by simp,rfl⟩
 ·simp only[go_sem,simprocAttr,h]
  exact⟨by simp,rfl⟩
theorem R7 {s:List UInt8} (hs:s.length<=1099511627776) {i:Nat} (hi:i<s.length) (H:List AO):
  al Tryz.prog 156 [.p (.s s),.p (.i .i64 i)] H (aP (match gi s (i+1) []with
   |some (t,e)=>.dK [.p (.s t),.p (.i .i64 (e:Int)),.p (.b true)]
   |none=>.dK [.p (.s []),.p (.i .i64 0),.p (.b false)]) H):=by
 have tf:Tf (match gi s (i+1) []with
   |some (t,e)=>.dK [.p (.s t),.p (.i .i64 (e:Int)),.p (.b true)]
   |none=>.dK [.p (.s []),.p (.i .i64 0),.p (.b false)]):=by
  split <;>exact mf _ (by intro c hc;simp at hc;rcases hc with rfl|rfl|rfl<;>exact bw _)
 refine aV ?_ tf;clear tf;generalize hR:gi s (i+1) []=R;refine call156 (by simp) ?_;simp only[go_sem,simprocAttr,Km,RV,cH i (by omega)];refine⟨Nat×List UInt8×AV×List AO,[0,1,4,5,6,7,8],fun x st=>(x.1<=s.length/\x.2.1.length<=x.1/\gi s x.1 x.2.1=R/\iG x.2.2.2 x.2.2.1 1 (cR x.2.1)/\(∀id v o m,x.2.2.1=.gs id v o m->H.length<=id)/\∀(j:Nat) o,H[j]?=some o->x.2.2.2[j]?=some o)/\st=⟨[(0,.p (.s s)),(1,.p (.i .i64 i)),(4,.p (.s [])),(5,.p (.i .i64 0)),(6,.p (.b false)),(7,x.2.2.1),(8,.p (.i .i64 x.1))],[],x.2.2.2⟩,fun x=>s.length-x.1,⟨(i+1,[],.p .nl,H),?_⟩,?_⟩
 ·simp only[go_sem,simprocAttr]
  exact⟨by omega,hR,.inl ⟨rfl,rfl⟩,fun _ _ _ _ h=>h.elim,fun _ _ h=>h⟩
 ·rintro⟨x,out,a,H1⟩ _ ⟨⟨h1,h2,h3,h4,h5,h6⟩,rfl⟩
  simp only at h1 h2 h3 h4 h5 h6⊢;obtain⟨G0,R8⟩:=gH h6;by_cases aF:x<s.length
  ·have d1:decide ((x:Int)<(s.length:Int))=true:=by simp;omega
   have hg:s[x]?=some s[x]:=by simp[aF]
   rw[gi,dif_pos aF]at h3;simp only[go_sem,simprocAttr,d1,hg];intro _;cases gk:decide ((s[x].toNat:Int)=34)
   ·have n34:=of_decide_eq_false gk
    rw[if_neg n34]at h3;cases tq:decide ((s[x].toNat:Int)=92)
    ·have Kz:=of_decide_eq_false tq
     rw[if_neg Kz]at h3;simp only[go_sem,simprocAttr,gk,tq,F2];refine U (uz _ _ _ _) ?_;cases hp:ub s[x]
     ·have pd:=hp
      unfold ub at pd;rw[hp]at h3;simp only[go_sem,simprocAttr,pd];rw[<-h3];exact⟨rfl,_,R8⟩
     ·have pd:=hp
      unfold ub at pd;rw[if_pos hp]at h3;simp only[go_sem,simprocAttr,pd];refine⟨by intro r hr;simp at hr;subst hr;rfl,?_⟩;refine gb (rs:=cR out) (ys:=[[Cv s[x]]]) h4.ext (by rw[bF];simp;omega) (by rw[bF];simp;omega) ?_;intro id ver H4 k1 k2 k3 k4;rw[bF];simp only[go_sem,simprocAttr,cH x (by omega)];refine⟨(x+1,out++[s[x]],.gs id ver 0 (out.length+1),H4),⟨⟨by omega,by simp;omega,h3,.inr ⟨id,ver,by simp[bF],by rw[ka];exact k1⟩,?_,?_⟩,rfl⟩,by simp only;omega⟩
      ·intro jC v o m' e
       cases e;rcases k2 with⟨v,o,n',e⟩|h
       ·exact h5 _ _ _ _ e
       ·have:=uy h6;simp at h;omega
      ·intro j o hj
       refine k3 j o (ag (h6 j o hj) _) (fun v o' n' e=>?_);have:=h5 _ _ _ _ e;have:=aT hj;omega
    ·have Kz:=of_decide_eq_true tq
     rw[if_pos Kz]at h3;simp only[go_sem,simprocAttr,gk,tq,cH x (by omega)];intro _;by_cases mP:x+1<s.length
     ·have jR:s[x+1]?=some s[x+1]:=by simp[mP]
      have d2:decide (((x+1:Nat):Int)=(s.length:Int))=false:=by simp;omega
      rw[dif_pos mP]at h3;simp only[go_sem,simprocAttr,d2,jR];cases rB:decide ((s[x+1].toNat:Int)=110)
      ·rw[if_neg (of_decide_eq_false rB)]at h3
       cases hq:decide ((s[x+1].toNat:Int)=34)
       ·cases hw:decide ((s[x+1].toNat:Int)=92)
        ·rw[if_neg (by rw[not_or];exact⟨of_decide_eq_false hq,of_decide_eq_false hw⟩)]at h3
         simp only[go_sem,simprocAttr,rB,hq,hw];rw[<-h3];exact⟨rfl,_,R8⟩
        ·rw[if_pos (.inr (of_decide_eq_true hw))]at h3
         simp only[go_sem,simprocAttr,rB,hq,hw,jR];refine⟨by intro r hr;simp at hr;subst hr;rfl,?_⟩;refine gb (rs:=cR out) (ys:=[[Cv s[x+1]]]) h4.ext (by rw[bF];simp;omega) (by rw[bF];simp;omega) ?_;intro id ver H4 k1 k2 k3 k4;rw[bF];simp only[go_sem,simprocAttr,cH (x+1) (by omega)];refine⟨(x+2,out++[s[x+1]],.gs id ver 0 (out.length+1),H4),⟨⟨by omega,by simp;omega,h3,.inr ⟨id,ver,by simp[bF],by rw[ka];exact k1⟩,?_,?_⟩,rfl⟩,by simp only;omega⟩
         ·intro jC v o m' e
          cases e;rcases k2 with⟨v,o,n',e⟩|h
          ·exact h5 _ _ _ _ e
          ·have:=uy h6;simp at h;omega
         ·intro j o hj
          refine k3 j o (ag (h6 j o hj) _) (fun v o' n' e=>?_);have:=h5 _ _ _ _ e;have:=aT hj;omega
       ·rw[if_pos (.inl (of_decide_eq_true hq))]at h3
        simp only[go_sem,simprocAttr,rB,hq,jR];refine⟨by intro r hr;simp at hr;subst hr;rfl,?_⟩;refine gb (rs:=cR out) (ys:=[[Cv s[x+1]]]) h4.ext (by rw[bF];simp;omega) (by rw[bF];simp;omega) ?_;intro id ver H4 k1 k2 k3 k4;rw[bF];simp only[go_sem,simprocAttr,cH (x+1) (by omega)];refine⟨(x+2,out++[s[x+1]],.gs id ver 0 (out.length+1),H4),⟨⟨by omega,by simp;omega,h3,.inr ⟨id,ver,by simp[bF],by rw[ka];exact k1⟩,?_,?_⟩,rfl⟩,by simp only;omega⟩
        ·intro jC v o m' e
         cases e;rcases k2 with⟨v,o,n',e⟩|h
         ·exact h5 _ _ _ _ e
         ·have:=uy h6;simp at h;omega
        ·intro j o hj
         refine k3 j o (ag (h6 j o hj) _) (fun v o' n' e=>?_);have:=h5 _ _ _ _ e;have:=aT hj;omega
      ·rw[if_pos (of_decide_eq_true rB)]at h3
       simp only[go_sem,simprocAttr,rB];refine⟨by intro r hr;simp at hr;subst hr;rfl,?_⟩;refine gb (rs:=cR out) (ys:=[[Cv 10]]) h4.ext (by rw[bF];simp;omega) (by rw[bF];simp;omega) ?_;intro id ver H4 k1 k2 k3 k4;rw[bF];simp only[go_sem,simprocAttr,cH (x+1) (by omega)];refine⟨(x+2,out++[10],.gs id ver 0 (out.length+1),H4),⟨⟨by omega,by simp;omega,h3,.inr ⟨id,ver,by simp[bF],by rw[ka];exact k1⟩,?_,?_⟩,rfl⟩,by simp only;omega⟩
       ·intro jC v o m' e
        cases e;rcases k2 with⟨v,o,n',e⟩|h
        ·exact h5 _ _ _ _ e
        ·have:=uy h6;simp at h;omega
       ·intro j o hj
        refine k3 j o (ag (h6 j o hj) _) (fun v o' n' e=>?_);have:=h5 _ _ _ _ e;have:=aT hj;omega
     ·have d2:decide (((x+1:Nat):Int)=(s.length:Int))=true:=by simp;omega
      rw[dif_neg mP]at h3;simp only[go_sem,simprocAttr,d2];rw[<-h3];exact⟨rfl,_,R8⟩
   ·rw[if_pos (of_decide_eq_true gk)]at h3
    have hb:=yo h4 (by omega);simp only[go_sem,simprocAttr,gk,hb,cH x (by omega)];rw[<-h3];exact⟨rfl,_,R8⟩
  ·have d1:decide ((x:Int)<(s.length:Int))=false:=by simp;omega
   rw[gi,dif_neg aF]at h3;simp only[go_sem,simprocAttr,d1];intro _;rw[<-h3];exact⟨rfl,_,R8⟩
end Go.Proofs.YteilijfligofdaaGreatDoor.Qp
namespace Go.Proofs.YteilijfligofdaaGreatDoor.Qp
open Go.AM Go.Shelf Mc Pg
def HY:Ren:=⟨fun x=>match x with|172=>176|244=>197|245=>198|247=>207|279=>208|280=>209|281=>210|282=>211|287=>216|316=>217|171=>61|205=>218|321=>219|322=>220|243=>121|246=>162|283=>180|284=>181|285=>182|286=>183|129=>201|317=>200|318=>202|319=>203|320=>204|337=>212|338=>213|n=>n,
 fun x=>match x with|75=>168|76=>169|167=>204|37=>22|85=>205|168=>207|53=>189|175=>211|46=>162|210=>214|127=>184|145=>221|143=>219|171=>188|173=>192|212=>200|51=>201|213=>202|232=>216|233=>217|80=>171|n=>n,
 fun x=>match x with|15=>2|16=>3|17=>0|18=>4|19=>5|n=>n⟩
theorem zT:LaysC.n172 Tryz.prog HY where
 mixed:=by kernel_rfl
 f129:=Eq.trans Tryz.func201 (by kernel_rfl)
 f171:=Eq.trans Tryz.func61 (by kernel_rfl)
 f172:=Eq.trans Tryz.func176 (by kernel_rfl)
 f205:=Eq.trans Tryz.func218 (by kernel_rfl)
 f243:=Eq.trans Tryz.func121 (by kernel_rfl)
 f244:=Eq.trans Tryz.func197 (by kernel_rfl)
 f245:=Eq.trans Tryz.func198 (by kernel_rfl)
 f246:=Eq.trans Tryz.func162 (by kernel_rfl)
 f247:=Eq.trans Tryz.func207 (by kernel_rfl)
 f279:=Eq.trans Tryz.func208 (by kernel_rfl)
 f280:=Eq.trans Tryz.func209 (by kernel_rfl)
 f281:=Eq.trans Tryz.func210 (by kernel_rfl)
 f282:=Eq.trans Tryz.func211 (by kernel_rfl)
 f283:=Eq.trans Tryz.func180 (by kernel_rfl)
 f284:=Eq.trans Tryz.func181 (by kernel_rfl)
 f285:=Eq.trans Tryz.func182 (by kernel_rfl)
 f286:=Eq.trans Tryz.func183 (by kernel_rfl)
 f287:=Eq.trans Tryz.func216 (by kernel_rfl)
 f316:=Eq.trans Tryz.func217 (by kernel_rfl)
 f317:=Eq.trans Tryz.func200 (by kernel_rfl)
 f318:=Eq.trans Tryz.func202 (by kernel_rfl)
 f319:=Eq.trans Tryz.func203 (by kernel_rfl)
 f320:=Eq.trans Tryz.func204 (by kernel_rfl)
 f321:=Eq.trans Tryz.func219 (by kernel_rfl)
 f322:=Eq.trans Tryz.func220 (by kernel_rfl)
 f337:=Eq.trans Tryz.func212 (by kernel_rfl)
 f338:=Eq.trans Tryz.func213 (by kernel_rfl)
 t0:=Tryz.underlying0
 a0:=Tryz.isAgg0
 z0:=Tryz.sizeOf0
 v0:=Tryz.zeroValue0
 t2:=Tryz.underlying2
 a2:=Tryz.isAgg2
 z2:=Tryz.sizeOf2
 v2:=Tryz.zeroValue2
 t3:=Tryz.underlying3
 a3:=Tryz.isAgg3
 z3:=Tryz.sizeOf3
 v3:=Tryz.zeroValue3
 t4:=Tryz.underlying4
 a4:=Tryz.isAgg4
 z4:=Tryz.sizeOf4
 v4:=Tryz.zeroValue4
 t5:=Tryz.underlying5
 a5:=Tryz.isAgg5
 z5:=Tryz.sizeOf5
 v5:=Tryz.zeroValue5
 t9:=Tryz.underlying9
 a9:=Tryz.isAgg9
 z9:=Tryz.sizeOf9
 v9:=Tryz.zeroValue9
 t20:=Tryz.underlying20
 a20:=Tryz.isAgg20
 z20:=Tryz.sizeOf20
 v20:=Tryz.zeroValue20
 t21:=Tryz.underlying21
 a21:=Tryz.isAgg21
 z21:=Tryz.sizeOf21
 v21:=Tryz.zeroValue21
 t37:=Tryz.underlying22
 a37:=Tryz.isAgg22
 z37:=Tryz.sizeOf22
 v37:=Tryz.zeroValue22
 t46:=Tryz.underlying162
 a46:=Tryz.isAgg162
 z46:=Tryz.sizeOf162
 v46:=Tryz.zeroValue162
 t51:=Tryz.underlying201
 a51:=Tryz.isAgg201
 z51:=Tryz.sizeOf201
 v51:=Tryz.zeroValue201
 t53:=Tryz.underlying189
 a53:=Tryz.isAgg189
 z53:=Tryz.sizeOf189
 v53:=Tryz.zeroValue189
 t75:=Tryz.underlying168
 a75:=Tryz.isAgg168
 z75:=Tryz.sizeOf168
 v75:=Tryz.zeroValue168
 t76:=Tryz.underlying169
 a76:=Tryz.isAgg169
 z76:=Tryz.sizeOf169
 v76:=Tryz.zeroValue169
 t85:=Tryz.underlying205
 a85:=Tryz.isAgg205
 z85:=Tryz.sizeOf205
 v85:=Tryz.zeroValue205
 t127:=Tryz.underlying184
 a127:=Tryz.isAgg184
 z127:=Tryz.sizeOf184
 v127:=Tryz.zeroValue184
 t143:=Tryz.underlying219
 a143:=Tryz.isAgg219
 z143:=Tryz.sizeOf219
 v143:=Tryz.zeroValue219
 t145:=Tryz.underlying221
 a145:=Tryz.isAgg221
 z145:=Tryz.sizeOf221
 v145:=Tryz.zeroValue221
 t167:=Tryz.underlying204
 a167:=Tryz.isAgg204
 z167:=Tryz.sizeOf204
 v167:=Tryz.zeroValue204
 t168:=Tryz.underlying207
 a168:=Tryz.isAgg207
 z168:=Tryz.sizeOf207
 v168:=Tryz.zeroValue207
 t171:=Tryz.underlying188
 a171:=Tryz.isAgg188
 z171:=Tryz.sizeOf188
 v171:=Tryz.zeroValue188
 t173:=Tryz.underlying192
 a173:=Tryz.isAgg192
 z173:=Tryz.sizeOf192
 v173:=Tryz.zeroValue192
 t175:=Tryz.underlying211
 a175:=Tryz.isAgg211
 z175:=Tryz.sizeOf211
 v175:=Tryz.zeroValue211
 t210:=Tryz.underlying214
 a210:=Tryz.isAgg214
 z210:=Tryz.sizeOf214
 v210:=Tryz.zeroValue214
 t212:=Tryz.underlying200
 a212:=Tryz.isAgg200
 z212:=Tryz.sizeOf200
 v212:=Tryz.zeroValue200
 t213:=Tryz.underlying202
 a213:=Tryz.isAgg202
 z213:=Tryz.sizeOf202
 t232:=Tryz.underlying216
 a232:=Tryz.isAgg216
 z232:=Tryz.sizeOf216
 v232:=Tryz.zeroValue216
 t233:=Tryz.underlying217
 a233:=Tryz.isAgg217
 z233:=Tryz.sizeOf217
 v233:=Tryz.zeroValue217
 g15:=by kernel_rfl
 g16:=by kernel_rfl
 g17:=by kernel_rfl
 g18:=by kernel_rfl
 g19:=by kernel_rfl
 t80:=Tryz.underlying171
 a80:=Tryz.isAgg171
 z80:=Tryz.sizeOf171
 v80:=Tryz.zeroValue171
 i0:=by kernel_rfl
 i2:=by kernel_rfl
 i3:=by kernel_rfl
 i4:=by kernel_rfl
 i5:=by kernel_rfl
 i9:=by kernel_rfl
 i20:=by kernel_rfl
 i21:=by kernel_rfl
 i37:=by kernel_rfl
 i46:=by kernel_rfl
 i51:=by kernel_rfl
 i53:=by kernel_rfl
 i75:=by kernel_rfl
 i76:=by kernel_rfl
 i80:=by kernel_rfl
 i85:=by kernel_rfl
 i127:=by kernel_rfl
 i143:=by kernel_rfl
 i145:=by kernel_rfl
 i167:=by kernel_rfl
 i168:=by kernel_rfl
 i171:=by kernel_rfl
 i173:=by kernel_rfl
 i175:=by kernel_rfl
 i210:=by kernel_rfl
 i212:=by kernel_rfl
 i232:=by kernel_rfl
 i233:=by kernel_rfl
 m15:=by kernel_rfl
 m16:=by kernel_rfl
 m17:=by kernel_rfl
 m18:=by kernel_rfl
 m19:=by kernel_rfl
 c0:=by kernel_rfl
 c2:=by kernel_rfl
 c3:=by kernel_rfl
 c4:=by kernel_rfl
 c5:=by kernel_rfl
 c9:=by kernel_rfl
 c20:=by kernel_rfl
 c21:=by kernel_rfl
 c37:=by kernel_rfl
 c46:=by kernel_rfl
 c51:=by kernel_rfl
 c53:=by kernel_rfl
 c75:=by kernel_rfl
 c76:=by kernel_rfl
 c80:=by kernel_rfl
 c85:=by kernel_rfl
 c127:=by kernel_rfl
 c143:=by kernel_rfl
 c145:=by kernel_rfl
 c167:=by kernel_rfl
 c168:=by kernel_rfl
 c171:=by kernel_rfl
 c173:=by kernel_rfl
 c175:=by kernel_rfl
 c210:=by kernel_rfl
 c212:=by kernel_rfl
 c213:=by kernel_rfl
 c232:=by kernel_rfl
 c233:=by kernel_rfl
theorem R9 {θ:Th} {W:Im} {H:List AO} {w w':World} (h:SR θ W H w) (h1:w'.os=w.os) (h2:w'.tape=w.tape) (h3:w'.output=w.output) (h4:w.heap.size<=w'.heap.size) (h5:∀k,k<w.heap.size->w'.heap[k]?=w.heap[k]?):SR θ W H w'/\eW θ W w θ W w':=by
 refine⟨⟨?_,?_,h.out,h.own,h.inj⟩,⟨h1,h2,h3,h4,fun k hk _=>h5 k hk,fun _ _ _ h=>h,fun _ _ _ _=>rfl,fun _ _ _=>.inl rfl,fun _ h=>.inl h⟩⟩
 ·intro b o v hv
  rw[<-h.nF b o v hv];exact World.cell?_of_block (h5 b (h.lt hv))
 ·intro i o hi
  exact(h.obj i o hi).mono (fun _=>rfl) (fun v k s t hk=>h5 k (h.kU hk)) (fun _ _ h=>h) (ht:=fun b v o hv ho=>by rw[h5 b (h.lt hv)];exact ho)
theorem nY {P:Program} {f:Nat} {args:List AV} {H:List AO} {r:AV} (hb:BD P f)
  (hc:∀w θ W (vs:Array Value),SR θ W H w->xI θ W args vs->Calls P f vs w fun e w'=>∃rv,e=.returned rv/\bb θ W r rv/\w'.os=w.os/\w'.tape=w.tape/\w'.output=w.output/\w.heap.size<=w'.heap.size/\∀k,k<w.heap.size->w'.heap[k]?=w.heap[k]?):
  al P f args H (aP r H):=by
 refine⟨hb,fun w θ W vs jI cY=>?_⟩;refine(hc w θ W vs jI cY).mono ?_;rintro e w' ⟨rv,rfl,hr,h1,h2,h3,h4,h5⟩;obtain⟨k1,k2⟩:=R9 jI h1 h2 h3 h4 h5;exact⟨rv,r,H,θ,W,rfl,⟨rfl,rfl⟩,k1,hr,k2⟩
theorem HZ {θ:Th} {W:Im} {s:List UInt8} {vs:Array Value} (hr:xI θ W [.p (.s s)] vs):vs=#[.string ⟨s.toArray⟩]:=by
  obtain⟨sx,oO⟩:=hr;have hs:vs.toList.length=1:=by simpa using sx
  match hl:vs.toList,hs with
  |[a],_ =>
   have :=oO 0 _ a rfl (by rw[←Array.getElem?_toList,hl];rfl);obtain⟨rfl,_⟩:=this.pb;rw[←Array.toList_inj];exact hl
theorem EO {θ:Th} {W:Im} {a b:PV} {u v:Value} (h1:gm W a u) (h2:gm W b v):bb θ W (.dK [.p a,.p b]) (.tuple #[u,v]):=by
 refine .dK _ _ (by rfl) ?_;intro j c x hj hv
 match j with
 |0=>cases hj;cases hv;exact .p _ _ h1
 |1=>cases hj;cases hv;exact .p _ _ h2
 |j+2=>simp at hj
theorem XI {s:List UInt8} {n:Int} {H:List AO} (hl:s.length<=1099511627776) (h:Lib.atoiAll s=.ok n):al Tryz.prog 176 [.p (.s s)] H (aP (.dK [.p (.i .i64 n),.p .ni]) H):=by
 refine nY ⟨_,Tryz.func176,rfl,rfl⟩ ?_;intro w θ W vs jI hr;obtain rfl:=HZ hr;refine(Any.strconv_Atoi_ok zT ⟨s.toArray⟩ (by simp[ByteArray.size];omega) n (by simpa using h) w).mono ?_;rintro e w' ⟨rfl,hw⟩;refine⟨_,rfl,EO (.i _ _) .ni,?_⟩;rcases hw with rfl|⟨t,rfl⟩
 ·exact⟨rfl,rfl,rfl,Nat.le_refl _,fun _ _=>rfl⟩
 ·exact⟨rfl,rfl,rfl,by rw[Lib.bytesWorld_size];omega,fun k hk=>Lib.bytesWorld_at_old _ _ _ _ hk⟩
def Rg (H:List AO):Prop:=∃(i:Nat) (te:TypeId) (pe:Value),H[i]?=some (AO.tE 3 (.iface te pe))
theorem Rg.ext {H:List AO} (h:Rg H) (A:List AO):Rg (H++A):=by
 obtain⟨i,te,pe,h⟩:=h;exact⟨i,te,pe,ag h A⟩
theorem Rg.eF {H H':List AO} (h:Rg H) (k:∀(j:Nat) o,H[j]?=some o->H'[j]?=some o):Rg H':=by
 obtain⟨i,te,pe,h⟩:=h;exact⟨i,te,pe,k _ _ h⟩
theorem XJ {s:List UInt8} {H:List AO} (hg:Rg H) (hl:s.length<=1099511627776) (h:Lib.atoiAll s=.range):al Tryz.prog 176 [.p (.s s)] H (aP (.dK [.p (.i .i64 (Lib.atoiSat s)),.p .er]) H):=by
 refine nY ⟨_,Tryz.func176,rfl,rfl⟩ ?_;intro w θ W vs jI hr;obtain rfl:=HZ hr;obtain⟨i,te,pe,hi⟩:=hg;have hW:=(jI.obj i _ hi).1;refine(Any.strconv_Atoi_range zT ⟨s.toArray⟩ (by simp[ByteArray.size];omega) (by simpa using h) (.iface te pe) w (jI.nF _ _ _ hW) (.inr ⟨_,_,rfl⟩)).mono ?_;rintro e w' ⟨N,rfl,h1,h2,h3⟩;exact⟨_,rfl,EO (.i _ _) (.er _ _),h3.os,h3.tape,h3.output,h3.size,fun k hk=>h3.block k hk⟩
theorem H9:∀(l:List UInt8) (n:Nat),n≤fv l n
  |[],n=>Nat.le_refl _
  |c::l,n=>by
   have :=H9 l (n*10+(c.toNat-48));rw[fv];omega
theorem vB {c:UInt8}:ez c=true ↔48<=c.toNat/\c.toNat<=57:=by
 simp[ez];omega
theorem Cw:∀(l:List UInt8) (n:Nat),(∀c∈l,ez c=true)→n<18446744073709551616→Lib.parseUint10 n l=if fv l n<18446744073709551616 then .ok (fv l n)else .range
  |[],n,_,hn=>by rw[Lib.parseUint10,fv,if_pos hn]
  |c::l,n,hl,hn=>by
   have hc:=vB.1 (hl c (by simp));have ih:=Cw l (n*10+(c.toNat-48)) (fun x hx=>hl x (by simp[hx]));have ir:=H9 l (n*10+(c.toNat-48));rw[Lib.parseUint10,fv,if_pos hc];by_cases h1:1844674407370955162≤n
   · rw[if_pos h1,if_neg (by omega)]
   · rw[if_neg h1]
     by_cases h2:18446744073709551616≤n*10+(c.toNat-48)
     · rw[if_pos h2,if_neg (by omega)]
     · rw[if_neg h2];exact ih (by omega)
theorem OT {l:List UInt8} (hl:∀c∈l,ez c=true) (cK:l≠[]):Lib.atoiAll l=if fv l 0≤gQ then .ok (fv l 0:Nat)else .range:=by
  cases l with
  |nil=>exact(cK rfl).elim
  |cons c r=>
   have hc:=vB.1 (hl c (by simp));have hp:=Cw (c::r) 0 hl (by omega);unfold Lib.atoiAll;simp only[show ¬c.toNat=43 by omega,show ¬c.toNat=45 by omega,or_self,if_false,Lib.parseMag,not_false_eq_true,true_and,false_and,if_neg (show ¬(c::r=[])by simp),hp];unfold gQ;by_cases h1:fv (c::r) 0<18446744073709551616
   · rw[if_pos h1]
     by_cases h2:fv (c::r) 0≤9223372036854775807
     · rw[if_pos h2];simp only[show ¬(9223372036854775808≤fv (c::r) 0)by omega,if_false]
     · rw[if_neg h2];simp only[show(9223372036854775808≤fv (c::r) 0)by omega,if_true]
   · rw[if_neg h1,if_neg (by omega)]
theorem rC (q:UInt8→Bool):∀(l:List UInt8),∀c∈l.take (qd q l),q c=true
  |[],c,h=>by simp at h
  |a::l,c,h=>by
   rw[qd]at h;split at h
   · rw[List.take_succ_cons]at h
     rcases List.mem_cons.1 h with rfl|h
     · assumption
     · exact rC q l c h
   · simp at h
theorem OU (q:UInt8->Bool) (s:List UInt8) (i:Nat):∀c∈(s.drop i).take (bo q s i-i),q c=true:=by
 have:=rC q (s.drop i);unfold bo;rwa[Nat.add_sub_cancel_left]
theorem agb {s:List UInt8} (hs:s.length<=1099511627776) {i:Nat} (hi:i<s.length) (hd:ez s[i]=true) {H:List AO} (hg:Rg H):
  al Tryz.prog 154 [.p (.s s),.p (.i .i64 i)] H (aP (mg (rm s i s[i]) i) H):=by
 refine aV ?_ (zR _ _);have tr:s[i]?=some s[i]:=by simp[hi]
 refine call154 (by simp) ?_;simp only[go_sem,simprocAttr,Kj,RS];refine U (EN F0 hs (Nat.le_of_lt hi) _) ?_;have r1:=lB ez (s:=s) (i:=i) (by omega)
 have r2:i<bo ez s i:=by
  rw[kW hi hd];have:=o0 ez s (i+1);omega
 have lA:=OU ez s i;have hlen:((s.drop i).take (bo ez s i-i)).length=bo ez s i-i:=by simp;omega
 have cK:(s.drop i).take (bo ez s i-i)≠[]:=by intro h;rw[h]at hlen;simp at hlen;omega
 have ha:=OT lA cK;have ew:wr .i64 ((bo ez s i:Int)-(i:Int))=((bo ez s i-i:Nat):Int):=by rw[ea (by omega) (by omega)];omega
 unfold rm;generalize bo ez s i=e at *;generalize KA:(s.drop i).take (e-i)=ds at *;simp only[go_sem,simprocAttr,KA];refine⟨by omega,by omega,?_⟩;by_cases hm:fv ds 0<=gQ
 ·rw[if_pos hm]at ha
  refine U (XI (by omega) ha) ?_;simp only[show ¬gQ<fv ds 0 by omega,false_or];by_cases h1:1<e-i
  ·have d1:decide ((1:Int)<((e-i:Nat):Int))=true:=by simp;omega
   cases tl:decide ((s[i].toNat:Int)=48)
   ·simp only[go_sem,simprocAttr,ew,d1,tr,tl]
    rw[if_neg (by intro h;exact of_decide_eq_false tl h.2)];exact⟨rfl,_,rfl⟩
   ·simp only[go_sem,simprocAttr,ew,d1,tr,tl]
    rw[if_pos ⟨h1,of_decide_eq_true tl⟩];exact⟨rfl,_,rfl⟩
  ·have d1:decide ((1:Int)<((e-i:Nat):Int))=false:=by simp;omega
   simp only[go_sem,simprocAttr,ew,d1];rw[if_neg (by intro h;exact h1 h.1)];exact⟨rfl,_,rfl⟩
 ·rw[if_neg hm]at ha
  refine U (XJ (hg.ext _) (by omega) ha) ?_;simp only[go_sem,simprocAttr];rw[if_pos (.inl (by omega))];exact⟨rfl,_,rfl⟩
end Go.Proofs.YteilijfligofdaaGreatDoor.Qp
namespace Go.Proofs.YteilijfligofdaaGreatDoor.Qp
open Go.AM Mc Pg
theorem agc {s:List UInt8} (hs:s.length<=1099511627776) {i:Nat} (hi:i<s.length) {H:List AO} (hg:Rg H):
  al Tryz.prog 113 [.p (.s s),.p (.i .i64 i)] H (aP (mg (iI s i s[i]) i) H):=by
 refine aV ?_ (zR _ _);have tr:s[i]?=some s[i]:=by simp[hi]
 refine call113 (by simp) ?_;simp only[go_sem,simprocAttr,Ke,RM,tr];refine U (F0 s[i] _) ?_;unfold iI;cases hd:ez s[i]
 ·rw[if_neg (by simp)]
  simp only[go_sem,simprocAttr,hd];refine U (vA s[i] _) ?_;cases Cx:gq s[i]
  ·simp only[go_sem,simprocAttr,Cx]
   refine U (Bm s[i] _) ?_;cases ux:ig s[i]
   ·simp only[go_sem,simprocAttr,ux]
    cases lZ:decide ((s[i].toNat:Int)=39)
    ·rw[if_neg (by simp[tick,lZ])]
     cases gk:decide ((s[i].toNat:Int)=34)
     ·rw[if_neg (of_decide_eq_false gk)]
      simp only[go_sem,simprocAttr,lZ,gk];refine U (Kx hs (Nat.le_of_lt hi) _) ?_;have hl:=rn (s.drop i) bA;unfold ov;generalize eP (s.drop i) bA=g at hl;cases yp:decide (g=[])
      ·have ew:wr .i64 ((i:Int)+(g.length:Int))=((i+g.length:Nat):Int):=by
        have:=hl.1;simp at this;rw[ea (by omega) (by omega)];omega
       simp only[go_sem,simprocAttr,yp,ew];intro _;simp only[if_neg (of_decide_eq_false yp)];first|exact⟨rfl,_,rfl⟩|exact⟨_,rfl⟩
      ·simp only[go_sem,simprocAttr,yp]
       simp only[if_pos (of_decide_eq_true yp)];first|exact⟨rfl,_,rfl⟩|exact⟨_,rfl⟩
     ·rw[if_pos (of_decide_eq_true gk)]
      simp only[go_sem,simprocAttr,lZ,gk];refine U (R7 hs hi _) ?_;unfold qe;rcases hq:gi s (i+1) []with _|⟨t,e⟩
      ·simp only[go_sem,simprocAttr]
       first|exact⟨rfl,_,rfl⟩|exact⟨_,rfl⟩
      ·simp only[go_sem,simprocAttr]
       first|exact⟨rfl,_,rfl⟩|exact⟨_,rfl⟩
    ·by_cases Cy:i+1<s.length
     ·have d1:decide (((i+1:Nat):Int)<(s.length:Int))=true:=by simp;omega
      have jR:s[i+1]?=some s[i+1]:=by simp[Cy]
      have oo:s.getD (i+1) 0=s[i+1]:=by simp[Cy]
      simp only[go_sem,simprocAttr,lZ,cH i (by omega),d1,jR];intro _;refine U (vA s[i+1] _) ?_;cases bx:gq s[i+1]
      ·rw[if_neg (by simp only[tick,oo,bx];simp)]
       simp only[go_sem,simprocAttr,bx];cases gk:decide ((s[i].toNat:Int)=34)
       ·rw[if_neg (of_decide_eq_false gk)]
        simp only[go_sem,simprocAttr,gk];refine U (Kx hs (Nat.le_of_lt hi) _) ?_;have hl:=rn (s.drop i) bA;unfold ov;generalize eP (s.drop i) bA=g at hl;cases yp:decide (g=[])
        ·have ew:wr .i64 ((i:Int)+(g.length:Int))=((i+g.length:Nat):Int):=by
          have:=hl.1;simp at this;rw[ea (by omega) (by omega)];omega
         simp only[go_sem,simprocAttr,yp,ew];intro _;simp only[if_neg (of_decide_eq_false yp)];first|exact⟨rfl,_,rfl⟩|exact⟨_,rfl⟩
        ·simp only[go_sem,simprocAttr,yp]
         simp only[if_pos (of_decide_eq_true yp)];first|exact⟨rfl,_,rfl⟩|exact⟨_,rfl⟩
       ·rw[if_pos (of_decide_eq_true gk)]
        simp only[go_sem,simprocAttr,gk];refine U (R7 hs hi _) ?_;unfold qe;rcases hq:gi s (i+1) []with _|⟨t,e⟩
        ·simp only[go_sem,simprocAttr]
         first|exact⟨rfl,_,rfl⟩|exact⟨_,rfl⟩
        ·simp only[go_sem,simprocAttr]
         first|exact⟨rfl,_,rfl⟩|exact⟨_,rfl⟩
      ·rw[if_pos (by simp only[tick,oo,bx];simp[lZ,Cy])]
       simp only[go_sem,simprocAttr,bx];refine U (Kw hs hi _) ?_;rcases hw:fb s i s[i]with⟨t,e⟩|c
       ·simp only[go_sem,simprocAttr,mg,Tok.cells]
        first|exact⟨rfl,_,rfl⟩|exact⟨_,rfl⟩
       ·simp only[go_sem,simprocAttr,mg]
        first|exact⟨rfl,_,rfl⟩|exact⟨_,rfl⟩
     ·have d1:decide (((i+1:Nat):Int)<(s.length:Int))=false:=by simp;omega
      rw[if_neg (by simp[tick,Cy])];simp only[go_sem,simprocAttr,lZ,cH i (by omega),d1];intro _;cases gk:decide ((s[i].toNat:Int)=34)
      ·rw[if_neg (of_decide_eq_false gk)]
       simp only[go_sem,simprocAttr,gk];refine U (Kx hs (Nat.le_of_lt hi) _) ?_;have hl:=rn (s.drop i) bA;unfold ov;generalize eP (s.drop i) bA=g at hl;cases yp:decide (g=[])
       ·have ew:wr .i64 ((i:Int)+(g.length:Int))=((i+g.length:Nat):Int):=by
         have:=hl.1;simp at this;rw[ea (by omega) (by omega)];omega
        simp only[go_sem,simprocAttr,yp,ew];intro _;simp only[if_neg (of_decide_eq_false yp)];first|exact⟨rfl,_,rfl⟩|exact⟨_,rfl⟩
       ·simp only[go_sem,simprocAttr,yp]
        simp only[if_pos (of_decide_eq_true yp)];first|exact⟨rfl,_,rfl⟩|exact⟨_,rfl⟩
      ·rw[if_pos (of_decide_eq_true gk)]
       simp only[go_sem,simprocAttr,gk];refine U (R7 hs hi _) ?_;unfold qe;rcases hq:gi s (i+1) []with _|⟨t,e⟩
       ·simp only[go_sem,simprocAttr]
        first|exact⟨rfl,_,rfl⟩|exact⟨_,rfl⟩
       ·simp only[go_sem,simprocAttr]
        first|exact⟨rfl,_,rfl⟩|exact⟨_,rfl⟩
   ·simp only[go_sem,simprocAttr,ux]
    rw[if_pos (by simp)];refine U (Kw hs hi _) ?_;rcases hw:fb s i s[i]with⟨t,e⟩|c
    ·simp only[go_sem,simprocAttr,mg,Tok.cells]
     first|exact⟨rfl,_,rfl⟩|exact⟨_,rfl⟩
    ·simp only[go_sem,simprocAttr,mg]
     first|exact⟨rfl,_,rfl⟩|exact⟨_,rfl⟩
  ·simp only[go_sem,simprocAttr,Cx]
   rw[if_pos (by simp)];refine U (Kw hs hi _) ?_;rcases hw:fb s i s[i]with⟨t,e⟩|c
   ·simp only[go_sem,simprocAttr,mg,Tok.cells]
    first|exact⟨rfl,_,rfl⟩|exact⟨_,rfl⟩
   ·simp only[go_sem,simprocAttr,mg]
    first|exact⟨rfl,_,rfl⟩|exact⟨_,rfl⟩
 ·rw[if_pos rfl]
  simp only[go_sem,simprocAttr,hd];refine U (agb hs hi hd (hg.ext _)) ?_;rcases hw:rm s i s[i]with⟨t,e⟩|c
  ·simp only[go_sem,simprocAttr,mg,Tok.cells]
   first|exact⟨rfl,_,rfl⟩|exact⟨_,rfl⟩
  ·simp only[go_sem,simprocAttr,mg]
   first|exact⟨rfl,_,rfl⟩|exact⟨_,rfl⟩
theorem Cz {s:List UInt8} {i:Nat} {c:UInt8} {e:Int} (h:iI s i c=.inr e):decide (e=0)=false:=by
 refine decide_eq_false ?_;rintro rfl;unfold iI at h;split at h
 ·simp only[rm]at h;split at h<;>simp at h
 split at h
 ·unfold fb at h
  generalize (if(c.toNat:Int)=39 then i+1 else i)=f at h;unfold jf at h;split at h<;>simp at h
 split at h
 ·simp only[qe]at h;split at h<;>simp at h
 ·simp only[ov]at h;split at h<;>simp at h
def ox (l:List Tok):List (List AV):=l.map fun t=>t.cells.map .p
theorem e7 (l):(ox l).length=l.length:=by simp[ox]
theorem xb (l t):ox (l++[t])=ox l++[t.cells.map .p]:=by simp[ox]
theorem cS {n id ver sz:Nat} {H:List AO} {ys:List (List PV)} (hn:n<=id) (h:H[id]?=some (.rows sz ver (ys.map fun y=>y.map .p))) (hs:∀y∈ys,y.length=sz):bI n H (.gs id ver 0 ys.length) (.p (.l ys)):=by
 refine .gs id ver 0 ys.length sz _ ys hn h (by simp) rfl hs ?_;intro i r y j c q hr hy hc hq;rw[Nat.zero_add,List.getElem?_map,hy]at hr;cases hr;rw[List.getElem?_map,hq]at hc;cases hc;exact .p _
theorem CA {n id ver:Nat} {H:List AO} {l:List Tok} (hn:n<=id) (h:H[id]?=some (.rows 4 ver (ox l))):bI n H (.gs id ver 0 l.length) (.p (.l (l.map Tok.cells))):=by
 have:=cS (ys:=l.map Tok.cells) hn (by rw[List.map_map];exact h) (by intro y hy;obtain⟨t,_,rfl⟩:=List.mem_map.1 hy;rfl);rwa[List.length_map]at this
abbrev DR (c p:Int):AV:=.st [.p (.i .i64 c),.p (.i .i64 p)]
def xc:List Tok⊕(Int×Nat)->AV
 | .inl l=>.dK [.p (.l (l.map Tok.cells)),DR 0 0]
 | .inr (c,i)=>.dK [.p (.l []),DR c i]
theorem mZ (c p):Tf (DR c p):=JP _ (by intro q hq;simp at hq;rcases hq with rfl|rfl<;>exact bw _)
theorem gZ {n:Nat} {H:List AO} {a b c:AV} (h:bI n H a b) (hc:Tf c):bI n H (.dK [a,c]) (.dK [b,c]):=by
 refine .dK _ _ rfl fun j x y hx hy=>?_
 match j with
 |0=>cases hx;cases hy;exact h
 |1=>cases hx;cases hy;exact .tf _ hc
 |j+2=>simp at hx
structure Ia (H0:List AO) (out:List Tok) (a:AV) (H:List AO):Prop where
 fr:∀(j:Nat) o,H0[j]?=some o->H[j]?=some o
 z5:H[H0.length]?=some (.var [.p (.i .i64 0),.p (.i .i64 0)])
 out:iG H a 4 (ox out)
 new:∀id v o m,a=.gs id v o m->H0.length<id
theorem Ia.ext {H0 out a H} (h:Ia H0 out a H) (A:List AO):Ia H0 out a (H++A):=
 ⟨fun j o hj=>ag (h.fr j o hj) A,ag h.z5 A,h.out.ext,h.new⟩
theorem EP {K:St->Prop} {st:St} {d:MD} {H:List AO} {a:AV} {sz:Nat} {rs:List (List AV)} (h:iG H a sz rs) (k:K (st.put d (.p (.i .i64 rs.length)))):wc false a d K st:=by
 rcases h with⟨rfl,rfl⟩|⟨id,ver,rfl,_⟩
 ·exact k
 ·exact fun _=>k
theorem Ia.app {H0 out a H} (h:Ia H0 out a H) {t:Tok} {id ver:Nat} {H4:List AO} (k1:H4[id]?=some (.rows 4 ver (ox out++[t.cells.map .p]))) (k2:(∃v o n,a=.gs id v o n)\/H.length<=id) (k3:∀(j:Nat) o,H[j]?=some o->(∀v o' n,a≠.gs j v o' n)->H4[j]?=some o):Ia H0 (out++[t]) (.gs id ver 0 (out.length+1)) H4:=by
 refine⟨?_,?_,?_,?_⟩
 ·intro j o hj
  refine k3 j o (h.fr j o hj) (fun v o' n' e=>?_);have:=h.new _ _ _ _ e;have:=aT hj;omega
 ·refine k3 _ _ h.z5 (fun v o' n' e=>?_)
  have:=h.new _ _ _ _ e;omega
 ·exact .inr ⟨id,ver,by simp[e7],by rw[xb];exact k1⟩
 ·intro jC v o m' e
  cases e;rcases k2 with⟨v,o,n',e⟩|h2
  ·exact h.new _ _ _ _ e
  ·have:=aT h.z5;omega
theorem Ib {s:List UInt8} {most:Nat} {H0:List AO} (hs:s.length<=1099511627776) (hm:most<=2199023255552) (hg:Rg H0):
  al Tryz.prog 50 [.p (.s s),.p (.i .i64 most)] H0 (aP (xc (dE s most 0 [])) H0):=by
 refine nN ?_;generalize hR:dE s most 0 []=R;refine call50 (by simp) ?_;simp only[go_sem,simprocAttr,RD,aaH];refine⟨Nat×List Tok×AV×List AO,[0,1,5,6,7],fun x st=>(x.1<=s.length/\x.2.1.length<=x.1/\dE s most x.1 x.2.1=R/\Ia H0 x.2.1 x.2.2.1 x.2.2.2)/\st=⟨[(0,.p (.s s)),(1,.p (.i .i64 most)),(5,.ptr H0.length 0),(6,x.2.2.1),(7,.p (.i .i64 x.1))],[],x.2.2.2⟩,fun x=>s.length-x.1,⟨(0,[],.p .nl,H0++[.var [.p (.i .i64 0),.p (.i .i64 0)]]),?_⟩,?_⟩
 ·simp only[go_sem,simprocAttr]
  exact⟨Nat.zero_le _,hR,⟨fun j o hj=>ag hj _,by rw[fX];rfl,.inl ⟨rfl,rfl⟩,fun _ _ _ _ e=>by cases e⟩⟩
 ·rintro⟨i,out,a,H⟩ _ ⟨⟨h1,h2,h3,hI⟩,rfl⟩
  simp only at h1 h2 h3 hI⊢;by_cases aF:i<s.length
  ·have d1:decide ((i:Int)<(s.length:Int))=true:=by simp;omega
   have jR:s[i]?=some s[i]:=by simp[aF]
   have ew:=cH i (by omega);cases b1:decide ((s[i].toNat:Int)=32);rotate_left
   ·have hb:Pg.blank s[i]=true:=by simp[Pg.blank,b1]
    rw[ij aF hb]at h3;simp only[go_sem,simprocAttr,d1,jR,b1,ew];intro _;exact⟨(i+1,out,a,H),⟨⟨by simp only;omega,by simp only;omega,h3,hI⟩,rfl⟩,by simp only;omega⟩
   cases b2:decide ((s[i].toNat:Int)=9);rotate_left
   ·have hb:Pg.blank s[i]=true:=by simp[Pg.blank,b2]
    rw[ij aF hb]at h3;simp only[go_sem,simprocAttr,d1,jR,b1,b2,ew];intro _;exact⟨(i+1,out,a,H),⟨⟨by simp only;omega,by simp only;omega,h3,hI⟩,rfl⟩,by simp only;omega⟩
   cases b3:decide ((s[i].toNat:Int)=10);rotate_left
   ·have hb:Pg.blank s[i]=true:=by simp[Pg.blank,b3]
    rw[ij aF hb]at h3;simp only[go_sem,simprocAttr,d1,jR,b1,b2,b3,ew];intro _;exact⟨(i+1,out,a,H),⟨⟨by simp only;omega,by simp only;omega,h3,hI⟩,rfl⟩,by simp only;omega⟩
   have hb:Pg.blank s[i]=false:=by simp[Pg.blank,b1,b2,b3]
   cases b4:decide ((s[i].toNat:Int)=35);rotate_left
   ·have hc:=of_decide_eq_true b4
    have cG:=pt aF hc;have hle:=lB kG (s:=s) (i:=i) (by omega);rw[nQ aF hb hc]at h3;simp only[go_sem,simprocAttr,d1,jR,b1,b2,b3,b4];intro _;refine U (EN nlC hs (by omega) _) ?_;simp only[go_sem,simprocAttr];exact⟨(bo kG s i,out,a,H),⟨⟨by simp only;omega,by simp only;omega,h3,hI⟩,rfl⟩,by simp only;omega⟩
   have hc:=of_decide_eq_false b4;simp only[go_sem,simprocAttr,d1,jR,b1,b2,b3,b4];intro _;refine U (agc hs aF (hg.eF hI.fr)) ?_;rcases ht:iI s i s[i]with⟨t,e⟩|c
   ·obtain⟨g1,g2,_⟩:=rp aF ht
    simp only[go_sem,simprocAttr,mg,Tok.cells];have vU:=hI.ext [.var [.p (.i .i64 t.k),.p (.s t.t),.p (.i .i64 t.n),.p (.i .i64 t.p)],.var [.p (.i .i64 0),.p (.i .i64 0)]];refine EP vU.out ?_;rw[e7];by_cases zo:out.length=most
    ·have d2:decide ((out.length:Int)=(most:Int))=true:=by simp;omega
     rw[lC aF hb hc ht zo]at h3;have z5:=vU.z5;have fr:=vU.fr;generalize H++[.var [.p (.i .i64 t.k),.p (.s t.t),.p (.i .i64 t.n),.p (.i .i64 t.p)],.var [.p (.i .i64 0),.p (.i .i64 0)]]=H2 at z5 fr⊢;have hz:∀o,(H2.set H0.length o)[H0.length]?=some o:=fun o=>aR z5
     simp only[go_sem,simprocAttr,d2,z5,hz];obtain⟨G,hG⟩:=gH (H:=H0) (H':=H2.set H0.length (.var [.p (.i .i64 5),.p (.i .i64 i)])) fun j o hj=>aM (fr j o hj) (by have:=aT hj;omega)
     rw[<-h3];exact⟨G,hG,gZ .nl (mZ _ _)⟩
    ·have d2:decide ((out.length:Int)=(most:Int))=false:=by simp;omega
     rw[mV aF hb hc ht zo]at h3;simp only[go_sem,simprocAttr,d2];refine⟨by intro r hr;simp at hr;subst hr;rfl,?_⟩;refine gb (rs:=ox out) (ys:=[t.cells.map .p]) (hI.ext _).out (by rw[e7];simp;omega) (by rw[e7];simp;omega) ?_;intro id ver H4 k1 k2 k3 k4;rw[e7];simp only[go_sem,simprocAttr];exact⟨(e,out++[t],.gs id ver 0 (out.length+1),H4),⟨⟨by simp only;omega,by simp;omega,h3,(hI.ext _).app k1 k2 k3⟩,rfl⟩,by simp only;omega⟩
   ·have yq:=Cz ht
    rw[pw aF hb hc ht]at h3;have vU:=hI.ext [.var [.p (.i .i64 0),.p (.s []),.p (.i .i64 0),.p (.i .i64 0)],.var [.p (.i .i64 c),.p (.i .i64 i)]];simp only[go_sem,simprocAttr,mg,yq];have z5:=vU.z5;have fr:=vU.fr;have zc:(H++[.var [.p (.i .i64 0),.p (.s []),.p (.i .i64 0),.p (.i .i64 0)],.var [.p (.i .i64 c),.p (.i .i64 i)]])[H.length+1]?=some (.var [.p (.i .i64 c),.p (.i .i64 i)]):=by rw[eZ];rfl
    generalize H++[.var [.p (.i .i64 0),.p (.s []),.p (.i .i64 0),.p (.i .i64 0)],.var [.p (.i .i64 c),.p (.i .i64 i)]]=H2 at z5 fr zc⊢;generalize H.length+1=b at zc⊢;have hz:∀o,(H2.set H0.length o)[H0.length]?=some o:=fun o=>aR z5
    refine ba ?_;simp only[go_sem,simprocAttr,zc,z5,hz];obtain⟨G,hG⟩:=gH (H:=H0) (H':=H2.set H0.length (.var [.p (.i .i64 c),.p (.i .i64 i)])) fun j o hj=>aM (fr j o hj) (by have:=aT hj;omega)
    rw[<-h3];exact⟨G,hG,gZ .nl (mZ _ _)⟩
  ·have d1:decide ((i:Int)<(s.length:Int))=false:=by simp;omega
   rw[jg aF]at h3;simp only[go_sem,simprocAttr,d1];intro _ _;refine⟨by intro r hr;simp at hr;subst hr;rfl,?_⟩;refine gb (rs:=ox out) (ys:=[Tok.cells ⟨8,[],0,s.length⟩|>.map .p]) (hI.ext _).out (by rw[e7];simp;omega) (by rw[e7];simp;omega) ?_;intro id ver H4 k1 k2 k3 k4;rw[e7];have hJ:=(hI.ext _).app k1 k2 k3;have z5:=hJ.z5;have hz:∀o,(H4.set H0.length o)[H0.length]?=some o:=fun o=>aR z5
   simp only[go_sem,simprocAttr,z5,hz];obtain⟨G,hG⟩:=gH (H:=H0) (H':=H4.set H0.length (.var [.p (.i .i64 0),.p (.i .i64 0)])) fun j o hj=>aM (hJ.fr j o hj) (by have:=aT hj;omega)
   rw[<-h3];refine⟨G,hG,gZ ?_ (mZ _ _)⟩;have hn:=hJ.new _ _ _ _ rfl;have:=CA (n:=H0.length) (l:=out++[⟨8,[],0,s.length⟩]) (Nat.le_of_lt hn) (H:=H4.set H0.length (.var [.p (.i .i64 0),.p (.i .i64 0)])) (id:=id) (ver:=ver) (aM (by rw[xb];exact k1) (by omega));simpa using this
theorem agd {s:List UInt8} {H0:List AO} (hs:s.length<=1099511627776) (hg:Rg H0):al Tryz.prog 29 [.p (.s s)] H0 (aP (xc (kX s)) H0):=by
 refine nN ?_;refine call29 (by simp) ?_;unfold kX;by_cases hl:4000<s.length
 ·have d1:decide ((4000:Int)<(s.length:Int))=true:=by simp;omega
  simp only[go_sem,simprocAttr,Nb,RA,d1];intro _;rw[if_pos hl];exact⟨_,rfl,gZ .nl (mZ _ _)⟩
 ·have d1:decide ((4000:Int)<(s.length:Int))=false:=by simp;omega
  simp only[go_sem,simprocAttr,Nb,RA,d1];intro _;rw[if_neg hl];refine U (Ib (most:=1200) hs (by omega) (hg.ext _)) ?_;rcases dE s 1200 0 []with l|⟨c,i⟩
  ·simp only[go_sem,simprocAttr,xc]
   exact⟨_,rfl,gZ (.p _) (mZ _ _)⟩
  ·simp only[go_sem,simprocAttr,xc]
   exact⟨_,rfl,gZ (.p _) (mZ _ _)⟩
def F3 (f:Nat) (q:UInt8->Bool):Prop:=∀(c:UInt8) (H:List AO),al Tryz.prog f [.p (.i .i64 (c.toNat:Int))] H (aP (.p (.b (q c))) H)
theorem XK (n lo hi:Int) (H:List AO):al Tryz.prog 70 [.p (.i .i64 n),.p (.i .i64 lo),.p (.i .i64 hi)] H (aP (.p (.b (decide (lo<=n)&&decide (n<=hi)))) H):=by
 refine call70 (by simp) ?_;simp only[go_sem,simprocAttr,RN,aaI];cases h:decide (lo<=n)
 ·simp only[go_sem,simprocAttr,h]
  exact⟨by simp,rfl⟩
 ·simp only[go_sem,simprocAttr,h]
  exact⟨by simp,rfl⟩
theorem F4:F3 126 gq:=by
 intro c H;refine call126 (by simp) ?_;simp only[go_sem,simprocAttr,J6,RG];refine U (XK _ _ _ H) ?_;simp only[go_sem,simprocAttr];exact⟨rfl,rfl⟩
theorem Bn:F3 125 ig:=by
 intro c H;refine call125 (by simp) ?_;simp only[go_sem,simprocAttr,J7,RH];refine U (XK _ _ _ H) ?_;simp only[go_sem,simprocAttr];exact⟨rfl,rfl⟩
theorem KB:F3 136 ez:=by
 intro c H;refine call136 (by simp) ?_;simp only[go_sem,simprocAttr,J4,RE];refine U (XK _ _ _ H) ?_;simp only[go_sem,simprocAttr];exact⟨rfl,rfl⟩
theorem Nc:F3 127 cx:=by
 intro c H;refine call127 (by simp) ?_;simp only[go_sem,simprocAttr,Kf,RO];refine U (F4 c H) ?_;cases h1:gq c
 ·simp only[go_sem,simprocAttr,h1]
  refine U (Bn c H) ?_;cases h2:ig c
  ·simp only[go_sem,simprocAttr,h2]
   refine U (KB c H) ?_;cases h3:ez c
   ·simp only[go_sem,simprocAttr,h3]
    exact⟨by simp[cx,h1,h2,h3],rfl⟩
   ·simp only[go_sem,simprocAttr,h3]
    exact⟨by simp[cx,h1,h2,h3],rfl⟩
  ·simp only[go_sem,simprocAttr,h2]
   exact⟨by simp[cx,h1,h2],rfl⟩
 ·simp only[go_sem,simprocAttr,h1]
  exact⟨by simp[cx,h1],rfl⟩
theorem Sa (t:List UInt8) (H:List AO):al Tryz.prog 124 [.p (.s t)] H (aP (.p (.b (isKey t))) H):=by
 refine aV ?_ (bw _);refine call124 (by simp) ?_;simp only[go_sem,simprocAttr,Kg,RP];refine⟨Nat,[0,2,3,4],fun x st=>(x<=19/\t∉keys.take x)/\st=⟨[(0,.p (.s t)),(2,.p (.b false)),(3,.gs H.length 0 0 19),(4,.p (.i .i64 x))],[],H++[.rows 1 0 (gr keys)]⟩,fun x=>19-x,⟨0,?_⟩,?_⟩
 ·simp only[go_sem,simprocAttr]
  exact⟨by simp,rfl⟩
 ·rintro x _ ⟨⟨hx,hn⟩,rfl⟩
  have hlen:keys.length=19:=rfl;by_cases aF:x<19
  ·have dr:x<keys.length:=aF
   have d1:decide ((x:Int)<19)=true:=by simp;omega
   simp only[go_sem,simprocAttr,d1,j9 dr];intro _;by_cases ht:keys[x]=t
   ·have d2:decide (keys[x]=t)=true:=by simp[ht]
    simp only[go_sem,simprocAttr,d2];refine⟨by omega,?_,_,rfl⟩;have:isKey t=true:=by unfold isKey;exact decide_eq_true (by rw[<-ht];exact List.getElem_mem dr)
    rw[this]
   ·have d2:decide (keys[x]=t)=false:=by simp[ht]
    simp only[go_sem,simprocAttr,d2,cH x (by omega)];refine⟨by omega,x+1,⟨⟨by omega,?_⟩,rfl⟩,by omega⟩;rw[List.take_succ_eq_append_getElem dr];simp only[List.mem_append,List.mem_singleton,not_or];exact⟨hn,fun h=>ht h.symm⟩
  ·have d1:decide ((x:Int)<19)=false:=by simp;omega
   simp only[go_sem,simprocAttr,d1];intro _;refine⟨?_,_,rfl⟩;rw[List.take_of_length_le (by omega)]at hn;have:isKey t=false:=by unfold isKey;exact decide_eq_false hn
   rw[this]
def dG (s:List UInt8) (i:Nat):Nat:=
 if h:i<s.length then
  if Pg.blank s[i]then dG s (i+1)
  else if(s[i].toNat:Int)=35 then(if i<bo kG s i then dG s (bo kG s i)else i)else i
 else i
termination_by s.length-i
theorem ER {s:List UInt8} {most:Nat} {out:List Tok}:∀(n i:Nat),s.length-i≤n→i≤s.length→dE s most i out=dE s most (dG s i) out∧i≤dG s i∧dG s i≤s.length∧∀(h:dG s i<s.length),Pg.blank s[dG s i]=false ∧¬(s[dG s i].toNat:Int)=35:=by
  intro n
  induction n with
  |zero=>
   intro i hn hi;rw[dG,dif_neg (by omega)]
   exact⟨rfl,Nat.le_refl _,hi,fun h=>by omega⟩
  |succ n ih=>
   intro i hn hi;by_cases h:i<s.length
   · cases hb:Pg.blank s[i]with
     |true =>
      obtain⟨h1,h2,h3,h4⟩:=ih (i+1) (by omega) (by omega);have e:dG s i=dG s (i+1):=by rw[dG,dif_pos h,if_pos hb]
      rw[ij h hb,e]
      exact⟨h1,by omega,h3,h4⟩
     |false =>
      by_cases hc:(s[i].toNat:Int)=35
      · have hg:=pt h hc
        have hle:=lB kG (s:=s) (i:=i) (by omega);obtain⟨h1,h2,h3,h4⟩:=ih (bo kG s i) (by omega) hle;have e:dG s i=dG s (bo kG s i):=by rw[dG,dif_pos h,if_neg (by simp[hb]),if_pos hc,if_pos hg]
        rw[nQ h hb hc,e];exact⟨h1,by omega,h3,h4⟩
      · have e:dG s i=i:=by rw[dG,dif_pos h,if_neg (by simp[hb]),if_neg hc]
        rw[e];exact⟨rfl,Nat.le_refl _,hi,fun _ =>⟨hb,hc⟩⟩
   · rw[dG,dif_neg h]
     exact⟨rfl,Nat.le_refl _,hi,fun h'=>(h h').elim⟩
theorem Sb {s:List UInt8} (hs:s.length<=1099511627776) {i:Nat} (hi:i<=s.length) (H:List AO):al Tryz.prog 93 [.p (.s s),.p (.i .i64 i)] H (aP (.p (.i .i64 (dG s i:Nat))) H):=by
 refine call93 (by simp) ?_;simp only[go_sem,simprocAttr,RB,aaF];refine⟨Nat,[0,1,4],fun x st=>(i<=x/\x<=s.length/\dG s x=dG s i)/\st=⟨[(0,.p (.s s)),(1,.p (.i .i64 x)),(4,.p (.i .i64 0))],[],H⟩,fun x=>s.length-x,⟨i,?_⟩,?_⟩
 ·simp only[go_sem,simprocAttr]
  exact⟨Nat.le_refl _,hi⟩
 ·rintro x _ ⟨⟨h1,h2,h3⟩,rfl⟩
  by_cases aF:x<s.length
  ·have d1:decide ((x:Int)<(s.length:Int))=true:=by simp;omega
   have hg:s[x]?=some s[x]:=by simp[aF]
   have ew:=cH x (by omega);have step:Pg.blank s[x]=true->dG s (x+1)=dG s i:=fun hb=>by rw[<-h3];conv=>rhs;rw[dG,dif_pos aF,if_pos hb]
   cases b1:decide ((s[x].toNat:Int)=32);rotate_left
   ·simp only[go_sem,simprocAttr,d1,hg,b1,ew]
    intro _;exact⟨x+1,⟨⟨by omega,by omega,step (by simp[Pg.blank,b1])⟩,rfl⟩,by omega⟩
   cases b2:decide ((s[x].toNat:Int)=9);rotate_left
   ·simp only[go_sem,simprocAttr,d1,hg,b1,b2,ew]
    intro _;exact⟨x+1,⟨⟨by omega,by omega,step (by simp[Pg.blank,b2])⟩,rfl⟩,by omega⟩
   cases b3:decide ((s[x].toNat:Int)=10);rotate_left
   ·simp only[go_sem,simprocAttr,d1,hg,b1,b2,b3,ew]
    intro _;exact⟨x+1,⟨⟨by omega,by omega,step (by simp[Pg.blank,b3])⟩,rfl⟩,by omega⟩
   have hb:Pg.blank s[x]=false:=by simp[Pg.blank,b1,b2,b3]
   cases b4:decide ((s[x].toNat:Int)=35);rotate_left
   ·have hc:=of_decide_eq_true b4
    have cG:=pt aF hc;have hle:=lB kG (s:=s) (i:=x) (by omega);have e:dG s x=dG s (bo kG s x):=by rw[dG,dif_pos aF,if_neg (by simp[hb]),if_pos hc,if_pos cG]
    simp only[go_sem,simprocAttr,d1,hg,b1,b2,b3,b4];intro _;refine⟨Nat,[0,1,4],fun y st=>(x<=y/\y<=s.length/\bo kG s y=bo kG s x)/\st=⟨[(0,.p (.s s)),(1,.p (.i .i64 y)),(4,.p (.i .i64 0))],[],H⟩,fun y=>s.length-y,⟨x,?_⟩,?_⟩
    ·simp only[go_sem,simprocAttr]
     exact⟨Nat.le_refl _,h2⟩
    ·rintro y _ ⟨⟨k1,k2,k3⟩,rfl⟩
     by_cases hy:y<s.length
     ·have d2:decide ((y:Int)<(s.length:Int))=true:=by simp;omega
      have Sc:s[y]?=some s[y]:=by simp[hy]
      cases b5:decide ((s[y].toNat:Int)=10)
      ·simp only[go_sem,simprocAttr,d2,Sc,b5,cH y (by omega)]
       intro _;exact⟨y+1,⟨⟨by omega,by omega,by rw[<-k3,kW hy (by simp[kG,b5])]⟩,rfl⟩,by omega⟩
      ·have ey:y=bo kG s x:=by rw[<-k3,uc hy (by simp[kG,b5])]
       simp only[go_sem,simprocAttr,d2,Sc,b5];intro _;exact⟨y,⟨⟨by omega,by omega,by rw[ey,<-e,h3]⟩,rfl⟩,by omega⟩
     ·have d2:decide ((y:Int)<(s.length:Int))=false:=by simp;omega
      have ey:y=bo kG s x:=by rw[<-k3,ud _ (by omega)]
      simp only[go_sem,simprocAttr,d2];intro _;exact⟨y,⟨⟨by omega,by omega,by rw[ey,<-e,h3]⟩,rfl⟩,by omega⟩
   ·have hc:=of_decide_eq_false b4
    have e:dG s x=x:=by rw[dG,dif_pos aF,if_neg (by simp[hb]),if_neg hc]
    simp only[go_sem,simprocAttr,d1,hg,b1,b2,b3,b4];intro _;refine⟨?_,rfl⟩;rw[<-h3,e]
  ·have d1:decide ((x:Int)<(s.length:Int))=false:=by simp;omega
   simp only[go_sem,simprocAttr,d1];intro _;refine⟨?_,rfl⟩;rw[<-h3,dG,dif_neg aF]
def im (x:(Tok×Nat)⊕Int) (e':Int):AV:=
 match x with
 | .inl (t,e)=>.dK [tv t,.p (.i .i64 (e:Int)),.p (.i .i64 0)]
 | .inr c=>.dK [.st [.p (.i .i64 0),.p (.s []),.p (.i .i64 0),.p (.i .i64 0)],.p (.i .i64 e'),.p (.i .i64 c)]
def Nd (f:Nat) (s:List UInt8) (i:Nat) (x:(Tok×Nat)⊕Int):Prop:=∀H,al Tryz.prog f [.p (.s s),.p (.i .i64 (i:Int))] H (fun r H'=>(∃e',r=im x e')/\∃G,H'=H++G)
theorem rD:∀(l:List UInt8) (c:UInt8) (n:Nat),fv (l++[c]) n=fv l n*10+(c.toNat-48)
 |[],c,n=>rfl
 |a::l,c,n=>by rw[List.cons_append,fv,fv,rD l c]
theorem OV {s:List UInt8} {i x:Nat} (h:i<=x) (hx:x<s.length):(s.drop i).take (x+1-i)=(s.drop i).take (x-i)++[s[x]]:=by
 have hl:x-i<(s.drop i).length:=by simp;omega
 rw[show x+1-i=(x-i)+1 by omega,List.take_succ_eq_append_getElem hl];congr 2;rw[List.getElem_drop];congr 1;omega
theorem age {c:UInt8} (hc:ez c=true):wr .u8 ((c.toNat:Int)-48)=((c.toNat-48:Nat):Int):=by
 have:=vB.1 hc;simp[wr,IntKind.wrap,IntKind.bits,IntKind.signed];omega
theorem agf {d:Nat} (hd:d<=9):wr .i64 ((wr .i64 (9223372036854775807-wr .i64 (d:Int))).tdiv 10)=(((9223372036854775807-d)/10:Nat):Int):=by
 rw[ea (n:=(d:Int)) (by omega) (by omega),show(9223372036854775807-(d:Int))=((9223372036854775807-d:Nat):Int)by omega,ea (n:=((9223372036854775807-d:Nat):Int)) (by omega) (by omega),show(10:Int)=((10:Nat):Int)from rfl,<-Int.ofNat_tdiv,ea (by omega) (by omega)]
theorem Sd {s:List UInt8} (hs:s.length≤1099511627776) {i:Nat} (hi:i<s.length):Nd 137 s i (rm s i s[i]):=by
  intro H;have tr:s[i]?=some s[i]:=by simp[hi]
  refine call137 (by simp) ?_;simp only[go_sem,simprocAttr,J5,RF];refine⟨Nat×Nat×Bool,[0,1,4,5,6,7,8,9],fun x st=>(i≤x.1∧x.1≤s.length∧bo ez s x.1=bo ez s i∧x.2.1≤gQ∧(x.2.2=false →x.2.1=fv ((s.drop i).take (x.1-i)) 0)∧(x.2.2=true →gQ<fv ((s.drop i).take (x.1-i)) 0))∧st=⟨[(0, .p (.s s)),(1, .p (.i .i64 i)),(4, .ptr H.length 0),(5, .p (.i .i64 0)),(6, .p (.i .i64 0)),(7, .p (.i .i64 x.1)),(8, .p (.i .i64 x.2.1)),(9, .p (.b x.2.2))],[],H++[.var [.p (.i .i64 0), .p (.s []), .p (.i .i64 0), .p (.i .i64 0)]]⟩,fun x=>s.length-x.1,⟨(i,0,false), ?_⟩, ?_⟩
  · simp only[go_sem,simprocAttr]
    exact⟨Nat.le_refl _,Nat.le_of_lt hi,Nat.zero_le _,fun _ =>by simp[fv],fun h=>h.elim⟩
  · rintro⟨x,n,bad⟩ _ ⟨⟨h1,h2,h3,h4,h5,h6⟩,rfl⟩
    simp only at h1 h2 h3 h4 h5 h6⊢;unfold gQ at h4;by_cases aF:x<s.length
    · have d1:decide ((x:Int)<(s.length:Int))=true :=by simp;omega
      have hg:s[x]?=some s[x]:=by simp[aF]
      simp only[go_sem,simprocAttr,d1,hg,F2];intro _;refine U (KB s[x] _) ?_;cases hd:ez s[x]
      · have ex:x=bo ez s i:=by rw[←h3,uc aF hd]
        simp only[go_sem,simprocAttr,hd];unfold rm;rw[←ex]
        cases bad with
        |true =>
         have hv:=h6 rfl;simp only[go_sem,simprocAttr,];simp only[if_pos (Or.inl hv:gQ<_ ∨_)]
         exact⟨⟨(x:Int),rfl⟩,_,rfl⟩
        |false =>
         have hv:=h5 rfl;cases tl:decide ((s[i].toNat:Int)=48)
         · simp only[go_sem,simprocAttr,tr,tl]
           have vP:¬(gQ<fv ((s.drop i).take (x-i)) 0∨(1<x-i∧(s[i].toNat:Int)=48)):=by
             rintro(h|⟨_,h⟩)
             · unfold gQ at h;omega
             · exact of_decide_eq_false tl h
           simp only[if_neg vP];simp only[←hv];exact⟨⟨0,rfl⟩,_,rfl⟩
         · by_cases h1x:i+1<x
           · have d5:decide (((i+1:Nat):Int)<(x:Int))=true :=by simp;omega
             simp only[go_sem,simprocAttr,tr,tl,cH i (by omega),d5];simp only[if_pos (Or.inr ⟨by omega,of_decide_eq_true tl⟩:gQ<_ ∨(1<x-i∧(s[i].toNat:Int)=48))];exact⟨⟨(x:Int),rfl⟩,_,rfl⟩
           · have d5:decide (((i+1:Nat):Int)<(x:Int))=false :=by simp;omega
             simp only[go_sem,simprocAttr,tr,tl,cH i (by omega),d5]
             have vP:¬(gQ<fv ((s.drop i).take (x-i)) 0∨(1<x-i∧(s[i].toNat:Int)=48)):=by
               rintro(h|⟨h,_⟩)
               · unfold gQ at h;omega
               · omega
             simp only[if_neg vP];simp only[←hv];exact⟨⟨0,rfl⟩,_,rfl⟩
      · have hf:=vB.1 hd
        have hw:=age hd;have hq:=agf (d:=s[x].toNat-48) (by omega);have M0:=OV h1 aF;have dp:bo ez s (x+1)=bo ez s i:=by rw[←h3,kW aF hd]
        have ir:=rD ((s.drop i).take (x-i)) s[x] 0;rw[←M0]at ir;by_cases ah5:(9223372036854775807-(s[x].toNat-48))/10<n
        · have d2:decide ((((9223372036854775807-(s[x].toNat-48))/10:Nat):Int)<(n:Int))=true :=by simp;omega
          simp only[go_sem,simprocAttr,hd,hg,hw,hq,d2,cH x (by omega)];refine⟨(x+1,n,true),⟨⟨by simp only;omega,by simp only;omega,dp,h4,(fun h=>by cases h),fun _ => ?_⟩,rfl⟩,by simp only;omega⟩;show gQ<fv ((s.drop i).take (x+1-i)) 0;rw[ir];unfold gQ
          cases bad with
          |true =>have :=h6 rfl;unfold gQ at this;omega
          |false =>have :=h5 rfl;omega
        · have d2:decide ((((9223372036854775807-(s[x].toNat-48))/10:Nat):Int)<(n:Int))=false :=by simp;omega
          have e1:wr .i64 ((n:Int)*10)=((n*10:Nat):Int):=by rw[ea (by omega) (by omega)];omega
          have e2:wr .i64 (((n*10:Nat):Int)+wr .i64 ((s[x].toNat-48:Nat):Int))=((n*10+(s[x].toNat-48):Nat):Int):=by
            rw[ea (n:=((s[x].toNat-48:Nat):Int)) (by omega) (by omega),ea (by omega) (by omega)];omega
          simp only[go_sem,simprocAttr,hd,hg,hw,hq,d2,e1,e2,cH x (by omega)];refine⟨(x+1,n*10+(s[x].toNat-48),bad),⟨⟨by simp only;omega,by simp only;omega,dp,by unfold gQ;simp only;omega,fun h=> ?_,fun h=> ?_⟩,rfl⟩,by simp only;omega⟩
          · show n*10+(s[x].toNat-48)=fv ((s.drop i).take (x+1-i)) 0
            rw[ir,h5 h]
          · show gQ<fv ((s.drop i).take (x+1-i)) 0
            rw[ir];have :=h6 h;omega
    · have d1:decide ((x:Int)<(s.length:Int))=false :=by simp;omega
      have ex:x=bo ez s i:=by rw[←h3,ud _ (by omega)]
      simp only[go_sem,simprocAttr,d1];intro _;unfold rm;rw[←ex]
      cases bad with
      |true =>
       have hv:=h6 rfl;simp only[go_sem,simprocAttr,];simp only[if_pos (Or.inl hv:gQ<_ ∨_)]
       exact⟨⟨(x:Int),rfl⟩,_,rfl⟩
      |false =>
       have hv:=h5 rfl;cases tl:decide ((s[i].toNat:Int)=48)
       · simp only[go_sem,simprocAttr,tr,tl]
         have vP:¬(gQ<fv ((s.drop i).take (x-i)) 0∨(1<x-i∧(s[i].toNat:Int)=48)):=by
           rintro(h|⟨_,h⟩)
           · unfold gQ at h;omega
           · exact of_decide_eq_false tl h
         simp only[if_neg vP];simp only[←hv];exact⟨⟨0,rfl⟩,_,rfl⟩
       · by_cases h1x:i+1<x
         · have d5:decide (((i+1:Nat):Int)<(x:Int))=true :=by simp;omega
           simp only[go_sem,simprocAttr,tr,tl,cH i (by omega),d5];simp only[if_pos (Or.inr ⟨by omega,of_decide_eq_true tl⟩:gQ<_ ∨(1<x-i∧(s[i].toNat:Int)=48))];exact⟨⟨(x:Int),rfl⟩,_,rfl⟩
         · have d5:decide (((i+1:Nat):Int)<(x:Int))=false :=by simp;omega
           simp only[go_sem,simprocAttr,tr,tl,cH i (by omega),d5]
           have vP:¬(gQ<fv ((s.drop i).take (x-i)) 0∨(1<x-i∧(s[i].toNat:Int)=48)):=by
             rintro(h|⟨h,_⟩)
             · unfold gQ at h;omega
             · omega
           simp only[if_neg vP];simp only[←hv];exact⟨⟨0,rfl⟩,_,rfl⟩
end Go.Proofs.YteilijfligofdaaGreatDoor.Qp