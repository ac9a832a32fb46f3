/- Texts PgA QaA QaB QaC QaD QaE QaF QaG QbA QbD QbE QbF QbG QbH QbI, merged. -/
import Derived.Test.YtjkbbnfdbfcebaaGreatDoorAm41
import Derived.Test.YtjkbbnfdbfcebaaGreatDoorChecked
import Derived.KernelRfl
import Derived.Shelf.LaysC
import Derived.Shelf.Strconv.AtoiAll
set_option linter.all false
namespace Go.Proofs.YtjkbbnfdbfcebaaGreatDoor.Pg
open Go.AM
inductive af where
 |mk (kind:Int) (name:List UInt8) (pos:Int) (kids:List af)
inductive ae where
 |mk (kind:Int) (name:List UInt8) (num pos:Int) (kids:List ae)
mutual
inductive aa where
 |mk (kind:Int) (name:List UInt8) (num:Int) (text:List UInt8) (pos:Int) (kids:List aa) (aaA:List al)
inductive al where
 |mk (pat:ae) (exp:aa)
end
structure ah where
 name:List UInt8
 has:Bool
 arg:af
 pos:Int
structure ai where
 name:List UInt8
 vars:List (List UInt8)
 ctors:List ah
 pos:Int
structure bb where
 types:List ai
 body:aa
mutual
def af.cells:af->List PV
 | .mk k n p ks=>[.i .i64 k,.s n,.i .i64 p,.l (af.aV ks)]
def af.aV:List af->List (List PV)
 |[]=>[]
 |t::l=>t.cells::af.aV l
end
mutual
def ae.cells:ae->List PV
 | .mk k n u p ks=>[.i .i64 k,.s n,.i .i64 u,.i .i64 p,.l (ae.aV ks)]
def ae.aV:List ae->List (List PV)
 |[]=>[]
 |t::l=>t.cells::ae.aV l
end
mutual
def aa.cells:aa->List PV
 | .mk k n u t p ks aM=>[.i .i64 k,.s n,.i .i64 u,.s t,.i .i64 p,.l (aa.aV ks),.l (aa.bR aM)]
def aa.aV:List aa->List (List PV)
 |[]=>[]
 |t::l=>t.cells::aa.aV l
def al.cells:al->List PV
 | .mk p e=>p.cells++e.cells
def aa.bR:List al->List (List PV)
 |[]=>[]
 |t::l=>t.cells::aa.bR l
end
def ah.cells (c:ah):List PV:=[.s c.name,.b c.has]++c.arg.cells++[.i .i64 c.pos]
def cg (l:List (List UInt8)):List (List PV):=l.map fun s=>[.s s]
def ai.cells (d:ai):List PV:=[.s d.name,.l (cg d.vars),.l (d.ctors.map ah.cells),.i .i64 d.pos]
def bb.cells (p:bb):List PV:=.l (p.types.map ai.cells)::p.body.cells
mutual
def af.sz:af->Nat
 | .mk k n p ks=>n.length+af.fh ks
def af.fh:List af->Nat
 |[]=>0
 |t::l=>1+t.sz+af.fh l
end
mutual
def ae.sz:ae->Nat
 | .mk k n u p ks=>n.length+ae.fh ks
def ae.fh:List ae->Nat
 |[]=>0
 |t::l=>1+t.sz+ae.fh l
end
mutual
def aa.sz:aa->Nat
 | .mk k n u t p ks aM=>n.length+t.length+aa.fh ks+aa.Dt aM
def aa.fh:List aa->Nat
 |[]=>0
 |t::l=>1+t.sz+aa.fh l
def al.sz:al->Nat
 | .mk p e=>p.sz+e.sz
def aa.Dt:List al->Nat
 |[]=>0
 |t::l=>1+t.sz+aa.Dt l
end
def jv:List (List UInt8)->Nat
 |[]=>0
 |s::l=>1+s.length+jv l
def ah.sz (c:ah):Nat:=c.name.length+c.arg.sz
def eG:List ah->Nat
 |[]=>0
 |s::l=>1+s.sz+eG l
def ai.sz (d:ai):Nat:=d.name.length+jv d.vars+eG d.ctors
def iF:List ai->Nat
 |[]=>0
 |s::l=>1+s.sz+iF l
def bb.sz (p:bb):Nat:=iF p.types+p.body.sz
theorem af.aw (l:List af):af.aV l=l.map af.cells:=by
 induction l with
 |nil=>rfl
 |cons t l ih=>rw[af.aV,ih];rfl
theorem ae.aw (l:List ae):ae.aV l=l.map ae.cells:=by
 induction l with
 |nil=>rfl
 |cons t l ih=>rw[ae.aV,ih];rfl
theorem aa.aw (l:List aa):aa.aV l=l.map aa.cells:=by
 induction l with
 |nil=>rfl
 |cons t l ih=>rw[aa.aV,ih];rfl
theorem aa.aN (l:List al):aa.bR l=l.map al.cells:=by
 induction l with
 |nil=>rfl
 |cons t l ih=>rw[aa.bR,ih];rfl
def cw {α:Type} (f:α->Nat):List α->Nat
 |[]=>0
 |a::l=>1+f a+cw f l
theorem gM {α:Type} (f:α->Nat) (l:List α):l.length<=cw f l:=by
 induction l with
 |nil=>simp
 |cons a l ih=>simp[cw];omega
theorem bM {α:Type} (f:α→Nat) {l:List α} {a:α} (h:a∈l):f a<cw f l:=by
  induction l with
  |nil=>cases h
  |cons b l ih=>
   simp[cw];rcases List.mem_cons.1 h with rfl|h
   · omega
   · have :=ih h;omega
theorem af.dr (l):af.fh l=cw af.sz l:=by
 induction l with
 |nil=>rfl
 |cons t l ih=>rw[af.fh,ih];rfl
theorem ae.dr (l):ae.fh l=cw ae.sz l:=by
 induction l with
 |nil=>rfl
 |cons t l ih=>rw[ae.fh,ih];rfl
theorem aa.dr (l):aa.fh l=cw aa.sz l:=by
 induction l with
 |nil=>rfl
 |cons t l ih=>rw[aa.fh,ih];rfl
theorem aa.lN (l):aa.Dt l=cw al.sz l:=by
 induction l with
 |nil=>rfl
 |cons t l ih=>rw[aa.Dt,ih];rfl
theorem Aq (l):jv l=cw List.length l:=by
 induction l with
 |nil=>rfl
 |cons t l ih=>rw[jv,ih];rfl
theorem Ar (l):eG l=cw ah.sz l:=by
 induction l with
 |nil=>rfl
 |cons t l ih=>rw[eG,ih];rfl
theorem As (l):iF l=cw ai.sz l:=by
 induction l with
 |nil=>rfl
 |cons t l ih=>rw[iF,ih];rfl
structure Tok where
 k:Int
 t:List UInt8
 n:Int
 p:Int
def Tok.cells (x:Tok):List PV:=[.i .i64 x.k,.s x.t,.i .i64 x.n,.i .i64 x.p]
def eP (c:UInt8):Bool:=decide ((97:Int)<=(c.toNat:Int))&&decide ((c.toNat:Int)<=122)
def fG (c:UInt8):Bool:=decide ((65:Int)<=(c.toNat:Int))&&decide ((c.toNat:Int)<=90)
def eH (c:UInt8):Bool:=decide ((48:Int)<=(c.toNat:Int))&&decide ((c.toNat:Int)<=57)
def cx (c:UInt8):Bool:=eP c||fG c||eH c||decide ((c.toNat:Int)=95)
def qZ (c:UInt8):Bool:=decide ((32:Int)<=(c.toNat:Int))&&decide ((c.toNat:Int)<=126)
def kI (c:UInt8):Bool:=!decide ((c.toNat:Int)=10)
def ow (q:UInt8->Bool):List UInt8->Nat
 |[]=>0
 |c::l=>if q c then ow q l+1 else 0
def bz (q:UInt8->Bool) (s:List UInt8) (i:Nat):Nat:=i+ow q (s.drop i)
theorem Qq (q) (l:List UInt8):ow q l<=l.length:=by
 induction l with
 |nil=>simp[ow]
 |cons c l ih=>rw[ow];split <;>simp <;>omega
theorem lA (q) {s:List UInt8} {i:Nat} (h:i<=s.length):bz q s i<=s.length:=by
 have:=Qq q (s.drop i);simp at this;unfold bz;omega
theorem oQ (q) (s:List UInt8) (i:Nat):i<=bz q s i:=by unfold bz;omega
theorem B9 {s:List UInt8} {i:Nat} (h:i<s.length):s.drop i=s[i]::s.drop (i+1):=List.drop_eq_getElem_cons h
theorem kW {q} {s:List UInt8} {i:Nat} (h:i<s.length) (hq:q s[i]=true):bz q s i=bz q s (i+1):=by
 unfold bz;rw[B9 h,ow,if_pos hq];omega
theorem tR {q} {s:List UInt8} {i:Nat} (h:i<s.length) (hq:q s[i]=false):bz q s i=i:=by
 unfold bz;rw[B9 h,ow,if_neg (by simp[hq])]
 rfl
theorem tS (q) {s:List UInt8} {i:Nat} (h:s.length<=i):bz q s i=i:=by
 unfold bz;rw[List.drop_of_length_le h];rfl
def keys:List (List UInt8):=[[116,121,112,101],[111,102],[108,101,116],[114,101,99],[105,110],[102,117,110],[105,102],[116,104,101,110],[101,108,115,101],[109,97,116,99,104],[119,105,116,104],[101,110,100],[116,114,117,101],[102,97,108,115,101],[114,101,102],[114,101,97,100],[112,114,105,110,116],[101,120,105,116],[115,105,122,101]]
def bE:List (List UInt8):=[[45,62],[58,61],[61],[60],[43],[45],[42],[94],[59],[124],[40],[41],[44],[95],[33]]
def isKey (s:List UInt8):Bool:=decide (s∈keys)
def preB (g l:List UInt8):Bool:=decide (l.take g.length=g)
def eQ (l:List UInt8):List (List UInt8)->List UInt8
 |[]=>[]
 |g::gs=>if preB g l then g else eQ l gs
def fo:List UInt8->Nat->Nat
 |[],n=>n
 |c::l,n=>fo l (n*10+(c.toNat-48))
def gT:Nat:=9223372036854775807
def gn (s:List UInt8) (i:Nat) (out:List UInt8):Option (List UInt8×Nat):=
 if h:i<s.length then
  if(s[i].toNat:Int)=34 then some (out,i+1)
  else if(s[i].toNat:Int)=92 then
   if h2:i+1<s.length then
    if(s[i+1].toNat:Int)=110 then gn s (i+2) (out++[10])
    else if(s[i+1].toNat:Int)=34\/(s[i+1].toNat:Int)=92 then gn s (i+2) (out++[s[i+1]])
    else none
   else none
  else if qZ s[i]then gn s (i+1) (out++[s[i]])else none
 else none
termination_by s.length-i
def jG (s:List UInt8) (i:Nat) (c:UInt8) (f:Nat):(Tok×Nat)⊕Int:=
 if 12<bz cx s f-f then .inr 2
 else .inl (⟨if(c.toNat:Int)=39 then 5 else if fG c then 4 else if isKey ((s.drop f).take (bz cx s f-f))then 6 else 3,(s.drop f).take (bz cx s f-f),0,i⟩,bz cx s f)
def fi (s:List UInt8) (i:Nat) (c:UInt8):(Tok×Nat)⊕Int:=jG s i c (if(c.toNat:Int)=39 then i+1 else i)
def sJ (s:List UInt8) (i:Nat) (c:UInt8):(Tok×Nat)⊕Int:=
 let e:=bz eH s i;let v:=fo ((s.drop i).take (e-i)) 0
 if gT<v\/(1<e-i/\(c.toNat:Int)=48)then .inr 3 else .inl (⟨1,[],v,i⟩,e)
def q9 (s:List UInt8) (i:Nat):(Tok×Nat)⊕Int:=
 match gn s (i+1) []with
 |some (t,e)=>.inl (⟨2,t,0,i⟩,e)
 |none=>.inr 4
def o9 (s:List UInt8) (i:Nat):(Tok×Nat)⊕Int:=
 let g:=eQ (s.drop i) bE
 if g=[]then .inr 1 else .inl (⟨7,g,0,i⟩,i+g.length)
def tick (s:List UInt8) (i:Nat) (c:UInt8):Bool:=decide ((c.toNat:Int)=39)&&(decide (i+1<s.length)&&eP (s.getD (i+1) 0))
def jY (s:List UInt8) (i:Nat) (c:UInt8):(Tok×Nat)⊕Int:=
 if eH c then sJ s i c
 else if eP c||fG c||tick s i c then fi s i c
 else if(c.toNat:Int)=34 then q9 s i
 else o9 s i
def blank (c:UInt8):Bool:=decide ((c.toNat:Int)=32)||decide ((c.toNat:Int)=9)||decide ((c.toNat:Int)=10)
def eB (s:List UInt8) (most i:Nat) (out:List Tok):List Tok⊕(Int×Nat):=
 if h:i<s.length then
  if blank s[i]then eB s most (i+1) out
  else if(s[i].toNat:Int)=35 then(if i<bz kI s i then eB s most (bz kI s i) out else .inl out)
  else match jY s i s[i]with
   | .inr c=>.inr (c,i)
   | .inl (t,e)=>if out.length=most then .inr (5,i)else if i<e then eB s most e (out++[t])else .inl out
 else .inl (out++[⟨8,[],0,s.length⟩])
termination_by s.length-i
theorem NL {s:List UInt8}:∀(n i:Nat) (out t:List UInt8) (e:Nat),s.length-i≤n→gn s i out=some (t,e)→i<e∧e≤s.length∧t.length+i+1≤out.length+e:=by
  intro n
  induction n with
  |zero=>intro i out t e hn h;rw[gn,dif_neg (by omega)]at h;cases h
  |succ n ih=>
   intro i out t e hn h;rw[gn]at h;split at h
   · split at h
     · cases h;omega
     split at h
     · split at h
       · split at h
         · have :=ih _ _ _ _ (by omega) h;simp at this;omega
         split at h
         · have :=ih _ _ _ _ (by omega) h;simp at this;omega
         · cases h
       · cases h
     split at h
     · have :=ih _ _ _ _ (by omega) h;simp at this;omega
     · cases h
   · cases h
theorem tU {s:List UInt8} {i:Nat} (h:i<s.length) (hc:(s[i].toNat:Int)=35):i<bz kI s i:=by
 rw[kW h (by simp[kI,hc])];have:=oQ kI s (i+1);omega
theorem ra (l):∀gs:List (List UInt8),(eQ l gs).length≤l.length∧((eQ l gs)=[]∨eQ l gs∈gs)
  |[]=>by simp[eQ]
  |g::gs=>by
   have ih:=ra l gs;rw[eQ];split
   · rename_i h
     simp only[preB,decide_eq_true_eq]at h;have :=congrArg List.length h;rw[List.length_take]at this;exact⟨by omega, .inr (by simp)⟩
   · exact⟨ih.1,ih.2.imp id (by intro h;simp[h])⟩
theorem xP {s:List UInt8} {i:Nat} (h:i<s.length) {t:Tok} {e:Nat} (ht:jY s i s[i]=.inl (t,e)):i<e/\e<=s.length/\t.p=i/\1<=t.k/\t.k<=7/\t.t.length<=s.length/\0<=t.n/\t.n<=gT:=by
 unfold jY at ht;split at ht
 ·rename_i hd
  simp only[sJ]at ht;split at ht
  ·cases ht
  ·rename_i hv
   cases ht;have:=lA eH (s:=s) (i:=i+1) (by omega);have:=oQ eH s (i+1);rw[kW h hd];refine⟨by omega,by omega,rfl,by simp,by simp,by simp,by simp,?_⟩;rw[<-kW h hd];simp only[not_or]at hv;show(↑(fo _ _):Int)<=_;omega
 split at ht
 ·rename_i hd hw
  have cJ:i<bz cx s (if(s[i].toNat:Int)=39 then i+1 else i)/\bz cx s (if(s[i].toNat:Int)=39 then i+1 else i)<=s.length:=by
   split
   ·have:=lA cx (s:=s) (i:=i+1) (by omega)
    have:=oQ cx s (i+1);omega
   ·rename_i lO
    have hn:cx s[i]=true:=by
     simp only[Bool.or_eq_true]at hw;rcases hw with(hw|hw)|hw
     ·simp[cx,hw]
     ·simp[cx,hw]
     ·simp[tick,lO]at hw
    rw[kW h hn];have:=lA cx (s:=s) (i:=i+1) (by omega);have:=oQ cx s (i+1);omega
  unfold fi at ht;generalize (if(s[i].toNat:Int)=39 then i+1 else i)=f at ht cJ;unfold jG at ht;by_cases gv:12<bz cx s f-f
  ·rw[if_pos gv]at ht;cases ht
  ·rw[if_neg gv]at ht
   cases ht;refine⟨cJ.1,cJ.2,rfl,?_,?_,?_,by simp,by simp[gT]⟩
   ·simp only[];(repeat' split)<;>decide
   ·simp only[];(repeat' split)<;>decide
   ·simp;omega
 split at ht
 ·simp only[q9]at ht
  split at ht
  ·rename_i hs
   cases ht;have:=NL _ _ _ _ _ (Nat.le_refl _) hs;simp at this;refine⟨by omega,by omega,rfl,by simp,by simp,by simp only[];omega,by simp,by simp[gT]⟩
  ·cases ht
 ·simp only[o9]at ht
  have hl:=(ra (s.drop i) bE).1;split at ht
  ·cases ht
  ·rename_i cX
   cases ht;have:0<(eQ (s.drop i) bE).length:=List.length_pos_iff.2 cX;simp at hl;refine⟨by omega,by omega,rfl,by simp,by simp,by simp only[];omega,by simp,by simp[gT]⟩
theorem NM {s:List UInt8} {i:Nat} {c:UInt8} {t:Tok} {e:Nat} (ht:jY s i c=.inl (t,e)):t.k=6->isKey t.t=true:=by
 unfold jY at ht;split at ht
 ·simp only[sJ]at ht
  split at ht
  ·cases ht
  ·cases ht;intro h;simp at h
 split at ht
 ·unfold fi at ht
  generalize (if(c.toNat:Int)=39 then i+1 else i)=f at ht;unfold jG at ht;by_cases gv:12<bz cx s f-f
  ·rw[if_pos gv]at ht;cases ht
  ·rw[if_neg gv]at ht
   cases ht;intro h;simp only[]at h⊢;by_cases hk:isKey (List.take (bz cx s f-f) (List.drop f s))=true
   ·exact hk
   ·rw[if_neg hk]at h
    split at h
    ·simp at h
    ·split at h<;>simp at h
 split at ht
 ·simp only[q9]at ht
  split at ht
  ·cases ht;intro h;simp at h
  ·cases ht
 ·simp only[o9]at ht
  split at ht
  ·cases ht
  ·cases ht;intro h;simp at h
theorem kC {s:List UInt8} {most i:Nat} {out:List Tok} (h:i<s.length) (hb:blank s[i]=true):eB s most i out=eB s most (i+1) out:=by
 rw[eB,dif_pos h,if_pos hb]
theorem tV {s:List UInt8} {most i:Nat} {out:List Tok} (h:i<s.length) (hb:blank s[i]=false) (hc:(s[i].toNat:Int)=35):eB s most i out=eB s most (bz kI s i) out:=by
 rw[eB,dif_pos h,if_neg (by simp[hb]),if_pos hc,if_pos (tU h hc)]
theorem wB {s:List UInt8} {most i:Nat} {out:List Tok} (h:i<s.length) (hb:blank s[i]=false) (hc:¬(s[i].toNat:Int)=35) {c:Int} (ht:jY s i s[i]=.inr c):eB s most i out=.inr (c,i):=by
 rw[eB,dif_pos h,if_neg (by simp[hb]),if_neg hc,ht]
theorem tW {s:List UInt8} {most i:Nat} {out:List Tok} (h:i<s.length) (hb:blank s[i]=false) (hc:¬(s[i].toNat:Int)=35) {t:Tok} {e:Nat} (ht:jY s i s[i]=.inl (t,e)) (hm:out.length=most):eB s most i out=.inr (5,i):=by
 rw[eB,dif_pos h,if_neg (by simp[hb]),if_neg hc,ht];simp only[if_pos hm]
theorem rU {s:List UInt8} {most i:Nat} {out:List Tok} (h:i<s.length) (hb:blank s[i]=false) (hc:¬(s[i].toNat:Int)=35) {t:Tok} {e:Nat} (ht:jY s i s[i]=.inl (t,e)) (hm:¬out.length=most):eB s most i out=eB s most e (out++[t]):=by
 rw[eB,dif_pos h,if_neg (by simp[hb]),if_neg hc,ht];simp only[if_neg hm,if_pos (xP h ht).1]
theorem pb {s:List UInt8} {most i:Nat} {out:List Tok} (h:¬i<s.length):eB s most i out=.inl (out++[⟨8,[],0,s.length⟩]):=by
 rw[eB,dif_neg h]
structure bL (l:List Tok):Prop where
 pos:0<l.length
 fin:∀(i:Nat) x,l[i]?=some x->(x.k=8↔i+1=l.length)
 key:∀x∈l,x.k=6->isKey x.t=true
theorem zj {s:List UInt8} {most:Nat}:∀(n i:Nat) (out l:List Tok),s.length-i≤n→(∀x∈out,x.k≠8∧(x.k=6→isKey x.t=true))→eB s most i out= .inl l→bL l∧l.length≤out.length+(s.length-i)+1:=by
  have fin:∀(i:Nat) (out:List Tok),(∀x∈out,x.k≠8∧(x.k=6→isKey x.t=true))→bL (out++[⟨8,[],0,s.length⟩])∧(out++[(⟨8,[],0,s.length⟩:Tok)]).length≤out.length+(s.length-i)+1:=by
    intro i out ho;refine⟨⟨by simp,fun j x hx=> ?_,fun x hx hk=> ?_⟩,by simp⟩;rotate_left
    · rcases List.mem_append.1 hx with hx|hx
      · exact(ho x hx).2 hk
      · simp at hx;subst hx;simp at hk
    rcases Nat.lt_or_ge j out.length with hj|hj
    · rw[List.getElem?_append_left hj]at hx
      have :=(ho x (List.mem_of_getElem? hx)).1;simp only[this,false_iff,List.length_append,List.length_cons,List.length_nil];omega
    · rw[List.getElem?_append_right hj]at hx
      have :j-out.length=0:=by
        rcases Nat.eq_zero_or_pos (j-out.length)with h|h
        · exact h
        · rw[List.getElem?_eq_none (by simp;omega)]at hx;cases hx
      rw[this]at hx;cases hx;simp;omega
  intro n
  induction n with
  |zero=>
   intro i out l hn ho h;rw[pb (by omega)]at h;cases h
   exact fin i out ho
  |succ n ih=>
   intro i out l hn ho h;by_cases hi:i<s.length
   · cases hb:blank s[i]with
     |true =>
      rw[kC hi hb]at h;have :=ih _ _ _ (by omega) ho h
      exact⟨this.1,by omega⟩
     |false =>
      by_cases hc:(s[i].toNat:Int)=35
      · rw[tV hi hb hc]at h
        have hg:=tU hi hc;have :=ih _ _ _ (by omega) ho h;exact⟨this.1,by omega⟩
      · rcases ht:jY s i s[i]with⟨t,e⟩|c
        · by_cases hm:out.length=most
          · rw[tW hi hb hc ht hm]at h;cases h
          · rw[rU hi hb hc ht hm]at h
            have hg:=xP hi ht
            have :=ih _ _ _ (by omega) (by
              intro x hx;rcases List.mem_append.1 hx with hx|hx
              · exact ho x hx
              · simp at hx;subst hx;exact⟨by omega,NM ht⟩) h
            simp at this;exact⟨this.1,by omega⟩
        · rw[wB hi hb hc ht]at h;cases h
   · rw[pb hi]at h
     cases h;exact fin i out ho
structure PS where
 i:Nat
 nest:Nat
 d:Nat
 c:Int
 ps:Int
abbrev PM (α:Type):=PS->α×PS
def agp:Tok:=⟨8,[],0,0⟩
def aJ (T:List Tok) (s:PS):Tok:=T.getD s.i agp
def aI (s:PS):PS:={s with i:=s.i+1}
def dQ (T:List Tok) (c:Int) (s:PS):PS:=if s.c=0 then{s with c:=c,ps:=(aJ T s).p}else s
def aL (T:List Tok) (x:List UInt8) (s:PS):Bool:=decide (s.c=0)&&(decide ((aJ T s).k=6)||decide ((aJ T s).k=7))&&decide ((aJ T s).t=x)
def bB (T:List Tok) (k:Int) (s:PS):Bool:=decide (s.c=0)&&decide ((aJ T s).k=k)
def aX (T:List Tok) (x:List UInt8) (s:PS):PS:=if aL T x s then aI s else dQ T 11 s
def cZ (T:List Tok) (k:Int) (s:PS):List UInt8×PS:=if bB T k s then((aJ T s).t,aI s)else([],dQ T 11 s)
def cT (T:List Tok) (most d:Nat) (s:PS):PS:=
 let s1:=if most<d then dQ T 12 s else s
 if s1.c=0 then{s1 with d:=max s1.d d}else s1
def many {α:Type} (g:PS->Bool) (m:PM α):Nat->PM (List α)
 |0,s=>([],s)
 |n+1,s=>if g s then((m s).1::(many g m n (m s).2).1,(many g m n (m s).2).2)else([],s)
def carry {α:Type} (g:PS->Bool) (m:α->PM α):Nat->α->PM α
 |0,a,s=>(a,s)
 |n+1,a,s=>if g s then carry g m n (m a s).1 (m a s).2 else(a,s)
def zk (T:List Tok) (s t:PS):Prop:=s.i<=t.i/\t.i<T.length/\(s.c≠0->t=s)/\t.nest=s.nest
def gU (T:List Tok) (f:PS->PS):Prop:=∀s,s.i<T.length->zk T s (f s)
theorem zk.rfl {T:List Tok} {s:PS} (h:s.i<T.length):zk T s s:=⟨Nat.le_refl _,h,fun _=>Eq.refl _,Eq.refl _⟩
theorem zk.trans {T:List Tok} {s t u:PS} (h:zk T s t) (k:zk T t u):zk T s u:=by
 obtain⟨h1,h2,h3,h4⟩:=h;obtain⟨k1,k2,k3,k4⟩:=k;exact⟨Nat.le_trans h1 k1,k2,fun hc=>by have:=h3 hc;subst this;exact k3 hc,k4.trans h4⟩
theorem xQ {T:List Tok}:gU T (fun s=>s):=fun s h=>zk.rfl h
theorem rV {T:List Tok} (hT:bL T) {s:PS} (h:s.i<T.length) (hk:(aJ T s).k≠8):s.i+1<T.length:=by
 have e:T[s.i]?=some (aJ T s):=by simp[aJ,h]
 have:=hT.fin _ _ e;omega
theorem cH {T:List Tok} {x:List UInt8} {s:PS} (h:aL T x s=true):s.c=0/\(aJ T s).k≠8:=by
 simp[aL]at h;exact⟨h.1.1,by omega⟩
theorem qF {T:List Tok} {k:Int} {s:PS} (h:bB T k s=true):s.c=0/\(aJ T s).k=k:=by simpa[bB]using h
theorem pd {T:List Tok} {x:List UInt8} {s:PS} (h:s.c≠0):aL T x s=false:=by simp[aL,h]
theorem wC {T:List Tok} {k:Int} {s:PS} (h:s.c≠0):bB T k s=false:=by simp[bB,h]
theorem rb {T:List Tok} {c:Int} {s:PS} (h:s.c≠0):dQ T c s=s:=by simp[dQ,h]
theorem iG {T:List Tok} {c:Int} {s:PS} (h:s.c=0):dQ T c s={s with c:=c,ps:=(aJ T s).p}:=by simp[dQ,h]
theorem mN (T:List Tok) (c:Int):gU T (dQ T c):=fun s h=>by
 unfold dQ;split
 ·rename_i hc;exact⟨Nat.le_refl _,h,fun h=>(h hc).elim,rfl⟩
 ·exact⟨Nat.le_refl _,h,fun _=>rfl,rfl⟩
theorem aK {T:List Tok} (hT:bL T) (x):gU T (aX T x):=fun s h=>by
 unfold aX;split
 ·rename_i hb
  obtain⟨h1,h2⟩:=cH hb;exact⟨by simp[aI],by simpa[aI]using rV hT h h2,fun h=>(h h1).elim,rfl⟩
 ·exact mN T 11 s h
theorem Jo {T:List Tok} (hT:bL T) {k:Int} (hk:k≠8):gU T (fun s=>(cZ T k s).2):=fun s h=>by
 show zk T s (cZ T k s).2;unfold cZ;by_cases hb:bB T k s=true
 ·obtain⟨h1,h2⟩:=qF hb
  rw[if_pos hb];exact⟨by simp[aI],by simpa[aI]using rV hT h (by omega),fun h=>(h h1).elim,rfl⟩
 ·rw[if_neg hb];exact mN T 11 s h
theorem Jp {T:List Tok} {most d} {s:PS} (h:s.c≠0):cT T most d s=s:=by
 unfold cT;split <;>simp[rb h,h]
theorem xR (T:List Tok) (most d:Nat):gU T (cT T most d):=fun s h=>by
 by_cases hc:s.c=0
 ·refine⟨?_,?_,fun h=>(h hc).elim,?_⟩<;>(unfold cT;simp only[];(repeat' split)<;>simp[dQ,hc,h])
 ·rw[Jp hc];exact⟨Nat.le_refl _,h,fun _=>rfl,rfl⟩
theorem kD {α:Type} {g:PS->Bool} {m:PM α} {s:PS} (h:g s=false):∀n,many g m n s=([],s)
 |0=>rfl
 |n+1=>by rw[many,h];simp
theorem rf {α:Type} {g:PS->Bool} {m:α->PM α} {a:α} {s:PS} (h:g s=false):∀n,carry g m n a s=(a,s)
 |0=>rfl
 |n+1=>by rw[carry,h];simp
def eN (T:List Tok) (g:PS->Bool):Prop:=∀s,g s=true->s.c=0/\(aJ T s).k≠8
theorem wD {T:List Tok} {α:Type} {g:PS→Bool} {m:PM α} (hg:eN T g) (hm:∀s,s.i<T.length→g s=true →s.i≤(m s).2.i∧(m s).2.i<T.length∧(m s).2.nest=s.nest):∀n,gU T (fun s=>(many g m n s).2)
  |0=>xQ
  |n+1=>fun s h=>by
   cases hb:g s with
   |false =>simp only[kD hb];exact xQ s h
   |true =>
    obtain⟨h1,h2,h3⟩:=hm s h hb;obtain⟨k1,k2,k3,k4⟩:=wD hg hm n _ h2;simp only[many,hb,if_true];exact⟨Nat.le_trans h1 k1,k2,fun hc=>(hc (hg s hb).1).elim,k4.trans h3⟩
theorem tX {T:List Tok} {α:Type} {g:PS→Bool} {m:α→PM α} (hg:eN T g) (hm:∀a s,s.i<T.length→g s=true →s.i≤(m a s).2.i∧(m a s).2.i<T.length∧(m a s).2.nest=s.nest):∀n a,gU T (fun s=>(carry g m n a s).2)
  |0,a=>xQ
  |n+1,a=>fun s h=>by
   cases hb:g s with
   |false =>simp only[rf hb];exact xQ s h
   |true =>
    obtain⟨h1,h2,h3⟩:=hm a s h hb;obtain⟨k1,k2,k3,k4⟩:=tX hg hm n (m a s).1 _ h2;simp only[carry,hb,if_true];exact⟨Nat.le_trans h1 k1,k2,fun hc=>(hc (hg s hb).1).elim,k4.trans h3⟩
theorem aB (T x):eN T (aL T x):=fun s h=>cH h
theorem cC (T) {k:Int} (hk:k≠8):eN T (bB T k):=fun s h=>⟨(qF h).1,by rw[(qF h).2];exact hk⟩
theorem eN.or {T:List Tok} {g h:PS->Bool} (hg:eN T g) (hh:eN T h):eN T (fun s=>g s||h s):=fun s hs=>by
 rcases Bool.or_eq_true _ _ ▸hs with h1|h1
 ·exact hg s h1
 ·exact hh s h1
theorem gU.aI {T:List Tok} (hT:bL T) {f:PS->PS} (hf:gU T f) {s:PS} (h:s.i<T.length) (hk:(aJ T s).k≠8):s.i<(f (aI s)).i/\(f (aI s)).i<T.length/\(f (aI s)).nest=s.nest:=by
 obtain⟨h1,h2,_,h4⟩:=hf (Pg.aI s) (by simpa[Pg.aI]using rV hT h hk);exact⟨h1,h2,h4⟩
def aH {α β:Type} (m:PM α) (k:α->PM β):PM β:=fun s=>k (m s).1 (m s).2
def aT {α:Type} (a:α):PM α:=fun s=>(a,s)
def cz {α:Type} (f:PS->PS) (m:PM α):PM α:=fun s=>m (f s)
def eI {α:Type} (T:List Tok) (k:Tok->PM α):PM α:=fun s=>k (aJ T s) s
def bm {α:Type} (g:PS->Bool) (m1 m2:PM α):PM α:=fun s=>if g s then m1 (aI s)else m2 s
def eJ {α:Type} (g:PS->Bool) (m1 m2:PM α):PM α:=fun s=>if g s then m1 s else m2 s
def bT {α:Type} (m:PM α):PM α:=fun s=>m (aI s)
def kO {α:Type} (T:List Tok) (most d:Nat) (z:α) (m:PM α):PM α:=fun s=>if(cT T most d s).c=0 then m (cT T most d s)else(z,cT T most d s)
def cF (T:List Tok) (lim:Nat) (s:PS):PS:=
 let s1:=if s.c=0/\s.nest=lim then dQ T 12 s else s
 let s2:={s1 with nest:=s1.nest+1}
 if s2.c=0/\s2.d<s2.nest then{s2 with d:=s2.nest}else s2
def shut (s:PS):PS:={s with nest:=s.nest-1}
def p5 {α:Type} (T:List Tok) (lim:Nat) (z:α) (m:PM α):PM α:=fun s=>
 if(cF T lim s).c=0 then((m (cF T lim s)).1,shut (m (cF T lim s)).2)else(z,shut (cF T lim s))
def ab (T:List Tok) {α:Type} (m:PM α):Prop:=∀s,s.i<T.length->zk T s (m s).2
theorem ab.bind {T:List Tok} {α β:Type} {m:PM α} {k:α->PM β} (hm:ab T m) (hk:∀a,ab T (k a)):ab T (aH m k):=fun s h=>
 (hm s h).trans (hk (m s).1 _ (hm s h).2.1)
theorem ab.ret {T:List Tok} {α:Type} (a:α):ab T (aT a):=fun s h=>zk.rfl h
theorem ab.step {T:List Tok} {α:Type} {f:PS->PS} {m:PM α} (hf:gU T f) (hm:ab T m):ab T (cz f m):=fun s h=>(hf s h).trans (hm _ (hf s h).2.1)
theorem ab.now {T:List Tok} {α:Type} {k:Tok->PM α} (hk:∀t,ab T (k t)):ab T (eI T k):=fun s h=>hk (aJ T s) s h
theorem ab.bm {T:List Tok} (hT:bL T) {α:Type} {g:PS→Bool} {m1 m2:PM α} (hg:eN T g) (h1:ab T m1) (h2:ab T m2):ab T (bm g m1 m2):=fun s h=>by
  cases hb:g s with
  |false =>simp only[Pg.bm,hb];exact h2 s h
  |true =>
   obtain⟨hc,hk⟩:=hg s hb;obtain⟨a1,a2,a3⟩:=gU.aI hT h1 h hk;simp only[Pg.bm,hb,if_true];exact⟨Nat.le_of_lt a1,a2,fun kM=>(kM hc).elim,a3⟩
theorem ab.eJ {T:List Tok} {α:Type} {g:PS->Bool} {m1 m2:PM α} (h1:ab T m1) (h2:ab T m2):ab T (eJ g m1 m2):=fun s h=>by
 cases hb:g s with
 |false=>simp only[Pg.eJ,hb];exact h2 s h
 |true=>simp only[Pg.eJ,hb,if_true];exact h1 s h
theorem ab.many {T:List Tok} {α:Type} {g:PS->Bool} {m:PM α} (hg:eN T g) (hm:ab T m) (n:Nat):ab T (many g m n):=
 wD hg (fun s h _=>⟨(hm s h).1,(hm s h).2.1,(hm s h).2.2.2⟩) n
theorem ab.gp {T:List Tok} (hT:bL T) {α:Type} {g:PS->Bool} {m:PM α} (hg:eN T g) (hm:ab T m) (n:Nat):ab T (Pg.many g (bT m) n):=
 wD hg (fun s h hb=>by
  have:=gU.aI hT hm h (hg s hb).2;exact⟨Nat.le_of_lt this.1,this.2.1,this.2.2⟩) n
theorem ab.carry {T:List Tok} {α:Type} {g:PS->Bool} {m:α->PM α} (hg:eN T g) (hm:∀a,ab T (m a)) (n:Nat) (a:α):ab T (carry g m n a):=
 tX hg (fun a s h _=>⟨(hm a s h).1,(hm a s h).2.1,(hm a s h).2.2.2⟩) n a
theorem ab.A8 {T:List Tok} (hT:bL T) {α:Type} {g:PS->Bool} {m:Tok->α->PM α} (hg:eN T g) (hm:∀t a,ab T (m t a)) (n:Nat) (a:α):ab T (Pg.carry g (fun a=>eI T fun t=>bT (m t a)) n a):=
 tX hg (fun a s h hb=>by
  have:=gU.aI hT (hm (aJ T s) a) h (hg s hb).2;exact⟨Nat.le_of_lt this.1,this.2.1,this.2.2⟩) n a
theorem ab.deep {T:List Tok} {α:Type} {most d:Nat} {z:α} {m:PM α} (hm:ab T m):ab T (kO T most d z m):=fun s h=>by
 obtain⟨h1,h2,h3,h4⟩:=xR T most d s h;by_cases hc:(cT T most d s).c=0
 ·obtain⟨k1,k2,k3,k4⟩:=hm _ h2
  simp only[kO,if_pos hc];exact⟨Nat.le_trans h1 k1,k2,fun kM=>by rw[h3 kM]at hc;exact(kM hc).elim,k4.trans h4⟩
 ·simp only[kO,if_neg hc]
  exact⟨h1,h2,h3,h4⟩
theorem xS {T:List Tok} {lim:Nat} {s:PS} (h:s.c≠0):cF T lim s={s with nest:=s.nest+1}:=by simp[cF,h]
theorem ab.Xm {T:List Tok} {α:Type} {lim:Nat} {z:α} {m:PM α} (hm:ab T m):ab T (p5 T lim z m):=fun s h=>by
 have h0:(cF T lim s).i=s.i/\(cF T lim s).nest=s.nest+1:=by
  unfold cF;simp only[];by_cases h1:s.c=0/\s.nest=lim
  ·simp only[if_pos h1,iG h1.1]
   split <;>exact⟨rfl,rfl⟩
  ·simp only[if_neg h1]
   split <;>exact⟨rfl,rfl⟩
 by_cases hc:(cF T lim s).c=0
 ·obtain⟨k1,k2,k3,k4⟩:=hm (cF T lim s) (by rw[h0.1];exact h)
  simp only[p5,if_pos hc];refine⟨by rw[<-h0.1];exact k1,k2,fun kM=>by rw[xS kM]at hc;exact(kM hc).elim,?_⟩;show(m (cF T lim s)).2.nest-1=s.nest;rw[k4,h0.2];rfl
 ·simp only[p5,if_neg hc]
  refine⟨by rw[<-h0.1];exact Nat.le_refl _,by show(cF T lim s).i<_;rw[h0.1];exact h,fun kM=>?_,?_⟩
  ·rw[xS kM];rfl
  ·show(cF T lim s).nest-1=s.nest
   rw[h0.2];rfl
def af.pos:af->Int| .mk _ _ p _=>p
def af.put:af->List af->af| .mk k n p ks,l=>.mk k n p (ks++l)
def aa.pos:aa->Int| .mk _ _ _ _ p _ _=>p
def aa.Xn:aa->List aa->aa| .mk k n u t p _ aM,l=>.mk k n u t p l aM
def ae.Xn:ae->List ae->ae| .mk k n u p _,l=>.mk k n u p l
def Du:af:=.mk 0 [] 0 []
def Er:ae:=.mk 0 [] 0 0 []
def Ca:aa:=.mk 0 [] 0 [] 0 [] []
def leaf (k:Int) (n:List UInt8) (u:Int) (t:List UInt8) (p:Int):aa:=.mk k n u t p [] []
section
variable (T:List Tok) (N:Nat)
def ee (ty:PM af):PM af:=eI T fun t=>
 bm (bB T 5) (aT (.mk 2 t.t t.p []))<|
 bm (bB T 3) (aT (.mk 1 t.t t.p []))<|
 cz (aX T [40])<|aH ty fun o=>cz (aX T [41]) (aT o)
def iT (s:PS):Bool:=bB T 5 s||bB T 3 s||aL T [40] s
def e7 (ty:PM af):PM af:=eI T fun t=>
 bm (aL T [114,101,102]) (aH (ee T ty) fun x=>aT (.mk 5 [] t.p [x]))<|
 bm (bB T 3) (aH (many (iT T) (ee T ty) N) fun l=>aT (.mk 1 t.t t.p l)) (ee T ty)
def fA (a:af) (l:List af):af:=if l=[]then a else .mk 4 [] a.pos (a::l)
def Ho (most:Nat) (ty:PM af) (d:Nat):PM af:=kO T most d Du<|
 aH (e7 T N ty) fun a=>aH (many (aL T [42]) (bT (e7 T N ty)) N) fun l=>
 bm (aL T [45,62]) (aH ty fun b=>aT (.mk 3 [] (fA a l).pos [fA a l,b])) (aT (fA a l))
def pU (most:Nat):Nat->Nat->PM af
 |0,_=>aT Du
 |k+1,d=>Ho T N most (pU most k (d+1)) d
def ik (ty:PM af):PM af:=eI T fun t=>
 bm (aL T [114,101,102]) (aH (ee T ty) fun x=>aT (.mk 5 [] t.p [x]))<|
 aH (ee T ty) fun o=>if t.k=3 then aH (many (iT T) (ee T ty) N) fun l=>aT (o.put l)else aT o
def vR (ty:PM af):PM af:=aH (ik T N ty) fun a=>
 eJ (aL T [42]) (aH (many (aL T [42]) (bT (ik T N ty)) N) fun l=>aT (.mk 4 [] a.pos (a::l))) (aT a)
def Hp (lim:Nat) (ty:PM af):PM af:=p5 T lim Du<|
 aH (vR T N ty) fun a=>bm (aL T [45,62]) (aH ty fun b=>aT (.mk 3 [] a.pos [a,b])) (aT a)
def NO (lim:Nat):Nat->PM af
 |0=>aT Du
 |k+1=>Hp T N lim (NO lim k)
def eg (s:PS):Bool:=bB T 3 s||bB T 1 s||bB T 4 s||aL T [95] s||aL T [116,114,117,101] s||aL T [102,97,108,115,101] s||aL T [40] s
def p6 (pat:PM ae):PM ae:=eI T fun t=>cz (aX T [40])<|
 bm (aL T [41]) (aT (.mk 5 [] 0 t.p []))<|
 eJ (fun s=>!decide (s.c=0)) (aT (.mk 5 [] 0 t.p []))<|
 aH pat fun a=>aH (many (aL T [44]) (bT pat) N) fun l=>cz (aX T [41])<|
 aT (if l=[]then a else .mk 6 [] 0 t.p (a::l))
def fD (pat:PM ae):PM ae:=eI T fun t=>
 bm (aL T [95]) (aT (.mk 1 [] 0 t.p []))<|
 bm (bB T 3) (aT (.mk 2 t.t 0 t.p []))<|
 bm (bB T 1) (aT (.mk 3 [] t.n t.p []))<|
 bm (aL T [116,114,117,101]) (aT (.mk 4 [] 1 t.p []))<|
 bm (aL T [102,97,108,115,101]) (aT (.mk 4 [] 0 t.p []))<|
 bm (bB T 4) (aT (.mk 7 t.t 0 t.p [])) (p6 T N pat)
def Cb (most:Nat) (pat:PM ae) (d:Nat):PM ae:=kO T most d Er<|eI T fun t=>
 bm (bB T 4) (eJ (eg T) (aH (fD T N pat) fun a=>aT (.mk 7 t.t 0 t.p [a])) (aT (.mk 7 t.t 0 t.p []))) (fD T N pat)
def p7 (most:Nat):Nat->Nat->PM ae
 |0,_=>aT Er
 |k+1,d=>Cb T N most (p7 most k (d+1)) d
def eC (t:Tok) (pat:PM ae):PM ae:=
 if t.k=3 then aT (.mk 2 t.t 0 t.p [])else if t.k=4 then aT (.mk 7 t.t 0 t.p [])else if t.k=1 then aT (.mk 3 [] t.n t.p [])else
 if t.t=[95]then aT (.mk 1 [] 0 t.p [])else if t.t=[116,114,117,101]then aT (.mk 4 [] 1 t.p [])else if t.t=[102,97,108,115,101]then aT (.mk 4 [] 0 t.p [])else
 bm (aL T [41]) (aT (.mk 5 [] 0 t.p []))<|
 aH pat fun a=>aH (many (aL T [44]) (bT pat) N) fun l=>cz (aX T [41])<|
 aT (if l=[]then a else .mk 6 [] 0 t.p (a::l))
def kP (pat:PM ae):PM ae:=eI T fun t=>bm (eg T) (eC T N t pat) (cz (dQ T 11) (aT Er))
def Cc (lim:Nat) (pat:PM ae):PM ae:=p5 T lim Er<|eI T fun t=>aH (kP T N pat) fun x=>
 if t.k=4 then eJ (eg T) (aH (kP T N pat) fun a=>aT (x.Xn [a])) (aT x)else aT x
def Au (lim:Nat):Nat->PM ae
 |0=>aT Er
 |k+1=>Cc T N lim (Au lim k)
def ei (s:PS):Bool:=bB T 1 s||bB T 2 s||bB T 3 s||bB T 4 s||aL T [116,114,117,101] s||aL T [102,97,108,115,101] s||aL T [114,101,97,100] s||aL T [40] s
def Fq (ex:PM aa):PM aa:=eI T fun t=>cz (aX T [40])<|
 bm (aL T [41]) (aT (leaf 4 [] 0 [] t.p))<|
 eJ (fun s=>!decide (s.c=0)) (aT (leaf 4 [] 0 [] t.p))<|
 aH ex fun a=>aH (many (aL T [44]) (bT ex) N) fun l=>cz (aX T [41])<|
 aT (if l=[]then a else .mk 7 [] 0 [] t.p (a::l) [])
def fE (ex:PM aa):PM aa:=eI T fun t=>
 bm (bB T 1) (aT (leaf 1 [] t.n [] t.p))<|
 bm (bB T 2) (aT (leaf 2 [] 0 t.t t.p))<|
 bm (aL T [116,114,117,101]) (aT (leaf 3 [] 1 [] t.p))<|
 bm (aL T [102,97,108,115,101]) (aT (leaf 3 [] 0 [] t.p))<|
 bm (bB T 3) (aT (leaf 5 t.t 0 [] t.p))<|
 bm (bB T 4) (aT (leaf 6 t.t 0 [] t.p))<|
 bm (aL T [114,101,97,100]) (aT (leaf 15 t.t 0 [] t.p)) (Fq T N ex)
def il (s:PS):Bool:=aL T [112,114,105,110,116] s||aL T [101,120,105,116] s||aL T [115,105,122,101] s||aL T [114,101,102] s||aL T [33] s
def node1 (k:Int) (n:List UInt8) (p:Int) (a:aa):aa:=.mk k n 0 [] p [a] []
def node2 (k:Int) (n:List UInt8) (p:Int) (a b:aa):aa:=.mk k n 0 [] p [a,b] []
def tY (ex:PM aa):PM aa:=eI T fun t=>
 bm (il T) (aH (fE T N ex) fun a=>aT (node1 15 t.t t.p a))<|
 bm (bB T 4) (eJ (ei T) (aH (fE T N ex) fun a=>aT (node1 6 t.t t.p a)) (aT (leaf 6 t.t 0 [] t.p))) (fE T N ex)
def xT (atom:PM aa) (a:aa):PM aa:=carry (ei T) (fun a=>aH atom fun b=>aT (node2 9 [] a.pos a b)) N a
def im (L:List (List UInt8)) (s:PS):Bool:=bB T 7 s&&decide ((aJ T s).t∈L)
def lP (L:List (List UInt8)) (side:PM aa) (a:aa):PM aa:=carry (im T L) (fun a=>eI T fun t=>bT (aH side fun b=>aT (node2 14 t.t t.p a b))) N a
def vS (ex:PM aa):PM aa:=aH (tY T N ex) (xT T N (fE T N ex))
def wE (ex:PM aa):PM aa:=aH (vS T N ex) (lP T N [[42]] (vS T N ex))
def zm (ex:PM aa):PM aa:=aH (wE T N ex) (lP T N [[43],[45],[94]] (wE T N ex))
def fj (g:PS->Bool) (side:PM aa) (a:aa):PM aa:=eI T fun t=>bm g (aH side fun b=>aT (node2 14 t.t t.p a b)) (aT a)
def xU (ex:PM aa):PM aa:=aH (zm T N ex) (fj T (fun s=>aL T [61] s||aL T [60] s) (zm T N ex))
def uZ (ex:PM aa):PM aa:=aH (xU T N ex) (fj T (aL T [58,61]) (xU T N ex))
def vT (ex:PM aa) (p:Int):PM aa:=
 bm (aL T [114,101,99])
  (aH (cZ T 3) fun n=>aH (cZ T 3) fun f=>cz (aX T [61])<|aH ex fun a=>cz (aX T [105,110])<|aH ex fun b=>aT (.mk 11 n 0 f p [a,b] []))
  (aH (cZ T 3) fun n=>cz (aX T [61])<|aH ex fun a=>cz (aX T [105,110])<|aH ex fun b=>aT (.mk 10 n 0 [] p [a,b] []))
def xV (ex:PM aa) (p:Int):PM aa:=aH (cZ T 3) fun n=>cz (aX T [45,62])<|aH ex fun a=>aT (node1 8 n p a)
def Fs (ex:PM aa) (p:Int):PM aa:=aH ex fun a=>cz (aX T [116,104,101,110])<|aH ex fun b=>cz (aX T [101,108,115,101])<|aH ex fun c=>aT (.mk 12 [] 0 [] p [a,b,c] [])
def iH (pat:PM ae) (ex:PM aa):PM al:=aH pat fun a=>cz (aX T [45,62])<|aH ex fun e=>aT (.mk a e)
def pf (arm:PM al):PM (List al):=aH arm fun a=>aH (many (aL T [124]) (bT arm) N) fun l=>aT (a::l)
def A9 (pat:PM ae) (ex:PM aa) (p:Int):PM aa:=aH ex fun a=>cz (aX T [119,105,116,104])<|cz (aX T [124])<|
 aH (eJ (fun s=>decide (s.c=0)) (pf T N (iH T pat ex)) (aT [])) fun l=>cz (aX T [101,110,100])<|aT (.mk 13 [] 0 [] p [a] l)
def Cd (most:Nat) (pat:PM ae) (ex:PM aa) (d:Nat):PM aa:=kO T most d Ca<|eI T fun t=>
 bm (aL T [108,101,116]) (vT T ex t.p)<|bm (aL T [102,117,110]) (xV T ex t.p)<|bm (aL T [105,102]) (Fs T ex t.p)<|
 bm (aL T [109,97,116,99,104]) (A9 T N pat ex t.p) (uZ T N ex)
def gE (most:Nat):Nat->Nat->PM aa
 |0,_=>aT Ca
 |k+1,d=>Cd T N most (p7 T N most k (d+1)) (gE most k (d+1)) d
def fa (t:Tok) (ex:PM aa):PM aa:=
 if t.k=1 then aT (leaf 1 [] t.n [] t.p)else if t.k=2 then aT (leaf 2 [] 0 t.t t.p)else if t.k=3 then aT (leaf 5 t.t 0 [] t.p)else
 if t.k=4 then aT (leaf 6 t.t 0 [] t.p)else if t.t=[114,101,97,100]then aT (leaf 15 t.t 0 [] t.p)else
 if t.t=[116,114,117,101]then aT (leaf 3 [] 1 [] t.p)else if t.t=[102,97,108,115,101]then aT (leaf 3 [] 0 [] t.p)else
 bm (aL T [41]) (aT (leaf 4 [] 0 [] t.p))<|
 aH ex fun a=>aH (many (aL T [44]) (bT ex) N) fun l=>cz (aX T [41])<|
 aT (if l=[]then a else .mk 7 [] 0 [] t.p (a::l) [])
def dD (ex:PM aa):PM aa:=eI T fun t=>bm (ei T) (fa T N t ex) (cz (dQ T 11) (aT Ca))
def vU (ex:PM aa):PM aa:=eI T fun t=>
 bm (il T) (aH (dD T N ex) fun a=>aT (node1 15 t.t t.p a))<|
 aH (dD T N ex) fun e=>if t.k=4 then eJ (ei T) (aH (dD T N ex) fun a=>aT (e.Xn [a])) (aT e)else aT e
def jZ (ex:PM aa):PM aa:=aH (vU T N ex) (xT T N (dD T N ex))
def lk (ex:PM aa):PM aa:=aH (jZ T N ex) (lP T N [[42]] (jZ T N ex))
def pg (ex:PM aa):PM aa:=aH (lk T N ex) (lP T N [[43],[45],[94]] (lk T N ex))
def ph (ex:PM aa):PM aa:=aH (pg T N ex) (fj T (im T [[61],[60]]) (pg T N ex))
def tZ (ex:PM aa):PM aa:=aH (ph T N ex) (fj T (im T [[58,61]]) (ph T N ex))
def xW (pat:PM ae) (ex:PM aa) (p:Int):PM aa:=aH ex fun a=>cz (aX T [119,105,116,104])<|cz (aX T [124])<|
 aH (pf T N (iH T pat ex)) fun l=>cz (aX T [101,110,100])<|aT (.mk 13 [] 0 [] p [a] l)
def Ce (lim:Nat) (pat:PM ae) (ex:PM aa):PM aa:=p5 T lim Ca<|eI T fun t=>
 bm (aL T [108,101,116]) (vT T ex t.p)<|bm (aL T [102,117,110]) (xV T ex t.p)<|bm (aL T [105,102]) (Fs T ex t.p)<|
 bm (aL T [109,97,116,99,104]) (xW T N pat ex t.p) (tZ T N ex)
def Es (lim:Nat):Nat->PM aa
 |0=>aT Ca
 |k+1=>Ce T N lim (Au T N lim k) (Es lim k)
def fS (ty:PM af):PM ah:=eI T fun t=>aH (cZ T 4) fun n=>bm (aL T [111,102]) (aH ty fun a=>aT ⟨n,true,a,t.p⟩) (aT ⟨n,false,Du,t.p⟩)
def jg (ty:PM af):PM ai:=eI T fun t=>cz (aX T [116,121,112,101])<|aH (many (bB T 5) (cZ T 5) N) fun vs=>aH (cZ T 3) fun n=>cz (aX T [61])<|
 aH (fS T ty) fun c=>aH (many (aL T [124]) (bT (fS T ty)) N) fun cs=>cz (aX T [59])<|aT ⟨n,vs,c::cs,t.p⟩
def iU (s:PS):PS:=if bB T 8 s then s else dQ T 11 s
def pj (ty:PM af) (ex:PM aa):PM bb:=aH (many (aL T [116,121,112,101]) (jg T N ty) N) fun ds=>aH ex fun e=>cz (iU T)<|aT ⟨ds,e⟩
end
section
variable {T:List Tok} {N:Nat}
theorem only_tySt:eN T (iT T):=((cC T (by decide)).or (cC T (by decide))).or (aB T _)
theorem ua:eN T (eg T):=((((((cC T (by decide)).or (cC T (by decide))).or (cC T (by decide))).or (aB T _)).or (aB T _)).or (aB T _)).or (aB T _)
theorem only_atNx:eN T (ei T):=(((((((cC T (by decide)).or (cC T (by decide))).or (cC T (by decide))).or (cC T (by decide))).or (aB T _)).or (aB T _)).or (aB T _)).or (aB T _)
theorem p8:eN T (il T):=((((aB T _).or (aB T _)).or (aB T _)).or (aB T _)).or (aB T _)
theorem eE (L):eN T (im T L):=fun s h=>by
 have:bB T 7 s=true:=by unfold im at h;cases hk:bB T 7 s with
  |true=>rfl
  |false=>rw[hk]at h;cases h
 exact cC T (by decide) s this
theorem u9 (T):gU T (iU T):=fun s h=>by
 unfold iU;split
 ·exact zk.rfl h
 ·exact mN T 11 s h
theorem ab.word (hT:bL T) {k:Int} (hk:k≠8):ab T (cZ T k):=Jo hT hk
variable (hT:bL T)
include hT
omit hT in
theorem nB {c:Prop} [Decidable c] {α:Type} {m1 m2:PM α} (h1:ab T m1) (h2:ab T m2):ab T (if c then m1 else m2):=by
 split
 ·exact h1
 ·exact h2
theorem jh {ty:PM af} (e8:ab T ty):ab T (ee T ty):=(ab.now fun _=>(ab.bm hT (cC T (by decide)) (ab.ret _) (ab.bm hT (cC T (by decide)) (ab.ret _) (ab.step (aK hT _) (ab.bind e8 fun _=>(ab.step (aK hT _) (ab.ret _)))))))
theorem ic {ty:PM af} (e8:ab T ty):ab T (e7 T N ty):=(ab.now fun _=>(ab.bm hT (aB T _) (ab.bind (jh hT e8) fun _=>(ab.ret _)) (ab.bm hT (cC T (by decide)) (ab.bind (ab.many only_tySt (jh hT e8) _) fun _=>(ab.ret _)) (jh hT e8))))
theorem Jq {most:Nat} {ty:PM af} {d:Nat} (e8:ab T ty):ab T (Ho T N most ty d):=(ab.deep (ab.bind (ic hT e8) fun _=>(ab.bind (ab.gp hT (aB T _) (ic hT e8) _) fun _=>(ab.bm hT (aB T _) (ab.bind e8 fun _=>(ab.ret _)) (ab.ret _)))))
theorem lC {ty:PM af} (e8:ab T ty):ab T (ik T N ty):=(ab.now fun _=>(ab.bm hT (aB T _) (ab.bind (jh hT e8) fun _=>(ab.ret _)) (ab.bind (jh hT e8) fun _=>(nB (ab.bind (ab.many only_tySt (jh hT e8) _) fun _=>(ab.ret _)) (ab.ret _)))))
theorem Cf {ty:PM af} (e8:ab T ty):ab T (vR T N ty):=(ab.bind (lC hT e8) fun _=>(ab.eJ (ab.bind (ab.gp hT (aB T _) (lC hT e8) _) fun _=>(ab.ret _)) (ab.ret _)))
theorem Jr {lim:Nat} {ty:PM af} (e8:ab T ty):ab T (Hp T N lim ty):=(ab.Xm (ab.bind (Cf hT e8) fun _=>(ab.bm hT (aB T _) (ab.bind e8 fun _=>(ab.ret _)) (ab.ret _))))
theorem Ft {pat:PM ae} (iI:ab T pat):ab T (p6 T N pat):=(ab.now fun _=>(ab.step (aK hT _) (ab.bm hT (aB T _) (ab.ret _) (ab.eJ (ab.ret _) (ab.bind iI fun _=>(ab.bind (ab.gp hT (aB T _) iI _) fun _=>(ab.step (aK hT _) (ab.ret _))))))))
theorem lD {pat:PM ae} (iI:ab T pat):ab T (fD T N pat):=(ab.now fun _=>(ab.bm hT (aB T _) (ab.ret _) (ab.bm hT (cC T (by decide)) (ab.ret _) (ab.bm hT (cC T (by decide)) (ab.ret _) (ab.bm hT (aB T _) (ab.ret _) (ab.bm hT (aB T _) (ab.ret _) (ab.bm hT (cC T (by decide)) (ab.ret _) (Ft hT iI))))))))
theorem Hq {most:Nat} {pat:PM ae} {d:Nat} (iI:ab T pat):ab T (Cb T N most pat d):=(ab.deep (ab.now fun _=>(ab.bm hT (cC T (by decide)) (ab.eJ (ab.bind (lD hT iI) fun _=>(ab.ret _)) (ab.ret _)) (lD hT iI))))
theorem Fu {t:Tok} {pat:PM ae} (iI:ab T pat):ab T (eC T N t pat):=(nB (ab.ret _) (nB (ab.ret _) (nB (ab.ret _) (nB (ab.ret _) (nB (ab.ret _) (nB (ab.ret _) (ab.bm hT (aB T _) (ab.ret _) (ab.bind iI fun _=>(ab.bind (ab.gp hT (aB T _) iI _) fun _=>(ab.step (aK hT _) (ab.ret _)))))))))))
theorem p9 {pat:PM ae} (iI:ab T pat):ab T (kP T N pat):=(ab.now fun _=>(ab.bm hT ua (Fu hT iI) (ab.step (mN T 11) (ab.ret _))))
theorem Hr {lim:Nat} {pat:PM ae} (iI:ab T pat):ab T (Cc T N lim pat):=(ab.Xm (ab.now fun _=>(ab.bind (p9 hT iI) fun _=>(nB (ab.eJ (ab.bind (p9 hT iI) fun _=>(ab.ret _)) (ab.ret _)) (ab.ret _)))))
theorem NP {ex:PM aa} (hex:ab T ex):ab T (Fq T N ex):=(ab.now fun _=>(ab.step (aK hT _) (ab.bm hT (aB T _) (ab.ret _) (ab.eJ (ab.ret _) (ab.bind hex fun _=>(ab.bind (ab.gp hT (aB T _) hex _) fun _=>(ab.step (aK hT _) (ab.ret _))))))))
theorem j6 {ex:PM aa} (hex:ab T ex):ab T (fE T N ex):=(ab.now fun _=>(ab.bm hT (cC T (by decide)) (ab.ret _) (ab.bm hT (cC T (by decide)) (ab.ret _) (ab.bm hT (aB T _) (ab.ret _) (ab.bm hT (aB T _) (ab.ret _) (ab.bm hT (cC T (by decide)) (ab.ret _) (ab.bm hT (cC T (by decide)) (ab.ret _) (ab.bm hT (aB T _) (ab.ret _) (NP hT hex)))))))))
theorem wF {ex:PM aa} (hex:ab T ex):ab T (tY T N ex):=(ab.now fun _=>(ab.bm hT p8 (ab.bind (j6 hT hex) fun _=>(ab.ret _)) (ab.bm hT (cC T (by decide)) (ab.eJ (ab.bind (j6 hT hex) fun _=>(ab.ret _)) (ab.ret _)) (j6 hT hex))))
theorem rW {atom:PM aa} {a:aa} (adj:ab T atom):ab T (xT T N atom a):=ab.carry only_atNx (fun a=>ab.bind adj fun _=>ab.ret _) _ _
theorem mO {L:List (List UInt8)} {side:PM aa} {a:aa} (Js:ab T side):ab T (lP T N L side a):=ab.A8 hT (eE _) (fun t a=>ab.bind Js fun _=>ab.ret _) _ _
theorem po {ex:PM aa} (hex:ab T ex):ab T (vS T N ex):=(ab.bind (wF hT hex) fun _=>(rW hT (j6 hT hex)))
theorem nE {ex:PM aa} (hex:ab T ex):ab T (wE T N ex):=(ab.bind (po hT hex) fun _=>(mO hT (po hT hex)))
theorem nF {ex:PM aa} (hex:ab T ex):ab T (zm T N ex):=(ab.bind (nE hT hex) fun _=>(mO hT (nE hT hex)))
theorem iW {g:PS->Bool} {side:PM aa} {a:aa} (hg:eN T g) (Js:ab T side):ab T (fj T g side a):=(ab.now fun _=>(ab.bm hT hg (ab.bind Js fun _=>(ab.ret _)) (ab.ret _)))
theorem lQ {ex:PM aa} (hex:ab T ex):ab T (xU T N ex):=(ab.bind (nF hT hex) fun _=>(iW hT ((aB T _).or (aB T _)) (nF hT hex)))
theorem Fv {ex:PM aa} (hex:ab T ex):ab T (uZ T N ex):=(ab.bind (lQ hT hex) fun _=>(iW hT (aB T _) (lQ hT hex)))
theorem wG {ex:PM aa} {p:Int} (hex:ab T ex):ab T (vT T ex p):=(ab.bm hT (aB T _) (ab.bind (ab.word hT (by decide)) fun _=>(ab.bind (ab.word hT (by decide)) fun _=>(ab.step (aK hT _) (ab.bind hex fun _=>(ab.step (aK hT _) (ab.bind hex fun _=>(ab.ret _))))))) (ab.bind (ab.word hT (by decide)) fun _=>(ab.step (aK hT _) (ab.bind hex fun _=>(ab.step (aK hT _) (ab.bind hex fun _=>(ab.ret _)))))))
theorem wH {ex:PM aa} {p:Int} (hex:ab T ex):ab T (xV T ex p):=(ab.bind (ab.word hT (by decide)) fun _=>(ab.step (aK hT _) (ab.bind hex fun _=>(ab.ret _))))
theorem zn {ex:PM aa} {p:Int} (hex:ab T ex):ab T (Fs T ex p):=(ab.bind hex fun _=>(ab.step (aK hT _) (ab.bind hex fun _=>(ab.step (aK hT _) (ab.bind hex fun _=>(ab.ret _))))))
theorem pr {pat:PM ae} {ex:PM aa} (iI:ab T pat) (hex:ab T ex):ab T (iH T pat ex):=(ab.bind iI fun _=>(ab.step (aK hT _) (ab.bind hex fun _=>(ab.ret _))))
theorem ub {arm:PM al} (iw:ab T arm):ab T (pf T N arm):=(ab.bind iw fun _=>(ab.bind (ab.gp hT (aB T _) iw _) fun _=>(ab.ret _)))
theorem Fw {pat:PM ae} {ex:PM aa} {p:Int} (iI:ab T pat) (hex:ab T ex):ab T (A9 T N pat ex p):=(ab.bind hex fun _=>(ab.step (aK hT _) (ab.step (aK hT _) (ab.bind (ab.eJ (ub hT (pr hT iI hex)) (ab.ret _)) fun _=>(ab.step (aK hT _) (ab.ret _))))))
theorem Hs {most:Nat} {pat:PM ae} {ex:PM aa} {d:Nat} (iI:ab T pat) (hex:ab T ex):ab T (Cd T N most pat ex d):=(ab.deep (ab.now fun _=>(ab.bm hT (aB T _) (wG hT hex) (ab.bm hT (aB T _) (wH hT hex) (ab.bm hT (aB T _) (zn hT hex) (ab.bm hT (aB T _) (Fw hT iI hex) (Fv hT hex)))))))
theorem Av {t:Tok} {ex:PM aa} (hex:ab T ex):ab T (fa T N t ex):=(nB (ab.ret _) (nB (ab.ret _) (nB (ab.ret _) (nB (ab.ret _) (nB (ab.ret _) (nB (ab.ret _) (nB (ab.ret _) (ab.bm hT (aB T _) (ab.ret _) (ab.bind hex fun _=>(ab.bind (ab.gp hT (aB T _) hex _) fun _=>(ab.step (aK hT _) (ab.ret _))))))))))))
theorem j7 {ex:PM aa} (hex:ab T ex):ab T (dD T N ex):=(ab.now fun _=>(ab.bm hT only_atNx (Av hT hex) (ab.step (mN T 11) (ab.ret _))))
theorem wI {ex:PM aa} (hex:ab T ex):ab T (vU T N ex):=(ab.now fun _=>(ab.bm hT p8 (ab.bind (j7 hT hex) fun _=>(ab.ret _)) (ab.bind (j7 hT hex) fun _=>(nB (ab.eJ (ab.bind (j7 hT hex) fun _=>(ab.ret _)) (ab.ret _)) (ab.ret _)))))
theorem uc {ex:PM aa} (hex:ab T ex):ab T (jZ T N ex):=(ab.bind (wI hT hex) fun _=>(rW hT (j7 hT hex)))
theorem ud {ex:PM aa} (hex:ab T ex):ab T (lk T N ex):=(ab.bind (uc hT hex) fun _=>(mO hT (uc hT hex)))
theorem ue {ex:PM aa} (hex:ab T ex):ab T (pg T N ex):=(ab.bind (ud hT hex) fun _=>(mO hT (ud hT hex)))
theorem uf {ex:PM aa} (hex:ab T ex):ab T (ph T N ex):=(ab.bind (ue hT hex) fun _=>(iW hT (eE _) (ue hT hex)))
theorem Aw {ex:PM aa} (hex:ab T ex):ab T (tZ T N ex):=(ab.bind (uf hT hex) fun _=>(iW hT (eE _) (uf hT hex)))
theorem xX {pat:PM ae} {ex:PM aa} {p:Int} (iI:ab T pat) (hex:ab T ex):ab T (xW T N pat ex p):=(ab.bind hex fun _=>(ab.step (aK hT _) (ab.step (aK hT _) (ab.bind (ub hT (pr hT iI hex)) fun _=>(ab.step (aK hT _) (ab.ret _))))))
theorem Ht {lim:Nat} {pat:PM ae} {ex:PM aa} (iI:ab T pat) (hex:ab T ex):ab T (Ce T N lim pat ex):=(ab.Xm (ab.now fun _=>(ab.bm hT (aB T _) (wG hT hex) (ab.bm hT (aB T _) (wH hT hex) (ab.bm hT (aB T _) (zn hT hex) (ab.bm hT (aB T _) (xX hT iI hex) (Aw hT hex)))))))
theorem j8 {ty:PM af} (e8:ab T ty):ab T (fS T ty):=(ab.now fun _=>(ab.bind (ab.word hT (by decide)) fun _=>(ab.bm hT (aB T _) (ab.bind e8 fun _=>(ab.ret _)) (ab.ret _))))
theorem ug {ty:PM af} (e8:ab T ty):ab T (jg T N ty):=(ab.now fun _=>(ab.step (aK hT _) (ab.bind (ab.many (cC T (by decide)) (ab.word hT (by decide)) _) fun _=>(ab.bind (ab.word hT (by decide)) fun _=>(ab.step (aK hT _) (ab.bind (j8 hT e8) fun _=>(ab.bind (ab.gp hT (aB T _) (j8 hT e8) _) fun _=>(ab.step (aK hT _) (ab.ret _)))))))))
theorem iJ (most:Nat):∀k d,ab T (pU T N most k d)
 |0,d=>ab.ret _
 |k+1,d=>Jq hT (iJ most k (d+1))
theorem zo (lim:Nat):∀k,ab T (NO T N lim k)
 |0=>ab.ret _
 |k+1=>Jr hT (zo lim k)
theorem mP (most:Nat):∀k d,ab T (p7 T N most k d)
 |0,d=>ab.ret _
 |k+1,d=>Hq hT (mP most k (d+1))
theorem rX (lim:Nat):∀k,ab T (Au T N lim k)
 |0=>ab.ret _
 |k+1=>Hr hT (rX lim k)
theorem cU (most:Nat):∀k d,ab T (gE T N most k d)
 |0,d=>ab.ret _
 |k+1,d=>Hs hT (mP hT most k (d+1)) (cU most k (d+1))
theorem wJ (lim:Nat):∀k,ab T (Es T N lim k)
 |0=>ab.ret _
 |k+1=>Ht hT (rX hT lim k) (wJ lim k)
end
structure lR (T:List Tok) (e:Nat) (s t:PS):Prop where
 i:s.i=t.i
 d:s.d=t.d
 c:s.c=0
 c2:t.c=0
 nest:t.nest=e
 lt:s.i<T.length
structure Jt (T:List Tok) (s t:PS):Prop where
 ne:s.c≠0
 c:s.c=t.c
 ps:s.ps=t.ps
 lt:s.i<T.length
 lt2:t.i<T.length
def Out (T:List Tok) (e:Nat) {α:Type} (r q:α×PS):Prop:=(r.1=q.1/\lR T e r.2 q.2)\/Jt T r.2 q.2
def nG (T:List Tok) (e:Nat) {α:Type} (m n:PM α):Prop:=∀s t,lR T e s t->Out T e (m s) (n t)
section
variable {T:List Tok} {e:Nat}
theorem lR.tok {s t:PS} (h:lR T e s t):aJ T s=aJ T t:=by unfold aJ;rw[h.i]
theorem lR.aL {s t:PS} (h:lR T e s t) (x):aL T x s=aL T x t:=by unfold Pg.aL;rw[h.tok,h.c,h.c2]
theorem lR.bB {s t:PS} (h:lR T e s t) (k):bB T k s=bB T k t:=by unfold Pg.bB;rw[h.tok,h.c,h.c2]
def lS (T:List Tok) (e:Nat) (g g':PS->Bool):Prop:=∀s t,lR T e s t->g s=g' t
theorem zp (x):lS T e (aL T x) (aL T x):=fun s t h=>h.aL x
theorem Et (k):lS T e (bB T k) (bB T k):=fun s t h=>h.bB k
theorem Ju:lS T e (iT T) (iT T):=fun s t h=>by simp only[iT,h.aL,h.bB]
theorem uh:lS T e (eg T) (eg T):=fun s t h=>by simp only[eg,h.aL,h.bB]
theorem rY:lS T e (ei T) (ei T):=fun s t h=>by simp only[ei,h.aL,h.bB]
theorem Ax:lS T e (il T) (il T):=fun s t h=>by simp only[il,h.aL,h.bB]
theorem NQ (L):lS T e (im T L) (im T L):=fun s t h=>by simp only[im,h.bB,h.tok]
theorem lR.aI (hT:bL T) {s t:PS} (h:lR T e s t) (hk:(aJ T s).k≠8):lR T e (Pg.aI s) (Pg.aI t):=
 ⟨by simp only[Pg.aI,h.i],h.d,h.c,h.c2,h.nest,rV hT h.lt hk⟩
theorem lR.fail {s t:PS} (h:lR T e s t) {c:Int} (hc:c≠0):Jt T (dQ T c s) (dQ T c t):=by
 rw[iG h.c,iG h.c2];exact⟨hc,rfl,by simp only[h.tok],h.lt,by show t.i<_;rw[<-h.i];exact h.lt⟩
theorem lR.want (hT:bL T) {s t:PS} (h:lR T e s t) (x):lR T e (aX T x s) (aX T x t)\/Jt T (aX T x s) (aX T x t):=by
 unfold aX;rw[<-h.aL];by_cases hb:Pg.aL T x s=true
 ·rw[if_pos hb,if_pos hb];exact .inl (h.aI hT (cH hb).2)
 ·rw[if_neg hb,if_neg hb];exact .inr (h.fail (by decide))
theorem lR.agq {s t:PS} (h:lR T e s t):lR T e (iU T s) (iU T t)\/Jt T (iU T s) (iU T t):=by
 unfold iU;rw[<-h.bB];by_cases hb:Pg.bB T 8 s=true
 ·rw[if_pos hb,if_pos hb];exact .inl h
 ·rw[if_neg hb,if_neg hb];exact .inr (h.fail (by decide))
theorem Jt.stay {α β:Type} {s t:PS} (h:Jt T s t) {m:PM α} {n:PM β} (hm:ab T m) (hn:ab T n):Jt T (m s).2 (n t).2:=by
 rw[(hm s h.lt).2.2.1 h.ne,(hn t h.lt2).2.2.1 (by rw[<-h.c];exact h.ne)];exact h
theorem xY {α:Type} (a:α):nG T e (aT a) (aT a):=fun s t h=>.inl ⟨rfl,h⟩
theorem NR {α β:Type} {m n:PM α} {k l:α->PM β} (h:nG T e m n) (hk:∀a,ab T (k a)) (hl:∀a,ab T (l a)) (Hn:∀a,nG T e (k a) (l a)):nG T e (aH m k) (aH n l):=fun s t ba=>by
 rcases h s t ba with⟨h1,h2⟩|h1
 ·have:=Hn (m s).1 _ _ h2
  unfold aH;rwa[<-h1]
 ·exact .inr (h1.stay (hk _) (hl _))
theorem NS (hT:bL T) {α:Type} {x} {m n:PM α} (hm:ab T m) (hn:ab T n) (h:nG T e m n):nG T e (cz (aX T x) m) (cz (aX T x) n):=fun s t ba=>by
 rcases ba.want hT x with h1|h1
 ·exact h _ _ h1
 ·exact .inr (h1.stay hm hn)
theorem Qr {α:Type} {m n:PM α} (hm:ab T m) (hn:ab T n) (h:nG T e m n):nG T e (cz (iU T) m) (cz (iU T) n):=fun s t ba=>by
 rcases ba.agq with h1|h1
 ·exact h _ _ h1
 ·exact .inr (h1.stay hm hn)
theorem Qt {α:Type} {k l:Tok->PM α} (h:∀x,nG T e (k x) (l x)):nG T e (eI T k) (eI T l):=fun s t ba=>by
 unfold eI;rw[<-ba.tok];exact h _ s t ba
theorem Eu (hT:bL T) {α:Type} {g g':PS->Bool} {m1 m2 n1 n2:PM α} (hg:eN T g) (hs:lS T e g g') (h1:nG T e m1 n1) (h2:nG T e m2 n2):nG T e (bm g m1 m2) (bm g' n1 n2):=fun s t ba=>by
 unfold bm;rw[<-hs s t ba];by_cases hb:g s=true
 ·rw[if_pos hb,if_pos hb];exact h1 _ _ (ba.aI hT (hg s hb).2)
 ·rw[if_neg hb,if_neg hb];exact h2 _ _ ba
theorem NT {α:Type} {g g':PS->Bool} {m1 m2 n1 n2:PM α} (hs:lS T e g g') (h1:nG T e m1 n1) (h2:nG T e m2 n2):nG T e (eJ g m1 m2) (eJ g' n1 n2):=fun s t ba=>by
 unfold eJ;rw[<-hs s t ba];by_cases hb:g s=true
 ·rw[if_pos hb,if_pos hb];exact h1 _ _ ba
 ·rw[if_neg hb,if_neg hb];exact h2 _ _ ba
theorem NU (hT:bL T) {k:Int} (hk:k≠8):nG T e (cZ T k) (cZ T k):=fun s t ba=>by
 unfold cZ;rw[<-ba.bB];by_cases hb:bB T k s=true
 ·rw[if_pos hb,if_pos hb,<-ba.tok];exact .inl ⟨rfl,ba.aI hT (by rw[(qF hb).2];exact hk)⟩
 ·rw[if_neg hb,if_neg hb];exact .inr (ba.fail (by decide))
theorem zq {α:Type} {g:PS→Bool} {m n:PM α} (hg:eN T g) (hs:lS T e g g) (hm:ab T (many g m 1)) (ba:∀j,ab T (many g m j)) (Hu:∀j,ab T (many g n j)) (h:∀s t,lR T e s t→g s=true →Out T e (m s) (n t)):∀j,nG T e (many g m j) (many g n j)
  |0=>xY []
  |j+1=>fun s t qT=>by
   by_cases hb:g s=true
   · have mE:g t=true :=by rw[←hs s t qT];exact hb
     simp only[many,hb,mE,if_true];rcases h s t qT hb with⟨h1,h2⟩|h1
     · rcases zq hg hs hm ba Hu h j _ _ h2 with⟨h3,h4⟩|h3
       · exact .inl ⟨by rw[h1,h3],h4⟩
       · exact .inr h3
     · exact .inr (h1.stay (ba j) (Hu j))
   · have mE:g t=false :=by rw[←hs s t qT];simpa using hb
     have IV:g s=false :=by simpa using hb
     rw[kD IV,kD mE];exact .inl ⟨rfl,qT⟩
theorem wL {α:Type} {g:PS→Bool} {m n:α→PM α} (hs:lS T e g g) (ba:∀j a,ab T (carry g m j a)) (Hu:∀j a,ab T (carry g n j a)) (h:∀a s t,lR T e s t→g s=true →Out T e (m a s) (n a t)):∀j a,nG T e (carry g m j a) (carry g n j a)
  |0,a=>xY a
  |j+1,a=>fun s t qT=>by
   by_cases hb:g s=true
   · have mE:g t=true :=by rw[←hs s t qT];exact hb
     simp only[carry,hb,mE,if_true];rcases h a s t qT hb with⟨h1,h2⟩|h1
     · rw[h1];exact wL hs ba Hu h j _ _ _ h2
     · exact .inr (h1.stay (ba j _) (Hu j _))
   · have mE:g t=false :=by rw[←hs s t qT];simpa using hb
     have IV:g s=false :=by simpa using hb
     rw[rf IV,rf mE];exact .inl ⟨rfl,qT⟩
theorem Jv {α:Type} {g:PS->Bool} {m n:PM α} (hg:eN T g) (hs:lS T e g g) (hm:ab T m) (hn:ab T n) (h:nG T e m n) (j:Nat):nG T e (many g m j) (many g n j):=
 zq hg hs (hm:=ab.many hg hm 1) (fun j=>ab.many hg hm j) (fun j=>ab.many hg hn j) (fun s t ba _=>h s t ba) j
theorem Jw (hT:bL T) {α:Type} {g:PS->Bool} {m n:PM α} (hg:eN T g) (hs:lS T e g g) (hm:ab T m) (hn:ab T n) (h:nG T e m n) (j:Nat):nG T e (many g (bT m) j) (many g (bT n) j):=
 zq hg hs (hm:=ab.gp hT hg hm 1) (fun j=>ab.gp hT hg hm j) (fun j=>ab.gp hT hg hn j) (fun s t ba hb=>h _ _ (ba.aI hT (hg s hb).2)) j
theorem Qu {α:Type} {most lim:Nat} {z:α} {m n:PM α} (rh:most<e+1↔e=lim) (h:nG T (e+1) m n):nG T e (kO T most (e+1) z m) (p5 T lim z n):=fun s t ba=>by
 by_cases hd:most<e+1
 ·have he:t.c=0/\t.nest=lim:=⟨ba.c2,by rw[ba.nest];exact rh.1 hd⟩
  have hb:=ba.fail (c:=12) (by decide)
  have e1:cT T most (e+1) s=dQ T 12 s:=by
   unfold cT;rw[if_pos hd];simp only[if_neg hb.ne]
  have mE:(dQ T 12 t).c≠0:=by rw[<-hb.c];exact hb.ne
  have e2:cF T lim t={dQ T 12 t with nest:=(dQ T 12 t).nest+1}:=by
   unfold cF;rw[if_pos he];simp only[mE,false_and,if_false]
  refine .inr ?_;unfold kO p5;rw[e1,e2];rw[if_neg hb.ne,if_neg (show ¬({dQ T 12 t with nest:=(dQ T 12 t).nest+1}:PS).c=0 from mE)];exact⟨hb.ne,hb.c,hb.ps,hb.lt,hb.lt2⟩
 ·have he:¬(t.c=0/\t.nest=lim):=fun h=>hd (rh.2 (by rw[<-ba.nest];exact h.2))
  have e1:cT T most (e+1) s={s with d:=max s.d (e+1)}:=by
   unfold cT;rw[if_neg hd];simp only[ba.c,if_true]
  have e2:cF T lim t={t with nest:=e+1,d:=max s.d (e+1)}:=by
   unfold cF;rw[if_neg he];simp only[ba.c2,ba.nest,true_and,<-ba.d];split
   ·rw[Nat.max_eq_right (by omega)]
   ·rw[Nat.max_eq_left (by omega)]
  have h2:lR T (e+1) ({s with d:=max s.d (e+1)}) ({t with nest:=e+1,d:=max s.d (e+1)}):=⟨ba.i,rfl,ba.c,ba.c2,rfl,ba.lt⟩;unfold kO p5;rw[e1,e2,if_pos (show({s with d:=max s.d (e+1)}:PS).c=0 from ba.c),if_pos (show({t with nest:=e+1,d:=max s.d (e+1)}:PS).c=0 from ba.c2)];rcases h _ _ h2 with⟨h3,h4⟩|h3
  ·exact .inl ⟨h3,⟨h4.i,h4.d,h4.c,h4.c2,by show _-1=e;rw[h4.nest];rfl,h4.lt⟩⟩
  ·exact .inr ⟨h3.ne,h3.c,h3.ps,h3.lt,h3.lt2⟩
end
def bZ (T:List Tok) (e:Nat) {α:Type} (m n:PM α):Prop:=ab T m/\ab T n/\nG T e m n
section
variable {T:List Tok} {e N:Nat}
theorem dH {α:Type} (a:α):bZ T e (aT a) (aT a):=⟨ab.ret a,ab.ret a,xY a⟩
theorem bS {α β:Type} {m n:PM α} {k l:α->PM β} (h:bZ T e m n) (hk:∀a,bZ T e (k a) (l a)):bZ T e (aH m k) (aH n l):=
 ⟨ab.bind h.1 fun a=>(hk a).1,ab.bind h.2.1 fun a=>(hk a).2.1,NR h.2.2 (fun a=>(hk a).1) (fun a=>(hk a).2.1) fun a=>(hk a).2.2⟩
theorem fT (hT:bL T) {α:Type} {x} {m n:PM α} (h:bZ T e m n):bZ T e (cz (aX T x) m) (cz (aX T x) n):=
 ⟨ab.step (aK hT x) h.1,ab.step (aK hT x) h.2.1,NS hT h.1 h.2.1 h.2.2⟩
theorem Xo {α:Type} {m n:PM α} (h:bZ T e m n):bZ T e (cz (iU T) m) (cz (iU T) n):=
 ⟨ab.step (u9 T) h.1,ab.step (u9 T) h.2.1,Qr h.1 h.2.1 h.2.2⟩
theorem xZ {α:Type} {k l:Tok->PM α} (h:∀x,bZ T e (k x) (l x)):bZ T e (eI T k) (eI T l):=
 ⟨ab.now fun x=>(h x).1,ab.now fun x=>(h x).2.1,Qt fun x=>(h x).2.2⟩
theorem Hv (hT:bL T) {α:Type} {g:PS->Bool} {m1 m2 n1 n2:PM α} (hg:eN T g) (hs:lS T e g g) (h1:bZ T e m1 n1) (h2:bZ T e m2 n2):bZ T e (bm g m1 m2) (bm g n1 n2):=
 ⟨ab.bm hT hg h1.1 h2.1,ab.bm hT hg h1.2.1 h2.2.1,Eu hT hg hs h1.2.2 h2.2.2⟩
theorem Hw {α:Type} {g:PS->Bool} {m1 m2 n1 n2:PM α} (hs:lS T e g g) (h1:bZ T e m1 n1) (h2:bZ T e m2 n2):bZ T e (eJ g m1 m2) (eJ g n1 n2):=
 ⟨ab.eJ h1.1 h2.1,ab.eJ h1.2.1 h2.2.1,NT hs h1.2.2 h2.2.2⟩
theorem Cg (hT:bL T) {α:Type} {x} {m1 m2 n1 n2:PM α} (h1:bZ T e m1 n1) (h2:bZ T e m2 n2):bZ T e (bm (aL T x) m1 m2) (bm (aL T x) n1 n2):=Hv hT (aB T x) (zp x) h1 h2
theorem aaB (hT:bL T) {α:Type} {x:Int} (hx:x≠8) {m1 m2 n1 n2:PM α} (h1:bZ T e m1 n1) (h2:bZ T e m2 n2):bZ T e (bm (bB T x) m1 m2) (bm (bB T x) n1 n2):=Hv hT (cC T hx) (Et x) h1 h2
theorem pt (hT:bL T) {k:Int} (hk:k≠8):bZ T e (cZ T k) (cZ T k):=⟨ab.word hT hk,ab.word hT hk,NU hT hk⟩
theorem Ch {α:Type} {g:PS->Bool} {m n:PM α} (hg:eN T g) (hs:lS T e g g) (h:bZ T e m n) (j:Nat):bZ T e (many g m j) (many g n j):=
 ⟨ab.many hg h.1 j,ab.many hg h.2.1 j,Jv hg hs h.1 h.2.1 h.2.2 j⟩
theorem vd (hT:bL T) {α:Type} {x} {m n:PM α} (h:bZ T e m n) (j:Nat):bZ T e (many (aL T x) (bT m) j) (many (aL T x) (bT n) j):=
 ⟨ab.gp hT (aB T x) h.1 j,ab.gp hT (aB T x) h.2.1 j,Jw hT (aB T x) (zp x) h.1 h.2.1 h.2.2 j⟩
theorem Fx {α:Type} {most lim:Nat} {z:α} {m n:PM α} (rh:most<e+1↔e=lim) (h:bZ T (e+1) m n):bZ T e (kO T most (e+1) z m) (p5 T lim z n):=
 ⟨ab.deep h.1,ab.Xm h.2.1,Qu rh h.2.2⟩
theorem wM {α:Type} {m n:PM α} (h1:ab T m) (h2:ab T n) (h:∀s t,lR T e s t->Out T e (m s) (n t)):bZ T e m n:=⟨h1,h2,h⟩
theorem bZ.at {α:Type} {m n:PM α} (h:bZ T e m n) {s t:PS} (ba:lR T e s t):Out T e (m s) (n t):=h.2.2 s t ba
variable (hT:bL T)
include hT
theorem Qv {ty oX:PM af} (h:bZ T e ty oX):bZ T e (ee T ty) (ee T oX):=
 xZ fun t=>aaB hT (by decide) (dH _)<|aaB hT (by decide) (dH _)<|fT hT<|bS h fun o=>fT hT (dH o)
theorem Fy {k:Int} {s:PS} (hc:s.c=0):bB T k s=decide ((aJ T s).k=k):=by simp[bB,hc]
omit hT in
theorem bN {α:Type} (k:Tok->PM α) (s:PS):eI T k s=k (aJ T s) s:=rfl
omit hT in
theorem aS {α:Type} {g:PS->Bool} {m1 m2:PM α} {s:PS} (h:g s=true):bm g m1 m2 s=m1 (aI s):=by simp[bm,h]
omit hT in
theorem aZ {α:Type} {g:PS->Bool} {m1 m2:PM α} {s:PS} (h:g s=false):bm g m1 m2 s=m2 s:=by simp[bm,h]
omit hT in
theorem fv {α:Type} {g:PS->Bool} {m1 m2:PM α} {s:PS} (h:g s=true):eJ g m1 m2 s=m1 s:=by simp[eJ,h]
omit hT in
theorem ji {α:Type} {g:PS->Bool} {m1 m2:PM α} {s:PS} (h:g s=false):eJ g m1 m2 s=m2 s:=by simp[eJ,h]
omit hT in
theorem aP {α β:Type} (m:PM α) (k:α->PM β) (s:PS):aH m k s=k (m s).1 (m s).2:=rfl
omit hT in
theorem da {α:Type} (f:PS->PS) (m:PM α) (s:PS):cz f m s=m (f s):=rfl
omit hT in
theorem ie {α:Type} (a:α) (s:PS):aT a s=(a,s):=rfl
omit hT in
theorem gN {α:Type} {a:α} {s t:PS} (h:lR T e s t):Out T e (aT a s) (aT a t):=.inl ⟨rfl,h⟩
theorem Hx {ty oX:PM af} (h:bZ T e ty oX):bZ T e (e7 T N ty) (ik T N oX):=by
  refine wM (ic hT h.1) (lC hT h.2.1) fun s t ba=> ?_
  have e8:=Qv hT h;unfold e7 ik;rw[bN,bN,←ba.tok]
  cases h1:aL T [114,101,102] s with
  |true =>
   rw[aS h1,aS ((ba.aL _).symm.trans h1)]
   exact(bS e8 fun x=>dH _).at (ba.aI hT (cH h1).2)
  |false =>
   rw[aZ h1,aZ ((ba.aL _).symm.trans h1)];by_cases h3:(aJ T s).k=3
   · have k3:bB T 3 s=true :=by rw[Fy hT ba.c,h3];rfl
     have k3t:bB T 3 t=true :=by rw[←ba.bB];exact k3
     have k5t:bB T 5 t=false :=by rw[←ba.bB,Fy hT ba.c,h3];rfl
     have e1:ee T oX t=(.mk 1 (aJ T s).t (aJ T s).p [],aI t):=by
       unfold ee;rw[bN,aZ k5t,aS k3t,←ba.tok];rfl
     rw[aS k3,aP (m:=ee T oX),e1];simp only[if_pos h3];exact(bS (Ch only_tySt Ju e8 N) fun l=>dH (af.mk 1 (aJ T s).t (aJ T s).p l)).at (ba.aI hT (by rw[h3];decide))
   · have k3:bB T 3 s=false :=by rw[Fy hT ba.c];simp[h3]
     rw[aZ k3];simp only[if_neg h3];exact e8.at ba
theorem Qw {α:Type} {g:PS->Bool} {m:PM α} {s:PS} (h:g s=true) {n:Nat} (hn:0<n):(many g m n s).1≠[]:=by
 cases n with
 |zero=>omega
 |succ n=>rw[many,if_pos h];simp
theorem adk {most lim:Nat} (hN:0<N) (rh:most<e+1↔e=lim) {ty oX:PM af} (h:bZ T (e+1) ty oX):bZ T e (Ho T N most ty (e+1)) (Hp T N lim oX):=by
  refine Fx rh ?_
  have hp:bZ T (e+1) (aH (e7 T N ty) fun a=>aH (many (aL T [42]) (bT (e7 T N ty)) N) fun l=>aT (fA a l)) (vR T N oX):=by
    refine bS (Hx hT h) fun a=> ?_
    refine wM (ab.bind (ab.gp hT (aB T _) (ic hT h.1) N) fun l=>ab.ret _) (ab.eJ (ab.bind (ab.gp hT (aB T _) (lC hT h.2.1) N) fun l=>ab.ret _) (ab.ret _)) fun s t ba=> ?_
    cases h1:aL T [42] s with
    |true =>
     rw[fv ((ba.aL _).symm.trans h1)];have :=(bS (vd hT (x:=[42]) (Hx (N:=N) hT h) N) fun l=>dH (af.mk 4 [] a.pos (a::l))).at ba;have cX:=Qw hT (m:=bT (e7 T N ty)) h1 hN;rw[aP]at this⊢;simp only[fA,if_neg cX]
     exact this
    |false =>
     rw[ji ((ba.aL _).symm.trans h1),aP,kD h1];exact .inl ⟨by simp[fA,aT],ba⟩
  have h2:=bS hp fun a=>Cg hT (x:=[45,62]) (bS h fun b=>dH (af.mk 3 [] a.pos [a,b])) (dH a)
  exact h2
theorem Hy {α:Type} {pat jx:PM α} (h:bZ T e pat jx) (f:α->List α->α):bZ T e (aH pat fun a=>aH (many (aL T [44]) (bT pat) N) fun l=>cz (aX T [41]) (aT (f a l))) (aH jx fun a=>aH (many (aL T [44]) (bT jx) N) fun l=>cz (aX T [41]) (aT (f a l))):=
 bS h fun a=>bS (vd hT h N) fun l=>fT hT (dH _)
theorem Hz {x} {s:PS} (hc:s.c=0):aL T x s=true ↔((aJ T s).k=6\/(aJ T s).k=7)/\(aJ T s).t=x:=by simp[aL,hc]
theorem ri {x} {s:PS} (hc:s.c=0):bB T x s=true ↔(aJ T s).k=x:=by simp[bB,hc]
theorem Xp {pat jx:PM ae} (h:bZ T e pat jx) {s t:PS} (ba:lR T e s t):Out T e (fD T N pat s) (kP T N jx t):=by
  have hkt:=fun x=>ba.bB (T:=T) x
  have htt:=fun x=>ba.aL (T:=T) x
  have ki:=fun x=>ri (x:=x) hT ba.c
  have ti:=fun x=>Hz (x:=x) hT ba.c
  unfold fD kP;rw[bN,bN,←ba.tok];generalize hx:aJ T s=x at ki ti⊢;have pR:∀{b},eg T s=b→eg T t=b:=fun h=>by rw[←uh s t ba];exact h
  have vA:=fun(hk:eg T s=true)=>ba.aI hT (ua s hk).2
  have e0:eg T s=(bB T 3 s||bB T 1 s||bB T 4 s||aL T [95] s||aL T [116,114,117,101] s||aL T [102,97,108,115,101] s||aL T [40] s):=rfl
  cases a1:aL T [95] s with
  |true =>
   have hp:eg T s=true :=by simp[e0,a1]
   obtain⟨q1,q2⟩:=(ti _).1 a1;rw[aS a1,aS (pR hp)];unfold eC;rw[if_neg (by omega),if_neg (by omega),if_neg (by omega),if_pos q2]
   exact gN (vA hp)
  |false =>
  rw[aZ a1]
  cases a2:bB T 3 s with
  |true =>
   have hp:eg T s=true :=by simp[e0,a2]
   rw[aS a2,aS (pR hp)];unfold eC;rw[if_pos ((ki _).1 a2)]
   exact gN (vA hp)
  |false =>
  rw[aZ a2]
  cases a3:bB T 1 s with
  |true =>
   have hp:eg T s=true :=by simp[e0,a3]
   have q:=(ki _).1 a3;rw[aS a3,aS (pR hp)];unfold eC;rw[if_neg (by omega),if_neg (by omega),if_pos q]
   exact gN (vA hp)
  |false =>
  rw[aZ a3]
  cases a4:aL T [116,114,117,101] s with
  |true =>
   have hp:eg T s=true :=by simp[e0,a4]
   obtain⟨q1,q2⟩:=(ti _).1 a4;rw[aS a4,aS (pR hp)];unfold eC;rw[if_neg (by omega),if_neg (by omega),if_neg (by omega),if_neg (by rw[q2];decide),if_pos q2]
   exact gN (vA hp)
  |false =>
  rw[aZ a4]
  cases a5:aL T [102,97,108,115,101] s with
  |true =>
   have hp:eg T s=true :=by simp[e0,a5]
   obtain⟨q1,q2⟩:=(ti _).1 a5;rw[aS a5,aS (pR hp)];unfold eC;rw[if_neg (by omega),if_neg (by omega),if_neg (by omega),if_neg (by rw[q2];decide),if_neg (by rw[q2];decide),if_pos q2]
   exact gN (vA hp)
  |false =>
  rw[aZ a5]
  cases a6:bB T 4 s with
  |true =>
   have hp:eg T s=true :=by simp[e0,a6]
   have q:=(ki _).1 a6;rw[aS a6,aS (pR hp)];unfold eC;rw[if_neg (by omega),if_pos q]
   exact gN (vA hp)
  |false =>
  rw[aZ a6];unfold p6;rw[bN,da,hx]
  cases a7:aL T [40] s with
  |true =>
   have hp:eg T s=true :=by simp[e0,a7]
   obtain⟨q1,q2⟩:=(ti _).1 a7;have ew:aX T [40] s=aI s:=by unfold aX;rw[if_pos a7]
   rw[aS (pR hp),ew];unfold eC;rw[if_neg (by omega),if_neg (by omega),if_neg (by omega),if_neg (by rw[q2];decide),if_neg (by rw[q2];decide),if_neg (by rw[q2];decide)];have h2:=vA hp
   cases b1:aL T [41] (aI s)with
   |true =>
    rw[aS b1,aS ((h2.aL _).symm.trans b1)]
    exact gN (h2.aI hT (cH b1).2)
   |false =>
    rw[aZ b1,aZ ((h2.aL _).symm.trans b1),ji (by simp[h2.c])]
    exact(Hy hT h (fun a l=>if l=[]then a else ae.mk 6 [] 0 x.p (a::l))).at h2
  |false =>
   have hp:eg T s=false :=by simp[e0,a1,a2,a3,a4,a5,a6,a7]
   have ew:aX T [40] s=dQ T 11 s:=by unfold aX;rw[a7];rfl
   have hb:=ba.fail (T:=T) (c:=11) (by decide);rw[aZ (pR hp),ew,aZ (pd hb.ne),fv (by simp[hb.ne]),da];exact .inr hb
theorem Qx {pat jx:PM ae} (h:bZ T e pat jx):bZ T e (fD T N pat) (kP T N jx):=wM (lD hT h.1) (p9 hT h.2.1) fun s t ba=>Xp hT h ba
theorem Xq {most lim:Nat} (rh:most<e+1↔e=lim) {pat jx:PM ae} (h:bZ T (e+1) pat jx):bZ T e (Cb T N most pat (e+1)) (Cc T N lim jx):=by
  refine Fx rh ?_;have hA:=Qx (N:=N) hT h;refine wM (ab.now fun t=>ab.bm hT (cC T (by decide)) (ab.eJ (ab.bind hA.1 fun _ =>ab.ret _) (ab.ret _)) hA.1) (ab.now fun t=>ab.bind hA.2.1 fun x=>nB (ab.eJ (ab.bind hA.2.1 fun _ =>ab.ret _) (ab.ret _)) (ab.ret _)) fun s t ba=> ?_
  rw[bN,bN,←ba.tok]
  cases h4:bB T 4 s with
  |true =>
   have q:=(ri hT ba.c).1 h4;have hp:eg T t=true :=by rw[←uh s t ba];simp[eg,h4]
   have e1:kP T N jx t=(.mk 7 (aJ T s).t 0 (aJ T s).p [],aI t):=by
     unfold kP eC;rw[bN,aS hp,←ba.tok,if_neg (by omega),if_pos q];rfl
   rw[aS h4,aP (m:=kP T N jx),e1];simp only[if_pos q]
   exact(Hw uh (bS hA fun a=>dH (ae.mk 7 (aJ T s).t 0 (aJ T s).p [a])) (dH _)).at (ba.aI hT (by rw[q];decide))
  |false =>
   have q:¬(aJ T s).k=4:=fun h=>by rw[(ri hT ba.c).2 h]at h4;cases h4
   rw[aZ h4];simp only[if_neg q];exact hA.at ba
theorem HA {most lim:Nat}:∀(k e:Nat),(∀e',e<=e'->e'<e+k->(most<e'+1↔e'=lim))->bZ T e (p7 T N most k (e+1)) (Au T N lim k)
 |0,e,_=>dH _
 |k+1,e,rh=>Xq hT (rh e (Nat.le_refl _) (by omega)) (HA k (e+1) fun e' h1 h2=>rh e' (by omega) (by omega))
theorem ME {most lim:Nat} (hN:0<N):∀(k e:Nat),(∀e',e<=e'->e'<e+k->(most<e'+1↔e'=lim))->bZ T e (pU T N most k (e+1)) (NO T N lim k)
 |0,e,_=>dH _
 |k+1,e,rh=>adk hT hN (rh e (Nat.le_refl _) (by omega)) (ME hN k (e+1) fun e' h1 h2=>rh e' (by omega) (by omega))
end
section
variable {T:List Tok} {e N:Nat} (hT:bL T)
include hT
theorem Qy {pat jx:PM aa} (h:bZ T e pat jx) {s t:PS} (ba:lR T e s t):Out T e (fE T N pat s) (dD T N jx t):=by
  have ki:=fun x=>ri (x:=x) hT ba.c
  have ti:=fun x=>Hz (x:=x) hT ba.c
  unfold fE dD;rw[bN,bN,←ba.tok];generalize hx:aJ T s=x at ki ti⊢;have pR:∀{b},ei T s=b→ei T t=b:=fun h=>by rw[←rY s t ba];exact h
  have vA:=fun(hk:ei T s=true)=>ba.aI hT (only_atNx s hk).2
  have e0:ei T s=(bB T 1 s||bB T 2 s||bB T 3 s||bB T 4 s||aL T [116,114,117,101] s||aL T [102,97,108,115,101] s||aL T [114,101,97,100] s||aL T [40] s):=rfl
  cases a1:bB T 1 s with
  |true =>
   have hp:ei T s=true :=by simp[e0,a1]
   rw[aS a1,aS (pR hp)];unfold fa;rw[if_pos ((ki _).1 a1)]
   exact gN (vA hp)
  |false =>
  rw[aZ a1]
  cases a2:bB T 2 s with
  |true =>
   have hp:ei T s=true :=by simp[e0,a2]
   have q:=(ki _).1 a2;rw[aS a2,aS (pR hp)];unfold fa;rw[if_neg (by omega),if_pos q]
   exact gN (vA hp)
  |false =>
  rw[aZ a2]
  cases a4:aL T [116,114,117,101] s with
  |true =>
   have hp:ei T s=true :=by simp[e0,a4]
   obtain⟨q1,q2⟩:=(ti _).1 a4;rw[aS a4,aS (pR hp)];unfold fa;rw[if_neg (by omega),if_neg (by omega),if_neg (by omega),if_neg (by omega),if_neg (by rw[q2];decide),if_pos q2]
   exact gN (vA hp)
  |false =>
  rw[aZ a4]
  cases a5:aL T [102,97,108,115,101] s with
  |true =>
   have hp:ei T s=true :=by simp[e0,a5]
   obtain⟨q1,q2⟩:=(ti _).1 a5;rw[aS a5,aS (pR hp)];unfold fa;rw[if_neg (by omega),if_neg (by omega),if_neg (by omega),if_neg (by omega),if_neg (by rw[q2];decide),if_neg (by rw[q2];decide),if_pos q2]
   exact gN (vA hp)
  |false =>
  rw[aZ a5]
  cases a3:bB T 3 s with
  |true =>
   have hp:ei T s=true :=by simp[e0,a3]
   have q:=(ki _).1 a3;rw[aS a3,aS (pR hp)];unfold fa;rw[if_neg (by omega),if_neg (by omega),if_pos q]
   exact gN (vA hp)
  |false =>
  rw[aZ a3]
  cases a6:bB T 4 s with
  |true =>
   have hp:ei T s=true :=by simp[e0,a6]
   have q:=(ki _).1 a6;rw[aS a6,aS (pR hp)];unfold fa;rw[if_neg (by omega),if_neg (by omega),if_neg (by omega),if_pos q]
   exact gN (vA hp)
  |false =>
  rw[aZ a6]
  cases a8:aL T [114,101,97,100] s with
  |true =>
   have hp:ei T s=true :=by simp[e0,a8]
   obtain⟨q1,q2⟩:=(ti _).1 a8;rw[aS a8,aS (pR hp)];unfold fa;rw[if_neg (by omega),if_neg (by omega),if_neg (by omega),if_neg (by omega),if_pos q2]
   exact gN (vA hp)
  |false =>
  rw[aZ a8];unfold Fq;rw[bN,da,hx]
  cases a7:aL T [40] s with
  |true =>
   have hp:ei T s=true :=by simp[e0,a7]
   obtain⟨q1,q2⟩:=(ti _).1 a7;have ew:aX T [40] s=aI s:=by unfold aX;rw[if_pos a7]
   rw[aS (pR hp),ew];unfold fa;rw[if_neg (by omega),if_neg (by omega),if_neg (by omega),if_neg (by omega),if_neg (by rw[q2];decide),if_neg (by rw[q2];decide),if_neg (by rw[q2];decide)];have h2:=vA hp
   cases b1:aL T [41] (aI s)with
   |true =>
    rw[aS b1,aS ((h2.aL _).symm.trans b1)]
    exact gN (h2.aI hT (cH b1).2)
   |false =>
    rw[aZ b1,aZ ((h2.aL _).symm.trans b1),ji (by simp[h2.c])]
    exact(Hy hT h (fun a l=>if l=[]then a else aa.mk 7 [] 0 [] x.p (a::l) [])).at h2
  |false =>
   have hp:ei T s=false :=by simp[e0,a1,a2,a3,a4,a5,a6,a7,a8]
   have ew:aX T [40] s=dQ T 11 s:=by unfold aX;rw[a7];rfl
   have hb:=ba.fail (T:=T) (c:=11) (by decide);rw[aZ (pR hp),ew,aZ (pd hb.ne),fv (by simp[hb.ne]),da];exact .inr hb
theorem HB {ex gW:PM aa} (h:bZ T e ex gW):bZ T e (fE T N ex) (dD T N gW):=wM (j6 hT h.1) (j7 hT h.2.1) fun s t ba=>Qy hT h ba
theorem Xr {ex gW:PM aa} (h:bZ T e ex gW):bZ T e (tY T N ex) (vU T N gW):=by
  have hA:=HB (N:=N) hT h;refine wM (wF hT h.1) (wI hT h.2.1) fun s t ba=> ?_
  unfold tY vU;rw[bN,bN,←ba.tok]
  cases h1:il T s with
  |true =>
   rw[aS h1,aS ((Ax s t ba).symm.trans h1)]
   exact(bS hA fun a=>dH _).at (ba.aI hT (p8 s h1).2)
  |false =>
   rw[aZ h1,aZ ((Ax s t ba).symm.trans h1)]
   cases h4:bB T 4 s with
   |true =>
    have q:=(ri hT ba.c).1 h4;have hp:ei T t=true :=by rw[←rY s t ba];simp[ei,h4]
    have e1:dD T N gW t=(leaf 6 (aJ T s).t 0 [] (aJ T s).p,aI t):=by
      unfold dD fa;rw[bN,aS hp,←ba.tok,if_neg (by omega),if_neg (by omega),if_neg (by omega),if_pos q];rfl
    rw[aS h4,aP (m:=dD T N gW),e1];simp only[if_pos q]
    exact(Hw rY (bS hA fun a=>dH (node1 6 (aJ T s).t (aJ T s).p a)) (dH _)).at (ba.aI hT (by rw[q];decide))
   |false =>
    have q:¬(aJ T s).k=4:=fun h=>by rw[(ri hT ba.c).2 h]at h4;cases h4
    rw[aZ h4];simp only[if_neg q];exact hA.at ba
theorem QA {m n:PM aa} (h:bZ T e m n) (a:aa):bZ T e (xT T N m a) (xT T N n a):=
 ⟨rW hT h.1,rW hT h.2.1,wL rY (fun j a=>ab.carry only_atNx (fun a=>ab.bind h.1 fun _=>ab.ret _) j a) (fun j a=>ab.carry only_atNx (fun a=>ab.bind h.2.1 fun _=>ab.ret _) j a) (fun a s t ba _=>(bS h fun b=>dH (node2 9 [] a.pos a b)).at ba) N a⟩
theorem HC {L} {m n:PM aa} (h:bZ T e m n) (a:aa):bZ T e (lP T N L m a) (lP T N L n a):=
 ⟨mO hT h.1,mO hT h.2.1,wL (NQ L) (fun j a=>ab.A8 hT (eE _) (fun t a=>ab.bind h.1 fun _=>ab.ret _) j a) (fun j a=>ab.A8 hT (eE _) (fun t a=>ab.bind h.2.1 fun _=>ab.ret _) j a)
  (fun a s t ba hb=>by
   rw[bN,bN,<-ba.tok];exact(bS h fun b=>dH (node2 14 (aJ T s).t (aJ T s).p a b)).at (ba.aI hT (eE L s hb).2)) N a⟩
theorem Ev {g g':PS->Bool} (hg:eN T g) (hg':eN T g') (hs:lS T e g g') {m n:PM aa} (h:bZ T e m n) (a:aa):bZ T e (fj T g m a) (fj T g' n a):=
 xZ fun t=>⟨ab.bm hT hg (ab.bind h.1 fun _=>ab.ret _) (ab.ret _),ab.bm hT hg' (ab.bind h.2.1 fun _=>ab.ret _) (ab.ret _),Eu hT hg hs (bS h fun b=>dH (node2 14 t.t t.p a b)).2.2 (xY a)⟩
theorem Fz {s:PS} (hs:s.i<T.length) {x:List UInt8} (hx:isKey x=false):aL T x s=(bB T 7 s&&decide ((aJ T s).t=x)):=by
 have hm:aJ T s∈T:=by
  have:T[s.i]?=some (aJ T s):=by simp[aJ,hs]
  exact List.mem_of_getElem? this
 unfold aL bB;by_cases h6:(aJ T s).k=6
 ·have:=hT.key _ hm h6
  have cX:(aJ T s).t≠x:=by rintro rfl;rw[this]at hx;cases hx
  simp[cX]
 ·simp[h6]
theorem QB:lS T e (fun s=>aL T [61] s||aL T [60] s) (im T [[61],[60]]):=fun s t ba=>by
 simp only[im,Fz hT ba.lt (x:=[61]) (by decide),Fz hT ba.lt (x:=[60]) (by decide),ba.bB,ba.tok];cases bB T 7 t<;>simp
theorem QC:lS T e (aL T [58,61]) (im T [[58,61]]):=fun s t ba=>by
 simp only[im,Fz hT ba.lt (x:=[58,61]) (by decide),ba.bB,ba.tok];cases bB T 7 t<;>simp
theorem Xs {ex gW:PM aa} (h:bZ T e ex gW):bZ T e (uZ T N ex) (tZ T N gW):=by
 have h5:bZ T e (vS T N ex) (jZ T N gW):=bS (Xr hT h) fun a=>QA hT (HB hT h) a
 have h4:bZ T e (wE T N ex) (lk T N gW):=bS h5 fun a=>HC hT h5 a
 have h3:bZ T e (zm T N ex) (pg T N gW):=bS h4 fun a=>HC hT h4 a
 have h2:bZ T e (xU T N ex) (ph T N gW):=bS h3 fun a=>Ev hT ((aB T _).or (aB T _)) (eE _) (QB hT) h3 a
 exact bS h2 fun a=>Ev hT (aB T _) (eE _) (QC hT) h2 a
theorem Xt {ex gW:PM aa} (h:bZ T e ex gW) (p:Int):bZ T e (vT T ex p) (vT T gW p):=
 Cg hT (bS (pt hT (by decide)) fun n=>bS (pt hT (by decide)) fun f=>fT hT<|bS h fun a=>fT hT<|bS h fun b=>dH _)
  (bS (pt hT (by decide)) fun n=>fT hT<|bS h fun a=>fT hT<|bS h fun b=>dH _)
theorem Xu {ex gW:PM aa} (h:bZ T e ex gW) (p:Int):bZ T e (xV T ex p) (xV T gW p):=
 bS (pt hT (by decide)) fun n=>fT hT<|bS h fun a=>dH _
theorem Xv {ex gW:PM aa} (h:bZ T e ex gW) (p:Int):bZ T e (Fs T ex p) (Fs T gW p):=
 bS h fun a=>fT hT<|bS h fun b=>fT hT<|bS h fun c=>dH _
theorem NV {pat jx:PM ae} (hp:bZ T e pat jx) {ex gW:PM aa} (h:bZ T e ex gW) (p:Int):bZ T e (A9 T N pat ex p) (xW T N jx gW p):=by
 have ha:bZ T e (iH T pat ex) (iH T jx gW):=bS hp fun a=>fT hT<|bS h fun b=>dH _
 have hs:bZ T e (pf T N (iH T pat ex)) (pf T N (iH T jx gW)):=bS ha fun a=>bS (vd hT ha N) fun l=>dH _
 refine bS h fun a=>fT hT<|fT hT<|bS (m:=eJ (fun s=>decide (s.c=0)) (pf T N (iH T pat ex)) (aT [])) ?_ fun l=>fT hT (dH _)
 refine wM (ab.eJ hs.1 (ab.ret _)) hs.2.1 fun s t ba=>?_
 rw[fv (by simp[ba.c])];exact hs.at ba
theorem Xw {most lim:Nat} (rh:most<e+1↔e=lim) {pat jx:PM ae} (hp:bZ T (e+1) pat jx) {ex gW:PM aa} (h:bZ T (e+1) ex gW):bZ T e (Cd T N most pat ex (e+1)) (Ce T N lim jx gW):=
 Fx rh<|xZ fun t=>Cg hT (Xt hT h t.p)<|Cg hT (Xu hT h t.p)<|Cg hT (Xv hT h t.p)<|Cg hT (NV hT hp h t.p) (Xs hT h)
theorem HD {most lim:Nat}:∀(k e:Nat),(∀e',e<=e'->e'<e+k->(most<e'+1↔e'=lim))->bZ T e (gE T N most k (e+1)) (Es T N lim k)
 |0,e,_=>dH _
 |k+1,e,rh=>Xw hT (rh e (Nat.le_refl _) (by omega)) (HA hT k (e+1) fun e' h1 h2=>rh e' (by omega) (by omega)) (HD k (e+1) fun e' h1 h2=>rh e' (by omega) (by omega))
theorem HE {ty oX:PM af} (h:bZ T e ty oX):bZ T e (fS T ty) (fS T oX):=
 xZ fun t=>bS (pt hT (by decide)) fun n=>Cg hT (bS h fun a=>dH _) (dH _)
theorem QD {ty oX:PM af} (h:bZ T e ty oX):bZ T e (jg T N ty) (jg T N oX):=
 xZ fun t=>fT hT<|bS (Ch (cC T (by decide)) (Et 5) (pt hT (by decide)) N) fun vs=>bS (pt hT (by decide)) fun n=>fT hT<|
  bS (HE hT h) fun c=>bS (vd hT (HE hT h) N) fun cs=>fT hT (dH _)
theorem QE {ty oX:PM af} (h:bZ T e ty oX) {ex gW:PM aa} (hx:bZ T e ex gW):bZ T e (pj T N ty ex) (pj T N oX gW):=
 bS (Ch (aB T _) (zp _) (QD hT h) N) fun ds=>bS hx fun b=>Xo (dH _)
end
def told {α:Type} (m:PM α):α⊕(Int×Int):=
 let r:=m ⟨0,0,0,0,0⟩
 if r.2.c=0 then .inl r.1 else .inr (r.2.c,r.2.ps)
end Go.Proofs.YtjkbbnfdbfcebaaGreatDoor.Pg
set_option linter.all false
set_option maxRecDepth 100000
namespace Go.Proofs.YtjkbbnfdbfcebaaGreatDoor.Mc
open Go.AM
def QF:bl (Tryz.f12.body.map (compile [0,1,4,8,24,30,40] Tryz.prog 45)):=⟨_,by conv=>lhs;cbv⟩
def aaC:List MR:=[.t 4]
theorem call12:ax Tryz.prog 12 45 QF.m aaC:=QF.call Tryz.func12 (by kernel_rfl)
def QG:bl (Tryz.f13.body.map (compile [0,1,4,5,6,7,8,9,10,15,24,56,69,95] Tryz.prog 107)):=⟨_,by conv=>lhs;cbv⟩
def aaD:List MR:=[.cell true 4 4,.t 5,.t 6]
theorem call13:ax Tryz.prog 13 107 QG.m aaD:=QG.call Tryz.func13 (by kernel_rfl)
def QH:bl (Tryz.f19.body.map (compile [0,1,4,5,6,7,8,9,10,14,17,18,24,38,43] Tryz.prog 58)):=⟨_,by conv=>lhs;cbv⟩
def aaE:List MR:=[.t 4,.cell true 2 5]
theorem call19:ax Tryz.prog 19 58 QH.m aaE:=QH.call Tryz.func19 (by kernel_rfl)
def QI:bl (Tryz.f29.body.map (compile [0,2] Tryz.prog 5)):=⟨_,by conv=>lhs;cbv⟩
def aaF:List MR:=[.t 2]
theorem call29:ax Tryz.prog 29 5 QI.m aaF:=QI.call Tryz.func29 (by kernel_rfl)
def QJ:bl (Tryz.f30.body.map (compile [0,1,4,5,6,7,8,9,10,22,32,51] Tryz.prog 58)):=⟨_,by conv=>lhs;cbv⟩
def aaG:List MR:=[.cell true 4 4,.t 5,.t 6]
theorem call30:ax Tryz.prog 30 58 QJ.m aaG:=QJ.call Tryz.func30 (by kernel_rfl)
def QK:bl (Tryz.f31.body.map (compile [0,2] Tryz.prog 5)):=⟨_,by conv=>lhs;cbv⟩
def aaH:List MR:=[.t 2]
theorem call31:ax Tryz.prog 31 5 QK.m aaH:=QK.call Tryz.func31 (by kernel_rfl)
def QM:bl (Tryz.f32.body.map (compile [0,2] Tryz.prog 5)):=⟨_,by conv=>lhs;cbv⟩
def aaI:List MR:=[.t 2]
theorem call32:ax Tryz.prog 32 5 QM.m aaI:=QM.call Tryz.func32 (by kernel_rfl)
def MF:bl (Tryz.f33.body.map (compile [0,1,4,5,6,7,8,9,14,28,37,44,49,56] Tryz.prog 63)):=⟨_,by conv=>lhs;cbv⟩
def QN:List MR:=[.cell true 4 4,.t 5,.t 6]
theorem call33:ax Tryz.prog 33 63 MF.m QN:=MF.call Tryz.func33 (by kernel_rfl)
def QO:bl (Tryz.f34.body.map (compile [0,1,4,5,6,7,8,9,16,22,31,68,69] Tryz.prog 86)):=⟨_,by conv=>lhs;cbv⟩
def aaJ:List MR:=[.cell true 4 4,.t 5,.t 6]
theorem call34:ax Tryz.prog 34 86 QO.m aaJ:=QO.call Tryz.func34 (by kernel_rfl)
def QP:bl (Tryz.f35.body.map (compile [0] Tryz.prog 2)):=⟨_,by conv=>lhs;cbv⟩
def aaK:List MR:=[.t 0]
theorem call35:ax Tryz.prog 35 2 QP.m aaK:=QP.call Tryz.func35 (by kernel_rfl)
def QQ:bl (Tryz.f50.body.map (compile [0,1,2,6,17] Tryz.prog 21)):=⟨_,by conv=>lhs;cbv⟩
def aaL:List MR:=[.t 6]
theorem call50:ax Tryz.prog 50 21 QQ.m aaL:=QQ.call Tryz.func50 (by kernel_rfl)
def QR:bl (Tryz.f51.body.map (compile [0,2] Tryz.prog 5)):=⟨_,by conv=>lhs;cbv⟩
def aaM:List MR:=[.t 2]
theorem call51:ax Tryz.prog 51 5 QR.m aaM:=QR.call Tryz.func51 (by kernel_rfl)
def QS:bl (Tryz.f52.body.map (compile [0,1,4,5,6,7,8,9,10,11,15,24,51,62,75] Tryz.prog 87)):=⟨_,by conv=>lhs;cbv⟩
def aaN:List MR:=[.cell true 4 4,.t 5,.cell true 2 6]
theorem call52:ax Tryz.prog 52 87 QS.m aaN:=QS.call Tryz.func52 (by kernel_rfl)
def QT:bl (Tryz.f71.body.map (compile [0,1,2,6] Tryz.prog 15)):=⟨_,by conv=>lhs;cbv⟩
def aaO:List MR:=[.t 6]
theorem call71:ax Tryz.prog 71 15 QT.m aaO:=QT.call Tryz.func71 (by kernel_rfl)
def QU:bl (Tryz.f72.body.map (compile [0,2] Tryz.prog 17)):=⟨_,by conv=>lhs;cbv⟩
def aaP:List MR:=[.t 2]
theorem call72:ax Tryz.prog 72 17 QU.m aaP:=QU.call Tryz.func72 (by kernel_rfl)
def QV:bl (Tryz.f73.body.map (compile [0,2,3,4,9,17] Tryz.prog 18)):=⟨_,by conv=>lhs;cbv⟩
def aaQ:List MR:=[.t 2]
theorem call73:ax Tryz.prog 73 18 QV.m aaQ:=QV.call Tryz.func73 (by kernel_rfl)
def QW:bl (Tryz.f94.body.map (compile [0,2] Tryz.prog 9)):=⟨_,by conv=>lhs;cbv⟩
def aaR:List MR:=[.t 2]
theorem call94:ax Tryz.prog 94 9 QW.m aaR:=QW.call Tryz.func94 (by kernel_rfl)
def Jx:bl (Tryz.f104.body.map (compile [0,2] Tryz.prog 9)):=⟨_,by conv=>lhs;cbv⟩
def QX:List MR:=[.t 2]
theorem call104:ax Tryz.prog 104 9 Jx.m QX:=Jx.call Tryz.func104 (by kernel_rfl)
def Jy:bl (Tryz.f105.body.map (compile [0,1,4,5,6,7,8,9,34] Tryz.prog 43)):=⟨_,by conv=>lhs;cbv⟩
def QY:List MR:=[.cell true 4 4,.t 5,.cell true 2 6]
theorem call105:ax Tryz.prog 105 43 Jy.m QY:=Jy.call Tryz.func105 (by kernel_rfl)
def Jz:bl (Tryz.f106.body.map (compile [0,2] Tryz.prog 9)):=⟨_,by conv=>lhs;cbv⟩
def QZ:List MR:=[.t 2]
theorem call106:ax Tryz.prog 106 9 Jz.m QZ:=Jz.call Tryz.func106 (by kernel_rfl)
def JA:bl (Tryz.f107.body.map (compile [0,1,4,5,6,7,8,9,13,21,33,49] Tryz.prog 54)):=⟨_,by conv=>lhs;cbv⟩
def Q0:List MR:=[.cell true 4 4,.t 5,.cell true 2 6]
theorem call107:ax Tryz.prog 107 54 JA.m Q0:=JA.call Tryz.func107 (by kernel_rfl)
def JB:bl (Tryz.f108.body.map (compile [0,1,4,5,6,7,8,9,15,21,28,36,39,40,42,48] Tryz.prog 57)):=⟨_,by conv=>lhs;cbv⟩
def Q1:List MR:=[.t 4,.t 5,.t 6]
theorem call108:ax Tryz.prog 108 57 JB.m Q1:=JB.call Tryz.func108 (by kernel_rfl)
def JC:bl (Tryz.f109.body.map (compile [0,1,4,6,7,8,9,10,17] Tryz.prog 20)):=⟨_,by conv=>lhs;cbv⟩
def Q2:List MR:=[.t 4]
theorem call109:ax Tryz.prog 109 20 JC.m Q2:=JC.call Tryz.func109 (by kernel_rfl)
def JD:bl (Tryz.f181.body.map (compile [0,1,4] Tryz.prog 9)):=⟨_,by conv=>lhs;cbv⟩
def Q3:List MR:=[.t 4]
theorem call181:ax Tryz.prog 181 9 JD.m Q3:=JD.call Tryz.func181 (by kernel_rfl)
def JE:bl (Tryz.f140.body.map (compile [0,1,2,6] Tryz.prog 15)):=⟨_,by conv=>lhs;cbv⟩
def Q4:List MR:=[.t 6]
theorem call140:ax Tryz.prog 140 15 JE.m Q4:=JE.call Tryz.func140 (by kernel_rfl)
def JF:bl (Tryz.f147.body.map (compile [0,2] Tryz.prog 6)):=⟨_,by conv=>lhs;cbv⟩
def Q5:List MR:=[.t 2]
theorem call147:ax Tryz.prog 147 6 JF.m Q5:=JF.call Tryz.func147 (by kernel_rfl)
def JG:bl (Tryz.f149.body.map (compile [0,2] Tryz.prog 17)):=⟨_,by conv=>lhs;cbv⟩
def Q6:List MR:=[.t 2]
theorem call149:ax Tryz.prog 149 17 JG.m Q6:=JG.call Tryz.func149 (by kernel_rfl)
def JH:bl (Tryz.f158.body.map (compile [0] Tryz.prog 2)):=⟨_,by conv=>lhs;cbv⟩
def Q7:List MR:=[.t 0]
theorem call158:ax Tryz.prog 158 2 JH.m Q7:=JH.call Tryz.func158 (by kernel_rfl)
def JI:bl (Tryz.f159.body.map (compile [0,1,4] Tryz.prog 8)):=⟨_,by conv=>lhs;cbv⟩
def Q8:List MR:=[.t 4]
theorem call159:ax Tryz.prog 159 8 JI.m Q8:=JI.call Tryz.func159 (by kernel_rfl)
def JJ:bl (Tryz.f206.body.map (compile [0,1,4,5,7,8,9,16] Tryz.prog 19)):=⟨_,by conv=>lhs;cbv⟩
def Q9:List MR:=[.t 4]
theorem call206:ax Tryz.prog 206 19 JJ.m Q9:=JJ.call Tryz.func206 (by kernel_rfl)
def JK:bl (Tryz.f190.body.map (compile [0,1,4] Tryz.prog 18)):=⟨_,by conv=>lhs;cbv⟩
def Ra:List MR:=[.t 4]
theorem call190:ax Tryz.prog 190 18 JK.m Ra:=JK.call Tryz.func190 (by kernel_rfl)
end Go.Proofs.YtjkbbnfdbfcebaaGreatDoor.Mc
namespace Go.Proofs.YtjkbbnfdbfcebaaGreatDoor.Qp
open Go.AM Mc Pg
theorem fk {n:Int} (h1:-9223372036854775808<=n) (h2:n<=9223372036854775807):wr .i64 n=n:=by
 simp[wr,IntKind.wrap,IntKind.bits,IntKind.signed];omega
theorem bp (x:Nat) (h:x<=4611686018427387904):wr .i64 ((x:Int)+1)=((x+1:Nat):Int):=by rw[fk (by omega) (by omega)];omega
theorem aC:fb=140737488355328:=rfl
theorem dT {p:Prop} (h:p) (i:Decidable p):@decide p i=true:=decide_eq_true h
theorem dF {p:Prop} (h:¬p) (i:Decidable p):@decide p i=false:=decide_eq_false h
abbrev Ci (c:UInt8):AV:=.p (.i .u8 (c.toNat:Int))
def wN (f:Nat) (q:UInt8->Bool):Prop:=∀(c:UInt8) (H:List AO),aA Tryz.prog f [Ci c] H (aW (.p (.b (q c))) H)
theorem ve:wN 94 eP:=by
 intro c H;refine call94 (by simp) ?_;simp only[go_sem,simprocAttr,QW,aaR];cases h:decide ((97:Int)<=(c.toNat:Int))
 ·simp only[go_sem,simprocAttr,h]
  exact⟨by simp[eP,h],rfl⟩
 ·simp only[go_sem,simprocAttr,h]
  exact⟨by simp[eP,h],rfl⟩
theorem Ba:wN 106 fG:=by
 intro c H;refine call106 (by simp) ?_;simp only[go_sem,simprocAttr,Jz,QZ];cases h:decide ((65:Int)<=(c.toNat:Int))
 ·simp only[go_sem,simprocAttr,h]
  exact⟨by simp[fG,h],rfl⟩
 ·simp only[go_sem,simprocAttr,h]
  exact⟨by simp[fG,h],rfl⟩
theorem FA:wN 104 eH:=by
 intro c H;refine call104 (by simp) ?_;simp only[go_sem,simprocAttr,Jx,QX];cases h:decide ((48:Int)<=(c.toNat:Int))
 ·simp only[go_sem,simprocAttr,h]
  exact⟨by simp[eH,h],rfl⟩
 ·simp only[go_sem,simprocAttr,h]
  exact⟨by simp[eH,h],rfl⟩
theorem FB:wN 149 cx:=by
 intro c H;refine call149 (by simp) ?_;simp only[go_sem,simprocAttr,JG,Q6];refine U (ve c H) ?_;cases h1:eP c
 ·simp only[go_sem,simprocAttr,h1]
  refine U (Ba c H) ?_;cases h2:fG c
  ·simp only[go_sem,simprocAttr,h2]
   refine U (FA c H) ?_;cases h3:eH c
   ·simp only[go_sem,simprocAttr,h3]
    exact⟨by simp[cx,h1,h2,h3],rfl⟩
   ·simp only[go_sem,simprocAttr,h3]
    exact⟨by simp[cx,h1,h2,h3],rfl⟩
  ·simp only[go_sem,simprocAttr,h2]
   exact⟨by simp[cx,h1,h2],rfl⟩
 ·simp only[go_sem,simprocAttr,h1]
  exact⟨by simp[cx,h1],rfl⟩
theorem nlC:wN 51 kI:=by
 intro c H;refine call51 (by simp) ?_;simp only[go_sem,simprocAttr,QR,aaM];exact⟨rfl,rfl⟩
theorem Ew {f:Nat} {q:UInt8->Bool} (hf:wN f q) {s:List UInt8} (hs:s.length<=1099511627776) {i:Nat} (hi:i<=s.length) (H:List AO):
  aA Tryz.prog 50 [.p (.s s),.p (.i .i64 i),.fI f []] H (aW (.p (.i .i64 (bz q s i:Nat))) H):=by
 refine call50 (by simp) ?_;simp only[go_sem,simprocAttr,QQ,aaL];refine⟨Nat,[0,1,2,6],fun x st=>(i<=x/\x<=s.length/\bz q s x=bz q s i)/\st=⟨[(0,.p (.s s)),(1,.p (.i .i64 x)),(2,.fI f []),(6,.p (.i .i64 0))],[],H⟩,fun x=>s.length-x,⟨i,?_⟩,?_⟩
 ·simp only[go_sem,simprocAttr]
  exact⟨Nat.le_refl _,hi⟩
 ·rintro x _ ⟨⟨h1,h2,h3⟩,rfl⟩
  by_cases aj:x<s.length
  ·have d1:decide ((x:Int)<(s.length:Int))=true:=by simp;omega
   have hg:s[x]?=some s[x]:=by simp[aj]
   simp only[go_sem,simprocAttr,d1,hg];intro _;refine U (hf s[x] H) ?_;cases hq:q s[x]
   ·simp only[go_sem,simprocAttr,hq]
    refine⟨?_,rfl⟩;rw[<-h3,tR aj hq]
   ·simp only[go_sem,simprocAttr,hq,bp x (by omega)]
    exact⟨x+1,⟨⟨by omega,by omega,by rw[<-h3,kW aj hq]⟩,rfl⟩,by omega⟩
  ·have d1:decide ((x:Int)<(s.length:Int))=false:=by simp;omega
   simp only[go_sem,simprocAttr,d1];intro _;refine⟨?_,rfl⟩;rw[<-h3,tS q (by omega)]
theorem fU (H A:List AO) (k:Nat):(H++A)[H.length+k]?=A[k]?:=by rw[List.getElem?_append_right (by omega),Nat.add_sub_cancel_left]
theorem gq (H A:List AO):(H++A)[H.length]?=A[0]?:=fU H A 0
theorem qG (H A:List AO) (k:Nat) (o:AO):(H++A).set (H.length+k) o=H++A.set k o:=by rw[List.set_append_right _ _ (by omega),Nat.add_sub_cancel_left]
theorem sU (H A:List AO) (o:AO):(H++A).set H.length o=H++A.set 0 o:=qG H A 0 o
attribute [go_sem] fU gq qG sU
theorem lT (cs:List AV) (h:∀c∈cs,Tf c):Tf (.dX cs):=fun θ bd W v hv=>by
 cases hv with
 |dX _ us hs hc=>exact .dX _ us hs fun j c v hj hu=>h c (List.mem_of_getElem? hj) _ _ _ _ (hc j c v hj hu)
theorem dK (cs:List PV):Tf (.st (cs.map .p)):=Ji _ (by intro c hc;obtain⟨x,_,rfl⟩:=List.mem_map.1 hc;exact bw x)
theorem Xx {H:List AO} {j v:Nat} {L:List (List UInt8)} {t:List UInt8} (hj:H[j]?=some (.rows 1 v (L.map fun x=>[.p (.s x)]))) (hl:L.length<=1000):
  aA Tryz.prog 206 [.gs j v 0 L.length,.p (.s t)] H (fun r H'=>H'=H/\∃z:Int,r=.p (.i .i64 z)/\decide (0<=z)=decide (t∈L)):=by
 refine call206 (by simp) ?_;simp only[go_sem,simprocAttr,JJ,Q9];intro _;refine⟨Nat,[0,1,7,8],fun x st=>(x<=L.length/\t∉L.take x)/\st=⟨[(0,.gs j v 0 L.length),(1,.p (.s t)),(7,.p (.i .i64 L.length)),(8,.p (.i .i64 x))],[],H⟩,fun x=>L.length-x,⟨0,?_⟩,?_⟩
 ·simp only[go_sem,simprocAttr]
  simp
 ·rintro x _ ⟨⟨hx,hn⟩,rfl⟩
  by_cases aj:x<L.length
  ·have d1:decide ((x:Int)<(L.length:Int))=true:=by simp;omega
   have hg:(L.map fun x=>[AV.p (.s x)])[x]?=some [.p (.s L[x])]:=by simp[aj]
   simp only[go_sem,simprocAttr,d1,hj,hg,aj];by_cases ht:t=L[x]
   ·have d2:decide (t=L[x])=true:=by simp[ht]
    simp only[go_sem,simprocAttr,d2];refine⟨by omega,(x:Int),rfl,?_⟩;rw[decide_eq_true (show(0:Int)<=(x:Int)by omega),decide_eq_true (by rw[ht];exact List.getElem_mem aj)]
   ·have d2:decide (t=L[x])=false:=by simp[ht]
    simp only[go_sem,simprocAttr,d2,bp x (by omega)];refine⟨by omega,x+1,⟨⟨by omega,?_⟩,rfl⟩,by omega⟩;rw[List.take_succ_eq_append_getElem aj];simp only[List.mem_append,List.mem_singleton,not_or];exact⟨hn,ht⟩
  ·have d1:decide ((x:Int)<(L.length:Int))=false:=by simp;omega
   simp only[go_sem,simprocAttr,d1];refine⟨-1,rfl,?_⟩;rw[List.take_of_length_le (by omega)]at hn;simp[hn]
theorem rZ {H:List AO} {j v:Nat} {L:List (List UInt8)} {t:List UInt8} (hj:H[j]?=some (.rows 1 v (L.map fun x=>[.p (.s x)]))) (hl:L.length<=1000):
  aA Tryz.prog 181 [.gs j v 0 L.length,.p (.s t)] H (aW (.p (.b (decide (t∈L)))) H):=by
 refine call181 (by simp) ?_;simp only[go_sem,simprocAttr,JD,Q3];refine(Xx hj hl).mono ?_;rintro r H' ⟨rfl,z,rfl,hz⟩;simp only[go_sem,simprocAttr,hz];exact⟨rfl,rfl⟩
theorem aaS (t:List UInt8) (H:List AO):aA Tryz.prog 147 [.p (.s t)] H (aW (.p (.b (isKey t))) H):=by
 refine aD ?_ (bw _);refine call147 (by simp) ?_;simp only[go_sem,simprocAttr,JF,Q5];refine U (rZ (L:=keys) (t:=t) (by rw[gq];rfl) (by decide)) ?_;simp only[go_sem,simprocAttr];exact⟨rfl,_,rfl⟩
abbrev tv (x:Tok):AV:=.st (x.cells.map .p)
def lU:(Tok×Nat)⊕Int->Nat->AV
 | .inl (t,e),_=>.dX [tv t,.p (.i .i64 (e:Int)),.st [.p (.i .i64 0),.p (.i .i64 0)]]
 | .inr c,i=>.dX [.st [.p (.i .i64 0),.p (.s []),.p (.i .i64 0),.p (.i .i64 0)],.p (.i .i64 0),.st [.p (.i .i64 c),.p (.i .i64 (i:Int))]]
theorem zr (x i):Tf (lU x i):=by
 rcases x with⟨t,e⟩|c
 ·refine lT _ ?_
  intro c hc;simp only[List.mem_cons,List.not_mem_nil,or_false]at hc;rcases hc with rfl|rfl|rfl
  ·exact dK _
  ·exact bw _
  ·exact dK [.i .i64 0,.i .i64 0]
 ·refine lT _ ?_
  intro x hc;simp only[List.mem_cons,List.not_mem_nil,or_false]at hc;rcases hc with rfl|rfl|rfl
  ·exact dK [.i .i64 0,.s [],.i .i64 0,.i .i64 0]
  ·exact bw _
  ·exact dK [.i .i64 c,.i .i64 i]
theorem zt {s:List UInt8} (hs:s.length<=1099511627776) {i f:Nat} (hi:i<s.length) (hf:f<=s.length):bz cx s f<=s.length/\f<=bz cx s f:=⟨lA _ hf,oQ _ _ _⟩
theorem JL {s:List UInt8} (hs:s.length<=1099511627776) {i:Nat} (hi:i<s.length) (H:List AO):
  aA Tryz.prog 107 [.p (.s s),.p (.i .i64 i)] H (aW (lU (fi s i s[i]) i) H):=by
 refine aD ?_ (zr _ _);have hg:s[i]?=some s[i]:=by simp[hi]
 refine call107 (by simp) ?_;simp only[go_sem,simprocAttr,JA,Q0,hg];cases lO:decide ((s[i].toNat:Int)=39)
 ·simp only[go_sem,simprocAttr,lO,hg]
  refine U (Ba s[i] _) ?_;have sK:=of_decide_eq_false lO;cases kQ:fG s[i]
  ·simp only[go_sem,simprocAttr,kQ]
   obtain⟨r1,r2⟩:=zt hs hi (f:=i) (by omega);refine U (Ew FB hs (i:=i) (by omega) _) ?_;have ew:wr .i64 ((bz cx s (i):Int)-((i:Nat):Int))=((bz cx s (i)-(i):Nat):Int):=by rw[fk (by omega) (by omega)];omega
   by_cases gv:12<bz cx s (i)-(i)
   ·have d12:decide ((12:Int)<((bz cx s (i)-(i):Nat):Int))=true:=by simp;omega
    simp only[go_sem,simprocAttr,ew,d12];have hw:fi s i s[i]=.inr 2:=by unfold fi jG;rw[if_neg sK,if_pos gv]
    rw[hw];exact⟨rfl,_,rfl⟩
   ·have d12:decide ((12:Int)<((bz cx s (i)-(i):Nat):Int))=false:=by simp;omega
    simp only[go_sem,simprocAttr,ew,d12];refine⟨by omega,by omega,?_⟩;refine U (aaS _ _) ?_;cases hk:isKey (List.take (bz cx s (i)-(i)) (List.drop (i) s))
    ·simp only[go_sem,simprocAttr,hk]
     have hw:fi s i s[i]=.inl (⟨3,List.take (bz cx s (i)-(i)) (List.drop (i) s),0,i⟩,bz cx s (i)):=by unfold fi jG;rw[if_neg sK,if_neg gv,hk,kQ];simp[sK]
     rw[hw];exact⟨rfl,_,rfl⟩
    ·simp only[go_sem,simprocAttr,hk]
     have hw:fi s i s[i]=.inl (⟨6,List.take (bz cx s (i)-(i)) (List.drop (i) s),0,i⟩,bz cx s (i)):=by unfold fi jG;rw[if_neg sK,if_neg gv,hk,kQ];simp[sK]
     rw[hw];exact⟨rfl,_,rfl⟩
  ·simp only[go_sem,simprocAttr,kQ]
   obtain⟨r1,r2⟩:=zt hs hi (f:=i) (by omega);refine U (Ew FB hs (i:=i) (by omega) _) ?_;have ew:wr .i64 ((bz cx s (i):Int)-((i:Nat):Int))=((bz cx s (i)-(i):Nat):Int):=by rw[fk (by omega) (by omega)];omega
   by_cases gv:12<bz cx s (i)-(i)
   ·have d12:decide ((12:Int)<((bz cx s (i)-(i):Nat):Int))=true:=by simp;omega
    simp only[go_sem,simprocAttr,ew,d12];have hw:fi s i s[i]=.inr 2:=by unfold fi jG;rw[if_neg sK,if_pos gv]
    rw[hw];exact⟨rfl,_,rfl⟩
   ·have d12:decide ((12:Int)<((bz cx s (i)-(i):Nat):Int))=false:=by simp;omega
    simp only[go_sem,simprocAttr,ew,d12];refine⟨by omega,by omega,?_⟩;have hw:fi s i s[i]=.inl (⟨4,List.take (bz cx s (i)-(i)) (List.drop (i) s),0,i⟩,bz cx s (i)):=by unfold fi jG;rw[if_neg sK,if_neg gv];simp[sK,kQ]
    rw[hw];exact⟨rfl,_,rfl⟩
 ·have sK:=of_decide_eq_true lO
  simp only[go_sem,simprocAttr,lO,hg,bp i (by omega)];obtain⟨r1,r2⟩:=zt hs hi (f:=i+1) (by omega);refine U (Ew FB hs (i:=i+1) (by omega) _) ?_;have ew:wr .i64 ((bz cx s (i+1):Int)-((i+1:Nat):Int))=((bz cx s (i+1)-(i+1):Nat):Int):=by rw[fk (by omega) (by omega)];omega
  by_cases gv:12<bz cx s (i+1)-(i+1)
  ·have d12:decide ((12:Int)<((bz cx s (i+1)-(i+1):Nat):Int))=true:=by simp;omega
   simp only[go_sem,simprocAttr,ew,d12];have hw:fi s i s[i]=.inr 2:=by unfold fi jG;rw[if_pos sK,if_pos gv]
   rw[hw];exact⟨rfl,_,rfl⟩
  ·have d12:decide ((12:Int)<((bz cx s (i+1)-(i+1):Nat):Int))=false:=by simp;omega
   simp only[go_sem,simprocAttr,ew,d12];refine⟨by omega,by omega,?_⟩;have hw:fi s i s[i]=.inl (⟨5,List.take (bz cx s (i+1)-(i+1)) (List.drop (i+1) s),0,i⟩,bz cx s (i+1)):=by unfold fi jG;rw[if_pos sK,if_neg gv];simp[sK]
   rw[hw];exact⟨rfl,_,rfl⟩
theorem adl (s g:List UInt8) (hs:s.length<=1099511627776) (hg:g.length<=100) (H:List AO):aA Tryz.prog 159 [.p (.s s),.p (.s g)] H (aW (.p (.b (preB g s))) H):=by
 refine call159 (by simp) ?_;simp only[go_sem,simprocAttr,JI,Q8];refine U (r0:=.p (.b (preB g s))) (H0:=H) ?_ ?_
 ·refine call190 (by simp) ?_
  simp only[go_sem,simprocAttr,JK,Ra];intro _ _;by_cases hl:g.length<=s.length
  ·have d1:decide ((g.length:Int)<=(s.length:Int))=true:=by simp;omega
   simp only[go_sem,simprocAttr,d1];intro _;exact⟨by omega,by simp[preB],rfl⟩
  ·have d1:decide ((g.length:Int)<=(s.length:Int))=false:=by simp;omega
   simp only[go_sem,simprocAttr,d1];refine⟨?_,rfl⟩
   have:preB g s=false:=by
    unfold preB;refine decide_eq_false fun h=>?_
    have:=congrArg List.length h;rw[List.length_take]at this;omega
   rw[this]
 ·simp only[go_sem,simprocAttr]
  exact⟨rfl,rfl⟩
def gw (L:List (List UInt8)):List (List AV):=L.map fun x=>[.p (.s x)]
theorem j9 {L:List (List UInt8)} {x:Nat} (h:x<L.length):(gw L)[x]?=some [.p (.s L[x])]:=by simp[gw,h]
theorem Xy (H:List AO):aA Tryz.prog 158 [] H (fun r H'=>r=.gs H.length 0 0 15/\H'=H++[.rows 1 0 (gw bE)]):=by
 refine call158 (by simp) ?_;simp only[go_sem,simprocAttr,JH,Q7]
 rfl
theorem qb {l:List UInt8} {L:List (List UInt8)} {x:Nat} (h:x<L.length):eQ l (L.drop x)=if preB L[x] l then L[x]else eQ l (L.drop (x+1)):=by
 rw[List.drop_eq_getElem_cons h,eQ]
theorem qd {x:Nat} (h:x<bE.length):bE[x].length<=2:=by
 have:∀g∈bE,g.length<=2:=by decide
 exact this _ (List.getElem_mem h)
theorem JM {s:List UInt8} (hs:s.length<=1099511627776) {i:Nat} (hi:i<=s.length) (H:List AO):
  aA Tryz.prog 109 [.p (.s s),.p (.i .i64 i)] H (aW (.p (.s (eQ (s.drop i) bE))) H):=by
 refine aD ?_ (bw _);refine call109 (by simp) ?_;simp only[go_sem,simprocAttr,JC,Q2];refine(Xy H).mono ?_;rintro r H' ⟨rfl,rfl⟩;simp only[go_sem,simprocAttr];intro _;refine⟨Nat,[0,1,4,7,8,9],fun x st=>(x<=15/\eQ (s.drop i) (bE.drop x)=eQ (s.drop i) bE)/\st=⟨[(0,.p (.s s)),(1,.p (.i .i64 i)),(4,.p (.s [])),(7,.gs H.length 0 0 15),(8,.p (.i .i64 15)),(9,.p (.i .i64 x))],[],H++[.rows 1 0 (gw bE)]⟩,fun x=>15-x,⟨0,?_⟩,?_⟩
 ·simp only[go_sem,simprocAttr]
 ·rintro x _ ⟨⟨hx,hn⟩,rfl⟩
  have hlen:bE.length=15:=rfl;by_cases aj:x<15
  ·have bC:x<bE.length:=aj
   have d1:decide ((x:Int)<15)=true:=by simp;omega
   rw[qb bC]at hn;have et:List.take (s.length-i) (s.drop i)=s.drop i:=List.take_of_length_le (by simp);simp only[go_sem,simprocAttr,d1,j9 bC];refine⟨by omega,?_⟩;rw[et];refine⟨by omega,?_⟩;refine U (adl (s.drop i) bE[x] (by rw[List.length_drop];omega) (by have:=qd bC;omega) _) ?_;cases hp:preB bE[x] (s.drop i)
   ·rw[hp]at hn
    simp only[go_sem,simprocAttr,hp,bp x (by omega)];exact⟨x+1,⟨⟨by omega,by simpa using hn⟩,rfl⟩,by omega⟩
   ·rw[hp]at hn
    simp only[go_sem,simprocAttr,hp];rw[if_pos rfl]at hn;exact⟨by rw[hn],_,rfl⟩
  ·have d1:decide ((x:Int)<15)=false:=by simp;omega
   have:bE.drop x=[]:=List.drop_of_length_le (by omega);rw[this,eQ]at hn;simp only[go_sem,simprocAttr,d1];exact⟨by rw[<-hn],_,rfl⟩
def cr (l:List UInt8):List (List AV):=l.map fun c=>[Ci c]
theorem bJ (l):(cr l).length=l.length:=by simp[cr]
theorem ka (l c):cr (l++[c])=cr l++[[Ci c]]:=by simp[cr]
theorem JN (l:List UInt8):bytesOf (cr l)=some l:=by
  induction l with
  |nil=>rfl
  |cons c l ih=>
   show(bytesOf (cr l)).map _ =_;rw[ih];simp
theorem ui {H:List AO} {a:AV} {l:List UInt8} (h:jr H a 1 (cr l)) (hl:l.length<=140737488355328):pY H a=some (.p (.s l)):=by
 rcases h with⟨rfl,h⟩|⟨id,ver,rfl,h⟩
 ·have:l=[]:=by simpa[cr]using h
  rw[this];rfl
 ·simp only[go_sem,simprocAttr,h]
  have iy:(cr l).length<=140737488355328:=by rw[bJ];exact hl
  rw[if_pos (Nat.le_refl _),List.take_length,IS,if_pos iy,JN]
  rfl
theorem iK {H H':List AO} (h:∀(j:Nat) o,H[j]?=some o->H'[j]?=some o):∃G,H'=H++G:=by
 refine⟨H'.drop H.length,List.ext_getElem? fun j=>?_⟩;rcases Nat.lt_or_ge j H.length with hj|hj
 ·rw[List.getElem?_append_left hj,h j H[j] (by simp[hj])];simp[hj]
 ·rw[List.getElem?_append_right hj,List.getElem?_drop];congr 1;omega
theorem uj {H H':List AO} (h:∀(j:Nat) o,H[j]?=some o->H'[j]?=some o):H.length<=H'.length:=by
 obtain⟨G,rfl⟩:=iK h;simp
theorem zu (c:UInt8):wr .i64 (c.toNat:Int)=(c.toNat:Int):=fk (by omega) (by have:=c.toNat_lt;omega)
theorem uk (n lo hi:Int) (H:List AO):aA Tryz.prog 140 [.p (.i .i64 n),.p (.i .i64 lo),.p (.i .i64 hi)] H (aW (.p (.b (decide (lo<=n)&&decide (n<=hi)))) H):=by
 refine call140 (by simp) ?_;simp only[go_sem,simprocAttr,JE,Q4];cases h:decide (lo<=n)
 ·simp only[go_sem,simprocAttr,h]
  exact⟨by simp,rfl⟩
 ·simp only[go_sem,simprocAttr,h]
  exact⟨by simp,rfl⟩
theorem Rb {s:List UInt8} (hs:s.length<=1099511627776) {i:Nat} (hi:i<s.length) (H:List AO):
  aA Tryz.prog 108 [.p (.s s),.p (.i .i64 i)] H (aW (match gn s (i+1) []with
   |some (t,e)=>.dX [.p (.s t),.p (.i .i64 (e:Int)),.p (.b true)]
   |none=>.dX [.p (.s []),.p (.i .i64 0),.p (.b false)]) H):=by
 have tf:Tf (match gn s (i+1) []with
   |some (t,e)=>.dX [.p (.s t),.p (.i .i64 (e:Int)),.p (.b true)]
   |none=>.dX [.p (.s []),.p (.i .i64 0),.p (.b false)]):=by
  split <;>exact lT _ (by intro c hc;simp at hc;rcases hc with rfl|rfl|rfl<;>exact bw _)
 refine aD ?_ tf;clear tf;generalize hR:gn s (i+1) []=R;refine call108 (by simp) ?_;simp only[go_sem,simprocAttr,JB,Q1,bp i (by omega)];refine⟨Nat×List UInt8×AV×List AO,[0,1,4,5,6,7,8],fun x st=>(x.1<=s.length/\x.2.1.length<=x.1/\gn s x.1 x.2.1=R/\jr x.2.2.2 x.2.2.1 1 (cr x.2.1)/\(∀id v o m,x.2.2.1=.gs id v o m->H.length<=id)/\∀(j:Nat) o,H[j]?=some o->x.2.2.2[j]?=some o)/\st=⟨[(0,.p (.s s)),(1,.p (.i .i64 i)),(4,.p (.s [])),(5,.p (.i .i64 0)),(6,.p (.b false)),(7,x.2.2.1),(8,.p (.i .i64 x.1))],[],x.2.2.2⟩,fun x=>s.length-x.1,⟨(i+1,[],.p .nl,H),?_⟩,?_⟩
 ·simp only[go_sem,simprocAttr]
  exact⟨by omega,hR,.inl ⟨rfl,rfl⟩,fun _ _ _ _ h=>h.elim,fun _ _ h=>h⟩
 ·rintro⟨x,out,a,H1⟩ _ ⟨⟨h1,h2,h3,h4,h5,h6⟩,rfl⟩
  simp only at h1 h2 h3 h4 h5 h6⊢;obtain⟨G0,Rc⟩:=iK h6;by_cases aj:x<s.length
  ·have d1:decide ((x:Int)<(s.length:Int))=true:=by simp;omega
   have hg:s[x]?=some s[x]:=by simp[aj]
   rw[gn,dif_pos aj]at h3;simp only[go_sem,simprocAttr,d1,hg];intro _;cases fp:decide ((s[x].toNat:Int)=34)
   ·have n34:=of_decide_eq_false fp
    rw[if_neg n34]at h3;cases pw:decide ((s[x].toNat:Int)=92)
    ·have JO:=of_decide_eq_false pw
     rw[if_neg JO]at h3;simp only[go_sem,simprocAttr,fp,pw,zu];refine U (uk _ _ _ _) ?_;cases hp:qZ s[x]
     ·have oV:=hp
      unfold qZ at oV;rw[hp]at h3;simp only[go_sem,simprocAttr,oV];rw[<-h3];exact⟨rfl,_,Rc⟩
     ·have oV:=hp
      unfold qZ at oV;rw[if_pos hp]at h3;simp only[go_sem,simprocAttr,oV];refine⟨by intro r hr;simp at hr;subst hr;rfl,?_⟩;refine fq (rs:=cr out) (ys:=[[Ci s[x]]]) h4.ext (by rw[bJ];simp;omega) (by rw[bJ];simp;omega) ?_;intro id ver H4 k1 k2 k3 k4;rw[bJ];simp only[go_sem,simprocAttr,bp x (by omega)];refine⟨(x+1,out++[s[x]],.gs id ver 0 (out.length+1),H4),⟨⟨by omega,by simp;omega,h3,.inr ⟨id,ver,by simp[bJ],by rw[ka];exact k1⟩,?_,?_⟩,rfl⟩,by simp only;omega⟩
      ·intro jm v o m' e
       cases e;rcases k2 with⟨v,o,n',e⟩|h
       ·exact h5 _ _ _ _ e
       ·have:=uj h6;simp at h;omega
      ·intro j o hj
       refine k3 j o (ay (h6 j o hj) _) (fun v o' n' e=>?_);have:=h5 _ _ _ _ e;have:=bj hj;omega
    ·have JO:=of_decide_eq_true pw
     rw[if_pos JO]at h3;simp only[go_sem,simprocAttr,fp,pw,bp x (by omega)];intro _;by_cases sR:x+1<s.length
     ·have jQ:s[x+1]?=some s[x+1]:=by simp[sR]
      have d2:decide (((x+1:Nat):Int)=(s.length:Int))=false:=by simp;omega
      rw[dif_pos sR]at h3;simp only[go_sem,simprocAttr,d2,jQ];cases rj:decide ((s[x+1].toNat:Int)=110)
      ·rw[if_neg (of_decide_eq_false rj)]at h3
       cases hq:decide ((s[x+1].toNat:Int)=34)
       ·cases hw:decide ((s[x+1].toNat:Int)=92)
        ·rw[if_neg (by rw[not_or];exact⟨of_decide_eq_false hq,of_decide_eq_false hw⟩)]at h3
         simp only[go_sem,simprocAttr,rj,hq,hw];rw[<-h3];exact⟨rfl,_,Rc⟩
        ·rw[if_pos (.inr (of_decide_eq_true hw))]at h3
         simp only[go_sem,simprocAttr,rj,hq,hw,jQ];refine⟨by intro r hr;simp at hr;subst hr;rfl,?_⟩;refine fq (rs:=cr out) (ys:=[[Ci s[x+1]]]) h4.ext (by rw[bJ];simp;omega) (by rw[bJ];simp;omega) ?_;intro id ver H4 k1 k2 k3 k4;rw[bJ];simp only[go_sem,simprocAttr,bp (x+1) (by omega)];refine⟨(x+2,out++[s[x+1]],.gs id ver 0 (out.length+1),H4),⟨⟨by omega,by simp;omega,h3,.inr ⟨id,ver,by simp[bJ],by rw[ka];exact k1⟩,?_,?_⟩,rfl⟩,by simp only;omega⟩
         ·intro jm v o m' e
          cases e;rcases k2 with⟨v,o,n',e⟩|h
          ·exact h5 _ _ _ _ e
          ·have:=uj h6;simp at h;omega
         ·intro j o hj
          refine k3 j o (ay (h6 j o hj) _) (fun v o' n' e=>?_);have:=h5 _ _ _ _ e;have:=bj hj;omega
       ·rw[if_pos (.inl (of_decide_eq_true hq))]at h3
        simp only[go_sem,simprocAttr,rj,hq,jQ];refine⟨by intro r hr;simp at hr;subst hr;rfl,?_⟩;refine fq (rs:=cr out) (ys:=[[Ci s[x+1]]]) h4.ext (by rw[bJ];simp;omega) (by rw[bJ];simp;omega) ?_;intro id ver H4 k1 k2 k3 k4;rw[bJ];simp only[go_sem,simprocAttr,bp (x+1) (by omega)];refine⟨(x+2,out++[s[x+1]],.gs id ver 0 (out.length+1),H4),⟨⟨by omega,by simp;omega,h3,.inr ⟨id,ver,by simp[bJ],by rw[ka];exact k1⟩,?_,?_⟩,rfl⟩,by simp only;omega⟩
        ·intro jm v o m' e
         cases e;rcases k2 with⟨v,o,n',e⟩|h
         ·exact h5 _ _ _ _ e
         ·have:=uj h6;simp at h;omega
        ·intro j o hj
         refine k3 j o (ay (h6 j o hj) _) (fun v o' n' e=>?_);have:=h5 _ _ _ _ e;have:=bj hj;omega
      ·rw[if_pos (of_decide_eq_true rj)]at h3
       simp only[go_sem,simprocAttr,rj];refine⟨by intro r hr;simp at hr;subst hr;rfl,?_⟩;refine fq (rs:=cr out) (ys:=[[Ci 10]]) h4.ext (by rw[bJ];simp;omega) (by rw[bJ];simp;omega) ?_;intro id ver H4 k1 k2 k3 k4;rw[bJ];simp only[go_sem,simprocAttr,bp (x+1) (by omega)];refine⟨(x+2,out++[10],.gs id ver 0 (out.length+1),H4),⟨⟨by omega,by simp;omega,h3,.inr ⟨id,ver,by simp[bJ],by rw[ka];exact k1⟩,?_,?_⟩,rfl⟩,by simp only;omega⟩
       ·intro jm v o m' e
        cases e;rcases k2 with⟨v,o,n',e⟩|h
        ·exact h5 _ _ _ _ e
        ·have:=uj h6;simp at h;omega
       ·intro j o hj
        refine k3 j o (ay (h6 j o hj) _) (fun v o' n' e=>?_);have:=h5 _ _ _ _ e;have:=bj hj;omega
     ·have d2:decide (((x+1:Nat):Int)=(s.length:Int))=true:=by simp;omega
      rw[dif_neg sR]at h3;simp only[go_sem,simprocAttr,d2];rw[<-h3];exact⟨rfl,_,Rc⟩
   ·rw[if_pos (of_decide_eq_true fp)]at h3
    have hb:=ui h4 (by omega);simp only[go_sem,simprocAttr,fp,hb,bp x (by omega)];rw[<-h3];exact⟨rfl,_,Rc⟩
  ·have d1:decide ((x:Int)<(s.length:Int))=false:=by simp;omega
   rw[gn,dif_neg aj]at h3;simp only[go_sem,simprocAttr,d1];intro _;rw[<-h3];exact⟨rfl,_,Rc⟩
end Go.Proofs.YtjkbbnfdbfcebaaGreatDoor.Qp
namespace Go.Proofs.YtjkbbnfdbfcebaaGreatDoor.Qp
open Go.AM Go.Shelf Mc Pg
def HF:Ren:=⟨fun x=>match x with|172=>157|244=>188|245=>189|247=>213|279=>214|280=>215|281=>216|282=>217|287=>229|316=>230|171=>97|205=>231|321=>235|322=>236|243=>154|246=>186|283=>209|284=>210|285=>211|286=>212|129=>225|317=>224|318=>226|319=>227|320=>228|337=>233|338=>234|n=>n,
 fun x=>match x with|75=>181|76=>182|167=>219|37=>122|85=>220|168=>222|53=>194|175=>233|46=>231|210=>236|127=>202|145=>242|143=>240|171=>214|173=>217|212=>228|51=>229|213=>230|232=>243|233=>244|80=>184|n=>n,
 fun x=>match x with|15=>2|16=>3|17=>1|18=>4|19=>5|n=>n⟩
theorem zw:LaysC.n172 Tryz.prog HF where
 mixed:=by kernel_rfl
 f129:=Eq.trans Tryz.func225 (by kernel_rfl)
 f171:=Eq.trans Tryz.func97 (by kernel_rfl)
 f172:=Eq.trans Tryz.func157 (by kernel_rfl)
 f205:=Eq.trans Tryz.func231 (by kernel_rfl)
 f243:=Eq.trans Tryz.func154 (by kernel_rfl)
 f244:=Eq.trans Tryz.func188 (by kernel_rfl)
 f245:=Eq.trans Tryz.func189 (by kernel_rfl)
 f246:=Eq.trans Tryz.func186 (by kernel_rfl)
 f247:=Eq.trans Tryz.func213 (by kernel_rfl)
 f279:=Eq.trans Tryz.func214 (by kernel_rfl)
 f280:=Eq.trans Tryz.func215 (by kernel_rfl)
 f281:=Eq.trans Tryz.func216 (by kernel_rfl)
 f282:=Eq.trans Tryz.func217 (by kernel_rfl)
 f283:=Eq.trans Tryz.func209 (by kernel_rfl)
 f284:=Eq.trans Tryz.func210 (by kernel_rfl)
 f285:=Eq.trans Tryz.func211 (by kernel_rfl)
 f286:=Eq.trans Tryz.func212 (by kernel_rfl)
 f287:=Eq.trans Tryz.func229 (by kernel_rfl)
 f316:=Eq.trans Tryz.func230 (by kernel_rfl)
 f317:=Eq.trans Tryz.func224 (by kernel_rfl)
 f318:=Eq.trans Tryz.func226 (by kernel_rfl)
 f319:=Eq.trans Tryz.func227 (by kernel_rfl)
 f320:=Eq.trans Tryz.func228 (by kernel_rfl)
 f321:=Eq.trans Tryz.func235 (by kernel_rfl)
 f322:=Eq.trans Tryz.func236 (by kernel_rfl)
 f337:=Eq.trans Tryz.func233 (by kernel_rfl)
 f338:=Eq.trans Tryz.func234 (by kernel_rfl)
 t0:=Tryz.underlying0
 a0:=Tryz.isAgg0
 z0:=Tryz.sizeOf0
 v0:=Tryz.zeroValue0
 t2:=Tryz.underlying2
 a2:=Tryz.isAgg2
 z2:=Tryz.sizeOf2
 v2:=Tryz.zeroValue2
 t3:=Tryz.underlying3
 a3:=Tryz.isAgg3
 z3:=Tryz.sizeOf3
 v3:=Tryz.zeroValue3
 t4:=Tryz.underlying4
 a4:=Tryz.isAgg4
 z4:=Tryz.sizeOf4
 v4:=Tryz.zeroValue4
 t5:=Tryz.underlying5
 a5:=Tryz.isAgg5
 z5:=Tryz.sizeOf5
 v5:=Tryz.zeroValue5
 t9:=Tryz.underlying9
 a9:=Tryz.isAgg9
 z9:=Tryz.sizeOf9
 v9:=Tryz.zeroValue9
 t20:=Tryz.underlying20
 a20:=Tryz.isAgg20
 z20:=Tryz.sizeOf20
 v20:=Tryz.zeroValue20
 t21:=Tryz.underlying21
 a21:=Tryz.isAgg21
 z21:=Tryz.sizeOf21
 v21:=Tryz.zeroValue21
 t37:=Tryz.underlying122
 a37:=Tryz.isAgg122
 z37:=Tryz.sizeOf122
 v37:=Tryz.zeroValue122
 t46:=Tryz.underlying231
 a46:=Tryz.isAgg231
 z46:=Tryz.sizeOf231
 v46:=Tryz.zeroValue231
 t51:=Tryz.underlying229
 a51:=Tryz.isAgg229
 z51:=Tryz.sizeOf229
 v51:=Tryz.zeroValue229
 t53:=Tryz.underlying194
 a53:=Tryz.isAgg194
 z53:=Tryz.sizeOf194
 v53:=Tryz.zeroValue194
 t75:=Tryz.underlying181
 a75:=Tryz.isAgg181
 z75:=Tryz.sizeOf181
 v75:=Tryz.zeroValue181
 t76:=Tryz.underlying182
 a76:=Tryz.isAgg182
 z76:=Tryz.sizeOf182
 v76:=Tryz.zeroValue182
 t85:=Tryz.underlying220
 a85:=Tryz.isAgg220
 z85:=Tryz.sizeOf220
 v85:=Tryz.zeroValue220
 t127:=Tryz.underlying202
 a127:=Tryz.isAgg202
 z127:=Tryz.sizeOf202
 v127:=Tryz.zeroValue202
 t143:=Tryz.underlying240
 a143:=Tryz.isAgg240
 z143:=Tryz.sizeOf240
 v143:=Tryz.zeroValue240
 t145:=Tryz.underlying242
 a145:=Tryz.isAgg242
 z145:=Tryz.sizeOf242
 v145:=Tryz.zeroValue242
 t167:=Tryz.underlying219
 a167:=Tryz.isAgg219
 z167:=Tryz.sizeOf219
 v167:=Tryz.zeroValue219
 t168:=Tryz.underlying222
 a168:=Tryz.isAgg222
 z168:=Tryz.sizeOf222
 v168:=Tryz.zeroValue222
 t171:=Tryz.underlying214
 a171:=Tryz.isAgg214
 z171:=Tryz.sizeOf214
 v171:=Tryz.zeroValue214
 t173:=Tryz.underlying217
 a173:=Tryz.isAgg217
 z173:=Tryz.sizeOf217
 v173:=Tryz.zeroValue217
 t175:=Tryz.underlying233
 a175:=Tryz.isAgg233
 z175:=Tryz.sizeOf233
 v175:=Tryz.zeroValue233
 t210:=Tryz.underlying236
 a210:=Tryz.isAgg236
 z210:=Tryz.sizeOf236
 v210:=Tryz.zeroValue236
 t212:=Tryz.underlying228
 a212:=Tryz.isAgg228
 z212:=Tryz.sizeOf228
 v212:=Tryz.zeroValue228
 t213:=Tryz.underlying230
 a213:=Tryz.isAgg230
 z213:=Tryz.sizeOf230
 t232:=Tryz.underlying243
 a232:=Tryz.isAgg243
 z232:=Tryz.sizeOf243
 v232:=Tryz.zeroValue243
 t233:=Tryz.underlying244
 a233:=Tryz.isAgg244
 z233:=Tryz.sizeOf244
 v233:=Tryz.zeroValue244
 g15:=by kernel_rfl
 g16:=by kernel_rfl
 g17:=by kernel_rfl
 g18:=by kernel_rfl
 g19:=by kernel_rfl
 t80:=Tryz.underlying184
 a80:=Tryz.isAgg184
 z80:=Tryz.sizeOf184
 v80:=Tryz.zeroValue184
 i0:=by kernel_rfl
 i2:=by kernel_rfl
 i3:=by kernel_rfl
 i4:=by kernel_rfl
 i5:=by kernel_rfl
 i9:=by kernel_rfl
 i20:=by kernel_rfl
 i21:=by kernel_rfl
 i37:=by kernel_rfl
 i46:=by kernel_rfl
 i51:=by kernel_rfl
 i53:=by kernel_rfl
 i75:=by kernel_rfl
 i76:=by kernel_rfl
 i80:=by kernel_rfl
 i85:=by kernel_rfl
 i127:=by kernel_rfl
 i143:=by kernel_rfl
 i145:=by kernel_rfl
 i167:=by kernel_rfl
 i168:=by kernel_rfl
 i171:=by kernel_rfl
 i173:=by kernel_rfl
 i175:=by kernel_rfl
 i210:=by kernel_rfl
 i212:=by kernel_rfl
 i232:=by kernel_rfl
 i233:=by kernel_rfl
 m15:=by kernel_rfl
 m16:=by kernel_rfl
 m17:=by kernel_rfl
 m18:=by kernel_rfl
 m19:=by kernel_rfl
 c0:=by kernel_rfl
 c2:=by kernel_rfl
 c3:=by kernel_rfl
 c4:=by kernel_rfl
 c5:=by kernel_rfl
 c9:=by kernel_rfl
 c20:=by kernel_rfl
 c21:=by kernel_rfl
 c37:=by kernel_rfl
 c46:=by kernel_rfl
 c51:=by kernel_rfl
 c53:=by kernel_rfl
 c75:=by kernel_rfl
 c76:=by kernel_rfl
 c80:=by kernel_rfl
 c85:=by kernel_rfl
 c127:=by kernel_rfl
 c143:=by kernel_rfl
 c145:=by kernel_rfl
 c167:=by kernel_rfl
 c168:=by kernel_rfl
 c171:=by kernel_rfl
 c173:=by kernel_rfl
 c175:=by kernel_rfl
 c210:=by kernel_rfl
 c212:=by kernel_rfl
 c213:=by kernel_rfl
 c232:=by kernel_rfl
 c233:=by kernel_rfl
theorem Re {θ:Th} {W:Im} {H:List AO} {w w':World} (h:SR θ W H w) (h1:w'.os=w.os) (h2:w'.tape=w.tape) (h3:w'.output=w.output) (h4:w.heap.size<=w'.heap.size) (h5:∀k,k<w.heap.size->w'.heap[k]?=w.heap[k]?):SR θ W H w'/\eU θ W w θ W w':=by
 refine⟨⟨?_,?_,h.out,h.own,h.inj⟩,⟨h1,h2,h3,h4,fun k hk _=>h5 k hk,fun _ _ _ h=>h,fun _ _ _ _=>rfl,fun _ _ _=>.inl rfl,fun _ h=>.inl h⟩⟩
 ·intro b o v hv
  rw[<-h.kK b o v hv];exact World.cell?_of_block (h5 b (h.lt hv))
 ·intro i o hi
  exact(h.obj i o hi).mono (fun _=>rfl) (fun v k s t hk=>h5 k (h.jo hk)) (fun _ _ h=>h) (ht:=fun b v o hv ho=>by rw[h5 b (h.lt hv)];exact ho)
theorem nH {P:Program} {f:Nat} {args:List AV} {H:List AO} {r:AV} (hb:Bq P f)
  (hc:∀w θ W (vs:Array Value),SR θ W H w->tq θ W args vs->Calls P f vs w fun e w'=>∃rv,e=.returned rv/\bc θ W r rv/\w'.os=w.os/\w'.tape=w.tape/\w'.output=w.output/\w.heap.size<=w'.heap.size/\∀k,k<w.heap.size->w'.heap[k]?=w.heap[k]?):
  aA P f args H (aW r H):=by
 refine⟨hb,fun w θ W vs gm cR=>?_⟩;refine(hc w θ W vs gm cR).mono ?_;rintro e w' ⟨rv,rfl,hr,h1,h2,h3,h4,h5⟩;obtain⟨k1,k2⟩:=Re gm h1 h2 h3 h4 h5;exact⟨rv,r,H,θ,W,rfl,⟨rfl,rfl⟩,k1,hr,k2⟩
theorem HG {θ:Th} {W:Im} {s:List UInt8} {vs:Array Value} (hr:tq θ W [.p (.s s)] vs):vs=#[.string ⟨s.toArray⟩]:=by
  obtain⟨r7,oB⟩:=hr;have hs:vs.toList.length=1:=by simpa using r7
  match hl:vs.toList,hs with
  |[a],_ =>
   have :=oB 0 _ a rfl (by rw[←Array.getElem?_toList,hl];rfl);obtain⟨rfl,_⟩:=this.oU;rw[←Array.toList_inj];exact hl
theorem Ey {θ:Th} {W:Im} {a b:PV} {u v:Value} (h1:gr W a u) (h2:gr W b v):bc θ W (.dX [.p a,.p b]) (.tuple #[u,v]):=by
 refine .dX _ _ (by rfl) ?_;intro j c x hj hv
 match j with
 |0=>cases hj;cases hv;exact .p _ _ h1
 |1=>cases hj;cases hv;exact .p _ _ h2
 |j+2=>simp at hj
theorem Xz {s:List UInt8} {n:Int} {H:List AO} (hl:s.length<=1099511627776) (h:Lib.atoiAll s=.ok n):aA Tryz.prog 157 [.p (.s s)] H (aW (.dX [.p (.i .i64 n),.p .ni]) H):=by
 refine nH ⟨_,Tryz.func157,rfl,rfl⟩ ?_;intro w θ W vs gm hr;obtain rfl:=HG hr;refine(Any.strconv_Atoi_ok zw ⟨s.toArray⟩ (by simp[ByteArray.size];omega) n (by simpa using h) w).mono ?_;rintro e w' ⟨rfl,hw⟩;refine⟨_,rfl,Ey (.i _ _) .ni,?_⟩;rcases hw with rfl|⟨t,rfl⟩
 ·exact⟨rfl,rfl,rfl,Nat.le_refl _,fun _ _=>rfl⟩
 ·exact⟨rfl,rfl,rfl,by rw[Lib.bytesWorld_size];omega,fun k hk=>Lib.bytesWorld_at_old _ _ _ _ hk⟩
def Rg (H:List AO):Prop:=∃(i:Nat) (te:TypeId) (pe:Value),H[i]?=some (AO.td 3 (.iface te pe))
theorem Rg.ext {H:List AO} (h:Rg H) (A:List AO):Rg (H++A):=by
 obtain⟨i,te,pe,h⟩:=h;exact⟨i,te,pe,ay h A⟩
theorem Rg.gf {H H':List AO} (h:Rg H) (k:∀(j:Nat) o,H[j]?=some o->H'[j]?=some o):Rg H':=by
 obtain⟨i,te,pe,h⟩:=h;exact⟨i,te,pe,k _ _ h⟩
theorem XA {s:List UInt8} {H:List AO} (hg:Rg H) (hl:s.length<=1099511627776) (h:Lib.atoiAll s=.range):aA Tryz.prog 157 [.p (.s s)] H (aW (.dX [.p (.i .i64 (Lib.atoiSat s)),.p .er]) H):=by
 refine nH ⟨_,Tryz.func157,rfl,rfl⟩ ?_;intro w θ W vs gm hr;obtain rfl:=HG hr;obtain⟨i,te,pe,hi⟩:=hg;have hW:=(gm.obj i _ hi).1;refine(Any.strconv_Atoi_range zw ⟨s.toArray⟩ (by simp[ByteArray.size];omega) (by simpa using h) (.iface te pe) w (gm.kK _ _ _ hW) (.inr ⟨_,_,rfl⟩)).mono ?_;rintro e w' ⟨N,rfl,h1,h2,h3⟩;exact⟨_,rfl,Ey (.i _ _) (.er _ _),h3.os,h3.tape,h3.output,h3.size,fun k hk=>h3.block k hk⟩
theorem HI:∀(l:List UInt8) (n:Nat),n≤fo l n
  |[],n=>Nat.le_refl _
  |c::l,n=>by
   have :=HI l (n*10+(c.toNat-48));rw[fo];omega
theorem vf {c:UInt8}:eH c=true ↔48<=c.toNat/\c.toNat<=57:=by
 simp[eH];omega
theorem Cj:∀(l:List UInt8) (n:Nat),(∀c∈l,eH c=true)→n<18446744073709551616→Lib.parseUint10 n l=if fo l n<18446744073709551616 then .ok (fo l n)else .range
  |[],n,_,hn=>by rw[Lib.parseUint10,fo,if_pos hn]
  |c::l,n,hl,hn=>by
   have hc:=vf.1 (hl c (by simp));have ih:=Cj l (n*10+(c.toNat-48)) (fun x hx=>hl x (by simp[hx]));have gH:=HI l (n*10+(c.toNat-48));rw[Lib.parseUint10,fo,if_pos hc];by_cases h1:1844674407370955162≤n
   · rw[if_pos h1,if_neg (by omega)]
   · rw[if_neg h1]
     by_cases h2:18446744073709551616≤n*10+(c.toNat-48)
     · rw[if_pos h2,if_neg (by omega)]
     · rw[if_neg h2];exact ih (by omega)
theorem NW {l:List UInt8} (hl:∀c∈l,eH c=true) (cX:l≠[]):Lib.atoiAll l=if fo l 0≤gT then .ok (fo l 0:Nat)else .range:=by
  cases l with
  |nil=>exact(cX rfl).elim
  |cons c r=>
   have hc:=vf.1 (hl c (by simp));have hp:=Cj (c::r) 0 hl (by omega);unfold Lib.atoiAll;simp only[show ¬c.toNat=43 by omega,show ¬c.toNat=45 by omega,or_self,if_false,Lib.parseMag,not_false_eq_true,true_and,false_and,if_neg (show ¬(c::r=[])by simp),hp];unfold gT;by_cases h1:fo (c::r) 0<18446744073709551616
   · rw[if_pos h1]
     by_cases h2:fo (c::r) 0≤9223372036854775807
     · rw[if_pos h2];simp only[show ¬(9223372036854775808≤fo (c::r) 0)by omega,if_false]
     · rw[if_neg h2];simp only[show(9223372036854775808≤fo (c::r) 0)by omega,if_true]
   · rw[if_neg h1,if_neg (by omega)]
theorem rk (q:UInt8→Bool):∀(l:List UInt8),∀c∈l.take (ow q l),q c=true
  |[],c,h=>by simp at h
  |a::l,c,h=>by
   rw[ow]at h;split at h
   · rw[List.take_succ_cons]at h
     rcases List.mem_cons.1 h with rfl|h
     · assumption
     · exact rk q l c h
   · simp at h
theorem NX (q:UInt8->Bool) (s:List UInt8) (i:Nat):∀c∈(s.drop i).take (bz q s i-i),q c=true:=by
 have:=rk q (s.drop i);unfold bz;rwa[Nat.add_sub_cancel_left]
theorem agr {s:List UInt8} (hs:s.length<=1099511627776) {i:Nat} (hi:i<s.length) (hd:eH s[i]=true) {H:List AO} (hg:Rg H):
  aA Tryz.prog 105 [.p (.s s),.p (.i .i64 i)] H (aW (lU (sJ s i s[i]) i) H):=by
 refine aD ?_ (zr _ _);have sW:s[i]?=some s[i]:=by simp[hi]
 refine call105 (by simp) ?_;simp only[go_sem,simprocAttr,Jy,QY];refine U (Ew FA hs (Nat.le_of_lt hi) _) ?_;have r1:=lA eH (s:=s) (i:=i) (by omega)
 have r2:i<bz eH s i:=by
  rw[kW hi hd];have:=oQ eH s (i+1);omega
 have sI:=NX eH s i;have hlen:((s.drop i).take (bz eH s i-i)).length=bz eH s i-i:=by simp;omega
 have cX:(s.drop i).take (bz eH s i-i)≠[]:=by intro h;rw[h]at hlen;simp at hlen;omega
 have ha:=NW sI cX;have ew:wr .i64 ((bz eH s i:Int)-(i:Int))=((bz eH s i-i:Nat):Int):=by rw[fk (by omega) (by omega)];omega
 unfold sJ;generalize bz eH s i=e at *;generalize Ck:(s.drop i).take (e-i)=ds at *;simp only[go_sem,simprocAttr,Ck];refine⟨by omega,by omega,?_⟩;by_cases hm:fo ds 0<=gT
 ·rw[if_pos hm]at ha
  refine U (Xz (by omega) ha) ?_;simp only[show ¬gT<fo ds 0 by omega,false_or];by_cases h1:1<e-i
  ·have d1:decide ((1:Int)<((e-i:Nat):Int))=true:=by simp;omega
   cases sQ:decide ((s[i].toNat:Int)=48)
   ·simp only[go_sem,simprocAttr,ew,d1,sW,sQ]
    rw[if_neg (by intro h;exact of_decide_eq_false sQ h.2)];exact⟨rfl,_,rfl⟩
   ·simp only[go_sem,simprocAttr,ew,d1,sW,sQ]
    rw[if_pos ⟨h1,of_decide_eq_true sQ⟩];exact⟨rfl,_,rfl⟩
  ·have d1:decide ((1:Int)<((e-i:Nat):Int))=false:=by simp;omega
   simp only[go_sem,simprocAttr,ew,d1];rw[if_neg (by intro h;exact h1 h.1)];exact⟨rfl,_,rfl⟩
 ·rw[if_neg hm]at ha
  refine U (XA (hg.ext _) (by omega) ha) ?_;simp only[go_sem,simprocAttr];rw[if_pos (.inl (by omega))];exact⟨rfl,_,rfl⟩
end Go.Proofs.YtjkbbnfdbfcebaaGreatDoor.Qp
namespace Go.Proofs.YtjkbbnfdbfcebaaGreatDoor.Qp
open Go.AM Mc Pg
theorem ags {s:List UInt8} (hs:s.length<=1099511627776) {i:Nat} (hi:i<s.length) {H:List AO} (hg:Rg H):
  aA Tryz.prog 52 [.p (.s s),.p (.i .i64 i)] H (aW (lU (jY s i s[i]) i) H):=by
 refine aD ?_ (zr _ _);have sW:s[i]?=some s[i]:=by simp[hi]
 refine call52 (by simp) ?_;simp only[go_sem,simprocAttr,QS,aaN,sW];refine U (FA s[i] _) ?_;unfold jY;cases hd:eH s[i]
 ·rw[if_neg (by simp)]
  simp only[go_sem,simprocAttr,hd];refine U (ve s[i] _) ?_;cases HJ:eP s[i]
  ·simp only[go_sem,simprocAttr,HJ]
   refine U (Ba s[i] _) ?_;cases kQ:fG s[i]
   ·simp only[go_sem,simprocAttr,kQ]
    cases lO:decide ((s[i].toNat:Int)=39)
    ·rw[if_neg (by simp[tick,lO])]
     cases fp:decide ((s[i].toNat:Int)=34)
     ·rw[if_neg (of_decide_eq_false fp)]
      simp only[go_sem,simprocAttr,lO,fp];refine U (JM hs (Nat.le_of_lt hi) _) ?_;have hl:=ra (s.drop i) bE;unfold o9;generalize eQ (s.drop i) bE=g at hl;cases x7:decide (g=[])
      ·have ew:wr .i64 ((i:Int)+(g.length:Int))=((i+g.length:Nat):Int):=by
        have:=hl.1;simp at this;rw[fk (by omega) (by omega)];omega
       simp only[go_sem,simprocAttr,x7,ew];intro _;simp only[if_neg (of_decide_eq_false x7)];first|exact⟨rfl,_,rfl⟩|exact⟨_,rfl⟩
      ·simp only[go_sem,simprocAttr,x7]
       simp only[if_pos (of_decide_eq_true x7)];first|exact⟨rfl,_,rfl⟩|exact⟨_,rfl⟩
     ·rw[if_pos (of_decide_eq_true fp)]
      simp only[go_sem,simprocAttr,lO,fp];refine U (Rb hs hi _) ?_;unfold q9;rcases hq:gn s (i+1) []with _|⟨t,e⟩
      ·simp only[go_sem,simprocAttr]
       first|exact⟨rfl,_,rfl⟩|exact⟨_,rfl⟩
      ·simp only[go_sem,simprocAttr]
       first|exact⟨rfl,_,rfl⟩|exact⟨_,rfl⟩
    ·by_cases Cl:i+1<s.length
     ·have d1:decide (((i+1:Nat):Int)<(s.length:Int))=true:=by simp;omega
      have jQ:s[i+1]?=some s[i+1]:=by simp[Cl]
      have nZ:s.getD (i+1) 0=s[i+1]:=by simp[Cl]
      simp only[go_sem,simprocAttr,lO,bp i (by omega),d1,jQ];intro _;refine U (ve s[i+1] _) ?_;cases bG:eP s[i+1]
      ·rw[if_neg (by simp only[tick,nZ,bG];simp)]
       simp only[go_sem,simprocAttr,bG];cases fp:decide ((s[i].toNat:Int)=34)
       ·rw[if_neg (of_decide_eq_false fp)]
        simp only[go_sem,simprocAttr,fp];refine U (JM hs (Nat.le_of_lt hi) _) ?_;have hl:=ra (s.drop i) bE;unfold o9;generalize eQ (s.drop i) bE=g at hl;cases x7:decide (g=[])
        ·have ew:wr .i64 ((i:Int)+(g.length:Int))=((i+g.length:Nat):Int):=by
          have:=hl.1;simp at this;rw[fk (by omega) (by omega)];omega
         simp only[go_sem,simprocAttr,x7,ew];intro _;simp only[if_neg (of_decide_eq_false x7)];first|exact⟨rfl,_,rfl⟩|exact⟨_,rfl⟩
        ·simp only[go_sem,simprocAttr,x7]
         simp only[if_pos (of_decide_eq_true x7)];first|exact⟨rfl,_,rfl⟩|exact⟨_,rfl⟩
       ·rw[if_pos (of_decide_eq_true fp)]
        simp only[go_sem,simprocAttr,fp];refine U (Rb hs hi _) ?_;unfold q9;rcases hq:gn s (i+1) []with _|⟨t,e⟩
        ·simp only[go_sem,simprocAttr]
         first|exact⟨rfl,_,rfl⟩|exact⟨_,rfl⟩
        ·simp only[go_sem,simprocAttr]
         first|exact⟨rfl,_,rfl⟩|exact⟨_,rfl⟩
      ·rw[if_pos (by simp only[tick,nZ,bG];simp[lO,Cl])]
       simp only[go_sem,simprocAttr,bG];refine U (JL hs hi _) ?_;rcases hw:fi s i s[i]with⟨t,e⟩|c
       ·simp only[go_sem,simprocAttr,lU,Tok.cells]
        first|exact⟨rfl,_,rfl⟩|exact⟨_,rfl⟩
       ·simp only[go_sem,simprocAttr,lU]
        first|exact⟨rfl,_,rfl⟩|exact⟨_,rfl⟩
     ·have d1:decide (((i+1:Nat):Int)<(s.length:Int))=false:=by simp;omega
      rw[if_neg (by simp[tick,Cl])];simp only[go_sem,simprocAttr,lO,bp i (by omega),d1];intro _;cases fp:decide ((s[i].toNat:Int)=34)
      ·rw[if_neg (of_decide_eq_false fp)]
       simp only[go_sem,simprocAttr,fp];refine U (JM hs (Nat.le_of_lt hi) _) ?_;have hl:=ra (s.drop i) bE;unfold o9;generalize eQ (s.drop i) bE=g at hl;cases x7:decide (g=[])
       ·have ew:wr .i64 ((i:Int)+(g.length:Int))=((i+g.length:Nat):Int):=by
         have:=hl.1;simp at this;rw[fk (by omega) (by omega)];omega
        simp only[go_sem,simprocAttr,x7,ew];intro _;simp only[if_neg (of_decide_eq_false x7)];first|exact⟨rfl,_,rfl⟩|exact⟨_,rfl⟩
       ·simp only[go_sem,simprocAttr,x7]
        simp only[if_pos (of_decide_eq_true x7)];first|exact⟨rfl,_,rfl⟩|exact⟨_,rfl⟩
      ·rw[if_pos (of_decide_eq_true fp)]
       simp only[go_sem,simprocAttr,fp];refine U (Rb hs hi _) ?_;unfold q9;rcases hq:gn s (i+1) []with _|⟨t,e⟩
       ·simp only[go_sem,simprocAttr]
        first|exact⟨rfl,_,rfl⟩|exact⟨_,rfl⟩
       ·simp only[go_sem,simprocAttr]
        first|exact⟨rfl,_,rfl⟩|exact⟨_,rfl⟩
   ·simp only[go_sem,simprocAttr,kQ]
    rw[if_pos (by simp)];refine U (JL hs hi _) ?_;rcases hw:fi s i s[i]with⟨t,e⟩|c
    ·simp only[go_sem,simprocAttr,lU,Tok.cells]
     first|exact⟨rfl,_,rfl⟩|exact⟨_,rfl⟩
    ·simp only[go_sem,simprocAttr,lU]
     first|exact⟨rfl,_,rfl⟩|exact⟨_,rfl⟩
  ·simp only[go_sem,simprocAttr,HJ]
   rw[if_pos (by simp)];refine U (JL hs hi _) ?_;rcases hw:fi s i s[i]with⟨t,e⟩|c
   ·simp only[go_sem,simprocAttr,lU,Tok.cells]
    first|exact⟨rfl,_,rfl⟩|exact⟨_,rfl⟩
   ·simp only[go_sem,simprocAttr,lU]
    first|exact⟨rfl,_,rfl⟩|exact⟨_,rfl⟩
 ·rw[if_pos rfl]
  simp only[go_sem,simprocAttr,hd];refine U (agr hs hi hd (hg.ext _)) ?_;rcases hw:sJ s i s[i]with⟨t,e⟩|c
  ·simp only[go_sem,simprocAttr,lU,Tok.cells]
   first|exact⟨rfl,_,rfl⟩|exact⟨_,rfl⟩
  ·simp only[go_sem,simprocAttr,lU]
   first|exact⟨rfl,_,rfl⟩|exact⟨_,rfl⟩
theorem JP {s:List UInt8} {i:Nat} {c:UInt8} {e:Int} (h:jY s i c=.inr e):decide (e=0)=false:=by
 refine decide_eq_false ?_;rintro rfl;unfold jY at h;split at h
 ·simp only[sJ]at h;split at h<;>simp at h
 split at h
 ·unfold fi at h
  generalize (if(c.toNat:Int)=39 then i+1 else i)=f at h;unfold jG at h;split at h<;>simp at h
 split at h
 ·simp only[q9]at h;split at h<;>simp at h
 ·simp only[o9]at h;split at h<;>simp at h
def ll (l:List Tok):List (List AV):=l.map fun t=>t.cells.map .p
theorem eW (l):(ll l).length=l.length:=by simp[ll]
theorem wO (l t):ll (l++[t])=ll l++[t.cells.map .p]:=by simp[ll]
theorem dx {n id ver sz:Nat} {H:List AO} {ys:List (List PV)} (hn:n<=id) (h:H[id]?=some (.rows sz ver (ys.map fun y=>y.map .p))) (hs:∀y∈ys,y.length=sz):cG n H (.gs id ver 0 ys.length) (.p (.l ys)):=by
 refine .gs id ver 0 ys.length sz _ ys hn h (by simp) rfl hs ?_;intro i r y j c q hr hy hc hq;rw[Nat.zero_add,List.getElem?_map,hy]at hr;cases hr;rw[List.getElem?_map,hq]at hc;cases hc;exact .p _
theorem JQ {n id ver:Nat} {H:List AO} {l:List Tok} (hn:n<=id) (h:H[id]?=some (.rows 4 ver (ll l))):cG n H (.gs id ver 0 l.length) (.p (.l (l.map Tok.cells))):=by
 have:=dx (ys:=l.map Tok.cells) hn (by rw[List.map_map];exact h) (by intro y hy;obtain⟨t,_,rfl⟩:=List.mem_map.1 hy;rfl);rwa[List.length_map]at this
abbrev XB (c p:Int):AV:=.st [.p (.i .i64 c),.p (.i .i64 p)]
def Rf:List Tok⊕(Int×Nat)->AV
 | .inl l=>.dX [.p (.l (l.map Tok.cells)),XB 0 0]
 | .inr (c,i)=>.dX [.p (.l []),XB c i]
theorem JR (c p):Tf (XB c p):=Ji _ (by intro q hq;simp at hq;rcases hq with rfl|rfl<;>exact bw _)
theorem zx {n:Nat} {H:List AO} {a b c:AV} (h:cG n H a b) (hc:Tf c):cG n H (.dX [a,c]) (.dX [b,c]):=by
 refine .dX _ _ rfl fun j x y hx hy=>?_
 match j with
 |0=>cases hx;cases hy;exact h
 |1=>cases hx;cases hy;exact .tf _ hc
 |j+2=>simp at hx
structure JS (H0:List AO) (out:List Tok) (a:AV) (H:List AO):Prop where
 fr:∀(j:Nat) o,H0[j]?=some o->H[j]?=some o
 z5:H[H0.length]?=some (.var [.p (.i .i64 0),.p (.i .i64 0)])
 out:jr H a 4 (ll out)
 new:∀id v o m,a=.gs id v o m->H0.length<id
theorem JS.ext {H0 out a H} (h:JS H0 out a H) (A:List AO):JS H0 out a (H++A):=
 ⟨fun j o hj=>ay (h.fr j o hj) A,ay h.z5 A,h.out.ext,h.new⟩
theorem NY {K:St->Prop} {st:St} {d:MD} {H:List AO} {a:AV} {sz:Nat} {rs:List (List AV)} (h:jr H a sz rs) (k:K (st.put d (.p (.i .i64 rs.length)))):vI false a d K st:=by
 rcases h with⟨rfl,rfl⟩|⟨id,ver,rfl,_⟩
 ·exact k
 ·exact fun _=>k
theorem JS.app {H0 out a H} (h:JS H0 out a H) {t:Tok} {id ver:Nat} {H4:List AO} (k1:H4[id]?=some (.rows 4 ver (ll out++[t.cells.map .p]))) (k2:(∃v o n,a=.gs id v o n)\/H.length<=id) (k3:∀(j:Nat) o,H[j]?=some o->(∀v o' n,a≠.gs j v o' n)->H4[j]?=some o):JS H0 (out++[t]) (.gs id ver 0 (out.length+1)) H4:=by
 refine⟨?_,?_,?_,?_⟩
 ·intro j o hj
  refine k3 j o (h.fr j o hj) (fun v o' n' e=>?_);have:=h.new _ _ _ _ e;have:=bj hj;omega
 ·refine k3 _ _ h.z5 (fun v o' n' e=>?_)
  have:=h.new _ _ _ _ e;omega
 ·exact .inr ⟨id,ver,by simp[eW],by rw[wO];exact k1⟩
 ·intro jm v o m' e
  cases e;rcases k2 with⟨v,o,n',e⟩|h2
  ·exact h.new _ _ _ _ e
  ·have:=bj h.z5;omega
theorem Rh {s:List UInt8} {most:Nat} {H0:List AO} (hs:s.length<=1099511627776) (hm:most<=2199023255552) (hg:Rg H0):
  aA Tryz.prog 19 [.p (.s s),.p (.i .i64 most)] H0 (aW (Rf (eB s most 0 [])) H0):=by
 refine Hi ?_;generalize hR:eB s most 0 []=R;refine call19 (by simp) ?_;simp only[go_sem,simprocAttr,QH,aaE];refine⟨Nat×List Tok×AV×List AO,[0,1,5,6,7],fun x st=>(x.1<=s.length/\x.2.1.length<=x.1/\eB s most x.1 x.2.1=R/\JS H0 x.2.1 x.2.2.1 x.2.2.2)/\st=⟨[(0,.p (.s s)),(1,.p (.i .i64 most)),(5,.ptr H0.length 0),(6,x.2.2.1),(7,.p (.i .i64 x.1))],[],x.2.2.2⟩,fun x=>s.length-x.1,⟨(0,[],.p .nl,H0++[.var [.p (.i .i64 0),.p (.i .i64 0)]]),?_⟩,?_⟩
 ·simp only[go_sem,simprocAttr]
  exact⟨Nat.zero_le _,hR,⟨fun j o hj=>ay hj _,by rw[gq];rfl,.inl ⟨rfl,rfl⟩,fun _ _ _ _ e=>by cases e⟩⟩
 ·rintro⟨i,out,a,H⟩ _ ⟨⟨h1,h2,h3,hI⟩,rfl⟩
  simp only at h1 h2 h3 hI⊢;by_cases aj:i<s.length
  ·have d1:decide ((i:Int)<(s.length:Int))=true:=by simp;omega
   have jQ:s[i]?=some s[i]:=by simp[aj]
   have ew:=bp i (by omega);cases b1:decide ((s[i].toNat:Int)=32);rotate_left
   ·have hb:Pg.blank s[i]=true:=by simp[Pg.blank,b1]
    rw[kC aj hb]at h3;simp only[go_sem,simprocAttr,d1,jQ,b1,ew];intro _;exact⟨(i+1,out,a,H),⟨⟨by simp only;omega,by simp only;omega,h3,hI⟩,rfl⟩,by simp only;omega⟩
   cases b2:decide ((s[i].toNat:Int)=9);rotate_left
   ·have hb:Pg.blank s[i]=true:=by simp[Pg.blank,b2]
    rw[kC aj hb]at h3;simp only[go_sem,simprocAttr,d1,jQ,b1,b2,ew];intro _;exact⟨(i+1,out,a,H),⟨⟨by simp only;omega,by simp only;omega,h3,hI⟩,rfl⟩,by simp only;omega⟩
   cases b3:decide ((s[i].toNat:Int)=10);rotate_left
   ·have hb:Pg.blank s[i]=true:=by simp[Pg.blank,b3]
    rw[kC aj hb]at h3;simp only[go_sem,simprocAttr,d1,jQ,b1,b2,b3,ew];intro _;exact⟨(i+1,out,a,H),⟨⟨by simp only;omega,by simp only;omega,h3,hI⟩,rfl⟩,by simp only;omega⟩
   have hb:Pg.blank s[i]=false:=by simp[Pg.blank,b1,b2,b3]
   cases b4:decide ((s[i].toNat:Int)=35);rotate_left
   ·have hc:=of_decide_eq_true b4
    have cJ:=tU aj hc;have hle:=lA kI (s:=s) (i:=i) (by omega);rw[tV aj hb hc]at h3;simp only[go_sem,simprocAttr,d1,jQ,b1,b2,b3,b4];intro _;refine U (Ew nlC hs (by omega) _) ?_;simp only[go_sem,simprocAttr];exact⟨(bz kI s i,out,a,H),⟨⟨by simp only;omega,by simp only;omega,h3,hI⟩,rfl⟩,by simp only;omega⟩
   have hc:=of_decide_eq_false b4;simp only[go_sem,simprocAttr,d1,jQ,b1,b2,b3,b4];intro _;refine U (ags hs aj (hg.gf hI.fr)) ?_;rcases ht:jY s i s[i]with⟨t,e⟩|c
   ·obtain⟨g1,g2,_⟩:=xP aj ht
    simp only[go_sem,simprocAttr,lU,Tok.cells];have NZ:=hI.ext [.var [.p (.i .i64 t.k),.p (.s t.t),.p (.i .i64 t.n),.p (.i .i64 t.p)],.var [.p (.i .i64 0),.p (.i .i64 0)]];refine NY NZ.out ?_;rw[eW];by_cases Df:out.length=most
    ·have d2:decide ((out.length:Int)=(most:Int))=true:=by simp;omega
     rw[tW aj hb hc ht Df]at h3;have z5:=NZ.z5;have fr:=NZ.fr;generalize H++[.var [.p (.i .i64 t.k),.p (.s t.t),.p (.i .i64 t.n),.p (.i .i64 t.p)],.var [.p (.i .i64 0),.p (.i .i64 0)]]=H2 at z5 fr⊢;have hz:∀o,(H2.set H0.length o)[H0.length]?=some o:=fun o=>bg z5
     simp only[go_sem,simprocAttr,d2,z5,hz];obtain⟨G,hG⟩:=iK (H:=H0) (H':=H2.set H0.length (.var [.p (.i .i64 5),.p (.i .i64 i)])) fun j o hj=>aU (fr j o hj) (by have:=bj hj;omega)
     rw[<-h3];exact⟨G,hG,zx .nl (JR _ _)⟩
    ·have d2:decide ((out.length:Int)=(most:Int))=false:=by simp;omega
     rw[rU aj hb hc ht Df]at h3;simp only[go_sem,simprocAttr,d2];refine⟨by intro r hr;simp at hr;subst hr;rfl,?_⟩;refine fq (rs:=ll out) (ys:=[t.cells.map .p]) (hI.ext _).out (by rw[eW];simp;omega) (by rw[eW];simp;omega) ?_;intro id ver H4 k1 k2 k3 k4;rw[eW];simp only[go_sem,simprocAttr];exact⟨(e,out++[t],.gs id ver 0 (out.length+1),H4),⟨⟨by simp only;omega,by simp;omega,h3,(hI.ext _).app k1 k2 k3⟩,rfl⟩,by simp only;omega⟩
   ·have AT:=JP ht
    rw[wB aj hb hc ht]at h3;have NZ:=hI.ext [.var [.p (.i .i64 0),.p (.s []),.p (.i .i64 0),.p (.i .i64 0)],.var [.p (.i .i64 c),.p (.i .i64 i)]];simp only[go_sem,simprocAttr,lU,AT];have z5:=NZ.z5;have fr:=NZ.fr;have zc:(H++[.var [.p (.i .i64 0),.p (.s []),.p (.i .i64 0),.p (.i .i64 0)],.var [.p (.i .i64 c),.p (.i .i64 i)]])[H.length+1]?=some (.var [.p (.i .i64 c),.p (.i .i64 i)]):=by rw[fU];rfl
    generalize H++[.var [.p (.i .i64 0),.p (.s []),.p (.i .i64 0),.p (.i .i64 0)],.var [.p (.i .i64 c),.p (.i .i64 i)]]=H2 at z5 fr zc⊢;generalize H.length+1=b at zc⊢;have hz:∀o,(H2.set H0.length o)[H0.length]?=some o:=fun o=>bg z5
    refine ao ?_;simp only[go_sem,simprocAttr,zc,z5,hz];obtain⟨G,hG⟩:=iK (H:=H0) (H':=H2.set H0.length (.var [.p (.i .i64 c),.p (.i .i64 i)])) fun j o hj=>aU (fr j o hj) (by have:=bj hj;omega)
    rw[<-h3];exact⟨G,hG,zx .nl (JR _ _)⟩
  ·have d1:decide ((i:Int)<(s.length:Int))=false:=by simp;omega
   rw[pb aj]at h3;simp only[go_sem,simprocAttr,d1];intro _ _;refine⟨by intro r hr;simp at hr;subst hr;rfl,?_⟩;refine fq (rs:=ll out) (ys:=[Tok.cells ⟨8,[],0,s.length⟩|>.map .p]) (hI.ext _).out (by rw[eW];simp;omega) (by rw[eW];simp;omega) ?_;intro id ver H4 k1 k2 k3 k4;rw[eW];have hJ:=(hI.ext _).app k1 k2 k3;have z5:=hJ.z5;have hz:∀o,(H4.set H0.length o)[H0.length]?=some o:=fun o=>bg z5
   simp only[go_sem,simprocAttr,z5,hz];obtain⟨G,hG⟩:=iK (H:=H0) (H':=H4.set H0.length (.var [.p (.i .i64 0),.p (.i .i64 0)])) fun j o hj=>aU (hJ.fr j o hj) (by have:=bj hj;omega)
   rw[<-h3];refine⟨G,hG,zx ?_ (JR _ _)⟩;have hn:=hJ.new _ _ _ _ rfl;have:=JQ (n:=H0.length) (l:=out++[⟨8,[],0,s.length⟩]) (Nat.le_of_lt hn) (H:=H4.set H0.length (.var [.p (.i .i64 0),.p (.i .i64 0)])) (id:=id) (ver:=ver) (aU (by rw[wO];exact k1) (by omega));simpa using this
def FC (f:Nat) (q:UInt8->Bool):Prop:=∀(c:UInt8) (H:List AO),aA Tryz.prog f [.p (.i .i64 (c.toNat:Int))] H (aW (.p (.b (q c))) H)
theorem HK (n lo hi:Int) (H:List AO):aA Tryz.prog 71 [.p (.i .i64 n),.p (.i .i64 lo),.p (.i .i64 hi)] H (aW (.p (.b (decide (lo<=n)&&decide (n<=hi)))) H):=by
 refine call71 (by simp) ?_;simp only[go_sem,simprocAttr,QT,aaO];cases h:decide (lo<=n)
 ·simp only[go_sem,simprocAttr,h]
  exact⟨by simp,rfl⟩
 ·simp only[go_sem,simprocAttr,h]
  exact⟨by simp,rfl⟩
theorem Bb:FC 31 eP:=by
 intro c H;refine call31 (by simp) ?_;simp only[go_sem,simprocAttr,QK,aaH];refine U (HK _ _ _ H) ?_;simp only[go_sem,simprocAttr];exact⟨rfl,rfl⟩
theorem x8:FC 32 fG:=by
 intro c H;refine call32 (by simp) ?_;simp only[go_sem,simprocAttr,QM,aaI];refine U (HK _ _ _ H) ?_;simp only[go_sem,simprocAttr];exact⟨rfl,rfl⟩
theorem JT:FC 29 eH:=by
 intro c H;refine call29 (by simp) ?_;simp only[go_sem,simprocAttr,QI,aaF];refine U (HK _ _ _ H) ?_;simp only[go_sem,simprocAttr];exact⟨rfl,rfl⟩
theorem FD:FC 72 cx:=by
 intro c H;refine call72 (by simp) ?_;simp only[go_sem,simprocAttr,QU,aaP];refine U (Bb c H) ?_;cases h1:eP c
 ·simp only[go_sem,simprocAttr,h1]
  refine U (x8 c H) ?_;cases h2:fG c
  ·simp only[go_sem,simprocAttr,h2]
   refine U (JT c H) ?_;cases h3:eH c
   ·simp only[go_sem,simprocAttr,h3]
    exact⟨by simp[cx,h1,h2,h3],rfl⟩
   ·simp only[go_sem,simprocAttr,h3]
    exact⟨by simp[cx,h1,h2,h3],rfl⟩
  ·simp only[go_sem,simprocAttr,h2]
   exact⟨by simp[cx,h1,h2],rfl⟩
 ·simp only[go_sem,simprocAttr,h1]
  exact⟨by simp[cx,h1],rfl⟩
theorem JU (t:List UInt8) (H:List AO):aA Tryz.prog 73 [.p (.s t)] H (aW (.p (.b (isKey t))) H):=by
 refine aD ?_ (bw _);refine call73 (by simp) ?_;simp only[go_sem,simprocAttr,QV,aaQ];refine⟨Nat,[0,2,3,4],fun x st=>(x<=19/\t∉keys.take x)/\st=⟨[(0,.p (.s t)),(2,.p (.b false)),(3,.gs H.length 0 0 19),(4,.p (.i .i64 x))],[],H++[.rows 1 0 (gw keys)]⟩,fun x=>19-x,⟨0,?_⟩,?_⟩
 ·simp only[go_sem,simprocAttr]
  exact⟨by simp,rfl⟩
 ·rintro x _ ⟨⟨hx,hn⟩,rfl⟩
  have hlen:keys.length=19:=rfl;by_cases aj:x<19
  ·have bC:x<keys.length:=aj
   have d1:decide ((x:Int)<19)=true:=by simp;omega
   simp only[go_sem,simprocAttr,d1,j9 bC];intro _;by_cases ht:keys[x]=t
   ·have d2:decide (keys[x]=t)=true:=by simp[ht]
    simp only[go_sem,simprocAttr,d2];refine⟨by omega,?_,_,rfl⟩;have:isKey t=true:=by unfold isKey;exact decide_eq_true (by rw[<-ht];exact List.getElem_mem bC)
    rw[this]
   ·have d2:decide (keys[x]=t)=false:=by simp[ht]
    simp only[go_sem,simprocAttr,d2,bp x (by omega)];refine⟨by omega,x+1,⟨⟨by omega,?_⟩,rfl⟩,by omega⟩;rw[List.take_succ_eq_append_getElem bC];simp only[List.mem_append,List.mem_singleton,not_or];exact⟨hn,fun h=>ht h.symm⟩
  ·have d1:decide ((x:Int)<19)=false:=by simp;omega
   simp only[go_sem,simprocAttr,d1];intro _;refine⟨?_,_,rfl⟩;rw[List.take_of_length_le (by omega)]at hn;have:isKey t=false:=by unfold isKey;exact decide_eq_false hn
   rw[this]
def dL (s:List UInt8) (i:Nat):Nat:=
 if h:i<s.length then
  if Pg.blank s[i]then dL s (i+1)
  else if(s[i].toNat:Int)=35 then(if i<bz kI s i then dL s (bz kI s i)else i)else i
 else i
termination_by s.length-i
theorem Ez {s:List UInt8} {most:Nat} {out:List Tok}:∀(n i:Nat),s.length-i≤n→i≤s.length→eB s most i out=eB s most (dL s i) out∧i≤dL s i∧dL s i≤s.length∧∀(h:dL s i<s.length),Pg.blank s[dL s i]=false ∧¬(s[dL s i].toNat:Int)=35:=by
  intro n
  induction n with
  |zero=>
   intro i hn hi;rw[dL,dif_neg (by omega)]
   exact⟨rfl,Nat.le_refl _,hi,fun h=>by omega⟩
  |succ n ih=>
   intro i hn hi;by_cases h:i<s.length
   · cases hb:Pg.blank s[i]with
     |true =>
      obtain⟨h1,h2,h3,h4⟩:=ih (i+1) (by omega) (by omega);have e:dL s i=dL s (i+1):=by rw[dL,dif_pos h,if_pos hb]
      rw[kC h hb,e]
      exact⟨h1,by omega,h3,h4⟩
     |false =>
      by_cases hc:(s[i].toNat:Int)=35
      · have hg:=tU h hc
        have hle:=lA kI (s:=s) (i:=i) (by omega);obtain⟨h1,h2,h3,h4⟩:=ih (bz kI s i) (by omega) hle;have e:dL s i=dL s (bz kI s i):=by rw[dL,dif_pos h,if_neg (by simp[hb]),if_pos hc,if_pos hg]
        rw[tV h hb hc,e];exact⟨h1,by omega,h3,h4⟩
      · have e:dL s i=i:=by rw[dL,dif_pos h,if_neg (by simp[hb]),if_neg hc]
        rw[e];exact⟨rfl,Nat.le_refl _,hi,fun _ =>⟨hb,hc⟩⟩
   · rw[dL,dif_neg h]
     exact⟨rfl,Nat.le_refl _,hi,fun h'=>(h h').elim⟩
theorem Ri {s:List UInt8} (hs:s.length<=1099511627776) {i:Nat} (hi:i<=s.length) (H:List AO):aA Tryz.prog 12 [.p (.s s),.p (.i .i64 i)] H (aW (.p (.i .i64 (dL s i:Nat))) H):=by
 refine call12 (by simp) ?_;simp only[go_sem,simprocAttr,QF,aaC];refine⟨Nat,[0,1,4],fun x st=>(i<=x/\x<=s.length/\dL s x=dL s i)/\st=⟨[(0,.p (.s s)),(1,.p (.i .i64 x)),(4,.p (.i .i64 0))],[],H⟩,fun x=>s.length-x,⟨i,?_⟩,?_⟩
 ·simp only[go_sem,simprocAttr]
  exact⟨Nat.le_refl _,hi⟩
 ·rintro x _ ⟨⟨h1,h2,h3⟩,rfl⟩
  by_cases aj:x<s.length
  ·have d1:decide ((x:Int)<(s.length:Int))=true:=by simp;omega
   have hg:s[x]?=some s[x]:=by simp[aj]
   have ew:=bp x (by omega);have step:Pg.blank s[x]=true->dL s (x+1)=dL s i:=fun hb=>by rw[<-h3];conv=>rhs;rw[dL,dif_pos aj,if_pos hb]
   cases b1:decide ((s[x].toNat:Int)=32);rotate_left
   ·simp only[go_sem,simprocAttr,d1,hg,b1,ew]
    intro _;exact⟨x+1,⟨⟨by omega,by omega,step (by simp[Pg.blank,b1])⟩,rfl⟩,by omega⟩
   cases b2:decide ((s[x].toNat:Int)=9);rotate_left
   ·simp only[go_sem,simprocAttr,d1,hg,b1,b2,ew]
    intro _;exact⟨x+1,⟨⟨by omega,by omega,step (by simp[Pg.blank,b2])⟩,rfl⟩,by omega⟩
   cases b3:decide ((s[x].toNat:Int)=10);rotate_left
   ·simp only[go_sem,simprocAttr,d1,hg,b1,b2,b3,ew]
    intro _;exact⟨x+1,⟨⟨by omega,by omega,step (by simp[Pg.blank,b3])⟩,rfl⟩,by omega⟩
   have hb:Pg.blank s[x]=false:=by simp[Pg.blank,b1,b2,b3]
   cases b4:decide ((s[x].toNat:Int)=35);rotate_left
   ·have hc:=of_decide_eq_true b4
    have cJ:=tU aj hc;have hle:=lA kI (s:=s) (i:=x) (by omega);have e:dL s x=dL s (bz kI s x):=by rw[dL,dif_pos aj,if_neg (by simp[hb]),if_pos hc,if_pos cJ]
    simp only[go_sem,simprocAttr,d1,hg,b1,b2,b3,b4];intro _;refine⟨Nat,[0,1,4],fun y st=>(x<=y/\y<=s.length/\bz kI s y=bz kI s x)/\st=⟨[(0,.p (.s s)),(1,.p (.i .i64 y)),(4,.p (.i .i64 0))],[],H⟩,fun y=>s.length-y,⟨x,?_⟩,?_⟩
    ·simp only[go_sem,simprocAttr]
     exact⟨Nat.le_refl _,h2⟩
    ·rintro y _ ⟨⟨k1,k2,k3⟩,rfl⟩
     by_cases hy:y<s.length
     ·have d2:decide ((y:Int)<(s.length:Int))=true:=by simp;omega
      have Rj:s[y]?=some s[y]:=by simp[hy]
      cases b5:decide ((s[y].toNat:Int)=10)
      ·simp only[go_sem,simprocAttr,d2,Rj,b5,bp y (by omega)]
       intro _;exact⟨y+1,⟨⟨by omega,by omega,by rw[<-k3,kW hy (by simp[kI,b5])]⟩,rfl⟩,by omega⟩
      ·have ey:y=bz kI s x:=by rw[<-k3,tR hy (by simp[kI,b5])]
       simp only[go_sem,simprocAttr,d2,Rj,b5];intro _;exact⟨y,⟨⟨by omega,by omega,by rw[ey,<-e,h3]⟩,rfl⟩,by omega⟩
     ·have d2:decide ((y:Int)<(s.length:Int))=false:=by simp;omega
      have ey:y=bz kI s x:=by rw[<-k3,tS _ (by omega)]
      simp only[go_sem,simprocAttr,d2];intro _;exact⟨y,⟨⟨by omega,by omega,by rw[ey,<-e,h3]⟩,rfl⟩,by omega⟩
   ·have hc:=of_decide_eq_false b4
    have e:dL s x=x:=by rw[dL,dif_pos aj,if_neg (by simp[hb]),if_neg hc]
    simp only[go_sem,simprocAttr,d1,hg,b1,b2,b3,b4];intro _;refine⟨?_,rfl⟩;rw[<-h3,e]
  ·have d1:decide ((x:Int)<(s.length:Int))=false:=by simp;omega
   simp only[go_sem,simprocAttr,d1];intro _;refine⟨?_,rfl⟩;rw[<-h3,dL,dif_neg aj]
def iz (x:(Tok×Nat)⊕Int) (e':Int):AV:=
 match x with
 | .inl (t,e)=>.dX [tv t,.p (.i .i64 (e:Int)),.p (.i .i64 0)]
 | .inr c=>.dX [.st [.p (.i .i64 0),.p (.s []),.p (.i .i64 0),.p (.i .i64 0)],.p (.i .i64 e'),.p (.i .i64 c)]
def MG (f:Nat) (s:List UInt8) (i:Nat) (x:(Tok×Nat)⊕Int):Prop:=∀H,aA Tryz.prog f [.p (.s s),.p (.i .i64 (i:Int))] H (fun r H'=>(∃e',r=iz x e')/\∃G,H'=H++G)
theorem rm:∀(l:List UInt8) (c:UInt8) (n:Nat),fo (l++[c]) n=fo l n*10+(c.toNat-48)
 |[],c,n=>rfl
 |a::l,c,n=>by rw[List.cons_append,fo,fo,rm l c]
theorem N0 {s:List UInt8} {i x:Nat} (h:i<=x) (hx:x<s.length):(s.drop i).take (x+1-i)=(s.drop i).take (x-i)++[s[x]]:=by
 have hl:x-i<(s.drop i).length:=by simp;omega
 rw[show x+1-i=(x-i)+1 by omega,List.take_succ_eq_append_getElem hl];congr 2;rw[List.getElem_drop];congr 1;omega
theorem agt {c:UInt8} (hc:eH c=true):wr .u8 ((c.toNat:Int)-48)=((c.toNat-48:Nat):Int):=by
 have:=vf.1 hc;simp[wr,IntKind.wrap,IntKind.bits,IntKind.signed];omega
theorem agu {d:Nat} (hd:d<=9):wr .i64 ((wr .i64 (9223372036854775807-wr .i64 (d:Int))).tdiv 10)=(((9223372036854775807-d)/10:Nat):Int):=by
 rw[fk (n:=(d:Int)) (by omega) (by omega),show(9223372036854775807-(d:Int))=((9223372036854775807-d:Nat):Int)by omega,fk (n:=((9223372036854775807-d:Nat):Int)) (by omega) (by omega),show(10:Int)=((10:Nat):Int)from rfl,<-Int.ofNat_tdiv,fk (by omega) (by omega)]
theorem Rk {s:List UInt8} (hs:s.length≤1099511627776) {i:Nat} (hi:i<s.length):MG 30 s i (sJ s i s[i]):=by
  intro H;have sW:s[i]?=some s[i]:=by simp[hi]
  refine call30 (by simp) ?_;simp only[go_sem,simprocAttr,QJ,aaG];refine⟨Nat×Nat×Bool,[0,1,4,5,6,7,8,9],fun x st=>(i≤x.1∧x.1≤s.length∧bz eH s x.1=bz eH s i∧x.2.1≤gT∧(x.2.2=false →x.2.1=fo ((s.drop i).take (x.1-i)) 0)∧(x.2.2=true →gT<fo ((s.drop i).take (x.1-i)) 0))∧st=⟨[(0, .p (.s s)),(1, .p (.i .i64 i)),(4, .ptr H.length 0),(5, .p (.i .i64 0)),(6, .p (.i .i64 0)),(7, .p (.i .i64 x.1)),(8, .p (.i .i64 x.2.1)),(9, .p (.b x.2.2))],[],H++[.var [.p (.i .i64 0), .p (.s []), .p (.i .i64 0), .p (.i .i64 0)]]⟩,fun x=>s.length-x.1,⟨(i,0,false), ?_⟩, ?_⟩
  · simp only[go_sem,simprocAttr]
    exact⟨Nat.le_refl _,Nat.le_of_lt hi,Nat.zero_le _,fun _ =>by simp[fo],fun h=>h.elim⟩
  · rintro⟨x,n,bad⟩ _ ⟨⟨h1,h2,h3,h4,h5,h6⟩,rfl⟩
    simp only at h1 h2 h3 h4 h5 h6⊢;unfold gT at h4;by_cases aj:x<s.length
    · have d1:decide ((x:Int)<(s.length:Int))=true :=by simp;omega
      have hg:s[x]?=some s[x]:=by simp[aj]
      simp only[go_sem,simprocAttr,d1,hg,zu];intro _;refine U (JT s[x] _) ?_;cases hd:eH s[x]
      · have ex:x=bz eH s i:=by rw[←h3,tR aj hd]
        simp only[go_sem,simprocAttr,hd];unfold sJ;rw[←ex]
        cases bad with
        |true =>
         have hv:=h6 rfl;simp only[go_sem,simprocAttr,];simp only[if_pos (Or.inl hv:gT<_ ∨_)]
         exact⟨⟨(x:Int),rfl⟩,_,rfl⟩
        |false =>
         have hv:=h5 rfl;cases sQ:decide ((s[i].toNat:Int)=48)
         · simp only[go_sem,simprocAttr,sW,sQ]
           have vx:¬(gT<fo ((s.drop i).take (x-i)) 0∨(1<x-i∧(s[i].toNat:Int)=48)):=by
             rintro(h|⟨_,h⟩)
             · unfold gT at h;omega
             · exact of_decide_eq_false sQ h
           simp only[if_neg vx];simp only[←hv];exact⟨⟨0,rfl⟩,_,rfl⟩
         · by_cases h1x:i+1<x
           · have d5:decide (((i+1:Nat):Int)<(x:Int))=true :=by simp;omega
             simp only[go_sem,simprocAttr,sW,sQ,bp i (by omega),d5];simp only[if_pos (Or.inr ⟨by omega,of_decide_eq_true sQ⟩:gT<_ ∨(1<x-i∧(s[i].toNat:Int)=48))];exact⟨⟨(x:Int),rfl⟩,_,rfl⟩
           · have d5:decide (((i+1:Nat):Int)<(x:Int))=false :=by simp;omega
             simp only[go_sem,simprocAttr,sW,sQ,bp i (by omega),d5]
             have vx:¬(gT<fo ((s.drop i).take (x-i)) 0∨(1<x-i∧(s[i].toNat:Int)=48)):=by
               rintro(h|⟨h,_⟩)
               · unfold gT at h;omega
               · omega
             simp only[if_neg vx];simp only[←hv];exact⟨⟨0,rfl⟩,_,rfl⟩
      · have hf:=vf.1 hd
        have hw:=agt hd;have hq:=agu (d:=s[x].toNat-48) (by omega);have Mq:=N0 h1 aj;have dz:bz eH s (x+1)=bz eH s i:=by rw[←h3,kW aj hd]
        have gH:=rm ((s.drop i).take (x-i)) s[x] 0;rw[←Mq]at gH;by_cases aim:(9223372036854775807-(s[x].toNat-48))/10<n
        · have d2:decide ((((9223372036854775807-(s[x].toNat-48))/10:Nat):Int)<(n:Int))=true :=by simp;omega
          simp only[go_sem,simprocAttr,hd,hg,hw,hq,d2,bp x (by omega)];refine⟨(x+1,n,true),⟨⟨by simp only;omega,by simp only;omega,dz,h4,(fun h=>by cases h),fun _ => ?_⟩,rfl⟩,by simp only;omega⟩;show gT<fo ((s.drop i).take (x+1-i)) 0;rw[gH];unfold gT
          cases bad with
          |true =>have :=h6 rfl;unfold gT at this;omega
          |false =>have :=h5 rfl;omega
        · have d2:decide ((((9223372036854775807-(s[x].toNat-48))/10:Nat):Int)<(n:Int))=false :=by simp;omega
          have e1:wr .i64 ((n:Int)*10)=((n*10:Nat):Int):=by rw[fk (by omega) (by omega)];omega
          have e2:wr .i64 (((n*10:Nat):Int)+wr .i64 ((s[x].toNat-48:Nat):Int))=((n*10+(s[x].toNat-48):Nat):Int):=by
            rw[fk (n:=((s[x].toNat-48:Nat):Int)) (by omega) (by omega),fk (by omega) (by omega)];omega
          simp only[go_sem,simprocAttr,hd,hg,hw,hq,d2,e1,e2,bp x (by omega)];refine⟨(x+1,n*10+(s[x].toNat-48),bad),⟨⟨by simp only;omega,by simp only;omega,dz,by unfold gT;simp only;omega,fun h=> ?_,fun h=> ?_⟩,rfl⟩,by simp only;omega⟩
          · show n*10+(s[x].toNat-48)=fo ((s.drop i).take (x+1-i)) 0
            rw[gH,h5 h]
          · show gT<fo ((s.drop i).take (x+1-i)) 0
            rw[gH];have :=h6 h;omega
    · have d1:decide ((x:Int)<(s.length:Int))=false :=by simp;omega
      have ex:x=bz eH s i:=by rw[←h3,tS _ (by omega)]
      simp only[go_sem,simprocAttr,d1];intro _;unfold sJ;rw[←ex]
      cases bad with
      |true =>
       have hv:=h6 rfl;simp only[go_sem,simprocAttr,];simp only[if_pos (Or.inl hv:gT<_ ∨_)]
       exact⟨⟨(x:Int),rfl⟩,_,rfl⟩
      |false =>
       have hv:=h5 rfl;cases sQ:decide ((s[i].toNat:Int)=48)
       · simp only[go_sem,simprocAttr,sW,sQ]
         have vx:¬(gT<fo ((s.drop i).take (x-i)) 0∨(1<x-i∧(s[i].toNat:Int)=48)):=by
           rintro(h|⟨_,h⟩)
           · unfold gT at h;omega
           · exact of_decide_eq_false sQ h
         simp only[if_neg vx];simp only[←hv];exact⟨⟨0,rfl⟩,_,rfl⟩
       · by_cases h1x:i+1<x
         · have d5:decide (((i+1:Nat):Int)<(x:Int))=true :=by simp;omega
           simp only[go_sem,simprocAttr,sW,sQ,bp i (by omega),d5];simp only[if_pos (Or.inr ⟨by omega,of_decide_eq_true sQ⟩:gT<_ ∨(1<x-i∧(s[i].toNat:Int)=48))];exact⟨⟨(x:Int),rfl⟩,_,rfl⟩
         · have d5:decide (((i+1:Nat):Int)<(x:Int))=false :=by simp;omega
           simp only[go_sem,simprocAttr,sW,sQ,bp i (by omega),d5]
           have vx:¬(gT<fo ((s.drop i).take (x-i)) 0∨(1<x-i∧(s[i].toNat:Int)=48)):=by
             rintro(h|⟨h,_⟩)
             · unfold gT at h;omega
             · omega
           simp only[if_neg vx];simp only[←hv];exact⟨⟨0,rfl⟩,_,rfl⟩
end Go.Proofs.YtjkbbnfdbfcebaaGreatDoor.Qp