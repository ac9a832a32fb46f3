/- Texts PgA QaA QaB QaC QaD QaE QaF QaG QbA QbD QbE QbF QbG QbH QbI QbJ, merged. -/
import Derived.Test.YteilijfligofdaaGreatDoorAm40
import Derived.Test.YteilijfligofdaaGreatDoorChecked
import Derived.KernelRfl
import Derived.Shelf.LaysC
import Derived.Shelf.Strconv.AtoiAll
set_option linter.all false
namespace Go.Proofs.YteilijfligofdaaGreatDoor.Pg
open Go.AM
inductive TyE where
 | mk (kind:Int) (name:List UInt8) (pos:Int) (kids:List TyE)
inductive PatD where
 | mk (kind:Int) (name:List UInt8) (num pos:Int) (kids:List PatD)
mutual
inductive ExpD where
 | mk (kind:Int) (name:List UInt8) (num:Int) (text:List UInt8) (pos:Int) (kids:List ExpD) (arms:List ArmD)
inductive ArmD where
 | mk (pat:PatD) (exp:ExpD)
end
mutual
def PatD.cells:PatD->List PV
 | .mk k n u p ks=>[.i .i64 k,.s n,.i .i64 u,.i .i64 p,.l (PatD.cellsL ks)]
def PatD.cellsL:List PatD->List (List PV)
 | []=>[]
 | t :: l=>t.cells :: PatD.cellsL l
end
mutual
def ExpD.cells:ExpD->List PV
 | .mk k n u t p ks as'=>[.i .i64 k,.s n,.i .i64 u,.s t,.i .i64 p,.l (ExpD.cellsL ks),.l (ExpD.cellsA as')]
def ExpD.cellsL:List ExpD->List (List PV)
 | []=>[]
 | t :: l=>t.cells :: ExpD.cellsL l
def ArmD.cells:ArmD->List PV
 | .mk p e=>p.cells++e.cells
def ExpD.cellsA:List ArmD->List (List PV)
 | []=>[]
 | t :: l=>t.cells :: ExpD.cellsA l
end
mutual
def PatD.sz:PatD->Nat
 | .mk k n u p ks=>n.length+PatD.szL ks
def PatD.szL:List PatD->Nat
 | []=>0
 | t :: l=>1+t.sz+PatD.szL l
end
mutual
def ExpD.sz:ExpD->Nat
 | .mk k n u t p ks as'=>n.length+t.length+ExpD.szL ks+ExpD.szA as'
def ExpD.szL:List ExpD->Nat
 | []=>0
 | t :: l=>1+t.sz+ExpD.szL l
def ArmD.sz:ArmD->Nat
 | .mk p e=>p.sz+e.sz
def ExpD.szA:List ArmD->Nat
 | []=>0
 | t :: l=>1+t.sz+ExpD.szA l
end
theorem PatD.cellsL_eq (l:List PatD):PatD.cellsL l=l.map PatD.cells:=by
 induction l with
 | nil=>rfl
 | cons t l ih=>rw [PatD.cellsL,ih]; rfl
theorem ExpD.cellsL_eq (l:List ExpD):ExpD.cellsL l=l.map ExpD.cells:=by
 induction l with
 | nil=>rfl
 | cons t l ih=>rw [ExpD.cellsL,ih]; rfl
theorem ExpD.cellsA_eq (l:List ArmD):ExpD.cellsA l=l.map ArmD.cells:=by
 induction l with
 | nil=>rfl
 | cons t l ih=>rw [ExpD.cellsA,ih]; rfl
def sumSz {α:Type} (f:α->Nat):List α->Nat
 | []=>0
 | a :: l=>1+f a+sumSz f l
theorem sumSz_len {α:Type} (f:α->Nat) (l:List α):l.length<=sumSz f l:=by
 induction l with
 | nil=>simp
 | cons a l ih=>simp [sumSz]; omega
theorem sumSz_mem {α : Type} (f : α → Nat) {l : List α} {a : α} (h : a ∈ l) : f a < sumSz f l := by
  induction l with
  | nil => cases h
  | cons b l ih =>
    simp [sumSz]
    rcases List.mem_cons.1 h with rfl | h
    · omega
    · have := ih h; omega
theorem PatD.szL_eq (l):PatD.szL l=sumSz PatD.sz l:=by
 induction l with
 | nil=>rfl
 | cons t l ih=>rw [PatD.szL,ih]; rfl
theorem ExpD.szL_eq (l):ExpD.szL l=sumSz ExpD.sz l:=by
 induction l with
 | nil=>rfl
 | cons t l ih=>rw [ExpD.szL,ih]; rfl
theorem ExpD.szA_eq (l):ExpD.szA l=sumSz ArmD.sz l:=by
 induction l with
 | nil=>rfl
 | cons t l ih=>rw [ExpD.szA,ih]; rfl
structure Tok where
 k:Int
 t:List UInt8
 n:Int
 p:Int
def Tok.cells (x:Tok):List PV:=[.i .i64 x.k,.s x.t,.i .i64 x.n,.i .i64 x.p]
def isSm (c:UInt8):Bool:=decide ((97:Int)<=(c.toNat:Int)) && decide ((c.toNat:Int)<=122)
def isGr (c:UInt8):Bool:=decide ((65:Int)<=(c.toNat:Int)) && decide ((c.toNat:Int)<=90)
def isDg (c:UInt8):Bool:=decide ((48:Int)<=(c.toNat:Int)) && decide ((c.toNat:Int)<=57)
def isNm (c:UInt8):Bool:=isSm c || isGr c || isDg c || decide ((c.toNat:Int)=95)
def isPl (c:UInt8):Bool:=decide ((32:Int)<=(c.toNat:Int)) && decide ((c.toNat:Int)<=126)
def isNl (c:UInt8):Bool:=!decide ((c.toNat:Int)=10)
def runL (q:UInt8->Bool):List UInt8->Nat
 | []=>0
 | c :: l=>if q c then runL q l+1 else 0
def runAt (q:UInt8->Bool) (s:List UInt8) (i:Nat):Nat:=i+runL q (s.drop i)
theorem runL_le (q) (l:List UInt8):runL q l<=l.length:=by
 induction l with
 | nil=>simp [runL]
 | cons c l ih=>rw [runL]; split <;> simp <;> omega
theorem runAt_le (q) {s:List UInt8} {i:Nat} (h:i<=s.length):runAt q s i<=s.length:=by
 have:=runL_le q (s.drop i)
 simp at this
 unfold runAt; omega
theorem runAt_ge (q) (s:List UInt8) (i:Nat):i<=runAt q s i:=by unfold runAt; omega
theorem drop_at {s:List UInt8} {i:Nat} (h:i<s.length):s.drop i=s[i] :: s.drop (i+1):=List.drop_eq_getElem_cons h
theorem runAt_t {q} {s:List UInt8} {i:Nat} (h:i<s.length) (hq:q s[i]=true):runAt q s i=runAt q s (i+1):=by
 unfold runAt
 rw [drop_at h,runL,if_pos hq]
 omega
theorem runAt_f {q} {s:List UInt8} {i:Nat} (h:i<s.length) (hq:q s[i]=false):runAt q s i=i:=by
 unfold runAt
 rw [drop_at h,runL,if_neg (by simp [hq])]
 rfl
theorem runAt_e (q) {s:List UInt8} {i:Nat} (h:s.length<=i):runAt q s i=i:=by
 unfold runAt
 rw [List.drop_of_length_le h]; rfl
def keys:List (List UInt8):=[[116,121,112,101],[111,102],[108,101,116],[114,101,99],[105,110],[102,117,110],[105,102],[116,104,101,110],[101,108,115,101],[109,97,116,99,104],[119,105,116,104],[101,110,100],[116,114,117,101],[102,97,108,115,101],[114,101,102],[114,101,97,100],[112,114,105,110,116],[101,120,105,116],[115,105,122,101]]
def signs:List (List UInt8):=[[45,62],[58,61],[61],[60],[43],[45],[42],[94],[59],[124],[40],[41],[44],[95],[33]]
def isKey (s:List UInt8):Bool:=decide (s∈keys)
def preB (g l:List UInt8):Bool:=decide (l.take g.length=g)
def signL (l:List UInt8):List (List UInt8)->List UInt8
 | []=>[]
 | g :: gs=>if preB g l then g else signL l gs
def numV:List UInt8->Nat->Nat
 | [],n=>n
 | c :: l,n=>numV l (n * 10+(c.toNat - 48))
def maxI:Nat:=9223372036854775807
def strGo (s:List UInt8) (i:Nat) (out:List UInt8):Option (List UInt8 × Nat) :=
 if h:i<s.length then
  if (s[i].toNat:Int)=34 then some (out,i+1)
  else if (s[i].toNat:Int)=92 then
   if h2:i+1<s.length then
    if (s[i+1].toNat:Int)=110 then strGo s (i+2) (out++[10])
    else if (s[i+1].toNat:Int)=34\/(s[i+1].toNat:Int)=92 then strGo s (i+2) (out++[s[i+1]])
    else none
   else none
  else if isPl s[i] then strGo s (i+1) (out++[s[i]]) else none
 else none
termination_by s.length - i
def wordF (s:List UInt8) (i:Nat) (c:UInt8) (f:Nat):(Tok × Nat) ⊕ Int :=
 if 12<runAt isNm s f - f then .inr 2
 else .inl (⟨if (c.toNat:Int)=39 then 5 else if isGr c then 4 else if isKey ((s.drop f).take (runAt isNm s f - f)) then 6 else 3,(s.drop f).take (runAt isNm s f - f),0,i⟩,runAt isNm s f)
def wordD (s:List UInt8) (i:Nat) (c:UInt8):(Tok × Nat) ⊕ Int:=wordF s i c (if (c.toNat:Int)=39 then i+1 else i)
def numD (s:List UInt8) (i:Nat) (c:UInt8):(Tok × Nat) ⊕ Int :=
 let e:=runAt isDg s i
 let v:=numV ((s.drop i).take (e - i)) 0
 if maxI<v\/(1<e - i/\(c.toNat:Int)=48) then .inr 3 else .inl (⟨1,[],v,i⟩,e)
def strD (s:List UInt8) (i:Nat):(Tok × Nat) ⊕ Int :=
 match strGo s (i+1) [] with
 | some (t,e)=>.inl (⟨2,t,0,i⟩,e)
 | none=>.inr 4
def signD (s:List UInt8) (i:Nat):(Tok × Nat) ⊕ Int :=
 let g:=signL (s.drop i) signs
 if g=[] then .inr 1 else .inl (⟨7,g,0,i⟩,i+g.length)
def tick (s:List UInt8) (i:Nat) (c:UInt8):Bool:=decide ((c.toNat:Int)=39) && (decide (i+1<s.length) && isSm (s.getD (i+1) 0))
def tokD (s:List UInt8) (i:Nat) (c:UInt8):(Tok × Nat) ⊕ Int :=
 if isDg c then numD s i c
 else if isSm c || isGr c || tick s i c then wordD s i c
 else if (c.toNat:Int)=34 then strD s i
 else signD s i
def blank (c:UInt8):Bool:=decide ((c.toNat:Int)=32) || decide ((c.toNat:Int)=9) || decide ((c.toNat:Int)=10)
def lexGo (s:List UInt8) (most i:Nat) (out:List Tok):List Tok ⊕ (Int × Nat) :=
 if h:i<s.length then
  if blank s[i] then lexGo s most (i+1) out
  else if (s[i].toNat:Int)=35 then (if i<runAt isNl s i then lexGo s most (runAt isNl s i) out else .inl out)
  else match tokD s i s[i] with
   | .inr c=>.inr (c,i)
   | .inl (t,e)=>if out.length=most then .inr (5,i) else if i<e then lexGo s most e (out++[t]) else .inl out
 else .inl (out++[⟨8,[],0,s.length⟩])
termination_by s.length - i
theorem strGo_gt {s : List UInt8} : ∀ (n i : Nat) (out t : List UInt8) (e : Nat), s.length - i ≤ n → strGo s i out = some (t, e) → i < e ∧ e ≤ s.length ∧ t.length + i + 1 ≤ out.length + e := by
  intro n
  induction n with
  | zero => intro i out t e hn h; rw [strGo, dif_neg (by omega)] at h; cases h
  | succ n ih =>
    intro i out t e hn h
    rw [strGo] at h
    split at h
    · split at h
      · cases h; omega
      split at h
      · split at h
        · split at h
          · have := ih _ _ _ _ (by omega) h; simp at this; omega
          split at h
          · have := ih _ _ _ _ (by omega) h; simp at this; omega
          · cases h
        · cases h
      split at h
      · have := ih _ _ _ _ (by omega) h; simp at this; omega
      · cases h
    · cases h
theorem nl_hash {s:List UInt8} {i:Nat} (h:i<s.length) (hc:(s[i].toNat:Int)=35):i<runAt isNl s i:=by
 rw [runAt_t h (by simp [isNl,hc])]
 have:=runAt_ge isNl s (i+1)
 omega
theorem signL_le (l) : ∀ gs : List (List UInt8), (signL l gs).length ≤ l.length ∧ ((signL l gs) = [] ∨ signL l gs ∈ gs)
  | [] => by simp [signL]
  | g :: gs => by
    have ih := signL_le l gs
    rw [signL]
    split
    · rename_i h
      simp only [preB, decide_eq_true_eq] at h
      have := congrArg List.length h
      rw [List.length_take] at this
      exact ⟨by omega, .inr (by simp)⟩
    · exact ⟨ih.1, ih.2.imp id (by intro h; simp [h])⟩
theorem tokD_gt {s:List UInt8} {i:Nat} (h:i<s.length) {t:Tok} {e:Nat} (ht:tokD s i s[i]=.inl (t,e)):i<e/\e<=s.length/\t.p=i/\1<=t.k/\t.k<=7/\t.t.length<=s.length/\0<=t.n/\t.n<=maxI:=by
 unfold tokD at ht
 split at ht
 ·rename_i hd
  simp only [numD] at ht
  split at ht
  ·cases ht
  ·rename_i hv
   cases ht
   have:=runAt_le isDg (s:=s) (i:=i+1) (by omega)
   have:=runAt_ge isDg s (i+1)
   rw [runAt_t h hd]
   refine ⟨by omega,by omega,rfl,by simp,by simp,by simp,by simp,?_⟩
   rw [<- runAt_t h hd]
   simp only [not_or] at hv
   show (↑(numV _ _):Int)<=_
   omega
 split at ht
 ·rename_i hd hw
  have hgt:i<runAt isNm s (if (s[i].toNat:Int)=39 then i+1 else i)/\runAt isNm s (if (s[i].toNat:Int)=39 then i+1 else i)<=s.length:=by
   split
   ·have:=runAt_le isNm (s:=s) (i:=i+1) (by omega)
    have:=runAt_ge isNm s (i+1)
    omega
   ·rename_i h39
    have hn:isNm s[i]=true:=by
     simp only [Bool.or_eq_true] at hw
     rcases hw with (hw | hw) | hw
     ·simp [isNm,hw]
     ·simp [isNm,hw]
     ·simp [tick,h39] at hw
    rw [runAt_t h hn]
    have:=runAt_le isNm (s:=s) (i:=i+1) (by omega)
    have:=runAt_ge isNm s (i+1)
    omega
  unfold wordD at ht
  generalize (if (s[i].toNat:Int)=39 then i+1 else i)=f at ht hgt
  unfold wordF at ht
  by_cases h12:12<runAt isNm s f - f
  ·rw [if_pos h12] at ht; cases ht
  ·rw [if_neg h12] at ht
   cases ht
   refine ⟨hgt.1,hgt.2,rfl,?_,?_,?_,by simp,by simp [maxI]⟩
   ·simp only []; (repeat' split) <;> decide
   ·simp only []; (repeat' split) <;> decide
   ·simp; omega
 split at ht
 ·simp only [strD] at ht
  split at ht
  ·rename_i hs
   cases ht
   have:=strGo_gt _ _ _ _ _ (Nat.le_refl _) hs
   simp at this
   refine ⟨by omega,by omega,rfl,by simp,by simp,by simp only []; omega,by simp,by simp [maxI]⟩
  ·cases ht
 ·simp only [signD] at ht
  have hl:=(signL_le (s.drop i) signs).1
  split at ht
  ·cases ht
  ·rename_i hne
   cases ht
   have:0<(signL (s.drop i) signs).length:=List.length_pos_iff.2 hne
   simp at hl
   refine ⟨by omega,by omega,rfl,by simp,by simp,by simp only []; omega,by simp,by simp [maxI]⟩
theorem tokD_key {s:List UInt8} {i:Nat} {c:UInt8} {t:Tok} {e:Nat} (ht:tokD s i c=.inl (t,e)):t.k=6->isKey t.t=true:=by
 unfold tokD at ht
 split at ht
 ·simp only [numD] at ht
  split at ht
  ·cases ht
  ·cases ht; intro h; simp at h
 split at ht
 ·unfold wordD at ht
  generalize (if (c.toNat:Int)=39 then i+1 else i)=f at ht
  unfold wordF at ht
  by_cases h12:12<runAt isNm s f - f
  ·rw [if_pos h12] at ht; cases ht
  ·rw [if_neg h12] at ht
   cases ht
   intro h
   simp only [] at h ⊢
   by_cases hk:isKey (List.take (runAt isNm s f - f) (List.drop f s))=true
   ·exact hk
   ·rw [if_neg hk] at h
    split at h
    ·simp at h
    ·split at h <;> simp at h
 split at ht
 ·simp only [strD] at ht
  split at ht
  ·cases ht; intro h; simp at h
  ·cases ht
 ·simp only [signD] at ht
  split at ht
  ·cases ht
  ·cases ht; intro h; simp at h
theorem lexGo_blank {s:List UInt8} {most i:Nat} {out:List Tok} (h:i<s.length) (hb:blank s[i]=true):lexGo s most i out=lexGo s most (i+1) out:=by
 rw [lexGo,dif_pos h,if_pos hb]
theorem lexGo_hash {s:List UInt8} {most i:Nat} {out:List Tok} (h:i<s.length) (hb:blank s[i]=false) (hc:(s[i].toNat:Int)=35):lexGo s most i out=lexGo s most (runAt isNl s i) out:=by
 rw [lexGo,dif_pos h,if_neg (by simp [hb]),if_pos hc,if_pos (nl_hash h hc)]
theorem lexGo_err {s:List UInt8} {most i:Nat} {out:List Tok} (h:i<s.length) (hb:blank s[i]=false) (hc:¬ (s[i].toNat:Int)=35) {c:Int} (ht:tokD s i s[i]=.inr c):lexGo s most i out=.inr (c,i):=by
 rw [lexGo,dif_pos h,if_neg (by simp [hb]),if_neg hc,ht]
theorem lexGo_most {s:List UInt8} {most i:Nat} {out:List Tok} (h:i<s.length) (hb:blank s[i]=false) (hc:¬ (s[i].toNat:Int)=35) {t:Tok} {e:Nat} (ht:tokD s i s[i]=.inl (t,e)) (hm:out.length=most):lexGo s most i out=.inr (5,i):=by
 rw [lexGo,dif_pos h,if_neg (by simp [hb]),if_neg hc,ht]
 simp only [if_pos hm]
theorem lexGo_tok {s:List UInt8} {most i:Nat} {out:List Tok} (h:i<s.length) (hb:blank s[i]=false) (hc:¬ (s[i].toNat:Int)=35) {t:Tok} {e:Nat} (ht:tokD s i s[i]=.inl (t,e)) (hm:¬ out.length=most):lexGo s most i out=lexGo s most e (out++[t]):=by
 rw [lexGo,dif_pos h,if_neg (by simp [hb]),if_neg hc,ht]
 simp only [if_neg hm,if_pos (tokD_gt h ht).1]
theorem lexGo_end {s:List UInt8} {most i:Nat} {out:List Tok} (h:¬ i<s.length):lexGo s most i out=.inl (out++[⟨8,[],0,s.length⟩]):=by
 rw [lexGo,dif_neg h]
def lexD (s:List UInt8):List Tok ⊕ (Int × Nat):=if 4000<s.length then .inr (5,0) else lexGo s 1200 0 []
structure ToksOk (l:List Tok):Prop where
 pos:0<l.length
 fin:∀ (i:Nat) x,l[i]?=some x->(x.k=8 ↔ i+1=l.length)
 key:∀ x∈l,x.k=6->isKey x.t=true
theorem lexGo_ok {s : List UInt8} {most : Nat} : ∀ (n i : Nat) (out l : List Tok), s.length - i ≤ n → (∀ x ∈ out, x.k ≠ 8 ∧ (x.k = 6 → isKey x.t = true)) → lexGo s most i out = .inl l → ToksOk l ∧ l.length ≤ out.length + (s.length - i) + 1 := by
  have fin : ∀ (i : Nat) (out : List Tok), (∀ x ∈ out, x.k ≠ 8 ∧ (x.k = 6 → isKey x.t = true)) → ToksOk (out ++ [⟨8, [], 0, s.length⟩]) ∧ (out ++ [(⟨8, [], 0, s.length⟩ : Tok)]).length ≤ out.length + (s.length - i) + 1 := by
    intro i out ho
    refine ⟨⟨by simp, fun j x hx => ?_, fun x hx hk => ?_⟩, by simp⟩
    rotate_left
    · rcases List.mem_append.1 hx with hx | hx
      · exact (ho x hx).2 hk
      · simp at hx; subst hx; simp at hk
    rcases Nat.lt_or_ge j out.length with hj | hj
    · rw [List.getElem?_append_left hj] at hx
      have := (ho x (List.mem_of_getElem? hx)).1
      simp only [this, false_iff, List.length_append, List.length_cons, List.length_nil]; omega
    · rw [List.getElem?_append_right hj] at hx
      have : j - out.length = 0 := by
        rcases Nat.eq_zero_or_pos (j - out.length) with h | h
        · exact h
        · rw [List.getElem?_eq_none (by simp; omega)] at hx; cases hx
      rw [this] at hx
      cases hx
      simp; omega
  intro n
  induction n with
  | zero =>
    intro i out l hn ho h
    rw [lexGo_end (by omega)] at h
    cases h
    exact fin i out ho
  | succ n ih =>
    intro i out l hn ho h
    by_cases hi : i < s.length
    · cases hb : blank s[i] with
      | true =>
        rw [lexGo_blank hi hb] at h
        have := ih _ _ _ (by omega) ho h
        exact ⟨this.1, by omega⟩
      | false =>
        by_cases hc : (s[i].toNat : Int) = 35
        · rw [lexGo_hash hi hb hc] at h
          have hg := nl_hash hi hc
          have := ih _ _ _ (by omega) ho h
          exact ⟨this.1, by omega⟩
        · rcases ht : tokD s i s[i] with ⟨t, e⟩ | c
          · by_cases hm : out.length = most
            · rw [lexGo_most hi hb hc ht hm] at h; cases h
            · rw [lexGo_tok hi hb hc ht hm] at h
              have hg := tokD_gt hi ht
              have := ih _ _ _ (by omega) (by
                intro x hx
                rcases List.mem_append.1 hx with hx | hx
                · exact ho x hx
                · simp at hx; subst hx; exact ⟨by omega, tokD_key ht⟩) h
              simp at this
              exact ⟨this.1, by omega⟩
          · rw [lexGo_err hi hb hc ht] at h; cases h
    · rw [lexGo_end hi] at h
      cases h
      exact fin i out ho
theorem lexD_ok {s:List UInt8} {l:List Tok} (h:lexD s=.inl l):ToksOk l/\l.length<=4001:=by
 unfold lexD at h
 split at h
 ·cases h
 ·have:=lexGo_ok _ _ _ _ (Nat.le_refl _) (by simp) h
  simp at this
  exact ⟨this.1,by omega⟩
structure PS where
 i:Nat
 nest:Nat
 d:Nat
 c:Int
 ps:Int
abbrev PM (α:Type):=PS->α × PS
def tok0:Tok:=⟨8,[],0,0⟩
def tokA (T:List Tok) (s:PS):Tok:=T.getD s.i tok0
def adv (s:PS):PS:={ s with i:=s.i+1 }
def failP (T:List Tok) (c:Int) (s:PS):PS:=if s.c=0 then { s with c:=c,ps:=(tokA T s).p } else s
def isT (T:List Tok) (x:List UInt8) (s:PS):Bool:=decide (s.c=0) && (decide ((tokA T s).k=6) || decide ((tokA T s).k=7)) && decide ((tokA T s).t=x)
def isK (T:List Tok) (k:Int) (s:PS):Bool:=decide (s.c=0) && decide ((tokA T s).k=k)
def wantP (T:List Tok) (x:List UInt8) (s:PS):PS:=if isT T x s then adv s else failP T 11 s
def wordP (T:List Tok) (k:Int) (s:PS):List UInt8 × PS:=if isK T k s then ((tokA T s).t,adv s) else ([],failP T 11 s)
def deeperP (T:List Tok) (most d:Nat) (s:PS):PS :=
 let s1:=if most<d then failP T 12 s else s
 if s1.c=0 then { s1 with d:=max s1.d d } else s1
def many {α:Type} (g:PS->Bool) (m:PM α):Nat->PM (List α)
 | 0,s=>([],s)
 | n+1,s=>if g s then ((m s).1 :: (many g m n (m s).2).1,(many g m n (m s).2).2) else ([],s)
def carry {α:Type} (g:PS->Bool) (m:α->PM α):Nat->α->PM α
 | 0,a,s=>(a,s)
 | n+1,a,s=>if g s then carry g m n (m a s).1 (m a s).2 else (a,s)
def Ok1 (T:List Tok) (s t:PS):Prop:=s.i<=t.i/\t.i<T.length/\(s.c≠0->t=s)/\t.nest=s.nest
def Stay (T:List Tok) (f:PS->PS):Prop:=∀ s,s.i<T.length->Ok1 T s (f s)
theorem Ok1.rfl {T:List Tok} {s:PS} (h:s.i<T.length):Ok1 T s s:=⟨Nat.le_refl _,h,fun _=>Eq.refl _,Eq.refl _⟩
theorem Ok1.trans {T:List Tok} {s t u:PS} (h:Ok1 T s t) (k:Ok1 T t u):Ok1 T s u:=by
 obtain ⟨h1,h2,h3,h4⟩:=h
 obtain ⟨k1,k2,k3,k4⟩:=k
 exact ⟨Nat.le_trans h1 k1,k2,fun hc=>by have:=h3 hc; subst this; exact k3 hc,k4.trans h4⟩
theorem stay_id {T:List Tok}:Stay T (fun s=>s):=fun s h=>Ok1.rfl h
theorem adv_at {T:List Tok} (hT:ToksOk T) {s:PS} (h:s.i<T.length) (hk:(tokA T s).k≠8):s.i+1<T.length:=by
 have e:T[s.i]?=some (tokA T s):=by simp [tokA,h]
 have:=hT.fin _ _ e
 omega
theorem isT_k {T:List Tok} {x:List UInt8} {s:PS} (h:isT T x s=true):s.c=0/\(tokA T s).k≠8:=by
 simp [isT] at h
 exact ⟨h.1.1,by omega⟩
theorem isK_k {T:List Tok} {k:Int} {s:PS} (h:isK T k s=true):s.c=0/\(tokA T s).k=k:=by simpa [isK] using h
theorem isT_c {T:List Tok} {x:List UInt8} {s:PS} (h:s.c≠0):isT T x s=false:=by simp [isT,h]
theorem isK_c {T:List Tok} {k:Int} {s:PS} (h:s.c≠0):isK T k s=false:=by simp [isK,h]
theorem failP_c {T:List Tok} {c:Int} {s:PS} (h:s.c≠0):failP T c s=s:=by simp [failP,h]
theorem failP_0 {T:List Tok} {c:Int} {s:PS} (h:s.c=0):failP T c s={ s with c:=c,ps:=(tokA T s).p }:=by simp [failP,h]
theorem stay_fail (T:List Tok) (c:Int):Stay T (failP T c):=fun s h=>by
 unfold failP
 split
 ·rename_i hc; exact ⟨Nat.le_refl _,h,fun h=>(h hc).elim,rfl⟩
 ·exact ⟨Nat.le_refl _,h,fun _=>rfl,rfl⟩
theorem stay_want {T:List Tok} (hT:ToksOk T) (x):Stay T (wantP T x):=fun s h=>by
 unfold wantP
 split
 ·rename_i hb
  obtain ⟨h1,h2⟩:=isT_k hb
  exact ⟨by simp [adv],by simpa [adv] using adv_at hT h h2,fun h=>(h h1).elim,rfl⟩
 ·exact stay_fail T 11 s h
theorem stay_word {T:List Tok} (hT:ToksOk T) {k:Int} (hk:k≠8):Stay T (fun s=>(wordP T k s).2):=fun s h=>by
 show Ok1 T s (wordP T k s).2
 unfold wordP
 by_cases hb:isK T k s=true
 ·obtain ⟨h1,h2⟩:=isK_k hb
  rw [if_pos hb]
  exact ⟨by simp [adv],by simpa [adv] using adv_at hT h (by omega),fun h=>(h h1).elim,rfl⟩
 ·rw [if_neg hb]; exact stay_fail T 11 s h
theorem deeperP_c {T:List Tok} {most d} {s:PS} (h:s.c≠0):deeperP T most d s=s:=by
 unfold deeperP
 split <;> simp [failP_c h,h]
theorem stay_deeper (T:List Tok) (most d:Nat):Stay T (deeperP T most d):=fun s h=>by
 by_cases hc:s.c=0
 ·refine ⟨?_,?_,fun h=>(h hc).elim,?_⟩ <;> (unfold deeperP; simp only []; (repeat' split) <;> simp [failP,hc,h])
 ·rw [deeperP_c hc]; exact ⟨Nat.le_refl _,h,fun _=>rfl,rfl⟩
theorem many_c {α:Type} {g:PS->Bool} {m:PM α} {s:PS} (h:g s=false):∀ n,many g m n s=([],s)
 | 0=>rfl
 | n+1=>by rw [many,h]; simp
theorem carry_c {α:Type} {g:PS->Bool} {m:α->PM α} {a:α} {s:PS} (h:g s=false):∀ n,carry g m n a s=(a,s)
 | 0=>rfl
 | n+1=>by rw [carry,h]; simp
def Only (T:List Tok) (g:PS->Bool):Prop:=∀ s,g s=true->s.c=0/\(tokA T s).k≠8
theorem stay_many {T : List Tok} {α : Type} {g : PS → Bool} {m : PM α} (hg : Only T g) (hm : ∀ s, s.i < T.length → g s = true → s.i ≤ (m s).2.i ∧ (m s).2.i < T.length ∧ (m s).2.nest = s.nest) : ∀ n, Stay T (fun s => (many g m n s).2)
  | 0 => stay_id
  | n + 1 => fun s h => by
    cases hb : g s with
    | false => simp only [many_c hb]; exact stay_id s h
    | true =>
      obtain ⟨h1, h2, h3⟩ := hm s h hb
      obtain ⟨k1, k2, k3, k4⟩ := stay_many hg hm n _ h2
      simp only [many, hb, if_true]
      exact ⟨Nat.le_trans h1 k1, k2, fun hc => (hc (hg s hb).1).elim, k4.trans h3⟩
theorem stay_carry {T : List Tok} {α : Type} {g : PS → Bool} {m : α → PM α} (hg : Only T g) (hm : ∀ a s, s.i < T.length → g s = true → s.i ≤ (m a s).2.i ∧ (m a s).2.i < T.length ∧ (m a s).2.nest = s.nest) : ∀ n a, Stay T (fun s => (carry g m n a s).2)
  | 0, a => stay_id
  | n + 1, a => fun s h => by
    cases hb : g s with
    | false => simp only [carry_c hb]; exact stay_id s h
    | true =>
      obtain ⟨h1, h2, h3⟩ := hm a s h hb
      obtain ⟨k1, k2, k3, k4⟩ := stay_carry hg hm n (m a s).1 _ h2
      simp only [carry, hb, if_true]
      exact ⟨Nat.le_trans h1 k1, k2, fun hc => (hc (hg s hb).1).elim, k4.trans h3⟩
theorem only_isT (T x):Only T (isT T x):=fun s h=>isT_k h
theorem only_isK (T) {k:Int} (hk:k≠8):Only T (isK T k):=fun s h=>⟨(isK_k h).1,by rw [(isK_k h).2]; exact hk⟩
theorem Only.or {T:List Tok} {g h:PS->Bool} (hg:Only T g) (hh:Only T h):Only T (fun s=>g s || h s):=fun s hs=>by
 rcases Bool.or_eq_true _ _ ▸ hs with h1 | h1
 ·exact hg s h1
 ·exact hh s h1
theorem Stay.adv {T:List Tok} (hT:ToksOk T) {f:PS->PS} (hf:Stay T f) {s:PS} (h:s.i<T.length) (hk:(tokA T s).k≠8):s.i<(f (adv s)).i/\(f (adv s)).i<T.length/\(f (adv s)).nest=s.nest:=by
 obtain ⟨h1,h2,_,h4⟩:=hf (Pg.adv s) (by simpa [Pg.adv] using adv_at hT h hk)
 exact ⟨h1,h2,h4⟩
def bindP {α β:Type} (m:PM α) (k:α->PM β):PM β:=fun s=>k (m s).1 (m s).2
def retP {α:Type} (a:α):PM α:=fun s=>(a,s)
def stepP {α:Type} (f:PS->PS) (m:PM α):PM α:=fun s=>m (f s)
def nowP {α:Type} (T:List Tok) (k:Tok->PM α):PM α:=fun s=>k (tokA T s) s
def iteG {α:Type} (g:PS->Bool) (m1 m2:PM α):PM α:=fun s=>if g s then m1 (adv s) else m2 s
def iteB {α:Type} (g:PS->Bool) (m1 m2:PM α):PM α:=fun s=>if g s then m1 s else m2 s
def advP {α:Type} (m:PM α):PM α:=fun s=>m (adv s)
def deepP {α:Type} (T:List Tok) (most d:Nat) (z:α) (m:PM α):PM α:=fun s=>if (deeperP T most d s).c=0 then m (deeperP T most d s) else (z,deeperP T most d s)
def opensP (T:List Tok) (lim:Nat) (s:PS):PS :=
 let s1:=if s.c=0/\s.nest=lim then failP T 12 s else s
 let s2:={ s1 with nest:=s1.nest+1 }
 if s2.c=0/\s2.d<s2.nest then { s2 with d:=s2.nest } else s2
def shut (s:PS):PS:={ s with nest:=s.nest - 1 }
def opnP {α:Type} (T:List Tok) (lim:Nat) (z:α) (m:PM α):PM α:=fun s =>
 if (opensP T lim s).c=0 then ((m (opensP T lim s)).1,shut (m (opensP T lim s)).2) else (z,shut (opensP T lim s))
def StayM (T:List Tok) {α:Type} (m:PM α):Prop:=∀ s,s.i<T.length->Ok1 T s (m s).2
theorem StayM.bind {T:List Tok} {α β:Type} {m:PM α} {k:α->PM β} (hm:StayM T m) (hk:∀ a,StayM T (k a)):StayM T (bindP m k):=fun s h =>
 (hm s h).trans (hk (m s).1 _ (hm s h).2.1)
theorem StayM.ret {T:List Tok} {α:Type} (a:α):StayM T (retP a):=fun s h=>Ok1.rfl h
theorem StayM.step {T:List Tok} {α:Type} {f:PS->PS} {m:PM α} (hf:Stay T f) (hm:StayM T m):StayM T (stepP f m):=fun s h=>(hf s h).trans (hm _ (hf s h).2.1)
theorem StayM.now {T:List Tok} {α:Type} {k:Tok->PM α} (hk:∀ t,StayM T (k t)):StayM T (nowP T k):=fun s h=>hk (tokA T s) s h
theorem StayM.iteG {T : List Tok} (hT : ToksOk T) {α : Type} {g : PS → Bool} {m1 m2 : PM α} (hg : Only T g) (h1 : StayM T m1) (h2 : StayM T m2) : StayM T (iteG g m1 m2) := fun s h => by
  cases hb : g s with
  | false => simp only [Pg.iteG, hb]; exact h2 s h
  | true =>
    obtain ⟨hc, hk⟩ := hg s hb
    obtain ⟨a1, a2, a3⟩ := Stay.adv hT h1 h hk
    simp only [Pg.iteG, hb, if_true]
    exact ⟨Nat.le_of_lt a1, a2, fun hc' => (hc' hc).elim, a3⟩
theorem StayM.iteB {T:List Tok} {α:Type} {g:PS->Bool} {m1 m2:PM α} (h1:StayM T m1) (h2:StayM T m2):StayM T (iteB g m1 m2):=fun s h=>by
 cases hb:g s with
 | false=>simp only [Pg.iteB,hb]; exact h2 s h
 | true=>simp only [Pg.iteB,hb,if_true]; exact h1 s h
theorem StayM.many {T:List Tok} {α:Type} {g:PS->Bool} {m:PM α} (hg:Only T g) (hm:StayM T m) (n:Nat):StayM T (many g m n) :=
 stay_many hg (fun s h _=>⟨(hm s h).1,(hm s h).2.1,(hm s h).2.2.2⟩) n
theorem StayM.manyA {T:List Tok} (hT:ToksOk T) {α:Type} {g:PS->Bool} {m:PM α} (hg:Only T g) (hm:StayM T m) (n:Nat):StayM T (Pg.many g (advP m) n) :=
 stay_many hg (fun s h hb=>by
  have:=Stay.adv hT hm h (hg s hb).2
  exact ⟨Nat.le_of_lt this.1,this.2.1,this.2.2⟩) n
theorem StayM.carry {T:List Tok} {α:Type} {g:PS->Bool} {m:α->PM α} (hg:Only T g) (hm:∀ a,StayM T (m a)) (n:Nat) (a:α):StayM T (carry g m n a) :=
 stay_carry hg (fun a s h _=>⟨(hm a s h).1,(hm a s h).2.1,(hm a s h).2.2.2⟩) n a
theorem StayM.carryA {T:List Tok} (hT:ToksOk T) {α:Type} {g:PS->Bool} {m:Tok->α->PM α} (hg:Only T g) (hm:∀ t a,StayM T (m t a)) (n:Nat) (a:α):StayM T (Pg.carry g (fun a=>nowP T fun t=>advP (m t a)) n a) :=
 stay_carry hg (fun a s h hb=>by
  have:=Stay.adv hT (hm (tokA T s) a) h (hg s hb).2
  exact ⟨Nat.le_of_lt this.1,this.2.1,this.2.2⟩) n a
theorem StayM.deep {T:List Tok} {α:Type} {most d:Nat} {z:α} {m:PM α} (hm:StayM T m):StayM T (deepP T most d z m):=fun s h=>by
 obtain ⟨h1,h2,h3,h4⟩:=stay_deeper T most d s h
 by_cases hc:(deeperP T most d s).c=0
 ·obtain ⟨k1,k2,k3,k4⟩:=hm _ h2
  simp only [deepP,if_pos hc]
  exact ⟨Nat.le_trans h1 k1,k2,fun hc'=>by rw [h3 hc'] at hc; exact (hc' hc).elim,k4.trans h4⟩
 ·simp only [deepP,if_neg hc]
  exact ⟨h1,h2,h3,h4⟩
theorem opens_c {T:List Tok} {lim:Nat} {s:PS} (h:s.c≠0):opensP T lim s={ s with nest:=s.nest+1 }:=by simp [opensP,h]
theorem StayM.opn {T:List Tok} {α:Type} {lim:Nat} {z:α} {m:PM α} (hm:StayM T m):StayM T (opnP T lim z m):=fun s h=>by
 have h0:(opensP T lim s).i=s.i/\(opensP T lim s).nest=s.nest+1:=by
  unfold opensP
  simp only []
  by_cases h1:s.c=0/\s.nest=lim
  ·simp only [if_pos h1,failP_0 h1.1]
   split <;> exact ⟨rfl,rfl⟩
  ·simp only [if_neg h1]
   split <;> exact ⟨rfl,rfl⟩
 by_cases hc:(opensP T lim s).c=0
 ·obtain ⟨k1,k2,k3,k4⟩:=hm (opensP T lim s) (by rw [h0.1]; exact h)
  simp only [opnP,if_pos hc]
  refine ⟨by rw [<- h0.1]; exact k1,k2,fun hc'=>by rw [opens_c hc'] at hc; exact (hc' hc).elim,?_⟩
  show (m (opensP T lim s)).2.nest - 1=s.nest
  rw [k4,h0.2]; rfl
 ·simp only [opnP,if_neg hc]
  refine ⟨by rw [<- h0.1]; exact Nat.le_refl _,by show (opensP T lim s).i<_; rw [h0.1]; exact h,fun hc'=>?_,?_⟩
  ·rw [opens_c hc']; rfl
  ·show (opensP T lim s).nest - 1=s.nest
   rw [h0.2]; rfl
def TyE.pos:TyE->Int | .mk _ _ p _=>p
def ExpD.pos:ExpD->Int | .mk _ _ _ _ p _ _=>p
def ExpD.kid:ExpD->List ExpD->ExpD | .mk k n u t p _ as',l=>.mk k n u t p l as'
def PatD.kid:PatD->List PatD->PatD | .mk k n u p _,l=>.mk k n u p l
def ty0:TyE:=.mk 0 [] 0 []
def pat0:PatD:=.mk 0 [] 0 0 []
def exp0:ExpD:=.mk 0 [] 0 [] 0 [] []
def leaf (k:Int) (n:List UInt8) (u:Int) (t:List UInt8) (p:Int):ExpD:=.mk k n u t p [] []
section
variable (T:List Tok) (N:Nat)
def tyAt (ty:PM TyE):PM TyE:=nowP T fun t =>
 iteG (isK T 5) (retP (.mk 2 t.t t.p [])) <|
 iteG (isK T 3) (retP (.mk 1 t.t t.p [])) <|
 stepP (wantP T [40]) <| bindP ty fun o=>stepP (wantP T [41]) (retP o)
def tySt (s:PS):Bool:=isK T 5 s || isK T 3 s || isT T [40] s
def tyPost (ty:PM TyE):PM TyE:=nowP T fun t =>
 iteG (isT T [114,101,102]) (bindP (tyAt T ty) fun x=>retP (.mk 5 [] t.p [x])) <|
 iteG (isK T 3) (bindP (many (tySt T) (tyAt T ty) N) fun l=>retP (.mk 1 t.t t.p l)) (tyAt T ty)
def tup4 (a:TyE) (l:List TyE):TyE:=if l=[] then a else .mk 4 [] a.pos (a :: l)
def iTyB (most:Nat) (ty:PM TyE) (d:Nat):PM TyE:=deepP T most d ty0 <|
 bindP (tyPost T N ty) fun a=>bindP (many (isT T [42]) (advP (tyPost T N ty)) N) fun l =>
 iteG (isT T [45,62]) (bindP ty fun b=>retP (.mk 3 [] (tup4 a l).pos [tup4 a l,b])) (retP (tup4 a l))
def iTy (most:Nat):Nat->Nat->PM TyE
 | 0,_=>retP ty0
 | k+1,d=>iTyB T N most (iTy most k (d+1)) d
def patSt (s:PS):Bool:=isK T 3 s || isK T 1 s || isK T 4 s || isT T [95] s || isT T [116,114,117,101] s || isT T [102,97,108,115,101] s || isT T [40] s
def iPatBr (pat:PM PatD):PM PatD:=nowP T fun t=>stepP (wantP T [40]) <|
 iteG (isT T [41]) (retP (.mk 5 [] 0 t.p [])) <|
 iteB (fun s=>!decide (s.c=0)) (retP (.mk 5 [] 0 t.p [])) <|
 bindP pat fun a=>bindP (many (isT T [44]) (advP pat) N) fun l=>stepP (wantP T [41]) <|
 retP (if l=[] then a else .mk 6 [] 0 t.p (a :: l))
def iPatA (pat:PM PatD):PM PatD:=nowP T fun t =>
 iteG (isT T [95]) (retP (.mk 1 [] 0 t.p [])) <|
 iteG (isK T 3) (retP (.mk 2 t.t 0 t.p [])) <|
 iteG (isK T 1) (retP (.mk 3 [] t.n t.p [])) <|
 iteG (isT T [116,114,117,101]) (retP (.mk 4 [] 1 t.p [])) <|
 iteG (isT T [102,97,108,115,101]) (retP (.mk 4 [] 0 t.p [])) <|
 iteG (isK T 4) (retP (.mk 7 t.t 0 t.p [])) (iPatBr T N pat)
def iPatB (most:Nat) (pat:PM PatD) (d:Nat):PM PatD:=deepP T most d pat0 <| nowP T fun t =>
 iteG (isK T 4) (iteB (patSt T) (bindP (iPatA T N pat) fun a=>retP (.mk 7 t.t 0 t.p [a])) (retP (.mk 7 t.t 0 t.p []))) (iPatA T N pat)
def iPat (most:Nat):Nat->Nat->PM PatD
 | 0,_=>retP pat0
 | k+1,d=>iPatB T N most (iPat most k (d+1)) d
def sPatIn (t:Tok) (pat:PM PatD):PM PatD :=
 if t.k=3 then retP (.mk 2 t.t 0 t.p []) else if t.k=4 then retP (.mk 7 t.t 0 t.p []) else if t.k=1 then retP (.mk 3 [] t.n t.p []) else
 if t.t=[95] then retP (.mk 1 [] 0 t.p []) else if t.t=[116,114,117,101] then retP (.mk 4 [] 1 t.p []) else if t.t=[102,97,108,115,101] then retP (.mk 4 [] 0 t.p []) else
 iteG (isT T [41]) (retP (.mk 5 [] 0 t.p [])) <|
 bindP pat fun a=>bindP (many (isT T [44]) (advP pat) N) fun l=>stepP (wantP T [41]) <|
 retP (if l=[] then a else .mk 6 [] 0 t.p (a :: l))
def sPatA (pat:PM PatD):PM PatD:=nowP T fun t=>iteG (patSt T) (sPatIn T N t pat) (stepP (failP T 11) (retP pat0))
def sPatB (lim:Nat) (pat:PM PatD):PM PatD:=opnP T lim pat0 <| nowP T fun t=>bindP (sPatA T N pat) fun x =>
 if t.k=4 then iteB (patSt T) (bindP (sPatA T N pat) fun a=>retP (x.kid [a])) (retP x) else retP x
def sPat (lim:Nat):Nat->PM PatD
 | 0=>retP pat0
 | k+1=>sPatB T N lim (sPat lim k)
def atNx (s:PS):Bool:=isK T 1 s || isK T 2 s || isK T 3 s || isK T 4 s || isT T [116,114,117,101] s || isT T [102,97,108,115,101] s || isT T [114,101,97,100] s || isT T [40] s
def iBr (ex:PM ExpD):PM ExpD:=nowP T fun t=>stepP (wantP T [40]) <|
 iteG (isT T [41]) (retP (leaf 4 [] 0 [] t.p)) <|
 iteB (fun s=>!decide (s.c=0)) (retP (leaf 4 [] 0 [] t.p)) <|
 bindP ex fun a=>bindP (many (isT T [44]) (advP ex) N) fun l=>stepP (wantP T [41]) <|
 retP (if l=[] then a else .mk 7 [] 0 [] t.p (a :: l) [])
def iAtom (ex:PM ExpD):PM ExpD:=nowP T fun t =>
 iteG (isK T 1) (retP (leaf 1 [] t.n [] t.p)) <|
 iteG (isK T 2) (retP (leaf 2 [] 0 t.t t.p)) <|
 iteG (isT T [116,114,117,101]) (retP (leaf 3 [] 1 [] t.p)) <|
 iteG (isT T [102,97,108,115,101]) (retP (leaf 3 [] 0 [] t.p)) <|
 iteG (isK T 3) (retP (leaf 5 t.t 0 [] t.p)) <|
 iteG (isK T 4) (retP (leaf 6 t.t 0 [] t.p)) <|
 iteG (isT T [114,101,97,100]) (retP (leaf 15 t.t 0 [] t.p)) (iBr T N ex)
def primT (s:PS):Bool:=isT T [112,114,105,110,116] s || isT T [101,120,105,116] s || isT T [115,105,122,101] s || isT T [114,101,102] s || isT T [33] s
def node1 (k:Int) (n:List UInt8) (p:Int) (a:ExpD):ExpD:=.mk k n 0 [] p [a] []
def node2 (k:Int) (n:List UInt8) (p:Int) (a b:ExpD):ExpD:=.mk k n 0 [] p [a,b] []
def iPre (ex:PM ExpD):PM ExpD:=nowP T fun t =>
 iteG (primT T) (bindP (iAtom T N ex) fun a=>retP (node1 15 t.t t.p a)) <|
 iteG (isK T 4) (iteB (atNx T) (bindP (iAtom T N ex) fun a=>retP (node1 6 t.t t.p a)) (retP (leaf 6 t.t 0 [] t.p))) (iAtom T N ex)
def appG (atom:PM ExpD) (a:ExpD):PM ExpD:=carry (atNx T) (fun a=>bindP atom fun b=>retP (node2 9 [] a.pos a b)) N a
def opT (L:List (List UInt8)) (s:PS):Bool:=isK T 7 s && decide ((tokA T s).t∈L)
def rowG (L:List (List UInt8)) (side:PM ExpD) (a:ExpD):PM ExpD:=carry (opT T L) (fun a=>nowP T fun t=>advP (bindP side fun b=>retP (node2 14 t.t t.p a b))) N a
def iApp (ex:PM ExpD):PM ExpD:=bindP (iPre T N ex) (appG T N (iAtom T N ex))
def iRow1 (ex:PM ExpD):PM ExpD:=bindP (iApp T N ex) (rowG T N [[42]] (iApp T N ex))
def iRow0 (ex:PM ExpD):PM ExpD:=bindP (iRow1 T N ex) (rowG T N [[43],[45],[94]] (iRow1 T N ex))
def onceG (g:PS->Bool) (side:PM ExpD) (a:ExpD):PM ExpD:=nowP T fun t=>iteG g (bindP side fun b=>retP (node2 14 t.t t.p a b)) (retP a)
def iOnce1 (ex:PM ExpD):PM ExpD:=bindP (iRow0 T N ex) (onceG T (fun s=>isT T [61] s || isT T [60] s) (iRow0 T N ex))
def iOnce0 (ex:PM ExpD):PM ExpD:=bindP (iOnce1 T N ex) (onceG T (isT T [58,61]) (iOnce1 T N ex))
def letP (ex:PM ExpD) (p:Int):PM ExpD :=
 iteG (isT T [114,101,99])
  (bindP (wordP T 3) fun n=>bindP (wordP T 3) fun f=>stepP (wantP T [61]) <| bindP ex fun a=>stepP (wantP T [105,110]) <| bindP ex fun b=>retP (.mk 11 n 0 f p [a,b] []))
  (bindP (wordP T 3) fun n=>stepP (wantP T [61]) <| bindP ex fun a=>stepP (wantP T [105,110]) <| bindP ex fun b=>retP (.mk 10 n 0 [] p [a,b] []))
def funP (ex:PM ExpD) (p:Int):PM ExpD:=bindP (wordP T 3) fun n=>stepP (wantP T [45,62]) <| bindP ex fun a=>retP (node1 8 n p a)
def ifP (ex:PM ExpD) (p:Int):PM ExpD:=bindP ex fun a=>stepP (wantP T [116,104,101,110]) <| bindP ex fun b=>stepP (wantP T [101,108,115,101]) <| bindP ex fun c=>retP (.mk 12 [] 0 [] p [a,b,c] [])
def armP (pat:PM PatD) (ex:PM ExpD):PM ArmD:=bindP pat fun a=>stepP (wantP T [45,62]) <| bindP ex fun e=>retP (.mk a e)
def armsP (arm:PM ArmD):PM (List ArmD):=bindP arm fun a=>bindP (many (isT T [124]) (advP arm) N) fun l=>retP (a :: l)
def iMatch (pat:PM PatD) (ex:PM ExpD) (p:Int):PM ExpD:=bindP ex fun a=>stepP (wantP T [119,105,116,104]) <| stepP (wantP T [124]) <|
 bindP (iteB (fun s=>decide (s.c=0)) (armsP T N (armP T pat ex)) (retP [])) fun l=>stepP (wantP T [101,110,100]) <| retP (.mk 13 [] 0 [] p [a] l)
def iExpB (most:Nat) (pat:PM PatD) (ex:PM ExpD) (d:Nat):PM ExpD:=deepP T most d exp0 <| nowP T fun t =>
 iteG (isT T [108,101,116]) (letP T ex t.p) <| iteG (isT T [102,117,110]) (funP T ex t.p) <| iteG (isT T [105,102]) (ifP T ex t.p) <|
 iteG (isT T [109,97,116,99,104]) (iMatch T N pat ex t.p) (iOnce0 T N ex)
def iExp (most:Nat):Nat->Nat->PM ExpD
 | 0,_=>retP exp0
 | k+1,d=>iExpB T N most (iPat T N most k (d+1)) (iExp most k (d+1)) d
def sAtIn (t:Tok) (ex:PM ExpD):PM ExpD :=
 if t.k=1 then retP (leaf 1 [] t.n [] t.p) else if t.k=2 then retP (leaf 2 [] 0 t.t t.p) else if t.k=3 then retP (leaf 5 t.t 0 [] t.p) else
 if t.k=4 then retP (leaf 6 t.t 0 [] t.p) else if t.t=[114,101,97,100] then retP (leaf 15 t.t 0 [] t.p) else
 if t.t=[116,114,117,101] then retP (leaf 3 [] 1 [] t.p) else if t.t=[102,97,108,115,101] then retP (leaf 3 [] 0 [] t.p) else
 iteG (isT T [41]) (retP (leaf 4 [] 0 [] t.p)) <|
 bindP ex fun a=>bindP (many (isT T [44]) (advP ex) N) fun l=>stepP (wantP T [41]) <|
 retP (if l=[] then a else .mk 7 [] 0 [] t.p (a :: l) [])
def sAtom (ex:PM ExpD):PM ExpD:=nowP T fun t=>iteG (atNx T) (sAtIn T N t ex) (stepP (failP T 11) (retP exp0))
def sPre (ex:PM ExpD):PM ExpD:=nowP T fun t =>
 iteG (primT T) (bindP (sAtom T N ex) fun a=>retP (node1 15 t.t t.p a)) <|
 bindP (sAtom T N ex) fun e=>if t.k=4 then iteB (atNx T) (bindP (sAtom T N ex) fun a=>retP (e.kid [a])) (retP e) else retP e
def sOps5 (ex:PM ExpD):PM ExpD:=bindP (sPre T N ex) (appG T N (sAtom T N ex))
def sOps4 (ex:PM ExpD):PM ExpD:=bindP (sOps5 T N ex) (rowG T N [[42]] (sOps5 T N ex))
def sOps3 (ex:PM ExpD):PM ExpD:=bindP (sOps4 T N ex) (rowG T N [[43],[45],[94]] (sOps4 T N ex))
def sOps2 (ex:PM ExpD):PM ExpD:=bindP (sOps3 T N ex) (onceG T (opT T [[61],[60]]) (sOps3 T N ex))
def sOps1 (ex:PM ExpD):PM ExpD:=bindP (sOps2 T N ex) (onceG T (opT T [[58,61]]) (sOps2 T N ex))
def sMatch (pat:PM PatD) (ex:PM ExpD) (p:Int):PM ExpD:=bindP ex fun a=>stepP (wantP T [119,105,116,104]) <| stepP (wantP T [124]) <|
 bindP (armsP T N (armP T pat ex)) fun l=>stepP (wantP T [101,110,100]) <| retP (.mk 13 [] 0 [] p [a] l)
def sExpB (lim:Nat) (pat:PM PatD) (ex:PM ExpD):PM ExpD:=opnP T lim exp0 <| nowP T fun t =>
 iteG (isT T [108,101,116]) (letP T ex t.p) <| iteG (isT T [102,117,110]) (funP T ex t.p) <| iteG (isT T [105,102]) (ifP T ex t.p) <|
 iteG (isT T [109,97,116,99,104]) (sMatch T N pat ex t.p) (sOps1 T N ex)
def sExp (lim:Nat):Nat->PM ExpD
 | 0=>retP exp0
 | k+1=>sExpB T N lim (sPat T N lim k) (sExp lim k)
def endP (s:PS):PS:=if isK T 8 s then s else failP T 11 s
def oneP (ex:PM ExpD):PM ExpD:=bindP ex fun e=>stepP (endP T) <| retP e
end
section
variable {T:List Tok} {N:Nat}
theorem only_tySt:Only T (tySt T):=((only_isK T (by decide)).or (only_isK T (by decide))).or (only_isT T _)
theorem only_patSt:Only T (patSt T):=((((((only_isK T (by decide)).or (only_isK T (by decide))).or (only_isK T (by decide))).or (only_isT T _)).or (only_isT T _)).or (only_isT T _)).or (only_isT T _)
theorem only_atNx:Only T (atNx T):=(((((((only_isK T (by decide)).or (only_isK T (by decide))).or (only_isK T (by decide))).or (only_isK T (by decide))).or (only_isT T _)).or (only_isT T _)).or (only_isT T _)).or (only_isT T _)
theorem only_primT:Only T (primT T):=((((only_isT T _).or (only_isT T _)).or (only_isT T _)).or (only_isT T _)).or (only_isT T _)
theorem only_opT (L):Only T (opT T L):=fun s h=>by
 have:isK T 7 s=true:=by unfold opT at h; cases hk:isK T 7 s with
  | true=>rfl
  | false=>rw [hk] at h; cases h
 exact only_isK T (by decide) s this
theorem stay_end (T):Stay T (endP T):=fun s h=>by
 unfold endP
 split
 ·exact Ok1.rfl h
 ·exact stay_fail T 11 s h
theorem StayM.word (hT:ToksOk T) {k:Int} (hk:k≠8):StayM T (wordP T k):=stay_word hT hk
variable (hT:ToksOk T)
include hT
omit hT in
theorem iteS {c:Prop} [Decidable c] {α:Type} {m1 m2:PM α} (h1:StayM T m1) (h2:StayM T m2):StayM T (if c then m1 else m2):=by
 split
 ·exact h1
 ·exact h2
theorem stay_tyAt {ty:PM TyE} (hty:StayM T ty):StayM T (tyAt T ty):=(StayM.now fun _=>(StayM.iteG hT (only_isK T (by decide)) (StayM.ret _) (StayM.iteG hT (only_isK T (by decide)) (StayM.ret _) (StayM.step (stay_want hT _) (StayM.bind hty fun _=>(StayM.step (stay_want hT _) (StayM.ret _)))))))
theorem stay_tyPost {ty:PM TyE} (hty:StayM T ty):StayM T (tyPost T N ty):=(StayM.now fun _=>(StayM.iteG hT (only_isT T _) (StayM.bind (stay_tyAt hT hty) fun _=>(StayM.ret _)) (StayM.iteG hT (only_isK T (by decide)) (StayM.bind (StayM.many only_tySt (stay_tyAt hT hty) _) fun _=>(StayM.ret _)) (stay_tyAt hT hty))))
theorem stay_iTyB {most:Nat} {ty:PM TyE} {d:Nat} (hty:StayM T ty):StayM T (iTyB T N most ty d):=(StayM.deep (StayM.bind (stay_tyPost hT hty) fun _=>(StayM.bind (StayM.manyA hT (only_isT T _) (stay_tyPost hT hty) _) fun _=>(StayM.iteG hT (only_isT T _) (StayM.bind hty fun _=>(StayM.ret _)) (StayM.ret _)))))
theorem stay_iPatBr {pat:PM PatD} (hpat:StayM T pat):StayM T (iPatBr T N pat):=(StayM.now fun _=>(StayM.step (stay_want hT _) (StayM.iteG hT (only_isT T _) (StayM.ret _) (StayM.iteB (StayM.ret _) (StayM.bind hpat fun _=>(StayM.bind (StayM.manyA hT (only_isT T _) hpat _) fun _=>(StayM.step (stay_want hT _) (StayM.ret _))))))))
theorem stay_iPatA {pat:PM PatD} (hpat:StayM T pat):StayM T (iPatA T N pat):=(StayM.now fun _=>(StayM.iteG hT (only_isT T _) (StayM.ret _) (StayM.iteG hT (only_isK T (by decide)) (StayM.ret _) (StayM.iteG hT (only_isK T (by decide)) (StayM.ret _) (StayM.iteG hT (only_isT T _) (StayM.ret _) (StayM.iteG hT (only_isT T _) (StayM.ret _) (StayM.iteG hT (only_isK T (by decide)) (StayM.ret _) (stay_iPatBr hT hpat))))))))
theorem stay_iPatB {most:Nat} {pat:PM PatD} {d:Nat} (hpat:StayM T pat):StayM T (iPatB T N most pat d):=(StayM.deep (StayM.now fun _=>(StayM.iteG hT (only_isK T (by decide)) (StayM.iteB (StayM.bind (stay_iPatA hT hpat) fun _=>(StayM.ret _)) (StayM.ret _)) (stay_iPatA hT hpat))))
theorem stay_sPatIn {t:Tok} {pat:PM PatD} (hpat:StayM T pat):StayM T (sPatIn T N t pat):=(iteS (StayM.ret _) (iteS (StayM.ret _) (iteS (StayM.ret _) (iteS (StayM.ret _) (iteS (StayM.ret _) (iteS (StayM.ret _) (StayM.iteG hT (only_isT T _) (StayM.ret _) (StayM.bind hpat fun _=>(StayM.bind (StayM.manyA hT (only_isT T _) hpat _) fun _=>(StayM.step (stay_want hT _) (StayM.ret _)))))))))))
theorem stay_sPatA {pat:PM PatD} (hpat:StayM T pat):StayM T (sPatA T N pat):=(StayM.now fun _=>(StayM.iteG hT only_patSt (stay_sPatIn hT hpat) (StayM.step (stay_fail T 11) (StayM.ret _))))
theorem stay_sPatB {lim:Nat} {pat:PM PatD} (hpat:StayM T pat):StayM T (sPatB T N lim pat):=(StayM.opn (StayM.now fun _=>(StayM.bind (stay_sPatA hT hpat) fun _=>(iteS (StayM.iteB (StayM.bind (stay_sPatA hT hpat) fun _=>(StayM.ret _)) (StayM.ret _)) (StayM.ret _)))))
theorem stay_iBr {ex:PM ExpD} (hex:StayM T ex):StayM T (iBr T N ex):=(StayM.now fun _=>(StayM.step (stay_want hT _) (StayM.iteG hT (only_isT T _) (StayM.ret _) (StayM.iteB (StayM.ret _) (StayM.bind hex fun _=>(StayM.bind (StayM.manyA hT (only_isT T _) hex _) fun _=>(StayM.step (stay_want hT _) (StayM.ret _))))))))
theorem stay_iAtom {ex:PM ExpD} (hex:StayM T ex):StayM T (iAtom T N ex):=(StayM.now fun _=>(StayM.iteG hT (only_isK T (by decide)) (StayM.ret _) (StayM.iteG hT (only_isK T (by decide)) (StayM.ret _) (StayM.iteG hT (only_isT T _) (StayM.ret _) (StayM.iteG hT (only_isT T _) (StayM.ret _) (StayM.iteG hT (only_isK T (by decide)) (StayM.ret _) (StayM.iteG hT (only_isK T (by decide)) (StayM.ret _) (StayM.iteG hT (only_isT T _) (StayM.ret _) (stay_iBr hT hex)))))))))
theorem stay_iPre {ex:PM ExpD} (hex:StayM T ex):StayM T (iPre T N ex):=(StayM.now fun _=>(StayM.iteG hT only_primT (StayM.bind (stay_iAtom hT hex) fun _=>(StayM.ret _)) (StayM.iteG hT (only_isK T (by decide)) (StayM.iteB (StayM.bind (stay_iAtom hT hex) fun _=>(StayM.ret _)) (StayM.ret _)) (stay_iAtom hT hex))))
theorem stay_appG {atom:PM ExpD} {a:ExpD} (hatom:StayM T atom):StayM T (appG T N atom a):=StayM.carry only_atNx (fun a=>StayM.bind hatom fun _=>StayM.ret _) _ _
theorem stay_rowG {L:List (List UInt8)} {side:PM ExpD} {a:ExpD} (hside:StayM T side):StayM T (rowG T N L side a):=StayM.carryA hT (only_opT _) (fun t a=>StayM.bind hside fun _=>StayM.ret _) _ _
theorem stay_iApp {ex:PM ExpD} (hex:StayM T ex):StayM T (iApp T N ex):=(StayM.bind (stay_iPre hT hex) fun _=>(stay_appG hT (stay_iAtom hT hex)))
theorem stay_iRow1 {ex:PM ExpD} (hex:StayM T ex):StayM T (iRow1 T N ex):=(StayM.bind (stay_iApp hT hex) fun _=>(stay_rowG hT (stay_iApp hT hex)))
theorem stay_iRow0 {ex:PM ExpD} (hex:StayM T ex):StayM T (iRow0 T N ex):=(StayM.bind (stay_iRow1 hT hex) fun _=>(stay_rowG hT (stay_iRow1 hT hex)))
theorem stay_onceG {g:PS->Bool} {side:PM ExpD} {a:ExpD} (hg:Only T g) (hside:StayM T side):StayM T (onceG T g side a):=(StayM.now fun _=>(StayM.iteG hT hg (StayM.bind hside fun _=>(StayM.ret _)) (StayM.ret _)))
theorem stay_iOnce1 {ex:PM ExpD} (hex:StayM T ex):StayM T (iOnce1 T N ex):=(StayM.bind (stay_iRow0 hT hex) fun _=>(stay_onceG hT ((only_isT T _).or (only_isT T _)) (stay_iRow0 hT hex)))
theorem stay_iOnce0 {ex:PM ExpD} (hex:StayM T ex):StayM T (iOnce0 T N ex):=(StayM.bind (stay_iOnce1 hT hex) fun _=>(stay_onceG hT (only_isT T _) (stay_iOnce1 hT hex)))
theorem stay_letP {ex:PM ExpD} {p:Int} (hex:StayM T ex):StayM T (letP T ex p):=(StayM.iteG hT (only_isT T _) (StayM.bind (StayM.word hT (by decide)) fun _=>(StayM.bind (StayM.word hT (by decide)) fun _=>(StayM.step (stay_want hT _) (StayM.bind hex fun _=>(StayM.step (stay_want hT _) (StayM.bind hex fun _=>(StayM.ret _))))))) (StayM.bind (StayM.word hT (by decide)) fun _=>(StayM.step (stay_want hT _) (StayM.bind hex fun _=>(StayM.step (stay_want hT _) (StayM.bind hex fun _=>(StayM.ret _)))))))
theorem stay_funP {ex:PM ExpD} {p:Int} (hex:StayM T ex):StayM T (funP T ex p):=(StayM.bind (StayM.word hT (by decide)) fun _=>(StayM.step (stay_want hT _) (StayM.bind hex fun _=>(StayM.ret _))))
theorem stay_ifP {ex:PM ExpD} {p:Int} (hex:StayM T ex):StayM T (ifP T ex p):=(StayM.bind hex fun _=>(StayM.step (stay_want hT _) (StayM.bind hex fun _=>(StayM.step (stay_want hT _) (StayM.bind hex fun _=>(StayM.ret _))))))
theorem stay_armP {pat:PM PatD} {ex:PM ExpD} (hpat:StayM T pat) (hex:StayM T ex):StayM T (armP T pat ex):=(StayM.bind hpat fun _=>(StayM.step (stay_want hT _) (StayM.bind hex fun _=>(StayM.ret _))))
theorem stay_armsP {arm:PM ArmD} (harm:StayM T arm):StayM T (armsP T N arm):=(StayM.bind harm fun _=>(StayM.bind (StayM.manyA hT (only_isT T _) harm _) fun _=>(StayM.ret _)))
theorem stay_iMatch {pat:PM PatD} {ex:PM ExpD} {p:Int} (hpat:StayM T pat) (hex:StayM T ex):StayM T (iMatch T N pat ex p):=(StayM.bind hex fun _=>(StayM.step (stay_want hT _) (StayM.step (stay_want hT _) (StayM.bind (StayM.iteB (stay_armsP hT (stay_armP hT hpat hex)) (StayM.ret _)) fun _=>(StayM.step (stay_want hT _) (StayM.ret _))))))
theorem stay_iExpB {most:Nat} {pat:PM PatD} {ex:PM ExpD} {d:Nat} (hpat:StayM T pat) (hex:StayM T ex):StayM T (iExpB T N most pat ex d):=(StayM.deep (StayM.now fun _=>(StayM.iteG hT (only_isT T _) (stay_letP hT hex) (StayM.iteG hT (only_isT T _) (stay_funP hT hex) (StayM.iteG hT (only_isT T _) (stay_ifP hT hex) (StayM.iteG hT (only_isT T _) (stay_iMatch hT hpat hex) (stay_iOnce0 hT hex)))))))
theorem stay_sAtIn {t:Tok} {ex:PM ExpD} (hex:StayM T ex):StayM T (sAtIn T N t ex):=(iteS (StayM.ret _) (iteS (StayM.ret _) (iteS (StayM.ret _) (iteS (StayM.ret _) (iteS (StayM.ret _) (iteS (StayM.ret _) (iteS (StayM.ret _) (StayM.iteG hT (only_isT T _) (StayM.ret _) (StayM.bind hex fun _=>(StayM.bind (StayM.manyA hT (only_isT T _) hex _) fun _=>(StayM.step (stay_want hT _) (StayM.ret _))))))))))))
theorem stay_sAtom {ex:PM ExpD} (hex:StayM T ex):StayM T (sAtom T N ex):=(StayM.now fun _=>(StayM.iteG hT only_atNx (stay_sAtIn hT hex) (StayM.step (stay_fail T 11) (StayM.ret _))))
theorem stay_sPre {ex:PM ExpD} (hex:StayM T ex):StayM T (sPre T N ex):=(StayM.now fun _=>(StayM.iteG hT only_primT (StayM.bind (stay_sAtom hT hex) fun _=>(StayM.ret _)) (StayM.bind (stay_sAtom hT hex) fun _=>(iteS (StayM.iteB (StayM.bind (stay_sAtom hT hex) fun _=>(StayM.ret _)) (StayM.ret _)) (StayM.ret _)))))
theorem stay_sOps5 {ex:PM ExpD} (hex:StayM T ex):StayM T (sOps5 T N ex):=(StayM.bind (stay_sPre hT hex) fun _=>(stay_appG hT (stay_sAtom hT hex)))
theorem stay_sOps4 {ex:PM ExpD} (hex:StayM T ex):StayM T (sOps4 T N ex):=(StayM.bind (stay_sOps5 hT hex) fun _=>(stay_rowG hT (stay_sOps5 hT hex)))
theorem stay_sOps3 {ex:PM ExpD} (hex:StayM T ex):StayM T (sOps3 T N ex):=(StayM.bind (stay_sOps4 hT hex) fun _=>(stay_rowG hT (stay_sOps4 hT hex)))
theorem stay_sOps2 {ex:PM ExpD} (hex:StayM T ex):StayM T (sOps2 T N ex):=(StayM.bind (stay_sOps3 hT hex) fun _=>(stay_onceG hT (only_opT _) (stay_sOps3 hT hex)))
theorem stay_sOps1 {ex:PM ExpD} (hex:StayM T ex):StayM T (sOps1 T N ex):=(StayM.bind (stay_sOps2 hT hex) fun _=>(stay_onceG hT (only_opT _) (stay_sOps2 hT hex)))
theorem stay_sMatch {pat:PM PatD} {ex:PM ExpD} {p:Int} (hpat:StayM T pat) (hex:StayM T ex):StayM T (sMatch T N pat ex p):=(StayM.bind hex fun _=>(StayM.step (stay_want hT _) (StayM.step (stay_want hT _) (StayM.bind (stay_armsP hT (stay_armP hT hpat hex)) fun _=>(StayM.step (stay_want hT _) (StayM.ret _))))))
theorem stay_sExpB {lim:Nat} {pat:PM PatD} {ex:PM ExpD} (hpat:StayM T pat) (hex:StayM T ex):StayM T (sExpB T N lim pat ex):=(StayM.opn (StayM.now fun _=>(StayM.iteG hT (only_isT T _) (stay_letP hT hex) (StayM.iteG hT (only_isT T _) (stay_funP hT hex) (StayM.iteG hT (only_isT T _) (stay_ifP hT hex) (StayM.iteG hT (only_isT T _) (stay_sMatch hT hpat hex) (stay_sOps1 hT hex)))))))
theorem stay_iTy (most:Nat):∀ k d,StayM T (iTy T N most k d)
 | 0,d=>StayM.ret _
 | k+1,d=>stay_iTyB hT (stay_iTy most k (d+1))
theorem stay_iPat (most:Nat):∀ k d,StayM T (iPat T N most k d)
 | 0,d=>StayM.ret _
 | k+1,d=>stay_iPatB hT (stay_iPat most k (d+1))
theorem stay_sPat (lim:Nat):∀ k,StayM T (sPat T N lim k)
 | 0=>StayM.ret _
 | k+1=>stay_sPatB hT (stay_sPat lim k)
theorem stay_iExp (most:Nat):∀ k d,StayM T (iExp T N most k d)
 | 0,d=>StayM.ret _
 | k+1,d=>stay_iExpB hT (stay_iPat hT most k (d+1)) (stay_iExp most k (d+1))
theorem stay_sExp (lim:Nat):∀ k,StayM T (sExp T N lim k)
 | 0=>StayM.ret _
 | k+1=>stay_sExpB hT (stay_sPat hT lim k) (stay_sExp lim k)
end
structure Eqv (T:List Tok) (e:Nat) (s t:PS):Prop where
 i:s.i=t.i
 d:s.d=t.d
 c:s.c=0
 c2:t.c=0
 nest:t.nest=e
 lt:s.i<T.length
structure Bad (T:List Tok) (s t:PS):Prop where
 ne:s.c≠0
 c:s.c=t.c
 ps:s.ps=t.ps
 lt:s.i<T.length
 lt2:t.i<T.length
def Out (T:List Tok) (e:Nat) {α:Type} (r q:α × PS):Prop:=(r.1=q.1/\Eqv T e r.2 q.2)\/Bad T r.2 q.2
def Sim (T:List Tok) (e:Nat) {α:Type} (m n:PM α):Prop:=∀ s t,Eqv T e s t->Out T e (m s) (n t)
section
variable {T:List Tok} {e:Nat}
theorem Eqv.tok {s t:PS} (h:Eqv T e s t):tokA T s=tokA T t:=by unfold tokA; rw [h.i]
theorem Eqv.isT {s t:PS} (h:Eqv T e s t) (x):isT T x s=isT T x t:=by unfold Pg.isT; rw [h.tok,h.c,h.c2]
theorem Eqv.isK {s t:PS} (h:Eqv T e s t) (k):isK T k s=isK T k t:=by unfold Pg.isK; rw [h.tok,h.c,h.c2]
def Same (T:List Tok) (e:Nat) (g g':PS->Bool):Prop:=∀ s t,Eqv T e s t->g s=g' t
theorem same_isT (x):Same T e (isT T x) (isT T x):=fun s t h=>h.isT x
theorem same_patSt:Same T e (patSt T) (patSt T):=fun s t h=>by simp only [patSt,h.isT,h.isK]
theorem same_atNx:Same T e (atNx T) (atNx T):=fun s t h=>by simp only [atNx,h.isT,h.isK]
theorem same_primT:Same T e (primT T) (primT T):=fun s t h=>by simp only [primT,h.isT,h.isK]
theorem same_opT (L):Same T e (opT T L) (opT T L):=fun s t h=>by simp only [opT,h.isK,h.tok]
theorem Eqv.adv (hT:ToksOk T) {s t:PS} (h:Eqv T e s t) (hk:(tokA T s).k≠8):Eqv T e (Pg.adv s) (Pg.adv t) :=
 ⟨by simp only [Pg.adv,h.i],h.d,h.c,h.c2,h.nest,adv_at hT h.lt hk⟩
theorem Eqv.fail {s t:PS} (h:Eqv T e s t) {c:Int} (hc:c≠0):Bad T (failP T c s) (failP T c t):=by
 rw [failP_0 h.c,failP_0 h.c2]
 exact ⟨hc,rfl,by simp only [h.tok],h.lt,by show t.i<_; rw [<- h.i]; exact h.lt⟩
theorem Eqv.want (hT:ToksOk T) {s t:PS} (h:Eqv T e s t) (x):Eqv T e (wantP T x s) (wantP T x t)\/Bad T (wantP T x s) (wantP T x t):=by
 unfold wantP
 rw [<- h.isT]
 by_cases hb:Pg.isT T x s=true
 ·rw [if_pos hb,if_pos hb]; exact .inl (h.adv hT (isT_k hb).2)
 ·rw [if_neg hb,if_neg hb]; exact .inr (h.fail (by decide))
theorem Eqv.endd {s t:PS} (h:Eqv T e s t):Eqv T e (endP T s) (endP T t)\/Bad T (endP T s) (endP T t):=by
 unfold endP
 rw [<- h.isK]
 by_cases hb:Pg.isK T 8 s=true
 ·rw [if_pos hb,if_pos hb]; exact .inl h
 ·rw [if_neg hb,if_neg hb]; exact .inr (h.fail (by decide))
theorem Bad.stay {α β:Type} {s t:PS} (h:Bad T s t) {m:PM α} {n:PM β} (hm:StayM T m) (hn:StayM T n):Bad T (m s).2 (n t).2:=by
 rw [(hm s h.lt).2.2.1 h.ne,(hn t h.lt2).2.2.1 (by rw [<- h.c]; exact h.ne)]; exact h
theorem sim_ret {α:Type} (a:α):Sim T e (retP a) (retP a):=fun s t h=>.inl ⟨rfl,h⟩
theorem sim_bind {α β:Type} {m n:PM α} {k l:α->PM β} (h:Sim T e m n) (hk:∀ a,StayM T (k a)) (hl:∀ a,StayM T (l a)) (hkl:∀ a,Sim T e (k a) (l a)):Sim T e (bindP m k) (bindP n l):=fun s t hst=>by
 rcases h s t hst with ⟨h1,h2⟩ | h1
 ·have:=hkl (m s).1 _ _ h2
  unfold bindP
  rwa [<- h1]
 ·exact .inr (h1.stay (hk _) (hl _))
theorem sim_want (hT:ToksOk T) {α:Type} {x} {m n:PM α} (hm:StayM T m) (hn:StayM T n) (h:Sim T e m n):Sim T e (stepP (wantP T x) m) (stepP (wantP T x) n):=fun s t hst=>by
 rcases hst.want hT x with h1 | h1
 ·exact h _ _ h1
 ·exact .inr (h1.stay hm hn)
theorem sim_end {α:Type} {m n:PM α} (hm:StayM T m) (hn:StayM T n) (h:Sim T e m n):Sim T e (stepP (endP T) m) (stepP (endP T) n):=fun s t hst=>by
 rcases hst.endd with h1 | h1
 ·exact h _ _ h1
 ·exact .inr (h1.stay hm hn)
theorem sim_now {α:Type} {k l:Tok->PM α} (h:∀ x,Sim T e (k x) (l x)):Sim T e (nowP T k) (nowP T l):=fun s t hst=>by
 unfold nowP
 rw [<- hst.tok]; exact h _ s t hst
theorem sim_iteG (hT:ToksOk T) {α:Type} {g g':PS->Bool} {m1 m2 n1 n2:PM α} (hg:Only T g) (hs:Same T e g g') (h1:Sim T e m1 n1) (h2:Sim T e m2 n2):Sim T e (iteG g m1 m2) (iteG g' n1 n2):=fun s t hst=>by
 unfold iteG
 rw [<- hs s t hst]
 by_cases hb:g s=true
 ·rw [if_pos hb,if_pos hb]; exact h1 _ _ (hst.adv hT (hg s hb).2)
 ·rw [if_neg hb,if_neg hb]; exact h2 _ _ hst
theorem sim_iteB {α:Type} {g g':PS->Bool} {m1 m2 n1 n2:PM α} (hs:Same T e g g') (h1:Sim T e m1 n1) (h2:Sim T e m2 n2):Sim T e (iteB g m1 m2) (iteB g' n1 n2):=fun s t hst=>by
 unfold iteB
 rw [<- hs s t hst]
 by_cases hb:g s=true
 ·rw [if_pos hb,if_pos hb]; exact h1 _ _ hst
 ·rw [if_neg hb,if_neg hb]; exact h2 _ _ hst
theorem sim_word (hT:ToksOk T) {k:Int} (hk:k≠8):Sim T e (wordP T k) (wordP T k):=fun s t hst=>by
 unfold wordP
 rw [<- hst.isK]
 by_cases hb:isK T k s=true
 ·rw [if_pos hb,if_pos hb,<- hst.tok]; exact .inl ⟨rfl,hst.adv hT (by rw [(isK_k hb).2]; exact hk)⟩
 ·rw [if_neg hb,if_neg hb]; exact .inr (hst.fail (by decide))
theorem sim_many {α : Type} {g : PS → Bool} {m n : PM α} (hg : Only T g) (hs : Same T e g g) (hm : StayM T (many g m 1)) (hst : ∀ j, StayM T (many g m j)) (hst2 : ∀ j, StayM T (many g n j)) (h : ∀ s t, Eqv T e s t → g s = true → Out T e (m s) (n t)) : ∀ j, Sim T e (many g m j) (many g n j)
  | 0 => sim_ret []
  | j + 1 => fun s t hst' => by
    by_cases hb : g s = true
    · have hb2 : g t = true := by rw [← hs s t hst']; exact hb
      simp only [many, hb, hb2, if_true]
      rcases h s t hst' hb with ⟨h1, h2⟩ | h1
      · rcases sim_many hg hs hm hst hst2 h j _ _ h2 with ⟨h3, h4⟩ | h3
        · exact .inl ⟨by rw [h1, h3], h4⟩
        · exact .inr h3
      · exact .inr (h1.stay (hst j) (hst2 j))
    · have hb2 : g t = false := by rw [← hs s t hst']; simpa using hb
      have hb' : g s = false := by simpa using hb
      rw [many_c hb', many_c hb2]
      exact .inl ⟨rfl, hst'⟩
theorem sim_carry {α : Type} {g : PS → Bool} {m n : α → PM α} (hs : Same T e g g) (hst : ∀ j a, StayM T (carry g m j a)) (hst2 : ∀ j a, StayM T (carry g n j a)) (h : ∀ a s t, Eqv T e s t → g s = true → Out T e (m a s) (n a t)) : ∀ j a, Sim T e (carry g m j a) (carry g n j a)
  | 0, a => sim_ret a
  | j + 1, a => fun s t hst' => by
    by_cases hb : g s = true
    · have hb2 : g t = true := by rw [← hs s t hst']; exact hb
      simp only [carry, hb, hb2, if_true]
      rcases h a s t hst' hb with ⟨h1, h2⟩ | h1
      · rw [h1]; exact sim_carry hs hst hst2 h j _ _ _ h2
      · exact .inr (h1.stay (hst j _) (hst2 j _))
    · have hb2 : g t = false := by rw [← hs s t hst']; simpa using hb
      have hb' : g s = false := by simpa using hb
      rw [carry_c hb', carry_c hb2]
      exact .inl ⟨rfl, hst'⟩
theorem sim_manyA (hT:ToksOk T) {α:Type} {g:PS->Bool} {m n:PM α} (hg:Only T g) (hs:Same T e g g) (hm:StayM T m) (hn:StayM T n) (h:Sim T e m n) (j:Nat):Sim T e (many g (advP m) j) (many g (advP n) j) :=
 sim_many hg hs (hm:=StayM.manyA hT hg hm 1) (fun j=>StayM.manyA hT hg hm j) (fun j=>StayM.manyA hT hg hn j) (fun s t hst hb=>h _ _ (hst.adv hT (hg s hb).2)) j
theorem sim_opn {α:Type} {most lim:Nat} {z:α} {m n:PM α} (hml:most<e+1 ↔ e=lim) (h:Sim T (e+1) m n):Sim T e (deepP T most (e+1) z m) (opnP T lim z n):=fun s t hst=>by
 by_cases hd:most<e+1
 ·have he:t.c=0/\t.nest=lim:=⟨hst.c2,by rw [hst.nest]; exact hml.1 hd⟩
  have hb:=hst.fail (c:=12) (by decide)
  have e1:deeperP T most (e+1) s=failP T 12 s:=by
   unfold deeperP
   rw [if_pos hd]
   simp only [if_neg hb.ne]
  have hb2:(failP T 12 t).c≠0:=by rw [<- hb.c]; exact hb.ne
  have e2:opensP T lim t={ failP T 12 t with nest:=(failP T 12 t).nest+1 }:=by
   unfold opensP
   rw [if_pos he]
   simp only [hb2,false_and,if_false]
  refine .inr ?_
  unfold deepP opnP
  rw [e1,e2]
  rw [if_neg hb.ne,if_neg (show ¬ ({ failP T 12 t with nest:=(failP T 12 t).nest+1 }:PS).c=0 from hb2)]
  exact ⟨hb.ne,hb.c,hb.ps,hb.lt,hb.lt2⟩
 ·have he:¬ (t.c=0/\t.nest=lim):=fun h=>hd (hml.2 (by rw [<- hst.nest]; exact h.2))
  have e1:deeperP T most (e+1) s={ s with d:=max s.d (e+1) }:=by
   unfold deeperP
   rw [if_neg hd]
   simp only [hst.c,if_true]
  have e2:opensP T lim t={ t with nest:=e+1,d:=max s.d (e+1) }:=by
   unfold opensP
   rw [if_neg he]
   simp only [hst.c2,hst.nest,true_and,<- hst.d]
   split
   ·rw [Nat.max_eq_right (by omega)]
   ·rw [Nat.max_eq_left (by omega)]
  have h2:Eqv T (e+1) ({ s with d:=max s.d (e+1) }) ({ t with nest:=e+1,d:=max s.d (e+1) }):=⟨hst.i,rfl,hst.c,hst.c2,rfl,hst.lt⟩
  unfold deepP opnP
  rw [e1,e2,if_pos (show ({ s with d:=max s.d (e+1) }:PS).c=0 from hst.c),if_pos (show ({ t with nest:=e+1,d:=max s.d (e+1) }:PS).c=0 from hst.c2)]
  rcases h _ _ h2 with ⟨h3,h4⟩ | h3
  ·exact .inl ⟨h3,⟨h4.i,h4.d,h4.c,h4.c2,by show _ - 1=e; rw [h4.nest]; rfl,h4.lt⟩⟩
  ·exact .inr ⟨h3.ne,h3.c,h3.ps,h3.lt,h3.lt2⟩
end
def Sim3 (T:List Tok) (e:Nat) {α:Type} (m n:PM α):Prop:=StayM T m/\StayM T n/\Sim T e m n
section
variable {T:List Tok} {e N:Nat}
theorem s3_ret {α:Type} (a:α):Sim3 T e (retP a) (retP a):=⟨StayM.ret a,StayM.ret a,sim_ret a⟩
theorem s3_bind {α β:Type} {m n:PM α} {k l:α->PM β} (h:Sim3 T e m n) (hk:∀ a,Sim3 T e (k a) (l a)):Sim3 T e (bindP m k) (bindP n l) :=
 ⟨StayM.bind h.1 fun a=>(hk a).1,StayM.bind h.2.1 fun a=>(hk a).2.1,sim_bind h.2.2 (fun a=>(hk a).1) (fun a=>(hk a).2.1) fun a=>(hk a).2.2⟩
theorem s3_want (hT:ToksOk T) {α:Type} {x} {m n:PM α} (h:Sim3 T e m n):Sim3 T e (stepP (wantP T x) m) (stepP (wantP T x) n) :=
 ⟨StayM.step (stay_want hT x) h.1,StayM.step (stay_want hT x) h.2.1,sim_want hT h.1 h.2.1 h.2.2⟩
theorem s3_end {α:Type} {m n:PM α} (h:Sim3 T e m n):Sim3 T e (stepP (endP T) m) (stepP (endP T) n) :=
 ⟨StayM.step (stay_end T) h.1,StayM.step (stay_end T) h.2.1,sim_end h.1 h.2.1 h.2.2⟩
theorem s3_now {α:Type} {k l:Tok->PM α} (h:∀ x,Sim3 T e (k x) (l x)):Sim3 T e (nowP T k) (nowP T l) :=
 ⟨StayM.now fun x=>(h x).1,StayM.now fun x=>(h x).2.1,sim_now fun x=>(h x).2.2⟩
theorem s3_iteG (hT:ToksOk T) {α:Type} {g:PS->Bool} {m1 m2 n1 n2:PM α} (hg:Only T g) (hs:Same T e g g) (h1:Sim3 T e m1 n1) (h2:Sim3 T e m2 n2):Sim3 T e (iteG g m1 m2) (iteG g n1 n2) :=
 ⟨StayM.iteG hT hg h1.1 h2.1,StayM.iteG hT hg h1.2.1 h2.2.1,sim_iteG hT hg hs h1.2.2 h2.2.2⟩
theorem s3_iteB {α:Type} {g:PS->Bool} {m1 m2 n1 n2:PM α} (hs:Same T e g g) (h1:Sim3 T e m1 n1) (h2:Sim3 T e m2 n2):Sim3 T e (iteB g m1 m2) (iteB g n1 n2) :=
 ⟨StayM.iteB h1.1 h2.1,StayM.iteB h1.2.1 h2.2.1,sim_iteB hs h1.2.2 h2.2.2⟩
theorem s3_t (hT:ToksOk T) {α:Type} {x} {m1 m2 n1 n2:PM α} (h1:Sim3 T e m1 n1) (h2:Sim3 T e m2 n2):Sim3 T e (iteG (isT T x) m1 m2) (iteG (isT T x) n1 n2):=s3_iteG hT (only_isT T x) (same_isT x) h1 h2
theorem s3_word (hT:ToksOk T) {k:Int} (hk:k≠8):Sim3 T e (wordP T k) (wordP T k):=⟨StayM.word hT hk,StayM.word hT hk,sim_word hT hk⟩
theorem s3_manyA (hT:ToksOk T) {α:Type} {x} {m n:PM α} (h:Sim3 T e m n) (j:Nat):Sim3 T e (many (isT T x) (advP m) j) (many (isT T x) (advP n) j) :=
 ⟨StayM.manyA hT (only_isT T x) h.1 j,StayM.manyA hT (only_isT T x) h.2.1 j,sim_manyA hT (only_isT T x) (same_isT x) h.1 h.2.1 h.2.2 j⟩
theorem s3_opn {α:Type} {most lim:Nat} {z:α} {m n:PM α} (hml:most<e+1 ↔ e=lim) (h:Sim3 T (e+1) m n):Sim3 T e (deepP T most (e+1) z m) (opnP T lim z n) :=
 ⟨StayM.deep h.1,StayM.opn h.2.1,sim_opn hml h.2.2⟩
theorem s3_of {α:Type} {m n:PM α} (h1:StayM T m) (h2:StayM T n) (h:∀ s t,Eqv T e s t->Out T e (m s) (n t)):Sim3 T e m n:=⟨h1,h2,h⟩
theorem Sim3.at {α:Type} {m n:PM α} (h:Sim3 T e m n) {s t:PS} (hst:Eqv T e s t):Out T e (m s) (n t):=h.2.2 s t hst
variable (hT:ToksOk T)
include hT
omit hT in
theorem nowP_e {α:Type} (k:Tok->PM α) (s:PS):nowP T k s=k (tokA T s) s:=rfl
omit hT in
theorem iteG_t {α:Type} {g:PS->Bool} {m1 m2:PM α} {s:PS} (h:g s=true):iteG g m1 m2 s=m1 (adv s):=by simp [iteG,h]
omit hT in
theorem iteG_f {α:Type} {g:PS->Bool} {m1 m2:PM α} {s:PS} (h:g s=false):iteG g m1 m2 s=m2 s:=by simp [iteG,h]
omit hT in
theorem iteB_t {α:Type} {g:PS->Bool} {m1 m2:PM α} {s:PS} (h:g s=true):iteB g m1 m2 s=m1 s:=by simp [iteB,h]
omit hT in
theorem iteB_f {α:Type} {g:PS->Bool} {m1 m2:PM α} {s:PS} (h:g s=false):iteB g m1 m2 s=m2 s:=by simp [iteB,h]
omit hT in
theorem bindP_e {α β:Type} (m:PM α) (k:α->PM β) (s:PS):bindP m k s=k (m s).1 (m s).2:=rfl
omit hT in
theorem stepP_e {α:Type} (f:PS->PS) (m:PM α) (s:PS):stepP f m s=m (f s):=rfl
omit hT in
theorem retP_e {α:Type} (a:α) (s:PS):retP a s=(a,s):=rfl
omit hT in
theorem out_ret {α:Type} {a:α} {s t:PS} (h:Eqv T e s t):Out T e (retP a s) (retP a t):=.inl ⟨rfl,h⟩
theorem s3_list {α:Type} {pat pat':PM α} (h:Sim3 T e pat pat') (f:α->List α->α):Sim3 T e (bindP pat fun a=>bindP (many (isT T [44]) (advP pat) N) fun l=>stepP (wantP T [41]) (retP (f a l))) (bindP pat' fun a=>bindP (many (isT T [44]) (advP pat') N) fun l=>stepP (wantP T [41]) (retP (f a l))) :=
 s3_bind h fun a=>s3_bind (s3_manyA hT h N) fun l=>s3_want hT (s3_ret _)
theorem isT_iff {x} {s:PS} (hc:s.c=0):isT T x s=true ↔ ((tokA T s).k=6\/(tokA T s).k=7)/\(tokA T s).t=x:=by simp [isT,hc]
theorem isK_iff {x} {s:PS} (hc:s.c=0):isK T x s=true ↔ (tokA T s).k=x:=by simp [isK,hc]
theorem pat_in {pat pat' : PM PatD} (h : Sim3 T e pat pat') {s t : PS} (hst : Eqv T e s t) : Out T e (iPatA T N pat s) (sPatA T N pat' t) := by
  have hkt := fun x => hst.isK (T := T) x
  have htt := fun x => hst.isT (T := T) x
  have ki := fun x => isK_iff (x := x) hT hst.c
  have ti := fun x => isT_iff (x := x) hT hst.c
  unfold iPatA sPatA
  rw [nowP_e, nowP_e, ← hst.tok]
  generalize hx : tokA T s = x at ki ti ⊢
  have hp2 : ∀ {b}, patSt T s = b → patSt T t = b := fun h => by rw [← same_patSt s t hst]; exact h
  have hx8 := fun (hk : patSt T s = true) => hst.adv hT (only_patSt s hk).2
  have e0 : patSt T s = (isK T 3 s || isK T 1 s || isK T 4 s || isT T [95] s || isT T [116, 114, 117, 101] s || isT T [102, 97, 108, 115, 101] s || isT T [40] s) := rfl
  cases a1 : isT T [95] s with
  | true =>
    have hp : patSt T s = true := by simp [e0, a1]
    obtain ⟨q1, q2⟩ := (ti _).1 a1
    rw [iteG_t a1, iteG_t (hp2 hp)]
    unfold sPatIn
    rw [if_neg (by omega), if_neg (by omega), if_neg (by omega), if_pos q2]
    exact out_ret (hx8 hp)
  | false =>
  rw [iteG_f a1]
  cases a2 : isK T 3 s with
  | true =>
    have hp : patSt T s = true := by simp [e0, a2]
    rw [iteG_t a2, iteG_t (hp2 hp)]
    unfold sPatIn
    rw [if_pos ((ki _).1 a2)]
    exact out_ret (hx8 hp)
  | false =>
  rw [iteG_f a2]
  cases a3 : isK T 1 s with
  | true =>
    have hp : patSt T s = true := by simp [e0, a3]
    have q := (ki _).1 a3
    rw [iteG_t a3, iteG_t (hp2 hp)]
    unfold sPatIn
    rw [if_neg (by omega), if_neg (by omega), if_pos q]
    exact out_ret (hx8 hp)
  | false =>
  rw [iteG_f a3]
  cases a4 : isT T [116, 114, 117, 101] s with
  | true =>
    have hp : patSt T s = true := by simp [e0, a4]
    obtain ⟨q1, q2⟩ := (ti _).1 a4
    rw [iteG_t a4, iteG_t (hp2 hp)]
    unfold sPatIn
    rw [if_neg (by omega), if_neg (by omega), if_neg (by omega), if_neg (by rw [q2]; decide), if_pos q2]
    exact out_ret (hx8 hp)
  | false =>
  rw [iteG_f a4]
  cases a5 : isT T [102, 97, 108, 115, 101] s with
  | true =>
    have hp : patSt T s = true := by simp [e0, a5]
    obtain ⟨q1, q2⟩ := (ti _).1 a5
    rw [iteG_t a5, iteG_t (hp2 hp)]
    unfold sPatIn
    rw [if_neg (by omega), if_neg (by omega), if_neg (by omega), if_neg (by rw [q2]; decide), if_neg (by rw [q2]; decide), if_pos q2]
    exact out_ret (hx8 hp)
  | false =>
  rw [iteG_f a5]
  cases a6 : isK T 4 s with
  | true =>
    have hp : patSt T s = true := by simp [e0, a6]
    have q := (ki _).1 a6
    rw [iteG_t a6, iteG_t (hp2 hp)]
    unfold sPatIn
    rw [if_neg (by omega), if_pos q]
    exact out_ret (hx8 hp)
  | false =>
  rw [iteG_f a6]
  unfold iPatBr
  rw [nowP_e, stepP_e, hx]
  cases a7 : isT T [40] s with
  | true =>
    have hp : patSt T s = true := by simp [e0, a7]
    obtain ⟨q1, q2⟩ := (ti _).1 a7
    have ew : wantP T [40] s = adv s := by unfold wantP; rw [if_pos a7]
    rw [iteG_t (hp2 hp), ew]
    unfold sPatIn
    rw [if_neg (by omega), if_neg (by omega), if_neg (by omega), if_neg (by rw [q2]; decide), if_neg (by rw [q2]; decide), if_neg (by rw [q2]; decide)]
    have h2 := hx8 hp
    cases b1 : isT T [41] (adv s) with
    | true =>
      rw [iteG_t b1, iteG_t ((h2.isT _).symm.trans b1)]
      exact out_ret (h2.adv hT (isT_k b1).2)
    | false =>
      rw [iteG_f b1, iteG_f ((h2.isT _).symm.trans b1), iteB_f (by simp [h2.c])]
      exact (s3_list hT h (fun a l => if l = [] then a else PatD.mk 6 [] 0 x.p (a :: l))).at h2
  | false =>
    have hp : patSt T s = false := by simp [e0, a1, a2, a3, a4, a5, a6, a7]
    have ew : wantP T [40] s = failP T 11 s := by unfold wantP; rw [a7]; rfl
    have hb := hst.fail (T := T) (c := 11) (by decide)
    rw [iteG_f (hp2 hp), ew, iteG_f (isT_c hb.ne), iteB_t (by simp [hb.ne]), stepP_e]
    exact .inr hb
theorem s3_patA {pat pat':PM PatD} (h:Sim3 T e pat pat'):Sim3 T e (iPatA T N pat) (sPatA T N pat'):=s3_of (stay_iPatA hT h.1) (stay_sPatA hT h.2.1) fun s t hst=>pat_in hT h hst
theorem s3_pat {most lim : Nat} (hml : most < e + 1 ↔ e = lim) {pat pat' : PM PatD} (h : Sim3 T (e + 1) pat pat') : Sim3 T e (iPatB T N most pat (e + 1)) (sPatB T N lim pat') := by
  refine s3_opn hml ?_
  have hA := s3_patA (N := N) hT h
  refine s3_of (StayM.now fun t => StayM.iteG hT (only_isK T (by decide)) (StayM.iteB (StayM.bind hA.1 fun _ => StayM.ret _) (StayM.ret _)) hA.1) (StayM.now fun t => StayM.bind hA.2.1 fun x => iteS (StayM.iteB (StayM.bind hA.2.1 fun _ => StayM.ret _) (StayM.ret _)) (StayM.ret _)) fun s t hst => ?_
  rw [nowP_e, nowP_e, ← hst.tok]
  cases h4 : isK T 4 s with
  | true =>
    have q := (isK_iff hT hst.c).1 h4
    have hp : patSt T t = true := by rw [← same_patSt s t hst]; simp [patSt, h4]
    have e1 : sPatA T N pat' t = (.mk 7 (tokA T s).t 0 (tokA T s).p [], adv t) := by
      unfold sPatA sPatIn
      rw [nowP_e, iteG_t hp, ← hst.tok, if_neg (by omega), if_pos q]; rfl
    rw [iteG_t h4, bindP_e (m := sPatA T N pat'), e1]
    simp only [if_pos q]
    exact (s3_iteB same_patSt (s3_bind hA fun a => s3_ret (PatD.mk 7 (tokA T s).t 0 (tokA T s).p [a])) (s3_ret _)).at (hst.adv hT (by rw [q]; decide))
  | false =>
    have q : ¬ (tokA T s).k = 4 := fun h => by rw [(isK_iff hT hst.c).2 h] at h4; cases h4
    rw [iteG_f h4]
    simp only [if_neg q]
    exact hA.at hst
theorem s3_patK {most lim:Nat}:∀ (k e:Nat),(∀ e',e<=e'->e'<e+k->(most<e'+1 ↔ e'=lim))->Sim3 T e (iPat T N most k (e+1)) (sPat T N lim k)
 | 0,e,_=>s3_ret _
 | k+1,e,hml=>s3_pat hT (hml e (Nat.le_refl _) (by omega)) (s3_patK k (e+1) fun e' h1 h2=>hml e' (by omega) (by omega))
end
section
variable {T:List Tok} {e N:Nat} (hT:ToksOk T)
include hT
theorem atom_in {pat pat' : PM ExpD} (h : Sim3 T e pat pat') {s t : PS} (hst : Eqv T e s t) : Out T e (iAtom T N pat s) (sAtom T N pat' t) := by
  have ki := fun x => isK_iff (x := x) hT hst.c
  have ti := fun x => isT_iff (x := x) hT hst.c
  unfold iAtom sAtom
  rw [nowP_e, nowP_e, ← hst.tok]
  generalize hx : tokA T s = x at ki ti ⊢
  have hp2 : ∀ {b}, atNx T s = b → atNx T t = b := fun h => by rw [← same_atNx s t hst]; exact h
  have hx8 := fun (hk : atNx T s = true) => hst.adv hT (only_atNx s hk).2
  have e0 : atNx T s = (isK T 1 s || isK T 2 s || isK T 3 s || isK T 4 s || isT T [116, 114, 117, 101] s || isT T [102, 97, 108, 115, 101] s || isT T [114, 101, 97, 100] s || isT T [40] s) := rfl
  cases a1 : isK T 1 s with
  | true =>
    have hp : atNx T s = true := by simp [e0, a1]
    rw [iteG_t a1, iteG_t (hp2 hp)]
    unfold sAtIn
    rw [if_pos ((ki _).1 a1)]
    exact out_ret (hx8 hp)
  | false =>
  rw [iteG_f a1]
  cases a2 : isK T 2 s with
  | true =>
    have hp : atNx T s = true := by simp [e0, a2]
    have q := (ki _).1 a2
    rw [iteG_t a2, iteG_t (hp2 hp)]
    unfold sAtIn
    rw [if_neg (by omega), if_pos q]
    exact out_ret (hx8 hp)
  | false =>
  rw [iteG_f a2]
  cases a4 : isT T [116, 114, 117, 101] s with
  | true =>
    have hp : atNx T s = true := by simp [e0, a4]
    obtain ⟨q1, q2⟩ := (ti _).1 a4
    rw [iteG_t a4, iteG_t (hp2 hp)]
    unfold sAtIn
    rw [if_neg (by omega), if_neg (by omega), if_neg (by omega), if_neg (by omega), if_neg (by rw [q2]; decide), if_pos q2]
    exact out_ret (hx8 hp)
  | false =>
  rw [iteG_f a4]
  cases a5 : isT T [102, 97, 108, 115, 101] s with
  | true =>
    have hp : atNx T s = true := by simp [e0, a5]
    obtain ⟨q1, q2⟩ := (ti _).1 a5
    rw [iteG_t a5, iteG_t (hp2 hp)]
    unfold sAtIn
    rw [if_neg (by omega), if_neg (by omega), if_neg (by omega), if_neg (by omega), if_neg (by rw [q2]; decide), if_neg (by rw [q2]; decide), if_pos q2]
    exact out_ret (hx8 hp)
  | false =>
  rw [iteG_f a5]
  cases a3 : isK T 3 s with
  | true =>
    have hp : atNx T s = true := by simp [e0, a3]
    have q := (ki _).1 a3
    rw [iteG_t a3, iteG_t (hp2 hp)]
    unfold sAtIn
    rw [if_neg (by omega), if_neg (by omega), if_pos q]
    exact out_ret (hx8 hp)
  | false =>
  rw [iteG_f a3]
  cases a6 : isK T 4 s with
  | true =>
    have hp : atNx T s = true := by simp [e0, a6]
    have q := (ki _).1 a6
    rw [iteG_t a6, iteG_t (hp2 hp)]
    unfold sAtIn
    rw [if_neg (by omega), if_neg (by omega), if_neg (by omega), if_pos q]
    exact out_ret (hx8 hp)
  | false =>
  rw [iteG_f a6]
  cases a8 : isT T [114, 101, 97, 100] s with
  | true =>
    have hp : atNx T s = true := by simp [e0, a8]
    obtain ⟨q1, q2⟩ := (ti _).1 a8
    rw [iteG_t a8, iteG_t (hp2 hp)]
    unfold sAtIn
    rw [if_neg (by omega), if_neg (by omega), if_neg (by omega), if_neg (by omega), if_pos q2]
    exact out_ret (hx8 hp)
  | false =>
  rw [iteG_f a8]
  unfold iBr
  rw [nowP_e, stepP_e, hx]
  cases a7 : isT T [40] s with
  | true =>
    have hp : atNx T s = true := by simp [e0, a7]
    obtain ⟨q1, q2⟩ := (ti _).1 a7
    have ew : wantP T [40] s = adv s := by unfold wantP; rw [if_pos a7]
    rw [iteG_t (hp2 hp), ew]
    unfold sAtIn
    rw [if_neg (by omega), if_neg (by omega), if_neg (by omega), if_neg (by omega), if_neg (by rw [q2]; decide), if_neg (by rw [q2]; decide), if_neg (by rw [q2]; decide)]
    have h2 := hx8 hp
    cases b1 : isT T [41] (adv s) with
    | true =>
      rw [iteG_t b1, iteG_t ((h2.isT _).symm.trans b1)]
      exact out_ret (h2.adv hT (isT_k b1).2)
    | false =>
      rw [iteG_f b1, iteG_f ((h2.isT _).symm.trans b1), iteB_f (by simp [h2.c])]
      exact (s3_list hT h (fun a l => if l = [] then a else ExpD.mk 7 [] 0 [] x.p (a :: l) [])).at h2
  | false =>
    have hp : atNx T s = false := by simp [e0, a1, a2, a3, a4, a5, a6, a7, a8]
    have ew : wantP T [40] s = failP T 11 s := by unfold wantP; rw [a7]; rfl
    have hb := hst.fail (T := T) (c := 11) (by decide)
    rw [iteG_f (hp2 hp), ew, iteG_f (isT_c hb.ne), iteB_t (by simp [hb.ne]), stepP_e]
    exact .inr hb
theorem s3_atom {ex ex':PM ExpD} (h:Sim3 T e ex ex'):Sim3 T e (iAtom T N ex) (sAtom T N ex'):=s3_of (stay_iAtom hT h.1) (stay_sAtom hT h.2.1) fun s t hst=>atom_in hT h hst
theorem s3_pre {ex ex' : PM ExpD} (h : Sim3 T e ex ex') : Sim3 T e (iPre T N ex) (sPre T N ex') := by
  have hA := s3_atom (N := N) hT h
  refine s3_of (stay_iPre hT h.1) (stay_sPre hT h.2.1) fun s t hst => ?_
  unfold iPre sPre
  rw [nowP_e, nowP_e, ← hst.tok]
  cases h1 : primT T s with
  | true =>
    rw [iteG_t h1, iteG_t ((same_primT s t hst).symm.trans h1)]
    exact (s3_bind hA fun a => s3_ret _).at (hst.adv hT (only_primT s h1).2)
  | false =>
    rw [iteG_f h1, iteG_f ((same_primT s t hst).symm.trans h1)]
    cases h4 : isK T 4 s with
    | true =>
      have q := (isK_iff hT hst.c).1 h4
      have hp : atNx T t = true := by rw [← same_atNx s t hst]; simp [atNx, h4]
      have e1 : sAtom T N ex' t = (leaf 6 (tokA T s).t 0 [] (tokA T s).p, adv t) := by
        unfold sAtom sAtIn
        rw [nowP_e, iteG_t hp, ← hst.tok, if_neg (by omega), if_neg (by omega), if_neg (by omega), if_pos q]; rfl
      rw [iteG_t h4, bindP_e (m := sAtom T N ex'), e1]
      simp only [if_pos q]
      exact (s3_iteB same_atNx (s3_bind hA fun a => s3_ret (node1 6 (tokA T s).t (tokA T s).p a)) (s3_ret _)).at (hst.adv hT (by rw [q]; decide))
    | false =>
      have q : ¬ (tokA T s).k = 4 := fun h => by rw [(isK_iff hT hst.c).2 h] at h4; cases h4
      rw [iteG_f h4]
      simp only [if_neg q]
      exact hA.at hst
theorem s3_appG {m n:PM ExpD} (h:Sim3 T e m n) (a:ExpD):Sim3 T e (appG T N m a) (appG T N n a) :=
 ⟨stay_appG hT h.1,stay_appG hT h.2.1,sim_carry same_atNx (fun j a=>StayM.carry only_atNx (fun a=>StayM.bind h.1 fun _=>StayM.ret _) j a) (fun j a=>StayM.carry only_atNx (fun a=>StayM.bind h.2.1 fun _=>StayM.ret _) j a) (fun a s t hst _=>(s3_bind h fun b=>s3_ret (node2 9 [] a.pos a b)).at hst) N a⟩
theorem s3_rowG {L} {m n:PM ExpD} (h:Sim3 T e m n) (a:ExpD):Sim3 T e (rowG T N L m a) (rowG T N L n a) :=
 ⟨stay_rowG hT h.1,stay_rowG hT h.2.1,sim_carry (same_opT L) (fun j a=>StayM.carryA hT (only_opT _) (fun t a=>StayM.bind h.1 fun _=>StayM.ret _) j a) (fun j a=>StayM.carryA hT (only_opT _) (fun t a=>StayM.bind h.2.1 fun _=>StayM.ret _) j a)
  (fun a s t hst hb=>by
   rw [nowP_e,nowP_e,<- hst.tok]
   exact (s3_bind h fun b=>s3_ret (node2 14 (tokA T s).t (tokA T s).p a b)).at (hst.adv hT (only_opT L s hb).2)) N a⟩
theorem s3_onceG {g g':PS->Bool} (hg:Only T g) (hg':Only T g') (hs:Same T e g g') {m n:PM ExpD} (h:Sim3 T e m n) (a:ExpD):Sim3 T e (onceG T g m a) (onceG T g' n a) :=
 s3_now fun t=>⟨StayM.iteG hT hg (StayM.bind h.1 fun _=>StayM.ret _) (StayM.ret _),StayM.iteG hT hg' (StayM.bind h.2.1 fun _=>StayM.ret _) (StayM.ret _),sim_iteG hT hg hs (s3_bind h fun b=>s3_ret (node2 14 t.t t.p a b)).2.2 (sim_ret a)⟩
theorem sign_k {s:PS} (hs:s.i<T.length) {x:List UInt8} (hx:isKey x=false):isT T x s=(isK T 7 s && decide ((tokA T s).t=x)):=by
 have hm:tokA T s∈T:=by
  have:T[s.i]?=some (tokA T s):=by simp [tokA,hs]
  exact List.mem_of_getElem? this
 unfold isT isK
 by_cases h6:(tokA T s).k=6
 ·have:=hT.key _ hm h6
  have hne:(tokA T s).t≠x:=by rintro rfl; rw [this] at hx; cases hx
  simp [hne]
 ·simp [h6]
theorem same_eq:Same T e (fun s=>isT T [61] s || isT T [60] s) (opT T [[61],[60]]):=fun s t hst=>by
 simp only [opT,sign_k hT hst.lt (x:=[61]) (by decide),sign_k hT hst.lt (x:=[60]) (by decide),hst.isK,hst.tok]
 cases isK T 7 t <;> simp
theorem same_as:Same T e (isT T [58,61]) (opT T [[58,61]]):=fun s t hst=>by
 simp only [opT,sign_k hT hst.lt (x:=[58,61]) (by decide),hst.isK,hst.tok]
 cases isK T 7 t <;> simp
theorem s3_ops {ex ex':PM ExpD} (h:Sim3 T e ex ex'):Sim3 T e (iOnce0 T N ex) (sOps1 T N ex'):=by
 have h5:Sim3 T e (iApp T N ex) (sOps5 T N ex'):=s3_bind (s3_pre hT h) fun a=>s3_appG hT (s3_atom hT h) a
 have h4:Sim3 T e (iRow1 T N ex) (sOps4 T N ex'):=s3_bind h5 fun a=>s3_rowG hT h5 a
 have h3:Sim3 T e (iRow0 T N ex) (sOps3 T N ex'):=s3_bind h4 fun a=>s3_rowG hT h4 a
 have h2:Sim3 T e (iOnce1 T N ex) (sOps2 T N ex'):=s3_bind h3 fun a=>s3_onceG hT ((only_isT T _).or (only_isT T _)) (only_opT _) (same_eq hT) h3 a
 exact s3_bind h2 fun a=>s3_onceG hT (only_isT T _) (only_opT _) (same_as hT) h2 a
theorem s3_let {ex ex':PM ExpD} (h:Sim3 T e ex ex') (p:Int):Sim3 T e (letP T ex p) (letP T ex' p) :=
 s3_t hT (s3_bind (s3_word hT (by decide)) fun n=>s3_bind (s3_word hT (by decide)) fun f=>s3_want hT <| s3_bind h fun a=>s3_want hT <| s3_bind h fun b=>s3_ret _)
  (s3_bind (s3_word hT (by decide)) fun n=>s3_want hT <| s3_bind h fun a=>s3_want hT <| s3_bind h fun b=>s3_ret _)
theorem s3_fun {ex ex':PM ExpD} (h:Sim3 T e ex ex') (p:Int):Sim3 T e (funP T ex p) (funP T ex' p) :=
 s3_bind (s3_word hT (by decide)) fun n=>s3_want hT <| s3_bind h fun a=>s3_ret _
theorem s3_ifP {ex ex':PM ExpD} (h:Sim3 T e ex ex') (p:Int):Sim3 T e (ifP T ex p) (ifP T ex' p) :=
 s3_bind h fun a=>s3_want hT <| s3_bind h fun b=>s3_want hT <| s3_bind h fun c=>s3_ret _
theorem s3_match {pat pat':PM PatD} (hp:Sim3 T e pat pat') {ex ex':PM ExpD} (h:Sim3 T e ex ex') (p:Int):Sim3 T e (iMatch T N pat ex p) (sMatch T N pat' ex' p):=by
 have ha:Sim3 T e (armP T pat ex) (armP T pat' ex'):=s3_bind hp fun a=>s3_want hT <| s3_bind h fun b=>s3_ret _
 have hs:Sim3 T e (armsP T N (armP T pat ex)) (armsP T N (armP T pat' ex')):=s3_bind ha fun a=>s3_bind (s3_manyA hT ha N) fun l=>s3_ret _
 refine s3_bind h fun a=>s3_want hT <| s3_want hT <| s3_bind (m:=iteB (fun s=>decide (s.c=0)) (armsP T N (armP T pat ex)) (retP [])) ?_ fun l=>s3_want hT (s3_ret _)
 refine s3_of (StayM.iteB hs.1 (StayM.ret _)) hs.2.1 fun s t hst=>?_
 rw [iteB_t (by simp [hst.c])]
 exact hs.at hst
theorem s3_exp {most lim:Nat} (hml:most<e+1 ↔ e=lim) {pat pat':PM PatD} (hp:Sim3 T (e+1) pat pat') {ex ex':PM ExpD} (h:Sim3 T (e+1) ex ex'):Sim3 T e (iExpB T N most pat ex (e+1)) (sExpB T N lim pat' ex') :=
 s3_opn hml <| s3_now fun t=>s3_t hT (s3_let hT h t.p) <| s3_t hT (s3_fun hT h t.p) <| s3_t hT (s3_ifP hT h t.p) <| s3_t hT (s3_match hT hp h t.p) (s3_ops hT h)
theorem s3_expK {most lim:Nat}:∀ (k e:Nat),(∀ e',e<=e'->e'<e+k->(most<e'+1 ↔ e'=lim))->Sim3 T e (iExp T N most k (e+1)) (sExp T N lim k)
 | 0,e,_=>s3_ret _
 | k+1,e,hml=>s3_exp hT (hml e (Nat.le_refl _) (by omega)) (s3_patK hT k (e+1) fun e' h1 h2=>hml e' (by omega) (by omega)) (s3_expK k (e+1) fun e' h1 h2=>hml e' (by omega) (by omega))
theorem s3_one {ex ex':PM ExpD} (h:Sim3 T e ex ex'):Sim3 T e (oneP T ex) (oneP T ex'):=s3_bind h fun a=>s3_end (s3_ret _)
end
def told {α:Type} (m:PM α):α ⊕ (Int × Int) :=
 let r:=m ⟨0,0,0,0,0⟩
 if r.2.c=0 then .inl r.1 else .inr (r.2.c,r.2.ps)
theorem told_eq {T:List Tok} (hT:ToksOk T) {α:Type} {m n:PM α} (h:Sim3 T 0 m n):told m=told n:=by
 have h0:Eqv T 0 ⟨0,0,0,0,0⟩ ⟨0,0,0,0,0⟩:=⟨rfl,rfl,rfl,rfl,rfl,hT.pos⟩
 unfold told
 rcases h.at h0 with ⟨h1,h2⟩ | h1
 ·simp only [h2.c,h2.c2,if_true,h1]
 ·simp only [if_neg h1.ne,if_neg (show ¬ (n ⟨0,0,0,0,0⟩).2.c=0 by rw [<- h1.c]; exact h1.ne),h1.c,h1.ps]
end Go.Proofs.YteilijfligofdaaGreatDoor.Pg
set_option linter.all false
set_option maxRecDepth 100000
namespace Go.Proofs.YteilijfligofdaaGreatDoor.Mc
open Go.AM
def mc33:Got (Tryz.f33.body.map (compile [0,2,3,4,5,6,7,8,11,20,37,39] Tryz.prog 56)):=⟨_,by conv=>lhs; cbv⟩
def mr33:List MR:=[.t 2,.cell true 2 3]
theorem call33:CallT Tryz.prog 33 56 mc33.m mr33:=mc33.call Tryz.func33 (by kernel_rfl)
def mc29:Got (Tryz.f29.body.map (compile [0,2,3,6] Tryz.prog 12)):=⟨_,by conv=>lhs; cbv⟩
def mr29:List MR:=[.t 2,.cell true 2 3]
theorem call29:CallT Tryz.prog 29 12 mc29.m mr29:=mc29.call Tryz.func29 (by kernel_rfl)
def mc93:Got (Tryz.f93.body.map (compile [0,1,4,8,24,30,40] Tryz.prog 45)):=⟨_,by conv=>lhs; cbv⟩
def mr93:List MR:=[.t 4]
theorem call93:CallT Tryz.prog 93 45 mc93.m mr93:=mc93.call Tryz.func93 (by kernel_rfl)
def mc94:Got (Tryz.f94.body.map (compile [0,1,4,5,6,7,8,9,10,15,24,56,69,95] Tryz.prog 107)):=⟨_,by conv=>lhs; cbv⟩
def mr94:List MR:=[.cell true 4 4,.t 5,.t 6]
theorem call94:CallT Tryz.prog 94 107 mc94.m mr94:=mc94.call Tryz.func94 (by kernel_rfl)
def mc50:Got (Tryz.f50.body.map (compile [0,1,4,5,6,7,8,9,10,14,17,18,24,38,43] Tryz.prog 58)):=⟨_,by conv=>lhs; cbv⟩
def mr50:List MR:=[.t 4,.cell true 2 5]
theorem call50:CallT Tryz.prog 50 58 mc50.m mr50:=mc50.call Tryz.func50 (by kernel_rfl)
def mc136:Got (Tryz.f136.body.map (compile [0,2] Tryz.prog 5)):=⟨_,by conv=>lhs; cbv⟩
def mr136:List MR:=[.t 2]
theorem call136:CallT Tryz.prog 136 5 mc136.m mr136:=mc136.call Tryz.func136 (by kernel_rfl)
def mc137:Got (Tryz.f137.body.map (compile [0,1,4,5,6,7,8,9,10,22,32,51] Tryz.prog 58)):=⟨_,by conv=>lhs; cbv⟩
def mr137:List MR:=[.cell true 4 4,.t 5,.t 6]
theorem call137:CallT Tryz.prog 137 58 mc137.m mr137:=mc137.call Tryz.func137 (by kernel_rfl)
def mc126:Got (Tryz.f126.body.map (compile [0,2] Tryz.prog 5)):=⟨_,by conv=>lhs; cbv⟩
def mr126:List MR:=[.t 2]
theorem call126:CallT Tryz.prog 126 5 mc126.m mr126:=mc126.call Tryz.func126 (by kernel_rfl)
def mc125:Got (Tryz.f125.body.map (compile [0,2] Tryz.prog 5)):=⟨_,by conv=>lhs; cbv⟩
def mr125:List MR:=[.t 2]
theorem call125:CallT Tryz.prog 125 5 mc125.m mr125:=mc125.call Tryz.func125 (by kernel_rfl)
def mc138:Got (Tryz.f138.body.map (compile [0,1,4,5,6,7,8,9,14,28,37,44,49,56] Tryz.prog 63)):=⟨_,by conv=>lhs; cbv⟩
def mr138:List MR:=[.cell true 4 4,.t 5,.t 6]
theorem call138:CallT Tryz.prog 138 63 mc138.m mr138:=mc138.call Tryz.func138 (by kernel_rfl)
def mc139:Got (Tryz.f139.body.map (compile [0,1,4,5,6,7,8,9,16,22,31,68,69] Tryz.prog 86)):=⟨_,by conv=>lhs; cbv⟩
def mr139:List MR:=[.cell true 4 4,.t 5,.t 6]
theorem call139:CallT Tryz.prog 139 86 mc139.m mr139:=mc139.call Tryz.func139 (by kernel_rfl)
def mc140:Got (Tryz.f140.body.map (compile [0] Tryz.prog 2)):=⟨_,by conv=>lhs; cbv⟩
def mr140:List MR:=[.t 0]
theorem call140:CallT Tryz.prog 140 2 mc140.m mr140:=mc140.call Tryz.func140 (by kernel_rfl)
def mc111:Got (Tryz.f111.body.map (compile [0,1,2,6,17] Tryz.prog 21)):=⟨_,by conv=>lhs; cbv⟩
def mr111:List MR:=[.t 6]
theorem call111:CallT Tryz.prog 111 21 mc111.m mr111:=mc111.call Tryz.func111 (by kernel_rfl)
def mc112:Got (Tryz.f112.body.map (compile [0,2] Tryz.prog 5)):=⟨_,by conv=>lhs; cbv⟩
def mr112:List MR:=[.t 2]
theorem call112:CallT Tryz.prog 112 5 mc112.m mr112:=mc112.call Tryz.func112 (by kernel_rfl)
def mc113:Got (Tryz.f113.body.map (compile [0,1,4,5,6,7,8,9,10,11,15,24,51,62,75] Tryz.prog 87)):=⟨_,by conv=>lhs; cbv⟩
def mr113:List MR:=[.cell true 4 4,.t 5,.cell true 2 6]
theorem call113:CallT Tryz.prog 113 87 mc113.m mr113:=mc113.call Tryz.func113 (by kernel_rfl)
def mc70:Got (Tryz.f70.body.map (compile [0,1,2,6] Tryz.prog 15)):=⟨_,by conv=>lhs; cbv⟩
def mr70:List MR:=[.t 6]
theorem call70:CallT Tryz.prog 70 15 mc70.m mr70:=mc70.call Tryz.func70 (by kernel_rfl)
def mc127:Got (Tryz.f127.body.map (compile [0,2] Tryz.prog 17)):=⟨_,by conv=>lhs; cbv⟩
def mr127:List MR:=[.t 2]
theorem call127:CallT Tryz.prog 127 17 mc127.m mr127:=mc127.call Tryz.func127 (by kernel_rfl)
def mc124:Got (Tryz.f124.body.map (compile [0,2,3,4,9,17] Tryz.prog 18)):=⟨_,by conv=>lhs; cbv⟩
def mr124:List MR:=[.t 2]
theorem call124:CallT Tryz.prog 124 18 mc124.m mr124:=mc124.call Tryz.func124 (by kernel_rfl)
def mc120:Got (Tryz.f120.body.map (compile [0,2] Tryz.prog 9)):=⟨_,by conv=>lhs; cbv⟩
def mr120:List MR:=[.t 2]
theorem call120:CallT Tryz.prog 120 9 mc120.m mr120:=mc120.call Tryz.func120 (by kernel_rfl)
def mc153:Got (Tryz.f153.body.map (compile [0,2] Tryz.prog 9)):=⟨_,by conv=>lhs; cbv⟩
def mr153:List MR:=[.t 2]
theorem call153:CallT Tryz.prog 153 9 mc153.m mr153:=mc153.call Tryz.func153 (by kernel_rfl)
def mc154:Got (Tryz.f154.body.map (compile [0,1,4,5,6,7,8,9,34] Tryz.prog 43)):=⟨_,by conv=>lhs; cbv⟩
def mr154:List MR:=[.cell true 4 4,.t 5,.cell true 2 6]
theorem call154:CallT Tryz.prog 154 43 mc154.m mr154:=mc154.call Tryz.func154 (by kernel_rfl)
def mc129:Got (Tryz.f129.body.map (compile [0,2] Tryz.prog 9)):=⟨_,by conv=>lhs; cbv⟩
def mr129:List MR:=[.t 2]
theorem call129:CallT Tryz.prog 129 9 mc129.m mr129:=mc129.call Tryz.func129 (by kernel_rfl)
def mc155:Got (Tryz.f155.body.map (compile [0,1,4,5,6,7,8,9,13,21,33,49] Tryz.prog 54)):=⟨_,by conv=>lhs; cbv⟩
def mr155:List MR:=[.cell true 4 4,.t 5,.cell true 2 6]
theorem call155:CallT Tryz.prog 155 54 mc155.m mr155:=mc155.call Tryz.func155 (by kernel_rfl)
def mc156:Got (Tryz.f156.body.map (compile [0,1,4,5,6,7,8,9,15,21,28,36,39,40,42,48] Tryz.prog 57)):=⟨_,by conv=>lhs; cbv⟩
def mr156:List MR:=[.t 4,.t 5,.t 6]
theorem call156:CallT Tryz.prog 156 57 mc156.m mr156:=mc156.call Tryz.func156 (by kernel_rfl)
def mc157:Got (Tryz.f157.body.map (compile [0,1,4,6,7,8,9,10,17] Tryz.prog 20)):=⟨_,by conv=>lhs; cbv⟩
def mr157:List MR:=[.t 4]
theorem call157:CallT Tryz.prog 157 20 mc157.m mr157:=mc157.call Tryz.func157 (by kernel_rfl)
def mc130:Got (Tryz.f130.body.map (compile [0,1,4] Tryz.prog 9)):=⟨_,by conv=>lhs; cbv⟩
def mr130:List MR:=[.t 4]
theorem call130:CallT Tryz.prog 130 9 mc130.m mr130:=mc130.call Tryz.func130 (by kernel_rfl)
def mc76:Got (Tryz.f76.body.map (compile [0,1,2,6] Tryz.prog 15)):=⟨_,by conv=>lhs; cbv⟩
def mr76:List MR:=[.t 6]
theorem call76:CallT Tryz.prog 76 15 mc76.m mr76:=mc76.call Tryz.func76 (by kernel_rfl)
def mc128:Got (Tryz.f128.body.map (compile [0,2] Tryz.prog 6)):=⟨_,by conv=>lhs; cbv⟩
def mr128:List MR:=[.t 2]
theorem call128:CallT Tryz.prog 128 6 mc128.m mr128:=mc128.call Tryz.func128 (by kernel_rfl)
def mc161:Got (Tryz.f161.body.map (compile [0,2] Tryz.prog 17)):=⟨_,by conv=>lhs; cbv⟩
def mr161:List MR:=[.t 2]
theorem call161:CallT Tryz.prog 161 17 mc161.m mr161:=mc161.call Tryz.func161 (by kernel_rfl)
def mc177:Got (Tryz.f177.body.map (compile [0] Tryz.prog 2)):=⟨_,by conv=>lhs; cbv⟩
def mr177:List MR:=[.t 0]
theorem call177:CallT Tryz.prog 177 2 mc177.m mr177:=mc177.call Tryz.func177 (by kernel_rfl)
def mc178:Got (Tryz.f178.body.map (compile [0,1,4] Tryz.prog 8)):=⟨_,by conv=>lhs; cbv⟩
def mr178:List MR:=[.t 4]
theorem call178:CallT Tryz.prog 178 8 mc178.m mr178:=mc178.call Tryz.func178 (by kernel_rfl)
def mc164:Got (Tryz.f164.body.map (compile [0,1,4,5,7,8,9,16] Tryz.prog 19)):=⟨_,by conv=>lhs; cbv⟩
def mr164:List MR:=[.t 4]
theorem call164:CallT Tryz.prog 164 19 mc164.m mr164:=mc164.call Tryz.func164 (by kernel_rfl)
def mc199:Got (Tryz.f199.body.map (compile [0,1,4] Tryz.prog 18)):=⟨_,by conv=>lhs; cbv⟩
def mr199:List MR:=[.t 4]
theorem call199:CallT Tryz.prog 199 18 mc199.m mr199:=mc199.call Tryz.func199 (by kernel_rfl)
end Go.Proofs.YteilijfligofdaaGreatDoor.Mc
namespace Go.Proofs.YteilijfligofdaaGreatDoor.Qp
open Go.AM Mc Pg
theorem wr64 {n:Int} (h1:-9223372036854775808<=n) (h2:n<=9223372036854775807):wr .i64 n=n:=by
 simp [wr,IntKind.wrap,IntKind.bits,IntKind.signed]
 omega
theorem wrN (x:Nat) (h:x<=4611686018427387904):wr .i64 ((x:Int)+1)=((x+1:Nat):Int):=by rw [wr64 (by omega) (by omega)]; omega
theorem maxLe:maxL=140737488355328:=rfl
theorem dT {p:Prop} (h:p) (i:Decidable p):@decide p i=true:=decide_eq_true h
theorem dF {p:Prop} (h:¬ p) (i:Decidable p):@decide p i=false:=decide_eq_false h
abbrev by1 (c:UInt8):AV:=.p (.i .u8 (c.toNat:Int))
def TestC (f:Nat) (q:UInt8->Bool):Prop:=∀ (c:UInt8) (H:List AO),ACall Tryz.prog f [by1 c] H (pureQ (.p (.b (q c))) H)
theorem smallC:TestC 120 isSm:=by
 intro c H
 refine call120 (by simp) ?_
 simp only [go_sem,simprocAttr,mc120,mr120]
 cases h:decide ((97:Int)<=(c.toNat:Int))
 ·simp only [go_sem,simprocAttr,h]
  exact ⟨by simp [isSm,h],rfl⟩
 ·simp only [go_sem,simprocAttr,h]
  exact ⟨by simp [isSm,h],rfl⟩
theorem greatC:TestC 129 isGr:=by
 intro c H
 refine call129 (by simp) ?_
 simp only [go_sem,simprocAttr,mc129,mr129]
 cases h:decide ((65:Int)<=(c.toNat:Int))
 ·simp only [go_sem,simprocAttr,h]
  exact ⟨by simp [isGr,h],rfl⟩
 ·simp only [go_sem,simprocAttr,h]
  exact ⟨by simp [isGr,h],rfl⟩
theorem digitC:TestC 153 isDg:=by
 intro c H
 refine call153 (by simp) ?_
 simp only [go_sem,simprocAttr,mc153,mr153]
 cases h:decide ((48:Int)<=(c.toNat:Int))
 ·simp only [go_sem,simprocAttr,h]
  exact ⟨by simp [isDg,h],rfl⟩
 ·simp only [go_sem,simprocAttr,h]
  exact ⟨by simp [isDg,h],rfl⟩
theorem nameC:TestC 161 isNm:=by
 intro c H
 refine call161 (by simp) ?_
 simp only [go_sem,simprocAttr,mc161,mr161]
 refine acall_pure (smallC c H) ?_
 cases h1:isSm c
 ·simp only [go_sem,simprocAttr,h1]
  refine acall_pure (greatC c H) ?_
  cases h2:isGr c
  ·simp only [go_sem,simprocAttr,h2]
   refine acall_pure (digitC c H) ?_
   cases h3:isDg c
   ·simp only [go_sem,simprocAttr,h3]
    exact ⟨by simp [isNm,h1,h2,h3],rfl⟩
   ·simp only [go_sem,simprocAttr,h3]
    exact ⟨by simp [isNm,h1,h2,h3],rfl⟩
  ·simp only [go_sem,simprocAttr,h2]
   exact ⟨by simp [isNm,h1,h2],rfl⟩
 ·simp only [go_sem,simprocAttr,h1]
  exact ⟨by simp [isNm,h1],rfl⟩
theorem nlC:TestC 112 isNl:=by
 intro c H
 refine call112 (by simp) ?_
 simp only [go_sem,simprocAttr,mc112,mr112]
 exact ⟨rfl,rfl⟩
theorem runC {f:Nat} {q:UInt8->Bool} (hf:TestC f q) {s:List UInt8} (hs:s.length<=1099511627776) {i:Nat} (hi:i<=s.length) (H:List AO) :
  ACall Tryz.prog 111 [.p (.s s),.p (.i .i64 i),.clo f []] H (pureQ (.p (.i .i64 (runAt q s i:Nat))) H):=by
 refine call111 (by simp) ?_
 simp only [go_sem,simprocAttr,mc111,mr111]
 refine ⟨Nat,[0,1,2,6],fun x st=>(i<=x/\x<=s.length/\runAt q s x=runAt q s i)/\st=⟨[(0,.p (.s s)),(1,.p (.i .i64 x)),(2,.clo f []),(6,.p (.i .i64 0))],[],H⟩,fun x=>s.length - x,⟨i,?_⟩,?_⟩
 ·simp only [go_sem,simprocAttr]
  exact ⟨Nat.le_refl _,hi⟩
 ·rintro x _ ⟨⟨h1,h2,h3⟩,rfl⟩
  by_cases hlt:x<s.length
  ·have d1:decide ((x:Int)<(s.length:Int))=true:=by simp; omega
   have hg:s[x]?=some s[x]:=by simp [hlt]
   simp only [go_sem,simprocAttr,d1,hg]
   intro _
   refine acall_pure (hf s[x] H) ?_
   cases hq:q s[x]
   ·simp only [go_sem,simprocAttr,hq]
    refine ⟨?_,rfl⟩
    rw [<- h3,runAt_f hlt hq]
   ·simp only [go_sem,simprocAttr,hq,wrN x (by omega)]
    exact ⟨x+1,⟨⟨by omega,by omega,by rw [<- h3,runAt_t hlt hq]⟩,rfl⟩,by omega⟩
  ·have d1:decide ((x:Int)<(s.length:Int))=false:=by simp; omega
   simp only [go_sem,simprocAttr,d1]
   intro _
   refine ⟨?_,rfl⟩
   rw [<- h3,runAt_e q (by omega)]
theorem gxk (H A:List AO) (k:Nat):(H++A)[H.length+k]?=A[k]?:=by rw [List.getElem?_append_right (by omega),Nat.add_sub_cancel_left]
theorem gx0 (H A:List AO):(H++A)[H.length]?=A[0]?:=gxk H A 0
theorem sxk (H A:List AO) (k:Nat) (o:AO):(H++A).set (H.length+k) o=H++A.set k o:=by rw [List.set_append_right _ _ (by omega),Nat.add_sub_cancel_left]
theorem sx0 (H A:List AO) (o:AO):(H++A).set H.length o=H++A.set 0 o:=sxk H A 0 o
attribute [go_sem] gxk gx0 sxk sx0
theorem tf_tup (cs:List AV) (h:∀ c∈cs,Tf c):Tf (.tup cs):=fun θ θ' W v hv=>by
 cases hv with
 | tup _ us hs hc=>exact .tup _ us hs fun j c v hj hu=>h c (List.mem_of_getElem? hj) _ _ _ _ (hc j c v hj hu)
theorem tf_av (cs:List PV):Tf (.st (cs.map .p)):=tf_st _ (by intro c hc; obtain ⟨x,_,rfl⟩:=List.mem_map.1 hc; exact tf_p x)
theorem indexC {H:List AO} {j v:Nat} {L:List (List UInt8)} {t:List UInt8} (hj:H[j]?=some (.rows 1 v (L.map fun x=>[.p (.s x)]))) (hl:L.length<=1000) :
  ACall Tryz.prog 164 [.gs j v 0 L.length,.p (.s t)] H (fun r H'=>H'=H/\∃ z:Int,r=.p (.i .i64 z)/\decide (0<=z)=decide (t∈L)):=by
 refine call164 (by simp) ?_
 simp only [go_sem,simprocAttr,mc164,mr164]
 intro _
 refine ⟨Nat,[0,1,7,8],fun x st=>(x<=L.length/\t ∉ L.take x)/\st=⟨[(0,.gs j v 0 L.length),(1,.p (.s t)),(7,.p (.i .i64 L.length)),(8,.p (.i .i64 x))],[],H⟩,fun x=>L.length - x,⟨0,?_⟩,?_⟩
 ·simp only [go_sem,simprocAttr]
  simp
 ·rintro x _ ⟨⟨hx,hn⟩,rfl⟩
  by_cases hlt:x<L.length
  ·have d1:decide ((x:Int)<(L.length:Int))=true:=by simp; omega
   have hg:(L.map fun x=>[AV.p (.s x)])[x]?=some [.p (.s L[x])]:=by simp [hlt]
   simp only [go_sem,simprocAttr,d1,hj,hg,hlt]
   by_cases ht:t=L[x]
   ·have d2:decide (t=L[x])=true:=by simp [ht]
    simp only [go_sem,simprocAttr,d2]
    refine ⟨by omega,(x:Int),rfl,?_⟩
    rw [decide_eq_true (show (0:Int)<=(x:Int) by omega),decide_eq_true (by rw [ht]; exact List.getElem_mem hlt)]
   ·have d2:decide (t=L[x])=false:=by simp [ht]
    simp only [go_sem,simprocAttr,d2,wrN x (by omega)]
    refine ⟨by omega,x+1,⟨⟨by omega,?_⟩,rfl⟩,by omega⟩
    rw [List.take_succ_eq_append_getElem hlt]
    simp only [List.mem_append,List.mem_singleton,not_or]
    exact ⟨hn,ht⟩
  ·have d1:decide ((x:Int)<(L.length:Int))=false:=by simp; omega
   simp only [go_sem,simprocAttr,d1]
   refine ⟨-1,rfl,?_⟩
   rw [List.take_of_length_le (by omega)] at hn
   simp [hn]
theorem containsC {H:List AO} {j v:Nat} {L:List (List UInt8)} {t:List UInt8} (hj:H[j]?=some (.rows 1 v (L.map fun x=>[.p (.s x)]))) (hl:L.length<=1000) :
  ACall Tryz.prog 130 [.gs j v 0 L.length,.p (.s t)] H (pureQ (.p (.b (decide (t∈L)))) H):=by
 refine call130 (by simp) ?_
 simp only [go_sem,simprocAttr,mc130,mr130]
 refine (indexC hj hl).mono ?_
 rintro r H' ⟨rfl,z,rfl,hz⟩
 simp only [go_sem,simprocAttr,hz]
 exact ⟨rfl,rfl⟩
theorem keyC (t:List UInt8) (H:List AO):ACall Tryz.prog 128 [.p (.s t)] H (pureQ (.p (.b (isKey t))) H):=by
 refine acall_drop1 ?_ (tf_p _)
 refine call128 (by simp) ?_
 simp only [go_sem,simprocAttr,mc128,mr128]
 refine acall_pure (containsC (L:=keys) (t:=t) (by rw [gx0]; rfl) (by decide)) ?_
 simp only [go_sem,simprocAttr]
 exact ⟨rfl,_,rfl⟩
abbrev tv (x:Tok):AV:=.st (x.cells.map .p)
def tokAV:(Tok × Nat) ⊕ Int->Nat->AV
 | .inl (t,e),_=>.tup [tv t,.p (.i .i64 (e:Int)),.st [.p (.i .i64 0),.p (.i .i64 0)]]
 | .inr c,i=>.tup [.st [.p (.i .i64 0),.p (.s []),.p (.i .i64 0),.p (.i .i64 0)],.p (.i .i64 0),.st [.p (.i .i64 c),.p (.i .i64 (i:Int))]]
theorem tf_tokAV (x i):Tf (tokAV x i):=by
 rcases x with ⟨t,e⟩ | c
 ·refine tf_tup _ ?_
  intro c hc; simp only [List.mem_cons,List.not_mem_nil,or_false] at hc
  rcases hc with rfl | rfl | rfl
  ·exact tf_av _
  ·exact tf_p _
  ·exact tf_av [.i .i64 0,.i .i64 0]
 ·refine tf_tup _ ?_
  intro x hc; simp only [List.mem_cons,List.not_mem_nil,or_false] at hc
  rcases hc with rfl | rfl | rfl
  ·exact tf_av [.i .i64 0,.s [],.i .i64 0,.i .i64 0]
  ·exact tf_p _
  ·exact tf_av [.i .i64 c,.i .i64 i]
theorem word_fin {s:List UInt8} (hs:s.length<=1099511627776) {i f:Nat} (hi:i<s.length) (hf:f<=s.length):runAt isNm s f<=s.length/\f<=runAt isNm s f:=⟨runAt_le _ hf,runAt_ge _ _ _⟩
theorem wordC {s:List UInt8} (hs:s.length<=1099511627776) {i:Nat} (hi:i<s.length) (H:List AO) :
  ACall Tryz.prog 155 [.p (.s s),.p (.i .i64 i)] H (pureQ (tokAV (wordD s i s[i]) i) H):=by
 refine acall_drop1 ?_ (tf_tokAV _ _)
 have hg:s[i]?=some s[i]:=by simp [hi]
 refine call155 (by simp) ?_
 simp only [go_sem,simprocAttr,mc155,mr155,hg]
 cases h39:decide ((s[i].toNat:Int)=39)
 ·simp only [go_sem,simprocAttr,h39,hg]
  refine acall_pure (greatC s[i] _) ?_
  have h39':=of_decide_eq_false h39
  cases hgr:isGr s[i]
  ·simp only [go_sem,simprocAttr,hgr]
   obtain ⟨r1,r2⟩:=word_fin hs hi (f:=i) (by omega)
   refine acall_pure (runC nameC hs (i:=i) (by omega) _) ?_
   have ew:wr .i64 ((runAt isNm s (i):Int) - ((i:Nat):Int))=((runAt isNm s (i) - (i):Nat):Int):=by rw [wr64 (by omega) (by omega)]; omega
   by_cases h12:12<runAt isNm s (i) - (i)
   ·have d12:decide ((12:Int)<((runAt isNm s (i) - (i):Nat):Int))=true:=by simp; omega
    simp only [go_sem,simprocAttr,ew,d12]
    have hw:wordD s i s[i]=.inr 2:=by unfold wordD wordF; rw [if_neg h39',if_pos h12]
    rw [hw]
    exact ⟨rfl,_,rfl⟩
   ·have d12:decide ((12:Int)<((runAt isNm s (i) - (i):Nat):Int))=false:=by simp; omega
    simp only [go_sem,simprocAttr,ew,d12]
    refine ⟨by omega,by omega,?_⟩
    refine acall_pure (keyC _ _) ?_
    cases hk:isKey (List.take (runAt isNm s (i) - (i)) (List.drop (i) s))
    ·simp only [go_sem,simprocAttr,hk]
     have hw:wordD s i s[i]=.inl (⟨3,List.take (runAt isNm s (i) - (i)) (List.drop (i) s),0,i⟩,runAt isNm s (i)):=by unfold wordD wordF; rw [if_neg h39',if_neg h12,hk,hgr]; simp [h39']
     rw [hw]
     exact ⟨rfl,_,rfl⟩
    ·simp only [go_sem,simprocAttr,hk]
     have hw:wordD s i s[i]=.inl (⟨6,List.take (runAt isNm s (i) - (i)) (List.drop (i) s),0,i⟩,runAt isNm s (i)):=by unfold wordD wordF; rw [if_neg h39',if_neg h12,hk,hgr]; simp [h39']
     rw [hw]
     exact ⟨rfl,_,rfl⟩
  ·simp only [go_sem,simprocAttr,hgr]
   obtain ⟨r1,r2⟩:=word_fin hs hi (f:=i) (by omega)
   refine acall_pure (runC nameC hs (i:=i) (by omega) _) ?_
   have ew:wr .i64 ((runAt isNm s (i):Int) - ((i:Nat):Int))=((runAt isNm s (i) - (i):Nat):Int):=by rw [wr64 (by omega) (by omega)]; omega
   by_cases h12:12<runAt isNm s (i) - (i)
   ·have d12:decide ((12:Int)<((runAt isNm s (i) - (i):Nat):Int))=true:=by simp; omega
    simp only [go_sem,simprocAttr,ew,d12]
    have hw:wordD s i s[i]=.inr 2:=by unfold wordD wordF; rw [if_neg h39',if_pos h12]
    rw [hw]
    exact ⟨rfl,_,rfl⟩
   ·have d12:decide ((12:Int)<((runAt isNm s (i) - (i):Nat):Int))=false:=by simp; omega
    simp only [go_sem,simprocAttr,ew,d12]
    refine ⟨by omega,by omega,?_⟩
    have hw:wordD s i s[i]=.inl (⟨4,List.take (runAt isNm s (i) - (i)) (List.drop (i) s),0,i⟩,runAt isNm s (i)):=by unfold wordD wordF; rw [if_neg h39',if_neg h12]; simp [h39',hgr]
    rw [hw]
    exact ⟨rfl,_,rfl⟩
 ·have h39':=of_decide_eq_true h39
  simp only [go_sem,simprocAttr,h39,hg,wrN i (by omega)]
  obtain ⟨r1,r2⟩:=word_fin hs hi (f:=i+1) (by omega)
  refine acall_pure (runC nameC hs (i:=i+1) (by omega) _) ?_
  have ew:wr .i64 ((runAt isNm s (i+1):Int) - ((i+1:Nat):Int))=((runAt isNm s (i+1) - (i+1):Nat):Int):=by rw [wr64 (by omega) (by omega)]; omega
  by_cases h12:12<runAt isNm s (i+1) - (i+1)
  ·have d12:decide ((12:Int)<((runAt isNm s (i+1) - (i+1):Nat):Int))=true:=by simp; omega
   simp only [go_sem,simprocAttr,ew,d12]
   have hw:wordD s i s[i]=.inr 2:=by unfold wordD wordF; rw [if_pos h39',if_pos h12]
   rw [hw]
   exact ⟨rfl,_,rfl⟩
  ·have d12:decide ((12:Int)<((runAt isNm s (i+1) - (i+1):Nat):Int))=false:=by simp; omega
   simp only [go_sem,simprocAttr,ew,d12]
   refine ⟨by omega,by omega,?_⟩
   have hw:wordD s i s[i]=.inl (⟨5,List.take (runAt isNm s (i+1) - (i+1)) (List.drop (i+1) s),0,i⟩,runAt isNm s (i+1)):=by unfold wordD wordF; rw [if_pos h39',if_neg h12]; simp [h39']
   rw [hw]
   exact ⟨rfl,_,rfl⟩
theorem prefC (s g:List UInt8) (hs:s.length<=1099511627776) (hg:g.length<=100) (H:List AO):ACall Tryz.prog 178 [.p (.s s),.p (.s g)] H (pureQ (.p (.b (preB g s))) H):=by
 refine call178 (by simp) ?_
 simp only [go_sem,simprocAttr,mc178,mr178]
 refine acall_pure (r0:=.p (.b (preB g s))) (H0:=H) ?_ ?_
 ·refine call199 (by simp) ?_
  simp only [go_sem,simprocAttr,mc199,mr199]
  intro _ _
  by_cases hl:g.length<=s.length
  ·have d1:decide ((g.length:Int)<=(s.length:Int))=true:=by simp; omega
   simp only [go_sem,simprocAttr,d1]
   intro _
   exact ⟨by omega,by simp [preB],rfl⟩
  ·have d1:decide ((g.length:Int)<=(s.length:Int))=false:=by simp; omega
   simp only [go_sem,simprocAttr,d1]
   refine ⟨?_,rfl⟩
   have:preB g s=false:=by
    unfold preB
    refine decide_eq_false fun h=>?_
    have:=congrArg List.length h
    rw [List.length_take] at this
    omega
   rw [this]
 ·simp only [go_sem,simprocAttr]
  exact ⟨rfl,rfl⟩
def rowS (L:List (List UInt8)):List (List AV):=L.map fun x=>[.p (.s x)]
theorem rowS_at {L:List (List UInt8)} {x:Nat} (h:x<L.length):(rowS L)[x]?=some [.p (.s L[x])]:=by simp [rowS,h]
theorem signsC (H:List AO):ACall Tryz.prog 177 [] H (fun r H'=>r=.gs H.length 0 0 15/\H'=H++[.rows 1 0 (rowS signs)]):=by
 refine call177 (by simp) ?_
 simp only [go_sem,simprocAttr,mc177,mr177]
 rfl
theorem signL_drop {l:List UInt8} {L:List (List UInt8)} {x:Nat} (h:x<L.length):signL l (L.drop x)=if preB L[x] l then L[x] else signL l (L.drop (x+1)):=by
 rw [List.drop_eq_getElem_cons h,signL]
theorem sign_small {x:Nat} (h:x<signs.length):signs[x].length<=2:=by
 have:∀ g∈signs,g.length<=2:=by decide
 exact this _ (List.getElem_mem h)
theorem signC {s:List UInt8} (hs:s.length<=1099511627776) {i:Nat} (hi:i<=s.length) (H:List AO) :
  ACall Tryz.prog 157 [.p (.s s),.p (.i .i64 i)] H (pureQ (.p (.s (signL (s.drop i) signs))) H):=by
 refine acall_drop1 ?_ (tf_p _)
 refine call157 (by simp) ?_
 simp only [go_sem,simprocAttr,mc157,mr157]
 refine (signsC H).mono ?_
 rintro r H' ⟨rfl,rfl⟩
 simp only [go_sem,simprocAttr]
 intro _
 refine ⟨Nat,[0,1,4,7,8,9],fun x st=>(x<=15/\signL (s.drop i) (signs.drop x)=signL (s.drop i) signs)/\st=⟨[(0,.p (.s s)),(1,.p (.i .i64 i)),(4,.p (.s [])),(7,.gs H.length 0 0 15),(8,.p (.i .i64 15)),(9,.p (.i .i64 x))],[],H++[.rows 1 0 (rowS signs)]⟩,fun x=>15 - x,⟨0,?_⟩,?_⟩
 ·simp only [go_sem,simprocAttr]
 ·rintro x _ ⟨⟨hx,hn⟩,rfl⟩
  have hlen:signs.length=15:=rfl
  by_cases hlt:x<15
  ·have hlt':x<signs.length:=hlt
   have d1:decide ((x:Int)<15)=true:=by simp; omega
   rw [signL_drop hlt'] at hn
   have et:List.take (s.length - i) (s.drop i)=s.drop i:=List.take_of_length_le (by simp)
   simp only [go_sem,simprocAttr,d1,rowS_at hlt']
   refine ⟨by omega,?_⟩
   rw [et]
   refine ⟨by omega,?_⟩
   refine acall_pure (prefC (s.drop i) signs[x] (by rw [List.length_drop]; omega) (by have:=sign_small hlt'; omega) _) ?_
   cases hp:preB signs[x] (s.drop i)
   ·rw [hp] at hn
    simp only [go_sem,simprocAttr,hp,wrN x (by omega)]
    exact ⟨x+1,⟨⟨by omega,by simpa using hn⟩,rfl⟩,by omega⟩
   ·rw [hp] at hn
    simp only [go_sem,simprocAttr,hp]
    rw [if_pos rfl] at hn
    exact ⟨by rw [hn],_,rfl⟩
  ·have d1:decide ((x:Int)<15)=false:=by simp; omega
   have:signs.drop x=[]:=List.drop_of_length_le (by omega)
   rw [this,signL] at hn
   simp only [go_sem,simprocAttr,d1]
   exact ⟨by rw [<- hn],_,rfl⟩
def byteR (l:List UInt8):List (List AV):=l.map fun c=>[by1 c]
theorem byteR_len (l):(byteR l).length=l.length:=by simp [byteR]
theorem byteR_app (l c):byteR (l++[c])=byteR l++[[by1 c]]:=by simp [byteR]
theorem bytesOf_R (l : List UInt8) : bytesOf (byteR l) = some l := by
  induction l with
  | nil => rfl
  | cons c l ih =>
    show (bytesOf (byteR l)).map _ = _
    rw [ih]
    simp
theorem own_b2s {H:List AO} {a:AV} {l:List UInt8} (h:OwnR H a 1 (byteR l)) (hl:l.length<=140737488355328):b2sV H a=some (.p (.s l)):=by
 rcases h with ⟨rfl,h⟩ | ⟨id,ver,rfl,h⟩
 ·have:l=[]:=by simpa [byteR] using h
  rw [this]; rfl
 ·simp only [go_sem,simprocAttr,h]
  have hl':(byteR l).length<=140737488355328:=by rw [byteR_len]; exact hl
  rw [if_pos (Nat.le_refl _),List.take_length,b2sR_some,if_pos hl',bytesOf_R]
  rfl
theorem pre_ext {H H':List AO} (h:∀ (j:Nat) o,H[j]?=some o->H'[j]?=some o):∃ G,H'=H++G:=by
 refine ⟨H'.drop H.length,List.ext_getElem? fun j=>?_⟩
 rcases Nat.lt_or_ge j H.length with hj | hj
 ·rw [List.getElem?_append_left hj,h j H[j] (by simp [hj])]; simp [hj]
 ·rw [List.getElem?_append_right hj,List.getElem?_drop]; congr 1; omega
theorem pre_len {H H':List AO} (h:∀ (j:Nat) o,H[j]?=some o->H'[j]?=some o):H.length<=H'.length:=by
 obtain ⟨G,rfl⟩:=pre_ext h; simp
theorem byW (c:UInt8):wr .i64 (c.toNat:Int)=(c.toNat:Int):=wr64 (by omega) (by have:=c.toNat_lt; omega)
theorem withinC (n lo hi:Int) (H:List AO):ACall Tryz.prog 76 [.p (.i .i64 n),.p (.i .i64 lo),.p (.i .i64 hi)] H (pureQ (.p (.b (decide (lo<=n) && decide (n<=hi)))) H):=by
 refine call76 (by simp) ?_
 simp only [go_sem,simprocAttr,mc76,mr76]
 cases h:decide (lo<=n)
 ·simp only [go_sem,simprocAttr,h]
  exact ⟨by simp,rfl⟩
 ·simp only [go_sem,simprocAttr,h]
  exact ⟨by simp,rfl⟩
theorem strC {s:List UInt8} (hs:s.length<=1099511627776) {i:Nat} (hi:i<s.length) (H:List AO) :
  ACall Tryz.prog 156 [.p (.s s),.p (.i .i64 i)] H (pureQ (match strGo s (i+1) [] with
   | some (t,e)=>.tup [.p (.s t),.p (.i .i64 (e:Int)),.p (.b true)]
   | none=>.tup [.p (.s []),.p (.i .i64 0),.p (.b false)]) H):=by
 have tf:Tf (match strGo s (i+1) [] with
   | some (t,e)=>.tup [.p (.s t),.p (.i .i64 (e:Int)),.p (.b true)]
   | none=>.tup [.p (.s []),.p (.i .i64 0),.p (.b false)]):=by
  split <;> exact tf_tup _ (by intro c hc; simp at hc; rcases hc with rfl | rfl | rfl <;> exact tf_p _)
 refine acall_drop1 ?_ tf
 clear tf
 generalize hR:strGo s (i+1) []=R
 refine call156 (by simp) ?_
 simp only [go_sem,simprocAttr,mc156,mr156,wrN i (by omega)]
 refine ⟨Nat × List UInt8 × AV × List AO,[0,1,4,5,6,7,8],fun x st=>(x.1<=s.length/\x.2.1.length<=x.1/\strGo s x.1 x.2.1=R/\OwnR x.2.2.2 x.2.2.1 1 (byteR x.2.1)/\(∀ id v o m,x.2.2.1=.gs id v o m->H.length<=id)/\∀ (j:Nat) o,H[j]?=some o->x.2.2.2[j]?=some o)/\st=⟨[(0,.p (.s s)),(1,.p (.i .i64 i)),(4,.p (.s [])),(5,.p (.i .i64 0)),(6,.p (.b false)),(7,x.2.2.1),(8,.p (.i .i64 x.1))],[],x.2.2.2⟩,fun x=>s.length - x.1,⟨(i+1,[],.p .nl,H),?_⟩,?_⟩
 ·simp only [go_sem,simprocAttr]
  exact ⟨by omega,hR,.inl ⟨rfl,rfl⟩,fun _ _ _ _ h=>h.elim,fun _ _ h=>h⟩
 ·rintro ⟨x,out,a,H1⟩ _ ⟨⟨h1,h2,h3,h4,h5,h6⟩,rfl⟩
  simp only at h1 h2 h3 h4 h5 h6 ⊢
  obtain ⟨G0,hG0⟩:=pre_ext h6
  by_cases hlt:x<s.length
  ·have d1:decide ((x:Int)<(s.length:Int))=true:=by simp; omega
   have hg:s[x]?=some s[x]:=by simp [hlt]
   rw [strGo,dif_pos hlt] at h3
   simp only [go_sem,simprocAttr,d1,hg]
   intro _
   cases h34:decide ((s[x].toNat:Int)=34)
   ·have n34:=of_decide_eq_false h34
    rw [if_neg n34] at h3
    cases h92:decide ((s[x].toNat:Int)=92)
    ·have n92:=of_decide_eq_false h92
     rw [if_neg n92] at h3
     simp only [go_sem,simprocAttr,h34,h92,byW]
     refine acall_pure (withinC _ _ _ _) ?_
     cases hp:isPl s[x]
     ·have hp':=hp
      unfold isPl at hp'
      rw [hp] at h3
      simp only [go_sem,simprocAttr,hp']
      rw [<- h3]
      exact ⟨rfl,_,hG0⟩
     ·have hp':=hp
      unfold isPl at hp'
      rw [if_pos hp] at h3
      simp only [go_sem,simprocAttr,hp']
      refine ⟨by intro r hr; simp at hr; subst hr; rfl,?_⟩
      refine app_fr (rs:=byteR out) (ys:=[[by1 s[x]]]) h4.ext (by rw [byteR_len]; simp; omega) (by rw [byteR_len]; simp; omega) ?_
      intro id ver H4 k1 k2 k3 k4
      rw [byteR_len]
      simp only [go_sem,simprocAttr,wrN x (by omega)]
      refine ⟨(x+1,out++[s[x]],.gs id ver 0 (out.length+1),H4),⟨⟨by omega,by simp; omega,h3,.inr ⟨id,ver,by simp [byteR_len],by rw [byteR_app]; exact k1⟩,?_,?_⟩,rfl⟩,by simp only; omega⟩
      ·intro id' v o m' e
       cases e
       rcases k2 with ⟨v,o,n',e⟩ | h
       ·exact h5 _ _ _ _ e
       ·have:=pre_len h6; simp at h; omega
      ·intro j o hj
       refine k3 j o (get_ext (h6 j o hj) _) (fun v o' n' e=>?_)
       have:=h5 _ _ _ _ e
       have:=get_lt hj
       omega
    ·have n92:=of_decide_eq_true h92
     rw [if_pos n92] at h3
     simp only [go_sem,simprocAttr,h34,h92,wrN x (by omega)]
     intro _
     by_cases hx1:x+1<s.length
     ·have hg1:s[x+1]?=some s[x+1]:=by simp [hx1]
      have d2:decide (((x+1:Nat):Int)=(s.length:Int))=false:=by simp; omega
      rw [dif_pos hx1] at h3
      simp only [go_sem,simprocAttr,d2,hg1]
      cases h110:decide ((s[x+1].toNat:Int)=110)
      ·rw [if_neg (of_decide_eq_false h110)] at h3
       cases hq:decide ((s[x+1].toNat:Int)=34)
       ·cases hw:decide ((s[x+1].toNat:Int)=92)
        ·rw [if_neg (by rw [not_or]; exact ⟨of_decide_eq_false hq,of_decide_eq_false hw⟩)] at h3
         simp only [go_sem,simprocAttr,h110,hq,hw]
         rw [<- h3]
         exact ⟨rfl,_,hG0⟩
        ·rw [if_pos (.inr (of_decide_eq_true hw))] at h3
         simp only [go_sem,simprocAttr,h110,hq,hw,hg1]
         refine ⟨by intro r hr; simp at hr; subst hr; rfl,?_⟩
         refine app_fr (rs:=byteR out) (ys:=[[by1 s[x+1]]]) h4.ext (by rw [byteR_len]; simp; omega) (by rw [byteR_len]; simp; omega) ?_
         intro id ver H4 k1 k2 k3 k4
         rw [byteR_len]
         simp only [go_sem,simprocAttr,wrN (x+1) (by omega)]
         refine ⟨(x+2,out++[s[x+1]],.gs id ver 0 (out.length+1),H4),⟨⟨by omega,by simp; omega,h3,.inr ⟨id,ver,by simp [byteR_len],by rw [byteR_app]; exact k1⟩,?_,?_⟩,rfl⟩,by simp only; omega⟩
         ·intro id' v o m' e
          cases e
          rcases k2 with ⟨v,o,n',e⟩ | h
          ·exact h5 _ _ _ _ e
          ·have:=pre_len h6; simp at h; omega
         ·intro j o hj
          refine k3 j o (get_ext (h6 j o hj) _) (fun v o' n' e=>?_)
          have:=h5 _ _ _ _ e
          have:=get_lt hj
          omega
       ·rw [if_pos (.inl (of_decide_eq_true hq))] at h3
        simp only [go_sem,simprocAttr,h110,hq,hg1]
        refine ⟨by intro r hr; simp at hr; subst hr; rfl,?_⟩
        refine app_fr (rs:=byteR out) (ys:=[[by1 s[x+1]]]) h4.ext (by rw [byteR_len]; simp; omega) (by rw [byteR_len]; simp; omega) ?_
        intro id ver H4 k1 k2 k3 k4
        rw [byteR_len]
        simp only [go_sem,simprocAttr,wrN (x+1) (by omega)]
        refine ⟨(x+2,out++[s[x+1]],.gs id ver 0 (out.length+1),H4),⟨⟨by omega,by simp; omega,h3,.inr ⟨id,ver,by simp [byteR_len],by rw [byteR_app]; exact k1⟩,?_,?_⟩,rfl⟩,by simp only; omega⟩
        ·intro id' v o m' e
         cases e
         rcases k2 with ⟨v,o,n',e⟩ | h
         ·exact h5 _ _ _ _ e
         ·have:=pre_len h6; simp at h; omega
        ·intro j o hj
         refine k3 j o (get_ext (h6 j o hj) _) (fun v o' n' e=>?_)
         have:=h5 _ _ _ _ e
         have:=get_lt hj
         omega
      ·rw [if_pos (of_decide_eq_true h110)] at h3
       simp only [go_sem,simprocAttr,h110]
       refine ⟨by intro r hr; simp at hr; subst hr; rfl,?_⟩
       refine app_fr (rs:=byteR out) (ys:=[[by1 10]]) h4.ext (by rw [byteR_len]; simp; omega) (by rw [byteR_len]; simp; omega) ?_
       intro id ver H4 k1 k2 k3 k4
       rw [byteR_len]
       simp only [go_sem,simprocAttr,wrN (x+1) (by omega)]
       refine ⟨(x+2,out++[10],.gs id ver 0 (out.length+1),H4),⟨⟨by omega,by simp; omega,h3,.inr ⟨id,ver,by simp [byteR_len],by rw [byteR_app]; exact k1⟩,?_,?_⟩,rfl⟩,by simp only; omega⟩
       ·intro id' v o m' e
        cases e
        rcases k2 with ⟨v,o,n',e⟩ | h
        ·exact h5 _ _ _ _ e
        ·have:=pre_len h6; simp at h; omega
       ·intro j o hj
        refine k3 j o (get_ext (h6 j o hj) _) (fun v o' n' e=>?_)
        have:=h5 _ _ _ _ e
        have:=get_lt hj
        omega
     ·have d2:decide (((x+1:Nat):Int)=(s.length:Int))=true:=by simp; omega
      rw [dif_neg hx1] at h3
      simp only [go_sem,simprocAttr,d2]
      rw [<- h3]
      exact ⟨rfl,_,hG0⟩
   ·rw [if_pos (of_decide_eq_true h34)] at h3
    have hb:=own_b2s h4 (by omega)
    simp only [go_sem,simprocAttr,h34,hb,wrN x (by omega)]
    rw [<- h3]
    exact ⟨rfl,_,hG0⟩
  ·have d1:decide ((x:Int)<(s.length:Int))=false:=by simp; omega
   rw [strGo,dif_neg hlt] at h3
   simp only [go_sem,simprocAttr,d1]
   intro _
   rw [<- h3]
   exact ⟨rfl,_,hG0⟩
end Go.Proofs.YteilijfligofdaaGreatDoor.Qp
namespace Go.Proofs.YteilijfligofdaaGreatDoor.Qp
open Go.AM Go.Shelf Mc Pg
def rhoAtoi:Ren:=⟨fun x=>match x with | 172=>176 | 244=>197 | 245=>198 | 247=>207 | 279=>208 | 280=>209 | 281=>210 | 282=>211 | 287=>216 | 316=>217 | 171=>61 | 205=>218 | 321=>219 | 322=>220 | 243=>121 | 246=>162 | 283=>180 | 284=>181 | 285=>182 | 286=>183 | 129=>201 | 317=>200 | 318=>202 | 319=>203 | 320=>204 | 337=>212 | 338=>213 | n=>n,
 fun x=>match x with | 75=>168 | 76=>169 | 167=>204 | 37=>22 | 85=>205 | 168=>207 | 53=>189 | 175=>211 | 46=>162 | 210=>214 | 127=>184 | 145=>221 | 143=>219 | 171=>188 | 173=>192 | 212=>200 | 51=>201 | 213=>202 | 232=>216 | 233=>217 | 80=>171 | n=>n,
 fun x=>match x with | 15=>2 | 16=>3 | 17=>0 | 18=>4 | 19=>5 | n=>n⟩
theorem laysAtoi:LaysC.n172 Tryz.prog rhoAtoi where
 mixed:=by kernel_rfl
 f129:=Eq.trans Tryz.func201 (by kernel_rfl)
 f171:=Eq.trans Tryz.func61 (by kernel_rfl)
 f172:=Eq.trans Tryz.func176 (by kernel_rfl)
 f205:=Eq.trans Tryz.func218 (by kernel_rfl)
 f243:=Eq.trans Tryz.func121 (by kernel_rfl)
 f244:=Eq.trans Tryz.func197 (by kernel_rfl)
 f245:=Eq.trans Tryz.func198 (by kernel_rfl)
 f246:=Eq.trans Tryz.func162 (by kernel_rfl)
 f247:=Eq.trans Tryz.func207 (by kernel_rfl)
 f279:=Eq.trans Tryz.func208 (by kernel_rfl)
 f280:=Eq.trans Tryz.func209 (by kernel_rfl)
 f281:=Eq.trans Tryz.func210 (by kernel_rfl)
 f282:=Eq.trans Tryz.func211 (by kernel_rfl)
 f283:=Eq.trans Tryz.func180 (by kernel_rfl)
 f284:=Eq.trans Tryz.func181 (by kernel_rfl)
 f285:=Eq.trans Tryz.func182 (by kernel_rfl)
 f286:=Eq.trans Tryz.func183 (by kernel_rfl)
 f287:=Eq.trans Tryz.func216 (by kernel_rfl)
 f316:=Eq.trans Tryz.func217 (by kernel_rfl)
 f317:=Eq.trans Tryz.func200 (by kernel_rfl)
 f318:=Eq.trans Tryz.func202 (by kernel_rfl)
 f319:=Eq.trans Tryz.func203 (by kernel_rfl)
 f320:=Eq.trans Tryz.func204 (by kernel_rfl)
 f321:=Eq.trans Tryz.func219 (by kernel_rfl)
 f322:=Eq.trans Tryz.func220 (by kernel_rfl)
 f337:=Eq.trans Tryz.func212 (by kernel_rfl)
 f338:=Eq.trans Tryz.func213 (by kernel_rfl)
 t0:=Tryz.underlying0
 a0:=Tryz.isAgg0
 z0:=Tryz.sizeOf0
 v0:=Tryz.zeroValue0
 t2:=Tryz.underlying2
 a2:=Tryz.isAgg2
 z2:=Tryz.sizeOf2
 v2:=Tryz.zeroValue2
 t3:=Tryz.underlying3
 a3:=Tryz.isAgg3
 z3:=Tryz.sizeOf3
 v3:=Tryz.zeroValue3
 t4:=Tryz.underlying4
 a4:=Tryz.isAgg4
 z4:=Tryz.sizeOf4
 v4:=Tryz.zeroValue4
 t5:=Tryz.underlying5
 a5:=Tryz.isAgg5
 z5:=Tryz.sizeOf5
 v5:=Tryz.zeroValue5
 t9:=Tryz.underlying9
 a9:=Tryz.isAgg9
 z9:=Tryz.sizeOf9
 v9:=Tryz.zeroValue9
 t20:=Tryz.underlying20
 a20:=Tryz.isAgg20
 z20:=Tryz.sizeOf20
 v20:=Tryz.zeroValue20
 t21:=Tryz.underlying21
 a21:=Tryz.isAgg21
 z21:=Tryz.sizeOf21
 v21:=Tryz.zeroValue21
 t37:=Tryz.underlying22
 a37:=Tryz.isAgg22
 z37:=Tryz.sizeOf22
 v37:=Tryz.zeroValue22
 t46:=Tryz.underlying162
 a46:=Tryz.isAgg162
 z46:=Tryz.sizeOf162
 v46:=Tryz.zeroValue162
 t51:=Tryz.underlying201
 a51:=Tryz.isAgg201
 z51:=Tryz.sizeOf201
 v51:=Tryz.zeroValue201
 t53:=Tryz.underlying189
 a53:=Tryz.isAgg189
 z53:=Tryz.sizeOf189
 v53:=Tryz.zeroValue189
 t75:=Tryz.underlying168
 a75:=Tryz.isAgg168
 z75:=Tryz.sizeOf168
 v75:=Tryz.zeroValue168
 t76:=Tryz.underlying169
 a76:=Tryz.isAgg169
 z76:=Tryz.sizeOf169
 v76:=Tryz.zeroValue169
 t85:=Tryz.underlying205
 a85:=Tryz.isAgg205
 z85:=Tryz.sizeOf205
 v85:=Tryz.zeroValue205
 t127:=Tryz.underlying184
 a127:=Tryz.isAgg184
 z127:=Tryz.sizeOf184
 v127:=Tryz.zeroValue184
 t143:=Tryz.underlying219
 a143:=Tryz.isAgg219
 z143:=Tryz.sizeOf219
 v143:=Tryz.zeroValue219
 t145:=Tryz.underlying221
 a145:=Tryz.isAgg221
 z145:=Tryz.sizeOf221
 v145:=Tryz.zeroValue221
 t167:=Tryz.underlying204
 a167:=Tryz.isAgg204
 z167:=Tryz.sizeOf204
 v167:=Tryz.zeroValue204
 t168:=Tryz.underlying207
 a168:=Tryz.isAgg207
 z168:=Tryz.sizeOf207
 v168:=Tryz.zeroValue207
 t171:=Tryz.underlying188
 a171:=Tryz.isAgg188
 z171:=Tryz.sizeOf188
 v171:=Tryz.zeroValue188
 t173:=Tryz.underlying192
 a173:=Tryz.isAgg192
 z173:=Tryz.sizeOf192
 v173:=Tryz.zeroValue192
 t175:=Tryz.underlying211
 a175:=Tryz.isAgg211
 z175:=Tryz.sizeOf211
 v175:=Tryz.zeroValue211
 t210:=Tryz.underlying214
 a210:=Tryz.isAgg214
 z210:=Tryz.sizeOf214
 v210:=Tryz.zeroValue214
 t212:=Tryz.underlying200
 a212:=Tryz.isAgg200
 z212:=Tryz.sizeOf200
 v212:=Tryz.zeroValue200
 t213:=Tryz.underlying202
 a213:=Tryz.isAgg202
 z213:=Tryz.sizeOf202
 t232:=Tryz.underlying216
 a232:=Tryz.isAgg216
 z232:=Tryz.sizeOf216
 v232:=Tryz.zeroValue216
 t233:=Tryz.underlying217
 a233:=Tryz.isAgg217
 z233:=Tryz.sizeOf217
 v233:=Tryz.zeroValue217
 g15:=by kernel_rfl
 g16:=by kernel_rfl
 g17:=by kernel_rfl
 g18:=by kernel_rfl
 g19:=by kernel_rfl
 t80:=Tryz.underlying171
 a80:=Tryz.isAgg171
 z80:=Tryz.sizeOf171
 v80:=Tryz.zeroValue171
 i0:=by kernel_rfl
 i2:=by kernel_rfl
 i3:=by kernel_rfl
 i4:=by kernel_rfl
 i5:=by kernel_rfl
 i9:=by kernel_rfl
 i20:=by kernel_rfl
 i21:=by kernel_rfl
 i37:=by kernel_rfl
 i46:=by kernel_rfl
 i51:=by kernel_rfl
 i53:=by kernel_rfl
 i75:=by kernel_rfl
 i76:=by kernel_rfl
 i80:=by kernel_rfl
 i85:=by kernel_rfl
 i127:=by kernel_rfl
 i143:=by kernel_rfl
 i145:=by kernel_rfl
 i167:=by kernel_rfl
 i168:=by kernel_rfl
 i171:=by kernel_rfl
 i173:=by kernel_rfl
 i175:=by kernel_rfl
 i210:=by kernel_rfl
 i212:=by kernel_rfl
 i232:=by kernel_rfl
 i233:=by kernel_rfl
 m15:=by kernel_rfl
 m16:=by kernel_rfl
 m17:=by kernel_rfl
 m18:=by kernel_rfl
 m19:=by kernel_rfl
 c0:=by kernel_rfl
 c2:=by kernel_rfl
 c3:=by kernel_rfl
 c4:=by kernel_rfl
 c5:=by kernel_rfl
 c9:=by kernel_rfl
 c20:=by kernel_rfl
 c21:=by kernel_rfl
 c37:=by kernel_rfl
 c46:=by kernel_rfl
 c51:=by kernel_rfl
 c53:=by kernel_rfl
 c75:=by kernel_rfl
 c76:=by kernel_rfl
 c80:=by kernel_rfl
 c85:=by kernel_rfl
 c127:=by kernel_rfl
 c143:=by kernel_rfl
 c145:=by kernel_rfl
 c167:=by kernel_rfl
 c168:=by kernel_rfl
 c171:=by kernel_rfl
 c173:=by kernel_rfl
 c175:=by kernel_rfl
 c210:=by kernel_rfl
 c212:=by kernel_rfl
 c213:=by kernel_rfl
 c232:=by kernel_rfl
 c233:=by kernel_rfl
theorem sr_more {θ:Th} {W:Im} {H:List AO} {w w':World} (h:SR θ W H w) (h1:w'.os=w.os) (h2:w'.tape=w.tape) (h3:w'.output=w.output) (h4:w.heap.size<=w'.heap.size) (h5:∀ k,k<w.heap.size->w'.heap[k]?=w.heap[k]?):SR θ W H w'/\Stp θ W w θ W w':=by
 refine ⟨⟨?_,?_,h.out,h.own,h.inj⟩,⟨h1,h2,h3,h4,fun k hk _=>h5 k hk,fun _ _ _ h=>h,fun _ _ _ _=>rfl,fun _ _ _=>.inl rfl,fun _ h=>.inl h⟩⟩
 ·intro b o v hv
  rw [<- h.imm b o v hv]
  exact World.cell?_of_block (h5 b (h.lt hv))
 ·intro i o hi
  exact (h.obj i o hi).mono (fun _=>rfl) (fun v k s t hk=>h5 k (h.ownedLt hk)) (fun _ _ h=>h) (ht:=fun b v o hv ho=>by rw [h5 b (h.lt hv)]; exact ho)
theorem acall_more {P:Program} {f:Nat} {args:List AV} {H:List AO} {r:AV} (hb:HasBody P f)
  (hc:∀ w θ W (vs:Array Value),SR θ W H w->Rels θ W args vs->Calls P f vs w fun e w'=>∃ rv,e=.returned rv/\ARel θ W r rv/\w'.os=w.os/\w'.tape=w.tape/\w'.output=w.output/\w.heap.size<=w'.heap.size/\∀ k,k<w.heap.size->w'.heap[k]?=w.heap[k]?) :
  ACall P f args H (pureQ r H):=by
 refine ⟨hb,fun w θ W vs hSR hrel=>?_⟩
 refine (hc w θ W vs hSR hrel).mono ?_
 rintro e w' ⟨rv,rfl,hr,h1,h2,h3,h4,h5⟩
 obtain ⟨k1,k2⟩:=sr_more hSR h1 h2 h3 h4 h5
 exact ⟨rv,r,H,θ,W,rfl,⟨rfl,rfl⟩,k1,hr,k2⟩
theorem one_str {θ : Th} {W : Im} {s : List UInt8} {vs : Array Value} (hr : Rels θ W [.p (.s s)] vs) : vs = #[.string ⟨s.toArray⟩] := by
  obtain ⟨hr1, hr2⟩ := hr
  have hs : vs.toList.length = 1 := by simpa using hr1
  match hl : vs.toList, hs with
  | [a], _ =>
    have := hr2 0 _ a rfl (by rw [← Array.getElem?_toList, hl]; rfl)
    obtain ⟨rfl, _⟩ := this.s_inv
    rw [← Array.toList_inj]; exact hl
theorem arel_two {θ:Th} {W:Im} {a b:PV} {u v:Value} (h1:PRel W a u) (h2:PRel W b v):ARel θ W (.tup [.p a,.p b]) (.tuple #[u,v]):=by
 refine .tup _ _ (by rfl) ?_
 intro j c x hj hv
 match j with
 | 0=>cases hj; cases hv; exact .p _ _ h1
 | 1=>cases hj; cases hv; exact .p _ _ h2
 | j+2=>simp at hj
theorem atoiOk {s:List UInt8} {n:Int} {H:List AO} (hl:s.length<=1099511627776) (h:Lib.atoiAll s=.ok n):ACall Tryz.prog 176 [.p (.s s)] H (pureQ (.tup [.p (.i .i64 n),.p .ni]) H):=by
 refine acall_more ⟨_,Tryz.func176,rfl,rfl⟩ ?_
 intro w θ W vs hSR hr
 obtain rfl:=one_str hr
 refine (Any.strconv_Atoi_ok laysAtoi ⟨s.toArray⟩ (by simp [ByteArray.size]; omega) n (by simpa using h) w).mono ?_
 rintro e w' ⟨rfl,hw⟩
 refine ⟨_,rfl,arel_two (.i _ _) .ni,?_⟩
 rcases hw with rfl | ⟨t,rfl⟩
 ·exact ⟨rfl,rfl,rfl,Nat.le_refl _,fun _ _=>rfl⟩
 ·exact ⟨rfl,rfl,rfl,by rw [Lib.bytesWorld_size]; omega,fun k hk=>Lib.bytesWorld_at_old _ _ _ _ hk⟩
def Rg (H:List AO):Prop:=∃ (i:Nat) (te:TypeId) (pe:Value),H[i]?=some (AO.glob 3 (.iface te pe))
theorem Rg.ext {H:List AO} (h:Rg H) (A:List AO):Rg (H++A):=by
 obtain ⟨i,te,pe,h⟩:=h
 exact ⟨i,te,pe,get_ext h A⟩
theorem Rg.keep {H H':List AO} (h:Rg H) (k:∀ (j:Nat) o,H[j]?=some o->H'[j]?=some o):Rg H':=by
 obtain ⟨i,te,pe,h⟩:=h
 exact ⟨i,te,pe,k _ _ h⟩
theorem atoiRg {s:List UInt8} {H:List AO} (hg:Rg H) (hl:s.length<=1099511627776) (h:Lib.atoiAll s=.range):ACall Tryz.prog 176 [.p (.s s)] H (pureQ (.tup [.p (.i .i64 (Lib.atoiSat s)),.p .er]) H):=by
 refine acall_more ⟨_,Tryz.func176,rfl,rfl⟩ ?_
 intro w θ W vs hSR hr
 obtain rfl:=one_str hr
 obtain ⟨i,te,pe,hi⟩:=hg
 have hW:=(hSR.obj i _ hi).1
 refine (Any.strconv_Atoi_range laysAtoi ⟨s.toArray⟩ (by simp [ByteArray.size]; omega) (by simpa using h) (.iface te pe) w (hSR.imm _ _ _ hW) (.inr ⟨_,_,rfl⟩)).mono ?_
 rintro e w' ⟨N,rfl,h1,h2,h3⟩
 exact ⟨_,rfl,arel_two (.i _ _) (.er _ _),h3.os,h3.tape,h3.output,h3.size,fun k hk=>h3.block k hk⟩
theorem numV_ge : ∀ (l : List UInt8) (n : Nat), n ≤ numV l n
  | [], n => Nat.le_refl _
  | c :: l, n => by
    have := numV_ge l (n * 10 + (c.toNat - 48))
    rw [numV]; omega
theorem isDg_iff {c:UInt8}:isDg c=true ↔ 48<=c.toNat/\c.toNat<=57:=by
 simp [isDg]; omega
theorem parse_num : ∀ (l : List UInt8) (n : Nat), (∀ c ∈ l, isDg c = true) → n < 18446744073709551616 → Lib.parseUint10 n l = if numV l n < 18446744073709551616 then .ok (numV l n) else .range
  | [], n, _, hn => by rw [Lib.parseUint10, numV, if_pos hn]
  | c :: l, n, hl, hn => by
    have hc := isDg_iff.1 (hl c (by simp))
    have ih := parse_num l (n * 10 + (c.toNat - 48)) (fun x hx => hl x (by simp [hx]))
    have hge := numV_ge l (n * 10 + (c.toNat - 48))
    rw [Lib.parseUint10, numV, if_pos hc]
    by_cases h1 : 1844674407370955162 ≤ n
    · rw [if_pos h1, if_neg (by omega)]
    · rw [if_neg h1]
      by_cases h2 : 18446744073709551616 ≤ n * 10 + (c.toNat - 48)
      · rw [if_pos h2, if_neg (by omega)]
      · rw [if_neg h2]; exact ih (by omega)
theorem atoi_num {l : List UInt8} (hl : ∀ c ∈ l, isDg c = true) (hne : l ≠ []) : Lib.atoiAll l = if numV l 0 ≤ maxI then .ok (numV l 0 : Nat) else .range := by
  cases l with
  | nil => exact (hne rfl).elim
  | cons c r =>
    have hc := isDg_iff.1 (hl c (by simp))
    have hp := parse_num (c :: r) 0 hl (by omega)
    unfold Lib.atoiAll
    simp only [show ¬ c.toNat = 43 by omega, show ¬ c.toNat = 45 by omega, or_self, if_false, Lib.parseMag, not_false_eq_true, true_and, false_and, if_neg (show ¬ (c :: r = []) by simp), hp]
    unfold maxI
    by_cases h1 : numV (c :: r) 0 < 18446744073709551616
    · rw [if_pos h1]
      by_cases h2 : numV (c :: r) 0 ≤ 9223372036854775807
      · rw [if_pos h2]; simp only [show ¬ (9223372036854775808 ≤ numV (c :: r) 0) by omega, if_false]
      · rw [if_neg h2]; simp only [show (9223372036854775808 ≤ numV (c :: r) 0) by omega, if_true]
    · rw [if_neg h1, if_neg (by omega)]
theorem runL_all (q : UInt8 → Bool) : ∀ (l : List UInt8), ∀ c ∈ l.take (runL q l), q c = true
  | [], c, h => by simp at h
  | a :: l, c, h => by
    rw [runL] at h
    split at h
    · rw [List.take_succ_cons] at h
      rcases List.mem_cons.1 h with rfl | h
      · assumption
      · exact runL_all q l c h
    · simp at h
theorem run_take (q:UInt8->Bool) (s:List UInt8) (i:Nat):∀ c∈(s.drop i).take (runAt q s i - i),q c=true:=by
 have:=runL_all q (s.drop i)
 unfold runAt
 rwa [Nat.add_sub_cancel_left]
theorem numC {s:List UInt8} (hs:s.length<=1099511627776) {i:Nat} (hi:i<s.length) (hd:isDg s[i]=true) {H:List AO} (hg:Rg H) :
  ACall Tryz.prog 154 [.p (.s s),.p (.i .i64 i)] H (pureQ (tokAV (numD s i s[i]) i) H):=by
 refine acall_drop1 ?_ (tf_tokAV _ _)
 have hgi:s[i]?=some s[i]:=by simp [hi]
 refine call154 (by simp) ?_
 simp only [go_sem,simprocAttr,mc154,mr154]
 refine acall_pure (runC digitC hs (Nat.le_of_lt hi) _) ?_
 have r1:=runAt_le isDg (s:=s) (i:=i) (by omega)
 have r2:i<runAt isDg s i:=by
  rw [runAt_t hi hd]; have:=runAt_ge isDg s (i+1); omega
 have hall:=run_take isDg s i
 have hlen:((s.drop i).take (runAt isDg s i - i)).length=runAt isDg s i - i:=by simp; omega
 have hne:(s.drop i).take (runAt isDg s i - i)≠[]:=by intro h; rw [h] at hlen; simp at hlen; omega
 have ha:=atoi_num hall hne
 have ew:wr .i64 ((runAt isDg s i:Int) - (i:Int))=((runAt isDg s i - i:Nat):Int):=by rw [wr64 (by omega) (by omega)]; omega
 unfold numD
 generalize runAt isDg s i=e at *
 generalize hds:(s.drop i).take (e - i)=ds at *
 simp only [go_sem,simprocAttr,hds]
 refine ⟨by omega,by omega,?_⟩
 by_cases hm:numV ds 0<=maxI
 ·rw [if_pos hm] at ha
  refine acall_pure (atoiOk (by omega) ha) ?_
  simp only [show ¬ maxI<numV ds 0 by omega,false_or]
  by_cases h1:1<e - i
  ·have d1:decide ((1:Int)<((e - i:Nat):Int))=true:=by simp; omega
   cases h48:decide ((s[i].toNat:Int)=48)
   ·simp only [go_sem,simprocAttr,ew,d1,hgi,h48]
    rw [if_neg (by intro h; exact of_decide_eq_false h48 h.2)]
    exact ⟨rfl,_,rfl⟩
   ·simp only [go_sem,simprocAttr,ew,d1,hgi,h48]
    rw [if_pos ⟨h1,of_decide_eq_true h48⟩]
    exact ⟨rfl,_,rfl⟩
  ·have d1:decide ((1:Int)<((e - i:Nat):Int))=false:=by simp; omega
   simp only [go_sem,simprocAttr,ew,d1]
   rw [if_neg (by intro h; exact h1 h.1)]
   exact ⟨rfl,_,rfl⟩
 ·rw [if_neg hm] at ha
  refine acall_pure (atoiRg (hg.ext _) (by omega) ha) ?_
  simp only [go_sem,simprocAttr]
  rw [if_pos (.inl (by omega))]
  exact ⟨rfl,_,rfl⟩
end Go.Proofs.YteilijfligofdaaGreatDoor.Qp
namespace Go.Proofs.YteilijfligofdaaGreatDoor.Qp
open Go.AM Mc Pg
theorem oneC {s:List UInt8} (hs:s.length<=1099511627776) {i:Nat} (hi:i<s.length) {H:List AO} (hg:Rg H) :
  ACall Tryz.prog 113 [.p (.s s),.p (.i .i64 i)] H (pureQ (tokAV (tokD s i s[i]) i) H):=by
 refine acall_drop1 ?_ (tf_tokAV _ _)
 have hgi:s[i]?=some s[i]:=by simp [hi]
 refine call113 (by simp) ?_
 simp only [go_sem,simprocAttr,mc113,mr113,hgi]
 refine acall_pure (digitC s[i] _) ?_
 unfold tokD
 cases hd:isDg s[i]
 ·rw [if_neg (by simp)]
  simp only [go_sem,simprocAttr,hd]
  refine acall_pure (smallC s[i] _) ?_
  cases hsm:isSm s[i]
  ·simp only [go_sem,simprocAttr,hsm]
   refine acall_pure (greatC s[i] _) ?_
   cases hgr:isGr s[i]
   ·simp only [go_sem,simprocAttr,hgr]
    cases h39:decide ((s[i].toNat:Int)=39)
    ·rw [if_neg (by simp [tick,h39])]
     cases h34:decide ((s[i].toNat:Int)=34)
     ·rw [if_neg (of_decide_eq_false h34)]
      simp only [go_sem,simprocAttr,h39,h34]
      refine acall_pure (signC hs (Nat.le_of_lt hi) _) ?_
      have hl:=signL_le (s.drop i) signs
      unfold signD
      generalize signL (s.drop i) signs=g at hl
      cases hgn:decide (g=[])
      ·have ew:wr .i64 ((i:Int)+(g.length:Int))=((i+g.length:Nat):Int):=by
        have:=hl.1
        simp at this
        rw [wr64 (by omega) (by omega)]; omega
       simp only [go_sem,simprocAttr,hgn,ew]
       intro _
       simp only [if_neg (of_decide_eq_false hgn)]
       first | exact ⟨rfl,_,rfl⟩ | exact ⟨_,rfl⟩
      ·simp only [go_sem,simprocAttr,hgn]
       simp only [if_pos (of_decide_eq_true hgn)]
       first | exact ⟨rfl,_,rfl⟩ | exact ⟨_,rfl⟩
     ·rw [if_pos (of_decide_eq_true h34)]
      simp only [go_sem,simprocAttr,h39,h34]
      refine acall_pure (strC hs hi _) ?_
      unfold strD
      rcases hq:strGo s (i+1) [] with _ | ⟨t,e⟩
      ·simp only [go_sem,simprocAttr]
       first | exact ⟨rfl,_,rfl⟩ | exact ⟨_,rfl⟩
      ·simp only [go_sem,simprocAttr]
       first | exact ⟨rfl,_,rfl⟩ | exact ⟨_,rfl⟩
    ·by_cases hi1:i+1<s.length
     ·have d1:decide (((i+1:Nat):Int)<(s.length:Int))=true:=by simp; omega
      have hg1:s[i+1]?=some s[i+1]:=by simp [hi1]
      have hgd:s.getD (i+1) 0=s[i+1]:=by simp [hi1]
      simp only [go_sem,simprocAttr,h39,wrN i (by omega),d1,hg1]
      intro _
      refine acall_pure (smallC s[i+1] _) ?_
      cases hs1:isSm s[i+1]
      ·rw [if_neg (by simp only [tick,hgd,hs1]; simp)]
       simp only [go_sem,simprocAttr,hs1]
       cases h34:decide ((s[i].toNat:Int)=34)
       ·rw [if_neg (of_decide_eq_false h34)]
        simp only [go_sem,simprocAttr,h34]
        refine acall_pure (signC hs (Nat.le_of_lt hi) _) ?_
        have hl:=signL_le (s.drop i) signs
        unfold signD
        generalize signL (s.drop i) signs=g at hl
        cases hgn:decide (g=[])
        ·have ew:wr .i64 ((i:Int)+(g.length:Int))=((i+g.length:Nat):Int):=by
          have:=hl.1
          simp at this
          rw [wr64 (by omega) (by omega)]; omega
         simp only [go_sem,simprocAttr,hgn,ew]
         intro _
         simp only [if_neg (of_decide_eq_false hgn)]
         first | exact ⟨rfl,_,rfl⟩ | exact ⟨_,rfl⟩
        ·simp only [go_sem,simprocAttr,hgn]
         simp only [if_pos (of_decide_eq_true hgn)]
         first | exact ⟨rfl,_,rfl⟩ | exact ⟨_,rfl⟩
       ·rw [if_pos (of_decide_eq_true h34)]
        simp only [go_sem,simprocAttr,h34]
        refine acall_pure (strC hs hi _) ?_
        unfold strD
        rcases hq:strGo s (i+1) [] with _ | ⟨t,e⟩
        ·simp only [go_sem,simprocAttr]
         first | exact ⟨rfl,_,rfl⟩ | exact ⟨_,rfl⟩
        ·simp only [go_sem,simprocAttr]
         first | exact ⟨rfl,_,rfl⟩ | exact ⟨_,rfl⟩
      ·rw [if_pos (by simp only [tick,hgd,hs1]; simp [h39,hi1])]
       simp only [go_sem,simprocAttr,hs1]
       refine acall_pure (wordC hs hi _) ?_
       rcases hw:wordD s i s[i] with ⟨t,e⟩ | c
       ·simp only [go_sem,simprocAttr,tokAV,Tok.cells]
        first | exact ⟨rfl,_,rfl⟩ | exact ⟨_,rfl⟩
       ·simp only [go_sem,simprocAttr,tokAV]
        first | exact ⟨rfl,_,rfl⟩ | exact ⟨_,rfl⟩
     ·have d1:decide (((i+1:Nat):Int)<(s.length:Int))=false:=by simp; omega
      rw [if_neg (by simp [tick,hi1])]
      simp only [go_sem,simprocAttr,h39,wrN i (by omega),d1]
      intro _
      cases h34:decide ((s[i].toNat:Int)=34)
      ·rw [if_neg (of_decide_eq_false h34)]
       simp only [go_sem,simprocAttr,h34]
       refine acall_pure (signC hs (Nat.le_of_lt hi) _) ?_
       have hl:=signL_le (s.drop i) signs
       unfold signD
       generalize signL (s.drop i) signs=g at hl
       cases hgn:decide (g=[])
       ·have ew:wr .i64 ((i:Int)+(g.length:Int))=((i+g.length:Nat):Int):=by
         have:=hl.1
         simp at this
         rw [wr64 (by omega) (by omega)]; omega
        simp only [go_sem,simprocAttr,hgn,ew]
        intro _
        simp only [if_neg (of_decide_eq_false hgn)]
        first | exact ⟨rfl,_,rfl⟩ | exact ⟨_,rfl⟩
       ·simp only [go_sem,simprocAttr,hgn]
        simp only [if_pos (of_decide_eq_true hgn)]
        first | exact ⟨rfl,_,rfl⟩ | exact ⟨_,rfl⟩
      ·rw [if_pos (of_decide_eq_true h34)]
       simp only [go_sem,simprocAttr,h34]
       refine acall_pure (strC hs hi _) ?_
       unfold strD
       rcases hq:strGo s (i+1) [] with _ | ⟨t,e⟩
       ·simp only [go_sem,simprocAttr]
        first | exact ⟨rfl,_,rfl⟩ | exact ⟨_,rfl⟩
       ·simp only [go_sem,simprocAttr]
        first | exact ⟨rfl,_,rfl⟩ | exact ⟨_,rfl⟩
   ·simp only [go_sem,simprocAttr,hgr]
    rw [if_pos (by simp)]
    refine acall_pure (wordC hs hi _) ?_
    rcases hw:wordD s i s[i] with ⟨t,e⟩ | c
    ·simp only [go_sem,simprocAttr,tokAV,Tok.cells]
     first | exact ⟨rfl,_,rfl⟩ | exact ⟨_,rfl⟩
    ·simp only [go_sem,simprocAttr,tokAV]
     first | exact ⟨rfl,_,rfl⟩ | exact ⟨_,rfl⟩
  ·simp only [go_sem,simprocAttr,hsm]
   rw [if_pos (by simp)]
   refine acall_pure (wordC hs hi _) ?_
   rcases hw:wordD s i s[i] with ⟨t,e⟩ | c
   ·simp only [go_sem,simprocAttr,tokAV,Tok.cells]
    first | exact ⟨rfl,_,rfl⟩ | exact ⟨_,rfl⟩
   ·simp only [go_sem,simprocAttr,tokAV]
    first | exact ⟨rfl,_,rfl⟩ | exact ⟨_,rfl⟩
 ·rw [if_pos rfl]
  simp only [go_sem,simprocAttr,hd]
  refine acall_pure (numC hs hi hd (hg.ext _)) ?_
  rcases hw:numD s i s[i] with ⟨t,e⟩ | c
  ·simp only [go_sem,simprocAttr,tokAV,Tok.cells]
   first | exact ⟨rfl,_,rfl⟩ | exact ⟨_,rfl⟩
  ·simp only [go_sem,simprocAttr,tokAV]
   first | exact ⟨rfl,_,rfl⟩ | exact ⟨_,rfl⟩
theorem tokD_code {s:List UInt8} {i:Nat} {c:UInt8} {e:Int} (h:tokD s i c=.inr e):decide (e=0)=false:=by
 refine decide_eq_false ?_
 rintro rfl
 unfold tokD at h
 split at h
 ·simp only [numD] at h; split at h <;> simp at h
 split at h
 ·unfold wordD at h
  generalize (if (c.toNat:Int)=39 then i+1 else i)=f at h
  unfold wordF at h
  split at h <;> simp at h
 split at h
 ·simp only [strD] at h; split at h <;> simp at h
 ·simp only [signD] at h; split at h <;> simp at h
def toksR (l:List Tok):List (List AV):=l.map fun t=>t.cells.map .p
theorem toksR_len (l):(toksR l).length=l.length:=by simp [toksR]
theorem toksR_app (l t):toksR (l++[t])=toksR l++[t.cells.map .p]:=by simp [toksR]
theorem lent_rows {n id ver sz:Nat} {H:List AO} {ys:List (List PV)} (hn:n<=id) (h:H[id]?=some (.rows sz ver (ys.map fun y=>y.map .p))) (hs:∀ y∈ys,y.length=sz):LentN n H (.gs id ver 0 ys.length) (.p (.l ys)):=by
 refine .gs id ver 0 ys.length sz _ ys hn h (by simp) rfl hs ?_
 intro i r y j c q hr hy hc hq
 rw [Nat.zero_add,List.getElem?_map,hy] at hr
 cases hr
 rw [List.getElem?_map,hq] at hc
 cases hc
 exact .p _
theorem lent_toks {n id ver:Nat} {H:List AO} {l:List Tok} (hn:n<=id) (h:H[id]?=some (.rows 4 ver (toksR l))):LentN n H (.gs id ver 0 l.length) (.p (.l (l.map Tok.cells))):=by
 have:=lent_rows (ys:=l.map Tok.cells) hn (by rw [List.map_map]; exact h) (by intro y hy; obtain ⟨t,_,rfl⟩:=List.mem_map.1 hy; rfl)
 rwa [List.length_map] at this
abbrev ftC (c p:Int):AV:=.st [.p (.i .i64 c),.p (.i .i64 p)]
def lexAV:List Tok ⊕ (Int × Nat)->AV
 | .inl l=>.tup [.p (.l (l.map Tok.cells)),ftC 0 0]
 | .inr (c,i)=>.tup [.p (.l []),ftC c i]
theorem tf_ft (c p):Tf (ftC c p):=tf_st _ (by intro q hq; simp at hq; rcases hq with rfl | rfl <;> exact tf_p _)
theorem lent_two {n:Nat} {H:List AO} {a b c:AV} (h:LentN n H a b) (hc:Tf c):LentN n H (.tup [a,c]) (.tup [b,c]):=by
 refine .tup _ _ rfl fun j x y hx hy=>?_
 match j with
 | 0=>cases hx; cases hy; exact h
 | 1=>cases hx; cases hy; exact .tf _ hc
 | j+2=>simp at hx
structure LxI (H0:List AO) (out:List Tok) (a:AV) (H:List AO):Prop where
 fr:∀ (j:Nat) o,H0[j]?=some o->H[j]?=some o
 z5:H[H0.length]?=some (.var [.p (.i .i64 0),.p (.i .i64 0)])
 out:OwnR H a 4 (toksR out)
 new:∀ id v o m,a=.gs id v o m->H0.length<id
theorem LxI.ext {H0 out a H} (h:LxI H0 out a H) (A:List AO):LxI H0 out a (H++A) :=
 ⟨fun j o hj=>get_ext (h.fr j o hj) A,get_ext h.z5 A,h.out.ext,h.new⟩
theorem len_ownR {K:St->Prop} {st:St} {d:MD} {H:List AO} {a:AV} {sz:Nat} {rs:List (List AV)} (h:OwnR H a sz rs) (k:K (st.put d (.p (.i .i64 rs.length)))):lenK false a d K st:=by
 rcases h with ⟨rfl,rfl⟩ | ⟨id,ver,rfl,_⟩
 ·exact k
 ·exact fun _=>k
theorem LxI.app {H0 out a H} (h:LxI H0 out a H) {t:Tok} {id ver:Nat} {H4:List AO} (k1:H4[id]?=some (.rows 4 ver (toksR out++[t.cells.map .p]))) (k2:(∃ v o n,a=.gs id v o n)\/H.length<=id) (k3:∀ (j:Nat) o,H[j]?=some o->(∀ v o' n,a≠.gs j v o' n)->H4[j]?=some o):LxI H0 (out++[t]) (.gs id ver 0 (out.length+1)) H4:=by
 refine ⟨?_,?_,?_,?_⟩
 ·intro j o hj
  refine k3 j o (h.fr j o hj) (fun v o' n' e=>?_)
  have:=h.new _ _ _ _ e
  have:=get_lt hj
  omega
 ·refine k3 _ _ h.z5 (fun v o' n' e=>?_)
  have:=h.new _ _ _ _ e
  omega
 ·exact .inr ⟨id,ver,by simp [toksR_len],by rw [toksR_app]; exact k1⟩
 ·intro id' v o m' e
  cases e
  rcases k2 with ⟨v,o,n',e⟩ | h2
  ·exact h.new _ _ _ _ e
  ·have:=get_lt h.z5; omega
theorem lexAllC {s:List UInt8} {most:Nat} {H0:List AO} (hs:s.length<=1099511627776) (hm:most<=2199023255552) (hg:Rg H0) :
  ACall Tryz.prog 50 [.p (.s s),.p (.i .i64 most)] H0 (pureQ (lexAV (lexGo s most 0 [])) H0):=by
 refine acall_frz1 ?_
 generalize hR:lexGo s most 0 []=R
 refine call50 (by simp) ?_
 simp only [go_sem,simprocAttr,mc50,mr50]
 refine ⟨Nat × List Tok × AV × List AO,[0,1,5,6,7],fun x st=>(x.1<=s.length/\x.2.1.length<=x.1/\lexGo s most x.1 x.2.1=R/\LxI H0 x.2.1 x.2.2.1 x.2.2.2)/\st=⟨[(0,.p (.s s)),(1,.p (.i .i64 most)),(5,.ptr H0.length 0),(6,x.2.2.1),(7,.p (.i .i64 x.1))],[],x.2.2.2⟩,fun x=>s.length - x.1,⟨(0,[],.p .nl,H0++[.var [.p (.i .i64 0),.p (.i .i64 0)]]),?_⟩,?_⟩
 ·simp only [go_sem,simprocAttr]
  exact ⟨Nat.zero_le _,hR,⟨fun j o hj=>get_ext hj _,by rw [gx0]; rfl,.inl ⟨rfl,rfl⟩,fun _ _ _ _ e=>by cases e⟩⟩
 ·rintro ⟨i,out,a,H⟩ _ ⟨⟨h1,h2,h3,hI⟩,rfl⟩
  simp only at h1 h2 h3 hI ⊢
  by_cases hlt:i<s.length
  ·have d1:decide ((i:Int)<(s.length:Int))=true:=by simp; omega
   have hg1:s[i]?=some s[i]:=by simp [hlt]
   have ew:=wrN i (by omega)
   cases b1:decide ((s[i].toNat:Int)=32)
   rotate_left
   ·have hb:Pg.blank s[i]=true:=by simp [Pg.blank,b1]
    rw [lexGo_blank hlt hb] at h3
    simp only [go_sem,simprocAttr,d1,hg1,b1,ew]
    intro _
    exact ⟨(i+1,out,a,H),⟨⟨by simp only; omega,by simp only; omega,h3,hI⟩,rfl⟩,by simp only; omega⟩
   cases b2:decide ((s[i].toNat:Int)=9)
   rotate_left
   ·have hb:Pg.blank s[i]=true:=by simp [Pg.blank,b2]
    rw [lexGo_blank hlt hb] at h3
    simp only [go_sem,simprocAttr,d1,hg1,b1,b2,ew]
    intro _
    exact ⟨(i+1,out,a,H),⟨⟨by simp only; omega,by simp only; omega,h3,hI⟩,rfl⟩,by simp only; omega⟩
   cases b3:decide ((s[i].toNat:Int)=10)
   rotate_left
   ·have hb:Pg.blank s[i]=true:=by simp [Pg.blank,b3]
    rw [lexGo_blank hlt hb] at h3
    simp only [go_sem,simprocAttr,d1,hg1,b1,b2,b3,ew]
    intro _
    exact ⟨(i+1,out,a,H),⟨⟨by simp only; omega,by simp only; omega,h3,hI⟩,rfl⟩,by simp only; omega⟩
   have hb:Pg.blank s[i]=false:=by simp [Pg.blank,b1,b2,b3]
   cases b4:decide ((s[i].toNat:Int)=35)
   rotate_left
   ·have hc:=of_decide_eq_true b4
    have hgt:=nl_hash hlt hc
    have hle:=runAt_le isNl (s:=s) (i:=i) (by omega)
    rw [lexGo_hash hlt hb hc] at h3
    simp only [go_sem,simprocAttr,d1,hg1,b1,b2,b3,b4]
    intro _
    refine acall_pure (runC nlC hs (by omega) _) ?_
    simp only [go_sem,simprocAttr]
    exact ⟨(runAt isNl s i,out,a,H),⟨⟨by simp only; omega,by simp only; omega,h3,hI⟩,rfl⟩,by simp only; omega⟩
   have hc:=of_decide_eq_false b4
   simp only [go_sem,simprocAttr,d1,hg1,b1,b2,b3,b4]
   intro _
   refine acall_pure (oneC hs hlt (hg.keep hI.fr)) ?_
   rcases ht:tokD s i s[i] with ⟨t,e⟩ | c
   ·obtain ⟨g1,g2,_⟩:=tokD_gt hlt ht
    simp only [go_sem,simprocAttr,tokAV,Tok.cells]
    have hI2:=hI.ext [.var [.p (.i .i64 t.k),.p (.s t.t),.p (.i .i64 t.n),.p (.i .i64 t.p)],.var [.p (.i .i64 0),.p (.i .i64 0)]]
    refine len_ownR hI2.out ?_
    rw [toksR_len]
    by_cases hmm:out.length=most
    ·have d2:decide ((out.length:Int)=(most:Int))=true:=by simp; omega
     rw [lexGo_most hlt hb hc ht hmm] at h3
     have z5:=hI2.z5
     have fr:=hI2.fr
     generalize H++[.var [.p (.i .i64 t.k),.p (.s t.t),.p (.i .i64 t.n),.p (.i .i64 t.p)],.var [.p (.i .i64 0),.p (.i .i64 0)]]=H2 at z5 fr ⊢
     have hz:∀ o,(H2.set H0.length o)[H0.length]?=some o:=fun o=>set_get z5
     simp only [go_sem,simprocAttr,d2,z5,hz]
     obtain ⟨G,hG⟩:=pre_ext (H:=H0) (H':=H2.set H0.length (.var [.p (.i .i64 5),.p (.i .i64 i)])) fun j o hj=>get_set (fr j o hj) (by have:=get_lt hj; omega)
     rw [<- h3]
     exact ⟨G,hG,lent_two .nl (tf_ft _ _)⟩
    ·have d2:decide ((out.length:Int)=(most:Int))=false:=by simp; omega
     rw [lexGo_tok hlt hb hc ht hmm] at h3
     simp only [go_sem,simprocAttr,d2]
     refine ⟨by intro r hr; simp at hr; subst hr; rfl,?_⟩
     refine app_fr (rs:=toksR out) (ys:=[t.cells.map .p]) (hI.ext _).out (by rw [toksR_len]; simp; omega) (by rw [toksR_len]; simp; omega) ?_
     intro id ver H4 k1 k2 k3 k4
     rw [toksR_len]
     simp only [go_sem,simprocAttr]
     exact ⟨(e,out++[t],.gs id ver 0 (out.length+1),H4),⟨⟨by simp only; omega,by simp; omega,h3,(hI.ext _).app k1 k2 k3⟩,rfl⟩,by simp only; omega⟩
   ·have hc0:=tokD_code ht
    rw [lexGo_err hlt hb hc ht] at h3
    have hI2:=hI.ext [.var [.p (.i .i64 0),.p (.s []),.p (.i .i64 0),.p (.i .i64 0)],.var [.p (.i .i64 c),.p (.i .i64 i)]]
    simp only [go_sem,simprocAttr,tokAV,hc0]
    have z5:=hI2.z5
    have fr:=hI2.fr
    have zc:(H++[.var [.p (.i .i64 0),.p (.s []),.p (.i .i64 0),.p (.i .i64 0)],.var [.p (.i .i64 c),.p (.i .i64 i)]])[H.length+1]?=some (.var [.p (.i .i64 c),.p (.i .i64 i)]):=by rw [gxk]; rfl
    generalize H++[.var [.p (.i .i64 0),.p (.s []),.p (.i .i64 0),.p (.i .i64 0)],.var [.p (.i .i64 c),.p (.i .i64 i)]]=H2 at z5 fr zc ⊢
    generalize H.length+1=b at zc ⊢
    have hz:∀ o,(H2.set H0.length o)[H0.length]?=some o:=fun o=>set_get z5
    refine drw_same ?_
    simp only [go_sem,simprocAttr,zc,z5,hz]
    obtain ⟨G,hG⟩:=pre_ext (H:=H0) (H':=H2.set H0.length (.var [.p (.i .i64 c),.p (.i .i64 i)])) fun j o hj=>get_set (fr j o hj) (by have:=get_lt hj; omega)
    rw [<- h3]
    exact ⟨G,hG,lent_two .nl (tf_ft _ _)⟩
  ·have d1:decide ((i:Int)<(s.length:Int))=false:=by simp; omega
   rw [lexGo_end hlt] at h3
   simp only [go_sem,simprocAttr,d1]
   intro _ _
   refine ⟨by intro r hr; simp at hr; subst hr; rfl,?_⟩
   refine app_fr (rs:=toksR out) (ys:=[Tok.cells ⟨8,[],0,s.length⟩ |>.map .p]) (hI.ext _).out (by rw [toksR_len]; simp; omega) (by rw [toksR_len]; simp; omega) ?_
   intro id ver H4 k1 k2 k3 k4
   rw [toksR_len]
   have hJ:=(hI.ext _).app k1 k2 k3
   have z5:=hJ.z5
   have hz:∀ o,(H4.set H0.length o)[H0.length]?=some o:=fun o=>set_get z5
   simp only [go_sem,simprocAttr,z5,hz]
   obtain ⟨G,hG⟩:=pre_ext (H:=H0) (H':=H4.set H0.length (.var [.p (.i .i64 0),.p (.i .i64 0)])) fun j o hj=>get_set (hJ.fr j o hj) (by have:=get_lt hj; omega)
   rw [<- h3]
   refine ⟨G,hG,lent_two ?_ (tf_ft _ _)⟩
   have hn:=hJ.new _ _ _ _ rfl
   have:=lent_toks (n:=H0.length) (l:=out++[⟨8,[],0,s.length⟩]) (Nat.le_of_lt hn) (H:=H4.set H0.length (.var [.p (.i .i64 0),.p (.i .i64 0)])) (id:=id) (ver:=ver) (get_set (by rw [toksR_app]; exact k1) (by omega))
   simpa using this
theorem lexC {s:List UInt8} {H0:List AO} (hs:s.length<=1099511627776) (hg:Rg H0):ACall Tryz.prog 29 [.p (.s s)] H0 (pureQ (lexAV (lexD s)) H0):=by
 refine acall_frz1 ?_
 refine call29 (by simp) ?_
 unfold lexD
 by_cases hl:4000<s.length
 ·have d1:decide ((4000:Int)<(s.length:Int))=true:=by simp; omega
  simp only [go_sem,simprocAttr,mc29,mr29,d1]
  intro _
  rw [if_pos hl]
  exact ⟨_,rfl,lent_two .nl (tf_ft _ _)⟩
 ·have d1:decide ((4000:Int)<(s.length:Int))=false:=by simp; omega
  simp only [go_sem,simprocAttr,mc29,mr29,d1]
  intro _
  rw [if_neg hl]
  refine acall_pure (lexAllC (most:=1200) hs (by omega) (hg.ext _)) ?_
  rcases lexGo s 1200 0 [] with l | ⟨c,i⟩
  ·simp only [go_sem,simprocAttr,lexAV]
   exact ⟨_,rfl,lent_two (.p _) (tf_ft _ _)⟩
  ·simp only [go_sem,simprocAttr,lexAV]
   exact ⟨_,rfl,lent_two (.p _) (tf_ft _ _)⟩
def TestI (f:Nat) (q:UInt8->Bool):Prop:=∀ (c:UInt8) (H:List AO),ACall Tryz.prog f [.p (.i .i64 (c.toNat:Int))] H (pureQ (.p (.b (q c))) H)
theorem inC (n lo hi:Int) (H:List AO):ACall Tryz.prog 70 [.p (.i .i64 n),.p (.i .i64 lo),.p (.i .i64 hi)] H (pureQ (.p (.b (decide (lo<=n) && decide (n<=hi)))) H):=by
 refine call70 (by simp) ?_
 simp only [go_sem,simprocAttr,mc70,mr70]
 cases h:decide (lo<=n)
 ·simp only [go_sem,simprocAttr,h]
  exact ⟨by simp,rfl⟩
 ·simp only [go_sem,simprocAttr,h]
  exact ⟨by simp,rfl⟩
theorem lowerC:TestI 126 isSm:=by
 intro c H
 refine call126 (by simp) ?_
 simp only [go_sem,simprocAttr,mc126,mr126]
 refine acall_pure (inC _ _ _ H) ?_
 simp only [go_sem,simprocAttr]
 exact ⟨rfl,rfl⟩
theorem upperC:TestI 125 isGr:=by
 intro c H
 refine call125 (by simp) ?_
 simp only [go_sem,simprocAttr,mc125,mr125]
 refine acall_pure (inC _ _ _ H) ?_
 simp only [go_sem,simprocAttr]
 exact ⟨rfl,rfl⟩
theorem numIC:TestI 136 isDg:=by
 intro c H
 refine call136 (by simp) ?_
 simp only [go_sem,simprocAttr,mc136,mr136]
 refine acall_pure (inC _ _ _ H) ?_
 simp only [go_sem,simprocAttr]
 exact ⟨rfl,rfl⟩
theorem nameIC:TestI 127 isNm:=by
 intro c H
 refine call127 (by simp) ?_
 simp only [go_sem,simprocAttr,mc127,mr127]
 refine acall_pure (lowerC c H) ?_
 cases h1:isSm c
 ·simp only [go_sem,simprocAttr,h1]
  refine acall_pure (upperC c H) ?_
  cases h2:isGr c
  ·simp only [go_sem,simprocAttr,h2]
   refine acall_pure (numIC c H) ?_
   cases h3:isDg c
   ·simp only [go_sem,simprocAttr,h3]
    exact ⟨by simp [isNm,h1,h2,h3],rfl⟩
   ·simp only [go_sem,simprocAttr,h3]
    exact ⟨by simp [isNm,h1,h2,h3],rfl⟩
  ·simp only [go_sem,simprocAttr,h2]
   exact ⟨by simp [isNm,h1,h2],rfl⟩
 ·simp only [go_sem,simprocAttr,h1]
  exact ⟨by simp [isNm,h1],rfl⟩
theorem keyIC (t:List UInt8) (H:List AO):ACall Tryz.prog 124 [.p (.s t)] H (pureQ (.p (.b (isKey t))) H):=by
 refine acall_drop1 ?_ (tf_p _)
 refine call124 (by simp) ?_
 simp only [go_sem,simprocAttr,mc124,mr124]
 refine ⟨Nat,[0,2,3,4],fun x st=>(x<=19/\t ∉ keys.take x)/\st=⟨[(0,.p (.s t)),(2,.p (.b false)),(3,.gs H.length 0 0 19),(4,.p (.i .i64 x))],[],H++[.rows 1 0 (rowS keys)]⟩,fun x=>19 - x,⟨0,?_⟩,?_⟩
 ·simp only [go_sem,simprocAttr]
  exact ⟨by simp,rfl⟩
 ·rintro x _ ⟨⟨hx,hn⟩,rfl⟩
  have hlen:keys.length=19:=rfl
  by_cases hlt:x<19
  ·have hlt':x<keys.length:=hlt
   have d1:decide ((x:Int)<19)=true:=by simp; omega
   simp only [go_sem,simprocAttr,d1,rowS_at hlt']
   intro _
   by_cases ht:keys[x]=t
   ·have d2:decide (keys[x]=t)=true:=by simp [ht]
    simp only [go_sem,simprocAttr,d2]
    refine ⟨by omega,?_,_,rfl⟩
    have:isKey t=true:=by unfold isKey; exact decide_eq_true (by rw [<- ht]; exact List.getElem_mem hlt')
    rw [this]
   ·have d2:decide (keys[x]=t)=false:=by simp [ht]
    simp only [go_sem,simprocAttr,d2,wrN x (by omega)]
    refine ⟨by omega,x+1,⟨⟨by omega,?_⟩,rfl⟩,by omega⟩
    rw [List.take_succ_eq_append_getElem hlt']
    simp only [List.mem_append,List.mem_singleton,not_or]
    exact ⟨hn,fun h=>ht h.symm⟩
  ·have d1:decide ((x:Int)<19)=false:=by simp; omega
   simp only [go_sem,simprocAttr,d1]
   intro _
   refine ⟨?_,_,rfl⟩
   rw [List.take_of_length_le (by omega)] at hn
   have:isKey t=false:=by unfold isKey; exact decide_eq_false hn
   rw [this]
def skipD (s:List UInt8) (i:Nat):Nat :=
 if h:i<s.length then
  if Pg.blank s[i] then skipD s (i+1)
  else if (s[i].toNat:Int)=35 then (if i<runAt isNl s i then skipD s (runAt isNl s i) else i) else i
 else i
termination_by s.length - i
theorem skip_lex {s : List UInt8} {most : Nat} {out : List Tok} : ∀ (n i : Nat), s.length - i ≤ n → i ≤ s.length → lexGo s most i out = lexGo s most (skipD s i) out ∧ i ≤ skipD s i ∧ skipD s i ≤ s.length ∧ ∀ (h : skipD s i < s.length), Pg.blank s[skipD s i] = false ∧ ¬ (s[skipD s i].toNat : Int) = 35 := by
  intro n
  induction n with
  | zero =>
    intro i hn hi
    rw [skipD, dif_neg (by omega)]
    exact ⟨rfl, Nat.le_refl _, hi, fun h => by omega⟩
  | succ n ih =>
    intro i hn hi
    by_cases h : i < s.length
    · cases hb : Pg.blank s[i] with
      | true =>
        obtain ⟨h1, h2, h3, h4⟩ := ih (i + 1) (by omega) (by omega)
        have e : skipD s i = skipD s (i + 1) := by rw [skipD, dif_pos h, if_pos hb]
        rw [lexGo_blank h hb, e]
        exact ⟨h1, by omega, h3, h4⟩
      | false =>
        by_cases hc : (s[i].toNat : Int) = 35
        · have hg := nl_hash h hc
          have hle := runAt_le isNl (s := s) (i := i) (by omega)
          obtain ⟨h1, h2, h3, h4⟩ := ih (runAt isNl s i) (by omega) hle
          have e : skipD s i = skipD s (runAt isNl s i) := by rw [skipD, dif_pos h, if_neg (by simp [hb]), if_pos hc, if_pos hg]
          rw [lexGo_hash h hb hc, e]
          exact ⟨h1, by omega, h3, h4⟩
        · have e : skipD s i = i := by rw [skipD, dif_pos h, if_neg (by simp [hb]), if_neg hc]
          rw [e]
          exact ⟨rfl, Nat.le_refl _, hi, fun _ => ⟨hb, hc⟩⟩
    · rw [skipD, dif_neg h]
      exact ⟨rfl, Nat.le_refl _, hi, fun h' => (h h').elim⟩
theorem skipC {s:List UInt8} (hs:s.length<=1099511627776) {i:Nat} (hi:i<=s.length) (H:List AO):ACall Tryz.prog 93 [.p (.s s),.p (.i .i64 i)] H (pureQ (.p (.i .i64 (skipD s i:Nat))) H):=by
 refine call93 (by simp) ?_
 simp only [go_sem,simprocAttr,mc93,mr93]
 refine ⟨Nat,[0,1,4],fun x st=>(i<=x/\x<=s.length/\skipD s x=skipD s i)/\st=⟨[(0,.p (.s s)),(1,.p (.i .i64 x)),(4,.p (.i .i64 0))],[],H⟩,fun x=>s.length - x,⟨i,?_⟩,?_⟩
 ·simp only [go_sem,simprocAttr]
  exact ⟨Nat.le_refl _,hi⟩
 ·rintro x _ ⟨⟨h1,h2,h3⟩,rfl⟩
  by_cases hlt:x<s.length
  ·have d1:decide ((x:Int)<(s.length:Int))=true:=by simp; omega
   have hg:s[x]?=some s[x]:=by simp [hlt]
   have ew:=wrN x (by omega)
   have step:Pg.blank s[x]=true->skipD s (x+1)=skipD s i:=fun hb=>by rw [<- h3]; conv=>rhs; rw [skipD,dif_pos hlt,if_pos hb]
   cases b1:decide ((s[x].toNat:Int)=32)
   rotate_left
   ·simp only [go_sem,simprocAttr,d1,hg,b1,ew]
    intro _
    exact ⟨x+1,⟨⟨by omega,by omega,step (by simp [Pg.blank,b1])⟩,rfl⟩,by omega⟩
   cases b2:decide ((s[x].toNat:Int)=9)
   rotate_left
   ·simp only [go_sem,simprocAttr,d1,hg,b1,b2,ew]
    intro _
    exact ⟨x+1,⟨⟨by omega,by omega,step (by simp [Pg.blank,b2])⟩,rfl⟩,by omega⟩
   cases b3:decide ((s[x].toNat:Int)=10)
   rotate_left
   ·simp only [go_sem,simprocAttr,d1,hg,b1,b2,b3,ew]
    intro _
    exact ⟨x+1,⟨⟨by omega,by omega,step (by simp [Pg.blank,b3])⟩,rfl⟩,by omega⟩
   have hb:Pg.blank s[x]=false:=by simp [Pg.blank,b1,b2,b3]
   cases b4:decide ((s[x].toNat:Int)=35)
   rotate_left
   ·have hc:=of_decide_eq_true b4
    have hgt:=nl_hash hlt hc
    have hle:=runAt_le isNl (s:=s) (i:=x) (by omega)
    have e:skipD s x=skipD s (runAt isNl s x):=by rw [skipD,dif_pos hlt,if_neg (by simp [hb]),if_pos hc,if_pos hgt]
    simp only [go_sem,simprocAttr,d1,hg,b1,b2,b3,b4]
    intro _
    refine ⟨Nat,[0,1,4],fun y st=>(x<=y/\y<=s.length/\runAt isNl s y=runAt isNl s x)/\st=⟨[(0,.p (.s s)),(1,.p (.i .i64 y)),(4,.p (.i .i64 0))],[],H⟩,fun y=>s.length - y,⟨x,?_⟩,?_⟩
    ·simp only [go_sem,simprocAttr]
     exact ⟨Nat.le_refl _,h2⟩
    ·rintro y _ ⟨⟨k1,k2,k3⟩,rfl⟩
     by_cases hy:y<s.length
     ·have d2:decide ((y:Int)<(s.length:Int))=true:=by simp; omega
      have hgy:s[y]?=some s[y]:=by simp [hy]
      cases b5:decide ((s[y].toNat:Int)=10)
      ·simp only [go_sem,simprocAttr,d2,hgy,b5,wrN y (by omega)]
       intro _
       exact ⟨y+1,⟨⟨by omega,by omega,by rw [<- k3,runAt_t hy (by simp [isNl,b5])]⟩,rfl⟩,by omega⟩
      ·have ey:y=runAt isNl s x:=by rw [<- k3,runAt_f hy (by simp [isNl,b5])]
       simp only [go_sem,simprocAttr,d2,hgy,b5]
       intro _
       exact ⟨y,⟨⟨by omega,by omega,by rw [ey,<- e,h3]⟩,rfl⟩,by omega⟩
     ·have d2:decide ((y:Int)<(s.length:Int))=false:=by simp; omega
      have ey:y=runAt isNl s x:=by rw [<- k3,runAt_e _ (by omega)]
      simp only [go_sem,simprocAttr,d2]
      intro _
      exact ⟨y,⟨⟨by omega,by omega,by rw [ey,<- e,h3]⟩,rfl⟩,by omega⟩
   ·have hc:=of_decide_eq_false b4
    have e:skipD s x=x:=by rw [skipD,dif_pos hlt,if_neg (by simp [hb]),if_neg hc]
    simp only [go_sem,simprocAttr,d1,hg,b1,b2,b3,b4]
    intro _
    refine ⟨?_,rfl⟩
    rw [<- h3,e]
  ·have d1:decide ((x:Int)<(s.length:Int))=false:=by simp; omega
   simp only [go_sem,simprocAttr,d1]
   intro _
   refine ⟨?_,rfl⟩
   rw [<- h3,skipD,dif_neg hlt]
def stokAV (x:(Tok × Nat) ⊕ Int) (e':Int):AV :=
 match x with
 | .inl (t,e)=>.tup [tv t,.p (.i .i64 (e:Int)),.p (.i .i64 0)]
 | .inr c=>.tup [.st [.p (.i .i64 0),.p (.s []),.p (.i .i64 0),.p (.i .i64 0)],.p (.i .i64 e'),.p (.i .i64 c)]
def TokC (f:Nat) (s:List UInt8) (i:Nat) (x:(Tok × Nat) ⊕ Int):Prop:=∀ H,ACall Tryz.prog f [.p (.s s),.p (.i .i64 (i:Int))] H (fun r H'=>(∃ e',r=stokAV x e')/\∃ G,H'=H++G)
theorem numV_app:∀ (l:List UInt8) (c:UInt8) (n:Nat),numV (l++[c]) n=numV l n * 10+(c.toNat - 48)
 | [],c,n=>rfl
 | a :: l,c,n=>by rw [List.cons_append,numV,numV,numV_app l c]
theorem pre_succ {s:List UInt8} {i x:Nat} (h:i<=x) (hx:x<s.length):(s.drop i).take (x+1 - i)=(s.drop i).take (x - i)++[s[x]]:=by
 have hl:x - i<(s.drop i).length:=by simp; omega
 rw [show x+1 - i=(x - i)+1 by omega,List.take_succ_eq_append_getElem hl]
 congr 2
 rw [List.getElem_drop]
 congr 1; omega
theorem figW {c:UInt8} (hc:isDg c=true):wr .u8 ((c.toNat:Int) - 48)=((c.toNat - 48:Nat):Int):=by
 have:=isDg_iff.1 hc
 simp [wr,IntKind.wrap,IntKind.bits,IntKind.signed]
 omega
theorem quoW {d:Nat} (hd:d<=9):wr .i64 ((wr .i64 (9223372036854775807 - wr .i64 (d:Int))).tdiv 10)=(((9223372036854775807 - d) / 10:Nat):Int):=by
 rw [wr64 (n:=(d:Int)) (by omega) (by omega),show (9223372036854775807 - (d:Int))=((9223372036854775807 - d:Nat):Int) by omega,wr64 (n:=((9223372036854775807 - d:Nat):Int)) (by omega) (by omega),show (10:Int)=((10:Nat):Int) from rfl,<- Int.ofNat_tdiv,wr64 (by omega) (by omega)]
theorem digitsC {s : List UInt8} (hs : s.length ≤ 1099511627776) {i : Nat} (hi : i < s.length) : TokC 137 s i (numD s i s[i]) := by
  intro H
  have hgi : s[i]? = some s[i] := by simp [hi]
  refine call137 (by simp) ?_
  simp only [go_sem, simprocAttr, mc137, mr137]
  refine ⟨Nat × Nat × Bool, [0, 1, 4, 5, 6, 7, 8, 9], fun x st => (i ≤ x.1 ∧ x.1 ≤ s.length ∧ runAt isDg s x.1 = runAt isDg s i ∧ x.2.1 ≤ maxI ∧ (x.2.2 = false → x.2.1 = numV ((s.drop i).take (x.1 - i)) 0) ∧ (x.2.2 = true → maxI < numV ((s.drop i).take (x.1 - i)) 0)) ∧ st = ⟨[(0, .p (.s s)), (1, .p (.i .i64 i)), (4, .ptr H.length 0), (5, .p (.i .i64 0)), (6, .p (.i .i64 0)), (7, .p (.i .i64 x.1)), (8, .p (.i .i64 x.2.1)), (9, .p (.b x.2.2))], [], H ++ [.var [.p (.i .i64 0), .p (.s []), .p (.i .i64 0), .p (.i .i64 0)]]⟩, fun x => s.length - x.1, ⟨(i, 0, false), ?_⟩, ?_⟩
  · simp only [go_sem, simprocAttr]
    exact ⟨Nat.le_refl _, Nat.le_of_lt hi, Nat.zero_le _, fun _ => by simp [numV], fun h => h.elim⟩
  · rintro ⟨x, n, bad⟩ _ ⟨⟨h1, h2, h3, h4, h5, h6⟩, rfl⟩
    simp only at h1 h2 h3 h4 h5 h6 ⊢
    unfold maxI at h4
    by_cases hlt : x < s.length
    · have d1 : decide ((x : Int) < (s.length : Int)) = true := by simp; omega
      have hg : s[x]? = some s[x] := by simp [hlt]
      simp only [go_sem, simprocAttr, d1, hg, byW]
      intro _
      refine acall_pure (numIC s[x] _) ?_
      cases hd : isDg s[x]
      · have ex : x = runAt isDg s i := by rw [← h3, runAt_f hlt hd]
        simp only [go_sem, simprocAttr, hd]
        unfold numD
        rw [← ex]
        cases bad with
        | true =>
          have hv := h6 rfl
          simp only [go_sem, simprocAttr, ]
          simp only [if_pos (Or.inl hv : maxI < _ ∨ _)]
          exact ⟨⟨(x : Int), rfl⟩, _, rfl⟩
        | false =>
          have hv := h5 rfl
          cases h48 : decide ((s[i].toNat : Int) = 48)
          · simp only [go_sem, simprocAttr, hgi, h48]
            have hnc : ¬ (maxI < numV ((s.drop i).take (x - i)) 0 ∨ (1 < x - i ∧ (s[i].toNat : Int) = 48)) := by
              rintro (h | ⟨_, h⟩)
              · unfold maxI at h; omega
              · exact of_decide_eq_false h48 h
            simp only [if_neg hnc]
            simp only [← hv]
            exact ⟨⟨0, rfl⟩, _, rfl⟩
          · by_cases h1x : i + 1 < x
            · have d5 : decide (((i + 1 : Nat) : Int) < (x : Int)) = true := by simp; omega
              simp only [go_sem, simprocAttr, hgi, h48, wrN i (by omega), d5]
              simp only [if_pos (Or.inr ⟨by omega, of_decide_eq_true h48⟩ : maxI < _ ∨ (1 < x - i ∧ (s[i].toNat : Int) = 48))]
              exact ⟨⟨(x : Int), rfl⟩, _, rfl⟩
            · have d5 : decide (((i + 1 : Nat) : Int) < (x : Int)) = false := by simp; omega
              simp only [go_sem, simprocAttr, hgi, h48, wrN i (by omega), d5]
              have hnc : ¬ (maxI < numV ((s.drop i).take (x - i)) 0 ∨ (1 < x - i ∧ (s[i].toNat : Int) = 48)) := by
                rintro (h | ⟨h, _⟩)
                · unfold maxI at h; omega
                · omega
              simp only [if_neg hnc]
              simp only [← hv]
              exact ⟨⟨0, rfl⟩, _, rfl⟩
      · have hf := isDg_iff.1 hd
        have hw := figW hd
        have hq := quoW (d := s[x].toNat - 48) (by omega)
        have hpre := pre_succ h1 hlt
        have hrun : runAt isDg s (x + 1) = runAt isDg s i := by rw [← h3, runAt_t hlt hd]
        have hge := numV_app ((s.drop i).take (x - i)) s[x] 0
        rw [← hpre] at hge
        by_cases hbig : (9223372036854775807 - (s[x].toNat - 48)) / 10 < n
        · have d2 : decide ((((9223372036854775807 - (s[x].toNat - 48)) / 10 : Nat) : Int) < (n : Int)) = true := by simp; omega
          simp only [go_sem, simprocAttr, hd, hg, hw, hq, d2, wrN x (by omega)]
          refine ⟨(x + 1, n, true), ⟨⟨by simp only; omega, by simp only; omega, hrun, h4, (fun h => by cases h), fun _ => ?_⟩, rfl⟩, by simp only; omega⟩
          show maxI < numV ((s.drop i).take (x + 1 - i)) 0
          rw [hge]
          unfold maxI
          cases bad with
          | true => have := h6 rfl; unfold maxI at this; omega
          | false => have := h5 rfl; omega
        · have d2 : decide ((((9223372036854775807 - (s[x].toNat - 48)) / 10 : Nat) : Int) < (n : Int)) = false := by simp; omega
          have e1 : wr .i64 ((n : Int) * 10) = ((n * 10 : Nat) : Int) := by rw [wr64 (by omega) (by omega)]; omega
          have e2 : wr .i64 (((n * 10 : Nat) : Int) + wr .i64 ((s[x].toNat - 48 : Nat) : Int)) = ((n * 10 + (s[x].toNat - 48) : Nat) : Int) := by
            rw [wr64 (n := ((s[x].toNat - 48 : Nat) : Int)) (by omega) (by omega), wr64 (by omega) (by omega)]; omega
          simp only [go_sem, simprocAttr, hd, hg, hw, hq, d2, e1, e2, wrN x (by omega)]
          refine ⟨(x + 1, n * 10 + (s[x].toNat - 48), bad), ⟨⟨by simp only; omega, by simp only; omega, hrun, by unfold maxI; simp only; omega, fun h => ?_, fun h => ?_⟩, rfl⟩, by simp only; omega⟩
          · show n * 10 + (s[x].toNat - 48) = numV ((s.drop i).take (x + 1 - i)) 0
            rw [hge, h5 h]
          · show maxI < numV ((s.drop i).take (x + 1 - i)) 0
            rw [hge]
            have := h6 h
            omega
    · have d1 : decide ((x : Int) < (s.length : Int)) = false := by simp; omega
      have ex : x = runAt isDg s i := by rw [← h3, runAt_e _ (by omega)]
      simp only [go_sem, simprocAttr, d1]
      intro _
      unfold numD
      rw [← ex]
      cases bad with
      | true =>
        have hv := h6 rfl
        simp only [go_sem, simprocAttr, ]
        simp only [if_pos (Or.inl hv : maxI < _ ∨ _)]
        exact ⟨⟨(x : Int), rfl⟩, _, rfl⟩
      | false =>
        have hv := h5 rfl
        cases h48 : decide ((s[i].toNat : Int) = 48)
        · simp only [go_sem, simprocAttr, hgi, h48]
          have hnc : ¬ (maxI < numV ((s.drop i).take (x - i)) 0 ∨ (1 < x - i ∧ (s[i].toNat : Int) = 48)) := by
            rintro (h | ⟨_, h⟩)
            · unfold maxI at h; omega
            · exact of_decide_eq_false h48 h
          simp only [if_neg hnc]
          simp only [← hv]
          exact ⟨⟨0, rfl⟩, _, rfl⟩
        · by_cases h1x : i + 1 < x
          · have d5 : decide (((i + 1 : Nat) : Int) < (x : Int)) = true := by simp; omega
            simp only [go_sem, simprocAttr, hgi, h48, wrN i (by omega), d5]
            simp only [if_pos (Or.inr ⟨by omega, of_decide_eq_true h48⟩ : maxI < _ ∨ (1 < x - i ∧ (s[i].toNat : Int) = 48))]
            exact ⟨⟨(x : Int), rfl⟩, _, rfl⟩
          · have d5 : decide (((i + 1 : Nat) : Int) < (x : Int)) = false := by simp; omega
            simp only [go_sem, simprocAttr, hgi, h48, wrN i (by omega), d5]
            have hnc : ¬ (maxI < numV ((s.drop i).take (x - i)) 0 ∨ (1 < x - i ∧ (s[i].toNat : Int) = 48)) := by
              rintro (h | ⟨h, _⟩)
              · unfold maxI at h; omega
              · omega
            simp only [if_neg hnc]
            simp only [← hv]
            exact ⟨⟨0, rfl⟩, _, rfl⟩
theorem wordIC {s:List UInt8} (hs:s.length<=1099511627776) {i:Nat} (hi:i<s.length):TokC 138 s i (wordD s i s[i]):=by
 intro H
 have hgi:s[i]?=some s[i]:=by simp [hi]
 obtain ⟨f,hf⟩:∃ f,f=(if (s[i].toNat:Int)=39 then i+1 else i):=⟨_,rfl⟩
 have hfl:i<=f/\f<=s.length:=by rw [hf]; split <;> omega
 have hwd:wordD s i s[i]=wordF s i s[i] f:=by rw [hf]; rfl
 rw [hwd]
 refine call138 (by simp) ?_
 cases h39:decide ((s[i].toNat:Int)=39)
 ·have ef:f=i:=by rw [hf,if_neg (of_decide_eq_false h39)]
  clear hf hwd
  simp only [go_sem,simprocAttr,mc138,mr138,hgi,h39]
  subst f
  refine ⟨Nat,[0,1,4,5,6,7,8],fun x st=>(i<=x/\x<=s.length/\runAt isNm s x=runAt isNm s i)/\st=⟨[(0,.p (.s s)),(1,.p (.i .i64 i)),(4,.ptr H.length 0),(5,.p (.i .i64 0)),(6,.p (.i .i64 0)),(7,.p (.i .i64 i)),(8,.p (.i .i64 x))],[],H++[.var [.p (.i .i64 0),.p (.s []),.p (.i .i64 0),.p (.i .i64 0)]]⟩,fun x=>s.length - x,⟨i,?_⟩,?_⟩
  ·simp only [go_sem,simprocAttr]
   exact ⟨Nat.le_refl _,hfl.2⟩
  ·rintro x _ ⟨⟨h1,h2,h3⟩,rfl⟩
   by_cases hlt:x<s.length
   ·have d1:decide ((x:Int)<(s.length:Int))=true:=by simp; omega
    have hg:s[x]?=some s[x]:=by simp [hlt]
    simp only [go_sem,simprocAttr,d1,hg,byW]
    intro _
    refine acall_pure (nameIC s[x] _) ?_
    cases hd:isNm s[x]
    ·have ex:x=runAt isNm s i:=by rw [<- h3,runAt_f hlt hd]
     have ew:wr .i64 ((x:Int) - (i:Int))=((x - i:Nat):Int):=by rw [wr64 (by omega) (by omega)]; omega
     unfold wordF
     rw [<- ex]
     by_cases h12:12<x - i
     ·have d2:decide ((12:Int)<((x - i:Nat):Int))=true:=by simp; omega
      simp only [go_sem,simprocAttr,hd,ew,d2]
      refine ⟨by omega,by omega,?_⟩
      rw [if_pos h12]
      exact ⟨⟨(x:Int),rfl⟩,_,rfl⟩
     ·have d2:decide ((12:Int)<((x - i:Nat):Int))=false:=by simp; omega
      rw [if_neg h12]
      have d3:decide ((i:Int)<(i:Int))=false:=by simp
      have hgf:s[i]?=some s[i]:=hgi
      simp only [go_sem,simprocAttr,hd,ew,d2,d3,hgf,byW]
      refine ⟨by omega,by omega,?_⟩
      refine acall_pure (upperC s[i] _) ?_
      rw [if_neg (of_decide_eq_false h39)]
      cases hgr:isGr s[i]
      ·simp only [go_sem,simprocAttr,hgr]
       refine acall_pure (keyIC _ _) ?_
       cases hk:isKey ((s.drop i).take (x - i))
       ·simp only [go_sem,simprocAttr,hk]
        exact ⟨⟨0,rfl⟩,_,rfl⟩
       ·simp only [go_sem,simprocAttr,hk]
        exact ⟨⟨0,rfl⟩,_,rfl⟩
      ·simp only [go_sem,simprocAttr,hgr]
       exact ⟨⟨0,rfl⟩,_,rfl⟩
    ·simp only [go_sem,simprocAttr,hd,wrN x (by omega)]
     exact ⟨x+1,⟨⟨by omega,by omega,by rw [<- h3,runAt_t hlt hd]⟩,rfl⟩,by omega⟩
   ·have d1:decide ((x:Int)<(s.length:Int))=false:=by simp; omega
    have ex:x=runAt isNm s i:=by rw [<- h3,runAt_e _ (by omega)]
    have ew:wr .i64 ((x:Int) - (i:Int))=((x - i:Nat):Int):=by rw [wr64 (by omega) (by omega)]; omega
    unfold wordF
    rw [<- ex]
    by_cases h12:12<x - i
    ·have d2:decide ((12:Int)<((x - i:Nat):Int))=true:=by simp; omega
     simp only [go_sem,simprocAttr,d1,ew,d2]
     intro _; refine ⟨by omega,by omega,?_⟩
     rw [if_pos h12]
     exact ⟨⟨(x:Int),rfl⟩,_,rfl⟩
    ·have d2:decide ((12:Int)<((x - i:Nat):Int))=false:=by simp; omega
     rw [if_neg h12]
     have d3:decide ((i:Int)<(i:Int))=false:=by simp
     have hgf:s[i]?=some s[i]:=hgi
     simp only [go_sem,simprocAttr,d1,ew,d2,d3,hgf,byW]
     intro _; refine ⟨by omega,by omega,?_⟩
     refine acall_pure (upperC s[i] _) ?_
     rw [if_neg (of_decide_eq_false h39)]
     cases hgr:isGr s[i]
     ·simp only [go_sem,simprocAttr,hgr]
      refine acall_pure (keyIC _ _) ?_
      cases hk:isKey ((s.drop i).take (x - i))
      ·simp only [go_sem,simprocAttr,hk]
       exact ⟨⟨0,rfl⟩,_,rfl⟩
      ·simp only [go_sem,simprocAttr,hk]
       exact ⟨⟨0,rfl⟩,_,rfl⟩
     ·simp only [go_sem,simprocAttr,hgr]
      exact ⟨⟨0,rfl⟩,_,rfl⟩
 ·have ef:f=i+1:=by rw [hf,if_pos (of_decide_eq_true h39)]
  clear hf hwd
  simp only [go_sem,simprocAttr,mc138,mr138,hgi,h39,wrN i (by omega)]
  rw [<- ef]
  refine ⟨Nat,[0,1,4,5,6,7,8],fun x st=>(f<=x/\x<=s.length/\runAt isNm s x=runAt isNm s f)/\st=⟨[(0,.p (.s s)),(1,.p (.i .i64 i)),(4,.ptr H.length 0),(5,.p (.i .i64 0)),(6,.p (.i .i64 0)),(7,.p (.i .i64 f)),(8,.p (.i .i64 x))],[],H++[.var [.p (.i .i64 0),.p (.s []),.p (.i .i64 0),.p (.i .i64 0)]]⟩,fun x=>s.length - x,⟨f,?_⟩,?_⟩
  ·simp only [go_sem,simprocAttr]
   exact ⟨Nat.le_refl _,hfl.2⟩
  ·rintro x _ ⟨⟨h1,h2,h3⟩,rfl⟩
   by_cases hlt:x<s.length
   ·have d1:decide ((x:Int)<(s.length:Int))=true:=by simp; omega
    have hg:s[x]?=some s[x]:=by simp [hlt]
    simp only [go_sem,simprocAttr,d1,hg,byW]
    intro _
    refine acall_pure (nameIC s[x] _) ?_
    cases hd:isNm s[x]
    ·have ex:x=runAt isNm s f:=by rw [<- h3,runAt_f hlt hd]
     have ew:wr .i64 ((x:Int) - (f:Int))=((x - f:Nat):Int):=by rw [wr64 (by omega) (by omega)]; omega
     unfold wordF
     rw [<- ex]
     by_cases h12:12<x - f
     ·have d2:decide ((12:Int)<((x - f:Nat):Int))=true:=by simp; omega
      simp only [go_sem,simprocAttr,hd,ew,d2]
      refine ⟨by omega,by omega,?_⟩
      rw [if_pos h12]
      exact ⟨⟨(x:Int),rfl⟩,_,rfl⟩
     ·have d2:decide ((12:Int)<((x - f:Nat):Int))=false:=by simp; omega
      rw [if_neg h12]
      have d3:decide ((i:Int)<(f:Int))=true:=by simp; omega
      simp only [go_sem,simprocAttr,hd,ew,d2,d3]
      refine ⟨by omega,by omega,?_⟩
      rw [if_pos (of_decide_eq_true h39)]
      exact ⟨⟨0,rfl⟩,_,rfl⟩
    ·simp only [go_sem,simprocAttr,hd,wrN x (by omega)]
     exact ⟨x+1,⟨⟨by omega,by omega,by rw [<- h3,runAt_t hlt hd]⟩,rfl⟩,by omega⟩
   ·have d1:decide ((x:Int)<(s.length:Int))=false:=by simp; omega
    have ex:x=runAt isNm s f:=by rw [<- h3,runAt_e _ (by omega)]
    have ew:wr .i64 ((x:Int) - (f:Int))=((x - f:Nat):Int):=by rw [wr64 (by omega) (by omega)]; omega
    unfold wordF
    rw [<- ex]
    by_cases h12:12<x - f
    ·have d2:decide ((12:Int)<((x - f:Nat):Int))=true:=by simp; omega
     simp only [go_sem,simprocAttr,d1,ew,d2]
     intro _; refine ⟨by omega,by omega,?_⟩
     rw [if_pos h12]
     exact ⟨⟨(x:Int),rfl⟩,_,rfl⟩
    ·have d2:decide ((12:Int)<((x - f:Nat):Int))=false:=by simp; omega
     rw [if_neg h12]
     have d3:decide ((i:Int)<(f:Int))=true:=by simp; omega
     simp only [go_sem,simprocAttr,d1,ew,d2,d3]
     intro _; refine ⟨by omega,by omega,?_⟩
     rw [if_pos (of_decide_eq_true h39)]
     exact ⟨⟨0,rfl⟩,_,rfl⟩
theorem strIC {s:List UInt8} (hs:s.length<=1099511627776) {i:Nat} (hi:i<s.length):TokC 139 s i (strD s i):=by
 intro H
 unfold strD
 generalize hR:strGo s (i+1) []=R
 refine call139 (by simp) ?_
 simp only [go_sem,simprocAttr,mc139,mr139,wrN i (by omega)]
 refine ⟨Nat × List UInt8 × AV × List AO,[0,1,4,5,6,7,8],fun x st=>(x.1<=s.length/\x.2.1.length<=x.1/\strGo s x.1 x.2.1=R/\OwnR x.2.2.2 x.2.2.1 1 (byteR x.2.1)/\(∀ id v o m,x.2.2.1=.gs id v o m->H.length<id)/\x.2.2.2[H.length]?=some (.var [.p (.i .i64 0),.p (.s []),.p (.i .i64 0),.p (.i .i64 0)])/\∀ (j:Nat) o,H[j]?=some o->x.2.2.2[j]?=some o)/\st=⟨[(0,.p (.s s)),(1,.p (.i .i64 i)),(4,.ptr H.length 0),(5,.p (.i .i64 0)),(6,.p (.i .i64 0)),(7,x.2.2.1),(8,.p (.i .i64 x.1))],[],x.2.2.2⟩,fun x=>s.length - x.1,⟨(i+1,[],.gs (H.length+1) 0 0 0,H++[.var [.p (.i .i64 0),.p (.s []),.p (.i .i64 0),.p (.i .i64 0)],.rows 1 0 []]),?_⟩,?_⟩
 ·simp only [go_sem,simprocAttr]
  refine ⟨hi,hR,.inr ⟨_,0,rfl,by rw [gxk]; rfl⟩,?_,fun _ _ h=>get_ext h _⟩
  intro id v o m e; cases e; omega
 ·rintro ⟨x,out,a,H1⟩ _ ⟨⟨h1,h2,h3,h4,h5,h7,h6⟩,rfl⟩
  simp only at h1 h2 h3 h4 h5 h6 h7 ⊢
  by_cases hlt:x<s.length
  ·have d1:decide ((x:Int)<(s.length:Int))=true:=by simp; omega
   have hg:s[x]?=some s[x]:=by simp [hlt]
   rw [strGo,dif_pos hlt] at h3
   simp only [go_sem,simprocAttr,d1,hg]
   intro _
   cases h34:decide ((s[x].toNat:Int)=34)
   ·have n34:=of_decide_eq_false h34
    rw [if_neg n34] at h3
    cases h92:decide ((s[x].toNat:Int)=92)
    ·have n92:=of_decide_eq_false h92
     rw [if_neg n92] at h3
     simp only [go_sem,simprocAttr,h34,h92,byW]
     refine acall_pure (inC _ _ _ _) ?_
     cases hp:isPl s[x]
     ·have hp':=hp
      unfold isPl at hp'
      rw [hp] at h3
      have hz:∀ o,(H1.set H.length o)[H.length]?=some o:=fun o=>set_get h7
      simp only [go_sem,simprocAttr,hp',h7,hz]
      rw [<- h3]
      exact ⟨⟨(x:Int),rfl⟩,pre_ext fun j o hj=>get_set (h6 j o hj) (by have:=get_lt hj; omega)⟩
     ·have hp':=hp
      unfold isPl at hp'
      rw [if_pos hp] at h3
      simp only [go_sem,simprocAttr,hp']
      refine ⟨by intro r hr; simp at hr; subst hr; rfl,?_⟩
      refine app_fr (rs:=byteR out) (ys:=[[by1 s[x]]]) h4.ext (by rw [byteR_len]; simp; omega) (by rw [byteR_len]; simp; omega) ?_
      intro id ver H4 k1 k2 k3 k4
      rw [byteR_len]
      simp only [go_sem,simprocAttr,wrN x (by omega)]
      refine ⟨(x+1,out++[s[x]],.gs id ver 0 (out.length+1),H4),⟨⟨by simp only; omega,by simp; omega,h3,.inr ⟨id,ver,by simp [byteR_len],by rw [byteR_app]; exact k1⟩,?_,?_,?_⟩,rfl⟩,by simp only; omega⟩
      ·intro id' v o m' e
       cases e
       rcases k2 with ⟨v,o,n',e⟩ | h
       ·exact h5 _ _ _ _ e
       ·have:=get_lt h7; simp at h; omega
      ·refine k3 _ _ (get_ext h7 _) (fun v o' n' e=>?_)
       have:=h5 _ _ _ _ e
       omega
      ·intro j o hj
       refine k3 j o (get_ext (h6 j o hj) _) (fun v o' n' e=>?_)
       have:=h5 _ _ _ _ e
       have:=get_lt hj
       omega
    ·have n92:=of_decide_eq_true h92
     rw [if_pos n92] at h3
     by_cases hx1:x+1<s.length
     ·have hg1:s[x+1]?=some s[x+1]:=by simp [hx1]
      have d2:decide (((x+1:Nat):Int)<(s.length:Int))=true:=by simp; omega
      rw [dif_pos hx1] at h3
      cases h110:decide ((s[x+1].toNat:Int)=110)
      ·rw [if_neg (of_decide_eq_false h110)] at h3
       cases hq:decide ((s[x+1].toNat:Int)=34)
       ·cases hw:decide ((s[x+1].toNat:Int)=92)
        ·rw [if_neg (by rw [not_or]; exact ⟨of_decide_eq_false hq,of_decide_eq_false hw⟩)] at h3
         have hz:∀ o,(H1.set H.length o)[H.length]?=some o:=fun o=>set_get h7
         simp only [go_sem,simprocAttr,h34,h92,wrN x (by omega),d2,hg1,h110,hq,hw,h7,hz]
         intro _; rw [<- h3]
         exact ⟨⟨(x:Int),rfl⟩,pre_ext fun j o hj=>get_set (h6 j o hj) (by have:=get_lt hj; omega)⟩
        ·rw [if_pos (.inr (of_decide_eq_true hw))] at h3
         simp only [go_sem,simprocAttr,h34,h92,wrN x (by omega),d2,hg1,h110,hq,hw]
         intro _
         refine ⟨by intro r hr; simp at hr; subst hr; rfl,?_⟩
         refine app_fr (rs:=byteR out) (ys:=[[by1 s[x+1]]]) h4.ext (by rw [byteR_len]; simp; omega) (by rw [byteR_len]; simp; omega) ?_
         intro id ver H4 k1 k2 k3 k4
         rw [byteR_len]
         simp only [go_sem,simprocAttr,wrN (x+1) (by omega)]
         refine ⟨(x+2,out++[s[x+1]],.gs id ver 0 (out.length+1),H4),⟨⟨by simp only; omega,by simp; omega,h3,.inr ⟨id,ver,by simp [byteR_len],by rw [byteR_app]; exact k1⟩,?_,?_,?_⟩,rfl⟩,by simp only; omega⟩
         ·intro id' v o m' e
          cases e
          rcases k2 with ⟨v,o,n',e⟩ | h
          ·exact h5 _ _ _ _ e
          ·have:=get_lt h7; simp at h; omega
         ·refine k3 _ _ (get_ext h7 _) (fun v o' n' e=>?_)
          have:=h5 _ _ _ _ e
          omega
         ·intro j o hj
          refine k3 j o (get_ext (h6 j o hj) _) (fun v o' n' e=>?_)
          have:=h5 _ _ _ _ e
          have:=get_lt hj
          omega
       ·rw [if_pos (.inl (of_decide_eq_true hq))] at h3
        simp only [go_sem,simprocAttr,h34,h92,wrN x (by omega),d2,hg1,h110,hq]
        intro _
        refine ⟨by intro r hr; simp at hr; subst hr; rfl,?_⟩
        refine app_fr (rs:=byteR out) (ys:=[[by1 s[x+1]]]) h4.ext (by rw [byteR_len]; simp; omega) (by rw [byteR_len]; simp; omega) ?_
        intro id ver H4 k1 k2 k3 k4
        rw [byteR_len]
        simp only [go_sem,simprocAttr,wrN (x+1) (by omega)]
        refine ⟨(x+2,out++[s[x+1]],.gs id ver 0 (out.length+1),H4),⟨⟨by simp only; omega,by simp; omega,h3,.inr ⟨id,ver,by simp [byteR_len],by rw [byteR_app]; exact k1⟩,?_,?_,?_⟩,rfl⟩,by simp only; omega⟩
        ·intro id' v o m' e
         cases e
         rcases k2 with ⟨v,o,n',e⟩ | h
         ·exact h5 _ _ _ _ e
         ·have:=get_lt h7; simp at h; omega
        ·refine k3 _ _ (get_ext h7 _) (fun v o' n' e=>?_)
         have:=h5 _ _ _ _ e
         omega
        ·intro j o hj
         refine k3 j o (get_ext (h6 j o hj) _) (fun v o' n' e=>?_)
         have:=h5 _ _ _ _ e
         have:=get_lt hj
         omega
      ·rw [if_pos (of_decide_eq_true h110)] at h3
       simp only [go_sem,simprocAttr,h34,h92,wrN x (by omega),d2,hg1,h110]
       intro _
       refine ⟨by intro r hr; simp at hr; subst hr; rfl,?_⟩
       refine app_fr (rs:=byteR out) (ys:=[[by1 10]]) h4.ext (by rw [byteR_len]; simp; omega) (by rw [byteR_len]; simp; omega) ?_
       intro id ver H4 k1 k2 k3 k4
       rw [byteR_len]
       simp only [go_sem,simprocAttr,wrN (x+1) (by omega)]
       refine ⟨(x+2,out++[10],.gs id ver 0 (out.length+1),H4),⟨⟨by simp only; omega,by simp; omega,h3,.inr ⟨id,ver,by simp [byteR_len],by rw [byteR_app]; exact k1⟩,?_,?_,?_⟩,rfl⟩,by simp only; omega⟩
       ·intro id' v o m' e
        cases e
        rcases k2 with ⟨v,o,n',e⟩ | h
        ·exact h5 _ _ _ _ e
        ·have:=get_lt h7; simp at h; omega
       ·refine k3 _ _ (get_ext h7 _) (fun v o' n' e=>?_)
        have:=h5 _ _ _ _ e
        omega
       ·intro j o hj
        refine k3 j o (get_ext (h6 j o hj) _) (fun v o' n' e=>?_)
        have:=h5 _ _ _ _ e
        have:=get_lt hj
        omega
     ·have d2:decide (((x+1:Nat):Int)<(s.length:Int))=false:=by simp; omega
      rw [dif_neg hx1] at h3
      have hz:∀ o,(H1.set H.length o)[H.length]?=some o:=fun o=>set_get h7
      simp only [go_sem,simprocAttr,h34,h92,wrN x (by omega),d2,h7,hz]
      intro _; rw [<- h3]
      exact ⟨⟨(x:Int),rfl⟩,pre_ext fun j o hj=>get_set (h6 j o hj) (by have:=get_lt hj; omega)⟩
   ·rw [if_pos (of_decide_eq_true h34)] at h3
    have hb:=own_b2s h4 (by omega)
    have hz:∀ o,(H1.set H.length o)[H.length]?=some o:=fun o=>set_get h7
    simp only [go_sem,simprocAttr,h34,hb,wrN x (by omega),h7,hz]
    rw [<- h3]
    exact ⟨⟨0,rfl⟩,pre_ext fun j o hj=>get_set (h6 j o hj) (by have:=get_lt hj; omega)⟩
  ·have d1:decide ((x:Int)<(s.length:Int))=false:=by simp; omega
   rw [strGo,dif_neg hlt] at h3
   have hz:∀ o,(H1.set H.length o)[H.length]?=some o:=fun o=>set_get h7
   simp only [go_sem,simprocAttr,d1,h7,hz]
   intro _; rw [<- h3]
   exact ⟨⟨(i:Int),rfl⟩,pre_ext fun j o hj=>get_set (h6 j o hj) (by have:=get_lt hj; omega)⟩
end Go.Proofs.YteilijfligofdaaGreatDoor.Qp