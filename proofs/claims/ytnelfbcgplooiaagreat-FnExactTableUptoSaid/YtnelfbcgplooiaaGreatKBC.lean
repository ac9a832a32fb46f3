/- Texts PgK PgL PgM PgN PgO PgP, merged. -/
import Derived.Test.YtnelfbcgplooiaaGreatKBB
/- Patterns that are right, as the program judges. -/
set_option linter.all false
namespace Go.Proofs.YtnelfbcgplooiaaGreat.Pg
open Go.AM Mc
def OkC (f:Nat) (x:AV) (b:Bool):Prop:=∀ H,ACall Tryz.prog f [x] H (pureQ (.p (.b b)) H)
theorem any_not {α:Type} (g:α→Bool) (l:List α):(!l.any fun a=>!g a)=l.all g:=by
 induction l with
 | nil=>rfl
 | cons a l ih=>simp [← ih]
theorem PatD.okL_eq (l):PatD.okL l=l.all PatD.ok:=by
 induction l with
 | nil=>rfl
 | cons t l ih=>rw [PatD.okL,ih]; rfl
theorem TyE.okL_eq (l):TyE.okL l=l.all TyE.ok:=by
 induction l with
 | nil=>rfl
 | cons t l ih=>rw [TyE.okL,ih]; rfl
theorem ExpD.okL_eq (l):ExpD.okL l=l.all ExpD.ok:=by
 induction l with
 | nil=>rfl
 | cons t l ih=>rw [ExpD.okL,ih]; rfl
theorem ExpD.okA_eq (l):ExpD.okA l=l.all ArmD.ok:=by
 induction l with
 | nil=>rfl
 | cons t l ih=>rw [ExpD.okA,ih]; rfl
theorem patNot {a:PatD} (h:OkC 100 (av a.cells) a.ok) (H:List AO):ACall Tryz.prog 131 [av a.cells] H (pureQ (.p (.b (!a.ok))) H):=by
 obtain ⟨k,n,u,p,ks⟩:=a
 refine acall_drop1 ?_ (tf_p _)
 refine call131 (by simp) ?_
 simp only [go_sem,reduceIte,↓reduceIte,sevalprocAttr,Z0,Z1,bytesOf,mc131,mr131,PatD.cells]
 refine acall_pure (h _) ?_
 simp only [go_sem,reduceIte,↓reduceIte,sevalprocAttr,Z0,Z1,bytesOf]
 exact ⟨_,rfl⟩
theorem dN0 (n:Nat):decide ((n:Int)=0)=decide (n=0):=by rw [decide_eq_decide]; omega
theorem dN1 (n:Nat):decide ((n:Int)≤1)=decide (n≤1):=by rw [decide_eq_decide]; omega
theorem dN2 (n:Nat):decide ((2:Int)≤(n:Int))=decide (2≤n):=by rw [decide_eq_decide]; omega
theorem dE1 (n:Nat):decide ((n:Int)=1)=decide (n=1):=by rw [decide_eq_decide]; omega
theorem dE2 (n:Nat):decide ((n:Int)=2)=decide (n=2):=by rw [decide_eq_decide]; omega
theorem dE3 (n:Nat):decide ((n:Int)=3)=decide (n=3):=by rw [decide_eq_decide]; omega
theorem PatD.cellsL_len (l):(PatD.cellsL l).length=l.length:=by rw [PatD.cellsL_eq,List.length_map]
theorem ExpD.cellsL_len (l):(ExpD.cellsL l).length=l.length:=by rw [ExpD.cellsL_eq,List.length_map]
theorem ExpD.cellsA_len (l):(ExpD.cellsA l).length=l.length:=by rw [ExpD.cellsA_eq,List.length_map]
theorem TyE.cellsL_len (l):(TyE.cellsL l).length=l.length:=by rw [TyE.cellsL_eq,List.length_map]
theorem swap4 (a b c d e:Bool):(e && (a && (b && c)) && d)=(a && (b && (c && (e && d)))):=by
 cases a <;> cases b <;> cases c <;> cases d <;> cases e <;> rfl
theorem e01 (u:Int):(decide (0≤u) && decide (u≤1))=decide (0≤u∧u≤1):=by rw [Bool.decide_and]
theorem pat_Ok (k:Int) (n:List UInt8) (u p:Int) (ks:List PatD) (hk:∀ a∈ks,OkC 100 (av a.cells) a.ok):OkC 100 (av (PatD.cells (.mk k n u p ks))) (PatD.ok (.mk k n u p ks)):=by
 intro H
 have hany:∀ H,ACall Tryz.prog 130 [.p (.l (PatD.cellsL ks)),.clo 131 []] H (pureQ (.p (.b (ks.any fun a=>!a.ok))) H):=fun H=>by
  rw [PatD.cellsL_eq]
  exact containsF_Pat fun a ha=>patNot (hk a ha) H
 have hall:PatD.okL ks=!(ks.any fun a=>!a.ok):=by rw [PatD.okL_eq,any_not]
 refine acall_drop1 ?_ (tf_p _)
 refine call100 (by simp) ?_
 rw [PatD.ok,hall]
 by_cases h1:k=1∨k=5
 ·have e:patHead k n u p ks.length=(decide (0≤p) && (decide (ks.length=0) && (decide (n=[]) && decide (u=0)))):=by unfold patHead; rw [if_pos h1]
  rw [e,swap4]
  rcases h1 with rfl | rfl
  ·simp only [go_sem,reduceIte,↓reduceIte,sevalprocAttr,Z0,Z1,bytesOf,mc100,mr100,PatD.cells]
   refine drw_same ?_
   simp only [go_sem,reduceIte,↓reduceIte,sevalprocAttr,Z0,Z1,bytesOf,PatD.cellsL_len,dN0,dN1,dN2]
   cases hm:decide (ks.length=0)
   ·simp only [go_sem,reduceIte,↓reduceIte,sevalprocAttr,Z0,Z1,bytesOf,hm,Bool.false_and]
    exact ⟨_,rfl⟩
   ·simp only [go_sem,reduceIte,↓reduceIte,sevalprocAttr,Z0,Z1,bytesOf,hm,Bool.true_and]
    cases hn:decide (n=[])
    ·simp only [go_sem,reduceIte,↓reduceIte,sevalprocAttr,Z0,Z1,bytesOf,hn,Bool.false_and]
     exact ⟨_,rfl⟩
    ·simp only [go_sem,reduceIte,↓reduceIte,sevalprocAttr,Z0,Z1,bytesOf,hn,Bool.true_and]
     cases hu:decide (u=0)
     ·simp only [go_sem,reduceIte,↓reduceIte,sevalprocAttr,Z0,Z1,bytesOf,hu,Bool.false_and]
      exact ⟨_,rfl⟩
     ·simp only [go_sem,reduceIte,↓reduceIte,sevalprocAttr,Z0,Z1,bytesOf,hu,Bool.true_and]
      cases hp:decide ((0:Int)≤p)
      ·simp only [go_sem,reduceIte,↓reduceIte,sevalprocAttr,Z0,Z1,bytesOf,hp,Bool.false_and]
       exact ⟨_,rfl⟩
      ·simp only [go_sem,reduceIte,↓reduceIte,sevalprocAttr,Z0,Z1,bytesOf,hp,Bool.true_and]
       refine acall_pure (hany _) ?_
       simp only [go_sem,reduceIte,↓reduceIte,sevalprocAttr,Z0,Z1,bytesOf]
       exact ⟨_,rfl⟩
  ·simp only [go_sem,reduceIte,↓reduceIte,sevalprocAttr,Z0,Z1,bytesOf,mc100,mr100,PatD.cells]
   refine drw_same ?_
   simp only [go_sem,reduceIte,↓reduceIte,sevalprocAttr,Z0,Z1,bytesOf,PatD.cellsL_len,dN0,dN1,dN2]
   cases hm:decide (ks.length=0)
   ·simp only [go_sem,reduceIte,↓reduceIte,sevalprocAttr,Z0,Z1,bytesOf,hm,Bool.false_and]
    exact ⟨_,rfl⟩
   ·simp only [go_sem,reduceIte,↓reduceIte,sevalprocAttr,Z0,Z1,bytesOf,hm,Bool.true_and]
    cases hn:decide (n=[])
    ·simp only [go_sem,reduceIte,↓reduceIte,sevalprocAttr,Z0,Z1,bytesOf,hn,Bool.false_and]
     exact ⟨_,rfl⟩
    ·simp only [go_sem,reduceIte,↓reduceIte,sevalprocAttr,Z0,Z1,bytesOf,hn,Bool.true_and]
     cases hu:decide (u=0)
     ·simp only [go_sem,reduceIte,↓reduceIte,sevalprocAttr,Z0,Z1,bytesOf,hu,Bool.false_and]
      exact ⟨_,rfl⟩
     ·simp only [go_sem,reduceIte,↓reduceIte,sevalprocAttr,Z0,Z1,bytesOf,hu,Bool.true_and]
      cases hp:decide ((0:Int)≤p)
      ·simp only [go_sem,reduceIte,↓reduceIte,sevalprocAttr,Z0,Z1,bytesOf,hp,Bool.false_and]
       exact ⟨_,rfl⟩
      ·simp only [go_sem,reduceIte,↓reduceIte,sevalprocAttr,Z0,Z1,bytesOf,hp,Bool.true_and]
       refine acall_pure (hany _) ?_
       simp only [go_sem,reduceIte,↓reduceIte,sevalprocAttr,Z0,Z1,bytesOf]
       exact ⟨_,rfl⟩
 by_cases h2:k=2
 ·have e:patHead k n u p ks.length=(decide (0≤p) && (decide (ks.length=0) && (lowD n && decide (u=0)))):=by unfold patHead; rw [if_neg h1,if_pos h2]
  rw [e,swap4]
  subst h2
  ·simp only [go_sem,reduceIte,↓reduceIte,sevalprocAttr,Z0,Z1,bytesOf,mc100,mr100,PatD.cells]
   refine drw_same ?_
   simp only [go_sem,reduceIte,↓reduceIte,sevalprocAttr,Z0,Z1,bytesOf,PatD.cellsL_len,dN0,dN1,dN2]
   refine acall_pure (lowOkC n _) ?_
   simp only [go_sem,reduceIte,↓reduceIte,sevalprocAttr,Z0,Z1,bytesOf]
   cases hm:decide (ks.length=0)
   ·simp only [go_sem,reduceIte,↓reduceIte,sevalprocAttr,Z0,Z1,bytesOf,hm,Bool.false_and]
    exact ⟨_,rfl⟩
   ·simp only [go_sem,reduceIte,↓reduceIte,sevalprocAttr,Z0,Z1,bytesOf,hm,Bool.true_and]
    cases hn:lowD n
    ·simp only [go_sem,reduceIte,↓reduceIte,sevalprocAttr,Z0,Z1,bytesOf,hn,Bool.false_and]
     exact ⟨_,rfl⟩
    ·simp only [go_sem,reduceIte,↓reduceIte,sevalprocAttr,Z0,Z1,bytesOf,hn,Bool.true_and]
     cases hu:decide (u=0)
     ·simp only [go_sem,reduceIte,↓reduceIte,sevalprocAttr,Z0,Z1,bytesOf,hu,Bool.false_and]
      exact ⟨_,rfl⟩
     ·simp only [go_sem,reduceIte,↓reduceIte,sevalprocAttr,Z0,Z1,bytesOf,hu,Bool.true_and]
      cases hp:decide ((0:Int)≤p)
      ·simp only [go_sem,reduceIte,↓reduceIte,sevalprocAttr,Z0,Z1,bytesOf,hp,Bool.false_and]
       exact ⟨_,rfl⟩
      ·simp only [go_sem,reduceIte,↓reduceIte,sevalprocAttr,Z0,Z1,bytesOf,hp,Bool.true_and]
       refine acall_pure (hany _) ?_
       simp only [go_sem,reduceIte,↓reduceIte,sevalprocAttr,Z0,Z1,bytesOf]
       exact ⟨_,rfl⟩
 by_cases h3:k=3
 ·have e:patHead k n u p ks.length=(decide (0≤p) && (decide (ks.length=0) && (decide (n=[]) && decide (0≤u)))):=by unfold patHead; rw [if_neg h1,if_neg h2,if_pos h3]
  rw [e,swap4]
  subst h3
  ·simp only [go_sem,reduceIte,↓reduceIte,sevalprocAttr,Z0,Z1,bytesOf,mc100,mr100,PatD.cells]
   refine drw_same ?_
   simp only [go_sem,reduceIte,↓reduceIte,sevalprocAttr,Z0,Z1,bytesOf,PatD.cellsL_len,dN0,dN1,dN2]
   cases hm:decide (ks.length=0)
   ·simp only [go_sem,reduceIte,↓reduceIte,sevalprocAttr,Z0,Z1,bytesOf,hm,Bool.false_and]
    exact ⟨_,rfl⟩
   ·simp only [go_sem,reduceIte,↓reduceIte,sevalprocAttr,Z0,Z1,bytesOf,hm,Bool.true_and]
    cases hn:decide (n=[])
    ·simp only [go_sem,reduceIte,↓reduceIte,sevalprocAttr,Z0,Z1,bytesOf,hn,Bool.false_and]
     exact ⟨_,rfl⟩
    ·simp only [go_sem,reduceIte,↓reduceIte,sevalprocAttr,Z0,Z1,bytesOf,hn,Bool.true_and]
     cases hu:decide (0≤u)
     ·simp only [go_sem,reduceIte,↓reduceIte,sevalprocAttr,Z0,Z1,bytesOf,hu,Bool.false_and]
      exact ⟨_,rfl⟩
     ·simp only [go_sem,reduceIte,↓reduceIte,sevalprocAttr,Z0,Z1,bytesOf,hu,Bool.true_and]
      cases hp:decide ((0:Int)≤p)
      ·simp only [go_sem,reduceIte,↓reduceIte,sevalprocAttr,Z0,Z1,bytesOf,hp,Bool.false_and]
       exact ⟨_,rfl⟩
      ·simp only [go_sem,reduceIte,↓reduceIte,sevalprocAttr,Z0,Z1,bytesOf,hp,Bool.true_and]
       refine acall_pure (hany _) ?_
       simp only [go_sem,reduceIte,↓reduceIte,sevalprocAttr,Z0,Z1,bytesOf]
       exact ⟨_,rfl⟩
 by_cases h4:k=4
 ·have e:patHead k n u p ks.length=(decide (0≤p) && (decide (ks.length=0) && (decide (n=[]) && decide (0≤u∧u≤1)))):=by unfold patHead; rw [if_neg h1,if_neg h2,if_neg h3,if_pos h4]
  rw [e,swap4]
  subst h4
  ·simp only [go_sem,reduceIte,↓reduceIte,sevalprocAttr,Z0,Z1,bytesOf,mc100,mr100,PatD.cells]
   refine drw_same ?_
   simp only [go_sem,reduceIte,↓reduceIte,sevalprocAttr,Z0,Z1,bytesOf,PatD.cellsL_len,dN0,dN1,dN2]
   refine acall_pure (withinC u 0 1 _) ?_
   rw [e01]
   simp only [go_sem,reduceIte,↓reduceIte,sevalprocAttr,Z0,Z1,bytesOf]
   cases hm:decide (ks.length=0)
   ·simp only [go_sem,reduceIte,↓reduceIte,sevalprocAttr,Z0,Z1,bytesOf,hm,Bool.false_and]
    exact ⟨_,rfl⟩
   ·simp only [go_sem,reduceIte,↓reduceIte,sevalprocAttr,Z0,Z1,bytesOf,hm,Bool.true_and]
    cases hn:decide (n=[])
    ·simp only [go_sem,reduceIte,↓reduceIte,sevalprocAttr,Z0,Z1,bytesOf,hn,Bool.false_and]
     exact ⟨_,rfl⟩
    ·simp only [go_sem,reduceIte,↓reduceIte,sevalprocAttr,Z0,Z1,bytesOf,hn,Bool.true_and]
     cases hu:decide (0≤u∧u≤1)
     ·simp only [go_sem,reduceIte,↓reduceIte,sevalprocAttr,Z0,Z1,bytesOf,hu,Bool.false_and]
      exact ⟨_,rfl⟩
     ·simp only [go_sem,reduceIte,↓reduceIte,sevalprocAttr,Z0,Z1,bytesOf,hu,Bool.true_and]
      cases hp:decide ((0:Int)≤p)
      ·simp only [go_sem,reduceIte,↓reduceIte,sevalprocAttr,Z0,Z1,bytesOf,hp,Bool.false_and]
       exact ⟨_,rfl⟩
      ·simp only [go_sem,reduceIte,↓reduceIte,sevalprocAttr,Z0,Z1,bytesOf,hp,Bool.true_and]
       refine acall_pure (hany _) ?_
       simp only [go_sem,reduceIte,↓reduceIte,sevalprocAttr,Z0,Z1,bytesOf]
       exact ⟨_,rfl⟩
 by_cases h6:k=6
 ·have e:patHead k n u p ks.length=(decide (0≤p) && (decide (2≤ks.length) && (decide (n=[]) && decide (u=0)))):=by unfold patHead; rw [if_neg h1,if_neg h2,if_neg h3,if_neg h4,if_pos h6]
  rw [e,swap4]
  subst h6
  ·simp only [go_sem,reduceIte,↓reduceIte,sevalprocAttr,Z0,Z1,bytesOf,mc100,mr100,PatD.cells]
   refine drw_same ?_
   simp only [go_sem,reduceIte,↓reduceIte,sevalprocAttr,Z0,Z1,bytesOf,PatD.cellsL_len,dN0,dN1,dN2]
   intros
   cases hm:decide (2≤ks.length)
   ·simp only [go_sem,reduceIte,↓reduceIte,sevalprocAttr,Z0,Z1,bytesOf,hm,Bool.false_and]
    exact ⟨_,rfl⟩
   ·simp only [go_sem,reduceIte,↓reduceIte,sevalprocAttr,Z0,Z1,bytesOf,hm,Bool.true_and]
    cases hn:decide (n=[])
    ·simp only [go_sem,reduceIte,↓reduceIte,sevalprocAttr,Z0,Z1,bytesOf,hn,Bool.false_and]
     exact ⟨_,rfl⟩
    ·simp only [go_sem,reduceIte,↓reduceIte,sevalprocAttr,Z0,Z1,bytesOf,hn,Bool.true_and]
     cases hu:decide (u=0)
     ·simp only [go_sem,reduceIte,↓reduceIte,sevalprocAttr,Z0,Z1,bytesOf,hu,Bool.false_and]
      exact ⟨_,rfl⟩
     ·simp only [go_sem,reduceIte,↓reduceIte,sevalprocAttr,Z0,Z1,bytesOf,hu,Bool.true_and]
      cases hp:decide ((0:Int)≤p)
      ·simp only [go_sem,reduceIte,↓reduceIte,sevalprocAttr,Z0,Z1,bytesOf,hp,Bool.false_and]
       exact ⟨_,rfl⟩
      ·simp only [go_sem,reduceIte,↓reduceIte,sevalprocAttr,Z0,Z1,bytesOf,hp,Bool.true_and]
       refine acall_pure (hany _) ?_
       simp only [go_sem,reduceIte,↓reduceIte,sevalprocAttr,Z0,Z1,bytesOf]
       exact ⟨_,rfl⟩
 by_cases h7:k=7
 ·have e:patHead k n u p ks.length=(decide (0≤p) && (decide (ks.length≤1) && (isNameD true n && decide (u=0)))):=by unfold patHead; rw [if_neg h1,if_neg h2,if_neg h3,if_neg h4,if_neg h6,if_pos h7]
  rw [e,swap4]
  subst h7
  ·simp only [go_sem,reduceIte,↓reduceIte,sevalprocAttr,Z0,Z1,bytesOf,mc100,mr100,PatD.cells]
   refine drw_same ?_
   simp only [go_sem,reduceIte,↓reduceIte,sevalprocAttr,Z0,Z1,bytesOf,PatD.cellsL_len,dN0,dN1,dN2]
   refine drw_same ?_
   simp only [go_sem,reduceIte,↓reduceIte,sevalprocAttr,Z0,Z1,bytesOf,PatD.cellsL_len,dN1]
   refine pcall_pure (fun A=>upOkC n _) (Hext.refl _) ?_
   simp only [go_sem,reduceIte,↓reduceIte,sevalprocAttr,Z0,Z1,bytesOf]
   cases hm:decide (ks.length≤1)
   ·simp only [go_sem,reduceIte,↓reduceIte,sevalprocAttr,Z0,Z1,bytesOf,hm,Bool.false_and]
    exact ⟨_,rfl⟩
   ·simp only [go_sem,reduceIte,↓reduceIte,sevalprocAttr,Z0,Z1,bytesOf,hm,Bool.true_and]
    cases hn:isNameD true n
    ·simp only [go_sem,reduceIte,↓reduceIte,sevalprocAttr,Z0,Z1,bytesOf,hn,Bool.false_and]
     exact ⟨_,rfl⟩
    ·simp only [go_sem,reduceIte,↓reduceIte,sevalprocAttr,Z0,Z1,bytesOf,hn,Bool.true_and]
     cases hu:decide (u=0)
     ·simp only [go_sem,reduceIte,↓reduceIte,sevalprocAttr,Z0,Z1,bytesOf,hu,Bool.false_and]
      exact ⟨_,rfl⟩
     ·simp only [go_sem,reduceIte,↓reduceIte,sevalprocAttr,Z0,Z1,bytesOf,hu,Bool.true_and]
      cases hp:decide ((0:Int)≤p)
      ·simp only [go_sem,reduceIte,↓reduceIte,sevalprocAttr,Z0,Z1,bytesOf,hp,Bool.false_and]
       exact ⟨_,rfl⟩
      ·simp only [go_sem,reduceIte,↓reduceIte,sevalprocAttr,Z0,Z1,bytesOf,hp,Bool.true_and]
       refine acall_pure (hany _) ?_
       simp only [go_sem,reduceIte,↓reduceIte,sevalprocAttr,Z0,Z1,bytesOf]
       exact ⟨_,rfl⟩
 ·have e:patHead k n u p ks.length=false:=by unfold patHead; rw [if_neg h1,if_neg h2,if_neg h3,if_neg h4,if_neg h6,if_neg h7,Bool.and_false]
  rw [e,Bool.false_and]
  have d1:decide (k=1)=false:=by simp; exact fun h=>h1 (.inl h)
  have d5:decide (k=5)=false:=by simp; exact fun h=>h1 (.inr h)
  have d2:decide (k=2)=false:=by simp [h2]
  have d3:decide (k=3)=false:=by simp [h3]
  have d4:decide (k=4)=false:=by simp [h4]
  have d6:decide (k=6)=false:=by simp [h6]
  have d7:decide (k=7)=false:=by simp [h7]
  simp only [go_sem,reduceIte,↓reduceIte,sevalprocAttr,Z0,Z1,bytesOf,mc100,mr100,PatD.cells]
  refine drw_same ?_
  simp only [go_sem,reduceIte,↓reduceIte,sevalprocAttr,Z0,Z1,bytesOf,PatD.cellsL_len,d1,d5,d2,d3,d4,d6,d7]
  exact ⟨_,rfl⟩
theorem patOkA : ∀ (m : Nat) (t : PatD), t.sz < m → OkC 100 (av t.cells) t.ok := by
  intro m
  induction m with
  | zero => intro t h; omega
  | succ m ih =>
    intro t h
    obtain ⟨k, n, u, p, ks⟩ := t
    rw [PatD.sz, PatD.szL_eq] at h
    exact pat_Ok k n u p ks fun a ha => ih a (by have := sumSz_mem PatD.sz ha; omega)
end Go.Proofs.YtnelfbcgplooiaaGreat.Pg
/- Types and datatypes that are right, as the program judges. -/
set_option linter.all false
namespace Go.Proofs.YtnelfbcgplooiaaGreat.Pg
open Go.AM Mc
theorem typeNot {a:TyE} (h:OkC 102 (av a.cells) a.ok) (H:List AO):ACall Tryz.prog 134 [av a.cells] H (pureQ (.p (.b (!a.ok))) H):=by
 obtain ⟨k,n,p,ks⟩:=a
 refine acall_drop1 ?_ (tf_p _)
 refine call134 (by simp) ?_
 simp only [go_sem,reduceIte,↓reduceIte,sevalprocAttr,Z0,Z1,bytesOf,mc134,mr134,TyE.cells]
 refine acall_pure (h _) ?_
 simp only [go_sem,reduceIte,↓reduceIte,sevalprocAttr,Z0,Z1,bytesOf]
 exact ⟨_,rfl⟩
theorem swap3 (a b d e:Bool):(e && (a && b) && d)=(a && (b && (e && d))):=by
 cases a <;> cases b <;> cases d <;> cases e <;> rfl
theorem type_Ok (k:Int) (n:List UInt8) (p:Int) (ks:List TyE) (hk:∀ a∈ks,OkC 102 (av a.cells) a.ok):OkC 102 (av (TyE.cells (.mk k n p ks))) (TyE.ok (.mk k n p ks)):=by
 intro H
 have hany:∀ H,ACall Tryz.prog 133 [.p (.l (TyE.cellsL ks)),.clo 134 []] H (pureQ (.p (.b (ks.any fun a=>!a.ok))) H):=fun H=>by
  rw [TyE.cellsL_eq]
  exact containsF_TypeExp fun a ha=>typeNot (hk a ha) H
 have hall:TyE.okL ks=!(ks.any fun a=>!a.ok):=by rw [TyE.okL_eq,any_not]
 refine acall_drop1 ?_ (tf_p _)
 refine call102 (by simp) ?_
 rw [TyE.ok,hall]
 by_cases h1:k=1
 ·have e:typeHead k n p ks.length=(decide (0≤p) && (true && lowD n)):=by unfold typeHead; rw [if_pos h1]; rfl
  rw [e,swap3]
  subst h1
  simp only [go_sem,reduceIte,↓reduceIte,sevalprocAttr,Z0,Z1,bytesOf,mc102,mr102,TyE.cells]
  refine drw_same ?_
  simp only [go_sem,reduceIte,↓reduceIte,sevalprocAttr,Z0,Z1,bytesOf,TyE.cellsL_len,dN0,dN1,dN2,dE1,dE2]
  refine acall_pure (lowOkC n _) ?_
  simp only [go_sem,reduceIte,↓reduceIte,sevalprocAttr,Z0,Z1,bytesOf]
  cases ha2:lowD n
  ·simp only [go_sem,reduceIte,↓reduceIte,sevalprocAttr,Z0,Z1,bytesOf,ha2,Bool.false_and]
   exact ⟨_,rfl⟩
  ·simp only [go_sem,reduceIte,↓reduceIte,sevalprocAttr,Z0,Z1,bytesOf,ha2,Bool.true_and]
   cases ha1:decide ((0:Int)≤p)
   ·simp only [go_sem,reduceIte,↓reduceIte,sevalprocAttr,Z0,Z1,bytesOf,ha1,Bool.false_and]
    exact ⟨_,rfl⟩
   ·simp only [go_sem,reduceIte,↓reduceIte,sevalprocAttr,Z0,Z1,bytesOf,ha1,Bool.true_and]
    refine acall_pure (hany _) ?_
    simp only [go_sem,reduceIte,↓reduceIte,sevalprocAttr,Z0,Z1,bytesOf]
    exact ⟨_,rfl⟩
 by_cases h2:k=2
 ·have e:typeHead k n p ks.length=(decide (0≤p) && (decide (ks.length=0) && isNameD false n)):=by unfold typeHead; rw [if_neg h1,if_pos h2]
  rw [e,swap3]
  subst h2
  simp only [go_sem,reduceIte,↓reduceIte,sevalprocAttr,Z0,Z1,bytesOf,mc102,mr102,TyE.cells]
  refine drw_same ?_
  simp only [go_sem,reduceIte,↓reduceIte,sevalprocAttr,Z0,Z1,bytesOf,TyE.cellsL_len,dN0,dN1,dN2,dE1,dE2]
  refine drw_same ?_
  simp only [go_sem,reduceIte,↓reduceIte,sevalprocAttr,Z0,Z1,bytesOf,TyE.cellsL_len,dN0]
  refine pcall_pure (fun A=>isNameC false n _) (Hext.refl _) ?_
  simp only [go_sem,reduceIte,↓reduceIte,sevalprocAttr,Z0,Z1,bytesOf]
  cases ha3:decide (ks.length=0)
  ·simp only [go_sem,reduceIte,↓reduceIte,sevalprocAttr,Z0,Z1,bytesOf,ha3,Bool.false_and]
   exact ⟨_,rfl⟩
  ·simp only [go_sem,reduceIte,↓reduceIte,sevalprocAttr,Z0,Z1,bytesOf,ha3,Bool.true_and]
   cases ha2:isNameD false n
   ·simp only [go_sem,reduceIte,↓reduceIte,sevalprocAttr,Z0,Z1,bytesOf,ha2,Bool.false_and]
    exact ⟨_,rfl⟩
   ·simp only [go_sem,reduceIte,↓reduceIte,sevalprocAttr,Z0,Z1,bytesOf,ha2,Bool.true_and]
    cases ha1:decide ((0:Int)≤p)
    ·simp only [go_sem,reduceIte,↓reduceIte,sevalprocAttr,Z0,Z1,bytesOf,ha1,Bool.false_and]
     exact ⟨_,rfl⟩
    ·simp only [go_sem,reduceIte,↓reduceIte,sevalprocAttr,Z0,Z1,bytesOf,ha1,Bool.true_and]
     refine acall_pure (hany _) ?_
     simp only [go_sem,reduceIte,↓reduceIte,sevalprocAttr,Z0,Z1,bytesOf]
     exact ⟨_,rfl⟩
 by_cases h3:k=3
 ·have e:typeHead k n p ks.length=(decide (0≤p) && (decide (ks.length=2) && decide (n=[]))):=by unfold typeHead; rw [if_neg h1,if_neg h2,if_pos h3]
  rw [e,swap3]
  subst h3
  simp only [go_sem,reduceIte,↓reduceIte,sevalprocAttr,Z0,Z1,bytesOf,mc102,mr102,TyE.cells]
  refine drw_same ?_
  simp only [go_sem,reduceIte,↓reduceIte,sevalprocAttr,Z0,Z1,bytesOf,TyE.cellsL_len,dN0,dN1,dN2,dE1,dE2]
  intros
  cases ha3:decide (ks.length=2)
  ·simp only [go_sem,reduceIte,↓reduceIte,sevalprocAttr,Z0,Z1,bytesOf,ha3,Bool.false_and]
   exact ⟨_,rfl⟩
  ·simp only [go_sem,reduceIte,↓reduceIte,sevalprocAttr,Z0,Z1,bytesOf,ha3,Bool.true_and]
   cases ha2:decide (n=[])
   ·simp only [go_sem,reduceIte,↓reduceIte,sevalprocAttr,Z0,Z1,bytesOf,ha2,Bool.false_and]
    exact ⟨_,rfl⟩
   ·simp only [go_sem,reduceIte,↓reduceIte,sevalprocAttr,Z0,Z1,bytesOf,ha2,Bool.true_and]
    cases ha1:decide ((0:Int)≤p)
    ·simp only [go_sem,reduceIte,↓reduceIte,sevalprocAttr,Z0,Z1,bytesOf,ha1,Bool.false_and]
     exact ⟨_,rfl⟩
    ·simp only [go_sem,reduceIte,↓reduceIte,sevalprocAttr,Z0,Z1,bytesOf,ha1,Bool.true_and]
     refine acall_pure (hany _) ?_
     simp only [go_sem,reduceIte,↓reduceIte,sevalprocAttr,Z0,Z1,bytesOf]
     exact ⟨_,rfl⟩
 by_cases h4:k=4
 ·have e:typeHead k n p ks.length=(decide (0≤p) && (decide (2≤ks.length) && decide (n=[]))):=by unfold typeHead; rw [if_neg h1,if_neg h2,if_neg h3,if_pos h4]
  rw [e,swap3]
  subst h4
  simp only [go_sem,reduceIte,↓reduceIte,sevalprocAttr,Z0,Z1,bytesOf,mc102,mr102,TyE.cells]
  refine drw_same ?_
  simp only [go_sem,reduceIte,↓reduceIte,sevalprocAttr,Z0,Z1,bytesOf,TyE.cellsL_len,dN0,dN1,dN2,dE1,dE2]
  intros
  cases ha3:decide (2≤ks.length)
  ·simp only [go_sem,reduceIte,↓reduceIte,sevalprocAttr,Z0,Z1,bytesOf,ha3,Bool.false_and]
   exact ⟨_,rfl⟩
  ·simp only [go_sem,reduceIte,↓reduceIte,sevalprocAttr,Z0,Z1,bytesOf,ha3,Bool.true_and]
   cases ha2:decide (n=[])
   ·simp only [go_sem,reduceIte,↓reduceIte,sevalprocAttr,Z0,Z1,bytesOf,ha2,Bool.false_and]
    exact ⟨_,rfl⟩
   ·simp only [go_sem,reduceIte,↓reduceIte,sevalprocAttr,Z0,Z1,bytesOf,ha2,Bool.true_and]
    cases ha1:decide ((0:Int)≤p)
    ·simp only [go_sem,reduceIte,↓reduceIte,sevalprocAttr,Z0,Z1,bytesOf,ha1,Bool.false_and]
     exact ⟨_,rfl⟩
    ·simp only [go_sem,reduceIte,↓reduceIte,sevalprocAttr,Z0,Z1,bytesOf,ha1,Bool.true_and]
     refine acall_pure (hany _) ?_
     simp only [go_sem,reduceIte,↓reduceIte,sevalprocAttr,Z0,Z1,bytesOf]
     exact ⟨_,rfl⟩
 by_cases h5:k=5
 ·have e:typeHead k n p ks.length=(decide (0≤p) && (decide (ks.length=1) && decide (n=[]))):=by unfold typeHead; rw [if_neg h1,if_neg h2,if_neg h3,if_neg h4,if_pos h5]
  rw [e,swap3]
  subst h5
  simp only [go_sem,reduceIte,↓reduceIte,sevalprocAttr,Z0,Z1,bytesOf,mc102,mr102,TyE.cells]
  refine drw_same ?_
  simp only [go_sem,reduceIte,↓reduceIte,sevalprocAttr,Z0,Z1,bytesOf,TyE.cellsL_len,dN0,dN1,dN2,dE1,dE2]
  intros
  cases ha3:decide (ks.length=1)
  ·simp only [go_sem,reduceIte,↓reduceIte,sevalprocAttr,Z0,Z1,bytesOf,ha3,Bool.false_and]
   exact ⟨_,rfl⟩
  ·simp only [go_sem,reduceIte,↓reduceIte,sevalprocAttr,Z0,Z1,bytesOf,ha3,Bool.true_and]
   cases ha2:decide (n=[])
   ·simp only [go_sem,reduceIte,↓reduceIte,sevalprocAttr,Z0,Z1,bytesOf,ha2,Bool.false_and]
    exact ⟨_,rfl⟩
   ·simp only [go_sem,reduceIte,↓reduceIte,sevalprocAttr,Z0,Z1,bytesOf,ha2,Bool.true_and]
    cases ha1:decide ((0:Int)≤p)
    ·simp only [go_sem,reduceIte,↓reduceIte,sevalprocAttr,Z0,Z1,bytesOf,ha1,Bool.false_and]
     exact ⟨_,rfl⟩
    ·simp only [go_sem,reduceIte,↓reduceIte,sevalprocAttr,Z0,Z1,bytesOf,ha1,Bool.true_and]
     refine acall_pure (hany _) ?_
     simp only [go_sem,reduceIte,↓reduceIte,sevalprocAttr,Z0,Z1,bytesOf]
     exact ⟨_,rfl⟩
 ·have e:typeHead k n p ks.length=false:=by unfold typeHead; rw [if_neg h1,if_neg h2,if_neg h3,if_neg h4,if_neg h5,Bool.and_false]
  rw [e,Bool.false_and]
  have d1:decide (k=1)=false:=by simp [h1]
  have d5:decide (k=5)=false:=by simp [h5]
  have d2:decide (k=2)=false:=by simp [h2]
  have d3:decide (k=3)=false:=by simp [h3]
  have d4:decide (k=4)=false:=by simp [h4]
  simp only [go_sem,reduceIte,↓reduceIte,sevalprocAttr,Z0,Z1,bytesOf,mc102,mr102,TyE.cells]
  refine drw_same ?_
  simp only [go_sem,reduceIte,↓reduceIte,sevalprocAttr,Z0,Z1,bytesOf,TyE.cellsL_len,d1,d5,d2,d3,d4]
  exact ⟨_,rfl⟩
theorem typeOkA : ∀ (m : Nat) (t : TyE), t.sz < m → OkC 102 (av t.cells) t.ok := by
  intro m
  induction m with
  | zero => intro t h; omega
  | succ m ih =>
    intro t h
    obtain ⟨k, n, p, ks⟩ := t
    rw [TyE.sz, TyE.szL_eq] at h
    exact type_Ok k n p ks fun a ha => ih a (by have := sumSz_mem TyE.sz ha; omega)
theorem emptyTypeC (t:TyE):OkC 103 (av t.cells) t.none:=by
 intro H
 obtain ⟨k,n,p,ks⟩:=t
 refine acall_drop1 ?_ (tf_p _)
 refine call103 (by simp) ?_
 rw [TyE.none]
 simp only [go_sem,reduceIte,↓reduceIte,sevalprocAttr,Z0,Z1,bytesOf,mc103,mr103,TyE.cells]
 cases ha3:decide (k=0)
 ·simp only [go_sem,reduceIte,↓reduceIte,sevalprocAttr,Z0,Z1,bytesOf,ha3,Bool.false_and]
  exact ⟨_,rfl⟩
 ·simp only [go_sem,reduceIte,↓reduceIte,sevalprocAttr,Z0,Z1,bytesOf,ha3,Bool.true_and]
  cases ha2:decide (n=[])
  ·simp only [go_sem,reduceIte,↓reduceIte,sevalprocAttr,Z0,Z1,bytesOf,ha2,Bool.false_and]
   exact ⟨_,rfl⟩
  ·simp only [go_sem,reduceIte,↓reduceIte,sevalprocAttr,Z0,Z1,bytesOf,ha2,Bool.true_and]
   cases ha1:decide (p=0)
   ·simp only [go_sem,reduceIte,↓reduceIte,sevalprocAttr,Z0,Z1,bytesOf,ha1,Bool.false_and]
    exact ⟨_,rfl⟩
   ·simp only [go_sem,reduceIte,↓reduceIte,sevalprocAttr,Z0,Z1,bytesOf,ha1,Bool.true_and]
    simp only [go_sem,reduceIte,↓reduceIte,sevalprocAttr,Z0,Z1,bytesOf,TyE.cellsL_len,dN0]
    intros
    exact ⟨_,rfl⟩
theorem dLt (p:Int):decide (p<0)=!decide (0≤p):=by
 by_cases h:0≤p
 ·simp [h]
 ·simp [h]; omega
theorem all_takeA {α:Type} {p:α→Bool} {s:List α} {x:Nat} (h:x<s.length):(s.take (x+1)).all p=((s.take x).all p && p s[x]):=by
 have e:s.take (x+1)=s.take x++[s[x]]:=by rw [List.take_succ,List.getElem?_eq_getElem h]; rfl
 rw [e,List.all_append]
 simp only [List.all_cons,List.all_nil,Bool.and_true]
theorem all_notA {α:Type} {p:α→Bool} {s:List α} {x:Nat} (h:x<s.length) (hp:p s[x]=false):s.all p=false:=by
 rw [List.all_eq_false]
 exact ⟨s[x],List.getElem_mem h,by simp [hp]⟩
theorem dPos (n:Nat):decide ((0:Int)<(n:Int))=decide (0<n):=by rw [decide_eq_decide]; omega
theorem varNot (s:List UInt8) (H:List AO):ACall Tryz.prog 106 [.p (.s s)] H (pureQ (.p (.b (!isNameD false s))) H):=by
 refine call106 (by simp) ?_
 simp only [go_sem,reduceIte,↓reduceIte,sevalprocAttr,Z0,Z1,bytesOf,mc106,mr106]
 refine acall_pure (isNameC false s H) ?_
 simp only [go_sem,reduceIte,↓reduceIte,sevalprocAttr,Z0,Z1,bytesOf]
 exact ⟨rfl,rfl⟩
theorem dataOkC (d:DataD):OkC 69 (av d.cells) d.ok:=by
 intro H
 obtain ⟨n,vs,cs,p⟩:=d
 have hany:∀ H,ACall Tryz.prog 105 [.p (.l (namesC vs)),.clo 106 []] H (pureQ (.p (.b (vs.any fun a=>!isNameD false a))) H):=fun H=>containsF_String fun a _=>varNot a H
 have hall:(vs.all (isNameD false))=!(vs.any fun a=>!isNameD false a):=by rw [any_not]
 refine acall_drop1 ?_ (tf_p _)
 refine call69 (by simp) ?_
 rw [DataD.ok]
 simp only [go_sem,reduceIte,↓reduceIte,sevalprocAttr,Z0,Z1,bytesOf,mc69,mr69,DataD.cells,List.length_map]
 intro hl
 rw [maxLe] at hl
 have hb0:(H++[AO.var [.p (.s n),.p (.l (namesC vs)),.p (.l (cs.map CtorD.cells)),.p (.i .i64 p)]])[H.length]?=some (.var [.p (.s n),.p (.l (namesC vs)),.p (.l (cs.map CtorD.cells)),.p (.i .i64 p)]):=by rw [get_off0]; rfl
 refine ⟨Nat × List AO,[1,6,7,8],fun x st=>(x.1≤cs.length∧(cs.take x.1).all CtorD.ok=true∧x.2[H.length]?=some (.var [.p (.s n),.p (.l (namesC vs)),.p (.l (cs.map CtorD.cells)),.p (.i .i64 p)])∧∃ G,x.2=H++G)∧st=⟨[(1,.ptr H.length 0),(6,.p (.l (cs.map CtorD.cells))),(7,.p (.i .i64 cs.length)),(8,.p (.i .i64 x.1))],[],x.2⟩,fun x=>cs.length - x.1,⟨(0,H++[AO.var [.p (.s n),.p (.l (namesC vs)),.p (.l (cs.map CtorD.cells)),.p (.i .i64 p)]]),?_⟩,?_⟩
 ·simp only [go_sem,reduceIte,↓reduceIte,sevalprocAttr,Z0,Z1,bytesOf,List.take_zero]
  exact ⟨Nat.zero_le _,rfl,_,rfl⟩
 ·rintro ⟨x,HG⟩ _ ⟨⟨hx,hn,hbG,G',hG'⟩,rfl⟩
  simp only at hx hn hbG hG'
  by_cases hlt:x<cs.length
  ·have d1:decide ((x:Int)<(cs.length:Int))=true:=by simp; omega
   have hlt':((x:Int)<(cs.length:Int)):=by omega
   have ex:=wrN x (by omega)
   have hg:(cs.map CtorD.cells)[x]?=some (CtorD.cells cs[x]):=by simp [hlt]
   generalize hc:cs[x]=c at hg
   have hok:(cs.take (x+1)).all CtorD.ok=CtorD.ok c:=by rw [all_takeA hlt,hn,hc,Bool.true_and]
   have hnot:CtorD.ok c=false→cs.all CtorD.ok=false:=fun h=>all_notA hlt (by rw [hc]; exact h)
   obtain ⟨cn,ch,ct,cp⟩:=c
   obtain ⟨ak,an,ap,aks⟩:=ct
   have hty:=typeOkA _ (.mk ak an ap aks) (Nat.lt_succ_self _)
   have hem:=emptyTypeC (.mk ak an ap aks)
   have next:∀ A,CtorD.ok ⟨cn,ch,.mk ak an ap aks,cp⟩=true→∃ y:Nat × List AO,((y.1≤cs.length∧(cs.take y.1).all CtorD.ok=true∧y.2[H.length]?=some (.var [.p (.s n),.p (.l (namesC vs)),.p (.l (cs.map CtorD.cells)),.p (.i .i64 p)])∧∃ G,y.2=H++G)∧(⟨[(1,.ptr H.length 0),(6,.p (.l (cs.map CtorD.cells))),(7,.p (.i .i64 cs.length)),(8,.p (.i .i64 ((x+1:Nat):Int)))],[],HG++A⟩:St)=⟨[(1,.ptr H.length 0),(6,.p (.l (cs.map CtorD.cells))),(7,.p (.i .i64 cs.length)),(8,.p (.i .i64 y.1))],[],y.2⟩)∧cs.length - y.1<cs.length - x:=fun A h=>⟨(x+1,HG++A),⟨⟨by simp only; omega,by simp only; rw [hok]; exact h,get_ext hbG A,_,by rw [hG',List.append_assoc]⟩,rfl⟩,by simp only; omega⟩
   simp only [go_sem,reduceIte,↓reduceIte,sevalprocAttr,Z0,Z1,bytesOf,d1,hlt',hg,CtorD.cells,TyE.cells,zl8_0,zl8_1,zl8_2,zl8_3]
   refine acall_pure (upOkC cn _) ?_
   cases h1:isNameD true cn
   ·simp only [go_sem,reduceIte,↓reduceIte,sevalprocAttr,Z0,Z1,bytesOf,h1]
    have ev:=hnot (by simp [CtorD.ok,h1])
    simp only [go_sem,reduceIte,↓reduceIte,sevalprocAttr,Z0,Z1,bytesOf,ev,Bool.false_and]
    exact ⟨_,by rw [hG',List.append_assoc]⟩
   ·simp only [go_sem,reduceIte,↓reduceIte,sevalprocAttr,Z0,Z1,bytesOf,h1,dLt]
    cases h2:decide (0≤cp)
    ·simp only [go_sem,reduceIte,↓reduceIte,sevalprocAttr,Z0,Z1,bytesOf,h2]
     have ev:=hnot (by simp [CtorD.ok,h1,h2])
     simp only [go_sem,reduceIte,↓reduceIte,sevalprocAttr,Z0,Z1,bytesOf,ev,Bool.false_and]
     exact ⟨_,by rw [hG',List.append_assoc]⟩
    ·simp only [go_sem,reduceIte,↓reduceIte,sevalprocAttr,Z0,Z1,bytesOf,h2]
     cases ch
     ·simp only [go_sem,reduceIte,↓reduceIte,sevalprocAttr,Z0,Z1,bytesOf]
      refine acall_pure (hem _) ?_
      cases h3:TyE.none (.mk ak an ap aks)
      ·simp only [go_sem,reduceIte,↓reduceIte,sevalprocAttr,Z0,Z1,bytesOf,h3]
       have ev:=hnot (by simp [CtorD.ok,h1,h2,h3])
       simp only [go_sem,reduceIte,↓reduceIte,sevalprocAttr,Z0,Z1,bytesOf,ev,Bool.false_and]
       exact ⟨_,by rw [hG',List.append_assoc]⟩
      ·simp only [go_sem,reduceIte,↓reduceIte,sevalprocAttr,Z0,Z1,bytesOf,h3,ex]
       exact next _ (by simp [CtorD.ok,h1,h2,h3])
     ·simp only [go_sem,reduceIte,↓reduceIte,sevalprocAttr,Z0,Z1,bytesOf]
      refine acall_pure (hty _) ?_
      cases h3:TyE.ok (.mk ak an ap aks)
      ·simp only [go_sem,reduceIte,↓reduceIte,sevalprocAttr,Z0,Z1,bytesOf,h3]
       have ev:=hnot (by simp [CtorD.ok,h1,h2,h3])
       simp only [go_sem,reduceIte,↓reduceIte,sevalprocAttr,Z0,Z1,bytesOf,ev,Bool.false_and]
       exact ⟨_,by rw [hG',List.append_assoc]⟩
      ·simp only [go_sem,reduceIte,↓reduceIte,sevalprocAttr,Z0,Z1,bytesOf,h3,ex]
       exact next _ (by simp [CtorD.ok,h1,h2,h3])
  ·have:x=cs.length:=by omega
   subst this
   have d1:decide ((cs.length:Int)<(cs.length:Int))=false:=by simp
   rw [List.take_length] at hn
   simp only [go_sem,reduceIte,↓reduceIte,sevalprocAttr,Z0,Z1,bytesOf,d1,hbG]
   refine acall_pure (lowOkC n _) ?_
   rw [hn,Bool.true_and,hall]
   have hfin:∃ G1,HG=H++G1:=⟨_,hG'⟩
   cases h1:lowD n
   ·simp only [go_sem,reduceIte,↓reduceIte,sevalprocAttr,Z0,Z1,bytesOf,h1,Bool.false_and]
    exact hfin
   ·simp only [go_sem,reduceIte,↓reduceIte,sevalprocAttr,Z0,Z1,bytesOf,h1,hbG,Bool.true_and]
    cases h2:decide ((0:Int)≤p)
    ·simp only [go_sem,reduceIte,↓reduceIte,sevalprocAttr,Z0,Z1,bytesOf,h2,Bool.false_and]
     exact hfin
    ·simp only [go_sem,reduceIte,↓reduceIte,sevalprocAttr,Z0,Z1,bytesOf,h2,hbG,Bool.true_and,List.length_map,dPos]
     intros
     cases h3:decide (0<cs.length)
     ·simp only [go_sem,reduceIte,↓reduceIte,sevalprocAttr,Z0,Z1,bytesOf,h3,Bool.false_and]
      exact hfin
     ·simp only [go_sem,reduceIte,↓reduceIte,sevalprocAttr,Z0,Z1,bytesOf,h3,hbG,Bool.true_and]
      refine acall_pure (hany _) ?_
      simp only [go_sem,reduceIte,↓reduceIte,sevalprocAttr,Z0,Z1,bytesOf]
      exact hfin
theorem dataNot (d:DataD) (H:List AO):ACall Tryz.prog 68 [av d.cells] H (pureQ (.p (.b (!d.ok))) H):=by
 have hd:=dataOkC d
 obtain ⟨n,vs,cs,p⟩:=d
 refine acall_drop1 ?_ (tf_p _)
 refine call68 (by simp) ?_
 simp only [go_sem,reduceIte,↓reduceIte,sevalprocAttr,Z0,Z1,bytesOf,mc68,mr68,DataD.cells]
 refine acall_pure (hd _) ?_
 simp only [go_sem,reduceIte,↓reduceIte,sevalprocAttr,Z0,Z1,bytesOf]
 exact ⟨_,rfl⟩
end Go.Proofs.YtnelfbcgplooiaaGreat.Pg
/- Expressions that are right, as the program judges. -/
set_option linter.all false
namespace Go.Proofs.YtnelfbcgplooiaaGreat.Pg
open Go.AM Mc
theorem swap5 (a b c d e f:Bool):((e && f) && (a && (b && (c && d))))=(a && (b && (c && (d && (e && f))))):=by
 cases a <;> cases b <;> cases c <;> cases d <;> cases e <;> cases f <;> rfl
theorem swap5' (a c d e f:Bool):((e && f) && (a && (c && d)))=(a && (c && (d && (e && f)))):=by
 cases a <;> cases c <;> cases d <;> cases e <;> cases f <;> rfl
theorem head_Ok (k:Int) (n:List UInt8) (u:Int) (t:List UInt8) (p:Int) (ks:List ExpD) (as':List ArmD):OkC 99 (av (ExpD.cells (.mk k n u t p ks as'))) (expHead k n u t p ks.length as'.length):=by
 intro H
 refine acall_drop1 ?_ (tf_p _)
 refine call99 (by simp) ?_
 by_cases h1:k=1
 ·have e:expHead k n u t p ks.length as'.length=((decide (0≤p) && (decide (k=13) == decide (0<as'.length))) && (decide (ks.length=0) && (decide (n=[]) && (decide (0≤u) && decide (t=[]))))):=by unfold expHead; rw [if_pos h1]
  rw [e,swap5]
  subst h1
  have d13:decide ((1:Int)=13)=false:=by decide
  simp only [go_sem,reduceIte,↓reduceIte,sevalprocAttr,Z0,Z1,bytesOf,mc99,mr99,ExpD.cells,d13]
  refine drw_same ?_
  simp only [go_sem,reduceIte,↓reduceIte,sevalprocAttr,Z0,Z1,bytesOf,ExpD.cellsL_len,ExpD.cellsA_len,dN0,dN1,dN2,dE1,dE2,dE3]
  cases ha5:decide (ks.length=0)
  ·simp only [go_sem,reduceIte,↓reduceIte,sevalprocAttr,Z0,Z1,bytesOf,ha5,Bool.false_and]
   exact ⟨_,rfl⟩
  ·simp only [go_sem,reduceIte,↓reduceIte,sevalprocAttr,Z0,Z1,bytesOf,ha5,Bool.true_and]
   cases ha4:decide (n=[])
   ·simp only [go_sem,reduceIte,↓reduceIte,sevalprocAttr,Z0,Z1,bytesOf,ha4,Bool.false_and]
    exact ⟨_,rfl⟩
   ·simp only [go_sem,reduceIte,↓reduceIte,sevalprocAttr,Z0,Z1,bytesOf,ha4,Bool.true_and]
    cases ha3:decide (0≤u)
    ·simp only [go_sem,reduceIte,↓reduceIte,sevalprocAttr,Z0,Z1,bytesOf,ha3,Bool.false_and]
     exact ⟨_,rfl⟩
    ·simp only [go_sem,reduceIte,↓reduceIte,sevalprocAttr,Z0,Z1,bytesOf,ha3,Bool.true_and]
     cases ha2:decide (t=[])
     ·simp only [go_sem,reduceIte,↓reduceIte,sevalprocAttr,Z0,Z1,bytesOf,ha2,Bool.false_and]
      exact ⟨_,rfl⟩
     ·simp only [go_sem,reduceIte,↓reduceIte,sevalprocAttr,Z0,Z1,bytesOf,ha2,Bool.true_and]
      cases ha1:decide ((0:Int)≤p)
      ·simp only [go_sem,reduceIte,↓reduceIte,sevalprocAttr,Z0,Z1,bytesOf,ha1,Bool.false_and]
       exact ⟨_,rfl⟩
      ·simp only [go_sem,reduceIte,↓reduceIte,sevalprocAttr,Z0,Z1,bytesOf,ha1,Bool.true_and]
       simp only [go_sem,reduceIte,↓reduceIte,sevalprocAttr,Z0,Z1,bytesOf,ExpD.cellsL_len,ExpD.cellsA_len,dN0,dN1,dN2,dE1,dE2,dE3,dPos]
       intros
       exact ⟨_,rfl⟩
 by_cases h2:k=2
 ·have e:expHead k n u t p ks.length as'.length=((decide (0≤p) && (decide (k=13) == decide (0<as'.length))) && (decide (ks.length=0) && (decide (n=[]) && (decide (u=0) && plainD t)))):=by unfold expHead; rw [if_neg h1,if_pos h2]
  rw [e,swap5]
  subst h2
  have d13:decide ((2:Int)=13)=false:=by decide
  simp only [go_sem,reduceIte,↓reduceIte,sevalprocAttr,Z0,Z1,bytesOf,mc99,mr99,ExpD.cells,d13]
  refine drw_same ?_
  simp only [go_sem,reduceIte,↓reduceIte,sevalprocAttr,Z0,Z1,bytesOf,ExpD.cellsL_len,ExpD.cellsA_len,dN0,dN1,dN2,dE1,dE2,dE3]
  refine acall_pure (plainC t _) ?_
  simp only [go_sem,reduceIte,↓reduceIte,sevalprocAttr,Z0,Z1,bytesOf]
  cases ha5:decide (ks.length=0)
  ·simp only [go_sem,reduceIte,↓reduceIte,sevalprocAttr,Z0,Z1,bytesOf,ha5,Bool.false_and]
   exact ⟨_,rfl⟩
  ·simp only [go_sem,reduceIte,↓reduceIte,sevalprocAttr,Z0,Z1,bytesOf,ha5,Bool.true_and]
   cases ha4:decide (n=[])
   ·simp only [go_sem,reduceIte,↓reduceIte,sevalprocAttr,Z0,Z1,bytesOf,ha4,Bool.false_and]
    exact ⟨_,rfl⟩
   ·simp only [go_sem,reduceIte,↓reduceIte,sevalprocAttr,Z0,Z1,bytesOf,ha4,Bool.true_and]
    cases ha3:decide (u=0)
    ·simp only [go_sem,reduceIte,↓reduceIte,sevalprocAttr,Z0,Z1,bytesOf,ha3,Bool.false_and]
     exact ⟨_,rfl⟩
    ·simp only [go_sem,reduceIte,↓reduceIte,sevalprocAttr,Z0,Z1,bytesOf,ha3,Bool.true_and]
     cases ha2:plainD t
     ·simp only [go_sem,reduceIte,↓reduceIte,sevalprocAttr,Z0,Z1,bytesOf,ha2,Bool.false_and]
      exact ⟨_,rfl⟩
     ·simp only [go_sem,reduceIte,↓reduceIte,sevalprocAttr,Z0,Z1,bytesOf,ha2,Bool.true_and]
      cases ha1:decide ((0:Int)≤p)
      ·simp only [go_sem,reduceIte,↓reduceIte,sevalprocAttr,Z0,Z1,bytesOf,ha1,Bool.false_and]
       exact ⟨_,rfl⟩
      ·simp only [go_sem,reduceIte,↓reduceIte,sevalprocAttr,Z0,Z1,bytesOf,ha1,Bool.true_and]
       simp only [go_sem,reduceIte,↓reduceIte,sevalprocAttr,Z0,Z1,bytesOf,ExpD.cellsL_len,ExpD.cellsA_len,dN0,dN1,dN2,dE1,dE2,dE3,dPos]
       intros
       exact ⟨_,rfl⟩
 by_cases h3:k=3
 ·have e:expHead k n u t p ks.length as'.length=((decide (0≤p) && (decide (k=13) == decide (0<as'.length))) && (decide (ks.length=0) && (decide (n=[]) && (decide (0≤u∧u≤1) && decide (t=[]))))):=by unfold expHead; rw [if_neg h1,if_neg h2,if_pos h3]
  rw [e,swap5]
  subst h3
  have d13:decide ((3:Int)=13)=false:=by decide
  simp only [go_sem,reduceIte,↓reduceIte,sevalprocAttr,Z0,Z1,bytesOf,mc99,mr99,ExpD.cells,d13]
  refine drw_same ?_
  simp only [go_sem,reduceIte,↓reduceIte,sevalprocAttr,Z0,Z1,bytesOf,ExpD.cellsL_len,ExpD.cellsA_len,dN0,dN1,dN2,dE1,dE2,dE3]
  refine acall_pure (withinC u 0 1 _) ?_
  rw [e01]
  simp only [go_sem,reduceIte,↓reduceIte,sevalprocAttr,Z0,Z1,bytesOf]
  cases ha5:decide (ks.length=0)
  ·simp only [go_sem,reduceIte,↓reduceIte,sevalprocAttr,Z0,Z1,bytesOf,ha5,Bool.false_and]
   exact ⟨_,rfl⟩
  ·simp only [go_sem,reduceIte,↓reduceIte,sevalprocAttr,Z0,Z1,bytesOf,ha5,Bool.true_and]
   cases ha4:decide (n=[])
   ·simp only [go_sem,reduceIte,↓reduceIte,sevalprocAttr,Z0,Z1,bytesOf,ha4,Bool.false_and]
    exact ⟨_,rfl⟩
   ·simp only [go_sem,reduceIte,↓reduceIte,sevalprocAttr,Z0,Z1,bytesOf,ha4,Bool.true_and]
    cases ha3:decide (0≤u∧u≤1)
    ·simp only [go_sem,reduceIte,↓reduceIte,sevalprocAttr,Z0,Z1,bytesOf,ha3,Bool.false_and]
     exact ⟨_,rfl⟩
    ·simp only [go_sem,reduceIte,↓reduceIte,sevalprocAttr,Z0,Z1,bytesOf,ha3,Bool.true_and]
     cases ha2:decide (t=[])
     ·simp only [go_sem,reduceIte,↓reduceIte,sevalprocAttr,Z0,Z1,bytesOf,ha2,Bool.false_and]
      exact ⟨_,rfl⟩
     ·simp only [go_sem,reduceIte,↓reduceIte,sevalprocAttr,Z0,Z1,bytesOf,ha2,Bool.true_and]
      cases ha1:decide ((0:Int)≤p)
      ·simp only [go_sem,reduceIte,↓reduceIte,sevalprocAttr,Z0,Z1,bytesOf,ha1,Bool.false_and]
       exact ⟨_,rfl⟩
      ·simp only [go_sem,reduceIte,↓reduceIte,sevalprocAttr,Z0,Z1,bytesOf,ha1,Bool.true_and]
       simp only [go_sem,reduceIte,↓reduceIte,sevalprocAttr,Z0,Z1,bytesOf,ExpD.cellsL_len,ExpD.cellsA_len,dN0,dN1,dN2,dE1,dE2,dE3,dPos]
       intros
       exact ⟨_,rfl⟩
 by_cases h4:k=4
 ·have e:expHead k n u t p ks.length as'.length=((decide (0≤p) && (decide (k=13) == decide (0<as'.length))) && (decide (ks.length=0) && (decide (n=[]) && (decide (u=0) && decide (t=[]))))):=by unfold expHead; rw [if_neg h1,if_neg h2,if_neg h3,if_pos h4]
  rw [e,swap5]
  subst h4
  have d13:decide ((4:Int)=13)=false:=by decide
  simp only [go_sem,reduceIte,↓reduceIte,sevalprocAttr,Z0,Z1,bytesOf,mc99,mr99,ExpD.cells,d13]
  refine drw_same ?_
  simp only [go_sem,reduceIte,↓reduceIte,sevalprocAttr,Z0,Z1,bytesOf,ExpD.cellsL_len,ExpD.cellsA_len,dN0,dN1,dN2,dE1,dE2,dE3]
  cases ha5:decide (ks.length=0)
  ·simp only [go_sem,reduceIte,↓reduceIte,sevalprocAttr,Z0,Z1,bytesOf,ha5,Bool.false_and]
   exact ⟨_,rfl⟩
  ·simp only [go_sem,reduceIte,↓reduceIte,sevalprocAttr,Z0,Z1,bytesOf,ha5,Bool.true_and]
   cases ha4:decide (n=[])
   ·simp only [go_sem,reduceIte,↓reduceIte,sevalprocAttr,Z0,Z1,bytesOf,ha4,Bool.false_and]
    exact ⟨_,rfl⟩
   ·simp only [go_sem,reduceIte,↓reduceIte,sevalprocAttr,Z0,Z1,bytesOf,ha4,Bool.true_and]
    cases ha3:decide (u=0)
    ·simp only [go_sem,reduceIte,↓reduceIte,sevalprocAttr,Z0,Z1,bytesOf,ha3,Bool.false_and]
     exact ⟨_,rfl⟩
    ·simp only [go_sem,reduceIte,↓reduceIte,sevalprocAttr,Z0,Z1,bytesOf,ha3,Bool.true_and]
     cases ha2:decide (t=[])
     ·simp only [go_sem,reduceIte,↓reduceIte,sevalprocAttr,Z0,Z1,bytesOf,ha2,Bool.false_and]
      exact ⟨_,rfl⟩
     ·simp only [go_sem,reduceIte,↓reduceIte,sevalprocAttr,Z0,Z1,bytesOf,ha2,Bool.true_and]
      cases ha1:decide ((0:Int)≤p)
      ·simp only [go_sem,reduceIte,↓reduceIte,sevalprocAttr,Z0,Z1,bytesOf,ha1,Bool.false_and]
       exact ⟨_,rfl⟩
      ·simp only [go_sem,reduceIte,↓reduceIte,sevalprocAttr,Z0,Z1,bytesOf,ha1,Bool.true_and]
       simp only [go_sem,reduceIte,↓reduceIte,sevalprocAttr,Z0,Z1,bytesOf,ExpD.cellsL_len,ExpD.cellsA_len,dN0,dN1,dN2,dE1,dE2,dE3,dPos]
       intros
       exact ⟨_,rfl⟩
 by_cases h5:k=5
 ·have e:expHead k n u t p ks.length as'.length=((decide (0≤p) && (decide (k=13) == decide (0<as'.length))) && (decide (ks.length=0) && (lowD n && (decide (u=0) && decide (t=[]))))):=by unfold expHead; rw [if_neg h1,if_neg h2,if_neg h3,if_neg h4,if_pos h5]
  rw [e,swap5]
  subst h5
  have d13:decide ((5:Int)=13)=false:=by decide
  simp only [go_sem,reduceIte,↓reduceIte,sevalprocAttr,Z0,Z1,bytesOf,mc99,mr99,ExpD.cells,d13]
  refine drw_same ?_
  simp only [go_sem,reduceIte,↓reduceIte,sevalprocAttr,Z0,Z1,bytesOf,ExpD.cellsL_len,ExpD.cellsA_len,dN0,dN1,dN2,dE1,dE2,dE3]
  refine acall_pure (lowOkC n _) ?_
  simp only [go_sem,reduceIte,↓reduceIte,sevalprocAttr,Z0,Z1,bytesOf]
  cases ha5:decide (ks.length=0)
  ·simp only [go_sem,reduceIte,↓reduceIte,sevalprocAttr,Z0,Z1,bytesOf,ha5,Bool.false_and]
   exact ⟨_,rfl⟩
  ·simp only [go_sem,reduceIte,↓reduceIte,sevalprocAttr,Z0,Z1,bytesOf,ha5,Bool.true_and]
   cases ha4:lowD n
   ·simp only [go_sem,reduceIte,↓reduceIte,sevalprocAttr,Z0,Z1,bytesOf,ha4,Bool.false_and]
    exact ⟨_,rfl⟩
   ·simp only [go_sem,reduceIte,↓reduceIte,sevalprocAttr,Z0,Z1,bytesOf,ha4,Bool.true_and]
    cases ha3:decide (u=0)
    ·simp only [go_sem,reduceIte,↓reduceIte,sevalprocAttr,Z0,Z1,bytesOf,ha3,Bool.false_and]
     exact ⟨_,rfl⟩
    ·simp only [go_sem,reduceIte,↓reduceIte,sevalprocAttr,Z0,Z1,bytesOf,ha3,Bool.true_and]
     cases ha2:decide (t=[])
     ·simp only [go_sem,reduceIte,↓reduceIte,sevalprocAttr,Z0,Z1,bytesOf,ha2,Bool.false_and]
      exact ⟨_,rfl⟩
     ·simp only [go_sem,reduceIte,↓reduceIte,sevalprocAttr,Z0,Z1,bytesOf,ha2,Bool.true_and]
      cases ha1:decide ((0:Int)≤p)
      ·simp only [go_sem,reduceIte,↓reduceIte,sevalprocAttr,Z0,Z1,bytesOf,ha1,Bool.false_and]
       exact ⟨_,rfl⟩
      ·simp only [go_sem,reduceIte,↓reduceIte,sevalprocAttr,Z0,Z1,bytesOf,ha1,Bool.true_and]
       simp only [go_sem,reduceIte,↓reduceIte,sevalprocAttr,Z0,Z1,bytesOf,ExpD.cellsL_len,ExpD.cellsA_len,dN0,dN1,dN2,dE1,dE2,dE3,dPos]
       intros
       exact ⟨_,rfl⟩
 by_cases h6:k=6
 ·have e:expHead k n u t p ks.length as'.length=((decide (0≤p) && (decide (k=13) == decide (0<as'.length))) && (decide (ks.length≤1) && (isNameD true n && (decide (u=0) && decide (t=[]))))):=by unfold expHead; rw [if_neg h1,if_neg h2,if_neg h3,if_neg h4,if_neg h5,if_pos h6]
  rw [e,swap5]
  subst h6
  have d13:decide ((6:Int)=13)=false:=by decide
  simp only [go_sem,reduceIte,↓reduceIte,sevalprocAttr,Z0,Z1,bytesOf,mc99,mr99,ExpD.cells,d13]
  refine drw_same ?_
  simp only [go_sem,reduceIte,↓reduceIte,sevalprocAttr,Z0,Z1,bytesOf,ExpD.cellsL_len,ExpD.cellsA_len,dN0,dN1,dN2,dE1,dE2,dE3]
  refine drw_same ?_
  simp only [go_sem,reduceIte,↓reduceIte,sevalprocAttr,Z0,Z1,bytesOf,ExpD.cellsL_len,ExpD.cellsA_len,dN0,dN1,dN2,dE1,dE2,dE3]
  refine pcall_pure (fun A=>upOkC n _) (Hext.refl _) ?_
  simp only [go_sem,reduceIte,↓reduceIte,sevalprocAttr,Z0,Z1,bytesOf]
  cases ha5:decide (ks.length≤1)
  ·simp only [go_sem,reduceIte,↓reduceIte,sevalprocAttr,Z0,Z1,bytesOf,ha5,Bool.false_and]
   exact ⟨_,rfl⟩
  ·simp only [go_sem,reduceIte,↓reduceIte,sevalprocAttr,Z0,Z1,bytesOf,ha5,Bool.true_and]
   cases ha4:isNameD true n
   ·simp only [go_sem,reduceIte,↓reduceIte,sevalprocAttr,Z0,Z1,bytesOf,ha4,Bool.false_and]
    exact ⟨_,rfl⟩
   ·simp only [go_sem,reduceIte,↓reduceIte,sevalprocAttr,Z0,Z1,bytesOf,ha4,Bool.true_and]
    cases ha3:decide (u=0)
    ·simp only [go_sem,reduceIte,↓reduceIte,sevalprocAttr,Z0,Z1,bytesOf,ha3,Bool.false_and]
     exact ⟨_,rfl⟩
    ·simp only [go_sem,reduceIte,↓reduceIte,sevalprocAttr,Z0,Z1,bytesOf,ha3,Bool.true_and]
     cases ha2:decide (t=[])
     ·simp only [go_sem,reduceIte,↓reduceIte,sevalprocAttr,Z0,Z1,bytesOf,ha2,Bool.false_and]
      exact ⟨_,rfl⟩
     ·simp only [go_sem,reduceIte,↓reduceIte,sevalprocAttr,Z0,Z1,bytesOf,ha2,Bool.true_and]
      cases ha1:decide ((0:Int)≤p)
      ·simp only [go_sem,reduceIte,↓reduceIte,sevalprocAttr,Z0,Z1,bytesOf,ha1,Bool.false_and]
       exact ⟨_,rfl⟩
      ·simp only [go_sem,reduceIte,↓reduceIte,sevalprocAttr,Z0,Z1,bytesOf,ha1,Bool.true_and]
       simp only [go_sem,reduceIte,↓reduceIte,sevalprocAttr,Z0,Z1,bytesOf,ExpD.cellsL_len,ExpD.cellsA_len,dN0,dN1,dN2,dE1,dE2,dE3,dPos]
       intros
       exact ⟨_,rfl⟩
 by_cases h7:k=7
 ·have e:expHead k n u t p ks.length as'.length=((decide (0≤p) && (decide (k=13) == decide (0<as'.length))) && (decide (2≤ks.length) && (decide (n=[]) && (decide (u=0) && decide (t=[]))))):=by unfold expHead; rw [if_neg h1,if_neg h2,if_neg h3,if_neg h4,if_neg h5,if_neg h6,if_pos h7]
  rw [e,swap5]
  subst h7
  have d13:decide ((7:Int)=13)=false:=by decide
  simp only [go_sem,reduceIte,↓reduceIte,sevalprocAttr,Z0,Z1,bytesOf,mc99,mr99,ExpD.cells,d13]
  refine drw_same ?_
  simp only [go_sem,reduceIte,↓reduceIte,sevalprocAttr,Z0,Z1,bytesOf,ExpD.cellsL_len,ExpD.cellsA_len,dN0,dN1,dN2,dE1,dE2,dE3]
  intros
  cases ha5:decide (2≤ks.length)
  ·simp only [go_sem,reduceIte,↓reduceIte,sevalprocAttr,Z0,Z1,bytesOf,ha5,Bool.false_and]
   exact ⟨_,rfl⟩
  ·simp only [go_sem,reduceIte,↓reduceIte,sevalprocAttr,Z0,Z1,bytesOf,ha5,Bool.true_and]
   cases ha4:decide (n=[])
   ·simp only [go_sem,reduceIte,↓reduceIte,sevalprocAttr,Z0,Z1,bytesOf,ha4,Bool.false_and]
    exact ⟨_,rfl⟩
   ·simp only [go_sem,reduceIte,↓reduceIte,sevalprocAttr,Z0,Z1,bytesOf,ha4,Bool.true_and]
    cases ha3:decide (u=0)
    ·simp only [go_sem,reduceIte,↓reduceIte,sevalprocAttr,Z0,Z1,bytesOf,ha3,Bool.false_and]
     exact ⟨_,rfl⟩
    ·simp only [go_sem,reduceIte,↓reduceIte,sevalprocAttr,Z0,Z1,bytesOf,ha3,Bool.true_and]
     cases ha2:decide (t=[])
     ·simp only [go_sem,reduceIte,↓reduceIte,sevalprocAttr,Z0,Z1,bytesOf,ha2,Bool.false_and]
      exact ⟨_,rfl⟩
     ·simp only [go_sem,reduceIte,↓reduceIte,sevalprocAttr,Z0,Z1,bytesOf,ha2,Bool.true_and]
      cases ha1:decide ((0:Int)≤p)
      ·simp only [go_sem,reduceIte,↓reduceIte,sevalprocAttr,Z0,Z1,bytesOf,ha1,Bool.false_and]
       exact ⟨_,rfl⟩
      ·simp only [go_sem,reduceIte,↓reduceIte,sevalprocAttr,Z0,Z1,bytesOf,ha1,Bool.true_and]
       simp only [go_sem,reduceIte,↓reduceIte,sevalprocAttr,Z0,Z1,bytesOf,ExpD.cellsL_len,ExpD.cellsA_len,dN0,dN1,dN2,dE1,dE2,dE3,dPos]
       intros
       exact ⟨_,rfl⟩
 by_cases h8:k=8
 ·have e:expHead k n u t p ks.length as'.length=((decide (0≤p) && (decide (k=13) == decide (0<as'.length))) && (decide (ks.length=1) && (lowD n && (decide (u=0) && decide (t=[]))))):=by unfold expHead; rw [if_neg h1,if_neg h2,if_neg h3,if_neg h4,if_neg h5,if_neg h6,if_neg h7,if_pos h8]
  rw [e,swap5]
  subst h8
  have d13:decide ((8:Int)=13)=false:=by decide
  simp only [go_sem,reduceIte,↓reduceIte,sevalprocAttr,Z0,Z1,bytesOf,mc99,mr99,ExpD.cells,d13]
  refine drw_same ?_
  simp only [go_sem,reduceIte,↓reduceIte,sevalprocAttr,Z0,Z1,bytesOf,ExpD.cellsL_len,ExpD.cellsA_len,dN0,dN1,dN2,dE1,dE2,dE3]
  refine drw_same ?_
  simp only [go_sem,reduceIte,↓reduceIte,sevalprocAttr,Z0,Z1,bytesOf,ExpD.cellsL_len,ExpD.cellsA_len,dN0,dN1,dN2,dE1,dE2,dE3]
  refine pcall_pure (fun A=>lowOkC n _) (Hext.refl _) ?_
  simp only [go_sem,reduceIte,↓reduceIte,sevalprocAttr,Z0,Z1,bytesOf]
  cases ha5:decide (ks.length=1)
  ·simp only [go_sem,reduceIte,↓reduceIte,sevalprocAttr,Z0,Z1,bytesOf,ha5,Bool.false_and]
   exact ⟨_,rfl⟩
  ·simp only [go_sem,reduceIte,↓reduceIte,sevalprocAttr,Z0,Z1,bytesOf,ha5,Bool.true_and]
   cases ha4:lowD n
   ·simp only [go_sem,reduceIte,↓reduceIte,sevalprocAttr,Z0,Z1,bytesOf,ha4,Bool.false_and]
    exact ⟨_,rfl⟩
   ·simp only [go_sem,reduceIte,↓reduceIte,sevalprocAttr,Z0,Z1,bytesOf,ha4,Bool.true_and]
    cases ha3:decide (u=0)
    ·simp only [go_sem,reduceIte,↓reduceIte,sevalprocAttr,Z0,Z1,bytesOf,ha3,Bool.false_and]
     exact ⟨_,rfl⟩
    ·simp only [go_sem,reduceIte,↓reduceIte,sevalprocAttr,Z0,Z1,bytesOf,ha3,Bool.true_and]
     cases ha2:decide (t=[])
     ·simp only [go_sem,reduceIte,↓reduceIte,sevalprocAttr,Z0,Z1,bytesOf,ha2,Bool.false_and]
      exact ⟨_,rfl⟩
     ·simp only [go_sem,reduceIte,↓reduceIte,sevalprocAttr,Z0,Z1,bytesOf,ha2,Bool.true_and]
      cases ha1:decide ((0:Int)≤p)
      ·simp only [go_sem,reduceIte,↓reduceIte,sevalprocAttr,Z0,Z1,bytesOf,ha1,Bool.false_and]
       exact ⟨_,rfl⟩
      ·simp only [go_sem,reduceIte,↓reduceIte,sevalprocAttr,Z0,Z1,bytesOf,ha1,Bool.true_and]
       simp only [go_sem,reduceIte,↓reduceIte,sevalprocAttr,Z0,Z1,bytesOf,ExpD.cellsL_len,ExpD.cellsA_len,dN0,dN1,dN2,dE1,dE2,dE3,dPos]
       intros
       exact ⟨_,rfl⟩
 by_cases h9:k=9
 ·have e:expHead k n u t p ks.length as'.length=((decide (0≤p) && (decide (k=13) == decide (0<as'.length))) && (decide (ks.length=2) && (decide (n=[]) && (decide (u=0) && decide (t=[]))))):=by unfold expHead; rw [if_neg h1,if_neg h2,if_neg h3,if_neg h4,if_neg h5,if_neg h6,if_neg h7,if_neg h8,if_pos h9]
  rw [e,swap5]
  subst h9
  have d13:decide ((9:Int)=13)=false:=by decide
  simp only [go_sem,reduceIte,↓reduceIte,sevalprocAttr,Z0,Z1,bytesOf,mc99,mr99,ExpD.cells,d13]
  refine drw_same ?_
  simp only [go_sem,reduceIte,↓reduceIte,sevalprocAttr,Z0,Z1,bytesOf,ExpD.cellsL_len,ExpD.cellsA_len,dN0,dN1,dN2,dE1,dE2,dE3]
  intros
  cases ha5:decide (ks.length=2)
  ·simp only [go_sem,reduceIte,↓reduceIte,sevalprocAttr,Z0,Z1,bytesOf,ha5,Bool.false_and]
   exact ⟨_,rfl⟩
  ·simp only [go_sem,reduceIte,↓reduceIte,sevalprocAttr,Z0,Z1,bytesOf,ha5,Bool.true_and]
   cases ha4:decide (n=[])
   ·simp only [go_sem,reduceIte,↓reduceIte,sevalprocAttr,Z0,Z1,bytesOf,ha4,Bool.false_and]
    exact ⟨_,rfl⟩
   ·simp only [go_sem,reduceIte,↓reduceIte,sevalprocAttr,Z0,Z1,bytesOf,ha4,Bool.true_and]
    cases ha3:decide (u=0)
    ·simp only [go_sem,reduceIte,↓reduceIte,sevalprocAttr,Z0,Z1,bytesOf,ha3,Bool.false_and]
     exact ⟨_,rfl⟩
    ·simp only [go_sem,reduceIte,↓reduceIte,sevalprocAttr,Z0,Z1,bytesOf,ha3,Bool.true_and]
     cases ha2:decide (t=[])
     ·simp only [go_sem,reduceIte,↓reduceIte,sevalprocAttr,Z0,Z1,bytesOf,ha2,Bool.false_and]
      exact ⟨_,rfl⟩
     ·simp only [go_sem,reduceIte,↓reduceIte,sevalprocAttr,Z0,Z1,bytesOf,ha2,Bool.true_and]
      cases ha1:decide ((0:Int)≤p)
      ·simp only [go_sem,reduceIte,↓reduceIte,sevalprocAttr,Z0,Z1,bytesOf,ha1,Bool.false_and]
       exact ⟨_,rfl⟩
      ·simp only [go_sem,reduceIte,↓reduceIte,sevalprocAttr,Z0,Z1,bytesOf,ha1,Bool.true_and]
       simp only [go_sem,reduceIte,↓reduceIte,sevalprocAttr,Z0,Z1,bytesOf,ExpD.cellsL_len,ExpD.cellsA_len,dN0,dN1,dN2,dE1,dE2,dE3,dPos]
       intros
       exact ⟨_,rfl⟩
 by_cases h10:k=10
 ·have e:expHead k n u t p ks.length as'.length=((decide (0≤p) && (decide (k=13) == decide (0<as'.length))) && (decide (ks.length=2) && (lowD n && (decide (u=0) && decide (t=[]))))):=by unfold expHead; rw [if_neg h1,if_neg h2,if_neg h3,if_neg h4,if_neg h5,if_neg h6,if_neg h7,if_neg h8,if_neg h9,if_pos h10]
  rw [e,swap5]
  subst h10
  have d13:decide ((10:Int)=13)=false:=by decide
  simp only [go_sem,reduceIte,↓reduceIte,sevalprocAttr,Z0,Z1,bytesOf,mc99,mr99,ExpD.cells,d13]
  refine drw_same ?_
  simp only [go_sem,reduceIte,↓reduceIte,sevalprocAttr,Z0,Z1,bytesOf,ExpD.cellsL_len,ExpD.cellsA_len,dN0,dN1,dN2,dE1,dE2,dE3]
  refine drw_same ?_
  simp only [go_sem,reduceIte,↓reduceIte,sevalprocAttr,Z0,Z1,bytesOf,ExpD.cellsL_len,ExpD.cellsA_len,dN0,dN1,dN2,dE1,dE2,dE3]
  refine pcall_pure (fun A=>lowOkC n _) (Hext.refl _) ?_
  simp only [go_sem,reduceIte,↓reduceIte,sevalprocAttr,Z0,Z1,bytesOf]
  cases ha5:decide (ks.length=2)
  ·simp only [go_sem,reduceIte,↓reduceIte,sevalprocAttr,Z0,Z1,bytesOf,ha5,Bool.false_and]
   exact ⟨_,rfl⟩
  ·simp only [go_sem,reduceIte,↓reduceIte,sevalprocAttr,Z0,Z1,bytesOf,ha5,Bool.true_and]
   cases ha4:lowD n
   ·simp only [go_sem,reduceIte,↓reduceIte,sevalprocAttr,Z0,Z1,bytesOf,ha4,Bool.false_and]
    exact ⟨_,rfl⟩
   ·simp only [go_sem,reduceIte,↓reduceIte,sevalprocAttr,Z0,Z1,bytesOf,ha4,Bool.true_and]
    cases ha3:decide (u=0)
    ·simp only [go_sem,reduceIte,↓reduceIte,sevalprocAttr,Z0,Z1,bytesOf,ha3,Bool.false_and]
     exact ⟨_,rfl⟩
    ·simp only [go_sem,reduceIte,↓reduceIte,sevalprocAttr,Z0,Z1,bytesOf,ha3,Bool.true_and]
     cases ha2:decide (t=[])
     ·simp only [go_sem,reduceIte,↓reduceIte,sevalprocAttr,Z0,Z1,bytesOf,ha2,Bool.false_and]
      exact ⟨_,rfl⟩
     ·simp only [go_sem,reduceIte,↓reduceIte,sevalprocAttr,Z0,Z1,bytesOf,ha2,Bool.true_and]
      cases ha1:decide ((0:Int)≤p)
      ·simp only [go_sem,reduceIte,↓reduceIte,sevalprocAttr,Z0,Z1,bytesOf,ha1,Bool.false_and]
       exact ⟨_,rfl⟩
      ·simp only [go_sem,reduceIte,↓reduceIte,sevalprocAttr,Z0,Z1,bytesOf,ha1,Bool.true_and]
       simp only [go_sem,reduceIte,↓reduceIte,sevalprocAttr,Z0,Z1,bytesOf,ExpD.cellsL_len,ExpD.cellsA_len,dN0,dN1,dN2,dE1,dE2,dE3,dPos]
       intros
       exact ⟨_,rfl⟩
 by_cases h11:k=11
 ·have e:expHead k n u t p ks.length as'.length=((decide (0≤p) && (decide (k=13) == decide (0<as'.length))) && (decide (ks.length=2) && (lowD n && (decide (u=0) && lowD t)))):=by unfold expHead; rw [if_neg h1,if_neg h2,if_neg h3,if_neg h4,if_neg h5,if_neg h6,if_neg h7,if_neg h8,if_neg h9,if_neg h10,if_pos h11]
  rw [e,swap5]
  subst h11
  have d13:decide ((11:Int)=13)=false:=by decide
  simp only [go_sem,reduceIte,↓reduceIte,sevalprocAttr,Z0,Z1,bytesOf,mc99,mr99,ExpD.cells,d13]
  refine drw_same ?_
  simp only [go_sem,reduceIte,↓reduceIte,sevalprocAttr,Z0,Z1,bytesOf,ExpD.cellsL_len,ExpD.cellsA_len,dN0,dN1,dN2,dE1,dE2,dE3]
  refine drw_same ?_
  simp only [go_sem,reduceIte,↓reduceIte,sevalprocAttr,Z0,Z1,bytesOf,ExpD.cellsL_len,ExpD.cellsA_len,dN0,dN1,dN2,dE1,dE2,dE3]
  refine pcall_pure (fun A=>lowOkC n _) (Hext.refl _) ?_
  simp only [go_sem,reduceIte,↓reduceIte,sevalprocAttr,Z0,Z1,bytesOf]
  refine pcall_pure (fun A=>lowOkC t _) (Hext.refl _) ?_
  simp only [go_sem,reduceIte,↓reduceIte,sevalprocAttr,Z0,Z1,bytesOf]
  cases ha5:decide (ks.length=2)
  ·simp only [go_sem,reduceIte,↓reduceIte,sevalprocAttr,Z0,Z1,bytesOf,ha5,Bool.false_and]
   exact ⟨_,rfl⟩
  ·simp only [go_sem,reduceIte,↓reduceIte,sevalprocAttr,Z0,Z1,bytesOf,ha5,Bool.true_and]
   cases ha4:lowD n
   ·simp only [go_sem,reduceIte,↓reduceIte,sevalprocAttr,Z0,Z1,bytesOf,ha4,Bool.false_and]
    exact ⟨_,rfl⟩
   ·simp only [go_sem,reduceIte,↓reduceIte,sevalprocAttr,Z0,Z1,bytesOf,ha4,Bool.true_and]
    cases ha3:decide (u=0)
    ·simp only [go_sem,reduceIte,↓reduceIte,sevalprocAttr,Z0,Z1,bytesOf,ha3,Bool.false_and]
     exact ⟨_,rfl⟩
    ·simp only [go_sem,reduceIte,↓reduceIte,sevalprocAttr,Z0,Z1,bytesOf,ha3,Bool.true_and]
     cases ha2:lowD t
     ·simp only [go_sem,reduceIte,↓reduceIte,sevalprocAttr,Z0,Z1,bytesOf,ha2,Bool.false_and]
      exact ⟨_,rfl⟩
     ·simp only [go_sem,reduceIte,↓reduceIte,sevalprocAttr,Z0,Z1,bytesOf,ha2,Bool.true_and]
      cases ha1:decide ((0:Int)≤p)
      ·simp only [go_sem,reduceIte,↓reduceIte,sevalprocAttr,Z0,Z1,bytesOf,ha1,Bool.false_and]
       exact ⟨_,rfl⟩
      ·simp only [go_sem,reduceIte,↓reduceIte,sevalprocAttr,Z0,Z1,bytesOf,ha1,Bool.true_and]
       simp only [go_sem,reduceIte,↓reduceIte,sevalprocAttr,Z0,Z1,bytesOf,ExpD.cellsL_len,ExpD.cellsA_len,dN0,dN1,dN2,dE1,dE2,dE3,dPos]
       intros
       exact ⟨_,rfl⟩
 by_cases h12:k=12
 ·have e:expHead k n u t p ks.length as'.length=((decide (0≤p) && (decide (k=13) == decide (0<as'.length))) && (decide (ks.length=3) && (decide (n=[]) && (decide (u=0) && decide (t=[]))))):=by unfold expHead; rw [if_neg h1,if_neg h2,if_neg h3,if_neg h4,if_neg h5,if_neg h6,if_neg h7,if_neg h8,if_neg h9,if_neg h10,if_neg h11,if_pos h12]
  rw [e,swap5]
  subst h12
  have d13:decide ((12:Int)=13)=false:=by decide
  simp only [go_sem,reduceIte,↓reduceIte,sevalprocAttr,Z0,Z1,bytesOf,mc99,mr99,ExpD.cells,d13]
  refine drw_same ?_
  simp only [go_sem,reduceIte,↓reduceIte,sevalprocAttr,Z0,Z1,bytesOf,ExpD.cellsL_len,ExpD.cellsA_len,dN0,dN1,dN2,dE1,dE2,dE3]
  intros
  cases ha5:decide (ks.length=3)
  ·simp only [go_sem,reduceIte,↓reduceIte,sevalprocAttr,Z0,Z1,bytesOf,ha5,Bool.false_and]
   exact ⟨_,rfl⟩
  ·simp only [go_sem,reduceIte,↓reduceIte,sevalprocAttr,Z0,Z1,bytesOf,ha5,Bool.true_and]
   cases ha4:decide (n=[])
   ·simp only [go_sem,reduceIte,↓reduceIte,sevalprocAttr,Z0,Z1,bytesOf,ha4,Bool.false_and]
    exact ⟨_,rfl⟩
   ·simp only [go_sem,reduceIte,↓reduceIte,sevalprocAttr,Z0,Z1,bytesOf,ha4,Bool.true_and]
    cases ha3:decide (u=0)
    ·simp only [go_sem,reduceIte,↓reduceIte,sevalprocAttr,Z0,Z1,bytesOf,ha3,Bool.false_and]
     exact ⟨_,rfl⟩
    ·simp only [go_sem,reduceIte,↓reduceIte,sevalprocAttr,Z0,Z1,bytesOf,ha3,Bool.true_and]
     cases ha2:decide (t=[])
     ·simp only [go_sem,reduceIte,↓reduceIte,sevalprocAttr,Z0,Z1,bytesOf,ha2,Bool.false_and]
      exact ⟨_,rfl⟩
     ·simp only [go_sem,reduceIte,↓reduceIte,sevalprocAttr,Z0,Z1,bytesOf,ha2,Bool.true_and]
      cases ha1:decide ((0:Int)≤p)
      ·simp only [go_sem,reduceIte,↓reduceIte,sevalprocAttr,Z0,Z1,bytesOf,ha1,Bool.false_and]
       exact ⟨_,rfl⟩
      ·simp only [go_sem,reduceIte,↓reduceIte,sevalprocAttr,Z0,Z1,bytesOf,ha1,Bool.true_and]
       simp only [go_sem,reduceIte,↓reduceIte,sevalprocAttr,Z0,Z1,bytesOf,ExpD.cellsL_len,ExpD.cellsA_len,dN0,dN1,dN2,dE1,dE2,dE3,dPos]
       intros
       exact ⟨_,rfl⟩
 by_cases h13:k=13
 ·have e:expHead k n u t p ks.length as'.length=((decide (0≤p) && (decide (k=13) == decide (0<as'.length))) && (decide (ks.length=1) && (decide (n=[]) && (decide (u=0) && decide (t=[]))))):=by unfold expHead; rw [if_neg h1,if_neg h2,if_neg h3,if_neg h4,if_neg h5,if_neg h6,if_neg h7,if_neg h8,if_neg h9,if_neg h10,if_neg h11,if_neg h12,if_pos h13]
  rw [e,swap5]
  subst h13
  have d13:decide ((13:Int)=13)=true:=by decide
  simp only [go_sem,reduceIte,↓reduceIte,sevalprocAttr,Z0,Z1,bytesOf,mc99,mr99,ExpD.cells,d13]
  refine drw_same ?_
  simp only [go_sem,reduceIte,↓reduceIte,sevalprocAttr,Z0,Z1,bytesOf,ExpD.cellsL_len,ExpD.cellsA_len,dN0,dN1,dN2,dE1,dE2,dE3]
  intros
  cases ha5:decide (ks.length=1)
  ·simp only [go_sem,reduceIte,↓reduceIte,sevalprocAttr,Z0,Z1,bytesOf,ha5,Bool.false_and]
   exact ⟨_,rfl⟩
  ·simp only [go_sem,reduceIte,↓reduceIte,sevalprocAttr,Z0,Z1,bytesOf,ha5,Bool.true_and]
   cases ha4:decide (n=[])
   ·simp only [go_sem,reduceIte,↓reduceIte,sevalprocAttr,Z0,Z1,bytesOf,ha4,Bool.false_and]
    exact ⟨_,rfl⟩
   ·simp only [go_sem,reduceIte,↓reduceIte,sevalprocAttr,Z0,Z1,bytesOf,ha4,Bool.true_and]
    cases ha3:decide (u=0)
    ·simp only [go_sem,reduceIte,↓reduceIte,sevalprocAttr,Z0,Z1,bytesOf,ha3,Bool.false_and]
     exact ⟨_,rfl⟩
    ·simp only [go_sem,reduceIte,↓reduceIte,sevalprocAttr,Z0,Z1,bytesOf,ha3,Bool.true_and]
     cases ha2:decide (t=[])
     ·simp only [go_sem,reduceIte,↓reduceIte,sevalprocAttr,Z0,Z1,bytesOf,ha2,Bool.false_and]
      exact ⟨_,rfl⟩
     ·simp only [go_sem,reduceIte,↓reduceIte,sevalprocAttr,Z0,Z1,bytesOf,ha2,Bool.true_and]
      cases ha1:decide ((0:Int)≤p)
      ·simp only [go_sem,reduceIte,↓reduceIte,sevalprocAttr,Z0,Z1,bytesOf,ha1,Bool.false_and]
       exact ⟨_,rfl⟩
      ·simp only [go_sem,reduceIte,↓reduceIte,sevalprocAttr,Z0,Z1,bytesOf,ha1,Bool.true_and]
       simp only [go_sem,reduceIte,↓reduceIte,sevalprocAttr,Z0,Z1,bytesOf,ExpD.cellsL_len,ExpD.cellsA_len,dN0,dN1,dN2,dE1,dE2,dE3,dPos]
       intros
       exact ⟨_,rfl⟩
 by_cases h14:k=14
 ·have e:expHead k n u t p ks.length as'.length=((decide (0≤p) && (decide (k=13) == decide (0<as'.length))) && (decide (ks.length=2) && (decide (n∈opL) && (decide (u=0) && decide (t=[]))))):=by unfold expHead; rw [if_neg h1,if_neg h2,if_neg h3,if_neg h4,if_neg h5,if_neg h6,if_neg h7,if_neg h8,if_neg h9,if_neg h10,if_neg h11,if_neg h12,if_neg h13,if_pos h14]
  rw [e,swap5]
  subst h14
  have d13:decide ((14:Int)=13)=false:=by decide
  simp only [go_sem,reduceIte,↓reduceIte,sevalprocAttr,Z0,Z1,bytesOf,mc99,mr99,ExpD.cells,d13]
  refine drw_same ?_
  simp only [go_sem,reduceIte,↓reduceIte,sevalprocAttr,Z0,Z1,bytesOf,ExpD.cellsL_len,ExpD.cellsA_len,dN0,dN1,dN2,dE1,dE2,dE3]
  refine drw_same ?_
  simp only [go_sem,reduceIte,↓reduceIte,sevalprocAttr,Z0,Z1,bytesOf,ExpD.cellsL_len,ExpD.cellsA_len,dN0,dN1,dN2,dE1,dE2,dE3]
  refine pcall_pure (fun A=>opC n _) (Hext.refl _) ?_
  simp only [go_sem,reduceIte,↓reduceIte,sevalprocAttr,Z0,Z1,bytesOf]
  cases ha5:decide (ks.length=2)
  ·simp only [go_sem,reduceIte,↓reduceIte,sevalprocAttr,Z0,Z1,bytesOf,ha5,Bool.false_and]
   exact ⟨_,rfl⟩
  ·simp only [go_sem,reduceIte,↓reduceIte,sevalprocAttr,Z0,Z1,bytesOf,ha5,Bool.true_and]
   cases ha4:decide (n∈opL)
   ·simp only [go_sem,reduceIte,↓reduceIte,sevalprocAttr,Z0,Z1,bytesOf,ha4,Bool.false_and]
    exact ⟨_,rfl⟩
   ·simp only [go_sem,reduceIte,↓reduceIte,sevalprocAttr,Z0,Z1,bytesOf,ha4,Bool.true_and]
    cases ha3:decide (u=0)
    ·simp only [go_sem,reduceIte,↓reduceIte,sevalprocAttr,Z0,Z1,bytesOf,ha3,Bool.false_and]
     exact ⟨_,rfl⟩
    ·simp only [go_sem,reduceIte,↓reduceIte,sevalprocAttr,Z0,Z1,bytesOf,ha3,Bool.true_and]
     cases ha2:decide (t=[])
     ·simp only [go_sem,reduceIte,↓reduceIte,sevalprocAttr,Z0,Z1,bytesOf,ha2,Bool.false_and]
      exact ⟨_,rfl⟩
     ·simp only [go_sem,reduceIte,↓reduceIte,sevalprocAttr,Z0,Z1,bytesOf,ha2,Bool.true_and]
      cases ha1:decide ((0:Int)≤p)
      ·simp only [go_sem,reduceIte,↓reduceIte,sevalprocAttr,Z0,Z1,bytesOf,ha1,Bool.false_and]
       exact ⟨_,rfl⟩
      ·simp only [go_sem,reduceIte,↓reduceIte,sevalprocAttr,Z0,Z1,bytesOf,ha1,Bool.true_and]
       simp only [go_sem,reduceIte,↓reduceIte,sevalprocAttr,Z0,Z1,bytesOf,ExpD.cellsL_len,ExpD.cellsA_len,dN0,dN1,dN2,dE1,dE2,dE3,dPos]
       intros
       exact ⟨_,rfl⟩
 by_cases h15:k=15
 ·have e:expHead k n u t p ks.length as'.length=((decide (0≤p) && (decide (k=13) == decide (0<as'.length))) && (decide ((ks.length:Int)=arity n) && (decide (u=0) && decide (t=[])))):=by unfold expHead; rw [if_neg h1,if_neg h2,if_neg h3,if_neg h4,if_neg h5,if_neg h6,if_neg h7,if_neg h8,if_neg h9,if_neg h10,if_neg h11,if_neg h12,if_neg h13,if_neg h14,if_pos h15]
  rw [e,swap5']
  subst h15
  have d13:decide ((15:Int)=13)=false:=by decide
  simp only [go_sem,reduceIte,↓reduceIte,sevalprocAttr,Z0,Z1,bytesOf,mc99,mr99,ExpD.cells,d13]
  refine drw_same ?_
  simp only [go_sem,reduceIte,↓reduceIte,sevalprocAttr,Z0,Z1,bytesOf,ExpD.cellsL_len,ExpD.cellsA_len,dN0,dN1,dN2,dE1,dE2,dE3]
  refine drw_same ?_
  simp only [go_sem,reduceIte,↓reduceIte,sevalprocAttr,Z0,Z1,bytesOf,ExpD.cellsL_len,ExpD.cellsA_len,dN0,dN1,dN2,dE1,dE2,dE3]
  refine pcall_pure (fun A=>arityC n _) (Hext.refl _) ?_
  simp only [go_sem,reduceIte,↓reduceIte,sevalprocAttr,Z0,Z1,bytesOf]
  cases ha4:decide ((ks.length:Int)=arity n)
  ·simp only [go_sem,reduceIte,↓reduceIte,sevalprocAttr,Z0,Z1,bytesOf,ha4,Bool.false_and]
   exact ⟨_,rfl⟩
  ·simp only [go_sem,reduceIte,↓reduceIte,sevalprocAttr,Z0,Z1,bytesOf,ha4,Bool.true_and]
   cases ha3:decide (u=0)
   ·simp only [go_sem,reduceIte,↓reduceIte,sevalprocAttr,Z0,Z1,bytesOf,ha3,Bool.false_and]
    exact ⟨_,rfl⟩
   ·simp only [go_sem,reduceIte,↓reduceIte,sevalprocAttr,Z0,Z1,bytesOf,ha3,Bool.true_and]
    cases ha2:decide (t=[])
    ·simp only [go_sem,reduceIte,↓reduceIte,sevalprocAttr,Z0,Z1,bytesOf,ha2,Bool.false_and]
     exact ⟨_,rfl⟩
    ·simp only [go_sem,reduceIte,↓reduceIte,sevalprocAttr,Z0,Z1,bytesOf,ha2,Bool.true_and]
     cases ha1:decide ((0:Int)≤p)
     ·simp only [go_sem,reduceIte,↓reduceIte,sevalprocAttr,Z0,Z1,bytesOf,ha1,Bool.false_and]
      exact ⟨_,rfl⟩
     ·simp only [go_sem,reduceIte,↓reduceIte,sevalprocAttr,Z0,Z1,bytesOf,ha1,Bool.true_and]
      simp only [go_sem,reduceIte,↓reduceIte,sevalprocAttr,Z0,Z1,bytesOf,ExpD.cellsL_len,ExpD.cellsA_len,dN0,dN1,dN2,dE1,dE2,dE3,dPos]
      intros
      exact ⟨_,rfl⟩
 ·have e:expHead k n u t p ks.length as'.length=false:=by unfold expHead; rw [if_neg h1,if_neg h2,if_neg h3,if_neg h4,if_neg h5,if_neg h6,if_neg h7,if_neg h8,if_neg h9,if_neg h10,if_neg h11,if_neg h12,if_neg h13,if_neg h14,if_neg h15,Bool.and_false]
  rw [e]
  have d1:decide (k=1)=false:=by simp [h1]
  have d2:decide (k=2)=false:=by simp [h2]
  have d3:decide (k=3)=false:=by simp [h3]
  have d4:decide (k=4)=false:=by simp [h4]
  have d5:decide (k=5)=false:=by simp [h5]
  have d6:decide (k=6)=false:=by simp [h6]
  have d7:decide (k=7)=false:=by simp [h7]
  have d8:decide (k=8)=false:=by simp [h8]
  have d9:decide (k=9)=false:=by simp [h9]
  have d10:decide (k=10)=false:=by simp [h10]
  have d11:decide (k=11)=false:=by simp [h11]
  have d12:decide (k=12)=false:=by simp [h12]
  have d13:decide (k=13)=false:=by simp [h13]
  have d14:decide (k=14)=false:=by simp [h14]
  have d15:decide (k=15)=false:=by simp [h15]
  simp only [go_sem,reduceIte,↓reduceIte,sevalprocAttr,Z0,Z1,bytesOf,mc99,mr99,ExpD.cells]
  refine drw_same ?_
  simp only [go_sem,reduceIte,↓reduceIte,sevalprocAttr,Z0,Z1,bytesOf,d1,d2,d3,d4,d5,d6,d7,d8,d9,d10,d11,d12,d13,d14,d15]
  exact ⟨_,rfl⟩
end Go.Proofs.YtnelfbcgplooiaaGreat.Pg
/- Expressions, programs that are right, as the program judges. -/
set_option linter.all false
namespace Go.Proofs.YtnelfbcgplooiaaGreat.Pg
open Go.AM Mc
theorem exp_Ok (k:Int) (n:List UInt8) (u:Int) (t:List UInt8) (p:Int) (ks:List ExpD) (as':List ArmD) (hk:∀ a∈ks,OkC 67 (av a.cells) a.ok) (ha:∀ q e,ArmD.mk q e∈as'→OkC 100 (av q.cells) q.ok∧OkC 67 (av e.cells) e.ok) :
  OkC 67 (av (ExpD.cells (.mk k n u t p ks as'))) (ExpD.ok (.mk k n u t p ks as')):=by
 intro H
 have hh:=head_Ok k n u t p ks as'
 rw [ExpD.ok,ExpD.okL_eq,ExpD.okA_eq]
 refine acall_drop1 ?_ (tf_p _)
 refine call67 (by simp) ?_
 simp only [go_sem,reduceIte,↓reduceIte,sevalprocAttr,Z0,Z1,bytesOf,mc67,mr67,ExpD.cells]
 refine acall_pure (hh _) ?_
 cases h1:expHead k n u t p ks.length as'.length
 ·simp only [go_sem,reduceIte,↓reduceIte,sevalprocAttr,Z0,Z1,bytesOf,h1,Bool.false_and]
  exact ⟨_,rfl⟩
 simp only [go_sem,reduceIte,↓reduceIte,sevalprocAttr,Z0,Z1,bytesOf,h1,Bool.true_and,ExpD.cellsL_len]
 intro hl
 rw [maxLe] at hl
 rw [ExpD.cellsL_eq]
 have hb0:(H++[AO.var [.p (.i .i64 k),.p (.s n),.p (.i .i64 u),.p (.s t),.p (.i .i64 p),.p (.l (ks.map ExpD.cells)),.p (.l (ExpD.cellsA as'))]])[H.length]?=some (.var [.p (.i .i64 k),.p (.s n),.p (.i .i64 u),.p (.s t),.p (.i .i64 p),.p (.l (ks.map ExpD.cells)),.p (.l (ExpD.cellsA as'))]):=by rw [get_off0]; rfl
 refine ⟨Nat × List AO,[1,11,12,13],fun x st=>(x.1≤ks.length∧(ks.take x.1).all ExpD.ok=true∧x.2[H.length]?=some (.var [.p (.i .i64 k),.p (.s n),.p (.i .i64 u),.p (.s t),.p (.i .i64 p),.p (.l (ks.map ExpD.cells)),.p (.l (ExpD.cellsA as'))])∧∃ G,x.2=H++G)∧st=⟨[(1,.ptr H.length 0),(11,.p (.l (ks.map ExpD.cells))),(12,.p (.i .i64 ks.length)),(13,.p (.i .i64 x.1))],[],x.2⟩,fun x=>ks.length - x.1,⟨(0,H++[AO.var [.p (.i .i64 k),.p (.s n),.p (.i .i64 u),.p (.s t),.p (.i .i64 p),.p (.l (ks.map ExpD.cells)),.p (.l (ExpD.cellsA as'))]]),?_⟩,?_⟩
 ·simp only [go_sem,reduceIte,↓reduceIte,sevalprocAttr,Z0,Z1,bytesOf,List.take_zero]
  exact ⟨Nat.zero_le _,rfl,_,rfl⟩
 ·rintro ⟨x,HG⟩ _ ⟨⟨hx,hn,hbG,G',hG'⟩,rfl⟩
  simp only at hx hn hbG hG'
  by_cases hlt:x<ks.length
  ·have d1:decide ((x:Int)<(ks.length:Int))=true:=by simp; omega
   have hlt':((x:Int)<(ks.length:Int)):=by omega
   have ex:=wrN x (by omega)
   have hg:(ks.map ExpD.cells)[x]?=some (ExpD.cells ks[x]):=by simp [hlt]
   have hok:(ks.take (x+1)).all ExpD.ok=ExpD.ok ks[x]:=by rw [all_takeA hlt,hn,Bool.true_and]
   have hnot:ExpD.ok ks[x]=false→ks.all ExpD.ok=false:=fun h=>all_notA hlt h
   have hcall:=hk ks[x] (List.getElem_mem hlt)
   generalize ks[x]=c at hg hok hnot hcall
   obtain ⟨ck,cn,cu,ct,cp,cks,cas⟩:=c
   simp only [go_sem,reduceIte,↓reduceIte,sevalprocAttr,Z0,Z1,bytesOf,d1,hlt',hg,ExpD.cells,zl8_0,zl8_1,zl8_2,zl8_3]
   refine acall_pure (hcall _) ?_
   cases h2:ExpD.ok (.mk ck cn cu ct cp cks cas)
   ·have ev:=hnot h2
    simp only [go_sem,reduceIte,↓reduceIte,sevalprocAttr,Z0,Z1,bytesOf,h2,ev,Bool.false_and]
    exact ⟨_,by rw [hG',List.append_assoc]⟩
   ·simp only [go_sem,reduceIte,↓reduceIte,sevalprocAttr,Z0,Z1,bytesOf,h2,ex]
    refine ⟨(x+1,HG++_),⟨⟨by simp only; omega,by simp only; rw [hok,h2],get_ext hbG _,_,by rw [hG',List.append_assoc]⟩,rfl⟩,by simp only; omega⟩
  ·have:x=ks.length:=by omega
   subst this
   have d1:decide ((ks.length:Int)<(ks.length:Int))=false:=by simp
   rw [List.take_length] at hn
   simp only [go_sem,reduceIte,↓reduceIte,sevalprocAttr,Z0,Z1,bytesOf,d1,hbG,ExpD.cellsA_len]
   intro hl2
   rw [maxLe] at hl2
   rw [hn,Bool.true_and]
   rw [ExpD.cellsA_eq] at hbG ⊢
   refine ⟨Nat × List AO,[22,23,24],fun x st=>(x.1≤as'.length∧(as'.take x.1).all ArmD.ok=true∧∃ G,x.2=H++G)∧st=⟨[(22,.p (.l (as'.map ArmD.cells))),(23,.p (.i .i64 as'.length)),(24,.p (.i .i64 x.1))],[],x.2⟩,fun x=>as'.length - x.1,⟨(0,HG),?_⟩,?_⟩
   ·simp only [go_sem,reduceIte,↓reduceIte,sevalprocAttr,Z0,Z1,bytesOf,List.take_zero]
    exact ⟨Nat.zero_le _,rfl,_,hG'⟩
   ·rintro ⟨y,HK⟩ _ ⟨⟨hy,hm,K',hK'⟩,rfl⟩
    simp only at hy hm hK'
    by_cases hlt:y<as'.length
    ·have d1:decide ((y:Int)<(as'.length:Int))=true:=by simp; omega
     have hlt':((y:Int)<(as'.length:Int)):=by omega
     have ex:=wrN y (by omega)
     have hg:(as'.map ArmD.cells)[y]?=some (ArmD.cells as'[y]):=by simp [hlt]
     have hok:(as'.take (y+1)).all ArmD.ok=ArmD.ok as'[y]:=by rw [all_takeA hlt,hm,Bool.true_and]
     have hnot:ArmD.ok as'[y]=false→as'.all ArmD.ok=false:=fun h=>all_notA hlt h
     have hmem:=List.getElem_mem hlt
     generalize as'[y]=c at hg hok hnot hmem
     obtain ⟨⟨pk,pn,pu,pp,pks⟩,⟨ck,cn,cu,ct,cp,cks,cas⟩⟩:=c
     obtain ⟨hc1,hc2⟩:=ha _ _ hmem
     simp only [go_sem,reduceIte,↓reduceIte,sevalprocAttr,Z0,Z1,bytesOf,d1,hlt',hg,ArmD.cells,PatD.cells,ExpD.cells,zl8_0,zl8_1,zl8_2,zl8_3]
     refine acall_pure (hc1 _) ?_
     cases h2:PatD.ok (.mk pk pn pu pp pks)
     ·have ev:=hnot (by rw [ArmD.ok,h2]; rfl)
      simp only [go_sem,reduceIte,↓reduceIte,sevalprocAttr,Z0,Z1,bytesOf,h2,ev]
      exact ⟨_,by rw [hK',List.append_assoc]⟩
     ·simp only [go_sem,reduceIte,↓reduceIte,sevalprocAttr,Z0,Z1,bytesOf,h2]
      refine acall_pure (hc2 _) ?_
      cases h3:ExpD.ok (.mk ck cn cu ct cp cks cas)
      ·have ev:=hnot (by rw [ArmD.ok,h2,h3]; rfl)
       simp only [go_sem,reduceIte,↓reduceIte,sevalprocAttr,Z0,Z1,bytesOf,h3,ev]
       exact ⟨_,by rw [hK',List.append_assoc]⟩
      ·simp only [go_sem,reduceIte,↓reduceIte,sevalprocAttr,Z0,Z1,bytesOf,h3,ex]
       refine ⟨(y+1,HK++_),⟨⟨by simp only; omega,by simp only; rw [hok,ArmD.ok,h2,h3]; rfl,_,by rw [hK',List.append_assoc]⟩,rfl⟩,by simp only; omega⟩
    ·have:y=as'.length:=by omega
     subst this
     have d1:decide ((as'.length:Int)<(as'.length:Int))=false:=by simp
     rw [List.take_length] at hm
     simp only [go_sem,reduceIte,↓reduceIte,sevalprocAttr,Z0,Z1,bytesOf,d1,hm]
     exact ⟨_,hK'⟩
theorem expOkA : ∀ (m : Nat) (t : ExpD), t.sz < m → OkC 67 (av t.cells) t.ok := by
  intro m
  induction m with
  | zero => intro t h; omega
  | succ m ih =>
    intro t h
    obtain ⟨k, n, u, x, p, ks, as'⟩ := t
    rw [ExpD.sz, ExpD.szL_eq, ExpD.szA_eq] at h
    refine exp_Ok k n u x p ks as' (fun a ha => ih a (by have := sumSz_mem ExpD.sz ha; omega)) (fun q e ha => ?_)
    have hm := sumSz_mem ArmD.sz ha
    rw [ArmD.sz] at hm
    exact ⟨patOkA _ q (Nat.lt_succ_self _), ih e (by omega)⟩
theorem progOkC (g:ProgD):OkC 29 (av g.cells) g.ok:=by
 intro H
 have he:=expOkA _ g.body (Nat.lt_succ_self _)
 obtain ⟨ts,⟨k,n,u,t,p,ks,as'⟩⟩:=g
 have hany:∀ H,ACall Tryz.prog 31 [.p (.l (ts.map DataD.cells)),.clo 68 []] H (pureQ (.p (.b (ts.any fun a=>!a.ok))) H):=fun H=>containsF_Data fun a _=>dataNot a H
 have hall:ts.all DataD.ok=!(ts.any fun a=>!a.ok):=by rw [any_not]
 refine acall_drop1 ?_ (tf_p _)
 refine call29 (by simp) ?_
 rw [ProgD.ok,hall]
 simp only [go_sem,reduceIte,↓reduceIte,sevalprocAttr,Z0,Z1,bytesOf,mc29,mr29,ProgD.cells,ExpD.cells]
 refine acall_pure (he _) ?_
 cases h1:ExpD.ok (.mk k n u t p ks as')
 ·simp only [go_sem,reduceIte,↓reduceIte,sevalprocAttr,Z0,Z1,bytesOf,h1,Bool.and_false]
  exact ⟨_,rfl⟩
 ·simp only [go_sem,reduceIte,↓reduceIte,sevalprocAttr,Z0,Z1,bytesOf,h1,Bool.and_true]
  refine acall_pure (hany _) ?_
  simp only [go_sem,reduceIte,↓reduceIte,sevalprocAttr,Z0,Z1,bytesOf]
  exact ⟨_,rfl⟩
end Go.Proofs.YtnelfbcgplooiaaGreat.Pg
/- Trees that are right, as the reference judges. -/
set_option linter.all false
namespace Go.Proofs.YtnelfbcgplooiaaGreat.Pg
open Go.AM Mc
def plainR (w n:List UInt8) (u:Int) (t:List UInt8) (p k:Int) (na:Nat):Bool :=
 decide (0≤p) && ((decide (110∈w) || decide (n=[])) && ((decide (117∈w) || decide (u=0)) && ((decide (116∈w) || decide (t=[])) && (decide (k=13) || decide (na=0)))))
theorem memTake {w:List UInt8} {c:UInt8} {x:Nat} (h:x<w.length):decide (c∈w.take (x+1))=(decide (c∈w.take x) || decide ((((w[x]).toNat:Nat):Int)=((c.toNat:Nat):Int))):=by
 have e:w.take (x+1)=w.take x++[w[x]]:=by rw [List.take_succ,List.getElem?_eq_getElem h]; rfl
 rw [e,← Bool.decide_or,decide_eq_decide,List.mem_append,List.mem_singleton]
 refine or_congr Iff.rfl ⟨fun h=>by rw [h],fun h=>?_⟩
 have:w[x].toNat=c.toNat:=by omega
 exact (UInt8.toNat_inj.1 this).symm
theorem dT {p:Prop} (h:p) (i:Decidable p):@decide p i=true:=decide_eq_true h
theorem dF {p:Prop} (h:¬ p) (i:Decidable p):@decide p i=false:=decide_eq_false h
theorem plainS (w:List UInt8) (k:Int) (n:List UInt8) (u:Int) (t:List UInt8) (p:Int) (ks:List ExpD) (as':List ArmD) (H:List AO) :
  ACall Tryz.prog 122 [av (ExpD.cells (.mk k n u t p ks as')),.p (.s w)] H (pureQ (.p (.b (plainR w n u t p k as'.length))) H):=by
 refine acall_drop1 ?_ (tf_p _)
 refine call122 (by simp) ?_
 simp only [go_sem,reduceIte,↓reduceIte,sevalprocAttr,Z0,Z1,bytesOf,mc122,mr122,ExpD.cells]
 have hb0:(H++[AO.var [.p (.i .i64 k),.p (.s n),.p (.i .i64 u),.p (.s t),.p (.i .i64 p),.p (.l (ExpD.cellsL ks)),.p (.l (ExpD.cellsA as'))]])[H.length]?=some (.var [.p (.i .i64 k),.p (.s n),.p (.i .i64 u),.p (.s t),.p (.i .i64 p),.p (.l (ExpD.cellsL ks)),.p (.l (ExpD.cellsA as'))]):=by rw [get_off0]; rfl
 refine ⟨Nat,[1,2,5,6,7,8],fun x st=>x≤w.length∧st=⟨[(1,.p (.s w)),(2,.ptr H.length 0),(5,.p (.b (decide (110∈w.take x)))),(6,.p (.b (decide (117∈w.take x)))),(7,.p (.b (decide (116∈w.take x)))),(8,.p (.i .i64 x))],[],H++[AO.var [.p (.i .i64 k),.p (.s n),.p (.i .i64 u),.p (.s t),.p (.i .i64 p),.p (.l (ExpD.cellsL ks)),.p (.l (ExpD.cellsA as'))]]⟩,fun x=>w.length - x,⟨0,?_⟩,?_⟩
 ·simp only [go_sem,reduceIte,↓reduceIte,sevalprocAttr,Z0,Z1,bytesOf,List.take_zero]
  exact ⟨Nat.zero_le _,rfl⟩
 ·rintro x _ ⟨hx,rfl⟩
  by_cases hlt:x<w.length
  ·have d1:decide ((x:Int)<(w.length:Int))=true:=by simp; omega
   have hg:w[x]?=some w[x]:=List.getElem?_eq_getElem hlt
   have m1:=memTake (c:=110) hlt
   have m2:=memTake (c:=117) hlt
   have m3:=memTake (c:=116) hlt
   have u1:(((110:UInt8).toNat:Nat):Int)=110:=rfl
   have u2:(((117:UInt8).toNat:Nat):Int)=117:=rfl
   have u3:(((116:UInt8).toNat:Nat):Int)=116:=rfl
   rw [u1] at m1; rw [u2] at m2; rw [u3] at m3
   have key:∀ Q:Prop,(w.length≤maxL→Q)→(w.length≤maxL→Q):=fun _ h=>h
   have fin:w.length≤maxL→∃ y:Nat,(y≤w.length∧(⟨[(1,.p (.s w)),(2,.ptr H.length 0),(5,.p (.b (decide (110∈w.take (x+1))))),(6,.p (.b (decide (117∈w.take (x+1))))),(7,.p (.b (decide (116∈w.take (x+1))))),(8,.p (.i .i64 (wr .i64 ((x:Int)+1))))],[],H++[AO.var [.p (.i .i64 k),.p (.s n),.p (.i .i64 u),.p (.s t),.p (.i .i64 p),.p (.l (ExpD.cellsL ks)),.p (.l (ExpD.cellsA as'))]]⟩:St)=⟨[(1,.p (.s w)),(2,.ptr H.length 0),(5,.p (.b (decide (110∈w.take y)))),(6,.p (.b (decide (117∈w.take y)))),(7,.p (.b (decide (116∈w.take y)))),(8,.p (.i .i64 y))],[],H++[AO.var [.p (.i .i64 k),.p (.s n),.p (.i .i64 u),.p (.s t),.p (.i .i64 p),.p (.l (ExpD.cellsL ks)),.p (.l (ExpD.cellsA as'))]]⟩)∧w.length - y<w.length - x:=fun hw=>by
    rw [maxLe] at hw
    exact ⟨x+1,⟨by omega,by rw [wrN x (by omega)]⟩,by omega⟩
   rw [m1,m2,m3] at fin
   generalize decide (110∈w.take x)=b1 at fin ⊢
   generalize decide (117∈w.take x)=b2 at fin ⊢
   generalize decide (116∈w.take x)=b3 at fin ⊢
   cases b1 <;> cases b2 <;> cases b3 <;> (simp only [Bool.false_or,Bool.true_or] at fin; simp only [go_sem,reduceIte,↓reduceIte,sevalprocAttr,Z0,Z1,bytesOf,d1,hg]; intro hw; first | exact fin hw | (intros; exact fin hw))
  ·have:x=w.length:=by omega
   subst this
   have d1:decide ((w.length:Int)<(w.length:Int))=false:=by simp
   unfold plainR
   rw [List.take_length]
   simp only [go_sem,reduceIte,↓reduceIte,sevalprocAttr,Z0,Z1,bytesOf,d1,hb0]
   intro _
   by_cases hp:0≤p
   ·skip
    by_cases ha0:(110:UInt8)∈w
    ·skip
     by_cases ha1:(117:UInt8)∈w
     ·skip
      by_cases ha2:(116:UInt8)∈w
      ·skip
       by_cases h9:k=13
       ·simp only [go_sem,reduceIte,↓reduceIte,sevalprocAttr,Z0,Z1,bytesOf,Bool.true_and,Bool.false_and,Bool.true_or,Bool.false_or,hb0,dT hp,dT ha0,dT ha1,dT ha2,dT h9,ExpD.cellsA_len,dN0]; (try (intro hq)); first | exact ⟨rfl,⟨_,rfl⟩⟩ | exact ⟨_,rfl⟩
       ·simp only [go_sem,reduceIte,↓reduceIte,sevalprocAttr,Z0,Z1,bytesOf,Bool.true_and,Bool.false_and,Bool.true_or,Bool.false_or,hb0,dT hp,dT ha0,dT ha1,dT ha2,dF h9,ExpD.cellsA_len,dN0]; (try (intro hq)); first | exact ⟨rfl,⟨_,rfl⟩⟩ | exact ⟨_,rfl⟩
      ·by_cases hb2:t=[]
       ·skip
        by_cases h9:k=13
        ·simp only [go_sem,reduceIte,↓reduceIte,sevalprocAttr,Z0,Z1,bytesOf,Bool.true_and,Bool.false_and,Bool.true_or,Bool.false_or,hb0,dT hp,dT ha0,dT ha1,dF ha2,dT hb2,dT h9,ExpD.cellsA_len,dN0]; (try (intro hq)); first | exact ⟨rfl,⟨_,rfl⟩⟩ | exact ⟨_,rfl⟩
        ·simp only [go_sem,reduceIte,↓reduceIte,sevalprocAttr,Z0,Z1,bytesOf,Bool.true_and,Bool.false_and,Bool.true_or,Bool.false_or,hb0,dT hp,dT ha0,dT ha1,dF ha2,dT hb2,dF h9,ExpD.cellsA_len,dN0]; (try (intro hq)); first | exact ⟨rfl,⟨_,rfl⟩⟩ | exact ⟨_,rfl⟩
       ·simp only [go_sem,reduceIte,↓reduceIte,sevalprocAttr,Z0,Z1,bytesOf,Bool.true_and,Bool.false_and,Bool.true_or,Bool.false_or,hb0,dT hp,dT ha0,dT ha1,dF ha2,dF hb2]; first | exact ⟨rfl,⟨_,rfl⟩⟩ | exact ⟨_,rfl⟩
     ·by_cases hb1:u=0
      ·skip
       by_cases ha2:(116:UInt8)∈w
       ·skip
        by_cases h9:k=13
        ·simp only [go_sem,reduceIte,↓reduceIte,sevalprocAttr,Z0,Z1,bytesOf,Bool.true_and,Bool.false_and,Bool.true_or,Bool.false_or,hb0,dT hp,dT ha0,dF ha1,dT hb1,dT ha2,dT h9,ExpD.cellsA_len,dN0]; (try (intro hq)); first | exact ⟨rfl,⟨_,rfl⟩⟩ | exact ⟨_,rfl⟩
        ·simp only [go_sem,reduceIte,↓reduceIte,sevalprocAttr,Z0,Z1,bytesOf,Bool.true_and,Bool.false_and,Bool.true_or,Bool.false_or,hb0,dT hp,dT ha0,dF ha1,dT hb1,dT ha2,dF h9,ExpD.cellsA_len,dN0]; (try (intro hq)); first | exact ⟨rfl,⟨_,rfl⟩⟩ | exact ⟨_,rfl⟩
       ·by_cases hb2:t=[]
        ·skip
         by_cases h9:k=13
         ·simp only [go_sem,reduceIte,↓reduceIte,sevalprocAttr,Z0,Z1,bytesOf,Bool.true_and,Bool.false_and,Bool.true_or,Bool.false_or,hb0,dT hp,dT ha0,dF ha1,dT hb1,dF ha2,dT hb2,dT h9,ExpD.cellsA_len,dN0]; (try (intro hq)); first | exact ⟨rfl,⟨_,rfl⟩⟩ | exact ⟨_,rfl⟩
         ·simp only [go_sem,reduceIte,↓reduceIte,sevalprocAttr,Z0,Z1,bytesOf,Bool.true_and,Bool.false_and,Bool.true_or,Bool.false_or,hb0,dT hp,dT ha0,dF ha1,dT hb1,dF ha2,dT hb2,dF h9,ExpD.cellsA_len,dN0]; (try (intro hq)); first | exact ⟨rfl,⟨_,rfl⟩⟩ | exact ⟨_,rfl⟩
        ·simp only [go_sem,reduceIte,↓reduceIte,sevalprocAttr,Z0,Z1,bytesOf,Bool.true_and,Bool.false_and,Bool.true_or,Bool.false_or,hb0,dT hp,dT ha0,dF ha1,dT hb1,dF ha2,dF hb2]; first | exact ⟨rfl,⟨_,rfl⟩⟩ | exact ⟨_,rfl⟩
      ·simp only [go_sem,reduceIte,↓reduceIte,sevalprocAttr,Z0,Z1,bytesOf,Bool.true_and,Bool.false_and,Bool.true_or,Bool.false_or,hb0,dT hp,dT ha0,dF ha1,dF hb1]; first | exact ⟨rfl,⟨_,rfl⟩⟩ | exact ⟨_,rfl⟩
    ·by_cases hb0:n=[]
     ·skip
      by_cases ha1:(117:UInt8)∈w
      ·skip
       by_cases ha2:(116:UInt8)∈w
       ·skip
        by_cases h9:k=13
        ·simp only [go_sem,reduceIte,↓reduceIte,sevalprocAttr,Z0,Z1,bytesOf,Bool.true_and,Bool.false_and,Bool.true_or,Bool.false_or,hb0,dT hp,dF ha0,dT hb0,dT ha1,dT ha2,dT h9,ExpD.cellsA_len,dN0]; (try (intro hq)); first | exact ⟨rfl,⟨_,rfl⟩⟩ | exact ⟨_,rfl⟩
        ·simp only [go_sem,reduceIte,↓reduceIte,sevalprocAttr,Z0,Z1,bytesOf,Bool.true_and,Bool.false_and,Bool.true_or,Bool.false_or,hb0,dT hp,dF ha0,dT hb0,dT ha1,dT ha2,dF h9,ExpD.cellsA_len,dN0]; (try (intro hq)); first | exact ⟨rfl,⟨_,rfl⟩⟩ | exact ⟨_,rfl⟩
       ·by_cases hb2:t=[]
        ·skip
         by_cases h9:k=13
         ·simp only [go_sem,reduceIte,↓reduceIte,sevalprocAttr,Z0,Z1,bytesOf,Bool.true_and,Bool.false_and,Bool.true_or,Bool.false_or,hb0,dT hp,dF ha0,dT hb0,dT ha1,dF ha2,dT hb2,dT h9,ExpD.cellsA_len,dN0]; (try (intro hq)); first | exact ⟨rfl,⟨_,rfl⟩⟩ | exact ⟨_,rfl⟩
         ·simp only [go_sem,reduceIte,↓reduceIte,sevalprocAttr,Z0,Z1,bytesOf,Bool.true_and,Bool.false_and,Bool.true_or,Bool.false_or,hb0,dT hp,dF ha0,dT hb0,dT ha1,dF ha2,dT hb2,dF h9,ExpD.cellsA_len,dN0]; (try (intro hq)); first | exact ⟨rfl,⟨_,rfl⟩⟩ | exact ⟨_,rfl⟩
        ·simp only [go_sem,reduceIte,↓reduceIte,sevalprocAttr,Z0,Z1,bytesOf,Bool.true_and,Bool.false_and,Bool.true_or,Bool.false_or,hb0,dT hp,dF ha0,dT hb0,dT ha1,dF ha2,dF hb2]; first | exact ⟨rfl,⟨_,rfl⟩⟩ | exact ⟨_,rfl⟩
      ·by_cases hb1:u=0
       ·skip
        by_cases ha2:(116:UInt8)∈w
        ·skip
         by_cases h9:k=13
         ·simp only [go_sem,reduceIte,↓reduceIte,sevalprocAttr,Z0,Z1,bytesOf,Bool.true_and,Bool.false_and,Bool.true_or,Bool.false_or,hb0,dT hp,dF ha0,dT hb0,dF ha1,dT hb1,dT ha2,dT h9,ExpD.cellsA_len,dN0]; (try (intro hq)); first | exact ⟨rfl,⟨_,rfl⟩⟩ | exact ⟨_,rfl⟩
         ·simp only [go_sem,reduceIte,↓reduceIte,sevalprocAttr,Z0,Z1,bytesOf,Bool.true_and,Bool.false_and,Bool.true_or,Bool.false_or,hb0,dT hp,dF ha0,dT hb0,dF ha1,dT hb1,dT ha2,dF h9,ExpD.cellsA_len,dN0]; (try (intro hq)); first | exact ⟨rfl,⟨_,rfl⟩⟩ | exact ⟨_,rfl⟩
        ·by_cases hb2:t=[]
         ·skip
          by_cases h9:k=13
          ·simp only [go_sem,reduceIte,↓reduceIte,sevalprocAttr,Z0,Z1,bytesOf,Bool.true_and,Bool.false_and,Bool.true_or,Bool.false_or,hb0,dT hp,dF ha0,dT hb0,dF ha1,dT hb1,dF ha2,dT hb2,dT h9,ExpD.cellsA_len,dN0]; (try (intro hq)); first | exact ⟨rfl,⟨_,rfl⟩⟩ | exact ⟨_,rfl⟩
          ·simp only [go_sem,reduceIte,↓reduceIte,sevalprocAttr,Z0,Z1,bytesOf,Bool.true_and,Bool.false_and,Bool.true_or,Bool.false_or,hb0,dT hp,dF ha0,dT hb0,dF ha1,dT hb1,dF ha2,dT hb2,dF h9,ExpD.cellsA_len,dN0]; (try (intro hq)); first | exact ⟨rfl,⟨_,rfl⟩⟩ | exact ⟨_,rfl⟩
         ·simp only [go_sem,reduceIte,↓reduceIte,sevalprocAttr,Z0,Z1,bytesOf,Bool.true_and,Bool.false_and,Bool.true_or,Bool.false_or,hb0,dT hp,dF ha0,dT hb0,dF ha1,dT hb1,dF ha2,dF hb2]; first | exact ⟨rfl,⟨_,rfl⟩⟩ | exact ⟨_,rfl⟩
       ·simp only [go_sem,reduceIte,↓reduceIte,sevalprocAttr,Z0,Z1,bytesOf,Bool.true_and,Bool.false_and,Bool.true_or,Bool.false_or,hb0,dT hp,dF ha0,dT hb0,dF ha1,dF hb1]; first | exact ⟨rfl,⟨_,rfl⟩⟩ | exact ⟨_,rfl⟩
     ·simp only [go_sem,reduceIte,↓reduceIte,sevalprocAttr,Z0,Z1,bytesOf,Bool.true_and,Bool.false_and,Bool.true_or,Bool.false_or,hb0,dT hp,dF ha0,dF hb0]; first | exact ⟨rfl,⟨_,rfl⟩⟩ | exact ⟨_,rfl⟩
   ·simp only [go_sem,reduceIte,↓reduceIte,sevalprocAttr,Z0,Z1,bytesOf,Bool.true_and,Bool.false_and,Bool.true_or,Bool.false_or,hb0,dF hp]; first | exact ⟨rfl,⟨_,rfl⟩⟩ | exact ⟨_,rfl⟩
end Go.Proofs.YtnelfbcgplooiaaGreat.Pg
/- Expressions that are right, as the reference judges. -/
set_option linter.all false
namespace Go.Proofs.YtnelfbcgplooiaaGreat.Pg
open Go.AM Mc
theorem dPosN (n:Nat):decide (0<n)=!decide (n=0):=by cases n <;> simp
theorem arityD (L:Nat) (n:List UInt8):decide ((L:Int)=arity n)=((decide (n=[114,101,97,100]) && decide (L=0)) || (decide (arity n=1) && decide (L=1))):=by
 unfold arity
 by_cases h1:n=[114,101,97,100]
 ·rw [if_pos h1,dT h1,dN0]
  have:decide ((0:Int)=1)=false:=by decide
  rw [this]
  simp
 ·rw [if_neg h1,dF h1,Bool.false_and,Bool.false_or]
  split
  ·rw [dE1]; simp
  ·have:decide ((-1:Int)=1)=false:=by decide
   rw [this,Bool.false_and,decide_eq_false_iff_not]
   omega
theorem node_Ok (k:Int) (n:List UInt8) (u:Int) (t:List UInt8) (p:Int) (ks:List ExpD) (as':List ArmD):OkC 97 (av (ExpD.cells (.mk k n u t p ks as'))) (expHead k n u t p ks.length as'.length):=by
 intro H
 refine acall_drop1 ?_ (tf_p _)
 refine call97 (by simp) ?_
 by_cases h1:k=1
 ·have e:expHead k n u t p ks.length as'.length=(plainR [117] n u t p k as'.length && (decide (0≤u) && decide (ks.length=0))):=by
   unfold expHead plainR
   rw [if_pos h1]
   subst h1
   have m110:decide (110∈([117]:List UInt8))=false:=by decide
   have m117:decide (117∈([117]:List UInt8))=true:=by decide
   have m116:decide (116∈([117]:List UInt8))=false:=by decide
   have m13:decide ((1:Int)=13)=false:=by decide
   simp only [m110,m117,m116,m13,dPosN]
   generalize decide (0≤p)=b0
   generalize decide (as'.length=0)=b1
   generalize decide (n=[])=b2
   generalize decide (t=[])=b3
   generalize decide (0≤u)=b4
   generalize decide (ks.length=0)=b5
   cases b0 <;> cases b1 <;> cases b2 <;> cases b3 <;> cases b4 <;> cases b5 <;> rfl
  rw [e]
  subst h1
  simp only [go_sem,reduceIte,↓reduceIte,sevalprocAttr,Z0,Z1,bytesOf,mc97,mr97,ExpD.cells,ExpD.cellsL_len,ExpD.cellsA_len,dN0,dN1,dN2,dE1,dE2,dE3,dPos]
  intros
  refine acall_pure (plainS [117] 1 n u t p ks as' _) ?_
  cases hr:plainR [117] n u t p 1 as'.length
  ·simp only [go_sem,reduceIte,↓reduceIte,sevalprocAttr,Z0,Z1,bytesOf,Bool.false_and]; exact ⟨_,rfl⟩
  simp only [go_sem,reduceIte,↓reduceIte,sevalprocAttr,Z0,Z1,bytesOf,Bool.true_and,ExpD.cellsL_len,ExpD.cellsA_len,dN0,dN1,dN2,dE1,dE2,dE3,dPos]
  cases ha0:decide (0≤u)
  ·simp only [go_sem,reduceIte,↓reduceIte,sevalprocAttr,Z0,Z1,bytesOf,ha0,Bool.false_and]; exact ⟨_,rfl⟩
  simp only [go_sem,reduceIte,↓reduceIte,sevalprocAttr,Z0,Z1,bytesOf,ha0,Bool.true_and,ExpD.cellsL_len,ExpD.cellsA_len,dN0,dN1,dN2,dE1,dE2,dE3,dPos]
  try (simp only [go_sem,reduceIte,↓reduceIte,sevalprocAttr,Z0,Z1,bytesOf,Bool.true_and,ExpD.cellsL_len,ExpD.cellsA_len,dN0,dN1,dN2,dE1,dE2,dE3,dPos])
  intros
  exact ⟨_,rfl⟩
 by_cases h2:k=2
 ·have e:expHead k n u t p ks.length as'.length=(plainR [116] n u t p k as'.length && (plainD t && decide (ks.length=0))):=by
   unfold expHead plainR
   rw [if_neg h1,if_pos h2]
   subst h2
   have m110:decide (110∈([116]:List UInt8))=false:=by decide
   have m117:decide (117∈([116]:List UInt8))=false:=by decide
   have m116:decide (116∈([116]:List UInt8))=true:=by decide
   have m13:decide ((2:Int)=13)=false:=by decide
   simp only [m110,m117,m116,m13,dPosN]
   generalize decide (0≤p)=b0
   generalize decide (as'.length=0)=b1
   generalize decide (n=[])=b2
   generalize decide (u=0)=b3
   generalize plainD t=b4
   generalize decide (ks.length=0)=b5
   cases b0 <;> cases b1 <;> cases b2 <;> cases b3 <;> cases b4 <;> cases b5 <;> rfl
  rw [e]
  subst h2
  simp only [go_sem,reduceIte,↓reduceIte,sevalprocAttr,Z0,Z1,bytesOf,mc97,mr97,ExpD.cells,ExpD.cellsL_len,ExpD.cellsA_len,dN0,dN1,dN2,dE1,dE2,dE3,dPos]
  intros
  refine acall_pure (plainS [116] 2 n u t p ks as' _) ?_
  cases hr:plainR [116] n u t p 2 as'.length
  ·simp only [go_sem,reduceIte,↓reduceIte,sevalprocAttr,Z0,Z1,bytesOf,Bool.false_and]; exact ⟨_,rfl⟩
  simp only [go_sem,reduceIte,↓reduceIte,sevalprocAttr,Z0,Z1,bytesOf,Bool.true_and,ExpD.cellsL_len,ExpD.cellsA_len,dN0,dN1,dN2,dE1,dE2,dE3,dPos]
  refine acall_pure (charsS t _) ?_
  cases ha0:plainD t
  ·simp only [go_sem,reduceIte,↓reduceIte,sevalprocAttr,Z0,Z1,bytesOf,ha0,Bool.false_and]; exact ⟨_,rfl⟩
  simp only [go_sem,reduceIte,↓reduceIte,sevalprocAttr,Z0,Z1,bytesOf,ha0,Bool.true_and,ExpD.cellsL_len,ExpD.cellsA_len,dN0,dN1,dN2,dE1,dE2,dE3,dPos]
  try (simp only [go_sem,reduceIte,↓reduceIte,sevalprocAttr,Z0,Z1,bytesOf,Bool.true_and,ExpD.cellsL_len,ExpD.cellsA_len,dN0,dN1,dN2,dE1,dE2,dE3,dPos])
  intros
  exact ⟨_,rfl⟩
 by_cases h3:k=3
 ·have e:expHead k n u t p ks.length as'.length=(plainR [117] n u t p k as'.length && (decide (0≤u∧u≤1) && decide (ks.length=0))):=by
   unfold expHead plainR
   rw [if_neg h1,if_neg h2,if_pos h3]
   subst h3
   have m110:decide (110∈([117]:List UInt8))=false:=by decide
   have m117:decide (117∈([117]:List UInt8))=true:=by decide
   have m116:decide (116∈([117]:List UInt8))=false:=by decide
   have m13:decide ((3:Int)=13)=false:=by decide
   simp only [m110,m117,m116,m13,dPosN]
   generalize decide (0≤p)=b0
   generalize decide (as'.length=0)=b1
   generalize decide (n=[])=b2
   generalize decide (t=[])=b3
   generalize decide (0≤u∧u≤1)=b4
   generalize decide (ks.length=0)=b5
   cases b0 <;> cases b1 <;> cases b2 <;> cases b3 <;> cases b4 <;> cases b5 <;> rfl
  rw [e]
  subst h3
  simp only [go_sem,reduceIte,↓reduceIte,sevalprocAttr,Z0,Z1,bytesOf,mc97,mr97,ExpD.cells,ExpD.cellsL_len,ExpD.cellsA_len,dN0,dN1,dN2,dE1,dE2,dE3,dPos]
  intros
  refine acall_pure (plainS [117] 3 n u t p ks as' _) ?_
  cases hr:plainR [117] n u t p 3 as'.length
  ·simp only [go_sem,reduceIte,↓reduceIte,sevalprocAttr,Z0,Z1,bytesOf,Bool.false_and]; exact ⟨_,rfl⟩
  simp only [go_sem,reduceIte,↓reduceIte,sevalprocAttr,Z0,Z1,bytesOf,Bool.true_and,ExpD.cellsL_len,ExpD.cellsA_len,dN0,dN1,dN2,dE1,dE2,dE3,dPos]
  refine acall_pure (inC u 0 1 _) ?_
  rw [e01]
  cases ha0:decide (0≤u∧u≤1)
  ·simp only [go_sem,reduceIte,↓reduceIte,sevalprocAttr,Z0,Z1,bytesOf,ha0,Bool.false_and]; exact ⟨_,rfl⟩
  simp only [go_sem,reduceIte,↓reduceIte,sevalprocAttr,Z0,Z1,bytesOf,ha0,Bool.true_and,ExpD.cellsL_len,ExpD.cellsA_len,dN0,dN1,dN2,dE1,dE2,dE3,dPos]
  try (simp only [go_sem,reduceIte,↓reduceIte,sevalprocAttr,Z0,Z1,bytesOf,Bool.true_and,ExpD.cellsL_len,ExpD.cellsA_len,dN0,dN1,dN2,dE1,dE2,dE3,dPos])
  intros
  exact ⟨_,rfl⟩
 by_cases h4:k=4
 ·have e:expHead k n u t p ks.length as'.length=(plainR [] n u t p k as'.length && decide (ks.length=0)):=by
   unfold expHead plainR
   rw [if_neg h1,if_neg h2,if_neg h3,if_pos h4]
   subst h4
   have m110:decide (110∈([]:List UInt8))=false:=by decide
   have m117:decide (117∈([]:List UInt8))=false:=by decide
   have m116:decide (116∈([]:List UInt8))=false:=by decide
   have m13:decide ((4:Int)=13)=false:=by decide
   simp only [m110,m117,m116,m13,dPosN]
   generalize decide (0≤p)=b0
   generalize decide (as'.length=0)=b1
   generalize decide (n=[])=b2
   generalize decide (u=0)=b3
   generalize decide (t=[])=b4
   generalize decide (ks.length=0)=b5
   cases b0 <;> cases b1 <;> cases b2 <;> cases b3 <;> cases b4 <;> cases b5 <;> rfl
  rw [e]
  subst h4
  simp only [go_sem,reduceIte,↓reduceIte,sevalprocAttr,Z0,Z1,bytesOf,mc97,mr97,ExpD.cells,ExpD.cellsL_len,ExpD.cellsA_len,dN0,dN1,dN2,dE1,dE2,dE3,dPos]
  intros
  refine acall_pure (plainS [] 4 n u t p ks as' _) ?_
  cases hr:plainR [] n u t p 4 as'.length
  ·simp only [go_sem,reduceIte,↓reduceIte,sevalprocAttr,Z0,Z1,bytesOf,Bool.false_and]; exact ⟨_,rfl⟩
  simp only [go_sem,reduceIte,↓reduceIte,sevalprocAttr,Z0,Z1,bytesOf,Bool.true_and,ExpD.cellsL_len,ExpD.cellsA_len,dN0,dN1,dN2,dE1,dE2,dE3,dPos]
  try (simp only [go_sem,reduceIte,↓reduceIte,sevalprocAttr,Z0,Z1,bytesOf,Bool.true_and,ExpD.cellsL_len,ExpD.cellsA_len,dN0,dN1,dN2,dE1,dE2,dE3,dPos])
  intros
  exact ⟨_,rfl⟩
 by_cases h5:k=5
 ·have e:expHead k n u t p ks.length as'.length=(plainR [110] n u t p k as'.length && (lowD n && decide (ks.length=0))):=by
   unfold expHead plainR
   rw [if_neg h1,if_neg h2,if_neg h3,if_neg h4,if_pos h5]
   subst h5
   have m110:decide (110∈([110]:List UInt8))=true:=by decide
   have m117:decide (117∈([110]:List UInt8))=false:=by decide
   have m116:decide (116∈([110]:List UInt8))=false:=by decide
   have m13:decide ((5:Int)=13)=false:=by decide
   simp only [m110,m117,m116,m13,dPosN]
   generalize decide (0≤p)=b0
   generalize decide (as'.length=0)=b1
   generalize decide (u=0)=b2
   generalize decide (t=[])=b3
   generalize lowD n=b4
   generalize decide (ks.length=0)=b5
   cases b0 <;> cases b1 <;> cases b2 <;> cases b3 <;> cases b4 <;> cases b5 <;> rfl
  rw [e]
  subst h5
  simp only [go_sem,reduceIte,↓reduceIte,sevalprocAttr,Z0,Z1,bytesOf,mc97,mr97,ExpD.cells,ExpD.cellsL_len,ExpD.cellsA_len,dN0,dN1,dN2,dE1,dE2,dE3,dPos]
  intros
  refine acall_pure (plainS [110] 5 n u t p ks as' _) ?_
  cases hr:plainR [110] n u t p 5 as'.length
  ·simp only [go_sem,reduceIte,↓reduceIte,sevalprocAttr,Z0,Z1,bytesOf,Bool.false_and]; exact ⟨_,rfl⟩
  simp only [go_sem,reduceIte,↓reduceIte,sevalprocAttr,Z0,Z1,bytesOf,Bool.true_and,ExpD.cellsL_len,ExpD.cellsA_len,dN0,dN1,dN2,dE1,dE2,dE3,dPos]
  refine acall_pure (lowS n _) ?_
  cases ha0:lowD n
  ·simp only [go_sem,reduceIte,↓reduceIte,sevalprocAttr,Z0,Z1,bytesOf,ha0,Bool.false_and]; exact ⟨_,rfl⟩
  simp only [go_sem,reduceIte,↓reduceIte,sevalprocAttr,Z0,Z1,bytesOf,ha0,Bool.true_and,ExpD.cellsL_len,ExpD.cellsA_len,dN0,dN1,dN2,dE1,dE2,dE3,dPos]
  try (simp only [go_sem,reduceIte,↓reduceIte,sevalprocAttr,Z0,Z1,bytesOf,Bool.true_and,ExpD.cellsL_len,ExpD.cellsA_len,dN0,dN1,dN2,dE1,dE2,dE3,dPos])
  intros
  exact ⟨_,rfl⟩
 by_cases h6:k=6
 ·have e:expHead k n u t p ks.length as'.length=(plainR [110] n u t p k as'.length && (isNameD true n && decide (ks.length≤1))):=by
   unfold expHead plainR
   rw [if_neg h1,if_neg h2,if_neg h3,if_neg h4,if_neg h5,if_pos h6]
   subst h6
   have m110:decide (110∈([110]:List UInt8))=true:=by decide
   have m117:decide (117∈([110]:List UInt8))=false:=by decide
   have m116:decide (116∈([110]:List UInt8))=false:=by decide
   have m13:decide ((6:Int)=13)=false:=by decide
   simp only [m110,m117,m116,m13,dPosN]
   generalize decide (0≤p)=b0
   generalize decide (as'.length=0)=b1
   generalize decide (u=0)=b2
   generalize decide (t=[])=b3
   generalize isNameD true n=b4
   generalize decide (ks.length≤1)=b5
   cases b0 <;> cases b1 <;> cases b2 <;> cases b3 <;> cases b4 <;> cases b5 <;> rfl
  rw [e]
  subst h6
  simp only [go_sem,reduceIte,↓reduceIte,sevalprocAttr,Z0,Z1,bytesOf,mc97,mr97,ExpD.cells,ExpD.cellsL_len,ExpD.cellsA_len,dN0,dN1,dN2,dE1,dE2,dE3,dPos]
  intros
  refine acall_pure (plainS [110] 6 n u t p ks as' _) ?_
  cases hr:plainR [110] n u t p 6 as'.length
  ·simp only [go_sem,reduceIte,↓reduceIte,sevalprocAttr,Z0,Z1,bytesOf,Bool.false_and]; exact ⟨_,rfl⟩
  simp only [go_sem,reduceIte,↓reduceIte,sevalprocAttr,Z0,Z1,bytesOf,Bool.true_and,ExpD.cellsL_len,ExpD.cellsA_len,dN0,dN1,dN2,dE1,dE2,dE3,dPos]
  refine acall_pure (nameS true n _) ?_
  cases ha0:isNameD true n
  ·simp only [go_sem,reduceIte,↓reduceIte,sevalprocAttr,Z0,Z1,bytesOf,ha0,Bool.false_and]; exact ⟨_,rfl⟩
  simp only [go_sem,reduceIte,↓reduceIte,sevalprocAttr,Z0,Z1,bytesOf,ha0,Bool.true_and,ExpD.cellsL_len,ExpD.cellsA_len,dN0,dN1,dN2,dE1,dE2,dE3,dPos]
  try (simp only [go_sem,reduceIte,↓reduceIte,sevalprocAttr,Z0,Z1,bytesOf,Bool.true_and,ExpD.cellsL_len,ExpD.cellsA_len,dN0,dN1,dN2,dE1,dE2,dE3,dPos])
  intros
  exact ⟨_,rfl⟩
 by_cases h7:k=7
 ·have e:expHead k n u t p ks.length as'.length=(plainR [] n u t p k as'.length && decide (2≤ks.length)):=by
   unfold expHead plainR
   rw [if_neg h1,if_neg h2,if_neg h3,if_neg h4,if_neg h5,if_neg h6,if_pos h7]
   subst h7
   have m110:decide (110∈([]:List UInt8))=false:=by decide
   have m117:decide (117∈([]:List UInt8))=false:=by decide
   have m116:decide (116∈([]:List UInt8))=false:=by decide
   have m13:decide ((7:Int)=13)=false:=by decide
   simp only [m110,m117,m116,m13,dPosN]
   generalize decide (0≤p)=b0
   generalize decide (as'.length=0)=b1
   generalize decide (n=[])=b2
   generalize decide (u=0)=b3
   generalize decide (t=[])=b4
   generalize decide (2≤ks.length)=b5
   cases b0 <;> cases b1 <;> cases b2 <;> cases b3 <;> cases b4 <;> cases b5 <;> rfl
  rw [e]
  subst h7
  simp only [go_sem,reduceIte,↓reduceIte,sevalprocAttr,Z0,Z1,bytesOf,mc97,mr97,ExpD.cells,ExpD.cellsL_len,ExpD.cellsA_len,dN0,dN1,dN2,dE1,dE2,dE3,dPos]
  intros
  refine acall_pure (plainS [] 7 n u t p ks as' _) ?_
  cases hr:plainR [] n u t p 7 as'.length
  ·simp only [go_sem,reduceIte,↓reduceIte,sevalprocAttr,Z0,Z1,bytesOf,Bool.false_and]; exact ⟨_,rfl⟩
  simp only [go_sem,reduceIte,↓reduceIte,sevalprocAttr,Z0,Z1,bytesOf,Bool.true_and,ExpD.cellsL_len,ExpD.cellsA_len,dN0,dN1,dN2,dE1,dE2,dE3,dPos]
  try (simp only [go_sem,reduceIte,↓reduceIte,sevalprocAttr,Z0,Z1,bytesOf,Bool.true_and,ExpD.cellsL_len,ExpD.cellsA_len,dN0,dN1,dN2,dE1,dE2,dE3,dPos])
  intros
  exact ⟨_,rfl⟩
 by_cases h8:k=8
 ·have e:expHead k n u t p ks.length as'.length=(plainR [110] n u t p k as'.length && (lowD n && decide (ks.length=1))):=by
   unfold expHead plainR
   rw [if_neg h1,if_neg h2,if_neg h3,if_neg h4,if_neg h5,if_neg h6,if_neg h7,if_pos h8]
   subst h8
   have m110:decide (110∈([110]:List UInt8))=true:=by decide
   have m117:decide (117∈([110]:List UInt8))=false:=by decide
   have m116:decide (116∈([110]:List UInt8))=false:=by decide
   have m13:decide ((8:Int)=13)=false:=by decide
   simp only [m110,m117,m116,m13,dPosN]
   generalize decide (0≤p)=b0
   generalize decide (as'.length=0)=b1
   generalize decide (u=0)=b2
   generalize decide (t=[])=b3
   generalize lowD n=b4
   generalize decide (ks.length=1)=b5
   cases b0 <;> cases b1 <;> cases b2 <;> cases b3 <;> cases b4 <;> cases b5 <;> rfl
  rw [e]
  subst h8
  simp only [go_sem,reduceIte,↓reduceIte,sevalprocAttr,Z0,Z1,bytesOf,mc97,mr97,ExpD.cells,ExpD.cellsL_len,ExpD.cellsA_len,dN0,dN1,dN2,dE1,dE2,dE3,dPos]
  intros
  refine acall_pure (plainS [110] 8 n u t p ks as' _) ?_
  cases hr:plainR [110] n u t p 8 as'.length
  ·simp only [go_sem,reduceIte,↓reduceIte,sevalprocAttr,Z0,Z1,bytesOf,Bool.false_and]; exact ⟨_,rfl⟩
  simp only [go_sem,reduceIte,↓reduceIte,sevalprocAttr,Z0,Z1,bytesOf,Bool.true_and,ExpD.cellsL_len,ExpD.cellsA_len,dN0,dN1,dN2,dE1,dE2,dE3,dPos]
  refine acall_pure (lowS n _) ?_
  cases ha0:lowD n
  ·simp only [go_sem,reduceIte,↓reduceIte,sevalprocAttr,Z0,Z1,bytesOf,ha0,Bool.false_and]; exact ⟨_,rfl⟩
  simp only [go_sem,reduceIte,↓reduceIte,sevalprocAttr,Z0,Z1,bytesOf,ha0,Bool.true_and,ExpD.cellsL_len,ExpD.cellsA_len,dN0,dN1,dN2,dE1,dE2,dE3,dPos]
  try (simp only [go_sem,reduceIte,↓reduceIte,sevalprocAttr,Z0,Z1,bytesOf,Bool.true_and,ExpD.cellsL_len,ExpD.cellsA_len,dN0,dN1,dN2,dE1,dE2,dE3,dPos])
  intros
  exact ⟨_,rfl⟩
 by_cases h9:k=9
 ·have e:expHead k n u t p ks.length as'.length=(plainR [] n u t p k as'.length && decide (ks.length=2)):=by
   unfold expHead plainR
   rw [if_neg h1,if_neg h2,if_neg h3,if_neg h4,if_neg h5,if_neg h6,if_neg h7,if_neg h8,if_pos h9]
   subst h9
   have m110:decide (110∈([]:List UInt8))=false:=by decide
   have m117:decide (117∈([]:List UInt8))=false:=by decide
   have m116:decide (116∈([]:List UInt8))=false:=by decide
   have m13:decide ((9:Int)=13)=false:=by decide
   simp only [m110,m117,m116,m13,dPosN]
   generalize decide (0≤p)=b0
   generalize decide (as'.length=0)=b1
   generalize decide (n=[])=b2
   generalize decide (u=0)=b3
   generalize decide (t=[])=b4
   generalize decide (ks.length=2)=b5
   cases b0 <;> cases b1 <;> cases b2 <;> cases b3 <;> cases b4 <;> cases b5 <;> rfl
  rw [e]
  subst h9
  simp only [go_sem,reduceIte,↓reduceIte,sevalprocAttr,Z0,Z1,bytesOf,mc97,mr97,ExpD.cells,ExpD.cellsL_len,ExpD.cellsA_len,dN0,dN1,dN2,dE1,dE2,dE3,dPos]
  intros
  refine acall_pure (plainS [] 9 n u t p ks as' _) ?_
  cases hr:plainR [] n u t p 9 as'.length
  ·simp only [go_sem,reduceIte,↓reduceIte,sevalprocAttr,Z0,Z1,bytesOf,Bool.false_and]; exact ⟨_,rfl⟩
  simp only [go_sem,reduceIte,↓reduceIte,sevalprocAttr,Z0,Z1,bytesOf,Bool.true_and,ExpD.cellsL_len,ExpD.cellsA_len,dN0,dN1,dN2,dE1,dE2,dE3,dPos]
  try (simp only [go_sem,reduceIte,↓reduceIte,sevalprocAttr,Z0,Z1,bytesOf,Bool.true_and,ExpD.cellsL_len,ExpD.cellsA_len,dN0,dN1,dN2,dE1,dE2,dE3,dPos])
  intros
  exact ⟨_,rfl⟩
 by_cases h10:k=10
 ·have e:expHead k n u t p ks.length as'.length=(plainR [110] n u t p k as'.length && (lowD n && decide (ks.length=2))):=by
   unfold expHead plainR
   rw [if_neg h1,if_neg h2,if_neg h3,if_neg h4,if_neg h5,if_neg h6,if_neg h7,if_neg h8,if_neg h9,if_pos h10]
   subst h10
   have m110:decide (110∈([110]:List UInt8))=true:=by decide
   have m117:decide (117∈([110]:List UInt8))=false:=by decide
   have m116:decide (116∈([110]:List UInt8))=false:=by decide
   have m13:decide ((10:Int)=13)=false:=by decide
   simp only [m110,m117,m116,m13,dPosN]
   generalize decide (0≤p)=b0
   generalize decide (as'.length=0)=b1
   generalize decide (u=0)=b2
   generalize decide (t=[])=b3
   generalize lowD n=b4
   generalize decide (ks.length=2)=b5
   cases b0 <;> cases b1 <;> cases b2 <;> cases b3 <;> cases b4 <;> cases b5 <;> rfl
  rw [e]
  subst h10
  simp only [go_sem,reduceIte,↓reduceIte,sevalprocAttr,Z0,Z1,bytesOf,mc97,mr97,ExpD.cells,ExpD.cellsL_len,ExpD.cellsA_len,dN0,dN1,dN2,dE1,dE2,dE3,dPos]
  intros
  refine acall_pure (plainS [110] 10 n u t p ks as' _) ?_
  cases hr:plainR [110] n u t p 10 as'.length
  ·simp only [go_sem,reduceIte,↓reduceIte,sevalprocAttr,Z0,Z1,bytesOf,Bool.false_and]; exact ⟨_,rfl⟩
  simp only [go_sem,reduceIte,↓reduceIte,sevalprocAttr,Z0,Z1,bytesOf,Bool.true_and,ExpD.cellsL_len,ExpD.cellsA_len,dN0,dN1,dN2,dE1,dE2,dE3,dPos]
  refine acall_pure (lowS n _) ?_
  cases ha0:lowD n
  ·simp only [go_sem,reduceIte,↓reduceIte,sevalprocAttr,Z0,Z1,bytesOf,ha0,Bool.false_and]; exact ⟨_,rfl⟩
  simp only [go_sem,reduceIte,↓reduceIte,sevalprocAttr,Z0,Z1,bytesOf,ha0,Bool.true_and,ExpD.cellsL_len,ExpD.cellsA_len,dN0,dN1,dN2,dE1,dE2,dE3,dPos]
  try (simp only [go_sem,reduceIte,↓reduceIte,sevalprocAttr,Z0,Z1,bytesOf,Bool.true_and,ExpD.cellsL_len,ExpD.cellsA_len,dN0,dN1,dN2,dE1,dE2,dE3,dPos])
  intros
  exact ⟨_,rfl⟩
 by_cases h11:k=11
 ·have e:expHead k n u t p ks.length as'.length=(plainR [110,116] n u t p k as'.length && (lowD n && (lowD t && decide (ks.length=2)))):=by
   unfold expHead plainR
   rw [if_neg h1,if_neg h2,if_neg h3,if_neg h4,if_neg h5,if_neg h6,if_neg h7,if_neg h8,if_neg h9,if_neg h10,if_pos h11]
   subst h11
   have m110:decide (110∈([110,116]:List UInt8))=true:=by decide
   have m117:decide (117∈([110,116]:List UInt8))=false:=by decide
   have m116:decide (116∈([110,116]:List UInt8))=true:=by decide
   have m13:decide ((11:Int)=13)=false:=by decide
   simp only [m110,m117,m116,m13,dPosN]
   generalize decide (0≤p)=b0
   generalize decide (as'.length=0)=b1
   generalize decide (u=0)=b2
   generalize lowD n=b3
   generalize lowD t=b4
   generalize decide (ks.length=2)=b5
   cases b0 <;> cases b1 <;> cases b2 <;> cases b3 <;> cases b4 <;> cases b5 <;> rfl
  rw [e]
  subst h11
  simp only [go_sem,reduceIte,↓reduceIte,sevalprocAttr,Z0,Z1,bytesOf,mc97,mr97,ExpD.cells,ExpD.cellsL_len,ExpD.cellsA_len,dN0,dN1,dN2,dE1,dE2,dE3,dPos]
  intros
  refine acall_pure (plainS [110,116] 11 n u t p ks as' _) ?_
  cases hr:plainR [110,116] n u t p 11 as'.length
  ·simp only [go_sem,reduceIte,↓reduceIte,sevalprocAttr,Z0,Z1,bytesOf,Bool.false_and]; exact ⟨_,rfl⟩
  simp only [go_sem,reduceIte,↓reduceIte,sevalprocAttr,Z0,Z1,bytesOf,Bool.true_and,ExpD.cellsL_len,ExpD.cellsA_len,dN0,dN1,dN2,dE1,dE2,dE3,dPos]
  refine acall_pure (lowS n _) ?_
  cases ha0:lowD n
  ·simp only [go_sem,reduceIte,↓reduceIte,sevalprocAttr,Z0,Z1,bytesOf,ha0,Bool.false_and]; exact ⟨_,rfl⟩
  simp only [go_sem,reduceIte,↓reduceIte,sevalprocAttr,Z0,Z1,bytesOf,ha0,Bool.true_and,ExpD.cellsL_len,ExpD.cellsA_len,dN0,dN1,dN2,dE1,dE2,dE3,dPos]
  refine acall_pure (lowS t _) ?_
  cases ha1:lowD t
  ·simp only [go_sem,reduceIte,↓reduceIte,sevalprocAttr,Z0,Z1,bytesOf,ha1,Bool.false_and]; exact ⟨_,rfl⟩
  simp only [go_sem,reduceIte,↓reduceIte,sevalprocAttr,Z0,Z1,bytesOf,ha1,Bool.true_and,ExpD.cellsL_len,ExpD.cellsA_len,dN0,dN1,dN2,dE1,dE2,dE3,dPos]
  try (simp only [go_sem,reduceIte,↓reduceIte,sevalprocAttr,Z0,Z1,bytesOf,Bool.true_and,ExpD.cellsL_len,ExpD.cellsA_len,dN0,dN1,dN2,dE1,dE2,dE3,dPos])
  intros
  exact ⟨_,rfl⟩
 by_cases h12:k=12
 ·have e:expHead k n u t p ks.length as'.length=(plainR [] n u t p k as'.length && decide (ks.length=3)):=by
   unfold expHead plainR
   rw [if_neg h1,if_neg h2,if_neg h3,if_neg h4,if_neg h5,if_neg h6,if_neg h7,if_neg h8,if_neg h9,if_neg h10,if_neg h11,if_pos h12]
   subst h12
   have m110:decide (110∈([]:List UInt8))=false:=by decide
   have m117:decide (117∈([]:List UInt8))=false:=by decide
   have m116:decide (116∈([]:List UInt8))=false:=by decide
   have m13:decide ((12:Int)=13)=false:=by decide
   simp only [m110,m117,m116,m13,dPosN]
   generalize decide (0≤p)=b0
   generalize decide (as'.length=0)=b1
   generalize decide (n=[])=b2
   generalize decide (u=0)=b3
   generalize decide (t=[])=b4
   generalize decide (ks.length=3)=b5
   cases b0 <;> cases b1 <;> cases b2 <;> cases b3 <;> cases b4 <;> cases b5 <;> rfl
  rw [e]
  subst h12
  simp only [go_sem,reduceIte,↓reduceIte,sevalprocAttr,Z0,Z1,bytesOf,mc97,mr97,ExpD.cells,ExpD.cellsL_len,ExpD.cellsA_len,dN0,dN1,dN2,dE1,dE2,dE3,dPos]
  intros
  refine acall_pure (plainS [] 12 n u t p ks as' _) ?_
  cases hr:plainR [] n u t p 12 as'.length
  ·simp only [go_sem,reduceIte,↓reduceIte,sevalprocAttr,Z0,Z1,bytesOf,Bool.false_and]; exact ⟨_,rfl⟩
  simp only [go_sem,reduceIte,↓reduceIte,sevalprocAttr,Z0,Z1,bytesOf,Bool.true_and,ExpD.cellsL_len,ExpD.cellsA_len,dN0,dN1,dN2,dE1,dE2,dE3,dPos]
  try (simp only [go_sem,reduceIte,↓reduceIte,sevalprocAttr,Z0,Z1,bytesOf,Bool.true_and,ExpD.cellsL_len,ExpD.cellsA_len,dN0,dN1,dN2,dE1,dE2,dE3,dPos])
  intros
  exact ⟨_,rfl⟩
 by_cases h13:k=13
 ·have e:expHead k n u t p ks.length as'.length=(plainR [] n u t p k as'.length && (decide (ks.length=1) && decide (0<as'.length))):=by
   unfold expHead plainR
   rw [if_neg h1,if_neg h2,if_neg h3,if_neg h4,if_neg h5,if_neg h6,if_neg h7,if_neg h8,if_neg h9,if_neg h10,if_neg h11,if_neg h12,if_pos h13]
   subst h13
   have m110:decide (110∈([]:List UInt8))=false:=by decide
   have m117:decide (117∈([]:List UInt8))=false:=by decide
   have m116:decide (116∈([]:List UInt8))=false:=by decide
   have m13:decide ((13:Int)=13)=true:=by decide
   simp only [m110,m117,m116,m13,dPosN]
   generalize decide (0≤p)=b0
   generalize decide (as'.length=0)=b1
   generalize decide (n=[])=b2
   generalize decide (u=0)=b3
   generalize decide (t=[])=b4
   generalize decide (ks.length=1)=b5
   cases b0 <;> cases b1 <;> cases b2 <;> cases b3 <;> cases b4 <;> cases b5 <;> rfl
  rw [e]
  subst h13
  simp only [go_sem,reduceIte,↓reduceIte,sevalprocAttr,Z0,Z1,bytesOf,mc97,mr97,ExpD.cells,ExpD.cellsL_len,ExpD.cellsA_len,dN0,dN1,dN2,dE1,dE2,dE3,dPos]
  intros
  refine acall_pure (plainS [] 13 n u t p ks as' _) ?_
  cases hr:plainR [] n u t p 13 as'.length
  ·simp only [go_sem,reduceIte,↓reduceIte,sevalprocAttr,Z0,Z1,bytesOf,Bool.false_and]; exact ⟨_,rfl⟩
  simp only [go_sem,reduceIte,↓reduceIte,sevalprocAttr,Z0,Z1,bytesOf,Bool.true_and,ExpD.cellsL_len,ExpD.cellsA_len,dN0,dN1,dN2,dE1,dE2,dE3,dPos]
  cases ha0:decide (ks.length=1)
  ·simp only [go_sem,reduceIte,↓reduceIte,sevalprocAttr,Z0,Z1,bytesOf,ha0,Bool.false_and]; exact ⟨_,rfl⟩
  simp only [go_sem,reduceIte,↓reduceIte,sevalprocAttr,Z0,Z1,bytesOf,ha0,Bool.true_and,ExpD.cellsL_len,ExpD.cellsA_len,dN0,dN1,dN2,dE1,dE2,dE3,dPos]
  try (simp only [go_sem,reduceIte,↓reduceIte,sevalprocAttr,Z0,Z1,bytesOf,Bool.true_and,ExpD.cellsL_len,ExpD.cellsA_len,dN0,dN1,dN2,dE1,dE2,dE3,dPos])
  intros
  exact ⟨_,rfl⟩
 by_cases h14:k=14
 ·have e:expHead k n u t p ks.length as'.length=(plainR [110] n u t p k as'.length && (decide (n∈opL) && decide (ks.length=2))):=by
   unfold expHead plainR
   rw [if_neg h1,if_neg h2,if_neg h3,if_neg h4,if_neg h5,if_neg h6,if_neg h7,if_neg h8,if_neg h9,if_neg h10,if_neg h11,if_neg h12,if_neg h13,if_pos h14]
   subst h14
   have m110:decide (110∈([110]:List UInt8))=true:=by decide
   have m117:decide (117∈([110]:List UInt8))=false:=by decide
   have m116:decide (116∈([110]:List UInt8))=false:=by decide
   have m13:decide ((14:Int)=13)=false:=by decide
   simp only [m110,m117,m116,m13,dPosN]
   generalize decide (0≤p)=b0
   generalize decide (as'.length=0)=b1
   generalize decide (u=0)=b2
   generalize decide (t=[])=b3
   generalize decide (n∈opL)=b4
   generalize decide (ks.length=2)=b5
   cases b0 <;> cases b1 <;> cases b2 <;> cases b3 <;> cases b4 <;> cases b5 <;> rfl
  rw [e]
  subst h14
  simp only [go_sem,reduceIte,↓reduceIte,sevalprocAttr,Z0,Z1,bytesOf,mc97,mr97,ExpD.cells,ExpD.cellsL_len,ExpD.cellsA_len,dN0,dN1,dN2,dE1,dE2,dE3,dPos]
  intros
  refine acall_pure (plainS [110] 14 n u t p ks as' _) ?_
  cases hr:plainR [110] n u t p 14 as'.length
  ·simp only [go_sem,reduceIte,↓reduceIte,sevalprocAttr,Z0,Z1,bytesOf,Bool.false_and]; exact ⟨_,rfl⟩
  simp only [go_sem,reduceIte,↓reduceIte,sevalprocAttr,Z0,Z1,bytesOf,Bool.true_and,ExpD.cellsL_len,ExpD.cellsA_len,dN0,dN1,dN2,dE1,dE2,dE3,dPos]
  refine acall_pure (opS n _) ?_
  cases ha0:decide (n∈opL)
  ·simp only [go_sem,reduceIte,↓reduceIte,sevalprocAttr,Z0,Z1,bytesOf,ha0,Bool.false_and]; exact ⟨_,rfl⟩
  simp only [go_sem,reduceIte,↓reduceIte,sevalprocAttr,Z0,Z1,bytesOf,ha0,Bool.true_and,ExpD.cellsL_len,ExpD.cellsA_len,dN0,dN1,dN2,dE1,dE2,dE3,dPos]
  try (simp only [go_sem,reduceIte,↓reduceIte,sevalprocAttr,Z0,Z1,bytesOf,Bool.true_and,ExpD.cellsL_len,ExpD.cellsA_len,dN0,dN1,dN2,dE1,dE2,dE3,dPos])
  intros
  exact ⟨_,rfl⟩
 by_cases h15:k=15
 ·have e:expHead k n u t p ks.length as'.length=(plainR [110] n u t p k as'.length && ((decide (n=[114,101,97,100]) && decide (ks.length=0)) || (decide (arity n=1) && decide (ks.length=1)))):=by
   unfold expHead plainR
   rw [if_neg h1,if_neg h2,if_neg h3,if_neg h4,if_neg h5,if_neg h6,if_neg h7,if_neg h8,if_neg h9,if_neg h10,if_neg h11,if_neg h12,if_neg h13,if_neg h14,if_pos h15]
   subst h15
   have m110:decide (110∈([110]:List UInt8))=true:=by decide
   have m117:decide (117∈([110]:List UInt8))=false:=by decide
   have m116:decide (116∈([110]:List UInt8))=false:=by decide
   have m13:decide ((15:Int)=13)=false:=by decide
   simp only [m110,m117,m116,m13,dPosN,arityD]
   generalize decide (0≤p)=b0
   generalize decide (as'.length=0)=b1
   generalize decide (u=0)=b2
   generalize decide (t=[])=b3
   generalize ((decide (n=[114,101,97,100]) && decide (ks.length=0)) || (decide (arity n=1) && decide (ks.length=1)))=b4
   cases b0 <;> cases b1 <;> cases b2 <;> cases b3 <;> cases b4 <;> rfl
  rw [e]
  subst h15
  simp only [go_sem,reduceIte,↓reduceIte,sevalprocAttr,Z0,Z1,bytesOf,mc97,mr97,ExpD.cells,ExpD.cellsL_len,ExpD.cellsA_len,dN0,dN1,dN2,dE1,dE2,dE3,dPos]
  intros
  refine acall_pure (plainS [110] 15 n u t p ks as' _) ?_
  cases hr:plainR [110] n u t p 15 as'.length
  ·simp only [go_sem,reduceIte,↓reduceIte,sevalprocAttr,Z0,Z1,bytesOf,Bool.false_and]; exact ⟨_,rfl⟩
  simp only [go_sem,reduceIte,↓reduceIte,sevalprocAttr,Z0,Z1,bytesOf,Bool.true_and,ExpD.cellsL_len,ExpD.cellsA_len,dN0,dN1,dN2,dE1,dE2,dE3,dPos]
  by_cases hn:n=[114,101,97,100]
  ·by_cases hl:ks.length=0
   ·simp only [go_sem,reduceIte,↓reduceIte,sevalprocAttr,Z0,Z1,bytesOf,dT hn,dT hl,Bool.true_and,Bool.true_or,ExpD.cellsL_len,ExpD.cellsA_len,dN0,dN1,dN2,dE1,dE2,dE3,dPos]; exact ⟨_,rfl⟩
   ·simp only [go_sem,reduceIte,↓reduceIte,sevalprocAttr,Z0,Z1,bytesOf,dT hn,dF hl,Bool.true_and,Bool.false_or,ExpD.cellsL_len,ExpD.cellsA_len,dN0,dN1,dN2,dE1,dE2,dE3,dPos]
    refine acall_pure (primS n _) ?_
    by_cases hr:arity n=1
    ·simp only [go_sem,reduceIte,↓reduceIte,sevalprocAttr,Z0,Z1,bytesOf,dT hr,Bool.true_and,Bool.false_and,Bool.false_or,ExpD.cellsL_len,ExpD.cellsA_len,dN0,dN1,dN2,dE1,dE2,dE3,dPos]; exact ⟨_,rfl⟩
    ·simp only [go_sem,reduceIte,↓reduceIte,sevalprocAttr,Z0,Z1,bytesOf,dF hr,Bool.true_and,Bool.false_and,Bool.false_or,ExpD.cellsL_len,ExpD.cellsA_len,dN0,dN1,dN2,dE1,dE2,dE3,dPos]; exact ⟨_,rfl⟩
  ·simp only [go_sem,reduceIte,↓reduceIte,sevalprocAttr,Z0,Z1,bytesOf,dF hn,Bool.false_and,Bool.false_or,ExpD.cellsL_len,ExpD.cellsA_len,dN0,dN1,dN2,dE1,dE2,dE3,dPos]
   refine acall_pure (primS n _) ?_
   by_cases hr:arity n=1
   ·simp only [go_sem,reduceIte,↓reduceIte,sevalprocAttr,Z0,Z1,bytesOf,dT hr,Bool.true_and,Bool.false_and,Bool.false_or,ExpD.cellsL_len,ExpD.cellsA_len,dN0,dN1,dN2,dE1,dE2,dE3,dPos]; exact ⟨_,rfl⟩
   ·simp only [go_sem,reduceIte,↓reduceIte,sevalprocAttr,Z0,Z1,bytesOf,dF hr,Bool.true_and,Bool.false_and,Bool.false_or,ExpD.cellsL_len,ExpD.cellsA_len,dN0,dN1,dN2,dE1,dE2,dE3,dPos]; exact ⟨_,rfl⟩
 ·have e:expHead k n u t p ks.length as'.length=false:=by unfold expHead; rw [if_neg h1,if_neg h2,if_neg h3,if_neg h4,if_neg h5,if_neg h6,if_neg h7,if_neg h8,if_neg h9,if_neg h10,if_neg h11,if_neg h12,if_neg h13,if_neg h14,if_neg h15,Bool.and_false]
  rw [e]
  have d1:decide (k=1)=false:=by simp [h1]
  have d2:decide (k=2)=false:=by simp [h2]
  have d3:decide (k=3)=false:=by simp [h3]
  have d4:decide (k=4)=false:=by simp [h4]
  have d5:decide (k=5)=false:=by simp [h5]
  have d6:decide (k=6)=false:=by simp [h6]
  have d7:decide (k=7)=false:=by simp [h7]
  have d8:decide (k=8)=false:=by simp [h8]
  have d9:decide (k=9)=false:=by simp [h9]
  have d10:decide (k=10)=false:=by simp [h10]
  have d11:decide (k=11)=false:=by simp [h11]
  have d12:decide (k=12)=false:=by simp [h12]
  have d13:decide (k=13)=false:=by simp [h13]
  have d14:decide (k=14)=false:=by simp [h14]
  have d15:decide (k=15)=false:=by simp [h15]
  simp only [go_sem,reduceIte,↓reduceIte,sevalprocAttr,Z0,Z1,bytesOf,mc97,mr97,ExpD.cells,ExpD.cellsL_len,ExpD.cellsA_len,dN0,dN1,dN2,dE1,dE2,dE3,dPos]
  intros
  simp only [go_sem,reduceIte,↓reduceIte,sevalprocAttr,Z0,Z1,bytesOf,d1,d2,d3,d4,d5,d6,d7,d8,d9,d10,d11,d12,d13,d14,d15]
  exact ⟨_,rfl⟩
end Go.Proofs.YtnelfbcgplooiaaGreat.Pg