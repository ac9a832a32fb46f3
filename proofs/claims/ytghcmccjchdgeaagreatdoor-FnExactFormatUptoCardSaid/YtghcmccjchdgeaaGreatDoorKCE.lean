/- Texts QfD QfE QfF QfC QfQ QfR QfS QfT QfU, merged. -/
import Derived.Test.YtghcmccjchdgeaaGreatDoorKCD
import Derived.Test.YtghcmccjchdgeaaGreatDoorChecked
import Derived.KernelRfl
set_option linter.all false
namespace Go.Proofs.YtghcmccjchdgeaaGreatDoor.Qp
open Go.AM Mc Pg
theorem LL.{u}:(∀ (α:Type u) (a b:List α),(a++b).length=a.length+b.length)/\(∀ (α:Type u) (a:α) (l:List α),(a :: l).length=l.length+1)/\(∀ α:Type u,([]:List α).length=0):=⟨fun _ _ _=>List.length_append,fun _ _ _=>rfl,fun _=>rfl⟩
attribute [go_sem] Bool.not_not
abbrev avC (cs:List PV):AV:=.st (cs.map .p)
theorem nameBC {f : Nat} {q : UInt8 → Bool} (hf : TestC f q) {s : List UInt8} (hs : s.length ≤ 1073741824) (H : List AO) : ACall Tryz.prog 155 [.p (.s s), .clo f []] H (pureQ (.p (.b (nmB q s))) H) := by
  refine call155 (by simp) ?_
  simp only [go_sem, simprocAttr, mc155, mr155]
  intro _
  refine acall_pure (withinC _ _ _ _) ?_
  generalize hb : (decide ((1 : Int) ≤ _) && decide (_ ≤ (12 : Int))) = b
  cases b
  · simp only [go_sem, simprocAttr]
    refine ⟨?_, rfl⟩
    cases s with
    | nil => rfl
    | cons c l =>
      have h12 : ¬ (c :: l).length ≤ 12 := by simp at hb ⊢; omega
      simp only [nmB, dF h12, Bool.false_and]
  · simp only [Bool.and_eq_true, decide_eq_true_eq] at hb
    have h0 : 0 < s.length := by omega
    have hg : s[0]? = some s[0] := by simp [h0]
    have en : nmB q s = (q s[0] && decide (runAt isNm s 0 = s.length)) := by
      cases s with
      | nil => simp at h0
      | cons c l => rw [nmB, dT (show (c :: l).length ≤ 12 by omega)]; rfl
    simp only [go_sem, simprocAttr, hg]
    refine acall_pure (hf s[0] H) ?_
    cases hq : q s[0]
    · simp only [go_sem, simprocAttr, hq]
      exact ⟨by rw [en, hq]; rfl, rfl⟩
    · simp only [go_sem, simprocAttr, hq]
      refine acall_pure (runC nameC (by omega) (i := 0) (by omega) _) ?_
      simp only [go_sem, simprocAttr]
      intro _
      refine ⟨?_, rfl⟩
      rw [en, hq]
      simp
      omega
theorem lowC {s:List UInt8} (hs:s.length<=1073741824) (H:List AO):ACall Tryz.prog 152 [.p (.s s)] H (pureQ (.p (.b (lowB s))) H):=by
 refine call152 (by simp) ?_
 simp only [go_sem,simprocAttr,mc152,mr152]
 refine acall_pure (nameBC smallC hs _) ?_
 cases h:nmB isSm s
 ·simp only [go_sem,simprocAttr,h]
  exact ⟨by simp [lowB,h],rfl⟩
 ·simp only [go_sem,simprocAttr,h]
  refine acall_pure (keyC _ _) ?_
  simp only [go_sem,simprocAttr]
  exact ⟨by simp [lowB,h],rfl⟩
theorem upC {s:List UInt8} (hs:s.length<=1073741824) (H:List AO):ACall Tryz.prog 149 [.p (.s s)] H (pureQ (.p (.b (upB s))) H):=by
 refine call149 (by simp) ?_
 simp only [go_sem,simprocAttr,mc149,mr149]
 refine acall_pure (nameBC greatC hs _) ?_
 simp only [go_sem,simprocAttr]
 exact ⟨rfl,rfl⟩
def ElemC {α:Type} (f:Nat) (c:α->AV) (q:α->Bool) (l:List α):Prop:=∀ x∈l,∀ H:List AO,ACall Tryz.prog f [c x] H (pureQ (.p (.b (q x))) H)
theorem any_drop {α:Type} {q:α->Bool} {l:List α} {x:Nat} (h:x<l.length):(l.drop x).any q=(q l[x] || (l.drop (x+1)).any q):=by rw [List.drop_eq_getElem_cons h,List.any_cons]
theorem ixPatC {f:Nat} {q:PatD->Bool} {l:List PatD} (hf:ElemC f (fun x=>avC x.cells) q l) (H:List AO) :
  ACall Tryz.prog 233 [.p (.l (l.map PatD.cells)),.clo f []] H (fun r H'=>H'=H/\∃ z:Int,r=.p (.i .i64 z)/\decide (0<=z)=l.any q):=by
 refine call233 (by simp) ?_
 simp only [go_sem,simprocAttr,mc233,mr233,List.length_map]
 intro hl
 rw [maxLe] at hl
 refine ⟨Nat,[0,1,4,7,8],fun x st=>(x<=l.length/\l.any q=(l.drop x).any q)/\st=⟨[(0,.p (.l (l.map PatD.cells))),(1,.clo f []),(4,.p (.i .i64 0)),(7,.p (.i .i64 l.length)),(8,.p (.i .i64 x))],[],H⟩,fun x=>l.length - x,⟨0,?_⟩,?_⟩
 ·simp only [go_sem,simprocAttr]
  simp
 rintro x _ ⟨⟨hx,hn⟩,rfl⟩
 by_cases hlt:x<l.length
 ·have d1:decide ((x:Int)<(l.length:Int))=true:=by simp; omega
  have hlt':(x:Int)<(l.length:Int):=by omega
  have hg:(l.map PatD.cells)[x]?=some (PatD.cells l[x]):=by simp [hlt]
  have hc:=hf l[x] (List.getElem_mem hlt) H
  rw [any_drop hlt] at hn
  generalize l[x]=c at hg hc hn
  obtain ⟨ck,cn,cu,cp,cks⟩:=c
  simp only [PatD.cells,avC,List.map_cons,List.map_nil] at hg hc
  simp only [go_sem,simprocAttr,d1,hlt',hg,List.length_map]
  refine acall_pure hc ?_
  generalize q _=b at hn
  cases b
  ·simp only [go_sem,simprocAttr,wrN x (by omega)]
   exact ⟨x+1,⟨⟨by omega,by simpa using hn⟩,rfl⟩,by omega⟩
  ·simp only [go_sem,simprocAttr]
   exact ⟨(x:Int),rfl,by rw [hn,Bool.true_or]; exact decide_eq_true (by omega)⟩
 ·have d1:decide ((x:Int)<(l.length:Int))=false:=by simp; omega
  simp only [go_sem,simprocAttr,d1]
  refine ⟨-1,rfl,?_⟩
  rw [hn,List.drop_of_length_le (by omega)]
  rfl
theorem anyPatC {f:Nat} {q:PatD->Bool} {l:List PatD} (hf:ElemC f (fun x=>avC x.cells) q l) (H:List AO) :
  ACall Tryz.prog 197 [.p (.l (l.map PatD.cells)),.clo f []] H (pureQ (.p (.b (l.any q))) H):=by
 refine call197 (by simp) ?_
 simp only [go_sem,simprocAttr,mc197,mr197]
 refine (ixPatC hf H).mono ?_
 rintro r H' ⟨rfl,z,rfl,hz⟩
 simp only [go_sem,simprocAttr,hz]
 exact ⟨rfl,rfl⟩
theorem ixTyC {f:Nat} {q:TyE->Bool} {l:List TyE} (hf:ElemC f (fun x=>avC x.cells) q l) (H:List AO) :
  ACall Tryz.prog 234 [.p (.l (l.map TyE.cells)),.clo f []] H (fun r H'=>H'=H/\∃ z:Int,r=.p (.i .i64 z)/\decide (0<=z)=l.any q):=by
 refine call234 (by simp) ?_
 simp only [go_sem,simprocAttr,mc234,mr234,List.length_map]
 intro hl
 rw [maxLe] at hl
 refine ⟨Nat,[0,1,4,7,8],fun x st=>(x<=l.length/\l.any q=(l.drop x).any q)/\st=⟨[(0,.p (.l (l.map TyE.cells))),(1,.clo f []),(4,.p (.i .i64 0)),(7,.p (.i .i64 l.length)),(8,.p (.i .i64 x))],[],H⟩,fun x=>l.length - x,⟨0,?_⟩,?_⟩
 ·simp only [go_sem,simprocAttr]
  simp
 rintro x _ ⟨⟨hx,hn⟩,rfl⟩
 by_cases hlt:x<l.length
 ·have d1:decide ((x:Int)<(l.length:Int))=true:=by simp; omega
  have hlt':(x:Int)<(l.length:Int):=by omega
  have hg:(l.map TyE.cells)[x]?=some (TyE.cells l[x]):=by simp [hlt]
  have hc:=hf l[x] (List.getElem_mem hlt) H
  rw [any_drop hlt] at hn
  generalize l[x]=c at hg hc hn
  obtain ⟨ck,cn,cp,cks⟩:=c
  simp only [TyE.cells,avC,List.map_cons,List.map_nil] at hg hc
  simp only [go_sem,simprocAttr,d1,hlt',hg,List.length_map]
  refine acall_pure hc ?_
  generalize q _=b at hn
  cases b
  ·simp only [go_sem,simprocAttr,wrN x (by omega)]
   exact ⟨x+1,⟨⟨by omega,by simpa using hn⟩,rfl⟩,by omega⟩
  ·simp only [go_sem,simprocAttr]
   exact ⟨(x:Int),rfl,by rw [hn,Bool.true_or]; exact decide_eq_true (by omega)⟩
 ·have d1:decide ((x:Int)<(l.length:Int))=false:=by simp; omega
  simp only [go_sem,simprocAttr,d1]
  refine ⟨-1,rfl,?_⟩
  rw [hn,List.drop_of_length_le (by omega)]
  rfl
theorem anyTyC {f:Nat} {q:TyE->Bool} {l:List TyE} (hf:ElemC f (fun x=>avC x.cells) q l) (H:List AO) :
  ACall Tryz.prog 199 [.p (.l (l.map TyE.cells)),.clo f []] H (pureQ (.p (.b (l.any q))) H):=by
 refine call199 (by simp) ?_
 simp only [go_sem,simprocAttr,mc199,mr199]
 refine (ixTyC hf H).mono ?_
 rintro r H' ⟨rfl,z,rfl,hz⟩
 simp only [go_sem,simprocAttr,hz]
 exact ⟨rfl,rfl⟩
theorem ixDataC {f:Nat} {q:DataD->Bool} {l:List DataD} (hf:ElemC f (fun x=>avC x.cells) q l) (H:List AO) :
  ACall Tryz.prog 148 [.p (.l (l.map DataD.cells)),.clo f []] H (fun r H'=>H'=H/\∃ z:Int,r=.p (.i .i64 z)/\decide (0<=z)=l.any q):=by
 refine call148 (by simp) ?_
 simp only [go_sem,simprocAttr,mc148,mr148,List.length_map]
 intro hl
 rw [maxLe] at hl
 refine ⟨Nat,[0,1,4,7,8],fun x st=>(x<=l.length/\l.any q=(l.drop x).any q)/\st=⟨[(0,.p (.l (l.map DataD.cells))),(1,.clo f []),(4,.p (.i .i64 0)),(7,.p (.i .i64 l.length)),(8,.p (.i .i64 x))],[],H⟩,fun x=>l.length - x,⟨0,?_⟩,?_⟩
 ·simp only [go_sem,simprocAttr]
  simp
 rintro x _ ⟨⟨hx,hn⟩,rfl⟩
 by_cases hlt:x<l.length
 ·have d1:decide ((x:Int)<(l.length:Int))=true:=by simp; omega
  have hlt':(x:Int)<(l.length:Int):=by omega
  have hg:(l.map DataD.cells)[x]?=some (DataD.cells l[x]):=by simp [hlt]
  have hc:=hf l[x] (List.getElem_mem hlt) H
  rw [any_drop hlt] at hn
  generalize l[x]=c at hg hc hn
  obtain ⟨cn,cv,cc,cp⟩:=c
  simp only [DataD.cells,avC,List.map_cons,List.map_nil] at hg hc
  simp only [go_sem,simprocAttr,d1,hlt',hg,List.length_map]
  refine acall_pure hc ?_
  generalize q _=b at hn
  cases b
  ·simp only [go_sem,simprocAttr,wrN x (by omega)]
   exact ⟨x+1,⟨⟨by omega,by simpa using hn⟩,rfl⟩,by omega⟩
  ·simp only [go_sem,simprocAttr]
   exact ⟨(x:Int),rfl,by rw [hn,Bool.true_or]; exact decide_eq_true (by omega)⟩
 ·have d1:decide ((x:Int)<(l.length:Int))=false:=by simp; omega
  simp only [go_sem,simprocAttr,d1]
  refine ⟨-1,rfl,?_⟩
  rw [hn,List.drop_of_length_le (by omega)]
  rfl
theorem anyDataC {f:Nat} {q:DataD->Bool} {l:List DataD} (hf:ElemC f (fun x=>avC x.cells) q l) (H:List AO) :
  ACall Tryz.prog 98 [.p (.l (l.map DataD.cells)),.clo f []] H (pureQ (.p (.b (l.any q))) H):=by
 refine call98 (by simp) ?_
 simp only [go_sem,simprocAttr,mc98,mr98]
 refine (ixDataC hf H).mono ?_
 rintro r H' ⟨rfl,z,rfl,hz⟩
 simp only [go_sem,simprocAttr,hz]
 exact ⟨rfl,rfl⟩
theorem ixStrC {f:Nat} {q:(List UInt8)->Bool} {l:List (List UInt8)} (hf:ElemC f (fun x=>.p (.s x)) q l) (H:List AO) :
  ACall Tryz.prog 202 [.p (.l (namesC l)),.clo f []] H (fun r H'=>H'=H/\∃ z:Int,r=.p (.i .i64 z)/\decide (0<=z)=l.any q):=by
 refine call202 (by simp) ?_
 simp only [go_sem,simprocAttr,mc202,mr202,namesC,List.length_map]
 intro hl
 rw [maxLe] at hl
 refine ⟨Nat,[0,1,4,7,8],fun x st=>(x<=l.length/\l.any q=(l.drop x).any q)/\st=⟨[(0,.p (.l (namesC l))),(1,.clo f []),(4,.p (.i .i64 0)),(7,.p (.i .i64 l.length)),(8,.p (.i .i64 x))],[],H⟩,fun x=>l.length - x,⟨0,?_⟩,?_⟩
 ·simp only [go_sem,simprocAttr,namesC]
  simp
 rintro x _ ⟨⟨hx,hn⟩,rfl⟩
 by_cases hlt:x<l.length
 ·have d1:decide ((x:Int)<(l.length:Int))=true:=by simp; omega
  have hlt':(x:Int)<(l.length:Int):=by omega
  have hg:(l.map fun s=>[PV.s s])[x]?=some [.s l[x]]:=by simp [hlt]
  have hc:=hf l[x] (List.getElem_mem hlt) H
  rw [any_drop hlt] at hn
  generalize l[x]=c at hg hc hn
  simp only [go_sem,simprocAttr,d1,hlt',hg,List.length_map,namesC]
  refine acall_pure hc ?_
  generalize q _=b at hn
  cases b
  ·simp only [go_sem,simprocAttr,wrN x (by omega)]
   exact ⟨x+1,⟨⟨by omega,by simpa using hn⟩,rfl⟩,by omega⟩
  ·simp only [go_sem,simprocAttr]
   exact ⟨(x:Int),rfl,by rw [hn,Bool.true_or]; exact decide_eq_true (by omega)⟩
 ·have d1:decide ((x:Int)<(l.length:Int))=false:=by simp; omega
  simp only [go_sem,simprocAttr,d1]
  refine ⟨-1,rfl,?_⟩
  rw [hn,List.drop_of_length_le (by omega)]
  rfl
theorem anyStrC {f:Nat} {q:(List UInt8)->Bool} {l:List (List UInt8)} (hf:ElemC f (fun x=>.p (.s x)) q l) (H:List AO) :
  ACall Tryz.prog 153 [.p (.l (namesC l)),.clo f []] H (pureQ (.p (.b (l.any q))) H):=by
 refine call153 (by simp) ?_
 simp only [go_sem,simprocAttr,mc153,mr153]
 refine (ixStrC hf H).mono ?_
 rintro r H' ⟨rfl,z,rfl,hz⟩
 simp only [go_sem,simprocAttr,hz]
 exact ⟨rfl,rfl⟩
theorem b2 {a b:Bool} (h:a=b):AV.p (.b a)=AV.p (.b b):=by rw [h]
theorem any_not {α:Type} (q:α->Bool) (l:List α):(l.any fun x=>!q x)=!l.all q:=by
 induction l with
 | nil=>rfl
 | cons a l ih=>rw [List.any_cons,List.all_cons,ih,Bool.not_and]
def PatOkC (x:PatD):Prop:=∀ H:List AO,ACall Tryz.prog 147 [avC x.cells] H (pureQ (.p (.b x.okB)) H)
theorem patNotC {ks:List PatD} (hk:∀ x∈ks,PatOkC x):ElemC 198 (fun x:PatD=>avC x.cells) (fun x=>!x.okB) ks:=by
 intro x hx H
 refine acall_drop1 ?_ (tf_p _)
 refine call198 (by simp) ?_
 have hc:=hk x hx
 obtain ⟨k,n,u,p,ks⟩:=x
 simp only [PatD.cells,avC,List.map_cons,List.map_nil,PatOkC] at hc ⊢
 simp only [go_sem,simprocAttr,mc198,mr198]
 refine acall_pure (hc _) ?_
 simp only [go_sem,simprocAttr]
 exact ⟨_,rfl⟩
theorem pat_okC (k:Int) (n:List UInt8) (u p:Int) (ks:List PatD) (hn:n.length<=1073741824) (hk:∀ x∈ks,PatOkC x):PatOkC (.mk k n u p ks):=by
 intro H
 have hc:=anyPatC (patNotC hk)
 rw [any_not,<- PatD.okL_eq] at hc
 refine acall_drop1 ?_ (tf_p _)
 refine call147 (by simp) ?_
 simp only [go_sem,simprocAttr,mc147,mr147,PatD.cells,PatD.cellsL_eq,avC,List.length_map]
 repeat' first
  | (with_reducible refine condK_split _ (fun h=>?_) (fun h=>?_) <;> simp only [go_sem,simprocAttr,h,List.length_map])
  | (with_reducible refine acall_pure (lowC hn _) ?_; simp only [go_sem,simprocAttr,List.length_map])
  | (with_reducible refine acall_pure (hc _) ?_; simp only [go_sem,simprocAttr,List.length_map])
  | (with_reducible refine acall_pure (withinC _ _ _ _) ?_; simp only [go_sem,simprocAttr,List.length_map])
  | (with_reducible refine pcall_pure (fun A=>upC hn _) (Hext.refl _) ?_; simp only [go_sem,simprocAttr,List.length_map])
  | (refine drw_same ?_; simp only [go_sem,simprocAttr,List.length_map])
  | (refine And.intro (by (try simp only [maxLe,LL]); omega) ?_; try simp only [go_sem,simprocAttr,List.length_map])
  | (intro _)
 all_goals refine ⟨b2 ?_,_,rfl⟩
 all_goals rw [PatD.okB,patH]
 all_goals generalize (ks.length:Int)=m at *
 all_goals simp only [decide_eq_true_eq,decide_eq_false_iff_not,Bool.and_eq_true] at *
 all_goals (simp [*]; done)
theorem patOkC (p : PatD) (h : p.sz ≤ 1073741824) : PatOkC p := by
  have : ∀ (m : Nat) (p : PatD), p.sz < m → p.sz ≤ 1073741824 → PatOkC p := by
    intro m
    induction m with
    | zero => intro p h; omega
    | succ m ih =>
      intro p h h2
      obtain ⟨k, n, u, q, ks⟩ := p
      rw [PatD.sz, PatD.szL_eq] at h h2
      exact pat_okC _ _ _ _ _ (by omega) fun a ha => ih a (by have := sumSz_mem PatD.sz ha; omega) (by have := sumSz_mem PatD.sz ha; omega)
  exact this _ p (Nat.lt_succ_self _) h
def TyOkC (x:TyE):Prop:=∀ H:List AO,ACall Tryz.prog 150 [avC x.cells] H (pureQ (.p (.b x.okB)) H)
theorem tyNotC {ks:List TyE} (hk:∀ x∈ks,TyOkC x):ElemC 200 (fun x:TyE=>avC x.cells) (fun x=>!x.okB) ks:=by
 intro x hx H
 refine acall_drop1 ?_ (tf_p _)
 refine call200 (by simp) ?_
 have hc:=hk x hx
 obtain ⟨k,n,p,ks⟩:=x
 simp only [TyE.cells,avC,List.map_cons,List.map_nil,TyOkC] at hc ⊢
 simp only [go_sem,simprocAttr,mc200,mr200]
 refine acall_pure (hc _) ?_
 simp only [go_sem,simprocAttr]
 exact ⟨_,rfl⟩
theorem ty_okC (k:Int) (n:List UInt8) (p:Int) (ks:List TyE) (hn:n.length<=1073741824) (hk:∀ x∈ks,TyOkC x):TyOkC (.mk k n p ks):=by
 intro H
 have hc:=anyTyC (tyNotC hk)
 rw [any_not,<- TyE.okL_eq] at hc
 refine acall_drop1 ?_ (tf_p _)
 refine call150 (by simp) ?_
 simp only [go_sem,simprocAttr,mc150,mr150,TyE.cells,TyE.cellsL_eq,avC,List.length_map]
 repeat' first
  | (with_reducible refine condK_split _ (fun h=>?_) (fun h=>?_) <;> simp only [go_sem,simprocAttr,h,List.length_map])
  | (with_reducible refine acall_pure (lowC hn _) ?_; simp only [go_sem,simprocAttr,List.length_map])
  | (with_reducible refine acall_pure (hc _) ?_; simp only [go_sem,simprocAttr,List.length_map])
  | (with_reducible refine pcall_pure (fun A=>nameBC smallC hn _) (Hext.refl _) ?_; simp only [go_sem,simprocAttr,List.length_map])
  | (with_reducible refine pcall_pure (fun A=>lowC hn _) (Hext.refl _) ?_; simp only [go_sem,simprocAttr,List.length_map])
  | (refine drw_same ?_; simp only [go_sem,simprocAttr,List.length_map])
  | (refine And.intro (by (try simp only [maxLe,LL]); omega) ?_; try simp only [go_sem,simprocAttr,List.length_map])
  | (intro _)
 all_goals refine ⟨b2 ?_,_,rfl⟩
 all_goals rw [TyE.okB,typH]
 all_goals generalize (ks.length:Int)=m at *
 all_goals simp only [decide_eq_true_eq,decide_eq_false_iff_not,Bool.and_eq_true] at *
 all_goals (simp [*]; done)
theorem tyOkC (p : TyE) (h : p.sz ≤ 1073741824) : TyOkC p := by
  have : ∀ (m : Nat) (p : TyE), p.sz < m → p.sz ≤ 1073741824 → TyOkC p := by
    intro m
    induction m with
    | zero => intro p h; omega
    | succ m ih =>
      intro p h h2
      obtain ⟨k, n, q, ks⟩ := p
      rw [TyE.sz, TyE.szL_eq] at h h2
      exact ty_okC _ _ _ _ (by omega) fun a ha => ih a (by have := sumSz_mem TyE.sz ha; omega) (by have := sumSz_mem TyE.sz ha; omega)
  exact this _ p (Nat.lt_succ_self _) h
theorem tyNoC (x:TyE) (H:List AO):ACall Tryz.prog 151 [avC x.cells] H (pureQ (.p (.b x.noB)) H):=by
 obtain ⟨k,n,p,ks⟩:=x
 refine acall_drop1 ?_ (tf_p _)
 refine call151 (by simp) ?_
 simp only [go_sem,simprocAttr,mc151,mr151,TyE.cells,TyE.cellsL_eq,avC,List.length_map]
 repeat' first
  | (with_reducible refine condK_split _ (fun h=>?_) (fun h=>?_) <;> simp only [go_sem,simprocAttr,h,List.length_map])
  | (refine drw_same ?_; simp only [go_sem,simprocAttr,List.length_map])
  | (refine And.intro (by (try simp only [maxLe,LL]); omega) ?_; try simp only [go_sem,simprocAttr,List.length_map])
  | (intro _)
 all_goals refine ⟨b2 ?_,_,rfl⟩
 all_goals rw [TyE.noB]
 all_goals simp only [decide_eq_true_eq,decide_eq_false_iff_not,Bool.and_eq_true] at *
 all_goals (simp [*]; done)
theorem plainC {s:List UInt8} (hs:s.length<=1073741824) (H:List AO):ACall Tryz.prog 193 [.p (.s s)] H (pureQ (.p (.b (plainB s))) H):=by
 refine call193 (by simp) ?_
 simp only [go_sem,simprocAttr,mc193,mr193]
 refine ⟨Nat,[0,2,3],fun x st=>(x<=s.length/\s.all chB=(s.drop x).all chB)/\st=⟨[(0,.p (.s s)),(2,.p (.b false)),(3,.p (.i .i64 x))],[],H⟩,fun x=>s.length - x,⟨0,?_⟩,?_⟩
 ·simp only [go_sem,simprocAttr]
  simp
 rintro x _ ⟨⟨hx,hn⟩,rfl⟩
 by_cases hlt:x<s.length
 ·have d1:decide ((x:Int)<(s.length:Int))=true:=by simp; omega
  have hg:s[x]?=some s[x]:=by simp [hlt]
  rw [all_drop hlt] at hn
  generalize s[x]=c at hg hn
  simp only [go_sem,simprocAttr,d1,hg]
  intro _
  refine acall_pure (withinC _ _ _ _) ?_
  have ew:wr .i64 (c.toNat:Int)=c.toNat:=wr64 (by omega) (by have:=c.toNat_lt; omega)
  simp only [go_sem,simprocAttr,ew]
  have e1:isPl c=(decide ((32:Int)<=(c.toNat:Int)) && decide ((c.toNat:Int)<=126)):=rfl
  rw [<- e1]
  cases h1:isPl c
  ·simp only [go_sem,simprocAttr,h1,hg]
   cases h2:decide ((c.toNat:Int)=10)
   ·simp only [go_sem,simprocAttr,h2]
    refine ⟨b2 ?_,rfl⟩
    rw [plainB,hn,chB,h1,h2]; rfl
   ·simp only [go_sem,simprocAttr,h2,wrN x (by omega)]
    exact ⟨x+1,⟨⟨by omega,by rw [hn,chB,h1,h2]; rfl⟩,rfl⟩,by omega⟩
  ·simp only [go_sem,simprocAttr,h1,wrN x (by omega)]
   exact ⟨x+1,⟨⟨by omega,by rw [hn,chB,h1]; rfl⟩,rfl⟩,by omega⟩
 ·have d1:decide ((x:Int)<(s.length:Int))=false:=by simp; omega
  simp only [go_sem,simprocAttr,d1]
  intro _
  refine ⟨b2 ?_,rfl⟩
  rw [plainB,hn,List.drop_of_length_le (by omega)]; rfl
theorem binSC (s:List UInt8) (H:List AO):ACall Tryz.prog 195 [.p (.s s)] H (pureQ (.p (.b (binB s))) H):=by
 refine acall_drop1 ?_ (tf_p _)
 refine call195 (by simp) ?_
 simp only [go_sem,simprocAttr,mc195,mr195]
 refine acall_pure (containsC (L:=[[43],[45],[42],[94],[61],[60],[58,61]]) (t:=s) (by rw [gx0]; rfl) (by decide)) ?_
 simp only [go_sem,simprocAttr]
 exact ⟨rfl,_,rfl⟩
theorem arityC (s:List UInt8) (H:List AO):ACall Tryz.prog 196 [.p (.s s)] H (pureQ (.p (.i .i64 (arity s))) H):=by
 refine call196 (by simp) ?_
 simp only [go_sem,simprocAttr,mc196,mr196]
 repeat' first
  | (with_reducible refine condK_split _ (fun h=>?_) (fun h=>?_) <;> simp only [go_sem,simprocAttr,h])
  | (refine drw_same ?_; simp only [go_sem,simprocAttr])
  | (refine And.intro (by (try simp only [maxLe,LL]); omega) ?_; try simp only [go_sem,simprocAttr])
  | (intro _)
 all_goals refine ⟨?_,rfl⟩
 all_goals simp only [decide_eq_true_eq,decide_eq_false_iff_not] at *
 all_goals (simp [arity,primB, *]; done)
theorem headC (k:Int) (n:List UInt8) (u:Int) (t:List UInt8) (p:Int) (ks:List ExpD) (as':List ArmD) (hn:n.length<=1073741824) (ht:t.length<=1073741824) (H:List AO) :
  ACall Tryz.prog 146 [avC (ExpD.cells (.mk k n u t p ks as'))] H (pureQ (.p (.b (expH k n u t p ks.length as'.length))) H):=by
 refine acall_drop1 ?_ (tf_p _)
 refine call146 (by simp) ?_
 simp only [go_sem,simprocAttr,mc146,mr146,ExpD.cells,ExpD.cellsL_eq,ExpD.cellsA_eq,avC,List.length_map]
 repeat' first
  | (with_reducible refine condK_split _ (fun h=>?_) (fun h=>?_) <;> simp only [go_sem,simprocAttr,h,List.length_map])
  | (with_reducible refine acall_pure (lowC hn _) ?_; simp only [go_sem,simprocAttr,List.length_map])
  | (with_reducible refine acall_pure (withinC _ _ _ _) ?_; simp only [go_sem,simprocAttr,List.length_map])
  | (with_reducible refine acall_pure (plainC ht _) ?_; simp only [go_sem,simprocAttr,List.length_map])
  | (with_reducible refine pcall_pure (fun A=>upC hn _) (Hext.refl _) ?_; simp only [go_sem,simprocAttr,List.length_map])
  | (with_reducible refine pcall_pure (fun A=>lowC hn _) (Hext.refl _) ?_; simp only [go_sem,simprocAttr,List.length_map])
  | (with_reducible refine pcall_pure (fun A=>lowC ht _) (Hext.refl _) ?_; simp only [go_sem,simprocAttr,List.length_map])
  | (with_reducible refine pcall_pure (fun A=>binSC n _) (Hext.refl _) ?_; simp only [go_sem,simprocAttr,List.length_map])
  | (with_reducible refine pcall_pure (fun A=>arityC n _) (Hext.refl _) ?_; simp only [go_sem,simprocAttr,List.length_map])
  | (refine drw_same ?_; simp only [go_sem,simprocAttr,List.length_map])
  | (refine And.intro (by (try simp only [maxLe,LL]); omega) ?_; try simp only [go_sem,simprocAttr,List.length_map])
  | (intro _)
 all_goals refine ⟨b2 ?_,_,rfl⟩
 all_goals rw [expH]
 all_goals generalize (ks.length:Int)=m at *
 all_goals generalize (as'.length:Int)=a at *
 all_goals simp only [decide_eq_true_eq,decide_eq_false_iff_not,Bool.and_eq_true] at *
 all_goals (simp [*]; done)
def ExpOkC (x:ExpD):Prop:=∀ H:List AO,ACall Tryz.prog 97 [avC x.cells] H (pureQ (.p (.b x.okB)) H)
def Bh (H:List AO) (V:AO) (X:List AO):Prop:=∃ G,X=H++V :: G
theorem Bh.at {H X:List AO} {V:AO} (h:Bh H V X) (A:List AO):(X++A)[H.length]?=some V:=by obtain ⟨G,rfl⟩:=h; simp
theorem Bh.at0 {H X:List AO} {V:AO} (h:Bh H V X):X[H.length]?=some V:=by obtain ⟨G,rfl⟩:=h; simp
theorem Bh.ext {H X:List AO} {V:AO} (h:Bh H V X) (A:List AO):Bh H V (X++A):=by obtain ⟨G,rfl⟩:=h; exact ⟨G++A,by simp⟩
theorem Bh.nil (H:List AO) (V:AO):Bh H V (H++[V]):=⟨[],rfl⟩
theorem Bh.ends {H X:List AO} {V:AO} (h:Bh H V X):∃ G,X=H++G:=by obtain ⟨G,rfl⟩:=h; exact ⟨_,rfl⟩
theorem armC (q:PatD) (e:ExpD):ArmD.cells (.mk q e)=q.cells++e.cells:=by rw [ArmD.cells]
theorem expOk_C (k:Int) (n:List UInt8) (u:Int) (t:List UInt8) (p:Int) (ks:List ExpD) (as':List ArmD) (hn:n.length<=1073741824) (ht:t.length<=1073741824) (hk:∀ x∈ks,ExpOkC x) (ha:∀ q e,ArmD.mk q e∈as'->PatOkC q/\ExpOkC e):ExpOkC (.mk k n u t p ks as'):=by
 intro H
 refine acall_drop1 ?_ (tf_p _)
 refine call97 (by simp) ?_
 have hh:=headC k n u t p ks as' hn ht
 simp only [ExpD.cells,ExpD.cellsL_eq,ExpD.cellsA_eq,avC,List.map_cons,List.map_nil] at hh
 rw [ExpD.okB,ExpD.okL_eq,ExpD.okA_eq]
 simp only [go_sem,simprocAttr,mc97,mr97,ExpD.cells,ExpD.cellsL_eq,ExpD.cellsA_eq,avC,List.length_map]
 refine acall_pure (hh _) ?_
 simp only [go_sem,simprocAttr]
 generalize expH k n u t p ks.length as'.length=b
 cases b
 ·simp only [go_sem,simprocAttr]
  exact ⟨b2 rfl,_,rfl⟩
 simp only [go_sem,simprocAttr,List.length_map,Bool.true_and]
 intro hl
 rw [maxLe] at hl
 have hB:=Bh.nil H (.var [.p (.i .i64 k),.p (.s n),.p (.i .i64 u),.p (.s t),.p (.i .i64 p),.p (.l (ks.map ExpD.cells)),.p (.l (as'.map ArmD.cells))])
 generalize hV:AO.var [.p (.i .i64 k),.p (.s n),.p (.i .i64 u),.p (.s t),.p (.i .i64 p),.p (.l (ks.map ExpD.cells)),.p (.l (as'.map ArmD.cells))]=V at hB
 generalize H++[V]=X at hB
 refine ⟨Nat × List AO,[1,2,11,12,13],fun x st=>(x.1<=ks.length/\ks.all ExpD.okB=(ks.drop x.1).all ExpD.okB/\Bh H V x.2)/\st=⟨[(1,.ptr H.length 0),(2,.p (.b false)),(11,.p (.l (ks.map ExpD.cells))),(12,.p (.i .i64 ks.length)),(13,.p (.i .i64 x.1))],[],x.2⟩,fun x=>ks.length - x.1,⟨(0,X),?_⟩,?_⟩
 ·simp only [go_sem,simprocAttr]
  exact ⟨by simp,hB⟩
 rintro ⟨x,Y⟩ _ ⟨⟨hx,hn,hY⟩,rfl⟩
 simp only at hx hn hY
 by_cases hlt:x<ks.length
 ·have d1:decide ((x:Int)<(ks.length:Int))=true:=by simp; omega
  have hlt':(x:Int)<(ks.length:Int):=by omega
  have hg:(ks.map ExpD.cells)[x]?=some (ExpD.cells ks[x]):=by simp [hlt]
  have hc:=fun H=>hk ks[x] (List.getElem_mem hlt) H
  rw [all_drop hlt] at hn
  generalize ks[x]=c at hg hc hn
  obtain ⟨ck,cn,cu,ct,cp,cks,cas⟩:=c
  simp only [ExpD.cells,avC,List.map_cons,List.map_nil,ExpOkC] at hg hc
  simp only [go_sem,simprocAttr,d1,hlt',hg,List.length_map]
  refine acall_pure (hc _) ?_
  generalize ExpD.okB _=b at hn
  cases b
  ·simp only [go_sem,simprocAttr]
   exact ⟨b2 (by rw [hn]; rfl),(hY.ext _).ends⟩
  ·simp only [go_sem,simprocAttr,wrN x (by omega)]
   exact ⟨(x+1,_),⟨⟨by omega,by simpa using hn,hY.ext _⟩,rfl⟩,by simp only; omega⟩
 ·have d1:decide ((x:Int)<(ks.length:Int))=false:=by simp; omega
  rw [List.drop_of_length_le (by omega),List.all_nil] at hn
  rw [hn,Bool.true_and]
  have hz:=hY.at0
  rw [<- hV] at hz
  simp only [go_sem,simprocAttr,d1,hz,List.length_map]
  intro hl2
  rw [maxLe] at hl2
  refine ⟨Nat × List AO,[2,22,23,24],fun x st=>(x.1<=as'.length/\as'.all ArmD.okB=(as'.drop x.1).all ArmD.okB/\∃ G,x.2=H++G)/\st=⟨[(2,.p (.b false)),(22,.p (.l (as'.map ArmD.cells))),(23,.p (.i .i64 as'.length)),(24,.p (.i .i64 x.1))],[],x.2⟩,fun x=>as'.length - x.1,⟨(0,Y),?_⟩,?_⟩
  ·simp only [go_sem,simprocAttr]
   exact ⟨by simp,hY.ends⟩
  rintro ⟨y,Z⟩ _ ⟨⟨hy,hm,hZ⟩,rfl⟩
  simp only at hy hm hZ
  by_cases hlt:y<as'.length
  ·have d2:decide ((y:Int)<(as'.length:Int))=true:=by simp; omega
   have hlt':(y:Int)<(as'.length:Int):=by omega
   have hg:(as'.map ArmD.cells)[y]?=some (ArmD.cells as'[y]):=by simp [hlt]
   have hc:∀ q e,as'[y]=ArmD.mk q e->PatOkC q/\ExpOkC e:=fun q e he=>ha q e (by rw [<- he]; exact List.getElem_mem hlt)
   rw [all_drop hlt] at hm
   generalize as'[y]=c at hg hc hm
   obtain ⟨⟨qk,qn,qu,qp,qks⟩,⟨ck,cn,cu,ct,cp,cks,cas⟩⟩:=c
   obtain ⟨h1,h2⟩:=hc _ _ rfl
   simp only [armC,PatD.cells,ExpD.cells,avC,List.map_cons,List.map_nil,ExpOkC,PatOkC,List.cons_append,List.nil_append] at hg h1 h2
   have hZ':∀ A,∃ G,Z++A=H++G:=fun A=>by obtain ⟨G,rfl⟩:=hZ; exact ⟨G++A,by simp⟩
   rw [ArmD.okB] at hm
   generalize PatD.okB _=b1 at hm h1
   generalize ExpD.okB _=b2' at hm h2
   simp only [go_sem,simprocAttr,d2,hlt',hg,List.length_map]
   refine acall_pure (h1 _) ?_
   cases b1
   ·simp only [go_sem,simprocAttr]
    exact ⟨b2 (by rw [hm]; rfl),hZ' _⟩
   simp only [go_sem,simprocAttr]
   refine acall_pure (h2 _) ?_
   cases b2'
   ·simp only [go_sem,simprocAttr]
    exact ⟨b2 (by rw [hm]; rfl),hZ' _⟩
   simp only [go_sem,simprocAttr,wrN y (by omega)]
   exact ⟨(y+1,_),⟨⟨by omega,by simpa using hm,hZ' _⟩,rfl⟩,by simp only; omega⟩
  ·have d2:decide ((y:Int)<(as'.length:Int))=false:=by simp; omega
   rw [List.drop_of_length_le (by omega),List.all_nil] at hm
   simp only [go_sem,simprocAttr,d2]
   exact ⟨b2 (by rw [hm]),hZ⟩
theorem expOkC (p : ExpD) (h : p.sz ≤ 1073741824) : ExpOkC p := by
  have : ∀ (m : Nat) (p : ExpD), p.sz < m → p.sz ≤ 1073741824 → ExpOkC p := by
    intro m
    induction m with
    | zero => intro p h; omega
    | succ m ih =>
      intro p h h2
      obtain ⟨k, n, u, t, q, ks, as'⟩ := p
      rw [ExpD.sz, ExpD.szL_eq, ExpD.szA_eq] at h h2
      refine expOk_C _ _ _ _ _ _ _ (by omega) (by omega) (fun a ha => ih a (by have := sumSz_mem ExpD.sz ha; omega) (by have := sumSz_mem ExpD.sz ha; omega)) fun q e ha => ?_
      have := sumSz_mem ArmD.sz ha
      rw [ArmD.sz] at this
      exact ⟨patOkC q (by omega), ih e (by omega) (by omega)⟩
  exact this _ p (Nat.lt_succ_self _) h
theorem nameNotC {l:List (List UInt8)} (hs:∀ s∈l,s.length<=1073741824):ElemC 154 (fun s:List UInt8=>.p (.s s)) (fun s=>!nmB isSm s) l:=by
 intro s hx H
 refine call154 (by simp) ?_
 simp only [go_sem,simprocAttr,mc154,mr154]
 refine acall_pure (nameBC smallC (hs s hx) _) ?_
 simp only [go_sem,simprocAttr]
 exact ⟨rfl,rfl⟩
def DataOkC (x:DataD):Prop:=∀ H:List AO,ACall Tryz.prog 100 [avC x.cells] H (pureQ (.p (.b x.okB)) H)
theorem dataOkC (d:DataD) (hd:d.sz<=1073741824):DataOkC d:=by
 obtain ⟨n,vs,cs,p⟩:=d
 intro H
 simp only [DataD.sz] at hd
 have hnm:=anyStrC (nameNotC (l:=vs) fun s hs=>by
  have:∀ l:List (List UInt8),s∈l->s.length<=namesSz l:=by
   intro l
   induction l with
   | nil=>intro h; cases h
   | cons a l ih=>intro h; rw [namesSz]; rcases List.mem_cons.1 h with rfl | h; omega; have:=ih h; omega
  have:=this vs hs
  omega)
 rw [any_not] at hnm
 have hcs:∀ c∈cs,c.sz<=1073741824:=fun c hc=>by
  have:∀ l:List CtorD,c∈l->c.sz<=ctorsSz l:=by
   intro l
   induction l with
   | nil=>intro h; cases h
   | cons a l ih=>intro h; rw [ctorsSz]; rcases List.mem_cons.1 h with rfl | h; omega; have:=ih h; omega
  have:=this cs hc
  omega
 refine acall_drop1 ?_ (tf_p _)
 simp only [DataD.okB]
 generalize vs.all (nmB isSm)=vb at hnm ⊢
 refine call100 (by simp) ?_
 simp only [go_sem,simprocAttr,mc100,mr100,DataD.cells,avC,List.length_map]
 intro hl
 rw [maxLe] at hl
 have hB:=Bh.nil H (.var [.p (.s n),.p (.l (namesC vs)),.p (.l (cs.map CtorD.cells)),.p (.i .i64 p)])
 generalize hV:AO.var [.p (.s n),.p (.l (namesC vs)),.p (.l (cs.map CtorD.cells)),.p (.i .i64 p)]=V at hB
 generalize H++[V]=X at hB
 refine ⟨Nat × List AO,[1,2,6,7,8],fun x st=>(x.1<=cs.length/\cs.all CtorD.okB=(cs.drop x.1).all CtorD.okB/\Bh H V x.2)/\st=⟨[(1,.ptr H.length 0),(2,.p (.b false)),(6,.p (.l (cs.map CtorD.cells))),(7,.p (.i .i64 cs.length)),(8,.p (.i .i64 x.1))],[],x.2⟩,fun x=>cs.length - x.1,⟨(0,X),?_⟩,?_⟩
 ·simp only [go_sem,simprocAttr]
  exact ⟨by simp,hB⟩
 rintro ⟨x,Y⟩ _ ⟨⟨hx,hn,hY⟩,rfl⟩
 simp only at hx hn hY
 by_cases hlt:x<cs.length
 ·have d1:decide ((x:Int)<(cs.length:Int))=true:=by simp; omega
  have hlt':(x:Int)<(cs.length:Int):=by omega
  have hg:(cs.map CtorD.cells)[x]?=some (CtorD.cells cs[x]):=by simp [hlt]
  have hc:=hcs cs[x] (List.getElem_mem hlt)
  rw [all_drop hlt] at hn
  generalize cs[x]=c at hg hc hn
  obtain ⟨cn,ch,ca,cp⟩:=c
  simp only [CtorD.sz] at hc
  have t1:=tyOkC ca (by omega)
  have t2:=tyNoC ca
  obtain ⟨ak,an,ap,aks⟩:=ca
  simp only [CtorD.cells,TyE.cells,avC,List.map_cons,List.map_nil,TyOkC,List.cons_append,List.nil_append] at hg t1 t2
  simp only [CtorD.okB] at hn
  generalize TyE.okB _=o1 at hn t1
  generalize TyE.noB _=o2 at hn t2
  generalize hr:(cs.drop (x+1)).all CtorD.okB=rest at hn
  have hz:∀ A,∃ G,Y++A=H++G:=fun A=>(hY.ext A).ends
  have hz2:=fun A=>hY.ext A
  simp only [go_sem,simprocAttr,d1,hlt',hg,List.length_map]
  cases ch
  all_goals
   repeat' first
    | (with_reducible refine condK_split _ (fun h=>?_) (fun h=>?_) <;> simp only [go_sem,simprocAttr,h,wrN x (by omega)])
    | (with_reducible refine acall_pure (upC (by omega) _) ?_; simp only [go_sem,simprocAttr,wrN x (by omega)])
    | (with_reducible refine acall_pure (t1 _) ?_; simp only [go_sem,simprocAttr,wrN x (by omega)])
    | (with_reducible refine acall_pure (t2 _) ?_; simp only [go_sem,simprocAttr,wrN x (by omega)])
    | (refine drw_same ?_; simp only [go_sem,simprocAttr,wrN x (by omega)])
    | (refine And.intro (by (try simp only [maxLe,LL]); omega) ?_; try simp only [go_sem,simprocAttr,wrN x (by omega)])
    | (intro _)
  all_goals first
   | (refine ⟨b2 ?_,hz _⟩; rw [hn]; clear hr hn hz hz2 t1 t2 hnm hcs hd hl hV hB hY hx hlt d1 hlt' hg hc; simp_all; done)
   | (refine ⟨(x+1,_),⟨⟨by omega,hn.trans (Eq.trans ?_ hr.symm),hz2 _⟩,rfl⟩,by simp only; omega⟩; clear hr hn hz hz2 t1 t2 hnm hcs hd hl hV hB hY hx hlt d1 hlt' hg hc; simp_all; done)
   | trace_state
 ·have d1:decide ((x:Int)<(cs.length:Int))=false:=by simp; omega
  rw [List.drop_of_length_le (by omega),List.all_nil] at hn
  have hz:=hY.at0
  rw [<- hV] at hz
  simp only [go_sem,simprocAttr,d1,hz]
  repeat' first
   | (with_reducible refine condK_split _ (fun h=>?_) (fun h=>?_) <;> simp only [go_sem,simprocAttr,h,hz,List.length_map])
   | (with_reducible refine acall_pure (lowC (by omega) _) ?_; simp only [go_sem,simprocAttr,hz,List.length_map])
   | (with_reducible refine acall_pure (hnm _) ?_; simp only [go_sem,simprocAttr,hz,List.length_map])
   | (refine drw_same ?_; simp only [go_sem,simprocAttr,hz,List.length_map])
   | (refine And.intro (by (try simp only [maxLe,LL]); omega) ?_; try simp only [go_sem,simprocAttr,hz,List.length_map])
   | (intro _)
  all_goals refine ⟨b2 ?_,hY.ends⟩
  all_goals generalize (cs.length:Int)=m at *
  all_goals simp only [decide_eq_true_eq,decide_eq_false_iff_not,Bool.and_eq_true] at *
  all_goals (simp [*]; done)
theorem dataNotC {l:List DataD} (hk:∀ x∈l,DataOkC x):ElemC 99 (fun x:DataD=>avC x.cells) (fun x=>!x.okB) l:=by
 intro x hx H
 refine acall_drop1 ?_ (tf_p _)
 refine call99 (by simp) ?_
 have hc:=hk x hx
 obtain ⟨n,vs,cs,p⟩:=x
 simp only [DataD.cells,avC,List.map_cons,List.map_nil,DataOkC] at hc ⊢
 simp only [go_sem,simprocAttr,mc99,mr99]
 refine acall_pure (hc _) ?_
 simp only [go_sem,simprocAttr]
 exact ⟨_,rfl⟩
theorem datasSz_mem {x : DataD} : ∀ {l : List DataD}, x ∈ l → x.sz ≤ datasSz l
  | [], h => by cases h
  | a :: l, h => by
    rw [datasSz]
    rcases List.mem_cons.1 h with rfl | h
    · omega
    · have := datasSz_mem h; omega
theorem progOkC (g:ProgD) (hg:g.sz<=1073741824) (H:List AO):ACall Tryz.prog 51 [avC g.cells] H (pureQ (.p (.b g.okB)) H):=by
 obtain ⟨ds,b⟩:=g
 simp only [ProgD.sz] at hg
 have h1:=expOkC b (by omega)
 have h2:=anyDataC (dataNotC (l:=ds) fun x hx=>dataOkC x (by have:=datasSz_mem hx; omega))
 rw [any_not] at h2
 simp only [ProgD.okB]
 generalize ds.all DataD.okB=o2 at h2 ⊢
 rw [ExpOkC] at h1
 generalize b.okB=o1 at h1 ⊢
 obtain ⟨k,n,u,t,p,ks,as'⟩:=b
 simp only [ExpD.cells,avC,List.map_cons,List.map_nil] at h1
 refine acall_drop1 ?_ (tf_p _)
 refine call51 (by simp) ?_
 simp only [go_sem,simprocAttr,mc51,mr51,ProgD.cells,ExpD.cells,avC]
 repeat' first
  | (with_reducible refine condK_split _ (fun h=>?_) (fun h=>?_) <;> simp only [go_sem,simprocAttr,h])
  | (with_reducible refine acall_pure (h1 _) ?_; simp only [go_sem,simprocAttr])
  | (with_reducible refine acall_pure (h2 _) ?_; simp only [go_sem,simprocAttr])
  | (refine drw_same ?_; simp only [go_sem,simprocAttr])
  | (refine And.intro (by (try simp only [maxLe,LL]); omega) ?_; try simp only [go_sem,simprocAttr])
  | (intro _)
 all_goals first
  | exact ⟨_,rfl⟩
  | (refine ⟨b2 ?_,_,rfl⟩; simp [*]; done)
end Go.Proofs.YtghcmccjchdgeaaGreatDoor.Qp
set_option linter.all false
set_option maxRecDepth 100000
namespace Go.Proofs.YtghcmccjchdgeaaGreatDoor.Mc
open Go.AM
def mc5:Got (Tryz.f5.body.map (compile [0,2,3,4,5,6,9,28] Tryz.prog 29)):=⟨_,by conv=>lhs; cbv⟩
def mr5:List MR:=[.t 2]
theorem call5:CallT Tryz.prog 5 29 mc5.m mr5:=mc5.call Tryz.func5 (by kernel_rfl)
def mc18:Got (Tryz.f18.body.map (compile [0,2,3,4,5,13] Tryz.prog 18)):=⟨_,by conv=>lhs; cbv⟩
def mr18:List MR:=[.t 2,.cell true 2 3]
theorem call18:CallT Tryz.prog 18 18 mc18.m mr18:=mc18.call Tryz.func18 (by kernel_rfl)
def mc43:Got (Tryz.f43.body.map (compile [0,1,2,3,4,5,6,7,10,15,29,50,54,70] Tryz.prog 89)):=⟨_,by conv=>lhs; cbv⟩
def mr43:List MR:=[.t 2]
theorem call43:CallT Tryz.prog 43 89 mc43.m mr43:=mc43.call Tryz.func43 (by kernel_rfl)
def mc79:Got (Tryz.f79.body.map (compile [0,1,2,3,4,5,6,7,12,34,39,48,53,90] Tryz.prog 94)):=⟨_,by conv=>lhs; cbv⟩
def mr79:List MR:=[.t 2]
theorem call79:CallT Tryz.prog 79 94 mc79.m mr79:=mc79.call Tryz.func79 (by kernel_rfl)
def mc80:Got (Tryz.f80.body.map (compile [0,1,2,4,5,6,7,8,10,15,20,32,46,52,56,67] Tryz.prog 76)):=⟨_,by conv=>lhs; cbv⟩
def mr80:List MR:=[.t 4]
theorem call80:CallT Tryz.prog 80 76 mc80.m mr80:=mc80.call Tryz.func80 (by kernel_rfl)
def mc81:Got (Tryz.f81.body.map (compile [0,1,2,4] Tryz.prog 11)):=⟨_,by conv=>lhs; cbv⟩
def mr81:List MR:=[.t 4]
theorem call81:CallT Tryz.prog 81 11 mc81.m mr81:=mc81.call Tryz.func81 (by kernel_rfl)
def mc120:Got (Tryz.f120.body.map (compile [0,2] Tryz.prog 10)):=⟨_,by conv=>lhs; cbv⟩
def mr120:List MR:=[.t 2]
theorem call120:CallT Tryz.prog 120 10 mc120.m mr120:=mc120.call Tryz.func120 (by kernel_rfl)
def mc121:Got (Tryz.f121.body.map (compile [0,1,4,5,28,32,40] Tryz.prog 41)):=⟨_,by conv=>lhs; cbv⟩
def mr121:List MR:=[.t 4]
theorem call121:CallT Tryz.prog 121 41 mc121.m mr121:=mc121.call Tryz.func121 (by kernel_rfl)
def mc122:Got (Tryz.f122.body.map (compile [0,1,2,3,4,5,13,14,22,34,46,58,75] Tryz.prog 85)):=⟨_,by conv=>lhs; cbv⟩
def mr122:List MR:=[.t 2]
theorem call122:CallT Tryz.prog 122 85 mc122.m mr122:=mc122.call Tryz.func122 (by kernel_rfl)
def mc123:Got (Tryz.f123.body.map (compile [0,1,2] Tryz.prog 22)):=⟨_,by conv=>lhs; cbv⟩
def mr123:List MR:=[.t 2]
theorem call123:CallT Tryz.prog 123 22 mc123.m mr123:=mc123.call Tryz.func123 (by kernel_rfl)
def mc124:Got (Tryz.f124.body.map (compile [0,1,2,3,4,7,12,21,26,46] Tryz.prog 47)):=⟨_,by conv=>lhs; cbv⟩
def mr124:List MR:=[.t 2]
theorem call124:CallT Tryz.prog 124 47 mc124.m mr124:=mc124.call Tryz.func124 (by kernel_rfl)
def mc125:Got (Tryz.f125.body.map (compile [0,1,2,6,9] Tryz.prog 14)):=⟨_,by conv=>lhs; cbv⟩
def mr125:List MR:=[.t 6]
theorem call125:CallT Tryz.prog 125 14 mc125.m mr125:=mc125.call Tryz.func125 (by kernel_rfl)
def mc126:Got (Tryz.f126.body.map (compile [0,1,2,3,4,5,6,8,9,14,19,24,26,30,36,48,54,58,71,83,99,113,119] Tryz.prog 161)):=.of (y:=Tryz.f126.body.map fun c=>(compileF [0,1,2,3,4,5,6,8,9,14,19,24,26,30,36,48,54,58,71,83,99,113,119] Tryz.prog 161 [8,9,12,19,18] c).1) (by conv=>lhs; cbv) (by kernel_rfl)
def mr126:List MR:=[.t 2]
theorem call126:CallT Tryz.prog 126 161 mc126.m mr126:=mc126.call Tryz.func126 (by kernel_rfl)
def mc127:Got (Tryz.f127.body.map (compile [0,1,2,4,5,11,16,18,24] Tryz.prog 25)):=⟨_,by conv=>lhs; cbv⟩
def mr127:List MR:=[.t 2]
theorem call127:CallT Tryz.prog 127 25 mc127.m mr127:=mc127.call Tryz.func127 (by kernel_rfl)
def mc175:Got (Tryz.f175.body.map (compile [0,1,2,3,8,9,22,35,48,56,69,82,90,103,111,124,142,150,164,177] Tryz.prog 199)):=⟨_,by conv=>lhs; cbv⟩
def mr175:List MR:=[.t 2]
theorem call175:CallT Tryz.prog 175 199 mc175.m mr175:=mc175.call Tryz.func175 (by kernel_rfl)
def mc176:Got (Tryz.f176.body.map (compile [0,1,2,3,4,5,6,7,21,22,36,51,66,81,94,114] Tryz.prog 124)):=⟨_,by conv=>lhs; cbv⟩
def mr176:List MR:=[.t 2]
theorem call176:CallT Tryz.prog 176 124 mc176.m mr176:=mc176.call Tryz.func176 (by kernel_rfl)
def mc177:Got (Tryz.f177.body.map (compile [0,2,4] Tryz.prog 15)):=⟨_,by conv=>lhs; cbv⟩
def mr177:List MR:=[.t 2]
theorem call177:CallT Tryz.prog 177 15 mc177.m mr177:=mc177.call Tryz.func177 (by kernel_rfl)
def mc178:Got (Tryz.f178.body.map (compile [0,2,3,4,9,14,21,26] Tryz.prog 39)):=⟨_,by conv=>lhs; cbv⟩
def mr178:List MR:=[.t 2]
theorem call178:CallT Tryz.prog 178 39 mc178.m mr178:=mc178.call Tryz.func178 (by kernel_rfl)
def mc179:Got (Tryz.f179.body.map (compile [0,2,4] Tryz.prog 5)):=⟨_,by conv=>lhs; cbv⟩
def mr179:List MR:=[.t 2]
theorem call179:CallT Tryz.prog 179 5 mc179.m mr179:=mc179.call Tryz.func179 (by kernel_rfl)
def mc181:Got (Tryz.f181.body.map (compile [0,1,2,3,4,6,7,26,49,82] Tryz.prog 106)):=.of (y:=Tryz.f181.body.map fun c=>(compileF [0,1,2,3,4,6,7,26,49,82] Tryz.prog 106 [16,20,19,18] c).1) (by conv=>lhs; cbv) (by kernel_rfl)
def mr181:List MR:=[.t 2]
theorem call181:CallT Tryz.prog 181 106 mc181.m mr181:=mc181.call Tryz.func181 (by kernel_rfl)
def mc220:Got (Tryz.f220.body.map (compile [0,1,2,4,5,6,7,8,12] Tryz.prog 74)):=⟨_,by conv=>lhs; cbv⟩
def mr220:List MR:=[.t 4]
theorem call220:CallT Tryz.prog 220 74 mc220.m mr220:=mc220.call Tryz.func220 (by kernel_rfl)
def mc221:Got (Tryz.f221.body.map (compile [0,2,3,7,21] Tryz.prog 22)):=⟨_,by conv=>lhs; cbv⟩
def mr221:List MR:=[.t 2]
theorem call221:CallT Tryz.prog 221 22 mc221.m mr221:=mc221.call Tryz.func221 (by kernel_rfl)
def mc223:Got (Tryz.f223.body.map (compile [0,2,4] Tryz.prog 20)):=⟨_,by conv=>lhs; cbv⟩
def mr223:List MR:=[.t 2]
theorem call223:CallT Tryz.prog 223 20 mc223.m mr223:=mc223.call Tryz.func223 (by kernel_rfl)
def mc224:Got (Tryz.f224.body.map (compile [0,1,2,4,5,6,7,11,12,14,19,24,26,32,36,49,54] Tryz.prog 67)):=⟨_,by conv=>lhs; cbv⟩
def mr224:List MR:=[.t 4]
theorem call224:CallT Tryz.prog 224 67 mc224.m mr224:=mc224.call Tryz.func224 (by kernel_rfl)
end Go.Proofs.YtghcmccjchdgeaaGreatDoor.Mc
namespace Go.Proofs.YtghcmccjchdgeaaGreatDoor.Qp
open Go.AM Mc Pg
theorem runL_iff (q : UInt8 → Bool) : ∀ l : List UInt8, decide (runL q l = l.length) = l.all q
  | [] => rfl
  | c :: l => by
    have ih := runL_iff q l
    rw [runL, List.all_cons]
    cases hq : q c
    · simp
    · rw [if_pos rfl, Bool.true_and, ← ih]; simp
theorem runAt_iff (q:UInt8->Bool) (s:List UInt8):decide (runAt q s 0=s.length)=s.all q:=by
 unfold runAt
 rw [Nat.zero_add,List.drop_zero,runL_iff]
theorem sm_gr {c:UInt8} (h:isGr c=true):isSm c=false:=by
 simp only [isGr,isSm,Bool.and_eq_true,decide_eq_true_eq,Bool.and_eq_false_iff,decide_eq_false_iff_not] at *
 omega
theorem bq1:(false == true)=false:=rfl
theorem bq2:(true == false)=false:=rfl
theorem bq3:(true == true)=true:=rfl
theorem bq4:(false == false)=true:=rfl
attribute [go_sem] bq1 bq2 bq3 bq4 Bool.not_true Bool.not_false
theorem nameSC (g : Bool) {s : List UInt8} (hs : s.length ≤ 1073741824) (H : List AO) : ACall Tryz.prog 121 [.p (.s s), .p (.b g)] H (pureQ (.p (.b (nmB (if g then isGr else isSm) s))) H) := by
  refine call121 (by simp) ?_
  obtain ⟨T, hT, hm⟩ : ∃ T, T = mc121.m.b.b ∧ mc121.m = .seq mc121.m.a (.seq mc121.m.b.a T) := ⟨_, rfl, rfl⟩
  rw [hm]
  clear hm
  simp only [go_sem, simprocAttr, mc121, mr121]
  intro _
  refine acall_pure (inC _ _ _ _) ?_
  generalize hb : (decide ((1 : Int) ≤ _) && decide (_ ≤ (12 : Int))) = b
  cases b
  · simp only [go_sem, simprocAttr]
    refine ⟨?_, rfl⟩
    cases s with
    | nil => rfl
    | cons c l =>
      have h12 : ¬ (c :: l).length ≤ 12 := by simp at hb ⊢; omega
      simp only [nmB, dF h12, Bool.false_and]
  simp only [Bool.and_eq_true, decide_eq_true_eq] at hb
  have h0 : 0 < s.length := by omega
  have hg : s[0]? = some s[0] := by simp [h0]
  have en : nmB (if g then isGr else isSm) s = ((if g then isGr else isSm) s[0] && s.all isNm) := by
    rw [← runAt_iff]
    cases s with
    | nil => simp at h0
    | cons c l => rw [nmB, dT (show (c :: l).length ≤ 12 by omega)]; rfl
  rw [en]
  clear en
  generalize s[0] = c at hg ⊢
  have main : wpm (ACall Tryz.prog) T (finK mr121 (pureQ (.p (.b (s.all isNm))) H)) ⟨[(0, .p (.s s)), (1, .p (.b g)), (4, .p (.b false)), (28, .p (.b false))], [], H⟩ := by
    subst hT
    clear hg
    simp only [go_sem, simprocAttr, mc121, mr121, Bool.true_and]
    refine ⟨Nat, [0, 4, 5], fun x st => (x ≤ s.length ∧ s.all isNm = (s.drop x).all isNm) ∧ st = ⟨[(0, .p (.s s)), (4, .p (.b false)), (5, .p (.i .i64 x))], [], H⟩, fun x => s.length - x, ⟨0, ?_⟩, ?_⟩
    · simp only [go_sem, simprocAttr]
      simp
    rintro x _ ⟨⟨hx, hn⟩, rfl⟩
    by_cases hlt : x < s.length
    · have d1 : decide ((x : Int) < (s.length : Int)) = true := by simp; omega
      have hg : s[x]? = some s[x] := by simp [hlt]
      rw [all_drop hlt] at hn
      generalize s[x] = c at hg hn
      simp only [go_sem, simprocAttr, d1, hg, byW]
      intro _
      refine acall_pure (nameIC c H) ?_
      cases hc : isNm c
      · simp only [go_sem, simprocAttr, hc]
        exact ⟨b2 (by rw [hn, hc]; rfl), rfl⟩
      · simp only [go_sem, simprocAttr, hc, wrN x (by omega)]
        exact ⟨x + 1, ⟨⟨by omega, by rw [hn, hc]; rfl⟩, rfl⟩, by omega⟩
    · have d1 : decide ((x : Int) < (s.length : Int)) = false := by simp; omega
      rw [List.drop_of_length_le (by omega), List.all_nil] at hn
      simp only [go_sem, simprocAttr, d1]
      intro _
      exact ⟨b2 hn.symm, rfl⟩
  clear hT
  simp only [go_sem, simprocAttr, hg, byW]
  refine acall_pure (upperC c H) ?_
  cases g
  · cases h1 : isGr c
    · simp only [go_sem, simprocAttr, h1, hg, byW]
      refine acall_pure (lowerC c H) ?_
      cases h2 : isSm c
      · simp only [go_sem, simprocAttr, h2]
        exact ⟨by simp [h2], rfl⟩
      · simp only [go_sem, simprocAttr, h2]
        simpa [h2, finK, mr121] using main
    · simp only [go_sem, simprocAttr, h1]
      exact ⟨by simp [sm_gr h1], rfl⟩
  · cases h1 : isGr c
    · simp only [go_sem, simprocAttr, h1]
      exact ⟨by simp [h1], rfl⟩
    · simp only [go_sem, simprocAttr, h1]
      simpa [h1, finK, mr121] using main
theorem lowSC {s:List UInt8} (hs:s.length<=1073741824) (H:List AO):ACall Tryz.prog 120 [.p (.s s)] H (pureQ (.p (.b (lowB s))) H):=by
 refine call120 (by simp) ?_
 simp only [go_sem,simprocAttr,mc120,mr120]
 have h1:=nameSC false hs H
 simp only [Bool.false_eq_true,if_false] at h1
 refine acall_pure h1 ?_
 cases h:nmB isSm s
 ·simp only [go_sem,simprocAttr,h]
  exact ⟨by simp [lowB,h],rfl⟩
 ·simp only [go_sem,simprocAttr,h]
  refine acall_pure (keyIC _ _) ?_
  simp only [go_sem,simprocAttr]
  exact ⟨by simp [lowB,h],rfl⟩
theorem charsC {s:List UInt8} (hs:s.length<=1073741824) (H:List AO):ACall Tryz.prog 221 [.p (.s s)] H (pureQ (.p (.b (plainB s))) H):=by
 refine call221 (by simp) ?_
 simp only [go_sem,simprocAttr,mc221,mr221]
 refine ⟨Nat,[0,2,3],fun x st=>(x<=s.length/\s.all chB=(s.drop x).all chB)/\st=⟨[(0,.p (.s s)),(2,.p (.b false)),(3,.p (.i .i64 x))],[],H⟩,fun x=>s.length - x,⟨0,?_⟩,?_⟩
 ·simp only [go_sem,simprocAttr]
  simp
 rintro x _ ⟨⟨hx,hn⟩,rfl⟩
 by_cases hlt:x<s.length
 ·have d1:decide ((x:Int)<(s.length:Int))=true:=by simp; omega
  have hg:s[x]?=some s[x]:=by simp [hlt]
  rw [all_drop hlt] at hn
  generalize s[x]=c at hg hn
  have e1:isPl c=(decide ((32:Int)<=(c.toNat:Int)) && decide ((c.toNat:Int)<=126)):=rfl
  simp only [go_sem,simprocAttr,d1,hg]
  intro _
  cases h2:decide ((c.toNat:Int)=10)
  ·simp only [go_sem,simprocAttr,h2,hg,byW]
   refine acall_pure (inC _ _ _ _) ?_
   rw [<- e1]
   cases h1:isPl c
   ·simp only [go_sem,simprocAttr,h1]
    exact ⟨b2 (by rw [plainB,hn,chB,h1,h2]; rfl),rfl⟩
   ·simp only [go_sem,simprocAttr,h1,wrN x (by omega)]
    exact ⟨x+1,⟨⟨by omega,by rw [hn,chB,h1]; rfl⟩,rfl⟩,by omega⟩
  ·simp only [go_sem,simprocAttr,h2,wrN x (by omega)]
   exact ⟨x+1,⟨⟨by omega,by rw [hn,chB,h2,Bool.or_true]; rfl⟩,rfl⟩,by omega⟩
 ·have d1:decide ((x:Int)<(s.length:Int))=false:=by simp; omega
  simp only [go_sem,simprocAttr,d1]
  intro _
  refine ⟨b2 ?_,rfl⟩
  rw [plainB,hn,List.drop_of_length_le (by omega)]; rfl
def hasB (z:Int) (w:List UInt8):Bool:=w.any fun c=>decide ((c.toNat:Int)=z)
theorem has_take (z:Int) {w:List UInt8} {x:Nat} (h:x<w.length):hasB z (w.take (x+1))=(hasB z (w.take x) || decide ((w[x].toNat:Int)=z)):=by
 rw [hasB,List.take_succ_eq_append_getElem h,List.any_append]
 simp [hasB]
def plainF (k:Int) (n:List UInt8) (u:Int) (t:List UInt8) (p a:Int) (w:List UInt8):Bool :=
 decide (0<=p) && ((hasB 110 w || decide (n=[])) && ((hasB 117 w || decide (u=0)) && ((hasB 116 w || decide (t=[])) && (decide (k=13) || decide (a=0)))))
theorem plainSC (w:List UInt8) (hw:w.length<=100) (k:Int) (n:List UInt8) (u:Int) (t:List UInt8) (p:Int) (ks:List ExpD) (as':List ArmD) (H:List AO) :
  ACall Tryz.prog 220 [avC (ExpD.cells (.mk k n u t p ks as')),.p (.s w)] H (pureQ (.p (.b (plainF k n u t p as'.length w))) H):=by
 refine acall_drop1 ?_ (tf_p _)
 refine call220 (by simp) ?_
 simp only [go_sem,simprocAttr,mc220,mr220,ExpD.cells,ExpD.cellsL_eq,ExpD.cellsA_eq,avC]
 have hX0:∀ A,(H++AO.var [.p (.i .i64 k),.p (.s n),.p (.i .i64 u),.p (.s t),.p (.i .i64 p),.p (.l (ks.map ExpD.cells)),.p (.l (as'.map ArmD.cells))] :: A)[H.length]?=some (.var [.p (.i .i64 k),.p (.s n),.p (.i .i64 u),.p (.s t),.p (.i .i64 p),.p (.l (ks.map ExpD.cells)),.p (.l (as'.map ArmD.cells))]):=by simp
 refine ⟨Nat,[1,2,5,6,7,8],fun x st=>x<=w.length/\st=⟨[(1,.p (.s w)),(2,.ptr H.length 0),(5,.p (.b (hasB 110 (w.take x)))),(6,.p (.b (hasB 117 (w.take x)))),(7,.p (.b (hasB 116 (w.take x)))),(8,.p (.i .i64 x))],[],H++[AO.var [.p (.i .i64 k),.p (.s n),.p (.i .i64 u),.p (.s t),.p (.i .i64 p),.p (.l (ks.map ExpD.cells)),.p (.l (as'.map ArmD.cells))]]⟩,fun x=>w.length - x,⟨0,?_⟩,?_⟩
 ·simp only [go_sem,simprocAttr]
  exact ⟨Nat.zero_le _,by simp [hasB]⟩
 rintro x _ ⟨hx,rfl⟩
 by_cases hlt:x<w.length
 ·have d1:decide ((x:Int)<(w.length:Int))=true:=by simp; omega
  have hg:w[x]?=some w[x]:=by simp [hlt]
  have t1:=has_take 110 hlt
  have t2:=has_take 117 hlt
  have t3:=has_take 116 hlt
  generalize w[x]=c at hg t1 t2 t3
  generalize hasB 110 (w.take x)=f1 at *
  generalize hasB 117 (w.take x)=f2 at *
  generalize hasB 116 (w.take x)=f3 at *
  simp only [go_sem,simprocAttr,d1,hg]
  intro _
  cases f1 <;> cases f2 <;> cases f3
  all_goals
   simp only [go_sem,simprocAttr,hg,wrN x (by omega)]
   exact ⟨x+1,⟨by omega,by rw [t1,t2,t3]; rfl⟩,by omega⟩
 ·have d1:decide ((x:Int)<(w.length:Int))=false:=by simp; omega
  rw [List.take_of_length_le (by omega)]
  unfold plainF
  generalize hasB 110 w=f1 at *
  generalize hasB 117 w=f2 at *
  generalize hasB 116 w=f3 at *
  simp only [go_sem,simprocAttr,d1,List.length_map]
  intro _
  cases f1 <;> cases f2 <;> cases f3
  all_goals
   (try simp only [go_sem,simprocAttr])
   repeat' first
    | (with_reducible refine condK_split _ (fun h=>?_) (fun h=>?_) <;> simp only [go_sem,simprocAttr,h,List.length_map])
    | (refine drw_same ?_; simp only [go_sem,simprocAttr,List.length_map])
    | (refine And.intro (by (try simp only [maxLe,LL]); omega) ?_; try simp only [go_sem,simprocAttr,List.length_map])
    | (intro _)
  all_goals refine ⟨b2 ?_,_,rfl⟩
  all_goals simp
theorem opB_eq (s:List UInt8):opB s=binB s:=by
 unfold opB binB
 simp [List.mem_cons,Bool.or_assoc]
theorem primB_eq (s:List UInt8):(decide (s=[112,114,105,110,116]) || decide (s=[101,120,105,116]) || decide (s=[115,105,122,101]) || decide (s=[114,101,102]) || decide (s=[33]))=primB s:=by
 unfold primB
 simp [List.mem_cons,Bool.or_assoc]
theorem tok1:ToksOk [(⟨8,[],0,0⟩:Tok)]:=by
 refine ⟨by simp,fun i x h=>?_,fun x h hk=>?_⟩
 ·cases i with
  | zero=>cases h; simp
  | succ i=>simp at h
 ·simp at h; subst h; simp at hk
theorem nodeSC (k:Int) (n:List UInt8) (u:Int) (t:List UInt8) (p:Int) (ks:List ExpD) (as':List ArmD) (hn:n.length<=1073741824) (ht:t.length<=1073741824) (H:List AO) :
  ACall Tryz.prog 175 [avC (ExpD.cells (.mk k n u t p ks as'))] H (pureQ (.p (.b (expH k n u t p ks.length as'.length))) H):=by
 refine acall_drop1 ?_ (tf_p _)
 refine call175 (by simp) ?_
 have hp:=fun w (hw:w.length<=100)=>plainSC w hw k n u t p ks as'
 simp only [ExpD.cells,ExpD.cellsL_eq,ExpD.cellsA_eq,avC,List.map_cons,List.map_nil] at hp
 have hup:=fun H=>nameSC true hn H
 simp only [if_true] at hup
 have hop:=opBC n
 rw [opB_eq] at hop
 have hpr:=primC tok1 (by simp) n
 rw [primB_eq] at hpr
 simp only [go_sem,simprocAttr,mc175,mr175,ExpD.cells,ExpD.cellsL_eq,ExpD.cellsA_eq,avC,List.length_map]
 repeat' first
  | (with_reducible refine condK_split _ (fun h=>?_) (fun h=>?_) <;> simp only [go_sem,simprocAttr,h,List.length_map])
  | (with_reducible refine acall_pure (hp _ (by decide) _) ?_; simp only [go_sem,simprocAttr,List.length_map])
  | (with_reducible refine acall_pure (lowSC hn _) ?_; simp only [go_sem,simprocAttr,List.length_map])
  | (with_reducible refine acall_pure (lowSC ht _) ?_; simp only [go_sem,simprocAttr,List.length_map])
  | (with_reducible refine acall_pure (inC _ _ _ _) ?_; simp only [go_sem,simprocAttr,List.length_map])
  | (with_reducible refine acall_pure (charsC ht _) ?_; simp only [go_sem,simprocAttr,List.length_map])
  | (with_reducible refine acall_pure (hup _) ?_; simp only [go_sem,simprocAttr,List.length_map])
  | (with_reducible refine acall_pure (hop _) ?_; simp only [go_sem,simprocAttr,List.length_map])
  | (with_reducible refine acall_pure (hpr _) ?_; simp only [go_sem,simprocAttr,List.length_map])
  | (refine drw_same ?_; simp only [go_sem,simprocAttr,List.length_map])
  | (refine And.intro (by (try simp only [maxLe,LL]); omega) ?_; try simp only [go_sem,simprocAttr,List.length_map])
  | (intro _)
 all_goals refine ⟨b2 ?_,_,rfl⟩
 all_goals rw [expH]
 all_goals have ha:decide ((0:Int)<(as'.length:Int))=!decide ((as'.length:Int)=0):=by rw [<- decide_not]; exact decide_eq_decide.2 ⟨by omega,by omega⟩
 all_goals have hm:((ks.length:Int) = -1)=False:=by simp
 all_goals rw [ha]
 all_goals generalize (ks.length:Int)=m at *
 all_goals generalize (as'.length:Int)=a at *
 all_goals clear ha hup hop hpr hp
 all_goals simp only [decide_eq_true_eq,decide_eq_false_iff_not,Bool.and_eq_true,Bool.or_eq_true] at *
 all_goals simp [plainF,hasB,upB,arity, *] at *
 all_goals first | done | (split <;> simp_all; done) | skip
 all_goals try (intros; simp_all; done)
 all_goals try grind
 all_goals exact absurd ‹primB [114,101,97,100]=true› (by decide)
theorem inC1 {u:Int} (H:List AO):ACall Tryz.prog 140 [.p (.i .i64 u),.p (.i .i64 0),.p (.i .i64 1)] H (pureQ (.p (.b (decide (0<=u) && decide (u<=1)))) H):=inC _ _ _ _
def patOkS (x:PatD):Prop:=∀ H:List AO,ACall Tryz.prog 176 [avC x.cells] H (pureQ (.p (.b x.okB)) H)
theorem pat_okS (k:Int) (n:List UInt8) (u p:Int) (ks:List PatD) (hn:n.length<=1073741824) (hk:∀ x∈ks,patOkS x):patOkS (.mk k n u p ks):=by
 intro H
 refine acall_drop1 ?_ (tf_p _)
 refine call176 (by simp) ?_
 have hup:=fun H=>nameSC true hn H
 have hlo:=fun H=>nameSC false hn H
 simp only [if_true,Bool.false_eq_true,if_false] at hup hlo
 obtain ⟨T,hT,hm⟩:∃ T,T=mc176.m.b.b.b.b.b.b/\mc176.m=.seq mc176.m.a (.seq mc176.m.b.a (.seq mc176.m.b.b.a (.seq mc176.m.b.b.b.a (.seq mc176.m.b.b.b.b.a (.seq mc176.m.b.b.b.b.b.a  T))))):=⟨_,rfl,rfl⟩
 rw [hm]
 clear hm
 have main:∀ (b:Bool) (v5:AV) (v6:AV) (v21:AV) (W:List (Nat × AV)) (o:Bool),ks.length<=maxL->o=(b && ks.all PatD.okB)->ekeep [1,2,3,4,7] (eset W 7 (.p (.i .i64 0)))=[(7,.p (.i .i64 0))]->wpm (ACall Tryz.prog) T (finK mr176 (fun r H'=>r=.p (.b o)/\∃ G,H'=H++G)) ⟨(0,.st [.p (.i .i64 k),.p (.s n),.p (.i .i64 u),.p (.i .i64 p),.p (.l (ks.map PatD.cells))]) :: (1,.ptr H.length 0) :: (2,.p (.b false)) :: (3,.p (.i .i64 ks.length)) :: (4,.p (.b b)) :: (5,v5) :: (6,v6) :: (21,v21) :: W,[],H++[.var [.p (.i .i64 k),.p (.s n),.p (.i .i64 u),.p (.i .i64 p),.p (.l (ks.map PatD.cells))]]⟩:=by
  intro b  v5  v6  v21 W o hl ho hW
  subst ho
  rw [maxLe] at hl
  subst hT
  have hV0:∃ G,H++[.var [.p (.i .i64 k),.p (.s n),.p (.i .i64 u),.p (.i .i64 p),.p (.l (ks.map PatD.cells))]]=H++.var [.p (.i .i64 k),.p (.s n),.p (.i .i64 u),.p (.i .i64 p),.p (.l (ks.map PatD.cells))] :: G:=⟨[],rfl⟩
  generalize H++[.var [.p (.i .i64 k),.p (.s n),.p (.i .i64 u),.p (.i .i64 p),.p (.l (ks.map PatD.cells))]]=X at hV0
  simp only [go_sem,simprocAttr,mc176,mr176,hW]
  refine ⟨Nat × Bool × List AO,[1,2,3,4,7],fun x st=>(x.1<=ks.length/\(b && ks.all PatD.okB)=(x.2.1 && (ks.drop x.1).all PatD.okB)/\∃ G,x.2.2=H++.var [.p (.i .i64 k),.p (.s n),.p (.i .i64 u),.p (.i .i64 p),.p (.l (ks.map PatD.cells))] :: G)/\st=⟨[(1,.ptr H.length 0),(2,.p (.b false)),(3,.p (.i .i64 ks.length)),(4,.p (.b x.2.1)),(7,.p (.i .i64 x.1))],[],x.2.2⟩,fun x=>ks.length - x.1,⟨(0,b,X),?_⟩,?_⟩
  ·simp only [go_sem,simprocAttr,hW]
   exact ⟨by simp,hV0⟩
  rintro ⟨x,b,Y⟩ _ ⟨⟨hx,hn,hY⟩,rfl⟩
  simp only at hx hn hY
  by_cases hlt:x<ks.length
  ·have d1:decide ((x:Int)<(ks.length:Int))=true:=by simp; omega
   have hlt':(x:Int)<(ks.length:Int):=by omega
   have hg:(ks.map PatD.cells)[x]?=some (PatD.cells ks[x]):=by simp [hlt]
   have hc:=fun H=>hk ks[x] (List.getElem_mem hlt) H
   rw [all_drop hlt] at hn
   generalize ks[x]=c at hg hc hn
   obtain ⟨ck,cn,cu,cp,cks⟩:=c
   simp only [PatD.cells,avC,List.map_cons,List.map_nil,patOkS] at hg hc
   obtain ⟨G,rfl⟩:=hY
   cases b
   ·simp only [go_sem,simprocAttr,d1]
    exact ⟨b2 (by rw [hn]; rfl),_,rfl⟩
   simp only [go_sem,simprocAttr,d1,hlt',hg,List.length_map]
   refine acall_pure (hc _) ?_
   generalize PatD.okB _=b at hn ⊢
   simp only [go_sem,simprocAttr,wrN x (by omega)]
   exact ⟨(x+1,b,_),⟨⟨by omega,by simpa using hn,_,rfl⟩,rfl⟩,by simp only; omega⟩
  ·have d1:decide ((x:Int)<(ks.length:Int))=false:=by simp; omega
   rw [List.drop_of_length_le (by omega),List.all_nil,Bool.and_true] at hn
   obtain ⟨G,rfl⟩:=hY
   simp only [go_sem,simprocAttr,d1]
   exact ⟨b2 hn.symm,_,rfl⟩
 clear hT
 simp only [go_sem,simprocAttr,mc176,mr176,PatD.cells,PatD.cellsL_eq,avC,List.length_map]
 intro hl
 simp only [mr176] at main
 replace main:=fun b v5 v6 v21 W o=>main b v5 v6 v21 W o hl
 clear hl
 repeat' first
  | (with_reducible refine condK_split _ (fun h=>?_) (fun h=>?_) <;> simp only [go_sem,simprocAttr,h,List.length_map])
  | (with_reducible refine acall_pure (lowSC hn _) ?_; simp only [go_sem,simprocAttr,List.length_map])
  | (with_reducible refine acall_pure (inC1 _) ?_; simp only [go_sem,simprocAttr,List.length_map])
  | (with_reducible refine acall_pure (hup _) ?_; simp only [go_sem,simprocAttr,List.length_map])
  | (with_reducible refine acall_pure (hlo _) ?_; simp only [go_sem,simprocAttr,List.length_map])
  | (refine drw_same ?_; simp only [go_sem,simprocAttr,List.length_map])
  | (refine And.intro (by (try simp only [maxLe,LL]); omega) ?_; try simp only [go_sem,simprocAttr,List.length_map])
  | (intro _)
 all_goals clear hup hlo
 all_goals rw [PatD.okB,PatD.okL_eq,patH]
 all_goals generalize ks.all PatD.okB=ob at *
 all_goals generalize (ks.length:Int)=m at *
 all_goals simp only [decide_eq_true_eq,decide_eq_false_iff_not,Bool.and_eq_true,Bool.or_eq_true] at *
 all_goals first
  | (refine ⟨b2 ?_,_,rfl⟩; simp [*]; done)
  | (refine main _ _ _ _ _ _ ?_ ?_ <;> clear main <;> simp [upB,eset,ekeep,lmem, *]; done)
  | trace_state
theorem patOkSC (p : PatD) (h : p.sz ≤ 1073741824) : patOkS p := by
  have : ∀ (m : Nat) (p : PatD), p.sz < m → p.sz ≤ 1073741824 → patOkS p := by
    intro m
    induction m with
    | zero => intro p h; omega
    | succ m ih =>
      intro p h h2
      obtain ⟨ck, cn, cu, cp, cks⟩ := p
      rw [PatD.sz, PatD.szL_eq] at h h2
      exact pat_okS _ _ _ _ _ (by omega) fun a ha => ih a (by have := sumSz_mem PatD.sz ha; omega) (by have := sumSz_mem PatD.sz ha; omega)
  exact this _ p (Nat.lt_succ_self _) h
def tyOkS (x:TyE):Prop:=∀ H:List AO,ACall Tryz.prog 122 [avC x.cells] H (pureQ (.p (.b x.okB)) H)
theorem ty_okS (k:Int) (n:List UInt8) (p:Int) (ks:List TyE) (hn:n.length<=1073741824) (hk:∀ x∈ks,tyOkS x):tyOkS (.mk k n p ks):=by
 intro H
 refine acall_drop1 ?_ (tf_p _)
 refine call122 (by simp) ?_
 have hup:=fun H=>nameSC true hn H
 have hlo:=fun H=>nameSC false hn H
 simp only [if_true,Bool.false_eq_true,if_false] at hup hlo
 obtain ⟨T,hT,hm⟩:∃ T,T=mc122.m.b.b.b.b/\mc122.m=.seq mc122.m.a (.seq mc122.m.b.a (.seq mc122.m.b.b.a (.seq mc122.m.b.b.b.a  T))):=⟨_,rfl,rfl⟩
 rw [hm]
 clear hm
 have main:∀ (b:Bool) (v13:AV) (W:List (Nat × AV)) (o:Bool),ks.length<=maxL->o=(b && ks.all TyE.okB)->ekeep [1,2,3,4,5] (eset W 5 (.p (.i .i64 0)))=[(5,.p (.i .i64 0))]->wpm (ACall Tryz.prog) T (finK mr122 (fun r H'=>r=.p (.b o)/\∃ G,H'=H++G)) ⟨(0,.st [.p (.i .i64 k),.p (.s n),.p (.i .i64 p),.p (.l (ks.map TyE.cells))]) :: (1,.ptr H.length 0) :: (2,.p (.b false)) :: (3,.p (.i .i64 ks.length)) :: (4,.p (.b b)) :: (13,v13) :: W,[],H++[.var [.p (.i .i64 k),.p (.s n),.p (.i .i64 p),.p (.l (ks.map TyE.cells))]]⟩:=by
  intro b  v13 W o hl ho hW
  subst ho
  rw [maxLe] at hl
  subst hT
  have hV0:∃ G,H++[.var [.p (.i .i64 k),.p (.s n),.p (.i .i64 p),.p (.l (ks.map TyE.cells))]]=H++.var [.p (.i .i64 k),.p (.s n),.p (.i .i64 p),.p (.l (ks.map TyE.cells))] :: G:=⟨[],rfl⟩
  generalize H++[.var [.p (.i .i64 k),.p (.s n),.p (.i .i64 p),.p (.l (ks.map TyE.cells))]]=X at hV0
  simp only [go_sem,simprocAttr,mc122,mr122,hW]
  refine ⟨Nat × Bool × List AO,[1,2,3,4,5],fun x st=>(x.1<=ks.length/\(b && ks.all TyE.okB)=(x.2.1 && (ks.drop x.1).all TyE.okB)/\∃ G,x.2.2=H++.var [.p (.i .i64 k),.p (.s n),.p (.i .i64 p),.p (.l (ks.map TyE.cells))] :: G)/\st=⟨[(1,.ptr H.length 0),(2,.p (.b false)),(3,.p (.i .i64 ks.length)),(4,.p (.b x.2.1)),(5,.p (.i .i64 x.1))],[],x.2.2⟩,fun x=>ks.length - x.1,⟨(0,b,X),?_⟩,?_⟩
  ·simp only [go_sem,simprocAttr,hW]
   exact ⟨by simp,hV0⟩
  rintro ⟨x,b,Y⟩ _ ⟨⟨hx,hn,hY⟩,rfl⟩
  simp only at hx hn hY
  by_cases hlt:x<ks.length
  ·have d1:decide ((x:Int)<(ks.length:Int))=true:=by simp; omega
   have hlt':(x:Int)<(ks.length:Int):=by omega
   have hg:(ks.map TyE.cells)[x]?=some (TyE.cells ks[x]):=by simp [hlt]
   have hc:=fun H=>hk ks[x] (List.getElem_mem hlt) H
   rw [all_drop hlt] at hn
   generalize ks[x]=c at hg hc hn
   obtain ⟨ck,cn,cp,cks⟩:=c
   simp only [TyE.cells,avC,List.map_cons,List.map_nil,tyOkS] at hg hc
   obtain ⟨G,rfl⟩:=hY
   cases b
   ·simp only [go_sem,simprocAttr,d1]
    exact ⟨b2 (by rw [hn]; rfl),_,rfl⟩
   simp only [go_sem,simprocAttr,d1,hlt',hg,List.length_map]
   refine acall_pure (hc _) ?_
   generalize TyE.okB _=b at hn ⊢
   simp only [go_sem,simprocAttr,wrN x (by omega)]
   exact ⟨(x+1,b,_),⟨⟨by omega,by simpa using hn,_,rfl⟩,rfl⟩,by simp only; omega⟩
  ·have d1:decide ((x:Int)<(ks.length:Int))=false:=by simp; omega
   rw [List.drop_of_length_le (by omega),List.all_nil,Bool.and_true] at hn
   obtain ⟨G,rfl⟩:=hY
   simp only [go_sem,simprocAttr,d1]
   exact ⟨b2 hn.symm,_,rfl⟩
 clear hT
 simp only [go_sem,simprocAttr,mc122,mr122,TyE.cells,TyE.cellsL_eq,avC,List.length_map]
 intro hl
 simp only [mr122] at main
 replace main:=fun b v13 W o=>main b v13 W o hl
 clear hl
 repeat' first
  | (with_reducible refine condK_split _ (fun h=>?_) (fun h=>?_) <;> simp only [go_sem,simprocAttr,h,List.length_map])
  | (with_reducible refine acall_pure (lowSC hn _) ?_; simp only [go_sem,simprocAttr,List.length_map])
  | (with_reducible refine acall_pure (inC1 _) ?_; simp only [go_sem,simprocAttr,List.length_map])
  | (with_reducible refine acall_pure (hup _) ?_; simp only [go_sem,simprocAttr,List.length_map])
  | (with_reducible refine acall_pure (hlo _) ?_; simp only [go_sem,simprocAttr,List.length_map])
  | (refine drw_same ?_; simp only [go_sem,simprocAttr,List.length_map])
  | (refine And.intro (by (try simp only [maxLe,LL]); omega) ?_; try simp only [go_sem,simprocAttr,List.length_map])
  | (intro _)
 all_goals clear hup hlo
 all_goals rw [TyE.okB,TyE.okL_eq,typH]
 all_goals generalize ks.all TyE.okB=ob at *
 all_goals generalize (ks.length:Int)=m at *
 all_goals simp only [decide_eq_true_eq,decide_eq_false_iff_not,Bool.and_eq_true,Bool.or_eq_true] at *
 all_goals first
  | (refine ⟨b2 ?_,_,rfl⟩; simp [*]; done)
  | (refine main _ _ _ _ ?_ ?_ <;> clear main <;> simp [upB,eset,ekeep,lmem, *]; done)
  | trace_state
theorem tyOkSC (p : TyE) (h : p.sz ≤ 1073741824) : tyOkS p := by
  have : ∀ (m : Nat) (p : TyE), p.sz < m → p.sz ≤ 1073741824 → tyOkS p := by
    intro m
    induction m with
    | zero => intro p h; omega
    | succ m ih =>
      intro p h h2
      obtain ⟨ck, cn, cp, cks⟩ := p
      rw [TyE.sz, TyE.szL_eq] at h h2
      exact ty_okS _ _ _ _ (by omega) fun a ha => ih a (by have := sumSz_mem TyE.sz ha; omega) (by have := sumSz_mem TyE.sz ha; omega)
  exact this _ p (Nat.lt_succ_self _) h
theorem tyNoSC (x:TyE) (H:List AO):ACall Tryz.prog 123 [avC x.cells] H (pureQ (.p (.b x.noB)) H):=by
 obtain ⟨k,n,p,ks⟩:=x
 refine acall_drop1 ?_ (tf_p _)
 refine call123 (by simp) ?_
 simp only [go_sem,simprocAttr,mc123,mr123,TyE.cells,TyE.cellsL_eq,avC,List.length_map]
 repeat' first
  | (with_reducible refine condK_split _ (fun h=>?_) (fun h=>?_) <;> simp only [go_sem,simprocAttr,h,List.length_map])
  | (refine drw_same ?_; simp only [go_sem,simprocAttr,List.length_map])
  | (refine And.intro (by (try simp only [maxLe,LL]); omega) ?_; try simp only [go_sem,simprocAttr,List.length_map])
  | (intro _)
 all_goals refine ⟨b2 ?_,_,rfl⟩
 all_goals rw [TyE.noB]
 all_goals simp only [decide_eq_true_eq,decide_eq_false_iff_not,Bool.and_eq_true] at *
 all_goals (simp [*]; done)
def ExpOkS (x:ExpD):Prop:=∀ H:List AO,ACall Tryz.prog 124 [avC x.cells] H (pureQ (.p (.b x.okB)) H)
theorem expOk_S (k:Int) (n:List UInt8) (u:Int) (t:List UInt8) (p:Int) (ks:List ExpD) (as':List ArmD) (hn:n.length<=1073741824) (ht:t.length<=1073741824) (hk:∀ x∈ks,ExpOkS x) (ha:∀ q e,ArmD.mk q e∈as'->patOkS q/\ExpOkS e):ExpOkS (.mk k n u t p ks as'):=by
 intro H
 refine acall_drop1 ?_ (tf_p _)
 refine call124 (by simp) ?_
 have hh:=nodeSC k n u t p ks as' hn ht
 simp only [ExpD.cells,ExpD.cellsL_eq,ExpD.cellsA_eq,avC,List.map_cons,List.map_nil] at hh
 rw [ExpD.okB,ExpD.okL_eq,ExpD.okA_eq]
 simp only [go_sem,simprocAttr,mc124,mr124,ExpD.cells,ExpD.cellsL_eq,ExpD.cellsA_eq,avC,List.length_map]
 refine acall_pure (hh _) ?_
 simp only [go_sem,simprocAttr]
 generalize expH k n u t p ks.length as'.length=b
 cases b
 ·simp only [go_sem,simprocAttr]
  exact ⟨b2 rfl,_,rfl⟩
 simp only [go_sem,simprocAttr,List.length_map,Bool.true_and]
 have hB:=Bh.nil H (.var [.p (.i .i64 k),.p (.s n),.p (.i .i64 u),.p (.s t),.p (.i .i64 p),.p (.l (ks.map ExpD.cells)),.p (.l (as'.map ArmD.cells))])
 generalize hV:AO.var [.p (.i .i64 k),.p (.s n),.p (.i .i64 u),.p (.s t),.p (.i .i64 p),.p (.l (ks.map ExpD.cells)),.p (.l (as'.map ArmD.cells))]=V at hB
 generalize H++[V]=X at hB
 refine ⟨Nat × List AO,[1,2,3],fun x st=>(x.1<=ks.length/\ks.all ExpD.okB=(ks.drop x.1).all ExpD.okB/\Bh H V x.2)/\st=⟨[(1,.ptr H.length 0),(2,.p (.b false)),(3,.p (.i .i64 x.1))],[],x.2⟩,fun x=>ks.length - x.1,⟨(0,X),?_⟩,?_⟩
 ·simp only [go_sem,simprocAttr]
  exact ⟨by simp,hB⟩
 rintro ⟨x,Y⟩ _ ⟨⟨hx,hn,hY⟩,rfl⟩
 simp only at hx hn hY
 have hz0:=hY.at0
 rw [<- hV] at hz0
 by_cases hlt:x<ks.length
 ·have d1:decide ((x:Int)<(ks.length:Int))=true:=by simp; omega
  have hlt':(x:Int)<(ks.length:Int):=by omega
  have hg:(ks.map ExpD.cells)[x]?=some (ExpD.cells ks[x]):=by simp [hlt]
  have hc:=fun H=>hk ks[x] (List.getElem_mem hlt) H
  rw [all_drop hlt] at hn
  generalize ks[x]=c at hg hc hn
  obtain ⟨ck,cn,cu,ct,cp,cks,cas⟩:=c
  simp only [ExpD.cells,avC,List.map_cons,List.map_nil,ExpOkS] at hg hc
  simp only [go_sem,simprocAttr,d1,hlt',hg,hz0,List.length_map]
  intro hl
  rw [maxLe] at hl
  refine acall_pure (hc _) ?_
  generalize ExpD.okB _=b at hn
  cases b
  ·simp only [go_sem,simprocAttr]
   exact ⟨b2 (by rw [hn]; rfl),hY.ends⟩
  ·simp only [go_sem,simprocAttr,wrN x (by omega)]
   exact ⟨(x+1,_),⟨⟨by omega,by simpa using hn,hY⟩,rfl⟩,by simp only; omega⟩
 ·have d1:decide ((x:Int)<(ks.length:Int))=false:=by simp; omega
  rw [List.drop_of_length_le (by omega),List.all_nil] at hn
  rw [hn,Bool.true_and]
  simp only [go_sem,simprocAttr,d1,hz0,List.length_map]
  intro hl
  rw [maxLe] at hl
  refine ⟨Nat,[1,2,4],fun x st=>(x<=as'.length/\as'.all ArmD.okB=(as'.drop x).all ArmD.okB)/\st=⟨[(1,.ptr H.length 0),(2,.p (.b false)),(4,.p (.i .i64 x))],[],Y⟩,fun x=>as'.length - x,⟨0,?_⟩,?_⟩
  ·simp only [go_sem,simprocAttr]
   simp
  rintro y _ ⟨⟨hy,hm⟩,rfl⟩
  by_cases hlt:y<as'.length
  ·have d2:decide ((y:Int)<(as'.length:Int))=true:=by simp; omega
   have hlt':(y:Int)<(as'.length:Int):=by omega
   have hg:(as'.map ArmD.cells)[y]?=some (ArmD.cells as'[y]):=by simp [hlt]
   have hc:∀ q e,as'[y]=ArmD.mk q e->patOkS q/\ExpOkS e:=fun q e he=>ha q e (by rw [<- he]; exact List.getElem_mem hlt)
   rw [all_drop hlt] at hm
   generalize as'[y]=c at hg hc hm
   obtain ⟨⟨qk,qn,qu,qp,qks⟩,⟨ck,cn,cu,ct,cp,cks,cas⟩⟩:=c
   obtain ⟨h1,h2⟩:=hc _ _ rfl
   simp only [armC,PatD.cells,ExpD.cells,avC,List.map_cons,List.map_nil,ExpOkS,patOkS,List.cons_append,List.nil_append] at hg h1 h2
   rw [ArmD.okB] at hm
   generalize PatD.okB _=b1 at hm h1
   generalize ExpD.okB _=b2' at hm h2
   simp only [go_sem,simprocAttr,d2,hlt',hg,hz0,List.length_map]
   intro hl2
   rw [maxLe] at hl2
   refine acall_pure (h1 _) ?_
   cases b1
   ·simp only [go_sem,simprocAttr,hz0]
    exact ⟨b2 (by rw [hm]; rfl),hY.ends⟩
   simp only [go_sem,simprocAttr,hlt',hg,hz0,List.length_map]
   refine acall_pure (h2 _) ?_
   cases b2'
   ·simp only [go_sem,simprocAttr]
    exact ⟨b2 (by rw [hm]; rfl),hY.ends⟩
   simp only [go_sem,simprocAttr,wrN y (by omega)]
   exact ⟨y+1,⟨⟨by omega,by simpa using hm⟩,rfl⟩,by omega⟩
  ·have d2:decide ((y:Int)<(as'.length:Int))=false:=by simp; omega
   rw [List.drop_of_length_le (by omega),List.all_nil] at hm
   simp only [go_sem,simprocAttr,d2,hz0,List.length_map]
   intro hl2
   exact ⟨b2 hm.symm,hY.ends⟩
theorem expOkSC (p : ExpD) (h : p.sz ≤ 1073741824) : ExpOkS p := by
  have : ∀ (m : Nat) (p : ExpD), p.sz < m → p.sz ≤ 1073741824 → ExpOkS p := by
    intro m
    induction m with
    | zero => intro p h; omega
    | succ m ih =>
      intro p h h2
      obtain ⟨k, n, u, t, q, ks, as'⟩ := p
      rw [ExpD.sz, ExpD.szL_eq, ExpD.szA_eq] at h h2
      refine expOk_S _ _ _ _ _ _ _ (by omega) (by omega) (fun a ha => ih a (by have := sumSz_mem ExpD.sz ha; omega) (by have := sumSz_mem ExpD.sz ha; omega)) fun q e ha => ?_
      have := sumSz_mem ArmD.sz ha
      rw [ArmD.sz] at this
      exact ⟨patOkSC q (by omega), ih e (by omega) (by omega)⟩
  exact this _ p (Nat.lt_succ_self _) h
theorem namesSz_mem {s : List UInt8} : ∀ {l : List (List UInt8)}, s ∈ l → s.length ≤ namesSz l
  | [], h => by cases h
  | a :: l, h => by
    rw [namesSz]
    rcases List.mem_cons.1 h with rfl | h
    · omega
    · have := namesSz_mem h; omega
theorem ctorsSz_mem {x : CtorD} : ∀ {l : List CtorD}, x ∈ l → x.sz ≤ ctorsSz l
  | [], h => by cases h
  | a :: l, h => by
    rw [ctorsSz]
    rcases List.mem_cons.1 h with rfl | h
    · omega
    · have := ctorsSz_mem h; omega
theorem progOkSC (g:ProgD) (hg:g.sz<=1073741824) (H:List AO):ACall Tryz.prog 79 [avC g.cells] H (pureQ (.p (.b g.okB)) H):=by
 obtain ⟨ds,b⟩:=g
 simp only [ProgD.sz] at hg
 have h1:=expOkSC b (by omega)
 have hds:∀ d∈ds,d.sz<=1073741824:=fun d hd=>by have:=datasSz_mem hd; omega
 simp only [ProgD.okB]
 rw [ExpOkS] at h1
 generalize b.okB=o1 at h1 ⊢
 clear hg
 obtain ⟨k,n,u,t,p,ks,as'⟩:=b
 simp only [ExpD.cells,avC,List.map_cons,List.map_nil] at h1
 refine acall_drop1 ?_ (tf_p _)
 refine call79 (by simp) ?_
 simp only [go_sem,simprocAttr,mc79,mr79,ProgD.cells,ExpD.cells,avC]
 have hB:=Bh.nil H (.var [.p (.l (ds.map DataD.cells)),.p (.i .i64 k),.p (.s n),.p (.i .i64 u),.p (.s t),.p (.i .i64 p),.p (.l (ExpD.cellsL ks)),.p (.l (ExpD.cellsA as'))])
 generalize hV:AO.var [.p (.l (ds.map DataD.cells)),.p (.i .i64 k),.p (.s n),.p (.i .i64 u),.p (.s t),.p (.i .i64 p),.p (.l (ExpD.cellsL ks)),.p (.l (ExpD.cellsA as'))]=V at hB
 generalize H++[V]=X at hB
 refine ⟨Nat × List AO,[1,2,3],fun x st=>(x.1<=ds.length/\ds.all DataD.okB=(ds.drop x.1).all DataD.okB/\Bh H V x.2)/\st=⟨[(1,.ptr H.length 0),(2,.p (.b false)),(3,.p (.i .i64 x.1))],[],x.2⟩,fun x=>ds.length - x.1,⟨(0,X),?_⟩,?_⟩
 ·simp only [go_sem,simprocAttr]
  exact ⟨by simp,hB⟩
 rintro ⟨x,Y⟩ _ ⟨⟨hx,hn,hY⟩,rfl⟩
 simp only at hx hn hY
 have hz0:=hY.at0
 rw [<- hV] at hz0
 by_cases hlt:x<ds.length
 ·have d1:decide ((x:Int)<(ds.length:Int))=true:=by simp; omega
  have hlt':(x:Int)<(ds.length:Int):=by omega
  have hg:(ds.map DataD.cells)[x]?=some (DataD.cells ds[x]):=by simp [hlt]
  have hc:=hds ds[x] (List.getElem_mem hlt)
  rw [all_drop hlt] at hn
  generalize ds[x]=d at hg hc hn
  obtain ⟨dn,dv,dc,dp⟩:=d
  simp only [DataD.sz] at hc
  simp only [DataD.cells,DataD.okB] at hg hn
  simp only [go_sem,simprocAttr,d1,hlt',hg,hz0,List.length_map]
  intro hl
  rw [maxLe] at hl
  have hY1:=hY.ext [.var [.p (.s dn),.p (.l (namesC dv)),.p (.l (dc.map CtorD.cells)),.p (.i .i64 dp)]]
  refine acall_pure (lowSC (by omega) _) ?_
  generalize lowB dn=c1 at hn
  cases c1
  ·simp only [go_sem,simprocAttr]
   exact ⟨b2 (by simp [hn]),hY1.ends⟩
  simp only [go_sem,simprocAttr]
  cases c2:decide (dp<0)
  rotate_left
  ·simp only [go_sem,simprocAttr,c2]
   have e1:decide (0<=dp)=false:=by simp at c2 ⊢; omega
   exact ⟨b2 (by simp [hn,e1]),hY1.ends⟩
  simp only [go_sem,simprocAttr,c2,List.length_map]
  intro hl2
  rw [maxLe] at hl2
  cases c3:decide ((dc.length:Int)=0)
  rotate_left
  ·simp only [go_sem,simprocAttr,c3]
   have e1:decide ((0:Int)<(dc.length:Int))=false:=by simp at c3 ⊢; exact c3
   rw [e1] at hn
   exact ⟨b2 (by rw [hn]; simp),hY1.ends⟩
  simp only [go_sem,simprocAttr,c3]
  replace hn:ds.all DataD.okB=((dv.all (nmB isSm) && dc.all CtorD.okB) && (ds.drop (x+1)).all DataD.okB):=by
   rw [hn]
   have e1:decide (0<=dp)=true:=by simp at c2 ⊢; omega
   have e2:decide ((0:Int)<(dc.length:Int))=true:=by simp at c3 ⊢; exact List.length_pos_iff.2 c3
   rw [e1,e2]; rfl
  have hz4:=(Bh.nil Y (.var [.p (.s dn),.p (.l (namesC dv)),.p (.l (dc.map CtorD.cells)),.p (.i .i64 dp)])).at
  have hY4:=fun A=>hY1.ext A
  generalize hY2:Y++[AO.var [.p (.s dn),.p (.l (namesC dv)),.p (.l (dc.map CtorD.cells)),.p (.i .i64 dp)]]=Y2 at hY1 hz4 hY4
  refine ⟨Nat,[1,2,3,4,5],fun z st=>(z<=dv.length/\dv.all (nmB isSm)=(dv.drop z).all (nmB isSm))/\st=⟨[(1,.ptr H.length 0),(2,.p (.b false)),(3,.p (.i .i64 x)),(4,.ptr Y.length 0),(5,.p (.i .i64 z))],[],Y2⟩,fun z=>dv.length - z,⟨0,?_⟩,?_⟩
  ·simp only [go_sem,simprocAttr]
   simp
  rintro z _ ⟨⟨hx5,hn5⟩,rfl⟩
  have hz5:=hz4 []
  rw [List.append_nil] at hz5
  by_cases hlt5:z<dv.length
  ·have d5:decide ((z:Int)<(dv.length:Int))=true:=by simp; omega
   have hlt5':(z:Int)<(dv.length:Int):=by omega
   have hg5:(namesC dv)[z]?=some [.s dv[z]]:=by simp [namesC,hlt5]
   have hc5:dv[z].length<=1073741824:=by have:=namesSz_mem (List.getElem_mem hlt5); omega
   have hl5:(namesC dv).length=dv.length:=by simp [namesC]
   rw [all_drop hlt5] at hn5
   generalize dv[z]=w at hg5 hc5 hn5
   simp only [go_sem,simprocAttr,d5,hlt5',hg5,hz5,hl5]
   intro hl6
   rw [maxLe] at hl6
   have h5:=nameSC false hc5
   simp only [Bool.false_eq_true,if_false] at h5
   refine acall_pure (h5 _) ?_
   cases c5:nmB isSm w
   ·simp only [go_sem,simprocAttr]
    exact ⟨b2 (by simp [hn,hn5,c5]),hY1.ends⟩
   simp only [go_sem,simprocAttr,wrN z (by omega)]
   exact ⟨z+1,⟨⟨by omega,by rw [hn5,c5]; rfl⟩,rfl⟩,by omega⟩
  have d5:decide ((z:Int)<(dv.length:Int))=false:=by simp; omega
  have hl5:(namesC dv).length=dv.length:=by simp [namesC]
  rw [List.drop_of_length_le (by omega),List.all_nil] at hn5
  rw [hn5,Bool.true_and] at hn
  simp only [go_sem,simprocAttr,d5,hz5,hl5]
  intro hl6
  refine ⟨Nat × List AO,[1,2,3,4,6],fun z st=>(z.1<=dc.length/\dc.all CtorD.okB=(dc.drop z.1).all CtorD.okB/\∃ G,z.2=Y2++G)/\st=⟨[(1,.ptr H.length 0),(2,.p (.b false)),(3,.p (.i .i64 x)),(4,.ptr Y.length 0),(6,.p (.i .i64 z.1))],[],z.2⟩,fun z=>dc.length - z.1,⟨(0,Y2),?_⟩,?_⟩
  ·simp only [go_sem,simprocAttr]
   exact ⟨by simp,[],by simp⟩
  rintro ⟨y,Z⟩ _ ⟨⟨hy,hm,G,rfl⟩,rfl⟩
  simp only at hy hm
  have hz7:=hz4 G
  by_cases hlt7:y<dc.length
  ·have d7:decide ((y:Int)<(dc.length:Int))=true:=by simp; omega
   have hlt7':(y:Int)<(dc.length:Int):=by omega
   have hg7:(dc.map CtorD.cells)[y]?=some (CtorD.cells dc[y]):=by simp [hlt7]
   have hc7:dc[y].sz<=1073741824:=by have:=ctorsSz_mem (List.getElem_mem hlt7); omega
   rw [all_drop hlt7] at hm
   generalize dc[y]=w at hg7 hc7 hm
   obtain ⟨cn,ch,ca,cp⟩:=w
   simp only [CtorD.sz] at hc7
   have t1:=tyOkSC ca (by omega)
   have t2:=tyNoSC ca
   have t3:=nameSC true (s:=cn) (by omega)
   simp only [if_true] at t3
   obtain ⟨ak,an,ap,aks⟩:=ca
   simp only [CtorD.cells,TyE.cells,avC,List.map_cons,List.map_nil,tyOkS,List.cons_append,List.nil_append] at hg7 t1 t2
   simp only [CtorD.okB,upB] at hm
   generalize TyE.okB _=o1 at hm t1
   generalize TyE.noB _=o2 at hm t2
   generalize hr:(dc.drop (y+1)).all CtorD.okB=rest at hm
   have hz8:∀ A,∃ G',Y2++(G++A)=H++G':=fun A=>(hY4 _).ends
   generalize hE:(ds.drop (x+1)).all DataD.okB=rest2 at hn
   simp only [go_sem,simprocAttr,d7,hlt7',hg7,hz7,List.length_map]
   intro hl8
   rw [maxLe] at hl8
   cases ch
   all_goals
    repeat' first
     | (with_reducible refine condK_split _ (fun h=>?_) (fun h=>?_) <;> simp only [go_sem,simprocAttr,h,wrN y (by omega)])
     | (with_reducible refine acall_pure (t3 _) ?_; simp only [go_sem,simprocAttr,wrN y (by omega)])
     | (with_reducible refine acall_pure (t1 _) ?_; simp only [go_sem,simprocAttr,wrN y (by omega)])
     | (with_reducible refine acall_pure (t2 _) ?_; simp only [go_sem,simprocAttr,wrN y (by omega)])
     | (refine drw_same ?_; simp only [go_sem,simprocAttr,wrN y (by omega)])
     | (refine And.intro (by (try simp only [maxLe,LL]); omega) ?_; try simp only [go_sem,simprocAttr,wrN y (by omega)])
     | (intro _)
   all_goals try simp only [Bool.not_eq_false',Bool.not_eq_true'] at *
   all_goals first
    | (refine ⟨b2 ?_,hz8 _⟩; rw [hn,hm]; clear hr hn hm hE; simp [*]; done)
    | (refine ⟨(y+1,_),⟨⟨by omega,hm.trans (Eq.trans ?_ hr.symm),_,rfl⟩,rfl⟩,by simp only; omega⟩; clear hr hn hm hE; simp [*]; done)
  have d7:decide ((y:Int)<(dc.length:Int))=false:=by simp; omega
  rw [List.drop_of_length_le (by omega),List.all_nil] at hm
  rw [hm,Bool.true_and] at hn
  simp only [go_sem,simprocAttr,d7,hz7,List.length_map,wrN x (by omega)]
  intro hl9
  exact ⟨(x+1,_),⟨⟨by omega,hn,hY4 _⟩,rfl⟩,by simp only; omega⟩
 ·have d1:decide ((x:Int)<(ds.length:Int))=false:=by simp; omega
  rw [List.drop_of_length_le (by omega),List.all_nil] at hn
  simp only [go_sem,simprocAttr,d1,hz0,List.length_map]
  intro hl
  refine acall_pure (h1 _) ?_
  simp only [go_sem,simprocAttr]
  exact ⟨b2 (by rw [hn,Bool.and_true]),hY.ends⟩
end Go.Proofs.YtghcmccjchdgeaaGreatDoor.Qp