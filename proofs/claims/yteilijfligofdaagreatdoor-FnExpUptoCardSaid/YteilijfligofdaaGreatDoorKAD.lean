/- Texts QcB QcC QcD QcE QcF QcG QcH QcI QcJ QcK QcL QiJ QiK QiP, merged. -/
import Derived.Test.YteilijfligofdaaGreatDoorKAC
import Derived.Test.YteilijfligofdaaGreatDoorChecked
import Derived.KernelRfl
set_option linter.all false
namespace Go.Proofs.YteilijfligofdaaGreatDoor.Pg
open Go.AM
mutual
def PatD.tv:PatD->List TV
 | .mk k n u p ks=>[.p (.i .i64 k),.p (.s n),.p (.i .i64 u),.p (.i .i64 p),.s 5 (PatD.tvL ks)]
def PatD.tvL:List PatD->List (List TV)
 | []=>[]
 | t :: l=>t.tv :: PatD.tvL l
end
mutual
def ExpD.tv:ExpD->List TV
 | .mk k n u t p ks as'=>[.p (.i .i64 k),.p (.s n),.p (.i .i64 u),.p (.s t),.p (.i .i64 p),.s 7 (ExpD.tvL ks),.s 12 (ExpD.tvA as')]
def ExpD.tvL:List ExpD->List (List TV)
 | []=>[]
 | t :: l=>t.tv :: ExpD.tvL l
def ArmD.tv:ArmD->List TV
 | .mk p e=>p.tv++e.tv
def ExpD.tvA:List ArmD->List (List TV)
 | []=>[]
 | t :: l=>t.tv :: ExpD.tvA l
end
theorem PatD.tvL_eq (l:List PatD):PatD.tvL l=l.map PatD.tv:=by
 induction l with
 | nil=>rfl
 | cons t l ih=>rw [PatD.tvL,ih]; rfl
theorem ExpD.tvL_eq (l:List ExpD):ExpD.tvL l=l.map ExpD.tv:=by
 induction l with
 | nil=>rfl
 | cons t l ih=>rw [ExpD.tvL,ih]; rfl
theorem ExpD.tvA_eq (l:List ArmD):ExpD.tvA l=l.map ArmD.tv:=by
 induction l with
 | nil=>rfl
 | cons t l ih=>rw [ExpD.tvA,ih]; rfl
theorem PatD.tv_len (t:PatD):t.tv.length=5:=by cases t; rw [PatD.tv]; rfl
theorem ExpD.tv_len (t:ExpD):t.tv.length=7:=by cases t; rw [ExpD.tv]; rfl
theorem ArmD.tv_len (t:ArmD):t.tv.length=12:=by cases t; rw [ArmD.tv,List.length_append,PatD.tv_len,ExpD.tv_len]
theorem wfC_app : ∀ {a b : List TV}, WfC a → WfC b → WfC (a ++ b)
  | [], b, _, h => h
  | t :: a, b, h, k => by
    rw [WfC] at h
    rw [List.cons_append, WfC]
    exact ⟨h.1, wfC_app h.2 k⟩
theorem wf_p {x:PV} {l:List TV} (h:WfC l):WfC (.p x :: l):=by rw [WfC,WfT]; exact ⟨trivial,h⟩
theorem wf_s {sz:Nat} {r:List (List TV)} {l:List TV} (h:WfR sz r) (k:WfC l):WfC (.s sz r :: l):=by rw [WfC,WfT]; exact ⟨h,k⟩
theorem wf_n:WfC []:=by rw [WfC]; trivial
mutual
theorem PatD.wf:∀ t:PatD,WfC t.tv
 | .mk k n u p ks=>by rw [PatD.tv]; exact wf_p (wf_p (wf_p (wf_p (wf_s (PatD.wfL ks) wf_n))))
theorem PatD.wfL:∀ l:List PatD,WfR 5 (PatD.tvL l)
 | []=>by rw [PatD.tvL,WfR]; trivial
 | t :: l=>by rw [PatD.tvL,WfR]; exact ⟨t.tv_len,t.wf,PatD.wfL l⟩
end
mutual
theorem ExpD.wf:∀ t:ExpD,WfC t.tv
 | .mk k n u t p ks as'=>by rw [ExpD.tv]; exact wf_p (wf_p (wf_p (wf_p (wf_p (wf_s (ExpD.wfL ks) (wf_s (ExpD.wfA as') wf_n))))))
theorem ExpD.wfL:∀ l:List ExpD,WfR 7 (ExpD.tvL l)
 | []=>by rw [ExpD.tvL,WfR]; trivial
 | t :: l=>by rw [ExpD.tvL,WfR]; exact ⟨t.tv_len,t.wf,ExpD.wfL l⟩
theorem ArmD.wf:∀ t:ArmD,WfC t.tv
 | .mk p e=>by rw [ArmD.tv]; exact wfC_app p.wf e.wf
theorem ExpD.wfA:∀ l:List ArmD,WfR 12 (ExpD.tvA l)
 | []=>by rw [ExpD.tvA,WfR]; trivial
 | t :: l=>by rw [ExpD.tvA,WfR]; exact ⟨t.tv_len,t.wf,ExpD.wfA l⟩
end
end Go.Proofs.YteilijfligofdaaGreatDoor.Pg
namespace Go.Proofs.YteilijfligofdaaGreatDoor.Qp
open Go.AM Mc Pg
def pvI (T:List Tok) (most:Nat) (s:PS):AO:=.var [ptV T,iV s.i,iV most,iV s.d,iV s.c,iV s.ps]
theorem pvI_tf (T most s c) (h:InO c (pvI T most s)):Tf c:=by
 simp only [pvI,InO,List.mem_cons,List.not_mem_nil,or_false] at h
 rcases h with rfl | rfl | rfl | rfl | rfl | rfl <;> exact tf_p _
section
variable {T:List Tok} {most e:Nat}
theorem iNow:PF (pvI T most) T e 84 [] (nowM T) tv:=by
 refine pf_of (pvI_tf T most) fun H p s hp hs=>?_
 have hlt:decide ((s.i:Int)<(T.length:Int))=true:=by simp; exact hs.1
 have hg:=tok_get hs.1
 refine call84 (by simp) ?_
 simp only [go_sem,simprocAttr,mc84,mr84]
 refine drw_same ?_
 simp only [go_sem,simprocAttr,qp hp,pvI,List.length_map,hlt,hg,Tok.cells]
 exact ⟨_,rfl,lentP (tf_av (tokA T s).cells)⟩
theorem iFailed:PF (pvI T most) T e 32 [] (testM fun s=>!decide (s.c=0)) bV:=by
 refine pf_of (pvI_tf T most) fun H p s hp hs=>?_
 refine call32 (by simp) ?_
 simp only [go_sem,simprocAttr,mc32,mr32,qp0 hp,pvI]
 exact ⟨[],by simp,lentP (tf_p _)⟩
theorem iIsK (k:Int):PF (pvI T most) T e 91 [iV k] (testM (isK T k)) bV:=by
 refine pf_of (pvI_tf T most) fun H p s hp hs=>?_
 refine call91 (by simp) ?_
 simp only [go_sem,simprocAttr,mc91,mr91]
 refine acall_pure (iFailed.nil hp hs) ?_
 have eT:isK T k s=(decide (s.c=0) && decide ((tokA T s).k=k)):=rfl
 rw [eT]
 cases h0:decide (s.c=0)
 ·simp only [go_sem,simprocAttr,h0,Bool.false_and,Bool.not_false,Bool.not_true]
  exact ⟨[],by simp,lentP (tf_p _)⟩
 ·simp only [go_sem,simprocAttr,h0,Bool.true_and,Bool.not_false,Bool.not_true]
  refine acall_pure (iNow.nil hp hs) ?_
  simp only [go_sem,simprocAttr,Tok.cells]
  exact ⟨[],by simp,lentP (tf_p _)⟩
theorem iIs (x:List UInt8):PF (pvI T most) T e 107 [sV x] (testM (isT T x)) bV:=by
 refine pf_of (pvI_tf T most) fun H p s hp hs=>?_
 refine call107 (by simp) ?_
 simp only [go_sem,simprocAttr,mc107,mr107]
 refine acall_pure (iNow.nil hp hs) ?_
 have eT:isT T x s=(decide (s.c=0) && (decide ((tokA T s).k=6) || decide ((tokA T s).k=7)) && decide ((tokA T s).t=x)):=rfl
 rw [eT]
 simp only [go_sem,simprocAttr,qp hp,Tok.cells]
 refine acall_pure (iFailed H _ p s hp hs) ?_
 cases h0:decide (s.c=0)
 ·simp only [go_sem,simprocAttr,h0,Bool.false_and,Bool.not_false,Bool.not_true]
  exact ⟨_,rfl,lentP (tf_p _)⟩
 cases h6:decide ((tokA T s).k=6)
 ·cases h7:decide ((tokA T s).k=7)
  ·simp only [go_sem,simprocAttr,h0,h6,h7,Bool.or_self,Bool.and_false,Bool.false_and,Bool.not_false,Bool.not_true]
   exact ⟨_,rfl,lentP (tf_p _)⟩
  ·simp only [go_sem,simprocAttr,h0,h6,h7,Bool.false_or,Bool.and_true,Bool.true_and,Bool.not_false,Bool.not_true]
   exact ⟨_,rfl,lentP (tf_p _)⟩
 ·simp only [go_sem,simprocAttr,h0,h6,Bool.true_or,Bool.and_true,Bool.true_and,Bool.not_false,Bool.not_true]
  exact ⟨_,rfl,lentP (tf_p _)⟩
theorem iTake (hTl:T.length<=1073741825) (x:List UInt8):PF (pvI T most) T e 86 [sV x] (takeM T x) bV:=by
 refine pf_of (pvI_tf T most) fun H p s hp hs=>?_
 refine call86 (by simp) ?_
 simp only [go_sem,simprocAttr,mc86,mr86]
 refine acall_pure ((iIs x).nil hp hs) ?_
 unfold takeM
 cases h:isT T x s
 ·simp only [go_sem,simprocAttr,h,Bool.not_false]
  exact ⟨[],by simp,lentP (tf_p _)⟩
 ·simp only [go_sem,simprocAttr,h,qp0 hp,pvI,qq0,ws hTl hs,Bool.not_true]
  exact ⟨[],by simp [adv],lentP (tf_p _)⟩
theorem iFail (c:Int):PF (pvI T most) T e 92 [iV c] (stepM (failP T c)) uV:=by
 refine pf_of (pvI_tf T most) fun H p s hp hs=>?_
 refine call92 (by simp) ?_
 cases h0:decide (s.c=0)
 ·simp only [go_sem,simprocAttr,mc92,mr92,qp0 hp,pvI,h0]
  rw [failP_c (of_decide_eq_false h0)]
  exact ⟨[],by simp,lentP (tf_tup _ (by simp))⟩
 ·simp only [go_sem,simprocAttr,mc92,mr92,qp0 hp,pvI,h0]
  refine acall_pure (iNow.nil hp hs) ?_
  rw [failP_0 (of_decide_eq_true h0)]
  simp only [go_sem,simprocAttr,qp0 hp,pvI,Tok.cells,qq0]
  exact ⟨[],by simp,lentP (tf_tup _ (by simp))⟩
theorem iWord (hTl:T.length<=1073741825) (k:Int):PF (pvI T most) T e 87 [iV k] (wordP T k) sV:=by
 refine pf_of (pvI_tf T most) fun H p s hp hs=>?_
 have hlt:decide ((s.i:Int)<(T.length:Int))=true:=by simp; exact hs.1
 have hg:=tok_get hs.1
 have w1:wr .i64 (((s.i+1:Nat):Int) - 1)=(s.i:Int):=by rw [wr64 (by omega) (by have:=hs.1; omega)]; omega
 refine call87 (by simp) ?_
 simp only [go_sem,simprocAttr,mc87,mr87]
 refine acall_pure ((iIsK k).nil hp hs) ?_
 unfold wordP
 cases h:isK T k s
 ·simp only [go_sem,simprocAttr,h,Bool.not_false]
  refine acall_pure ((iFail 11).nil hp hs) ?_
  simp only [go_sem,simprocAttr]
  exact ⟨[],by simp,lentP (tf_p _)⟩
 ·simp only [go_sem,simprocAttr,h,qp0 hp,pvI,qq0,ws hTl hs,Bool.not_true]
  refine drw_same ?_
  simp only [go_sem,simprocAttr,qp0 hp,List.length_map,w1,hlt,hg,Tok.cells]
  exact ⟨[],by simp [adv],lentP (tf_p _)⟩
theorem deeper_le {d:Nat} (h:¬ most<d) (s:PS):deeperP T most d s=if s.c=0 then { s with d:=max s.d d } else s:=by unfold deeperP; rw [if_neg h]
theorem iDeeper (d:Nat):PF (pvI T most) T e 83 [iV d] (fun s=>(decide ((deeperP T most d s).c=0),deeperP T most d s)) bV:=by
 refine pf_of (pvI_tf T most) fun H p s hp hs=>?_
 refine call83 (by simp) ?_
 by_cases hd:most<d
 ·have d1:decide ((most:Int)<(d:Int))=true:=by simp; omega
  simp only [go_sem,simprocAttr,mc83,mr83,qp0 hp,pvI,d1]
  refine acall_pure ((iFail 12).nil hp hs) ?_
  have hs1:=hs.step (stay_fail T 12)
  have hne:(failP T 12 s).c≠0:=by
   by_cases h0:s.c=0
   ·rw [failP_0 h0]; exact (by decide:(12:Int)≠0)
   ·rw [failP_c h0]; exact h0
  have eq0:deeperP T most d s=failP T 12 s:=by unfold deeperP; rw [if_pos hd]; simp only [if_neg hne]
  rw [eq0]
  simp only [go_sem,simprocAttr]
  refine acall_pure (iFailed.nil hp hs1) ?_
  simp only [go_sem,simprocAttr,dF hne,Bool.not_false,Bool.not_true]
  refine acall_pure (iFailed.nil hp hs1) ?_
  simp only [go_sem,simprocAttr,dF hne,Bool.not_false,Bool.not_true]
  exact ⟨[],by rw [List.append_nil]; rfl,lentP (tf_p _)⟩
 ·have d1:decide ((most:Int)<(d:Int))=false:=by simp; omega
  simp only [go_sem,simprocAttr,mc83,mr83,qp0 hp,pvI,d1]
  refine acall_pure (iFailed.nil hp hs) ?_
  rw [deeper_le hd]
  by_cases h0:s.c=0
  ·rw [if_pos h0]
   simp only [go_sem,simprocAttr,dT h0,Bool.not_false,Bool.not_true,qp0 hp,pvI,qq0]
   have hs1:Ok T e { s with d:=max s.d d }:=hs
   have eM:(if (d:Int) > (s.d:Int) then (d:Int) else (s.d:Int))=((max s.d d:Nat):Int):=by split <;> omega
   rw [eM]
   refine acall_pure ((iFailed (most:=most)).nil hp hs1) ?_
   simp only [go_sem,simprocAttr,dT h0,Bool.not_false,Bool.not_true]
   exact ⟨[],by rw [List.append_nil]; rfl,lentP (tf_p _)⟩
  ·rw [if_neg h0]
   simp only [go_sem,simprocAttr,dF h0,Bool.not_false,Bool.not_true,qp0 hp,pvI,qq0]
   refine acall_pure (iFailed.nil hp hs) ?_
   simp only [go_sem,simprocAttr,dF h0,Bool.not_false,Bool.not_true]
   exact ⟨[],by rw [List.append_nil]; rfl,lentP (tf_p _)⟩
def wants (T:List Tok) (ws:List (List UInt8)) (s:PS):PS:=ws.foldl (fun s w=>wantP T w s) s
theorem iWant (hT:ToksOk T) (hTl:T.length<=1073741825) (ws:List (List UInt8)) (hw:ws.length<=100) {H A:List AO} {p id ver:Nat} {s:PS} (hp:p<H.length) (hs:Ok T e s) (hid:id≠p) (hi:∀ c,(H.set p c++A)[id]?=some (.rows 1 ver (ws.map fun w=>[sV w]))) :
  ACall Tryz.prog 88 [.ptr p 0,.gs id ver 0 ws.length] (H.set p (pvI T most s)++A) (pureQ (.tup []) (H.set p (pvI T most (wants T ws s))++A)):=by
 refine call88 (by simp) ?_
 simp only [go_sem,simprocAttr,mc88,mr88]
 intro _
 refine ⟨Nat × PS,[0,6,7,8],fun x st=>(x.1<=ws.length/\Ok T e x.2/\wants T (ws.drop x.1) x.2=wants T ws s)/\st=⟨[(0,.ptr p 0),(6,.gs id ver 0 ws.length),(7,iV ws.length),(8,iV x.1)],[],H.set p (pvI T most x.2)++A⟩,fun x=>ws.length - x.1,⟨(0,s),?_⟩,?_⟩
 ·simp only [go_sem,simprocAttr]
  exact ⟨Nat.zero_le _,hs⟩
 ·rintro ⟨j,s'⟩ _ ⟨⟨hj,hs',he⟩,rfl⟩
  simp only at hj hs' he ⊢
  have hw1:wr .i64 ((j:Int)+1)=((j+1:Nat):Int):=wrN _ (by omega)
  by_cases hlt:j<ws.length
  ·have d1:decide ((j:Int)<(ws.length:Int))=true:=by simp; omega
   have hrow:(ws.map fun w=>[sV w])[j]?=some [sV ws[j]]:=by simp [hlt]
   have d2:0+j=j:=by omega
   simp only [go_sem,simprocAttr,d1,hi,hrow,Option.map_some]
   refine ⟨by omega,?_⟩
   refine acall_pure (iTake hTl ws[j] H _ p s' hp hs') ?_
   have hdr:ws.drop j=ws[j] :: ws.drop (j+1):=List.drop_eq_getElem_cons hlt
   have hnx:wants T (ws.drop (j+1)) (wantP T ws[j] s')=wants T ws s:=by rw [<- he,hdr]; rfl
   have hs2:=hs'.step (stay_want hT ws[j])
   unfold takeM
   cases hg:isT T ws[j] s'
   ·simp only [go_sem,simprocAttr,hg,Bool.not_false,Bool.not_true]
    refine acall_pure (iFail 11 H _ p s' hp hs') ?_
    simp only [go_sem,simprocAttr,hw1]
    have ew:wantP T ws[j] s'=failP T 11 s':=by unfold wantP; rw [hg]; rfl
    rw [ew] at hnx hs2
    exact ⟨(j+1,failP T 11 s'),⟨⟨hlt,hs2,hnx⟩,rfl⟩,by simp only; omega⟩
   ·simp only [go_sem,simprocAttr,hg,Bool.not_false,Bool.not_true,hw1]
    have ew:wantP T ws[j] s'=adv s':=by unfold wantP; rw [hg]; rfl
    rw [ew] at hnx hs2
    exact ⟨(j+1,adv s'),⟨⟨hlt,hs2,hnx⟩,rfl⟩,by simp only; omega⟩
  ·have d1:decide ((j:Int)<(ws.length:Int))=false:=by simp; omega
   simp only [go_sem,simprocAttr,d1]
   have:ws.drop j=[]:=by simp; omega
   rw [this] at he
   rw [<- he]
   exact ⟨rfl,rfl⟩
theorem iAtomNext:PF (pvI T most) T e 185 [] (testM (atNx T)) bV:=by
 refine pf_of (pvI_tf T most) fun H p s hp hs=>?_
 refine call185 (by simp) ?_
 simp only [go_sem,simprocAttr,mc185,mr185]
 unfold atNx
 refine acall_pure ((iIsK 1).nil hp hs) ?_
 cases h1:isK T 1 s
 rotate_left
 ·simp only [go_sem,simprocAttr,h1,Bool.true_or]
  exact ⟨[],by simp,lentP (tf_p _)⟩
 simp only [go_sem,simprocAttr,h1,Bool.false_or]
 refine acall_pure ((iIsK 2).nil hp hs) ?_
 cases h2:isK T 2 s
 rotate_left
 ·simp only [go_sem,simprocAttr,h2,Bool.true_or]
  exact ⟨[],by simp,lentP (tf_p _)⟩
 simp only [go_sem,simprocAttr,h2,Bool.false_or]
 refine acall_pure ((iIsK 3).nil hp hs) ?_
 cases h3:isK T 3 s
 rotate_left
 ·simp only [go_sem,simprocAttr,h3,Bool.true_or]
  exact ⟨[],by simp,lentP (tf_p _)⟩
 simp only [go_sem,simprocAttr,h3,Bool.false_or]
 refine acall_pure ((iIsK 4).nil hp hs) ?_
 cases h4:isK T 4 s
 rotate_left
 ·simp only [go_sem,simprocAttr,h4,Bool.true_or]
  exact ⟨[],by simp,lentP (tf_p _)⟩
 simp only [go_sem,simprocAttr,h4,Bool.false_or]
 refine acall_pure ((iIs [116,114,117,101]).nil hp hs) ?_
 cases h5:isT T [116,114,117,101] s
 rotate_left
 ·simp only [go_sem,simprocAttr,h5,Bool.true_or]
  exact ⟨[],by simp,lentP (tf_p _)⟩
 simp only [go_sem,simprocAttr,h5,Bool.false_or]
 refine acall_pure ((iIs [102,97,108,115,101]).nil hp hs) ?_
 cases h6:isT T [102,97,108,115,101] s
 rotate_left
 ·simp only [go_sem,simprocAttr,h6,Bool.true_or]
  exact ⟨[],by simp,lentP (tf_p _)⟩
 simp only [go_sem,simprocAttr,h6,Bool.false_or]
 refine acall_pure ((iIs [114,101,97,100]).nil hp hs) ?_
 cases h7:isT T [114,101,97,100] s
 rotate_left
 ·simp only [go_sem,simprocAttr,h7,Bool.true_or]
  exact ⟨[],by simp,lentP (tf_p _)⟩
 simp only [go_sem,simprocAttr,h7,Bool.false_or]
 refine acall_pure ((iIs [40]).nil hp hs) ?_
 simp only [go_sem,simprocAttr]
 exact ⟨[],by simp,lentP (tf_p _)⟩
theorem iEnd:PF (pvI T most) T e 31 [] (stepM (endP T)) uV:=by
 refine pf_of (pvI_tf T most) fun H p s hp hs=>?_
 refine call31 (by simp) ?_
 simp only [go_sem,simprocAttr,mc31,mr31]
 refine acall_pure ((iIsK 8).nil hp hs) ?_
 unfold endP
 cases h:isK T 8 s
 ·simp only [go_sem,simprocAttr,h,Bool.not_false,Bool.not_true]
  refine acall_pure ((iFail 11).nil hp hs) ?_
  simp only [go_sem,simprocAttr]
  exact ⟨[],by simp,lentP (tf_tup _ (by simp))⟩
 ·simp only [go_sem,simprocAttr,h,Bool.not_false,Bool.not_true]
  exact ⟨[],by simp,lentP (tf_tup _ (by simp))⟩
end
end Go.Proofs.YteilijfligofdaaGreatDoor.Qp
namespace Go.Proofs.YteilijfligofdaaGreatDoor.Qp
open Go.AM Mc Pg
theorem qya {H:List AO} {n:Nat} (hn:H.length=n) (A B:List AO) (p:Nat) (c:AO) (k:Nat):(H.set p c++(A++B))[n+A.length+k]?=B[k]?:=by subst hn; exact qxa H A B p c k
theorem qya0 {H:List AO} {n:Nat} (hn:H.length=n) (A B:List AO) (p:Nat) (c:AO):(H.set p c++(A++B))[n+A.length]?=B[0]?:=qya hn A B p c 0
theorem wants1 (T w s):wants T [w] s=wantP T w s:=rfl
theorem wants2 (T w w' s):wants T [w,w'] s=wantP T w' (wantP T w s):=rfl
structure LG (α:Type) where
 j:Nat
 s:PS
 acc:List α
 rs:List (List AV)
 a:AV
 H:List AO
 A:List AO
structure LO {α:Type} (pv:PS->AO) (T:List Tok) (e b n p:Nat) (K:List AO) (N:List Nat) (sz:Nat) (tv:α->List TV) (g:PS->Bool) (m:PM α) (Rl:List α) (Rs:PS) (x:LG α):Prop where
 ok:Ok T e x.s
 ln:x.acc.length<=x.s.i+1
 fu:x.s.c=0->T.length - x.s.i<=x.j
 rl:x.acc++(many g m x.j x.s).1=Rl
 re:(many g m x.j x.s).2=Rs
 hn:x.H.length=n
 kp:Kp b K x.H
 fr:∃ M,Fr b x.H M/\nR ((many g m x.j x.s).1.map tv)<=M
 env:Env b n (x.H.set p (pv x.s)++x.A) (x.acc.map tv).flatten x.rs.flatten
 len:x.rs.length=x.acc.length
 sz1:∀ r∈x.rs,r.length=sz
 own:OwnR (x.H.set p (pv x.s)++x.A) x.a sz x.rs
 ids:∀ id v o m,x.a=.gs id v o m->n<=id/\id - n ∉ N
 nm:∀ k∈N,k<x.A.length
section
variable {α:Type} {pv:PS->AO} {T:List Tok} {e b n p sz:Nat} {K:List AO} {N:List Nat} {tv:α->List TV} {g:PS->Bool} {m:PM α} {Rl:List α} {Rs:PS}
theorem LO.start1 {H A:List AO} {s:PS} {M i ver:Nat} {x:α} {cs:List AV} (hs:Ok T e s) (h:many g m T.length s=(Rl,Rs)) (hn:H.length=n) (hk:Kp b K H) (hF:Fr b H M) (hM:nR (Rl.map tv)<=M) (hE:Env b n (H.set p (pv s)++A) (tv x) cs) (hsz:cs.length=sz) (hi:A[i]?=some (.rows sz ver [cs])) (hN:i ∉ N) (hb:∀ k∈N,k<A.length) :
  LO pv T e b n p K N sz tv g m (x :: Rl) Rs ⟨T.length,s,[x],[cs],.gs (n+i) ver 0 1,H,A⟩ :=
 ⟨hs,by simp,fun _=>by simp only; omega,by simp only [h]; rfl,by simp only [h],hn,hk,⟨M,hF,by simp only [h]; exact hM⟩,by simpa using hE,rfl,by simpa using hsz,.inr ⟨_,_,rfl,by simp only; rw [qyk hn]; exact hi⟩,(fun _ _ _ _ e=>by cases e; exact ⟨by omega,by rwa [Nat.add_sub_cancel_left]⟩),hb⟩
theorem LO.stop {x:LG α} (h:LO pv T e b n p K N sz tv g m Rl Rs x) (hg:g x.s=false):x.acc=Rl/\x.s=Rs:=by
 have h1:=h.rl; have h2:=h.re
 rw [many_c hg] at h1 h2
 exact ⟨by simpa using h1,h2⟩
theorem LO.succ {x:LG α} (h:LO pv T e b n p K N sz tv g m Rl Rs x) (ho:Only T g) (hg:g x.s=true):∃ j',x.j=j'+1:=⟨x.j - 1,by have:=h.fu (ho x.s hg).1; have:=h.ok.1; omega⟩
theorem LO.room {x:LG α} (h:LO pv T e b n p K N sz tv g m Rl Rs x) (ho:Only T g) (hg:g x.s=true) {y:α} {s2:PS} (hm:m x.s=(y,s2)):∃ M,Fr b x.H M/\nC (tv y)+nR ((many g m (x.j - 1) s2).1.map tv)<=M:=by
 obtain ⟨j',hj⟩:=h.succ ho hg
 obtain ⟨M,h1,h2⟩:=h.fr
 refine ⟨M,h1,?_⟩
 rw [hj,many,if_pos hg,hm] at h2
 rw [hj,Nat.add_sub_cancel]
 simpa [nR] using h2
theorem LO.next {x:LG α} (h:LO pv T e b n p K N sz tv g m Rl Rs x) (ho:Only T g) (hg:g x.s=true) {y:α} {s2:PS} (hm:m x.s=(y,s2)) (hs2:Ok T e s2) (hgt:x.s.i<s2.i) {H1 A' A'':List AO} {M id ver:Nat} {cs:List AV} (hn1:H1.length=n) (kp1:Kp b x.H H1) (fr1:Fr b H1 M) (hM:nR ((many g m (x.j - 1) s2).1.map tv)<=M)
  (env1:Env b n (H1.set p (pv s2)++A'') ((x.acc.map tv).flatten++tv y) (x.rs.flatten++cs)) (hcs:cs.length=sz)
  (k1:(H1.set p (pv s2)++A')[id]?=some (.rows sz ver (x.rs++[cs]))) (k2:n<=id/\id - n ∉ N) (k3:∀ (k:Nat) (o:AO),k ∉ N->A'[k]?=some o->A''[k]?=some o) (k4:∀ k∈N,k<A''.length) :
  LO pv T e b n p K N sz tv g m Rl Rs ⟨x.j - 1,s2,x.acc++[y],x.rs++[cs],.gs id ver 0 (x.rs.length+1),H1,A''⟩:=by
 obtain ⟨j',hj⟩:=h.succ ho hg
 have h1:=h.rl; have h2:=h.re
 rw [hj,many,if_pos hg,hm] at h1 h2
 have hln:=h.ln
 have hi:=h.ok.1
 refine ⟨hs2,by simp; omega,fun hc=>?_,by rw [hj,Nat.add_sub_cancel]; simpa using h1,by rw [hj,Nat.add_sub_cancel]; exact h2,hn1,h.kp.trans kp1,⟨M,fr1,hM⟩,?_,by simp [h.len],?_,.inr ⟨id,ver,by simp,?_⟩,(fun id' v o m' e=>by cases e; exact k2),k4⟩
 ·have:=h.fu (ho x.s hg).1; simp only; omega
 ·simpa using env1
 ·intro r hr
  rcases List.mem_append.1 hr with hr | hr
  ·exact h.sz1 r hr
  ·simp at hr; rw [hr]; exact hcs
 ·obtain ⟨q,hq⟩:=Nat.le.dest k2.1
  subst hq
  rw [qyk hn1] at k1
  simp only
  rw [qyk hn1]
  exact k3 _ _ (by have:=k2.2; rwa [Nat.add_sub_cancel_left] at this) k1
theorem LO.app {x:LG α} {J:St->Prop} {L T':En} {d:MD} {bytes:Nat} {c:AO} {H1 B:List AO} {y:List AV} (h:LO pv T e b n p K N sz tv g m Rl Rs x) (hn1:H1.length=n) (hB:∀ (k:Nat) (o:AO),x.A[k]?=some o->B[k]?=some o) (hTl:T.length<=1073741825) (hby:bytes<=1000)
  (k:∀ id ver A',(H1.set p c++A')[id]?=some (.rows sz ver (x.rs++[y]))->(n<=id/\id - n ∉ N)->(∀ k:Nat,k∈N->A'[k]?=x.A[k]?)->J (St.put ⟨L,T',H1.set p c++A'⟩ d (.gs id ver 0 (x.rs.length+1)))) :
  appX sz bytes x.a [y] d J ⟨L,T',H1.set p c++B⟩:=by
 have hln:=h.ln
 have hi:=h.ok.1
 have hl:=h.len
 have hlB:∀ k∈N,k<B.length:=fun k hk=>by
  have hk2:=h.nm k hk
  exact get_lt (hB k x.A[k] (by simp [hk2]))
 have hids:∀ id v o m,x.a=.gs id v o m->H1.length<=id/\id - H1.length ∉ N:=by rw [hn1]; exact h.ids
 have hown:OwnR (H1.set p c++B) x.a sz x.rs:=by
  rcases h.own with h1 | ⟨id,ver,e1,h1⟩
  ·exact .inl h1
  ·obtain ⟨q1,q2⟩:=h.ids _ _ _ _ e1
   obtain ⟨q,rfl⟩:=Nat.le.dest q1
   rw [qyk h.hn] at h1
   exact .inr ⟨_,ver,e1,by rw [qyk hn1]; exact hB _ _ h1⟩
 refine app_q (rs:=x.rs) (ys:=[y]) hown hlB hids (by rw [hl]; simp; exact Nat.le_trans (Nat.mul_le_mul (show x.acc.length+1<=1073741827 by omega) hby) (by decide)) (by rw [hl]; simp; omega) ?_
 intro id ver A' k1 k2 k3
 rw [hn1] at k2
 refine k id ver A' k1 k2 (fun j hj=>?_)
 rw [k3 j hj]
 have hjl:=h.nm j hj
 rw [hB j x.A[j] (by simp [hjl])]; simp [hjl]
theorem LO.fin {x:LG α} (h:LO pv T e b n p K N sz tv g m Rl Rs x) (hp:p<b) (hb:b<=n) (h0:x.acc≠[]) (htv:∀ a,(tv a).length=sz) {c:AO} {B:List AO} (hk:∀ (k:Nat) (o:AO),k ∉ N->x.A[k]?=some o->B[k]?=some o):∃ u,Env b u (x.H.set p c++B) [.s sz (x.acc.map tv)] [x.a]:=by
 rcases h.own with ⟨h1,h2⟩ | ⟨id,ver,e1,h1⟩
 ·have:=h.len; rw [h2] at this; exact (h0 (List.length_eq_zero_iff.1 this.symm)).elim
 ·obtain ⟨q1,q2⟩:=h.ids _ _ _ _ e1
  obtain ⟨q,rfl⟩:=Nat.le.dest q1
  rw [Nat.add_sub_cancel_left] at q2
  rw [qyk h.hn] at h1
  rw [e1]
  exact ⟨_,(h.env.base h.hn hp).node (by rw [qyk h.hn]; exact hk _ _ q2 h1) (by omega) (by omega) (by rw [h.len]; simp) (by intro r hr; obtain ⟨a,_,rfl⟩:=List.mem_map.1 hr; exact htv a) h.sz1 (by simpa using h0)⟩
theorem LO.shape {x:LG α} (h:LO pv T e b n p K N sz tv g m Rl Rs x) (h0:x.acc≠[]):∃ id ver,x.a=.gs id ver 0 x.rs.length:=by
 rcases h.own with ⟨h1,h2⟩ | ⟨id,ver,e1,h1⟩
 ·have:=h.len; rw [h2] at this; exact (h0 (List.length_eq_zero_iff.1 this.symm)).elim
 ·exact ⟨id,ver,e1⟩
theorem LO.one {x:LG α} (h:LO pv T e b n p K N sz tv g m Rl Rs x) {y:α} (h0:x.acc=[y]):∃ cs q ver,x.rs=[cs]/\x.a=.gs (n+q) ver 0 1/\q ∉ N/\x.A[q]?=some (.rows sz ver [cs])/\cs.length=sz/\Env b n (x.H.set p (pv x.s)++x.A) (tv y) cs:=by
 have hl:=h.len
 rw [h0] at hl
 obtain ⟨cs,hcs⟩:=List.length_eq_one_iff.1 hl
 rcases h.own with ⟨h1,h2⟩ | ⟨id,ver,e1,h1⟩
 ·rw [h2] at hl; cases hl
 ·obtain ⟨q1,q2⟩:=h.ids _ _ _ _ e1
  obtain ⟨q,rfl⟩:=Nat.le.dest q1
  rw [Nat.add_sub_cancel_left] at q2
  rw [qyk h.hn,hcs] at h1
  have hE:=h.env
  rw [h0,hcs] at hE
  exact ⟨cs,q,ver,hcs,by rw [e1,hcs]; rfl,q2,h1,h.sz1 cs (by rw [hcs]; simp),by simpa using hE⟩
end
theorem len5 {r:List AV} (h:r.length=5):∃ a b c d e,r=[a,b,c,d,e]:=by match r,h with | [a,b,c,d,e],_=>exact ⟨_,_,_,_,_,rfl⟩
theorem len7 {r:List AV} (h:r.length=7):∃ a b c d e f g,r=[a,b,c,d,e,f,g]:=by match r,h with | [a,b,c,d,e,f,g],_=>exact ⟨_,_,_,_,_,_,_,rfl⟩
def PFo (T:List Tok) (most e f:Nat) (xs:List AV) {α:Type} (m:PM α) (tv:α->List TV):Prop:=∀ p,PX (pvI T most) T e f (.ptr p 0 :: xs) (fun _=>True) p m tv
theorem pfo_of {T:List Tok} {most e f:Nat} {xs:List AV} {α:Type} {m:PM α} {tv:α->List TV}
  (h:∀ (p:Nat) (K:List AO) (b n:Nat) (s:PS),K.length=n->p<b->b<=n->Ok T e s->Fr b K (nC (tv (m s).1))->ACall Tryz.prog f (.ptr p 0 :: xs) (K.set p (pvI T most s)) (Res K b p (pvI T most (m s).2) (tv (m s).1))):PFo T most e f xs m tv :=
 fun p=>px_of (pvI_tf T most) (fun _ _ _ _=>trivial) fun K b n s hn hp hb hs _ hF=>h p K b n s hn hp hb hs hF
theorem pat_leaf (b u:Nat) (X:List AO) (k:Int) (nm:List UInt8) (un q:Int):Env b u X (PatD.tv (.mk k nm un q [])) [iV k,sV nm,iV un,iV q,.p .nl]:=by
 rw [PatD.tv,PatD.tvL]
 exact (((Env.nl1.pc _).pc _).pc _).pc _
theorem pat_node {b u:Nat} {X:List AO} {k:Int} {nm:List UInt8} {un q:Int} {l:List PatD} {a:AV} (h:Env b u X [.s 5 (l.map PatD.tv)] [a]):Env b u X (PatD.tv (.mk k nm un q l)) [iV k,sV nm,iV un,iV q,a]:=by
 rw [PatD.tv,PatD.tvL_eq]
 exact (((h.pc _).pc _).pc _).pc _
theorem Env.patC {b u:Nat} {X:List AO} {ts:List TV} {ds cs:List AV} {k:Int} {nm:List UInt8} {un q:Int} {l:List PatD} (h:Env b u X (ts++PatD.tv (.mk k nm un q l)) (ds++cs)) (hl:ds.length=ts.length):∃ c,cs=[iV k,sV nm,iV un,iV q,c]:=by
 obtain ⟨ids,h1,_⟩:=h
 obtain ⟨c1,c2,i,j,e1,_,h3,h4⟩:=ownC_split h1
 obtain ⟨rfl,rfl⟩:=List.append_inj e1 (by rw [h3.len]; exact hl)
 rw [PatD.tv] at h4
 simp only [OwnCs,Own] at h4
 obtain ⟨_,_,_,_,rfl,_,⟨rfl,_⟩,_,_,_,_,rfl,_,⟨rfl,_⟩,_,_,_,_,rfl,_,⟨rfl,_⟩,_,_,_,_,rfl,_,⟨rfl,_⟩,c,_,_,_,rfl,_,_,rfl,_⟩:=h4
 exact ⟨c,rfl⟩
theorem pat_nC (k:Int) (nm:List UInt8) (un q:Int) (l:List PatD):nC (PatD.tv (.mk k nm un q l))=nK (l.map PatD.tv):=by
 rw [PatD.tv,PatD.tvL_eq]; simp [nC,nT]
section
variable {T:List Tok} {most e:Nat} (hT:ToksOk T) (hTl:T.length<=1073741825)
include hT hTl
theorem iPatBrC {d:Nat} (hd:d<=1099511627776) {pat:PM PatD} (hP:PFo T most e 89 [iV (d+1:Nat)] pat PatD.tv) (sP:StayM T pat):PFo T most e 165 [iV d] (iPatBr T T.length pat) PatD.tv:=by
 refine pfo_of fun p K b n s hn hp hb hs hF=>?_
 have hpK:p<K.length:=by omega
 have hd1:wr .i64 ((d:Int)+1)=((d+1:Nat):Int):=wrN _ (by omega)
 refine call165 (by simp) ?_
 simp only [go_sem,simprocAttr,qyk hn,qy0 hn,ryk hn,ry0 hn,hn,hn,mc165,mr165]
 refine acall_pure (iNow K _ p s hpK hs) ?_
 simp only [go_sem,simprocAttr,qyk hn,qy0 hn,ryk hn,ry0 hn,hn,hn,Tok.cells]
 refine acall_pure (iWant hT hTl [[40]] (by decide) hpK hs (by omega) (fun c=>by rw [qyk hn]; rfl)) ?_
 simp only [go_sem,simprocAttr,qyk hn,qy0 hn,ryk hn,ry0 hn,hn,hn,wants1]
 have hs1:=hs.step (stay_want hT [40])
 have e0:iPatBr T T.length pat s=iteG (isT T [41]) (retP (.mk 5 [] 0 (tokA T s).p [])) (iteB (fun s=>!decide (s.c=0)) (retP (.mk 5 [] 0 (tokA T s).p [])) (bindP pat fun a=>bindP (many (isT T [44]) (advP pat) T.length) fun l=>stepP (wantP T [41]) (retP (if l=[] then a else .mk 6 [] 0 (tokA T s).p (a :: l))))) (wantP T [40] s):=rfl
 rw [e0] at hF ⊢
 generalize (tokA T s).p=tp at *
 generalize wantP T [40] s=s1 at *
 refine acall_pure (iTake hTl [41] K _ p s1 hpK hs1) ?_
 unfold takeM
 cases hg1:isT T [41] s1
 rotate_left
 ·rw [iteG_t hg1]
  simp only [go_sem,simprocAttr,qyk hn,qy0 hn,ryk hn,ry0 hn,hn,hn,hg1]
  exact ⟨_,K,_,0,rfl,rfl,Kp.rfl,pat_leaf _ _ _ _ _ _ _⟩
 rw [iteG_f hg1] at hF ⊢
 simp only [go_sem,simprocAttr,qyk hn,qy0 hn,ryk hn,ry0 hn,hn,hn,hg1]
 refine acall_pure (iFailed K _ p s1 hpK hs1) ?_
 cases hc:decide (s1.c=0)
 ·rw [iteB_t (by simp [hc])]
  simp only [go_sem,simprocAttr,qyk hn,qy0 hn,ryk hn,ry0 hn,hn,hn,hc,Bool.not_false,Bool.not_true]
  exact ⟨_,K,_,0,rfl,rfl,Kp.rfl,pat_leaf _ _ _ _ _ _ _⟩
 rw [iteB_f (by simp [hc])] at hF ⊢
 simp only [go_sem,simprocAttr,qyk hn,qy0 hn,ryk hn,ry0 hn,hn,hn,hc,hd1,Bool.not_false,Bool.not_true]
 rcases hq:pat s1 with ⟨⟨k1,n1,u1,q1,l1⟩,s2⟩
 have hs2:=hs1.run sP
 rw [hq] at hs2
 rcases hR:many (isT T [44]) (advP pat) T.length s2 with ⟨Rl,Rs⟩
 have e1:(bindP pat fun a=>bindP (many (isT T [44]) (advP pat) T.length) fun l=>stepP (wantP T [41]) (retP (if l=[] then a else .mk 6 [] 0 tp (a :: l)))) s1=(if Rl=[] then .mk k1 n1 u1 q1 l1 else .mk 6 [] 0 tp (.mk k1 n1 u1 q1 l1 :: Rl),wantP T [41] Rs):=by rw [bindP_e,hq,bindP_e,hR]; rfl
 rw [e1] at hF ⊢
 have hNN:nC (PatD.tv (.mk k1 n1 u1 q1 l1))+nR (Rl.map PatD.tv)<=nC (PatD.tv (if Rl=[] then .mk k1 n1 u1 q1 l1 else .mk 6 [] 0 tp (.mk k1 n1 u1 q1 l1 :: Rl))):=by
  split
  ·rename_i h0; subst h0; simp [nR]
  ·rw [pat_nC 6,List.map_cons,nK]; omega
 generalize hNe:nC (PatD.tv (if Rl=[] then .mk k1 n1 u1 q1 l1 else .mk 6 [] 0 tp (.mk k1 n1 u1 q1 l1 :: Rl)))=NN at hF hNN
 obtain ⟨H1,cs1,hn1,kp1,fr1,cl1,_,env1,call1⟩:=(hP p).use PatD.wf hq hn hp hb hs1 hF (by omega)
 refine acall_pure (call1 _ trivial) ?_
 have hE1:=fun A A'=>env1 [] [] A A' (Env.nil _ _ _)
 obtain ⟨c1,rfl⟩:=(hE1 [] []).patC rfl
 simp only [go_sem,simprocAttr,qyk hn1,qy0 hn1,ryk hn1,ry0 hn1,hn1,hn1,Nat.add_zero]
 have hrow:∀ (c:AO) (A:List AO),(H1.set p c++A)[n+3]?=A[3]?:=fun c A=>qyk hn1 A p c 3
 refine ⟨LG PatD,[0,1,4,5,6],fun x st=>(LO (pvI T most) T e b n p K [0,1] 5 PatD.tv (isT T [44]) (advP pat) (.mk k1 n1 u1 q1 l1 :: Rl) Rs x/\x.A[0]?=some (.var [iV 0,sV [],iV 0,iV 0,.p .nl])/\x.A[1]?=some (.var [iV 5,sV [],iV 0,iV tp,.p .nl])) /\
   st=⟨[(0,.ptr p 0),(1,iV d),(4,.ptr n 0),(5,.ptr (n+1) 0),(6,x.a)],[],x.H.set p (pvI T most x.s)++x.A⟩,fun x=>T.length - x.s.i,
  ⟨⟨T.length,s2,[.mk k1 n1 u1 q1 l1],[[iV k1,sV n1,iV u1,iV q1,c1]],.gs (n+3) 0 0 1,H1,[.var [iV 0,sV [],iV 0,iV 0,.p .nl],.var [iV 5,sV [],iV 0,iV tp,.p .nl],.rows 1 0 [[sV [40]]],.rows 5 0 [[iV k1,sV n1,iV u1,iV q1,c1]]]⟩,?_⟩,?_⟩
 ·refine ⟨⟨LO.start1 hs2 hR hn1 kp1 fr1 (by omega) (hE1 [] _) rfl rfl (by decide) (by simp),rfl,rfl⟩,?_⟩
  simp only [go_sem,simprocAttr,qyk hn1,qy0 hn1,ryk hn1,ry0 hn1,hn1,hn1]
 ·rintro x _ ⟨⟨hL,i0,i1⟩,rfl⟩
  have hpx:p<x.H.length:=by rw [hL.hn]; omega
  simp only [go_sem,simprocAttr,qyk hL.hn,qy0 hL.hn,ryk hL.hn,ry0 hL.hn,hL.hn,hL.hn]
  refine acall_pure (iTake hTl [44] x.H _ p x.s hpx hL.ok) ?_
  unfold takeM
  cases hg:isT T [44] x.s
  ·obtain ⟨ha,hx⟩:=hL.stop hg
   simp only [go_sem,simprocAttr,qyk hL.hn,qy0 hL.hn,ryk hL.hn,ry0 hL.hn,hL.hn,hL.hn,hg]
   refine acall_pure (iWant hT hTl [[41]] (by decide) hpx hL.ok (by omega) (fun c=>by rw [qya0 hL.hn]; rfl)) ?_
   simp only [go_sem,simprocAttr,qyk hL.hn,qy0 hL.hn,ryk hL.hn,ry0 hL.hn,hL.hn,hL.hn,wants1]
   subst hx
   have i0':∀ B,(x.A++B)[0]?=some (.var [iV 0,sV [],iV 0,iV 0,.p .nl]):=fun B=>get_ext i0 B
   have i1':∀ B,(x.A++B)[1]?=some (.var [iV 5,sV [],iV 0,iV tp,.p .nl]):=fun B=>get_ext i1 B
   have hz:∀ B o,((x.A++B).set 0 o)[0]?=some o:=fun B o=>set_get (i0' B)
   have hz1:∀ B o,((x.A++B).set 1 o)[1]?=some o:=fun B o=>set_get (i1' B)
   by_cases hR0:Rl=[]
   ·subst hR0
    obtain ⟨cs,q,ver,r1,r2,r3,r4,r5,r6⟩:=hL.one ha
    obtain ⟨d1,d2,d3,d4,d5,rfl⟩:=len5 r5
    have r4':∀ B,(x.A++B)[q]?=some (.rows 5 ver [[d1,d2,d3,d4,d5]]):=fun B=>get_ext r4 B
    rw [r2,if_pos rfl]
    simp only [go_sem,simprocAttr,qyk hL.hn,qy0 hL.hn,ryk hL.hn,ry0 hL.hn,hL.hn,hL.hn,r4',i0',hz,Nat.add_zero]
    intro _
    exact ⟨_,x.H,_,n,rfl,rfl,hL.kp,r6.base hL.hn hp⟩
   ·have hkeep:∀ (o1 o2:AO) (B:List AO) (k:Nat) (o:AO),k ∉ [0,1]->x.A[k]?=some o->(((x.A++B).set 1 o1).set 0 o2)[k]?=some o:=fun o1 o2 B k o hk ho=>by
     simp at hk
     rw [List.getElem?_set_ne (by omega),List.getElem?_set_ne (by omega)]
     exact get_ext ho _
    obtain ⟨u,hE⟩:=hL.fin hp hb (by rw [ha]; simp) PatD.tv_len (c:=pvI T most (wantP T [41] x.s)) (hkeep (.var [iV 6,sV [],iV 0,iV tp,x.a]) (.var [iV 6,sV [],iV 0,iV tp,x.a]) [.rows 1 0 [[sV [41]]]])
    obtain ⟨id,ver,hxa⟩:=hL.shape (by rw [ha]; simp)
    have hlen:x.rs.length=Rl.length+1:=by rw [hL.len,ha]; rfl
    have d1:decide (((Rl.length+1:Nat):Int)=1)=false:=by
     have:Rl.length≠0:=fun h=>hR0 (List.length_eq_zero_iff.1 h)
     simp; omega
    rw [hlen] at hxa
    rw [if_neg hR0]
    rw [hxa] at hE ⊢
    have h00:∀ B o o',(((x.A++B).set 1 o).set 0 o')[0]?=some o':=fun B o o'=>set_get (get_set (i0' B) (by decide))
    have h01:∀ B o,((x.A++B).set 1 o)[0]?=some (.var [iV 0,sV [],iV 0,iV 0,.p .nl]):=fun B o=>get_set (i0' B) (by decide)
    simp only [go_sem,simprocAttr,qyk hL.hn,qy0 hL.hn,ryk hL.hn,ry0 hL.hn,hL.hn,hL.hn,d1,i1',i0',hz1,h00,h01,List.set_set]
    intro _
    rw [ha] at hE
    exact ⟨_,x.H,_,u,rfl,rfl,hL.kp,pat_node hE⟩
  ·obtain ⟨j,hj⟩:=hL.succ (only_isT T _) hg
   have hsa:=hL.ok.adv hT (isT_k hg).2
   have hs3:=hsa.run sP
   have hgt:=(Stay.adv hT sP hL.ok.1 (isT_k hg).2).1
   rcases hq3:pat (adv x.s) with ⟨⟨k3,n3,u3,q3,l3⟩,s3⟩
   rw [hq3] at hs3 hgt
   obtain ⟨M,frM,hM⟩:=hL.room (only_isT T _) hg (y:=.mk k3 n3 u3 q3 l3) (s2:=s3) hq3
   obtain ⟨H2,cs2,hn2,kp2,fr2,cl2,_,env2,call2⟩:=(hP p).use PatD.wf hq3 hL.hn hp hb hsa frM (by omega)
   have hE2:=fun A'=>env2 _ _ x.A A' (hL.env.base hL.hn hp)
   obtain ⟨c2,rfl⟩:=(hE2 []).patC (hL.env.len)
   simp only [go_sem,simprocAttr,qyk hL.hn,qy0 hL.hn,ryk hL.hn,ry0 hL.hn,hL.hn,hL.hn,hg,hd1]
   refine acall_pure (call2 _ trivial) ?_
   simp only [go_sem,simprocAttr,qyk hn2,qy0 hn2,ryk hn2,ry0 hn2,hn2,hn2,qya hn2,qya0 hn2,Nat.add_zero]
   refine ⟨by intro r hr; simp at hr; subst hr; rfl,?_⟩
   refine hL.app hn2 (fun k o h=>get_ext h _) hTl (by decide) ?_
   intro id ver A' m1 m2 m3
   have j0:=(m3 0 (by decide)).trans i0
   have j1:=(m3 1 (by decide)).trans i1
   simp only [go_sem,simprocAttr,qyk hn2,qy0 hn2,ryk hn2,ry0 hn2,hn2,hn2]
   exact ⟨⟨x.j - 1,s3,x.acc++[.mk k3 n3 u3 q3 l3],x.rs++[[iV k3,sV n3,iV u3,iV q3,c2]],.gs id ver 0 (x.rs.length+1),H2,A'⟩,⟨⟨hL.next (only_isT T _) hg hq3 hs3 hgt hn2 kp2 fr2 (by omega) (hE2 A') rfl m1 m2 (fun k o _ h=>h) (by intro k hk; simp at hk; rcases hk with rfl | rfl; exact get_lt j0; exact get_lt j1),j0,j1⟩,rfl⟩,by have h1:x.s.i<s3.i:=hgt; have:=hL.ok.1; simp only; omega⟩
end
theorem hx3 (H:List AO) (a b x:AO):Hext (H++[a,b,.dead]) (H++[a,b,x]):=fun id o h hd=>by
 rcases Nat.lt_or_ge id H.length with hi | hi
 ·rw [List.getElem?_append_left hi] at h ⊢; exact h
 ·rw [List.getElem?_append_right hi] at h ⊢
  match id - H.length,h with
  | 0,h=>exact h
  | 1,h=>exact h
  | 2,h=>simp at h; exact (hd h.symm).elim
  | k+3,h=>simp at h
theorem qpI {T:List Tok} {most p:Nat} {H:List AO} (hp:p<H.length) (A:List AO) (s:PS):(H.set p (pvI T most s)++A)[p]?=some (.var [ptV T,iV s.i,iV most,iV s.d,iV s.c,iV s.ps]):=qp hp A _
theorem pvI_adv (T:List Tok) (most:Nat) (s:PS):AO.var [ptV T,iV ((s.i+1:Nat):Int),iV most,iV s.d,iV s.c,iV s.ps]=pvI T most (adv s):=rfl
theorem Env.node1 {b u id sz ver:Nat} {X:List AO} {t:List TV} {cs:List AV} (h:Env b u X t cs) (hi:X[id]?=some (.rows sz ver [cs])) (hu:u<=id) (hb:b<=id) (h1:t.length=sz):Env b (id+1) X [.s sz [t]] [.gs id ver 0 1] :=
 Env.node (rows:=[t]) (rs:=[cs]) (by simpa using h) hi hu hb rfl (by simpa using h1) (by simpa using h.len.trans h1) (by simp)
section
variable {T:List Tok} {most e:Nat} (hT:ToksOk T) (hTl:T.length<=1073741825)
include hT hTl
theorem iPatAC {d:Nat} (hd:d<=1099511627776) {pat:PM PatD} (hP:PFo T most e 89 [iV (d+1:Nat)] pat PatD.tv) (sP:StayM T pat):PFo T most e 132 [iV d] (iPatA T T.length pat) PatD.tv:=by
 have hB:=iPatBrC hT hTl hd hP sP
 refine pfo_of fun p K b n s hn hp hb hs hF=>?_
 have hpK:p<K.length:=by omega
 have hws:=ws hTl hs
 refine call132 (by simp) ?_
 simp only [go_sem,simprocAttr,qyk hn,qy0 hn,ryk hn,ry0 hn,hn,hn,mc132,mr132]
 refine acall_pure (iNow K _ p s hpK hs) ?_
 simp only [go_sem,simprocAttr,qyk hn,qy0 hn,ryk hn,ry0 hn,hn,hn,Tok.cells]
 unfold iPatA at hF ⊢
 rw [nowP_e] at hF ⊢
 generalize hte:tokA T s=t at *
 obtain ⟨tk,tt,tn,tp⟩:=t
 simp only at hF ⊢
 refine acall_pure (iIs [95] K _ p s hpK hs) ?_
 cases c0:isT T [95] s
 rotate_left
 ·rw [iteG_t c0]
  simp only [go_sem,simprocAttr,qyk hn,qy0 hn,ryk hn,ry0 hn,hn,hn,c0,qpI hpK,qq hpK,hws,pvI_adv]
  exact ⟨_,K,_,0,rfl,rfl,Kp.rfl,pat_leaf _ _ _ _ _ _ _⟩
 rw [iteG_f c0] at hF ⊢
 simp only [go_sem,simprocAttr,qyk hn,qy0 hn,ryk hn,ry0 hn,hn,hn,c0]
 refine acall_pure (iIsK 3 K _ p s hpK hs) ?_
 cases c1:isK T 3 s
 rotate_left
 ·rw [iteG_t c1]
  simp only [go_sem,simprocAttr,qyk hn,qy0 hn,ryk hn,ry0 hn,hn,hn,c1,qpI hpK,qq hpK,hws,pvI_adv]
  refine ⟨K.set p (pvI T most s)++[_,_,.dead],hx3 _ _ _ _,?_⟩
  simp only [go_sem,simprocAttr,qyk hn,qy0 hn,ryk hn,ry0 hn,hn,hn,qpI hpK,qq hpK,hws,pvI_adv]
  refine ⟨hx3 _ _ _ _,?_⟩
  exact ⟨_,K,_,0,rfl,rfl,Kp.rfl,pat_leaf _ _ _ _ _ _ _⟩
 rw [iteG_f c1] at hF ⊢
 simp only [go_sem,simprocAttr,qyk hn,qy0 hn,ryk hn,ry0 hn,hn,hn,c1]
 refine acall_pure (iIsK 1 K _ p s hpK hs) ?_
 cases c2:isK T 1 s
 rotate_left
 ·rw [iteG_t c2]
  simp only [go_sem,simprocAttr,qyk hn,qy0 hn,ryk hn,ry0 hn,hn,hn,c2,qpI hpK,qq hpK,hws,pvI_adv]
  refine ⟨K.set p (pvI T most s)++[_,_,.dead],hx3 _ _ _ _,?_⟩
  simp only [go_sem,simprocAttr,qyk hn,qy0 hn,ryk hn,ry0 hn,hn,hn,qpI hpK,qq hpK,hws,pvI_adv]
  refine ⟨hx3 _ _ _ _,?_⟩
  exact ⟨_,K,_,0,rfl,rfl,Kp.rfl,pat_leaf _ _ _ _ _ _ _⟩
 rw [iteG_f c2] at hF ⊢
 simp only [go_sem,simprocAttr,qyk hn,qy0 hn,ryk hn,ry0 hn,hn,hn,c2]
 refine acall_pure (iIs [116,114,117,101] K _ p s hpK hs) ?_
 cases c3:isT T [116,114,117,101] s
 rotate_left
 ·rw [iteG_t c3]
  simp only [go_sem,simprocAttr,qyk hn,qy0 hn,ryk hn,ry0 hn,hn,hn,c3,qpI hpK,qq hpK,hws,pvI_adv]
  exact ⟨_,K,_,0,rfl,rfl,Kp.rfl,pat_leaf _ _ _ _ _ _ _⟩
 rw [iteG_f c3] at hF ⊢
 simp only [go_sem,simprocAttr,qyk hn,qy0 hn,ryk hn,ry0 hn,hn,hn,c3]
 refine acall_pure (iIs [102,97,108,115,101] K _ p s hpK hs) ?_
 cases c4:isT T [102,97,108,115,101] s
 rotate_left
 ·rw [iteG_t c4]
  simp only [go_sem,simprocAttr,qyk hn,qy0 hn,ryk hn,ry0 hn,hn,hn,c4,qpI hpK,qq hpK,hws,pvI_adv]
  exact ⟨_,K,_,0,rfl,rfl,Kp.rfl,pat_leaf _ _ _ _ _ _ _⟩
 rw [iteG_f c4] at hF ⊢
 simp only [go_sem,simprocAttr,qyk hn,qy0 hn,ryk hn,ry0 hn,hn,hn,c4]
 refine acall_pure (iIsK 4 K _ p s hpK hs) ?_
 cases c5:isK T 4 s
 rotate_left
 ·rw [iteG_t c5]
  simp only [go_sem,simprocAttr,qyk hn,qy0 hn,ryk hn,ry0 hn,hn,hn,c5,qpI hpK,qq hpK,hws,pvI_adv]
  refine ⟨K.set p (pvI T most s)++[_,_,.dead],hx3 _ _ _ _,?_⟩
  simp only [go_sem,simprocAttr,qyk hn,qy0 hn,ryk hn,ry0 hn,hn,hn,qpI hpK,qq hpK,hws,pvI_adv]
  refine ⟨hx3 _ _ _ _,?_⟩
  exact ⟨_,K,_,0,rfl,rfl,Kp.rfl,pat_leaf _ _ _ _ _ _ _⟩
 rw [iteG_f c5] at hF ⊢
 simp only [go_sem,simprocAttr,qyk hn,qy0 hn,ryk hn,ry0 hn,hn,hn,c5]
 rcases hq:iPatBr T T.length pat s with ⟨⟨k1,n1,u1,q1,l1⟩,s1⟩
 rw [hq] at hF
 obtain ⟨H1,cs1,hn1,kp1,fr1,cl1,_,env1,call1⟩:=(hB p).use PatD.wf hq hn hp hb hs hF (Nat.le_refl _)
 refine acall_pure (call1 _ trivial) ?_
 have hE1:=fun A A'=>env1 [] [] A A' (Env.nil _ _ _)
 obtain ⟨c1,rfl⟩:=(hE1 [] []).patC rfl
 simp only [go_sem,simprocAttr,qyk hn1,qy0 hn1,ryk hn1,ry0 hn1,hn1,hn1]
 exact ⟨_,H1,_,n,rfl,rfl,kp1,hE1 [] _⟩
theorem stay_iPatA {pat:PM PatD} (sP:StayM T pat):StayM T (iPatA T T.length pat):=Pg.stay_iPatA hT sP
theorem deep_ok {d:Nat} {s:PS} (hs:Ok T e s):Ok T e (deeperP T most d s):=hs.step (stay_deeper T most d)
theorem deep_le {d:Nat} {s:PS} (h:(deeperP T most d s).c=0):d<=most:=by
 rcases Nat.lt_or_ge most d with hd | hd
 ·exfalso
  unfold deeperP at h
  simp only [if_pos hd] at h
  by_cases h0:s.c=0
  ·rw [failP_0 h0,if_neg (show ¬ ((12:Int)=0) by decide)] at h; exact absurd h (show ¬ ((12:Int)=0) by decide)
  ·rw [failP_c h0,if_neg h0] at h; exact h0 h
 ·exact hd
theorem iPatC {d:Nat} (hd:d<=1099511627776) {pat:PM PatD} (hP:d<=most->PFo T most e 89 [iV (d+1:Nat)] pat PatD.tv) (sP:StayM T pat):PFo T most e 89 [iV d] (iPatB T T.length most pat d) PatD.tv:=by
 have sA:=stay_iPatA hT hTl sP
 refine pfo_of fun p K b n s hn hp hb hs hF=>?_
 have hpK:p<K.length:=by omega
 refine call89 (by simp) ?_
 simp only [go_sem,simprocAttr,qyk hn,qy0 hn,ryk hn,ry0 hn,hn,hn,mc89,mr89]
 refine acall_pure (iDeeper d K _ p s hpK hs) ?_
 have hs1:=deep_ok (most:=most) (d:=d) hT hTl hs
 unfold iPatB deepP at hF ⊢
 cases hc:decide ((deeperP T most d s).c=0)
 ·rw [if_neg (of_decide_eq_false hc)]
  simp only [go_sem,simprocAttr,qyk hn,qy0 hn,ryk hn,ry0 hn,hn,hn,hc,Bool.not_false,Bool.not_true]
  exact ⟨_,K,_,0,rfl,rfl,Kp.rfl,pat_leaf _ _ _ _ _ _ _⟩
 have hc0:=of_decide_eq_true hc
 have hA:=iPatAC hT hTl hd (hP (deep_le hT hTl hc0)) sP
 rw [if_pos hc0] at hF ⊢
 simp only [go_sem,simprocAttr,qyk hn,qy0 hn,ryk hn,ry0 hn,hn,hn,hc,Bool.not_false,Bool.not_true]
 generalize deeperP T most d s=s1 at *
 refine acall_pure (iNow K _ p s1 hpK hs1) ?_
 simp only [go_sem,simprocAttr,qyk hn,qy0 hn,ryk hn,ry0 hn,hn,hn,Tok.cells]
 rw [nowP_e] at hF ⊢
 have hws:=ws hTl hs1
 refine acall_pure (iIsK 4 K _ p s1 hpK hs1) ?_
 cases c4:isK T 4 s1
 ·rw [iteG_f c4] at hF ⊢
  simp only [go_sem,simprocAttr,qyk hn,qy0 hn,ryk hn,ry0 hn,hn,hn,c4,Bool.not_false,Bool.not_true]
  rcases hq:iPatA T T.length pat s1 with ⟨⟨k1,n1,u1,q1,l1⟩,s2⟩
  rw [hq] at hF
  obtain ⟨H1,cs1,hn1,kp1,fr1,cl1,_,env1,call1⟩:=(hA p).use PatD.wf hq hn hp hb hs1 hF (Nat.le_refl _)
  refine acall_pure (call1 _ trivial) ?_
  have hE1:=fun A A'=>env1 [] [] A A' (Env.nil _ _ _)
  obtain ⟨c1,rfl⟩:=(hE1 [] []).patC rfl
  simp only [go_sem,simprocAttr,qyk hn1,qy0 hn1,ryk hn1,ry0 hn1,hn1,hn1]
  exact ⟨_,H1,_,n,rfl,rfl,kp1,hE1 [] _⟩
 rw [iteG_t c4] at hF ⊢
 have hs2:=hs1.adv hT (show (tokA T s1).k≠8 by have:=(isK_k c4).2; omega)
 generalize (tokA T s1).t=tt at *
 generalize (tokA T s1).p=tp at *
 simp only [go_sem,simprocAttr,qyk hn,qy0 hn,ryk hn,ry0 hn,hn,hn,c4,Bool.not_false,Bool.not_true,qpI hpK,qq hpK,hws,pvI_adv]
 have hpt:patSt T (adv s1)=(isK T 3 (adv s1) || isK T 1 (adv s1) || isK T 4 (adv s1) || isT T [95] (adv s1) || isT T [116,114,117,101] (adv s1) || isT T [102,97,108,115,101] (adv s1) || isT T [40] (adv s1)):=rfl
 refine acall_pure (iIsK 3 K _ p (adv s1) hpK hs2) ?_
 cases t0:isK T 3 (adv s1)
 rotate_left
 ·have hst:patSt T (adv s1)=true:=by rw [hpt]; simp [t0]
  rw [iteB_t hst] at hF ⊢
  rcases hq:iPatA T T.length pat (adv s1) with ⟨⟨k1,n1,u1,q1,l1⟩,s2⟩
  have e1:bindP (iPatA T T.length pat) (fun a=>retP (PatD.mk 7 tt 0 tp [a])) (adv s1)=(.mk 7 tt 0 tp [.mk k1 n1 u1 q1 l1],s2):=by rw [bindP_e,hq]; rfl
  rw [e1] at hF ⊢
  simp only [go_sem,simprocAttr,qyk hn,qy0 hn,ryk hn,ry0 hn,hn,hn,t0]
  obtain ⟨H1,cs1,hn1,kp1,fr1,cl1,_,env1,call1⟩:=(hA p).use PatD.wf hq hn hp hb hs2 hF (by rw [pat_nC 7,List.map_cons,nK]; omega)
  refine acall_pure (call1 _ trivial) ?_
  have hE1:=fun A A'=>env1 [] [] A A' (Env.nil _ _ _)
  obtain ⟨c1,rfl⟩:=(hE1 [] []).patC rfl
  simp only [go_sem,simprocAttr,qyk hn1,qy0 hn1,ryk hn1,ry0 hn1,hn1,hn1,Nat.add_zero]
  exact ⟨_,H1,_,_,rfl,rfl,kp1,pat_node ((hE1 [] _).node1 (by rw [qyk hn1]; rfl) (by omega) (by omega) (PatD.tv_len _))⟩
 simp only [go_sem,simprocAttr,qyk hn,qy0 hn,ryk hn,ry0 hn,hn,hn,t0]
 refine acall_pure (iIsK 1 K _ p (adv s1) hpK hs2) ?_
 cases t1:isK T 1 (adv s1)
 rotate_left
 ·have hst:patSt T (adv s1)=true:=by rw [hpt]; simp [t1]
  rw [iteB_t hst] at hF ⊢
  rcases hq:iPatA T T.length pat (adv s1) with ⟨⟨k1,n1,u1,q1,l1⟩,s2⟩
  have e1:bindP (iPatA T T.length pat) (fun a=>retP (PatD.mk 7 tt 0 tp [a])) (adv s1)=(.mk 7 tt 0 tp [.mk k1 n1 u1 q1 l1],s2):=by rw [bindP_e,hq]; rfl
  rw [e1] at hF ⊢
  simp only [go_sem,simprocAttr,qyk hn,qy0 hn,ryk hn,ry0 hn,hn,hn,t1]
  obtain ⟨H1,cs1,hn1,kp1,fr1,cl1,_,env1,call1⟩:=(hA p).use PatD.wf hq hn hp hb hs2 hF (by rw [pat_nC 7,List.map_cons,nK]; omega)
  refine acall_pure (call1 _ trivial) ?_
  have hE1:=fun A A'=>env1 [] [] A A' (Env.nil _ _ _)
  obtain ⟨c1,rfl⟩:=(hE1 [] []).patC rfl
  simp only [go_sem,simprocAttr,qyk hn1,qy0 hn1,ryk hn1,ry0 hn1,hn1,hn1,Nat.add_zero]
  exact ⟨_,H1,_,_,rfl,rfl,kp1,pat_node ((hE1 [] _).node1 (by rw [qyk hn1]; rfl) (by omega) (by omega) (PatD.tv_len _))⟩
 simp only [go_sem,simprocAttr,qyk hn,qy0 hn,ryk hn,ry0 hn,hn,hn,t1]
 refine acall_pure (iIsK 4 K _ p (adv s1) hpK hs2) ?_
 cases t2:isK T 4 (adv s1)
 rotate_left
 ·have hst:patSt T (adv s1)=true:=by rw [hpt]; simp [t2]
  rw [iteB_t hst] at hF ⊢
  rcases hq:iPatA T T.length pat (adv s1) with ⟨⟨k1,n1,u1,q1,l1⟩,s2⟩
  have e1:bindP (iPatA T T.length pat) (fun a=>retP (PatD.mk 7 tt 0 tp [a])) (adv s1)=(.mk 7 tt 0 tp [.mk k1 n1 u1 q1 l1],s2):=by rw [bindP_e,hq]; rfl
  rw [e1] at hF ⊢
  simp only [go_sem,simprocAttr,qyk hn,qy0 hn,ryk hn,ry0 hn,hn,hn,t2]
  obtain ⟨H1,cs1,hn1,kp1,fr1,cl1,_,env1,call1⟩:=(hA p).use PatD.wf hq hn hp hb hs2 hF (by rw [pat_nC 7,List.map_cons,nK]; omega)
  refine acall_pure (call1 _ trivial) ?_
  have hE1:=fun A A'=>env1 [] [] A A' (Env.nil _ _ _)
  obtain ⟨c1,rfl⟩:=(hE1 [] []).patC rfl
  simp only [go_sem,simprocAttr,qyk hn1,qy0 hn1,ryk hn1,ry0 hn1,hn1,hn1,Nat.add_zero]
  exact ⟨_,H1,_,_,rfl,rfl,kp1,pat_node ((hE1 [] _).node1 (by rw [qyk hn1]; rfl) (by omega) (by omega) (PatD.tv_len _))⟩
 simp only [go_sem,simprocAttr,qyk hn,qy0 hn,ryk hn,ry0 hn,hn,hn,t2]
 refine acall_pure (iIs [95] K _ p (adv s1) hpK hs2) ?_
 cases t3:isT T [95] (adv s1)
 rotate_left
 ·have hst:patSt T (adv s1)=true:=by rw [hpt]; simp [t3]
  rw [iteB_t hst] at hF ⊢
  rcases hq:iPatA T T.length pat (adv s1) with ⟨⟨k1,n1,u1,q1,l1⟩,s2⟩
  have e1:bindP (iPatA T T.length pat) (fun a=>retP (PatD.mk 7 tt 0 tp [a])) (adv s1)=(.mk 7 tt 0 tp [.mk k1 n1 u1 q1 l1],s2):=by rw [bindP_e,hq]; rfl
  rw [e1] at hF ⊢
  simp only [go_sem,simprocAttr,qyk hn,qy0 hn,ryk hn,ry0 hn,hn,hn,t3]
  obtain ⟨H1,cs1,hn1,kp1,fr1,cl1,_,env1,call1⟩:=(hA p).use PatD.wf hq hn hp hb hs2 hF (by rw [pat_nC 7,List.map_cons,nK]; omega)
  refine acall_pure (call1 _ trivial) ?_
  have hE1:=fun A A'=>env1 [] [] A A' (Env.nil _ _ _)
  obtain ⟨c1,rfl⟩:=(hE1 [] []).patC rfl
  simp only [go_sem,simprocAttr,qyk hn1,qy0 hn1,ryk hn1,ry0 hn1,hn1,hn1,Nat.add_zero]
  exact ⟨_,H1,_,_,rfl,rfl,kp1,pat_node ((hE1 [] _).node1 (by rw [qyk hn1]; rfl) (by omega) (by omega) (PatD.tv_len _))⟩
 simp only [go_sem,simprocAttr,qyk hn,qy0 hn,ryk hn,ry0 hn,hn,hn,t3]
 refine acall_pure (iIs [116,114,117,101] K _ p (adv s1) hpK hs2) ?_
 cases t4:isT T [116,114,117,101] (adv s1)
 rotate_left
 ·have hst:patSt T (adv s1)=true:=by rw [hpt]; simp [t4]
  rw [iteB_t hst] at hF ⊢
  rcases hq:iPatA T T.length pat (adv s1) with ⟨⟨k1,n1,u1,q1,l1⟩,s2⟩
  have e1:bindP (iPatA T T.length pat) (fun a=>retP (PatD.mk 7 tt 0 tp [a])) (adv s1)=(.mk 7 tt 0 tp [.mk k1 n1 u1 q1 l1],s2):=by rw [bindP_e,hq]; rfl
  rw [e1] at hF ⊢
  simp only [go_sem,simprocAttr,qyk hn,qy0 hn,ryk hn,ry0 hn,hn,hn,t4]
  obtain ⟨H1,cs1,hn1,kp1,fr1,cl1,_,env1,call1⟩:=(hA p).use PatD.wf hq hn hp hb hs2 hF (by rw [pat_nC 7,List.map_cons,nK]; omega)
  refine acall_pure (call1 _ trivial) ?_
  have hE1:=fun A A'=>env1 [] [] A A' (Env.nil _ _ _)
  obtain ⟨c1,rfl⟩:=(hE1 [] []).patC rfl
  simp only [go_sem,simprocAttr,qyk hn1,qy0 hn1,ryk hn1,ry0 hn1,hn1,hn1,Nat.add_zero]
  exact ⟨_,H1,_,_,rfl,rfl,kp1,pat_node ((hE1 [] _).node1 (by rw [qyk hn1]; rfl) (by omega) (by omega) (PatD.tv_len _))⟩
 simp only [go_sem,simprocAttr,qyk hn,qy0 hn,ryk hn,ry0 hn,hn,hn,t4]
 refine acall_pure (iIs [102,97,108,115,101] K _ p (adv s1) hpK hs2) ?_
 cases t5:isT T [102,97,108,115,101] (adv s1)
 rotate_left
 ·have hst:patSt T (adv s1)=true:=by rw [hpt]; simp [t5]
  rw [iteB_t hst] at hF ⊢
  rcases hq:iPatA T T.length pat (adv s1) with ⟨⟨k1,n1,u1,q1,l1⟩,s2⟩
  have e1:bindP (iPatA T T.length pat) (fun a=>retP (PatD.mk 7 tt 0 tp [a])) (adv s1)=(.mk 7 tt 0 tp [.mk k1 n1 u1 q1 l1],s2):=by rw [bindP_e,hq]; rfl
  rw [e1] at hF ⊢
  simp only [go_sem,simprocAttr,qyk hn,qy0 hn,ryk hn,ry0 hn,hn,hn,t5]
  obtain ⟨H1,cs1,hn1,kp1,fr1,cl1,_,env1,call1⟩:=(hA p).use PatD.wf hq hn hp hb hs2 hF (by rw [pat_nC 7,List.map_cons,nK]; omega)
  refine acall_pure (call1 _ trivial) ?_
  have hE1:=fun A A'=>env1 [] [] A A' (Env.nil _ _ _)
  obtain ⟨c1,rfl⟩:=(hE1 [] []).patC rfl
  simp only [go_sem,simprocAttr,qyk hn1,qy0 hn1,ryk hn1,ry0 hn1,hn1,hn1,Nat.add_zero]
  exact ⟨_,H1,_,_,rfl,rfl,kp1,pat_node ((hE1 [] _).node1 (by rw [qyk hn1]; rfl) (by omega) (by omega) (PatD.tv_len _))⟩
 simp only [go_sem,simprocAttr,qyk hn,qy0 hn,ryk hn,ry0 hn,hn,hn,t5]
 refine acall_pure (iIs [40] K _ p (adv s1) hpK hs2) ?_
 cases t6:isT T [40] (adv s1)
 rotate_left
 ·have hst:patSt T (adv s1)=true:=by rw [hpt]; simp [t6]
  rw [iteB_t hst] at hF ⊢
  rcases hq:iPatA T T.length pat (adv s1) with ⟨⟨k1,n1,u1,q1,l1⟩,s2⟩
  have e1:bindP (iPatA T T.length pat) (fun a=>retP (PatD.mk 7 tt 0 tp [a])) (adv s1)=(.mk 7 tt 0 tp [.mk k1 n1 u1 q1 l1],s2):=by rw [bindP_e,hq]; rfl
  rw [e1] at hF ⊢
  simp only [go_sem,simprocAttr,qyk hn,qy0 hn,ryk hn,ry0 hn,hn,hn,t6]
  obtain ⟨H1,cs1,hn1,kp1,fr1,cl1,_,env1,call1⟩:=(hA p).use PatD.wf hq hn hp hb hs2 hF (by rw [pat_nC 7,List.map_cons,nK]; omega)
  refine acall_pure (call1 _ trivial) ?_
  have hE1:=fun A A'=>env1 [] [] A A' (Env.nil _ _ _)
  obtain ⟨c1,rfl⟩:=(hE1 [] []).patC rfl
  simp only [go_sem,simprocAttr,qyk hn1,qy0 hn1,ryk hn1,ry0 hn1,hn1,hn1,Nat.add_zero]
  exact ⟨_,H1,_,_,rfl,rfl,kp1,pat_node ((hE1 [] _).node1 (by rw [qyk hn1]; rfl) (by omega) (by omega) (PatD.tv_len _))⟩
 simp only [go_sem,simprocAttr,qyk hn,qy0 hn,ryk hn,ry0 hn,hn,hn,t6]
 have hst:patSt T (adv s1)=false:=by rw [hpt]; simp [t0,t1,t2,t3,t4,t5,t6]
 rw [iteB_f hst] at hF ⊢
 exact ⟨_,K,_,0,rfl,rfl,Kp.rfl,pat_leaf _ _ _ _ _ _ _⟩
theorem iPatK:∀ k d,d+k=most+2->most<=1099511627774->0<k->PFo T most e 89 [iV d] (iPat T T.length most k d) PatD.tv
 | 0,d,_,_,h=>absurd h (by omega)
 | k+1,d,h,hm,_=>iPatC hT hTl (by omega) (fun hle=>iPatK k (d+1) (by omega) hm (by omega)) (stay_iPat hT most k (d+1))
end
theorem exp_leaf (b u:Nat) (X:List AO) (k:Int) (nm:List UInt8) (un:Int) (t:List UInt8) (q:Int):Env b u X (ExpD.tv (leaf k nm un t q)) [iV k,sV nm,iV un,sV t,iV q,.p .nl,.p .nl]:=by
 rw [leaf,ExpD.tv,ExpD.tvL,ExpD.tvA]
 exact ((((Env.nl1.nl.pc _).pc _).pc _).pc _).pc _
theorem exp_node {b u:Nat} {X:List AO} {k:Int} {nm:List UInt8} {un:Int} {t:List UInt8} {q:Int} {l:List ExpD} {a:AV} (h:Env b u X [.s 7 (l.map ExpD.tv)] [a]):Env b u X (ExpD.tv (.mk k nm un t q l [])) [iV k,sV nm,iV un,sV t,iV q,a,.p .nl]:=by
 rw [ExpD.tv,ExpD.tvL_eq,ExpD.tvA]
 exact ((((h.nl.pc _).pc _).pc _).pc _).pc _
theorem Env.expC {b u:Nat} {X:List AO} {ts:List TV} {ds cs:List AV} {k:Int} {nm:List UInt8} {un:Int} {t:List UInt8} {q:Int} {l:List ExpD} {as':List ArmD} (h:Env b u X (ts++ExpD.tv (.mk k nm un t q l as')) (ds++cs)) (hl:ds.length=ts.length):∃ c d,cs=[iV k,sV nm,iV un,sV t,iV q,c,d]:=by
 obtain ⟨ids,h1,_⟩:=h
 obtain ⟨c1,c2,i,j,e1,_,h3,h4⟩:=ownC_split h1
 obtain ⟨rfl,rfl⟩:=List.append_inj e1 (by rw [h3.len]; exact hl)
 have hlen:=h4.len
 rw [ExpD.tv_len] at hlen
 obtain ⟨a0,a1,a2,a3,a4,a5,a6,rfl⟩:=len7 hlen
 rw [ExpD.tv] at h4
 simp only [OwnCs,Own] at h4
 obtain ⟨_,_,_,_,e0,_,⟨f0,_⟩,_,_,_,_,e1,_,⟨f1,_⟩,_,_,_,_,e2,_,⟨f2,_⟩,_,_,_,_,e3,_,⟨f3,_⟩,_,_,_,_,e4,_,⟨f4,_⟩,_⟩:=h4
 subst f0 f1 f2 f3 f4
 cases e0; cases e1; cases e2; cases e3; cases e4
 exact ⟨_,_,rfl⟩
theorem exp_nC (k:Int) (nm:List UInt8) (un:Int) (t:List UInt8) (q:Int) (l:List ExpD) (as':List ArmD):nC (ExpD.tv (.mk k nm un t q l as'))=nK (l.map ExpD.tv)+nK (as'.map ArmD.tv):=by
 rw [ExpD.tv,ExpD.tvL_eq,ExpD.tvA_eq]; simp [nC,nT]
section
variable {T:List Tok} {most e:Nat} (hT:ToksOk T) (hTl:T.length<=1073741825)
include hT hTl
theorem iBrC {d:Nat} (hd:d<=1099511627776) {ex:PM ExpD} (hP:PFo T most e 30 [iV (d+1:Nat)] ex ExpD.tv) (sP:StayM T ex):PFo T most e 205 [iV d] (iBr T T.length ex) ExpD.tv:=by
 refine pfo_of fun p K b n s hn hp hb hs hF=>?_
 have hpK:p<K.length:=by omega
 have hd1:wr .i64 ((d:Int)+1)=((d+1:Nat):Int):=wrN _ (by omega)
 refine call205 (by simp) ?_
 simp only [go_sem,simprocAttr,qyk hn,qy0 hn,ryk hn,ry0 hn,hn,hn,mc205,mr205]
 refine acall_pure (iNow K _ p s hpK hs) ?_
 simp only [go_sem,simprocAttr,qyk hn,qy0 hn,ryk hn,ry0 hn,hn,hn,Tok.cells]
 refine acall_pure (iWant hT hTl [[40]] (by decide) hpK hs (by omega) (fun c=>by rw [qyk hn]; rfl)) ?_
 simp only [go_sem,simprocAttr,qyk hn,qy0 hn,ryk hn,ry0 hn,hn,hn,wants1]
 have hs1:=hs.step (stay_want hT [40])
 have e0:iBr T T.length ex s=iteG (isT T [41]) (retP (leaf 4 [] 0 [] (tokA T s).p)) (iteB (fun s=>!decide (s.c=0)) (retP (leaf 4 [] 0 [] (tokA T s).p)) (bindP ex fun a=>bindP (many (isT T [44]) (advP ex) T.length) fun l=>stepP (wantP T [41]) (retP (if l=[] then a else .mk 7 [] 0 [] (tokA T s).p (a :: l) [])))) (wantP T [40] s):=rfl
 rw [e0] at hF ⊢
 generalize (tokA T s).p=tp at *
 generalize wantP T [40] s=s1 at *
 refine acall_pure (iTake hTl [41] K _ p s1 hpK hs1) ?_
 unfold takeM
 cases hg1:isT T [41] s1
 rotate_left
 ·rw [iteG_t hg1]
  simp only [go_sem,simprocAttr,qyk hn,qy0 hn,ryk hn,ry0 hn,hn,hn,hg1]
  exact ⟨_,K,_,0,rfl,rfl,Kp.rfl,exp_leaf _ _ _ _ _ _ _ _⟩
 rw [iteG_f hg1] at hF ⊢
 simp only [go_sem,simprocAttr,qyk hn,qy0 hn,ryk hn,ry0 hn,hn,hn,hg1]
 refine acall_pure (iFailed K _ p s1 hpK hs1) ?_
 cases hc:decide (s1.c=0)
 ·rw [iteB_t (by simp [hc])]
  simp only [go_sem,simprocAttr,qyk hn,qy0 hn,ryk hn,ry0 hn,hn,hn,hc,Bool.not_false,Bool.not_true]
  exact ⟨_,K,_,0,rfl,rfl,Kp.rfl,exp_leaf _ _ _ _ _ _ _ _⟩
 rw [iteB_f (by simp [hc])] at hF ⊢
 simp only [go_sem,simprocAttr,qyk hn,qy0 hn,ryk hn,ry0 hn,hn,hn,hc,hd1,Bool.not_false,Bool.not_true]
 rcases hq:ex s1 with ⟨⟨k1,n1,u1,t1,q1,l1,m1⟩,s2⟩
 have hs2:=hs1.run sP
 rw [hq] at hs2
 rcases hR:many (isT T [44]) (advP ex) T.length s2 with ⟨Rl,Rs⟩
 have e1:(bindP ex fun a=>bindP (many (isT T [44]) (advP ex) T.length) fun l=>stepP (wantP T [41]) (retP (if l=[] then a else .mk 7 [] 0 [] tp (a :: l) []))) s1=(if Rl=[] then .mk k1 n1 u1 t1 q1 l1 m1 else .mk 7 [] 0 [] tp (.mk k1 n1 u1 t1 q1 l1 m1 :: Rl) [],wantP T [41] Rs):=by rw [bindP_e,hq,bindP_e,hR]; rfl
 rw [e1] at hF ⊢
 have hNN:nC (ExpD.tv (.mk k1 n1 u1 t1 q1 l1 m1))+nR (Rl.map ExpD.tv)<=nC (ExpD.tv (if Rl=[] then .mk k1 n1 u1 t1 q1 l1 m1 else .mk 7 [] 0 [] tp (.mk k1 n1 u1 t1 q1 l1 m1 :: Rl) [])):=by
  split
  ·rename_i h0; subst h0; simp [nR]
  ·rw [exp_nC 7,List.map_cons,nK]; omega
 generalize hNe:nC (ExpD.tv (if Rl=[] then .mk k1 n1 u1 t1 q1 l1 m1 else .mk 7 [] 0 [] tp (.mk k1 n1 u1 t1 q1 l1 m1 :: Rl) []))=NN at hF hNN
 obtain ⟨H1,cs1,hn1,kp1,fr1,cl1,_,env1,call1⟩:=(hP p).use ExpD.wf hq hn hp hb hs1 hF (by omega)
 refine acall_pure (call1 _ trivial) ?_
 have hE1:=fun A A'=>env1 [] [] A A' (Env.nil _ _ _)
 obtain ⟨c1,b1,rfl⟩:=(hE1 [] []).expC rfl
 simp only [go_sem,simprocAttr,qyk hn1,qy0 hn1,ryk hn1,ry0 hn1,hn1,hn1,Nat.add_zero]
 have hrow:∀ (c:AO) (A:List AO),(H1.set p c++A)[n+3]?=A[3]?:=fun c A=>qyk hn1 A p c 3
 refine ⟨LG ExpD,[0,1,4,5,6],fun x st=>(LO (pvI T most) T e b n p K [0,1] 7 ExpD.tv (isT T [44]) (advP ex) (.mk k1 n1 u1 t1 q1 l1 m1 :: Rl) Rs x/\x.A[0]?=some (.var [iV 0,sV [],iV 0,sV [],iV 0,.p .nl,.p .nl])/\x.A[1]?=some (.var [iV 4,sV [],iV 0,sV [],iV tp,.p .nl,.p .nl])) /\
   st=⟨[(0,.ptr p 0),(1,iV d),(4,.ptr n 0),(5,.ptr (n+1) 0),(6,x.a)],[],x.H.set p (pvI T most x.s)++x.A⟩,fun x=>T.length - x.s.i,
  ⟨⟨T.length,s2,[.mk k1 n1 u1 t1 q1 l1 m1],[[iV k1,sV n1,iV u1,sV t1,iV q1,c1,b1]],.gs (n+3) 0 0 1,H1,[.var [iV 0,sV [],iV 0,sV [],iV 0,.p .nl,.p .nl],.var [iV 4,sV [],iV 0,sV [],iV tp,.p .nl,.p .nl],.rows 1 0 [[sV [40]]],.rows 7 0 [[iV k1,sV n1,iV u1,sV t1,iV q1,c1,b1]]]⟩,?_⟩,?_⟩
 ·refine ⟨⟨LO.start1 hs2 hR hn1 kp1 fr1 (by omega) (hE1 [] _) rfl rfl (by decide) (by simp),rfl,rfl⟩,?_⟩
  simp only [go_sem,simprocAttr,qyk hn1,qy0 hn1,ryk hn1,ry0 hn1,hn1,hn1]
 ·rintro x _ ⟨⟨hL,i0,i1⟩,rfl⟩
  have hpx:p<x.H.length:=by rw [hL.hn]; omega
  simp only [go_sem,simprocAttr,qyk hL.hn,qy0 hL.hn,ryk hL.hn,ry0 hL.hn,hL.hn,hL.hn]
  refine acall_pure (iTake hTl [44] x.H _ p x.s hpx hL.ok) ?_
  unfold takeM
  cases hg:isT T [44] x.s
  ·obtain ⟨ha,hx⟩:=hL.stop hg
   simp only [go_sem,simprocAttr,qyk hL.hn,qy0 hL.hn,ryk hL.hn,ry0 hL.hn,hL.hn,hL.hn,hg]
   refine acall_pure (iWant hT hTl [[41]] (by decide) hpx hL.ok (by omega) (fun c=>by rw [qya0 hL.hn]; rfl)) ?_
   simp only [go_sem,simprocAttr,qyk hL.hn,qy0 hL.hn,ryk hL.hn,ry0 hL.hn,hL.hn,hL.hn,wants1]
   subst hx
   have i0':∀ B,(x.A++B)[0]?=some (.var [iV 0,sV [],iV 0,sV [],iV 0,.p .nl,.p .nl]):=fun B=>get_ext i0 B
   have i1':∀ B,(x.A++B)[1]?=some (.var [iV 4,sV [],iV 0,sV [],iV tp,.p .nl,.p .nl]):=fun B=>get_ext i1 B
   have hz:∀ B o,((x.A++B).set 0 o)[0]?=some o:=fun B o=>set_get (i0' B)
   have hz1:∀ B o,((x.A++B).set 1 o)[1]?=some o:=fun B o=>set_get (i1' B)
   by_cases hR0:Rl=[]
   ·subst hR0
    obtain ⟨cs,q,ver,r1,r2,r3,r4,r5,r6⟩:=hL.one ha
    obtain ⟨d1,d2,d3,d4,d5,d6,d7,rfl⟩:=len7 r5
    have r4':∀ B,(x.A++B)[q]?=some (.rows 7 ver [[d1,d2,d3,d4,d5,d6,d7]]):=fun B=>get_ext r4 B
    rw [r2,if_pos rfl]
    simp only [go_sem,simprocAttr,qyk hL.hn,qy0 hL.hn,ryk hL.hn,ry0 hL.hn,hL.hn,hL.hn,r4',i0',hz,Nat.add_zero]
    intro _
    exact ⟨_,x.H,_,n,rfl,rfl,hL.kp,r6.base hL.hn hp⟩
   ·have hkeep:∀ (o1 o2:AO) (B:List AO) (k:Nat) (o:AO),k ∉ [0,1]->x.A[k]?=some o->(((x.A++B).set 1 o1).set 0 o2)[k]?=some o:=fun o1 o2 B k o hk ho=>by
     simp at hk
     rw [List.getElem?_set_ne (by omega),List.getElem?_set_ne (by omega)]
     exact get_ext ho _
    obtain ⟨u,hE⟩:=hL.fin hp hb (by rw [ha]; simp) ExpD.tv_len (c:=pvI T most (wantP T [41] x.s)) (hkeep (.var [iV 7,sV [],iV 0,sV [],iV tp,x.a,.p .nl]) (.var [iV 7,sV [],iV 0,sV [],iV tp,x.a,.p .nl]) [.rows 1 0 [[sV [41]]]])
    obtain ⟨id,ver,hxa⟩:=hL.shape (by rw [ha]; simp)
    have hlen:x.rs.length=Rl.length+1:=by rw [hL.len,ha]; rfl
    have d1:decide (((Rl.length+1:Nat):Int)=1)=false:=by
     have:Rl.length≠0:=fun h=>hR0 (List.length_eq_zero_iff.1 h)
     simp; omega
    rw [hlen] at hxa
    rw [if_neg hR0]
    rw [hxa] at hE ⊢
    have h00:∀ B o o',(((x.A++B).set 1 o).set 0 o')[0]?=some o':=fun B o o'=>set_get (get_set (i0' B) (by decide))
    have h01:∀ B o,((x.A++B).set 1 o)[0]?=some (.var [iV 0,sV [],iV 0,sV [],iV 0,.p .nl,.p .nl]):=fun B o=>get_set (i0' B) (by decide)
    simp only [go_sem,simprocAttr,qyk hL.hn,qy0 hL.hn,ryk hL.hn,ry0 hL.hn,hL.hn,hL.hn,d1,i1',i0',hz1,h00,h01,List.set_set]
    intro _
    rw [ha] at hE
    exact ⟨_,x.H,_,u,rfl,rfl,hL.kp,exp_node hE⟩
  ·obtain ⟨j,hj⟩:=hL.succ (only_isT T _) hg
   have hsa:=hL.ok.adv hT (isT_k hg).2
   have hs3:=hsa.run sP
   have hgt:=(Stay.adv hT sP hL.ok.1 (isT_k hg).2).1
   rcases hq3:ex (adv x.s) with ⟨⟨k3,n3,u3,t3,q3,l3,m3⟩,s3⟩
   rw [hq3] at hs3 hgt
   obtain ⟨M,frM,hM⟩:=hL.room (only_isT T _) hg (y:=.mk k3 n3 u3 t3 q3 l3 m3) (s2:=s3) hq3
   obtain ⟨H2,cs2,hn2,kp2,fr2,cl2,_,env2,call2⟩:=(hP p).use ExpD.wf hq3 hL.hn hp hb hsa frM (by omega)
   have hE2:=fun A'=>env2 _ _ x.A A' (hL.env.base hL.hn hp)
   obtain ⟨c2,b2,rfl⟩:=(hE2 []).expC (hL.env.len)
   simp only [go_sem,simprocAttr,qyk hL.hn,qy0 hL.hn,ryk hL.hn,ry0 hL.hn,hL.hn,hL.hn,hg,hd1]
   refine acall_pure (call2 _ trivial) ?_
   simp only [go_sem,simprocAttr,qyk hn2,qy0 hn2,ryk hn2,ry0 hn2,hn2,hn2,qya hn2,qya0 hn2,Nat.add_zero]
   refine ⟨by intro r hr; simp at hr; subst hr; rfl,?_⟩
   refine hL.app hn2 (fun k o h=>get_ext h _) hTl (by decide) ?_
   intro id ver A' w1 w2 w3
   have j0:=(w3 0 (by decide)).trans i0
   have j1:=(w3 1 (by decide)).trans i1
   simp only [go_sem,simprocAttr,qyk hn2,qy0 hn2,ryk hn2,ry0 hn2,hn2,hn2]
   exact ⟨⟨x.j - 1,s3,x.acc++[.mk k3 n3 u3 t3 q3 l3 m3],x.rs++[[iV k3,sV n3,iV u3,sV t3,iV q3,c2,b2]],.gs id ver 0 (x.rs.length+1),H2,A'⟩,⟨⟨hL.next (only_isT T _) hg hq3 hs3 hgt hn2 kp2 fr2 (by omega) (hE2 A') rfl w1 w2 (fun k o _ h=>h) (by intro k hk; simp at hk; rcases hk with rfl | rfl; exact get_lt j0; exact get_lt j1),j0,j1⟩,rfl⟩,by have h1:x.s.i<s3.i:=hgt; have:=hL.ok.1; simp only; omega⟩
theorem iAtomC {d:Nat} (hd:d<=1099511627776) {ex:PM ExpD} (hP:PFo T most e 30 [iV (d+1:Nat)] ex ExpD.tv) (sP:StayM T ex):PFo T most e 186 [iV d] (iAtom T T.length ex) ExpD.tv:=by
 have hB:=iBrC hT hTl hd hP sP
 refine pfo_of fun p K b n s hn hp hb hs hF=>?_
 have hpK:p<K.length:=by omega
 have hws:=ws hTl hs
 refine call186 (by simp) ?_
 simp only [go_sem,simprocAttr,qyk hn,qy0 hn,ryk hn,ry0 hn,hn,hn,mc186,mr186]
 refine acall_pure (iNow K _ p s hpK hs) ?_
 simp only [go_sem,simprocAttr,qyk hn,qy0 hn,ryk hn,ry0 hn,hn,hn,Tok.cells]
 unfold iAtom at hF ⊢
 rw [nowP_e] at hF ⊢
 generalize hte:tokA T s=t at *
 obtain ⟨tk,tt,tn,tp⟩:=t
 simp only at hF ⊢
 refine acall_pure (iIsK 1 K _ p s hpK hs) ?_
 cases c0:isK T 1 s
 rotate_left
 ·rw [iteG_t c0]
  simp only [go_sem,simprocAttr,qyk hn,qy0 hn,ryk hn,ry0 hn,hn,hn,c0,qpI hpK,qq hpK,hws,pvI_adv]
  refine ⟨K.set p (pvI T most s)++[_,_,.dead],hx3 _ _ _ _,?_⟩
  simp only [go_sem,simprocAttr,qyk hn,qy0 hn,ryk hn,ry0 hn,hn,hn,qpI hpK,qq hpK,hws,pvI_adv]
  refine ⟨hx3 _ _ _ _,?_⟩
  exact ⟨_,K,_,0,rfl,rfl,Kp.rfl,exp_leaf _ _ _ _ _ _ _ _⟩
 rw [iteG_f c0] at hF ⊢
 simp only [go_sem,simprocAttr,qyk hn,qy0 hn,ryk hn,ry0 hn,hn,hn,c0]
 refine acall_pure (iIsK 2 K _ p s hpK hs) ?_
 cases c1:isK T 2 s
 rotate_left
 ·rw [iteG_t c1]
  simp only [go_sem,simprocAttr,qyk hn,qy0 hn,ryk hn,ry0 hn,hn,hn,c1,qpI hpK,qq hpK,hws,pvI_adv]
  refine ⟨K.set p (pvI T most s)++[_,_,.dead],hx3 _ _ _ _,?_⟩
  simp only [go_sem,simprocAttr,qyk hn,qy0 hn,ryk hn,ry0 hn,hn,hn,qpI hpK,qq hpK,hws,pvI_adv]
  refine ⟨hx3 _ _ _ _,?_⟩
  exact ⟨_,K,_,0,rfl,rfl,Kp.rfl,exp_leaf _ _ _ _ _ _ _ _⟩
 rw [iteG_f c1] at hF ⊢
 simp only [go_sem,simprocAttr,qyk hn,qy0 hn,ryk hn,ry0 hn,hn,hn,c1]
 refine acall_pure (iIs [116,114,117,101] K _ p s hpK hs) ?_
 cases c2:isT T [116,114,117,101] s
 rotate_left
 ·rw [iteG_t c2]
  simp only [go_sem,simprocAttr,qyk hn,qy0 hn,ryk hn,ry0 hn,hn,hn,c2,qpI hpK,qq hpK,hws,pvI_adv]
  exact ⟨_,K,_,0,rfl,rfl,Kp.rfl,exp_leaf _ _ _ _ _ _ _ _⟩
 rw [iteG_f c2] at hF ⊢
 simp only [go_sem,simprocAttr,qyk hn,qy0 hn,ryk hn,ry0 hn,hn,hn,c2]
 refine acall_pure (iIs [102,97,108,115,101] K _ p s hpK hs) ?_
 cases c3:isT T [102,97,108,115,101] s
 rotate_left
 ·rw [iteG_t c3]
  simp only [go_sem,simprocAttr,qyk hn,qy0 hn,ryk hn,ry0 hn,hn,hn,c3,qpI hpK,qq hpK,hws,pvI_adv]
  exact ⟨_,K,_,0,rfl,rfl,Kp.rfl,exp_leaf _ _ _ _ _ _ _ _⟩
 rw [iteG_f c3] at hF ⊢
 simp only [go_sem,simprocAttr,qyk hn,qy0 hn,ryk hn,ry0 hn,hn,hn,c3]
 refine acall_pure (iIsK 3 K _ p s hpK hs) ?_
 cases c4:isK T 3 s
 rotate_left
 ·rw [iteG_t c4]
  simp only [go_sem,simprocAttr,qyk hn,qy0 hn,ryk hn,ry0 hn,hn,hn,c4,qpI hpK,qq hpK,hws,pvI_adv]
  refine ⟨K.set p (pvI T most s)++[_,_,.dead],hx3 _ _ _ _,?_⟩
  simp only [go_sem,simprocAttr,qyk hn,qy0 hn,ryk hn,ry0 hn,hn,hn,qpI hpK,qq hpK,hws,pvI_adv]
  refine ⟨hx3 _ _ _ _,?_⟩
  exact ⟨_,K,_,0,rfl,rfl,Kp.rfl,exp_leaf _ _ _ _ _ _ _ _⟩
 rw [iteG_f c4] at hF ⊢
 simp only [go_sem,simprocAttr,qyk hn,qy0 hn,ryk hn,ry0 hn,hn,hn,c4]
 refine acall_pure (iIsK 4 K _ p s hpK hs) ?_
 cases c5:isK T 4 s
 rotate_left
 ·rw [iteG_t c5]
  simp only [go_sem,simprocAttr,qyk hn,qy0 hn,ryk hn,ry0 hn,hn,hn,c5,qpI hpK,qq hpK,hws,pvI_adv]
  refine ⟨K.set p (pvI T most s)++[_,_,.dead],hx3 _ _ _ _,?_⟩
  simp only [go_sem,simprocAttr,qyk hn,qy0 hn,ryk hn,ry0 hn,hn,hn,qpI hpK,qq hpK,hws,pvI_adv]
  refine ⟨hx3 _ _ _ _,?_⟩
  exact ⟨_,K,_,0,rfl,rfl,Kp.rfl,exp_leaf _ _ _ _ _ _ _ _⟩
 rw [iteG_f c5] at hF ⊢
 simp only [go_sem,simprocAttr,qyk hn,qy0 hn,ryk hn,ry0 hn,hn,hn,c5]
 refine acall_pure (iIs [114,101,97,100] K _ p s hpK hs) ?_
 cases c6:isT T [114,101,97,100] s
 rotate_left
 ·rw [iteG_t c6]
  simp only [go_sem,simprocAttr,qyk hn,qy0 hn,ryk hn,ry0 hn,hn,hn,c6,qpI hpK,qq hpK,hws,pvI_adv]
  refine ⟨K.set p (pvI T most s)++[_,_,.dead],hx3 _ _ _ _,?_⟩
  simp only [go_sem,simprocAttr,qyk hn,qy0 hn,ryk hn,ry0 hn,hn,hn,qpI hpK,qq hpK,hws,pvI_adv]
  refine ⟨hx3 _ _ _ _,?_⟩
  exact ⟨_,K,_,0,rfl,rfl,Kp.rfl,exp_leaf _ _ _ _ _ _ _ _⟩
 rw [iteG_f c6] at hF ⊢
 simp only [go_sem,simprocAttr,qyk hn,qy0 hn,ryk hn,ry0 hn,hn,hn,c6]
 rcases hq:iBr T T.length ex s with ⟨⟨k1,n1,u1,t1,q1,l1,m1⟩,s1⟩
 rw [hq] at hF
 obtain ⟨H1,cs1,hn1,kp1,fr1,cl1,_,env1,call1⟩:=(hB p).use ExpD.wf hq hn hp hb hs hF (Nat.le_refl _)
 refine acall_pure (call1 _ trivial) ?_
 have hE1:=fun A A'=>env1 [] [] A A' (Env.nil _ _ _)
 obtain ⟨c1,b1,rfl⟩:=(hE1 [] []).expC rfl
 simp only [go_sem,simprocAttr,qyk hn1,qy0 hn1,ryk hn1,ry0 hn1,hn1,hn1]
 exact ⟨_,H1,_,n,rfl,rfl,kp1,hE1 [] _⟩
end
theorem chn {f:Nat} {args:List AV} {B:List AO->Prop} {X Y:List AO} {r:AV} (h:∀ A,B A->ACall Tryz.prog f args (X++A) (pureQ r (Y++A))) (A:List AO) (hB:∀ A',B (A++A')):∀ A',ACall Tryz.prog f args ((X++A)++A') (pureQ r ((Y++A)++A')):=fun A'=>by
 rw [List.append_assoc,List.append_assoc]; exact h _ (hB A')
theorem chl {H K:List AO} {n p:Nat} (hn:H.length=n) (hk:K.length=n) (c d:AO) (A:List AO):(H.set p c++A).length=(K.set p d++A).length:=by simp [hn,hk]
def nms:List (List UInt8):=[[112,114,105,110,116],[101,120,105,116],[115,105,122,101],[114,101,102],[33]]
section
variable {T:List Tok} {most e:Nat} (hT:ToksOk T) (hTl:T.length<=1073741825)
include hT hTl
theorem iPreC {d:Nat} (hd:d<=1099511627776) {ex:PM ExpD} (hP:PFo T most e 30 [iV (d+1:Nat)] ex ExpD.tv) (sP:StayM T ex):PFo T most e 184 [iV d] (iPre T T.length ex) ExpD.tv:=by
 have hA:=iAtomC hT hTl hd hP sP
 refine pfo_of fun p K b n s hn hp hb hs hF=>?_
 have hpK:p<K.length:=by omega
 have hws:=ws hTl hs
 refine call184 (by simp) ?_
 simp only [go_sem,simprocAttr,qyk hn,qy0 hn,ryk hn,ry0 hn,hn,hn,mc184,mr184]
 refine acall_pure (iNow K _ p s hpK hs) ?_
 simp only [go_sem,simprocAttr,qyk hn,qy0 hn,ryk hn,ry0 hn,hn,hn,Tok.cells]
 unfold iPre at hF ⊢
 rw [nowP_e] at hF ⊢
 intro _
 have hN5:∀ j,j<5->(nms.map fun w=>[sV w])[j]?=some [sV (nms.getD j [])]:=fun j hj=>by
  match j,hj with
  | 0,_=>rfl
  | 1,_=>rfl
  | 2,_=>rfl
  | 3,_=>rfl
  | 4,_=>rfl
 have hpr:primT T s=(isT T [112,114,105,110,116] s || isT T [101,120,105,116] s || isT T [115,105,122,101] s || isT T [114,101,102] s || isT T [33] s):=rfl
 refine ⟨Nat,[0,1,4,5,11,12,13],fun j st=>(j<=5/\∀ i,i<j->isT T (nms.getD i []) s=false)/\st=⟨[(0,.ptr p 0),(1,iV d),(4,.ptr n 0),(5,.ptr (n+1) 0),(11,.gs (n+2) 0 0 5),(12,iV 5),(13,iV (j:Nat))],[],K.set p (pvI T most s)++[.var [iV 0,sV [],iV 0,sV [],iV 0,.p .nl,.p .nl],.var [iV (tokA T s).k,sV (tokA T s).t,iV (tokA T s).n,iV (tokA T s).p],.rows 1 0 (nms.map fun w=>[sV w])]⟩,fun j=>5 - j,⟨0,?_⟩,?_⟩
 ·simp only [go_sem,simprocAttr,qyk hn,qy0 hn,ryk hn,ry0 hn,hn,hn]
  exact ⟨fun i hi=>absurd hi (by omega),rfl⟩
 ·rintro j _ ⟨⟨hj,hno⟩,rfl⟩
  have hw1:wr .i64 ((j:Int)+1)=((j+1:Nat):Int):=wrN _ (by omega)
  by_cases hlt:j<5
  ·have d1:decide ((j:Int)<5)=true:=by simp; omega
   simp only [go_sem,simprocAttr,qyk hn,qy0 hn,ryk hn,ry0 hn,hn,hn,d1,hN5 j hlt,Option.map_some]
   refine ⟨by omega,?_⟩
   generalize hw:nms.getD j []=w at *
   refine acall_pure (iTake hTl w K _ p s hpK hs) ?_
   unfold takeM
   cases hg:isT T w s
   ·simp only [go_sem,simprocAttr,qyk hn,qy0 hn,ryk hn,ry0 hn,hn,hn,hg,hw1]
    exact ⟨j+1,⟨⟨hlt,fun i hi=>by
     rcases Nat.lt_or_ge i j with h | h
     ·exact hno i h
     ·obtain rfl:i=j:=by omega
      rw [hw]; exact hg⟩,rfl⟩,by omega⟩
   ·have hpt:primT T s=true:=by
     rw [hpr]
     match j,hlt,hw with
     | 0,_,hw=>obtain rfl:[112,114,105,110,116]=w:=hw; simp [hg]
     | 1,_,hw=>obtain rfl:[101,120,105,116]=w:=hw; simp [hg]
     | 2,_,hw=>obtain rfl:[115,105,122,101]=w:=hw; simp [hg]
     | 3,_,hw=>obtain rfl:[114,101,102]=w:=hw; simp [hg]
     | 4,_,hw=>obtain rfl:[33]=w:=hw; simp [hg]
    have hwt:(tokA T s).t=w:=by simp [isT] at hg; exact hg.2
    have hs1:=hs.adv hT (isT_k hg).2
    rcases hq:iAtom T T.length ex (adv s) with ⟨⟨k1,n1,u1,t1,q1,l1,m1⟩,s2⟩
    have e1:(bindP (iAtom T T.length ex) fun a=>retP (node1 15 (tokA T s).t (tokA T s).p a)) (adv s)=(ExpD.mk 15 w 0 [] (tokA T s).p [.mk k1 n1 u1 t1 q1 l1 m1] [],s2):=by rw [bindP_e,hq,hwt]; rfl
    rw [iteG_t hpt,e1] at hF ⊢
    generalize (tokA T s).p=tp at *
    simp only [go_sem,simprocAttr,qyk hn,qy0 hn,ryk hn,ry0 hn,hn,hn,hg]
    obtain ⟨H1,cs1,hn1,kp1,fr1,cl1,_,env1,call1⟩:=(hA p).use ExpD.wf hq hn hp hb hs1 hF (by rw [exp_nC 15,List.map_cons,nK]; omega)
    have hE1:=fun A A'=>env1 [] [] A A' (Env.nil _ _ _)
    obtain ⟨c1,b1,rfl⟩:=(hE1 [] []).expC rfl
    refine ⟨_,hxd hn _ _ _,?_⟩
    simp only [go_sem,simprocAttr,qyk hn,qy0 hn,ryk hn,ry0 hn,hn,hn]
    refine pcall_chain _ _ (chl hn1 hn _ _ _) (hxd hn1 _ _ _) (chn call1 _ fun _=>trivial) ?_
    simp only [go_sem,simprocAttr,qyk hn1,qy0 hn1,ryk hn1,ry0 hn1,hn1,hn1,Nat.add_zero]
    exact ⟨_,H1,_,_,rfl,rfl,kp1,exp_node ((hE1 [] _).node1 (by rw [qyk hn1]; rfl) (by omega) (by omega) (ExpD.tv_len _))⟩
  ·obtain rfl:j=5:=by omega
   have hpf:primT T s=false:=by
    rw [hpr,show isT T [112,114,105,110,116] s=false from hno 0 (by omega),show isT T [101,120,105,116] s=false from hno 1 (by omega),show isT T [115,105,122,101] s=false from hno 2 (by omega),show isT T [114,101,102] s=false from hno 3 (by omega),show isT T [33] s=false from hno 4 (by omega)]; rfl
   rw [iteG_f hpf] at hF ⊢
   simp only [go_sem,simprocAttr,qyk hn,qy0 hn,ryk hn,ry0 hn,hn,hn]
   refine acall_pure (iIsK 4 K _ p s hpK hs) ?_
   cases c4:isK T 4 s
   ·rw [iteG_f c4] at hF ⊢
    simp only [go_sem,simprocAttr,qyk hn,qy0 hn,ryk hn,ry0 hn,hn,hn,c4,Bool.not_false,Bool.not_true]
    rcases hq:iAtom T T.length ex s with ⟨⟨k1,n1,u1,t1,q1,l1,m1⟩,s2⟩
    rw [hq] at hF
    obtain ⟨H1,cs1,hn1,kp1,fr1,cl1,_,env1,call1⟩:=(hA p).use ExpD.wf hq hn hp hb hs hF (Nat.le_refl _)
    refine acall_pure (call1 _ trivial) ?_
    have hE1:=fun A A'=>env1 [] [] A A' (Env.nil _ _ _)
    obtain ⟨c1,b1,rfl⟩:=(hE1 [] []).expC rfl
    simp only [go_sem,simprocAttr,qyk hn1,qy0 hn1,ryk hn1,ry0 hn1,hn1,hn1]
    exact ⟨_,H1,_,n,rfl,rfl,kp1,hE1 [] _⟩
   ·rw [iteG_t c4] at hF ⊢
    have hs2:=hs.adv hT (show (tokA T s).k≠8 by have:=(isK_k c4).2; omega)
    generalize (tokA T s).t=tt at *
    generalize (tokA T s).p=tp at *
    simp only [go_sem,simprocAttr,qyk hn,qy0 hn,ryk hn,ry0 hn,hn,hn,c4,Bool.not_false,Bool.not_true,qpI hpK,qq hpK,hws,pvI_adv]
    refine acall_pure (iAtomNext K _ p _ hpK hs2) ?_
    cases hst:atNx T (adv s)
    ·rw [iteB_f hst] at hF ⊢
     simp only [go_sem,simprocAttr,qyk hn,qy0 hn,ryk hn,ry0 hn,hn,hn,hst]
     exact ⟨_,K,_,0,rfl,rfl,Kp.rfl,exp_leaf _ _ _ _ _ _ _ _⟩
    ·rw [iteB_t hst] at hF ⊢
     rcases hq:iAtom T T.length ex (adv s) with ⟨⟨k1,n1,u1,t1,q1,l1,m1⟩,s2⟩
     have e1:(bindP (iAtom T T.length ex) fun a=>retP (node1 6 tt tp a)) (adv s)=(ExpD.mk 6 tt 0 [] tp [.mk k1 n1 u1 t1 q1 l1 m1] [],s2):=by rw [bindP_e,hq]; rfl
     rw [e1] at hF ⊢
     simp only [go_sem,simprocAttr,qyk hn,qy0 hn,ryk hn,ry0 hn,hn,hn,hst]
     obtain ⟨H1,cs1,hn1,kp1,fr1,cl1,_,env1,call1⟩:=(hA p).use ExpD.wf hq hn hp hb hs2 hF (by rw [exp_nC 6,List.map_cons,nK]; omega)
     refine acall_pure (call1 _ trivial) ?_
     have hE1:=fun A A'=>env1 [] [] A A' (Env.nil _ _ _)
     obtain ⟨c1,b1,rfl⟩:=(hE1 [] []).expC rfl
     simp only [go_sem,simprocAttr,qyk hn1,qy0 hn1,ryk hn1,ry0 hn1,hn1,hn1,Nat.add_zero]
     exact ⟨_,H1,_,_,rfl,rfl,kp1,exp_node ((hE1 [] _).node1 (by rw [qyk hn1]; rfl) (by omega) (by omega) (ExpD.tv_len _))⟩
end
theorem exp_mk (a:ExpD):∃ k n u t q l m,a=.mk k n u t q l m:=by cases a; exact ⟨_,_,_,_,_,_,_,rfl⟩
structure CG where
 j:Nat
 s:PS
 a:ExpD
 cs:List AV
 H:List AO
 A:List AO
 M:Nat
structure LCo (pv:PS->AO) (T:List Tok) (e b n p:Nat) (K:List AO) (v:Nat) (g:PS->Bool) (m:ExpD->PM ExpD) (R:ExpD × PS) (x:CG):Prop where
 ok:Ok T e x.s
 fu:x.s.c=0->T.length - x.s.i<=x.j
 eq:carry g m x.j x.a x.s=R
 hn:x.H.length=n
 kp:Kp b K x.H
 fr:Fr b x.H x.M
 room:nC R.1.tv<=nC x.a.tv+x.M
 env:∃ u,n<=u/\u<=n+x.A.length/\Env b u (x.H.set p (pv x.s)++x.A) x.a.tv x.cs
 var:x.A[v]?=some (.var x.cs)
theorem carry_mono {g : PS → Bool} {m : ExpD → PM ExpD} (h : ∀ a s, nC a.tv ≤ nC (m a s).1.tv) : ∀ n a s, nC a.tv ≤ nC (carry g m n a s).1.tv
  | 0, a, s => Nat.le_refl _
  | n + 1, a, s => by
    rw [carry]
    split
    · exact Nat.le_trans (h a s) (carry_mono h n _ _)
    · exact Nat.le_refl _
theorem node2_nC (k:Int) (nm:List UInt8) (q:Int) (a b:ExpD):nC (ExpD.tv (node2 k nm q a b))=1+(nC a.tv+nC b.tv):=by
 rw [node2,exp_nC]; simp [nK,nR]
section
variable {pv:PS->AO} {T:List Tok} {e b n p v:Nat} {K:List AO} {g:PS->Bool} {m:ExpD->PM ExpD} {R:ExpD × PS}
theorem LCo.start {s:PS} {a:ExpD} {cs:List AV} {H A:List AO} {M:Nat} (hs:Ok T e s) (h:carry g m T.length a s=R) (hn:H.length=n) (hk:Kp b K H) (hF:Fr b H M) (hM:nC R.1.tv<=nC a.tv+M) (hE:Env b n (H.set p (pv s)++A) a.tv cs) (hv:A[v]?=some (.var cs)):LCo pv T e b n p K v g m R ⟨T.length,s,a,cs,H,A,M⟩ :=
 ⟨hs,fun _=>by simp only; omega,h,hn,hk,hF,hM,⟨n,Nat.le_refl _,Nat.le_add_right _ _,hE⟩,hv⟩
theorem LCo.stop {x:CG} (h:LCo pv T e b n p K v g m R x) (hg:g x.s=false):R=(x.a,x.s):=by
 have:=h.eq
 rw [carry_c hg] at this
 exact this.symm
theorem LCo.succ {x:CG} (h:LCo pv T e b n p K v g m R x) (ho:Only T g) (hg:g x.s=true):∃ j',x.j=j'+1:=⟨x.j - 1,by have:=h.fu (ho x.s hg).1; have:=h.ok.1; omega⟩
theorem LCo.room1 {x:CG} (h:LCo pv T e b n p K v g m R x) (ho:Only T g) (hg:g x.s=true) (hmo:∀ a s,nC a.tv<=nC (m a s).1.tv) {k:Int} {nm:List UInt8} {q:Int} {y:ExpD} {s2:PS} (hm:m x.a x.s=(node2 k nm q x.a y,s2)):nC y.tv<=x.M:=by
 obtain ⟨j',hj⟩:=h.succ ho hg
 have h1:=h.eq
 rw [hj,carry,if_pos hg,hm] at h1
 have h2:=carry_mono (g:=g) hmo j' (node2 k nm q x.a y) s2
 rw [h1,node2_nC] at h2
 have:=h.room
 omega
theorem LCo.next {x:CG} (h:LCo pv T e b n p K v g m R x) (hp:p<b) (hb:b<=n) (ho:Only T g) (hg:g x.s=true) (hmo:∀ a s,nC a.tv<=nC (m a s).1.tv) {k:Int} {nm:List UInt8} {q:Int} {y:ExpD} {s0 s2:PS} (hm:m x.a x.s=(node2 k nm q x.a y,s2)) (hs2:Ok T e s2) (hgt:x.s.i<s2.i)
  {H1 A':List AO} {cs1:List AV} {r:Nat} (hn1:H1.length=n) (kp1:Kp b x.H H1) (fr1:Fr b H1 (x.M - nC y.tv)) (hc1:cs1.length=7)
  (env1:∀ u ts ds A,n<=u->Env b u (x.H.set p (pv s0)++A) ts ds->Env b u (H1.set p (pv s2)++A) (ts++y.tv) (ds++cs1))
  (hk:∀ (i:Nat) o,i≠v->x.A[i]?=some o->A'[i]?=some o) (hv:A'[v]?=some (.var [iV k,sV nm,iV 0,sV [],iV q,.gs (n+r) 0 0 2,.p .nl])) (hr:A'[r]?=some (.rows 7 0 [x.cs,cs1])) (hrl:x.A.length<=r) :
  LCo pv T e b n p K v g m R ⟨x.j - 1,s2,node2 k nm q x.a y,[iV k,sV nm,iV 0,sV [],iV q,.gs (n+r) 0 0 2,.p .nl],H1,A',x.M - nC y.tv⟩:=by
 have hro:=h.room1 ho hg hmo hm
 obtain ⟨j',hj⟩:=h.succ ho hg
 have h1:=h.eq
 rw [hj,carry,if_pos hg,hm] at h1
 obtain ⟨u,u1,u2,hE⟩:=h.env
 have hl7:x.cs.length=7:=by rw [hE.len,ExpD.tv_len]
 refine ⟨hs2,fun hc=>?_,by rw [hj,Nat.add_sub_cancel]; exact h1,hn1,h.kp.trans kp1,fr1,by simp only; rw [node2_nC]; have:=h.room; omega,⟨n+r+1,by omega,by have:=get_lt hr; simp only; omega,?_⟩,hv⟩
 ·have:=h.fu (ho x.s hg).1; have:=h.ok.1; simp only; omega
 ·have e1:=(env1 u _ _ x.A u1 (hE.q h.hn hp fun _ _ _ _ h=>h)).q (A':=A') (c':=pv s2) hn1 hp fun i sz ver rs hi=>hk i _ (by rintro rfl; rw [h.var] at hi; cases hi) hi
  exact exp_node (Env.node (rows:=[x.a.tv,y.tv]) (rs:=[x.cs,cs1]) (by simpa using e1) (by rw [qyk hn1]; exact hr) (by omega) (by omega) rfl (by intro r hr; simp at hr; rcases hr with rfl | rfl <;> exact ExpD.tv_len _) (by intro r hr; simp at hr; rcases hr with rfl | rfl <;> assumption) (by simp))
end
section
variable {T:List Tok} {most e:Nat} (hT:ToksOk T) (hTl:T.length<=1073741825)
include hT hTl
theorem iAtom_gt {ex:PM ExpD} (sP:StayM T ex) {s:PS} (hi:s.i<T.length) (hg:atNx T s=true):s.i<(iAtom T T.length ex s).2.i:=by
 have ha:s.i<(adv s).i:=by show s.i<s.i+1; omega
 unfold iAtom
 rw [nowP_e]
 cases c0:isK T 1 s
 rotate_left
 ·rw [iteG_t c0]; exact ha
 rw [iteG_f c0]
 cases c1:isK T 2 s
 rotate_left
 ·rw [iteG_t c1]; exact ha
 rw [iteG_f c1]
 cases c2:isT T [116,114,117,101] s
 rotate_left
 ·rw [iteG_t c2]; exact ha
 rw [iteG_f c2]
 cases c3:isT T [102,97,108,115,101] s
 rotate_left
 ·rw [iteG_t c3]; exact ha
 rw [iteG_f c3]
 cases c4:isK T 3 s
 rotate_left
 ·rw [iteG_t c4]; exact ha
 rw [iteG_f c4]
 cases c5:isK T 4 s
 rotate_left
 ·rw [iteG_t c5]; exact ha
 rw [iteG_f c5]
 cases c6:isT T [114,101,97,100] s
 rotate_left
 ·rw [iteG_t c6]; exact ha
 rw [iteG_f c6]
 have hb:isT T [40] s=true:=by simpa [atNx,c0,c1,c2,c3,c4,c5,c6] using hg
 unfold iBr
 rw [nowP_e,stepP_e]
 have ew:wantP T [40] s=adv s:=by unfold wantP; rw [if_pos hb]
 rw [ew]
 refine (Stay.adv hT (f:=fun s'=>(iteG (isT T [41]) (retP (leaf 4 [] 0 [] (tokA T s).p)) (iteB (fun s=>!decide (s.c=0)) (retP (leaf 4 [] 0 [] (tokA T s).p)) (bindP ex fun a=>bindP (many (isT T [44]) (advP ex) T.length) fun l=>stepP (wantP T [41]) (retP (if l=[] then a else .mk 7 [] 0 [] (tokA T s).p (a :: l) [])))) s').2) ?_ hi (isT_k hb).2).1
 exact StayM.iteG hT (only_isT T _) (StayM.ret _) (StayM.iteB (StayM.ret _) (StayM.bind sP fun _=>StayM.bind (StayM.manyA hT (only_isT T _) sP _) fun _=>StayM.step (stay_want hT _) (StayM.ret _)))
theorem iAppC {d:Nat} (hd:d<=1099511627776) {ex:PM ExpD} (hP:PFo T most e 30 [iV (d+1:Nat)] ex ExpD.tv) (sP:StayM T ex):PFo T most e 167 [iV d] (iApp T T.length ex) ExpD.tv:=by
 have hA:=iAtomC hT hTl hd hP sP
 have hB:=iPreC hT hTl hd hP sP
 have sA:=Pg.stay_iAtom (N:=T.length) hT sP
 have sB:=Pg.stay_iPre (N:=T.length) hT sP
 have oN:Only T (atNx T):=only_atNx
 refine pfo_of fun p K b n s hn hp hb hs hF=>?_
 have hpK:p<K.length:=by omega
 refine call167 (by simp) ?_
 simp only [go_sem,simprocAttr,qyk hn,qy0 hn,ryk hn,ry0 hn,hn,hn,mc167,mr167]
 rcases hq:iPre T T.length ex s with ⟨⟨k1,n1,u1,t1,q1,l1,m1⟩,s1⟩
 have hs1:=hs.run sB
 rw [hq] at hs1
 have e0:iApp T T.length ex s=appG T T.length (iAtom T T.length ex) (.mk k1 n1 u1 t1 q1 l1 m1) s1:=by unfold iApp; rw [bindP_e,hq]
 rw [e0] at hF ⊢
 have hmo:∀ a s,nC a.tv<=nC ((fun a=>bindP (iAtom T T.length ex) fun b=>retP (node2 9 [] a.pos a b)) a s).1.tv:=fun a s=>by
  show nC a.tv<=nC (node2 9 [] a.pos a _).tv
  rw [node2_nC]; omega
 unfold appG at hF ⊢
 generalize hR:carry (atNx T) (fun a=>bindP (iAtom T T.length ex) fun b=>retP (node2 9 [] a.pos a b)) T.length (.mk k1 n1 u1 t1 q1 l1 m1) s1=R at *
 have hge:nC (ExpD.tv (.mk k1 n1 u1 t1 q1 l1 m1))<=nC R.1.tv:=by rw [<- hR]; exact carry_mono hmo _ _ _
 obtain ⟨H1,cs1,hn1,kp1,fr1,cl1,_,env1,call1⟩:=(hB p).use ExpD.wf hq hn hp hb hs hF hge
 refine acall_pure (call1 _ trivial) ?_
 have hE1:=fun A A'=>env1 [] [] A A' (Env.nil _ _ _)
 obtain ⟨c1,b1,rfl⟩:=(hE1 [] []).expC rfl
 simp only [go_sem,simprocAttr,qyk hn1,qy0 hn1,ryk hn1,ry0 hn1,hn1,hn1]
 refine ⟨CG,[0,1,4,5],fun x st=>(LCo (pvI T most) T e b n p K 1 (atNx T) (fun a=>bindP (iAtom T T.length ex) fun b=>retP (node2 9 [] a.pos a b)) R x/\x.A[0]?=some (.var [iV 0,sV [],iV 0,sV [],iV 0,.p .nl,.p .nl]))/\st=⟨[(0,.ptr p 0),(1,iV d),(4,.ptr n 0),(5,.ptr (n+1) 0)],[],x.H.set p (pvI T most x.s)++x.A⟩,fun x=>T.length - x.s.i,
  ⟨⟨T.length,s1,.mk k1 n1 u1 t1 q1 l1 m1,[iV k1,sV n1,iV u1,sV t1,iV q1,c1,b1],H1,[.var [iV 0,sV [],iV 0,sV [],iV 0,.p .nl,.p .nl],.var [iV k1,sV n1,iV u1,sV t1,iV q1,c1,b1]],nC R.1.tv - nC (ExpD.tv (.mk k1 n1 u1 t1 q1 l1 m1))⟩,?_⟩,?_⟩
 ·exact ⟨⟨LCo.start hs1 hR hn1 kp1 fr1 (by omega) (hE1 [] _) rfl,rfl⟩,rfl⟩
 ·rintro x _ ⟨⟨hL,i0⟩,rfl⟩
  have hpx:p<x.H.length:=by rw [hL.hn]; omega
  simp only [go_sem,simprocAttr,qyk hL.hn,qy0 hL.hn,ryk hL.hn,ry0 hL.hn,hL.hn,hL.hn]
  refine acall_pure (iAtomNext x.H _ p x.s hpx hL.ok) ?_
  obtain ⟨u,u1',u2',hE⟩:=hL.env
  cases hg:atNx T x.s
  ·have hx:=hL.stop hg
   rw [hx]
   obtain ⟨d1,d2,d3,d4,d5,d6,d7,hcs⟩:=len7 (hE.len.trans (ExpD.tv_len _))
   have i1:=hL.var
   rw [hcs] at i1 hE
   have hz:∀ o,(x.A.set 0 o)[0]?=some o:=fun o=>set_get i0
   simp only [go_sem,simprocAttr,qyk hL.hn,qy0 hL.hn,ryk hL.hn,ry0 hL.hn,hL.hn,hL.hn,hg,i1,i0,hz]
   exact ⟨_,x.H,_,u,rfl,rfl,hL.kp,hE.q hL.hn hp fun i sz ver rs hi=>get_set hi (by rintro rfl; rw [i0] at hi; cases hi)⟩
  ·rcases hq2:iAtom T T.length ex x.s with ⟨⟨k3,n3,u3,t3,q3,l3,m3⟩,s3⟩
   have hs3:=hL.ok.run sA
   have hgt:=iAtom_gt hT hTl sP hL.ok.1 hg
   rw [hq2] at hs3 hgt
   have hm:(fun a=>bindP (iAtom T T.length ex) fun b=>retP (node2 9 [] a.pos a b)) x.a x.s=(node2 9 [] x.a.pos x.a (.mk k3 n3 u3 t3 q3 l3 m3),s3):=by
    show bindP _ _ _=_
    rw [bindP_e,hq2]; rfl
   obtain ⟨H2,cs2,hn2,kp2,fr2,cl2,env2,_,call2⟩:=(hA p).use ExpD.wf hq2 hL.hn hp hb hL.ok hL.fr (hL.room1 oN hg hmo hm)
   obtain ⟨c2,b2,rfl⟩:=(env2 u _ _ _ u1' hE).expC hE.len
   obtain ⟨k4,n4,u4,t4,q4,l4,m4,hxa⟩:=exp_mk x.a
   have hpos:x.a.pos=q4:=by rw [hxa]; rfl
   rw [hpos] at hm
   have hE0:=hE
   rw [hxa] at hE0
   obtain ⟨c4,b4,hcs⟩:=Env.expC (ts:=[]) (ds:=[]) (cs:=x.cs) hE0 rfl
   have i1:=hL.var
   rw [hcs] at i1
   have hz:∀ B o,((x.A++B).set 1 o)[1]?=some o:=fun B o=>set_get (get_ext i1 B)
   simp only [go_sem,simprocAttr,qyk hL.hn,qy0 hL.hn,ryk hL.hn,ry0 hL.hn,hL.hn,hL.hn,hg]
   refine ⟨_,hxd hL.hn _ _ _,?_⟩
   simp only [go_sem,simprocAttr,qyk hL.hn,qy0 hL.hn,ryk hL.hn,ry0 hL.hn,hL.hn,hL.hn,i1]
   refine pcall_chain _ _ (chl hn2 hL.hn _ _ _) (hxd hn2 _ _ _) (chn call2 _ fun _=>trivial) ?_
   simp only [go_sem,simprocAttr,qyk hn2,qy0 hn2,ryk hn2,ry0 hn2,hn2,hn2,qya hn2,qya0 hn2,Nat.add_zero,get_ext i1 _]
   exact ⟨⟨x.j - 1,s3,node2 9 [] q4 x.a (.mk k3 n3 u3 t3 q3 l3 m3),[iV 9,sV [],iV 0,sV [],iV q4,.gs (n+x.A.length) 0 0 2,.p .nl],H2,_,x.M - nC (ExpD.tv (.mk k3 n3 u3 t3 q3 l3 m3))⟩,
    ⟨⟨hL.next (s0:=x.s) hp hb oN hg hmo hm hs3 hgt hn2 kp2 fr2 rfl env2 (fun i o hi ho=>get_set (get_ext ho _) (by omega)) (hz _ _) (by rw [List.getElem?_set_ne (by have:=get_lt i1; omega),<- hcs,gx0]; rfl) (Nat.le_refl _),get_set (get_ext i0 _) (by decide)⟩,rfl⟩,by have h1:x.s.i<s3.i:=hgt; have:=hL.ok.1; simp only; omega⟩
end
def BX (p q1 q2 d:Nat) (X:List AO):Prop:=q1≠p/\q2≠p/\X[q1]?=some (.var [.ptr p 0])/\X[q2]?=some (.var [iV d])
theorem BX.mono {p q1 q2 d:Nat} (X Y:List AO) (h:BX p q1 q2 d X) (k:∀ (i:Nat) o,X[i]?=some o->Y[i]?=some o):BX p q1 q2 d Y:=⟨h.1,h.2.1,k _ _ h.2.2.1,k _ _ h.2.2.2⟩
theorem qpo {H:List AO} {p q:Nat} {o:AO} (hq:q≠p) (h:H[q]?=some o) (c:AO) (A:List AO):(H.set p c++A)[q]?=some o:=by
 rw [List.getElem?_append_left (by simpa using get_lt h),List.getElem?_set_ne (Ne.symm hq)]; exact h
abbrev PCl (T:List Tok) (most e d f:Nat) (m:PM ExpD):Prop:=∀ p q1 q2,PX (pvI T most) T e f [.ptr q1 0,.ptr q2 0] (BX p q1 q2 d) p m ExpD.tv
section
variable {T:List Tok} {most e d:Nat}
theorem clo_row1 {m:PM ExpD} (hG:PFo T most e 167 [iV d] m ExpD.tv):PCl T most e d 166 m:=by
 intro p q1 q2
 refine px_of (pvI_tf T most) BX.mono fun K b n s hn hp hb hs hB hF=>?_
 obtain ⟨b1,b2,b3,b4⟩:=hB
 have g1:=qpo b1 b3
 have g2:=qpo b2 b4
 refine call166 (by simp) ?_
 simp only [go_sem,simprocAttr,qyk hn,qy0 hn,ryk hn,ry0 hn,hn,hn,mc166,mr166,g1,g2]
 rcases hq:m s with ⟨⟨k1,n1,u1,t1,q3,l1,m1⟩,s1⟩
 rw [hq] at hF
 obtain ⟨H1,cs1,hn1,kp1,fr1,cl1,_,env1,call1⟩:=(hG p).use ExpD.wf hq hn hp hb hs hF (Nat.le_refl _)
 refine acall_pure (call1 _ trivial) ?_
 have hE1:=fun A A'=>env1 [] [] A A' (Env.nil _ _ _)
 obtain ⟨c1,b1,rfl⟩:=(hE1 [] []).expC rfl
 simp only [go_sem,simprocAttr,qyk hn1,qy0 hn1,ryk hn1,ry0 hn1,hn1,hn1]
 exact ⟨_,H1,_,n,rfl,rfl,kp1,hE1 [] _⟩
theorem clo_row2 {m:PM ExpD} (hG:PFo T most e 134 [iV 1,iV d] m ExpD.tv):PCl T most e d 168 m:=by
 intro p q1 q2
 refine px_of (pvI_tf T most) BX.mono fun K b n s hn hp hb hs hB hF=>?_
 obtain ⟨b1,b2,b3,b4⟩:=hB
 have g1:=qpo b1 b3
 have g2:=qpo b2 b4
 refine call168 (by simp) ?_
 simp only [go_sem,simprocAttr,qyk hn,qy0 hn,ryk hn,ry0 hn,hn,hn,mc168,mr168,g1,g2]
 rcases hq:m s with ⟨⟨k1,n1,u1,t1,q3,l1,m1⟩,s1⟩
 rw [hq] at hF
 obtain ⟨H1,cs1,hn1,kp1,fr1,cl1,_,env1,call1⟩:=(hG p).use ExpD.wf hq hn hp hb hs hF (Nat.le_refl _)
 refine acall_pure (call1 _ trivial) ?_
 have hE1:=fun A A'=>env1 [] [] A A' (Env.nil _ _ _)
 obtain ⟨c1,b1,rfl⟩:=(hE1 [] []).expC rfl
 simp only [go_sem,simprocAttr,qyk hn1,qy0 hn1,ryk hn1,ry0 hn1,hn1,hn1]
 exact ⟨_,H1,_,n,rfl,rfl,kp1,hE1 [] _⟩
theorem clo_once1 {m:PM ExpD} (hG:PFo T most e 134 [iV 0,iV d] m ExpD.tv):PCl T most e d 133 m:=by
 intro p q1 q2
 refine px_of (pvI_tf T most) BX.mono fun K b n s hn hp hb hs hB hF=>?_
 obtain ⟨b1,b2,b3,b4⟩:=hB
 have g1:=qpo b1 b3
 have g2:=qpo b2 b4
 refine call133 (by simp) ?_
 simp only [go_sem,simprocAttr,qyk hn,qy0 hn,ryk hn,ry0 hn,hn,hn,mc133,mr133,g1,g2]
 rcases hq:m s with ⟨⟨k1,n1,u1,t1,q3,l1,m1⟩,s1⟩
 rw [hq] at hF
 obtain ⟨H1,cs1,hn1,kp1,fr1,cl1,_,env1,call1⟩:=(hG p).use ExpD.wf hq hn hp hb hs hF (Nat.le_refl _)
 refine acall_pure (call1 _ trivial) ?_
 have hE1:=fun A A'=>env1 [] [] A A' (Env.nil _ _ _)
 obtain ⟨c1,b1,rfl⟩:=(hE1 [] []).expC rfl
 simp only [go_sem,simprocAttr,qyk hn1,qy0 hn1,ryk hn1,ry0 hn1,hn1,hn1]
 exact ⟨_,H1,_,n,rfl,rfl,kp1,hE1 [] _⟩
theorem clo_once2 {m:PM ExpD} (hG:PFo T most e 90 [iV 1,iV d] m ExpD.tv):PCl T most e d 135 m:=by
 intro p q1 q2
 refine px_of (pvI_tf T most) BX.mono fun K b n s hn hp hb hs hB hF=>?_
 obtain ⟨b1,b2,b3,b4⟩:=hB
 have g1:=qpo b1 b3
 have g2:=qpo b2 b4
 refine call135 (by simp) ?_
 simp only [go_sem,simprocAttr,qyk hn,qy0 hn,ryk hn,ry0 hn,hn,hn,mc135,mr135,g1,g2]
 rcases hq:m s with ⟨⟨k1,n1,u1,t1,q3,l1,m1⟩,s1⟩
 rw [hq] at hF
 obtain ⟨H1,cs1,hn1,kp1,fr1,cl1,_,env1,call1⟩:=(hG p).use ExpD.wf hq hn hp hb hs hF (Nat.le_refl _)
 refine acall_pure (call1 _ trivial) ?_
 have hE1:=fun A A'=>env1 [] [] A A' (Env.nil _ _ _)
 obtain ⟨c1,b1,rfl⟩:=(hE1 [] []).expC rfl
 simp only [go_sem,simprocAttr,qyk hn1,qy0 hn1,ryk hn1,ry0 hn1,hn1,hn1]
 exact ⟨_,H1,_,n,rfl,rfl,kp1,hE1 [] _⟩
theorem clo_expr1 (hd:d<=1099511627776) {m:PM ExpD} (hG:PFo T most e 30 [iV (d+1:Nat)] m ExpD.tv):PCl T most e d 85 m:=by
 intro p q1 q2
 refine px_of (pvI_tf T most) BX.mono fun K b n s hn hp hb hs hB hF=>?_
 obtain ⟨b1,b2,b3,b4⟩:=hB
 have g1:=qpo b1 b3
 have g2:=qpo b2 b4
 have hd1:wr .i64 ((d:Int)+1)=((d+1:Nat):Int):=wrN _ (by omega)
 refine call85 (by simp) ?_
 simp only [go_sem,simprocAttr,qyk hn,qy0 hn,ryk hn,ry0 hn,hn,hn,mc85,mr85,g1,g2,hd1]
 rcases hq:m s with ⟨⟨k1,n1,u1,t1,q3,l1,m1⟩,s1⟩
 rw [hq] at hF
 obtain ⟨H1,cs1,hn1,kp1,fr1,cl1,_,env1,call1⟩:=(hG p).use ExpD.wf hq hn hp hb hs hF (Nat.le_refl _)
 refine acall_pure (call1 _ trivial) ?_
 have hE1:=fun A A'=>env1 [] [] A A' (Env.nil _ _ _)
 obtain ⟨c1,b1,rfl⟩:=(hE1 [] []).expC rfl
 simp only [go_sem,simprocAttr,qyk hn1,qy0 hn1,ryk hn1,ry0 hn1,hn1,hn1]
 exact ⟨_,H1,_,n,rfl,rfl,kp1,hE1 [] _⟩
end
theorem pre_clo {C:CallP} {Hm Hc:List AO} {x:MA} {d:MD} {J:PK} {st:St} {f:Nat} {caps:List AV} (hx:st.get x=.clo f caps) (h:pcallK C Hm Hc [] f caps d J st):preC C Hm Hc (.calv x []) d J st:=by
 unfold preC
 simp only [hx]
 exact h
section
variable {T:List Tok} {most e:Nat} (hT:ToksOk T) (hTl:T.length<=1073741825)
include hT hTl
theorem iRowC1 {d:Nat} {side:PM ExpD} (hC:PCl T most e d 166 side) (sS:StayM T side):PFo T most e 134 [iV 1,iV d] (bindP side (rowG T T.length [[42]] side)) ExpD.tv:=by
 have oN:Only T (opT T [[42]]):=only_opT _
 refine pfo_of fun p K b n s hn hp hb hs hF=>?_
 have hpK:p<K.length:=by omega
 refine call134 (by simp) ?_
 simp only [go_sem,simprocAttr,qyk hn,qy0 hn,ryk hn,ry0 hn,hn,hn,mc134,mr134]
 rcases hq:side s with ⟨⟨k1,n1,u1,t1,q1,l1,m1⟩,s1⟩
 have hs1:=hs.run sS
 rw [hq] at hs1
 have e0:bindP side (rowG T T.length [[42]] side) s=rowG T T.length [[42]] side (.mk k1 n1 u1 t1 q1 l1 m1) s1:=by rw [bindP_e,hq]
 rw [e0] at hF ⊢
 have hmo:∀ a s,nC a.tv<=nC ((fun a=>nowP T fun t=>advP (bindP side fun b=>retP (node2 14 t.t t.p a b))) a s).1.tv:=fun a s=>by
  show nC a.tv<=nC (node2 14 _ _ a _).tv
  rw [node2_nC]; omega
 unfold rowG at hF ⊢
 generalize hR:carry (opT T [[42]]) (fun a=>nowP T fun t=>advP (bindP side fun b=>retP (node2 14 t.t t.p a b))) T.length (.mk k1 n1 u1 t1 q1 l1 m1) s1=R at *
 have hge:nC (ExpD.tv (.mk k1 n1 u1 t1 q1 l1 m1))<=nC R.1.tv:=by rw [<- hR]; exact carry_mono hmo _ _ _
 have hnp:n≠p:=by omega
 have hnp1:n+1≠p:=by omega
 obtain ⟨H1,cs1,hn1,kp1,fr1,cl1,_,env1,call1⟩:=(hC p n (n+1)).use ExpD.wf hq hn hp hb hs hF hge
 refine acall_pure (call1 _ ⟨hnp,hnp1,by rw [<- hn,gx0]; rfl,by rw [<- hn,gxk]; rfl⟩) ?_
 have hE1:=fun A A'=>env1 [] [] A A' (Env.nil _ _ _)
 obtain ⟨c1,b1,rfl⟩:=(hE1 [] []).expC rfl
 simp only [go_sem,simprocAttr,qyk hn1,qy0 hn1,ryk hn1,ry0 hn1,hn1,hn1]
 generalize hA6:([.var [.ptr p 0],.var [iV d],.var [iV 0,sV [],iV 0,sV [],iV 0,.p .nl,.p .nl],.rows 1 0 ([[43],[45],[94]].map fun x=>[.p (.s x)]),.rows 1 0 ([[42]].map fun x=>[.p (.s x)]),.rows 1 0 [[.gs (n+3) 0 0 3],[.gs (n+4) 0 0 1]]]:List AO)=A6
 have y0:A6[0]?=some (.var [.ptr p 0]):=by subst hA6; rfl
 have y1:A6[1]?=some (.var [iV d]):=by subst hA6; rfl
 have y2:A6[2]?=some (.var [iV 0,sV [],iV 0,sV [],iV 0,.p .nl,.p .nl]):=by subst hA6; rfl
 have y3:A6[4]?=some (.rows 1 0 ([[42]].map fun x=>[.p (.s x)])):=by subst hA6; rfl
 have y5:A6[5]?=some (.rows 1 0 [[.gs (n+3) 0 0 3],[.gs (n+4) 0 0 1]]):=by subst hA6; rfl
 have y6:A6.length=6:=by subst hA6; rfl
 refine ⟨CG,[0,1,3,6,7,8,9],fun x st=>(LCo (pvI T most) T e b n p K 6 (opT T [[42]]) (fun a=>nowP T fun t=>advP (bindP side fun b=>retP (node2 14 t.t t.p a b))) R x/\∀ (i:Nat) o,i<6->A6[i]?=some o->x.A[i]?=some o)/\st=⟨[(0,.ptr p 0),(1,iV 1),(3,.ptr n 0),(6,.ptr (n+2) 0),(7,.gs (n+5) 0 0 2),(8,.clo 166 [.ptr n 0,.ptr (n+1) 0]),(9,.ptr (n+6) 0)],[],x.H.set p (pvI T most x.s)++x.A⟩,fun x=>T.length - x.s.i,
  ⟨⟨T.length,s1,.mk k1 n1 u1 t1 q1 l1 m1,[iV k1,sV n1,iV u1,sV t1,iV q1,c1,b1],H1,A6++[.var [iV k1,sV n1,iV u1,sV t1,iV q1,c1,b1]],nC R.1.tv - nC (ExpD.tv (.mk k1 n1 u1 t1 q1 l1 m1))⟩,?_⟩,?_⟩
 ·exact ⟨⟨LCo.start hs1 hR hn1 kp1 fr1 (by omega) (hE1 [] _) (by rw [show (6:Nat)=A6.length from y6.symm,gx0]; rfl),fun i o hi ho=>get_ext ho _⟩,by subst hA6; rfl⟩
 ·rintro x _ ⟨⟨hL,hI⟩,rfl⟩
  have hpx:p<x.H.length:=by rw [hL.hn]; omega
  have i0:=hI 0 _ (by decide) y0
  have i1:=hI 1 _ (by decide) y1
  have i2:=hI 2 _ (by decide) y2
  have i3:=hI 4 _ (by decide) y3
  have i5:=hI 5 _ (by decide) y5
  have hws:=ws hTl hL.ok
  obtain ⟨u,u1',u2',hE⟩:=hL.env
  obtain ⟨k4,n4,u4,t4,q4,l4,m4,hxa⟩:=exp_mk x.a
  have hE0:=hE
  rw [hxa] at hE0
  obtain ⟨c4,b4,hcs⟩:=Env.expC (ts:=[]) (ds:=[]) (cs:=x.cs) hE0 rfl
  have i6:=hL.var
  rw [hcs] at i6
  have hop:opT T [[42]] x.s=(isK T 7 x.s && decide ((tokA T x.s).t∈[[42]])):=rfl
  simp only [go_sem,simprocAttr,qyk hL.hn,qy0 hL.hn,ryk hL.hn,ry0 hL.hn,hL.hn,hL.hn]
  refine ⟨_,Hext.refl _,?_⟩
  simp only [go_sem,simprocAttr,qyk hL.hn,qy0 hL.hn,ryk hL.hn,ry0 hL.hn,hL.hn,hL.hn,i0]
  refine pcall_pure ((iIsK (most:=most) 7).chain hpx hL.ok) (Hext.refl _) ?_
  cases h7:isK T 7 x.s
  ·have hg:opT T [[42]] x.s=false:=by rw [hop,h7]; rfl
   have hx:=hL.stop hg
   rw [hx]
   have hz:∀ o,(x.A.set 2 o)[2]?=some o:=fun o=>set_get i2
   simp only [go_sem,simprocAttr,qyk hL.hn,qy0 hL.hn,ryk hL.hn,ry0 hL.hn,hL.hn,hL.hn,h7,i6,i2,hz]
   rw [hcs] at hE
   exact ⟨_,x.H,_,u,rfl,rfl,hL.kp,hE.q hL.hn hp fun i sz ver rs hi=>get_set hi (by rintro rfl; rw [i2] at hi; cases hi)⟩
  simp only [go_sem,simprocAttr,qyk hL.hn,qy0 hL.hn,ryk hL.hn,ry0 hL.hn,hL.hn,hL.hn,h7,i5,i0]
  refine pcall_pure ((iNow (most:=most)).chain hpx hL.ok) (Hext.refl _) ?_
  simp only [go_sem,simprocAttr,qyk hL.hn,qy0 hL.hn,ryk hL.hn,ry0 hL.hn,hL.hn,hL.hn,Tok.cells]
  refine acall_pure (containsC (L:=[[42]]) (by rw [qyk hL.hn]; exact i3) (by decide)) ?_
  cases hm0:decide ((tokA T x.s).t∈[[42]])
  ·have hg:opT T [[42]] x.s=false:=by rw [hop,h7,hm0]; rfl
   have hx:=hL.stop hg
   rw [hx]
   have hz:∀ o,(x.A.set 2 o)[2]?=some o:=fun o=>set_get i2
   simp only [go_sem,simprocAttr,qyk hL.hn,qy0 hL.hn,ryk hL.hn,ry0 hL.hn,hL.hn,hL.hn,hm0,i6,i2,hz]
   rw [hcs] at hE
   exact ⟨_,x.H,_,u,rfl,rfl,hL.kp,hE.q hL.hn hp fun i sz ver rs hi=>get_set hi (by rintro rfl; rw [i2] at hi; cases hi)⟩
  have hg:opT T [[42]] x.s=true:=by rw [hop,h7,hm0]; rfl
  have hk7:=(isK_k h7).2
  have hsa:=hL.ok.adv hT (show (tokA T x.s).k≠8 by omega)
  rcases hq2:side (adv x.s) with ⟨⟨k3,n3,u3,t3,q3,l3,m3⟩,s3⟩
  have hs3:=hsa.run sS
  have hgt:=(Stay.adv hT sS hL.ok.1 (show (tokA T x.s).k≠8 by omega)).1
  rw [hq2] at hs3 hgt
  have hm:(fun a=>nowP T fun t=>advP (bindP side fun b=>retP (node2 14 t.t t.p a b))) x.a x.s=(node2 14 (tokA T x.s).t (tokA T x.s).p x.a (.mk k3 n3 u3 t3 q3 l3 m3),s3):=by
   simp only [nowP_e,advP]
   rw [bindP_e,hq2]; rfl
  obtain ⟨H2,cs2,hn2,kp2,fr2,cl2,env2,_,call2⟩:=(hC p n (n+1)).use ExpD.wf hq2 hL.hn hp hb hsa hL.fr (hL.room1 oN hg hmo hm)
  obtain ⟨c2,b2,rfl⟩:=(env2 u _ _ x.A u1' (hE.q hL.hn hp fun _ _ _ _ h=>h)).expC hE.len
  simp only [go_sem,simprocAttr,qyk hL.hn,qy0 hL.hn,ryk hL.hn,ry0 hL.hn,hL.hn,hL.hn,hm0,i0]
  refine acall_pure (iNow x.H _ p x.s hpx hL.ok) ?_
  simp only [go_sem,simprocAttr,qyk hL.hn,qy0 hL.hn,ryk hL.hn,ry0 hL.hn,hL.hn,hL.hn,Tok.cells,i0,get_ext i0 _,qya hL.hn,qya0 hL.hn,qpI hpx,qq hpx,hws,pvI_adv]
  refine ⟨_,hxd hL.hn _ _ _,?_⟩
  simp only [go_sem,simprocAttr,qyk hL.hn,qy0 hL.hn,ryk hL.hn,ry0 hL.hn,hL.hn,hL.hn,i6,get_ext i6 _]
  refine pre_clo rfl ?_
  refine pcall_chain _ _ (chl hn2 hL.hn _ _ _) (hxd hn2 _ _ _) (chn call2 _ fun A'=>⟨hnp,hnp1,by rw [<- hL.hn,gx0]; exact get_ext (get_ext i0 _) _,by rw [<- hL.hn,gxk]; exact get_ext (get_ext i1 _) _⟩) ?_
  have hz:∀ B o,((x.A++B).set 6 o)[6]?=some o:=fun B o=>set_get (get_ext i6 B)
  simp only [go_sem,simprocAttr,qyk hn2,qy0 hn2,ryk hn2,ry0 hn2,hn2,hn2,qya hn2,qya0 hn2,Nat.add_zero,get_ext i6 _]
  exact ⟨⟨x.j - 1,s3,node2 14 (tokA T x.s).t (tokA T x.s).p x.a (.mk k3 n3 u3 t3 q3 l3 m3),[iV 14,sV (tokA T x.s).t,iV 0,sV [],iV (tokA T x.s).p,.gs (n+(x.A.length+1)) 0 0 2,.p .nl],H2,_,x.M - nC (ExpD.tv (.mk k3 n3 u3 t3 q3 l3 m3))⟩,
   ⟨⟨hL.next (s0:=adv x.s) hp hb oN hg hmo hm hs3 hgt hn2 kp2 fr2 rfl env2 (fun i o hi ho=>get_set (get_ext ho _) (by omega)) (hz _ _) (by rw [List.getElem?_set_ne (by have:=get_lt i6; omega),<- hcs,gxk]; rfl) (Nat.le_add_right _ _),fun i o hi ho=>get_set (get_ext (hI i o hi ho) _) (by omega)⟩,rfl⟩,by have h1:x.s.i<s3.i:=hgt; have:=hL.ok.1; simp only; omega⟩
theorem iRowC0 {d:Nat} {side:PM ExpD} (hC:PCl T most e d 168 side) (sS:StayM T side):PFo T most e 134 [iV 0,iV d] (bindP side (rowG T T.length [[43],[45],[94]] side)) ExpD.tv:=by
 have oN:Only T (opT T [[43],[45],[94]]):=only_opT _
 refine pfo_of fun p K b n s hn hp hb hs hF=>?_
 have hpK:p<K.length:=by omega
 refine call134 (by simp) ?_
 simp only [go_sem,simprocAttr,qyk hn,qy0 hn,ryk hn,ry0 hn,hn,hn,mc134,mr134]
 rcases hq:side s with ⟨⟨k1,n1,u1,t1,q1,l1,m1⟩,s1⟩
 have hs1:=hs.run sS
 rw [hq] at hs1
 have e0:bindP side (rowG T T.length [[43],[45],[94]] side) s=rowG T T.length [[43],[45],[94]] side (.mk k1 n1 u1 t1 q1 l1 m1) s1:=by rw [bindP_e,hq]
 rw [e0] at hF ⊢
 have hmo:∀ a s,nC a.tv<=nC ((fun a=>nowP T fun t=>advP (bindP side fun b=>retP (node2 14 t.t t.p a b))) a s).1.tv:=fun a s=>by
  show nC a.tv<=nC (node2 14 _ _ a _).tv
  rw [node2_nC]; omega
 unfold rowG at hF ⊢
 generalize hR:carry (opT T [[43],[45],[94]]) (fun a=>nowP T fun t=>advP (bindP side fun b=>retP (node2 14 t.t t.p a b))) T.length (.mk k1 n1 u1 t1 q1 l1 m1) s1=R at *
 have hge:nC (ExpD.tv (.mk k1 n1 u1 t1 q1 l1 m1))<=nC R.1.tv:=by rw [<- hR]; exact carry_mono hmo _ _ _
 have hnp:n≠p:=by omega
 have hnp1:n+1≠p:=by omega
 obtain ⟨H1,cs1,hn1,kp1,fr1,cl1,_,env1,call1⟩:=(hC p n (n+1)).use ExpD.wf hq hn hp hb hs hF hge
 refine acall_pure (call1 _ ⟨hnp,hnp1,by rw [<- hn,gx0]; rfl,by rw [<- hn,gxk]; rfl⟩) ?_
 have hE1:=fun A A'=>env1 [] [] A A' (Env.nil _ _ _)
 obtain ⟨c1,b1,rfl⟩:=(hE1 [] []).expC rfl
 simp only [go_sem,simprocAttr,qyk hn1,qy0 hn1,ryk hn1,ry0 hn1,hn1,hn1]
 generalize hA6:([.var [.ptr p 0],.var [iV d],.var [iV 0,sV [],iV 0,sV [],iV 0,.p .nl,.p .nl],.rows 1 0 ([[43],[45],[94]].map fun x=>[.p (.s x)]),.rows 1 0 ([[42]].map fun x=>[.p (.s x)]),.rows 1 0 [[.gs (n+3) 0 0 3],[.gs (n+4) 0 0 1]]]:List AO)=A6
 have y0:A6[0]?=some (.var [.ptr p 0]):=by subst hA6; rfl
 have y1:A6[1]?=some (.var [iV d]):=by subst hA6; rfl
 have y2:A6[2]?=some (.var [iV 0,sV [],iV 0,sV [],iV 0,.p .nl,.p .nl]):=by subst hA6; rfl
 have y3:A6[3]?=some (.rows 1 0 ([[43],[45],[94]].map fun x=>[.p (.s x)])):=by subst hA6; rfl
 have y5:A6[5]?=some (.rows 1 0 [[.gs (n+3) 0 0 3],[.gs (n+4) 0 0 1]]):=by subst hA6; rfl
 have y6:A6.length=6:=by subst hA6; rfl
 refine ⟨CG,[0,1,3,6,7,8,9],fun x st=>(LCo (pvI T most) T e b n p K 6 (opT T [[43],[45],[94]]) (fun a=>nowP T fun t=>advP (bindP side fun b=>retP (node2 14 t.t t.p a b))) R x/\∀ (i:Nat) o,i<6->A6[i]?=some o->x.A[i]?=some o)/\st=⟨[(0,.ptr p 0),(1,iV 0),(3,.ptr n 0),(6,.ptr (n+2) 0),(7,.gs (n+5) 0 0 2),(8,.clo 168 [.ptr n 0,.ptr (n+1) 0]),(9,.ptr (n+6) 0)],[],x.H.set p (pvI T most x.s)++x.A⟩,fun x=>T.length - x.s.i,
  ⟨⟨T.length,s1,.mk k1 n1 u1 t1 q1 l1 m1,[iV k1,sV n1,iV u1,sV t1,iV q1,c1,b1],H1,A6++[.var [iV k1,sV n1,iV u1,sV t1,iV q1,c1,b1]],nC R.1.tv - nC (ExpD.tv (.mk k1 n1 u1 t1 q1 l1 m1))⟩,?_⟩,?_⟩
 ·exact ⟨⟨LCo.start hs1 hR hn1 kp1 fr1 (by omega) (hE1 [] _) (by rw [show (6:Nat)=A6.length from y6.symm,gx0]; rfl),fun i o hi ho=>get_ext ho _⟩,by subst hA6; rfl⟩
 ·rintro x _ ⟨⟨hL,hI⟩,rfl⟩
  have hpx:p<x.H.length:=by rw [hL.hn]; omega
  have i0:=hI 0 _ (by decide) y0
  have i1:=hI 1 _ (by decide) y1
  have i2:=hI 2 _ (by decide) y2
  have i3:=hI 3 _ (by decide) y3
  have i5:=hI 5 _ (by decide) y5
  have hws:=ws hTl hL.ok
  obtain ⟨u,u1',u2',hE⟩:=hL.env
  obtain ⟨k4,n4,u4,t4,q4,l4,m4,hxa⟩:=exp_mk x.a
  have hE0:=hE
  rw [hxa] at hE0
  obtain ⟨c4,b4,hcs⟩:=Env.expC (ts:=[]) (ds:=[]) (cs:=x.cs) hE0 rfl
  have i6:=hL.var
  rw [hcs] at i6
  have hop:opT T [[43],[45],[94]] x.s=(isK T 7 x.s && decide ((tokA T x.s).t∈[[43],[45],[94]])):=rfl
  simp only [go_sem,simprocAttr,qyk hL.hn,qy0 hL.hn,ryk hL.hn,ry0 hL.hn,hL.hn,hL.hn]
  refine ⟨_,Hext.refl _,?_⟩
  simp only [go_sem,simprocAttr,qyk hL.hn,qy0 hL.hn,ryk hL.hn,ry0 hL.hn,hL.hn,hL.hn,i0]
  refine pcall_pure ((iIsK (most:=most) 7).chain hpx hL.ok) (Hext.refl _) ?_
  cases h7:isK T 7 x.s
  ·have hg:opT T [[43],[45],[94]] x.s=false:=by rw [hop,h7]; rfl
   have hx:=hL.stop hg
   rw [hx]
   have hz:∀ o,(x.A.set 2 o)[2]?=some o:=fun o=>set_get i2
   simp only [go_sem,simprocAttr,qyk hL.hn,qy0 hL.hn,ryk hL.hn,ry0 hL.hn,hL.hn,hL.hn,h7,i6,i2,hz]
   rw [hcs] at hE
   exact ⟨_,x.H,_,u,rfl,rfl,hL.kp,hE.q hL.hn hp fun i sz ver rs hi=>get_set hi (by rintro rfl; rw [i2] at hi; cases hi)⟩
  simp only [go_sem,simprocAttr,qyk hL.hn,qy0 hL.hn,ryk hL.hn,ry0 hL.hn,hL.hn,hL.hn,h7,i5,i0]
  refine pcall_pure ((iNow (most:=most)).chain hpx hL.ok) (Hext.refl _) ?_
  simp only [go_sem,simprocAttr,qyk hL.hn,qy0 hL.hn,ryk hL.hn,ry0 hL.hn,hL.hn,hL.hn,Tok.cells]
  refine acall_pure (containsC (L:=[[43],[45],[94]]) (by rw [qyk hL.hn]; exact i3) (by decide)) ?_
  cases hm0:decide ((tokA T x.s).t∈[[43],[45],[94]])
  ·have hg:opT T [[43],[45],[94]] x.s=false:=by rw [hop,h7,hm0]; rfl
   have hx:=hL.stop hg
   rw [hx]
   have hz:∀ o,(x.A.set 2 o)[2]?=some o:=fun o=>set_get i2
   simp only [go_sem,simprocAttr,qyk hL.hn,qy0 hL.hn,ryk hL.hn,ry0 hL.hn,hL.hn,hL.hn,hm0,i6,i2,hz]
   rw [hcs] at hE
   exact ⟨_,x.H,_,u,rfl,rfl,hL.kp,hE.q hL.hn hp fun i sz ver rs hi=>get_set hi (by rintro rfl; rw [i2] at hi; cases hi)⟩
  have hg:opT T [[43],[45],[94]] x.s=true:=by rw [hop,h7,hm0]; rfl
  have hk7:=(isK_k h7).2
  have hsa:=hL.ok.adv hT (show (tokA T x.s).k≠8 by omega)
  rcases hq2:side (adv x.s) with ⟨⟨k3,n3,u3,t3,q3,l3,m3⟩,s3⟩
  have hs3:=hsa.run sS
  have hgt:=(Stay.adv hT sS hL.ok.1 (show (tokA T x.s).k≠8 by omega)).1
  rw [hq2] at hs3 hgt
  have hm:(fun a=>nowP T fun t=>advP (bindP side fun b=>retP (node2 14 t.t t.p a b))) x.a x.s=(node2 14 (tokA T x.s).t (tokA T x.s).p x.a (.mk k3 n3 u3 t3 q3 l3 m3),s3):=by
   simp only [nowP_e,advP]
   rw [bindP_e,hq2]; rfl
  obtain ⟨H2,cs2,hn2,kp2,fr2,cl2,env2,_,call2⟩:=(hC p n (n+1)).use ExpD.wf hq2 hL.hn hp hb hsa hL.fr (hL.room1 oN hg hmo hm)
  obtain ⟨c2,b2,rfl⟩:=(env2 u _ _ x.A u1' (hE.q hL.hn hp fun _ _ _ _ h=>h)).expC hE.len
  simp only [go_sem,simprocAttr,qyk hL.hn,qy0 hL.hn,ryk hL.hn,ry0 hL.hn,hL.hn,hL.hn,hm0,i0]
  refine acall_pure (iNow x.H _ p x.s hpx hL.ok) ?_
  simp only [go_sem,simprocAttr,qyk hL.hn,qy0 hL.hn,ryk hL.hn,ry0 hL.hn,hL.hn,hL.hn,Tok.cells,i0,get_ext i0 _,qya hL.hn,qya0 hL.hn,qpI hpx,qq hpx,hws,pvI_adv]
  refine ⟨_,hxd hL.hn _ _ _,?_⟩
  simp only [go_sem,simprocAttr,qyk hL.hn,qy0 hL.hn,ryk hL.hn,ry0 hL.hn,hL.hn,hL.hn,i6,get_ext i6 _]
  refine pre_clo rfl ?_
  refine pcall_chain _ _ (chl hn2 hL.hn _ _ _) (hxd hn2 _ _ _) (chn call2 _ fun A'=>⟨hnp,hnp1,by rw [<- hL.hn,gx0]; exact get_ext (get_ext i0 _) _,by rw [<- hL.hn,gxk]; exact get_ext (get_ext i1 _) _⟩) ?_
  have hz:∀ B o,((x.A++B).set 6 o)[6]?=some o:=fun B o=>set_get (get_ext i6 B)
  simp only [go_sem,simprocAttr,qyk hn2,qy0 hn2,ryk hn2,ry0 hn2,hn2,hn2,qya hn2,qya0 hn2,Nat.add_zero,get_ext i6 _]
  exact ⟨⟨x.j - 1,s3,node2 14 (tokA T x.s).t (tokA T x.s).p x.a (.mk k3 n3 u3 t3 q3 l3 m3),[iV 14,sV (tokA T x.s).t,iV 0,sV [],iV (tokA T x.s).p,.gs (n+(x.A.length+1)) 0 0 2,.p .nl],H2,_,x.M - nC (ExpD.tv (.mk k3 n3 u3 t3 q3 l3 m3))⟩,
   ⟨⟨hL.next (s0:=adv x.s) hp hb oN hg hmo hm hs3 hgt hn2 kp2 fr2 rfl env2 (fun i o hi ho=>get_set (get_ext ho _) (by omega)) (hz _ _) (by rw [List.getElem?_set_ne (by have:=get_lt i6; omega),<- hcs,gxk]; rfl) (Nat.le_add_right _ _),fun i o hi ho=>get_set (get_ext (hI i o hi ho) _) (by omega)⟩,rfl⟩,by have h1:x.s.i<s3.i:=hgt; have:=hL.ok.1; simp only; omega⟩
end
section
variable {T:List Tok} {most e:Nat} (hT:ToksOk T) (hTl:T.length<=1073741825)
include hT hTl
theorem iOnceC1 {d:Nat} {side:PM ExpD} (hC:PCl T most e d 133 side) (sS:StayM T side):PFo T most e 90 [iV 1,iV d] (bindP side (onceG T (fun s=>isT T [61] s || isT T [60] s) side)) ExpD.tv:=by
 refine pfo_of fun p K b n s hn hp hb hs hF=>?_
 have hpK:p<K.length:=by omega
 refine call90 (by simp) ?_
 simp only [go_sem,simprocAttr,qyk hn,qy0 hn,ryk hn,ry0 hn,hn,hn,mc90,mr90]
 rcases hq:side s with ⟨⟨k1,n1,u1,t1,q1,l1,m1⟩,s1⟩
 have hs1:=hs.run sS
 rw [hq] at hs1
 simp only at hs1
 have e0:bindP side (onceG T (fun s=>isT T [61] s || isT T [60] s) side) s=onceG T (fun s=>isT T [61] s || isT T [60] s) side (.mk k1 n1 u1 t1 q1 l1 m1) s1:=by rw [bindP_e,hq]
 rw [e0] at hF ⊢
 have hge:nC (ExpD.tv (.mk k1 n1 u1 t1 q1 l1 m1))<=nC (onceG T (fun s=>isT T [61] s || isT T [60] s) side (.mk k1 n1 u1 t1 q1 l1 m1) s1).1.tv:=by
  unfold onceG iteG
  rw [nowP_e]
  split
  ·show _<=nC (node2 14 _ _ _ _).tv
   rw [node2_nC]; omega
  ·exact Nat.le_refl _
 have hnp:n≠p:=by omega
 have hnp1:n+1≠p:=by omega
 obtain ⟨H1,cs1,hn1,kp1,fr1,cl1,_,env1,call1⟩:=(hC p n (n+1)).use ExpD.wf hq hn hp hb hs hF hge
 refine acall_pure (call1 _ ⟨hnp,hnp1,by rw [<- hn,gx0]; rfl,by rw [<- hn,gxk]; rfl⟩) ?_
 have hE1:=fun A A'=>env1 [] [] A A' (Env.nil _ _ _)
 obtain ⟨c1,b1,rfl⟩:=(hE1 [] []).expC rfl
 have hp1:p<H1.length:=by omega
 simp only [go_sem,simprocAttr,qyk hn1,qy0 hn1,ryk hn1,ry0 hn1,hn1,hn1]
 refine acall_pure (iNow H1 _ p s1 hp1 hs1) ?_
 simp only [go_sem,simprocAttr,qyk hn1,qy0 hn1,ryk hn1,ry0 hn1,hn1,hn1,Tok.cells]
 intro _
 generalize hte:tokA T s1=t at *
 obtain ⟨tk,tt,tn,tp⟩:=t
 have hNj:∀ j,j<2->([[.p (.s [61])],[.p (.s [60])]]:List (List AV))[j]?=some [sV (([[61],[60]]:List (List UInt8)).getD j [])]:=fun j hj=>by
  match j,hj with
  | 0,_=>rfl
  | 1,_=>rfl
 refine ⟨Nat,[0,1,3,6,8,9,10,27,28,29],fun j st=>(j<=2/\∀ i,i<j->isT T (([[61],[60]]:List (List UInt8)).getD i []) s1=false)/\st=⟨[(0,.ptr p 0),(1,iV 1),(3,.ptr n 0),(6,.ptr (n+2) 0),(8,.clo 133 [.ptr n 0,.ptr (n+1) 0]),(9,.ptr (n+6) 0),(10,.ptr (n+7) 0),(27,.gs (n+4) 0 0 2),(28,iV 2),(29,iV (j:Nat))],[],
  H1.set p (pvI T most s1)++[.var [.ptr p 0],.var [iV d],.var [iV 0,sV [],iV 0,sV [],iV 0,.p .nl,.p .nl],.rows 1 0 ([[58,61]].map fun x=>[.p (.s x)]),.rows 1 0 ([[61],[60]].map fun x=>[.p (.s x)]),.rows 1 0 [[.gs (n+3) 0 0 1],[.gs (n+4) 0 0 2]],.var [iV k1,sV n1,iV u1,sV t1,iV q1,c1,b1],.var [iV tk,sV tt,iV tn,iV tp]]⟩,fun j=>2 - j,⟨0,?_⟩,?_⟩
 ·exact ⟨⟨Nat.zero_le _,fun i hi=>absurd hi (by omega)⟩,rfl⟩
 ·rintro j _ ⟨⟨hj,hno⟩,rfl⟩
  have hw1:wr .i64 ((j:Int)+1)=((j+1:Nat):Int):=wrN _ (by omega)
  by_cases hlt:j<2
  ·have d1:decide ((j:Int)<2)=true:=by simp; omega
   simp only [go_sem,simprocAttr,qyk hn1,qy0 hn1,ryk hn1,ry0 hn1,hn1,hn1,d1,hNj j hlt,Option.map_some]
   refine ⟨by omega,?_⟩
   generalize hw:([[61],[60]]:List (List UInt8)).getD j []=w at *
   refine acall_pure (iTake hTl w H1 _ p s1 hp1 hs1) ?_
   unfold takeM
   cases hg:isT T w s1
   ·simp only [go_sem,simprocAttr,qyk hn1,qy0 hn1,ryk hn1,ry0 hn1,hn1,hn1,hg,hw1]
    exact ⟨j+1,⟨⟨hlt,fun i hi=>by
     rcases Nat.lt_or_ge i j with h | h
     ·exact hno i h
     ·obtain rfl:i=j:=by omega
      rw [hw]; exact hg⟩,rfl⟩,by omega⟩
   ·have hpt:((fun s=>isT T [61] s || isT T [60] s)) s1=true:=by
     match j,hlt,hw with
     | 0,_,hw=>obtain rfl:[61]=w:=hw; simp [hg]
     | 1,_,hw=>obtain rfl:[60]=w:=hw; simp [hg]
    have hwt:tt=w:=by simp [isT,hte] at hg; exact hg.2
    subst hwt
    have hsa:=hs1.adv hT (isT_k hg).2
    rcases hq2:side (adv s1) with ⟨⟨k3,n3,u3,t3,q3,l3,m3⟩,s3⟩
    have e1:onceG T (fun s=>isT T [61] s || isT T [60] s) side (.mk k1 n1 u1 t1 q1 l1 m1) s1=(node2 14 tt tp (.mk k1 n1 u1 t1 q1 l1 m1) (.mk k3 n3 u3 t3 q3 l3 m3),s3):=by
     unfold onceG; rw [nowP_e,iteG_t hpt,bindP_e,hq2,hte]; rfl
    rw [e1] at fr1 ⊢
    simp only [node2_nC] at fr1
    obtain ⟨H2,cs2,hn2,kp2,fr2,cl2,_,env2,call2⟩:=(hC p n (n+1)).use ExpD.wf hq2 hn1 hp hb hsa fr1 (by omega)
    have hE2:=fun A'=>env2 _ _ [] A' (Env.base (hE1 [] []) hn1 hp)
    obtain ⟨c2,b2,rfl⟩:=(hE2 []).expC rfl
    simp only [go_sem,simprocAttr,qyk hn1,qy0 hn1,ryk hn1,ry0 hn1,hn1,hn1,hg]
    refine ⟨_,hxd hn1 _ _ _,?_⟩
    simp only [go_sem,simprocAttr,qyk hn1,qy0 hn1,ryk hn1,ry0 hn1,hn1,hn1]
    refine pre_clo rfl ?_
    refine pcall_chain _ _ (chl hn2 hn1 _ _ _) (hxd hn2 _ _ _) (chn call2 _ fun A'=>⟨hnp,hnp1,by rw [<- hn1,gx0]; rfl,by rw [<- hn1,gxk]; rfl⟩) ?_
    simp only [go_sem,simprocAttr,qyk hn2,qy0 hn2,ryk hn2,ry0 hn2,hn2,hn2,Nat.add_zero]
    exact ⟨_,H2,_,_,rfl,rfl,kp1.trans kp2,exp_node (Env.node (rows:=[ExpD.tv (.mk k1 n1 u1 t1 q1 l1 m1),ExpD.tv (.mk k3 n3 u3 t3 q3 l3 m3)]) (rs:=[[iV k1,sV n1,iV u1,sV t1,iV q1,c1,b1],[iV k3,sV n3,iV u3,sV t3,iV q3,c2,b2]]) (u:=n) (by simpa using hE2 _) (by rw [qyk hn2]; rfl) (by omega) (by omega) rfl (by intro r hr; simp at hr; rcases hr with rfl | rfl <;> exact ExpD.tv_len _) (by intro r hr; simp at hr; rcases hr with rfl | rfl <;> rfl) (by simp))⟩
  ·obtain rfl:j=2:=by omega
   have hpf:((fun s=>isT T [61] s || isT T [60] s)) s1=false:=by
    simp only [show isT T [61] s1=false from hno 0 (by omega),show isT T [60] s1=false from hno 1 (by omega)]; rfl
   have e1:onceG T (fun s=>isT T [61] s || isT T [60] s) side (.mk k1 n1 u1 t1 q1 l1 m1) s1=(.mk k1 n1 u1 t1 q1 l1 m1,s1):=by
    unfold onceG; rw [nowP_e,iteG_f hpf]; rfl
   rw [e1]
   simp only [go_sem,simprocAttr,qyk hn1,qy0 hn1,ryk hn1,ry0 hn1,hn1,hn1]
   exact ⟨_,H1,_,n,rfl,rfl,kp1,hE1 [] _⟩
theorem iOnceC0 {d:Nat} {side:PM ExpD} (hC:PCl T most e d 135 side) (sS:StayM T side):PFo T most e 90 [iV 0,iV d] (bindP side (onceG T (isT T [58,61]) side)) ExpD.tv:=by
 refine pfo_of fun p K b n s hn hp hb hs hF=>?_
 have hpK:p<K.length:=by omega
 refine call90 (by simp) ?_
 simp only [go_sem,simprocAttr,qyk hn,qy0 hn,ryk hn,ry0 hn,hn,hn,mc90,mr90]
 rcases hq:side s with ⟨⟨k1,n1,u1,t1,q1,l1,m1⟩,s1⟩
 have hs1:=hs.run sS
 rw [hq] at hs1
 simp only at hs1
 have e0:bindP side (onceG T (isT T [58,61]) side) s=onceG T (isT T [58,61]) side (.mk k1 n1 u1 t1 q1 l1 m1) s1:=by rw [bindP_e,hq]
 rw [e0] at hF ⊢
 have hge:nC (ExpD.tv (.mk k1 n1 u1 t1 q1 l1 m1))<=nC (onceG T (isT T [58,61]) side (.mk k1 n1 u1 t1 q1 l1 m1) s1).1.tv:=by
  unfold onceG iteG
  rw [nowP_e]
  split
  ·show _<=nC (node2 14 _ _ _ _).tv
   rw [node2_nC]; omega
  ·exact Nat.le_refl _
 have hnp:n≠p:=by omega
 have hnp1:n+1≠p:=by omega
 obtain ⟨H1,cs1,hn1,kp1,fr1,cl1,_,env1,call1⟩:=(hC p n (n+1)).use ExpD.wf hq hn hp hb hs hF hge
 refine acall_pure (call1 _ ⟨hnp,hnp1,by rw [<- hn,gx0]; rfl,by rw [<- hn,gxk]; rfl⟩) ?_
 have hE1:=fun A A'=>env1 [] [] A A' (Env.nil _ _ _)
 obtain ⟨c1,b1,rfl⟩:=(hE1 [] []).expC rfl
 have hp1:p<H1.length:=by omega
 simp only [go_sem,simprocAttr,qyk hn1,qy0 hn1,ryk hn1,ry0 hn1,hn1,hn1]
 refine acall_pure (iNow H1 _ p s1 hp1 hs1) ?_
 simp only [go_sem,simprocAttr,qyk hn1,qy0 hn1,ryk hn1,ry0 hn1,hn1,hn1,Tok.cells]
 intro _
 generalize hte:tokA T s1=t at *
 obtain ⟨tk,tt,tn,tp⟩:=t
 have hNj:∀ j,j<1->([[.p (.s [58,61])]]:List (List AV))[j]?=some [sV (([[58,61]]:List (List UInt8)).getD j [])]:=fun j hj=>by
  match j,hj with
  | 0,_=>rfl
 refine ⟨Nat,[0,1,3,6,8,9,10,27,28,29],fun j st=>(j<=1/\∀ i,i<j->isT T (([[58,61]]:List (List UInt8)).getD i []) s1=false)/\st=⟨[(0,.ptr p 0),(1,iV 0),(3,.ptr n 0),(6,.ptr (n+2) 0),(8,.clo 135 [.ptr n 0,.ptr (n+1) 0]),(9,.ptr (n+6) 0),(10,.ptr (n+7) 0),(27,.gs (n+3) 0 0 1),(28,iV 1),(29,iV (j:Nat))],[],
  H1.set p (pvI T most s1)++[.var [.ptr p 0],.var [iV d],.var [iV 0,sV [],iV 0,sV [],iV 0,.p .nl,.p .nl],.rows 1 0 ([[58,61]].map fun x=>[.p (.s x)]),.rows 1 0 ([[61],[60]].map fun x=>[.p (.s x)]),.rows 1 0 [[.gs (n+3) 0 0 1],[.gs (n+4) 0 0 2]],.var [iV k1,sV n1,iV u1,sV t1,iV q1,c1,b1],.var [iV tk,sV tt,iV tn,iV tp]]⟩,fun j=>1 - j,⟨0,?_⟩,?_⟩
 ·exact ⟨⟨Nat.zero_le _,fun i hi=>absurd hi (by omega)⟩,rfl⟩
 ·rintro j _ ⟨⟨hj,hno⟩,rfl⟩
  have hw1:wr .i64 ((j:Int)+1)=((j+1:Nat):Int):=wrN _ (by omega)
  by_cases hlt:j<1
  ·have d1:decide ((j:Int)<1)=true:=by simp; omega
   simp only [go_sem,simprocAttr,qyk hn1,qy0 hn1,ryk hn1,ry0 hn1,hn1,hn1,d1,hNj j hlt,Option.map_some]
   refine ⟨by omega,?_⟩
   generalize hw:([[58,61]]:List (List UInt8)).getD j []=w at *
   refine acall_pure (iTake hTl w H1 _ p s1 hp1 hs1) ?_
   unfold takeM
   cases hg:isT T w s1
   ·simp only [go_sem,simprocAttr,qyk hn1,qy0 hn1,ryk hn1,ry0 hn1,hn1,hn1,hg,hw1]
    exact ⟨j+1,⟨⟨hlt,fun i hi=>by
     rcases Nat.lt_or_ge i j with h | h
     ·exact hno i h
     ·obtain rfl:i=j:=by omega
      rw [hw]; exact hg⟩,rfl⟩,by omega⟩
   ·have hpt:((isT T [58,61])) s1=true:=by
     match j,hlt,hw with
     | 0,_,hw=>obtain rfl:[58,61]=w:=hw; exact hg
    have hwt:tt=w:=by simp [isT,hte] at hg; exact hg.2
    subst hwt
    have hsa:=hs1.adv hT (isT_k hg).2
    rcases hq2:side (adv s1) with ⟨⟨k3,n3,u3,t3,q3,l3,m3⟩,s3⟩
    have e1:onceG T (isT T [58,61]) side (.mk k1 n1 u1 t1 q1 l1 m1) s1=(node2 14 tt tp (.mk k1 n1 u1 t1 q1 l1 m1) (.mk k3 n3 u3 t3 q3 l3 m3),s3):=by
     unfold onceG; rw [nowP_e,iteG_t hpt,bindP_e,hq2,hte]; rfl
    rw [e1] at fr1 ⊢
    simp only [node2_nC] at fr1
    obtain ⟨H2,cs2,hn2,kp2,fr2,cl2,_,env2,call2⟩:=(hC p n (n+1)).use ExpD.wf hq2 hn1 hp hb hsa fr1 (by omega)
    have hE2:=fun A'=>env2 _ _ [] A' (Env.base (hE1 [] []) hn1 hp)
    obtain ⟨c2,b2,rfl⟩:=(hE2 []).expC rfl
    simp only [go_sem,simprocAttr,qyk hn1,qy0 hn1,ryk hn1,ry0 hn1,hn1,hn1,hg]
    refine ⟨_,hxd hn1 _ _ _,?_⟩
    simp only [go_sem,simprocAttr,qyk hn1,qy0 hn1,ryk hn1,ry0 hn1,hn1,hn1]
    refine pre_clo rfl ?_
    refine pcall_chain _ _ (chl hn2 hn1 _ _ _) (hxd hn2 _ _ _) (chn call2 _ fun A'=>⟨hnp,hnp1,by rw [<- hn1,gx0]; rfl,by rw [<- hn1,gxk]; rfl⟩) ?_
    simp only [go_sem,simprocAttr,qyk hn2,qy0 hn2,ryk hn2,ry0 hn2,hn2,hn2,Nat.add_zero]
    exact ⟨_,H2,_,_,rfl,rfl,kp1.trans kp2,exp_node (Env.node (rows:=[ExpD.tv (.mk k1 n1 u1 t1 q1 l1 m1),ExpD.tv (.mk k3 n3 u3 t3 q3 l3 m3)]) (rs:=[[iV k1,sV n1,iV u1,sV t1,iV q1,c1,b1],[iV k3,sV n3,iV u3,sV t3,iV q3,c2,b2]]) (u:=n) (by simpa using hE2 _) (by rw [qyk hn2]; rfl) (by omega) (by omega) rfl (by intro r hr; simp at hr; rcases hr with rfl | rfl <;> exact ExpD.tv_len _) (by intro r hr; simp at hr; rcases hr with rfl | rfl <;> rfl) (by simp))⟩
  ·obtain rfl:j=1:=by omega
   have hpf:((isT T [58,61])) s1=false:=by
    exact hno 0 (by omega)
   have e1:onceG T (isT T [58,61]) side (.mk k1 n1 u1 t1 q1 l1 m1) s1=(.mk k1 n1 u1 t1 q1 l1 m1,s1):=by
    unfold onceG; rw [nowP_e,iteG_f hpf]; rfl
   rw [e1]
   simp only [go_sem,simprocAttr,qyk hn1,qy0 hn1,ryk hn1,ry0 hn1,hn1,hn1]
   exact ⟨_,H1,_,n,rfl,rfl,kp1,hE1 [] _⟩
end
section
variable {T:List Tok} {most e:Nat} (hT:ToksOk T) (hTl:T.length<=1073741825)
include hT hTl
theorem iOnceK {d:Nat} (hd:d<=1099511627776) {ex:PM ExpD} (hP:PFo T most e 30 [iV (d+1:Nat)] ex ExpD.tv) (sP:StayM T ex):PFo T most e 90 [iV 0,iV d] (iOnce0 T T.length ex) ExpD.tv:=by
 have h1:=clo_row1 (iAppC hT hTl hd hP sP)
 have h2:=clo_row2 (iRowC1 hT hTl h1 (Pg.stay_iApp hT sP))
 have h3:=clo_once1 (iRowC0 hT hTl h2 (Pg.stay_iRow1 hT sP))
 have h4:=clo_once2 (iOnceC1 hT hTl h3 (Pg.stay_iRow0 hT sP))
 exact iOnceC0 hT hTl h4 (Pg.stay_iOnce1 hT sP)
end
theorem gxs0 (A:List AO) (i:Nat) (o:AO) (B:List AO):(A.set i o++B)[A.length]?=B[0]?:=by
 have:=gx0 (A.set i o) B
 rwa [List.length_set] at this
theorem app_o {J:St->Prop} {L T':En} {d:MD} {bytes n p sz:Nat} {N:List Nat} {c0 c:AO} {H H1 A B:List AO} {a:AV} {rs:List (List AV)} {y:List AV} (hn:H.length=n) (hn1:H1.length=n) (hown:OwnR (H.set p c0++A) a sz rs) (hids:∀ id v o m,a=.gs id v o m->n<=id/\id - n ∉ N) (hnm:∀ k∈N,k<A.length) (hl:rs.length<=1073741826) (hB:∀ (k:Nat) (o:AO),A[k]?=some o->B[k]?=some o) (hby:bytes<=1000)
  (k:∀ id ver A',(H1.set p c++A')[id]?=some (.rows sz ver (rs++[y]))->(n<=id/\id - n ∉ N)->(∀ k:Nat,k∈N->A'[k]?=A[k]?)->J (St.put ⟨L,T',H1.set p c++A'⟩ d (.gs id ver 0 (rs.length+1)))) :
  appX sz bytes a [y] d J ⟨L,T',H1.set p c++B⟩:=by
 have hlB:∀ k∈N,k<B.length:=fun k hk=>by
  have hk2:=hnm k hk
  exact get_lt (hB k A[k] (by simp [hk2]))
 have hids':∀ id v o m,a=.gs id v o m->H1.length<=id/\id - H1.length ∉ N:=by rw [hn1]; exact hids
 have hown':OwnR (H1.set p c++B) a sz rs:=by
  rcases hown with h1 | ⟨id,ver,e1,h1⟩
  ·exact .inl h1
  ·obtain ⟨q1,q2⟩:=hids _ _ _ _ e1
   obtain ⟨q,rfl⟩:=Nat.le.dest q1
   rw [qyk hn] at h1
   exact .inr ⟨_,ver,e1,by rw [qyk hn1]; exact hB _ _ h1⟩
 refine app_q (rs:=rs) (ys:=[y]) hown' hlB hids' (by simp; exact Nat.le_trans (Nat.mul_le_mul (show rs.length+1<=1073741827 by omega) hby) (by decide)) (by simp; omega) ?_
 intro id ver A' k1 k2 k3
 rw [hn1] at k2
 refine k id ver A' k1 k2 (fun j hj=>?_)
 rw [k3 j hj]
 have hjl:=hnm j hj
 rw [hB j A[j] (by simp [hjl])]; simp [hjl]
structure LA (pv:PS->AO) (T:List Tok) (e b n p:Nat) (K:List AO) (N:List Nat) (ts0:List TV) (ds0:List AV) (arm:PM ArmD) (Rl:List ArmD) (Rs:PS) (x:LG ArmD):Prop where
 ok:Ok T e x.s
 ln:x.acc.length<=x.s.i
 fu:T.length - x.s.i<=x.j
 c0:x.s.c=0
 rl:x.acc++((arm x.s).1 :: (many (isT T [124]) (advP arm) x.j (arm x.s).2).1)=Rl
 re:(many (isT T [124]) (advP arm) x.j (arm x.s).2).2=Rs
 hn:x.H.length=n
 kp:Kp b K x.H
 fr:∃ M,Fr b x.H M/\nC (arm x.s).1.tv+nR ((many (isT T [124]) (advP arm) x.j (arm x.s).2).1.map ArmD.tv)<=M
 env:Env b n (x.H.set p (pv x.s)++x.A) (ts0++(x.acc.map ArmD.tv).flatten) (ds0++x.rs.flatten)
 len:x.rs.length=x.acc.length
 sz1:∀ r∈x.rs,r.length=12
 own:OwnR (x.H.set p (pv x.s)++x.A) x.a 12 x.rs
 ids:∀ id v o m,x.a=.gs id v o m->n<=id/\id - n ∉ N
 nm:∀ k∈N,k<x.A.length
section
variable {pv:PS->AO} {T:List Tok} {e b n p:Nat} {K:List AO} {N:List Nat} {ts0:List TV} {ds0:List AV} {arm:PM ArmD} {Rl:List ArmD} {Rs:PS}
theorem LA.start {H A:List AO} {s:PS} {M:Nat} (hs:Ok T e s) (h0:s.c=0) (h:armsP T T.length arm s=(Rl,Rs)) (hn:H.length=n) (hk:Kp b K H) (hF:Fr b H M) (hM:nR (Rl.map ArmD.tv)<=M) (hE:Env b n (H.set p (pv s)++A) ts0 ds0) (hb:∀ k∈N,k<A.length):LA pv T e b n p K N ts0 ds0 arm Rl Rs ⟨T.length,s,[],[],.p .nl,H,A⟩:=by
 have h1:(arm s).1 :: (many (isT T [124]) (advP arm) T.length (arm s).2).1=Rl:=by have:=congrArg Prod.fst h; exact this
 have h2:(many (isT T [124]) (advP arm) T.length (arm s).2).2=Rs:=by have:=congrArg Prod.snd h; exact this
 refine ⟨hs,Nat.zero_le _,by simp only; omega,h0,h1,h2,hn,hk,⟨M,hF,?_⟩,by simpa using hE,rfl,by simp,.inl ⟨rfl,rfl⟩,(fun _ _ _ _ e=>by cases e),hb⟩
 rw [<- h1] at hM
 simpa [nR] using hM
theorem LA.stop {x:LG ArmD} (h:LA pv T e b n p K N ts0 ds0 arm Rl Rs x) {y:ArmD} {s2:PS} (hm:arm x.s=(y,s2)) (hg:isT T [124] s2=false):x.acc++[y]=Rl/\s2=Rs:=by
 have h1:=h.rl; have h2:=h.re
 rw [hm] at h1 h2
 rw [many_c hg] at h1 h2
 exact ⟨h1,h2⟩
theorem LA.room {x:LG ArmD} (h:LA pv T e b n p K N ts0 ds0 arm Rl Rs x) {y:ArmD} {s2:PS} (hm:arm x.s=(y,s2)):∃ M,Fr b x.H M/\nC y.tv+nR ((many (isT T [124]) (advP arm) x.j s2).1.map ArmD.tv)<=M:=by
 obtain ⟨M,h1,h2⟩:=h.fr
 rw [hm] at h2
 exact ⟨M,h1,h2⟩
theorem LA.own1 {x:LG ArmD} (h:LA pv T e b n p K N ts0 ds0 arm Rl Rs x) {s2:PS} {H1 A' A'':List AO} {id ver:Nat} {cs:List AV} (hn1:H1.length=n) (k1:(H1.set p (pv s2)++A')[id]?=some (.rows 12 ver (x.rs++[cs]))) (k2:n<=id/\id - n ∉ N) (k3:∀ (k:Nat) (o:AO),k ∉ N->A'[k]?=some o->A''[k]?=some o) (c:AO):(H1.set p c++A'')[id]?=some (.rows 12 ver (x.rs++[cs])):=by
 obtain ⟨q,hq⟩:=Nat.le.dest k2.1
 subst hq
 rw [qyk hn1] at k1 ⊢
 exact k3 _ _ (by have:=k2.2; rwa [Nat.add_sub_cancel_left] at this) k1
theorem LA.next (hT:ToksOk T) {x:LG ArmD} (h:LA pv T e b n p K N ts0 ds0 arm Rl Rs x) {y:ArmD} {s2:PS} (hm:arm x.s=(y,s2)) (hs2:Ok T e s2) (hge:x.s.i<=s2.i) (hg:isT T [124] s2=true) {H1 A' A'':List AO} {M id ver:Nat} {cs:List AV} (hn1:H1.length=n) (kp1:Kp b x.H H1) (fr1:Fr b H1 M) (hM:nR ((many (isT T [124]) (advP arm) x.j s2).1.map ArmD.tv)<=M)
  (env1:Env b n (H1.set p (pv (adv s2))++A'') (ts0++(x.acc.map ArmD.tv).flatten++y.tv) (ds0++x.rs.flatten++cs)) (hcs:cs.length=12)
  (k1:(H1.set p (pv s2)++A')[id]?=some (.rows 12 ver (x.rs++[cs]))) (k2:n<=id/\id - n ∉ N) (k3:∀ (k:Nat) (o:AO),k ∉ N->A'[k]?=some o->A''[k]?=some o) (k4:∀ k∈N,k<A''.length) :
  LA pv T e b n p K N ts0 ds0 arm Rl Rs ⟨x.j - 1,adv s2,x.acc++[y],x.rs++[cs],.gs id ver 0 (x.rs.length+1),H1,A''⟩:=by
 have hk:=isT_k hg
 have hfu:=h.fu
 have hix:=h.ok.1
 obtain ⟨j',hj⟩:∃ j',x.j=j'+1:=⟨x.j - 1,by omega⟩
 have h1:=h.rl; have h2:=h.re
 rw [hm] at h1 h2
 simp only [hj,many,if_pos hg] at h1 h2 hM
 have e1:∀ s,advP arm s=arm (adv s):=fun _=>rfl
 simp only [e1] at h1 h2 hM
 have hln:=h.ln
 refine ⟨hs2.adv hT hk.2,by simp [adv]; omega,by simp [adv]; omega,hk.1,by simp only [hj,Nat.add_sub_cancel]; simpa using h1,by simp only [hj,Nat.add_sub_cancel]; exact h2,hn1,h.kp.trans kp1,⟨M,fr1,by simp only [hj,Nat.add_sub_cancel]; simpa [nR] using hM⟩,by simpa using env1,by simp [h.len],?_,.inr ⟨id,ver,by simp,h.own1 hn1 k1 k2 k3 _⟩,(fun id' v o m' e=>by cases e; exact k2),k4⟩
 intro r hr
 rcases List.mem_append.1 hr with hr | hr
 ·exact h.sz1 r hr
 ·simp at hr; rw [hr]; exact hcs
end
theorem exp_nodeA {b u:Nat} {X:List AO} {k:Int} {nm:List UInt8} {un:Int} {t:List UInt8} {q:Int} {l:List ExpD} {as':List ArmD} {a a':AV} (h:Env b u X [.s 7 (l.map ExpD.tv),.s 12 (as'.map ArmD.tv)] [a,a']):Env b u X (ExpD.tv (.mk k nm un t q l as')) [iV k,sV nm,iV un,sV t,iV q,a,a']:=by
 rw [ExpD.tv,ExpD.tvL_eq,ExpD.tvA_eq]
 exact ((((h.pc _).pc _).pc _).pc _).pc _
theorem rows2 {b u n q:Nat} {X:List AO} {x y:ExpD} {c1 c2:List AV} {ver:Nat} (h:Env b u X (x.tv++y.tv) (c1++c2)) (l1:c1.length=7) (l2:c2.length=7) (hi:X[n+q]?=some (.rows 7 ver [c1,c2])) (hu:u<=n) (hb:b<=n):Env b (n+q+1) X [.s 7 ([x,y].map ExpD.tv)] [.gs (n+q) ver 0 2] :=
 Env.node (rows:=[x.tv,y.tv]) (rs:=[c1,c2]) (by simpa using h) hi (by omega) (by omega) rfl (by intro r hr; simp at hr; rcases hr with rfl | rfl <;> exact ExpD.tv_len _) (by intro r hr; simp at hr; rcases hr with rfl | rfl <;> assumption) (by simp)
theorem rows3 {b u n q:Nat} {X:List AO} {x y z:ExpD} {c1 c2 c3:List AV} {ver:Nat} (h:Env b u X (x.tv++y.tv++z.tv) (c1++c2++c3)) (l1:c1.length=7) (l2:c2.length=7) (l3:c3.length=7) (hi:X[n+q]?=some (.rows 7 ver [c1,c2,c3])) (hu:u<=n) (hb:b<=n):Env b (n+q+1) X [.s 7 ([x,y,z].map ExpD.tv)] [.gs (n+q) ver 0 3] :=
 Env.node (rows:=[x.tv,y.tv,z.tv]) (rs:=[c1,c2,c3]) (by simpa [List.append_assoc] using h) hi (by omega) (by omega) rfl (by intro r hr; simp at hr; rcases hr with rfl | rfl | rfl <;> exact ExpD.tv_len _) (by intro r hr; simp at hr; rcases hr with rfl | rfl | rfl <;> assumption) (by simp)
section
variable {T:List Tok} {most e:Nat} (hT:ToksOk T) (hTl:T.length<=1073741825)
include hT hTl
theorem iExpC {d:Nat} (hd:d<=1099511627776) {pat:PM PatD} {ex:PM ExpD} (hPat:d<=most->PFo T most e 89 [iV (d+1:Nat)] pat PatD.tv) (sPat:StayM T pat) (hP:d<=most->PFo T most e 30 [iV (d+1:Nat)] ex ExpD.tv) (sP:StayM T ex):PFo T most e 30 [iV d] (iExpB T T.length most pat ex d) ExpD.tv:=by
 refine pfo_of fun p K b n s hn hp hb hs hF=>?_
 have hpK:p<K.length:=by omega
 have hnp:n≠p:=by omega
 have hnp1:n+1≠p:=by omega
 have hd1:wr .i64 ((d:Int)+1)=((d+1:Nat):Int):=wrN _ (by omega)
 refine call30 (by simp) ?_
 simp only [go_sem,simprocAttr,qyk hn,qy0 hn,ryk hn,ry0 hn,hn,hn,mc30,mr30]
 refine acall_pure (iDeeper d K _ p s hpK hs) ?_
 have hs1:=deep_ok (most:=most) (d:=d) hT hTl hs
 unfold iExpB deepP at hF ⊢
 cases hc:decide ((deeperP T most d s).c=0)
 ·rw [if_neg (of_decide_eq_false hc)]
  simp only [go_sem,simprocAttr,qyk hn,qy0 hn,ryk hn,ry0 hn,hn,hn,hc,Bool.not_false,Bool.not_true]
  exact ⟨_,K,_,0,rfl,rfl,Kp.rfl,exp_leaf _ _ _ _ _ _ _ _⟩
 have hc0:=of_decide_eq_true hc
 have hO:=iOnceK hT hTl hd (hP (deep_le hT hTl hc0)) sP
 have hC:=clo_expr1 hd (hP (deep_le hT hTl hc0))
 have hPat:=hPat (deep_le hT hTl hc0)
 rw [if_pos hc0] at hF ⊢
 simp only [go_sem,simprocAttr,qyk hn,qy0 hn,ryk hn,ry0 hn,hn,hn,hc,Bool.not_false,Bool.not_true]
 generalize deeperP T most d s=s1 at *
 refine acall_pure (iNow K _ p s1 hpK hs1) ?_
 simp only [go_sem,simprocAttr,qyk hn,qy0 hn,ryk hn,ry0 hn,hn,hn,Tok.cells]
 rw [nowP_e] at hF ⊢
 generalize hte:tokA T s1=t at *
 obtain ⟨tk,tt,tn,tp⟩:=t
 simp only at hF ⊢
 refine acall_pure (iTake hTl [108,101,116] K _ p s1 hpK hs1) ?_
 unfold takeM
 cases c1:isT T [108,101,116] s1
 rotate_left
 ·rw [iteG_t c1] at hF ⊢
  have hsa:=hs1.adv hT (isT_k c1).2
  simp only [go_sem,simprocAttr,qyk hn,qy0 hn,ryk hn,ry0 hn,hn,hn,c1]
  refine acall_pure (iTake hTl [114,101,99] K _ p _ hpK hsa) ?_
  unfold letP at hF ⊢
  unfold takeM
  cases c2:isT T [114,101,99] (adv s1)
  ·rw [iteG_f c2] at hF ⊢
   have hsb:=hsa
   simp only [go_sem,simprocAttr,qyk hn,qy0 hn,ryk hn,ry0 hn,hn,hn,c2]
   refine acall_pure (iWord hTl 3 K _ p _ hpK hsb) ?_
   have hs2:=hsb.run (StayM.word hT (k:=3) (by decide))
   rcases hq2:wordP T 3 (adv s1) with ⟨w1,s2⟩
   rw [hq2] at hs2
   simp only at hs2
   simp only [go_sem,simprocAttr,qyk hn,qy0 hn,ryk hn,ry0 hn,hn,hn]
   refine acall_pure (iWant hT hTl [[61]] (by decide) hpK hs2 (by omega) (fun c=>by rw [qyk hn]; rfl)) ?_
   have hs4w:=hs2.step (stay_want hT [61])
   simp only [go_sem,simprocAttr,qyk hn,qy0 hn,ryk hn,ry0 hn,hn,hn,wants1]
   rcases hq5:ex (wantP T [61] s2) with ⟨⟨k5,n5,u5,t5,q5,l5,m5⟩,s5⟩
   have hs5:=hs4w.run sP
   rw [hq5] at hs5
   simp only at hs5
   rcases hq6:ex (wantP T [105,110] s5) with ⟨⟨k6,n6,u6,t6,q6,l6,m6⟩,s6⟩
   have hs5w:=hs5.step (stay_want hT [105,110])
   simp only [bindP_e,stepP_e,retP_e,hq2,hq5,hq6] at hF ⊢
   have hNN:nC (ExpD.tv (.mk 10 w1 0 [] tp [.mk k5 n5 u5 t5 q5 l5 m5,.mk k6 n6 u6 t6 q6 l6 m6] []))=1+(nC (ExpD.tv (.mk k5 n5 u5 t5 q5 l5 m5))+nC (ExpD.tv (.mk k6 n6 u6 t6 q6 l6 m6))):=by rw [exp_nC]; simp [nK,nR]
   rw [hNN] at hF
   obtain ⟨H5,cs5,hn5,kp5,fr5,cl5,_,env5,call5⟩:=(hC p n (n+1)).use ExpD.wf hq5 hn hp hb hs4w hF (by omega)
   have hE5:=fun A'=>env5 [] [] [] A' (Env.nil _ _ _)
   obtain ⟨c5,b5,rfl⟩:=(hE5 []).expC rfl
   refine ⟨_,hxd hn _ _ _,?_⟩
   simp only [go_sem,simprocAttr,qyk hn,qy0 hn,ryk hn,ry0 hn,hn,hn]
   refine pre_clo rfl ?_
   refine pcall_chain _ _ (chl hn5 hn _ _ _) (hxd hn5 _ _ _) (chn call5 _ fun A'=>⟨hnp,hnp1,by rw [<- hn,gx0]; rfl,by rw [<- hn,gxk]; rfl⟩) ?_
   simp only [go_sem,simprocAttr,qyk hn5,qy0 hn5,ryk hn5,ry0 hn5,hn5,hn5,Nat.add_zero,Nat.add_assoc]
   have hpH5:p<H5.length:=by omega
   refine ⟨by intro r hr; simp at hr; subst hr; rfl,?_⟩
   refine acall_pure (iWant hT hTl [[105,110]] (by decide) hpH5 hs5 (by omega) (fun c=>by rw [qyk hn5]; rfl)) ?_
   simp only [go_sem,simprocAttr,qyk hn5,qy0 hn5,ryk hn5,ry0 hn5,hn5,hn5,wants1]
   obtain ⟨H6,cs6,hn6,kp6,fr6,cl6,_,env6,call6⟩:=(hC p n (n+1)).use ExpD.wf hq6 hn5 hp hb hs5w fr5 (by omega)
   have hE6:=fun A'=>env6 _ _ [] A' (Env.base (hE5 []) hn5 hp)
   obtain ⟨c6,b6,rfl⟩:=(hE6 []).expC rfl
   refine ⟨_,hxd hn5 _ _ _,?_⟩
   simp only [go_sem,simprocAttr,qyk hn5,qy0 hn5,ryk hn5,ry0 hn5,hn5,hn5]
   refine pre_clo rfl ?_
   refine pcall_chain _ _ (chl hn6 hn5 _ _ _) (hxd hn6 _ _ _) (chn call6 _ fun A'=>⟨hnp,hnp1,by rw [<- hn5,gx0]; rfl,by rw [<- hn5,gxk]; rfl⟩) ?_
   simp only [go_sem,simprocAttr,qyk hn6,qy0 hn6,ryk hn6,ry0 hn6,hn6,hn6,Nat.add_zero,Nat.add_assoc]
   have hpH6:p<H6.length:=by omega
   refine ⟨by intro r hr; simp at hr; subst hr; rfl,?_⟩
   exact ⟨_,H6,_,_,rfl,rfl,kp5.trans kp6,exp_node (rows2 (u:=n) (hE6 _) rfl rfl (by rw [qyk hn6]; rfl) (Nat.le_refl _) hb)⟩
  ·rw [iteG_t c2] at hF ⊢
   have hsb:=hsa.adv hT (isT_k c2).2
   simp only [go_sem,simprocAttr,qyk hn,qy0 hn,ryk hn,ry0 hn,hn,hn,c2]
   refine acall_pure (iWord hTl 3 K _ p _ hpK hsb) ?_
   have hs2:=hsb.run (StayM.word hT (k:=3) (by decide))
   rcases hq2:wordP T 3 (adv (adv s1)) with ⟨w1,s2⟩
   rw [hq2] at hs2
   simp only at hs2
   simp only [go_sem,simprocAttr,qyk hn,qy0 hn,ryk hn,ry0 hn,hn,hn]
   refine acall_pure (iWord hTl 3 K _ p _ hpK hs2) ?_
   have hs3:=hs2.run (StayM.word hT (k:=3) (by decide))
   rcases hq3:wordP T 3 s2 with ⟨w2,s3⟩
   rw [hq3] at hs3
   simp only at hs3
   simp only [go_sem,simprocAttr,qyk hn,qy0 hn,ryk hn,ry0 hn,hn,hn]
   refine acall_pure (iWant hT hTl [[61]] (by decide) hpK hs3 (by omega) (fun c=>by rw [qyk hn]; rfl)) ?_
   have hs4w:=hs3.step (stay_want hT [61])
   simp only [go_sem,simprocAttr,qyk hn,qy0 hn,ryk hn,ry0 hn,hn,hn,wants1]
   rcases hq5:ex (wantP T [61] s3) with ⟨⟨k5,n5,u5,t5,q5,l5,m5⟩,s5⟩
   have hs5:=hs4w.run sP
   rw [hq5] at hs5
   simp only at hs5
   rcases hq6:ex (wantP T [105,110] s5) with ⟨⟨k6,n6,u6,t6,q6,l6,m6⟩,s6⟩
   have hs5w:=hs5.step (stay_want hT [105,110])
   simp only [bindP_e,stepP_e,retP_e,hq2,hq3,hq5,hq6] at hF ⊢
   have hNN:nC (ExpD.tv (.mk 11 w1 0 w2 tp [.mk k5 n5 u5 t5 q5 l5 m5,.mk k6 n6 u6 t6 q6 l6 m6] []))=1+(nC (ExpD.tv (.mk k5 n5 u5 t5 q5 l5 m5))+nC (ExpD.tv (.mk k6 n6 u6 t6 q6 l6 m6))):=by rw [exp_nC]; simp [nK,nR]
   rw [hNN] at hF
   obtain ⟨H5,cs5,hn5,kp5,fr5,cl5,_,env5,call5⟩:=(hC p n (n+1)).use ExpD.wf hq5 hn hp hb hs4w hF (by omega)
   have hE5:=fun A'=>env5 [] [] [] A' (Env.nil _ _ _)
   obtain ⟨c5,b5,rfl⟩:=(hE5 []).expC rfl
   refine ⟨_,hxd hn _ _ _,?_⟩
   simp only [go_sem,simprocAttr,qyk hn,qy0 hn,ryk hn,ry0 hn,hn,hn]
   refine pre_clo rfl ?_
   refine pcall_chain _ _ (chl hn5 hn _ _ _) (hxd hn5 _ _ _) (chn call5 _ fun A'=>⟨hnp,hnp1,by rw [<- hn,gx0]; rfl,by rw [<- hn,gxk]; rfl⟩) ?_
   simp only [go_sem,simprocAttr,qyk hn5,qy0 hn5,ryk hn5,ry0 hn5,hn5,hn5,Nat.add_zero,Nat.add_assoc]
   have hpH5:p<H5.length:=by omega
   refine ⟨by intro r hr; simp at hr; subst hr; rfl,?_⟩
   refine acall_pure (iWant hT hTl [[105,110]] (by decide) hpH5 hs5 (by omega) (fun c=>by rw [qyk hn5]; rfl)) ?_
   simp only [go_sem,simprocAttr,qyk hn5,qy0 hn5,ryk hn5,ry0 hn5,hn5,hn5,wants1]
   obtain ⟨H6,cs6,hn6,kp6,fr6,cl6,_,env6,call6⟩:=(hC p n (n+1)).use ExpD.wf hq6 hn5 hp hb hs5w fr5 (by omega)
   have hE6:=fun A'=>env6 _ _ [] A' (Env.base (hE5 []) hn5 hp)
   obtain ⟨c6,b6,rfl⟩:=(hE6 []).expC rfl
   refine ⟨_,hxd hn5 _ _ _,?_⟩
   simp only [go_sem,simprocAttr,qyk hn5,qy0 hn5,ryk hn5,ry0 hn5,hn5,hn5]
   refine pre_clo rfl ?_
   refine pcall_chain _ _ (chl hn6 hn5 _ _ _) (hxd hn6 _ _ _) (chn call6 _ fun A'=>⟨hnp,hnp1,by rw [<- hn5,gx0]; rfl,by rw [<- hn5,gxk]; rfl⟩) ?_
   simp only [go_sem,simprocAttr,qyk hn6,qy0 hn6,ryk hn6,ry0 hn6,hn6,hn6,Nat.add_zero,Nat.add_assoc]
   have hpH6:p<H6.length:=by omega
   refine ⟨by intro r hr; simp at hr; subst hr; rfl,?_⟩
   exact ⟨_,H6,_,_,rfl,rfl,kp5.trans kp6,exp_node (rows2 (u:=n) (hE6 _) rfl rfl (by rw [qyk hn6]; rfl) (Nat.le_refl _) hb)⟩
 rw [iteG_f c1] at hF ⊢
 simp only [go_sem,simprocAttr,qyk hn,qy0 hn,ryk hn,ry0 hn,hn,hn,c1]
 refine acall_pure (iTake hTl [102,117,110] K _ p s1 hpK hs1) ?_
 unfold takeM
 cases c2:isT T [102,117,110] s1
 rotate_left
 ·rw [iteG_t c2] at hF ⊢
  have hsa:=hs1.adv hT (isT_k c2).2
  unfold funP at hF ⊢
  simp only [go_sem,simprocAttr,qyk hn,qy0 hn,ryk hn,ry0 hn,hn,hn,c2]
  refine ⟨_,hxd hn _ _ _,?_⟩
  simp only [go_sem,simprocAttr,qyk hn,qy0 hn,ryk hn,ry0 hn,hn,hn]
  refine pcall_chain _ _ (by simp) (hxd hn _ _ _) ((iWord hTl 3).chain hpK hsa) ?_
  have hs2:=hsa.run (StayM.word hT (k:=3) (by decide))
  rcases hq2:wordP T 3 (adv s1) with ⟨w1,s2⟩
  rw [hq2] at hs2
  simp only at hs2
  simp only [go_sem,simprocAttr,qyk hn,qy0 hn,ryk hn,ry0 hn,hn,hn,Nat.add_zero,Nat.add_assoc]
  refine acall_pure (iWant hT hTl [[45,62]] (by decide) hpK hs2 (by omega) (fun c=>by rw [qyk hn]; rfl)) ?_
  have hs3w:=hs2.step (stay_want hT [45,62])
  simp only [go_sem,simprocAttr,qyk hn,qy0 hn,ryk hn,ry0 hn,hn,hn,wants1]
  rcases hq4:ex (wantP T [45,62] s2) with ⟨⟨k4,n4,u4,t4,q4,l4,m4⟩,s4⟩
  simp only [bindP_e,stepP_e,retP_e,hq2,hq4,node1] at hF ⊢
  have hNN:nC (ExpD.tv (.mk 8 w1 0 [] tp [.mk k4 n4 u4 t4 q4 l4 m4] []))=1+nC (ExpD.tv (.mk k4 n4 u4 t4 q4 l4 m4)):=by rw [exp_nC]; simp [nK,nR]
  rw [hNN] at hF
  obtain ⟨H4,cs4,hn4,kp4,fr4,cl4,_,env4,call4⟩:=(hC p n (n+1)).use ExpD.wf hq4 hn hp hb hs3w hF (by omega)
  have hE4:=fun A'=>env4 [] [] [] A' (Env.nil _ _ _)
  obtain ⟨c4,b4,rfl⟩:=(hE4 []).expC rfl
  refine acall_pure (call4 _ ⟨hnp,hnp1,by rw [<- hn,gx0]; rfl,by rw [<- hn,gxk]; rfl⟩) ?_
  simp only [go_sem,simprocAttr,qyk hn4,qy0 hn4,ryk hn4,ry0 hn4,hn4,hn4,Nat.add_zero,Nat.add_assoc]
  have hpH4:p<H4.length:=by omega
  exact ⟨_,H4,_,_,rfl,rfl,kp4,exp_node ((hE4 _).node1 (by rw [qyk hn4]; rfl) (by omega) (by omega) (ExpD.tv_len _))⟩
 rw [iteG_f c2] at hF ⊢
 simp only [go_sem,simprocAttr,qyk hn,qy0 hn,ryk hn,ry0 hn,hn,hn,c2]
 refine acall_pure (iTake hTl [105,102] K _ p s1 hpK hs1) ?_
 unfold takeM
 cases c3:isT T [105,102] s1
 rotate_left
 ·rw [iteG_t c3] at hF ⊢
  have hsa:=hs1.adv hT (isT_k c3).2
  unfold ifP at hF ⊢
  simp only [go_sem,simprocAttr,qyk hn,qy0 hn,ryk hn,ry0 hn,hn,hn,c3]
  rcases hq2:ex (adv s1) with ⟨⟨k2,n2,u2,t2,q2,l2,m2⟩,s2⟩
  have hs2:=hsa.run sP
  rw [hq2] at hs2
  simp only at hs2
  have hs2w:=hs2.step (stay_want hT [116,104,101,110])
  rcases hq4:ex (wantP T [116,104,101,110] s2) with ⟨⟨k4,n4,u4,t4,q4,l4,m4⟩,s4⟩
  have hs4:=hs2w.run sP
  rw [hq4] at hs4
  simp only at hs4
  have hs4w:=hs4.step (stay_want hT [101,108,115,101])
  rcases hq6:ex (wantP T [101,108,115,101] s4) with ⟨⟨k6,n6,u6,t6,q6,l6,m6⟩,s6⟩
  simp only [bindP_e,stepP_e,retP_e,hq2,hq4,hq6] at hF ⊢
  have hNN:nC (ExpD.tv (.mk 12 [] 0 [] tp [.mk k2 n2 u2 t2 q2 l2 m2,.mk k4 n4 u4 t4 q4 l4 m4,.mk k6 n6 u6 t6 q6 l6 m6] []))=1+(nC (ExpD.tv (.mk k2 n2 u2 t2 q2 l2 m2))+(nC (ExpD.tv (.mk k4 n4 u4 t4 q4 l4 m4))+nC (ExpD.tv (.mk k6 n6 u6 t6 q6 l6 m6)))):=by rw [exp_nC]; simp [nK,nR]
  rw [hNN] at hF
  obtain ⟨H2,cs2,hn2,kp2,fr2,cl2,_,env2,call2⟩:=(hC p n (n+1)).use ExpD.wf hq2 hn hp hb hsa hF (by omega)
  have hE2:=fun A'=>env2 [] [] [] A' (Env.nil _ _ _)
  obtain ⟨c2,b2,rfl⟩:=(hE2 []).expC rfl
  refine ⟨_,hxd hn _ _ _,?_⟩
  simp only [go_sem,simprocAttr,qyk hn,qy0 hn,ryk hn,ry0 hn,hn,hn]
  refine pre_clo rfl ?_
  refine pcall_chain _ _ (chl hn2 hn _ _ _) (hxd hn2 _ _ _) (chn call2 _ fun A'=>⟨hnp,hnp1,by rw [<- hn,gx0]; rfl,by rw [<- hn,gxk]; rfl⟩) ?_
  simp only [go_sem,simprocAttr,qyk hn2,qy0 hn2,ryk hn2,ry0 hn2,hn2,hn2,Nat.add_zero,Nat.add_assoc]
  have hpH2:p<H2.length:=by omega
  refine acall_pure (iWant hT hTl [[116,104,101,110]] (by decide) hpH2 hs2 (by omega) (fun c=>by rw [qyk hn2]; rfl)) ?_
  simp only [go_sem,simprocAttr,qyk hn2,qy0 hn2,ryk hn2,ry0 hn2,hn2,hn2,wants1]
  obtain ⟨H4,cs4,hn4,kp4,fr4,cl4,_,env4,call4⟩:=(hC p n (n+1)).use ExpD.wf hq4 hn2 hp hb hs2w fr2 (by omega)
  have hE4:=fun A'=>env4 _ _ [] A' (Env.base (hE2 []) hn2 hp)
  obtain ⟨c4,b4,rfl⟩:=(hE4 []).expC rfl
  refine ⟨_,hxd hn2 _ _ _,?_⟩
  simp only [go_sem,simprocAttr,qyk hn2,qy0 hn2,ryk hn2,ry0 hn2,hn2,hn2]
  refine pre_clo rfl ?_
  refine pcall_chain _ _ (chl hn4 hn2 _ _ _) (hxd hn4 _ _ _) (chn call4 _ fun A'=>⟨hnp,hnp1,by rw [<- hn2,gx0]; rfl,by rw [<- hn2,gxk]; rfl⟩) ?_
  simp only [go_sem,simprocAttr,qyk hn4,qy0 hn4,ryk hn4,ry0 hn4,hn4,hn4,Nat.add_zero,Nat.add_assoc]
  have hpH4:p<H4.length:=by omega
  refine ⟨by intro r hr; simp at hr; subst hr; rfl,?_⟩
  refine acall_pure (iWant hT hTl [[101,108,115,101]] (by decide) hpH4 hs4 (by omega) (fun c=>by rw [qyk hn4]; rfl)) ?_
  simp only [go_sem,simprocAttr,qyk hn4,qy0 hn4,ryk hn4,ry0 hn4,hn4,hn4,wants1]
  obtain ⟨H6,cs6,hn6,kp6,fr6,cl6,_,env6,call6⟩:=(hC p n (n+1)).use ExpD.wf hq6 hn4 hp hb hs4w fr4 (by omega)
  have hE6:=fun A'=>env6 _ _ [] A' (Env.base (hE4 []) hn4 hp)
  obtain ⟨c6,b6,rfl⟩:=(hE6 []).expC rfl
  refine ⟨_,hxd hn4 _ _ _,?_⟩
  simp only [go_sem,simprocAttr,qyk hn4,qy0 hn4,ryk hn4,ry0 hn4,hn4,hn4]
  refine pre_clo rfl ?_
  refine pcall_chain _ _ (chl hn6 hn4 _ _ _) (hxd hn6 _ _ _) (chn call6 _ fun A'=>⟨hnp,hnp1,by rw [<- hn4,gx0]; rfl,by rw [<- hn4,gxk]; rfl⟩) ?_
  simp only [go_sem,simprocAttr,qyk hn6,qy0 hn6,ryk hn6,ry0 hn6,hn6,hn6,Nat.add_zero,Nat.add_assoc]
  have hpH6:p<H6.length:=by omega
  refine ⟨by intro r hr; simp at hr; subst hr; rfl,?_⟩
  exact ⟨_,H6,_,_,rfl,rfl,(kp2.trans kp4).trans kp6,exp_node (rows3 (u:=n) (hE6 _) rfl rfl rfl (by rw [qyk hn6]; rfl) (Nat.le_refl _) hb)⟩
 rw [iteG_f c3] at hF ⊢
 simp only [go_sem,simprocAttr,qyk hn,qy0 hn,ryk hn,ry0 hn,hn,hn,c3]
 refine acall_pure (iTake hTl [109,97,116,99,104] K _ p s1 hpK hs1) ?_
 unfold takeM
 cases c4:isT T [109,97,116,99,104] s1
 ·rw [iteG_f c4] at hF ⊢
  simp only [go_sem,simprocAttr,qyk hn,qy0 hn,ryk hn,ry0 hn,hn,hn,c4]
  rcases hq:iOnce0 T T.length ex s1 with ⟨⟨k1,n1,u1,t1,q1,l1,m1⟩,s2⟩
  rw [hq] at hF
  obtain ⟨H1,cs1,hn1,kp1,fr1,cl1,_,env1,call1⟩:=(hO p).use ExpD.wf hq hn hp hb hs1 hF (Nat.le_refl _)
  refine acall_pure (call1 _ trivial) ?_
  have hE1:=fun A A'=>env1 [] [] A A' (Env.nil _ _ _)
  obtain ⟨c1,b1,rfl⟩:=(hE1 [] []).expC rfl
  simp only [go_sem,simprocAttr,qyk hn1,qy0 hn1,ryk hn1,ry0 hn1,hn1,hn1]
  exact ⟨_,H1,_,n,rfl,rfl,kp1,hE1 [] _⟩
 ·rw [iteG_t c4] at hF ⊢
  have hsa:=hs1.adv hT (isT_k c4).2
  unfold iMatch at hF ⊢
  simp only [go_sem,simprocAttr,qyk hn,qy0 hn,ryk hn,ry0 hn,hn,hn,c4]
  have sArm:=Pg.stay_armP hT sPat sP
  rcases hq2:ex (adv s1) with ⟨⟨k2,n2,u2,t2,q2,l2,m2⟩,s2⟩
  have hs2:=hsa.run sP
  rw [hq2] at hs2
  simp only at hs2
  have hs4:=(hs2.step (stay_want hT [119,105,116,104])).step (stay_want hT [124])
  simp only [bindP_e,stepP_e,retP_e,hq2] at hF ⊢
  generalize hs4e:wantP T [124] (wantP T [119,105,116,104] s2)=s4 at *
  have hge:nC (ExpD.tv (.mk k2 n2 u2 t2 q2 l2 m2))<=nC (ExpD.tv (.mk 13 [] 0 [] tp [.mk k2 n2 u2 t2 q2 l2 m2] (iteB (fun s=>decide (s.c=0)) (armsP T T.length (armP T pat ex)) (retP []) s4).1)):=by rw [exp_nC 13,List.map_cons,nK]; omega
  obtain ⟨H1,cs1,hn1,kp1,fr1,cl1,_,env1,call1⟩:=(hC p n (n+1)).use ExpD.wf hq2 hn hp hb hsa hF hge
  have hE1:=fun A'=>env1 [] [] [] A' (Env.nil _ _ _)
  obtain ⟨c1,b1,rfl⟩:=(hE1 []).expC rfl
  refine ⟨_,hxd hn _ _ _,?_⟩
  simp only [go_sem,simprocAttr,qyk hn,qy0 hn,ryk hn,ry0 hn,hn,hn]
  refine pre_clo rfl ?_
  refine pcall_chain _ _ (chl hn1 hn _ _ _) (hxd hn1 _ _ _) (chn call1 _ fun A'=>⟨hnp,hnp1,by rw [<- hn,gx0]; rfl,by rw [<- hn,gxk]; rfl⟩) ?_
  have hp1:p<H1.length:=by omega
  simp only [go_sem,simprocAttr,qyk hn1,qy0 hn1,ryk hn1,ry0 hn1,hn1,hn1,Nat.add_zero,Nat.add_assoc]
  refine acall_pure (iWant hT hTl [[119,105,116,104],[124]] (by decide) hp1 hs2 (by omega) (fun c=>by rw [qyk hn1]; rfl)) ?_
  simp only [go_sem,simprocAttr,qyk hn1,qy0 hn1,ryk hn1,ry0 hn1,hn1,hn1,wants2,hs4e]
  by_cases hc4:s4.c=0
  ·rw [iteB_t (by simp [hc4])] at fr1 ⊢
   rcases hR:armsP T T.length (armP T pat ex) s4 with ⟨Rl,Rs⟩
   have hRl:Rl≠[]:=by have:=congrArg Prod.fst hR; rintro rfl; cases this
   rw [hR] at fr1
   have hNN:nC (ExpD.tv (.mk 13 [] 0 [] tp [.mk k2 n2 u2 t2 q2 l2 m2] Rl)) - nC (ExpD.tv (.mk k2 n2 u2 t2 q2 l2 m2))=1+nK (Rl.map ArmD.tv):=by rw [exp_nC 13,List.map_cons,nK]; simp [nR]; omega
   rw [hNN] at fr1
   generalize hA5:([.var [.ptr p 0],.var [iV d],.var [iV 0,sV [],iV 0,sV [],iV 0,.p .nl,.p .nl],.var [iV tk,sV tt,iV tn,iV tp],.rows 7 0 [[iV k2,sV n2,iV u2,sV t2,iV q2,c1,b1]]]:List AO)=A5
   have y0:A5[0]?=some (.var [.ptr p 0]):=by subst hA5; rfl
   have y1:A5[1]?=some (.var [iV d]):=by subst hA5; rfl
   have y2:A5[2]?=some (.var [iV 0,sV [],iV 0,sV [],iV 0,.p .nl,.p .nl]):=by subst hA5; rfl
   have y4:A5[4]?=some (.rows 7 0 [[iV k2,sV n2,iV u2,sV t2,iV q2,c1,b1]]):=by subst hA5; rfl
   have y5:A5.length=5:=by subst hA5; rfl
   refine ⟨LG ArmD,[2,3,4,6,10],fun x st=>(LA (pvI T most) T e b n p K [0,1,2,3,4,5] (ExpD.tv (.mk k2 n2 u2 t2 q2 l2 m2)) [iV k2,sV n2,iV u2,sV t2,iV q2,c1,b1] (armP T pat ex) Rl Rs x/\(∀ (i:Nat) o,i<5->A5[i]?=some o->x.A[i]?=some o)/\x.A[5]?=some (.var [iV 13,sV [],iV 0,sV [],iV tp,.gs (n+4) 0 0 1,x.a]))/\st=⟨[(2,.ptr n 0),(3,.ptr (n+1) 0),(4,.ptr (n+2) 0),(6,.clo 85 [.ptr n 0,.ptr (n+1) 0]),(10,.ptr (n+5) 0)],[],x.H.set p (pvI T most x.s)++x.A⟩,fun x=>T.length - x.s.i,
    ⟨⟨T.length,s4,[],[],.p .nl,H1,A5++[.var [iV 13,sV [],iV 0,sV [],iV tp,.gs (n+4) 0 0 1,.p .nl],.rows 1 0 [[sV [119,105,116,104]],[sV [124]]]]⟩,?_⟩,?_⟩
   ·exact ⟨⟨LA.start hs4 hc4 hR hn1 kp1 fr1 (by have:=nK_le (Rl.map ArmD.tv); omega) (Env.base (hE1 []) hn1 hp) (by intro k hk; simp at hk ⊢; omega),fun i o hi ho=>get_ext ho _,by rw [show (5:Nat)=A5.length from y5.symm,gx0]; rfl⟩,by subst hA5; rfl⟩
   ·rintro x _ ⟨⟨hL,hI,i5⟩,rfl⟩
    have hpx:p<x.H.length:=by rw [hL.hn]; omega
    have i0:=hI 0 _ (by decide) y0
    have i1:=hI 1 _ (by decide) y1
    have i2:=hI 2 _ (by decide) y2
    have i4:=hI 4 _ (by decide) y4
    simp only [go_sem,simprocAttr,qyk hL.hn,qy0 hL.hn,ryk hL.hn,ry0 hL.hn,hL.hn,hL.hn,i0]
    refine acall_pure (iFailed x.H _ p x.s hpx hL.ok) ?_
    simp only [go_sem,simprocAttr,qyk hL.hn,qy0 hL.hn,ryk hL.hn,ry0 hL.hn,hL.hn,hL.hn,i0,i1,hd1,dT hL.c0,Bool.not_true,Bool.not_false]
    rcases hq7:pat x.s with ⟨⟨k7,n7,u7,q7,l7⟩,s7⟩
    have hs7:=hL.ok.run sPat
    rw [hq7] at hs7
    simp only at hs7
    have hs7w:=hs7.step (stay_want hT [45,62])
    rcases hq8:ex (wantP T [45,62] s7) with ⟨⟨k8,n8,u8,t8,q8,l8,m8⟩,s8⟩
    have hs8:=hs7w.run sP
    rw [hq8] at hs8
    simp only at hs8
    have hm:armP T pat ex x.s=(.mk (.mk k7 n7 u7 q7 l7) (.mk k8 n8 u8 t8 q8 l8 m8),s8):=by unfold armP; rw [bindP_e,hq7,stepP_e,bindP_e,hq8]; rfl
    have hge8:x.s.i<=s8.i:=by have:=(sArm x.s hL.ok.1).1; rw [hm] at this; exact this
    obtain ⟨M,frM,hM⟩:=hL.room hm
    have hnA:nC (ArmD.tv (.mk (.mk k7 n7 u7 q7 l7) (.mk k8 n8 u8 t8 q8 l8 m8)))=nC (PatD.tv (.mk k7 n7 u7 q7 l7))+nC (ExpD.tv (.mk k8 n8 u8 t8 q8 l8 m8)):=by rw [ArmD.tv,nC_app]
    rw [hnA] at hM
    obtain ⟨H7,cs7,hn7,kp7,fr7,cl7,_,env7,call7⟩:=(hPat p).use PatD.wf hq7 hL.hn hp hb hL.ok frM (by omega)
    have hE7:=fun A'=>env7 _ _ x.A A' hL.env
    obtain ⟨c7,rfl⟩:=(hE7 []).patC hL.env.len
    refine acall_pure (call7 _ trivial) ?_
    have hp7:p<H7.length:=by omega
    simp only [go_sem,simprocAttr,qyk hn7,qy0 hn7,ryk hn7,ry0 hn7,hn7,hn7,gx0,gxk,sx0,sxk,Nat.add_zero,get_ext i0 _]
    refine acall_pure (iWant hT hTl [[45,62]] (by decide) hp7 hs7 (by omega) (fun c=>by rw [qyk hn7,gxk]; rfl)) ?_
    simp only [go_sem,simprocAttr,qyk hn7,qy0 hn7,ryk hn7,ry0 hn7,hn7,hn7,wants1]
    obtain ⟨H8,cs8,hn8,kp8,fr8,cl8,_,env8,call8⟩:=(hC p n (n+1)).use ExpD.wf hq8 hn7 hp hb hs7w fr7 (by omega)
    have hE8:=fun A'=>env8 _ _ [] A' (Env.base (hE7 []) hn7 hp)
    obtain ⟨c8,b8,rfl⟩:=(hE8 []).expC (hE7 []).len
    refine acall_pure (call8 _ ⟨hnp,hnp1,by rw [<- hn7,gx0]; exact get_ext i0 _,by rw [<- hn7,gxk]; exact get_ext i1 _⟩) ?_
    have hp8:p<H8.length:=by omega
    simp only [go_sem,simprocAttr,qyk hn8,qy0 hn8,ryk hn8,ry0 hn8,hn8,hn8,gx0,gxk,sx0,sxk,Nat.add_zero,get_ext i5 _]
    refine ⟨by intro r hr; simp at hr; subst hr; rfl,?_⟩
    refine app_o hL.hn hn8 hL.own hL.ids hL.nm (by rw [hL.len]; have:=hL.ln; have:=hL.ok.1; omega) (fun k o h=>get_ext h _) (by decide) ?_
    intro id ver A' w1 w2 w3
    have j0:=(w3 0 (by decide)).trans i0
    have j2:=(w3 2 (by decide)).trans i2
    have j4:=(w3 4 (by decide)).trans i4
    have j5:=(w3 5 (by decide)).trans i5
    have hz:∀ o,(A'.set 5 o)[5]?=some o:=fun o=>set_get j5
    have hz0:∀ o,(A'.set 5 o)[0]?=some (.var [.ptr p 0]):=fun o=>get_set j0 (by decide)
    simp only [go_sem,simprocAttr,qyk hn8,qy0 hn8,ryk hn8,ry0 hn8,hn8,hn8,j5,hz0]
    have hz2:∀ o,(A'.set 5 o)[2]?=some (.var [iV 0,sV [],iV 0,sV [],iV 0,.p .nl,.p .nl]):=fun o=>get_set j2 (by decide)
    have hz4:∀ o,(A'.set 5 o)[4]?=some (.rows 7 0 [[iV k2,sV n2,iV u2,sV t2,iV q2,c1,b1]]):=fun o=>get_set j4 (by decide)
    refine acall_pure (iTake hTl [124] H8 _ p s8 hp8 hs8) ?_
    unfold takeM
    cases hg:isT T [124] s8
    ·obtain ⟨ha,hx⟩:=hL.stop hm hg
     subst hx
     simp only [go_sem,simprocAttr,qyk hn8,qy0 hn8,ryk hn8,ry0 hn8,hn8,hn8,hg,hz0,Bool.not_true,Bool.not_false]
     refine acall_pure (iWant hT hTl [[101,110,100]] (by decide) hp8 hs8 (by omega) (fun c=>by rw [qyk hn8,gxs0]; rfl)) ?_
     have hg5:∀ o B,((A'.set 5 o)++B)[5]?=some o:=fun o B=>get_ext (hz o) B
     have hg2:∀ o B,((A'.set 5 o)++B)[2]?=some (.var [iV 0,sV [],iV 0,sV [],iV 0,.p .nl,.p .nl]):=fun o B=>get_ext (hz2 o) B
     have hgs:∀ o B o',(((A'.set 5 o)++B).set 2 o')[2]?=some o':=fun o B o'=>set_get (hg2 o B)
     simp only [go_sem,simprocAttr,qyk hn8,qy0 hn8,ryk hn8,ry0 hn8,hn8,hn8,wants1,hg5,hg2,hgs]
     have hidn:id≠n+4:=by
      have h1:=w2.1
      rintro rfl
      have h2:=w2.2
      rw [Nat.add_sub_cancel_left] at h2
      exact h2 (by decide)
     have hEE:∀ A',Env b n (H8.set p (pvI T most (wantP T [101,110,100] s8))++A') ([ExpD.tv (.mk k2 n2 u2 t2 q2 l2 m2)].flatten++(Rl.map ArmD.tv).flatten) ([[iV k2,sV n2,iV u2,sV t2,iV q2,c1,b1]].flatten++(x.rs++[[iV k7,sV n7,iV u7,iV q7,c7,iV k8,sV n8,iV u8,sV t8,iV q8,c8,b8]]).flatten):=fun A'=>by
      have:=Env.base (A':=A') (c':=pvI T most (wantP T [101,110,100] s8)) (hE8 []) hn8 hp
      rw [<- ha]
      simpa [ArmD.tv,List.append_assoc] using this
     have hfin:=Env.node2 (id1:=n+4) (id2:=id) (sz1:=7) (sz2:=12) (v1:=0) (v2:=ver) (hEE (((A'.set 5 (.var [iV 13,sV [],iV 0,sV [],iV tp,.gs (n+4) 0 0 1,.gs id ver 0 (x.rs.length+1)]))++[AO.rows 1 0 [[sV [101,110,100]]]]).set 2 (.var [iV 13,sV [],iV 0,sV [],iV tp,.gs (n+4) 0 0 1,.gs id ver 0 (x.rs.length+1)])))
      (by rw [qyk hn8,List.getElem?_set_ne (by decide)]; exact get_ext (hz4 _) _)
      (hL.own1 hn8 w1 w2 (fun k o hk ho=>by
       simp at hk
       rw [List.getElem?_set_ne (by omega)]
       exact get_ext (get_set ho (by omega)) _) _) (by omega) w2.1 hb (Ne.symm hidn) rfl (by intro r hr; simp at hr; subst hr; exact ExpD.tv_len _) (by intro r hr; simp at hr; subst hr; rfl) (by simp)
      (by rw [<- ha]; simp [hL.len]) (by intro r hr; obtain ⟨a,_,rfl⟩:=List.mem_map.1 hr; exact ArmD.tv_len a) (by intro r hr; rcases List.mem_append.1 hr with hr | hr; exact hL.sz1 r hr; simp at hr; subst hr; rfl) (by rw [<- ha]; simp)
     have e9:(x.rs++[[iV k7,sV n7,iV u7,iV q7,c7,iV k8,sV n8,iV u8,sV t8,iV q8,c8,b8]]).length=x.rs.length+1:=by simp
     rw [e9] at hfin
     exact ⟨_,H8,_,_,rfl,rfl,(hL.kp.trans kp7).trans kp8,exp_nodeA (l:=[.mk k2 n2 u2 t2 q2 l2 m2]) hfin⟩
    ·simp only [go_sem,simprocAttr,qyk hn8,qy0 hn8,ryk hn8,ry0 hn8,hn8,hn8,hg,Bool.not_true,Bool.not_false]
     exact ⟨⟨x.j - 1,adv s8,x.acc++[.mk (.mk k7 n7 u7 q7 l7) (.mk k8 n8 u8 t8 q8 l8 m8)],x.rs++[[iV k7,sV n7,iV u7,iV q7,c7,iV k8,sV n8,iV u8,sV t8,iV q8,c8,b8]],.gs id ver 0 (x.rs.length+1),H8,A'.set 5 (.var [iV 13,sV [],iV 0,sV [],iV tp,.gs (n+4) 0 0 1,.gs id ver 0 (x.rs.length+1)])⟩,
      ⟨⟨hL.next hT hm hs8 hge8 hg hn8 (kp7.trans kp8) fr8 (by omega) (by
       have:=Env.base (A':=A'.set 5 (.var [iV 13,sV [],iV 0,sV [],iV tp,.gs (n+4) 0 0 1,.gs id ver 0 (x.rs.length+1)])) (c':=pvI T most (adv s8)) (hE8 []) hn8 hp
       simpa [ArmD.tv,List.append_assoc] using this) rfl w1 w2 (set_keep (by decide)) (fun k hk=>by
        have h1:=hL.nm k hk
        rw [List.length_set]
        exact get_lt ((w3 k hk).trans (List.getElem?_eq_getElem h1))),fun i o hi ho=>get_set ((w3 i (by simp; omega)).trans (hI i o hi ho)) (by omega),hz _⟩,rfl⟩,by have h1:=isT_k hg; have h2:=hs8.1; have h3:=hL.ok.1; show T.length - (s8.i+1)<T.length - x.s.i; omega⟩
  ·rw [iteB_f (by simp [hc4])] at fr1 ⊢
   refine ⟨Unit,[2,4,10],fun _ st=>st=⟨[(2,.ptr n 0),(4,.ptr (n+2) 0),(10,.ptr (n+5) 0)],[],H1.set p (pvI T most s4)++[.var [.ptr p 0],.var [iV d],.var [iV 0,sV [],iV 0,sV [],iV 0,.p .nl,.p .nl],.var [iV tk,sV tt,iV tn,iV tp],.rows 7 0 [[iV k2,sV n2,iV u2,sV t2,iV q2,c1,b1]],.var [iV 13,sV [],iV 0,sV [],iV tp,.gs (n+4) 0 0 1,.p .nl],.rows 1 0 [[sV [119,105,116,104]],[sV [124]]]]⟩,fun _=>0,⟨(),?_⟩,?_⟩
   ·simp only [go_sem,simprocAttr,qyk hn1,qy0 hn1,ryk hn1,ry0 hn1,hn1,hn1]
   ·rintro _ _ rfl
    simp only [go_sem,simprocAttr,qyk hn1,qy0 hn1,ryk hn1,ry0 hn1,hn1,hn1]
    refine acall_pure (iFailed H1 _ p s4 hp1 hs4) ?_
    simp only [go_sem,simprocAttr,qyk hn1,qy0 hn1,ryk hn1,ry0 hn1,hn1,hn1,dF hc4,Bool.not_true,Bool.not_false]
    refine acall_pure (iWant hT hTl [[101,110,100]] (by decide) hp1 hs4 (by omega) (fun c=>by rw [qyk hn1]; rfl)) ?_
    simp only [go_sem,simprocAttr,qyk hn1,qy0 hn1,ryk hn1,ry0 hn1,hn1,hn1,wants1]
    exact ⟨_,H1,_,_,rfl,rfl,kp1,exp_node ((Env.base (hE1 []) hn1 hp).node1 (by rw [qyk hn1]; rfl) (by omega) (by omega) (ExpD.tv_len _))⟩
theorem iExpK:∀ k d,d+k=most+2->most<=1099511627774->0<k->PFo T most e 30 [iV d] (iExp T T.length most k d) ExpD.tv
 | 0,d,_,_,h=>absurd h (by omega)
 | k+1,d,h,hm,_=>iExpC hT hTl (by omega) (fun hle=>iPatK hT hTl k (d+1) (by omega) hm (by omega)) (stay_iPat hT most k (d+1)) (fun hle=>iExpK k (d+1) (by omega) hm (by omega)) (stay_iExp hT most k (d+1))
end
theorem tokD_ne {s:List UInt8} {i:Nat} {c:UInt8} {k:Int} (ht:tokD s i c=.inr k):k≠0:=by
 unfold tokD at ht
 split at ht
 ·simp only [numD] at ht
  split at ht
  ·cases ht; decide
  ·cases ht
 split at ht
 ·unfold wordD wordF at ht
  generalize (if (c.toNat:Int)=39 then i+1 else i)=f at ht
  by_cases h12:12<runAt isNm s f - f
  ·rw [if_pos h12] at ht; cases ht; decide
  ·rw [if_neg h12] at ht; cases ht
 split at ht
 ·simp only [strD] at ht
  split at ht
  ·cases ht
  ·cases ht; decide
 ·simp only [signD] at ht
  split at ht
  ·cases ht; decide
  ·cases ht
theorem lexGo_ne {s : List UInt8} {most : Nat} {c : Int} {q : Nat} : ∀ (n i : Nat) (out : List Tok), s.length - i ≤ n → lexGo s most i out = .inr (c, q) → c ≠ 0 := by
  intro n
  induction n with
  | zero =>
    intro i out hn h
    rw [lexGo_end (by omega)] at h; cases h
  | succ n ih =>
    intro i out hn h
    by_cases hi : i < s.length
    · cases hb : Pg.blank s[i] with
      | true =>
        rw [lexGo_blank hi hb] at h
        exact ih _ _ (by omega) h
      | false =>
        by_cases hc : (s[i].toNat : Int) = 35
        · rw [lexGo_hash hi hb hc] at h
          have hg := nl_hash hi hc
          exact ih _ _ (by omega) h
        · rcases ht : tokD s i s[i] with ⟨t, e⟩ | c'
          · by_cases hm : out.length = most
            · rw [lexGo_most hi hb hc ht hm] at h; cases h; decide
            · rw [lexGo_tok hi hb hc ht hm] at h
              have hg := tokD_gt hi ht
              exact ih _ _ (by omega) h
          · rw [lexGo_err hi hb hc ht] at h; cases h; exact tokD_ne ht
    · rw [lexGo_end hi] at h; cases h
theorem lexD_ne {s:List UInt8} {c:Int} {q:Nat} (h:lexD s=.inr (c,q)):c≠0:=by
 unfold lexD at h
 split at h
 ·cases h; decide
 ·exact lexGo_ne _ _ _ (Nat.le_refl _) h
def parsed1 (s : List UInt8) : ExpD × Int × Int :=
  match lexD s with
  | .inr (c, i) => (exp0, c, i)
  | .inl T => match told (oneP T (iExp T T.length 40 41 1)) with
    | .inl e => (e, 0, 0)
    | .inr (c, q) => (exp0, c, q)
theorem parsed1_s {s:List UInt8} {T:List Tok} (h:lexD s=.inl T):told (oneP T (iExp T T.length 40 41 1))=told (oneP T (sExp T T.length 40 41)) :=
 told_eq (lexD_ok h).1 (s3_one (lexD_ok h).1 (s3_expK (lexD_ok h).1 41 0 fun e' h1 h2=>by omega))
theorem parsed1_T {s:List UInt8} {T:List Tok} (h:lexD s=.inl T):parsed1 s=(match told (oneP T (iExp T T.length 40 41 1)) with | .inl e=>(e,0,0) | .inr (c,q)=>(exp0,c,q)):=by
 unfold parsed1; rw [h]
theorem told_e {α:Type} (m:PM α):told m=if (m ⟨0,0,0,0,0⟩).2.c=0 then .inl (m ⟨0,0,0,0,0⟩).1 else .inr ((m ⟨0,0,0,0,0⟩).2.c,(m ⟨0,0,0,0,0⟩).2.ps):=rfl
theorem set_self {X:List AO} {p:Nat} {o:AO} (h:X[p]?=some o):X.set p o=X:=list_set_same h
theorem PF.at {pv:PS->AO} {T:List Tok} {lim:Nat} {f:Nat} {xs:List AV} {α:Type} {m:PM α} {V:α->AV} (h:PF pv T lim f xs m V) {X:List AO} {p:Nat} {s:PS} (hp:X[p]?=some (pv s)) (hs:Ok T lim s) :
  ACall Tryz.prog f (.ptr p 0 :: xs) X (pureQ (V (m s).1) (X.set p (pv (m s).2))):=by
 have:=h.nil (get_lt hp) hs
 rwa [set_self hp] at this
theorem PX.top {pv:PS->AO} {T:List Tok} {e f:Nat} {args:List AV} {p:Nat} {α:Type} {m:PM α} {tv:α->List TV} (h:PX pv T e f args (fun _=>True) p m tv) (wf:∀ x,WfC (tv x)) {X:List AO} {s s1:PS} {x:α} (hm:m s=(x,s1)) (hp:X[p]?=some (pv s)) (hs:Ok T e s) :
  ACall Tryz.prog f args X (fun r X'=>∃ cs R,r=.st cs/\X'=X.set p (pv s1)++R/\Env X.length X'.length X' (tv x) cs):=by
 refine acall_ghost (nC (tv x)) ?_
 have hpl:=get_lt hp
 have hK:(X++List.replicate (nC (tv x)) AO.rsv)[p]?=some (pv s):=get_ext hp _
 have hF:Fr X.length (X++List.replicate (nC (tv x)) AO.rsv) (nC (tv x)):=⟨List.range' X.length (nC (tv x)),List.nodup_range',by simp,fun i hi=>by
  simp only [List.mem_range'] at hi
  obtain ⟨j,hj,rfl⟩:=hi
  refine ⟨by omega,?_⟩
  rw [List.getElem?_append_right (by omega)]
  simp [hj]⟩
 obtain ⟨H1,cs,hn1,kp1,_,_,_,env1,call1⟩:=h.use wf hm (Eq.refl (X++List.replicate (nC (tv x)) AO.rsv).length) hpl (by simp) hs hF (Nat.le_refl _)
 have hc:=call1 [] trivial
 rw [List.append_nil,List.append_nil,set_self hK] at hc
 refine hc.mono ?_
 rintro r X' ⟨rfl,rfl⟩
 refine ⟨cs,H1.drop X.length,rfl,?_,?_⟩
 ·have ht:H1.take X.length=X:=by
   apply List.ext_getElem?
   intro i
   rcases Nat.lt_or_ge i X.length with hi | hi
   ·rw [List.getElem?_take_of_lt hi,kp1.2.1 i hi,List.getElem?_append_left hi]
   ·rw [List.getElem?_eq_none (by simp; omega),List.getElem?_eq_none hi]
  have e3:H1=X++H1.drop X.length:=(List.take_append_drop X.length H1).symm.trans (congrArg (·++H1.drop X.length) ht)
  conv=>lhs; rw [e3]
  rw [List.set_append_left _ _ hpl]
 ·have:=env1 [] [] [] [] (Env.nil _ _ _)
  rw [List.append_nil] at this
  simpa [hn1] using this
theorem hx1 (H L:List AO) (x:AO):Hext (H++(.dead :: L)) (H++(x :: L)):=fun id o h hd=>by
 rcases Nat.lt_or_ge id H.length with hi | hi
 ·rw [List.getElem?_append_left hi] at h ⊢; exact h
 ·rw [List.getElem?_append_right hi] at h ⊢
  match id - H.length,h with
  | 0,h=>simp at h; exact (hd h.symm).elim
  | k+1,h=>exact h
theorem env4 {H R S:List AO} {a b c d a' b' c' d' e:AO} {v:Nat} {ts:List TV} {cs:List AV} (hv:H.length+4+R.length<=v) (h:Env (H++[a,b,c,d]).length (H++[a,b,c,d].set 3 e++R).length (H++[a,b,c,d].set 3 e++R) ts cs):Env H.length v (H++(a' :: b' :: c' :: d' :: (R++S))) ts cs:=by
 obtain ⟨ids,h1,h2,h3,h4⟩:=h
 have hb:(H++[a,b,c,d]).length=H.length+4:=by simp
 have hu:(H++[a,b,c,d].set 3 e++R).length=H.length+4+R.length:=by simp; omega
 rw [hb,hu] at h4
 refine ⟨ids,h1.keep fun i hi o ho=>?_,h2,h3,fun i hi=>by have:=h4 i hi; exact ⟨by omega,by omega⟩⟩
 obtain ⟨k,rfl⟩:=Nat.le.dest (h4 i hi).1
 rw [List.append_assoc,show H.length+4+k=H.length+(4+k) by omega,gxk] at ho
 rw [show H.length+4+k=H.length+(4+k) by omega,gxk]
 have e1:(([a,b,c,d].set 3 e)++R)[4+k]?=R[k]?:=by rw [List.getElem?_append_right (by simp)]; simp
 have e2:(a' :: b' :: c' :: d' :: (R++S))[4+k]?=(R++S)[k]?:=by rw [show 4+k=k+4 by omega]; rfl
 rw [e1] at ho
 rw [e2]; exact get_ext ho S
theorem Ok0 {T:List Tok} (hT:ToksOk T):Ok T 0 ⟨0,0,0,0,0⟩:=⟨hT.pos,rfl⟩
theorem lex_l {T:List Tok}:lexAV (.inl T)=.tup [ptV T,ftC 0 0]:=rfl
theorem lex_r {c:Int} {i:Nat}:lexAV (.inr (c,i))=.tup [.p (.l []),ftC c i]:=rfl
theorem implParse1 {s:List UInt8} {H:List AO} (hs:s.length<=1099511627776) (hg:Rg H) :
  ACall Tryz.prog 10 [.p (.s s)] H (fun r H'=>∃ cs G,r=.tup [.st cs,ftC (parsed1 s).2.1 (parsed1 s).2.2]/\H'=H++G/\Env H.length H'.length H' (parsed1 s).1.tv cs):=by
 refine call10 (by simp) ?_
 simp only [go_sem,simprocAttr,mc10,mr10]
 refine acall_pure (lexC (by omega) (hg.ext _)) ?_
 rcases hl:lexD s with T | ⟨c,i⟩
 rotate_left
 ·have hp:parsed1 s=(exp0,c,(i:Int)):=by unfold parsed1; rw [hl]
  rw [lex_r,hp]
  simp only [go_sem,simprocAttr,dF (lexD_ne hl),dT (lexD_ne hl),decide_not,Bool.not_true,Bool.not_false]
  refine ⟨H++[.dead,_,_],hx1 _ _ _,?_⟩
  simp only [go_sem,simprocAttr]
  refine ⟨hx1 _ _ _,?_⟩
  refine ⟨_,_,rfl,rfl,?_⟩
  exact exp_leaf _ _ _ _ _ _ _ _
 ·obtain ⟨hT,hTl⟩:=lexD_ok hl
  have hTl:T.length<=1073741825:=by omega
  rw [lex_l,parsed1_T hl,told_e]
  simp only [go_sem,simprocAttr,List.length_append]
  rcases hq:iExp T T.length 40 41 1 ⟨0,0,0,0,0⟩ with ⟨⟨k1,n1,u1,t1,q1,l1,m1⟩,s1⟩
  have hs1:=(Ok0 hT).run (stay_iExp (N:=T.length) hT 40 41 1)
  rw [hq] at hs1
  simp only at hs1
  have e1:oneP T (iExp T T.length 40 41 1) ⟨0,0,0,0,0⟩=(.mk k1 n1 u1 t1 q1 l1 m1,endP T s1):=by unfold oneP; rw [bindP_e,hq]; rfl
  rw [e1]
  refine (PX.top (iExpK hT hTl 41 1 (by omega) (by omega) (by omega) (H.length+3)) ExpD.wf hq (by rw [gxk]; rfl) (Ok0 hT)).mono ?_
  rintro r X' ⟨cs,R,rfl,rfl,hE⟩
  have hs2:=hs1.step (stay_end T)
  obtain ⟨c1,b1,rfl⟩:=Env.expC (ts:=[]) (ds:=[]) (cs:=cs) hE rfl
  rw [sxk] at hE ⊢
  have hE4:=fun (a' b' c' d':AO) (S:List AO) (v:Nat) (hv:H.length+4+R.length<=v)=>env4 (a':=a') (b':=b') (c':=c') (d':=d') (S:=S) (v:=v) hv hE
  simp only [go_sem,simprocAttr]
  refine acall_pure (iEnd.at (by rw [gxk]; rfl) hs1) ?_
  simp only [go_sem,simprocAttr]
  refine acall_pure (iFailed.at (by rw [gxk]; rfl) hs2) ?_
  by_cases hc:(endP T s1).c=0
  ·rw [if_pos hc]
   simp only [go_sem,simprocAttr,dT hc,Bool.not_true,Bool.not_false]
   exact ⟨_,_,rfl,rfl,hE4 _ _ _ _ _ _ (by omega)⟩
  ·rw [if_neg hc]
   simp only [go_sem,simprocAttr,dF hc,Bool.not_true,Bool.not_false]
   refine ⟨H++(.dead :: _),hx1 _ _ _,?_⟩
   simp only [go_sem,simprocAttr,pvI]
   refine ⟨hx1 _ _ _,?_⟩
   refine ⟨_,_,rfl,rfl,?_⟩
   exact exp_leaf _ _ _ _ _ _ _ _
theorem specParse1 {s:List UInt8} {H:List AO} (hs:s.length<=1099511627776) :
  ACall Tryz.prog 11 [.p (.s s)] H (pureQ (.tup [expV (parsed1 s).1,ftC (parsed1 s).2.1 (parsed1 s).2.2]) H):=by
 refine acall_frz1 ?_
 refine call11 (by simp) ?_
 simp only [go_sem,simprocAttr,mc11,mr11]
 refine acall_pure (lexIC (by omega)) ?_
 have lz:∀ (X:List AO) (c q:Int),LentN H.length X (.tup [.st [iV 0,sV [],iV 0,sV [],iV 0,.p .nl,.p .nl],ftC c q]) (.tup [expV exp0,ftC c q]):=fun X c q=>by
  refine lent_two ?_ (tf_ft c q)
  exact lent_exp (by rw [ExpD.cellsL]; exact .nl) (by rw [ExpD.cellsA]; exact .nl)
 rcases hl:lexD s with T | ⟨c,i⟩
 rotate_left
 ·have hp:parsed1 s=(exp0,c,(i:Int)):=by unfold parsed1; rw [hl]
  rw [lex_r,hp]
  simp only [go_sem,simprocAttr,dF (lexD_ne hl),dT (lexD_ne hl),decide_not,Bool.not_true,Bool.not_false]
  refine ⟨H++[.dead,_,_],hx1 _ _ _,?_⟩
  simp only [go_sem,simprocAttr]
  refine ⟨hx1 _ _ _,?_⟩
  exact ⟨_,rfl,lz _ _ _⟩
 ·obtain ⟨hT,hTl⟩:=lexD_ok hl
  have hTl:T.length<=1073741825:=by omega
  rw [lex_l,parsed1_T hl,parsed1_s hl,told_e]
  simp only [go_sem,simprocAttr,List.length_append]
  rcases hq:sExp T T.length 40 41 ⟨0,0,0,0,0⟩ with ⟨⟨k1,n1,u1,t1,q1,l1,m1⟩,s1⟩
  have hs1:=(Ok0 hT).run (stay_sExp (N:=T.length) hT 40 41)
  rw [hq] at hs1
  simp only at hs1
  have e1:oneP T (sExp T T.length 40 41) ⟨0,0,0,0,0⟩=(.mk k1 n1 u1 t1 q1 l1 m1,endP T s1):=by unfold oneP; rw [bindP_e,hq]; rfl
  rw [e1]
  have hs2:=hs1.step (stay_end T)
  have hcall:=(sExpK hT hTl (lim:=40) (by omega) 41 0 rfl (by omega)).at (X:=H++[.var [iV 0,sV [],iV 0,sV [],iV 0,.p .nl,.p .nl],.var [iV 0,iV 0],.var [iV 0,iV 0],pvS T 40 ⟨0,0,0,0,0⟩]) (p:=H.length+3) (by rw [gxk]; rfl) (Ok0 hT)
  rw [hq] at hcall
  refine acall_pure hcall ?_
  have lt:∀ (X:List AO),LentN H.length X (.tup [.st [iV k1,sV n1,iV u1,sV t1,iV q1,.p (.l (ExpD.cellsL l1)),.p (.l (ExpD.cellsA m1))],ftC 0 0]) (.tup [expV (.mk k1 n1 u1 t1 q1 l1 m1),ftC 0 0]):=fun X=>by
   refine lent_two ?_ (tf_ft 0 0)
   exact lentP (tf_av (ExpD.cells (.mk k1 n1 u1 t1 q1 l1 m1)))
  by_cases hc:s1.c=0
  ·by_cases hk:(tokA T s1).k=8
   ·have hE:endP T s1=s1:=by unfold endP isK; simp [hc,hk]
    rw [hE,if_pos hc]
    simp only [go_sem,simprocAttr,ExpD.cells,pvS,dT hc]
    refine acall_pure ((sNow (lim:=40)).at (s:=s1) (by rw [gxk]; rfl) hs1) ?_
    simp only [go_sem,simprocAttr,Tok.cells,dT hk,decide_not,Bool.not_true,Bool.not_false,dT hc,pvS]
    exact ⟨_,rfl,lt _⟩
   ·have hE:endP T s1=failP T 11 s1:=by unfold endP isK; simp [hc,hk]
    have hc2:¬ (failP T 11 s1).c=0:=by rw [failP_0 hc]; exact (by decide:¬ ((11:Int)=0))
    rw [hE,if_neg hc2]
    simp only [go_sem,simprocAttr,ExpD.cells,pvS,dT hc]
    refine acall_pure ((sNow (lim:=40)).at (s:=s1) (by rw [gxk]; rfl) hs1) ?_
    simp only [go_sem,simprocAttr,Tok.cells,dF hk,decide_not,Bool.not_true,Bool.not_false,dT hc]
    refine acall_pure ((sFails (lim:=40) 11).at (s:=s1) (by rw [gxk]; rfl) hs1) ?_
    simp only [go_sem,simprocAttr,pvS,dF hc2,decide_not,Bool.not_true,Bool.not_false]
    refine ⟨H++(.dead :: _),hx1 _ _ _,?_⟩
    simp only [go_sem,simprocAttr]
    refine ⟨hx1 _ _ _,?_⟩
    exact ⟨_,rfl,lz _ _ _⟩
  ·have hE:endP T s1=s1:=by unfold endP; rw [isK_c hc]; simp [failP_c hc]
   rw [hE,if_neg hc]
   simp only [go_sem,simprocAttr,ExpD.cells,pvS,dF hc,decide_not,Bool.not_true,Bool.not_false]
   refine ⟨H++(.dead :: _),hx1 _ _ _,?_⟩
   simp only [go_sem,simprocAttr]
   refine ⟨hx1 _ _ _,?_⟩
   exact ⟨_,rfl,lz _ _ _⟩
end Go.Proofs.YteilijfligofdaaGreatDoor.Qp
namespace Go.Proofs.YteilijfligofdaaGreatDoor.Pg
open Go.AM Mc Qp
mutual
theorem pvPat (t:PatD):TV.pvC t.tv=t.cells:=by
 match t with
 | .mk k n u p ks=>rw [PatD.tv,PatD.cells]; simp only [TV.pvC,TV.pv,pvPatL ks]
theorem pvPatL (l:List PatD):TV.pvR (PatD.tvL l)=PatD.cellsL l:=by
 match l with
 | []=>rw [PatD.tvL,TV.pvR,PatD.cellsL]
 | t :: l=>rw [PatD.tvL,TV.pvR,PatD.cellsL,pvPat t,pvPatL l]
end
theorem pvC_app (a b:List TV):TV.pvC (a++b)=TV.pvC a++TV.pvC b:=by
 induction a with
 | nil=>rw [TV.pvC]; rfl
 | cons t a ih=>rw [List.cons_append,TV.pvC,TV.pvC,ih]; rfl
mutual
theorem pvExp (t:ExpD):TV.pvC t.tv=t.cells:=by
 match t with
 | .mk k n u x p ks as'=>rw [ExpD.tv,ExpD.cells]; simp only [TV.pvC,TV.pv,pvExpL ks,pvExpA as']
theorem pvExpL (l:List ExpD):TV.pvR (ExpD.tvL l)=ExpD.cellsL l:=by
 match l with
 | []=>rw [ExpD.tvL,TV.pvR,ExpD.cellsL]
 | t :: l=>rw [ExpD.tvL,TV.pvR,ExpD.cellsL,pvExp t,pvExpL l]
theorem pvArm (t:ArmD):TV.pvC t.tv=t.cells:=by
 match t with
 | .mk p e=>rw [ArmD.tv,ArmD.cells,pvC_app,pvPat,pvExp e]
theorem pvExpA (l:List ArmD):TV.pvR (ExpD.tvA l)=ExpD.cellsA l:=by
 match l with
 | []=>rw [ExpD.tvA,TV.pvR,ExpD.cellsA]
 | t :: l=>rw [ExpD.tvA,TV.pvR,ExpD.cellsA,pvArm t,pvExpA l]
end
mutual
theorem lentNT {n : Nat} {H : List AO} : ∀ {t : TV} {a : AV} {ids : List Nat}, Own H t a ids → (∀ i ∈ ids, n ≤ i) → LentN n H a (.p t.pv)
  | .p x, a, ids, h, hn => by rw [Own] at h; rw [h.1, TV.pv]; exact .p _
  | .s sz rows, a, ids, h, hn => by
    rw [Own] at h
    rcases h with ⟨rfl, rfl, _⟩ | ⟨id, ver, rs, js, rfl, rfl, h1, h2⟩
    · rw [TV.pv, TV.pvR]; exact .nl
    · rw [TV.pv]
      have hl := h2.len
      obtain ⟨h3, h4⟩ := lentNR h2 fun i hi => hn i (List.mem_cons_of_mem _ hi)
      exact .gs id ver 0 rs.length sz rs _ (hn id List.mem_cons_self) h1 (by omega) (by rw [pvR_len, hl]) h3 (fun i r y j c q hr hy => by rw [Nat.zero_add] at hr; exact h4 i r y hr hy j c q)
theorem lentNC {n : Nat} {H : List AO} : ∀ {ts : List TV} {cs : List AV} {ids : List Nat}, OwnCs H ts cs ids → (∀ i ∈ ids, n ≤ i) → ∀ (j : Nat) c q, cs[j]? = some c → (TV.pvC ts)[j]? = some q → LentN n H c (.p q)
  | [], cs, ids, h, _, j, c, q, hc, hq => by rw [TV.pvC] at hq; simp at hq
  | t :: ts, cs, ids, h, hn, j, c, q, hc, hq => by
    rw [OwnCs] at h
    obtain ⟨a, cs', i', js, rfl, rfl, h1, h2⟩ := h
    rw [TV.pvC] at hq
    cases j with
    | zero => simp at hc hq; subst hc hq; exact lentNT h1 fun i hi => hn i (List.mem_append_left _ hi)
    | succ j => exact lentNC h2 (fun i hi => hn i (List.mem_append_right _ hi)) j c q (by simpa using hc) (by simpa using hq)
theorem lentNR {n : Nat} {H : List AO} {sz : Nat} : ∀ {rows : List (List TV)} {rs : List (List AV)} {ids : List Nat}, OwnRs H sz rows rs ids → (∀ i ∈ ids, n ≤ i) → (∀ y ∈ TV.pvR rows, y.length = sz) ∧ ∀ (i : Nat) r y, rs[i]? = some r → (TV.pvR rows)[i]? = some y → ∀ (j : Nat) c q, r[j]? = some c → y[j]? = some q → LentN n H c (.p q)
  | [], rs, ids, h, _ => by rw [TV.pvR]; exact ⟨fun y hy => by (cases hy), fun i r y hr hy => by simp at hy⟩
  | row :: rows, rs, ids, h, hn => by
    rw [OwnRs] at h
    obtain ⟨r, rs', i', js, rfl, rfl, h0, h1, h2⟩ := h
    obtain ⟨h3, h4⟩ := lentNR h2 fun i hi => hn i (List.mem_append_right _ hi)
    rw [TV.pvR]
    refine ⟨fun y hy => ?_, fun i r' y hr hy => ?_⟩
    · rcases List.mem_cons.1 hy with rfl | hy
      · rw [pvC_len, ← h1.len, h0]
      · exact h3 y hy
    · cases i with
      | zero => simp at hr hy; subst hr hy; exact lentNC h1 fun i hi => hn i (List.mem_append_left _ hi)
      | succ i => exact h4 i r' y (by simpa using hr) (by simpa using hy)
end
theorem expTv_len (t:ExpD):t.tv.length=7:=by cases t; rw [ExpD.tv]; rfl
theorem implParse1P {s : List UInt8} {H : List AO} (hs : s.length ≤ 1099511627776) (hg : Rg H) :
    ACall Tryz.prog 10 [.p (.s s)] H (pureQ (.tup [.st ((parsed1 s).1.cells.map .p), ftC (parsed1 s).2.1 (parsed1 s).2.2]) H) := by
  refine acall_frz1 ((implParse1 hs hg).mono ?_)
  rintro r _ ⟨cs, G, rfl, rfl, ids, o1, o2, o3, o4⟩
  refine ⟨G, rfl, .tup _ _ rfl fun j a b ha hb => ?_⟩
  match j, ha, hb with
  | 0, ha, hb =>
    cases ha; cases hb
    have h1 := lentNC o1 fun i hi => (o4 i hi).1
    rw [pvExp] at h1
    refine .st _ _ (by rw [o1.len, expTv_len, List.length_map]; cases (parsed1 s).1; rfl) fun j c q hc hq => ?_
    rw [List.getElem?_map] at hq
    cases hx : (parsed1 s).1.cells[j]? with
    | none => rw [hx] at hq; cases hq
    | some x => rw [hx] at hq; cases hq; exact h1 j c x hc hx
  | 1, ha, hb => cases ha; cases hb; exact .tf _ (tf_ft _ _)
end Go.Proofs.YteilijfligofdaaGreatDoor.Pg
namespace Go.Proofs.YteilijfligofdaaGreatDoor.Qp
open Go.AM Mc Pg
theorem CF.at1 {b:List Int} {f:Nat} {xs:List AV} {α:Type} {m:CM α} {V:α->AV} (h:CF b f xs m V) (H A:List AO) (x:AO) (c:Cur) :
  ACall Tryz.prog f (.ptr (H.length+1) 0 :: xs) (H++x :: cvC b c :: A) (pureQ (V (m c).1) (H++x :: cvC b (m c).2 :: A)):=by
 have:=h (H++[x,.dead]) A (H.length+1) c (by simp)
 have e:∀ d,(H++[x,.dead]).set (H.length+1) d++A=H++x :: d :: A:=fun d=>by simp [List.set_append]
 rwa [e,e] at this
theorem tf_expV2 (t:ExpD):Tf (expV2 t):=tf_av _
theorem drawEC {b:List Int} (hb:b.length<=1048576) (H:List AO):ACall Tryz.prog 6 [.p (.l (byts b))] H (pureQ (expV2 (drawE b)) H):=by
 refine acall_drop1 ?_ (tf_expV2 _)
 refine call6 (by simp) ?_
 simp only [go_sem,simprocAttr,mc6,mr6]
 refine (drNew hb _).mono ?_
 rintro _ _ ⟨rfl,rfl⟩
 simp only [go_sem,simprocAttr,List.length_append,List.length_cons,List.length_nil]
 have h4:=(expDr_ok (b:=b) 4 (cur0 b)).2
 refine acall_pure ((drExp hb 4 (by decide)).at1 H [] _ (cur0 b)) ?_
 unfold drawE
 rcases hq:expDr b 4 (cur0 b) with ⟨⟨k,n,u,t,q,ks,as'⟩,c⟩
 rw [hq] at h4
 simp only [go_sem,simprocAttr,ExpD.cells]
 refine acall_pure ((drOnce hb 2).at1 H _ _ c) ?_
 rcases ho:onceD b 2 c with ⟨o,c1⟩
 cases o
 ·simp only [go_sem,simprocAttr,Bool.false_eq_true]
  exact ⟨rfl,_,rfl⟩
 ·simp only [go_sem,simprocAttr]
  refine acall_pure ((bendC hb _ (.mk k n u t q ks as') (Nat.lt_succ_self _) (by have:=h4.2; exact Nat.le_trans this (by decide))).at1 H _ _ c1) ?_
  rcases hq2:bendF b ((ExpD.mk k n u t q ks as').sz+1) (.mk k n u t q ks as') c1 with ⟨⟨k2,n2,u2,t2,q2,ks2,as2⟩,c2⟩
  simp only [go_sem,simprocAttr,ExpD.cells,hq2]
  exact ⟨rfl,_,rfl⟩
end Go.Proofs.YteilijfligofdaaGreatDoor.Qp
set_option linter.all false
set_option maxRecDepth 100000
namespace Go.Proofs.YteilijfligofdaaGreatDoor.Mc
open Go.AM
def mc7:Got (Tryz.f7.body.map (compile [0,1,2,5] Tryz.prog 8)):=⟨_,by conv=>lhs; cbv⟩
def mr7:List MR:=[.t 2]
theorem call7:CallT Tryz.prog 7 8 mc7.m mr7:=mc7.call Tryz.func7 (by kernel_rfl)
def mc12:Got (Tryz.f12.body.map (compile [0,1,2,3,4,5,6] Tryz.prog 21)):=⟨_,by conv=>lhs; cbv⟩
def mr12:List MR:=[.t 4]
theorem call12:CallT Tryz.prog 12 21 mc12.m mr12:=mc12.call Tryz.func12 (by kernel_rfl)
def mc13:Got (Tryz.f13.body.map (compile [0,1,2,3,5,7,9,10,11,12,21,22,23,24] Tryz.prog 38)):=⟨_,by conv=>lhs; cbv⟩
def mr13:List MR:=[.t 2]
theorem call13:CallT Tryz.prog 13 38 mc13.m mr13:=mc13.call Tryz.func13 (by kernel_rfl)
def mc44:Got (Tryz.f44.body.map (compile [0,1,2,3,5,7,8,9,10] Tryz.prog 19)):=⟨_,by conv=>lhs; cbv⟩
def mr44:List MR:=[.t 2]
theorem call44:CallT Tryz.prog 44 19 mc44.m mr44:=mc44.call Tryz.func44 (by kernel_rfl)
def mc43:Got (Tryz.f43.body.map (compile [0,1,2,3,4,5] Tryz.prog 47)):=⟨_,by conv=>lhs; cbv⟩
def mr43:List MR:=[.t 4]
theorem call43:CallT Tryz.prog 43 47 mc43.m mr43:=mc43.call Tryz.func43 (by kernel_rfl)
def mc99:Got (Tryz.f99.body.map (compile [0,1,2,3,4] Tryz.prog 17)):=⟨_,by conv=>lhs; cbv⟩
def mr99:List MR:=[.t 4]
theorem call99:CallT Tryz.prog 99 17 mc99.m mr99:=mc99.call Tryz.func99 (by kernel_rfl)
def mc100:Got (Tryz.f100.body.map (compile [0,1,2,3,4] Tryz.prog 31)):=⟨_,by conv=>lhs; cbv⟩
def mr100:List MR:=[.t 4]
theorem call100:CallT Tryz.prog 100 31 mc100.m mr100:=mc100.call Tryz.func100 (by kernel_rfl)
def mc146:Got (Tryz.f146.body.map (compile [0,1,2,6,7,8,9,14,15,16,17,18,30] Tryz.prog 32)):=⟨_,by conv=>lhs; cbv⟩
def mr146:List MR:=[.t 6]
theorem call146:CallT Tryz.prog 146 32 mc146.m mr146:=mc146.call Tryz.func146 (by kernel_rfl)
def mc101:Got (Tryz.f101.body.map (compile [0,1,2,6,7,8,9,14,15,16,17,18,30] Tryz.prog 32)):=⟨_,by conv=>lhs; cbv⟩
def mr101:List MR:=[.t 6]
theorem call101:CallT Tryz.prog 101 32 mc101.m mr101:=mc101.call Tryz.func101 (by kernel_rfl)
def mc102:Got (Tryz.f102.body.map (compile [0,1,2,6,7,8,9,14,15,16,17,18,30] Tryz.prog 32)):=⟨_,by conv=>lhs; cbv⟩
def mr102:List MR:=[.t 6]
theorem call102:CallT Tryz.prog 102 32 mc102.m mr102:=mc102.call Tryz.func102 (by kernel_rfl)
def mc42:Got (Tryz.f42.body.map (compile [0,1,2,6,7,8,9,14,15,16,17,18,30] Tryz.prog 32)):=⟨_,by conv=>lhs; cbv⟩
def mr42:List MR:=[.t 6]
theorem call42:CallT Tryz.prog 42 32 mc42.m mr42:=mc42.call Tryz.func42 (by kernel_rfl)
end Go.Proofs.YteilijfligofdaaGreatDoor.Mc