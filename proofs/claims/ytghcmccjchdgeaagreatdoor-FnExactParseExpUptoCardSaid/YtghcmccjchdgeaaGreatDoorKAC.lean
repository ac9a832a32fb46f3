/- Texts QbQ QbR QbS QbT QcA QbB QcB, merged. -/
import Derived.Test.YtghcmccjchdgeaaGreatDoorKAB
import Derived.Test.YtghcmccjchdgeaaGreatDoorChecked
import Derived.KernelRfl
/- The reference's parser: patterns, atoms, applications. -/
set_option linter.all false
namespace Go.Proofs.YtghcmccjchdgeaaGreatDoor.Qp
open Go.AM Mc Pg
section
variable {T:List Tok} {lim e:Nat} (hT:ToksOk T) (hTl:T.length≤1048577)
include hT hTl
theorem sPatC (hl:lim≤1099511627776) (he:e≤lim) {pat:PM PatD} (hr:e<lim→PF (pvS T lim) T (e+1) 163 [] pat patV) (sr:StayM T pat):PF (pvS T lim) T e 163 [] (sPatB T T.length lim pat) patV:=by
 have sA:=stay_sPatA (N:=T.length) hT sr
 refine pf_of (pvS_tf T lim) fun H p s hp hs=>?_
 obtain ⟨o1,o2,o3⟩:=opens_ok (lim:=lim) hT hTl hs
 have hi:=hs.1
 have hn:=hs.2
 refine call163 (by simp) ?_
 simp only [go_sem,reduceIte,↓reduceIte,sevalprocAttr,Z0,Z1,bytesOf,qx0,qxk,qs0,qsk,List.length_set,mc163,mr163]
 refine acall_pure (sOpens hl he H _ p s hp hs) ?_
 unfold sPatB opnP
 cases hc:decide ((opensP T lim s).c=0)
 ·rw [if_neg (of_decide_eq_false hc)]
  simp only [go_sem,reduceIte,↓reduceIte,sevalprocAttr,Z0,Z1,bytesOf,qx0,qxk,qs0,qsk,List.length_set,hc]
  refine acall_pure (sShut hl H _ p (opensP T lim s) hp (by omega) (by omega) (by omega)) ?_
  simp only [go_sem,reduceIte,↓reduceIte,sevalprocAttr,Z0,Z1,bytesOf,qx0,qxk,qs0,qsk,List.length_set]
  exact ⟨_,rfl,lent_pat (by rw [PatD.cellsL]; exact .nl)⟩
 ·obtain ⟨hs1,hne⟩:=o3 (of_decide_eq_true hc)
  have hr:=hr (by omega)
  have hA:=sPatAC hT hTl hr sr
  rw [if_pos (of_decide_eq_true hc)]
  simp only [go_sem,reduceIte,↓reduceIte,sevalprocAttr,Z0,Z1,bytesOf,qx0,qxk,qs0,qsk,List.length_set,hc]
  refine acall_pure (sNow H _ p _ hp hs1) ?_
  rw [nowP_e,bindP_e]
  simp only [go_sem,reduceIte,↓reduceIte,sevalprocAttr,Z0,Z1,bytesOf,qx0,qxk,qs0,qsk,List.length_set,Tok.cells]
  generalize hx:tokA T (opensP T lim s)=x
  obtain ⟨tk,tt,tn,tp⟩:=x
  simp only
  refine acall_pure (hA H _ p _ hp hs1) ?_
  have hs2:=hs1.run sA
  have st2:=sA _ hs1.1
  rcases hq:sPatA T T.length pat (opensP T lim s) with ⟨⟨k,n,u,q,ks⟩,s2⟩
  rw [hq] at hs2 st2
  have hn2:s2.nest=s.nest+1:=st2.2.2.2.trans o2
  simp only [go_sem,reduceIte,↓reduceIte,sevalprocAttr,Z0,Z1,bytesOf,qx0,qxk,qs0,qsk,List.length_set,PatD.cells]
  by_cases h4:tk=4
  ·rw [if_pos h4]
   simp only [go_sem,reduceIte,↓reduceIte,sevalprocAttr,Z0,Z1,bytesOf,qx0,qxk,qs0,qsk,List.length_set,dT h4]
   refine acall_pure (sPatSt hT hTl H _ p s2 hp hs2) ?_
   cases hg:patSt T s2
   ·rw [iteB_f hg]
    simp only [go_sem,reduceIte,↓reduceIte,sevalprocAttr,Z0,Z1,bytesOf,qx0,qxk,qs0,qsk,List.length_set,hg]
    refine acall_pure (sShut hl H _ p s2 hp hs2.1 (by omega) (by omega)) ?_
    simp only [go_sem,reduceIte,↓reduceIte,sevalprocAttr,Z0,Z1,bytesOf,qx0,qxk,qs0,qsk,List.length_set]
    exact ⟨_,rfl,lentP (tf_av (PatD.cells (.mk k n u q ks)))⟩
   ·rw [iteB_t hg,bindP_e]
    simp only [go_sem,reduceIte,↓reduceIte,sevalprocAttr,Z0,Z1,bytesOf,qx0,qxk,qs0,qsk,List.length_set,hg]
    refine acall_pure (hA H _ p s2 hp hs2) ?_
    have hs3:=hs2.run sA
    have st3:=sA _ hs2.1
    rcases hq2:sPatA T T.length pat s2 with ⟨⟨k',n',u',q',ks'⟩,s3⟩
    rw [hq2] at hs3 st3
    have hn3:s3.nest=s.nest+1:=st3.2.2.2.trans hn2
    simp only [go_sem,reduceIte,↓reduceIte,sevalprocAttr,Z0,Z1,bytesOf,qx0,qxk,qs0,qsk,List.length_set,PatD.cells]
    refine acall_pure (sShut hl H _ p s3 hp hs3.1 (by omega) (by omega)) ?_
    simp only [go_sem,reduceIte,↓reduceIte,sevalprocAttr,Z0,Z1,bytesOf,qx0,qxk,qs0,qsk,List.length_set,Nat.add_zero]
    exact ⟨_,rfl,lent_pat (lent_rows (n:=H.length) (ys:=[PatD.cells (.mk k' n' u' q' ks')]) (by omega) (by rw [qxk]; rfl) (by intro y hy; simp at hy; subst hy; rfl))⟩
  ·rw [if_neg h4]
   simp only [go_sem,reduceIte,↓reduceIte,sevalprocAttr,Z0,Z1,bytesOf,qx0,qxk,qs0,qsk,List.length_set,dF h4]
   refine acall_pure (sShut hl H _ p s2 hp hs2.1 (by omega) (by omega)) ?_
   simp only [go_sem,reduceIte,↓reduceIte,sevalprocAttr,Z0,Z1,bytesOf,qx0,qxk,qs0,qsk,List.length_set]
   exact ⟨_,rfl,lentP (tf_av (PatD.cells (.mk k n u q ks)))⟩
theorem sPatK (hl:lim≤1099511627776):∀ k e,e+k=lim+1→0<k→PF (pvS T lim) T e 163 [] (sPat T T.length lim k) patV
 | 0,e,_,h=>absurd h (by omega)
 | k+1,e,h,_=>sPatC hT hTl hl (by omega) (fun hlt=>sPatK hl k (e+1) (by omega) (by omega)) (stay_sPat hT lim k)
theorem sAtSt:PF (pvS T lim) T e 210 [] (testM (atNx T)) bV:=by
 refine pf_of (pvS_tf T lim) fun H p s hp hs=>?_
 refine call210 (by simp) ?_
 simp only [go_sem,reduceIte,↓reduceIte,sevalprocAttr,Z0,Z1,bytesOf,qx0,qxk,qs0,qsk,List.length_set,mc210,mr210]
 refine acall_pure (sNow.nil hp hs) ?_
 unfold atNx
 simp only [go_sem,reduceIte,↓reduceIte,sevalprocAttr,Z0,Z1,bytesOf,qx0,qxk,qs0,qsk,List.length_set,qp0 hp,pvS,Tok.cells]
 cases h0:decide (s.c=0)
 ·have hc:=of_decide_eq_false h0
  simp only [isK_c hc,isT_c hc,Bool.or_self]
  simp only [go_sem,reduceIte,↓reduceIte,sevalprocAttr,Z0,Z1,bytesOf,qx0,qxk,qs0,qsk,List.length_set,h0]
  exact ⟨[],by simp [pvS],lentP (tf_p _)⟩
 have hc:=of_decide_eq_true h0
 cases k1:decide ((tokA T s).k=1)
 rotate_left
 ·have e1:isK T 1 s=true:=by unfold isK; rw [h0,k1]; rfl
  simp only [e1,Bool.or_true,Bool.true_or,Bool.false_or]
  simp only [go_sem,reduceIte,↓reduceIte,sevalprocAttr,Z0,Z1,bytesOf,qx0,qxk,qs0,qsk,List.length_set,h0,k1]
  exact ⟨[],by simp [pvS],lentP (tf_p _)⟩
 have e1:isK T 1 s=false:=by unfold isK; rw [h0,k1]; rfl
 cases k2:decide ((tokA T s).k=2)
 rotate_left
 ·have e2:isK T 2 s=true:=by unfold isK; rw [h0,k2]; rfl
  simp only [e2,e1,Bool.or_true,Bool.true_or,Bool.false_or]
  simp only [go_sem,reduceIte,↓reduceIte,sevalprocAttr,Z0,Z1,bytesOf,qx0,qxk,qs0,qsk,List.length_set,h0,k1,k2]
  exact ⟨[],by simp [pvS],lentP (tf_p _)⟩
 have e2:isK T 2 s=false:=by unfold isK; rw [h0,k2]; rfl
 cases k3:decide ((tokA T s).k=3)
 rotate_left
 ·have e3:isK T 3 s=true:=by unfold isK; rw [h0,k3]; rfl
  simp only [e3,e1,e2,Bool.or_true,Bool.true_or,Bool.false_or]
  simp only [go_sem,reduceIte,↓reduceIte,sevalprocAttr,Z0,Z1,bytesOf,qx0,qxk,qs0,qsk,List.length_set,h0,k1,k2,k3]
  exact ⟨[],by simp [pvS],lentP (tf_p _)⟩
 have e3:isK T 3 s=false:=by unfold isK; rw [h0,k3]; rfl
 cases k4:decide ((tokA T s).k=4)
 rotate_left
 ·have e4:isK T 4 s=true:=by unfold isK; rw [h0,k4]; rfl
  simp only [e4,e1,e2,e3,Bool.or_true,Bool.true_or,Bool.false_or]
  simp only [go_sem,reduceIte,↓reduceIte,sevalprocAttr,Z0,Z1,bytesOf,qx0,qxk,qs0,qsk,List.length_set,h0,k1,k2,k3,k4]
  exact ⟨[],by simp [pvS],lentP (tf_p _)⟩
 have e4:isK T 4 s=false:=by unfold isK; rw [h0,k4]; rfl
 simp only [e1,e2,e3,e4,Bool.false_or]
 simp only [go_sem,reduceIte,↓reduceIte,sevalprocAttr,Z0,Z1,bytesOf,qx0,qxk,qs0,qsk,List.length_set,h0,k1,k2,k3,k4]
 refine acall_pure ((sIs [116,114,117,101]).nil hp hs) ?_
 cases w0:isT T [116,114,117,101] s
 rotate_left
 ·simp only [go_sem,reduceIte,↓reduceIte,sevalprocAttr,Z0,Z1,bytesOf,qx0,qxk,qs0,qsk,List.length_set,w0,Bool.true_or,Bool.or_true,Bool.false_or]
  exact ⟨[],by simp [pvS],lentP (tf_p _)⟩
 simp only [go_sem,reduceIte,↓reduceIte,sevalprocAttr,Z0,Z1,bytesOf,qx0,qxk,qs0,qsk,List.length_set,w0,Bool.false_or]
 refine acall_pure ((sIs [102,97,108,115,101]).nil hp hs) ?_
 cases w1:isT T [102,97,108,115,101] s
 rotate_left
 ·simp only [go_sem,reduceIte,↓reduceIte,sevalprocAttr,Z0,Z1,bytesOf,qx0,qxk,qs0,qsk,List.length_set,w1,Bool.true_or,Bool.or_true,Bool.false_or]
  exact ⟨[],by simp [pvS],lentP (tf_p _)⟩
 simp only [go_sem,reduceIte,↓reduceIte,sevalprocAttr,Z0,Z1,bytesOf,qx0,qxk,qs0,qsk,List.length_set,w1,Bool.false_or]
 refine acall_pure ((sIs [114,101,97,100]).nil hp hs) ?_
 cases w2:isT T [114,101,97,100] s
 rotate_left
 ·simp only [go_sem,reduceIte,↓reduceIte,sevalprocAttr,Z0,Z1,bytesOf,qx0,qxk,qs0,qsk,List.length_set,w2,Bool.true_or,Bool.or_true,Bool.false_or]
  exact ⟨[],by simp [pvS],lentP (tf_p _)⟩
 simp only [go_sem,reduceIte,↓reduceIte,sevalprocAttr,Z0,Z1,bytesOf,qx0,qxk,qs0,qsk,List.length_set,w2,Bool.false_or]
 refine acall_pure ((sIs [40]).nil hp hs) ?_
 simp only [go_sem,reduceIte,↓reduceIte,sevalprocAttr,Z0,Z1,bytesOf,qx0,qxk,qs0,qsk,List.length_set,Bool.false_or]
 exact ⟨[],by simp [pvS],lentP (tf_p _)⟩
theorem sAtomC {ex:PM ExpD} (hr:PF (pvS T lim) T e 25 [] ex expV) (sr:StayM T ex):PF (pvS T lim) T e 211 [] (sAtom T T.length ex) expV:=by
 refine pf_of (pvS_tf T lim) fun H p s hp hs=>?_
 refine call211 (by simp) ?_
 simp only [go_sem,reduceIte,↓reduceIte,sevalprocAttr,Z0,Z1,bytesOf,qx0,qxk,qs0,qsk,List.length_set,mc211,mr211,zl7_0]
 refine acall_pure (sNow H _ p s hp hs) ?_
 simp only [go_sem,reduceIte,↓reduceIte,sevalprocAttr,Z0,Z1,bytesOf,qx0,qxk,qs0,qsk,List.length_set,Tok.cells]
 refine acall_pure (sAtSt hT hTl H _ p s hp hs) ?_
 cases hg:atNx T s
 ·have eq0:sAtom T T.length ex s=(exp0,failP T 11 s):=by unfold sAtom; rw [nowP_e,iteG_f hg]; rfl
  rw [eq0]
  simp only [go_sem,reduceIte,↓reduceIte,sevalprocAttr,Z0,Z1,bytesOf,qx0,qxk,qs0,qsk,List.length_set,hg]
  refine acall_pure (sFails 11 H _ p s hp hs) ?_
  simp only [go_sem,reduceIte,↓reduceIte,sevalprocAttr,Z0,Z1,bytesOf,qx0,qxk,qs0,qsk,List.length_set]
  exact ⟨_,rfl,lent_exp (by rw [ExpD.cellsL]; exact .nl) (by rw [ExpD.cellsA]; exact .nl)⟩
 have eq0:sAtom T T.length ex s=sAtIn T T.length (tokA T s) ex (adv s):=by unfold sAtom; rw [nowP_e,iteG_t hg]
 have hs1:=hs.adv hT (only_atNx s hg).2
 rw [eq0]
 generalize hx:tokA T s=x
 obtain ⟨tk,tt,tn,tp⟩:=x
 simp only [go_sem,reduceIte,↓reduceIte,sevalprocAttr,Z0,Z1,bytesOf,qx0,qxk,qs0,qsk,List.length_set,hg,qp hp,qq hp,pvS,ws hTl hs]
 have fold:AO.var [ptV T,iV (s.i+1:Nat),iV s.nest,iV s.d,iV lim,iV s.c,iV s.ps]=pvS T lim (adv s):=rfl
 rw [fold]
 by_cases h0:tk=1
 ·have eq1:sAtIn T T.length ⟨tk,tt,tn,tp⟩ ex (adv s)=((ExpD.mk 1 [] tn [] tp [] []),adv s):=by unfold sAtIn; rw [if_pos h0]; rfl
  rw [eq1]
  simp only [go_sem,reduceIte,↓reduceIte,sevalprocAttr,Z0,Z1,bytesOf,qx0,qxk,qs0,qsk,List.length_set,dT h0]
  exact ⟨_,rfl,lent_exp (by rw [ExpD.cellsL]; exact .nl) (by rw [ExpD.cellsA]; exact .nl)⟩
 by_cases h1:tk=2
 ·have eq1:sAtIn T T.length ⟨tk,tt,tn,tp⟩ ex (adv s)=((ExpD.mk 2 [] 0 tt tp [] []),adv s):=by unfold sAtIn; rw [if_neg h0,if_pos h1]; rfl
  rw [eq1]
  simp only [go_sem,reduceIte,↓reduceIte,sevalprocAttr,Z0,Z1,bytesOf,qx0,qxk,qs0,qsk,List.length_set,dF h0,dT h1]
  exact ⟨_,rfl,lent_exp (by rw [ExpD.cellsL]; exact .nl) (by rw [ExpD.cellsA]; exact .nl)⟩
 by_cases h2:tk=3
 ·have eq1:sAtIn T T.length ⟨tk,tt,tn,tp⟩ ex (adv s)=((ExpD.mk 5 tt 0 [] tp [] []),adv s):=by unfold sAtIn; rw [if_neg h0,if_neg h1,if_pos h2]; rfl
  rw [eq1]
  simp only [go_sem,reduceIte,↓reduceIte,sevalprocAttr,Z0,Z1,bytesOf,qx0,qxk,qs0,qsk,List.length_set,dF h0,dF h1,dT h2]
  exact ⟨_,rfl,lent_exp (by rw [ExpD.cellsL]; exact .nl) (by rw [ExpD.cellsA]; exact .nl)⟩
 by_cases h3:tk=4
 ·have eq1:sAtIn T T.length ⟨tk,tt,tn,tp⟩ ex (adv s)=((ExpD.mk 6 tt 0 [] tp [] []),adv s):=by unfold sAtIn; rw [if_neg h0,if_neg h1,if_neg h2,if_pos h3]; rfl
  rw [eq1]
  simp only [go_sem,reduceIte,↓reduceIte,sevalprocAttr,Z0,Z1,bytesOf,qx0,qxk,qs0,qsk,List.length_set,dF h0,dF h1,dF h2,dT h3]
  exact ⟨_,rfl,lent_exp (by rw [ExpD.cellsL]; exact .nl) (by rw [ExpD.cellsA]; exact .nl)⟩
 by_cases h4:tt=[114,101,97,100]
 ·have eq1:sAtIn T T.length ⟨tk,tt,tn,tp⟩ ex (adv s)=((ExpD.mk 15 tt 0 [] tp [] []),adv s):=by unfold sAtIn; rw [if_neg h0,if_neg h1,if_neg h2,if_neg h3,if_pos h4]; rfl
  rw [eq1]
  simp only [go_sem,reduceIte,↓reduceIte,sevalprocAttr,Z0,Z1,bytesOf,qx0,qxk,qs0,qsk,List.length_set,dF h0,dF h1,dF h2,dF h3,dT h4]
  exact ⟨_,rfl,lent_exp (by rw [ExpD.cellsL]; exact .nl) (by rw [ExpD.cellsA]; exact .nl)⟩
 by_cases h5:tt=[116,114,117,101]
 ·have eq1:sAtIn T T.length ⟨tk,tt,tn,tp⟩ ex (adv s)=((ExpD.mk 3 [] 1 [] tp [] []),adv s):=by unfold sAtIn; rw [if_neg h0,if_neg h1,if_neg h2,if_neg h3,if_neg h4,if_pos h5]; rfl
  rw [eq1]
  simp only [go_sem,reduceIte,↓reduceIte,sevalprocAttr,Z0,Z1,bytesOf,qx0,qxk,qs0,qsk,List.length_set,dF h0,dF h1,dF h2,dF h3,dF h4,dT h5]
  exact ⟨_,rfl,lent_exp (by rw [ExpD.cellsL]; exact .nl) (by rw [ExpD.cellsA]; exact .nl)⟩
 by_cases h6:tt=[102,97,108,115,101]
 ·have eq1:sAtIn T T.length ⟨tk,tt,tn,tp⟩ ex (adv s)=((ExpD.mk 3 [] 0 [] tp [] []),adv s):=by unfold sAtIn; rw [if_neg h0,if_neg h1,if_neg h2,if_neg h3,if_neg h4,if_neg h5,if_pos h6]; rfl
  rw [eq1]
  simp only [go_sem,reduceIte,↓reduceIte,sevalprocAttr,Z0,Z1,bytesOf,qx0,qxk,qs0,qsk,List.length_set,dF h0,dF h1,dF h2,dF h3,dF h4,dF h5,dT h6]
  exact ⟨_,rfl,lent_exp (by rw [ExpD.cellsL]; exact .nl) (by rw [ExpD.cellsA]; exact .nl)⟩
 simp only [go_sem,reduceIte,↓reduceIte,sevalprocAttr,Z0,Z1,bytesOf,qx0,qxk,qs0,qsk,List.length_set,dF h0,dF h1,dF h2,dF h3,dF h4,dF h5,dF h6]
 refine acall_pure (sHas hTl [41] H _ p (adv s) hp hs1) ?_
 unfold takeM
 cases hc:isT T [41] (adv s)
 rotate_left
 ·have eq1:sAtIn T T.length ⟨tk,tt,tn,tp⟩ ex (adv s)=((ExpD.mk 4 [] 0 [] tp [] []),adv (adv s)):=by unfold sAtIn; rw [if_neg h0,if_neg h1,if_neg h2,if_neg h3,if_neg h4,if_neg h5,if_neg h6,iteG_t hc]; rfl
  rw [eq1]
  simp only [go_sem,reduceIte,↓reduceIte,sevalprocAttr,Z0,Z1,bytesOf,qx0,qxk,qs0,qsk,List.length_set,hc]
  exact ⟨_,rfl,lent_exp (by rw [ExpD.cellsL]; exact .nl) (by rw [ExpD.cellsA]; exact .nl)⟩
 simp only [go_sem,reduceIte,↓reduceIte,sevalprocAttr,Z0,Z1,bytesOf,qx0,qxk,qs0,qsk,List.length_set,hc]
 refine acall_pure (hr H _ p (adv s) hp hs1) ?_
 have hs2:=hs1.run sr
 rcases hq:ex (adv s) with ⟨⟨k,n,u,t,q,ks,ms⟩,s2⟩
 rw [hq] at hs2
 rcases hR:many (isT T [44]) (advP ex) T.length s2 with ⟨Rl,Rs⟩
 have eq1:sAtIn T T.length ⟨tk,tt,tn,tp⟩ ex (adv s)=(if Rl=[] then .mk k n u t q ks ms else (ExpD.mk 7 [] 0 [] tp ((.mk k n u t q ks ms) :: Rl) []),wantP T [41] Rs):=by unfold sAtIn; rw [if_neg h0,if_neg h1,if_neg h2,if_neg h3,if_neg h4,if_neg h5,if_neg h6,iteG_f hc,bindP_e,hq,bindP_e,hR]; rfl
 rw [eq1]
 clear eq1 eq0
 simp only [go_sem,reduceIte,↓reduceIte,sevalprocAttr,Z0,Z1,bytesOf,qx0,qxk,qs0,qsk,List.length_set,ExpD.cells,Nat.add_zero]
 refine ⟨Nat × PS × List ExpD × AV × List AO,[0,2,4,5],fun x st=>(Lp (pvS T lim) T e H p [0,2] 7 ExpD.cells (isT T [44]) (advP ex) ((.mk k n u t q ks ms) :: Rl) Rs x.1 x.2.1 x.2.2.1 x.2.2.2.1 x.2.2.2.2∧x.2.2.2.2[0]?=some (.var [iV 0,sV [],iV 0,sV [],iV 0,.p .nl,.p .nl])∧x.2.2.2.2[2]?=some (.var [iV 0,sV [],iV 0,sV [],iV tp,.p .nl,.p .nl])) ∧
   st=⟨[(0,.ptr p 0),(2,.ptr H.length 0),(4,.ptr (H.length+2) 0),(5,x.2.2.2.1)],[],H.set p (pvS T lim x.2.1)++x.2.2.2.2⟩,fun x=>T.length - x.2.1.i,⟨(T.length,s2,[.mk k n u t q ks ms],.gs (H.length+3) 0 0 1,[.var [iV 0,sV [],iV 0,sV [],iV 0,.p .nl,.p .nl],.var [iV tk,sV tt,iV tn,iV tp],.var [iV 0,sV [],iV 0,sV [],iV tp,.p .nl,.p .nl],.rows 7 0 [[iV k,sV n,iV u,sV t,iV q,.p (.l (ExpD.cellsL ks)),.p (.l (ExpD.cellsA ms))]]]),?_⟩,?_⟩
 ·simp only [go_sem,reduceIte,↓reduceIte,sevalprocAttr,Z0,Z1,bytesOf,qx0,qxk,qs0,qsk,List.length_set]
  exact Lp.start1 hs2 hR (by simp) rfl (by decide)
 ·rintro ⟨j,s',acc,a,A⟩ _ ⟨⟨hL,i8,i9⟩,rfl⟩
  simp only at hL i8 i9 ⊢
  simp only [go_sem,reduceIte,↓reduceIte,sevalprocAttr,Z0,Z1,bytesOf,qx0,qxk,qs0,qsk,List.length_set]
  refine acall_pure (sHas hTl [44] H _ p s' hp hL.ok) ?_
  unfold takeM
  cases hg:isT T [44] s'
  ·obtain ⟨rfl,rfl⟩:=hL.stop hg
   have hz:∀ o,(A.set 0 o)[0]?=some o:=fun o=>set_get i8
   have hz2:∀ o,(A.set 2 o)[2]?=some o:=fun o=>set_get i9
   simp only [go_sem,reduceIte,↓reduceIte,sevalprocAttr,Z0,Z1,bytesOf,qx0,qxk,qs0,qsk,List.length_set,hg]
   refine acall_pure (sWant hTl [41] H _ p s' hp hL.ok) ?_
   simp only [go_sem,reduceIte,↓reduceIte,sevalprocAttr,Z0,Z1,bytesOf,qx0,qxk,qs0,qsk,List.length_set]
   obtain ⟨id,ver,rfl,hid⟩:∃ id ver,a=.gs id ver 0 (Rl.length+1)∧(H.set p (pvS T lim (wantP T [41] s'))++A)[id]?=some (.rows 7 ver ((((.mk k n u t q ks ms) :: Rl:List ExpD)).map fun t=>(ExpD.cells t).map .p)):=by
    rcases hL.own with ⟨_,h⟩ | ⟨id,ver,rfl,h⟩
    ·simp at h
    ·exact ⟨id,ver,by simp,by rw [q_ge (hL.ids _ _ _ _ rfl).1] at h ⊢; exact h⟩
   by_cases hRl:Rl=[]
   ·subst hRl
    rw [if_pos rfl]
    simp only [go_sem,reduceIte,↓reduceIte,sevalprocAttr,Z0,Z1,bytesOf,qx0,qxk,qs0,qsk,List.length_set,hid,i8,hz,ExpD.cells]
    intro _
    exact ⟨_,rfl,lentP (tf_av (ExpD.cells (.mk k n u t q ks ms)))⟩
   ·have d1:decide (((Rl.length+1:Nat):Int)=1)=false:=by
     have:=List.length_pos_iff.2 hRl
     simp; omega
    rw [if_neg hRl]
    have h02:∀ o,(A.set 2 o)[0]?=some _:=fun o=>get_set i8 (by decide)
    have hz02:∀ o o',((A.set 2 o).set 0 o')[0]?=some o':=fun o o'=>set_get (h02 o)
    simp only [go_sem,reduceIte,↓reduceIte,sevalprocAttr,Z0,Z1,bytesOf,qx0,qxk,qs0,qsk,List.length_set,d1,i9,i8,hz2,h02,hz02,List.set_set]
    intro _
    exact ⟨_,rfl,lent_exp (by rw [ExpD.cellsL_eq]; exact hL.lent (fun k o hk h=>get_set (get_set h (by rintro rfl; exact hk (by decide))) (by rintro rfl; exact hk (by decide))) expE7) .nl⟩
  ·obtain ⟨j,rfl⟩:=hL.succ (only_isT T _) hg
   have hsa:=hL.ok.adv hT (isT_k hg).2
   have hs3:=hsa.run sr
   have hgt:=(Stay.adv hT sr hL.ok.1 (isT_k hg).2).1
   simp only [go_sem,reduceIte,↓reduceIte,sevalprocAttr,Z0,Z1,bytesOf,qx0,qxk,qs0,qsk,List.length_set,hg]
   refine acall_pure (hr H _ p (adv s') hp hsa) ?_
   rcases hq3:ex (adv s') with ⟨⟨k,n,u,t,q,ks,ms⟩,s3⟩
   rw [hq3] at hs3 hgt
   simp only [go_sem,reduceIte,↓reduceIte,sevalprocAttr,Z0,Z1,bytesOf,qx0,qxk,qs0,qsk,List.length_set,ExpD.cells,qxa]
   refine ⟨by intro r hr; simp at hr; subst hr; rfl,?_⟩
   refine hL.app (fun k o h=>get_ext h _) hTl (by decide) ?_
   intro id ver A' k1 k2 k3
   have j0:=(k3 0 (by decide)).trans i8
   have j2:=(k3 2 (by decide)).trans i9
   have hlt2:=get_lt j2
   simp only [go_sem,reduceIte,↓reduceIte,sevalprocAttr,Z0,Z1,bytesOf,qx0,qxk,qs0,qsk,List.length_set]
   exact ⟨(j,s3,acc++[.mk k n u t q ks ms],.gs id ver 0 (acc.length+1),A'),⟨⟨hL.next (only_isT T _) hg hq3 hs3 hgt k1 k2 (fun _ _ _ h=>h) (by simp; omega),j0,j2⟩,rfl⟩,by have h1:s'.i<s3.i:=hgt; have:=hL.ok.1; simp only; omega⟩
theorem primC (s:List UInt8) (H:List AO):ACall Tryz.prog 222 [sV s] H (pureQ (bV (decide (s=[112,114,105,110,116]) || decide (s=[101,120,105,116]) || decide (s=[115,105,122,101]) || decide (s=[114,101,102]) || decide (s=[33]))) H):=by
 refine call222 (by simp) ?_
 simp only [go_sem,reduceIte,↓reduceIte,sevalprocAttr,Z0,Z1,bytesOf,mc222,mr222]
 cases h1:decide (s=[112,114,105,110,116])
 rotate_left
 ·simp only [go_sem,reduceIte,↓reduceIte,sevalprocAttr,Z0,Z1,bytesOf,h1,Bool.true_or]
  exact ⟨rfl,rfl⟩
 cases h2:decide (s=[101,120,105,116])
 rotate_left
 ·simp only [go_sem,reduceIte,↓reduceIte,sevalprocAttr,Z0,Z1,bytesOf,h1,h2,Bool.true_or,Bool.false_or]
  exact ⟨rfl,rfl⟩
 cases h3:decide (s=[115,105,122,101])
 rotate_left
 ·simp only [go_sem,reduceIte,↓reduceIte,sevalprocAttr,Z0,Z1,bytesOf,h1,h2,h3,Bool.true_or,Bool.false_or]
  exact ⟨rfl,rfl⟩
 cases h4:decide (s=[114,101,102])
 rotate_left
 ·simp only [go_sem,reduceIte,↓reduceIte,sevalprocAttr,Z0,Z1,bytesOf,h1,h2,h3,h4,Bool.true_or,Bool.false_or]
  exact ⟨rfl,rfl⟩
 simp only [go_sem,reduceIte,↓reduceIte,sevalprocAttr,Z0,Z1,bytesOf,h1,h2,h3,h4,Bool.false_or]
 exact ⟨rfl,rfl⟩
theorem primT_e {s:PS} (hc:s.c=0):primT T s=((decide ((tokA T s).k=6) || decide ((tokA T s).k=7)) && (decide ((tokA T s).t=[112,114,105,110,116]) || decide ((tokA T s).t=[101,120,105,116]) || decide ((tokA T s).t=[115,105,122,101]) || decide ((tokA T s).t=[114,101,102]) || decide ((tokA T s).t=[33]))):=by
 unfold primT isT
 rw [dT hc,Bool.true_and]
 cases (decide ((tokA T s).k=6) || decide ((tokA T s).k=7))
 ·simp
 ·simp
theorem sPreC {ex:PM ExpD} (hr:PF (pvS T lim) T e 25 [] ex expV) (sr:StayM T ex):PF (pvS T lim) T e 209 [] (sPre T T.length ex) expV:=by
 have hA:=sAtomC hT hTl hr sr
 have sA:=stay_sAtom (N:=T.length) hT sr
 refine pf_of (pvS_tf T lim) fun H p s hp hs=>?_
 refine call209 (by simp) ?_
 simp only [go_sem,reduceIte,↓reduceIte,sevalprocAttr,Z0,Z1,bytesOf,qx0,qxk,qs0,qsk,List.length_set,mc209,mr209,zl7_0]
 refine acall_pure (sNow H _ p s hp hs) ?_
 have rest:primT T s=false→sPre T T.length ex s=(if (tokA T s).k=4 then iteB (atNx T) (bindP (sAtom T T.length ex) fun a=>retP ((sAtom T T.length ex s).1.kid [a])) (retP (sAtom T T.length ex s).1) else retP (sAtom T T.length ex s).1) (sAtom T T.length ex s).2:=fun h=>by
  unfold sPre; rw [nowP_e,iteG_f h,bindP_e]
 have yes:primT T s=true→sPre T T.length ex s=(node1 15 (tokA T s).t (tokA T s).p (sAtom T T.length ex (adv s)).1,(sAtom T T.length ex (adv s)).2):=fun h=>by
  unfold sPre; rw [nowP_e,iteG_t h]; rfl
 have hpr:=fun hc:s.c=0=>primT_e hT hTl hc
 have hpc:=fun hc:s.c≠0=>show primT T s=false by unfold primT; rw [isT_c hc,isT_c hc,isT_c hc,isT_c hc,isT_c hc]; rfl
 have h8:primT T s=true→(tokA T s).k≠8:=fun h=>(only_primT s h).2
 simp only [go_sem,reduceIte,↓reduceIte,sevalprocAttr,Z0,Z1,bytesOf,qx0,qxk,qs0,qsk,List.length_set,qp hp,pvS,Tok.cells]
 generalize hx:tokA T s=x at rest yes hpr h8 ⊢
 obtain ⟨tk,tt,tn,tp⟩:=x
 simp only at rest yes hpr h8 ⊢
 cases h0:decide (s.c=0)
 ·have hf:=hpc (of_decide_eq_false h0)
  simp only [go_sem,reduceIte,↓reduceIte,sevalprocAttr,Z0,Z1,bytesOf,qx0,qxk,qs0,qsk,List.length_set,h0]
  refine acall_pure (hA H _ p s hp hs) ?_
  have hs2:=hs.run sA
  rw [rest hf]
  clear rest yes
  rcases hq:sAtom T T.length ex s with ⟨⟨k,n,u,t,q,ks,ms⟩,s2⟩
  rw [hq] at hs2
  simp only [go_sem,reduceIte,↓reduceIte,sevalprocAttr,Z0,Z1,bytesOf,qx0,qxk,qs0,qsk,List.length_set,ExpD.cells]
  by_cases h4:tk=4
  ·rw [if_pos h4]
   simp only [go_sem,reduceIte,↓reduceIte,sevalprocAttr,Z0,Z1,bytesOf,qx0,qxk,qs0,qsk,List.length_set,dT h4]
   refine acall_pure (sAtSt hT hTl H _ p s2 hp hs2) ?_
   cases hg:atNx T s2
   ·rw [iteB_f hg]
    simp only [go_sem,reduceIte,↓reduceIte,sevalprocAttr,Z0,Z1,bytesOf,qx0,qxk,qs0,qsk,List.length_set,hg]
    exact ⟨_,rfl,lentP (tf_av (ExpD.cells (.mk k n u t q ks ms)))⟩
   ·rw [iteB_t hg,bindP_e]
    simp only [go_sem,reduceIte,↓reduceIte,sevalprocAttr,Z0,Z1,bytesOf,qx0,qxk,qs0,qsk,List.length_set,hg]
    refine acall_pure (hA H _ p s2 hp hs2) ?_
    rcases hq2:sAtom T T.length ex s2 with ⟨⟨k',n',u',t',q',ks',ms'⟩,s3⟩
    simp only [go_sem,reduceIte,↓reduceIte,sevalprocAttr,Z0,Z1,bytesOf,qx0,qxk,qs0,qsk,List.length_set,ExpD.cells,Nat.add_zero]
    exact ⟨_,rfl,lent_exp (lent_rows (n:=H.length) (ys:=[ExpD.cells (.mk k' n' u' t' q' ks' ms')]) (by omega) (by rw [qxk]; rfl) (by intro y hy; simp at hy; subst hy; rfl)) (.p _)⟩
  ·rw [if_neg h4]
   simp only [go_sem,reduceIte,↓reduceIte,sevalprocAttr,Z0,Z1,bytesOf,qx0,qxk,qs0,qsk,List.length_set,dF h4]
   exact ⟨_,rfl,lentP (tf_av (ExpD.cells (.mk k n u t q ks ms)))⟩
 ·have hpr:=hpr (of_decide_eq_true h0)
  cases h67:(decide (tk=6) || decide (tk=7))
  ·have hf:primT T s=false:=by rw [hpr,h67]; rfl
   have h6:decide (tk=6)=false:=by cases h:decide (tk=6) <;> simp [h] at h67 ⊢
   have h7:decide (tk=7)=false:=by cases h:decide (tk=7) <;> simp [h] at h67 ⊢
   simp only [go_sem,reduceIte,↓reduceIte,sevalprocAttr,Z0,Z1,bytesOf,qx0,qxk,qs0,qsk,List.length_set,h0,h6,h7]
   refine acall_pure (hA H _ p s hp hs) ?_
   have hs2:=hs.run sA
   rw [rest hf]
   clear rest yes
   rcases hq:sAtom T T.length ex s with ⟨⟨k,n,u,t,q,ks,ms⟩,s2⟩
   rw [hq] at hs2
   simp only [go_sem,reduceIte,↓reduceIte,sevalprocAttr,Z0,Z1,bytesOf,qx0,qxk,qs0,qsk,List.length_set,ExpD.cells]
   by_cases h4:tk=4
   ·rw [if_pos h4]
    simp only [go_sem,reduceIte,↓reduceIte,sevalprocAttr,Z0,Z1,bytesOf,qx0,qxk,qs0,qsk,List.length_set,dT h4]
    refine acall_pure (sAtSt hT hTl H _ p s2 hp hs2) ?_
    cases hg:atNx T s2
    ·rw [iteB_f hg]
     simp only [go_sem,reduceIte,↓reduceIte,sevalprocAttr,Z0,Z1,bytesOf,qx0,qxk,qs0,qsk,List.length_set,hg]
     exact ⟨_,rfl,lentP (tf_av (ExpD.cells (.mk k n u t q ks ms)))⟩
    ·rw [iteB_t hg,bindP_e]
     simp only [go_sem,reduceIte,↓reduceIte,sevalprocAttr,Z0,Z1,bytesOf,qx0,qxk,qs0,qsk,List.length_set,hg]
     refine acall_pure (hA H _ p s2 hp hs2) ?_
     rcases hq2:sAtom T T.length ex s2 with ⟨⟨k',n',u',t',q',ks',ms'⟩,s3⟩
     simp only [go_sem,reduceIte,↓reduceIte,sevalprocAttr,Z0,Z1,bytesOf,qx0,qxk,qs0,qsk,List.length_set,ExpD.cells,Nat.add_zero]
     exact ⟨_,rfl,lent_exp (lent_rows (n:=H.length) (ys:=[ExpD.cells (.mk k' n' u' t' q' ks' ms')]) (by omega) (by rw [qxk]; rfl) (by intro y hy; simp at hy; subst hy; rfl)) (.p _)⟩
   ·rw [if_neg h4]
    simp only [go_sem,reduceIte,↓reduceIte,sevalprocAttr,Z0,Z1,bytesOf,qx0,qxk,qs0,qsk,List.length_set,dF h4]
    exact ⟨_,rfl,lentP (tf_av (ExpD.cells (.mk k n u t q ks ms)))⟩
  ·rw [h67,Bool.true_and] at hpr
   cases h6:decide (tk=6)
   ·have h7:decide (tk=7)=true:=by simpa [h6] using h67
    simp only [go_sem,reduceIte,↓reduceIte,sevalprocAttr,Z0,Z1,bytesOf,qx0,qxk,qs0,qsk,List.length_set,h0,h6,h7]
    refine acall_pure (primC hT hTl tt _) ?_
    rw [← hpr]
    cases hf:primT T s
    ·simp only [go_sem,reduceIte,↓reduceIte,sevalprocAttr,Z0,Z1,bytesOf,qx0,qxk,qs0,qsk,List.length_set,hf]
     refine acall_pure (hA H _ p s hp hs) ?_
     have hs2:=hs.run sA
     rw [rest hf]
     clear rest yes
     rcases hq:sAtom T T.length ex s with ⟨⟨k,n,u,t,q,ks,ms⟩,s2⟩
     rw [hq] at hs2
     simp only [go_sem,reduceIte,↓reduceIte,sevalprocAttr,Z0,Z1,bytesOf,qx0,qxk,qs0,qsk,List.length_set,ExpD.cells]
     by_cases h4:tk=4
     ·rw [if_pos h4]
      simp only [go_sem,reduceIte,↓reduceIte,sevalprocAttr,Z0,Z1,bytesOf,qx0,qxk,qs0,qsk,List.length_set,dT h4]
      refine acall_pure (sAtSt hT hTl H _ p s2 hp hs2) ?_
      cases hg:atNx T s2
      ·rw [iteB_f hg]
       simp only [go_sem,reduceIte,↓reduceIte,sevalprocAttr,Z0,Z1,bytesOf,qx0,qxk,qs0,qsk,List.length_set,hg]
       exact ⟨_,rfl,lentP (tf_av (ExpD.cells (.mk k n u t q ks ms)))⟩
      ·rw [iteB_t hg,bindP_e]
       simp only [go_sem,reduceIte,↓reduceIte,sevalprocAttr,Z0,Z1,bytesOf,qx0,qxk,qs0,qsk,List.length_set,hg]
       refine acall_pure (hA H _ p s2 hp hs2) ?_
       rcases hq2:sAtom T T.length ex s2 with ⟨⟨k',n',u',t',q',ks',ms'⟩,s3⟩
       simp only [go_sem,reduceIte,↓reduceIte,sevalprocAttr,Z0,Z1,bytesOf,qx0,qxk,qs0,qsk,List.length_set,ExpD.cells,Nat.add_zero]
       exact ⟨_,rfl,lent_exp (lent_rows (n:=H.length) (ys:=[ExpD.cells (.mk k' n' u' t' q' ks' ms')]) (by omega) (by rw [qxk]; rfl) (by intro y hy; simp at hy; subst hy; rfl)) (.p _)⟩
     ·rw [if_neg h4]
      simp only [go_sem,reduceIte,↓reduceIte,sevalprocAttr,Z0,Z1,bytesOf,qx0,qxk,qs0,qsk,List.length_set,dF h4]
      exact ⟨_,rfl,lentP (tf_av (ExpD.cells (.mk k n u t q ks ms)))⟩
    ·have hsa:=hs.adv hT (by rw [hx]; exact h8 hf)
     have fold:AO.var [ptV T,iV (s.i+1:Nat),iV s.nest,iV s.d,iV lim,iV s.c,iV s.ps]=pvS T lim (adv s):=rfl
     rw [yes hf]
     clear rest yes
     simp only [go_sem,reduceIte,↓reduceIte,sevalprocAttr,Z0,Z1,bytesOf,qx0,qxk,qs0,qsk,List.length_set,hf,qp hp,qq hp,ws hTl hs]
     rw [fold]
     refine ⟨_,Qp.hx hp _ _,?_⟩
     simp only [go_sem,reduceIte,↓reduceIte,sevalprocAttr,Z0,Z1,bytesOf,qx0,qxk,qs0,qsk,List.length_set]
     refine pcall_chain _ _ (by simp) (Qp.hx hp _ _) (hA.chain hp hsa) ?_
     rcases hq:sAtom T T.length ex (adv s) with ⟨⟨k,n,u,t,q,ks,ms⟩,s2⟩
     simp only [go_sem,reduceIte,↓reduceIte,sevalprocAttr,Z0,Z1,bytesOf,qx0,qxk,qs0,qsk,List.length_set,ExpD.cells,Nat.add_zero]
     exact ⟨_,rfl,lent_exp (lent_rows (n:=H.length) (ys:=[ExpD.cells (.mk k n u t q ks ms)]) (by omega) (by rw [qxk]; rfl) (by intro y hy; simp at hy; subst hy; rfl)) (by rw [ExpD.cellsA]; exact .nl)⟩
   ·simp only [go_sem,reduceIte,↓reduceIte,sevalprocAttr,Z0,Z1,bytesOf,qx0,qxk,qs0,qsk,List.length_set,h0,h6]
    refine acall_pure (primC hT hTl tt _) ?_
    rw [← hpr]
    cases hf:primT T s
    ·simp only [go_sem,reduceIte,↓reduceIte,sevalprocAttr,Z0,Z1,bytesOf,qx0,qxk,qs0,qsk,List.length_set,hf]
     refine acall_pure (hA H _ p s hp hs) ?_
     have hs2:=hs.run sA
     rw [rest hf]
     clear rest yes
     rcases hq:sAtom T T.length ex s with ⟨⟨k,n,u,t,q,ks,ms⟩,s2⟩
     rw [hq] at hs2
     simp only [go_sem,reduceIte,↓reduceIte,sevalprocAttr,Z0,Z1,bytesOf,qx0,qxk,qs0,qsk,List.length_set,ExpD.cells]
     by_cases h4:tk=4
     ·rw [if_pos h4]
      simp only [go_sem,reduceIte,↓reduceIte,sevalprocAttr,Z0,Z1,bytesOf,qx0,qxk,qs0,qsk,List.length_set,dT h4]
      refine acall_pure (sAtSt hT hTl H _ p s2 hp hs2) ?_
      cases hg:atNx T s2
      ·rw [iteB_f hg]
       simp only [go_sem,reduceIte,↓reduceIte,sevalprocAttr,Z0,Z1,bytesOf,qx0,qxk,qs0,qsk,List.length_set,hg]
       exact ⟨_,rfl,lentP (tf_av (ExpD.cells (.mk k n u t q ks ms)))⟩
      ·rw [iteB_t hg,bindP_e]
       simp only [go_sem,reduceIte,↓reduceIte,sevalprocAttr,Z0,Z1,bytesOf,qx0,qxk,qs0,qsk,List.length_set,hg]
       refine acall_pure (hA H _ p s2 hp hs2) ?_
       rcases hq2:sAtom T T.length ex s2 with ⟨⟨k',n',u',t',q',ks',ms'⟩,s3⟩
       simp only [go_sem,reduceIte,↓reduceIte,sevalprocAttr,Z0,Z1,bytesOf,qx0,qxk,qs0,qsk,List.length_set,ExpD.cells,Nat.add_zero]
       exact ⟨_,rfl,lent_exp (lent_rows (n:=H.length) (ys:=[ExpD.cells (.mk k' n' u' t' q' ks' ms')]) (by omega) (by rw [qxk]; rfl) (by intro y hy; simp at hy; subst hy; rfl)) (.p _)⟩
     ·rw [if_neg h4]
      simp only [go_sem,reduceIte,↓reduceIte,sevalprocAttr,Z0,Z1,bytesOf,qx0,qxk,qs0,qsk,List.length_set,dF h4]
      exact ⟨_,rfl,lentP (tf_av (ExpD.cells (.mk k n u t q ks ms)))⟩
    ·have hsa:=hs.adv hT (by rw [hx]; exact h8 hf)
     have fold:AO.var [ptV T,iV (s.i+1:Nat),iV s.nest,iV s.d,iV lim,iV s.c,iV s.ps]=pvS T lim (adv s):=rfl
     rw [yes hf]
     clear rest yes
     simp only [go_sem,reduceIte,↓reduceIte,sevalprocAttr,Z0,Z1,bytesOf,qx0,qxk,qs0,qsk,List.length_set,hf,qp hp,qq hp,ws hTl hs]
     rw [fold]
     refine ⟨_,Qp.hx hp _ _,?_⟩
     simp only [go_sem,reduceIte,↓reduceIte,sevalprocAttr,Z0,Z1,bytesOf,qx0,qxk,qs0,qsk,List.length_set]
     refine pcall_chain _ _ (by simp) (Qp.hx hp _ _) (hA.chain hp hsa) ?_
     rcases hq:sAtom T T.length ex (adv s) with ⟨⟨k,n,u,t,q,ks,ms⟩,s2⟩
     simp only [go_sem,reduceIte,↓reduceIte,sevalprocAttr,Z0,Z1,bytesOf,qx0,qxk,qs0,qsk,List.length_set,ExpD.cells,Nat.add_zero]
     exact ⟨_,rfl,lent_exp (lent_rows (n:=H.length) (ys:=[ExpD.cells (.mk k n u t q ks ms)]) (by omega) (by rw [qxk]; rfl) (by intro y hy; simp at hy; subst hy; rfl)) (by rw [ExpD.cellsA]; exact .nl)⟩
theorem atom_gt {ex:PM ExpD} (sr:StayM T ex) {s:PS} (hi:s.i<T.length) (hg:atNx T s=true):s.i<(sAtom T T.length ex s).2.i:=by
 unfold sAtom
 rw [nowP_e,iteG_t hg]
 have ha:=adv_at hT hi (only_atNx s hg).2
 have:=(stay_sAtIn (N:=T.length) (t:=tokA T s) hT sr) (adv s) (by simpa [adv] using ha)
 have h1:=this.1
 simp only [adv] at h1 ⊢
 omega
end
end Go.Proofs.YtghcmccjchdgeaaGreatDoor.Qp
/- The reference's parser: applications, signs. -/
set_option linter.all false
namespace Go.Proofs.YtghcmccjchdgeaaGreatDoor.Qp
open Go.AM Mc Pg
theorem LentN.keepR {n:Nat} {H H':List AO} (he:∀ (id sz ver:Nat) (rs:List (List AV)),n≤id→H[id]?=some (.rows sz ver rs)→H'[id]?=some (.rows sz ver rs)) {a b:AV} (h:LentN n H a b):LentN n H' a b:=by
 induction h with
 | tf a h=>exact .tf a h
 | nl=>exact .nl
 | gs id ver off k sz rs ys hn hid hlen hys hsz hc ih=>exact .gs id ver off k sz rs ys hn (he _ _ _ _ hn hid) hlen hys hsz ih
 | st l m hlen hc ih=>exact .st l m hlen ih
 | tup l m hlen hc ih=>exact .tup l m hlen ih
theorem LentC.get {n : Nat} {H : List AO} {l m : List AV} (h : LentC n H l m) : l.length = m.length ∧ ∀ (j : Nat) a b, l[j]? = some a → m[j]? = some b → LentN n H a b := by
  induction h with
  | nil => exact ⟨rfl, fun j a b h => by simp at h⟩
  | cons h _ ih =>
    refine ⟨by simp [ih.1], fun j a b ha hb => ?_⟩
    cases j with
    | zero => simp at ha hb; subst ha; subst hb; exact h
    | succ j => exact ih.2 j a b (by simpa using ha) (by simpa using hb)
theorem lent_rows2 {n id ver sz:Nat} {H:List AO} {r1 r2:List AV} {y1 y2:List PV} (hn:n≤id) (h:H[id]?=some (.rows sz ver [r1,r2])) (h1:LentC n H r1 (y1.map .p)) (h2:LentC n H r2 (y2.map .p)) (l1:y1.length=sz) (l2:y2.length=sz):LentN n H (.gs id ver 0 2) (.p (.l [y1,y2])):=by
 refine .gs id ver 0 2 sz _ [y1,y2] hn h (by simp) rfl (by intro y hy; simp at hy; rcases hy with rfl | rfl <;> assumption) ?_
 intro i r y j c q hr hy hc hq
 rw [Nat.zero_add] at hr
 match i with
 | 0=>cases hr; cases hy; exact h1.get.2 j c _ hc (by simp [hq])
 | 1=>cases hr; cases hy; exact h2.get.2 j c _ hc (by simp [hq])
 | i+2=>simp at hr
theorem qxa0 (H A B:List AO) (p:Nat) (c:AO):(H.set p c++(A++B))[H.length+A.length]?=B[0]?:=qxa H A B p c 0
structure Lc {α:Type} (T:List Tok) (e:Nat) (g:PS→Bool) (m:α→PM α) (R:α × PS) (j:Nat) (s:PS) (a:α):Prop where
 ok:Ok T e s
 fu:s.c=0→T.length - s.i≤j
 eq:carry g m j a s=R
section
variable {α:Type} {T:List Tok} {e:Nat} {g:PS→Bool} {m:α→PM α} {R:α × PS} {j:Nat} {s:PS} {a:α}
theorem Lc.start (hs:Ok T e s) (h:carry g m T.length a s=R):Lc T e g m R T.length s a:=⟨hs,fun _=>by omega,h⟩
theorem Lc.stop (h:Lc T e g m R j s a) (hg:g s=false):R=(a,s):=by rw [← h.eq,carry_c hg]
theorem Lc.succ (h:Lc T e g m R j s a) (ho:Only T g) (hg:g s=true):∃ j',j=j'+1:=⟨j - 1,by have:=h.fu (ho s hg).1; have:=h.ok.1; omega⟩
theorem Lc.next (h:Lc T e g m R (j+1) s a) (ho:Only T g) (hg:g s=true) {a2:α} {s2:PS} (hm:m a s=(a2,s2)) (hs2:Ok T e s2) (hgt:s.i<s2.i):Lc T e g m R j s2 a2 :=
 ⟨hs2,fun _=>by have:=h.fu (ho s hg).1; omega,by have:=h.eq; rw [carry,if_pos hg,hm] at this; exact this⟩
end
def EvA (H:List AO) (p:Nat) (c:AO) (A:List AO) (i:Nat) (x:ExpD):Prop:=∃ k n u t q ks ms a b,x=.mk k n u t q ks ms∧LentN H.length (H.set p c++A) a (.p (.l (ExpD.cellsL ks)))∧LentN H.length (H.set p c++A) b (.p (.l (ExpD.cellsA ms)))∧A[i]?=some (.var [iV k,sV n,iV u,sV t,iV q,a,b])
abbrev ZE:AO:=.var [iV 0,sV [],iV 0,sV [],iV 0,.p .nl,.p .nl]
theorem rows_keep {H A B:List AO} {p:Nat} {c d:AO} (h:∀ (k sz ver:Nat) (rs:List (List AV)),A[k]?=some (.rows sz ver rs)→B[k]?=some (.rows sz ver rs)):∀ (id sz ver:Nat) (rs:List (List AV)),H.length≤id→(H.set p c++A)[id]?=some (.rows sz ver rs)→(H.set p d++B)[id]?=some (.rows sz ver rs):=fun id sz ver rs hid hr=>by
 rw [q_ge hid] at hr ⊢
 exact h _ _ _ _ hr
theorem set_var {A:List AO} {i:Nat} {o:AO} {cs:List AV} (hi:A[i]?=some (.var cs)):∀ (k sz ver:Nat) (rs:List (List AV)),A[k]?=some (.rows sz ver rs)→(A.set i o)[k]?=some (.rows sz ver rs):=fun k sz ver rs h=>get_set h (by rintro rfl; rw [hi] at h; cases h)
theorem two_lent {H A B:List AO} {p:Nat} {c d:AO} {k u q:Int} {n t:List UInt8} {ks:List ExpD} {ms:List ArmD} {a b:AV} {y:ExpD} (ha:LentN H.length (H.set p c++A) a (.p (.l (ExpD.cellsL ks)))) (hb:LentN H.length (H.set p c++A) b (.p (.l (ExpD.cellsA ms))))
  (hk:∀ (k sz ver:Nat) (rs:List (List AV)),A[k]?=some (.rows sz ver rs)→B[k]?=some (.rows sz ver rs)) {i:Nat} (hi:B[i]?=some (.rows 7 0 [[iV k,sV n,iV u,sV t,iV q,a,b],y.cells.map .p])) :
  LentN H.length (H.set p d++B) (.gs (H.length+i) 0 0 2) (.p (.l (ExpD.cellsL [.mk k n u t q ks ms,y]))) :=
 lent_rows2 (by omega) (by rw [qxk]; exact hi) (.pc (.pc (.pc (.pc (.pc (.cons (LentN.keepR (rows_keep hk) ha) (.cons (LentN.keepR (rows_keep hk) hb) .nil))))))) (LentC.pure _) (expE7 (.mk k n u t q ks ms)) (expE7 y)
section
variable {T:List Tok} {lim e:Nat} (hT:ToksOk T) (hTl:T.length≤1048577)
include hT hTl
theorem sAppC {ex:PM ExpD} (hr:PF (pvS T lim) T e 25 [] ex expV) (sr:StayM T ex):PF (pvS T lim) T e 164 [] (sOps5 T T.length ex) expV:=by
 have hP:=sPreC hT hTl hr sr
 have sP:=stay_sPre (N:=T.length) hT sr
 have hA:=sAtomC hT hTl hr sr
 have sA:=stay_sAtom (N:=T.length) hT sr
 refine pf_of (pvS_tf T lim) fun H p s hp hs=>?_
 refine call164 (by simp) ?_
 simp only [go_sem,reduceIte,↓reduceIte,sevalprocAttr,Z0,Z1,bytesOf,qx0,qxk,qs0,qsk,List.length_set,mc164,mr164,zl7_0]
 refine acall_pure (hP H _ p s hp hs) ?_
 have hs1:=hs.run sP
 rcases hq:sPre T T.length ex s with ⟨⟨k,n,u,t,q,ks,ms⟩,s1⟩
 rw [hq] at hs1
 have eq0:sOps5 T T.length ex s=appG T T.length (sAtom T T.length ex) (.mk k n u t q ks ms) s1:=by unfold sOps5; rw [bindP_e,hq]
 rw [eq0]
 unfold appG
 generalize hR:carry (atNx T) (fun a=>bindP (sAtom T T.length ex) fun b=>retP (node2 9 [] a.pos a b)) T.length (.mk k n u t q ks ms) s1=R
 simp only [go_sem,reduceIte,↓reduceIte,sevalprocAttr,Z0,Z1,bytesOf,qx0,qxk,qs0,qsk,List.length_set,ExpD.cells]
 refine ⟨Nat × PS × ExpD × List AO,[0,2,3],fun x st=>(Lc T e (atNx T) (fun a=>bindP (sAtom T T.length ex) fun b=>retP (node2 9 [] a.pos a b)) R x.1 x.2.1 x.2.2.1∧EvA H p (pvS T lim x.2.1) x.2.2.2 1 x.2.2.1∧x.2.2.2[0]?=some ZE) ∧
   st=⟨[(0,.ptr p 0),(2,.ptr H.length 0),(3,.ptr (H.length+1) 0)],[],H.set p (pvS T lim x.2.1)++x.2.2.2⟩,fun x=>T.length - x.2.1.i,⟨(T.length,s1,.mk k n u t q ks ms,[ZE,.var [iV k,sV n,iV u,sV t,iV q,.p (.l (ExpD.cellsL ks)),.p (.l (ExpD.cellsA ms))]]),?_⟩,?_⟩
 ·simp only [go_sem,reduceIte,↓reduceIte,sevalprocAttr,Z0,Z1,bytesOf,qx0,qxk,qs0,qsk,List.length_set]
  exact ⟨Lc.start hs1 hR,_,_,_,_,_,_,_,_,_,rfl,.p _,.p _,rfl⟩
 ·rintro ⟨j,s',x,A⟩ _ ⟨⟨hL,⟨k,n,u,t,q,ks,ms,a,b,hxe,ha,hb,i9⟩,i8⟩,rfl⟩
  simp only at hL hxe ha hb i8 i9 ⊢
  subst hxe
  simp only [go_sem,reduceIte,↓reduceIte,sevalprocAttr,Z0,Z1,bytesOf,qx0,qxk,qs0,qsk,List.length_set]
  refine acall_pure (sAtSt hT hTl H _ p s' hp hL.ok) ?_
  cases hg:atNx T s'
  ·have hRe:=hL.stop hg
   subst hRe
   have hz:∀ o,(A.set 0 o)[0]?=some o:=fun o=>set_get i8
   simp only [go_sem,reduceIte,↓reduceIte,sevalprocAttr,Z0,Z1,bytesOf,qx0,qxk,qs0,qsk,List.length_set,hg,i9,i8,hz]
   exact ⟨_,rfl,lent_exp (LentN.keepR (rows_keep (set_var i8)) ha) (LentN.keepR (rows_keep (set_var i8)) hb)⟩
  ·obtain ⟨j,rfl⟩:=hL.succ only_atNx hg
   have hgt:=atom_gt hT hTl sr hL.ok.1 hg
   have hs2:=hL.ok.run sA
   simp only [go_sem,reduceIte,↓reduceIte,sevalprocAttr,Z0,Z1,bytesOf,qx0,qxk,qs0,qsk,List.length_set,hg]
   refine ⟨_,Qp.hx hp _ _,?_⟩
   simp only [go_sem,reduceIte,↓reduceIte,sevalprocAttr,Z0,Z1,bytesOf,qx0,qxk,qs0,qsk,List.length_set,i9]
   refine pcall_chain _ _ (by simp) (Qp.hx hp _ _) (hA.chain hp hL.ok) ?_
   rcases hq2:sAtom T T.length ex s' with ⟨y,s2⟩
   rw [hq2] at hgt hs2
   obtain ⟨k',n',u',t',q',ks',ms'⟩:=y
   have i8':=get_ext i8 [AO.rows 7 0 [[iV k,sV n,iV u,sV t,iV q,a,b],[iV k',sV n',iV u',sV t',iV q',.p (.l (ExpD.cellsL ks')),.p (.l (ExpD.cellsA ms'))]]]
   have i9':=get_ext i9 [AO.rows 7 0 [[iV k,sV n,iV u,sV t,iV q,a,b],[iV k',sV n',iV u',sV t',iV q',.p (.l (ExpD.cellsL ks')),.p (.l (ExpD.cellsA ms'))]]]
   simp only [go_sem,reduceIte,↓reduceIte,sevalprocAttr,Z0,Z1,bytesOf,qx0,qxk,qs0,qsk,List.length_set,ExpD.cells,i9',Nat.add_zero]
   have hne:1≠A.length:=by intro h; rw [h] at i9; simp at i9
   have hm:(fun a=>bindP (sAtom T T.length ex) fun b=>retP (node2 9 [] a.pos a b)) (ExpD.mk k n u t q ks ms) s'=(node2 9 [] q (.mk k n u t q ks ms) (.mk k' n' u' t' q' ks' ms'),s2):=by simp only [bindP_e,hq2]; rfl
   refine ⟨(j,s2,node2 9 [] q (.mk k n u t q ks ms) (.mk k' n' u' t' q' ks' ms'),_),⟨⟨hL.next only_atNx hg hm hs2 hgt,⟨9,[],0,[],q,_,[],_,.p .nl,rfl,?_,by rw [ExpD.cellsA]; exact .nl,set_get i9'⟩,get_set i8' (by decide)⟩,rfl⟩,by have h1:s'.i<s2.i:=hgt; have:=hL.ok.1; simp only; omega⟩
   exact two_lent ha hb (fun k sz ver rs h=>set_var i9' k sz ver rs (get_ext h _)) (get_set (by rw [gx0]; rfl) hne)
end
end Go.Proofs.YtghcmccjchdgeaaGreatDoor.Qp
/- The reference's parser: signs. -/
set_option linter.all false
namespace Go.Proofs.YtghcmccjchdgeaaGreatDoor.Qp
open Go.AM Mc Pg
def opB (s:List UInt8):Bool:=decide (s=[43]) || decide (s=[45]) || decide (s=[42]) || decide (s=[94]) || decide (s=[61]) || decide (s=[60]) || decide (s=[58,61])
def opLv (s:List UInt8):Int:=if s=[58,61] then 1 else if s=[61]∨s=[60] then 2 else if s=[42] then 4 else 3
def sgs:Nat→List (List UInt8)
 | 1=>[[58,61]]
 | 2=>[[61],[60]]
 | 3=>[[43],[45],[94]]
 | _=>[[42]]
theorem op_lv {L:Nat} (h1:1≤L) (h4:L≤4) (s:List UInt8):(opB s && decide (opLv s=(L:Int)))=decide (s∈sgs L):=by
 have:L=1∨L=2∨L=3∨L=4:=by omega
 by_cases e0:s=[43]
 ·subst e0
  rcases this with rfl | rfl | rfl | rfl <;> decide
 by_cases e1:s=[45]
 ·subst e1
  rcases this with rfl | rfl | rfl | rfl <;> decide
 by_cases e2:s=[42]
 ·subst e2
  rcases this with rfl | rfl | rfl | rfl <;> decide
 by_cases e3:s=[94]
 ·subst e3
  rcases this with rfl | rfl | rfl | rfl <;> decide
 by_cases e4:s=[61]
 ·subst e4
  rcases this with rfl | rfl | rfl | rfl <;> decide
 by_cases e5:s=[60]
 ·subst e5
  rcases this with rfl | rfl | rfl | rfl <;> decide
 by_cases e6:s=[58,61]
 ·subst e6
  rcases this with rfl | rfl | rfl | rfl <;> decide
 have hb:opB s=false:=by simp [opB,e0,e1,e2,e3,e4,e5,e6]
 rw [hb,Bool.false_and]
 symm
 refine decide_eq_false ?_
 rcases this with rfl | rfl | rfl | rfl <;> simp [sgs,e0,e1,e2,e3,e4,e5,e6]
theorem opBC (s:List UInt8) (H:List AO):ACall Tryz.prog 212 [sV s] H (pureQ (bV (opB s)) H):=by
 refine call212 (by simp) ?_
 unfold opB
 simp only [go_sem,reduceIte,↓reduceIte,sevalprocAttr,Z0,Z1,bytesOf,mc212,mr212]
 cases h0:decide (s=[43])
 rotate_left
 ·simp only [go_sem,reduceIte,↓reduceIte,sevalprocAttr,Z0,Z1,bytesOf,h0,Bool.true_or,Bool.false_or]
  exact ⟨rfl,rfl⟩
 cases h1:decide (s=[45])
 rotate_left
 ·simp only [go_sem,reduceIte,↓reduceIte,sevalprocAttr,Z0,Z1,bytesOf,h0,h1,Bool.true_or,Bool.false_or]
  exact ⟨rfl,rfl⟩
 cases h2:decide (s=[42])
 rotate_left
 ·simp only [go_sem,reduceIte,↓reduceIte,sevalprocAttr,Z0,Z1,bytesOf,h0,h1,h2,Bool.true_or,Bool.false_or]
  exact ⟨rfl,rfl⟩
 cases h3:decide (s=[94])
 rotate_left
 ·simp only [go_sem,reduceIte,↓reduceIte,sevalprocAttr,Z0,Z1,bytesOf,h0,h1,h2,h3,Bool.true_or,Bool.false_or]
  exact ⟨rfl,rfl⟩
 cases h4:decide (s=[61])
 rotate_left
 ·simp only [go_sem,reduceIte,↓reduceIte,sevalprocAttr,Z0,Z1,bytesOf,h0,h1,h2,h3,h4,Bool.true_or,Bool.false_or]
  exact ⟨rfl,rfl⟩
 cases h5:decide (s=[60])
 rotate_left
 ·simp only [go_sem,reduceIte,↓reduceIte,sevalprocAttr,Z0,Z1,bytesOf,h0,h1,h2,h3,h4,h5,Bool.true_or,Bool.false_or]
  exact ⟨rfl,rfl⟩
 simp only [go_sem,reduceIte,↓reduceIte,sevalprocAttr,Z0,Z1,bytesOf,h0,h1,h2,h3,h4,h5,Bool.false_or]
 exact ⟨rfl,rfl⟩
theorem opLvC (s:List UInt8) (H:List AO):ACall Tryz.prog 180 [sV s] H (pureQ (iV (opLv s)) H):=by
 refine call180 (by simp) ?_
 unfold opLv
 simp only [go_sem,reduceIte,↓reduceIte,sevalprocAttr,Z0,Z1,bytesOf,mc180,mr180]
 cases h0:decide (s=[58,61])
 rotate_left
 ·rw [if_pos (of_decide_eq_true h0)]
  simp only [go_sem,reduceIte,↓reduceIte,sevalprocAttr,Z0,Z1,bytesOf,h0]
  exact ⟨rfl,rfl⟩
 rw [if_neg (of_decide_eq_false h0)]
 cases h1:decide (s=[61])
 rotate_left
 ·rw [if_pos (.inl (of_decide_eq_true h1))]
  simp only [go_sem,reduceIte,↓reduceIte,sevalprocAttr,Z0,Z1,bytesOf,h0,h1]
  exact ⟨rfl,rfl⟩
 cases h2:decide (s=[60])
 rotate_left
 ·rw [if_pos (.inr (of_decide_eq_true h2))]
  simp only [go_sem,reduceIte,↓reduceIte,sevalprocAttr,Z0,Z1,bytesOf,h0,h1,h2]
  exact ⟨rfl,rfl⟩
 rw [if_neg (by rw [not_or]; exact ⟨of_decide_eq_false h1,of_decide_eq_false h2⟩)]
 cases h3:decide (s=[42])
 rotate_left
 ·rw [if_pos (of_decide_eq_true h3)]
  simp only [go_sem,reduceIte,↓reduceIte,sevalprocAttr,Z0,Z1,bytesOf,h0,h1,h2,h3]
  exact ⟨rfl,rfl⟩
 rw [if_neg (of_decide_eq_false h3)]
 simp only [go_sem,reduceIte,↓reduceIte,sevalprocAttr,Z0,Z1,bytesOf,h0,h1,h2,h3]
 exact ⟨rfl,rfl⟩
section
variable {T:List Tok} {lim e:Nat} (hT:ToksOk T) (hTl:T.length≤1048577)
include hT hTl
theorem sSign {L:Nat} (h1:1≤L) (h4:L≤4):PF (pvS T lim) T e 165 [iV L] (testM (opT T (sgs L))) bV:=by
 refine pf_of (pvS_tf T lim) fun H p s hp hs=>?_
 refine call165 (by simp) ?_
 simp only [go_sem,reduceIte,↓reduceIte,sevalprocAttr,Z0,Z1,bytesOf,qx0,qxk,qs0,qsk,List.length_set,mc165,mr165]
 refine acall_pure (sNow.nil hp hs) ?_
 unfold opT isK
 rw [← op_lv h1 h4]
 simp only [go_sem,reduceIte,↓reduceIte,sevalprocAttr,Z0,Z1,bytesOf,qx0,qxk,qs0,qsk,List.length_set,qp hp,pvS,Tok.cells]
 cases h0:decide (s.c=0)
 ·simp only [go_sem,reduceIte,↓reduceIte,sevalprocAttr,Z0,Z1,bytesOf,qx0,qxk,qs0,qsk,List.length_set,h0,Bool.false_and]
  exact ⟨_,rfl,lentP (tf_p _)⟩
 cases h7:decide ((tokA T s).k=7)
 ·simp only [go_sem,reduceIte,↓reduceIte,sevalprocAttr,Z0,Z1,bytesOf,qx0,qxk,qs0,qsk,List.length_set,h0,h7,Bool.false_and,Bool.and_false]
  exact ⟨_,rfl,lentP (tf_p _)⟩
 simp only [go_sem,reduceIte,↓reduceIte,sevalprocAttr,Z0,Z1,bytesOf,qx0,qxk,qs0,qsk,List.length_set,h0,h7]
 refine acall_pure (opBC _ _) ?_
 cases hb:opB (tokA T s).t
 ·simp only [go_sem,reduceIte,↓reduceIte,sevalprocAttr,Z0,Z1,bytesOf,qx0,qxk,qs0,qsk,List.length_set,hb,Bool.false_and,Bool.and_false]
  exact ⟨_,rfl,lentP (tf_p _)⟩
 simp only [go_sem,reduceIte,↓reduceIte,sevalprocAttr,Z0,Z1,bytesOf,qx0,qxk,qs0,qsk,List.length_set,hb]
 refine acall_pure (opLvC _ _) ?_
 simp only [go_sem,reduceIte,↓reduceIte,sevalprocAttr,Z0,Z1,bytesOf,qx0,qxk,qs0,qsk,List.length_set,Bool.true_and]
 exact ⟨_,rfl,lentP (tf_p _)⟩
theorem sOps5C {ex:PM ExpD} (hr:PF (pvS T lim) T e 25 [] ex expV) (sr:StayM T ex):PF (pvS T lim) T e 108 [iV 5] (sOps5 T T.length ex) expV:=by
 have hA:=sAppC hT hTl hr sr
 refine pf_of (pvS_tf T lim) fun H p s hp hs=>?_
 refine call108 (by simp) ?_
 simp only [go_sem,reduceIte,↓reduceIte,sevalprocAttr,Z0,Z1,bytesOf,qx0,qxk,qs0,qsk,List.length_set,mc108,mr108,zl7_0]
 refine acall_pure (hA H _ p s hp hs) ?_
 rcases hq:sOps5 T T.length ex s with ⟨⟨k,n,u,t,q,ks,ms⟩,s1⟩
 simp only [go_sem,reduceIte,↓reduceIte,sevalprocAttr,Z0,Z1,bytesOf,qx0,qxk,qs0,qsk,List.length_set,ExpD.cells]
 exact ⟨_,rfl,lentP (tf_av (ExpD.cells (.mk k n u t q ks ms)))⟩
theorem sOps4C {ex : PM ExpD} (hr : PF (pvS T lim) T e 108 [iV 5] (sOps5 T T.length ex) expV) (sr : StayM T ex) : PF (pvS T lim) T e 108 [iV 4] (sOps4 T T.length ex) expV := by
  have sA := stay_sOps5 (N := T.length) hT sr
  refine pf_of (pvS_tf T lim) fun H p s hp hs => ?_
  have ew : wr .i64 (4 + 1) = 5 := by decide
  refine call108 (by simp) ?_
  simp only [go_sem, reduceIte, ↓reduceIte, sevalprocAttr, Z0, Z1, bytesOf, qx0, qxk, qs0, qsk, List.length_set, mc108, mr108, zl7_0, ew]
  refine acall_pure (hr H _ p s hp hs) ?_
  have hs1 := hs.run sA
  rcases hq : sOps5 T T.length ex s with ⟨⟨k, n, u, t, q, ks, ms⟩, s1⟩
  rw [hq] at hs1
  have eq0 : sOps4 T T.length ex s = rowG T T.length (sgs 4) (sOps5 T T.length ex) (.mk k n u t q ks ms) s1 := by unfold sOps4; rw [bindP_e, hq]; rfl
  rw [eq0]
  unfold rowG
  generalize hR : carry (opT T (sgs 4)) (fun a => nowP T fun t => advP (bindP (sOps5 T T.length ex) fun b => retP (node2 14 t.t t.p a b))) T.length (.mk k n u t q ks ms) s1 = R
  simp only [go_sem, reduceIte, ↓reduceIte, sevalprocAttr, Z0, Z1, bytesOf, qx0, qxk, qs0, qsk, List.length_set, ExpD.cells]
  refine ⟨Nat × PS × ExpD × List AO, [0, 1, 4, 5], fun x st => (Lc T e (opT T (sgs 4)) (fun a => nowP T fun t => advP (bindP (sOps5 T T.length ex) fun b => retP (node2 14 t.t t.p a b))) R x.1 x.2.1 x.2.2.1 ∧ EvA H p (pvS T lim x.2.1) x.2.2.2 1 x.2.2.1 ∧ x.2.2.2[0]? = some ZE) ∧
      st = ⟨[(0, .ptr p 0), (1, iV 4), (4, .ptr H.length 0), (5, .ptr (H.length + 1) 0)], [], H.set p (pvS T lim x.2.1) ++ x.2.2.2⟩, fun x => T.length - x.2.1.i, ⟨(T.length, s1, .mk k n u t q ks ms, [ZE, .var [iV k, sV n, iV u, sV t, iV q, .p (.l (ExpD.cellsL ks)), .p (.l (ExpD.cellsA ms))]]), ?_⟩, ?_⟩
  · simp only [go_sem, reduceIte, ↓reduceIte, sevalprocAttr, Z0, Z1, bytesOf, qx0, qxk, qs0, qsk, List.length_set]
    exact ⟨Lc.start hs1 hR, _, _, _, _, _, _, _, _, _, rfl, .p _, .p _, rfl⟩
  · rintro ⟨j, s', x, A⟩ _ ⟨⟨hL, ⟨k, n, u, t, q, ks, ms, a, b, hxe, ha, hb, i9⟩, i8⟩, rfl⟩
    simp only at hL hxe ha hb i8 i9 ⊢
    subst hxe
    simp only [go_sem, reduceIte, ↓reduceIte, sevalprocAttr, Z0, Z1, bytesOf, qx0, qxk, qs0, qsk, List.length_set]
    refine acall_pure (sSign hT hTl (L := 4) (by decide) (by decide) H _ p s' hp hL.ok) ?_
    cases hg : opT T (sgs 4) s'
    · have hRe := hL.stop hg
      subst hRe
      have hz : ∀ o, (A.set 0 o)[0]? = some o := fun o => set_get i8
      simp only [go_sem, reduceIte, ↓reduceIte, sevalprocAttr, Z0, Z1, bytesOf, qx0, qxk, qs0, qsk, List.length_set, hg, i9, i8, hz]
      exact ⟨_, rfl, lent_exp (LentN.keepR (rows_keep (set_var i8)) ha) (LentN.keepR (rows_keep (set_var i8)) hb)⟩
    · obtain ⟨j, rfl⟩ := hL.succ (only_opT _) hg
      have hk8 := (only_opT _ s' hg).2
      have hsa := hL.ok.adv hT hk8
      have hs2 := hsa.run sA
      have hgt := (Stay.adv hT sA hL.ok.1 hk8).1
      simp only [go_sem, reduceIte, ↓reduceIte, sevalprocAttr, Z0, Z1, bytesOf, qx0, qxk, qs0, qsk, List.length_set, hg]
      refine acall_pure (sNow H _ p s' hp hL.ok) ?_
      have hm0 : ∀ r, sOps5 T T.length ex (adv s') = r → (fun a => nowP T fun t => advP (bindP (sOps5 T T.length ex) fun b => retP (node2 14 t.t t.p a b))) (ExpD.mk k n u t q ks ms) s' = (node2 14 (tokA T s').t (tokA T s').p (.mk k n u t q ks ms) r.1, r.2) := fun r h => by simp only [nowP_e, advP, bindP_e, h]; rfl
      simp only [go_sem, reduceIte, ↓reduceIte, sevalprocAttr, Z0, Z1, bytesOf, qx0, qxk, qs0, qsk, List.length_set, Tok.cells, qp hp, pvS, qq hp, ws hTl hL.ok]
      generalize hx : tokA T s' = x at hm0 ⊢
      obtain ⟨tk, tt, tn, tp⟩ := x
      have fold : AO.var [ptV T, iV (s'.i + 1 : Nat), iV s'.nest, iV s'.d, iV lim, iV s'.c, iV s'.ps] = pvS T lim (adv s') := rfl
      rw [fold]
      have i8' := get_ext i8 [AO.var [iV tk, sV tt, iV tn, iV tp]]
      have i9' := get_ext i9 [AO.var [iV tk, sV tt, iV tn, iV tp]]
      refine ⟨_, Qp.hx hp _ _, ?_⟩
      simp only [go_sem, reduceIte, ↓reduceIte, sevalprocAttr, Z0, Z1, bytesOf, qx0, qxk, qs0, qsk, List.length_set, i9', qxa, qxa0, ew]
      refine pcall_chain _ _ (by simp) (Qp.hx hp _ _) (hr.chain hp hsa) ?_
      rcases hq2 : sOps5 T T.length ex (adv s') with ⟨y, s2⟩
      rw [hq2] at hgt hs2
      have hm := hm0 _ hq2
      obtain ⟨k', n', u', t', q', ks', ms'⟩ := y
      have i8' := get_ext i8 [AO.var [iV tk, sV tt, iV tn, iV tp], AO.rows 7 0 [[iV k, sV n, iV u, sV t, iV q, a, b], [iV k', sV n', iV u', sV t', iV q', .p (.l (ExpD.cellsL ks')), .p (.l (ExpD.cellsA ms'))]]]
      have i9' := get_ext i9 [AO.var [iV tk, sV tt, iV tn, iV tp], AO.rows 7 0 [[iV k, sV n, iV u, sV t, iV q, a, b], [iV k', sV n', iV u', sV t', iV q', .p (.l (ExpD.cellsL ks')), .p (.l (ExpD.cellsA ms'))]]]
      simp only [go_sem, reduceIte, ↓reduceIte, sevalprocAttr, Z0, Z1, bytesOf, qx0, qxk, qs0, qsk, List.length_set, ExpD.cells, i9', Nat.add_zero]
      have hne : 1 ≠ A.length + 1 := by intro h; have : A.length = 0 := by omega
                                        rw [List.length_eq_zero_iff.1 this] at i9; simp at i9
      refine ⟨(j, s2, node2 14 tt tp (.mk k n u t q ks ms) (.mk k' n' u' t' q' ks' ms'), _), ⟨⟨hL.next (only_opT _) hg hm hs2 hgt, ⟨14, tt, 0, [], tp, _, [], _, .p .nl, rfl, ?_, by rw [ExpD.cellsA]; exact .nl, set_get i9'⟩, get_set i8' (by decide)⟩, rfl⟩, by have h1 : s'.i < s2.i := hgt; have := hL.ok.1; simp only; omega⟩
      exact two_lent ha hb (fun k sz ver rs h => set_var i9' k sz ver rs (get_ext h _)) (get_set (by rw [gxk]; rfl) hne)
theorem sOps3C {ex : PM ExpD} (hr : PF (pvS T lim) T e 108 [iV 4] (sOps4 T T.length ex) expV) (sr : StayM T ex) : PF (pvS T lim) T e 108 [iV 3] (sOps3 T T.length ex) expV := by
  have sA := stay_sOps4 (N := T.length) hT sr
  refine pf_of (pvS_tf T lim) fun H p s hp hs => ?_
  have ew : wr .i64 (3 + 1) = 4 := by decide
  refine call108 (by simp) ?_
  simp only [go_sem, reduceIte, ↓reduceIte, sevalprocAttr, Z0, Z1, bytesOf, qx0, qxk, qs0, qsk, List.length_set, mc108, mr108, zl7_0, ew]
  refine acall_pure (hr H _ p s hp hs) ?_
  have hs1 := hs.run sA
  rcases hq : sOps4 T T.length ex s with ⟨⟨k, n, u, t, q, ks, ms⟩, s1⟩
  rw [hq] at hs1
  have eq0 : sOps3 T T.length ex s = rowG T T.length (sgs 3) (sOps4 T T.length ex) (.mk k n u t q ks ms) s1 := by unfold sOps3; rw [bindP_e, hq]; rfl
  rw [eq0]
  unfold rowG
  generalize hR : carry (opT T (sgs 3)) (fun a => nowP T fun t => advP (bindP (sOps4 T T.length ex) fun b => retP (node2 14 t.t t.p a b))) T.length (.mk k n u t q ks ms) s1 = R
  simp only [go_sem, reduceIte, ↓reduceIte, sevalprocAttr, Z0, Z1, bytesOf, qx0, qxk, qs0, qsk, List.length_set, ExpD.cells]
  refine ⟨Nat × PS × ExpD × List AO, [0, 1, 4, 5], fun x st => (Lc T e (opT T (sgs 3)) (fun a => nowP T fun t => advP (bindP (sOps4 T T.length ex) fun b => retP (node2 14 t.t t.p a b))) R x.1 x.2.1 x.2.2.1 ∧ EvA H p (pvS T lim x.2.1) x.2.2.2 1 x.2.2.1 ∧ x.2.2.2[0]? = some ZE) ∧
      st = ⟨[(0, .ptr p 0), (1, iV 3), (4, .ptr H.length 0), (5, .ptr (H.length + 1) 0)], [], H.set p (pvS T lim x.2.1) ++ x.2.2.2⟩, fun x => T.length - x.2.1.i, ⟨(T.length, s1, .mk k n u t q ks ms, [ZE, .var [iV k, sV n, iV u, sV t, iV q, .p (.l (ExpD.cellsL ks)), .p (.l (ExpD.cellsA ms))]]), ?_⟩, ?_⟩
  · simp only [go_sem, reduceIte, ↓reduceIte, sevalprocAttr, Z0, Z1, bytesOf, qx0, qxk, qs0, qsk, List.length_set]
    exact ⟨Lc.start hs1 hR, _, _, _, _, _, _, _, _, _, rfl, .p _, .p _, rfl⟩
  · rintro ⟨j, s', x, A⟩ _ ⟨⟨hL, ⟨k, n, u, t, q, ks, ms, a, b, hxe, ha, hb, i9⟩, i8⟩, rfl⟩
    simp only at hL hxe ha hb i8 i9 ⊢
    subst hxe
    simp only [go_sem, reduceIte, ↓reduceIte, sevalprocAttr, Z0, Z1, bytesOf, qx0, qxk, qs0, qsk, List.length_set]
    refine acall_pure (sSign hT hTl (L := 3) (by decide) (by decide) H _ p s' hp hL.ok) ?_
    cases hg : opT T (sgs 3) s'
    · have hRe := hL.stop hg
      subst hRe
      have hz : ∀ o, (A.set 0 o)[0]? = some o := fun o => set_get i8
      simp only [go_sem, reduceIte, ↓reduceIte, sevalprocAttr, Z0, Z1, bytesOf, qx0, qxk, qs0, qsk, List.length_set, hg, i9, i8, hz]
      exact ⟨_, rfl, lent_exp (LentN.keepR (rows_keep (set_var i8)) ha) (LentN.keepR (rows_keep (set_var i8)) hb)⟩
    · obtain ⟨j, rfl⟩ := hL.succ (only_opT _) hg
      have hk8 := (only_opT _ s' hg).2
      have hsa := hL.ok.adv hT hk8
      have hs2 := hsa.run sA
      have hgt := (Stay.adv hT sA hL.ok.1 hk8).1
      simp only [go_sem, reduceIte, ↓reduceIte, sevalprocAttr, Z0, Z1, bytesOf, qx0, qxk, qs0, qsk, List.length_set, hg]
      refine acall_pure (sNow H _ p s' hp hL.ok) ?_
      have hm0 : ∀ r, sOps4 T T.length ex (adv s') = r → (fun a => nowP T fun t => advP (bindP (sOps4 T T.length ex) fun b => retP (node2 14 t.t t.p a b))) (ExpD.mk k n u t q ks ms) s' = (node2 14 (tokA T s').t (tokA T s').p (.mk k n u t q ks ms) r.1, r.2) := fun r h => by simp only [nowP_e, advP, bindP_e, h]; rfl
      simp only [go_sem, reduceIte, ↓reduceIte, sevalprocAttr, Z0, Z1, bytesOf, qx0, qxk, qs0, qsk, List.length_set, Tok.cells, qp hp, pvS, qq hp, ws hTl hL.ok]
      generalize hx : tokA T s' = x at hm0 ⊢
      obtain ⟨tk, tt, tn, tp⟩ := x
      have fold : AO.var [ptV T, iV (s'.i + 1 : Nat), iV s'.nest, iV s'.d, iV lim, iV s'.c, iV s'.ps] = pvS T lim (adv s') := rfl
      rw [fold]
      have i8' := get_ext i8 [AO.var [iV tk, sV tt, iV tn, iV tp]]
      have i9' := get_ext i9 [AO.var [iV tk, sV tt, iV tn, iV tp]]
      refine ⟨_, Qp.hx hp _ _, ?_⟩
      simp only [go_sem, reduceIte, ↓reduceIte, sevalprocAttr, Z0, Z1, bytesOf, qx0, qxk, qs0, qsk, List.length_set, i9', qxa, qxa0, ew]
      refine pcall_chain _ _ (by simp) (Qp.hx hp _ _) (hr.chain hp hsa) ?_
      rcases hq2 : sOps4 T T.length ex (adv s') with ⟨y, s2⟩
      rw [hq2] at hgt hs2
      have hm := hm0 _ hq2
      obtain ⟨k', n', u', t', q', ks', ms'⟩ := y
      have i8' := get_ext i8 [AO.var [iV tk, sV tt, iV tn, iV tp], AO.rows 7 0 [[iV k, sV n, iV u, sV t, iV q, a, b], [iV k', sV n', iV u', sV t', iV q', .p (.l (ExpD.cellsL ks')), .p (.l (ExpD.cellsA ms'))]]]
      have i9' := get_ext i9 [AO.var [iV tk, sV tt, iV tn, iV tp], AO.rows 7 0 [[iV k, sV n, iV u, sV t, iV q, a, b], [iV k', sV n', iV u', sV t', iV q', .p (.l (ExpD.cellsL ks')), .p (.l (ExpD.cellsA ms'))]]]
      simp only [go_sem, reduceIte, ↓reduceIte, sevalprocAttr, Z0, Z1, bytesOf, qx0, qxk, qs0, qsk, List.length_set, ExpD.cells, i9', Nat.add_zero]
      have hne : 1 ≠ A.length + 1 := by intro h; have : A.length = 0 := by omega
                                        rw [List.length_eq_zero_iff.1 this] at i9; simp at i9
      refine ⟨(j, s2, node2 14 tt tp (.mk k n u t q ks ms) (.mk k' n' u' t' q' ks' ms'), _), ⟨⟨hL.next (only_opT _) hg hm hs2 hgt, ⟨14, tt, 0, [], tp, _, [], _, .p .nl, rfl, ?_, by rw [ExpD.cellsA]; exact .nl, set_get i9'⟩, get_set i8' (by decide)⟩, rfl⟩, by have h1 : s'.i < s2.i := hgt; have := hL.ok.1; simp only; omega⟩
      exact two_lent ha hb (fun k sz ver rs h => set_var i9' k sz ver rs (get_ext h _)) (get_set (by rw [gxk]; rfl) hne)
theorem sOps2C {ex:PM ExpD} (hr:PF (pvS T lim) T e 108 [iV 3] (sOps3 T T.length ex) expV) (sr:StayM T ex):PF (pvS T lim) T e 108 [iV 2] (sOps2 T T.length ex) expV:=by
 have sA:=stay_sOps3 (N:=T.length) hT sr
 refine pf_of (pvS_tf T lim) fun H p s hp hs=>?_
 have ew:wr .i64 (2+1)=3:=by decide
 refine call108 (by simp) ?_
 simp only [go_sem,reduceIte,↓reduceIte,sevalprocAttr,Z0,Z1,bytesOf,qx0,qxk,qs0,qsk,List.length_set,mc108,mr108,zl7_0,ew]
 refine acall_pure (hr H _ p s hp hs) ?_
 have hs1:=hs.run sA
 rcases hq:sOps3 T T.length ex s with ⟨⟨k,n,u,t,q,ks,ms⟩,s1⟩
 rw [hq] at hs1
 rw [show sOps2 T T.length ex s=onceG T (opT T (sgs 2)) (sOps3 T T.length ex) (.mk k n u t q ks ms) s1 by unfold sOps2; rw [bindP_e,hq]; rfl]
 unfold onceG
 rw [nowP_e]
 simp only [go_sem,reduceIte,↓reduceIte,sevalprocAttr,Z0,Z1,bytesOf,qx0,qxk,qs0,qsk,List.length_set,ExpD.cells]
 refine ⟨Unit,[0,1,4,5],fun _ st=>st=⟨[(0,.ptr p 0),(1,iV 2),(4,.ptr H.length 0),(5,.ptr (H.length+1) 0)],[],H.set p (pvS T lim s1)++[ZE,.var [iV k,sV n,iV u,sV t,iV q,.p (.l (ExpD.cellsL ks)),.p (.l (ExpD.cellsA ms))]]⟩,fun _=>0,⟨(),?_⟩,?_⟩
 ·simp only [go_sem,reduceIte,↓reduceIte,sevalprocAttr,Z0,Z1,bytesOf,qx0,qxk,qs0,qsk,List.length_set]
 ·rintro _ _ rfl
  simp only [go_sem,reduceIte,↓reduceIte,sevalprocAttr,Z0,Z1,bytesOf,qx0,qxk,qs0,qsk,List.length_set]
  refine acall_pure (sSign hT hTl (L:=2) (by decide) (by decide) H _ p s1 hp hs1) ?_
  cases hg:opT T (sgs 2) s1
  ·rw [iteG_f hg]
   simp only [go_sem,reduceIte,↓reduceIte,sevalprocAttr,Z0,Z1,bytesOf,qx0,qxk,qs0,qsk,List.length_set,hg]
   exact ⟨_,rfl,lentP (tf_av (ExpD.cells (.mk k n u t q ks ms)))⟩
  ·have hk8:=(only_opT _ s1 hg).2
   have hsa:=hs1.adv hT hk8
   rw [iteG_t hg]
   simp only [go_sem,reduceIte,↓reduceIte,sevalprocAttr,Z0,Z1,bytesOf,qx0,qxk,qs0,qsk,List.length_set,hg]
   refine acall_pure (sNow H _ p s1 hp hs1) ?_
   simp only [go_sem,reduceIte,↓reduceIte,sevalprocAttr,Z0,Z1,bytesOf,qx0,qxk,qs0,qsk,List.length_set,Tok.cells,qp hp,pvS,qq hp,ws hTl hs1]
   generalize hx:tokA T s1=x
   obtain ⟨tk,tt,tn,tp⟩:=x
   have fold:AO.var [ptV T,iV (s1.i+1:Nat),iV s1.nest,iV s1.d,iV lim,iV s1.c,iV s1.ps]=pvS T lim (adv s1):=rfl
   rw [fold]
   refine ⟨_,Qp.hx hp _ _,?_⟩
   simp only [go_sem,reduceIte,↓reduceIte,sevalprocAttr,Z0,Z1,bytesOf,qx0,qxk,qs0,qsk,List.length_set,ew]
   refine pcall_chain _ _ (by simp) (Qp.hx hp _ _) (hr.chain hp hsa) ?_
   rw [bindP_e]
   rcases hq2:sOps3 T T.length ex (adv s1) with ⟨⟨k',n',u',t',q',ks',ms'⟩,s2⟩
   simp only [go_sem,reduceIte,↓reduceIte,sevalprocAttr,Z0,Z1,bytesOf,qx0,qxk,qs0,qsk,List.length_set,ExpD.cells,Nat.add_zero]
   exact ⟨_,rfl,lent_exp (lent_rows (n:=H.length) (ys:=[ExpD.cells (.mk k n u t q ks ms),ExpD.cells (.mk k' n' u' t' q' ks' ms')]) (by omega) (by rw [qxk]; rfl) (by intro y hy; simp at hy; rcases hy with rfl | rfl <;> rfl)) (by rw [ExpD.cellsA]; exact .nl)⟩
theorem sOps1C {ex:PM ExpD} (hr:PF (pvS T lim) T e 108 [iV 2] (sOps2 T T.length ex) expV) (sr:StayM T ex):PF (pvS T lim) T e 108 [iV 1] (sOps1 T T.length ex) expV:=by
 have sA:=stay_sOps2 (N:=T.length) hT sr
 refine pf_of (pvS_tf T lim) fun H p s hp hs=>?_
 have ew:wr .i64 (1+1)=2:=by decide
 refine call108 (by simp) ?_
 simp only [go_sem,reduceIte,↓reduceIte,sevalprocAttr,Z0,Z1,bytesOf,qx0,qxk,qs0,qsk,List.length_set,mc108,mr108,zl7_0,ew]
 refine acall_pure (hr H _ p s hp hs) ?_
 have hs1:=hs.run sA
 rcases hq:sOps2 T T.length ex s with ⟨⟨k,n,u,t,q,ks,ms⟩,s1⟩
 rw [hq] at hs1
 rw [show sOps1 T T.length ex s=onceG T (opT T (sgs 1)) (sOps2 T T.length ex) (.mk k n u t q ks ms) s1 by unfold sOps1; rw [bindP_e,hq]; rfl]
 unfold onceG
 rw [nowP_e]
 simp only [go_sem,reduceIte,↓reduceIte,sevalprocAttr,Z0,Z1,bytesOf,qx0,qxk,qs0,qsk,List.length_set,ExpD.cells]
 refine ⟨Unit,[0,1,4,5],fun _ st=>st=⟨[(0,.ptr p 0),(1,iV 1),(4,.ptr H.length 0),(5,.ptr (H.length+1) 0)],[],H.set p (pvS T lim s1)++[ZE,.var [iV k,sV n,iV u,sV t,iV q,.p (.l (ExpD.cellsL ks)),.p (.l (ExpD.cellsA ms))]]⟩,fun _=>0,⟨(),?_⟩,?_⟩
 ·simp only [go_sem,reduceIte,↓reduceIte,sevalprocAttr,Z0,Z1,bytesOf,qx0,qxk,qs0,qsk,List.length_set]
 ·rintro _ _ rfl
  simp only [go_sem,reduceIte,↓reduceIte,sevalprocAttr,Z0,Z1,bytesOf,qx0,qxk,qs0,qsk,List.length_set]
  refine acall_pure (sSign hT hTl (L:=1) (by decide) (by decide) H _ p s1 hp hs1) ?_
  cases hg:opT T (sgs 1) s1
  ·rw [iteG_f hg]
   simp only [go_sem,reduceIte,↓reduceIte,sevalprocAttr,Z0,Z1,bytesOf,qx0,qxk,qs0,qsk,List.length_set,hg]
   exact ⟨_,rfl,lentP (tf_av (ExpD.cells (.mk k n u t q ks ms)))⟩
  ·have hk8:=(only_opT _ s1 hg).2
   have hsa:=hs1.adv hT hk8
   rw [iteG_t hg]
   simp only [go_sem,reduceIte,↓reduceIte,sevalprocAttr,Z0,Z1,bytesOf,qx0,qxk,qs0,qsk,List.length_set,hg]
   refine acall_pure (sNow H _ p s1 hp hs1) ?_
   simp only [go_sem,reduceIte,↓reduceIte,sevalprocAttr,Z0,Z1,bytesOf,qx0,qxk,qs0,qsk,List.length_set,Tok.cells,qp hp,pvS,qq hp,ws hTl hs1]
   generalize hx:tokA T s1=x
   obtain ⟨tk,tt,tn,tp⟩:=x
   have fold:AO.var [ptV T,iV (s1.i+1:Nat),iV s1.nest,iV s1.d,iV lim,iV s1.c,iV s1.ps]=pvS T lim (adv s1):=rfl
   rw [fold]
   refine ⟨_,Qp.hx hp _ _,?_⟩
   simp only [go_sem,reduceIte,↓reduceIte,sevalprocAttr,Z0,Z1,bytesOf,qx0,qxk,qs0,qsk,List.length_set,ew]
   refine pcall_chain _ _ (by simp) (Qp.hx hp _ _) (hr.chain hp hsa) ?_
   rw [bindP_e]
   rcases hq2:sOps2 T T.length ex (adv s1) with ⟨⟨k',n',u',t',q',ks',ms'⟩,s2⟩
   simp only [go_sem,reduceIte,↓reduceIte,sevalprocAttr,Z0,Z1,bytesOf,qx0,qxk,qs0,qsk,List.length_set,ExpD.cells,Nat.add_zero]
   exact ⟨_,rfl,lent_exp (lent_rows (n:=H.length) (ys:=[ExpD.cells (.mk k n u t q ks ms),ExpD.cells (.mk k' n' u' t' q' ks' ms')]) (by omega) (by rw [qxk]; rfl) (by intro y hy; simp at hy; rcases hy with rfl | rfl <;> rfl)) (by rw [ExpD.cellsA]; exact .nl)⟩
end
end Go.Proofs.YtghcmccjchdgeaaGreatDoor.Qp
/- The reference's parser: expressions. -/
set_option linter.all false
namespace Go.Proofs.YtghcmccjchdgeaaGreatDoor.Qp
open Go.AM Mc Pg
abbrev armV (t:ArmD):AV:=.st (t.cells.map .p)
theorem armE (t:ArmD):t.cells.length=12:=by
 obtain ⟨p,x⟩:=t
 rw [ArmD.cells,List.length_append,patE5,expE7]
def sIn (T:List Tok) (N:Nat) (pat:PM PatD) (ex:PM ExpD):PM ExpD:=nowP T fun t =>
 iteG (isT T [108,101,116]) (letP T ex t.p) <| iteG (isT T [102,117,110]) (funP T ex t.p) <| iteG (isT T [105,102]) (ifP T ex t.p) <|
 iteG (isT T [109,97,116,99,104]) (sMatch T N pat ex t.p) (sOps1 T N ex)
section
variable {T:List Tok} {lim e:Nat} (hT:ToksOk T) (hTl:T.length≤1048577)
include hT hTl
theorem stay_sIn {pat:PM PatD} {ex:PM ExpD} (hpat:StayM T pat) (hex:StayM T ex):StayM T (sIn T T.length pat ex) :=
 (StayM.now fun _=>(StayM.iteG hT (only_isT T _) (stay_letP hT hex) (StayM.iteG hT (only_isT T _) (stay_funP hT hex) (StayM.iteG hT (only_isT T _) (stay_ifP hT hex) (StayM.iteG hT (only_isT T _) (stay_sMatch hT hpat hex) (stay_sOps1 hT hex))))))
theorem sArmC {pat:PM PatD} {ex:PM ExpD} (hP:PF (pvS T lim) T e 163 [] pat patV) (sP:StayM T pat) (hr:PF (pvS T lim) T e 25 [] ex expV) (sr:StayM T ex):PF (pvS T lim) T e 107 [] (armP T pat ex) armV:=by
 refine pf_of (pvS_tf T lim) fun H p s hp hs=>?_
 refine call107 (by simp) ?_
 simp only [go_sem,reduceIte,↓reduceIte,sevalprocAttr,Z0,Z1,bytesOf,qx0,qxk,qs0,qsk,List.length_set,mc107,mr107,zl7_0,zl7_3]
 refine acall_pure (hP H _ p s hp hs) ?_
 have hs1:=hs.run sP
 rcases hq:pat s with ⟨⟨k,n,u,q,ks⟩,s1⟩
 rw [hq] at hs1
 simp only [go_sem,reduceIte,↓reduceIte,sevalprocAttr,Z0,Z1,bytesOf,qx0,qxk,qs0,qsk,List.length_set,PatD.cells]
 refine acall_pure (sWant hTl [45,62] H _ p s1 hp hs1) ?_
 have hs2:=hs1.step (stay_want hT [45,62])
 simp only [go_sem,reduceIte,↓reduceIte,sevalprocAttr,Z0,Z1,bytesOf,qx0,qxk,qs0,qsk,List.length_set]
 refine acall_pure (hr H _ p _ hp hs2) ?_
 rcases hq2:ex (wantP T [45,62] s1) with ⟨⟨k',n',u',t',q',ks',ms'⟩,s3⟩
 have eq0:armP T pat ex s=(.mk (.mk k n u q ks) (.mk k' n' u' t' q' ks' ms'),s3):=by unfold armP; rw [bindP_e,hq,stepP_e,bindP_e,hq2]; rfl
 rw [eq0]
 simp only [go_sem,reduceIte,↓reduceIte,sevalprocAttr,Z0,Z1,bytesOf,qx0,qxk,qs0,qsk,List.length_set,ExpD.cells]
 exact ⟨_,rfl,lentP (tf_av (ArmD.cells (.mk (.mk k n u q ks) (.mk k' n' u' t' q' ks' ms'))))⟩
theorem sInC {pat:PM PatD} {ex:PM ExpD} (hP:PF (pvS T lim) T e 163 [] pat patV) (sP:StayM T pat) (hr:PF (pvS T lim) T e 25 [] ex expV) (sr:StayM T ex):PF (pvS T lim) T e 54 [] (sIn T T.length pat ex) expV:=by
 have hO:=sOps1C hT hTl (sOps2C hT hTl (sOps3C hT hTl (sOps4C hT hTl (sOps5C hT hTl hr sr) sr) sr) sr) sr
 have hArm:=sArmC hT hTl hP sP hr sr
 have sArm:=stay_armP hT sP sr
 refine pf_of (pvS_tf T lim) fun H p s hp hs=>?_
 refine call54 (by simp) ?_
 simp only [go_sem,reduceIte,↓reduceIte,sevalprocAttr,Z0,Z1,bytesOf,qx0,qxk,qs0,qsk,List.length_set,mc54,mr54,zl7_0,zl7_3]
 refine acall_pure (sNow H _ p s hp hs) ?_
 unfold sIn
 rw [nowP_e]
 simp only [go_sem,reduceIte,↓reduceIte,sevalprocAttr,Z0,Z1,bytesOf,qx0,qxk,qs0,qsk,List.length_set,Tok.cells]
 generalize (tokA T s).p=tp
 refine acall_pure (sHas hTl [108,101,116] H _ p s hp hs) ?_
 unfold takeM
 cases c1:isT T [108,101,116] s
 rotate_left
 ·rw [iteG_t c1]
  have hs1:=hs.adv hT (isT_k c1).2
  simp only [go_sem,reduceIte,↓reduceIte,sevalprocAttr,Z0,Z1,bytesOf,qx0,qxk,qs0,qsk,List.length_set,c1]
  refine acall_pure (sHas hTl [114,101,99] H _ p _ hp hs1) ?_
  unfold letP takeM
  cases c2:isT T [114,101,99] (adv s)
  ·rw [iteG_f c2]
   simp only [go_sem,reduceIte,↓reduceIte,sevalprocAttr,Z0,Z1,bytesOf,qx0,qxk,qs0,qsk,List.length_set,c2]
   refine acall_pure (sWord hTl 3 H _ p _ hp hs1) ?_
   have hs2:=hs1.run (StayM.word hT (k:=3) (by decide))
   rcases hq2:wordP T 3 (adv s) with ⟨w1,s2⟩
   rw [hq2] at hs2
   simp only [go_sem,reduceIte,↓reduceIte,sevalprocAttr,Z0,Z1,bytesOf,qx0,qxk,qs0,qsk,List.length_set]
   refine acall_pure (sWant hTl [61] H _ p _ hp hs2) ?_
   have hs3w:=hs2.step (stay_want hT [61])
   simp only [go_sem,reduceIte,↓reduceIte,sevalprocAttr,Z0,Z1,bytesOf,qx0,qxk,qs0,qsk,List.length_set]
   refine ⟨_,Qp.hx hp _ _,?_⟩
   simp only [go_sem,reduceIte,↓reduceIte,sevalprocAttr,Z0,Z1,bytesOf,qx0,qxk,qs0,qsk,List.length_set]
   refine pcall_chain _ _ (by simp) (Qp.hx hp _ _) (hr.chain hp hs3w) ?_
   have hs4:=hs3w.run sr
   rcases hq4:ex (wantP T [61] s2) with ⟨⟨k1,n1,u1,t1,q1,ks1,ms1⟩,s4⟩
   rw [hq4] at hs4
   simp only [go_sem,reduceIte,↓reduceIte,sevalprocAttr,Z0,Z1,bytesOf,qx0,qxk,qs0,qsk,List.length_set,ExpD.cells,Nat.add_zero]
   refine ⟨by intro r hr; simp at hr; subst hr; rfl,?_⟩
   refine acall_pure (sWant hTl [105,110] H _ p _ hp hs4) ?_
   have hs5w:=hs4.step (stay_want hT [105,110])
   simp only [go_sem,reduceIte,↓reduceIte,sevalprocAttr,Z0,Z1,bytesOf,qx0,qxk,qs0,qsk,List.length_set]
   refine ⟨_,Qp.hx hp _ _,?_⟩
   simp only [go_sem,reduceIte,↓reduceIte,sevalprocAttr,Z0,Z1,bytesOf,qx0,qxk,qs0,qsk,List.length_set]
   refine pcall_chain _ _ (by simp) (Qp.hx hp _ _) (hr.chain hp hs5w) ?_
   have hs6:=hs5w.run sr
   rcases hq6:ex (wantP T [105,110] s4) with ⟨⟨k2,n2,u2,t2,q2,ks2,ms2⟩,s6⟩
   rw [hq6] at hs6
   simp only [go_sem,reduceIte,↓reduceIte,sevalprocAttr,Z0,Z1,bytesOf,qx0,qxk,qs0,qsk,List.length_set,ExpD.cells,Nat.add_zero]
   refine ⟨by intro r hr; simp at hr; subst hr; rfl,?_⟩
   simp only [bindP_e,stepP_e,retP_e,hq2,hq4,hq6]
   exact ⟨_,rfl,lent_exp (lent_rows (n:=H.length) (ys:=[ExpD.cells (.mk k1 n1 u1 t1 q1 ks1 ms1),ExpD.cells (.mk k2 n2 u2 t2 q2 ks2 ms2)]) (by omega) (by rw [qxk]; rfl) (by intro y hy; simp at hy; rcases hy with rfl | rfl <;> rfl)) (by rw [ExpD.cellsA]; exact .nl)⟩
  ·rw [iteG_t c2]
   have hs1:=hs1.adv hT (isT_k c2).2
   simp only [go_sem,reduceIte,↓reduceIte,sevalprocAttr,Z0,Z1,bytesOf,qx0,qxk,qs0,qsk,List.length_set,c2]
   refine acall_pure (sWord hTl 3 H _ p _ hp hs1) ?_
   have hs2:=hs1.run (StayM.word hT (k:=3) (by decide))
   rcases hq2:wordP T 3 (adv (adv s)) with ⟨w1,s2⟩
   rw [hq2] at hs2
   simp only [go_sem,reduceIte,↓reduceIte,sevalprocAttr,Z0,Z1,bytesOf,qx0,qxk,qs0,qsk,List.length_set]
   refine acall_pure (sWord hTl 3 H _ p _ hp hs2) ?_
   have hs3:=hs2.run (StayM.word hT (k:=3) (by decide))
   rcases hq3:wordP T 3 s2 with ⟨w2,s3⟩
   rw [hq3] at hs3
   simp only [go_sem,reduceIte,↓reduceIte,sevalprocAttr,Z0,Z1,bytesOf,qx0,qxk,qs0,qsk,List.length_set]
   refine acall_pure (sWant hTl [61] H _ p _ hp hs3) ?_
   have hs4w:=hs3.step (stay_want hT [61])
   simp only [go_sem,reduceIte,↓reduceIte,sevalprocAttr,Z0,Z1,bytesOf,qx0,qxk,qs0,qsk,List.length_set]
   refine ⟨_,Qp.hx hp _ _,?_⟩
   simp only [go_sem,reduceIte,↓reduceIte,sevalprocAttr,Z0,Z1,bytesOf,qx0,qxk,qs0,qsk,List.length_set]
   refine pcall_chain _ _ (by simp) (Qp.hx hp _ _) (hr.chain hp hs4w) ?_
   have hs5:=hs4w.run sr
   rcases hq5:ex (wantP T [61] s3) with ⟨⟨k1,n1,u1,t1,q1,ks1,ms1⟩,s5⟩
   rw [hq5] at hs5
   simp only [go_sem,reduceIte,↓reduceIte,sevalprocAttr,Z0,Z1,bytesOf,qx0,qxk,qs0,qsk,List.length_set,ExpD.cells,Nat.add_zero]
   refine ⟨by intro r hr; simp at hr; subst hr; rfl,?_⟩
   refine acall_pure (sWant hTl [105,110] H _ p _ hp hs5) ?_
   have hs6w:=hs5.step (stay_want hT [105,110])
   simp only [go_sem,reduceIte,↓reduceIte,sevalprocAttr,Z0,Z1,bytesOf,qx0,qxk,qs0,qsk,List.length_set]
   refine ⟨_,Qp.hx hp _ _,?_⟩
   simp only [go_sem,reduceIte,↓reduceIte,sevalprocAttr,Z0,Z1,bytesOf,qx0,qxk,qs0,qsk,List.length_set]
   refine pcall_chain _ _ (by simp) (Qp.hx hp _ _) (hr.chain hp hs6w) ?_
   have hs7:=hs6w.run sr
   rcases hq7:ex (wantP T [105,110] s5) with ⟨⟨k2,n2,u2,t2,q2,ks2,ms2⟩,s7⟩
   rw [hq7] at hs7
   simp only [go_sem,reduceIte,↓reduceIte,sevalprocAttr,Z0,Z1,bytesOf,qx0,qxk,qs0,qsk,List.length_set,ExpD.cells,Nat.add_zero]
   refine ⟨by intro r hr; simp at hr; subst hr; rfl,?_⟩
   simp only [bindP_e,stepP_e,retP_e,hq2,hq3,hq5,hq7]
   exact ⟨_,rfl,lent_exp (lent_rows (n:=H.length) (ys:=[ExpD.cells (.mk k1 n1 u1 t1 q1 ks1 ms1),ExpD.cells (.mk k2 n2 u2 t2 q2 ks2 ms2)]) (by omega) (by rw [qxk]; rfl) (by intro y hy; simp at hy; rcases hy with rfl | rfl <;> rfl)) (by rw [ExpD.cellsA]; exact .nl)⟩
 rw [iteG_f c1]
 simp only [go_sem,reduceIte,↓reduceIte,sevalprocAttr,Z0,Z1,bytesOf,qx0,qxk,qs0,qsk,List.length_set,c1]
 refine acall_pure (sHas hTl [102,117,110] H _ p s hp hs) ?_
 unfold takeM
 cases c2:isT T [102,117,110] s
 rotate_left
 ·rw [iteG_t c2]
  have hs1:=hs.adv hT (isT_k c2).2
  unfold funP
  simp only [go_sem,reduceIte,↓reduceIte,sevalprocAttr,Z0,Z1,bytesOf,qx0,qxk,qs0,qsk,List.length_set,c2]
  refine acall_pure (sWord hTl 3 H _ p _ hp hs1) ?_
  have hs2:=hs1.run (StayM.word hT (k:=3) (by decide))
  rcases hq2:wordP T 3 (adv s) with ⟨w1,s2⟩
  rw [hq2] at hs2
  simp only [go_sem,reduceIte,↓reduceIte,sevalprocAttr,Z0,Z1,bytesOf,qx0,qxk,qs0,qsk,List.length_set]
  refine acall_pure (sWant hTl [45,62] H _ p _ hp hs2) ?_
  have hs3w:=hs2.step (stay_want hT [45,62])
  simp only [go_sem,reduceIte,↓reduceIte,sevalprocAttr,Z0,Z1,bytesOf,qx0,qxk,qs0,qsk,List.length_set]
  refine ⟨_,Qp.hx hp _ _,?_⟩
  simp only [go_sem,reduceIte,↓reduceIte,sevalprocAttr,Z0,Z1,bytesOf,qx0,qxk,qs0,qsk,List.length_set]
  refine pcall_chain _ _ (by simp) (Qp.hx hp _ _) (hr.chain hp hs3w) ?_
  have hs4:=hs3w.run sr
  rcases hq4:ex (wantP T [45,62] s2) with ⟨⟨k1,n1,u1,t1,q1,ks1,ms1⟩,s4⟩
  rw [hq4] at hs4
  simp only [go_sem,reduceIte,↓reduceIte,sevalprocAttr,Z0,Z1,bytesOf,qx0,qxk,qs0,qsk,List.length_set,ExpD.cells,Nat.add_zero]
  refine ⟨by intro r hr; simp at hr; subst hr; rfl,?_⟩
  simp only [bindP_e,stepP_e,retP_e,hq2,hq4]
  exact ⟨_,rfl,lent_exp (lent_rows (n:=H.length) (ys:=[ExpD.cells (.mk k1 n1 u1 t1 q1 ks1 ms1)]) (by omega) (by rw [qxk]; rfl) (by intro y hy; simp at hy; subst hy; rfl)) (by rw [ExpD.cellsA]; exact .nl)⟩
 rw [iteG_f c2]
 simp only [go_sem,reduceIte,↓reduceIte,sevalprocAttr,Z0,Z1,bytesOf,qx0,qxk,qs0,qsk,List.length_set,c2]
 refine acall_pure (sHas hTl [105,102] H _ p s hp hs) ?_
 unfold takeM
 cases c3:isT T [105,102] s
 rotate_left
 ·rw [iteG_t c3]
  have hs1:=hs.adv hT (isT_k c3).2
  unfold ifP
  simp only [go_sem,reduceIte,↓reduceIte,sevalprocAttr,Z0,Z1,bytesOf,qx0,qxk,qs0,qsk,List.length_set,c3]
  refine ⟨_,Qp.hx hp _ _,?_⟩
  simp only [go_sem,reduceIte,↓reduceIte,sevalprocAttr,Z0,Z1,bytesOf,qx0,qxk,qs0,qsk,List.length_set]
  refine pcall_chain _ _ (by simp) (Qp.hx hp _ _) (hr.chain hp hs1) ?_
  have hs2:=hs1.run sr
  rcases hq2:ex (adv s) with ⟨⟨k1,n1,u1,t1,q1,ks1,ms1⟩,s2⟩
  rw [hq2] at hs2
  simp only [go_sem,reduceIte,↓reduceIte,sevalprocAttr,Z0,Z1,bytesOf,qx0,qxk,qs0,qsk,List.length_set,ExpD.cells,Nat.add_zero]
  refine ⟨by intro r hr; simp at hr; subst hr; rfl,?_⟩
  refine acall_pure (sWant hTl [116,104,101,110] H _ p _ hp hs2) ?_
  have hs3w:=hs2.step (stay_want hT [116,104,101,110])
  simp only [go_sem,reduceIte,↓reduceIte,sevalprocAttr,Z0,Z1,bytesOf,qx0,qxk,qs0,qsk,List.length_set]
  refine ⟨_,Qp.hx hp _ _,?_⟩
  simp only [go_sem,reduceIte,↓reduceIte,sevalprocAttr,Z0,Z1,bytesOf,qx0,qxk,qs0,qsk,List.length_set]
  refine pcall_chain _ _ (by simp) (Qp.hx hp _ _) (hr.chain hp hs3w) ?_
  have hs4:=hs3w.run sr
  rcases hq4:ex (wantP T [116,104,101,110] s2) with ⟨⟨k2,n2,u2,t2,q2,ks2,ms2⟩,s4⟩
  rw [hq4] at hs4
  simp only [go_sem,reduceIte,↓reduceIte,sevalprocAttr,Z0,Z1,bytesOf,qx0,qxk,qs0,qsk,List.length_set,ExpD.cells,Nat.add_zero]
  refine ⟨by intro r hr; simp at hr; subst hr; rfl,?_⟩
  refine acall_pure (sWant hTl [101,108,115,101] H _ p _ hp hs4) ?_
  have hs5w:=hs4.step (stay_want hT [101,108,115,101])
  simp only [go_sem,reduceIte,↓reduceIte,sevalprocAttr,Z0,Z1,bytesOf,qx0,qxk,qs0,qsk,List.length_set]
  refine ⟨_,Qp.hx hp _ _,?_⟩
  simp only [go_sem,reduceIte,↓reduceIte,sevalprocAttr,Z0,Z1,bytesOf,qx0,qxk,qs0,qsk,List.length_set]
  refine pcall_chain _ _ (by simp) (Qp.hx hp _ _) (hr.chain hp hs5w) ?_
  have hs6:=hs5w.run sr
  rcases hq6:ex (wantP T [101,108,115,101] s4) with ⟨⟨k3,n3,u3,t3,q3,ks3,ms3⟩,s6⟩
  rw [hq6] at hs6
  simp only [go_sem,reduceIte,↓reduceIte,sevalprocAttr,Z0,Z1,bytesOf,qx0,qxk,qs0,qsk,List.length_set,ExpD.cells,Nat.add_zero]
  refine ⟨by intro r hr; simp at hr; subst hr; rfl,?_⟩
  simp only [bindP_e,stepP_e,retP_e,hq2,hq4,hq6]
  exact ⟨_,rfl,lent_exp (lent_rows (n:=H.length) (ys:=[ExpD.cells (.mk k1 n1 u1 t1 q1 ks1 ms1),ExpD.cells (.mk k2 n2 u2 t2 q2 ks2 ms2),ExpD.cells (.mk k3 n3 u3 t3 q3 ks3 ms3)]) (by omega) (by rw [qxk]; rfl) (by intro y hy; simp at hy; rcases hy with rfl | rfl | rfl <;> rfl)) (by rw [ExpD.cellsA]; exact .nl)⟩
 rw [iteG_f c3]
 simp only [go_sem,reduceIte,↓reduceIte,sevalprocAttr,Z0,Z1,bytesOf,qx0,qxk,qs0,qsk,List.length_set,c3]
 refine acall_pure (sHas hTl [109,97,116,99,104] H _ p s hp hs) ?_
 unfold takeM
 cases c4:isT T [109,97,116,99,104] s
 ·rw [iteG_f c4]
  simp only [go_sem,reduceIte,↓reduceIte,sevalprocAttr,Z0,Z1,bytesOf,qx0,qxk,qs0,qsk,List.length_set,c4]
  refine acall_pure (hO H _ p s hp hs) ?_
  rcases hq:sOps1 T T.length ex s with ⟨⟨k,n,u,t,q,ks,ms⟩,s1⟩
  simp only [go_sem,reduceIte,↓reduceIte,sevalprocAttr,Z0,Z1,bytesOf,qx0,qxk,qs0,qsk,List.length_set,ExpD.cells]
  exact ⟨_,rfl,lentP (tf_av (ExpD.cells (.mk k n u t q ks ms)))⟩
 ·rw [iteG_t c4]
  have hs1:=hs.adv hT (isT_k c4).2
  unfold sMatch
  simp only [go_sem,reduceIte,↓reduceIte,sevalprocAttr,Z0,Z1,bytesOf,qx0,qxk,qs0,qsk,List.length_set,c4]
  refine ⟨_,Qp.hx hp _ _,?_⟩
  simp only [go_sem,reduceIte,↓reduceIte,sevalprocAttr,Z0,Z1,bytesOf,qx0,qxk,qs0,qsk,List.length_set]
  refine pcall_chain _ _ (by simp) (Qp.hx hp _ _) (hr.chain hp hs1) ?_
  have hs2:=hs1.run sr
  rcases hq2:ex (adv s) with ⟨⟨k1,n1,u1,t1,q1,ks1,ms1⟩,s2⟩
  rw [hq2] at hs2
  simp only [go_sem,reduceIte,↓reduceIte,sevalprocAttr,Z0,Z1,bytesOf,qx0,qxk,qs0,qsk,List.length_set,ExpD.cells,Nat.add_zero]
  refine ⟨by intro r hr; simp at hr; subst hr; rfl,?_⟩
  refine acall_pure (sWant hTl [119,105,116,104] H _ p _ hp hs2) ?_
  have hs3w:=hs2.step (stay_want hT [119,105,116,104])
  simp only [go_sem,reduceIte,↓reduceIte,sevalprocAttr,Z0,Z1,bytesOf,qx0,qxk,qs0,qsk,List.length_set]
  refine acall_pure (sWant hTl [124] H _ p _ hp hs3w) ?_
  have hs4w:=hs3w.step (stay_want hT [124])
  simp only [go_sem,reduceIte,↓reduceIte,sevalprocAttr,Z0,Z1,bytesOf,qx0,qxk,qs0,qsk,List.length_set]
  refine ⟨_,Qp.hx hp _ _,?_⟩
  simp only [go_sem,reduceIte,↓reduceIte,sevalprocAttr,Z0,Z1,bytesOf,qx0,qxk,qs0,qsk,List.length_set]
  refine pcall_chain _ _ (by simp) (Qp.hx hp _ _) (hArm.chain hp hs4w) ?_
  have hs5:=hs4w.run sArm
  rcases hq5:armP T pat ex (wantP T [124] (wantP T [119,105,116,104] s2)) with ⟨⟨⟨pk,pn,pu,pq,pks⟩,⟨ak,an,au,at',aq,aks,ams⟩⟩,s5⟩
  rw [hq5] at hs5
  simp only [go_sem,reduceIte,↓reduceIte,sevalprocAttr,Z0,Z1,bytesOf,qx0,qxk,qs0,qsk,List.length_set,ArmD.cells,PatD.cells,ExpD.cells,Nat.add_zero]
  refine ⟨by intro r hr; simp at hr; subst hr; rfl,?_⟩
  rcases hR:many (isT T [124]) (advP (armP T pat ex)) T.length s5 with ⟨Rl,Rs⟩
  simp only [bindP_e,stepP_e,retP_e,armsP,hq2,hq5,hR]
  refine ⟨Nat × PS × List ArmD × AV × List AO,[0,2,3],fun x st=>(Lp (pvS T lim) T e H p [0,1,3] 12 ArmD.cells (isT T [124]) (advP (armP T pat ex)) ((.mk (.mk pk pn pu pq pks) (.mk ak an au at' aq aks ams)) :: Rl) Rs x.1 x.2.1 x.2.2.1 x.2.2.2.1 x.2.2.2.2∧x.2.2.2.2[0]?=some ZE∧x.2.2.2.2[1]?=some (.var [iV 13,sV [],iV 0,sV [],iV tp,.gs (H.length+3) 0 0 1,x.2.2.2.1])∧x.2.2.2.2[3]?=some (.rows 7 0 [[iV k1,sV n1,iV u1,sV t1,iV q1,.p (.l (ExpD.cellsL ks1)),.p (.l (ExpD.cellsA ms1))]])) ∧
    st=⟨[(0,.ptr p 0),(2,.ptr H.length 0),(3,.ptr (H.length+1) 0)],[],H.set p (pvS T lim x.2.1)++x.2.2.2.2⟩,fun x=>T.length - x.2.1.i,⟨(T.length,s5,[(.mk (.mk pk pn pu pq pks) (.mk ak an au at' aq aks ams))],.gs (H.length+5) 0 0 1,[ZE,.var [iV 13,sV [],iV 0,sV [],iV tp,.gs (H.length+3) 0 0 1,.gs (H.length+5) 0 0 1],.rows 7 0 [[iV k1,sV n1,iV u1,sV t1,iV q1,.p (.l (ExpD.cellsL ks1)),.p (.l (ExpD.cellsA ms1))]],.rows 7 0 [[iV k1,sV n1,iV u1,sV t1,iV q1,.p (.l (ExpD.cellsL ks1)),.p (.l (ExpD.cellsA ms1))]],.rows 12 0 [[iV pk,sV pn,iV pu,iV pq,.p (.l (PatD.cellsL pks)),iV ak,sV an,iV au,sV at',iV aq,.p (.l (ExpD.cellsL aks)),.p (.l (ExpD.cellsA ams))]],.rows 12 0 [[iV pk,sV pn,iV pu,iV pq,.p (.l (PatD.cellsL pks)),iV ak,sV an,iV au,sV at',iV aq,.p (.l (ExpD.cellsL aks)),.p (.l (ExpD.cellsA ams))]]]),?_⟩,?_⟩
  ·simp only [go_sem,reduceIte,↓reduceIte,sevalprocAttr,Z0,Z1,bytesOf,qx0,qxk,qs0,qsk,List.length_set]
   exact Lp.start1 hs5 hR (by simp) rfl (by decide)
  ·rintro ⟨j,s',acc,a,A⟩ _ ⟨⟨hL,i8,i9,i10⟩,rfl⟩
   simp only at hL i8 i9 i10 ⊢
   simp only [go_sem,reduceIte,↓reduceIte,sevalprocAttr,Z0,Z1,bytesOf,qx0,qxk,qs0,qsk,List.length_set]
   refine acall_pure (sHas hTl [124] H _ p s' hp hL.ok) ?_
   unfold takeM
   cases hg:isT T [124] s'
   ·obtain ⟨rfl,rfl⟩:=hL.stop hg
    have hz:∀ o,(A.set 0 o)[0]?=some o:=fun o=>set_get i8
    simp only [go_sem,reduceIte,↓reduceIte,sevalprocAttr,Z0,Z1,bytesOf,qx0,qxk,qs0,qsk,List.length_set,hg]
    refine acall_pure (sWant hTl [101,110,100] H _ p s' hp hL.ok) ?_
    simp only [go_sem,reduceIte,↓reduceIte,sevalprocAttr,Z0,Z1,bytesOf,qx0,qxk,qs0,qsk,List.length_set,i9,i8,hz]
    exact ⟨_,rfl,lent_exp (lent_rows (n:=H.length) (ys:=[ExpD.cells (.mk k1 n1 u1 t1 q1 ks1 ms1)]) (by omega) (by rw [qxk]; exact get_set i10 (by decide)) (by intro y hy; simp at hy; subst hy; rfl)) (by rw [ExpD.cellsA_eq]; exact hL.lent (set_keep (by decide)) armE)⟩
   ·obtain ⟨j,rfl⟩:=hL.succ (only_isT T _) hg
    have hsa:=hL.ok.adv hT (isT_k hg).2
    have hs2:=hsa.run sArm
    have hgt:=(Stay.adv hT sArm hL.ok.1 (isT_k hg).2).1
    simp only [go_sem,reduceIte,↓reduceIte,sevalprocAttr,Z0,Z1,bytesOf,qx0,qxk,qs0,qsk,List.length_set,hg]
    refine ⟨_,Qp.hx hp _ _,?_⟩
    simp only [go_sem,reduceIte,↓reduceIte,sevalprocAttr,Z0,Z1,bytesOf,qx0,qxk,qs0,qsk,List.length_set,i9]
    refine pcall_chain _ _ (by simp) (Qp.hx hp _ _) (hArm.chain hp hsa) ?_
    rcases hq9:armP T pat ex (adv s') with ⟨⟨⟨bk,bn,bu,bq,bks⟩,⟨ck,cn,cu,ct,cq,cks,cms⟩⟩,s9⟩
    rw [hq9] at hs2 hgt
    simp only [go_sem,reduceIte,↓reduceIte,sevalprocAttr,Z0,Z1,bytesOf,qx0,qxk,qs0,qsk,List.length_set,ArmD.cells,PatD.cells,ExpD.cells,qxa]
    refine ⟨by intro r hr; simp at hr; subst hr; rfl,?_⟩
    refine hL.app (fun k o h=>get_ext h _) hTl (by decide) ?_
    intro id ver A' k1' k2' k3'
    have j0:=(k3' 0 (by decide)).trans i8
    have j1:=(k3' 1 (by decide)).trans i9
    have j3:=(k3' 3 (by decide)).trans i10
    have hlt3:=get_lt j3
    have hz:∀ o,(A'.set 1 o)[1]?=some o:=fun o=>set_get j1
    simp only [go_sem,reduceIte,↓reduceIte,sevalprocAttr,Z0,Z1,bytesOf,qx0,qxk,qs0,qsk,List.length_set,j1]
    exact ⟨(j,s9,acc++[.mk (.mk bk bn bu bq bks) (.mk ck cn cu ct cq cks cms)],.gs id ver 0 (acc.length+1),A'.set 1 (.var [iV 13,sV [],iV 0,sV [],iV tp,.gs (H.length+3) 0 0 1,.gs id ver 0 (acc.length+1)])),⟨⟨hL.next (only_isT T _) hg hq9 hs2 hgt k1' k2' (set_keep (by decide)) (by simp; omega),get_set j0 (by decide),hz _,get_set j3 (by decide)⟩,rfl⟩,by have h1:s'.i<s9.i:=hgt; have:=hL.ok.1; simp only; omega⟩
theorem sExpC (hl:lim≤1099511627776) (he:e≤lim) {pat:PM PatD} {ex:PM ExpD} (hP:e<lim→PF (pvS T lim) T (e+1) 163 [] pat patV) (sP:StayM T pat) (hr:e<lim→PF (pvS T lim) T (e+1) 25 [] ex expV) (sr:StayM T ex):PF (pvS T lim) T e 25 [] (sExpB T T.length lim pat ex) expV:=by
 have sA:=stay_sIn hT hTl sP sr
 refine pf_of (pvS_tf T lim) fun H p s hp hs=>?_
 obtain ⟨o1,o2,o3⟩:=opens_ok (lim:=lim) hT hTl hs
 have hi:=hs.1
 have hn:=hs.2
 refine call25 (by simp) ?_
 simp only [go_sem,reduceIte,↓reduceIte,sevalprocAttr,Z0,Z1,bytesOf,qx0,qxk,qs0,qsk,List.length_set,mc25,mr25,zl7_0]
 refine acall_pure (sOpens hl he H _ p s hp hs) ?_
 have eq0:sExpB T T.length lim pat ex s=opnP T lim exp0 (sIn T T.length pat ex) s:=rfl
 rw [eq0]
 unfold opnP
 cases hc:decide ((opensP T lim s).c=0)
 ·rw [if_neg (of_decide_eq_false hc)]
  simp only [go_sem,reduceIte,↓reduceIte,sevalprocAttr,Z0,Z1,bytesOf,qx0,qxk,qs0,qsk,List.length_set,hc]
  refine acall_pure (sShut hl H _ p (opensP T lim s) hp (by omega) (by omega) (by omega)) ?_
  simp only [go_sem,reduceIte,↓reduceIte,sevalprocAttr,Z0,Z1,bytesOf,qx0,qxk,qs0,qsk,List.length_set]
  exact ⟨_,rfl,lent_exp (by rw [ExpD.cellsL]; exact .nl) (by rw [ExpD.cellsA]; exact .nl)⟩
 ·obtain ⟨hs1,hne⟩:=o3 (of_decide_eq_true hc)
  have hA:=sInC hT hTl (hP (by omega)) sP (hr (by omega)) sr
  rw [if_pos (of_decide_eq_true hc)]
  simp only [go_sem,reduceIte,↓reduceIte,sevalprocAttr,Z0,Z1,bytesOf,qx0,qxk,qs0,qsk,List.length_set,hc]
  refine acall_pure (hA H _ p _ hp hs1) ?_
  have hs2:=hs1.run sA
  have st2:=sA _ hs1.1
  rcases hq:sIn T T.length pat ex (opensP T lim s) with ⟨⟨k,n,u,t,q,ks,ms⟩,s2⟩
  rw [hq] at hs2 st2
  have hn2:s2.nest=s.nest+1:=st2.2.2.2.trans o2
  simp only [go_sem,reduceIte,↓reduceIte,sevalprocAttr,Z0,Z1,bytesOf,qx0,qxk,qs0,qsk,List.length_set,ExpD.cells]
  refine acall_pure (sShut hl H _ p s2 hp hs2.1 (by omega) (by omega)) ?_
  simp only [go_sem,reduceIte,↓reduceIte,sevalprocAttr,Z0,Z1,bytesOf,qx0,qxk,qs0,qsk,List.length_set]
  exact ⟨_,rfl,lentP (tf_av (ExpD.cells (.mk k n u t q ks ms)))⟩
theorem sExpK (hl:lim≤1099511627776):∀ k e,e+k=lim+1→0<k→PF (pvS T lim) T e 25 [] (sExp T T.length lim k) expV
 | 0,e,_,h=>absurd h (by omega)
 | k+1,e,h,_=>sExpC hT hTl hl (by omega) (fun hlt=>sPatK hT hTl hl k (e+1) (by omega) (by omega)) (stay_sPat hT lim k) (fun hlt=>sExpK hl k (e+1) (by omega) (by omega)) (stay_sExp hT lim k)
end
end Go.Proofs.YtghcmccjchdgeaaGreatDoor.Qp
/- The program's parser: calls that give owned trees, at places that are kept for them. -/
set_option linter.all false
namespace Go.Proofs.YtghcmccjchdgeaaGreatDoor.Qp
open Go.AM Mc Pg
/-! a heap with one object that is written, and new ones behind; its length is told -/
theorem qyk {H:List AO} {n:Nat} (hn:H.length=n) (A:List AO) (p:Nat) (c:AO) (k:Nat):(H.set p c++A)[n+k]?=A[k]?:=by subst hn; exact qxk H A p c k
theorem qy0 {H:List AO} {n:Nat} (hn:H.length=n) (A:List AO) (p:Nat) (c:AO):(H.set p c++A)[n]?=A[0]?:=qyk hn A p c 0
theorem ryk {H:List AO} {n:Nat} (hn:H.length=n) (A:List AO) (p:Nat) (c:AO) (k:Nat) (o:AO):(H.set p c++A).set (n+k) o=H.set p c++A.set k o:=by subst hn; exact qsk H A p c k o
theorem ry0 {H:List AO} {n:Nat} (hn:H.length=n) (A:List AO) (p:Nat) (c:AO) (o:AO):(H.set p c++A).set n o=H.set p c++A.set 0 o:=ryk hn A p c 0 o
theorem qdk (n:Nat) (A:List AO) (k:Nat):(List.replicate n AO.dead++A)[n+k]?=A[k]?:=by
 have:=gxk (List.replicate n AO.dead) A k
 rwa [List.length_replicate] at this
theorem qd0 (n:Nat) (A:List AO):(List.replicate n AO.dead++A)[n]?=A[0]?:=qdk n A 0
theorem hxd {H:List AO} {n:Nat} (hn:H.length=n) (p:Nat) (c:AO) (A:List AO):Hext (List.replicate n .dead++A) (H.set p c++A):=fun id o h hd=>by
 rcases Nat.lt_or_ge id n with hi | hi
 ·rw [List.getElem?_append_left (by simpa using hi)] at h
  simp [hi] at h
  exact (hd h.symm).elim
 ·obtain ⟨k,rfl⟩:=Nat.le.dest hi
  rw [qdk] at h
  rw [qyk hn]; exact h
/-! what is kept, what is free, what is owned -/
def Kp (b:Nat) (H K:List AO):Prop:=K.length=H.length∧(∀ i,i<b→K[i]?=H[i]?)∧∀ (i:Nat) o,H[i]?=some o→o≠.rsv→K[i]?=some o
theorem Kp.rfl {b:Nat} {H:List AO}:Kp b H H:=⟨Eq.refl _,fun _ _=>Eq.refl _,fun _ _ h _=>h⟩
theorem Kp.trans {b:Nat} {H K L:List AO} (h:Kp b H K) (k:Kp b K L):Kp b H L :=
 ⟨k.1.trans h.1,fun i hi=>(k.2.1 i hi).trans (h.2.1 i hi),fun i o ho hr=>k.2.2 i o (h.2.2 i o ho hr) hr⟩
def Fr (b:Nat) (H:List AO) (N:Nat):Prop:=∃ F:List Nat,F.Nodup∧F.length=N∧∀ i∈F,b≤i∧H[i]?=some .rsv
def Env (b u:Nat) (X:List AO) (ts:List TV) (cs:List AV):Prop:=∃ ids,OwnCs X ts cs ids∧ids.Nodup∧ids.length=nC ts∧∀ i∈ids,b≤i∧i<u
theorem Env.nil (b u:Nat) (X:List AO):Env b u X [] []:=⟨[],OwnCs.nil X,List.nodup_nil,by rw [nC]; rfl,by simp⟩
theorem Env.len {b u:Nat} {X:List AO} {ts:List TV} {cs:List AV} (h:Env b u X ts cs):cs.length=ts.length:=by
 obtain ⟨ids,h1,_⟩:=h; exact h1.len
theorem Env.mv {b u:Nat} {X Y:List AO} {ts:List TV} {cs:List AV} (h:Env b u X ts cs) (hk:∀ (i sz ver:Nat) rs,b≤i→i<u→X[i]?=some (.rows sz ver rs)→Y[i]?=some (.rows sz ver rs)):Env b u Y ts cs:=by
 obtain ⟨ids,h1,h2,h3,h4⟩:=h
 refine ⟨ids,h1.keep fun i hi o ho=>?_,h2,h3,h4⟩
 obtain ⟨sz,ver,rs,hr⟩:=h1.rows i hi
 rw [hr] at ho; cases ho
 exact hk i sz ver rs (h4 i hi).1 (h4 i hi).2 hr
theorem Env.base {b n:Nat} {H A A':List AO} {p:Nat} {c c':AO} {ts:List TV} {cs:List AV} (h:Env b n (H.set p c++A) ts cs) (hn:H.length=n) (hp:p<b):Env b n (H.set p c'++A') ts cs :=
 h.mv fun i sz ver rs h1 h2 h3=>by
  rw [List.getElem?_append_left (by simp; omega),List.getElem?_set_ne (by omega)] at h3 ⊢
  exact h3
theorem Env.q {b u n:Nat} {H A A':List AO} {p:Nat} {c c':AO} {ts:List TV} {cs:List AV} (h:Env b u (H.set p c++A) ts cs) (hn:H.length=n) (hp:p<b)
  (hA:∀ (k sz ver:Nat) rs,A[k]?=some (.rows sz ver rs)→A'[k]?=some (.rows sz ver rs)):Env b u (H.set p c'++A') ts cs :=
 h.mv fun i sz ver rs h1 h2 h3=>by
  rcases Nat.lt_or_ge i n with hi | hi
  ·rw [List.getElem?_append_left (by simp; omega),List.getElem?_set_ne (by omega)] at h3 ⊢
   exact h3
  ·obtain ⟨k,rfl⟩:=Nat.le.dest hi
   rw [qyk hn] at h3 ⊢
   exact hA k sz ver rs h3
theorem Env.pc {b u:Nat} {X:List AO} {ts:List TV} {cs:List AV} (h:Env b u X ts cs) (x:PV):Env b u X (.p x :: ts) (.p x :: cs):=by
 obtain ⟨ids,h1,h2,h3,h4⟩:=h
 exact ⟨ids,h1.pc,h2,by rw [h3,nC,nT,Nat.zero_add],h4⟩
theorem ownC_split {X : List AO} : ∀ {t1 t2 : List TV} {cs : List AV} {ids : List Nat}, OwnCs X (t1 ++ t2) cs ids → ∃ c1 c2 i j, cs = c1 ++ c2 ∧ ids = i ++ j ∧ OwnCs X t1 c1 i ∧ OwnCs X t2 c2 j
  | [], t2, cs, ids, h => ⟨[], cs, [], ids, rfl, rfl, OwnCs.nil X, h⟩
  | t :: t1, t2, cs, ids, h => by
    rw [List.cons_append, OwnCs] at h
    obtain ⟨a, cs', i, js, rfl, rfl, h1, h2⟩ := h
    obtain ⟨c1, c2, i1, j1, rfl, rfl, h3, h4⟩ := ownC_split h2
    exact ⟨a :: c1, c2, i ++ i1, j1, rfl, by rw [List.append_assoc], OwnCs.cons h1 h3, h4⟩
theorem ownC_app {X : List AO} : ∀ {t1 t2 : List TV} {c1 c2 : List AV} {i j : List Nat}, OwnCs X t1 c1 i → OwnCs X t2 c2 j → OwnCs X (t1 ++ t2) (c1 ++ c2) (i ++ j)
  | [], t2, c1, c2, i, j, h, k => by rw [OwnCs] at h; obtain ⟨rfl, rfl⟩ := h; exact k
  | t :: t1, t2, c1, c2, i, j, h, k => by
    rw [OwnCs] at h
    obtain ⟨a, cs', i', js, rfl, rfl, h1, h2⟩ := h
    rw [List.append_assoc]
    exact OwnCs.cons h1 (ownC_app h2 k)
theorem nC_app:∀ (a b:List TV),nC (a++b)=nC a+nC b
 | [],b=>by rw [nC]; simp
 | t :: a,b=>by rw [List.cons_append,nC,nC,nC_app a b]; omega
theorem nR_flat:∀ (a:List (List TV)),nC a.flatten=nR a
 | []=>by rw [nR]; simp [nC]
 | t :: a=>by rw [List.flatten_cons,nC_app,nR,nR_flat a]
theorem nK_le (l:List (List TV)):nR l≤nK l:=by
 cases l with
 | nil=>rw [nR]; omega
 | cons r l=>rw [nR,nK]; omega
theorem rows_flat {X : List AO} {sz : Nat} : ∀ {rows : List (List TV)} {rs : List (List AV)} {ids : List Nat}, OwnCs X rows.flatten rs.flatten ids → rs.length = rows.length → (∀ r ∈ rows, r.length = sz) → (∀ r ∈ rs, r.length = sz) → OwnRs X sz rows rs ids
  | [], [], ids, h, _, _, _ => by simp at h; rw [OwnCs] at h; rw [OwnRs]; exact ⟨rfl, h.2⟩
  | [], _ :: _, ids, h, hl, _, _ => by simp at hl
  | _ :: _, [], ids, h, hl, _, _ => by simp at hl
  | t :: rows, c :: rs, ids, h, hl, h1, h2 => by
    rw [List.flatten_cons, List.flatten_cons] at h
    obtain ⟨c1, c2, i, j, e, rfl, h3, h4⟩ := ownC_split h
    have e1 := h3.len
    have e2 := h1 t (by simp)
    have e3 := h2 c (by simp)
    obtain ⟨rfl, rfl⟩ := List.append_inj e (by omega)
    rw [OwnRs]
    exact ⟨c, rs, i, j, rfl, rfl, e3, h3, rows_flat h4 (by simpa using hl) (fun r hr => h1 r (by simp [hr])) (fun r hr => h2 r (by simp [hr]))⟩
theorem Env.node {b u id sz ver:Nat} {X:List AO} {rows:List (List TV)} {rs:List (List AV)} (h:Env b u X rows.flatten rs.flatten) (hi:X[id]?=some (.rows sz ver rs)) (hu:u≤id) (hb:b≤id) (hl:rs.length=rows.length) (h1:∀ r∈rows,r.length=sz) (h2:∀ r∈rs,r.length=sz) (h0:rows≠[]) :
  Env b (id+1) X [.s sz rows] [.gs id ver 0 rs.length]:=by
 obtain ⟨ids,k1,k2,k3,k4⟩:=h
 refine ⟨id :: ids,OwnCs.one ?_,List.nodup_cons.2 ⟨fun hm=>by have:=(k4 id hm).2; omega,k2⟩,?_,?_⟩
 ·rw [Own]
  exact .inr ⟨id,ver,rs,ids,rfl,rfl,hi,rows_flat k1 hl h1 h2⟩
 ·rw [List.length_cons,k3,nR_flat,nC,nC,nT]
  cases rows with
  | nil=>exact (h0 rfl).elim
  | cons r l=>rw [nK,nR]; omega
 ·intro i hm
  rcases List.mem_cons.1 hm with rfl | hm
  ·exact ⟨hb,by omega⟩
  ·exact ⟨(k4 i hm).1,by have:=(k4 i hm).2; omega⟩
theorem Env.nl {b u sz:Nat} {X:List AO} {ts:List TV} {cs:List AV} (h:Env b u X ts cs):Env b u X (ts++[.s sz []]) (cs++[.p .nl]):=by
 obtain ⟨ids,k1,k2,k3,k4⟩:=h
 refine ⟨ids,?_,k2,by rw [k3,nC_app,nC,nC,nT,nK]; rfl,k4⟩
 have:=ownC_app k1 (OwnCs.one (Own.nl X sz))
 rwa [List.append_nil] at this
theorem Env.nl1 {b u sz:Nat} {X:List AO}:Env b u X [.s sz []] [.p .nl]:=(Env.nil b u X).nl
theorem flat_len {sz:Nat}:∀ {rows:List (List TV)} {rs:List (List AV)},rs.length=rows.length→(∀ r∈rows,r.length=sz)→(∀ r∈rs,r.length=sz)→rs.flatten.length=rows.flatten.length
 | [],[],_,_,_=>rfl
 | [],_ :: _,h,_,_=>by simp at h
 | _ :: _,[],h,_,_=>by simp at h
 | r :: l,c :: rs,h,h1,h2=>by rw [List.flatten_cons,List.flatten_cons,List.length_append,List.length_append,flat_len (by simpa using h) (fun r hr=>h1 r (by simp [hr])) (fun r hr=>h2 r (by simp [hr])),h1 r (by simp),h2 c (by simp)]
theorem Env.node2 {b u id1 id2 sz1 sz2 v1 v2 : Nat} {X : List AO} {rows1 rows2 : List (List TV)} {rs1 rs2 : List (List AV)} (h : Env b u X (rows1.flatten ++ rows2.flatten) (rs1.flatten ++ rs2.flatten)) (hi1 : X[id1]? = some (.rows sz1 v1 rs1)) (hi2 : X[id2]? = some (.rows sz2 v2 rs2)) (hu1 : u ≤ id1) (hu2 : u ≤ id2) (hb : b ≤ u) (hne : id1 ≠ id2)
    (hl1 : rs1.length = rows1.length) (h11 : ∀ r ∈ rows1, r.length = sz1) (h12 : ∀ r ∈ rs1, r.length = sz1) (h10 : rows1 ≠ []) (hl2 : rs2.length = rows2.length) (h21 : ∀ r ∈ rows2, r.length = sz2) (h22 : ∀ r ∈ rs2, r.length = sz2) (h20 : rows2 ≠ []) :
    Env b (id1 + id2 + 1) X [.s sz1 rows1, .s sz2 rows2] [.gs id1 v1 0 rs1.length, .gs id2 v2 0 rs2.length] := by
  obtain ⟨ids, k1, k2, k3, k4⟩ := h
  obtain ⟨c1, c2, i, j, e, rfl, h3, h4⟩ := ownC_split k1
  have hlen := flat_len hl1 h11 h12
  obtain ⟨rfl, rfl⟩ := List.append_inj e (by rw [h3.len]; exact hlen)
  have n1 : id1 ∉ i ++ j := fun hm => by have := (k4 _ hm).2; omega
  have n2 : id2 ∉ i ++ j := fun hm => by have := (k4 _ hm).2; omega
  rw [List.nodup_append] at k2
  refine ⟨(id1 :: i) ++ (id2 :: j), OwnCs.cons ?_ (OwnCs.one ?_), ?_, ?_, ?_⟩
  · rw [Own]; exact .inr ⟨id1, v1, rs1, i, rfl, rfl, hi1, rows_flat h3 hl1 h11 h12⟩
  · rw [Own]; exact .inr ⟨id2, v2, rs2, j, rfl, rfl, hi2, rows_flat h4 hl2 h21 h22⟩
  · rw [List.nodup_append]
    simp only [List.mem_append, not_or] at n1 n2
    refine ⟨List.nodup_cons.2 ⟨n1.1, k2.1⟩, List.nodup_cons.2 ⟨n2.2, k2.2.1⟩, fun a ha c hc => ?_⟩
    rcases List.mem_cons.1 ha with rfl | ha <;> rcases List.mem_cons.1 hc with rfl | hc
    · exact hne
    · rintro rfl; exact n1.2 hc
    · rintro rfl; exact n2.1 ha
    · exact k2.2.2 a ha c hc
  · rw [nC_app, nR_flat, nR_flat] at k3
    simp only [List.length_append, List.length_cons] at k3 ⊢
    rw [nC, nC, nC, nT, nT]
    cases rows1 with
    | nil => exact (h10 rfl).elim
    | cons r l => cases rows2 with
      | nil => exact (h20 rfl).elim
      | cons r' l' => rw [nK, nK]; rw [nR, nR] at k3; omega
  · intro x hx
    simp only [List.mem_append, List.mem_cons] at hx
    have : x = id1 ∨ x = id2 ∨ x ∈ i ++ j := by rw [List.mem_append]; rcases hx with (h | h) | (h | h) <;> simp [h]
    rcases this with rfl | rfl | h
    · exact ⟨by omega, by omega⟩
    · exact ⟨by omega, by omega⟩
    · have := k4 x h; exact ⟨this.1, by omega⟩
def Res (K:List AO) (b p:Nat) (c':AO) (ts:List TV) (r:AV) (X:List AO):Prop:=∃ cs K1 G u,r=.st cs∧X=K1.set p c'++G∧Kp b K K1∧Env b u X ts cs
def PX (pv:PS→AO) (T:List Tok) (e f:Nat) (args:List AV) (B:List AO→Prop) (p:Nat) {α:Type} (m:PM α) (tv:α→List TV):Prop :=
 ∀ (H A:List AO) (F:List Nat) (s:PS),p<H.length→Ok T e s→B (H++A)→F.Nodup→F.length=nC (tv (m s).1)→(∀ i∈F,i≠p∧H[i]?=some .rsv) →
  ACall Tryz.prog f args (H.set p (pv s)++A) (pureQ (.st (layC (tv (m s).1) F).1) ((setL H F (layC (tv (m s).1) F).2).set p (pv (m s).2)++A))
section
variable {pv:PS→AO} {T:List Tok} {e f:Nat} {args:List AV} {B:List AO→Prop} {p:Nat} {α:Type} {m:PM α} {tv:α→List TV}
theorem px_of (hpv:∀ s c,InO c (pv s)→Tf c) (hB:∀ X Y,B X→(∀ (i:Nat) o,X[i]?=some o→Y[i]?=some o)→B Y)
  (h:∀ (K:List AO) (b n:Nat) (s:PS),K.length=n→p<b→b≤n→Ok T e s→B K→Fr b K (nC (tv (m s).1))→ACall Tryz.prog f args (K.set p (pv s)) (Res K b p (pv (m s).2) (tv (m s).1))):PX pv T e f args B p m tv:=by
 intro H A F s hp hs hB' hnd hl hF
 generalize hts:tv (m s).1=ts at *
 have hFl:∀ i∈F,i<H.length:=fun i hi=>get_lt (hF i hi).2
 have hpF:p ∉ F:=fun hm=>(hF p hm).1 rfl
 have e2:(setL H F (layC ts F).2).set p (pv (m s).2)++A=setL (H.set p (pv (m s).2)++A) F (layC ts F).2:=by
  rw [setL_app _ _ _ _ (by simpa using hFl),setL_set _ _ _ _ _ hpF]
 rw [e2]
 refine acall_lay ?_ (by simp) ?_ hnd hl ?_
 ·refine acall_ghost (nC ts) ?_
  have eK:(H.set p (pv s)++A)++List.replicate (nC ts) AO.rsv=((H++A)++List.replicate (nC ts) AO.rsv).set p (pv s):=by
   rw [List.set_append_left _ _ (by simp; omega),List.set_append_left _ _ hp]
  rw [eK]
  have hb:=h ((H++A)++List.replicate (nC ts) AO.rsv) (H++A).length _ s rfl (by simp; omega) (by simp) hs (hB _ _ hB' fun i o ho=>get_ext ho _)
   ⟨List.range' (H++A).length (nC ts),List.nodup_range',by simp [hts],fun i hi=>?_⟩
  ·rw [hts] at hb
   refine hb.mono ?_
   rintro r X ⟨cs,K1,G,u,rfl,rfl,⟨k1,k2,k3⟩,ids,o1,o2,o3,o4⟩
   refine ⟨cs,ids,K1.drop (H++A).length++G,rfl,?_,o1,o2,o3,fun i hi=>?_⟩
   ·have ht:K1.take (H++A).length=H++A:=by
     apply List.ext_getElem?
     intro i
     rcases Nat.lt_or_ge i (H++A).length with hi | hi
     ·rw [List.getElem?_take_of_lt hi,k2 i hi,List.getElem?_append_left hi]
     ·rw [List.getElem?_eq_none (by simp at hi ⊢; omega),List.getElem?_eq_none hi]
    have e3:K1=(H++A)++K1.drop (H++A).length:=(List.take_append_drop (H++A).length K1).symm.trans (congrArg (·++K1.drop (H++A).length) ht)
    rw [← List.append_assoc]
    congr 1
    conv=>lhs; rw [e3]
    rw [List.set_append_left _ _ (by simp; omega),List.set_append_left _ _ hp]
   ·have:=(o4 i hi).1; simpa using this
  ·simp only [List.mem_range'] at hi
   obtain ⟨j,hj,rfl⟩:=hi
   refine ⟨by omega,?_⟩
   rw [List.getElem?_append_right (by omega)]
   simp [hj]
 ·intro id o ho c hc
  by_cases hi:id=p
  ·subst hi
   rw [qp hp] at ho
   cases ho
   exact .inl (hpv _ _ hc)
  ·refine .inr ⟨id,o,?_,hc⟩
   rcases Nat.lt_or_ge id H.length with h1 | h1
   ·rw [List.getElem?_append_left (by simpa using h1),List.getElem?_set_ne (Ne.symm hi)] at ho ⊢
    exact ho
   ·rw [List.getElem?_append_right (by simpa using h1)] at ho ⊢
    simpa using ho
 ·intro i hi
  obtain ⟨h1,h2⟩:=hF i hi
  have h3:=hFl i hi
  constructor <;> rw [List.getElem?_append_left (by simpa using h3),List.getElem?_set_ne (Ne.symm h1)] <;> exact h2
theorem PX.use (h:PX pv T e f args B p m tv) (wf:∀ x,WfC (tv x)) {H:List AO} {n b N:Nat} {s s1:PS} {x:α} (hm:m s=(x,s1)) (hn:H.length=n) (hp:p<b) (hb:b≤n) (hs:Ok T e s) (hF:Fr b H N) (hN:nC (tv x)≤N) :
  ∃ H1 cs,H1.length=n∧Kp b H H1∧Fr b H1 (N - nC (tv x))∧cs.length=(tv x).length ∧
   (∀ u ts ds A,n≤u→Env b u (H.set p (pv s)++A) ts ds→Env b u (H1.set p (pv s1)++A) (ts++tv x) (ds++cs)) ∧
   (∀ ts ds A A',Env b n (H.set p (pv s)++A) ts ds→Env b n (H1.set p (pv s1)++A') (ts++tv x) (ds++cs)) ∧
   (∀ A,B (H++A)→ACall Tryz.prog f args (H.set p (pv s)++A) (pureQ (.st cs) (H1.set p (pv s1)++A))):=by
 obtain ⟨F,f1,f2,f3⟩:=hF
 have hm1:(m s).1=x:=by rw [hm]
 have hm2:(m s).2=s1:=by rw [hm]
 have F1l:(F.take (nC (tv x))).length=nC (tv x):=by simp; omega
 have hsub:∀ i∈F.take (nC (tv x)),i∈F:=fun i hi=>List.mem_of_mem_take hi
 have hnd:(F.take (nC (tv x))).Nodup:=f1.sublist (List.take_sublist _ _)
 have hFl:∀ i∈F.take (nC (tv x)),i<H.length:=fun i hi=>get_lt (f3 i (hsub i hi)).2
 have hpF:p ∉ F.take (nC (tv x)):=fun hm=>by have:=(f3 p (hsub p hm)).1; omega
 have hos:=layC_os (tv x) _ F1l
 have hown:∀ (c:AO) (A:List AO),OwnCs ((setL H (F.take (nC (tv x))) (layC (tv x) (F.take (nC (tv x)))).2).set p c++A) (tv x) (layC (tv x) (F.take (nC (tv x)))).1 (F.take (nC (tv x))):=fun c A =>
  layC_own (tv x) _ _ (wf x) F1l fun k q o hk ho=>by
   have hq:=List.mem_of_getElem? hk
   have hlt:=hFl q hq
   rw [List.getElem?_append_left (by simp [setL_len]; exact hlt),List.getElem?_set_ne (by rintro rfl; exact hpF hq)]
   exact setL_get _ _ H k q o hnd hFl hk ho
 have hdis:∀ i∈F.drop (nC (tv x)),i ∉ F.take (nC (tv x)):=fun i hi hi'=>by
  have:=f1
  rw [← List.take_append_drop (nC (tv x)) F,List.nodup_append] at this
  exact this.2.2 i hi' i hi rfl
 have key:∀ u ts ds A,n≤u→Env b u (H.set p (pv s)++A) ts ds→Env b u ((setL H (F.take (nC (tv x))) (layC (tv x) (F.take (nC (tv x)))).2).set p (pv s1)++A) (ts++tv x) (ds++(layC (tv x) (F.take (nC (tv x)))).1):=by
  rintro u ts ds A hu ⟨ids,o1,o2,o3,o4⟩
  have hd:∀ i∈ids,i ∉ F.take (nC (tv x)):=fun i hi hi'=>by
   obtain ⟨sz,ver,rs,hr⟩:=o1.rows i hi
   have h1:=(f3 i (hsub i hi')).2
   have h2:=hFl i hi'
   have h3:=(o4 i hi).1
   rw [List.getElem?_append_left (by simpa using h2),List.getElem?_set_ne (by omega),h1] at hr
   cases hr
  refine ⟨ids++F.take (nC (tv x)),ownC_app (o1.keep fun i hi o ho=>?_) (hown _ _),List.nodup_append.2 ⟨o2,hnd,fun a ha c hc e=>hd a ha (e ▸ hc)⟩,by rw [List.length_append,o3,F1l,nC_app],fun i hi=>?_⟩
  ·have h3:=(o4 i hi).1
   rcases Nat.lt_or_ge i H.length with hl | hl
   ·rw [List.getElem?_append_left (by simpa using hl),List.getElem?_set_ne (by omega)] at ho
    rw [List.getElem?_append_left (by simp [setL_len]; exact hl),List.getElem?_set_ne (by omega),setL_ne _ _ _ _ (hd i hi)]
    exact ho
   ·rw [List.getElem?_append_right (by simpa using hl)] at ho
    rw [List.getElem?_append_right (by simp [setL_len]; exact hl)]
    simpa [setL_len] using ho
  ·rcases List.mem_append.1 hi with hi | hi
   ·exact o4 i hi
   ·exact ⟨(f3 i (hsub i hi)).1,by have:=hFl i hi; omega⟩
 refine ⟨setL H (F.take (nC (tv x))) (layC (tv x) (F.take (nC (tv x)))).2,(layC (tv x) (F.take (nC (tv x)))).1,by rw [setL_len]; exact hn,⟨setL_len _ _ _,?_,?_⟩,⟨F.drop (nC (tv x)),f1.sublist (List.drop_sublist _ _),by simp; omega,?_⟩,by rw [layC_len],key,?_,?_⟩
 ·intro i hi
  exact setL_ne _ _ _ _ fun hm=>by have:=(f3 i (hsub i hm)).1; omega
 ·intro i o ho hr
  rw [setL_ne _ _ _ _ fun hm=>?_]
  ·exact ho
  ·rw [(f3 i (hsub i hm)).2] at ho
   cases ho; exact hr rfl
 ·intro i hi
  have hiF:=List.mem_of_mem_drop hi
  exact ⟨(f3 i hiF).1,by rw [setL_ne _ _ _ _ (hdis i hi)]; exact (f3 i hiF).2⟩
 ·intro ts ds A A' hE
  exact (key n ts ds A (Nat.le_refl _) hE).base (by rw [setL_len]; exact hn) hp
 ·intro A hBA
  have:=h H A (F.take (nC (tv x))) s (by omega) hs hBA hnd (by rw [hm1]; exact F1l) fun i hi=>⟨by rintro rfl; exact hpF hi,(f3 i (hsub i hi)).2⟩
  rwa [hm1,hm2] at this
end
end Go.Proofs.YtghcmccjchdgeaaGreatDoor.Qp
/- THE SMALL CODES of functions 8 14 29 30 31 39 56 57 58 59 60 61 62 63 64 65 72 73 109 110 111 112 115 166 167 168 169 173 213 214 215 218 238, and their ties to the program (printed by wip/tools/mkties2.py). -/
set_option linter.all false
namespace Go.Proofs.YtghcmccjchdgeaaGreatDoor.Mc
open Go.AM
def zl8_0:List AV:=[.p (.i .i64 0),.p (.s []),.p (.i .i64 0),.p (.s []),.p (.i .i64 0),.p (.nl),.p (.nl)]
def zl8_1:List AV:=[.p (.nl),.p (.i .i64 0),.p (.i .i64 0),.p (.i .i64 0),.p (.i .i64 0),.p (.i .i64 0)]
def zl8_3:List AV:=[.p (.i .i64 0),.p (.s []),.p (.i .i64 0),.p (.i .i64 0),.p (.nl),.p (.i .i64 0),.p (.s []),.p (.i .i64 0),.p (.s []),.p (.i .i64 0),.p (.nl),.p (.nl)]
/- impl.ParseExp -/
def lv8:List Nat:=[0,2,3,4,5,6,7,15,26]
def mc8:MC :=
.seq (.reg [
 iL 2 (.alloc zl8_0),iL 3 (.alloc [.p (.i .i64 0),.p (.i .i64 0)])]) (
 .seq (.reg [
 iT 9 (.mv (.l 0)),iT 10 (.call 28 [.t 9]),iT 8 (.mv (.t 10)),iT 11 (.ext (.t 8) 0),iT 12 (.ext (.t 8) 1),iL 5 (.alloc [.p (.i .i64 0),.p (.i .i64 0)]),iL 4 (.mv (.t 11)),iN (.sto 2 (.l 5) (.t 12))]) (
 .seq (.seq (.reg [
 iT 13 (.fad 0 (.l 5)),iT 14 (.ld false 1 (.t 13)),iL 15 (.bin .neq (.t 14) (cI 0))]) (
 .cond (.l 15) (
 .seq (.drw [
 iT 16 (.build zl8_0 []),iT 17 (.ld true 2 (.l 5)),iN (.sto 7 (.l 2) (.t 16))] [
 iN (.sto 2 (.l 3) (.t 17))]) (
 .ret)) (
 .skip))) (
 .seq (.reg [
 iT 18 (.mv (.l 4)),iT 19 (.build zl8_1 [(0,1,(.t 18)),(2,1,(cI 40))]),iT 20 (.box 6 (.t 19)),iL 6 (.mv (.t 20))]) (
 .seq (.reg [
 iT 21 (.mv (.l 6)),iT 22 (.call 29 [.t 21,.c (.p (.i .i64 1))]),iL 7 (.alloc zl8_0),iN (.sto 7 (.l 7) (.t 22))]) (
 .seq (.reg [
 iT 23 (.mv (.l 6)),iT 24 (.call 30 [.t 23])]) (
 .seq (.seq (.reg [
 iT 25 (.mv (.l 6)),iL 26 (.call 31 [.t 25])]) (
 .cond (.l 26) (
 .seq (.drw [
 iT 27 (.build zl8_0 []),iT 28 (.mv (.l 6)),iT 29 (.nilc (.t 28)),iT 30 (.fad 4 (.t 29)),iT 31 (.ld true 2 (.t 30)),iN (.sto 7 (.l 2) (.t 27))] [
 iN (.sto 2 (.l 3) (.t 31))]) (
 .ret)) (
 .skip))) (
 .seq (.reg [
 iT 32 (.ld true 7 (.l 7)),iT 33 (.build [.p (.i .i64 0),.p (.i .i64 0)] []),iN (.sto 7 (.l 2) (.t 32)),iN (.sto 2 (.l 3) (.t 33))]) (
 .ret))))))))
theorem mc8_eq:(Tryz.f8.body.map (compile lv8 Tryz.prog 34))=some mc8:=by kernel_rfl
def mr8:List MR:=[.cell true 7 2,.cell true 2 3]
theorem mr8_eq:cRess lv8 Tryz.prog Tryz.f8.results.toList=some mr8:=by kernel_rfl
theorem call8:CallT Tryz.prog 8 34 mc8 mr8:=acall_mc (by kernel_rfl) Tryz.func8 mc8_eq Tryz.ntmps8 (by kernel_rfl) mr8_eq
/- impl.Parse -/
/- (*impl.parser).expr -/
def lv29:List Nat:=[0,1,2,3,4,5,6,7,8,9,10,11,15,20,27,34,59,75,105,119,139]
def mc29:MC :=
.seq (.reg [
 iL 2 (.box 1 (.l 0)),iL 3 (.box 1 (.l 1)),iL 4 (.alloc zl8_0)]) (
 .seq (.seq (.reg [
 iT 12 (.ld false 1 (.l 2)),iT 13 (.ld false 1 (.l 3)),iT 14 (.call 56 [.t 12,.t 13]),iL 15 (.un .not (.t 14))]) (
 .cond (.l 15) (
 .seq (.reg [
 iT 16 (.build zl8_0 []),iN (.sto 7 (.l 4) (.t 16))]) (
 .ret)) (
 .skip))) (
 .seq (.reg [
 iT 17 (.ld false 1 (.l 2)),iT 18 (.call 57 [.t 17]),iL 5 (.alloc [.p (.i .i64 0),.p (.s []),.p (.i .i64 0),.p (.i .i64 0)]),iN (.sto 4 (.l 5) (.t 18))]) (
 .seq (.reg [
 iT 19 (.mkf 58 [.l 2,.l 3]),iL 6 (.mv (.t 19))]) (
 .seq (.blk 0 (
 .seq (.reg [
 iT 21 (.ld false 1 (.l 2)),iT 22 (.call 59 [.t 21,.c (.p (.s [108,101,116]))]),iL 20 (.mv (.t 22))]) (
 .cond (.l 20) (
 .seq (.reg [
 iT 23 (.fad 3 (.l 5)),iT 24 (.ld false 1 (.t 23)),iT 25 (.build zl8_0 [(0,1,(cI 10)),(4,1,(.t 24))]),iL 7 (.alloc zl8_0),iN (.sto 7 (.l 7) (.t 25))]) (
 .seq (.seq (.reg [
 iT 26 (.ld false 1 (.l 2)),iL 27 (.call 59 [.t 26,.c (.p (.s [114,101,99]))])]) (
 .cond (.l 27) (
 .reg [
 iT 28 (.fad 0 (.l 7)),iN (.sto 1 (.t 28) (cI 11))]) (
 .skip))) (
 .seq (.reg [
 iT 29 (.ld false 1 (.l 2)),iT 30 (.call 60 [.t 29,.c (.p (.i .i64 3))]),iT 31 (.fad 1 (.l 7)),iN (.sto 1 (.t 31) (.t 30))]) (
 .seq (.seq (.reg [
 iT 32 (.fad 0 (.l 7)),iT 33 (.ld false 1 (.t 32)),iL 34 (.bin .eql (.t 33) (cI 11))]) (
 .cond (.l 34) (
 .reg [
 iT 35 (.ld false 1 (.l 2)),iT 36 (.call 60 [.t 35,.c (.p (.i .i64 3))]),iT 37 (.fad 3 (.l 7)),iN (.sto 1 (.t 37) (.t 36))]) (
 .skip))) (
 .seq (.reg [
 iT 38 (.ld false 1 (.l 2)),iT 39 (.bsl 1 [.p (.s [])] 1 [(0,(.c (.p (.s [61]))))]),iT 40 (.call 61 [.t 38,.t 39])]) (
 .seq (.drw [
 iT 41 (.fad 5 (.l 7)),iT 42 (.ld false 1 (.t 41)),iT 43 (.mv (.l 6)),iT 44 (.calv (.t 43) []),iT 45 (.bsl 7 zl8_0 1 [(0,(.t 44))])] [
 iT 46 (.app 7 104 (.t 42) (.t 45)),iT 47 (.fad 5 (.l 7)),iN (.sto 1 (.t 47) (.t 46))]) (
 .seq (.reg [
 iT 48 (.ld false 1 (.l 2)),iT 49 (.bsl 1 [.p (.s [])] 1 [(0,(.c (.p (.s [105,110]))))]),iT 50 (.call 61 [.t 48,.t 49])]) (
 .seq (.drw [
 iT 51 (.fad 5 (.l 7)),iT 52 (.ld false 1 (.t 51)),iT 53 (.mv (.l 6)),iT 54 (.calv (.t 53) []),iT 55 (.bsl 7 zl8_0 1 [(0,(.t 54))])] [
 iT 56 (.app 7 104 (.t 52) (.t 55)),iT 57 (.fad 5 (.l 7)),iN (.sto 1 (.t 57) (.t 56))]) (
 .seq (.reg [
 iT 58 (.ld true 7 (.l 7)),iN (.sto 7 (.l 4) (.t 58))]) (
 .ret)))))))))) (
 .seq (.reg [
 iT 60 (.ld false 1 (.l 2)),iT 61 (.call 59 [.t 60,.c (.p (.s [102,117,110]))]),iL 59 (.mv (.t 61))]) (
 .cond (.l 59) (
 .seq (.drw [
 iT 62 (.fad 3 (.l 5)),iT 63 (.ld false 1 (.t 62)),iT 64 (.ld false 1 (.l 2)),iT 65 (.call 60 [.t 64,.c (.p (.i .i64 3))]),iT 66 (.build zl8_0 [(0,1,(cI 8)),(4,1,(.t 63)),(1,1,(.t 65))]),iL 8 (.alloc zl8_0)] [
 iN (.sto 7 (.l 8) (.t 66))]) (
 .seq (.reg [
 iT 67 (.ld false 1 (.l 2)),iT 68 (.bsl 1 [.p (.s [])] 1 [(0,(.c (.p (.s [45,62]))))]),iT 69 (.call 61 [.t 67,.t 68])]) (
 .seq (.reg [
 iT 70 (.mv (.l 6)),iT 71 (.calv (.t 70) []),iT 72 (.bsl 7 zl8_0 1 [(0,(.t 71))]),iT 73 (.fad 5 (.l 8)),iN (.sto 1 (.t 73) (.t 72))]) (
 .seq (.reg [
 iT 74 (.ld true 7 (.l 8)),iN (.sto 7 (.l 4) (.t 74))]) (
 .ret))))) (
 .seq (.reg [
 iT 76 (.ld false 1 (.l 2)),iT 77 (.call 59 [.t 76,.c (.p (.s [105,102]))]),iL 75 (.mv (.t 77))]) (
 .cond (.l 75) (
 .seq (.drw [
 iT 78 (.fad 3 (.l 5)),iT 79 (.ld false 1 (.t 78)),iT 80 (.mv (.l 6)),iT 81 (.calv (.t 80) []),iT 82 (.bsl 7 zl8_0 1 [(0,(.t 81))]),iT 83 (.build zl8_0 [(0,1,(cI 12)),(4,1,(.t 79)),(5,1,(.t 82))]),iL 9 (.alloc zl8_0)] [
 iN (.sto 7 (.l 9) (.t 83))]) (
 .seq (.reg [
 iT 84 (.ld false 1 (.l 2)),iT 85 (.bsl 1 [.p (.s [])] 1 [(0,(.c (.p (.s [116,104,101,110]))))]),iT 86 (.call 61 [.t 84,.t 85])]) (
 .seq (.drw [
 iT 87 (.fad 5 (.l 9)),iT 88 (.ld false 1 (.t 87)),iT 89 (.mv (.l 6)),iT 90 (.calv (.t 89) []),iT 91 (.bsl 7 zl8_0 1 [(0,(.t 90))])] [
 iT 92 (.app 7 104 (.t 88) (.t 91)),iT 93 (.fad 5 (.l 9)),iN (.sto 1 (.t 93) (.t 92))]) (
 .seq (.reg [
 iT 94 (.ld false 1 (.l 2)),iT 95 (.bsl 1 [.p (.s [])] 1 [(0,(.c (.p (.s [101,108,115,101]))))]),iT 96 (.call 61 [.t 94,.t 95])]) (
 .seq (.drw [
 iT 97 (.fad 5 (.l 9)),iT 98 (.ld false 1 (.t 97)),iT 99 (.mv (.l 6)),iT 100 (.calv (.t 99) []),iT 101 (.bsl 7 zl8_0 1 [(0,(.t 100))])] [
 iT 102 (.app 7 104 (.t 98) (.t 101)),iT 103 (.fad 5 (.l 9)),iN (.sto 1 (.t 103) (.t 102))]) (
 .seq (.reg [
 iT 104 (.ld true 7 (.l 9)),iN (.sto 7 (.l 4) (.t 104))]) (
 .ret))))))) (
 .seq (.reg [
 iT 106 (.ld false 1 (.l 2)),iT 107 (.call 59 [.t 106,.c (.p (.s [109,97,116,99,104]))]),iL 105 (.mv (.t 107))]) (
 .cond (.l 105) (
 .seq (.drw [
 iT 108 (.fad 3 (.l 5)),iT 109 (.ld false 1 (.t 108)),iT 110 (.mv (.l 6)),iT 111 (.calv (.t 110) []),iT 112 (.bsl 7 zl8_0 1 [(0,(.t 111))]),iT 113 (.build zl8_0 [(0,1,(cI 13)),(4,1,(.t 109)),(5,1,(.t 112))]),iL 10 (.alloc zl8_0)] [
 iN (.sto 7 (.l 10) (.t 113))]) (
 .seq (.reg [
 iT 114 (.ld false 1 (.l 2)),iT 115 (.bsl 1 [.p (.s [])] 2 [(0,(.c (.p (.s [119,105,116,104])))),(1,(.c (.p (.s [124]))))]),iT 116 (.call 61 [.t 114,.t 115])]) (
 .seq (.blk 1 (
 .loop (
 .seq (.seq (.reg [
 iT 117 (.ld false 1 (.l 2)),iT 118 (.call 31 [.t 117]),iL 119 (.un .not (.t 118))]) (
 .cond (.l 119) (
 .skip) (
 .exit 1))) (
 .blk 2 (
 .seq (.reg [
 iT 120 (.ld false 1 (.l 2)),iT 121 (.ld false 1 (.l 3)),iT 122 (.bin .add (.t 121) (cI 1)),iT 123 (.call 62 [.t 120,.t 122]),iT 124 (.build zl8_3 [(0,5,(.t 123))]),iL 11 (.alloc zl8_3),iN (.sto 12 (.l 11) (.t 124))]) (
 .seq (.reg [
 iT 125 (.ld false 1 (.l 2)),iT 126 (.bsl 1 [.p (.s [])] 1 [(0,(.c (.p (.s [45,62]))))]),iT 127 (.call 61 [.t 125,.t 126])]) (
 .seq (.reg [
 iT 128 (.mv (.l 6)),iT 129 (.calv (.t 128) []),iT 130 (.fad 5 (.l 11)),iN (.sto 7 (.t 130) (.t 129))]) (
 .seq (.reg [
 iT 131 (.fad 6 (.l 10)),iT 132 (.ld false 1 (.t 131)),iT 133 (.ld true 12 (.l 11)),iT 134 (.bsl 12 zl8_3 1 [(0,(.t 133))]),iT 135 (.app 12 168 (.t 132) (.t 134)),iT 136 (.fad 6 (.l 10)),iN (.sto 1 (.t 136) (.t 135))]) (
 .seq (.reg [
 iT 137 (.ld false 1 (.l 2)),iT 138 (.call 59 [.t 137,.c (.p (.s [124]))]),iL 139 (.un .not (.t 138))]) (
 .cond (.l 139) (
 .exit 1) (
 .skip))))))))))) (
 .seq (.reg [
 iT 140 (.ld false 1 (.l 2)),iT 141 (.bsl 1 [.p (.s [])] 1 [(0,(.c (.p (.s [101,110,100]))))]),iT 142 (.call 61 [.t 140,.t 141])]) (
 .seq (.reg [
 iT 143 (.ld true 7 (.l 10)),iN (.sto 7 (.l 4) (.t 143))]) (
 .ret)))))) (
 .skip)))))))))) (
 .seq (.reg [
 iT 144 (.ld false 1 (.l 2)),iT 145 (.ld false 1 (.l 3)),iT 146 (.call 63 [.t 144,.c (.p (.i .i64 0)),.t 145]),iN (.sto 7 (.l 4) (.t 146))]) (
 .ret))))))
theorem mc29_eq:(Tryz.f29.body.map (compile lv29 Tryz.prog 147))=some mc29:=by kernel_rfl
def mr29:List MR:=[.cell true 7 4]
theorem mr29_eq:cRess lv29 Tryz.prog Tryz.f29.results.toList=some mr29:=by kernel_rfl
theorem call29:CallT Tryz.prog 29 147 mc29 mr29:=acall_mc (by kernel_rfl) Tryz.func29 mc29_eq Tryz.ntmps29 (by kernel_rfl) mr29_eq
/- (*impl.parser).end -/
def lv30:List Nat:=[0,4]
def mc30:MC :=
.seq (.reg [
 iT 2 (.mv (.l 0)),iT 3 (.call 64 [.t 2,.c (.p (.i .i64 8))]),iL 4 (.un .not (.t 3))]) (
 .cond (.l 4) (
 .reg [
 iT 5 (.mv (.l 0)),iT 6 (.call 65 [.t 5,.c (.p (.i .i64 11))])]) (
 .skip))
theorem mc30_eq:(Tryz.f30.body.map (compile lv30 Tryz.prog 7))=some mc30:=by kernel_rfl
def mr30:List MR:=[]
theorem mr30_eq:cRess lv30 Tryz.prog Tryz.f30.results.toList=some mr30:=by kernel_rfl
theorem call30:CallT Tryz.prog 30 7 mc30 mr30:=acall_mc (by kernel_rfl) Tryz.func30 mc30_eq Tryz.ntmps30 (by kernel_rfl) mr30_eq
/- (*impl.parser).failed -/
def lv31:List Nat:=[0,2]
def mc31:MC :=
.seq (.reg [
 iL 2 (.mv (.c (.p (.b false))))]) (
 .seq (.reg [
 iT 3 (.mv (.l 0)),iT 4 (.nilc (.t 3)),iT 5 (.fad 4 (.t 4)),iT 6 (.fad 0 (.t 5)),iT 7 (.ld false 1 (.t 6)),iT 8 (.bin .neq (.t 7) (cI 0)),iL 2 (.mv (.t 8))]) (
 .ret))
theorem mc31_eq:(Tryz.f31.body.map (compile lv31 Tryz.prog 9))=some mc31:=by kernel_rfl
def mr31:List MR:=[.t 2]
theorem mr31_eq:cRess lv31 Tryz.prog Tryz.f31.results.toList=some mr31:=by kernel_rfl
theorem call31:CallT Tryz.prog 31 9 mc31 mr31:=acall_mc (by kernel_rfl) Tryz.func31 mc31_eq Tryz.ntmps31 (by kernel_rfl) mr31_eq
/- (*impl.parser).prog -/
/- (*impl.parser).deeper -/
def lv56:List Nat:=[0,1,4,10,15]
def mc56:MC :=
.seq (.reg [
 iL 4 (.mv (.c (.p (.b false))))]) (
 .seq (.seq (.reg [
 iT 5 (.mv (.l 1)),iT 6 (.mv (.l 0)),iT 7 (.nilc (.t 6)),iT 8 (.fad 2 (.t 7)),iT 9 (.ld false 1 (.t 8)),iL 10 (.bin .gtr (.t 5) (.t 9))]) (
 .cond (.l 10) (
 .reg [
 iT 11 (.mv (.l 0)),iT 12 (.call 65 [.t 11,.c (.p (.i .i64 12))])]) (
 .skip))) (
 .seq (.seq (.reg [
 iT 13 (.mv (.l 0)),iT 14 (.call 31 [.t 13]),iL 15 (.un .not (.t 14))]) (
 .cond (.l 15) (
 .reg [
 iT 16 (.mv (.l 0)),iT 17 (.mv (.l 0)),iT 18 (.nilc (.t 17)),iT 19 (.fad 3 (.t 18)),iT 20 (.ld false 1 (.t 19)),iT 21 (.mv (.l 1)),iT 22 (.mnx true (.t 20) (.t 21)),iT 23 (.nilc (.t 16)),iT 24 (.fad 3 (.t 23)),iN (.sto 1 (.t 24) (.t 22))]) (
 .skip))) (
 .seq (.reg [
 iT 25 (.mv (.l 0)),iT 26 (.call 31 [.t 25]),iT 27 (.un .not (.t 26)),iL 4 (.mv (.t 27))]) (
 .ret))))
theorem mc56_eq:(Tryz.f56.body.map (compile lv56 Tryz.prog 28))=some mc56:=by kernel_rfl
def mr56:List MR:=[.t 4]
theorem mr56_eq:cRess lv56 Tryz.prog Tryz.f56.results.toList=some mr56:=by kernel_rfl
theorem call56:CallT Tryz.prog 56 28 mc56 mr56:=acall_mc (by kernel_rfl) Tryz.func56 mc56_eq Tryz.ntmps56 (by kernel_rfl) mr56_eq
/- (*impl.parser).next -/
def lv57:List Nat:=[0,2]
def mc57:MC :=
.seq (.reg [
 iL 2 (.alloc [.p (.i .i64 0),.p (.s []),.p (.i .i64 0),.p (.i .i64 0)])]) (
 .seq (.drw [
 iT 3 (.mv (.l 0)),iT 4 (.nilc (.t 3)),iT 5 (.fad 0 (.t 4)),iT 6 (.ld false 1 (.t 5)),iT 7 (.mv (.l 0)),iT 8 (.nilc (.t 7)),iT 9 (.fad 1 (.t 8)),iT 10 (.ld false 1 (.t 9))] [
 iT 11 (.ixs 4 (.t 6) (.t 10)),iT 12 (.ld true 4 (.t 11)),iN (.sto 4 (.l 2) (.t 12))]) (
 .ret))
theorem mc57_eq:(Tryz.f57.body.map (compile lv57 Tryz.prog 13))=some mc57:=by kernel_rfl
def mr57:List MR:=[.cell true 4 2]
theorem mr57_eq:cRess lv57 Tryz.prog Tryz.f57.results.toList=some mr57:=by kernel_rfl
theorem call57:CallT Tryz.prog 57 13 mc57 mr57:=acall_mc (by kernel_rfl) Tryz.func57 mc57_eq Tryz.ntmps57 (by kernel_rfl) mr57_eq
/- (*impl.parser).expr$1 -/
def lv58:List Nat:=[0,1,2]
def mc58:MC :=
.seq (.reg [
 iL 2 (.alloc zl8_0)]) (
 .seq (.reg [
 iT 3 (.ld false 1 (.l 0)),iT 4 (.ld false 1 (.l 1)),iT 5 (.bin .add (.t 4) (cI 1)),iT 6 (.call 29 [.t 3,.t 5]),iN (.sto 7 (.l 2) (.t 6))]) (
 .ret))
theorem mc58_eq:(Tryz.f58.body.map (compile lv58 Tryz.prog 7))=some mc58:=by kernel_rfl
def mr58:List MR:=[.cell true 7 2]
theorem mr58_eq:cRess lv58 Tryz.prog Tryz.f58.results.toList=some mr58:=by kernel_rfl
theorem call58:CallT Tryz.prog 58 7 mc58 mr58:=acall_mc (by kernel_rfl) Tryz.func58 mc58_eq Tryz.ntmps58 (by kernel_rfl) mr58_eq
/- (*impl.parser).take -/
def lv59:List Nat:=[0,1,4,8]
def mc59:MC :=
.seq (.reg [
 iL 4 (.mv (.c (.p (.b false))))]) (
 .seq (.seq (.reg [
 iT 5 (.mv (.l 0)),iT 6 (.mv (.l 1)),iT 7 (.call 72 [.t 5,.t 6]),iL 8 (.un .not (.t 7))]) (
 .cond (.l 8) (
 .seq (.reg [
 iL 4 (.mv (.c (.p (.b false))))]) (
 .ret)) (
 .skip))) (
 .seq (.reg [
 iT 9 (.mv (.l 0)),iT 10 (.nilc (.t 9)),iT 11 (.fad 1 (.t 10)),iT 12 (.ld false 1 (.t 11)),iT 13 (.bin .add (.t 12) (cI 1)),iT 14 (.nilc (.t 9)),iT 15 (.fad 1 (.t 14)),iN (.sto 1 (.t 15) (.t 13))]) (
 .seq (.reg [
 iL 4 (.mv (.c (.p (.b true))))]) (
 .ret))))
theorem mc59_eq:(Tryz.f59.body.map (compile lv59 Tryz.prog 16))=some mc59:=by kernel_rfl
def mr59:List MR:=[.t 4]
theorem mr59_eq:cRess lv59 Tryz.prog Tryz.f59.results.toList=some mr59:=by kernel_rfl
theorem call59:CallT Tryz.prog 59 16 mc59 mr59:=acall_mc (by kernel_rfl) Tryz.func59 mc59_eq Tryz.ntmps59 (by kernel_rfl) mr59_eq
/- (*impl.parser).word -/
def lv60:List Nat:=[0,1,4,8]
def mc60:MC :=
.seq (.reg [
 iL 4 (.mv (.c (.p (.s []))))]) (
 .seq (.seq (.reg [
 iT 5 (.mv (.l 0)),iT 6 (.mv (.l 1)),iT 7 (.call 64 [.t 5,.t 6]),iL 8 (.un .not (.t 7))]) (
 .cond (.l 8) (
 .seq (.reg [
 iT 9 (.mv (.l 0)),iT 10 (.call 65 [.t 9,.c (.p (.i .i64 11))])]) (
 .seq (.reg [
 iL 4 (.mv (.c (.p (.s []))))]) (
 .ret))) (
 .skip))) (
 .seq (.reg [
 iT 11 (.mv (.l 0)),iT 12 (.nilc (.t 11)),iT 13 (.fad 1 (.t 12)),iT 14 (.ld false 1 (.t 13)),iT 15 (.bin .add (.t 14) (cI 1)),iT 16 (.nilc (.t 11)),iT 17 (.fad 1 (.t 16)),iN (.sto 1 (.t 17) (.t 15))]) (
 .seq (.drw [
 iT 18 (.mv (.l 0)),iT 19 (.nilc (.t 18)),iT 20 (.fad 0 (.t 19)),iT 21 (.ld false 1 (.t 20)),iT 22 (.mv (.l 0)),iT 23 (.nilc (.t 22)),iT 24 (.fad 1 (.t 23)),iT 25 (.ld false 1 (.t 24)),iT 26 (.bin .sub (.t 25) (cI 1))] [
 iT 27 (.ixs 4 (.t 21) (.t 26)),iT 28 (.fad 1 (.t 27)),iT 29 (.ld false 1 (.t 28)),iL 4 (.mv (.t 29))]) (
 .ret))))
theorem mc60_eq:(Tryz.f60.body.map (compile lv60 Tryz.prog 30))=some mc60:=by kernel_rfl
def mr60:List MR:=[.t 4]
theorem mr60_eq:cRess lv60 Tryz.prog Tryz.f60.results.toList=some mr60:=by kernel_rfl
theorem call60:CallT Tryz.prog 60 30 mc60 mr60:=acall_mc (by kernel_rfl) Tryz.func60 mc60_eq Tryz.ntmps60 (by kernel_rfl) mr60_eq
/- (*impl.parser).want -/
def lv61:List Nat:=[0,1,5,6,7,8,9,15]
def mc61:MC :=
.seq (.reg [
 iL 6 (.mv (.l 1)),iL 7 (.len false (.l 6)),iL 8 (.mv (cI 0))]) (
 .blk 0 (
 .loop (
 .seq (.reg [
 iL 9 (.bin .lss (.l 8) (.l 7))]) (
 .seq (.cond (.l 9) (
 .skip) (
 .exit 0)) (
 .seq (.blk 1 (
 .seq (.reg [
 iT 10 (.ixs 1 (.l 6) (.l 8)),iT 11 (.ld false 1 (.t 10)),iL 5 (.mv (.t 11))]) (
 .seq (.reg [
 iT 12 (.mv (.l 0)),iT 13 (.mv (.l 5)),iT 14 (.call 59 [.t 12,.t 13]),iL 15 (.un .not (.t 14))]) (
 .cond (.l 15) (
 .reg [
 iT 16 (.mv (.l 0)),iT 17 (.call 65 [.t 16,.c (.p (.i .i64 11))])]) (
 .skip))))) (
 .reg [
 iT 18 (.bin .add (.l 8) (cI 1)),iL 8 (.mv (.t 18))]))))))
theorem mc61_eq:(Tryz.f61.body.map (compile lv61 Tryz.prog 19))=some mc61:=by kernel_rfl
def mr61:List MR:=[]
theorem mr61_eq:cRess lv61 Tryz.prog Tryz.f61.results.toList=some mr61:=by kernel_rfl
theorem call61:CallT Tryz.prog 61 19 mc61 mr61:=acall_mc (by kernel_rfl) Tryz.func61 mc61_eq Tryz.ntmps61 (by kernel_rfl) mr61_eq
/- (*impl.parser).pat -/
def lv62:List Nat:=[0,1,4,5,6,10,16,57]
def mc62:MC :=
.seq (.reg [
 iL 4 (.alloc [.p (.i .i64 0),.p (.s []),.p (.i .i64 0),.p (.i .i64 0),.p (.nl)])]) (
 .seq (.seq (.reg [
 iT 7 (.mv (.l 0)),iT 8 (.mv (.l 1)),iT 9 (.call 56 [.t 7,.t 8]),iL 10 (.un .not (.t 9))]) (
 .cond (.l 10) (
 .seq (.reg [
 iT 11 (.build [.p (.i .i64 0),.p (.s []),.p (.i .i64 0),.p (.i .i64 0),.p (.nl)] []),iN (.sto 5 (.l 4) (.t 11))]) (
 .ret)) (
 .skip))) (
 .seq (.reg [
 iT 12 (.mv (.l 0)),iT 13 (.call 57 [.t 12]),iL 5 (.alloc [.p (.i .i64 0),.p (.s []),.p (.i .i64 0),.p (.i .i64 0)]),iN (.sto 4 (.l 5) (.t 13))]) (
 .seq (.seq (.reg [
 iT 14 (.mv (.l 0)),iT 15 (.call 64 [.t 14,.c (.p (.i .i64 4))]),iL 16 (.un .not (.t 15))]) (
 .cond (.l 16) (
 .seq (.reg [
 iT 17 (.mv (.l 0)),iT 18 (.mv (.l 1)),iT 19 (.call 109 [.t 17,.t 18]),iN (.sto 5 (.l 4) (.t 19))]) (
 .ret)) (
 .skip))) (
 .seq (.reg [
 iT 20 (.mv (.l 0)),iT 21 (.nilc (.t 20)),iT 22 (.fad 1 (.t 21)),iT 23 (.ld false 1 (.t 22)),iT 24 (.bin .add (.t 23) (cI 1)),iT 25 (.nilc (.t 20)),iT 26 (.fad 1 (.t 25)),iN (.sto 1 (.t 26) (.t 24))]) (
 .seq (.reg [
 iT 27 (.fad 1 (.l 5)),iT 28 (.ld false 1 (.t 27)),iT 29 (.fad 3 (.l 5)),iT 30 (.ld false 1 (.t 29)),iT 31 (.build [.p (.i .i64 0),.p (.s []),.p (.i .i64 0),.p (.i .i64 0),.p (.nl)] [(0,1,(cI 7)),(1,1,(.t 28)),(3,1,(.t 30))]),iL 6 (.alloc [.p (.i .i64 0),.p (.s []),.p (.i .i64 0),.p (.i .i64 0),.p (.nl)]),iN (.sto 5 (.l 6) (.t 31))]) (
 .seq (.seq (.reg [
 iT 32 (.mv (.l 0)),iT 33 (.call 64 [.t 32,.c (.p (.i .i64 3))]),iT 34 (.mv (.t 33)),⟨.t 35,.mv (.l 0),some ((.t 34),false)⟩,⟨.t 36,.call 64 [.t 35,.c (.p (.i .i64 1))],some ((.t 34),false)⟩,iT 37 (.pick (.t 34) (.c (.p (.b true))) (.t 36)),iT 38 (.mv (.t 37)),⟨.t 39,.mv (.l 0),some ((.t 38),false)⟩,⟨.t 40,.call 64 [.t 39,.c (.p (.i .i64 4))],some ((.t 38),false)⟩,iT 41 (.pick (.t 38) (.c (.p (.b true))) (.t 40)),iT 42 (.mv (.t 41)),⟨.t 43,.mv (.l 0),some ((.t 42),false)⟩,⟨.t 44,.call 72 [.t 43,.c (.p (.s [95]))],some ((.t 42),false)⟩,iT 45 (.pick (.t 42) (.c (.p (.b true))) (.t 44)),iT 46 (.mv (.t 45)),⟨.t 47,.mv (.l 0),some ((.t 46),false)⟩,⟨.t 48,.call 72 [.t 47,.c (.p (.s [116,114,117,101]))],some ((.t 46),false)⟩,iT 49 (.pick (.t 46) (.c (.p (.b true))) (.t 48)),iT 50 (.mv (.t 49)),⟨.t 51,.mv (.l 0),some ((.t 50),false)⟩,⟨.t 52,.call 72 [.t 51,.c (.p (.s [102,97,108,115,101]))],some ((.t 50),false)⟩,iT 53 (.pick (.t 50) (.c (.p (.b true))) (.t 52)),iT 54 (.mv (.t 53)),⟨.t 55,.mv (.l 0),some ((.t 54),false)⟩,⟨.t 56,.call 72 [.t 55,.c (.p (.s [40]))],some ((.t 54),false)⟩,iL 57 (.pick (.t 54) (.c (.p (.b true))) (.t 56))]) (
 .cond (.l 57) (
 .reg [
 iT 58 (.mv (.l 0)),iT 59 (.mv (.l 1)),iT 60 (.call 109 [.t 58,.t 59]),iT 61 (.bsl 5 [.p (.i .i64 0),.p (.s []),.p (.i .i64 0),.p (.i .i64 0),.p (.nl)] 1 [(0,(.t 60))]),iT 62 (.fad 4 (.l 6)),iN (.sto 1 (.t 62) (.t 61))]) (
 .skip))) (
 .seq (.reg [
 iT 63 (.ld true 5 (.l 6)),iN (.sto 5 (.l 4) (.t 63))]) (
 .ret))))))))
theorem mc62_eq:(Tryz.f62.body.map (compile lv62 Tryz.prog 64))=some mc62:=by kernel_rfl
def mr62:List MR:=[.cell true 5 4]
theorem mr62_eq:cRess lv62 Tryz.prog Tryz.f62.results.toList=some mr62:=by kernel_rfl
theorem call62:CallT Tryz.prog 62 64 mc62 mr62:=acall_mc (by kernel_rfl) Tryz.func62 mc62_eq Tryz.ntmps62 (by kernel_rfl) mr62_eq
/- (*impl.parser).once -/
def lv63:List Nat:=[0,1,2,3,5,6,7,8,9,10,12,18,27,28,29,30,35]
def mc63:MC :=
.seq (.reg [
 iL 3 (.box 1 (.l 0)),iL 5 (.box 1 (.l 2)),iL 6 (.alloc zl8_0)]) (
 .seq (.reg [
 iT 13 (.bsl 1 [.p (.s [])] 1 [(0,(.c (.p (.s [58,61]))))]),iT 14 (.bsl 1 [.p (.s [])] 2 [(0,(.c (.p (.s [61])))),(1,(.c (.p (.s [60]))))]),iT 15 (.bsl 1 [.p (.nl)] 2 [(0,(.t 13)),(1,(.t 14))]),iL 7 (.mv (.t 15))]) (
 .seq (.reg [
 iT 16 (.mkf 110 [.l 3,.l 5]),iL 8 (.mv (.t 16))]) (
 .seq (.seq (.reg [
 iT 17 (.mv (.l 1)),iL 18 (.bin .eql (.t 17) (cI 0))]) (
 .cond (.l 18) (
 .reg [
 iT 19 (.mkf 112 [.l 3,.l 5]),iL 8 (.mv (.t 19))]) (
 .skip))) (
 .seq (.reg [
 iT 20 (.mv (.l 8)),iT 21 (.calv (.t 20) []),iL 9 (.alloc zl8_0),iN (.sto 7 (.l 9) (.t 21))]) (
 .seq (.reg [
 iT 22 (.ld false 1 (.l 3)),iT 23 (.call 57 [.t 22]),iL 10 (.alloc [.p (.i .i64 0),.p (.s []),.p (.i .i64 0),.p (.i .i64 0)]),iN (.sto 4 (.l 10) (.t 23))]) (
 .seq (.seq (.reg [
 iT 24 (.mv (.l 7)),iT 25 (.mv (.l 1)),iT 26 (.ixs 1 (.t 24) (.t 25)),iL 27 (.ld false 1 (.t 26)),iL 28 (.len false (.l 27)),iL 29 (.mv (cI 0))]) (
 .blk 0 (
 .loop (
 .seq (.reg [
 iL 30 (.bin .lss (.l 29) (.l 28))]) (
 .seq (.cond (.l 30) (
 .skip) (
 .exit 0)) (
 .seq (.blk 1 (
 .seq (.reg [
 iT 31 (.ixs 1 (.l 27) (.l 29)),iT 32 (.ld false 1 (.t 31)),iL 12 (.mv (.t 32))]) (
 .seq (.reg [
 iT 33 (.ld false 1 (.l 3)),iT 34 (.mv (.l 12)),iL 35 (.call 59 [.t 33,.t 34])]) (
 .cond (.l 35) (
 .seq (.drw [
 iT 36 (.mv (.l 12)),iT 37 (.fad 3 (.l 10)),iT 38 (.ld false 1 (.t 37)),iT 39 (.ld true 7 (.l 9)),iT 40 (.mv (.l 8)),iT 41 (.calv (.t 40) []),iT 42 (.bsl 7 zl8_0 2 [(0,(.t 39)),(1,(.t 41))])] [
 iT 43 (.build zl8_0 [(0,1,(cI 14)),(1,1,(.t 36)),(4,1,(.t 38)),(5,1,(.t 42))]),iN (.sto 7 (.l 6) (.t 43))]) (
 .ret)) (
 .skip))))) (
 .reg [
 iT 44 (.bin .add (.l 29) (cI 1)),iL 29 (.mv (.t 44))]))))))) (
 .seq (.reg [
 iT 45 (.ld true 7 (.l 9)),iN (.sto 7 (.l 6) (.t 45))]) (
 .ret))))))))
theorem mc63_eq:(Tryz.f63.body.map (compile lv63 Tryz.prog 46))=some mc63:=by kernel_rfl
def mr63:List MR:=[.cell true 7 6]
theorem mr63_eq:cRess lv63 Tryz.prog Tryz.f63.results.toList=some mr63:=by kernel_rfl
theorem call63:CallT Tryz.prog 63 46 mc63 mr63:=acall_mc (by kernel_rfl) Tryz.func63 mc63_eq Tryz.ntmps63 (by kernel_rfl) mr63_eq
/- (*impl.parser).isKind -/
def lv64:List Nat:=[0,1,4]
def mc64:MC :=
.seq (.reg [
 iL 4 (.mv (.c (.p (.b false))))]) (
 .seq (.reg [
 iT 5 (.mv (.l 0)),iT 6 (.call 31 [.t 5]),iT 7 (.un .not (.t 6)),iT 8 (.mv (.t 7)),⟨.t 9,.mv (.l 0),some ((.t 8),true)⟩,⟨.t 10,.call 57 [.t 9],some ((.t 8),true)⟩,⟨.t 11,.fld false 0 1 (.t 10),some ((.t 8),true)⟩,⟨.t 12,.mv (.l 1),some ((.t 8),true)⟩,⟨.t 13,.bin .eql (.t 11) (.t 12),some ((.t 8),true)⟩,iT 14 (.pick (.t 8) (.t 13) (.c (.p (.b false)))),iL 4 (.mv (.t 14))]) (
 .ret))
theorem mc64_eq:(Tryz.f64.body.map (compile lv64 Tryz.prog 15))=some mc64:=by kernel_rfl
def mr64:List MR:=[.t 4]
theorem mr64_eq:cRess lv64 Tryz.prog Tryz.f64.results.toList=some mr64:=by kernel_rfl
theorem call64:CallT Tryz.prog 64 15 mc64 mr64:=acall_mc (by kernel_rfl) Tryz.func64 mc64_eq Tryz.ntmps64 (by kernel_rfl) mr64_eq
/- (*impl.parser).fail -/
def lv65:List Nat:=[0,1,9]
def mc65:MC :=
.seq (.reg [
 iT 4 (.mv (.l 0)),iT 5 (.nilc (.t 4)),iT 6 (.fad 4 (.t 5)),iT 7 (.fad 0 (.t 6)),iT 8 (.ld false 1 (.t 7)),iL 9 (.bin .eql (.t 8) (cI 0))]) (
 .cond (.l 9) (
 .reg [
 iT 10 (.mv (.l 0)),iT 11 (.mv (.l 1)),iT 12 (.mv (.l 0)),iT 13 (.call 57 [.t 12]),iT 14 (.fld false 3 1 (.t 13)),iT 15 (.build [.p (.i .i64 0),.p (.i .i64 0)] [(0,1,(.t 11)),(1,1,(.t 14))]),iT 16 (.nilc (.t 10)),iT 17 (.fad 4 (.t 16)),iN (.sto 2 (.t 17) (.t 15))]) (
 .skip))
theorem mc65_eq:(Tryz.f65.body.map (compile lv65 Tryz.prog 18))=some mc65:=by kernel_rfl
def mr65:List MR:=[]
theorem mr65_eq:cRess lv65 Tryz.prog Tryz.f65.results.toList=some mr65:=by kernel_rfl
theorem call65:CallT Tryz.prog 65 18 mc65 mr65:=acall_mc (by kernel_rfl) Tryz.func65 mc65_eq Tryz.ntmps65 (by kernel_rfl) mr65_eq
/- (*impl.parser).is -/
def lv72:List Nat:=[0,1,4,5]
def mc72:MC :=
.seq (.reg [
 iL 4 (.mv (.c (.p (.b false))))]) (
 .seq (.reg [
 iT 6 (.mv (.l 0)),iT 7 (.call 57 [.t 6]),iL 5 (.alloc [.p (.i .i64 0),.p (.s []),.p (.i .i64 0),.p (.i .i64 0)]),iN (.sto 4 (.l 5) (.t 7))]) (
 .seq (.reg [
 iT 8 (.mv (.l 0)),iT 9 (.call 31 [.t 8]),iT 10 (.un .not (.t 9)),iT 11 (.mv (.t 10)),⟨.t 12,.fad 0 (.l 5),some ((.t 11),true)⟩,⟨.t 13,.ld false 1 (.t 12),some ((.t 11),true)⟩,⟨.t 14,.bin .eql (.t 13) (cI 6),some ((.t 11),true)⟩,⟨.t 15,.mv (.t 14),some ((.t 11),true)⟩,⟨.t 16,.fad 0 (.l 5),some ((.t 15),false)⟩,⟨.t 17,.ld false 1 (.t 16),some ((.t 15),false)⟩,⟨.t 18,.bin .eql (.t 17) (cI 7),some ((.t 15),false)⟩,⟨.t 19,.pick (.t 15) (.c (.p (.b true))) (.t 18),some ((.t 11),true)⟩,iT 20 (.pick (.t 11) (.t 19) (.c (.p (.b false)))),iT 21 (.mv (.t 20)),⟨.t 22,.fad 1 (.l 5),some ((.t 21),true)⟩,⟨.t 23,.ld false 1 (.t 22),some ((.t 21),true)⟩,⟨.t 24,.mv (.l 1),some ((.t 21),true)⟩,⟨.t 25,.bin .eql (.t 23) (.t 24),some ((.t 21),true)⟩,iT 26 (.pick (.t 21) (.t 25) (.c (.p (.b false)))),iL 4 (.mv (.t 26))]) (
 .ret)))
theorem mc72_eq:(Tryz.f72.body.map (compile lv72 Tryz.prog 27))=some mc72:=by kernel_rfl
def mr72:List MR:=[.t 4]
theorem mr72_eq:cRess lv72 Tryz.prog Tryz.f72.results.toList=some mr72:=by kernel_rfl
theorem call72:CallT Tryz.prog 72 27 mc72 mr72:=acall_mc (by kernel_rfl) Tryz.func72 mc72_eq Tryz.ntmps72 (by kernel_rfl) mr72_eq
/- (*impl.parser).data -/
/- (*impl.parser).pata -/
def lv109:List Nat:=[0,1,4,5,6,15,19,26,33,38,42]
def mc109:MC :=
.seq (.reg [
 iL 4 (.alloc [.p (.i .i64 0),.p (.s []),.p (.i .i64 0),.p (.i .i64 0),.p (.nl)])]) (
 .seq (.reg [
 iT 7 (.mv (.l 0)),iT 8 (.call 57 [.t 7]),iL 5 (.alloc [.p (.i .i64 0),.p (.s []),.p (.i .i64 0),.p (.i .i64 0)]),iN (.sto 4 (.l 5) (.t 8))]) (
 .seq (.reg [
 iT 9 (.fad 3 (.l 5)),iT 10 (.ld false 1 (.t 9)),iT 11 (.build [.p (.i .i64 0),.p (.s []),.p (.i .i64 0),.p (.i .i64 0),.p (.nl)] [(3,1,(.t 10))]),iL 6 (.alloc [.p (.i .i64 0),.p (.s []),.p (.i .i64 0),.p (.i .i64 0),.p (.nl)]),iN (.sto 5 (.l 6) (.t 11))]) (
 .seq (.blk 0 (
 .seq (.reg [
 iT 16 (.mv (.l 0)),iT 17 (.call 72 [.t 16,.c (.p (.s [95]))]),iL 15 (.mv (.t 17))]) (
 .cond (.l 15) (
 .reg [
 iT 18 (.fad 0 (.l 6)),iN (.sto 1 (.t 18) (cI 1))]) (
 .seq (.reg [
 iT 20 (.mv (.l 0)),iT 21 (.call 64 [.t 20,.c (.p (.i .i64 3))]),iL 19 (.mv (.t 21))]) (
 .cond (.l 19) (
 .drw [
 iT 22 (.fad 1 (.l 5)),iT 23 (.ld false 1 (.t 22)),iT 24 (.fad 0 (.l 6)),iN (.sto 1 (.t 24) (cI 2))] [
 iT 25 (.fad 1 (.l 6)),iN (.sto 1 (.t 25) (.t 23))]) (
 .seq (.reg [
 iT 27 (.mv (.l 0)),iT 28 (.call 64 [.t 27,.c (.p (.i .i64 1))]),iL 26 (.mv (.t 28))]) (
 .cond (.l 26) (
 .drw [
 iT 29 (.fad 2 (.l 5)),iT 30 (.ld false 1 (.t 29)),iT 31 (.fad 0 (.l 6)),iN (.sto 1 (.t 31) (cI 3))] [
 iT 32 (.fad 2 (.l 6)),iN (.sto 1 (.t 32) (.t 30))]) (
 .seq (.reg [
 iT 34 (.mv (.l 0)),iT 35 (.call 72 [.t 34,.c (.p (.s [116,114,117,101]))]),iL 33 (.mv (.t 35))]) (
 .cond (.l 33) (
 .reg [
 iT 36 (.fad 0 (.l 6)),iN (.sto 1 (.t 36) (cI 4)),iT 37 (.fad 2 (.l 6)),iN (.sto 1 (.t 37) (cI 1))]) (
 .seq (.reg [
 iT 39 (.mv (.l 0)),iT 40 (.call 72 [.t 39,.c (.p (.s [102,97,108,115,101]))]),iL 38 (.mv (.t 40))]) (
 .cond (.l 38) (
 .reg [
 iT 41 (.fad 0 (.l 6)),iN (.sto 1 (.t 41) (cI 4))]) (
 .seq (.reg [
 iT 43 (.mv (.l 0)),iT 44 (.call 64 [.t 43,.c (.p (.i .i64 4))]),iL 42 (.mv (.t 44))]) (
 .cond (.l 42) (
 .drw [
 iT 45 (.fad 1 (.l 5)),iT 46 (.ld false 1 (.t 45)),iT 47 (.fad 0 (.l 6)),iN (.sto 1 (.t 47) (cI 7))] [
 iT 48 (.fad 1 (.l 6)),iN (.sto 1 (.t 48) (.t 46))]) (
 .seq (.reg [
 iT 12 (.mv (.l 0)),iT 13 (.mv (.l 1)),iT 14 (.call 166 [.t 12,.t 13]),iN (.sto 5 (.l 4) (.t 14))]) (
 .ret))))))))))))))) (
 .seq (.reg [
 iT 49 (.mv (.l 0)),iT 50 (.nilc (.t 49)),iT 51 (.fad 1 (.t 50)),iT 52 (.ld false 1 (.t 51)),iT 53 (.bin .add (.t 52) (cI 1)),iT 54 (.nilc (.t 49)),iT 55 (.fad 1 (.t 54)),iN (.sto 1 (.t 55) (.t 53))]) (
 .seq (.reg [
 iT 56 (.ld true 5 (.l 6)),iN (.sto 5 (.l 4) (.t 56))]) (
 .ret))))))
theorem mc109_eq:(Tryz.f109.body.map (compile lv109 Tryz.prog 57))=some mc109:=by kernel_rfl
def mr109:List MR:=[.cell true 5 4]
theorem mr109_eq:cRess lv109 Tryz.prog Tryz.f109.results.toList=some mr109:=by kernel_rfl
theorem call109:CallT Tryz.prog 109 57 mc109 mr109:=acall_mc (by kernel_rfl) Tryz.func109 mc109_eq Tryz.ntmps109 (by kernel_rfl) mr109_eq
/- (*impl.parser).once$1 -/
def lv110:List Nat:=[0,1,2]
def mc110:MC :=
.seq (.reg [
 iL 2 (.alloc zl8_0)]) (
 .seq (.reg [
 iT 3 (.ld false 1 (.l 0)),iT 4 (.ld false 1 (.l 1)),iT 5 (.call 111 [.t 3,.c (.p (.i .i64 0)),.t 4]),iN (.sto 7 (.l 2) (.t 5))]) (
 .ret))
theorem mc110_eq:(Tryz.f110.body.map (compile lv110 Tryz.prog 6))=some mc110:=by kernel_rfl
def mr110:List MR:=[.cell true 7 2]
theorem mr110_eq:cRess lv110 Tryz.prog Tryz.f110.results.toList=some mr110:=by kernel_rfl
theorem call110:CallT Tryz.prog 110 6 mc110 mr110:=acall_mc (by kernel_rfl) Tryz.func110 mc110_eq Tryz.ntmps110 (by kernel_rfl) mr110_eq
/- (*impl.parser).row -/
def lv111:List Nat:=[0,1,2,3,5,6,7,8,9,10,16,31]
def mc111:MC :=
.seq (.reg [
 iL 3 (.box 1 (.l 0)),iL 5 (.box 1 (.l 2)),iL 6 (.alloc zl8_0)]) (
 .seq (.reg [
 iT 11 (.bsl 1 [.p (.s [])] 3 [(0,(.c (.p (.s [43])))),(1,(.c (.p (.s [45])))),(2,(.c (.p (.s [94]))))]),iT 12 (.bsl 1 [.p (.s [])] 1 [(0,(.c (.p (.s [42]))))]),iT 13 (.bsl 1 [.p (.nl)] 2 [(0,(.t 11)),(1,(.t 12))]),iL 7 (.mv (.t 13))]) (
 .seq (.reg [
 iT 14 (.mkf 167 [.l 3,.l 5]),iL 8 (.mv (.t 14))]) (
 .seq (.seq (.reg [
 iT 15 (.mv (.l 1)),iL 16 (.bin .eql (.t 15) (cI 0))]) (
 .cond (.l 16) (
 .reg [
 iT 17 (.mkf 169 [.l 3,.l 5]),iL 8 (.mv (.t 17))]) (
 .skip))) (
 .seq (.reg [
 iT 18 (.mv (.l 8)),iT 19 (.calv (.t 18) []),iL 9 (.alloc zl8_0),iN (.sto 7 (.l 9) (.t 19))]) (
 .seq (.blk 0 (
 .loop (
 .seq (.seq (.drw [
 iT 20 (.ld false 1 (.l 3)),iT 21 (.call 64 [.t 20,.c (.p (.i .i64 7))]),iT 22 (.mv (.t 21)),⟨.t 23,.mv (.l 7),some ((.t 22),true)⟩,⟨.t 24,.mv (.l 1),some ((.t 22),true)⟩,⟨.t 25,.ixs 1 (.t 23) (.t 24),some ((.t 22),true)⟩,⟨.t 26,.ld false 1 (.t 25),some ((.t 22),true)⟩,⟨.t 27,.ld false 1 (.l 3),some ((.t 22),true)⟩,⟨.t 28,.call 57 [.t 27],some ((.t 22),true)⟩,⟨.t 29,.fld false 1 1 (.t 28),some ((.t 22),true)⟩] [
 ⟨.t 30,.call 170 [.t 26,.t 29],some ((.t 22),true)⟩,iL 31 (.pick (.t 22) (.t 30) (.c (.p (.b false))))]) (
 .cond (.l 31) (
 .skip) (
 .exit 0))) (
 .blk 1 (
 .seq (.reg [
 iT 32 (.ld false 1 (.l 3)),iT 33 (.call 57 [.t 32]),iL 10 (.alloc [.p (.i .i64 0),.p (.s []),.p (.i .i64 0),.p (.i .i64 0)]),iN (.sto 4 (.l 10) (.t 33))]) (
 .seq (.reg [
 iT 34 (.ld false 1 (.l 3)),iT 35 (.nilc (.t 34)),iT 36 (.fad 1 (.t 35)),iT 37 (.ld false 1 (.t 36)),iT 38 (.bin .add (.t 37) (cI 1)),iT 39 (.nilc (.t 34)),iT 40 (.fad 1 (.t 39)),iN (.sto 1 (.t 40) (.t 38))]) (
 .drw [
 iT 41 (.fad 1 (.l 10)),iT 42 (.ld false 1 (.t 41)),iT 43 (.fad 3 (.l 10)),iT 44 (.ld false 1 (.t 43)),iT 45 (.ld true 7 (.l 9)),iT 46 (.mv (.l 8)),iT 47 (.calv (.t 46) []),iT 48 (.bsl 7 zl8_0 2 [(0,(.t 45)),(1,(.t 47))])] [
 iT 49 (.build zl8_0 [(0,1,(cI 14)),(1,1,(.t 42)),(4,1,(.t 44)),(5,1,(.t 48))]),iN (.sto 7 (.l 9) (.t 49))]))))))) (
 .seq (.reg [
 iT 50 (.ld true 7 (.l 9)),iN (.sto 7 (.l 6) (.t 50))]) (
 .ret)))))))
theorem mc111_eq:(Tryz.f111.body.map (compile lv111 Tryz.prog 51))=some mc111:=by kernel_rfl
def mr111:List MR:=[.cell true 7 6]
theorem mr111_eq:cRess lv111 Tryz.prog Tryz.f111.results.toList=some mr111:=by kernel_rfl
theorem call111:CallT Tryz.prog 111 51 mc111 mr111:=acall_mc (by kernel_rfl) Tryz.func111 mc111_eq Tryz.ntmps111 (by kernel_rfl) mr111_eq
/- (*impl.parser).once$2 -/
def lv112:List Nat:=[0,1,2]
def mc112:MC :=
.seq (.reg [
 iL 2 (.alloc zl8_0)]) (
 .seq (.reg [
 iT 3 (.ld false 1 (.l 0)),iT 4 (.ld false 1 (.l 1)),iT 5 (.call 63 [.t 3,.c (.p (.i .i64 1)),.t 4]),iN (.sto 7 (.l 2) (.t 5))]) (
 .ret))
theorem mc112_eq:(Tryz.f112.body.map (compile lv112 Tryz.prog 6))=some mc112:=by kernel_rfl
def mr112:List MR:=[.cell true 7 2]
theorem mr112_eq:cRess lv112 Tryz.prog Tryz.f112.results.toList=some mr112:=by kernel_rfl
theorem call112:CallT Tryz.prog 112 6 mc112 mr112:=acall_mc (by kernel_rfl) Tryz.func112 mc112_eq Tryz.ntmps112 (by kernel_rfl) mr112_eq
/- (*impl.parser).ty -/
/- (*impl.parser).patBrackets -/
def lv166:List Nat:=[0,1,4,5,6,19,27,40]
def mc166:MC :=
.seq (.reg [
 iL 4 (.alloc [.p (.i .i64 0),.p (.s []),.p (.i .i64 0),.p (.i .i64 0),.p (.nl)])]) (
 .seq (.reg [
 iT 7 (.mv (.l 0)),iT 8 (.call 57 [.t 7]),iT 9 (.fld false 3 1 (.t 8)),iT 10 (.build [.p (.i .i64 0),.p (.s []),.p (.i .i64 0),.p (.i .i64 0),.p (.nl)] [(0,1,(cI 5)),(3,1,(.t 9))]),iL 5 (.alloc [.p (.i .i64 0),.p (.s []),.p (.i .i64 0),.p (.i .i64 0),.p (.nl)]),iN (.sto 5 (.l 5) (.t 10))]) (
 .seq (.reg [
 iT 11 (.mv (.l 0)),iT 12 (.bsl 1 [.p (.s [])] 1 [(0,(.c (.p (.s [40]))))]),iT 13 (.call 61 [.t 11,.t 12])]) (
 .seq (.seq (.reg [
 iT 14 (.mv (.l 0)),iT 15 (.call 59 [.t 14,.c (.p (.s [41]))]),iT 16 (.mv (.t 15)),⟨.t 17,.mv (.l 0),some ((.t 16),false)⟩,⟨.t 18,.call 31 [.t 17],some ((.t 16),false)⟩,iL 19 (.pick (.t 16) (.c (.p (.b true))) (.t 18))]) (
 .cond (.l 19) (
 .seq (.reg [
 iT 20 (.ld true 5 (.l 5)),iN (.sto 5 (.l 4) (.t 20))]) (
 .ret)) (
 .skip))) (
 .seq (.reg [
 iT 21 (.mv (.l 0)),iT 22 (.mv (.l 1)),iT 23 (.bin .add (.t 22) (cI 1)),iT 24 (.call 62 [.t 21,.t 23]),iT 25 (.bsl 5 [.p (.i .i64 0),.p (.s []),.p (.i .i64 0),.p (.i .i64 0),.p (.nl)] 1 [(0,(.t 24))]),iL 6 (.mv (.t 25))]) (
 .seq (.blk 0 (
 .loop (
 .seq (.seq (.reg [
 iT 26 (.mv (.l 0)),iL 27 (.call 59 [.t 26,.c (.p (.s [44]))])]) (
 .cond (.l 27) (
 .skip) (
 .exit 0))) (
 .blk 1 (
 .reg [
 iT 28 (.mv (.l 6)),iT 29 (.mv (.l 0)),iT 30 (.mv (.l 1)),iT 31 (.bin .add (.t 30) (cI 1)),iT 32 (.call 62 [.t 29,.t 31]),iT 33 (.bsl 5 [.p (.i .i64 0),.p (.s []),.p (.i .i64 0),.p (.i .i64 0),.p (.nl)] 1 [(0,(.t 32))]),iT 34 (.app 5 64 (.t 28) (.t 33)),iL 6 (.mv (.t 34))]))))) (
 .seq (.reg [
 iT 35 (.mv (.l 0)),iT 36 (.bsl 1 [.p (.s [])] 1 [(0,(.c (.p (.s [41]))))]),iT 37 (.call 61 [.t 35,.t 36])]) (
 .seq (.seq (.reg [
 iT 38 (.mv (.l 6)),iT 39 (.len false (.t 38)),iL 40 (.bin .eql (.t 39) (cI 1))]) (
 .cond (.l 40) (
 .seq (.reg [
 iT 41 (.mv (.l 6)),iT 42 (.ixs 5 (.t 41) (cI 0)),iT 43 (.ld true 5 (.t 42)),iN (.sto 5 (.l 4) (.t 43))]) (
 .ret)) (
 .skip))) (
 .seq (.reg [
 iT 44 (.mv (.l 6)),iT 45 (.fad 0 (.l 5)),iN (.sto 1 (.t 45) (cI 6)),iT 46 (.fad 4 (.l 5)),iN (.sto 1 (.t 46) (.t 44))]) (
 .seq (.reg [
 iT 47 (.ld true 5 (.l 5)),iN (.sto 5 (.l 4) (.t 47))]) (
 .ret))))))))))
theorem mc166_eq:(Tryz.f166.body.map (compile lv166 Tryz.prog 48))=some mc166:=by kernel_rfl
def mr166:List MR:=[.cell true 5 4]
theorem mr166_eq:cRess lv166 Tryz.prog Tryz.f166.results.toList=some mr166:=by kernel_rfl
theorem call166:CallT Tryz.prog 166 48 mc166 mr166:=acall_mc (by kernel_rfl) Tryz.func166 mc166_eq Tryz.ntmps166 (by kernel_rfl) mr166_eq
/- (*impl.parser).row$1 -/
def lv167:List Nat:=[0,1,2]
def mc167:MC :=
.seq (.reg [
 iL 2 (.alloc zl8_0)]) (
 .seq (.reg [
 iT 3 (.ld false 1 (.l 0)),iT 4 (.ld false 1 (.l 1)),iT 5 (.call 168 [.t 3,.t 4]),iN (.sto 7 (.l 2) (.t 5))]) (
 .ret))
theorem mc167_eq:(Tryz.f167.body.map (compile lv167 Tryz.prog 6))=some mc167:=by kernel_rfl
def mr167:List MR:=[.cell true 7 2]
theorem mr167_eq:cRess lv167 Tryz.prog Tryz.f167.results.toList=some mr167:=by kernel_rfl
theorem call167:CallT Tryz.prog 167 6 mc167 mr167:=acall_mc (by kernel_rfl) Tryz.func167 mc167_eq Tryz.ntmps167 (by kernel_rfl) mr167_eq
/- (*impl.parser).app -/
def lv168:List Nat:=[0,1,4,5,10]
def mc168:MC :=
.seq (.reg [
 iL 4 (.alloc zl8_0)]) (
 .seq (.reg [
 iT 6 (.mv (.l 0)),iT 7 (.mv (.l 1)),iT 8 (.call 213 [.t 6,.t 7]),iL 5 (.alloc zl8_0),iN (.sto 7 (.l 5) (.t 8))]) (
 .seq (.blk 0 (
 .loop (
 .seq (.seq (.reg [
 iT 9 (.mv (.l 0)),iL 10 (.call 214 [.t 9])]) (
 .cond (.l 10) (
 .skip) (
 .exit 0))) (
 .blk 1 (
 .drw [
 iT 11 (.fad 4 (.l 5)),iT 12 (.ld false 1 (.t 11)),iT 13 (.ld true 7 (.l 5)),iT 14 (.mv (.l 0)),iT 15 (.mv (.l 1)),iT 16 (.call 215 [.t 14,.t 15]),iT 17 (.bsl 7 zl8_0 2 [(0,(.t 13)),(1,(.t 16))])] [
 iT 18 (.build zl8_0 [(0,1,(cI 9)),(4,1,(.t 12)),(5,1,(.t 17))]),iN (.sto 7 (.l 5) (.t 18))]))))) (
 .seq (.reg [
 iT 19 (.ld true 7 (.l 5)),iN (.sto 7 (.l 4) (.t 19))]) (
 .ret))))
theorem mc168_eq:(Tryz.f168.body.map (compile lv168 Tryz.prog 20))=some mc168:=by kernel_rfl
def mr168:List MR:=[.cell true 7 4]
theorem mr168_eq:cRess lv168 Tryz.prog Tryz.f168.results.toList=some mr168:=by kernel_rfl
theorem call168:CallT Tryz.prog 168 20 mc168 mr168:=acall_mc (by kernel_rfl) Tryz.func168 mc168_eq Tryz.ntmps168 (by kernel_rfl) mr168_eq
/- (*impl.parser).row$2 -/
def lv169:List Nat:=[0,1,2]
def mc169:MC :=
.seq (.reg [
 iL 2 (.alloc zl8_0)]) (
 .seq (.reg [
 iT 3 (.ld false 1 (.l 0)),iT 4 (.ld false 1 (.l 1)),iT 5 (.call 111 [.t 3,.c (.p (.i .i64 1)),.t 4]),iN (.sto 7 (.l 2) (.t 5))]) (
 .ret))
theorem mc169_eq:(Tryz.f169.body.map (compile lv169 Tryz.prog 6))=some mc169:=by kernel_rfl
def mr169:List MR:=[.cell true 7 2]
theorem mr169_eq:cRess lv169 Tryz.prog Tryz.f169.results.toList=some mr169:=by kernel_rfl
theorem call169:CallT Tryz.prog 169 6 mc169 mr169:=acall_mc (by kernel_rfl) Tryz.func169 mc169_eq Tryz.ntmps169 (by kernel_rfl) mr169_eq
/- (*impl.parser).post -/
/- (*impl.parser).pre -/
def lv213:List Nat:=[0,1,4,5,7,8,11,12,13,14,19,31,48]
def mc213:MC :=
.seq (.reg [
 iL 4 (.alloc zl8_0)]) (
 .seq (.reg [
 iT 9 (.mv (.l 0)),iT 10 (.call 57 [.t 9]),iL 5 (.alloc [.p (.i .i64 0),.p (.s []),.p (.i .i64 0),.p (.i .i64 0)]),iN (.sto 4 (.l 5) (.t 10))]) (
 .seq (.seq (.reg [
 iL 11 (.bsl 1 [.p (.s [])] 5 [(0,(.c (.p (.s [112,114,105,110,116])))),(1,(.c (.p (.s [101,120,105,116])))),(2,(.c (.p (.s [115,105,122,101])))),(3,(.c (.p (.s [114,101,102])))),(4,(.c (.p (.s [33]))))]),iL 12 (.len false (.l 11)),iL 13 (.mv (cI 0))]) (
 .blk 0 (
 .loop (
 .seq (.reg [
 iL 14 (.bin .lss (.l 13) (.l 12))]) (
 .seq (.cond (.l 14) (
 .skip) (
 .exit 0)) (
 .seq (.blk 1 (
 .seq (.reg [
 iT 15 (.ixs 1 (.l 11) (.l 13)),iT 16 (.ld false 1 (.t 15)),iL 7 (.mv (.t 16))]) (
 .seq (.reg [
 iT 17 (.mv (.l 0)),iT 18 (.mv (.l 7)),iL 19 (.call 59 [.t 17,.t 18])]) (
 .cond (.l 19) (
 .seq (.drw [
 iT 20 (.mv (.l 7)),iT 21 (.fad 3 (.l 5)),iT 22 (.ld false 1 (.t 21)),iT 23 (.mv (.l 0)),iT 24 (.mv (.l 1)),iT 25 (.call 215 [.t 23,.t 24]),iT 26 (.bsl 7 zl8_0 1 [(0,(.t 25))])] [
 iT 27 (.build zl8_0 [(0,1,(cI 15)),(1,1,(.t 20)),(4,1,(.t 22)),(5,1,(.t 26))]),iN (.sto 7 (.l 4) (.t 27))]) (
 .ret)) (
 .skip))))) (
 .reg [
 iT 28 (.bin .add (.l 13) (cI 1)),iL 13 (.mv (.t 28))]))))))) (
 .seq (.seq (.reg [
 iT 29 (.mv (.l 0)),iT 30 (.call 64 [.t 29,.c (.p (.i .i64 4))]),iL 31 (.un .not (.t 30))]) (
 .cond (.l 31) (
 .seq (.reg [
 iT 32 (.mv (.l 0)),iT 33 (.mv (.l 1)),iT 34 (.call 215 [.t 32,.t 33]),iN (.sto 7 (.l 4) (.t 34))]) (
 .ret)) (
 .skip))) (
 .seq (.reg [
 iT 35 (.mv (.l 0)),iT 36 (.nilc (.t 35)),iT 37 (.fad 1 (.t 36)),iT 38 (.ld false 1 (.t 37)),iT 39 (.bin .add (.t 38) (cI 1)),iT 40 (.nilc (.t 35)),iT 41 (.fad 1 (.t 40)),iN (.sto 1 (.t 41) (.t 39))]) (
 .seq (.reg [
 iT 42 (.fad 1 (.l 5)),iT 43 (.ld false 1 (.t 42)),iT 44 (.fad 3 (.l 5)),iT 45 (.ld false 1 (.t 44)),iT 46 (.build zl8_0 [(0,1,(cI 6)),(1,1,(.t 43)),(4,1,(.t 45))]),iL 8 (.alloc zl8_0),iN (.sto 7 (.l 8) (.t 46))]) (
 .seq (.seq (.reg [
 iT 47 (.mv (.l 0)),iL 48 (.call 214 [.t 47])]) (
 .cond (.l 48) (
 .reg [
 iT 49 (.mv (.l 0)),iT 50 (.mv (.l 1)),iT 51 (.call 215 [.t 49,.t 50]),iT 52 (.bsl 7 zl8_0 1 [(0,(.t 51))]),iT 53 (.fad 5 (.l 8)),iN (.sto 1 (.t 53) (.t 52))]) (
 .skip))) (
 .seq (.reg [
 iT 54 (.ld true 7 (.l 8)),iN (.sto 7 (.l 4) (.t 54))]) (
 .ret))))))))
theorem mc213_eq:(Tryz.f213.body.map (compile lv213 Tryz.prog 55))=some mc213:=by kernel_rfl
def mr213:List MR:=[.cell true 7 4]
theorem mr213_eq:cRess lv213 Tryz.prog Tryz.f213.results.toList=some mr213:=by kernel_rfl
theorem call213:CallT Tryz.prog 213 55 mc213 mr213:=acall_mc (by kernel_rfl) Tryz.func213 mc213_eq Tryz.ntmps213 (by kernel_rfl) mr213_eq
/- (*impl.parser).atomNext -/
def lv214:List Nat:=[0,2]
def mc214:MC :=
.seq (.reg [
 iL 2 (.mv (.c (.p (.b false))))]) (
 .seq (.reg [
 iT 3 (.mv (.l 0)),iT 4 (.call 64 [.t 3,.c (.p (.i .i64 1))]),iT 5 (.mv (.t 4)),⟨.t 6,.mv (.l 0),some ((.t 5),false)⟩,⟨.t 7,.call 64 [.t 6,.c (.p (.i .i64 2))],some ((.t 5),false)⟩,iT 8 (.pick (.t 5) (.c (.p (.b true))) (.t 7)),iT 9 (.mv (.t 8)),⟨.t 10,.mv (.l 0),some ((.t 9),false)⟩,⟨.t 11,.call 64 [.t 10,.c (.p (.i .i64 3))],some ((.t 9),false)⟩,iT 12 (.pick (.t 9) (.c (.p (.b true))) (.t 11)),iT 13 (.mv (.t 12)),⟨.t 14,.mv (.l 0),some ((.t 13),false)⟩,⟨.t 15,.call 64 [.t 14,.c (.p (.i .i64 4))],some ((.t 13),false)⟩,iT 16 (.pick (.t 13) (.c (.p (.b true))) (.t 15)),iT 17 (.mv (.t 16)),⟨.t 18,.mv (.l 0),some ((.t 17),false)⟩,⟨.t 19,.call 72 [.t 18,.c (.p (.s [116,114,117,101]))],some ((.t 17),false)⟩,iT 20 (.pick (.t 17) (.c (.p (.b true))) (.t 19)),iT 21 (.mv (.t 20)),⟨.t 22,.mv (.l 0),some ((.t 21),false)⟩,⟨.t 23,.call 72 [.t 22,.c (.p (.s [102,97,108,115,101]))],some ((.t 21),false)⟩,iT 24 (.pick (.t 21) (.c (.p (.b true))) (.t 23)),iT 25 (.mv (.t 24)),⟨.t 26,.mv (.l 0),some ((.t 25),false)⟩,⟨.t 27,.call 72 [.t 26,.c (.p (.s [114,101,97,100]))],some ((.t 25),false)⟩,iT 28 (.pick (.t 25) (.c (.p (.b true))) (.t 27)),iT 29 (.mv (.t 28)),⟨.t 30,.mv (.l 0),some ((.t 29),false)⟩,⟨.t 31,.call 72 [.t 30,.c (.p (.s [40]))],some ((.t 29),false)⟩,iT 32 (.pick (.t 29) (.c (.p (.b true))) (.t 31)),iL 2 (.mv (.t 32))]) (
 .ret))
theorem mc214_eq:(Tryz.f214.body.map (compile lv214 Tryz.prog 33))=some mc214:=by kernel_rfl
def mr214:List MR:=[.t 2]
theorem mr214_eq:cRess lv214 Tryz.prog Tryz.f214.results.toList=some mr214:=by kernel_rfl
theorem call214:CallT Tryz.prog 214 33 mc214 mr214:=acall_mc (by kernel_rfl) Tryz.func214 mc214_eq Tryz.ntmps214 (by kernel_rfl) mr214_eq
/- (*impl.parser).atom -/
def lv215:List Nat:=[0,1,4,5,6,15,22,29,34,38,45,52]
def mc215:MC :=
.seq (.reg [
 iL 4 (.alloc zl8_0)]) (
 .seq (.reg [
 iT 7 (.mv (.l 0)),iT 8 (.call 57 [.t 7]),iL 5 (.alloc [.p (.i .i64 0),.p (.s []),.p (.i .i64 0),.p (.i .i64 0)]),iN (.sto 4 (.l 5) (.t 8))]) (
 .seq (.reg [
 iT 9 (.fad 3 (.l 5)),iT 10 (.ld false 1 (.t 9)),iT 11 (.build zl8_0 [(4,1,(.t 10))]),iL 6 (.alloc zl8_0),iN (.sto 7 (.l 6) (.t 11))]) (
 .seq (.blk 0 (
 .seq (.reg [
 iT 16 (.mv (.l 0)),iT 17 (.call 64 [.t 16,.c (.p (.i .i64 1))]),iL 15 (.mv (.t 17))]) (
 .cond (.l 15) (
 .drw [
 iT 18 (.fad 2 (.l 5)),iT 19 (.ld false 1 (.t 18)),iT 20 (.fad 0 (.l 6)),iN (.sto 1 (.t 20) (cI 1))] [
 iT 21 (.fad 2 (.l 6)),iN (.sto 1 (.t 21) (.t 19))]) (
 .seq (.reg [
 iT 23 (.mv (.l 0)),iT 24 (.call 64 [.t 23,.c (.p (.i .i64 2))]),iL 22 (.mv (.t 24))]) (
 .cond (.l 22) (
 .drw [
 iT 25 (.fad 1 (.l 5)),iT 26 (.ld false 1 (.t 25)),iT 27 (.fad 0 (.l 6)),iN (.sto 1 (.t 27) (cI 2))] [
 iT 28 (.fad 3 (.l 6)),iN (.sto 1 (.t 28) (.t 26))]) (
 .seq (.reg [
 iT 30 (.mv (.l 0)),iT 31 (.call 72 [.t 30,.c (.p (.s [116,114,117,101]))]),iL 29 (.mv (.t 31))]) (
 .cond (.l 29) (
 .reg [
 iT 32 (.fad 0 (.l 6)),iN (.sto 1 (.t 32) (cI 3)),iT 33 (.fad 2 (.l 6)),iN (.sto 1 (.t 33) (cI 1))]) (
 .seq (.reg [
 iT 35 (.mv (.l 0)),iT 36 (.call 72 [.t 35,.c (.p (.s [102,97,108,115,101]))]),iL 34 (.mv (.t 36))]) (
 .cond (.l 34) (
 .reg [
 iT 37 (.fad 0 (.l 6)),iN (.sto 1 (.t 37) (cI 3))]) (
 .seq (.reg [
 iT 39 (.mv (.l 0)),iT 40 (.call 64 [.t 39,.c (.p (.i .i64 3))]),iL 38 (.mv (.t 40))]) (
 .cond (.l 38) (
 .drw [
 iT 41 (.fad 1 (.l 5)),iT 42 (.ld false 1 (.t 41)),iT 43 (.fad 0 (.l 6)),iN (.sto 1 (.t 43) (cI 5))] [
 iT 44 (.fad 1 (.l 6)),iN (.sto 1 (.t 44) (.t 42))]) (
 .seq (.reg [
 iT 46 (.mv (.l 0)),iT 47 (.call 64 [.t 46,.c (.p (.i .i64 4))]),iL 45 (.mv (.t 47))]) (
 .cond (.l 45) (
 .drw [
 iT 48 (.fad 1 (.l 5)),iT 49 (.ld false 1 (.t 48)),iT 50 (.fad 0 (.l 6)),iN (.sto 1 (.t 50) (cI 6))] [
 iT 51 (.fad 1 (.l 6)),iN (.sto 1 (.t 51) (.t 49))]) (
 .seq (.reg [
 iT 53 (.mv (.l 0)),iT 54 (.call 72 [.t 53,.c (.p (.s [114,101,97,100]))]),iL 52 (.mv (.t 54))]) (
 .cond (.l 52) (
 .drw [
 iT 55 (.fad 1 (.l 5)),iT 56 (.ld false 1 (.t 55)),iT 57 (.fad 0 (.l 6)),iN (.sto 1 (.t 57) (cI 15))] [
 iT 58 (.fad 1 (.l 6)),iN (.sto 1 (.t 58) (.t 56))]) (
 .seq (.reg [
 iT 12 (.mv (.l 0)),iT 13 (.mv (.l 1)),iT 14 (.call 238 [.t 12,.t 13]),iN (.sto 7 (.l 4) (.t 14))]) (
 .ret))))))))))))))))) (
 .seq (.reg [
 iT 59 (.mv (.l 0)),iT 60 (.nilc (.t 59)),iT 61 (.fad 1 (.t 60)),iT 62 (.ld false 1 (.t 61)),iT 63 (.bin .add (.t 62) (cI 1)),iT 64 (.nilc (.t 59)),iT 65 (.fad 1 (.t 64)),iN (.sto 1 (.t 65) (.t 63))]) (
 .seq (.reg [
 iT 66 (.ld true 7 (.l 6)),iN (.sto 7 (.l 4) (.t 66))]) (
 .ret))))))
theorem mc215_eq:(Tryz.f215.body.map (compile lv215 Tryz.prog 67))=some mc215:=by kernel_rfl
def mr215:List MR:=[.cell true 7 4]
theorem mr215_eq:cRess lv215 Tryz.prog Tryz.f215.results.toList=some mr215:=by kernel_rfl
theorem call215:CallT Tryz.prog 215 67 mc215 mr215:=acall_mc (by kernel_rfl) Tryz.func215 mc215_eq Tryz.ntmps215 (by kernel_rfl) mr215_eq
/- (*impl.parser).tyat -/
/- (*impl.parser).brackets -/
def lv238:List Nat:=[0,1,4,5,6,19,27,40]
def mc238:MC :=
.seq (.reg [
 iL 4 (.alloc zl8_0)]) (
 .seq (.reg [
 iT 7 (.mv (.l 0)),iT 8 (.call 57 [.t 7]),iT 9 (.fld false 3 1 (.t 8)),iT 10 (.build zl8_0 [(0,1,(cI 4)),(4,1,(.t 9))]),iL 5 (.alloc zl8_0),iN (.sto 7 (.l 5) (.t 10))]) (
 .seq (.reg [
 iT 11 (.mv (.l 0)),iT 12 (.bsl 1 [.p (.s [])] 1 [(0,(.c (.p (.s [40]))))]),iT 13 (.call 61 [.t 11,.t 12])]) (
 .seq (.seq (.reg [
 iT 14 (.mv (.l 0)),iT 15 (.call 59 [.t 14,.c (.p (.s [41]))]),iT 16 (.mv (.t 15)),⟨.t 17,.mv (.l 0),some ((.t 16),false)⟩,⟨.t 18,.call 31 [.t 17],some ((.t 16),false)⟩,iL 19 (.pick (.t 16) (.c (.p (.b true))) (.t 18))]) (
 .cond (.l 19) (
 .seq (.reg [
 iT 20 (.ld true 7 (.l 5)),iN (.sto 7 (.l 4) (.t 20))]) (
 .ret)) (
 .skip))) (
 .seq (.reg [
 iT 21 (.mv (.l 0)),iT 22 (.mv (.l 1)),iT 23 (.bin .add (.t 22) (cI 1)),iT 24 (.call 29 [.t 21,.t 23]),iT 25 (.bsl 7 zl8_0 1 [(0,(.t 24))]),iL 6 (.mv (.t 25))]) (
 .seq (.blk 0 (
 .loop (
 .seq (.seq (.reg [
 iT 26 (.mv (.l 0)),iL 27 (.call 59 [.t 26,.c (.p (.s [44]))])]) (
 .cond (.l 27) (
 .skip) (
 .exit 0))) (
 .blk 1 (
 .reg [
 iT 28 (.mv (.l 6)),iT 29 (.mv (.l 0)),iT 30 (.mv (.l 1)),iT 31 (.bin .add (.t 30) (cI 1)),iT 32 (.call 29 [.t 29,.t 31]),iT 33 (.bsl 7 zl8_0 1 [(0,(.t 32))]),iT 34 (.app 7 104 (.t 28) (.t 33)),iL 6 (.mv (.t 34))]))))) (
 .seq (.reg [
 iT 35 (.mv (.l 0)),iT 36 (.bsl 1 [.p (.s [])] 1 [(0,(.c (.p (.s [41]))))]),iT 37 (.call 61 [.t 35,.t 36])]) (
 .seq (.seq (.reg [
 iT 38 (.mv (.l 6)),iT 39 (.len false (.t 38)),iL 40 (.bin .eql (.t 39) (cI 1))]) (
 .cond (.l 40) (
 .seq (.reg [
 iT 41 (.mv (.l 6)),iT 42 (.ixs 7 (.t 41) (cI 0)),iT 43 (.ld true 7 (.t 42)),iN (.sto 7 (.l 4) (.t 43))]) (
 .ret)) (
 .skip))) (
 .seq (.reg [
 iT 44 (.mv (.l 6)),iT 45 (.fad 0 (.l 5)),iN (.sto 1 (.t 45) (cI 7)),iT 46 (.fad 5 (.l 5)),iN (.sto 1 (.t 46) (.t 44))]) (
 .seq (.reg [
 iT 47 (.ld true 7 (.l 5)),iN (.sto 7 (.l 4) (.t 47))]) (
 .ret))))))))))
theorem mc238_eq:(Tryz.f238.body.map (compile lv238 Tryz.prog 48))=some mc238:=by kernel_rfl
def mr238:List MR:=[.cell true 7 4]
theorem mr238_eq:cRess lv238 Tryz.prog Tryz.f238.results.toList=some mr238:=by kernel_rfl
theorem call238:CallT Tryz.prog 238 48 mc238 mr238:=acall_mc (by kernel_rfl) Tryz.func238 mc238_eq Tryz.ntmps238 (by kernel_rfl) mr238_eq
end Go.Proofs.YtghcmccjchdgeaaGreatDoor.Mc
/- The program's parser in memory; its smaller steps. -/
set_option linter.all false
namespace Go.Proofs.YtghcmccjchdgeaaGreatDoor.Pg
open Go.AM
mutual
def TyE.tv:TyE→List TV
 | .mk k n p ks=>[.p (.i .i64 k),.p (.s n),.p (.i .i64 p),.s 4 (TyE.tvL ks)]
def TyE.tvL:List TyE→List (List TV)
 | []=>[]
 | t :: l=>t.tv :: TyE.tvL l
end
mutual
def PatD.tv:PatD→List TV
 | .mk k n u p ks=>[.p (.i .i64 k),.p (.s n),.p (.i .i64 u),.p (.i .i64 p),.s 5 (PatD.tvL ks)]
def PatD.tvL:List PatD→List (List TV)
 | []=>[]
 | t :: l=>t.tv :: PatD.tvL l
end
mutual
def ExpD.tv:ExpD→List TV
 | .mk k n u t p ks as'=>[.p (.i .i64 k),.p (.s n),.p (.i .i64 u),.p (.s t),.p (.i .i64 p),.s 7 (ExpD.tvL ks),.s 12 (ExpD.tvA as')]
def ExpD.tvL:List ExpD→List (List TV)
 | []=>[]
 | t :: l=>t.tv :: ExpD.tvL l
def ArmD.tv:ArmD→List TV
 | .mk p e=>p.tv++e.tv
def ExpD.tvA:List ArmD→List (List TV)
 | []=>[]
 | t :: l=>t.tv :: ExpD.tvA l
end
theorem TyE.tvL_eq (l:List TyE):TyE.tvL l=l.map TyE.tv:=by
 induction l with
 | nil=>rfl
 | cons t l ih=>rw [TyE.tvL,ih]; rfl
theorem PatD.tvL_eq (l:List PatD):PatD.tvL l=l.map PatD.tv:=by
 induction l with
 | nil=>rfl
 | cons t l ih=>rw [PatD.tvL,ih]; rfl
theorem ExpD.tvL_eq (l:List ExpD):ExpD.tvL l=l.map ExpD.tv:=by
 induction l with
 | nil=>rfl
 | cons t l ih=>rw [ExpD.tvL,ih]; rfl
theorem ExpD.tvA_eq (l:List ArmD):ExpD.tvA l=l.map ArmD.tv:=by
 induction l with
 | nil=>rfl
 | cons t l ih=>rw [ExpD.tvA,ih]; rfl
theorem TyE.tv_len (t:TyE):t.tv.length=4:=by cases t; rw [TyE.tv]; rfl
theorem PatD.tv_len (t:PatD):t.tv.length=5:=by cases t; rw [PatD.tv]; rfl
theorem ExpD.tv_len (t:ExpD):t.tv.length=7:=by cases t; rw [ExpD.tv]; rfl
theorem ArmD.tv_len (t:ArmD):t.tv.length=12:=by cases t; rw [ArmD.tv,List.length_append,PatD.tv_len,ExpD.tv_len]
theorem wfC_app : ∀ {a b : List TV}, WfC a → WfC b → WfC (a ++ b)
  | [], b, _, h => h
  | t :: a, b, h, k => by
    rw [WfC] at h
    rw [List.cons_append, WfC]
    exact ⟨h.1, wfC_app h.2 k⟩
theorem wf_p {x:PV} {l:List TV} (h:WfC l):WfC (.p x :: l):=by rw [WfC,WfT]; exact ⟨trivial,h⟩
theorem wf_s {sz:Nat} {r:List (List TV)} {l:List TV} (h:WfR sz r) (k:WfC l):WfC (.s sz r :: l):=by rw [WfC,WfT]; exact ⟨h,k⟩
theorem wf_n:WfC []:=by rw [WfC]; trivial
mutual
theorem TyE.wf:∀ t:TyE,WfC t.tv
 | .mk k n p ks=>by rw [TyE.tv]; exact wf_p (wf_p (wf_p (wf_s (TyE.wfL ks) wf_n)))
theorem TyE.wfL:∀ l:List TyE,WfR 4 (TyE.tvL l)
 | []=>by rw [TyE.tvL,WfR]; trivial
 | t :: l=>by rw [TyE.tvL,WfR]; exact ⟨t.tv_len,t.wf,TyE.wfL l⟩
end
mutual
theorem PatD.wf:∀ t:PatD,WfC t.tv
 | .mk k n u p ks=>by rw [PatD.tv]; exact wf_p (wf_p (wf_p (wf_p (wf_s (PatD.wfL ks) wf_n))))
theorem PatD.wfL:∀ l:List PatD,WfR 5 (PatD.tvL l)
 | []=>by rw [PatD.tvL,WfR]; trivial
 | t :: l=>by rw [PatD.tvL,WfR]; exact ⟨t.tv_len,t.wf,PatD.wfL l⟩
end
mutual
theorem ExpD.wf:∀ t:ExpD,WfC t.tv
 | .mk k n u t p ks as'=>by rw [ExpD.tv]; exact wf_p (wf_p (wf_p (wf_p (wf_p (wf_s (ExpD.wfL ks) (wf_s (ExpD.wfA as') wf_n))))))
theorem ExpD.wfL:∀ l:List ExpD,WfR 7 (ExpD.tvL l)
 | []=>by rw [ExpD.tvL,WfR]; trivial
 | t :: l=>by rw [ExpD.tvL,WfR]; exact ⟨t.tv_len,t.wf,ExpD.wfL l⟩
theorem ArmD.wf:∀ t:ArmD,WfC t.tv
 | .mk p e=>by rw [ArmD.tv]; exact wfC_app p.wf e.wf
theorem ExpD.wfA:∀ l:List ArmD,WfR 12 (ExpD.tvA l)
 | []=>by rw [ExpD.tvA,WfR]; trivial
 | t :: l=>by rw [ExpD.tvA,WfR]; exact ⟨t.tv_len,t.wf,ExpD.wfA l⟩
end
end Go.Proofs.YtghcmccjchdgeaaGreatDoor.Pg
namespace Go.Proofs.YtghcmccjchdgeaaGreatDoor.Qp
open Go.AM Mc Pg
def pvI (T:List Tok) (most:Nat) (s:PS):AO:=.var [ptV T,iV s.i,iV most,iV s.d,iV s.c,iV s.ps]
theorem pvI_tf (T most s c) (h:InO c (pvI T most s)):Tf c:=by
 simp only [pvI,InO,List.mem_cons,List.not_mem_nil,or_false] at h
 rcases h with rfl | rfl | rfl | rfl | rfl | rfl <;> exact tf_p _
section
variable {T:List Tok} {most e:Nat}
theorem iNow:PF (pvI T most) T e 57 [] (nowM T) tv:=by
 refine pf_of (pvI_tf T most) fun H p s hp hs=>?_
 have hlt:decide ((s.i:Int)<(T.length:Int))=true:=by simp; exact hs.1
 have hg:=tok_get hs.1
 refine call57 (by simp) ?_
 simp only [go_sem,reduceIte,↓reduceIte,sevalprocAttr,Z0,Z1,bytesOf,qx0,qxk,qs0,qsk,List.length_set,mc57,mr57]
 refine drw_same ?_
 simp only [go_sem,reduceIte,↓reduceIte,sevalprocAttr,Z0,Z1,bytesOf,qx0,qxk,qs0,qsk,List.length_set,qp hp,pvI,List.length_map,hlt,hg,Tok.cells]
 exact ⟨_,rfl,lentP (tf_av (tokA T s).cells)⟩
theorem iFailed:PF (pvI T most) T e 31 [] (testM fun s=>!decide (s.c=0)) bV:=by
 refine pf_of (pvI_tf T most) fun H p s hp hs=>?_
 refine call31 (by simp) ?_
 simp only [go_sem,reduceIte,↓reduceIte,sevalprocAttr,Z0,Z1,bytesOf,qx0,qxk,qs0,qsk,List.length_set,mc31,mr31,qp0 hp,pvI]
 exact ⟨[],by simp,lentP (tf_p _)⟩
theorem iIsK (k:Int):PF (pvI T most) T e 64 [iV k] (testM (isK T k)) bV:=by
 refine pf_of (pvI_tf T most) fun H p s hp hs=>?_
 refine call64 (by simp) ?_
 simp only [go_sem,reduceIte,↓reduceIte,sevalprocAttr,Z0,Z1,bytesOf,qx0,qxk,qs0,qsk,List.length_set,mc64,mr64]
 refine acall_pure (iFailed.nil hp hs) ?_
 have eT:isK T k s=(decide (s.c=0) && decide ((tokA T s).k=k)):=rfl
 rw [eT]
 cases h0:decide (s.c=0)
 ·simp only [go_sem,reduceIte,↓reduceIte,sevalprocAttr,Z0,Z1,bytesOf,qx0,qxk,qs0,qsk,List.length_set,h0,Bool.false_and,Bool.not_false,Bool.not_true]
  exact ⟨[],by simp,lentP (tf_p _)⟩
 ·simp only [go_sem,reduceIte,↓reduceIte,sevalprocAttr,Z0,Z1,bytesOf,qx0,qxk,qs0,qsk,List.length_set,h0,Bool.true_and,Bool.not_false,Bool.not_true]
  refine acall_pure (iNow.nil hp hs) ?_
  simp only [go_sem,reduceIte,↓reduceIte,sevalprocAttr,Z0,Z1,bytesOf,qx0,qxk,qs0,qsk,List.length_set,Tok.cells]
  exact ⟨[],by simp,lentP (tf_p _)⟩
theorem iIs (x:List UInt8):PF (pvI T most) T e 72 [sV x] (testM (isT T x)) bV:=by
 refine pf_of (pvI_tf T most) fun H p s hp hs=>?_
 refine call72 (by simp) ?_
 simp only [go_sem,reduceIte,↓reduceIte,sevalprocAttr,Z0,Z1,bytesOf,qx0,qxk,qs0,qsk,List.length_set,mc72,mr72]
 refine acall_pure (iNow.nil hp hs) ?_
 have eT:isT T x s=(decide (s.c=0) && (decide ((tokA T s).k=6) || decide ((tokA T s).k=7)) && decide ((tokA T s).t=x)):=rfl
 rw [eT]
 simp only [go_sem,reduceIte,↓reduceIte,sevalprocAttr,Z0,Z1,bytesOf,qx0,qxk,qs0,qsk,List.length_set,qp hp,Tok.cells]
 refine acall_pure (iFailed H _ p s hp hs) ?_
 cases h0:decide (s.c=0)
 ·simp only [go_sem,reduceIte,↓reduceIte,sevalprocAttr,Z0,Z1,bytesOf,qx0,qxk,qs0,qsk,List.length_set,h0,Bool.false_and,Bool.not_false,Bool.not_true]
  exact ⟨_,rfl,lentP (tf_p _)⟩
 cases h6:decide ((tokA T s).k=6)
 ·cases h7:decide ((tokA T s).k=7)
  ·simp only [go_sem,reduceIte,↓reduceIte,sevalprocAttr,Z0,Z1,bytesOf,qx0,qxk,qs0,qsk,List.length_set,h0,h6,h7,Bool.or_self,Bool.and_false,Bool.false_and,Bool.not_false,Bool.not_true]
   exact ⟨_,rfl,lentP (tf_p _)⟩
  ·simp only [go_sem,reduceIte,↓reduceIte,sevalprocAttr,Z0,Z1,bytesOf,qx0,qxk,qs0,qsk,List.length_set,h0,h6,h7,Bool.false_or,Bool.and_true,Bool.true_and,Bool.not_false,Bool.not_true]
   exact ⟨_,rfl,lentP (tf_p _)⟩
 ·simp only [go_sem,reduceIte,↓reduceIte,sevalprocAttr,Z0,Z1,bytesOf,qx0,qxk,qs0,qsk,List.length_set,h0,h6,Bool.true_or,Bool.and_true,Bool.true_and,Bool.not_false,Bool.not_true]
  exact ⟨_,rfl,lentP (tf_p _)⟩
theorem iTake (hTl:T.length≤1048577) (x:List UInt8):PF (pvI T most) T e 59 [sV x] (takeM T x) bV:=by
 refine pf_of (pvI_tf T most) fun H p s hp hs=>?_
 refine call59 (by simp) ?_
 simp only [go_sem,reduceIte,↓reduceIte,sevalprocAttr,Z0,Z1,bytesOf,qx0,qxk,qs0,qsk,List.length_set,mc59,mr59]
 refine acall_pure ((iIs x).nil hp hs) ?_
 unfold takeM
 cases h:isT T x s
 ·simp only [go_sem,reduceIte,↓reduceIte,sevalprocAttr,Z0,Z1,bytesOf,qx0,qxk,qs0,qsk,List.length_set,h,Bool.not_false]
  exact ⟨[],by simp,lentP (tf_p _)⟩
 ·simp only [go_sem,reduceIte,↓reduceIte,sevalprocAttr,Z0,Z1,bytesOf,qx0,qxk,qs0,qsk,List.length_set,h,qp0 hp,pvI,qq0,ws hTl hs,Bool.not_true]
  exact ⟨[],by simp [adv],lentP (tf_p _)⟩
theorem iFail (c:Int):PF (pvI T most) T e 65 [iV c] (stepM (failP T c)) uV:=by
 refine pf_of (pvI_tf T most) fun H p s hp hs=>?_
 refine call65 (by simp) ?_
 cases h0:decide (s.c=0)
 ·simp only [go_sem,reduceIte,↓reduceIte,sevalprocAttr,Z0,Z1,bytesOf,qx0,qxk,qs0,qsk,List.length_set,mc65,mr65,qp0 hp,pvI,h0]
  rw [failP_c (of_decide_eq_false h0)]
  exact ⟨[],by simp,lentP (tf_tup _ (by simp))⟩
 ·simp only [go_sem,reduceIte,↓reduceIte,sevalprocAttr,Z0,Z1,bytesOf,qx0,qxk,qs0,qsk,List.length_set,mc65,mr65,qp0 hp,pvI,h0]
  refine acall_pure (iNow.nil hp hs) ?_
  rw [failP_0 (of_decide_eq_true h0)]
  simp only [go_sem,reduceIte,↓reduceIte,sevalprocAttr,Z0,Z1,bytesOf,qx0,qxk,qs0,qsk,List.length_set,qp0 hp,pvI,Tok.cells,qq0]
  exact ⟨[],by simp,lentP (tf_tup _ (by simp))⟩
theorem iWord (hTl:T.length≤1048577) (k:Int):PF (pvI T most) T e 60 [iV k] (wordP T k) sV:=by
 refine pf_of (pvI_tf T most) fun H p s hp hs=>?_
 have hlt:decide ((s.i:Int)<(T.length:Int))=true:=by simp; exact hs.1
 have hg:=tok_get hs.1
 have w1:wr .i64 (((s.i+1:Nat):Int) - 1)=(s.i:Int):=by rw [wr64 (by omega) (by have:=hs.1; omega)]; omega
 refine call60 (by simp) ?_
 simp only [go_sem,reduceIte,↓reduceIte,sevalprocAttr,Z0,Z1,bytesOf,qx0,qxk,qs0,qsk,List.length_set,mc60,mr60]
 refine acall_pure ((iIsK k).nil hp hs) ?_
 unfold wordP
 cases h:isK T k s
 ·simp only [go_sem,reduceIte,↓reduceIte,sevalprocAttr,Z0,Z1,bytesOf,qx0,qxk,qs0,qsk,List.length_set,h,Bool.not_false]
  refine acall_pure ((iFail 11).nil hp hs) ?_
  simp only [go_sem,reduceIte,↓reduceIte,sevalprocAttr,Z0,Z1,bytesOf,qx0,qxk,qs0,qsk,List.length_set]
  exact ⟨[],by simp,lentP (tf_p _)⟩
 ·simp only [go_sem,reduceIte,↓reduceIte,sevalprocAttr,Z0,Z1,bytesOf,qx0,qxk,qs0,qsk,List.length_set,h,qp0 hp,pvI,qq0,ws hTl hs,Bool.not_true]
  refine drw_same ?_
  simp only [go_sem,reduceIte,↓reduceIte,sevalprocAttr,Z0,Z1,bytesOf,qx0,qxk,qs0,qsk,List.length_set,qp0 hp,List.length_map,w1,hlt,hg,Tok.cells]
  exact ⟨[],by simp [adv],lentP (tf_p _)⟩
theorem deeper_le {d:Nat} (h:¬ most<d) (s:PS):deeperP T most d s=if s.c=0 then { s with d:=max s.d d } else s:=by unfold deeperP; rw [if_neg h]
theorem iDeeper (d:Nat):PF (pvI T most) T e 56 [iV d] (fun s=>(decide ((deeperP T most d s).c=0),deeperP T most d s)) bV:=by
 refine pf_of (pvI_tf T most) fun H p s hp hs=>?_
 refine call56 (by simp) ?_
 by_cases hd:most<d
 ·have d1:decide ((most:Int)<(d:Int))=true:=by simp; omega
  simp only [go_sem,reduceIte,↓reduceIte,sevalprocAttr,Z0,Z1,bytesOf,qx0,qxk,qs0,qsk,List.length_set,mc56,mr56,qp0 hp,pvI,d1]
  refine acall_pure ((iFail 12).nil hp hs) ?_
  have hs1:=hs.step (stay_fail T 12)
  have hne:(failP T 12 s).c≠0:=by
   by_cases h0:s.c=0
   ·rw [failP_0 h0]; exact (by decide:(12:Int)≠0)
   ·rw [failP_c h0]; exact h0
  have eq0:deeperP T most d s=failP T 12 s:=by unfold deeperP; rw [if_pos hd]; simp only [if_neg hne]
  rw [eq0]
  simp only [go_sem,reduceIte,↓reduceIte,sevalprocAttr,Z0,Z1,bytesOf,qx0,qxk,qs0,qsk,List.length_set]
  refine acall_pure (iFailed.nil hp hs1) ?_
  simp only [go_sem,reduceIte,↓reduceIte,sevalprocAttr,Z0,Z1,bytesOf,qx0,qxk,qs0,qsk,List.length_set,dF hne,Bool.not_false,Bool.not_true]
  refine acall_pure (iFailed.nil hp hs1) ?_
  simp only [go_sem,reduceIte,↓reduceIte,sevalprocAttr,Z0,Z1,bytesOf,qx0,qxk,qs0,qsk,List.length_set,dF hne,Bool.not_false,Bool.not_true]
  exact ⟨[],by rw [List.append_nil]; rfl,lentP (tf_p _)⟩
 ·have d1:decide ((most:Int)<(d:Int))=false:=by simp; omega
  simp only [go_sem,reduceIte,↓reduceIte,sevalprocAttr,Z0,Z1,bytesOf,qx0,qxk,qs0,qsk,List.length_set,mc56,mr56,qp0 hp,pvI,d1]
  refine acall_pure (iFailed.nil hp hs) ?_
  rw [deeper_le hd]
  by_cases h0:s.c=0
  ·rw [if_pos h0]
   simp only [go_sem,reduceIte,↓reduceIte,sevalprocAttr,Z0,Z1,bytesOf,qx0,qxk,qs0,qsk,List.length_set,dT h0,Bool.not_false,Bool.not_true,qp0 hp,pvI,qq0]
   have hs1:Ok T e { s with d:=max s.d d }:=hs
   have eM:(if (d:Int) > (s.d:Int) then (d:Int) else (s.d:Int))=((max s.d d:Nat):Int):=by split <;> omega
   rw [eM]
   refine acall_pure ((iFailed (most:=most)).nil hp hs1) ?_
   simp only [go_sem,reduceIte,↓reduceIte,sevalprocAttr,Z0,Z1,bytesOf,qx0,qxk,qs0,qsk,List.length_set,dT h0,Bool.not_false,Bool.not_true]
   exact ⟨[],by rw [List.append_nil]; rfl,lentP (tf_p _)⟩
  ·rw [if_neg h0]
   simp only [go_sem,reduceIte,↓reduceIte,sevalprocAttr,Z0,Z1,bytesOf,qx0,qxk,qs0,qsk,List.length_set,dF h0,Bool.not_false,Bool.not_true,qp0 hp,pvI,qq0]
   refine acall_pure (iFailed.nil hp hs) ?_
   simp only [go_sem,reduceIte,↓reduceIte,sevalprocAttr,Z0,Z1,bytesOf,qx0,qxk,qs0,qsk,List.length_set,dF h0,Bool.not_false,Bool.not_true]
   exact ⟨[],by rw [List.append_nil]; rfl,lentP (tf_p _)⟩
def wants (T:List Tok) (ws:List (List UInt8)) (s:PS):PS:=ws.foldl (fun s w=>wantP T w s) s
theorem iWant (hT:ToksOk T) (hTl:T.length≤1048577) (ws:List (List UInt8)) (hw:ws.length≤100) {H A:List AO} {p id ver:Nat} {s:PS} (hp:p<H.length) (hs:Ok T e s) (hid:id≠p) (hi:∀ c,(H.set p c++A)[id]?=some (.rows 1 ver (ws.map fun w=>[sV w]))) :
  ACall Tryz.prog 61 [.ptr p 0,.gs id ver 0 ws.length] (H.set p (pvI T most s)++A) (pureQ (.tup []) (H.set p (pvI T most (wants T ws s))++A)):=by
 refine call61 (by simp) ?_
 simp only [go_sem,reduceIte,↓reduceIte,sevalprocAttr,Z0,Z1,bytesOf,qx0,qxk,qs0,qsk,List.length_set,mc61,mr61]
 intro _
 refine ⟨Nat × PS,[0,6,7,8],fun x st=>(x.1≤ws.length∧Ok T e x.2∧wants T (ws.drop x.1) x.2=wants T ws s)∧st=⟨[(0,.ptr p 0),(6,.gs id ver 0 ws.length),(7,iV ws.length),(8,iV x.1)],[],H.set p (pvI T most x.2)++A⟩,fun x=>ws.length - x.1,⟨(0,s),?_⟩,?_⟩
 ·simp only [go_sem,reduceIte,↓reduceIte,sevalprocAttr,Z0,Z1,bytesOf,qx0,qxk,qs0,qsk,List.length_set]
  exact ⟨Nat.zero_le _,hs⟩
 ·rintro ⟨j,s'⟩ _ ⟨⟨hj,hs',he⟩,rfl⟩
  simp only at hj hs' he ⊢
  have hw1:wr .i64 ((j:Int)+1)=((j+1:Nat):Int):=wrN _ (by omega)
  by_cases hlt:j<ws.length
  ·have d1:decide ((j:Int)<(ws.length:Int))=true:=by simp; omega
   have hrow:(ws.map fun w=>[sV w])[j]?=some [sV ws[j]]:=by simp [hlt]
   have d2:0+j=j:=by omega
   simp only [go_sem,reduceIte,↓reduceIte,sevalprocAttr,Z0,Z1,bytesOf,qx0,qxk,qs0,qsk,List.length_set,d1,hi,hrow,Option.map_some]
   refine ⟨by omega,?_⟩
   refine acall_pure (iTake hTl ws[j] H _ p s' hp hs') ?_
   have hdr:ws.drop j=ws[j] :: ws.drop (j+1):=List.drop_eq_getElem_cons hlt
   have hnx:wants T (ws.drop (j+1)) (wantP T ws[j] s')=wants T ws s:=by rw [← he,hdr]; rfl
   have hs2:=hs'.step (stay_want hT ws[j])
   unfold takeM
   cases hg:isT T ws[j] s'
   ·simp only [go_sem,reduceIte,↓reduceIte,sevalprocAttr,Z0,Z1,bytesOf,qx0,qxk,qs0,qsk,List.length_set,hg,Bool.not_false,Bool.not_true]
    refine acall_pure (iFail 11 H _ p s' hp hs') ?_
    simp only [go_sem,reduceIte,↓reduceIte,sevalprocAttr,Z0,Z1,bytesOf,qx0,qxk,qs0,qsk,List.length_set,hw1]
    have ew:wantP T ws[j] s'=failP T 11 s':=by unfold wantP; rw [hg]; rfl
    rw [ew] at hnx hs2
    exact ⟨(j+1,failP T 11 s'),⟨⟨hlt,hs2,hnx⟩,rfl⟩,by simp only; omega⟩
   ·simp only [go_sem,reduceIte,↓reduceIte,sevalprocAttr,Z0,Z1,bytesOf,qx0,qxk,qs0,qsk,List.length_set,hg,Bool.not_false,Bool.not_true,hw1]
    have ew:wantP T ws[j] s'=adv s':=by unfold wantP; rw [hg]; rfl
    rw [ew] at hnx hs2
    exact ⟨(j+1,adv s'),⟨⟨hlt,hs2,hnx⟩,rfl⟩,by simp only; omega⟩
  ·have d1:decide ((j:Int)<(ws.length:Int))=false:=by simp; omega
   simp only [go_sem,reduceIte,↓reduceIte,sevalprocAttr,Z0,Z1,bytesOf,qx0,qxk,qs0,qsk,List.length_set,d1]
   have:ws.drop j=[]:=by simp; omega
   rw [this] at he
   rw [← he]
   exact ⟨rfl,rfl⟩
theorem iAtomNext:PF (pvI T most) T e 214 [] (testM (atNx T)) bV:=by
 refine pf_of (pvI_tf T most) fun H p s hp hs=>?_
 refine call214 (by simp) ?_
 simp only [go_sem,reduceIte,↓reduceIte,sevalprocAttr,Z0,Z1,bytesOf,qx0,qxk,qs0,qsk,List.length_set,mc214,mr214]
 unfold atNx
 refine acall_pure ((iIsK 1).nil hp hs) ?_
 cases h1:isK T 1 s
 rotate_left
 ·simp only [go_sem,reduceIte,↓reduceIte,sevalprocAttr,Z0,Z1,bytesOf,qx0,qxk,qs0,qsk,List.length_set,h1,Bool.true_or]
  exact ⟨[],by simp,lentP (tf_p _)⟩
 simp only [go_sem,reduceIte,↓reduceIte,sevalprocAttr,Z0,Z1,bytesOf,qx0,qxk,qs0,qsk,List.length_set,h1,Bool.false_or]
 refine acall_pure ((iIsK 2).nil hp hs) ?_
 cases h2:isK T 2 s
 rotate_left
 ·simp only [go_sem,reduceIte,↓reduceIte,sevalprocAttr,Z0,Z1,bytesOf,qx0,qxk,qs0,qsk,List.length_set,h2,Bool.true_or]
  exact ⟨[],by simp,lentP (tf_p _)⟩
 simp only [go_sem,reduceIte,↓reduceIte,sevalprocAttr,Z0,Z1,bytesOf,qx0,qxk,qs0,qsk,List.length_set,h2,Bool.false_or]
 refine acall_pure ((iIsK 3).nil hp hs) ?_
 cases h3:isK T 3 s
 rotate_left
 ·simp only [go_sem,reduceIte,↓reduceIte,sevalprocAttr,Z0,Z1,bytesOf,qx0,qxk,qs0,qsk,List.length_set,h3,Bool.true_or]
  exact ⟨[],by simp,lentP (tf_p _)⟩
 simp only [go_sem,reduceIte,↓reduceIte,sevalprocAttr,Z0,Z1,bytesOf,qx0,qxk,qs0,qsk,List.length_set,h3,Bool.false_or]
 refine acall_pure ((iIsK 4).nil hp hs) ?_
 cases h4:isK T 4 s
 rotate_left
 ·simp only [go_sem,reduceIte,↓reduceIte,sevalprocAttr,Z0,Z1,bytesOf,qx0,qxk,qs0,qsk,List.length_set,h4,Bool.true_or]
  exact ⟨[],by simp,lentP (tf_p _)⟩
 simp only [go_sem,reduceIte,↓reduceIte,sevalprocAttr,Z0,Z1,bytesOf,qx0,qxk,qs0,qsk,List.length_set,h4,Bool.false_or]
 refine acall_pure ((iIs [116,114,117,101]).nil hp hs) ?_
 cases h5:isT T [116,114,117,101] s
 rotate_left
 ·simp only [go_sem,reduceIte,↓reduceIte,sevalprocAttr,Z0,Z1,bytesOf,qx0,qxk,qs0,qsk,List.length_set,h5,Bool.true_or]
  exact ⟨[],by simp,lentP (tf_p _)⟩
 simp only [go_sem,reduceIte,↓reduceIte,sevalprocAttr,Z0,Z1,bytesOf,qx0,qxk,qs0,qsk,List.length_set,h5,Bool.false_or]
 refine acall_pure ((iIs [102,97,108,115,101]).nil hp hs) ?_
 cases h6:isT T [102,97,108,115,101] s
 rotate_left
 ·simp only [go_sem,reduceIte,↓reduceIte,sevalprocAttr,Z0,Z1,bytesOf,qx0,qxk,qs0,qsk,List.length_set,h6,Bool.true_or]
  exact ⟨[],by simp,lentP (tf_p _)⟩
 simp only [go_sem,reduceIte,↓reduceIte,sevalprocAttr,Z0,Z1,bytesOf,qx0,qxk,qs0,qsk,List.length_set,h6,Bool.false_or]
 refine acall_pure ((iIs [114,101,97,100]).nil hp hs) ?_
 cases h7:isT T [114,101,97,100] s
 rotate_left
 ·simp only [go_sem,reduceIte,↓reduceIte,sevalprocAttr,Z0,Z1,bytesOf,qx0,qxk,qs0,qsk,List.length_set,h7,Bool.true_or]
  exact ⟨[],by simp,lentP (tf_p _)⟩
 simp only [go_sem,reduceIte,↓reduceIte,sevalprocAttr,Z0,Z1,bytesOf,qx0,qxk,qs0,qsk,List.length_set,h7,Bool.false_or]
 refine acall_pure ((iIs [40]).nil hp hs) ?_
 simp only [go_sem,reduceIte,↓reduceIte,sevalprocAttr,Z0,Z1,bytesOf,qx0,qxk,qs0,qsk,List.length_set]
 exact ⟨[],by simp,lentP (tf_p _)⟩
theorem iEnd:PF (pvI T most) T e 30 [] (stepM (endP T)) uV:=by
 refine pf_of (pvI_tf T most) fun H p s hp hs=>?_
 refine call30 (by simp) ?_
 simp only [go_sem,reduceIte,↓reduceIte,sevalprocAttr,Z0,Z1,bytesOf,qx0,qxk,qs0,qsk,List.length_set,mc30,mr30]
 refine acall_pure ((iIsK 8).nil hp hs) ?_
 unfold endP
 cases h:isK T 8 s
 ·simp only [go_sem,reduceIte,↓reduceIte,sevalprocAttr,Z0,Z1,bytesOf,qx0,qxk,qs0,qsk,List.length_set,h,Bool.not_false,Bool.not_true]
  refine acall_pure ((iFail 11).nil hp hs) ?_
  simp only [go_sem,reduceIte,↓reduceIte,sevalprocAttr,Z0,Z1,bytesOf,qx0,qxk,qs0,qsk,List.length_set]
  exact ⟨[],by simp,lentP (tf_tup _ (by simp))⟩
 ·simp only [go_sem,reduceIte,↓reduceIte,sevalprocAttr,Z0,Z1,bytesOf,qx0,qxk,qs0,qsk,List.length_set,h,Bool.not_false,Bool.not_true]
  exact ⟨[],by simp,lentP (tf_tup _ (by simp))⟩
end
end Go.Proofs.YtghcmccjchdgeaaGreatDoor.Qp