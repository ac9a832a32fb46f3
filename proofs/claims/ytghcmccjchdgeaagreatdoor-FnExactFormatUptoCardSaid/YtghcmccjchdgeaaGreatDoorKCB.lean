/- Texts QbJ QbK QbL QbC QbM QbO QbP QbQ QbR QbS QbT, merged. -/
import Derived.Test.YtghcmccjchdgeaaGreatDoorKCA
import Derived.Test.YtghcmccjchdgeaaGreatDoorChecked
import Derived.KernelRfl
set_option linter.all false
namespace Go.Proofs.YtghcmccjchdgeaaGreatDoor.Qp
open Go.AM Mc Pg
theorem wordIC {s:List UInt8} (hs:s.length<=1099511627776) {i:Nat} (hi:i<s.length):TokC 91 s i (wordD s i s[i]):=by
 intro H
 have hgi:s[i]?=some s[i]:=by simp [hi]
 obtain ⟨f,hf⟩:∃ f,f=(if (s[i].toNat:Int)=39 then i+1 else i):=⟨_,rfl⟩
 have hfl:i<=f/\f<=s.length:=by rw [hf]; split <;> omega
 have hwd:wordD s i s[i]=wordF s i s[i] f:=by rw [hf]; rfl
 rw [hwd]
 refine call91 (by simp) ?_
 cases h39:decide ((s[i].toNat:Int)=39)
 ·have ef:f=i:=by rw [hf,if_neg (of_decide_eq_false h39)]
  clear hf hwd
  simp only [go_sem,simprocAttr,mc91,mr91,hgi,h39]
  subst f
  refine ⟨Nat,[0,1,4,5,6,7,8],fun x st=>(i<=x/\x<=s.length/\runAt isNm s x=runAt isNm s i)/\st=⟨[(0,.p (.s s)),(1,.p (.i .i64 i)),(4,.ptr H.length 0),(5,.p (.i .i64 0)),(6,.p (.i .i64 0)),(7,.p (.i .i64 i)),(8,.p (.i .i64 x))],[],H++[.var [.p (.i .i64 0),.p (.s []),.p (.i .i64 0),.p (.i .i64 0)]]⟩,fun x=>s.length - x,⟨i,?_⟩,?_⟩
  ·simp only [go_sem,simprocAttr]
   exact ⟨Nat.le_refl _,hfl.2⟩
  ·rintro x _ ⟨⟨h1,h2,h3⟩,rfl⟩
   by_cases hlt:x<s.length
   ·have d1:decide ((x:Int)<(s.length:Int))=true:=by simp; omega
    have hg:s[x]?=some s[x]:=by simp [hlt]
    simp only [go_sem,simprocAttr,d1,hg,byW]
    intro _
    refine acall_pure (nameIC s[x] _) ?_
    cases hd:isNm s[x]
    ·have ex:x=runAt isNm s i:=by rw [<- h3,runAt_f hlt hd]
     have ew:wr .i64 ((x:Int) - (i:Int))=((x - i:Nat):Int):=by rw [wr64 (by omega) (by omega)]; omega
     unfold wordF
     rw [<- ex]
     by_cases h12:12<x - i
     ·have d2:decide ((12:Int)<((x - i:Nat):Int))=true:=by simp; omega
      simp only [go_sem,simprocAttr,hd,ew,d2]
      refine ⟨by omega,by omega,?_⟩
      rw [if_pos h12]
      exact ⟨⟨(x:Int),rfl⟩,_,rfl⟩
     ·have d2:decide ((12:Int)<((x - i:Nat):Int))=false:=by simp; omega
      rw [if_neg h12]
      have d3:decide ((i:Int)<(i:Int))=false:=by simp
      have hgf:s[i]?=some s[i]:=hgi
      simp only [go_sem,simprocAttr,hd,ew,d2,d3,hgf,byW]
      refine ⟨by omega,by omega,?_⟩
      refine acall_pure (upperC s[i] _) ?_
      rw [if_neg (of_decide_eq_false h39)]
      cases hgr:isGr s[i]
      ·simp only [go_sem,simprocAttr,hgr]
       refine acall_pure (keyIC _ _) ?_
       cases hk:isKey ((s.drop i).take (x - i))
       ·simp only [go_sem,simprocAttr,hk]
        exact ⟨⟨0,rfl⟩,_,rfl⟩
       ·simp only [go_sem,simprocAttr,hk]
        exact ⟨⟨0,rfl⟩,_,rfl⟩
      ·simp only [go_sem,simprocAttr,hgr]
       exact ⟨⟨0,rfl⟩,_,rfl⟩
    ·simp only [go_sem,simprocAttr,hd,wrN x (by omega)]
     exact ⟨x+1,⟨⟨by omega,by omega,by rw [<- h3,runAt_t hlt hd]⟩,rfl⟩,by omega⟩
   ·have d1:decide ((x:Int)<(s.length:Int))=false:=by simp; omega
    have ex:x=runAt isNm s i:=by rw [<- h3,runAt_e _ (by omega)]
    have ew:wr .i64 ((x:Int) - (i:Int))=((x - i:Nat):Int):=by rw [wr64 (by omega) (by omega)]; omega
    unfold wordF
    rw [<- ex]
    by_cases h12:12<x - i
    ·have d2:decide ((12:Int)<((x - i:Nat):Int))=true:=by simp; omega
     simp only [go_sem,simprocAttr,d1,ew,d2]
     intro _; refine ⟨by omega,by omega,?_⟩
     rw [if_pos h12]
     exact ⟨⟨(x:Int),rfl⟩,_,rfl⟩
    ·have d2:decide ((12:Int)<((x - i:Nat):Int))=false:=by simp; omega
     rw [if_neg h12]
     have d3:decide ((i:Int)<(i:Int))=false:=by simp
     have hgf:s[i]?=some s[i]:=hgi
     simp only [go_sem,simprocAttr,d1,ew,d2,d3,hgf,byW]
     intro _; refine ⟨by omega,by omega,?_⟩
     refine acall_pure (upperC s[i] _) ?_
     rw [if_neg (of_decide_eq_false h39)]
     cases hgr:isGr s[i]
     ·simp only [go_sem,simprocAttr,hgr]
      refine acall_pure (keyIC _ _) ?_
      cases hk:isKey ((s.drop i).take (x - i))
      ·simp only [go_sem,simprocAttr,hk]
       exact ⟨⟨0,rfl⟩,_,rfl⟩
      ·simp only [go_sem,simprocAttr,hk]
       exact ⟨⟨0,rfl⟩,_,rfl⟩
     ·simp only [go_sem,simprocAttr,hgr]
      exact ⟨⟨0,rfl⟩,_,rfl⟩
 ·have ef:f=i+1:=by rw [hf,if_pos (of_decide_eq_true h39)]
  clear hf hwd
  simp only [go_sem,simprocAttr,mc91,mr91,hgi,h39,wrN i (by omega)]
  rw [<- ef]
  refine ⟨Nat,[0,1,4,5,6,7,8],fun x st=>(f<=x/\x<=s.length/\runAt isNm s x=runAt isNm s f)/\st=⟨[(0,.p (.s s)),(1,.p (.i .i64 i)),(4,.ptr H.length 0),(5,.p (.i .i64 0)),(6,.p (.i .i64 0)),(7,.p (.i .i64 f)),(8,.p (.i .i64 x))],[],H++[.var [.p (.i .i64 0),.p (.s []),.p (.i .i64 0),.p (.i .i64 0)]]⟩,fun x=>s.length - x,⟨f,?_⟩,?_⟩
  ·simp only [go_sem,simprocAttr]
   exact ⟨Nat.le_refl _,hfl.2⟩
  ·rintro x _ ⟨⟨h1,h2,h3⟩,rfl⟩
   by_cases hlt:x<s.length
   ·have d1:decide ((x:Int)<(s.length:Int))=true:=by simp; omega
    have hg:s[x]?=some s[x]:=by simp [hlt]
    simp only [go_sem,simprocAttr,d1,hg,byW]
    intro _
    refine acall_pure (nameIC s[x] _) ?_
    cases hd:isNm s[x]
    ·have ex:x=runAt isNm s f:=by rw [<- h3,runAt_f hlt hd]
     have ew:wr .i64 ((x:Int) - (f:Int))=((x - f:Nat):Int):=by rw [wr64 (by omega) (by omega)]; omega
     unfold wordF
     rw [<- ex]
     by_cases h12:12<x - f
     ·have d2:decide ((12:Int)<((x - f:Nat):Int))=true:=by simp; omega
      simp only [go_sem,simprocAttr,hd,ew,d2]
      refine ⟨by omega,by omega,?_⟩
      rw [if_pos h12]
      exact ⟨⟨(x:Int),rfl⟩,_,rfl⟩
     ·have d2:decide ((12:Int)<((x - f:Nat):Int))=false:=by simp; omega
      rw [if_neg h12]
      have d3:decide ((i:Int)<(f:Int))=true:=by simp; omega
      simp only [go_sem,simprocAttr,hd,ew,d2,d3]
      refine ⟨by omega,by omega,?_⟩
      rw [if_pos (of_decide_eq_true h39)]
      exact ⟨⟨0,rfl⟩,_,rfl⟩
    ·simp only [go_sem,simprocAttr,hd,wrN x (by omega)]
     exact ⟨x+1,⟨⟨by omega,by omega,by rw [<- h3,runAt_t hlt hd]⟩,rfl⟩,by omega⟩
   ·have d1:decide ((x:Int)<(s.length:Int))=false:=by simp; omega
    have ex:x=runAt isNm s f:=by rw [<- h3,runAt_e _ (by omega)]
    have ew:wr .i64 ((x:Int) - (f:Int))=((x - f:Nat):Int):=by rw [wr64 (by omega) (by omega)]; omega
    unfold wordF
    rw [<- ex]
    by_cases h12:12<x - f
    ·have d2:decide ((12:Int)<((x - f:Nat):Int))=true:=by simp; omega
     simp only [go_sem,simprocAttr,d1,ew,d2]
     intro _; refine ⟨by omega,by omega,?_⟩
     rw [if_pos h12]
     exact ⟨⟨(x:Int),rfl⟩,_,rfl⟩
    ·have d2:decide ((12:Int)<((x - f:Nat):Int))=false:=by simp; omega
     rw [if_neg h12]
     have d3:decide ((i:Int)<(f:Int))=true:=by simp; omega
     simp only [go_sem,simprocAttr,d1,ew,d2,d3]
     intro _; refine ⟨by omega,by omega,?_⟩
     rw [if_pos (of_decide_eq_true h39)]
     exact ⟨⟨0,rfl⟩,_,rfl⟩
theorem strIC {s:List UInt8} (hs:s.length<=1099511627776) {i:Nat} (hi:i<s.length):TokC 92 s i (strD s i):=by
 intro H
 unfold strD
 generalize hR:strGo s (i+1) []=R
 refine call92 (by simp) ?_
 simp only [go_sem,simprocAttr,mc92,mr92,wrN i (by omega)]
 refine ⟨Nat × List UInt8 × AV × List AO,[0,1,4,5,6,7,8],fun x st=>(x.1<=s.length/\x.2.1.length<=x.1/\strGo s x.1 x.2.1=R/\OwnR x.2.2.2 x.2.2.1 1 (byteR x.2.1)/\(∀ id v o m,x.2.2.1=.gs id v o m->H.length<id)/\x.2.2.2[H.length]?=some (.var [.p (.i .i64 0),.p (.s []),.p (.i .i64 0),.p (.i .i64 0)])/\∀ (j:Nat) o,H[j]?=some o->x.2.2.2[j]?=some o)/\st=⟨[(0,.p (.s s)),(1,.p (.i .i64 i)),(4,.ptr H.length 0),(5,.p (.i .i64 0)),(6,.p (.i .i64 0)),(7,x.2.2.1),(8,.p (.i .i64 x.1))],[],x.2.2.2⟩,fun x=>s.length - x.1,⟨(i+1,[],.gs (H.length+1) 0 0 0,H++[.var [.p (.i .i64 0),.p (.s []),.p (.i .i64 0),.p (.i .i64 0)],.rows 1 0 []]),?_⟩,?_⟩
 ·simp only [go_sem,simprocAttr]
  refine ⟨hi,hR,.inr ⟨_,0,rfl,by rw [gxk]; rfl⟩,?_,fun _ _ h=>get_ext h _⟩
  intro id v o m e; cases e; omega
 ·rintro ⟨x,out,a,H1⟩ _ ⟨⟨h1,h2,h3,h4,h5,h7,h6⟩,rfl⟩
  simp only at h1 h2 h3 h4 h5 h6 h7 ⊢
  by_cases hlt:x<s.length
  ·have d1:decide ((x:Int)<(s.length:Int))=true:=by simp; omega
   have hg:s[x]?=some s[x]:=by simp [hlt]
   rw [strGo,dif_pos hlt] at h3
   simp only [go_sem,simprocAttr,d1,hg]
   intro _
   cases h34:decide ((s[x].toNat:Int)=34)
   ·have n34:=of_decide_eq_false h34
    rw [if_neg n34] at h3
    cases h92:decide ((s[x].toNat:Int)=92)
    ·have n92:=of_decide_eq_false h92
     rw [if_neg n92] at h3
     simp only [go_sem,simprocAttr,h34,h92,byW]
     refine acall_pure (inC _ _ _ _) ?_
     cases hp:isPl s[x]
     ·have hp':=hp
      unfold isPl at hp'
      rw [hp] at h3
      have hz:∀ o,(H1.set H.length o)[H.length]?=some o:=fun o=>set_get h7
      simp only [go_sem,simprocAttr,hp',h7,hz]
      rw [<- h3]
      exact ⟨⟨(x:Int),rfl⟩,pre_ext fun j o hj=>get_set (h6 j o hj) (by have:=get_lt hj; omega)⟩
     ·have hp':=hp
      unfold isPl at hp'
      rw [if_pos hp] at h3
      simp only [go_sem,simprocAttr,hp']
      refine ⟨by intro r hr; simp at hr; subst hr; rfl,?_⟩
      refine app_fr (rs:=byteR out) (ys:=[[by1 s[x]]]) h4.ext (by rw [byteR_len]; simp; omega) (by rw [byteR_len]; simp; omega) ?_
      intro id ver H4 k1 k2 k3 k4
      rw [byteR_len]
      simp only [go_sem,simprocAttr,wrN x (by omega)]
      refine ⟨(x+1,out++[s[x]],.gs id ver 0 (out.length+1),H4),⟨⟨by simp only; omega,by simp; omega,h3,.inr ⟨id,ver,by simp [byteR_len],by rw [byteR_app]; exact k1⟩,?_,?_,?_⟩,rfl⟩,by simp only; omega⟩
      ·intro id' v o m' e
       cases e
       rcases k2 with ⟨v,o,n',e⟩ | h
       ·exact h5 _ _ _ _ e
       ·have:=get_lt h7; simp at h; omega
      ·refine k3 _ _ (get_ext h7 _) (fun v o' n' e=>?_)
       have:=h5 _ _ _ _ e
       omega
      ·intro j o hj
       refine k3 j o (get_ext (h6 j o hj) _) (fun v o' n' e=>?_)
       have:=h5 _ _ _ _ e
       have:=get_lt hj
       omega
    ·have n92:=of_decide_eq_true h92
     rw [if_pos n92] at h3
     by_cases hx1:x+1<s.length
     ·have hg1:s[x+1]?=some s[x+1]:=by simp [hx1]
      have d2:decide (((x+1:Nat):Int)<(s.length:Int))=true:=by simp; omega
      rw [dif_pos hx1] at h3
      cases h110:decide ((s[x+1].toNat:Int)=110)
      ·rw [if_neg (of_decide_eq_false h110)] at h3
       cases hq:decide ((s[x+1].toNat:Int)=34)
       ·cases hw:decide ((s[x+1].toNat:Int)=92)
        ·rw [if_neg (by rw [not_or]; exact ⟨of_decide_eq_false hq,of_decide_eq_false hw⟩)] at h3
         have hz:∀ o,(H1.set H.length o)[H.length]?=some o:=fun o=>set_get h7
         simp only [go_sem,simprocAttr,h34,h92,wrN x (by omega),d2,hg1,h110,hq,hw,h7,hz]
         intro _; rw [<- h3]
         exact ⟨⟨(x:Int),rfl⟩,pre_ext fun j o hj=>get_set (h6 j o hj) (by have:=get_lt hj; omega)⟩
        ·rw [if_pos (.inr (of_decide_eq_true hw))] at h3
         simp only [go_sem,simprocAttr,h34,h92,wrN x (by omega),d2,hg1,h110,hq,hw]
         intro _
         refine ⟨by intro r hr; simp at hr; subst hr; rfl,?_⟩
         refine app_fr (rs:=byteR out) (ys:=[[by1 s[x+1]]]) h4.ext (by rw [byteR_len]; simp; omega) (by rw [byteR_len]; simp; omega) ?_
         intro id ver H4 k1 k2 k3 k4
         rw [byteR_len]
         simp only [go_sem,simprocAttr,wrN (x+1) (by omega)]
         refine ⟨(x+2,out++[s[x+1]],.gs id ver 0 (out.length+1),H4),⟨⟨by simp only; omega,by simp; omega,h3,.inr ⟨id,ver,by simp [byteR_len],by rw [byteR_app]; exact k1⟩,?_,?_,?_⟩,rfl⟩,by simp only; omega⟩
         ·intro id' v o m' e
          cases e
          rcases k2 with ⟨v,o,n',e⟩ | h
          ·exact h5 _ _ _ _ e
          ·have:=get_lt h7; simp at h; omega
         ·refine k3 _ _ (get_ext h7 _) (fun v o' n' e=>?_)
          have:=h5 _ _ _ _ e
          omega
         ·intro j o hj
          refine k3 j o (get_ext (h6 j o hj) _) (fun v o' n' e=>?_)
          have:=h5 _ _ _ _ e
          have:=get_lt hj
          omega
       ·rw [if_pos (.inl (of_decide_eq_true hq))] at h3
        simp only [go_sem,simprocAttr,h34,h92,wrN x (by omega),d2,hg1,h110,hq]
        intro _
        refine ⟨by intro r hr; simp at hr; subst hr; rfl,?_⟩
        refine app_fr (rs:=byteR out) (ys:=[[by1 s[x+1]]]) h4.ext (by rw [byteR_len]; simp; omega) (by rw [byteR_len]; simp; omega) ?_
        intro id ver H4 k1 k2 k3 k4
        rw [byteR_len]
        simp only [go_sem,simprocAttr,wrN (x+1) (by omega)]
        refine ⟨(x+2,out++[s[x+1]],.gs id ver 0 (out.length+1),H4),⟨⟨by simp only; omega,by simp; omega,h3,.inr ⟨id,ver,by simp [byteR_len],by rw [byteR_app]; exact k1⟩,?_,?_,?_⟩,rfl⟩,by simp only; omega⟩
        ·intro id' v o m' e
         cases e
         rcases k2 with ⟨v,o,n',e⟩ | h
         ·exact h5 _ _ _ _ e
         ·have:=get_lt h7; simp at h; omega
        ·refine k3 _ _ (get_ext h7 _) (fun v o' n' e=>?_)
         have:=h5 _ _ _ _ e
         omega
        ·intro j o hj
         refine k3 j o (get_ext (h6 j o hj) _) (fun v o' n' e=>?_)
         have:=h5 _ _ _ _ e
         have:=get_lt hj
         omega
      ·rw [if_pos (of_decide_eq_true h110)] at h3
       simp only [go_sem,simprocAttr,h34,h92,wrN x (by omega),d2,hg1,h110]
       intro _
       refine ⟨by intro r hr; simp at hr; subst hr; rfl,?_⟩
       refine app_fr (rs:=byteR out) (ys:=[[by1 10]]) h4.ext (by rw [byteR_len]; simp; omega) (by rw [byteR_len]; simp; omega) ?_
       intro id ver H4 k1 k2 k3 k4
       rw [byteR_len]
       simp only [go_sem,simprocAttr,wrN (x+1) (by omega)]
       refine ⟨(x+2,out++[10],.gs id ver 0 (out.length+1),H4),⟨⟨by simp only; omega,by simp; omega,h3,.inr ⟨id,ver,by simp [byteR_len],by rw [byteR_app]; exact k1⟩,?_,?_,?_⟩,rfl⟩,by simp only; omega⟩
       ·intro id' v o m' e
        cases e
        rcases k2 with ⟨v,o,n',e⟩ | h
        ·exact h5 _ _ _ _ e
        ·have:=get_lt h7; simp at h; omega
       ·refine k3 _ _ (get_ext h7 _) (fun v o' n' e=>?_)
        have:=h5 _ _ _ _ e
        omega
       ·intro j o hj
        refine k3 j o (get_ext (h6 j o hj) _) (fun v o' n' e=>?_)
        have:=h5 _ _ _ _ e
        have:=get_lt hj
        omega
     ·have d2:decide (((x+1:Nat):Int)<(s.length:Int))=false:=by simp; omega
      rw [dif_neg hx1] at h3
      have hz:∀ o,(H1.set H.length o)[H.length]?=some o:=fun o=>set_get h7
      simp only [go_sem,simprocAttr,h34,h92,wrN x (by omega),d2,h7,hz]
      intro _; rw [<- h3]
      exact ⟨⟨(x:Int),rfl⟩,pre_ext fun j o hj=>get_set (h6 j o hj) (by have:=get_lt hj; omega)⟩
   ·rw [if_pos (of_decide_eq_true h34)] at h3
    have hb:=own_b2s h4 (by omega)
    have hz:∀ o,(H1.set H.length o)[H.length]?=some o:=fun o=>set_get h7
    simp only [go_sem,simprocAttr,h34,hb,wrN x (by omega),h7,hz]
    rw [<- h3]
    exact ⟨⟨0,rfl⟩,pre_ext fun j o hj=>get_set (h6 j o hj) (by have:=get_lt hj; omega)⟩
  ·have d1:decide ((x:Int)<(s.length:Int))=false:=by simp; omega
   rw [strGo,dif_neg hlt] at h3
   have hz:∀ o,(H1.set H.length o)[H.length]?=some o:=fun o=>set_get h7
   simp only [go_sem,simprocAttr,d1,h7,hz]
   intro _; rw [<- h3]
   exact ⟨⟨(i:Int),rfl⟩,pre_ext fun j o hj=>get_set (h6 j o hj) (by have:=get_lt hj; omega)⟩
theorem signsIC (H:List AO):ACall Tryz.prog 93 [] H (fun r H'=>r=.gs H.length 0 0 15/\H'=H++[.rows 1 0 (rowS signs)]):=by
 refine call93 (by simp) ?_
 simp only [go_sem,simprocAttr,mc93,mr93]
 rfl
theorem sign_ne {x:Nat} (h:x<signs.length):signs[x]≠[]:=by
 have:∀ g∈signs,g≠[]:=by decide
 exact this _ (List.getElem_mem h)
theorem tokIC {s:List UInt8} (hs:s.length<=1099511627776) {i:Nat} (hi:i<s.length):TokC 48 s i (tokD s i s[i]):=by
 intro H
 have hgi:s[i]?=some s[i]:=by simp [hi]
 refine call48 (by simp) ?_
 simp only [go_sem,simprocAttr,mc48,mr48,hgi,byW]
 refine acall_pure (numIC s[i] _) ?_
 unfold tokD
 cases hd:isDg s[i]
 ·rw [if_neg (by simp)]
  simp only [go_sem,simprocAttr,hd]
  refine acall_pure (lowerC s[i] _) ?_
  cases hsm:isSm s[i]
  ·simp only [go_sem,simprocAttr,hsm]
   refine acall_pure (upperC s[i] _) ?_
   cases hgr:isGr s[i]
   ·simp only [go_sem,simprocAttr,hgr]
    cases h39:decide ((s[i].toNat:Int)=39)
    ·rw [if_neg (by simp [tick,h39])]
     cases h34:decide ((s[i].toNat:Int)=34)
     ·rw [if_neg (of_decide_eq_false h34)]
      simp only [go_sem,simprocAttr,h39,h34]
      refine (signsIC _).mono ?_
      rintro r H2 ⟨rfl,rfl⟩
      simp only [go_sem,simprocAttr]
      refine ⟨Nat,[0,1,4,5,6,7,8,9],fun x st=>(x<=15/\signL (s.drop i) (signs.drop x)=signL (s.drop i) signs)/\st=⟨[(0,.p (.s s)),(1,.p (.i .i64 i)),(4,.ptr H.length 0),(5,.p (.i .i64 0)),(6,.p (.i .i64 0)),(7,.p (.i .i64 (s[i].toNat:Int))),(8,.gs (H.length+1) 0 0 15),(9,.p (.i .i64 x))],[],H++[.var [.p (.i .i64 0),.p (.s []),.p (.i .i64 0),.p (.i .i64 0)],.rows 1 0 (rowS signs)]⟩,fun x=>15 - x,⟨0,?_⟩,?_⟩
      ·simp only [go_sem,simprocAttr]
      ·rintro x _ ⟨⟨hx,hn⟩,rfl⟩
       unfold signD
       by_cases hlt:x<15
       ·have hlt':x<signs.length:=hlt
        have d1:decide ((x:Int)<15)=true:=by simp; omega
        have hsm:=sign_small hlt'
        rw [signL_drop hlt'] at hn
        have ew:wr .i64 ((i:Int)+(signs[x].length:Int))=((i+signs[x].length:Nat):Int):=by rw [wr64 (by omega) (by omega)]; omega
        simp only [go_sem,simprocAttr,d1,rowS_at hlt']
        intro _
        refine ⟨by omega,fun _=>?_⟩
        refine drw_same ?_
        by_cases hfit:i+signs[x].length<=s.length
        ·have d2:decide (((i+signs[x].length:Nat):Int)<=(s.length:Int))=true:=by simp; omega
         have et:(s.drop i).take (i+signs[x].length - i)=(s.drop i).take signs[x].length:=by congr 1; omega
         have ep:decide ((s.drop i).take signs[x].length=signs[x])=preB signs[x] (s.drop i):=rfl
         cases hp:preB signs[x] (s.drop i)
         ·rw [hp] at hn
          simp only [go_sem,simprocAttr,ew,d2,rowS_at hlt',et,ep,hp,wrN x (by omega)]
          refine ⟨by omega,by omega,by omega,x+1,⟨⟨by omega,by simpa using hn⟩,rfl⟩,by omega⟩
         ·rw [hp,if_pos rfl] at hn
          simp only [go_sem,simprocAttr,ew,d2,rowS_at hlt',et,ep,hp]
          rw [<- hn,if_neg (sign_ne hlt')]
          exact ⟨by omega,by omega,by omega,by omega,⟨0,rfl⟩,_,rfl⟩
        ·have d2:decide (((i+signs[x].length:Nat):Int)<=(s.length:Int))=false:=by simp; omega
         have hp:preB signs[x] (s.drop i)=false:=by
          unfold preB
          refine decide_eq_false fun h=>?_
          have:=congrArg List.length h
          rw [List.length_take,List.length_drop] at this
          omega
         rw [hp] at hn
         simp only [go_sem,simprocAttr,ew,d2,wrN x (by omega)]
         exact ⟨x+1,⟨⟨by omega,by simpa using hn⟩,rfl⟩,by omega⟩
       ·have d1:decide ((x:Int)<15)=false:=by simp; omega
        have:signs.drop x=[]:=List.drop_of_length_le (by have:signs.length=15:=rfl; omega)
        rw [this,signL] at hn
        simp only [go_sem,simprocAttr,d1]
        intro _
        simp only [<- hn,if_pos]
        exact ⟨⟨(i:Int),rfl⟩,_,rfl⟩
     ·rw [if_pos (of_decide_eq_true h34)]
      simp only [go_sem,simprocAttr,h39,h34]
      refine (strIC hs hi _).mono ?_
      rintro r H2 ⟨⟨e',rfl⟩,G,rfl⟩
      rcases strD s i with ⟨t,e⟩ | c
      ·simp only [go_sem,simprocAttr,stokAV,Tok.cells]
       exact ⟨⟨0,rfl⟩,_,rfl⟩
      ·simp only [go_sem,simprocAttr,stokAV]
       exact ⟨⟨e',rfl⟩,_,rfl⟩
    ·by_cases hi1:i+1<s.length
     ·have d1:decide (((i+1:Nat):Int)<(s.length:Int))=true:=by simp; omega
      have hg1:s[i+1]?=some s[i+1]:=by simp [hi1]
      have hgd:s.getD (i+1) 0=s[i+1]:=by simp [hi1]
      simp only [go_sem,simprocAttr,h39,wrN i (by omega),d1,hg1,byW]
      intro _
      refine acall_pure (lowerC s[i+1] _) ?_
      cases hs1:isSm s[i+1]
      ·rw [if_neg (by simp only [tick,hgd,hs1]; simp)]
       simp only [go_sem,simprocAttr,hs1]
       cases h34:decide ((s[i].toNat:Int)=34)
       ·rw [if_neg (of_decide_eq_false h34)]
        simp only [go_sem,simprocAttr,h34]
        refine (signsIC _).mono ?_
        rintro r H2 ⟨rfl,rfl⟩
        simp only [go_sem,simprocAttr]
        refine ⟨Nat,[0,1,4,5,6,7,8,9],fun x st=>(x<=15/\signL (s.drop i) (signs.drop x)=signL (s.drop i) signs)/\st=⟨[(0,.p (.s s)),(1,.p (.i .i64 i)),(4,.ptr H.length 0),(5,.p (.i .i64 0)),(6,.p (.i .i64 0)),(7,.p (.i .i64 (s[i].toNat:Int))),(8,.gs (H.length+1) 0 0 15),(9,.p (.i .i64 x))],[],H++[.var [.p (.i .i64 0),.p (.s []),.p (.i .i64 0),.p (.i .i64 0)],.rows 1 0 (rowS signs)]⟩,fun x=>15 - x,⟨0,?_⟩,?_⟩
        ·simp only [go_sem,simprocAttr]
        ·rintro x _ ⟨⟨hx,hn⟩,rfl⟩
         unfold signD
         by_cases hlt:x<15
         ·have hlt':x<signs.length:=hlt
          have d1:decide ((x:Int)<15)=true:=by simp; omega
          have hsm:=sign_small hlt'
          rw [signL_drop hlt'] at hn
          have ew:wr .i64 ((i:Int)+(signs[x].length:Int))=((i+signs[x].length:Nat):Int):=by rw [wr64 (by omega) (by omega)]; omega
          simp only [go_sem,simprocAttr,d1,rowS_at hlt']
          intro _
          refine ⟨by omega,fun _=>?_⟩
          refine drw_same ?_
          by_cases hfit:i+signs[x].length<=s.length
          ·have d2:decide (((i+signs[x].length:Nat):Int)<=(s.length:Int))=true:=by simp; omega
           have et:(s.drop i).take (i+signs[x].length - i)=(s.drop i).take signs[x].length:=by congr 1; omega
           have ep:decide ((s.drop i).take signs[x].length=signs[x])=preB signs[x] (s.drop i):=rfl
           cases hp:preB signs[x] (s.drop i)
           ·rw [hp] at hn
            simp only [go_sem,simprocAttr,ew,d2,rowS_at hlt',et,ep,hp,wrN x (by omega)]
            refine ⟨by omega,by omega,by omega,x+1,⟨⟨by omega,by simpa using hn⟩,rfl⟩,by omega⟩
           ·rw [hp,if_pos rfl] at hn
            simp only [go_sem,simprocAttr,ew,d2,rowS_at hlt',et,ep,hp]
            rw [<- hn,if_neg (sign_ne hlt')]
            exact ⟨by omega,by omega,by omega,by omega,⟨0,rfl⟩,_,rfl⟩
          ·have d2:decide (((i+signs[x].length:Nat):Int)<=(s.length:Int))=false:=by simp; omega
           have hp:preB signs[x] (s.drop i)=false:=by
            unfold preB
            refine decide_eq_false fun h=>?_
            have:=congrArg List.length h
            rw [List.length_take,List.length_drop] at this
            omega
           rw [hp] at hn
           simp only [go_sem,simprocAttr,ew,d2,wrN x (by omega)]
           exact ⟨x+1,⟨⟨by omega,by simpa using hn⟩,rfl⟩,by omega⟩
         ·have d1:decide ((x:Int)<15)=false:=by simp; omega
          have:signs.drop x=[]:=List.drop_of_length_le (by have:signs.length=15:=rfl; omega)
          rw [this,signL] at hn
          simp only [go_sem,simprocAttr,d1]
          intro _
          simp only [<- hn,if_pos]
          exact ⟨⟨(i:Int),rfl⟩,_,rfl⟩
       ·rw [if_pos (of_decide_eq_true h34)]
        simp only [go_sem,simprocAttr,h34]
        refine (strIC hs hi _).mono ?_
        rintro r H2 ⟨⟨e',rfl⟩,G,rfl⟩
        rcases strD s i with ⟨t,e⟩ | c
        ·simp only [go_sem,simprocAttr,stokAV,Tok.cells]
         exact ⟨⟨0,rfl⟩,_,rfl⟩
        ·simp only [go_sem,simprocAttr,stokAV]
         exact ⟨⟨e',rfl⟩,_,rfl⟩
      ·rw [if_pos (by simp only [tick,hgd,hs1]; simp [h39,hi1])]
       simp only [go_sem,simprocAttr,hs1]
       refine (wordIC hs hi _).mono ?_
       rintro r H2 ⟨⟨e',rfl⟩,G,rfl⟩
       rcases wordD s i s[i] with ⟨t,e⟩ | c
       ·simp only [go_sem,simprocAttr,stokAV,Tok.cells]
        exact ⟨⟨0,rfl⟩,_,rfl⟩
       ·simp only [go_sem,simprocAttr,stokAV]
        exact ⟨⟨e',rfl⟩,_,rfl⟩
     ·have d1:decide (((i+1:Nat):Int)<(s.length:Int))=false:=by simp; omega
      rw [if_neg (by simp [tick,hi1])]
      simp only [go_sem,simprocAttr,h39,wrN i (by omega),d1]
      intro _
      cases h34:decide ((s[i].toNat:Int)=34)
      ·rw [if_neg (of_decide_eq_false h34)]
       simp only [go_sem,simprocAttr,h34]
       refine (signsIC _).mono ?_
       rintro r H2 ⟨rfl,rfl⟩
       simp only [go_sem,simprocAttr]
       refine ⟨Nat,[0,1,4,5,6,7,8,9],fun x st=>(x<=15/\signL (s.drop i) (signs.drop x)=signL (s.drop i) signs)/\st=⟨[(0,.p (.s s)),(1,.p (.i .i64 i)),(4,.ptr H.length 0),(5,.p (.i .i64 0)),(6,.p (.i .i64 0)),(7,.p (.i .i64 (s[i].toNat:Int))),(8,.gs (H.length+1) 0 0 15),(9,.p (.i .i64 x))],[],H++[.var [.p (.i .i64 0),.p (.s []),.p (.i .i64 0),.p (.i .i64 0)],.rows 1 0 (rowS signs)]⟩,fun x=>15 - x,⟨0,?_⟩,?_⟩
       ·simp only [go_sem,simprocAttr]
       ·rintro x _ ⟨⟨hx,hn⟩,rfl⟩
        unfold signD
        by_cases hlt:x<15
        ·have hlt':x<signs.length:=hlt
         have d1:decide ((x:Int)<15)=true:=by simp; omega
         have hsm:=sign_small hlt'
         rw [signL_drop hlt'] at hn
         have ew:wr .i64 ((i:Int)+(signs[x].length:Int))=((i+signs[x].length:Nat):Int):=by rw [wr64 (by omega) (by omega)]; omega
         simp only [go_sem,simprocAttr,d1,rowS_at hlt']
         intro _
         refine ⟨by omega,fun _=>?_⟩
         refine drw_same ?_
         by_cases hfit:i+signs[x].length<=s.length
         ·have d2:decide (((i+signs[x].length:Nat):Int)<=(s.length:Int))=true:=by simp; omega
          have et:(s.drop i).take (i+signs[x].length - i)=(s.drop i).take signs[x].length:=by congr 1; omega
          have ep:decide ((s.drop i).take signs[x].length=signs[x])=preB signs[x] (s.drop i):=rfl
          cases hp:preB signs[x] (s.drop i)
          ·rw [hp] at hn
           simp only [go_sem,simprocAttr,ew,d2,rowS_at hlt',et,ep,hp,wrN x (by omega)]
           refine ⟨by omega,by omega,by omega,x+1,⟨⟨by omega,by simpa using hn⟩,rfl⟩,by omega⟩
          ·rw [hp,if_pos rfl] at hn
           simp only [go_sem,simprocAttr,ew,d2,rowS_at hlt',et,ep,hp]
           rw [<- hn,if_neg (sign_ne hlt')]
           exact ⟨by omega,by omega,by omega,by omega,⟨0,rfl⟩,_,rfl⟩
         ·have d2:decide (((i+signs[x].length:Nat):Int)<=(s.length:Int))=false:=by simp; omega
          have hp:preB signs[x] (s.drop i)=false:=by
           unfold preB
           refine decide_eq_false fun h=>?_
           have:=congrArg List.length h
           rw [List.length_take,List.length_drop] at this
           omega
          rw [hp] at hn
          simp only [go_sem,simprocAttr,ew,d2,wrN x (by omega)]
          exact ⟨x+1,⟨⟨by omega,by simpa using hn⟩,rfl⟩,by omega⟩
        ·have d1:decide ((x:Int)<15)=false:=by simp; omega
         have:signs.drop x=[]:=List.drop_of_length_le (by have:signs.length=15:=rfl; omega)
         rw [this,signL] at hn
         simp only [go_sem,simprocAttr,d1]
         intro _
         simp only [<- hn,if_pos]
         exact ⟨⟨(i:Int),rfl⟩,_,rfl⟩
      ·rw [if_pos (of_decide_eq_true h34)]
       simp only [go_sem,simprocAttr,h34]
       refine (strIC hs hi _).mono ?_
       rintro r H2 ⟨⟨e',rfl⟩,G,rfl⟩
       rcases strD s i with ⟨t,e⟩ | c
       ·simp only [go_sem,simprocAttr,stokAV,Tok.cells]
        exact ⟨⟨0,rfl⟩,_,rfl⟩
       ·simp only [go_sem,simprocAttr,stokAV]
        exact ⟨⟨e',rfl⟩,_,rfl⟩
   ·simp only [go_sem,simprocAttr,hgr]
    rw [if_pos (by simp)]
    refine (wordIC hs hi _).mono ?_
    rintro r H2 ⟨⟨e',rfl⟩,G,rfl⟩
    rcases wordD s i s[i] with ⟨t,e⟩ | c
    ·simp only [go_sem,simprocAttr,stokAV,Tok.cells]
     exact ⟨⟨0,rfl⟩,_,rfl⟩
    ·simp only [go_sem,simprocAttr,stokAV]
     exact ⟨⟨e',rfl⟩,_,rfl⟩
  ·simp only [go_sem,simprocAttr,hsm]
   rw [if_pos (by simp)]
   refine (wordIC hs hi _).mono ?_
   rintro r H2 ⟨⟨e',rfl⟩,G,rfl⟩
   rcases wordD s i s[i] with ⟨t,e⟩ | c
   ·simp only [go_sem,simprocAttr,stokAV,Tok.cells]
    exact ⟨⟨0,rfl⟩,_,rfl⟩
   ·simp only [go_sem,simprocAttr,stokAV]
    exact ⟨⟨e',rfl⟩,_,rfl⟩
 ·rw [if_pos rfl]
  simp only [go_sem,simprocAttr,hd]
  refine (digitsC hs hi _).mono ?_
  rintro r H2 ⟨⟨e',rfl⟩,G,rfl⟩
  rcases numD s i s[i] with ⟨t,e⟩ | c
  ·simp only [go_sem,simprocAttr,stokAV,Tok.cells]
   exact ⟨⟨0,rfl⟩,_,rfl⟩
  ·simp only [go_sem,simprocAttr,stokAV]
   exact ⟨⟨e',rfl⟩,_,rfl⟩
theorem lent_empty {n id ver sz:Nat} {H:List AO} (hn:n<=id) (h:H[id]?=some (.rows sz ver [])):LentN n H (.gs id ver 0 0) (.p (.l [])):=by
 have:=lent_rows (ys:=[]) hn h (by simp)
 exact this
theorem lexIC {s:List UInt8} {H0:List AO} (hs:s.length<=1099511627776):ACall Tryz.prog 24 [.p (.s s)] H0 (pureQ (lexAV (lexD s)) H0):=by
 refine acall_frz1 ?_
 refine call24 (by simp) ?_
 unfold lexD
 by_cases hl:4000<s.length
 ·have d1:decide ((4000:Int)<(s.length:Int))=true:=by simp; omega
  simp only [go_sem,simprocAttr,mc24,mr24,d1]
  intro _
  rw [if_pos hl]
  exact ⟨_,rfl,lent_two (lent_empty (by omega) (by rw [gxk]; rfl)) (tf_ft _ _)⟩
 ·have d1:decide ((4000:Int)<(s.length:Int))=false:=by simp; omega
  simp only [go_sem,simprocAttr,mc24,mr24,d1]
  intro _
  rw [if_neg hl]
  generalize hR:lexGo s 1200 0 []=R
  refine acall_pure (skipC hs (i:=0) (Nat.zero_le _) _) ?_
  obtain ⟨g1,g2,g3,g4⟩:=skip_lex (s:=s) (most:=1200) (out:=[]) s.length 0 (by omega) (Nat.zero_le _)
  rw [g1] at hR
  have rest:∀ j,j<=s.length->∀ out,lexGo s 1200 j out=lexGo s 1200 (skipD s j) out/\j<=skipD s j/\skipD s j<=s.length/\∀ (h:skipD s j<s.length),Pg.blank s[skipD s j]=false/\¬ (s[skipD s j].toNat:Int)=35:=fun j hj out=>skip_lex s.length j (by omega) hj
  generalize skipD s 0=i0 at hR g3 g4
  simp only [go_sem,simprocAttr]
  refine ⟨Nat × List Tok × AV × List AO,[0,2,3,4,5],fun x st=>((x.1<=s.length/\x.2.1.length<=x.1/\lexGo s 1200 x.1 x.2.1=R/\LxI H0 x.2.1 x.2.2.1 x.2.2.2)/\∀ (h:x.1<s.length),Pg.blank s[x.1]=false/\¬ (s[x.1].toNat:Int)=35)/\st=⟨[(0,.p (.s s)),(2,.p .nl),(3,.ptr H0.length 0),(4,x.2.2.1),(5,.p (.i .i64 x.1))],[],x.2.2.2⟩,fun x=>s.length - x.1,⟨(i0,[],.gs (H0.length+1) 0 0 0,H0++[.var [.p (.i .i64 0),.p (.i .i64 0)],.rows 4 0 []]),?_⟩,?_⟩
  ·simp only [go_sem,simprocAttr]
   refine ⟨⟨g3,Nat.zero_le _,hR,⟨fun j o hj=>get_ext hj _,by rw [gx0]; rfl,.inr ⟨_,0,rfl,by rw [gxk]; rfl⟩,?_⟩⟩,g4⟩
   intro id v o m e; cases e; omega
  ·rintro ⟨i,out,a,H⟩ _ ⟨⟨⟨h1,h2,h3,hI⟩,hbb⟩,rfl⟩
   simp only at h1 h2 h3 hI hbb ⊢
   by_cases hlt:i<s.length
   ·have d1:decide ((i:Int)<(s.length:Int))=true:=by simp; omega
    obtain ⟨hb,hc⟩:=hbb hlt
    simp only [go_sem,simprocAttr,d1]
    intro _
    refine (tokIC hs hlt H).mono ?_
    rintro r H2 ⟨⟨e',rfl⟩,G,rfl⟩
    rcases ht:tokD s i s[i] with ⟨t,e⟩ | c
    ·obtain ⟨k1,k2,_⟩:=tokD_gt hlt ht
     simp only [go_sem,simprocAttr,stokAV,Tok.cells]
     have hI2:=hI.ext (G++[.var [.p (.i .i64 t.k),.p (.s t.t),.p (.i .i64 t.n),.p (.i .i64 t.p)]])
     have zv:(H++(G++[.var [.p (.i .i64 t.k),.p (.s t.t),.p (.i .i64 t.n),.p (.i .i64 t.p)]]))[H.length+G.length]?=some (.var [.p (.i .i64 t.k),.p (.s t.t),.p (.i .i64 t.n),.p (.i .i64 t.p)]):=by rw [gxk]; exact gx0 G _
     generalize H++(G++[.var [.p (.i .i64 t.k),.p (.s t.t),.p (.i .i64 t.n),.p (.i .i64 t.p)]])=H3 at hI2 zv ⊢
     generalize H.length+G.length=b at zv ⊢
     refine len_ownR hI2.out ?_
     rw [toksR_len]
     have z5:=hI2.z5
     have fr:=hI2.fr
     by_cases hmm:out.length=1200
     ·have d2:decide ((out.length:Int)=1200)=true:=by simp; omega
      rw [lexGo_most hlt hb hc ht hmm] at h3
      have z5':=get_ext z5 [AO.rows 4 0 []]
      have hz:∀ o,((H3++[AO.rows 4 0 []]).set H0.length o)[H0.length]?=some o:=fun o=>set_get z5'
      simp only [go_sem,simprocAttr,d2,z5',hz]
      rw [<- h3]
      obtain ⟨G2,hG2⟩:=pre_ext (H:=H0) (H':=(H3++[AO.rows 4 0 []]).set H0.length (.var [.p (.i .i64 5),.p (.i .i64 i)])) fun j o hj=>get_set (get_ext (fr j o hj) _) (by have:=get_lt hj; omega)
      refine ⟨G2,hG2,lent_two (lent_empty (ver:=0) (sz:=4) (by have:=get_lt z5; omega) (get_set (by rw [gx0]; rfl) (by have:=get_lt z5; omega))) (tf_ft _ _)⟩
     ·have d2:decide ((out.length:Int)=1200)=false:=by simp; omega
      rw [lexGo_tok hlt hb hc ht hmm] at h3
      simp only [go_sem,simprocAttr,d2,zv]
      refine ⟨by intro r hr; simp at hr; subst hr; rfl,?_⟩
      refine app_fr (rs:=toksR out) (ys:=[t.cells.map .p]) (hI2.ext _).out (by rw [toksR_len]; simp; omega) (by rw [toksR_len]; simp; omega) ?_
      intro id ver H4 k1 k2' k3 k4
      rw [toksR_len]
      have hJ:=(hI2.ext _).app k1 k2' k3
      simp only [go_sem,simprocAttr]
      refine acall_pure (skipC hs k2 _) ?_
      obtain ⟨q1,q2,q3,q4⟩:=rest e k2 (out++[t])
      simp only [go_sem,simprocAttr]
      exact ⟨(skipD s e,out++[t],.gs id ver 0 (out.length+1),H4),⟨⟨⟨q3,by simp; omega,by rw [<- q1]; exact h3,hJ⟩,q4⟩,rfl⟩,by simp only; omega⟩
    ·have hc0:=tokD_code ht
     rw [lexGo_err hlt hb hc ht] at h3
     have hI2:=hI.ext (G++[.var [.p (.i .i64 0),.p (.s []),.p (.i .i64 0),.p (.i .i64 0)],.rows 4 0 []])
     simp only [go_sem,simprocAttr,stokAV,hc0]
     have z5:=hI2.z5
     have fr:=hI2.fr
     have zr:(H++(G++[.var [.p (.i .i64 0),.p (.s []),.p (.i .i64 0),.p (.i .i64 0)],.rows 4 0 []]))[H.length+(G.length+1)]?=some (.rows 4 0 []):=by rw [gxk,gxk]; rfl
     have hgt:H0.length<H.length:=get_lt hI.z5
     generalize H++(G++[.var [.p (.i .i64 0),.p (.s []),.p (.i .i64 0),.p (.i .i64 0)],.rows 4 0 []])=H3 at z5 fr zr ⊢
     have hz:∀ o,(H3.set H0.length o)[H0.length]?=some o:=fun o=>set_get z5
     simp only [go_sem,simprocAttr,z5,hz]
     rw [<- h3]
     obtain ⟨G2,hG2⟩:=pre_ext (H:=H0) (H':=H3.set H0.length (.var [.p (.i .i64 c),.p (.i .i64 i)])) fun j o hj=>get_set (fr j o hj) (by have:=get_lt hj; omega)
     exact ⟨G2,hG2,lent_two (lent_empty (ver:=0) (sz:=4) (by omega) (get_set zr (by omega))) (tf_ft _ _)⟩
   ·have d1:decide ((i:Int)<(s.length:Int))=false:=by simp; omega
    rw [lexGo_end hlt] at h3
    simp only [go_sem,simprocAttr,d1]
    intro _ _
    refine ⟨by intro r hr; simp at hr; subst hr; rfl,?_⟩
    refine app_fr (rs:=toksR out) (ys:=[Tok.cells ⟨8,[],0,s.length⟩ |>.map .p]) (hI.ext _).out (by rw [toksR_len]; simp; omega) (by rw [toksR_len]; simp; omega) ?_
    intro id ver H4 k1 k2 k3 k4
    rw [toksR_len]
    have hJ:=(hI.ext _).app k1 k2 k3
    have z5:=hJ.z5
    have hz:∀ o,(H4.set H0.length o)[H0.length]?=some o:=fun o=>set_get z5
    simp only [go_sem,simprocAttr,z5,hz]
    obtain ⟨G,hG⟩:=pre_ext (H:=H0) (H':=H4.set H0.length (.var [.p (.i .i64 0),.p (.i .i64 0)])) fun j o hj=>get_set (hJ.fr j o hj) (by have:=get_lt hj; omega)
    rw [<- h3]
    refine ⟨G,hG,lent_two ?_ (tf_ft _ _)⟩
    have hn:=hJ.new _ _ _ _ rfl
    have:=lent_toks (n:=H0.length) (l:=out++[⟨8,[],0,s.length⟩]) (Nat.le_of_lt hn) (H:=H4.set H0.length (.var [.p (.i .i64 0),.p (.i .i64 0)])) (id:=id) (ver:=ver) (get_set (by rw [toksR_app]; exact k1) (by omega))
    simpa using this
end Go.Proofs.YtghcmccjchdgeaaGreatDoor.Qp
set_option linter.all false
set_option maxRecDepth 100000
namespace Go.Proofs.YtghcmccjchdgeaaGreatDoor.Mc
open Go.AM
def mc7:Got (Tryz.f7.body.map (compile [0,2,3,4,5,6,7,15,34,42] Tryz.prog 50)):=⟨_,by conv=>lhs; cbv⟩
def mr7:List MR:=[.cell true 7 2,.cell true 2 3]
theorem call7:CallT Tryz.prog 7 50 mc7.m mr7:=mc7.call Tryz.func7 (by kernel_rfl)
def mc13:Got (Tryz.f13.body.map (compile [0,2,3,4,5,6,7,15,28] Tryz.prog 36)):=⟨_,by conv=>lhs; cbv⟩
def mr13:List MR:=[.cell true 8 2,.cell true 2 3]
theorem call13:CallT Tryz.prog 13 36 mc13.m mr13:=mc13.call Tryz.func13 (by kernel_rfl)
def mc25:Got (Tryz.f25.body.map (compile [0,2,3,6] Tryz.prog 12)):=⟨_,by conv=>lhs; cbv⟩
def mr25:List MR:=[.cell true 7 2]
theorem call25:CallT Tryz.prog 25 12 mc25.m mr25:=mc25.call Tryz.func25 (by kernel_rfl)
def mc26:Got (Tryz.f26.body.map (compile [0,2] Tryz.prog 13)):=⟨_,by conv=>lhs; cbv⟩
def mr26:List MR:=[.cell true 4 2]
theorem call26:CallT Tryz.prog 26 13 mc26.m mr26:=mc26.call Tryz.func26 (by kernel_rfl)
def mc27:Got (Tryz.f27.body.map (compile [0,1,9] Tryz.prog 18)):=⟨_,by conv=>lhs; cbv⟩
def mr27:List MR:=[]
theorem call27:CallT Tryz.prog 27 18 mc27.m mr27:=mc27.call Tryz.func27 (by kernel_rfl)
def mc38:Got (Tryz.f38.body.map (compile [0,2,3,6,28] Tryz.prog 32)):=⟨_,by conv=>lhs; cbv⟩
def mr38:List MR:=[.cell true 8 2]
theorem call38:CallT Tryz.prog 38 32 mc38.m mr38:=mc38.call Tryz.func38 (by kernel_rfl)
def mc53:Got (Tryz.f53.body.map (compile [0,2,19,46] Tryz.prog 60)):=⟨_,by conv=>lhs; cbv⟩
def mr53:List MR:=[.t 2]
theorem call53:CallT Tryz.prog 53 60 mc53.m mr53:=mc53.call Tryz.func53 (by kernel_rfl)
def mc54:Got (Tryz.f54.body.map (compile [0,2,3,10,15,22,44,60,89,112] Tryz.prog 123)):=⟨_,by conv=>lhs; cbv⟩
def mr54:List MR:=[.cell true 7 2]
theorem call54:CallT Tryz.prog 54 123 mc54.m mr54:=mc54.call Tryz.func54 (by kernel_rfl)
def mc55:Got (Tryz.f55.body.map (compile [0] Tryz.prog 10)):=⟨_,by conv=>lhs; cbv⟩
def mr55:List MR:=[]
theorem call55:CallT Tryz.prog 55 10 mc55.m mr55:=mc55.call Tryz.func55 (by kernel_rfl)
def mc70:Got (Tryz.f70.body.map (compile [0,1,4,5] Tryz.prog 30)):=⟨_,by conv=>lhs; cbv⟩
def mr70:List MR:=[.t 4]
theorem call70:CallT Tryz.prog 70 30 mc70.m mr70:=mc70.call Tryz.func70 (by kernel_rfl)
def mc71:Got (Tryz.f71.body.map (compile [0,2,3,21,42] Tryz.prog 53)):=⟨_,by conv=>lhs; cbv⟩
def mr71:List MR:=[.cell true 4 2]
theorem call71:CallT Tryz.prog 71 53 mc71.m mr71:=mc71.call Tryz.func71 (by kernel_rfl)
def mc104:Got (Tryz.f104.body.map (compile [0,1,4,7] Tryz.prog 16)):=⟨_,by conv=>lhs; cbv⟩
def mr104:List MR:=[.t 4]
theorem call104:CallT Tryz.prog 104 16 mc104.m mr104:=mc104.call Tryz.func104 (by kernel_rfl)
def mc105:Got (Tryz.f105.body.map (compile [0,1,4,5,19] Tryz.prog 32)):=⟨_,by conv=>lhs; cbv⟩
def mr105:List MR:=[.t 4]
theorem call105:CallT Tryz.prog 105 32 mc105.m mr105:=mc105.call Tryz.func105 (by kernel_rfl)
def mc106:Got (Tryz.f106.body.map (compile [0,1,7] Tryz.prog 10)):=⟨_,by conv=>lhs; cbv⟩
def mr106:List MR:=[]
theorem call106:CallT Tryz.prog 106 10 mc106.m mr106:=mc106.call Tryz.func106 (by kernel_rfl)
def mc107:Got (Tryz.f107.body.map (compile [0,2,3] Tryz.prog 13)):=⟨_,by conv=>lhs; cbv⟩
def mr107:List MR:=[.cell true 12 2]
theorem call107:CallT Tryz.prog 107 13 mc107.m mr107:=mc107.call Tryz.func107 (by kernel_rfl)
def mc108:Got (Tryz.f108.body.map (compile [0,1,4,5,6,8,17,40] Tryz.prog 42)):=⟨_,by conv=>lhs; cbv⟩
def mr108:List MR:=[.cell true 7 4]
theorem call108:CallT Tryz.prog 108 42 mc108.m mr108:=mc108.call Tryz.func108 (by kernel_rfl)
def mc114:Got (Tryz.f114.body.map (compile [0,2,3,11] Tryz.prog 17)):=⟨_,by conv=>lhs; cbv⟩
def mr114:List MR:=[.cell true 7 2]
theorem call114:CallT Tryz.prog 114 17 mc114.m mr114:=mc114.call Tryz.func114 (by kernel_rfl)
def mc163:Got (Tryz.f163.body.map (compile [0,2,3,4,7,18] Tryz.prog 26)):=⟨_,by conv=>lhs; cbv⟩
def mr163:List MR:=[.cell true 5 2]
theorem call163:CallT Tryz.prog 163 26 mc163.m mr163:=mc163.call Tryz.func163 (by kernel_rfl)
def mc164:Got (Tryz.f164.body.map (compile [0,2,3,7] Tryz.prog 16)):=⟨_,by conv=>lhs; cbv⟩
def mr164:List MR:=[.cell true 7 2]
theorem call164:CallT Tryz.prog 164 16 mc164.m mr164:=mc164.call Tryz.func164 (by kernel_rfl)
def mc165:Got (Tryz.f165.body.map (compile [0,1,4,5] Tryz.prog 31)):=⟨_,by conv=>lhs; cbv⟩
def mr165:List MR:=[.t 4]
theorem call165:CallT Tryz.prog 165 31 mc165.m mr165:=mc165.call Tryz.func165 (by kernel_rfl)
def mc172:Got (Tryz.f172.body.map (compile [0,2,3,6,10] Tryz.prog 21)):=⟨_,by conv=>lhs; cbv⟩
def mr172:List MR:=[.cell true 4 2]
theorem call172:CallT Tryz.prog 172 21 mc172.m mr172:=mc172.call Tryz.func172 (by kernel_rfl)
def mc180:Got (Tryz.f180.body.map (compile [0,2,3,4,6,9] Tryz.prog 11)):=⟨_,by conv=>lhs; cbv⟩
def mr180:List MR:=[.t 2]
theorem call180:CallT Tryz.prog 180 11 mc180.m mr180:=mc180.call Tryz.func180 (by kernel_rfl)
def mc207:Got (Tryz.f207.body.map (compile [0,2,3,4,5,10,29,39,46,54,62,70,75,87,89] Tryz.prog 94)):=⟨_,by conv=>lhs; cbv⟩
def mr207:List MR:=[.cell true 5 2]
theorem call207:CallT Tryz.prog 207 94 mc207.m mr207:=mc207.call Tryz.func207 (by kernel_rfl)
def mc208:Got (Tryz.f208.body.map (compile [0,2,3] Tryz.prog 41)):=⟨_,by conv=>lhs; cbv⟩
def mr208:List MR:=[.t 2]
theorem call208:CallT Tryz.prog 208 41 mc208.m mr208:=mc208.call Tryz.func208 (by kernel_rfl)
def mc209:Got (Tryz.f209.body.map (compile [0,2,3,4,27,52] Tryz.prog 58)):=⟨_,by conv=>lhs; cbv⟩
def mr209:List MR:=[.cell true 7 2]
theorem call209:CallT Tryz.prog 209 58 mc209.m mr209:=mc209.call Tryz.func209 (by kernel_rfl)
def mc210:Got (Tryz.f210.body.map (compile [0,2,3] Tryz.prog 45)):=⟨_,by conv=>lhs; cbv⟩
def mr210:List MR:=[.t 2]
theorem call210:CallT Tryz.prog 210 45 mc210.m mr210:=mc210.call Tryz.func210 (by kernel_rfl)
def mc211:Got (Tryz.f211.body.map (compile [0,2,3,4,5,10,29,39,46,54,62,70,78,86,98,100] Tryz.prog 105)):=⟨_,by conv=>lhs; cbv⟩
def mr211:List MR:=[.cell true 7 2]
theorem call211:CallT Tryz.prog 211 105 mc211.m mr211:=mc211.call Tryz.func211 (by kernel_rfl)
def mc212:Got (Tryz.f212.body.map (compile [0,2] Tryz.prog 29)):=⟨_,by conv=>lhs; cbv⟩
def mr212:List MR:=[.t 2]
theorem call212:CallT Tryz.prog 212 29 mc212.m mr212:=mc212.call Tryz.func212 (by kernel_rfl)
def mc217:Got (Tryz.f217.body.map (compile [0,2,3,4,9,17] Tryz.prog 26)):=⟨_,by conv=>lhs; cbv⟩
def mr217:List MR:=[.cell true 4 2]
theorem call217:CallT Tryz.prog 217 26 mc217.m mr217:=mc217.call Tryz.func217 (by kernel_rfl)
def mc222:Got (Tryz.f222.body.map (compile [0,2] Tryz.prog 21)):=⟨_,by conv=>lhs; cbv⟩
def mr222:List MR:=[.t 2]
theorem call222:CallT Tryz.prog 222 21 mc222.m mr222:=mc222.call Tryz.func222 (by kernel_rfl)
def mc239:Got (Tryz.f239.body.map (compile [0,2,3,4,8,19,21] Tryz.prog 30)):=⟨_,by conv=>lhs; cbv⟩
def mr239:List MR:=[.cell true 4 2]
theorem call239:CallT Tryz.prog 239 30 mc239.m mr239:=mc239.call Tryz.func239 (by kernel_rfl)
def mc254:Got (Tryz.f254.body.map (compile [0,2,3,4,7,32] Tryz.prog 64)):=⟨_,by conv=>lhs; cbv⟩
def mr254:List MR:=[.cell true 4 2]
theorem call254:CallT Tryz.prog 254 64 mc254.m mr254:=mc254.call Tryz.func254 (by kernel_rfl)
def mc255:Got (Tryz.f255.body.map (compile [0,2,3] Tryz.prog 25)):=⟨_,by conv=>lhs; cbv⟩
def mr255:List MR:=[.t 2]
theorem call255:CallT Tryz.prog 255 25 mc255.m mr255:=mc255.call Tryz.func255 (by kernel_rfl)
end Go.Proofs.YtghcmccjchdgeaaGreatDoor.Mc
namespace Go.Proofs.YtghcmccjchdgeaaGreatDoor.Qp
open Go.AM Mc Pg
theorem qxk (H A:List AO) (p:Nat) (c:AO) (k:Nat):(H.set p c++A)[H.length+k]?=A[k]?:=by
 have:=gxk (H.set p c) A k
 rwa [List.length_set] at this
theorem qx0 (H A:List AO) (p:Nat) (c:AO):(H.set p c++A)[H.length]?=A[0]?:=qxk H A p c 0
theorem qsk (H A:List AO) (p:Nat) (c:AO) (k:Nat) (o:AO):(H.set p c++A).set (H.length+k) o=H.set p c++A.set k o:=by
 have:=sxk (H.set p c) A k o
 rwa [List.length_set] at this
theorem qs0 (H A:List AO) (p:Nat) (c:AO) (o:AO):(H.set p c++A).set H.length o=H.set p c++A.set 0 o:=qsk H A p c 0 o
attribute [go_sem] qxk qx0 qsk qs0 List.length_set
theorem qp {H:List AO} {p:Nat} (hp:p<H.length) (A:List AO) (c:AO):(H.set p c++A)[p]?=some c:=by
 rw [List.getElem?_append_left (by simpa using hp)]; simp [hp]
theorem qp0 {H:List AO} {p:Nat} (hp:p<H.length) (c:AO):(H.set p c)[p]?=some c:=by simp [hp]
theorem qq {H:List AO} {p:Nat} (hp:p<H.length) (A:List AO) (c d:AO):(H.set p c++A).set p d=H.set p d++A:=by
 rw [List.set_append_left _ _ (by simpa using hp),List.set_set]
theorem qq0 (H:List AO) (p:Nat) (c d:AO):(H.set p c).set p d=H.set p d:=by simp
def Ok (T:List Tok) (e:Nat) (s:PS):Prop:=s.i<T.length/\s.nest=e
theorem Ok.of {T:List Tok} {lim:Nat} {s t:PS} (h:Ok T lim s) (k:Ok1 T s t):Ok T lim t:=⟨k.2.1,by rw [k.2.2.2]; exact h.2⟩
theorem Ok.step {T:List Tok} {lim:Nat} {s:PS} {f:PS->PS} (h:Ok T lim s) (k:Stay T f):Ok T lim (f s):=h.of (k s h.1)
theorem Ok.run {T:List Tok} {lim:Nat} {s:PS} {α:Type} {m:PM α} (h:Ok T lim s) (k:StayM T m):Ok T lim (m s).2:=h.of (k s h.1)
theorem Ok.adv {T:List Tok} {lim:Nat} {s:PS} (hT:ToksOk T) (h:Ok T lim s) (hk:(tokA T s).k≠8):Ok T lim (Pg.adv s):=⟨adv_at hT h.1 hk,h.2⟩
def PF (pv:PS->AO) (T:List Tok) (lim:Nat) (f:Nat) (xs:List AV) {α:Type} (m:PM α) (V:α->AV):Prop :=
 ∀ (H A:List AO) (p:Nat) (s:PS),p<H.length->Ok T lim s->ACall Tryz.prog f (.ptr p 0 :: xs) (H.set p (pv s)++A) (pureQ (V (m s).1) (H.set p (pv (m s).2)++A))
theorem PF.nil {pv:PS->AO} {T:List Tok} {lim:Nat} {f:Nat} {xs:List AV} {α:Type} {m:PM α} {V:α->AV} (h:PF pv T lim f xs m V) {H:List AO} {p:Nat} {s:PS} (hp:p<H.length) (hs:Ok T lim s) :
  ACall Tryz.prog f (.ptr p 0 :: xs) (H.set p (pv s)) (pureQ (V (m s).1) (H.set p (pv (m s).2))):=by
 have:=h H [] p s hp hs
 rwa [List.append_nil,List.append_nil] at this
theorem pf_at {f:Nat} {xs:List AV} {c c':AO} {x:AV} (hc:∀ q,InO q c'->Tf q)
  (h:∀ (H:List AO) (p:Nat),p<H.length->ACall Tryz.prog f (.ptr p 0 :: xs) (H.set p c) (fun r H'=>∃ G,H'=H.set p c'++G/\LentN H.length H' r x)) :
  ∀ (H A:List AO) (p:Nat),p<H.length->ACall Tryz.prog f (.ptr p 0 :: xs) (H.set p c++A) (pureQ x (H.set p c'++A)):=by
 intro H A p hp
 have e:∀ c,H.set p c++A=(H++A).set p c:=fun c=>by rw [List.set_append_left _ _ hp]
 rw [e,e]
 have h1:=h (H++A) p (by simp; omega)
 have h2:=acall_frz_set (i:=p) (o:=c) (o':=c') (x:=x) (H:=(H++A).set p c) (f:=f) (args:=.ptr p 0 :: xs) (P:=Tryz.prog)
  (h1.mono (by rintro r H' ⟨G,rfl,hl⟩; exact ⟨G,by rw [qq0],by rw [List.length_set]; exact hl⟩)) (qp0 (by rw [List.length_append]; omega) _) (fun q hq=>.inl (hc q hq))
 rwa [qq0] at h2
theorem pf_of {pv:PS->AO} (hpv:∀ s c,InO c (pv s)->Tf c) {T:List Tok} {lim:Nat} {f:Nat} {xs:List AV} {α:Type} {m:PM α} {V:α->AV}
  (h:∀ (H:List AO) (p:Nat) (s:PS),p<H.length->Ok T lim s->ACall Tryz.prog f (.ptr p 0 :: xs) (H.set p (pv s)) (fun r H'=>∃ G,H'=H.set p (pv (m s).2)++G/\LentN H.length H' r (V (m s).1))):PF pv T lim f xs m V :=
 fun H A p s hp hs=>pf_at (hpv _) (fun H p hp=>h H p s hp hs) H A p hp
abbrev ptV (T:List Tok):AV:=.p (.l (T.map Tok.cells))
abbrev iV (n:Int):AV:=.p (.i .i64 n)
def pvS (T:List Tok) (lim:Nat) (s:PS):AO:=.var [ptV T,iV s.i,iV s.nest,iV s.d,iV lim,iV s.c,iV s.ps]
theorem pvS_tf (T lim s c) (h:InO c (pvS T lim s)):Tf c:=by
 simp only [pvS,InO,List.mem_cons,List.not_mem_nil,or_false] at h
 rcases h with rfl | rfl | rfl | rfl | rfl | rfl | rfl <;> exact tf_p _
abbrev bV (b:Bool):AV:=.p (.b b)
abbrev uV (_:Unit):AV:=.tup []
abbrev sV (s:List UInt8):AV:=.p (.s s)
abbrev testM (g:PS->Bool):PM Bool:=fun s=>(g s,s)
abbrev stepM (f:PS->PS):PM Unit:=fun s=>((),f s)
abbrev nowM (T:List Tok):PM Tok:=fun s=>(tokA T s,s)
abbrev takeM (T:List Tok) (x:List UInt8):PM Bool:=fun s=>if isT T x s then (true,adv s) else (false,s)
section
variable {T:List Tok} {lim e:Nat}
theorem tok_get {s:PS} (h:s.i<T.length):(T.map Tok.cells)[s.i]?=some (tokA T s).cells:=by
 simp [tokA,h]
theorem lentP {n:Nat} {H:List AO} {x:AV} (h:Tf x):LentN n H x x:=.tf _ h
theorem sNow:PF (pvS T lim) T e 26 [] (nowM T) tv:=by
 refine pf_of (pvS_tf T lim) fun H p s hp hs=>?_
 have hlt:decide ((s.i:Int)<(T.length:Int))=true:=by simp; exact hs.1
 have hg:=tok_get hs.1
 refine call26 (by simp) ?_
 simp only [go_sem,simprocAttr,mc26,mr26]
 refine drw_same ?_
 simp only [go_sem,simprocAttr,qp hp,pvS,List.length_map,hlt,hg,Tok.cells]
 exact ⟨_,rfl,lentP (tf_av (tokA T s).cells)⟩
theorem ws {s:PS} (hT:T.length<=1073741825) (hs:Ok T e s):wr .i64 ((s.i:Int)+1)=((s.i+1:Nat):Int):=wrN _ (by have:=hs.1; omega)
theorem sIs (x:List UInt8):PF (pvS T lim) T e 70 [sV x] (testM (isT T x)) bV:=by
 refine pf_of (pvS_tf T lim) fun H p s hp hs=>?_
 refine call70 (by simp) ?_
 simp only [go_sem,simprocAttr,mc70,mr70]
 refine acall_pure (sNow.nil hp hs) ?_
 have eT:isT T x s=(decide (s.c=0) && (decide ((tokA T s).k=6) || decide ((tokA T s).k=7)) && decide ((tokA T s).t=x)):=rfl
 rw [eT]
 simp only [go_sem,simprocAttr,qp hp,pvS,Tok.cells]
 cases h0:decide (s.c=0)
 ·simp only [go_sem,simprocAttr,h0,Bool.false_and]
  exact ⟨_,rfl,lentP (tf_p _)⟩
 cases h6:decide ((tokA T s).k=6)
 ·cases h7:decide ((tokA T s).k=7)
  ·simp only [go_sem,simprocAttr,h0,h6,h7,Bool.or_self,Bool.and_false,Bool.false_and]
   exact ⟨_,rfl,lentP (tf_p _)⟩
  ·simp only [go_sem,simprocAttr,h0,h6,h7,Bool.false_or,Bool.and_true,Bool.true_and]
   exact ⟨_,rfl,lentP (tf_p _)⟩
 ·simp only [go_sem,simprocAttr,h0,h6,Bool.true_or,Bool.and_true,Bool.true_and]
  exact ⟨_,rfl,lentP (tf_p _)⟩
theorem sFails (c:Int):PF (pvS T lim) T e 27 [iV c] (stepM (failP T c)) uV:=by
 refine pf_of (pvS_tf T lim) fun H p s hp hs=>?_
 refine call27 (by simp) ?_
 cases h0:decide (s.c=0)
 ·simp only [go_sem,simprocAttr,mc27,mr27,qp0 hp,pvS,h0]
  rw [failP_c (of_decide_eq_false h0)]
  exact ⟨[],by simp,lentP (tf_tup _ (by simp))⟩
 ·simp only [go_sem,simprocAttr,mc27,mr27,qp0 hp,pvS,h0]
  refine acall_pure (sNow.nil hp hs) ?_
  rw [failP_0 (of_decide_eq_true h0)]
  simp only [go_sem,simprocAttr,qp0 hp,pvS,Tok.cells,qq0]
  exact ⟨[],by simp,lentP (tf_tup _ (by simp))⟩
theorem sHas (hTl:T.length<=1073741825) (x:List UInt8):PF (pvS T lim) T e 104 [sV x] (takeM T x) bV:=by
 refine pf_of (pvS_tf T lim) fun H p s hp hs=>?_
 refine call104 (by simp) ?_
 simp only [go_sem,simprocAttr,mc104,mr104]
 refine acall_pure ((sIs x).nil hp hs) ?_
 unfold takeM
 cases h:isT T x s
 ·simp only [go_sem,simprocAttr,h]
  exact ⟨[],by simp,lentP (tf_p _)⟩
 ·simp only [go_sem,simprocAttr,h,qp0 hp,pvS,qq0,ws hTl hs]
  exact ⟨[],by simp [adv],lentP (tf_p _)⟩
theorem sWant (hTl:T.length<=1073741825) (x:List UInt8):PF (pvS T lim) T e 106 [sV x] (stepM (wantP T x)) uV:=by
 refine pf_of (pvS_tf T lim) fun H p s hp hs=>?_
 refine call106 (by simp) ?_
 simp only [go_sem,simprocAttr,mc106,mr106]
 refine acall_pure ((sHas hTl x).nil hp hs) ?_
 unfold takeM wantP
 cases h:isT T x s
 ·simp only [go_sem,simprocAttr,h]
  refine acall_pure ((sFails 11).nil hp hs) ?_
  simp only [go_sem,simprocAttr]
  exact ⟨[],by simp,lentP (tf_tup _ (by simp))⟩
 ·simp only [go_sem,simprocAttr,h]
  exact ⟨[],by simp,lentP (tf_tup _ (by simp))⟩
theorem sWord (hTl:T.length<=1073741825) (k:Int):PF (pvS T lim) T e 105 [iV k] (wordP T k) sV:=by
 refine pf_of (pvS_tf T lim) fun H p s hp hs=>?_
 refine call105 (by simp) ?_
 simp only [go_sem,simprocAttr,mc105,mr105]
 refine acall_pure (sNow.nil hp hs) ?_
 unfold wordP isK
 simp only [go_sem,simprocAttr,qp hp,pvS,Tok.cells]
 cases h0:decide (s.c=0)
 ·simp only [go_sem,simprocAttr,h0,Bool.false_and]
  refine acall_pure (sFails 11 H _ p s hp hs) ?_
  simp only [go_sem,simprocAttr]
  exact ⟨_,rfl,lentP (tf_p _)⟩
 cases h6:decide ((tokA T s).k=k)
 ·simp only [go_sem,simprocAttr,h0,h6,Bool.and_false]
  refine acall_pure (sFails 11 H _ p s hp hs) ?_
  simp only [go_sem,simprocAttr]
  exact ⟨_,rfl,lentP (tf_p _)⟩
 ·simp only [go_sem,simprocAttr,h0,h6,Bool.and_true,qp hp,qq hp,pvS,ws hTl hs]
  exact ⟨_,rfl,lentP (tf_p _)⟩
theorem opens_of {s s1:PS} (h:(if s.c=0/\s.nest=lim then failP T 12 s else s)=s1):opensP T lim s=if s1.c=0/\s1.d<s1.nest+1 then { s1 with nest:=s1.nest+1,d:=s1.nest+1 } else { s1 with nest:=s1.nest+1 }:=by subst h; rfl
theorem sOpens (hl:lim<=1099511627776) (he:e<=lim):∀ (H A:List AO) (p:Nat) (s:PS),p<H.length->Ok T e s->ACall Tryz.prog 53 [.ptr p 0] (H.set p (pvS T lim s)++A) (pureQ (.p (.b (decide ((opensP T lim s).c=0)))) (H.set p (pvS T lim (opensP T lim s))++A)):=by
 have key:PF (pvS T lim) T e 53 [] (fun s=>(decide ((opensP T lim s).c=0),opensP T lim s)) bV:=by
  refine pf_of (pvS_tf T lim) fun H p s hp hs=>?_
  have hn:=hs.2
  have en:wr .i64 ((s.nest:Int)+1)=((s.nest+1:Nat):Int):=wrN _ (by omega)
  refine call53 (by simp) ?_
  simp only [go_sem,simprocAttr,mc53,mr53]
  refine drw_same ?_
  simp only [go_sem,simprocAttr,qp0 hp,pvS]
  cases h0:decide (s.c=0)
  ·have h0':=of_decide_eq_false h0
   rw [opens_c h0']
   simp only [go_sem,simprocAttr,h0,qp0 hp,qq0,en]
   refine drw_same ?_
   simp only [go_sem,simprocAttr,h0,qp0 hp,qq0]
   exact ⟨[],by simp,lentP (tf_p _)⟩
  ·have h0':=of_decide_eq_true h0
   by_cases hd:s.nest=lim
   ·have d1:decide ((s.nest:Int)=(lim:Int))=true:=by simp; omega
    simp only [go_sem,simprocAttr,h0,d1,qp0 hp]
    refine acall_pure ((sFails 12).nil hp hs) ?_
    have e1:opensP T lim s={ failP T 12 s with nest:=s.nest+1 }:=by
     rw [opens_of (if_pos ⟨h0',hd⟩),failP_0 h0',if_neg (fun h=>absurd h.1 (show ¬ ((12:Int)=0) by decide))]
    have hf:=failP_0 (T:=T) (c:=12) h0'
    have e2:opensP T lim s={ s with c:=12,ps:=(tokA T s).p,nest:=s.nest+1 }:=by rw [e1,hf]
    rw [e2]
    simp only [stepM,hf]
    simp only [go_sem,simprocAttr,qp0 hp,pvS,qq0,en]
    refine drw_same ?_
    simp only [go_sem,simprocAttr,qp0 hp,qq0]
    exact ⟨[],by simp,lentP (tf_p _)⟩
   ·have d1:decide ((s.nest:Int)=(lim:Int))=false:=by simp; omega
    have e1:opensP T lim s=if s.d<s.nest+1 then { s with nest:=s.nest+1,d:=s.nest+1 } else { s with nest:=s.nest+1 }:=by
     rw [opens_of (if_neg fun h=>hd h.2)]
     simp only [h0',true_and]
    rw [e1]
    simp only [go_sem,simprocAttr,h0,d1,qp0 hp,qq0,en]
    refine drw_same ?_
    by_cases hdd:s.d<s.nest+1
    ·have d2:decide ((s.d:Int)<((s.nest+1:Nat):Int))=true:=by simp; omega
     rw [if_pos hdd]
     simp only [go_sem,simprocAttr,h0,d2,qp0 hp,qq0]
     exact ⟨[],by simp,lentP (tf_p _)⟩
    ·have d2:decide ((s.d:Int)<((s.nest+1:Nat):Int))=false:=by simp; omega
     rw [if_neg hdd]
     simp only [go_sem,simprocAttr,h0,d2,qp0 hp,qq0]
     exact ⟨[],by simp,lentP (tf_p _)⟩
 exact key
theorem sShut (hl:lim<=1099511627776):∀ (H A:List AO) (p:Nat) (s:PS),p<H.length->s.i<T.length->0<s.nest->s.nest<=lim+1->ACall Tryz.prog 55 [.ptr p 0] (H.set p (pvS T lim s)++A) (pureQ (.tup []) (H.set p (pvS T lim (shut s))++A)):=by
 intro H A p s hp hi h1 h2
 have en:wr .i64 ((s.nest:Int) - 1)=((s.nest - 1:Nat):Int):=by rw [wr64 (by omega) (by omega)]; omega
 refine call55 (by simp) ?_
 simp only [go_sem,simprocAttr,mc55,mr55,qp hp,qq hp,pvS,en]
 exact ⟨rfl,rfl⟩
end
theorem hx {H:List AO} {p:Nat} (hp:p<H.length) (A:List AO) (c:AO):Hext (H.set p .dead++A) (H.set p c++A):=fun id o h hd=>by
 rcases Nat.lt_or_ge id H.length with hi | hi
 ·rw [List.getElem?_append_left (by simpa using hi)] at h ⊢
  by_cases e:p=id
  ·subst e
   simp [hp] at h
   exact (hd h.symm).elim
  ·rw [List.getElem?_set_ne e] at h ⊢; exact h
 ·rw [List.getElem?_append_right (by simpa using hi)] at h ⊢
  simpa using h
theorem PF.chain {pv:PS->AO} {T:List Tok} {lim:Nat} {f:Nat} {xs:List AV} {α:Type} {m:PM α} {V:α->AV} (h:PF pv T lim f xs m V) {H A:List AO} {p:Nat} {s:PS} (hp:p<H.length) (hs:Ok T lim s) :
  ∀ A',ACall Tryz.prog f (.ptr p 0 :: xs) ((H.set p (pv s)++A)++A') (pureQ (V (m s).1) ((H.set p (pv (m s).2)++A)++A')):=fun A'=>by
 have:=h H (A++A') p s hp hs
 rwa [<- List.append_assoc,<- List.append_assoc] at this
theorem q_ge {H A:List AO} {p:Nat} {c:AO} {id:Nat} (h:H.length<=id):(H.set p c++A)[id]?=A[id - H.length]?:=by
 have:=qxk H A p c (id - H.length)
 rwa [show H.length+(id - H.length)=id by omega] at this
theorem own_q {H A B:List AO} {p:Nat} {N:List Nat} {c d:AO} {a:AV} {sz:Nat} {rs:List (List AV)} (h:OwnR (H.set p c++A) a sz rs) (ha:∀ id v o m,a=.gs id v o m->H.length<=id/\id - H.length ∉ N) (hk:∀ (k:Nat) (o:AO),k ∉ N->A[k]?=some o->B[k]?=some o):OwnR (H.set p d++B) a sz rs:=by
 rcases h with h | ⟨id,ver,rfl,h⟩
 ·exact .inl h
 ·obtain ⟨h1,h2⟩:=ha _ _ _ _ rfl
  rw [q_ge h1] at h
  exact .inr ⟨id,ver,rfl,by rw [q_ge h1]; exact hk _ _ h2 h⟩
theorem app_q {K:St->Prop} {L T':En} {H A:List AO} {p:Nat} {c:AO} {d:MD} {sz bytes:Nat} {N:List Nat} {a:AV} {rs ys:List (List AV)} (h:OwnR (H.set p c++A) a sz rs) (hN:∀ k∈N,k<A.length) (ha:∀ id v o m,a=.gs id v o m->H.length<=id/\id - H.length ∉ N)
  (h1:(rs.length+ys.length) * bytes<=140737488355328) (h2:rs.length+ys.length<=140737488355328)
  (k:∀ id ver A',(H.set p c++A')[id]?=some (.rows sz ver (rs++ys))->(H.length<=id/\id - H.length ∉ N)->(∀ (k:Nat),k∈N->A'[k]?=A[k]?)->K (St.put ⟨L,T',H.set p c++A'⟩ d (.gs id ver 0 (rs.length+ys.length)))) :
  appX sz bytes a ys d K ⟨L,T',H.set p c++A⟩:=by
 refine app_fr h h1 h2 ?_
 intro id ver H4 k1 k2 k3 k4
 have hid:H.length<=id/\id - H.length ∉ N:=by
  rcases k2 with ⟨v,o,n,e⟩ | h
  ·exact ha _ _ _ _ e
  ·simp at h
   exact ⟨by omega,fun hm=>by have:=hN _ hm; omega⟩
 obtain ⟨A',rfl⟩:=pre_ext (H:=H.set p c) (H':=H4) fun j o hj=>k3 j o (get_ext hj A) fun v o' n e=>by
  have:=(ha _ _ _ _ e).1
  have:=get_lt hj
  simp at this; omega
 refine k id ver A' k1 hid (fun j hj=>?_)
 have hjA:=hN j hj
 have:=k3 (H.length+j) A[j] (by rw [qxk]; simp [hjA]) fun v o' n e=>by
  have:=(ha _ _ _ _ e).2
  rw [Nat.add_sub_cancel_left] at this
  exact this hj
 rw [qxk] at this
 rw [this]; simp [hjA]
inductive LentC (n:Nat) (H:List AO):List AV->List AV->Prop
 | nil:LentC n H [] []
 | cons {a b:AV} {l m:List AV} (h:LentN n H a b) (k:LentC n H l m):LentC n H (a :: l) (b :: m)
theorem LentC.pc {n:Nat} {H:List AO} {x:PV} {l m:List AV} (k:LentC n H l m):LentC n H (.p x :: l) (.p x :: m):=.cons (.p x) k
theorem LentC.pure {n:Nat} {H:List AO}:∀ l:List PV,LentC n H (l.map .p) (l.map .p)
 | []=>.nil
 | x :: l=>.pc (LentC.pure l)
theorem LentC.st {n : Nat} {H : List AO} {l m : List AV} (h : LentC n H l m) : LentN n H (.st l) (.st m) := by
  have hl : l.length = m.length ∧ ∀ (j : Nat) a b, l[j]? = some a → m[j]? = some b → LentN n H a b := by
    induction h with
    | nil => exact ⟨rfl, fun j a b h => by simp at h⟩
    | cons h _ ih =>
      refine ⟨by simp [ih.1], fun j a b ha hb => ?_⟩
      cases j with
      | zero => simp at ha hb; subst ha; subst hb; exact h
      | succ j => exact ih.2 j a b (by simpa using ha) (by simpa using hb)
  exact .st _ _ hl.1 hl.2
theorem OwnR.lent {n sz:Nat} {H:List AO} {a:AV} {ys:List (List PV)} (h:OwnR H a sz (ys.map fun y=>y.map .p)) (hn:∀ id v o m,a=.gs id v o m->n<=id) (hs:∀ y∈ys,y.length=sz):LentN n H a (.p (.l ys)):=by
 rcases h with ⟨rfl,h⟩ | ⟨id,ver,rfl,h⟩
 ·have:ys=[]:=by simpa using h
  rw [this]; exact .nl
 ·have:=lent_rows (hn _ _ _ _ rfl) h hs
  simpa using this
abbrev tyV (t:TyE):AV:=.st (t.cells.map .p)
theorem tyE4 (t:TyE):t.cells.length=4:=by cases t; rfl
theorem lent_ty {n:Nat} {H:List AO} {k q:Int} {nm:List UInt8} {a:AV} {l:List TyE} (h:LentN n H a (.p (.l (TyE.cellsL l)))):LentN n H (.st [iV k,sV nm,iV q,a]) (tyV (.mk k nm q l)) :=
 LentC.st (.pc (.pc (.pc (.cons h .nil))))
structure Lp {α:Type} (pv:PS->AO) (T:List Tok) (lim:Nat) (H:List AO) (p:Nat) (N:List Nat) (sz:Nat) (cell:α->List PV) (g:PS->Bool) (m:PM α) (Rl:List α) (Rs:PS) (j:Nat) (s:PS) (acc:List α) (a:AV) (A:List AO):Prop where
 ok:Ok T lim s
 ln:acc.length<=s.i+1
 fu:s.c=0->T.length - s.i<=j
 rl:acc++(many g m j s).1=Rl
 rs:(many g m j s).2=Rs
 own:OwnR (H.set p (pv s)++A) a sz (acc.map fun t=>(cell t).map .p)
 ids:∀ id v o m,a=.gs id v o m->H.length<=id/\id - H.length ∉ N
 len:∀ k∈N,k<A.length
section
variable {α:Type} {pv:PS->AO} {T:List Tok} {lim:Nat} {H:List AO} {p sz:Nat} {N:List Nat} {cell:α->List PV} {g:PS->Bool} {m:PM α} {Rl:List α} {Rs:PS} {j:Nat} {s:PS} {acc:List α} {a:AV} {A:List AO}
theorem Lp.start (hs:Ok T lim s) (h:many g m T.length s=(Rl,Rs)) (hb:∀ k∈N,k<A.length):Lp pv T lim H p N sz cell g m Rl Rs T.length s [] (.p .nl) A :=
 ⟨hs,Nat.zero_le _,fun _=>by omega,by rw [h]; rfl,by rw [h],.inl ⟨rfl,rfl⟩,(fun _ _ _ _ e=>by cases e),hb⟩
theorem Lp.start1 {x:α} {i ver:Nat} (hs:Ok T lim s) (h:many g m T.length s=(Rl,Rs)) (hb:∀ k∈N,k<A.length) (hi:A[i]?=some (.rows sz ver [(cell x).map .p])) (hN:i ∉ N):Lp pv T lim H p N sz cell g m (x :: Rl) Rs T.length s [x] (.gs (H.length+i) ver 0 1) A :=
 ⟨hs,by simp,fun _=>by omega,by rw [h]; rfl,by rw [h],.inr ⟨_,_,rfl,by rw [qxk]; exact hi⟩,(fun _ _ _ _ e=>by cases e; exact ⟨by omega,by rwa [Nat.add_sub_cancel_left]⟩),hb⟩
theorem Lp.stop (h:Lp pv T lim H p N sz cell g m Rl Rs j s acc a A) (hg:g s=false):acc=Rl/\s=Rs:=by
 have h1:=h.rl; have h2:=h.rs
 rw [many_c hg] at h1 h2
 exact ⟨by simpa using h1,h2⟩
theorem Lp.succ (h:Lp pv T lim H p N sz cell g m Rl Rs j s acc a A) (ho:Only T g) (hg:g s=true):∃ j',j=j'+1:=⟨j - 1,by have:=h.fu (ho s hg).1; have:=h.ok.1; omega⟩
theorem Lp.next (h:Lp pv T lim H p N sz cell g m Rl Rs (j+1) s acc a A) (ho:Only T g) (hg:g s=true) {x:α} {s2:PS} (hm:m s=(x,s2)) (hs2:Ok T lim s2) (hgt:s.i<s2.i) {id ver:Nat} {A' A'':List AO}
  (k1:(H.set p (pv s2)++A')[id]?=some (.rows sz ver (acc.map (fun t=>(cell t).map .p)++[(cell x).map .p]))) (k2:H.length<=id/\id - H.length ∉ N) (k3:∀ (k:Nat) (o:AO),k ∉ N->A'[k]?=some o->A''[k]?=some o) (k4:∀ k∈N,k<A''.length) :
  Lp pv T lim H p N sz cell g m Rl Rs j s2 (acc++[x]) (.gs id ver 0 (acc.length+1)) A'':=by
 have h1:=h.rl; have h2:=h.rs
 rw [many,if_pos hg,hm] at h1 h2
 have hln:=h.ln
 have hi:=h.ok.1
 refine ⟨hs2,by simp; omega,fun hc=>?_,by simpa using h1,h2,.inr ⟨id,ver,by simp,?_⟩,(fun id' v o m' e=>by cases e; exact k2),k4⟩
 ·have:=h.fu (ho s hg).1; omega
 ·rw [q_ge k2.1] at k1 ⊢
  rw [List.map_append]
  exact k3 _ _ k2.2 k1
theorem Lp.lent (h:Lp pv T lim H p N sz cell g m Rl Rs j s acc a A) {c:AO} {B:List AO} (hk:∀ (k:Nat) (o:AO),k ∉ N->A[k]?=some o->B[k]?=some o) (hs:∀ t,(cell t).length=sz):LentN H.length (H.set p c++B) a (.p (.l (acc.map cell))):=by
 refine OwnR.lent (ys:=acc.map cell) (sz:=sz) ?_ (fun id v o m e=>(h.ids _ _ _ _ e).1) (by intro y hy; obtain ⟨t,_,rfl⟩:=List.mem_map.1 hy; exact hs t)
 rw [List.map_map]
 exact own_q h.own h.ids hk
theorem Lp.app {K:St->Prop} {L T':En} {d:MD} {bytes:Nat} {c:AO} {B:List AO} {y:List AV} (h:Lp pv T lim H p N sz cell g m Rl Rs j s acc a A) (hB:∀ (k:Nat) (o:AO),A[k]?=some o->B[k]?=some o) (hTl:T.length<=1073741825) (hby:bytes<=1000)
  (k:∀ id ver A',(H.set p c++A')[id]?=some (.rows sz ver (acc.map (fun t=>(cell t).map .p)++[y]))->(H.length<=id/\id - H.length ∉ N)->(∀ k:Nat,k∈N->A'[k]?=A[k]?)->K (St.put ⟨L,T',H.set p c++A'⟩ d (.gs id ver 0 (acc.length+1)))) :
  appX sz bytes a [y] d K ⟨L,T',H.set p c++B⟩:=by
 have hln:=h.ln
 have hi:=h.ok.1
 have hlB:∀ k∈N,k<B.length:=fun k hk=>by
  have hk2:=h.len k hk
  exact get_lt (hB k A[k] (by simp [hk2]))
 have hl:(acc.map fun t=>(cell t).map AV.p).length=acc.length:=by simp
 refine app_q (rs:=acc.map fun t=>(cell t).map .p) (ys:=[y]) (own_q h.own h.ids fun k o _ hk=>hB k o hk) hlB h.ids (by rw [hl]; simp; exact Nat.le_trans (Nat.mul_le_mul (show acc.length+1<=1073741827 by omega) hby) (by decide)) (by rw [hl]; simp; omega) ?_
 intro id ver A' k1 k2 k3
 rw [hl]
 refine k id ver A' k1 k2 (fun j hj=>?_)
 rw [k3 j hj]
 have hjl:=h.len j hj
 rw [hB j A[j] (by simp [hjl])]; simp [hjl]
end
theorem qxa (H A B:List AO) (p:Nat) (c:AO) (k:Nat):(H.set p c++(A++B))[H.length+A.length+k]?=B[k]?:=by
 rw [show H.length+A.length+k=H.length+(A.length+k) by omega,qxk,gxk]
theorem set_keep {A:List AO} {N:List Nat} {i:Nat} (hi:i∈N) {o:AO}:∀ (k:Nat) (o':AO),k ∉ N->A[k]?=some o'->(A.set i o)[k]?=some o':=fun k o' hk h=>by rw [List.getElem?_set_ne (by rintro rfl; exact hk hi)]; exact h
section
variable {T:List Tok} {lim e:Nat} (hT:ToksOk T) (hTl:T.length<=1073741825)
include hT hTl
theorem sTySt:PF (pvS T lim) T e 255 [] (testM (tySt T)) bV:=by
 refine pf_of (pvS_tf T lim) fun H p s hp hs=>?_
 refine call255 (by simp) ?_
 simp only [go_sem,simprocAttr,mc255,mr255]
 refine acall_pure (sNow.nil hp hs) ?_
 unfold tySt isK
 simp only [go_sem,simprocAttr,qp0 hp,pvS,Tok.cells]
 cases h0:decide (s.c=0)
 ·have hi:isT T [40] s=false:=isT_c (of_decide_eq_false h0)
  simp only [go_sem,simprocAttr,h0,hi,Bool.false_and,Bool.or_self]
  exact ⟨[],by simp,lentP (tf_p _)⟩
 cases h5:decide ((tokA T s).k=5)
 ·cases h3:decide ((tokA T s).k=3)
  ·simp only [go_sem,simprocAttr,h0,h5,h3]
   refine acall_pure ((sIs [40]).nil hp hs) ?_
   simp only [go_sem,simprocAttr,Bool.true_and,Bool.false_or]
   exact ⟨[],by simp [pvS],lentP (tf_p _)⟩
  ·simp only [go_sem,simprocAttr,h0,h5,h3,Bool.true_and,Bool.or_true,Bool.true_or]
   exact ⟨[],by simp,lentP (tf_p _)⟩
 ·simp only [go_sem,simprocAttr,h0,h5,Bool.true_and,Bool.true_or]
  exact ⟨[],by simp,lentP (tf_p _)⟩
theorem sTyAtC {ty:PM TyE} (hty:PF (pvS T lim) T e 172 [] ty tyV) (sty:StayM T ty):PF (pvS T lim) T e 254 [] (tyAt T ty) tyV:=by
 refine pf_of (pvS_tf T lim) fun H p s hp hs=>?_
 refine call254 (by simp) ?_
 simp only [go_sem,simprocAttr,mc254,mr254]
 refine acall_pure (sNow H _ p s hp hs) ?_
 by_cases h0:s.c=0
 ·by_cases hk5:(tokA T s).k=5
  ·have h5:isK T 5 s=true:=by simp [isK,h0,hk5]
   simp only [go_sem,simprocAttr,qp hp,qq hp,pvS,Tok.cells,dT h0,dT hk5,ws hTl hs]
   have eq0:tyAt T ty s=(.mk 2 (tokA T s).t (tokA T s).p [],adv s):=by unfold tyAt; rw [nowP_e,iteG_t h5]; rfl
   rw [eq0]
   exact ⟨_,rfl,lent_ty (by rw [TyE.cellsL]; exact .nl)⟩
  have h5:isK T 5 s=false:=by simp [isK,hk5]
  by_cases hk3:(tokA T s).k=3
  ·have h3:isK T 3 s=true:=by simp [isK,h0,hk3]
   simp only [go_sem,simprocAttr,qp hp,qq hp,pvS,Tok.cells,dT h0,dF hk5,dT hk3,ws hTl hs]
   have eq0:tyAt T ty s=(.mk 1 (tokA T s).t (tokA T s).p [],adv s):=by unfold tyAt; rw [nowP_e,iteG_f h5,iteG_t h3]; rfl
   rw [eq0]
   exact ⟨_,rfl,lent_ty (by rw [TyE.cellsL]; exact .nl)⟩
  have h3:isK T 3 s=false:=by simp [isK,hk3]
  have e0:∀ r,ty (wantP T [40] s)=r->tyAt T ty s=(r.1,wantP T [41] r.2):=fun r hr=>by
   unfold tyAt; rw [nowP_e,iteG_f h5,iteG_f h3,stepP_e,bindP_e,hr]; rfl
  simp only [go_sem,simprocAttr,qp hp,qq hp,pvS,Tok.cells,dT h0,dF hk5,dF hk3]
  refine acall_pure (sWant hTl [40] H _ p s hp hs) ?_
  have hs1:=hs.step (stay_want hT [40])
  simp only [go_sem,simprocAttr]
  refine acall_pure (hty H _ p _ hp hs1) ?_
  have hs2:=hs1.run sty
  rcases hr:ty (wantP T [40] s) with ⟨⟨k,n,q,ks⟩,s2⟩
  rw [hr] at hs2
  rw [e0 _ hr]
  simp only [go_sem,simprocAttr,TyE.cells]
  refine acall_pure (sWant hTl [41] H _ p s2 hp hs2) ?_
  simp only [go_sem,simprocAttr]
  exact ⟨_,rfl,lentP (tf_av (TyE.cells (.mk k n q ks)))⟩
 ·have h5:isK T 5 s=false:=isK_c h0
  have h3:isK T 3 s=false:=isK_c h0
  have e0:∀ r,ty (wantP T [40] s)=r->tyAt T ty s=(r.1,wantP T [41] r.2):=fun r hr=>by
   unfold tyAt; rw [nowP_e,iteG_f h5,iteG_f h3,stepP_e,bindP_e,hr]; rfl
  simp only [go_sem,simprocAttr,qp hp,qq hp,pvS,Tok.cells,dF h0]
  refine acall_pure (sWant hTl [40] H _ p s hp hs) ?_
  have hs1:=hs.step (stay_want hT [40])
  simp only [go_sem,simprocAttr]
  refine acall_pure (hty H _ p _ hp hs1) ?_
  have hs2:=hs1.run sty
  rcases hr:ty (wantP T [40] s) with ⟨⟨k,n,q,ks⟩,s2⟩
  rw [hr] at hs2
  rw [e0 _ hr]
  simp only [go_sem,simprocAttr,TyE.cells]
  refine acall_pure (sWant hTl [41] H _ p s2 hp hs2) ?_
  simp only [go_sem,simprocAttr]
  exact ⟨_,rfl,lentP (tf_av (TyE.cells (.mk k n q ks)))⟩
theorem tyAt_gt {ty:PM TyE} (sty:StayM T ty) {s:PS} (hi:s.i<T.length) (hg:tySt T s=true):s.i<(tyAt T ty s).2.i:=by
 unfold tyAt
 rw [nowP_e]
 cases h5:isK T 5 s with
 | true=>rw [iteG_t h5]; simp [retP,adv]
 | false =>
 rw [iteG_f h5]
 cases h3:isK T 3 s with
 | true=>rw [iteG_t h3]; simp [retP,adv]
 | false =>
 rw [iteG_f h3,stepP_e]
 have hb:isT T [40] s=true:=by simpa [tySt,h5,h3] using hg
 have eq0:wantP T [40] s=adv s:=by unfold wantP; rw [if_pos hb]
 have ha:=adv_at hT hi (isT_k hb).2
 rw [eq0]
 have:=(StayM.bind sty fun o=>StayM.step (stay_want hT [41]) (StayM.ret o)) (adv s) (by simpa [adv] using ha)
 have h1:=this.1
 simp only [adv] at h1 ⊢
 omega
theorem sTyAtNl {ty:PM TyE} {s:PS} (h0:s.c=0) (hs:Ok T e s) (hk3:(tokA T s).k=3):∀ (H A:List AO) (p:Nat),p<H.length->ACall Tryz.prog 254 [.ptr p 0] (H.set p (pvS T lim s)++A) (pureQ (.st [iV 1,sV (tokA T s).t,iV (tokA T s).p,.p .nl]) (H.set p (pvS T lim (adv s))++A)):=by
 refine pf_at (pvS_tf T lim _) fun H p hp=>?_
 have hk5:¬ (tokA T s).k=5:=by omega
 refine call254 (by simp) ?_
 simp only [go_sem,simprocAttr,mc254,mr254]
 refine acall_pure (sNow H _ p s hp hs) ?_
 simp only [go_sem,simprocAttr,qp hp,qq hp,pvS,Tok.cells,dT h0,dF hk5,dT hk3,ws hTl hs]
 exact ⟨_,rfl,.tf _ (tf_st _ (by intro q hq; simp only [List.mem_cons,List.not_mem_nil,or_false] at hq; rcases hq with rfl | rfl | rfl | rfl <;> exact tf_p _))⟩
theorem sTyPostC {ty:PM TyE} (hty:PF (pvS T lim) T e 172 [] ty tyV) (sty:StayM T ty):PF (pvS T lim) T e 239 [] (sPost T T.length ty) tyV:=by
 have hA:=sTyAtC hT hTl hty sty
 have sA:=stay_tyAt hT sty
 refine pf_of (pvS_tf T lim) fun H p s hp hs=>?_
 refine call239 (by simp) ?_
 simp only [go_sem,simprocAttr,mc239,mr239]
 refine acall_pure (sNow H _ p s hp hs) ?_
 simp only [go_sem,simprocAttr,Tok.cells]
 refine acall_pure (sHas hTl [114,101,102] H _ p s hp hs) ?_
 unfold takeM
 cases hr:isT T [114,101,102] s
 ·simp only [go_sem,simprocAttr,hr]
  by_cases hk:s.c=0/\(tokA T s).k=3
  ·obtain ⟨h0,hk3⟩:=hk
   have hs1:=hs.adv hT (show (tokA T s).k≠8 by omega)
   have h5:isK T 5 s=false:=by simp [isK,hk3]
   have h3:isK T 3 s=true:=by simp [isK,h0,hk3]
   have e1:tyAt T ty s=(.mk 1 (tokA T s).t (tokA T s).p [],adv s):=by unfold tyAt; rw [nowP_e,iteG_f h5,iteG_t h3]; rfl
   have eq0:sPost T T.length ty s=(.mk 1 (tokA T s).t (tokA T s).p (many (tySt T) (tyAt T ty) T.length (adv s)).1,(many (tySt T) (tyAt T ty) T.length (adv s)).2):=by
    unfold sPost; rw [nowP_e,iteG_f hr,bindP_e,e1]; simp only [if_pos hk3]; rfl
   rw [eq0]
   refine acall_pure (sTyAtNl hT hTl (ty:=ty) h0 hs hk3 H _ p hp) ?_
   simp only [go_sem,simprocAttr,dT hk3]
   generalize hR:many (tySt T) (tyAt T ty) T.length (adv s)=R
   generalize (tokA T s).t=tt at *
   generalize (tokA T s).p=tp at *
   obtain ⟨Rl,Rs⟩:=R
   refine ⟨Nat × PS × List TyE × AV × List AO,[0,2,4],fun x st=>(Lp (pvS T lim) T e H p [0,2] 4 TyE.cells (tySt T) (tyAt T ty) Rl Rs x.1 x.2.1 x.2.2.1 x.2.2.2.1 x.2.2.2.2/\x.2.2.2.2[0]?=some (.var [iV 0,sV [],iV 0,.p .nl])/\x.2.2.2.2[2]?=some (.var [iV 1,sV tt,iV tp,x.2.2.2.1])) /\
     st=⟨[(0,.ptr p 0),(2,.ptr H.length 0),(4,.ptr (H.length+2) 0)],[],H.set p (pvS T lim x.2.1)++x.2.2.2.2⟩,fun x=>T.length - x.2.1.i,⟨(T.length,adv s,[],.p .nl,[.var [iV 0,sV [],iV 0,.p .nl],.var [iV (tokA T s).k,sV tt,iV (tokA T s).n,iV tp],.var [iV 1,sV tt,iV tp,.p .nl]]),?_⟩,?_⟩
   ·simp only [go_sem,simprocAttr]
    exact Lp.start hs1 hR (by simp)
   ·rintro ⟨j,s',acc,a,A⟩ _ ⟨⟨hL,i8,i9⟩,rfl⟩
    simp only at hL i8 i9 ⊢
    simp only [go_sem,simprocAttr]
    refine acall_pure (sTySt hT hTl H _ p s' hp hL.ok) ?_
    cases hg:tySt T s'
    ·obtain ⟨rfl,rfl⟩:=hL.stop hg
     have hz:∀ o,(A.set 0 o)[0]?=some o:=fun o=>set_get i8
     simp only [go_sem,simprocAttr,hg,i9,i8,hz]
     exact ⟨_,rfl,lent_ty (by rw [TyE.cellsL_eq]; exact hL.lent (set_keep (by decide)) tyE4)⟩
    ·obtain ⟨j,rfl⟩:=hL.succ only_tySt hg
     have hgt:=tyAt_gt hT hTl sty hL.ok.1 hg
     have hs2:=hL.ok.run sA
     simp only [go_sem,simprocAttr,hg]
     refine ⟨_,hx hp _ _,?_⟩
     simp only [go_sem,simprocAttr,i9]
     refine pcall_chain _ _ (by simp) (hx hp _ _) (hA.chain hp hL.ok) ?_
     rcases hq:tyAt T ty s' with ⟨⟨k,n,q,ks⟩,s2⟩
     rw [hq] at hgt hs2
     simp only [go_sem,simprocAttr,TyE.cells,qxa]
     refine ⟨by intro r hr; simp at hr; subst hr; rfl,?_⟩
     refine hL.app (fun k o h=>get_ext h _) hTl (by decide) ?_
     intro id ver A' k1 k2 k3
     have j0:=(k3 0 (by decide)).trans i8
     have j2:=(k3 2 (by decide)).trans i9
     have hlt2:=get_lt j2
     have hz:∀ o,(A'.set 2 o)[2]?=some o:=fun o=>set_get j2
     simp only [go_sem,simprocAttr,j2]
     exact ⟨(j,s2,acc++[.mk k n q ks],.gs id ver 0 (acc.length+1),A'.set 2 (.var [iV 1,sV tt,iV tp,.gs id ver 0 (acc.length+1)])),⟨⟨hL.next only_tySt hg hq hs2 hgt k1 k2 (set_keep (by decide)) (by simp; omega),get_set j0 (by decide),hz _⟩,rfl⟩,by have h1:s'.i<s2.i:=hgt; have:=hL.ok.1; simp only; omega⟩
  ·refine acall_pure (hA H _ p s hp hs) ?_
   have hs1:=hs.run sA
   have hst:=(sA s hs.1).2.2.1
   rcases hq:tyAt T ty s with ⟨⟨k,n,q,ks⟩,s1⟩
   rw [hq] at hs1 hst
   by_cases hk3:(tokA T s).k=3
   ·have hc:s.c≠0:=fun h=>hk ⟨h,hk3⟩
    obtain rfl:s1=s:=hst hc
    have hg:tySt T s1=false:=by unfold tySt; rw [isK_c hc,isK_c hc,isT_c hc]; rfl
    have eq0:sPost T T.length ty s1=(.mk k n q ks,s1):=by
     unfold sPost; rw [nowP_e,iteG_f hr,bindP_e,hq]; simp only [if_pos hk3]; rw [bindP_e,many_c hg]; simp [retP,TyE.put]
    rw [eq0]
    simp only [go_sem,simprocAttr,TyE.cells,dT hk3]
    refine ⟨Unit,[0,2,4],fun _ st=>st=⟨[(0,.ptr p 0),(2,.ptr H.length 0),(4,.ptr (H.length+2) 0)],[],H.set p (pvS T lim s1)++[.var [iV 0,sV [],iV 0,.p .nl],.var [iV (tokA T s1).k,sV (tokA T s1).t,iV (tokA T s1).n,iV (tokA T s1).p],.var [iV k,sV n,iV q,.p (.l (TyE.cellsL ks))]]⟩,fun _=>0,⟨(),?_⟩,?_⟩
    ·simp only [go_sem,simprocAttr,hk3]
    ·rintro _ _ rfl
     simp only [go_sem,simprocAttr]
     refine acall_pure (sTySt hT hTl H _ p s1 hp hs1) ?_
     simp only [go_sem,simprocAttr,hg]
     exact ⟨_,rfl,lentP (tf_av (TyE.cells (.mk k n q ks)))⟩
   ·have eq0:sPost T T.length ty s=(.mk k n q ks,s1):=by
     unfold sPost; rw [nowP_e,iteG_f hr,bindP_e,hq]; simp only [if_neg hk3]; rfl
    rw [eq0]
    simp only [go_sem,simprocAttr,TyE.cells,dF hk3]
    exact ⟨_,rfl,lentP (tf_av (TyE.cells (.mk k n q ks)))⟩
 ·simp only [go_sem,simprocAttr,hr]
  have ht:=isT_k hr
  have hs1:=hs.adv hT ht.2
  refine ⟨_,hx hp _ _,?_⟩
  simp only [go_sem,simprocAttr]
  refine pcall_chain _ _ (by simp) (hx hp _ _) (hA.chain hp hs1) ?_
  rcases hq:tyAt T ty (adv s) with ⟨⟨k,n,q,ks⟩,s1⟩
  have eq0:sPost T T.length ty s=(.mk 5 [] (tokA T s).p [.mk k n q ks],s1):=by
   unfold sPost; rw [nowP_e,iteG_t hr,bindP_e,hq]; rfl
  rw [eq0]
  simp only [go_sem,simprocAttr,TyE.cells]
  exact ⟨_,rfl,lent_ty (lent_rows (n:=H.length) (ys:=[TyE.cells (.mk k n q ks)]) (by omega) (by rw [Nat.add_zero,qxk]; rfl) (by intro y hy; simp at hy; subst hy; rfl))⟩
theorem sPost_gt {ty:PM TyE} (sty:StayM T ty) {s:PS} (hi:s.i<T.length) (hg:isT T [42] s=true):s.i<(advP (sPost T T.length ty) s).2.i :=
 (Stay.adv hT (stay_sPost hT sty) hi (isT_k hg).2).1
theorem sTupC {ty:PM TyE} (hty:PF (pvS T lim) T e 172 [] ty tyV) (sty:StayM T ty):PF (pvS T lim) T e 217 [] (sTup T T.length ty) tyV:=by
 have hA:=sTyPostC hT hTl hty sty
 have sA:=stay_sPost (N:=T.length) hT sty
 refine pf_of (pvS_tf T lim) fun H p s hp hs=>?_
 refine call217 (by simp) ?_
 simp only [go_sem,simprocAttr,mc217,mr217]
 refine acall_pure (hA H _ p s hp hs) ?_
 have hs1:=hs.run sA
 rcases hq:sPost T T.length ty s with ⟨⟨k,n,q,ks⟩,s1⟩
 rw [hq] at hs1
 simp only [go_sem,simprocAttr,TyE.cells]
 refine acall_pure (sIs [42] H _ p s1 hp hs1) ?_
 cases hg0:isT T [42] s1
 ·have eq0:sTup T T.length ty s=(.mk k n q ks,s1):=by unfold sTup; rw [bindP_e,hq,iteB_f hg0]; rfl
  rw [eq0]
  simp only [go_sem,simprocAttr,hg0]
  exact ⟨_,rfl,lentP (tf_av (TyE.cells (.mk k n q ks)))⟩
 ·rcases hR:many (isT T [42]) (advP (sPost T T.length ty)) T.length s1 with ⟨Rl,Rs⟩
  have eq0:sTup T T.length ty s=(.mk 4 [] q (.mk k n q ks :: Rl),Rs):=by unfold sTup; rw [bindP_e,hq,iteB_t hg0,bindP_e,hR]; rfl
  rw [eq0]
  simp only [go_sem,simprocAttr,hg0]
  refine ⟨Nat × PS × List TyE × AV × List AO,[0,2,4],fun x st=>(Lp (pvS T lim) T e H p [0,3] 4 TyE.cells (isT T [42]) (advP (sPost T T.length ty)) (.mk k n q ks :: Rl) Rs x.1 x.2.1 x.2.2.1 x.2.2.2.1 x.2.2.2.2/\x.2.2.2.2[0]?=some (.var [iV 0,sV [],iV 0,.p .nl])/\x.2.2.2.2[3]?=some (.var [iV 4,sV [],iV q,x.2.2.2.1])) /\
    st=⟨[(0,.ptr p 0),(2,.ptr H.length 0),(4,.ptr (H.length+3) 0)],[],H.set p (pvS T lim x.2.1)++x.2.2.2.2⟩,fun x=>T.length - x.2.1.i,⟨(T.length,s1,[.mk k n q ks],.gs (H.length+2) 0 0 1,[.var [iV 0,sV [],iV 0,.p .nl],.var [iV k,sV n,iV q,.p (.l (TyE.cellsL ks))],.rows 4 0 [[iV k,sV n,iV q,.p (.l (TyE.cellsL ks))]],.var [iV 4,sV [],iV q,.gs (H.length+2) 0 0 1]]),?_⟩,?_⟩
  ·simp only [go_sem,simprocAttr,Nat.add_zero]
   exact Lp.start1 hs1 hR (by simp) rfl (by decide)
  ·rintro ⟨j,s',acc,a,A⟩ _ ⟨⟨hL,i8,i9⟩,rfl⟩
   simp only at hL i8 i9 ⊢
   simp only [go_sem,simprocAttr]
   refine acall_pure (sHas hTl [42] H _ p s' hp hL.ok) ?_
   unfold takeM
   cases hg:isT T [42] s'
   ·obtain ⟨rfl,rfl⟩:=hL.stop hg
    have hz:∀ o,(A.set 0 o)[0]?=some o:=fun o=>set_get i8
    simp only [go_sem,simprocAttr,hg,i9,i8,hz]
    exact ⟨_,rfl,lent_ty (by rw [TyE.cellsL_eq]; exact hL.lent (set_keep (by decide)) tyE4)⟩
   ·obtain ⟨j,rfl⟩:=hL.succ (only_isT T _) hg
    have hgt:=sPost_gt hT hTl sty hL.ok.1 hg
    have hsa:=hL.ok.adv hT (isT_k hg).2
    have hs2:=hsa.run sA
    simp only [go_sem,simprocAttr,hg]
    refine ⟨_,hx hp _ _,?_⟩
    simp only [go_sem,simprocAttr,i9]
    refine pcall_chain _ _ (by simp) (hx hp _ _) (hA.chain hp hsa) ?_
    have hqq:advP (sPost T T.length ty) s'=sPost T T.length ty (adv s'):=rfl
    rcases hq:sPost T T.length ty (adv s') with ⟨⟨k,n,q,ks⟩,s2⟩
    rw [hqq,hq] at hgt
    rw [hq] at hs2
    simp only [go_sem,simprocAttr,TyE.cells,qxa]
    refine ⟨by intro r hr; simp at hr; subst hr; rfl,?_⟩
    refine hL.app (fun k o h=>get_ext h _) hTl (by decide) ?_
    intro id ver A' k1 k2 k3
    have j0:=(k3 0 (by decide)).trans i8
    have j2:=(k3 3 (by decide)).trans i9
    have hlt2:=get_lt j2
    have hz:∀ o,(A'.set 3 o)[3]?=some o:=fun o=>set_get j2
    simp only [go_sem,simprocAttr,j2]
    refine ⟨(j,s2,acc++[.mk k n q ks],.gs id ver 0 (acc.length+1),A'.set 3 (.var [iV 4,sV [],_,.gs id ver 0 (acc.length+1)])),⟨⟨hL.next (only_isT T _) hg (hqq.trans hq) hs2 hgt k1 k2 (set_keep (by decide)) (by simp; omega),get_set j0 (by decide),hz _⟩,rfl⟩,by have h1:s'.i<s2.i:=hgt; have:=hL.ok.1; simp only; omega⟩
theorem opens_ok {s:PS} (hs:Ok T e s):(opensP T lim s).i=s.i/\(opensP T lim s).nest=s.nest+1/\((opensP T lim s).c=0->Ok T (e+1) (opensP T lim s)/\e≠lim):=by
 have h1:=hs.1
 have h2:=hs.2
 by_cases h0:s.c=0
 ·by_cases hn:s.nest=lim
  ·have eq0:opensP T lim s={ failP T 12 s with nest:=s.nest+1 }:=by
    rw [opens_of (if_pos ⟨h0,hn⟩),failP_0 h0,if_neg (fun h=>absurd h.1 (show ¬ ((12:Int)=0) by decide))]
   rw [eq0,failP_0 h0]
   exact ⟨rfl,rfl,fun h=>absurd h (show ¬ ((12:Int)=0) by decide)⟩
  ·rw [opens_of (if_neg fun h=>hn h.2)]
   split
   ·exact ⟨rfl,rfl,fun _=>⟨⟨h1,by simp only; omega⟩,by omega⟩⟩
   ·exact ⟨rfl,rfl,fun _=>⟨⟨h1,by simp only; omega⟩,by omega⟩⟩
 ·rw [opens_c h0]
  exact ⟨rfl,rfl,fun h=>absurd h h0⟩
theorem sTyC (hl:lim<=1099511627776) (he:e<=lim) {ty:PM TyE} (hty:e<lim->PF (pvS T lim) T (e+1) 172 [] ty tyV) (sty:StayM T ty):PF (pvS T lim) T e 172 [] (sTyB T T.length lim ty) tyV:=by
 have sA:=stay_sTup (N:=T.length) hT sty
 refine pf_of (pvS_tf T lim) fun H p s hp hs=>?_
 obtain ⟨o1,o2,o3⟩:=opens_ok (lim:=lim) hT hTl hs
 have hi:=hs.1
 have hn:=hs.2
 refine call172 (by simp) ?_
 simp only [go_sem,simprocAttr,mc172,mr172]
 refine acall_pure (sOpens hl he H _ p s hp hs) ?_
 unfold sTyB opnP
 cases hc:decide ((opensP T lim s).c=0)
 ·rw [if_neg (of_decide_eq_false hc)]
  simp only [go_sem,simprocAttr,hc]
  refine acall_pure (sShut hl H _ p (opensP T lim s) hp (by omega) (by omega) (by omega)) ?_
  simp only [go_sem,simprocAttr]
  exact ⟨_,rfl,lent_ty (by rw [TyE.cellsL]; exact .nl)⟩
 ·obtain ⟨hs1,hne⟩:=o3 (of_decide_eq_true hc)
  have hty:=hty (by omega)
  have hA:=sTupC hT hTl hty sty
  rw [if_pos (of_decide_eq_true hc)]
  simp only [go_sem,simprocAttr,hc]
  refine acall_pure (hA H _ p _ hp hs1) ?_
  have hs2:=hs1.run sA
  have st2:=sA _ hs1.1
  rcases hq:sTup T T.length ty (opensP T lim s) with ⟨⟨k,n,q,ks⟩,s2⟩
  rw [hq] at hs2 st2
  have e1:∀ K:TyE->PM TyE,bindP (sTup T T.length ty) K (opensP T lim s)=K (.mk k n q ks) s2:=fun K=>by rw [bindP_e,hq]
  rw [e1]
  simp only [go_sem,simprocAttr,TyE.cells]
  refine acall_pure (sHas hTl [45,62] H _ p s2 hp hs2) ?_
  unfold takeM
  cases hg:isT T [45,62] s2
  ·rw [iteG_f hg]
   have hn2:s2.nest=s.nest+1:=st2.2.2.2.trans o2
   simp only [go_sem,simprocAttr,hg]
   refine acall_pure (sShut hl H _ p s2 hp hs2.1 (by omega) (by omega)) ?_
   simp only [go_sem,simprocAttr]
   exact ⟨_,rfl,lentP (tf_av (TyE.cells (.mk k n q ks)))⟩
  ·rw [iteG_t hg]
   have hsa:=hs2.adv hT (isT_k hg).2
   have hs3:=hsa.run sty
   have st3:=sty _ hsa.1
   simp only [go_sem,simprocAttr,hg]
   refine ⟨_,hx hp _ _,?_⟩
   simp only [go_sem,simprocAttr]
   refine pcall_chain _ _ (by simp) (hx hp _ _) (hty.chain hp hsa) ?_
   rcases hq2:ty (adv s2) with ⟨⟨k',n',q',ks'⟩,s3⟩
   rw [hq2] at hs3 st3
   have e2:∀ K:TyE->PM TyE,bindP ty K (adv s2)=K (.mk k' n' q' ks') s3:=fun K=>by rw [bindP_e,hq2]
   rw [e2]
   have hn3:s3.nest=s.nest+1:=st3.2.2.2.trans (st2.2.2.2.trans o2)
   simp only [go_sem,simprocAttr,TyE.cells]
   refine acall_pure (sShut hl H _ p s3 hp hs3.1 (by omega) (by omega)) ?_
   simp only [go_sem,simprocAttr,Nat.add_zero]
   exact ⟨_,rfl,lent_ty (lent_rows (n:=H.length) (ys:=[TyE.cells (.mk k n q ks),TyE.cells (.mk k' n' q' ks')]) (by omega) (by rw [qxk]; rfl) (by intro y hy; simp at hy; rcases hy with rfl | rfl <;> rfl))⟩
theorem sTyK (hl:lim<=1099511627776):∀ k e,e+k=lim+1->0<k->PF (pvS T lim) T e 172 [] (sTy T T.length lim k) tyV
 | 0,e,_,h=>absurd h (by omega)
 | k+1,e,h,_=>sTyC hT hTl hl (by omega) (fun hlt=>sTyK hl k (e+1) (by omega) (by omega)) (stay_sTy hT lim k)
end
abbrev patV (t:PatD):AV:=.st (t.cells.map .p)
abbrev expV (t:ExpD):AV:=.st (t.cells.map .p)
theorem patE5 (t:PatD):t.cells.length=5:=by cases t; rfl
theorem expE7 (t:ExpD):t.cells.length=7:=by cases t; rfl
theorem lent_pat {n:Nat} {H:List AO} {k u q:Int} {nm:List UInt8} {a:AV} {l:List PatD} (h:LentN n H a (.p (.l (PatD.cellsL l)))):LentN n H (.st [iV k,sV nm,iV u,iV q,a]) (patV (.mk k nm u q l)) :=
 LentC.st (.pc (.pc (.pc (.pc (.cons h .nil)))))
theorem lent_exp {n:Nat} {H:List AO} {k u q:Int} {nm tx:List UInt8} {a b:AV} {l:List ExpD} {m:List ArmD} (h:LentN n H a (.p (.l (ExpD.cellsL l)))) (h2:LentN n H b (.p (.l (ExpD.cellsA m)))):LentN n H (.st [iV k,sV nm,iV u,sV tx,iV q,a,b]) (expV (.mk k nm u tx q l m)) :=
 LentC.st (.pc (.pc (.pc (.pc (.pc (.cons h (.cons h2 .nil)))))))
section
variable {T:List Tok} {lim e:Nat} (hT:ToksOk T) (hTl:T.length<=1073741825)
include hT hTl
theorem sPatSt:PF (pvS T lim) T e 208 [] (testM (patSt T)) bV:=by
 refine pf_of (pvS_tf T lim) fun H p s hp hs=>?_
 refine call208 (by simp) ?_
 simp only [go_sem,simprocAttr,mc208,mr208]
 refine acall_pure (sNow.nil hp hs) ?_
 unfold patSt
 simp only [go_sem,simprocAttr,qp0 hp,pvS,Tok.cells]
 cases h0:decide (s.c=0)
 ·have hc:=of_decide_eq_false h0
  simp only [isK_c hc,isT_c hc,Bool.or_self]
  simp only [go_sem,simprocAttr,h0]
  exact ⟨[],by simp [pvS],lentP (tf_p _)⟩
 have hc:=of_decide_eq_true h0
 cases k3:decide ((tokA T s).k=3)
 rotate_left
 ·have e3:isK T 3 s=true:=by unfold isK; rw [h0,k3]; rfl
  simp only [e3,Bool.or_true,Bool.true_or,Bool.false_or]
  simp only [go_sem,simprocAttr,h0,k3]
  exact ⟨[],by simp [pvS],lentP (tf_p _)⟩
 have e3:isK T 3 s=false:=by unfold isK; rw [h0,k3]; rfl
 cases k1:decide ((tokA T s).k=1)
 rotate_left
 ·have e1:isK T 1 s=true:=by unfold isK; rw [h0,k1]; rfl
  simp only [e1,e3,Bool.or_true,Bool.true_or,Bool.false_or]
  simp only [go_sem,simprocAttr,h0,k3,k1]
  exact ⟨[],by simp [pvS],lentP (tf_p _)⟩
 have e1:isK T 1 s=false:=by unfold isK; rw [h0,k1]; rfl
 cases k4:decide ((tokA T s).k=4)
 rotate_left
 ·have e4:isK T 4 s=true:=by unfold isK; rw [h0,k4]; rfl
  simp only [e4,e3,e1,Bool.or_true,Bool.true_or,Bool.false_or]
  simp only [go_sem,simprocAttr,h0,k3,k1,k4]
  exact ⟨[],by simp [pvS],lentP (tf_p _)⟩
 have e4:isK T 4 s=false:=by unfold isK; rw [h0,k4]; rfl
 simp only [e3,e1,e4,Bool.false_or]
 simp only [go_sem,simprocAttr,h0,k3,k1,k4]
 refine acall_pure ((sIs [95]).nil hp hs) ?_
 cases w0:isT T [95] s
 rotate_left
 ·simp only [go_sem,simprocAttr,w0,Bool.true_or,Bool.or_true,Bool.false_or]
  exact ⟨[],by simp [pvS],lentP (tf_p _)⟩
 simp only [go_sem,simprocAttr,w0,Bool.false_or]
 refine acall_pure ((sIs [116,114,117,101]).nil hp hs) ?_
 cases w1:isT T [116,114,117,101] s
 rotate_left
 ·simp only [go_sem,simprocAttr,w1,Bool.true_or,Bool.or_true,Bool.false_or]
  exact ⟨[],by simp [pvS],lentP (tf_p _)⟩
 simp only [go_sem,simprocAttr,w1,Bool.false_or]
 refine acall_pure ((sIs [102,97,108,115,101]).nil hp hs) ?_
 cases w2:isT T [102,97,108,115,101] s
 rotate_left
 ·simp only [go_sem,simprocAttr,w2,Bool.true_or,Bool.or_true,Bool.false_or]
  exact ⟨[],by simp [pvS],lentP (tf_p _)⟩
 simp only [go_sem,simprocAttr,w2,Bool.false_or]
 refine acall_pure ((sIs [40]).nil hp hs) ?_
 simp only [go_sem,simprocAttr,Bool.false_or]
 exact ⟨[],by simp [pvS],lentP (tf_p _)⟩
theorem sPatAC {pat:PM PatD} (hr:PF (pvS T lim) T e 163 [] pat patV) (sr:StayM T pat):PF (pvS T lim) T e 207 [] (sPatA T T.length pat) patV:=by
 refine pf_of (pvS_tf T lim) fun H p s hp hs=>?_
 refine call207 (by simp) ?_
 simp only [go_sem,simprocAttr,mc207,mr207]
 refine acall_pure (sNow H _ p s hp hs) ?_
 simp only [go_sem,simprocAttr,Tok.cells]
 refine acall_pure (sPatSt hT hTl H _ p s hp hs) ?_
 cases hg:patSt T s
 ·have eq0:sPatA T T.length pat s=(pat0,failP T 11 s):=by unfold sPatA; rw [nowP_e,iteG_f hg]; rfl
  rw [eq0]
  simp only [go_sem,simprocAttr,hg]
  refine acall_pure (sFails 11 H _ p s hp hs) ?_
  simp only [go_sem,simprocAttr]
  exact ⟨_,rfl,lent_pat (by rw [PatD.cellsL]; exact .nl)⟩
 have eq0:sPatA T T.length pat s=sPatIn T T.length (tokA T s) pat (adv s):=by unfold sPatA; rw [nowP_e,iteG_t hg]
 have hs1:=hs.adv hT (only_patSt s hg).2
 rw [eq0]
 generalize hx:tokA T s=x
 obtain ⟨tk,tt,tn,tp⟩:=x
 simp only [go_sem,simprocAttr,hg,qp hp,qq hp,pvS,ws hTl hs]
 have fold:AO.var [ptV T,iV (s.i+1:Nat),iV s.nest,iV s.d,iV lim,iV s.c,iV s.ps]=pvS T lim (adv s):=rfl
 rw [fold]
 by_cases h0:tk=3
 ·have eq1:sPatIn T T.length ⟨tk,tt,tn,tp⟩ pat (adv s)=((PatD.mk 2 tt 0 tp []),adv s):=by unfold sPatIn; rw [if_pos h0]; rfl
  rw [eq1]
  simp only [go_sem,simprocAttr,dT h0]
  exact ⟨_,rfl,lent_pat (by rw [PatD.cellsL]; exact .nl)⟩
 by_cases h1:tk=4
 ·have eq1:sPatIn T T.length ⟨tk,tt,tn,tp⟩ pat (adv s)=((PatD.mk 7 tt 0 tp []),adv s):=by unfold sPatIn; rw [if_neg h0,if_pos h1]; rfl
  rw [eq1]
  simp only [go_sem,simprocAttr,dF h0,dT h1]
  exact ⟨_,rfl,lent_pat (by rw [PatD.cellsL]; exact .nl)⟩
 by_cases h2:tk=1
 ·have eq1:sPatIn T T.length ⟨tk,tt,tn,tp⟩ pat (adv s)=((PatD.mk 3 [] tn tp []),adv s):=by unfold sPatIn; rw [if_neg h0,if_neg h1,if_pos h2]; rfl
  rw [eq1]
  simp only [go_sem,simprocAttr,dF h0,dF h1,dT h2]
  exact ⟨_,rfl,lent_pat (by rw [PatD.cellsL]; exact .nl)⟩
 by_cases h3:tt=[95]
 ·have eq1:sPatIn T T.length ⟨tk,tt,tn,tp⟩ pat (adv s)=((PatD.mk 1 [] 0 tp []),adv s):=by unfold sPatIn; rw [if_neg h0,if_neg h1,if_neg h2,if_pos h3]; rfl
  rw [eq1]
  simp only [go_sem,simprocAttr,dF h0,dF h1,dF h2,dT h3]
  exact ⟨_,rfl,lent_pat (by rw [PatD.cellsL]; exact .nl)⟩
 by_cases h4:tt=[116,114,117,101]
 ·have eq1:sPatIn T T.length ⟨tk,tt,tn,tp⟩ pat (adv s)=((PatD.mk 4 [] 1 tp []),adv s):=by unfold sPatIn; rw [if_neg h0,if_neg h1,if_neg h2,if_neg h3,if_pos h4]; rfl
  rw [eq1]
  simp only [go_sem,simprocAttr,dF h0,dF h1,dF h2,dF h3,dT h4]
  exact ⟨_,rfl,lent_pat (by rw [PatD.cellsL]; exact .nl)⟩
 by_cases h5:tt=[102,97,108,115,101]
 ·have eq1:sPatIn T T.length ⟨tk,tt,tn,tp⟩ pat (adv s)=((PatD.mk 4 [] 0 tp []),adv s):=by unfold sPatIn; rw [if_neg h0,if_neg h1,if_neg h2,if_neg h3,if_neg h4,if_pos h5]; rfl
  rw [eq1]
  simp only [go_sem,simprocAttr,dF h0,dF h1,dF h2,dF h3,dF h4,dT h5]
  exact ⟨_,rfl,lent_pat (by rw [PatD.cellsL]; exact .nl)⟩
 simp only [go_sem,simprocAttr,dF h0,dF h1,dF h2,dF h3,dF h4,dF h5]
 refine acall_pure (sHas hTl [41] H _ p (adv s) hp hs1) ?_
 unfold takeM
 cases hc:isT T [41] (adv s)
 rotate_left
 ·have eq1:sPatIn T T.length ⟨tk,tt,tn,tp⟩ pat (adv s)=((PatD.mk 5 [] 0 tp []),adv (adv s)):=by unfold sPatIn; rw [if_neg h0,if_neg h1,if_neg h2,if_neg h3,if_neg h4,if_neg h5,iteG_t hc]; rfl
  rw [eq1]
  simp only [go_sem,simprocAttr,hc]
  exact ⟨_,rfl,lent_pat (by rw [PatD.cellsL]; exact .nl)⟩
 simp only [go_sem,simprocAttr,hc]
 refine acall_pure (hr H _ p (adv s) hp hs1) ?_
 have hs2:=hs1.run sr
 rcases hq:pat (adv s) with ⟨⟨k,n,u,q,ks⟩,s2⟩
 rw [hq] at hs2
 rcases hR:many (isT T [44]) (advP pat) T.length s2 with ⟨Rl,Rs⟩
 have eq1:sPatIn T T.length ⟨tk,tt,tn,tp⟩ pat (adv s)=(if Rl=[] then .mk k n u q ks else (PatD.mk 6 [] 0 tp ((.mk k n u q ks) :: Rl)),wantP T [41] Rs):=by unfold sPatIn; rw [if_neg h0,if_neg h1,if_neg h2,if_neg h3,if_neg h4,if_neg h5,iteG_f hc,bindP_e,hq,bindP_e,hR]; rfl
 rw [eq1]
 clear eq1 eq0
 simp only [go_sem,simprocAttr,PatD.cells,Nat.add_zero]
 refine ⟨Nat × PS × List PatD × AV × List AO,[0,2,4,5],fun x st=>(Lp (pvS T lim) T e H p [0,2] 5 PatD.cells (isT T [44]) (advP pat) ((.mk k n u q ks) :: Rl) Rs x.1 x.2.1 x.2.2.1 x.2.2.2.1 x.2.2.2.2/\x.2.2.2.2[0]?=some (.var [iV 0,sV [],iV 0,iV 0,.p .nl])/\x.2.2.2.2[2]?=some (.var [iV 0,sV [],iV 0,iV tp,.p .nl])) /\
   st=⟨[(0,.ptr p 0),(2,.ptr H.length 0),(4,.ptr (H.length+2) 0),(5,x.2.2.2.1)],[],H.set p (pvS T lim x.2.1)++x.2.2.2.2⟩,fun x=>T.length - x.2.1.i,⟨(T.length,s2,[.mk k n u q ks],.gs (H.length+3) 0 0 1,[.var [iV 0,sV [],iV 0,iV 0,.p .nl],.var [iV tk,sV tt,iV tn,iV tp],.var [iV 0,sV [],iV 0,iV tp,.p .nl],.rows 5 0 [[iV k,sV n,iV u,iV q,.p (.l (PatD.cellsL ks))]]]),?_⟩,?_⟩
 ·simp only [go_sem,simprocAttr]
  exact Lp.start1 hs2 hR (by simp) rfl (by decide)
 ·rintro ⟨j,s',acc,a,A⟩ _ ⟨⟨hL,i8,i9⟩,rfl⟩
  simp only at hL i8 i9 ⊢
  simp only [go_sem,simprocAttr]
  refine acall_pure (sHas hTl [44] H _ p s' hp hL.ok) ?_
  unfold takeM
  cases hg:isT T [44] s'
  ·obtain ⟨rfl,rfl⟩:=hL.stop hg
   have hz:∀ o,(A.set 0 o)[0]?=some o:=fun o=>set_get i8
   have hz2:∀ o,(A.set 2 o)[2]?=some o:=fun o=>set_get i9
   simp only [go_sem,simprocAttr,hg]
   refine acall_pure (sWant hTl [41] H _ p s' hp hL.ok) ?_
   simp only [go_sem,simprocAttr]
   obtain ⟨id,ver,rfl,hid⟩:∃ id ver,a=.gs id ver 0 (Rl.length+1)/\(H.set p (pvS T lim (wantP T [41] s'))++A)[id]?=some (.rows 5 ver ((((.mk k n u q ks) :: Rl:List PatD)).map fun t=>(PatD.cells t).map .p)):=by
    rcases hL.own with ⟨_,h⟩ | ⟨id,ver,rfl,h⟩
    ·simp at h
    ·exact ⟨id,ver,by simp,by rw [q_ge (hL.ids _ _ _ _ rfl).1] at h ⊢; exact h⟩
   by_cases hRl:Rl=[]
   ·subst hRl
    rw [if_pos rfl]
    simp only [go_sem,simprocAttr,hid,i8,hz,PatD.cells]
    intro _
    exact ⟨_,rfl,lentP (tf_av (PatD.cells (.mk k n u q ks)))⟩
   ·have d1:decide (((Rl.length+1:Nat):Int)=1)=false:=by
     have:=List.length_pos_iff.2 hRl
     simp; omega
    rw [if_neg hRl]
    have h02:∀ o,(A.set 2 o)[0]?=some _:=fun o=>get_set i8 (by decide)
    have hz02:∀ o o',((A.set 2 o).set 0 o')[0]?=some o':=fun o o'=>set_get (h02 o)
    simp only [go_sem,simprocAttr,d1,i9,i8,hz2,h02,hz02,List.set_set]
    intro _
    exact ⟨_,rfl,lent_pat (by rw [PatD.cellsL_eq]; exact hL.lent (fun k o hk h=>get_set (get_set h (by rintro rfl; exact hk (by decide))) (by rintro rfl; exact hk (by decide))) patE5)⟩
  ·obtain ⟨j,rfl⟩:=hL.succ (only_isT T _) hg
   have hsa:=hL.ok.adv hT (isT_k hg).2
   have hs3:=hsa.run sr
   have hgt:=(Stay.adv hT sr hL.ok.1 (isT_k hg).2).1
   simp only [go_sem,simprocAttr,hg]
   refine acall_pure (hr H _ p (adv s') hp hsa) ?_
   rcases hq3:pat (adv s') with ⟨⟨k,n,u,q,ks⟩,s3⟩
   rw [hq3] at hs3 hgt
   simp only [go_sem,simprocAttr,PatD.cells,qxa]
   refine ⟨by intro r hr; simp at hr; subst hr; rfl,?_⟩
   refine hL.app (fun k o h=>get_ext h _) hTl (by decide) ?_
   intro id ver A' k1 k2 k3
   have j0:=(k3 0 (by decide)).trans i8
   have j2:=(k3 2 (by decide)).trans i9
   have hlt2:=get_lt j2
   simp only [go_sem,simprocAttr]
   exact ⟨(j,s3,acc++[.mk k n u q ks],.gs id ver 0 (acc.length+1),A'),⟨⟨hL.next (only_isT T _) hg hq3 hs3 hgt k1 k2 (fun _ _ _ h=>h) (by simp; omega),j0,j2⟩,rfl⟩,by have h1:s'.i<s3.i:=hgt; have:=hL.ok.1; simp only; omega⟩
end
section
variable {T:List Tok} {lim e:Nat} (hT:ToksOk T) (hTl:T.length<=1073741825)
include hT hTl
theorem sPatC (hl:lim<=1099511627776) (he:e<=lim) {pat:PM PatD} (hr:e<lim->PF (pvS T lim) T (e+1) 163 [] pat patV) (sr:StayM T pat):PF (pvS T lim) T e 163 [] (sPatB T T.length lim pat) patV:=by
 have sA:=stay_sPatA (N:=T.length) hT sr
 refine pf_of (pvS_tf T lim) fun H p s hp hs=>?_
 obtain ⟨o1,o2,o3⟩:=opens_ok (lim:=lim) hT hTl hs
 have hi:=hs.1
 have hn:=hs.2
 refine call163 (by simp) ?_
 simp only [go_sem,simprocAttr,mc163,mr163]
 refine acall_pure (sOpens hl he H _ p s hp hs) ?_
 unfold sPatB opnP
 cases hc:decide ((opensP T lim s).c=0)
 ·rw [if_neg (of_decide_eq_false hc)]
  simp only [go_sem,simprocAttr,hc]
  refine acall_pure (sShut hl H _ p (opensP T lim s) hp (by omega) (by omega) (by omega)) ?_
  simp only [go_sem,simprocAttr]
  exact ⟨_,rfl,lent_pat (by rw [PatD.cellsL]; exact .nl)⟩
 ·obtain ⟨hs1,hne⟩:=o3 (of_decide_eq_true hc)
  have hr:=hr (by omega)
  have hA:=sPatAC hT hTl hr sr
  rw [if_pos (of_decide_eq_true hc)]
  simp only [go_sem,simprocAttr,hc]
  refine acall_pure (sNow H _ p _ hp hs1) ?_
  rw [nowP_e,bindP_e]
  simp only [go_sem,simprocAttr,Tok.cells]
  generalize hx:tokA T (opensP T lim s)=x
  obtain ⟨tk,tt,tn,tp⟩:=x
  simp only
  refine acall_pure (hA H _ p _ hp hs1) ?_
  have hs2:=hs1.run sA
  have st2:=sA _ hs1.1
  rcases hq:sPatA T T.length pat (opensP T lim s) with ⟨⟨k,n,u,q,ks⟩,s2⟩
  rw [hq] at hs2 st2
  have hn2:s2.nest=s.nest+1:=st2.2.2.2.trans o2
  simp only [go_sem,simprocAttr,PatD.cells]
  by_cases h4:tk=4
  ·rw [if_pos h4]
   simp only [go_sem,simprocAttr,dT h4]
   refine acall_pure (sPatSt hT hTl H _ p s2 hp hs2) ?_
   cases hg:patSt T s2
   ·rw [iteB_f hg]
    simp only [go_sem,simprocAttr,hg]
    refine acall_pure (sShut hl H _ p s2 hp hs2.1 (by omega) (by omega)) ?_
    simp only [go_sem,simprocAttr]
    exact ⟨_,rfl,lentP (tf_av (PatD.cells (.mk k n u q ks)))⟩
   ·rw [iteB_t hg,bindP_e]
    simp only [go_sem,simprocAttr,hg]
    refine acall_pure (hA H _ p s2 hp hs2) ?_
    have hs3:=hs2.run sA
    have st3:=sA _ hs2.1
    rcases hq2:sPatA T T.length pat s2 with ⟨⟨k',n',u',q',ks'⟩,s3⟩
    rw [hq2] at hs3 st3
    have hn3:s3.nest=s.nest+1:=st3.2.2.2.trans hn2
    simp only [go_sem,simprocAttr,PatD.cells]
    refine acall_pure (sShut hl H _ p s3 hp hs3.1 (by omega) (by omega)) ?_
    simp only [go_sem,simprocAttr,Nat.add_zero]
    exact ⟨_,rfl,lent_pat (lent_rows (n:=H.length) (ys:=[PatD.cells (.mk k' n' u' q' ks')]) (by omega) (by rw [qxk]; rfl) (by intro y hy; simp at hy; subst hy; rfl))⟩
  ·rw [if_neg h4]
   simp only [go_sem,simprocAttr,dF h4]
   refine acall_pure (sShut hl H _ p s2 hp hs2.1 (by omega) (by omega)) ?_
   simp only [go_sem,simprocAttr]
   exact ⟨_,rfl,lentP (tf_av (PatD.cells (.mk k n u q ks)))⟩
theorem sPatK (hl:lim<=1099511627776):∀ k e,e+k=lim+1->0<k->PF (pvS T lim) T e 163 [] (sPat T T.length lim k) patV
 | 0,e,_,h=>absurd h (by omega)
 | k+1,e,h,_=>sPatC hT hTl hl (by omega) (fun hlt=>sPatK hl k (e+1) (by omega) (by omega)) (stay_sPat hT lim k)
theorem sAtSt:PF (pvS T lim) T e 210 [] (testM (atNx T)) bV:=by
 refine pf_of (pvS_tf T lim) fun H p s hp hs=>?_
 refine call210 (by simp) ?_
 simp only [go_sem,simprocAttr,mc210,mr210]
 refine acall_pure (sNow.nil hp hs) ?_
 unfold atNx
 simp only [go_sem,simprocAttr,qp0 hp,pvS,Tok.cells]
 cases h0:decide (s.c=0)
 ·have hc:=of_decide_eq_false h0
  simp only [isK_c hc,isT_c hc,Bool.or_self]
  simp only [go_sem,simprocAttr,h0]
  exact ⟨[],by simp [pvS],lentP (tf_p _)⟩
 have hc:=of_decide_eq_true h0
 cases k1:decide ((tokA T s).k=1)
 rotate_left
 ·have e1:isK T 1 s=true:=by unfold isK; rw [h0,k1]; rfl
  simp only [e1,Bool.or_true,Bool.true_or,Bool.false_or]
  simp only [go_sem,simprocAttr,h0,k1]
  exact ⟨[],by simp [pvS],lentP (tf_p _)⟩
 have e1:isK T 1 s=false:=by unfold isK; rw [h0,k1]; rfl
 cases k2:decide ((tokA T s).k=2)
 rotate_left
 ·have e2:isK T 2 s=true:=by unfold isK; rw [h0,k2]; rfl
  simp only [e2,e1,Bool.or_true,Bool.true_or,Bool.false_or]
  simp only [go_sem,simprocAttr,h0,k1,k2]
  exact ⟨[],by simp [pvS],lentP (tf_p _)⟩
 have e2:isK T 2 s=false:=by unfold isK; rw [h0,k2]; rfl
 cases k3:decide ((tokA T s).k=3)
 rotate_left
 ·have e3:isK T 3 s=true:=by unfold isK; rw [h0,k3]; rfl
  simp only [e3,e1,e2,Bool.or_true,Bool.true_or,Bool.false_or]
  simp only [go_sem,simprocAttr,h0,k1,k2,k3]
  exact ⟨[],by simp [pvS],lentP (tf_p _)⟩
 have e3:isK T 3 s=false:=by unfold isK; rw [h0,k3]; rfl
 cases k4:decide ((tokA T s).k=4)
 rotate_left
 ·have e4:isK T 4 s=true:=by unfold isK; rw [h0,k4]; rfl
  simp only [e4,e1,e2,e3,Bool.or_true,Bool.true_or,Bool.false_or]
  simp only [go_sem,simprocAttr,h0,k1,k2,k3,k4]
  exact ⟨[],by simp [pvS],lentP (tf_p _)⟩
 have e4:isK T 4 s=false:=by unfold isK; rw [h0,k4]; rfl
 simp only [e1,e2,e3,e4,Bool.false_or]
 simp only [go_sem,simprocAttr,h0,k1,k2,k3,k4]
 refine acall_pure ((sIs [116,114,117,101]).nil hp hs) ?_
 cases w0:isT T [116,114,117,101] s
 rotate_left
 ·simp only [go_sem,simprocAttr,w0,Bool.true_or,Bool.or_true,Bool.false_or]
  exact ⟨[],by simp [pvS],lentP (tf_p _)⟩
 simp only [go_sem,simprocAttr,w0,Bool.false_or]
 refine acall_pure ((sIs [102,97,108,115,101]).nil hp hs) ?_
 cases w1:isT T [102,97,108,115,101] s
 rotate_left
 ·simp only [go_sem,simprocAttr,w1,Bool.true_or,Bool.or_true,Bool.false_or]
  exact ⟨[],by simp [pvS],lentP (tf_p _)⟩
 simp only [go_sem,simprocAttr,w1,Bool.false_or]
 refine acall_pure ((sIs [114,101,97,100]).nil hp hs) ?_
 cases w2:isT T [114,101,97,100] s
 rotate_left
 ·simp only [go_sem,simprocAttr,w2,Bool.true_or,Bool.or_true,Bool.false_or]
  exact ⟨[],by simp [pvS],lentP (tf_p _)⟩
 simp only [go_sem,simprocAttr,w2,Bool.false_or]
 refine acall_pure ((sIs [40]).nil hp hs) ?_
 simp only [go_sem,simprocAttr,Bool.false_or]
 exact ⟨[],by simp [pvS],lentP (tf_p _)⟩
theorem sAtomC {ex:PM ExpD} (hr:PF (pvS T lim) T e 25 [] ex expV) (sr:StayM T ex):PF (pvS T lim) T e 211 [] (sAtom T T.length ex) expV:=by
 refine pf_of (pvS_tf T lim) fun H p s hp hs=>?_
 refine call211 (by simp) ?_
 simp only [go_sem,simprocAttr,mc211,mr211]
 refine acall_pure (sNow H _ p s hp hs) ?_
 simp only [go_sem,simprocAttr,Tok.cells]
 refine acall_pure (sAtSt hT hTl H _ p s hp hs) ?_
 cases hg:atNx T s
 ·have eq0:sAtom T T.length ex s=(exp0,failP T 11 s):=by unfold sAtom; rw [nowP_e,iteG_f hg]; rfl
  rw [eq0]
  simp only [go_sem,simprocAttr,hg]
  refine acall_pure (sFails 11 H _ p s hp hs) ?_
  simp only [go_sem,simprocAttr]
  exact ⟨_,rfl,lent_exp (by rw [ExpD.cellsL]; exact .nl) (by rw [ExpD.cellsA]; exact .nl)⟩
 have eq0:sAtom T T.length ex s=sAtIn T T.length (tokA T s) ex (adv s):=by unfold sAtom; rw [nowP_e,iteG_t hg]
 have hs1:=hs.adv hT (only_atNx s hg).2
 rw [eq0]
 generalize hx:tokA T s=x
 obtain ⟨tk,tt,tn,tp⟩:=x
 simp only [go_sem,simprocAttr,hg,qp hp,qq hp,pvS,ws hTl hs]
 have fold:AO.var [ptV T,iV (s.i+1:Nat),iV s.nest,iV s.d,iV lim,iV s.c,iV s.ps]=pvS T lim (adv s):=rfl
 rw [fold]
 by_cases h0:tk=1
 ·have eq1:sAtIn T T.length ⟨tk,tt,tn,tp⟩ ex (adv s)=((ExpD.mk 1 [] tn [] tp [] []),adv s):=by unfold sAtIn; rw [if_pos h0]; rfl
  rw [eq1]
  simp only [go_sem,simprocAttr,dT h0]
  exact ⟨_,rfl,lent_exp (by rw [ExpD.cellsL]; exact .nl) (by rw [ExpD.cellsA]; exact .nl)⟩
 by_cases h1:tk=2
 ·have eq1:sAtIn T T.length ⟨tk,tt,tn,tp⟩ ex (adv s)=((ExpD.mk 2 [] 0 tt tp [] []),adv s):=by unfold sAtIn; rw [if_neg h0,if_pos h1]; rfl
  rw [eq1]
  simp only [go_sem,simprocAttr,dF h0,dT h1]
  exact ⟨_,rfl,lent_exp (by rw [ExpD.cellsL]; exact .nl) (by rw [ExpD.cellsA]; exact .nl)⟩
 by_cases h2:tk=3
 ·have eq1:sAtIn T T.length ⟨tk,tt,tn,tp⟩ ex (adv s)=((ExpD.mk 5 tt 0 [] tp [] []),adv s):=by unfold sAtIn; rw [if_neg h0,if_neg h1,if_pos h2]; rfl
  rw [eq1]
  simp only [go_sem,simprocAttr,dF h0,dF h1,dT h2]
  exact ⟨_,rfl,lent_exp (by rw [ExpD.cellsL]; exact .nl) (by rw [ExpD.cellsA]; exact .nl)⟩
 by_cases h3:tk=4
 ·have eq1:sAtIn T T.length ⟨tk,tt,tn,tp⟩ ex (adv s)=((ExpD.mk 6 tt 0 [] tp [] []),adv s):=by unfold sAtIn; rw [if_neg h0,if_neg h1,if_neg h2,if_pos h3]; rfl
  rw [eq1]
  simp only [go_sem,simprocAttr,dF h0,dF h1,dF h2,dT h3]
  exact ⟨_,rfl,lent_exp (by rw [ExpD.cellsL]; exact .nl) (by rw [ExpD.cellsA]; exact .nl)⟩
 by_cases h4:tt=[114,101,97,100]
 ·have eq1:sAtIn T T.length ⟨tk,tt,tn,tp⟩ ex (adv s)=((ExpD.mk 15 tt 0 [] tp [] []),adv s):=by unfold sAtIn; rw [if_neg h0,if_neg h1,if_neg h2,if_neg h3,if_pos h4]; rfl
  rw [eq1]
  simp only [go_sem,simprocAttr,dF h0,dF h1,dF h2,dF h3,dT h4]
  exact ⟨_,rfl,lent_exp (by rw [ExpD.cellsL]; exact .nl) (by rw [ExpD.cellsA]; exact .nl)⟩
 by_cases h5:tt=[116,114,117,101]
 ·have eq1:sAtIn T T.length ⟨tk,tt,tn,tp⟩ ex (adv s)=((ExpD.mk 3 [] 1 [] tp [] []),adv s):=by unfold sAtIn; rw [if_neg h0,if_neg h1,if_neg h2,if_neg h3,if_neg h4,if_pos h5]; rfl
  rw [eq1]
  simp only [go_sem,simprocAttr,dF h0,dF h1,dF h2,dF h3,dF h4,dT h5]
  exact ⟨_,rfl,lent_exp (by rw [ExpD.cellsL]; exact .nl) (by rw [ExpD.cellsA]; exact .nl)⟩
 by_cases h6:tt=[102,97,108,115,101]
 ·have eq1:sAtIn T T.length ⟨tk,tt,tn,tp⟩ ex (adv s)=((ExpD.mk 3 [] 0 [] tp [] []),adv s):=by unfold sAtIn; rw [if_neg h0,if_neg h1,if_neg h2,if_neg h3,if_neg h4,if_neg h5,if_pos h6]; rfl
  rw [eq1]
  simp only [go_sem,simprocAttr,dF h0,dF h1,dF h2,dF h3,dF h4,dF h5,dT h6]
  exact ⟨_,rfl,lent_exp (by rw [ExpD.cellsL]; exact .nl) (by rw [ExpD.cellsA]; exact .nl)⟩
 simp only [go_sem,simprocAttr,dF h0,dF h1,dF h2,dF h3,dF h4,dF h5,dF h6]
 refine acall_pure (sHas hTl [41] H _ p (adv s) hp hs1) ?_
 unfold takeM
 cases hc:isT T [41] (adv s)
 rotate_left
 ·have eq1:sAtIn T T.length ⟨tk,tt,tn,tp⟩ ex (adv s)=((ExpD.mk 4 [] 0 [] tp [] []),adv (adv s)):=by unfold sAtIn; rw [if_neg h0,if_neg h1,if_neg h2,if_neg h3,if_neg h4,if_neg h5,if_neg h6,iteG_t hc]; rfl
  rw [eq1]
  simp only [go_sem,simprocAttr,hc]
  exact ⟨_,rfl,lent_exp (by rw [ExpD.cellsL]; exact .nl) (by rw [ExpD.cellsA]; exact .nl)⟩
 simp only [go_sem,simprocAttr,hc]
 refine acall_pure (hr H _ p (adv s) hp hs1) ?_
 have hs2:=hs1.run sr
 rcases hq:ex (adv s) with ⟨⟨k,n,u,t,q,ks,ms⟩,s2⟩
 rw [hq] at hs2
 rcases hR:many (isT T [44]) (advP ex) T.length s2 with ⟨Rl,Rs⟩
 have eq1:sAtIn T T.length ⟨tk,tt,tn,tp⟩ ex (adv s)=(if Rl=[] then .mk k n u t q ks ms else (ExpD.mk 7 [] 0 [] tp ((.mk k n u t q ks ms) :: Rl) []),wantP T [41] Rs):=by unfold sAtIn; rw [if_neg h0,if_neg h1,if_neg h2,if_neg h3,if_neg h4,if_neg h5,if_neg h6,iteG_f hc,bindP_e,hq,bindP_e,hR]; rfl
 rw [eq1]
 clear eq1 eq0
 simp only [go_sem,simprocAttr,ExpD.cells,Nat.add_zero]
 refine ⟨Nat × PS × List ExpD × AV × List AO,[0,2,4,5],fun x st=>(Lp (pvS T lim) T e H p [0,2] 7 ExpD.cells (isT T [44]) (advP ex) ((.mk k n u t q ks ms) :: Rl) Rs x.1 x.2.1 x.2.2.1 x.2.2.2.1 x.2.2.2.2/\x.2.2.2.2[0]?=some (.var [iV 0,sV [],iV 0,sV [],iV 0,.p .nl,.p .nl])/\x.2.2.2.2[2]?=some (.var [iV 0,sV [],iV 0,sV [],iV tp,.p .nl,.p .nl])) /\
   st=⟨[(0,.ptr p 0),(2,.ptr H.length 0),(4,.ptr (H.length+2) 0),(5,x.2.2.2.1)],[],H.set p (pvS T lim x.2.1)++x.2.2.2.2⟩,fun x=>T.length - x.2.1.i,⟨(T.length,s2,[.mk k n u t q ks ms],.gs (H.length+3) 0 0 1,[.var [iV 0,sV [],iV 0,sV [],iV 0,.p .nl,.p .nl],.var [iV tk,sV tt,iV tn,iV tp],.var [iV 0,sV [],iV 0,sV [],iV tp,.p .nl,.p .nl],.rows 7 0 [[iV k,sV n,iV u,sV t,iV q,.p (.l (ExpD.cellsL ks)),.p (.l (ExpD.cellsA ms))]]]),?_⟩,?_⟩
 ·simp only [go_sem,simprocAttr]
  exact Lp.start1 hs2 hR (by simp) rfl (by decide)
 ·rintro ⟨j,s',acc,a,A⟩ _ ⟨⟨hL,i8,i9⟩,rfl⟩
  simp only at hL i8 i9 ⊢
  simp only [go_sem,simprocAttr]
  refine acall_pure (sHas hTl [44] H _ p s' hp hL.ok) ?_
  unfold takeM
  cases hg:isT T [44] s'
  ·obtain ⟨rfl,rfl⟩:=hL.stop hg
   have hz:∀ o,(A.set 0 o)[0]?=some o:=fun o=>set_get i8
   have hz2:∀ o,(A.set 2 o)[2]?=some o:=fun o=>set_get i9
   simp only [go_sem,simprocAttr,hg]
   refine acall_pure (sWant hTl [41] H _ p s' hp hL.ok) ?_
   simp only [go_sem,simprocAttr]
   obtain ⟨id,ver,rfl,hid⟩:∃ id ver,a=.gs id ver 0 (Rl.length+1)/\(H.set p (pvS T lim (wantP T [41] s'))++A)[id]?=some (.rows 7 ver ((((.mk k n u t q ks ms) :: Rl:List ExpD)).map fun t=>(ExpD.cells t).map .p)):=by
    rcases hL.own with ⟨_,h⟩ | ⟨id,ver,rfl,h⟩
    ·simp at h
    ·exact ⟨id,ver,by simp,by rw [q_ge (hL.ids _ _ _ _ rfl).1] at h ⊢; exact h⟩
   by_cases hRl:Rl=[]
   ·subst hRl
    rw [if_pos rfl]
    simp only [go_sem,simprocAttr,hid,i8,hz,ExpD.cells]
    intro _
    exact ⟨_,rfl,lentP (tf_av (ExpD.cells (.mk k n u t q ks ms)))⟩
   ·have d1:decide (((Rl.length+1:Nat):Int)=1)=false:=by
     have:=List.length_pos_iff.2 hRl
     simp; omega
    rw [if_neg hRl]
    have h02:∀ o,(A.set 2 o)[0]?=some _:=fun o=>get_set i8 (by decide)
    have hz02:∀ o o',((A.set 2 o).set 0 o')[0]?=some o':=fun o o'=>set_get (h02 o)
    simp only [go_sem,simprocAttr,d1,i9,i8,hz2,h02,hz02,List.set_set]
    intro _
    exact ⟨_,rfl,lent_exp (by rw [ExpD.cellsL_eq]; exact hL.lent (fun k o hk h=>get_set (get_set h (by rintro rfl; exact hk (by decide))) (by rintro rfl; exact hk (by decide))) expE7) .nl⟩
  ·obtain ⟨j,rfl⟩:=hL.succ (only_isT T _) hg
   have hsa:=hL.ok.adv hT (isT_k hg).2
   have hs3:=hsa.run sr
   have hgt:=(Stay.adv hT sr hL.ok.1 (isT_k hg).2).1
   simp only [go_sem,simprocAttr,hg]
   refine acall_pure (hr H _ p (adv s') hp hsa) ?_
   rcases hq3:ex (adv s') with ⟨⟨k,n,u,t,q,ks,ms⟩,s3⟩
   rw [hq3] at hs3 hgt
   simp only [go_sem,simprocAttr,ExpD.cells,qxa]
   refine ⟨by intro r hr; simp at hr; subst hr; rfl,?_⟩
   refine hL.app (fun k o h=>get_ext h _) hTl (by decide) ?_
   intro id ver A' k1 k2 k3
   have j0:=(k3 0 (by decide)).trans i8
   have j2:=(k3 2 (by decide)).trans i9
   have hlt2:=get_lt j2
   simp only [go_sem,simprocAttr]
   exact ⟨(j,s3,acc++[.mk k n u t q ks ms],.gs id ver 0 (acc.length+1),A'),⟨⟨hL.next (only_isT T _) hg hq3 hs3 hgt k1 k2 (fun _ _ _ h=>h) (by simp; omega),j0,j2⟩,rfl⟩,by have h1:s'.i<s3.i:=hgt; have:=hL.ok.1; simp only; omega⟩
theorem primC (s:List UInt8) (H:List AO):ACall Tryz.prog 222 [sV s] H (pureQ (bV (decide (s=[112,114,105,110,116]) || decide (s=[101,120,105,116]) || decide (s=[115,105,122,101]) || decide (s=[114,101,102]) || decide (s=[33]))) H):=by
 refine call222 (by simp) ?_
 simp only [go_sem,simprocAttr,mc222,mr222]
 cases h1:decide (s=[112,114,105,110,116])
 rotate_left
 ·simp only [go_sem,simprocAttr,h1,Bool.true_or]
  exact ⟨rfl,rfl⟩
 cases h2:decide (s=[101,120,105,116])
 rotate_left
 ·simp only [go_sem,simprocAttr,h1,h2,Bool.true_or,Bool.false_or]
  exact ⟨rfl,rfl⟩
 cases h3:decide (s=[115,105,122,101])
 rotate_left
 ·simp only [go_sem,simprocAttr,h1,h2,h3,Bool.true_or,Bool.false_or]
  exact ⟨rfl,rfl⟩
 cases h4:decide (s=[114,101,102])
 rotate_left
 ·simp only [go_sem,simprocAttr,h1,h2,h3,h4,Bool.true_or,Bool.false_or]
  exact ⟨rfl,rfl⟩
 simp only [go_sem,simprocAttr,h1,h2,h3,h4,Bool.false_or]
 exact ⟨rfl,rfl⟩
theorem primT_e {s:PS} (hc:s.c=0):primT T s=((decide ((tokA T s).k=6) || decide ((tokA T s).k=7)) && (decide ((tokA T s).t=[112,114,105,110,116]) || decide ((tokA T s).t=[101,120,105,116]) || decide ((tokA T s).t=[115,105,122,101]) || decide ((tokA T s).t=[114,101,102]) || decide ((tokA T s).t=[33]))):=by
 unfold primT isT
 rw [dT hc,Bool.true_and]
 cases (decide ((tokA T s).k=6) || decide ((tokA T s).k=7))
 ·simp
 ·simp
theorem sPreC {ex:PM ExpD} (hr:PF (pvS T lim) T e 25 [] ex expV) (sr:StayM T ex):PF (pvS T lim) T e 209 [] (sPre T T.length ex) expV:=by
 have hA:=sAtomC hT hTl hr sr
 have sA:=stay_sAtom (N:=T.length) hT sr
 refine pf_of (pvS_tf T lim) fun H p s hp hs=>?_
 refine call209 (by simp) ?_
 simp only [go_sem,simprocAttr,mc209,mr209]
 refine acall_pure (sNow H _ p s hp hs) ?_
 have rest:primT T s=false->sPre T T.length ex s=(if (tokA T s).k=4 then iteB (atNx T) (bindP (sAtom T T.length ex) fun a=>retP ((sAtom T T.length ex s).1.kid [a])) (retP (sAtom T T.length ex s).1) else retP (sAtom T T.length ex s).1) (sAtom T T.length ex s).2:=fun h=>by
  unfold sPre; rw [nowP_e,iteG_f h,bindP_e]
 have yes:primT T s=true->sPre T T.length ex s=(node1 15 (tokA T s).t (tokA T s).p (sAtom T T.length ex (adv s)).1,(sAtom T T.length ex (adv s)).2):=fun h=>by
  unfold sPre; rw [nowP_e,iteG_t h]; rfl
 have hpr:=fun hc:s.c=0=>primT_e hT hTl hc
 have hpc:=fun hc:s.c≠0=>show primT T s=false by unfold primT; rw [isT_c hc,isT_c hc,isT_c hc,isT_c hc,isT_c hc]; rfl
 have h8:primT T s=true->(tokA T s).k≠8:=fun h=>(only_primT s h).2
 simp only [go_sem,simprocAttr,qp hp,pvS,Tok.cells]
 generalize hx:tokA T s=x at rest yes hpr h8 ⊢
 obtain ⟨tk,tt,tn,tp⟩:=x
 simp only at rest yes hpr h8 ⊢
 cases h0:decide (s.c=0)
 ·have hf:=hpc (of_decide_eq_false h0)
  simp only [go_sem,simprocAttr,h0]
  refine acall_pure (hA H _ p s hp hs) ?_
  have hs2:=hs.run sA
  rw [rest hf]
  clear rest yes
  rcases hq:sAtom T T.length ex s with ⟨⟨k,n,u,t,q,ks,ms⟩,s2⟩
  rw [hq] at hs2
  simp only [go_sem,simprocAttr,ExpD.cells]
  by_cases h4:tk=4
  ·rw [if_pos h4]
   simp only [go_sem,simprocAttr,dT h4]
   refine acall_pure (sAtSt hT hTl H _ p s2 hp hs2) ?_
   cases hg:atNx T s2
   ·rw [iteB_f hg]
    simp only [go_sem,simprocAttr,hg]
    exact ⟨_,rfl,lentP (tf_av (ExpD.cells (.mk k n u t q ks ms)))⟩
   ·rw [iteB_t hg,bindP_e]
    simp only [go_sem,simprocAttr,hg]
    refine acall_pure (hA H _ p s2 hp hs2) ?_
    rcases hq2:sAtom T T.length ex s2 with ⟨⟨k',n',u',t',q',ks',ms'⟩,s3⟩
    simp only [go_sem,simprocAttr,ExpD.cells,Nat.add_zero]
    exact ⟨_,rfl,lent_exp (lent_rows (n:=H.length) (ys:=[ExpD.cells (.mk k' n' u' t' q' ks' ms')]) (by omega) (by rw [qxk]; rfl) (by intro y hy; simp at hy; subst hy; rfl)) (.p _)⟩
  ·rw [if_neg h4]
   simp only [go_sem,simprocAttr,dF h4]
   exact ⟨_,rfl,lentP (tf_av (ExpD.cells (.mk k n u t q ks ms)))⟩
 ·have hpr:=hpr (of_decide_eq_true h0)
  cases h67:(decide (tk=6) || decide (tk=7))
  ·have hf:primT T s=false:=by rw [hpr,h67]; rfl
   have h6:decide (tk=6)=false:=by cases h:decide (tk=6) <;> simp [h] at h67 ⊢
   have h7:decide (tk=7)=false:=by cases h:decide (tk=7) <;> simp [h] at h67 ⊢
   simp only [go_sem,simprocAttr,h0,h6,h7]
   refine acall_pure (hA H _ p s hp hs) ?_
   have hs2:=hs.run sA
   rw [rest hf]
   clear rest yes
   rcases hq:sAtom T T.length ex s with ⟨⟨k,n,u,t,q,ks,ms⟩,s2⟩
   rw [hq] at hs2
   simp only [go_sem,simprocAttr,ExpD.cells]
   by_cases h4:tk=4
   ·rw [if_pos h4]
    simp only [go_sem,simprocAttr,dT h4]
    refine acall_pure (sAtSt hT hTl H _ p s2 hp hs2) ?_
    cases hg:atNx T s2
    ·rw [iteB_f hg]
     simp only [go_sem,simprocAttr,hg]
     exact ⟨_,rfl,lentP (tf_av (ExpD.cells (.mk k n u t q ks ms)))⟩
    ·rw [iteB_t hg,bindP_e]
     simp only [go_sem,simprocAttr,hg]
     refine acall_pure (hA H _ p s2 hp hs2) ?_
     rcases hq2:sAtom T T.length ex s2 with ⟨⟨k',n',u',t',q',ks',ms'⟩,s3⟩
     simp only [go_sem,simprocAttr,ExpD.cells,Nat.add_zero]
     exact ⟨_,rfl,lent_exp (lent_rows (n:=H.length) (ys:=[ExpD.cells (.mk k' n' u' t' q' ks' ms')]) (by omega) (by rw [qxk]; rfl) (by intro y hy; simp at hy; subst hy; rfl)) (.p _)⟩
   ·rw [if_neg h4]
    simp only [go_sem,simprocAttr,dF h4]
    exact ⟨_,rfl,lentP (tf_av (ExpD.cells (.mk k n u t q ks ms)))⟩
  ·rw [h67,Bool.true_and] at hpr
   cases h6:decide (tk=6)
   ·have h7:decide (tk=7)=true:=by simpa [h6] using h67
    simp only [go_sem,simprocAttr,h0,h6,h7]
    refine acall_pure (primC hT hTl tt _) ?_
    rw [<- hpr]
    cases hf:primT T s
    ·simp only [go_sem,simprocAttr,hf]
     refine acall_pure (hA H _ p s hp hs) ?_
     have hs2:=hs.run sA
     rw [rest hf]
     clear rest yes
     rcases hq:sAtom T T.length ex s with ⟨⟨k,n,u,t,q,ks,ms⟩,s2⟩
     rw [hq] at hs2
     simp only [go_sem,simprocAttr,ExpD.cells]
     by_cases h4:tk=4
     ·rw [if_pos h4]
      simp only [go_sem,simprocAttr,dT h4]
      refine acall_pure (sAtSt hT hTl H _ p s2 hp hs2) ?_
      cases hg:atNx T s2
      ·rw [iteB_f hg]
       simp only [go_sem,simprocAttr,hg]
       exact ⟨_,rfl,lentP (tf_av (ExpD.cells (.mk k n u t q ks ms)))⟩
      ·rw [iteB_t hg,bindP_e]
       simp only [go_sem,simprocAttr,hg]
       refine acall_pure (hA H _ p s2 hp hs2) ?_
       rcases hq2:sAtom T T.length ex s2 with ⟨⟨k',n',u',t',q',ks',ms'⟩,s3⟩
       simp only [go_sem,simprocAttr,ExpD.cells,Nat.add_zero]
       exact ⟨_,rfl,lent_exp (lent_rows (n:=H.length) (ys:=[ExpD.cells (.mk k' n' u' t' q' ks' ms')]) (by omega) (by rw [qxk]; rfl) (by intro y hy; simp at hy; subst hy; rfl)) (.p _)⟩
     ·rw [if_neg h4]
      simp only [go_sem,simprocAttr,dF h4]
      exact ⟨_,rfl,lentP (tf_av (ExpD.cells (.mk k n u t q ks ms)))⟩
    ·have hsa:=hs.adv hT (by rw [hx]; exact h8 hf)
     have fold:AO.var [ptV T,iV (s.i+1:Nat),iV s.nest,iV s.d,iV lim,iV s.c,iV s.ps]=pvS T lim (adv s):=rfl
     rw [yes hf]
     clear rest yes
     simp only [go_sem,simprocAttr,hf,qp hp,qq hp,ws hTl hs]
     rw [fold]
     refine ⟨_,Qp.hx hp _ _,?_⟩
     simp only [go_sem,simprocAttr]
     refine pcall_chain _ _ (by simp) (Qp.hx hp _ _) (hA.chain hp hsa) ?_
     rcases hq:sAtom T T.length ex (adv s) with ⟨⟨k,n,u,t,q,ks,ms⟩,s2⟩
     simp only [go_sem,simprocAttr,ExpD.cells,Nat.add_zero]
     exact ⟨_,rfl,lent_exp (lent_rows (n:=H.length) (ys:=[ExpD.cells (.mk k n u t q ks ms)]) (by omega) (by rw [qxk]; rfl) (by intro y hy; simp at hy; subst hy; rfl)) (by rw [ExpD.cellsA]; exact .nl)⟩
   ·simp only [go_sem,simprocAttr,h0,h6]
    refine acall_pure (primC hT hTl tt _) ?_
    rw [<- hpr]
    cases hf:primT T s
    ·simp only [go_sem,simprocAttr,hf]
     refine acall_pure (hA H _ p s hp hs) ?_
     have hs2:=hs.run sA
     rw [rest hf]
     clear rest yes
     rcases hq:sAtom T T.length ex s with ⟨⟨k,n,u,t,q,ks,ms⟩,s2⟩
     rw [hq] at hs2
     simp only [go_sem,simprocAttr,ExpD.cells]
     by_cases h4:tk=4
     ·rw [if_pos h4]
      simp only [go_sem,simprocAttr,dT h4]
      refine acall_pure (sAtSt hT hTl H _ p s2 hp hs2) ?_
      cases hg:atNx T s2
      ·rw [iteB_f hg]
       simp only [go_sem,simprocAttr,hg]
       exact ⟨_,rfl,lentP (tf_av (ExpD.cells (.mk k n u t q ks ms)))⟩
      ·rw [iteB_t hg,bindP_e]
       simp only [go_sem,simprocAttr,hg]
       refine acall_pure (hA H _ p s2 hp hs2) ?_
       rcases hq2:sAtom T T.length ex s2 with ⟨⟨k',n',u',t',q',ks',ms'⟩,s3⟩
       simp only [go_sem,simprocAttr,ExpD.cells,Nat.add_zero]
       exact ⟨_,rfl,lent_exp (lent_rows (n:=H.length) (ys:=[ExpD.cells (.mk k' n' u' t' q' ks' ms')]) (by omega) (by rw [qxk]; rfl) (by intro y hy; simp at hy; subst hy; rfl)) (.p _)⟩
     ·rw [if_neg h4]
      simp only [go_sem,simprocAttr,dF h4]
      exact ⟨_,rfl,lentP (tf_av (ExpD.cells (.mk k n u t q ks ms)))⟩
    ·have hsa:=hs.adv hT (by rw [hx]; exact h8 hf)
     have fold:AO.var [ptV T,iV (s.i+1:Nat),iV s.nest,iV s.d,iV lim,iV s.c,iV s.ps]=pvS T lim (adv s):=rfl
     rw [yes hf]
     clear rest yes
     simp only [go_sem,simprocAttr,hf,qp hp,qq hp,ws hTl hs]
     rw [fold]
     refine ⟨_,Qp.hx hp _ _,?_⟩
     simp only [go_sem,simprocAttr]
     refine pcall_chain _ _ (by simp) (Qp.hx hp _ _) (hA.chain hp hsa) ?_
     rcases hq:sAtom T T.length ex (adv s) with ⟨⟨k,n,u,t,q,ks,ms⟩,s2⟩
     simp only [go_sem,simprocAttr,ExpD.cells,Nat.add_zero]
     exact ⟨_,rfl,lent_exp (lent_rows (n:=H.length) (ys:=[ExpD.cells (.mk k n u t q ks ms)]) (by omega) (by rw [qxk]; rfl) (by intro y hy; simp at hy; subst hy; rfl)) (by rw [ExpD.cellsA]; exact .nl)⟩
theorem atom_gt {ex:PM ExpD} (sr:StayM T ex) {s:PS} (hi:s.i<T.length) (hg:atNx T s=true):s.i<(sAtom T T.length ex s).2.i:=by
 unfold sAtom
 rw [nowP_e,iteG_t hg]
 have ha:=adv_at hT hi (only_atNx s hg).2
 have:=(stay_sAtIn (N:=T.length) (t:=tokA T s) hT sr) (adv s) (by simpa [adv] using ha)
 have h1:=this.1
 simp only [adv] at h1 ⊢
 omega
end
theorem LentN.keepR {n:Nat} {H H':List AO} (he:∀ (id sz ver:Nat) (rs:List (List AV)),n<=id->H[id]?=some (.rows sz ver rs)->H'[id]?=some (.rows sz ver rs)) {a b:AV} (h:LentN n H a b):LentN n H' a b:=by
 induction h with
 | tf a h=>exact .tf a h
 | nl=>exact .nl
 | gs id ver off k sz rs ys hn hid hlen hys hsz hc ih=>exact .gs id ver off k sz rs ys hn (he _ _ _ _ hn hid) hlen hys hsz ih
 | st l m hlen hc ih=>exact .st l m hlen ih
 | tup l m hlen hc ih=>exact .tup l m hlen ih
theorem LentC.get {n : Nat} {H : List AO} {l m : List AV} (h : LentC n H l m) : l.length = m.length ∧ ∀ (j : Nat) a b, l[j]? = some a → m[j]? = some b → LentN n H a b := by
  induction h with
  | nil => exact ⟨rfl, fun j a b h => by simp at h⟩
  | cons h _ ih =>
    refine ⟨by simp [ih.1], fun j a b ha hb => ?_⟩
    cases j with
    | zero => simp at ha hb; subst ha; subst hb; exact h
    | succ j => exact ih.2 j a b (by simpa using ha) (by simpa using hb)
theorem lent_rows2 {n id ver sz:Nat} {H:List AO} {r1 r2:List AV} {y1 y2:List PV} (hn:n<=id) (h:H[id]?=some (.rows sz ver [r1,r2])) (h1:LentC n H r1 (y1.map .p)) (h2:LentC n H r2 (y2.map .p)) (l1:y1.length=sz) (l2:y2.length=sz):LentN n H (.gs id ver 0 2) (.p (.l [y1,y2])):=by
 refine .gs id ver 0 2 sz _ [y1,y2] hn h (by simp) rfl (by intro y hy; simp at hy; rcases hy with rfl | rfl <;> assumption) ?_
 intro i r y j c q hr hy hc hq
 rw [Nat.zero_add] at hr
 match i with
 | 0=>cases hr; cases hy; exact h1.get.2 j c _ hc (by simp [hq])
 | 1=>cases hr; cases hy; exact h2.get.2 j c _ hc (by simp [hq])
 | i+2=>simp at hr
theorem qxa0 (H A B:List AO) (p:Nat) (c:AO):(H.set p c++(A++B))[H.length+A.length]?=B[0]?:=qxa H A B p c 0
structure Lc {α:Type} (T:List Tok) (e:Nat) (g:PS->Bool) (m:α->PM α) (R:α × PS) (j:Nat) (s:PS) (a:α):Prop where
 ok:Ok T e s
 fu:s.c=0->T.length - s.i<=j
 eq:carry g m j a s=R
section
variable {α:Type} {T:List Tok} {e:Nat} {g:PS->Bool} {m:α->PM α} {R:α × PS} {j:Nat} {s:PS} {a:α}
theorem Lc.start (hs:Ok T e s) (h:carry g m T.length a s=R):Lc T e g m R T.length s a:=⟨hs,fun _=>by omega,h⟩
theorem Lc.stop (h:Lc T e g m R j s a) (hg:g s=false):R=(a,s):=by rw [<- h.eq,carry_c hg]
theorem Lc.succ (h:Lc T e g m R j s a) (ho:Only T g) (hg:g s=true):∃ j',j=j'+1:=⟨j - 1,by have:=h.fu (ho s hg).1; have:=h.ok.1; omega⟩
theorem Lc.next (h:Lc T e g m R (j+1) s a) (ho:Only T g) (hg:g s=true) {a2:α} {s2:PS} (hm:m a s=(a2,s2)) (hs2:Ok T e s2) (hgt:s.i<s2.i):Lc T e g m R j s2 a2 :=
 ⟨hs2,fun _=>by have:=h.fu (ho s hg).1; omega,by have:=h.eq; rw [carry,if_pos hg,hm] at this; exact this⟩
end
def EvA (H:List AO) (p:Nat) (c:AO) (A:List AO) (i:Nat) (x:ExpD):Prop:=∃ k n u t q ks ms a b,x=.mk k n u t q ks ms/\LentN H.length (H.set p c++A) a (.p (.l (ExpD.cellsL ks)))/\LentN H.length (H.set p c++A) b (.p (.l (ExpD.cellsA ms)))/\A[i]?=some (.var [iV k,sV n,iV u,sV t,iV q,a,b])
abbrev ZE:AO:=.var [iV 0,sV [],iV 0,sV [],iV 0,.p .nl,.p .nl]
theorem rows_keep {H A B:List AO} {p:Nat} {c d:AO} (h:∀ (k sz ver:Nat) (rs:List (List AV)),A[k]?=some (.rows sz ver rs)->B[k]?=some (.rows sz ver rs)):∀ (id sz ver:Nat) (rs:List (List AV)),H.length<=id->(H.set p c++A)[id]?=some (.rows sz ver rs)->(H.set p d++B)[id]?=some (.rows sz ver rs):=fun id sz ver rs hid hr=>by
 rw [q_ge hid] at hr ⊢
 exact h _ _ _ _ hr
theorem set_var {A:List AO} {i:Nat} {o:AO} {cs:List AV} (hi:A[i]?=some (.var cs)):∀ (k sz ver:Nat) (rs:List (List AV)),A[k]?=some (.rows sz ver rs)->(A.set i o)[k]?=some (.rows sz ver rs):=fun k sz ver rs h=>get_set h (by rintro rfl; rw [hi] at h; cases h)
theorem two_lent {H A B:List AO} {p:Nat} {c d:AO} {k u q:Int} {n t:List UInt8} {ks:List ExpD} {ms:List ArmD} {a b:AV} {y:ExpD} (ha:LentN H.length (H.set p c++A) a (.p (.l (ExpD.cellsL ks)))) (hb:LentN H.length (H.set p c++A) b (.p (.l (ExpD.cellsA ms))))
  (hk:∀ (k sz ver:Nat) (rs:List (List AV)),A[k]?=some (.rows sz ver rs)->B[k]?=some (.rows sz ver rs)) {i:Nat} (hi:B[i]?=some (.rows 7 0 [[iV k,sV n,iV u,sV t,iV q,a,b],y.cells.map .p])) :
  LentN H.length (H.set p d++B) (.gs (H.length+i) 0 0 2) (.p (.l (ExpD.cellsL [.mk k n u t q ks ms,y]))) :=
 lent_rows2 (by omega) (by rw [qxk]; exact hi) (.pc (.pc (.pc (.pc (.pc (.cons (LentN.keepR (rows_keep hk) ha) (.cons (LentN.keepR (rows_keep hk) hb) .nil))))))) (LentC.pure _) (expE7 (.mk k n u t q ks ms)) (expE7 y)
section
variable {T:List Tok} {lim e:Nat} (hT:ToksOk T) (hTl:T.length<=1073741825)
include hT hTl
theorem sAppC {ex:PM ExpD} (hr:PF (pvS T lim) T e 25 [] ex expV) (sr:StayM T ex):PF (pvS T lim) T e 164 [] (sOps5 T T.length ex) expV:=by
 have hP:=sPreC hT hTl hr sr
 have sP:=stay_sPre (N:=T.length) hT sr
 have hA:=sAtomC hT hTl hr sr
 have sA:=stay_sAtom (N:=T.length) hT sr
 refine pf_of (pvS_tf T lim) fun H p s hp hs=>?_
 refine call164 (by simp) ?_
 simp only [go_sem,simprocAttr,mc164,mr164]
 refine acall_pure (hP H _ p s hp hs) ?_
 have hs1:=hs.run sP
 rcases hq:sPre T T.length ex s with ⟨⟨k,n,u,t,q,ks,ms⟩,s1⟩
 rw [hq] at hs1
 have eq0:sOps5 T T.length ex s=appG T T.length (sAtom T T.length ex) (.mk k n u t q ks ms) s1:=by unfold sOps5; rw [bindP_e,hq]
 rw [eq0]
 unfold appG
 generalize hR:carry (atNx T) (fun a=>bindP (sAtom T T.length ex) fun b=>retP (node2 9 [] a.pos a b)) T.length (.mk k n u t q ks ms) s1=R
 simp only [go_sem,simprocAttr,ExpD.cells]
 refine ⟨Nat × PS × ExpD × List AO,[0,2,3],fun x st=>(Lc T e (atNx T) (fun a=>bindP (sAtom T T.length ex) fun b=>retP (node2 9 [] a.pos a b)) R x.1 x.2.1 x.2.2.1/\EvA H p (pvS T lim x.2.1) x.2.2.2 1 x.2.2.1/\x.2.2.2[0]?=some ZE) /\
   st=⟨[(0,.ptr p 0),(2,.ptr H.length 0),(3,.ptr (H.length+1) 0)],[],H.set p (pvS T lim x.2.1)++x.2.2.2⟩,fun x=>T.length - x.2.1.i,⟨(T.length,s1,.mk k n u t q ks ms,[ZE,.var [iV k,sV n,iV u,sV t,iV q,.p (.l (ExpD.cellsL ks)),.p (.l (ExpD.cellsA ms))]]),?_⟩,?_⟩
 ·simp only [go_sem,simprocAttr]
  exact ⟨Lc.start hs1 hR,_,_,_,_,_,_,_,_,_,rfl,.p _,.p _,rfl⟩
 ·rintro ⟨j,s',x,A⟩ _ ⟨⟨hL,⟨k,n,u,t,q,ks,ms,a,b,hxe,ha,hb,i9⟩,i8⟩,rfl⟩
  simp only at hL hxe ha hb i8 i9 ⊢
  subst hxe
  simp only [go_sem,simprocAttr]
  refine acall_pure (sAtSt hT hTl H _ p s' hp hL.ok) ?_
  cases hg:atNx T s'
  ·have hRe:=hL.stop hg
   subst hRe
   have hz:∀ o,(A.set 0 o)[0]?=some o:=fun o=>set_get i8
   simp only [go_sem,simprocAttr,hg,i9,i8,hz]
   exact ⟨_,rfl,lent_exp (LentN.keepR (rows_keep (set_var i8)) ha) (LentN.keepR (rows_keep (set_var i8)) hb)⟩
  ·obtain ⟨j,rfl⟩:=hL.succ only_atNx hg
   have hgt:=atom_gt hT hTl sr hL.ok.1 hg
   have hs2:=hL.ok.run sA
   simp only [go_sem,simprocAttr,hg]
   refine ⟨_,Qp.hx hp _ _,?_⟩
   simp only [go_sem,simprocAttr,i9]
   refine pcall_chain _ _ (by simp) (Qp.hx hp _ _) (hA.chain hp hL.ok) ?_
   rcases hq2:sAtom T T.length ex s' with ⟨y,s2⟩
   rw [hq2] at hgt hs2
   obtain ⟨k',n',u',t',q',ks',ms'⟩:=y
   have i8':=get_ext i8 [AO.rows 7 0 [[iV k,sV n,iV u,sV t,iV q,a,b],[iV k',sV n',iV u',sV t',iV q',.p (.l (ExpD.cellsL ks')),.p (.l (ExpD.cellsA ms'))]]]
   have i9':=get_ext i9 [AO.rows 7 0 [[iV k,sV n,iV u,sV t,iV q,a,b],[iV k',sV n',iV u',sV t',iV q',.p (.l (ExpD.cellsL ks')),.p (.l (ExpD.cellsA ms'))]]]
   simp only [go_sem,simprocAttr,ExpD.cells,i9',Nat.add_zero]
   have hne:1≠A.length:=by intro h; rw [h] at i9; simp at i9
   have hm:(fun a=>bindP (sAtom T T.length ex) fun b=>retP (node2 9 [] a.pos a b)) (ExpD.mk k n u t q ks ms) s'=(node2 9 [] q (.mk k n u t q ks ms) (.mk k' n' u' t' q' ks' ms'),s2):=by simp only [bindP_e,hq2]; rfl
   refine ⟨(j,s2,node2 9 [] q (.mk k n u t q ks ms) (.mk k' n' u' t' q' ks' ms'),_),⟨⟨hL.next only_atNx hg hm hs2 hgt,⟨9,[],0,[],q,_,[],_,.p .nl,rfl,?_,by rw [ExpD.cellsA]; exact .nl,set_get i9'⟩,get_set i8' (by decide)⟩,rfl⟩,by have h1:s'.i<s2.i:=hgt; have:=hL.ok.1; simp only; omega⟩
   exact two_lent ha hb (fun k sz ver rs h=>set_var i9' k sz ver rs (get_ext h _)) (get_set (by rw [gx0]; rfl) hne)
end
def opB (s:List UInt8):Bool:=decide (s=[43]) || decide (s=[45]) || decide (s=[42]) || decide (s=[94]) || decide (s=[61]) || decide (s=[60]) || decide (s=[58,61])
def opLv (s:List UInt8):Int:=if s=[58,61] then 1 else if s=[61]\/s=[60] then 2 else if s=[42] then 4 else 3
def sgs:Nat->List (List UInt8)
 | 1=>[[58,61]]
 | 2=>[[61],[60]]
 | 3=>[[43],[45],[94]]
 | _=>[[42]]
theorem op_lv {L:Nat} (h1:1<=L) (h4:L<=4) (s:List UInt8):(opB s && decide (opLv s=(L:Int)))=decide (s∈sgs L):=by
 have:L=1\/L=2\/L=3\/L=4:=by omega
 by_cases e0:s=[43]
 ·subst e0
  rcases this with rfl | rfl | rfl | rfl <;> decide
 by_cases e1:s=[45]
 ·subst e1
  rcases this with rfl | rfl | rfl | rfl <;> decide
 by_cases e2:s=[42]
 ·subst e2
  rcases this with rfl | rfl | rfl | rfl <;> decide
 by_cases e3:s=[94]
 ·subst e3
  rcases this with rfl | rfl | rfl | rfl <;> decide
 by_cases e4:s=[61]
 ·subst e4
  rcases this with rfl | rfl | rfl | rfl <;> decide
 by_cases e5:s=[60]
 ·subst e5
  rcases this with rfl | rfl | rfl | rfl <;> decide
 by_cases e6:s=[58,61]
 ·subst e6
  rcases this with rfl | rfl | rfl | rfl <;> decide
 have hb:opB s=false:=by simp [opB,e0,e1,e2,e3,e4,e5,e6]
 rw [hb,Bool.false_and]
 symm
 refine decide_eq_false ?_
 rcases this with rfl | rfl | rfl | rfl <;> simp [sgs,e0,e1,e2,e3,e4,e5,e6]
theorem opBC (s:List UInt8) (H:List AO):ACall Tryz.prog 212 [sV s] H (pureQ (bV (opB s)) H):=by
 refine call212 (by simp) ?_
 unfold opB
 simp only [go_sem,simprocAttr,mc212,mr212]
 cases h0:decide (s=[43])
 rotate_left
 ·simp only [go_sem,simprocAttr,h0,Bool.true_or,Bool.false_or]
  exact ⟨rfl,rfl⟩
 cases h1:decide (s=[45])
 rotate_left
 ·simp only [go_sem,simprocAttr,h0,h1,Bool.true_or,Bool.false_or]
  exact ⟨rfl,rfl⟩
 cases h2:decide (s=[42])
 rotate_left
 ·simp only [go_sem,simprocAttr,h0,h1,h2,Bool.true_or,Bool.false_or]
  exact ⟨rfl,rfl⟩
 cases h3:decide (s=[94])
 rotate_left
 ·simp only [go_sem,simprocAttr,h0,h1,h2,h3,Bool.true_or,Bool.false_or]
  exact ⟨rfl,rfl⟩
 cases h4:decide (s=[61])
 rotate_left
 ·simp only [go_sem,simprocAttr,h0,h1,h2,h3,h4,Bool.true_or,Bool.false_or]
  exact ⟨rfl,rfl⟩
 cases h5:decide (s=[60])
 rotate_left
 ·simp only [go_sem,simprocAttr,h0,h1,h2,h3,h4,h5,Bool.true_or,Bool.false_or]
  exact ⟨rfl,rfl⟩
 simp only [go_sem,simprocAttr,h0,h1,h2,h3,h4,h5,Bool.false_or]
 exact ⟨rfl,rfl⟩
theorem opLvC (s:List UInt8) (H:List AO):ACall Tryz.prog 180 [sV s] H (pureQ (iV (opLv s)) H):=by
 refine call180 (by simp) ?_
 unfold opLv
 simp only [go_sem,simprocAttr,mc180,mr180]
 cases h0:decide (s=[58,61])
 rotate_left
 ·rw [if_pos (of_decide_eq_true h0)]
  simp only [go_sem,simprocAttr,h0]
  exact ⟨rfl,rfl⟩
 rw [if_neg (of_decide_eq_false h0)]
 cases h1:decide (s=[61])
 rotate_left
 ·rw [if_pos (.inl (of_decide_eq_true h1))]
  simp only [go_sem,simprocAttr,h0,h1]
  exact ⟨rfl,rfl⟩
 cases h2:decide (s=[60])
 rotate_left
 ·rw [if_pos (.inr (of_decide_eq_true h2))]
  simp only [go_sem,simprocAttr,h0,h1,h2]
  exact ⟨rfl,rfl⟩
 rw [if_neg (by rw [not_or]; exact ⟨of_decide_eq_false h1,of_decide_eq_false h2⟩)]
 cases h3:decide (s=[42])
 rotate_left
 ·rw [if_pos (of_decide_eq_true h3)]
  simp only [go_sem,simprocAttr,h0,h1,h2,h3]
  exact ⟨rfl,rfl⟩
 rw [if_neg (of_decide_eq_false h3)]
 simp only [go_sem,simprocAttr,h0,h1,h2,h3]
 exact ⟨rfl,rfl⟩
section
variable {T:List Tok} {lim e:Nat} (hT:ToksOk T) (hTl:T.length<=1073741825)
include hT hTl
theorem sSign {L:Nat} (h1:1<=L) (h4:L<=4):PF (pvS T lim) T e 165 [iV L] (testM (opT T (sgs L))) bV:=by
 refine pf_of (pvS_tf T lim) fun H p s hp hs=>?_
 refine call165 (by simp) ?_
 simp only [go_sem,simprocAttr,mc165,mr165]
 refine acall_pure (sNow.nil hp hs) ?_
 unfold opT isK
 rw [<- op_lv h1 h4]
 simp only [go_sem,simprocAttr,qp hp,pvS,Tok.cells]
 cases h0:decide (s.c=0)
 ·simp only [go_sem,simprocAttr,h0,Bool.false_and]
  exact ⟨_,rfl,lentP (tf_p _)⟩
 cases h7:decide ((tokA T s).k=7)
 ·simp only [go_sem,simprocAttr,h0,h7,Bool.false_and,Bool.and_false]
  exact ⟨_,rfl,lentP (tf_p _)⟩
 simp only [go_sem,simprocAttr,h0,h7]
 refine acall_pure (opBC _ _) ?_
 cases hb:opB (tokA T s).t
 ·simp only [go_sem,simprocAttr,hb,Bool.false_and,Bool.and_false]
  exact ⟨_,rfl,lentP (tf_p _)⟩
 simp only [go_sem,simprocAttr,hb]
 refine acall_pure (opLvC _ _) ?_
 simp only [go_sem,simprocAttr,Bool.true_and]
 exact ⟨_,rfl,lentP (tf_p _)⟩
theorem sOps5C {ex:PM ExpD} (hr:PF (pvS T lim) T e 25 [] ex expV) (sr:StayM T ex):PF (pvS T lim) T e 108 [iV 5] (sOps5 T T.length ex) expV:=by
 have hA:=sAppC hT hTl hr sr
 refine pf_of (pvS_tf T lim) fun H p s hp hs=>?_
 refine call108 (by simp) ?_
 simp only [go_sem,simprocAttr,mc108,mr108]
 refine acall_pure (hA H _ p s hp hs) ?_
 rcases hq:sOps5 T T.length ex s with ⟨⟨k,n,u,t,q,ks,ms⟩,s1⟩
 simp only [go_sem,simprocAttr,ExpD.cells]
 exact ⟨_,rfl,lentP (tf_av (ExpD.cells (.mk k n u t q ks ms)))⟩
theorem sOps4C {ex : PM ExpD} (hr : PF (pvS T lim) T e 108 [iV 5] (sOps5 T T.length ex) expV) (sr : StayM T ex) : PF (pvS T lim) T e 108 [iV 4] (sOps4 T T.length ex) expV := by
  have sA := stay_sOps5 (N := T.length) hT sr
  refine pf_of (pvS_tf T lim) fun H p s hp hs => ?_
  have ew : wr .i64 (4 + 1) = 5 := by decide
  refine call108 (by simp) ?_
  simp only [go_sem, simprocAttr, mc108, mr108, ew]
  refine acall_pure (hr H _ p s hp hs) ?_
  have hs1 := hs.run sA
  rcases hq : sOps5 T T.length ex s with ⟨⟨k, n, u, t, q, ks, ms⟩, s1⟩
  rw [hq] at hs1
  have eq0 : sOps4 T T.length ex s = rowG T T.length (sgs 4) (sOps5 T T.length ex) (.mk k n u t q ks ms) s1 := by unfold sOps4; rw [bindP_e, hq]; rfl
  rw [eq0]
  unfold rowG
  generalize hR : carry (opT T (sgs 4)) (fun a => nowP T fun t => advP (bindP (sOps5 T T.length ex) fun b => retP (node2 14 t.t t.p a b))) T.length (.mk k n u t q ks ms) s1 = R
  simp only [go_sem, simprocAttr, ExpD.cells]
  refine ⟨Nat × PS × ExpD × List AO, [0, 1, 4, 5], fun x st => (Lc T e (opT T (sgs 4)) (fun a => nowP T fun t => advP (bindP (sOps5 T T.length ex) fun b => retP (node2 14 t.t t.p a b))) R x.1 x.2.1 x.2.2.1 ∧ EvA H p (pvS T lim x.2.1) x.2.2.2 1 x.2.2.1 ∧ x.2.2.2[0]? = some ZE) ∧
      st = ⟨[(0, .ptr p 0), (1, iV 4), (4, .ptr H.length 0), (5, .ptr (H.length + 1) 0)], [], H.set p (pvS T lim x.2.1) ++ x.2.2.2⟩, fun x => T.length - x.2.1.i, ⟨(T.length, s1, .mk k n u t q ks ms, [ZE, .var [iV k, sV n, iV u, sV t, iV q, .p (.l (ExpD.cellsL ks)), .p (.l (ExpD.cellsA ms))]]), ?_⟩, ?_⟩
  · simp only [go_sem, simprocAttr]
    exact ⟨Lc.start hs1 hR, _, _, _, _, _, _, _, _, _, rfl, .p _, .p _, rfl⟩
  · rintro ⟨j, s', x, A⟩ _ ⟨⟨hL, ⟨k, n, u, t, q, ks, ms, a, b, hxe, ha, hb, i9⟩, i8⟩, rfl⟩
    simp only at hL hxe ha hb i8 i9 ⊢
    subst hxe
    simp only [go_sem, simprocAttr]
    refine acall_pure (sSign hT hTl (L := 4) (by decide) (by decide) H _ p s' hp hL.ok) ?_
    cases hg : opT T (sgs 4) s'
    · have hRe := hL.stop hg
      subst hRe
      have hz : ∀ o, (A.set 0 o)[0]? = some o := fun o => set_get i8
      simp only [go_sem, simprocAttr, hg, i9, i8, hz]
      exact ⟨_, rfl, lent_exp (LentN.keepR (rows_keep (set_var i8)) ha) (LentN.keepR (rows_keep (set_var i8)) hb)⟩
    · obtain ⟨j, rfl⟩ := hL.succ (only_opT _) hg
      have hk8 := (only_opT _ s' hg).2
      have hsa := hL.ok.adv hT hk8
      have hs2 := hsa.run sA
      have hgt := (Stay.adv hT sA hL.ok.1 hk8).1
      simp only [go_sem, simprocAttr, hg]
      refine acall_pure (sNow H _ p s' hp hL.ok) ?_
      have hm0 : ∀ r, sOps5 T T.length ex (adv s') = r → (fun a => nowP T fun t => advP (bindP (sOps5 T T.length ex) fun b => retP (node2 14 t.t t.p a b))) (ExpD.mk k n u t q ks ms) s' = (node2 14 (tokA T s').t (tokA T s').p (.mk k n u t q ks ms) r.1, r.2) := fun r h => by simp only [nowP_e, advP, bindP_e, h]; rfl
      simp only [go_sem, simprocAttr, Tok.cells, qp hp, pvS, qq hp, ws hTl hL.ok]
      generalize hx : tokA T s' = x at hm0 ⊢
      obtain ⟨tk, tt, tn, tp⟩ := x
      have fold : AO.var [ptV T, iV (s'.i + 1 : Nat), iV s'.nest, iV s'.d, iV lim, iV s'.c, iV s'.ps] = pvS T lim (adv s') := rfl
      rw [fold]
      have i8' := get_ext i8 [AO.var [iV tk, sV tt, iV tn, iV tp]]
      have i9' := get_ext i9 [AO.var [iV tk, sV tt, iV tn, iV tp]]
      refine ⟨_, Qp.hx hp _ _, ?_⟩
      simp only [go_sem, simprocAttr, i9', qxa, qxa0, ew]
      refine pcall_chain _ _ (by simp) (Qp.hx hp _ _) (hr.chain hp hsa) ?_
      rcases hq2 : sOps5 T T.length ex (adv s') with ⟨y, s2⟩
      rw [hq2] at hgt hs2
      have hm := hm0 _ hq2
      obtain ⟨k', n', u', t', q', ks', ms'⟩ := y
      have i8' := get_ext i8 [AO.var [iV tk, sV tt, iV tn, iV tp], AO.rows 7 0 [[iV k, sV n, iV u, sV t, iV q, a, b], [iV k', sV n', iV u', sV t', iV q', .p (.l (ExpD.cellsL ks')), .p (.l (ExpD.cellsA ms'))]]]
      have i9' := get_ext i9 [AO.var [iV tk, sV tt, iV tn, iV tp], AO.rows 7 0 [[iV k, sV n, iV u, sV t, iV q, a, b], [iV k', sV n', iV u', sV t', iV q', .p (.l (ExpD.cellsL ks')), .p (.l (ExpD.cellsA ms'))]]]
      simp only [go_sem, simprocAttr, ExpD.cells, i9', Nat.add_zero]
      have hne : 1 ≠ A.length + 1 := by intro h; have : A.length = 0 := by omega
                                        rw [List.length_eq_zero_iff.1 this] at i9; simp at i9
      refine ⟨(j, s2, node2 14 tt tp (.mk k n u t q ks ms) (.mk k' n' u' t' q' ks' ms'), _), ⟨⟨hL.next (only_opT _) hg hm hs2 hgt, ⟨14, tt, 0, [], tp, _, [], _, .p .nl, rfl, ?_, by rw [ExpD.cellsA]; exact .nl, set_get i9'⟩, get_set i8' (by decide)⟩, rfl⟩, by have h1 : s'.i < s2.i := hgt; have := hL.ok.1; simp only; omega⟩
      exact two_lent ha hb (fun k sz ver rs h => set_var i9' k sz ver rs (get_ext h _)) (get_set (by rw [gxk]; rfl) hne)
theorem sOps3C {ex : PM ExpD} (hr : PF (pvS T lim) T e 108 [iV 4] (sOps4 T T.length ex) expV) (sr : StayM T ex) : PF (pvS T lim) T e 108 [iV 3] (sOps3 T T.length ex) expV := by
  have sA := stay_sOps4 (N := T.length) hT sr
  refine pf_of (pvS_tf T lim) fun H p s hp hs => ?_
  have ew : wr .i64 (3 + 1) = 4 := by decide
  refine call108 (by simp) ?_
  simp only [go_sem, simprocAttr, mc108, mr108, ew]
  refine acall_pure (hr H _ p s hp hs) ?_
  have hs1 := hs.run sA
  rcases hq : sOps4 T T.length ex s with ⟨⟨k, n, u, t, q, ks, ms⟩, s1⟩
  rw [hq] at hs1
  have eq0 : sOps3 T T.length ex s = rowG T T.length (sgs 3) (sOps4 T T.length ex) (.mk k n u t q ks ms) s1 := by unfold sOps3; rw [bindP_e, hq]; rfl
  rw [eq0]
  unfold rowG
  generalize hR : carry (opT T (sgs 3)) (fun a => nowP T fun t => advP (bindP (sOps4 T T.length ex) fun b => retP (node2 14 t.t t.p a b))) T.length (.mk k n u t q ks ms) s1 = R
  simp only [go_sem, simprocAttr, ExpD.cells]
  refine ⟨Nat × PS × ExpD × List AO, [0, 1, 4, 5], fun x st => (Lc T e (opT T (sgs 3)) (fun a => nowP T fun t => advP (bindP (sOps4 T T.length ex) fun b => retP (node2 14 t.t t.p a b))) R x.1 x.2.1 x.2.2.1 ∧ EvA H p (pvS T lim x.2.1) x.2.2.2 1 x.2.2.1 ∧ x.2.2.2[0]? = some ZE) ∧
      st = ⟨[(0, .ptr p 0), (1, iV 3), (4, .ptr H.length 0), (5, .ptr (H.length + 1) 0)], [], H.set p (pvS T lim x.2.1) ++ x.2.2.2⟩, fun x => T.length - x.2.1.i, ⟨(T.length, s1, .mk k n u t q ks ms, [ZE, .var [iV k, sV n, iV u, sV t, iV q, .p (.l (ExpD.cellsL ks)), .p (.l (ExpD.cellsA ms))]]), ?_⟩, ?_⟩
  · simp only [go_sem, simprocAttr]
    exact ⟨Lc.start hs1 hR, _, _, _, _, _, _, _, _, _, rfl, .p _, .p _, rfl⟩
  · rintro ⟨j, s', x, A⟩ _ ⟨⟨hL, ⟨k, n, u, t, q, ks, ms, a, b, hxe, ha, hb, i9⟩, i8⟩, rfl⟩
    simp only at hL hxe ha hb i8 i9 ⊢
    subst hxe
    simp only [go_sem, simprocAttr]
    refine acall_pure (sSign hT hTl (L := 3) (by decide) (by decide) H _ p s' hp hL.ok) ?_
    cases hg : opT T (sgs 3) s'
    · have hRe := hL.stop hg
      subst hRe
      have hz : ∀ o, (A.set 0 o)[0]? = some o := fun o => set_get i8
      simp only [go_sem, simprocAttr, hg, i9, i8, hz]
      exact ⟨_, rfl, lent_exp (LentN.keepR (rows_keep (set_var i8)) ha) (LentN.keepR (rows_keep (set_var i8)) hb)⟩
    · obtain ⟨j, rfl⟩ := hL.succ (only_opT _) hg
      have hk8 := (only_opT _ s' hg).2
      have hsa := hL.ok.adv hT hk8
      have hs2 := hsa.run sA
      have hgt := (Stay.adv hT sA hL.ok.1 hk8).1
      simp only [go_sem, simprocAttr, hg]
      refine acall_pure (sNow H _ p s' hp hL.ok) ?_
      have hm0 : ∀ r, sOps4 T T.length ex (adv s') = r → (fun a => nowP T fun t => advP (bindP (sOps4 T T.length ex) fun b => retP (node2 14 t.t t.p a b))) (ExpD.mk k n u t q ks ms) s' = (node2 14 (tokA T s').t (tokA T s').p (.mk k n u t q ks ms) r.1, r.2) := fun r h => by simp only [nowP_e, advP, bindP_e, h]; rfl
      simp only [go_sem, simprocAttr, Tok.cells, qp hp, pvS, qq hp, ws hTl hL.ok]
      generalize hx : tokA T s' = x at hm0 ⊢
      obtain ⟨tk, tt, tn, tp⟩ := x
      have fold : AO.var [ptV T, iV (s'.i + 1 : Nat), iV s'.nest, iV s'.d, iV lim, iV s'.c, iV s'.ps] = pvS T lim (adv s') := rfl
      rw [fold]
      have i8' := get_ext i8 [AO.var [iV tk, sV tt, iV tn, iV tp]]
      have i9' := get_ext i9 [AO.var [iV tk, sV tt, iV tn, iV tp]]
      refine ⟨_, Qp.hx hp _ _, ?_⟩
      simp only [go_sem, simprocAttr, i9', qxa, qxa0, ew]
      refine pcall_chain _ _ (by simp) (Qp.hx hp _ _) (hr.chain hp hsa) ?_
      rcases hq2 : sOps4 T T.length ex (adv s') with ⟨y, s2⟩
      rw [hq2] at hgt hs2
      have hm := hm0 _ hq2
      obtain ⟨k', n', u', t', q', ks', ms'⟩ := y
      have i8' := get_ext i8 [AO.var [iV tk, sV tt, iV tn, iV tp], AO.rows 7 0 [[iV k, sV n, iV u, sV t, iV q, a, b], [iV k', sV n', iV u', sV t', iV q', .p (.l (ExpD.cellsL ks')), .p (.l (ExpD.cellsA ms'))]]]
      have i9' := get_ext i9 [AO.var [iV tk, sV tt, iV tn, iV tp], AO.rows 7 0 [[iV k, sV n, iV u, sV t, iV q, a, b], [iV k', sV n', iV u', sV t', iV q', .p (.l (ExpD.cellsL ks')), .p (.l (ExpD.cellsA ms'))]]]
      simp only [go_sem, simprocAttr, ExpD.cells, i9', Nat.add_zero]
      have hne : 1 ≠ A.length + 1 := by intro h; have : A.length = 0 := by omega
                                        rw [List.length_eq_zero_iff.1 this] at i9; simp at i9
      refine ⟨(j, s2, node2 14 tt tp (.mk k n u t q ks ms) (.mk k' n' u' t' q' ks' ms'), _), ⟨⟨hL.next (only_opT _) hg hm hs2 hgt, ⟨14, tt, 0, [], tp, _, [], _, .p .nl, rfl, ?_, by rw [ExpD.cellsA]; exact .nl, set_get i9'⟩, get_set i8' (by decide)⟩, rfl⟩, by have h1 : s'.i < s2.i := hgt; have := hL.ok.1; simp only; omega⟩
      exact two_lent ha hb (fun k sz ver rs h => set_var i9' k sz ver rs (get_ext h _)) (get_set (by rw [gxk]; rfl) hne)
theorem sOps2C {ex:PM ExpD} (hr:PF (pvS T lim) T e 108 [iV 3] (sOps3 T T.length ex) expV) (sr:StayM T ex):PF (pvS T lim) T e 108 [iV 2] (sOps2 T T.length ex) expV:=by
 have sA:=stay_sOps3 (N:=T.length) hT sr
 refine pf_of (pvS_tf T lim) fun H p s hp hs=>?_
 have ew:wr .i64 (2+1)=3:=by decide
 refine call108 (by simp) ?_
 simp only [go_sem,simprocAttr,mc108,mr108,ew]
 refine acall_pure (hr H _ p s hp hs) ?_
 have hs1:=hs.run sA
 rcases hq:sOps3 T T.length ex s with ⟨⟨k,n,u,t,q,ks,ms⟩,s1⟩
 rw [hq] at hs1
 rw [show sOps2 T T.length ex s=onceG T (opT T (sgs 2)) (sOps3 T T.length ex) (.mk k n u t q ks ms) s1 by unfold sOps2; rw [bindP_e,hq]; rfl]
 unfold onceG
 rw [nowP_e]
 simp only [go_sem,simprocAttr,ExpD.cells]
 refine ⟨Unit,[0,1,4,5],fun _ st=>st=⟨[(0,.ptr p 0),(1,iV 2),(4,.ptr H.length 0),(5,.ptr (H.length+1) 0)],[],H.set p (pvS T lim s1)++[ZE,.var [iV k,sV n,iV u,sV t,iV q,.p (.l (ExpD.cellsL ks)),.p (.l (ExpD.cellsA ms))]]⟩,fun _=>0,⟨(),?_⟩,?_⟩
 ·simp only [go_sem,simprocAttr]
 ·rintro _ _ rfl
  simp only [go_sem,simprocAttr]
  refine acall_pure (sSign hT hTl (L:=2) (by decide) (by decide) H _ p s1 hp hs1) ?_
  cases hg:opT T (sgs 2) s1
  ·rw [iteG_f hg]
   simp only [go_sem,simprocAttr,hg]
   exact ⟨_,rfl,lentP (tf_av (ExpD.cells (.mk k n u t q ks ms)))⟩
  ·have hk8:=(only_opT _ s1 hg).2
   have hsa:=hs1.adv hT hk8
   rw [iteG_t hg]
   simp only [go_sem,simprocAttr,hg]
   refine acall_pure (sNow H _ p s1 hp hs1) ?_
   simp only [go_sem,simprocAttr,Tok.cells,qp hp,pvS,qq hp,ws hTl hs1]
   generalize hx:tokA T s1=x
   obtain ⟨tk,tt,tn,tp⟩:=x
   have fold:AO.var [ptV T,iV (s1.i+1:Nat),iV s1.nest,iV s1.d,iV lim,iV s1.c,iV s1.ps]=pvS T lim (adv s1):=rfl
   rw [fold]
   refine ⟨_,Qp.hx hp _ _,?_⟩
   simp only [go_sem,simprocAttr,ew]
   refine pcall_chain _ _ (by simp) (Qp.hx hp _ _) (hr.chain hp hsa) ?_
   rw [bindP_e]
   rcases hq2:sOps3 T T.length ex (adv s1) with ⟨⟨k',n',u',t',q',ks',ms'⟩,s2⟩
   simp only [go_sem,simprocAttr,ExpD.cells,Nat.add_zero]
   exact ⟨_,rfl,lent_exp (lent_rows (n:=H.length) (ys:=[ExpD.cells (.mk k n u t q ks ms),ExpD.cells (.mk k' n' u' t' q' ks' ms')]) (by omega) (by rw [qxk]; rfl) (by intro y hy; simp at hy; rcases hy with rfl | rfl <;> rfl)) (by rw [ExpD.cellsA]; exact .nl)⟩
theorem sOps1C {ex:PM ExpD} (hr:PF (pvS T lim) T e 108 [iV 2] (sOps2 T T.length ex) expV) (sr:StayM T ex):PF (pvS T lim) T e 108 [iV 1] (sOps1 T T.length ex) expV:=by
 have sA:=stay_sOps2 (N:=T.length) hT sr
 refine pf_of (pvS_tf T lim) fun H p s hp hs=>?_
 have ew:wr .i64 (1+1)=2:=by decide
 refine call108 (by simp) ?_
 simp only [go_sem,simprocAttr,mc108,mr108,ew]
 refine acall_pure (hr H _ p s hp hs) ?_
 have hs1:=hs.run sA
 rcases hq:sOps2 T T.length ex s with ⟨⟨k,n,u,t,q,ks,ms⟩,s1⟩
 rw [hq] at hs1
 rw [show sOps1 T T.length ex s=onceG T (opT T (sgs 1)) (sOps2 T T.length ex) (.mk k n u t q ks ms) s1 by unfold sOps1; rw [bindP_e,hq]; rfl]
 unfold onceG
 rw [nowP_e]
 simp only [go_sem,simprocAttr,ExpD.cells]
 refine ⟨Unit,[0,1,4,5],fun _ st=>st=⟨[(0,.ptr p 0),(1,iV 1),(4,.ptr H.length 0),(5,.ptr (H.length+1) 0)],[],H.set p (pvS T lim s1)++[ZE,.var [iV k,sV n,iV u,sV t,iV q,.p (.l (ExpD.cellsL ks)),.p (.l (ExpD.cellsA ms))]]⟩,fun _=>0,⟨(),?_⟩,?_⟩
 ·simp only [go_sem,simprocAttr]
 ·rintro _ _ rfl
  simp only [go_sem,simprocAttr]
  refine acall_pure (sSign hT hTl (L:=1) (by decide) (by decide) H _ p s1 hp hs1) ?_
  cases hg:opT T (sgs 1) s1
  ·rw [iteG_f hg]
   simp only [go_sem,simprocAttr,hg]
   exact ⟨_,rfl,lentP (tf_av (ExpD.cells (.mk k n u t q ks ms)))⟩
  ·have hk8:=(only_opT _ s1 hg).2
   have hsa:=hs1.adv hT hk8
   rw [iteG_t hg]
   simp only [go_sem,simprocAttr,hg]
   refine acall_pure (sNow H _ p s1 hp hs1) ?_
   simp only [go_sem,simprocAttr,Tok.cells,qp hp,pvS,qq hp,ws hTl hs1]
   generalize hx:tokA T s1=x
   obtain ⟨tk,tt,tn,tp⟩:=x
   have fold:AO.var [ptV T,iV (s1.i+1:Nat),iV s1.nest,iV s1.d,iV lim,iV s1.c,iV s1.ps]=pvS T lim (adv s1):=rfl
   rw [fold]
   refine ⟨_,Qp.hx hp _ _,?_⟩
   simp only [go_sem,simprocAttr,ew]
   refine pcall_chain _ _ (by simp) (Qp.hx hp _ _) (hr.chain hp hsa) ?_
   rw [bindP_e]
   rcases hq2:sOps2 T T.length ex (adv s1) with ⟨⟨k',n',u',t',q',ks',ms'⟩,s2⟩
   simp only [go_sem,simprocAttr,ExpD.cells,Nat.add_zero]
   exact ⟨_,rfl,lent_exp (lent_rows (n:=H.length) (ys:=[ExpD.cells (.mk k n u t q ks ms),ExpD.cells (.mk k' n' u' t' q' ks' ms')]) (by omega) (by rw [qxk]; rfl) (by intro y hy; simp at hy; rcases hy with rfl | rfl <;> rfl)) (by rw [ExpD.cellsA]; exact .nl)⟩
end
abbrev armV (t:ArmD):AV:=.st (t.cells.map .p)
theorem armE (t:ArmD):t.cells.length=12:=by
 obtain ⟨p,x⟩:=t
 rw [ArmD.cells,List.length_append,patE5,expE7]
def sIn (T:List Tok) (N:Nat) (pat:PM PatD) (ex:PM ExpD):PM ExpD:=nowP T fun t =>
 iteG (isT T [108,101,116]) (letP T ex t.p) <| iteG (isT T [102,117,110]) (funP T ex t.p) <| iteG (isT T [105,102]) (ifP T ex t.p) <|
 iteG (isT T [109,97,116,99,104]) (sMatch T N pat ex t.p) (sOps1 T N ex)
section
variable {T:List Tok} {lim e:Nat} (hT:ToksOk T) (hTl:T.length<=1073741825)
include hT hTl
theorem stay_sIn {pat:PM PatD} {ex:PM ExpD} (hpat:StayM T pat) (hex:StayM T ex):StayM T (sIn T T.length pat ex) :=
 (StayM.now fun _=>(StayM.iteG hT (only_isT T _) (stay_letP hT hex) (StayM.iteG hT (only_isT T _) (stay_funP hT hex) (StayM.iteG hT (only_isT T _) (stay_ifP hT hex) (StayM.iteG hT (only_isT T _) (stay_sMatch hT hpat hex) (stay_sOps1 hT hex))))))
theorem sArmC {pat:PM PatD} {ex:PM ExpD} (hP:PF (pvS T lim) T e 163 [] pat patV) (sP:StayM T pat) (hr:PF (pvS T lim) T e 25 [] ex expV) (sr:StayM T ex):PF (pvS T lim) T e 107 [] (armP T pat ex) armV:=by
 refine pf_of (pvS_tf T lim) fun H p s hp hs=>?_
 refine call107 (by simp) ?_
 simp only [go_sem,simprocAttr,mc107,mr107]
 refine acall_pure (hP H _ p s hp hs) ?_
 have hs1:=hs.run sP
 rcases hq:pat s with ⟨⟨k,n,u,q,ks⟩,s1⟩
 rw [hq] at hs1
 simp only [go_sem,simprocAttr,PatD.cells]
 refine acall_pure (sWant hTl [45,62] H _ p s1 hp hs1) ?_
 have hs2:=hs1.step (stay_want hT [45,62])
 simp only [go_sem,simprocAttr]
 refine acall_pure (hr H _ p _ hp hs2) ?_
 rcases hq2:ex (wantP T [45,62] s1) with ⟨⟨k',n',u',t',q',ks',ms'⟩,s3⟩
 have eq0:armP T pat ex s=(.mk (.mk k n u q ks) (.mk k' n' u' t' q' ks' ms'),s3):=by unfold armP; rw [bindP_e,hq,stepP_e,bindP_e,hq2]; rfl
 rw [eq0]
 simp only [go_sem,simprocAttr,ExpD.cells]
 exact ⟨_,rfl,lentP (tf_av (ArmD.cells (.mk (.mk k n u q ks) (.mk k' n' u' t' q' ks' ms'))))⟩
theorem sInC {pat:PM PatD} {ex:PM ExpD} (hP:PF (pvS T lim) T e 163 [] pat patV) (sP:StayM T pat) (hr:PF (pvS T lim) T e 25 [] ex expV) (sr:StayM T ex):PF (pvS T lim) T e 54 [] (sIn T T.length pat ex) expV:=by
 have hO:=sOps1C hT hTl (sOps2C hT hTl (sOps3C hT hTl (sOps4C hT hTl (sOps5C hT hTl hr sr) sr) sr) sr) sr
 have hArm:=sArmC hT hTl hP sP hr sr
 have sArm:=stay_armP hT sP sr
 refine pf_of (pvS_tf T lim) fun H p s hp hs=>?_
 refine call54 (by simp) ?_
 simp only [go_sem,simprocAttr,mc54,mr54]
 refine acall_pure (sNow H _ p s hp hs) ?_
 unfold sIn
 rw [nowP_e]
 simp only [go_sem,simprocAttr,Tok.cells]
 generalize (tokA T s).p=tp
 refine acall_pure (sHas hTl [108,101,116] H _ p s hp hs) ?_
 unfold takeM
 cases c1:isT T [108,101,116] s
 rotate_left
 ·rw [iteG_t c1]
  have hs1:=hs.adv hT (isT_k c1).2
  simp only [go_sem,simprocAttr,c1]
  refine acall_pure (sHas hTl [114,101,99] H _ p _ hp hs1) ?_
  unfold letP takeM
  cases c2:isT T [114,101,99] (adv s)
  ·rw [iteG_f c2]
   simp only [go_sem,simprocAttr,c2]
   refine acall_pure (sWord hTl 3 H _ p _ hp hs1) ?_
   have hs2:=hs1.run (StayM.word hT (k:=3) (by decide))
   rcases hq2:wordP T 3 (adv s) with ⟨w1,s2⟩
   rw [hq2] at hs2
   simp only [go_sem,simprocAttr]
   refine acall_pure (sWant hTl [61] H _ p _ hp hs2) ?_
   have hs3w:=hs2.step (stay_want hT [61])
   simp only [go_sem,simprocAttr]
   refine ⟨_,Qp.hx hp _ _,?_⟩
   simp only [go_sem,simprocAttr]
   refine pcall_chain _ _ (by simp) (Qp.hx hp _ _) (hr.chain hp hs3w) ?_
   have hs4:=hs3w.run sr
   rcases hq4:ex (wantP T [61] s2) with ⟨⟨k1,n1,u1,t1,q1,ks1,ms1⟩,s4⟩
   rw [hq4] at hs4
   simp only [go_sem,simprocAttr,ExpD.cells,Nat.add_zero]
   refine ⟨by intro r hr; simp at hr; subst hr; rfl,?_⟩
   refine acall_pure (sWant hTl [105,110] H _ p _ hp hs4) ?_
   have hs5w:=hs4.step (stay_want hT [105,110])
   simp only [go_sem,simprocAttr]
   refine ⟨_,Qp.hx hp _ _,?_⟩
   simp only [go_sem,simprocAttr]
   refine pcall_chain _ _ (by simp) (Qp.hx hp _ _) (hr.chain hp hs5w) ?_
   have hs6:=hs5w.run sr
   rcases hq6:ex (wantP T [105,110] s4) with ⟨⟨k2,n2,u2,t2,q2,ks2,ms2⟩,s6⟩
   rw [hq6] at hs6
   simp only [go_sem,simprocAttr,ExpD.cells,Nat.add_zero]
   refine ⟨by intro r hr; simp at hr; subst hr; rfl,?_⟩
   simp only [bindP_e,stepP_e,retP_e,hq2,hq4,hq6]
   exact ⟨_,rfl,lent_exp (lent_rows (n:=H.length) (ys:=[ExpD.cells (.mk k1 n1 u1 t1 q1 ks1 ms1),ExpD.cells (.mk k2 n2 u2 t2 q2 ks2 ms2)]) (by omega) (by rw [qxk]; rfl) (by intro y hy; simp at hy; rcases hy with rfl | rfl <;> rfl)) (by rw [ExpD.cellsA]; exact .nl)⟩
  ·rw [iteG_t c2]
   have hs1:=hs1.adv hT (isT_k c2).2
   simp only [go_sem,simprocAttr,c2]
   refine acall_pure (sWord hTl 3 H _ p _ hp hs1) ?_
   have hs2:=hs1.run (StayM.word hT (k:=3) (by decide))
   rcases hq2:wordP T 3 (adv (adv s)) with ⟨w1,s2⟩
   rw [hq2] at hs2
   simp only [go_sem,simprocAttr]
   refine acall_pure (sWord hTl 3 H _ p _ hp hs2) ?_
   have hs3:=hs2.run (StayM.word hT (k:=3) (by decide))
   rcases hq3:wordP T 3 s2 with ⟨w2,s3⟩
   rw [hq3] at hs3
   simp only [go_sem,simprocAttr]
   refine acall_pure (sWant hTl [61] H _ p _ hp hs3) ?_
   have hs4w:=hs3.step (stay_want hT [61])
   simp only [go_sem,simprocAttr]
   refine ⟨_,Qp.hx hp _ _,?_⟩
   simp only [go_sem,simprocAttr]
   refine pcall_chain _ _ (by simp) (Qp.hx hp _ _) (hr.chain hp hs4w) ?_
   have hs5:=hs4w.run sr
   rcases hq5:ex (wantP T [61] s3) with ⟨⟨k1,n1,u1,t1,q1,ks1,ms1⟩,s5⟩
   rw [hq5] at hs5
   simp only [go_sem,simprocAttr,ExpD.cells,Nat.add_zero]
   refine ⟨by intro r hr; simp at hr; subst hr; rfl,?_⟩
   refine acall_pure (sWant hTl [105,110] H _ p _ hp hs5) ?_
   have hs6w:=hs5.step (stay_want hT [105,110])
   simp only [go_sem,simprocAttr]
   refine ⟨_,Qp.hx hp _ _,?_⟩
   simp only [go_sem,simprocAttr]
   refine pcall_chain _ _ (by simp) (Qp.hx hp _ _) (hr.chain hp hs6w) ?_
   have hs7:=hs6w.run sr
   rcases hq7:ex (wantP T [105,110] s5) with ⟨⟨k2,n2,u2,t2,q2,ks2,ms2⟩,s7⟩
   rw [hq7] at hs7
   simp only [go_sem,simprocAttr,ExpD.cells,Nat.add_zero]
   refine ⟨by intro r hr; simp at hr; subst hr; rfl,?_⟩
   simp only [bindP_e,stepP_e,retP_e,hq2,hq3,hq5,hq7]
   exact ⟨_,rfl,lent_exp (lent_rows (n:=H.length) (ys:=[ExpD.cells (.mk k1 n1 u1 t1 q1 ks1 ms1),ExpD.cells (.mk k2 n2 u2 t2 q2 ks2 ms2)]) (by omega) (by rw [qxk]; rfl) (by intro y hy; simp at hy; rcases hy with rfl | rfl <;> rfl)) (by rw [ExpD.cellsA]; exact .nl)⟩
 rw [iteG_f c1]
 simp only [go_sem,simprocAttr,c1]
 refine acall_pure (sHas hTl [102,117,110] H _ p s hp hs) ?_
 unfold takeM
 cases c2:isT T [102,117,110] s
 rotate_left
 ·rw [iteG_t c2]
  have hs1:=hs.adv hT (isT_k c2).2
  unfold funP
  simp only [go_sem,simprocAttr,c2]
  refine acall_pure (sWord hTl 3 H _ p _ hp hs1) ?_
  have hs2:=hs1.run (StayM.word hT (k:=3) (by decide))
  rcases hq2:wordP T 3 (adv s) with ⟨w1,s2⟩
  rw [hq2] at hs2
  simp only [go_sem,simprocAttr]
  refine acall_pure (sWant hTl [45,62] H _ p _ hp hs2) ?_
  have hs3w:=hs2.step (stay_want hT [45,62])
  simp only [go_sem,simprocAttr]
  refine ⟨_,Qp.hx hp _ _,?_⟩
  simp only [go_sem,simprocAttr]
  refine pcall_chain _ _ (by simp) (Qp.hx hp _ _) (hr.chain hp hs3w) ?_
  have hs4:=hs3w.run sr
  rcases hq4:ex (wantP T [45,62] s2) with ⟨⟨k1,n1,u1,t1,q1,ks1,ms1⟩,s4⟩
  rw [hq4] at hs4
  simp only [go_sem,simprocAttr,ExpD.cells,Nat.add_zero]
  refine ⟨by intro r hr; simp at hr; subst hr; rfl,?_⟩
  simp only [bindP_e,stepP_e,retP_e,hq2,hq4]
  exact ⟨_,rfl,lent_exp (lent_rows (n:=H.length) (ys:=[ExpD.cells (.mk k1 n1 u1 t1 q1 ks1 ms1)]) (by omega) (by rw [qxk]; rfl) (by intro y hy; simp at hy; subst hy; rfl)) (by rw [ExpD.cellsA]; exact .nl)⟩
 rw [iteG_f c2]
 simp only [go_sem,simprocAttr,c2]
 refine acall_pure (sHas hTl [105,102] H _ p s hp hs) ?_
 unfold takeM
 cases c3:isT T [105,102] s
 rotate_left
 ·rw [iteG_t c3]
  have hs1:=hs.adv hT (isT_k c3).2
  unfold ifP
  simp only [go_sem,simprocAttr,c3]
  refine ⟨_,Qp.hx hp _ _,?_⟩
  simp only [go_sem,simprocAttr]
  refine pcall_chain _ _ (by simp) (Qp.hx hp _ _) (hr.chain hp hs1) ?_
  have hs2:=hs1.run sr
  rcases hq2:ex (adv s) with ⟨⟨k1,n1,u1,t1,q1,ks1,ms1⟩,s2⟩
  rw [hq2] at hs2
  simp only [go_sem,simprocAttr,ExpD.cells,Nat.add_zero]
  refine ⟨by intro r hr; simp at hr; subst hr; rfl,?_⟩
  refine acall_pure (sWant hTl [116,104,101,110] H _ p _ hp hs2) ?_
  have hs3w:=hs2.step (stay_want hT [116,104,101,110])
  simp only [go_sem,simprocAttr]
  refine ⟨_,Qp.hx hp _ _,?_⟩
  simp only [go_sem,simprocAttr]
  refine pcall_chain _ _ (by simp) (Qp.hx hp _ _) (hr.chain hp hs3w) ?_
  have hs4:=hs3w.run sr
  rcases hq4:ex (wantP T [116,104,101,110] s2) with ⟨⟨k2,n2,u2,t2,q2,ks2,ms2⟩,s4⟩
  rw [hq4] at hs4
  simp only [go_sem,simprocAttr,ExpD.cells,Nat.add_zero]
  refine ⟨by intro r hr; simp at hr; subst hr; rfl,?_⟩
  refine acall_pure (sWant hTl [101,108,115,101] H _ p _ hp hs4) ?_
  have hs5w:=hs4.step (stay_want hT [101,108,115,101])
  simp only [go_sem,simprocAttr]
  refine ⟨_,Qp.hx hp _ _,?_⟩
  simp only [go_sem,simprocAttr]
  refine pcall_chain _ _ (by simp) (Qp.hx hp _ _) (hr.chain hp hs5w) ?_
  have hs6:=hs5w.run sr
  rcases hq6:ex (wantP T [101,108,115,101] s4) with ⟨⟨k3,n3,u3,t3,q3,ks3,ms3⟩,s6⟩
  rw [hq6] at hs6
  simp only [go_sem,simprocAttr,ExpD.cells,Nat.add_zero]
  refine ⟨by intro r hr; simp at hr; subst hr; rfl,?_⟩
  simp only [bindP_e,stepP_e,retP_e,hq2,hq4,hq6]
  exact ⟨_,rfl,lent_exp (lent_rows (n:=H.length) (ys:=[ExpD.cells (.mk k1 n1 u1 t1 q1 ks1 ms1),ExpD.cells (.mk k2 n2 u2 t2 q2 ks2 ms2),ExpD.cells (.mk k3 n3 u3 t3 q3 ks3 ms3)]) (by omega) (by rw [qxk]; rfl) (by intro y hy; simp at hy; rcases hy with rfl | rfl | rfl <;> rfl)) (by rw [ExpD.cellsA]; exact .nl)⟩
 rw [iteG_f c3]
 simp only [go_sem,simprocAttr,c3]
 refine acall_pure (sHas hTl [109,97,116,99,104] H _ p s hp hs) ?_
 unfold takeM
 cases c4:isT T [109,97,116,99,104] s
 ·rw [iteG_f c4]
  simp only [go_sem,simprocAttr,c4]
  refine acall_pure (hO H _ p s hp hs) ?_
  rcases hq:sOps1 T T.length ex s with ⟨⟨k,n,u,t,q,ks,ms⟩,s1⟩
  simp only [go_sem,simprocAttr,ExpD.cells]
  exact ⟨_,rfl,lentP (tf_av (ExpD.cells (.mk k n u t q ks ms)))⟩
 ·rw [iteG_t c4]
  have hs1:=hs.adv hT (isT_k c4).2
  unfold sMatch
  simp only [go_sem,simprocAttr,c4]
  refine ⟨_,Qp.hx hp _ _,?_⟩
  simp only [go_sem,simprocAttr]
  refine pcall_chain _ _ (by simp) (Qp.hx hp _ _) (hr.chain hp hs1) ?_
  have hs2:=hs1.run sr
  rcases hq2:ex (adv s) with ⟨⟨k1,n1,u1,t1,q1,ks1,ms1⟩,s2⟩
  rw [hq2] at hs2
  simp only [go_sem,simprocAttr,ExpD.cells,Nat.add_zero]
  refine ⟨by intro r hr; simp at hr; subst hr; rfl,?_⟩
  refine acall_pure (sWant hTl [119,105,116,104] H _ p _ hp hs2) ?_
  have hs3w:=hs2.step (stay_want hT [119,105,116,104])
  simp only [go_sem,simprocAttr]
  refine acall_pure (sWant hTl [124] H _ p _ hp hs3w) ?_
  have hs4w:=hs3w.step (stay_want hT [124])
  simp only [go_sem,simprocAttr]
  refine ⟨_,Qp.hx hp _ _,?_⟩
  simp only [go_sem,simprocAttr]
  refine pcall_chain _ _ (by simp) (Qp.hx hp _ _) (hArm.chain hp hs4w) ?_
  have hs5:=hs4w.run sArm
  rcases hq5:armP T pat ex (wantP T [124] (wantP T [119,105,116,104] s2)) with ⟨⟨⟨pk,pn,pu,pq,pks⟩,⟨ak,an,au,at',aq,aks,ams⟩⟩,s5⟩
  rw [hq5] at hs5
  simp only [go_sem,simprocAttr,ArmD.cells,PatD.cells,ExpD.cells,Nat.add_zero]
  refine ⟨by intro r hr; simp at hr; subst hr; rfl,?_⟩
  rcases hR:many (isT T [124]) (advP (armP T pat ex)) T.length s5 with ⟨Rl,Rs⟩
  simp only [bindP_e,stepP_e,retP_e,armsP,hq2,hq5,hR]
  refine ⟨Nat × PS × List ArmD × AV × List AO,[0,2,3],fun x st=>(Lp (pvS T lim) T e H p [0,1,3] 12 ArmD.cells (isT T [124]) (advP (armP T pat ex)) ((.mk (.mk pk pn pu pq pks) (.mk ak an au at' aq aks ams)) :: Rl) Rs x.1 x.2.1 x.2.2.1 x.2.2.2.1 x.2.2.2.2/\x.2.2.2.2[0]?=some ZE/\x.2.2.2.2[1]?=some (.var [iV 13,sV [],iV 0,sV [],iV tp,.gs (H.length+3) 0 0 1,x.2.2.2.1])/\x.2.2.2.2[3]?=some (.rows 7 0 [[iV k1,sV n1,iV u1,sV t1,iV q1,.p (.l (ExpD.cellsL ks1)),.p (.l (ExpD.cellsA ms1))]])) /\
    st=⟨[(0,.ptr p 0),(2,.ptr H.length 0),(3,.ptr (H.length+1) 0)],[],H.set p (pvS T lim x.2.1)++x.2.2.2.2⟩,fun x=>T.length - x.2.1.i,⟨(T.length,s5,[(.mk (.mk pk pn pu pq pks) (.mk ak an au at' aq aks ams))],.gs (H.length+5) 0 0 1,[ZE,.var [iV 13,sV [],iV 0,sV [],iV tp,.gs (H.length+3) 0 0 1,.gs (H.length+5) 0 0 1],.rows 7 0 [[iV k1,sV n1,iV u1,sV t1,iV q1,.p (.l (ExpD.cellsL ks1)),.p (.l (ExpD.cellsA ms1))]],.rows 7 0 [[iV k1,sV n1,iV u1,sV t1,iV q1,.p (.l (ExpD.cellsL ks1)),.p (.l (ExpD.cellsA ms1))]],.rows 12 0 [[iV pk,sV pn,iV pu,iV pq,.p (.l (PatD.cellsL pks)),iV ak,sV an,iV au,sV at',iV aq,.p (.l (ExpD.cellsL aks)),.p (.l (ExpD.cellsA ams))]],.rows 12 0 [[iV pk,sV pn,iV pu,iV pq,.p (.l (PatD.cellsL pks)),iV ak,sV an,iV au,sV at',iV aq,.p (.l (ExpD.cellsL aks)),.p (.l (ExpD.cellsA ams))]]]),?_⟩,?_⟩
  ·simp only [go_sem,simprocAttr]
   exact Lp.start1 hs5 hR (by simp) rfl (by decide)
  ·rintro ⟨j,s',acc,a,A⟩ _ ⟨⟨hL,i8,i9,i10⟩,rfl⟩
   simp only at hL i8 i9 i10 ⊢
   simp only [go_sem,simprocAttr]
   refine acall_pure (sHas hTl [124] H _ p s' hp hL.ok) ?_
   unfold takeM
   cases hg:isT T [124] s'
   ·obtain ⟨rfl,rfl⟩:=hL.stop hg
    have hz:∀ o,(A.set 0 o)[0]?=some o:=fun o=>set_get i8
    simp only [go_sem,simprocAttr,hg]
    refine acall_pure (sWant hTl [101,110,100] H _ p s' hp hL.ok) ?_
    simp only [go_sem,simprocAttr,i9,i8,hz]
    exact ⟨_,rfl,lent_exp (lent_rows (n:=H.length) (ys:=[ExpD.cells (.mk k1 n1 u1 t1 q1 ks1 ms1)]) (by omega) (by rw [qxk]; exact get_set i10 (by decide)) (by intro y hy; simp at hy; subst hy; rfl)) (by rw [ExpD.cellsA_eq]; exact hL.lent (set_keep (by decide)) armE)⟩
   ·obtain ⟨j,rfl⟩:=hL.succ (only_isT T _) hg
    have hsa:=hL.ok.adv hT (isT_k hg).2
    have hs2:=hsa.run sArm
    have hgt:=(Stay.adv hT sArm hL.ok.1 (isT_k hg).2).1
    simp only [go_sem,simprocAttr,hg]
    refine ⟨_,Qp.hx hp _ _,?_⟩
    simp only [go_sem,simprocAttr,i9]
    refine pcall_chain _ _ (by simp) (Qp.hx hp _ _) (hArm.chain hp hsa) ?_
    rcases hq9:armP T pat ex (adv s') with ⟨⟨⟨bk,bn,bu,bq,bks⟩,⟨ck,cn,cu,ct,cq,cks,cms⟩⟩,s9⟩
    rw [hq9] at hs2 hgt
    simp only [go_sem,simprocAttr,ArmD.cells,PatD.cells,ExpD.cells,qxa]
    refine ⟨by intro r hr; simp at hr; subst hr; rfl,?_⟩
    refine hL.app (fun k o h=>get_ext h _) hTl (by decide) ?_
    intro id ver A' k1' k2' k3'
    have j0:=(k3' 0 (by decide)).trans i8
    have j1:=(k3' 1 (by decide)).trans i9
    have j3:=(k3' 3 (by decide)).trans i10
    have hlt3:=get_lt j3
    have hz:∀ o,(A'.set 1 o)[1]?=some o:=fun o=>set_get j1
    simp only [go_sem,simprocAttr,j1]
    exact ⟨(j,s9,acc++[.mk (.mk bk bn bu bq bks) (.mk ck cn cu ct cq cks cms)],.gs id ver 0 (acc.length+1),A'.set 1 (.var [iV 13,sV [],iV 0,sV [],iV tp,.gs (H.length+3) 0 0 1,.gs id ver 0 (acc.length+1)])),⟨⟨hL.next (only_isT T _) hg hq9 hs2 hgt k1' k2' (set_keep (by decide)) (by simp; omega),get_set j0 (by decide),hz _,get_set j3 (by decide)⟩,rfl⟩,by have h1:s'.i<s9.i:=hgt; have:=hL.ok.1; simp only; omega⟩
theorem sExpC (hl:lim<=1099511627776) (he:e<=lim) {pat:PM PatD} {ex:PM ExpD} (hP:e<lim->PF (pvS T lim) T (e+1) 163 [] pat patV) (sP:StayM T pat) (hr:e<lim->PF (pvS T lim) T (e+1) 25 [] ex expV) (sr:StayM T ex):PF (pvS T lim) T e 25 [] (sExpB T T.length lim pat ex) expV:=by
 have sA:=stay_sIn hT hTl sP sr
 refine pf_of (pvS_tf T lim) fun H p s hp hs=>?_
 obtain ⟨o1,o2,o3⟩:=opens_ok (lim:=lim) hT hTl hs
 have hi:=hs.1
 have hn:=hs.2
 refine call25 (by simp) ?_
 simp only [go_sem,simprocAttr,mc25,mr25]
 refine acall_pure (sOpens hl he H _ p s hp hs) ?_
 have eq0:sExpB T T.length lim pat ex s=opnP T lim exp0 (sIn T T.length pat ex) s:=rfl
 rw [eq0]
 unfold opnP
 cases hc:decide ((opensP T lim s).c=0)
 ·rw [if_neg (of_decide_eq_false hc)]
  simp only [go_sem,simprocAttr,hc]
  refine acall_pure (sShut hl H _ p (opensP T lim s) hp (by omega) (by omega) (by omega)) ?_
  simp only [go_sem,simprocAttr]
  exact ⟨_,rfl,lent_exp (by rw [ExpD.cellsL]; exact .nl) (by rw [ExpD.cellsA]; exact .nl)⟩
 ·obtain ⟨hs1,hne⟩:=o3 (of_decide_eq_true hc)
  have hA:=sInC hT hTl (hP (by omega)) sP (hr (by omega)) sr
  rw [if_pos (of_decide_eq_true hc)]
  simp only [go_sem,simprocAttr,hc]
  refine acall_pure (hA H _ p _ hp hs1) ?_
  have hs2:=hs1.run sA
  have st2:=sA _ hs1.1
  rcases hq:sIn T T.length pat ex (opensP T lim s) with ⟨⟨k,n,u,t,q,ks,ms⟩,s2⟩
  rw [hq] at hs2 st2
  have hn2:s2.nest=s.nest+1:=st2.2.2.2.trans o2
  simp only [go_sem,simprocAttr,ExpD.cells]
  refine acall_pure (sShut hl H _ p s2 hp hs2.1 (by omega) (by omega)) ?_
  simp only [go_sem,simprocAttr]
  exact ⟨_,rfl,lentP (tf_av (ExpD.cells (.mk k n u t q ks ms)))⟩
theorem sExpK (hl:lim<=1099511627776):∀ k e,e+k=lim+1->0<k->PF (pvS T lim) T e 25 [] (sExp T T.length lim k) expV
 | 0,e,_,h=>absurd h (by omega)
 | k+1,e,h,_=>sExpC hT hTl hl (by omega) (fun hlt=>sPatK hT hTl hl k (e+1) (by omega) (by omega)) (stay_sPat hT lim k) (fun hlt=>sExpK hl k (e+1) (by omega) (by omega)) (stay_sExp hT lim k)
end
end Go.Proofs.YtghcmccjchdgeaaGreatDoor.Qp