/- Texts QbK QbL QbC QbM QfA QhA QhB QhC QhD QhE QhF QhG QhH QhI QiA, merged. -/
import Derived.Test.YteilijfligofdaaGreatDoorKAA
import Derived.Test.YteilijfligofdaaGreatDoorChecked
import Derived.KernelRfl
set_option linter.all false
namespace Go.Proofs.YteilijfligofdaaGreatDoor.Qp
open Go.AM Mc Pg
theorem signsIC (H:List AO):ACall Tryz.prog 140 [] H (fun r H'=>r=.gs H.length 0 0 15/\H'=H++[.rows 1 0 (rowS signs)]):=by
 refine call140 (by simp) ?_
 simp only [go_sem,simprocAttr,mc140,mr140]
 rfl
theorem sign_ne {x:Nat} (h:x<signs.length):signs[x]≠[]:=by
 have:∀ g∈signs,g≠[]:=by decide
 exact this _ (List.getElem_mem h)
theorem tokIC {s:List UInt8} (hs:s.length<=1099511627776) {i:Nat} (hi:i<s.length):TokC 94 s i (tokD s i s[i]):=by
 intro H
 have hgi:s[i]?=some s[i]:=by simp [hi]
 refine call94 (by simp) ?_
 simp only [go_sem,simprocAttr,mc94,mr94,hgi,byW]
 refine acall_pure (numIC s[i] _) ?_
 unfold tokD
 cases hd:isDg s[i]
 ·rw [if_neg (by simp)]
  simp only [go_sem,simprocAttr,hd]
  refine acall_pure (lowerC s[i] _) ?_
  cases hsm:isSm s[i]
  ·simp only [go_sem,simprocAttr,hsm]
   refine acall_pure (upperC s[i] _) ?_
   cases hgr:isGr s[i]
   ·simp only [go_sem,simprocAttr,hgr]
    cases h39:decide ((s[i].toNat:Int)=39)
    ·rw [if_neg (by simp [tick,h39])]
     cases h34:decide ((s[i].toNat:Int)=34)
     ·rw [if_neg (of_decide_eq_false h34)]
      simp only [go_sem,simprocAttr,h39,h34]
      refine (signsIC _).mono ?_
      rintro r H2 ⟨rfl,rfl⟩
      simp only [go_sem,simprocAttr]
      refine ⟨Nat,[0,1,4,5,6,7,8,9],fun x st=>(x<=15/\signL (s.drop i) (signs.drop x)=signL (s.drop i) signs)/\st=⟨[(0,.p (.s s)),(1,.p (.i .i64 i)),(4,.ptr H.length 0),(5,.p (.i .i64 0)),(6,.p (.i .i64 0)),(7,.p (.i .i64 (s[i].toNat:Int))),(8,.gs (H.length+1) 0 0 15),(9,.p (.i .i64 x))],[],H++[.var [.p (.i .i64 0),.p (.s []),.p (.i .i64 0),.p (.i .i64 0)],.rows 1 0 (rowS signs)]⟩,fun x=>15 - x,⟨0,?_⟩,?_⟩
      ·simp only [go_sem,simprocAttr]
      ·rintro x _ ⟨⟨hx,hn⟩,rfl⟩
       unfold signD
       by_cases hlt:x<15
       ·have hlt':x<signs.length:=hlt
        have d1:decide ((x:Int)<15)=true:=by simp; omega
        have hsm:=sign_small hlt'
        rw [signL_drop hlt'] at hn
        have ew:wr .i64 ((i:Int)+(signs[x].length:Int))=((i+signs[x].length:Nat):Int):=by rw [wr64 (by omega) (by omega)]; omega
        simp only [go_sem,simprocAttr,d1,rowS_at hlt']
        intro _
        refine ⟨by omega,fun _=>?_⟩
        refine drw_same ?_
        by_cases hfit:i+signs[x].length<=s.length
        ·have d2:decide (((i+signs[x].length:Nat):Int)<=(s.length:Int))=true:=by simp; omega
         have et:(s.drop i).take (i+signs[x].length - i)=(s.drop i).take signs[x].length:=by congr 1; omega
         have ep:decide ((s.drop i).take signs[x].length=signs[x])=preB signs[x] (s.drop i):=rfl
         cases hp:preB signs[x] (s.drop i)
         ·rw [hp] at hn
          simp only [go_sem,simprocAttr,ew,d2,rowS_at hlt',et,ep,hp,wrN x (by omega)]
          refine ⟨by omega,by omega,by omega,x+1,⟨⟨by omega,by simpa using hn⟩,rfl⟩,by omega⟩
         ·rw [hp,if_pos rfl] at hn
          simp only [go_sem,simprocAttr,ew,d2,rowS_at hlt',et,ep,hp]
          rw [<- hn,if_neg (sign_ne hlt')]
          exact ⟨by omega,by omega,by omega,by omega,⟨0,rfl⟩,_,rfl⟩
        ·have d2:decide (((i+signs[x].length:Nat):Int)<=(s.length:Int))=false:=by simp; omega
         have hp:preB signs[x] (s.drop i)=false:=by
          unfold preB
          refine decide_eq_false fun h=>?_
          have:=congrArg List.length h
          rw [List.length_take,List.length_drop] at this
          omega
         rw [hp] at hn
         simp only [go_sem,simprocAttr,ew,d2,wrN x (by omega)]
         exact ⟨x+1,⟨⟨by omega,by simpa using hn⟩,rfl⟩,by omega⟩
       ·have d1:decide ((x:Int)<15)=false:=by simp; omega
        have:signs.drop x=[]:=List.drop_of_length_le (by have:signs.length=15:=rfl; omega)
        rw [this,signL] at hn
        simp only [go_sem,simprocAttr,d1]
        intro _
        simp only [<- hn,if_pos]
        exact ⟨⟨(i:Int),rfl⟩,_,rfl⟩
     ·rw [if_pos (of_decide_eq_true h34)]
      simp only [go_sem,simprocAttr,h39,h34]
      refine (strIC hs hi _).mono ?_
      rintro r H2 ⟨⟨e',rfl⟩,G,rfl⟩
      rcases strD s i with ⟨t,e⟩ | c
      ·simp only [go_sem,simprocAttr,stokAV,Tok.cells]
       exact ⟨⟨0,rfl⟩,_,rfl⟩
      ·simp only [go_sem,simprocAttr,stokAV]
       exact ⟨⟨e',rfl⟩,_,rfl⟩
    ·by_cases hi1:i+1<s.length
     ·have d1:decide (((i+1:Nat):Int)<(s.length:Int))=true:=by simp; omega
      have hg1:s[i+1]?=some s[i+1]:=by simp [hi1]
      have hgd:s.getD (i+1) 0=s[i+1]:=by simp [hi1]
      simp only [go_sem,simprocAttr,h39,wrN i (by omega),d1,hg1,byW]
      intro _
      refine acall_pure (lowerC s[i+1] _) ?_
      cases hs1:isSm s[i+1]
      ·rw [if_neg (by simp only [tick,hgd,hs1]; simp)]
       simp only [go_sem,simprocAttr,hs1]
       cases h34:decide ((s[i].toNat:Int)=34)
       ·rw [if_neg (of_decide_eq_false h34)]
        simp only [go_sem,simprocAttr,h34]
        refine (signsIC _).mono ?_
        rintro r H2 ⟨rfl,rfl⟩
        simp only [go_sem,simprocAttr]
        refine ⟨Nat,[0,1,4,5,6,7,8,9],fun x st=>(x<=15/\signL (s.drop i) (signs.drop x)=signL (s.drop i) signs)/\st=⟨[(0,.p (.s s)),(1,.p (.i .i64 i)),(4,.ptr H.length 0),(5,.p (.i .i64 0)),(6,.p (.i .i64 0)),(7,.p (.i .i64 (s[i].toNat:Int))),(8,.gs (H.length+1) 0 0 15),(9,.p (.i .i64 x))],[],H++[.var [.p (.i .i64 0),.p (.s []),.p (.i .i64 0),.p (.i .i64 0)],.rows 1 0 (rowS signs)]⟩,fun x=>15 - x,⟨0,?_⟩,?_⟩
        ·simp only [go_sem,simprocAttr]
        ·rintro x _ ⟨⟨hx,hn⟩,rfl⟩
         unfold signD
         by_cases hlt:x<15
         ·have hlt':x<signs.length:=hlt
          have d1:decide ((x:Int)<15)=true:=by simp; omega
          have hsm:=sign_small hlt'
          rw [signL_drop hlt'] at hn
          have ew:wr .i64 ((i:Int)+(signs[x].length:Int))=((i+signs[x].length:Nat):Int):=by rw [wr64 (by omega) (by omega)]; omega
          simp only [go_sem,simprocAttr,d1,rowS_at hlt']
          intro _
          refine ⟨by omega,fun _=>?_⟩
          refine drw_same ?_
          by_cases hfit:i+signs[x].length<=s.length
          ·have d2:decide (((i+signs[x].length:Nat):Int)<=(s.length:Int))=true:=by simp; omega
           have et:(s.drop i).take (i+signs[x].length - i)=(s.drop i).take signs[x].length:=by congr 1; omega
           have ep:decide ((s.drop i).take signs[x].length=signs[x])=preB signs[x] (s.drop i):=rfl
           cases hp:preB signs[x] (s.drop i)
           ·rw [hp] at hn
            simp only [go_sem,simprocAttr,ew,d2,rowS_at hlt',et,ep,hp,wrN x (by omega)]
            refine ⟨by omega,by omega,by omega,x+1,⟨⟨by omega,by simpa using hn⟩,rfl⟩,by omega⟩
           ·rw [hp,if_pos rfl] at hn
            simp only [go_sem,simprocAttr,ew,d2,rowS_at hlt',et,ep,hp]
            rw [<- hn,if_neg (sign_ne hlt')]
            exact ⟨by omega,by omega,by omega,by omega,⟨0,rfl⟩,_,rfl⟩
          ·have d2:decide (((i+signs[x].length:Nat):Int)<=(s.length:Int))=false:=by simp; omega
           have hp:preB signs[x] (s.drop i)=false:=by
            unfold preB
            refine decide_eq_false fun h=>?_
            have:=congrArg List.length h
            rw [List.length_take,List.length_drop] at this
            omega
           rw [hp] at hn
           simp only [go_sem,simprocAttr,ew,d2,wrN x (by omega)]
           exact ⟨x+1,⟨⟨by omega,by simpa using hn⟩,rfl⟩,by omega⟩
         ·have d1:decide ((x:Int)<15)=false:=by simp; omega
          have:signs.drop x=[]:=List.drop_of_length_le (by have:signs.length=15:=rfl; omega)
          rw [this,signL] at hn
          simp only [go_sem,simprocAttr,d1]
          intro _
          simp only [<- hn,if_pos]
          exact ⟨⟨(i:Int),rfl⟩,_,rfl⟩
       ·rw [if_pos (of_decide_eq_true h34)]
        simp only [go_sem,simprocAttr,h34]
        refine (strIC hs hi _).mono ?_
        rintro r H2 ⟨⟨e',rfl⟩,G,rfl⟩
        rcases strD s i with ⟨t,e⟩ | c
        ·simp only [go_sem,simprocAttr,stokAV,Tok.cells]
         exact ⟨⟨0,rfl⟩,_,rfl⟩
        ·simp only [go_sem,simprocAttr,stokAV]
         exact ⟨⟨e',rfl⟩,_,rfl⟩
      ·rw [if_pos (by simp only [tick,hgd,hs1]; simp [h39,hi1])]
       simp only [go_sem,simprocAttr,hs1]
       refine (wordIC hs hi _).mono ?_
       rintro r H2 ⟨⟨e',rfl⟩,G,rfl⟩
       rcases wordD s i s[i] with ⟨t,e⟩ | c
       ·simp only [go_sem,simprocAttr,stokAV,Tok.cells]
        exact ⟨⟨0,rfl⟩,_,rfl⟩
       ·simp only [go_sem,simprocAttr,stokAV]
        exact ⟨⟨e',rfl⟩,_,rfl⟩
     ·have d1:decide (((i+1:Nat):Int)<(s.length:Int))=false:=by simp; omega
      rw [if_neg (by simp [tick,hi1])]
      simp only [go_sem,simprocAttr,h39,wrN i (by omega),d1]
      intro _
      cases h34:decide ((s[i].toNat:Int)=34)
      ·rw [if_neg (of_decide_eq_false h34)]
       simp only [go_sem,simprocAttr,h34]
       refine (signsIC _).mono ?_
       rintro r H2 ⟨rfl,rfl⟩
       simp only [go_sem,simprocAttr]
       refine ⟨Nat,[0,1,4,5,6,7,8,9],fun x st=>(x<=15/\signL (s.drop i) (signs.drop x)=signL (s.drop i) signs)/\st=⟨[(0,.p (.s s)),(1,.p (.i .i64 i)),(4,.ptr H.length 0),(5,.p (.i .i64 0)),(6,.p (.i .i64 0)),(7,.p (.i .i64 (s[i].toNat:Int))),(8,.gs (H.length+1) 0 0 15),(9,.p (.i .i64 x))],[],H++[.var [.p (.i .i64 0),.p (.s []),.p (.i .i64 0),.p (.i .i64 0)],.rows 1 0 (rowS signs)]⟩,fun x=>15 - x,⟨0,?_⟩,?_⟩
       ·simp only [go_sem,simprocAttr]
       ·rintro x _ ⟨⟨hx,hn⟩,rfl⟩
        unfold signD
        by_cases hlt:x<15
        ·have hlt':x<signs.length:=hlt
         have d1:decide ((x:Int)<15)=true:=by simp; omega
         have hsm:=sign_small hlt'
         rw [signL_drop hlt'] at hn
         have ew:wr .i64 ((i:Int)+(signs[x].length:Int))=((i+signs[x].length:Nat):Int):=by rw [wr64 (by omega) (by omega)]; omega
         simp only [go_sem,simprocAttr,d1,rowS_at hlt']
         intro _
         refine ⟨by omega,fun _=>?_⟩
         refine drw_same ?_
         by_cases hfit:i+signs[x].length<=s.length
         ·have d2:decide (((i+signs[x].length:Nat):Int)<=(s.length:Int))=true:=by simp; omega
          have et:(s.drop i).take (i+signs[x].length - i)=(s.drop i).take signs[x].length:=by congr 1; omega
          have ep:decide ((s.drop i).take signs[x].length=signs[x])=preB signs[x] (s.drop i):=rfl
          cases hp:preB signs[x] (s.drop i)
          ·rw [hp] at hn
           simp only [go_sem,simprocAttr,ew,d2,rowS_at hlt',et,ep,hp,wrN x (by omega)]
           refine ⟨by omega,by omega,by omega,x+1,⟨⟨by omega,by simpa using hn⟩,rfl⟩,by omega⟩
          ·rw [hp,if_pos rfl] at hn
           simp only [go_sem,simprocAttr,ew,d2,rowS_at hlt',et,ep,hp]
           rw [<- hn,if_neg (sign_ne hlt')]
           exact ⟨by omega,by omega,by omega,by omega,⟨0,rfl⟩,_,rfl⟩
         ·have d2:decide (((i+signs[x].length:Nat):Int)<=(s.length:Int))=false:=by simp; omega
          have hp:preB signs[x] (s.drop i)=false:=by
           unfold preB
           refine decide_eq_false fun h=>?_
           have:=congrArg List.length h
           rw [List.length_take,List.length_drop] at this
           omega
          rw [hp] at hn
          simp only [go_sem,simprocAttr,ew,d2,wrN x (by omega)]
          exact ⟨x+1,⟨⟨by omega,by simpa using hn⟩,rfl⟩,by omega⟩
        ·have d1:decide ((x:Int)<15)=false:=by simp; omega
         have:signs.drop x=[]:=List.drop_of_length_le (by have:signs.length=15:=rfl; omega)
         rw [this,signL] at hn
         simp only [go_sem,simprocAttr,d1]
         intro _
         simp only [<- hn,if_pos]
         exact ⟨⟨(i:Int),rfl⟩,_,rfl⟩
      ·rw [if_pos (of_decide_eq_true h34)]
       simp only [go_sem,simprocAttr,h34]
       refine (strIC hs hi _).mono ?_
       rintro r H2 ⟨⟨e',rfl⟩,G,rfl⟩
       rcases strD s i with ⟨t,e⟩ | c
       ·simp only [go_sem,simprocAttr,stokAV,Tok.cells]
        exact ⟨⟨0,rfl⟩,_,rfl⟩
       ·simp only [go_sem,simprocAttr,stokAV]
        exact ⟨⟨e',rfl⟩,_,rfl⟩
   ·simp only [go_sem,simprocAttr,hgr]
    rw [if_pos (by simp)]
    refine (wordIC hs hi _).mono ?_
    rintro r H2 ⟨⟨e',rfl⟩,G,rfl⟩
    rcases wordD s i s[i] with ⟨t,e⟩ | c
    ·simp only [go_sem,simprocAttr,stokAV,Tok.cells]
     exact ⟨⟨0,rfl⟩,_,rfl⟩
    ·simp only [go_sem,simprocAttr,stokAV]
     exact ⟨⟨e',rfl⟩,_,rfl⟩
  ·simp only [go_sem,simprocAttr,hsm]
   rw [if_pos (by simp)]
   refine (wordIC hs hi _).mono ?_
   rintro r H2 ⟨⟨e',rfl⟩,G,rfl⟩
   rcases wordD s i s[i] with ⟨t,e⟩ | c
   ·simp only [go_sem,simprocAttr,stokAV,Tok.cells]
    exact ⟨⟨0,rfl⟩,_,rfl⟩
   ·simp only [go_sem,simprocAttr,stokAV]
    exact ⟨⟨e',rfl⟩,_,rfl⟩
 ·rw [if_pos rfl]
  simp only [go_sem,simprocAttr,hd]
  refine (digitsC hs hi _).mono ?_
  rintro r H2 ⟨⟨e',rfl⟩,G,rfl⟩
  rcases numD s i s[i] with ⟨t,e⟩ | c
  ·simp only [go_sem,simprocAttr,stokAV,Tok.cells]
   exact ⟨⟨0,rfl⟩,_,rfl⟩
  ·simp only [go_sem,simprocAttr,stokAV]
   exact ⟨⟨e',rfl⟩,_,rfl⟩
theorem lent_empty {n id ver sz:Nat} {H:List AO} (hn:n<=id) (h:H[id]?=some (.rows sz ver [])):LentN n H (.gs id ver 0 0) (.p (.l [])):=by
 have:=lent_rows (ys:=[]) hn h (by simp)
 exact this
theorem lexIC {s:List UInt8} {H0:List AO} (hs:s.length<=1099511627776):ACall Tryz.prog 33 [.p (.s s)] H0 (pureQ (lexAV (lexD s)) H0):=by
 refine acall_frz1 ?_
 refine call33 (by simp) ?_
 unfold lexD
 by_cases hl:4000<s.length
 ·have d1:decide ((4000:Int)<(s.length:Int))=true:=by simp; omega
  simp only [go_sem,simprocAttr,mc33,mr33,d1]
  intro _
  rw [if_pos hl]
  exact ⟨_,rfl,lent_two (lent_empty (by omega) (by rw [gxk]; rfl)) (tf_ft _ _)⟩
 ·have d1:decide ((4000:Int)<(s.length:Int))=false:=by simp; omega
  simp only [go_sem,simprocAttr,mc33,mr33,d1]
  intro _
  rw [if_neg hl]
  generalize hR:lexGo s 1200 0 []=R
  refine acall_pure (skipC hs (i:=0) (Nat.zero_le _) _) ?_
  obtain ⟨g1,g2,g3,g4⟩:=skip_lex (s:=s) (most:=1200) (out:=[]) s.length 0 (by omega) (Nat.zero_le _)
  rw [g1] at hR
  have rest:∀ j,j<=s.length->∀ out,lexGo s 1200 j out=lexGo s 1200 (skipD s j) out/\j<=skipD s j/\skipD s j<=s.length/\∀ (h:skipD s j<s.length),Pg.blank s[skipD s j]=false/\¬ (s[skipD s j].toNat:Int)=35:=fun j hj out=>skip_lex s.length j (by omega) hj
  generalize skipD s 0=i0 at hR g3 g4
  simp only [go_sem,simprocAttr]
  refine ⟨Nat × List Tok × AV × List AO,[0,2,3,4,5],fun x st=>((x.1<=s.length/\x.2.1.length<=x.1/\lexGo s 1200 x.1 x.2.1=R/\LxI H0 x.2.1 x.2.2.1 x.2.2.2)/\∀ (h:x.1<s.length),Pg.blank s[x.1]=false/\¬ (s[x.1].toNat:Int)=35)/\st=⟨[(0,.p (.s s)),(2,.p .nl),(3,.ptr H0.length 0),(4,x.2.2.1),(5,.p (.i .i64 x.1))],[],x.2.2.2⟩,fun x=>s.length - x.1,⟨(i0,[],.gs (H0.length+1) 0 0 0,H0++[.var [.p (.i .i64 0),.p (.i .i64 0)],.rows 4 0 []]),?_⟩,?_⟩
  ·simp only [go_sem,simprocAttr]
   refine ⟨⟨g3,Nat.zero_le _,hR,⟨fun j o hj=>get_ext hj _,by rw [gx0]; rfl,.inr ⟨_,0,rfl,by rw [gxk]; rfl⟩,?_⟩⟩,g4⟩
   intro id v o m e; cases e; omega
  ·rintro ⟨i,out,a,H⟩ _ ⟨⟨⟨h1,h2,h3,hI⟩,hbb⟩,rfl⟩
   simp only at h1 h2 h3 hI hbb ⊢
   by_cases hlt:i<s.length
   ·have d1:decide ((i:Int)<(s.length:Int))=true:=by simp; omega
    obtain ⟨hb,hc⟩:=hbb hlt
    simp only [go_sem,simprocAttr,d1]
    intro _
    refine (tokIC hs hlt H).mono ?_
    rintro r H2 ⟨⟨e',rfl⟩,G,rfl⟩
    rcases ht:tokD s i s[i] with ⟨t,e⟩ | c
    ·obtain ⟨k1,k2,_⟩:=tokD_gt hlt ht
     simp only [go_sem,simprocAttr,stokAV,Tok.cells]
     have hI2:=hI.ext (G++[.var [.p (.i .i64 t.k),.p (.s t.t),.p (.i .i64 t.n),.p (.i .i64 t.p)]])
     have zv:(H++(G++[.var [.p (.i .i64 t.k),.p (.s t.t),.p (.i .i64 t.n),.p (.i .i64 t.p)]]))[H.length+G.length]?=some (.var [.p (.i .i64 t.k),.p (.s t.t),.p (.i .i64 t.n),.p (.i .i64 t.p)]):=by rw [gxk]; exact gx0 G _
     generalize H++(G++[.var [.p (.i .i64 t.k),.p (.s t.t),.p (.i .i64 t.n),.p (.i .i64 t.p)]])=H3 at hI2 zv ⊢
     generalize H.length+G.length=b at zv ⊢
     refine len_ownR hI2.out ?_
     rw [toksR_len]
     have z5:=hI2.z5
     have fr:=hI2.fr
     by_cases hmm:out.length=1200
     ·have d2:decide ((out.length:Int)=1200)=true:=by simp; omega
      rw [lexGo_most hlt hb hc ht hmm] at h3
      have z5':=get_ext z5 [AO.rows 4 0 []]
      have hz:∀ o,((H3++[AO.rows 4 0 []]).set H0.length o)[H0.length]?=some o:=fun o=>set_get z5'
      simp only [go_sem,simprocAttr,d2,z5',hz]
      rw [<- h3]
      obtain ⟨G2,hG2⟩:=pre_ext (H:=H0) (H':=(H3++[AO.rows 4 0 []]).set H0.length (.var [.p (.i .i64 5),.p (.i .i64 i)])) fun j o hj=>get_set (get_ext (fr j o hj) _) (by have:=get_lt hj; omega)
      refine ⟨G2,hG2,lent_two (lent_empty (ver:=0) (sz:=4) (by have:=get_lt z5; omega) (get_set (by rw [gx0]; rfl) (by have:=get_lt z5; omega))) (tf_ft _ _)⟩
     ·have d2:decide ((out.length:Int)=1200)=false:=by simp; omega
      rw [lexGo_tok hlt hb hc ht hmm] at h3
      simp only [go_sem,simprocAttr,d2,zv]
      refine ⟨by intro r hr; simp at hr; subst hr; rfl,?_⟩
      refine app_fr (rs:=toksR out) (ys:=[t.cells.map .p]) (hI2.ext _).out (by rw [toksR_len]; simp; omega) (by rw [toksR_len]; simp; omega) ?_
      intro id ver H4 k1 k2' k3 k4
      rw [toksR_len]
      have hJ:=(hI2.ext _).app k1 k2' k3
      simp only [go_sem,simprocAttr]
      refine acall_pure (skipC hs k2 _) ?_
      obtain ⟨q1,q2,q3,q4⟩:=rest e k2 (out++[t])
      simp only [go_sem,simprocAttr]
      exact ⟨(skipD s e,out++[t],.gs id ver 0 (out.length+1),H4),⟨⟨⟨q3,by simp; omega,by rw [<- q1]; exact h3,hJ⟩,q4⟩,rfl⟩,by simp only; omega⟩
    ·have hc0:=tokD_code ht
     rw [lexGo_err hlt hb hc ht] at h3
     have hI2:=hI.ext (G++[.var [.p (.i .i64 0),.p (.s []),.p (.i .i64 0),.p (.i .i64 0)],.rows 4 0 []])
     simp only [go_sem,simprocAttr,stokAV,hc0]
     have z5:=hI2.z5
     have fr:=hI2.fr
     have zr:(H++(G++[.var [.p (.i .i64 0),.p (.s []),.p (.i .i64 0),.p (.i .i64 0)],.rows 4 0 []]))[H.length+(G.length+1)]?=some (.rows 4 0 []):=by rw [gxk,gxk]; rfl
     have hgt:H0.length<H.length:=get_lt hI.z5
     generalize H++(G++[.var [.p (.i .i64 0),.p (.s []),.p (.i .i64 0),.p (.i .i64 0)],.rows 4 0 []])=H3 at z5 fr zr ⊢
     have hz:∀ o,(H3.set H0.length o)[H0.length]?=some o:=fun o=>set_get z5
     simp only [go_sem,simprocAttr,z5,hz]
     rw [<- h3]
     obtain ⟨G2,hG2⟩:=pre_ext (H:=H0) (H':=H3.set H0.length (.var [.p (.i .i64 c),.p (.i .i64 i)])) fun j o hj=>get_set (fr j o hj) (by have:=get_lt hj; omega)
     exact ⟨G2,hG2,lent_two (lent_empty (ver:=0) (sz:=4) (by omega) (get_set zr (by omega))) (tf_ft _ _)⟩
   ·have d1:decide ((i:Int)<(s.length:Int))=false:=by simp; omega
    rw [lexGo_end hlt] at h3
    simp only [go_sem,simprocAttr,d1]
    intro _ _
    refine ⟨by intro r hr; simp at hr; subst hr; rfl,?_⟩
    refine app_fr (rs:=toksR out) (ys:=[Tok.cells ⟨8,[],0,s.length⟩ |>.map .p]) (hI.ext _).out (by rw [toksR_len]; simp; omega) (by rw [toksR_len]; simp; omega) ?_
    intro id ver H4 k1 k2 k3 k4
    rw [toksR_len]
    have hJ:=(hI.ext _).app k1 k2 k3
    have z5:=hJ.z5
    have hz:∀ o,(H4.set H0.length o)[H0.length]?=some o:=fun o=>set_get z5
    simp only [go_sem,simprocAttr,z5,hz]
    obtain ⟨G,hG⟩:=pre_ext (H:=H0) (H':=H4.set H0.length (.var [.p (.i .i64 0),.p (.i .i64 0)])) fun j o hj=>get_set (hJ.fr j o hj) (by have:=get_lt hj; omega)
    rw [<- h3]
    refine ⟨G,hG,lent_two ?_ (tf_ft _ _)⟩
    have hn:=hJ.new _ _ _ _ rfl
    have:=lent_toks (n:=H0.length) (l:=out++[⟨8,[],0,s.length⟩]) (Nat.le_of_lt hn) (H:=H4.set H0.length (.var [.p (.i .i64 0),.p (.i .i64 0)])) (id:=id) (ver:=ver) (get_set (by rw [toksR_app]; exact k1) (by omega))
    simpa using this
end Go.Proofs.YteilijfligofdaaGreatDoor.Qp
set_option linter.all false
set_option maxRecDepth 100000
namespace Go.Proofs.YteilijfligofdaaGreatDoor.Mc
open Go.AM
def mc11:Got (Tryz.f11.body.map (compile [0,2,3,4,5,6,7,15,34,42] Tryz.prog 50)):=⟨_,by conv=>lhs; cbv⟩
def mr11:List MR:=[.cell true 7 2,.cell true 2 3]
theorem call11:CallT Tryz.prog 11 50 mc11.m mr11:=mc11.call Tryz.func11 (by kernel_rfl)
def mc34:Got (Tryz.f34.body.map (compile [0,2,3,6] Tryz.prog 12)):=⟨_,by conv=>lhs; cbv⟩
def mr34:List MR:=[.cell true 7 2]
theorem call34:CallT Tryz.prog 34 12 mc34.m mr34:=mc34.call Tryz.func34 (by kernel_rfl)
def mc35:Got (Tryz.f35.body.map (compile [0,2] Tryz.prog 13)):=⟨_,by conv=>lhs; cbv⟩
def mr35:List MR:=[.cell true 4 2]
theorem call35:CallT Tryz.prog 35 13 mc35.m mr35:=mc35.call Tryz.func35 (by kernel_rfl)
def mc36:Got (Tryz.f36.body.map (compile [0,1,9] Tryz.prog 18)):=⟨_,by conv=>lhs; cbv⟩
def mr36:List MR:=[]
theorem call36:CallT Tryz.prog 36 18 mc36.m mr36:=mc36.call Tryz.func36 (by kernel_rfl)
def mc95:Got (Tryz.f95.body.map (compile [0,2,19,46] Tryz.prog 60)):=⟨_,by conv=>lhs; cbv⟩
def mr95:List MR:=[.t 2]
theorem call95:CallT Tryz.prog 95 60 mc95.m mr95:=mc95.call Tryz.func95 (by kernel_rfl)
def mc96:Got (Tryz.f96.body.map (compile [0,2,3,10,15,22,44,60,89,112] Tryz.prog 123)):=⟨_,by conv=>lhs; cbv⟩
def mr96:List MR:=[.cell true 7 2]
theorem call96:CallT Tryz.prog 96 123 mc96.m mr96:=mc96.call Tryz.func96 (by kernel_rfl)
def mc97:Got (Tryz.f97.body.map (compile [0] Tryz.prog 10)):=⟨_,by conv=>lhs; cbv⟩
def mr97:List MR:=[]
theorem call97:CallT Tryz.prog 97 10 mc97.m mr97:=mc97.call Tryz.func97 (by kernel_rfl)
def mc109:Got (Tryz.f109.body.map (compile [0,1,4,5] Tryz.prog 30)):=⟨_,by conv=>lhs; cbv⟩
def mr109:List MR:=[.t 4]
theorem call109:CallT Tryz.prog 109 30 mc109.m mr109:=mc109.call Tryz.func109 (by kernel_rfl)
def mc141:Got (Tryz.f141.body.map (compile [0,1,4,7] Tryz.prog 16)):=⟨_,by conv=>lhs; cbv⟩
def mr141:List MR:=[.t 4]
theorem call141:CallT Tryz.prog 141 16 mc141.m mr141:=mc141.call Tryz.func141 (by kernel_rfl)
def mc142:Got (Tryz.f142.body.map (compile [0,1,4,5,19] Tryz.prog 32)):=⟨_,by conv=>lhs; cbv⟩
def mr142:List MR:=[.t 4]
theorem call142:CallT Tryz.prog 142 32 mc142.m mr142:=mc142.call Tryz.func142 (by kernel_rfl)
def mc143:Got (Tryz.f143.body.map (compile [0,1,7] Tryz.prog 10)):=⟨_,by conv=>lhs; cbv⟩
def mr143:List MR:=[]
theorem call143:CallT Tryz.prog 143 10 mc143.m mr143:=mc143.call Tryz.func143 (by kernel_rfl)
def mc144:Got (Tryz.f144.body.map (compile [0,2,3] Tryz.prog 13)):=⟨_,by conv=>lhs; cbv⟩
def mr144:List MR:=[.cell true 12 2]
theorem call144:CallT Tryz.prog 144 13 mc144.m mr144:=mc144.call Tryz.func144 (by kernel_rfl)
def mc145:Got (Tryz.f145.body.map (compile [0,1,4,5,6,8,17,40] Tryz.prog 42)):=⟨_,by conv=>lhs; cbv⟩
def mr145:List MR:=[.cell true 7 4]
theorem call145:CallT Tryz.prog 145 42 mc145.m mr145:=mc145.call Tryz.func145 (by kernel_rfl)
def mc169:Got (Tryz.f169.body.map (compile [0,2,3,4,7,18] Tryz.prog 26)):=⟨_,by conv=>lhs; cbv⟩
def mr169:List MR:=[.cell true 5 2]
theorem call169:CallT Tryz.prog 169 26 mc169.m mr169:=mc169.call Tryz.func169 (by kernel_rfl)
def mc170:Got (Tryz.f170.body.map (compile [0,2,3,7] Tryz.prog 16)):=⟨_,by conv=>lhs; cbv⟩
def mr170:List MR:=[.cell true 7 2]
theorem call170:CallT Tryz.prog 170 16 mc170.m mr170:=mc170.call Tryz.func170 (by kernel_rfl)
def mc171:Got (Tryz.f171.body.map (compile [0,1,4,5] Tryz.prog 31)):=⟨_,by conv=>lhs; cbv⟩
def mr171:List MR:=[.t 4]
theorem call171:CallT Tryz.prog 171 31 mc171.m mr171:=mc171.call Tryz.func171 (by kernel_rfl)
def mc192:Got (Tryz.f192.body.map (compile [0,2,3,4,6,9] Tryz.prog 11)):=⟨_,by conv=>lhs; cbv⟩
def mr192:List MR:=[.t 2]
theorem call192:CallT Tryz.prog 192 11 mc192.m mr192:=mc192.call Tryz.func192 (by kernel_rfl)
def mc187:Got (Tryz.f187.body.map (compile [0,2,3,4,5,10,29,39,46,54,62,70,75,87,89] Tryz.prog 94)):=⟨_,by conv=>lhs; cbv⟩
def mr187:List MR:=[.cell true 5 2]
theorem call187:CallT Tryz.prog 187 94 mc187.m mr187:=mc187.call Tryz.func187 (by kernel_rfl)
def mc188:Got (Tryz.f188.body.map (compile [0,2,3] Tryz.prog 41)):=⟨_,by conv=>lhs; cbv⟩
def mr188:List MR:=[.t 2]
theorem call188:CallT Tryz.prog 188 41 mc188.m mr188:=mc188.call Tryz.func188 (by kernel_rfl)
def mc189:Got (Tryz.f189.body.map (compile [0,2,3,4,27,52] Tryz.prog 58)):=⟨_,by conv=>lhs; cbv⟩
def mr189:List MR:=[.cell true 7 2]
theorem call189:CallT Tryz.prog 189 58 mc189.m mr189:=mc189.call Tryz.func189 (by kernel_rfl)
def mc190:Got (Tryz.f190.body.map (compile [0,2,3] Tryz.prog 45)):=⟨_,by conv=>lhs; cbv⟩
def mr190:List MR:=[.t 2]
theorem call190:CallT Tryz.prog 190 45 mc190.m mr190:=mc190.call Tryz.func190 (by kernel_rfl)
def mc191:Got (Tryz.f191.body.map (compile [0,2,3,4,5,10,29,39,46,54,62,70,78,86,98,100] Tryz.prog 105)):=⟨_,by conv=>lhs; cbv⟩
def mr191:List MR:=[.cell true 7 2]
theorem call191:CallT Tryz.prog 191 105 mc191.m mr191:=mc191.call Tryz.func191 (by kernel_rfl)
def mc73:Got (Tryz.f73.body.map (compile [0,2] Tryz.prog 29)):=⟨_,by conv=>lhs; cbv⟩
def mr73:List MR:=[.t 2]
theorem call73:CallT Tryz.prog 73 29 mc73.m mr73:=mc73.call Tryz.func73 (by kernel_rfl)
def mc74:Got (Tryz.f74.body.map (compile [0,2] Tryz.prog 21)):=⟨_,by conv=>lhs; cbv⟩
def mr74:List MR:=[.t 2]
theorem call74:CallT Tryz.prog 74 21 mc74.m mr74:=mc74.call Tryz.func74 (by kernel_rfl)
end Go.Proofs.YteilijfligofdaaGreatDoor.Mc
namespace Go.Proofs.YteilijfligofdaaGreatDoor.Qp
open Go.AM Mc Pg
theorem qxk (H A:List AO) (p:Nat) (c:AO) (k:Nat):(H.set p c++A)[H.length+k]?=A[k]?:=by
 have:=gxk (H.set p c) A k
 rwa [List.length_set] at this
theorem qx0 (H A:List AO) (p:Nat) (c:AO):(H.set p c++A)[H.length]?=A[0]?:=qxk H A p c 0
theorem qsk (H A:List AO) (p:Nat) (c:AO) (k:Nat) (o:AO):(H.set p c++A).set (H.length+k) o=H.set p c++A.set k o:=by
 have:=sxk (H.set p c) A k o
 rwa [List.length_set] at this
theorem qs0 (H A:List AO) (p:Nat) (c:AO) (o:AO):(H.set p c++A).set H.length o=H.set p c++A.set 0 o:=qsk H A p c 0 o
attribute [go_sem] qxk qx0 qsk qs0 List.length_set
theorem qp {H:List AO} {p:Nat} (hp:p<H.length) (A:List AO) (c:AO):(H.set p c++A)[p]?=some c:=by
 rw [List.getElem?_append_left (by simpa using hp)]; simp [hp]
theorem qp0 {H:List AO} {p:Nat} (hp:p<H.length) (c:AO):(H.set p c)[p]?=some c:=by simp [hp]
theorem qq {H:List AO} {p:Nat} (hp:p<H.length) (A:List AO) (c d:AO):(H.set p c++A).set p d=H.set p d++A:=by
 rw [List.set_append_left _ _ (by simpa using hp),List.set_set]
theorem qq0 (H:List AO) (p:Nat) (c d:AO):(H.set p c).set p d=H.set p d:=by simp
def Ok (T:List Tok) (e:Nat) (s:PS):Prop:=s.i<T.length/\s.nest=e
theorem Ok.of {T:List Tok} {lim:Nat} {s t:PS} (h:Ok T lim s) (k:Ok1 T s t):Ok T lim t:=⟨k.2.1,by rw [k.2.2.2]; exact h.2⟩
theorem Ok.step {T:List Tok} {lim:Nat} {s:PS} {f:PS->PS} (h:Ok T lim s) (k:Stay T f):Ok T lim (f s):=h.of (k s h.1)
theorem Ok.run {T:List Tok} {lim:Nat} {s:PS} {α:Type} {m:PM α} (h:Ok T lim s) (k:StayM T m):Ok T lim (m s).2:=h.of (k s h.1)
theorem Ok.adv {T:List Tok} {lim:Nat} {s:PS} (hT:ToksOk T) (h:Ok T lim s) (hk:(tokA T s).k≠8):Ok T lim (Pg.adv s):=⟨adv_at hT h.1 hk,h.2⟩
def PF (pv:PS->AO) (T:List Tok) (lim:Nat) (f:Nat) (xs:List AV) {α:Type} (m:PM α) (V:α->AV):Prop :=
 ∀ (H A:List AO) (p:Nat) (s:PS),p<H.length->Ok T lim s->ACall Tryz.prog f (.ptr p 0 :: xs) (H.set p (pv s)++A) (pureQ (V (m s).1) (H.set p (pv (m s).2)++A))
theorem PF.nil {pv:PS->AO} {T:List Tok} {lim:Nat} {f:Nat} {xs:List AV} {α:Type} {m:PM α} {V:α->AV} (h:PF pv T lim f xs m V) {H:List AO} {p:Nat} {s:PS} (hp:p<H.length) (hs:Ok T lim s) :
  ACall Tryz.prog f (.ptr p 0 :: xs) (H.set p (pv s)) (pureQ (V (m s).1) (H.set p (pv (m s).2))):=by
 have:=h H [] p s hp hs
 rwa [List.append_nil,List.append_nil] at this
theorem pf_at {f:Nat} {xs:List AV} {c c':AO} {x:AV} (hc:∀ q,InO q c'->Tf q)
  (h:∀ (H:List AO) (p:Nat),p<H.length->ACall Tryz.prog f (.ptr p 0 :: xs) (H.set p c) (fun r H'=>∃ G,H'=H.set p c'++G/\LentN H.length H' r x)) :
  ∀ (H A:List AO) (p:Nat),p<H.length->ACall Tryz.prog f (.ptr p 0 :: xs) (H.set p c++A) (pureQ x (H.set p c'++A)):=by
 intro H A p hp
 have e:∀ c,H.set p c++A=(H++A).set p c:=fun c=>by rw [List.set_append_left _ _ hp]
 rw [e,e]
 have h1:=h (H++A) p (by simp; omega)
 have h2:=acall_frz_set (i:=p) (o:=c) (o':=c') (x:=x) (H:=(H++A).set p c) (f:=f) (args:=.ptr p 0 :: xs) (P:=Tryz.prog)
  (h1.mono (by rintro r H' ⟨G,rfl,hl⟩; exact ⟨G,by rw [qq0],by rw [List.length_set]; exact hl⟩)) (qp0 (by rw [List.length_append]; omega) _) (fun q hq=>.inl (hc q hq))
 rwa [qq0] at h2
theorem pf_of {pv:PS->AO} (hpv:∀ s c,InO c (pv s)->Tf c) {T:List Tok} {lim:Nat} {f:Nat} {xs:List AV} {α:Type} {m:PM α} {V:α->AV}
  (h:∀ (H:List AO) (p:Nat) (s:PS),p<H.length->Ok T lim s->ACall Tryz.prog f (.ptr p 0 :: xs) (H.set p (pv s)) (fun r H'=>∃ G,H'=H.set p (pv (m s).2)++G/\LentN H.length H' r (V (m s).1))):PF pv T lim f xs m V :=
 fun H A p s hp hs=>pf_at (hpv _) (fun H p hp=>h H p s hp hs) H A p hp
abbrev ptV (T:List Tok):AV:=.p (.l (T.map Tok.cells))
abbrev iV (n:Int):AV:=.p (.i .i64 n)
def pvS (T:List Tok) (lim:Nat) (s:PS):AO:=.var [ptV T,iV s.i,iV s.nest,iV s.d,iV lim,iV s.c,iV s.ps]
theorem pvS_tf (T lim s c) (h:InO c (pvS T lim s)):Tf c:=by
 simp only [pvS,InO,List.mem_cons,List.not_mem_nil,or_false] at h
 rcases h with rfl | rfl | rfl | rfl | rfl | rfl | rfl <;> exact tf_p _
abbrev bV (b:Bool):AV:=.p (.b b)
abbrev uV (_:Unit):AV:=.tup []
abbrev sV (s:List UInt8):AV:=.p (.s s)
abbrev testM (g:PS->Bool):PM Bool:=fun s=>(g s,s)
abbrev stepM (f:PS->PS):PM Unit:=fun s=>((),f s)
abbrev nowM (T:List Tok):PM Tok:=fun s=>(tokA T s,s)
abbrev takeM (T:List Tok) (x:List UInt8):PM Bool:=fun s=>if isT T x s then (true,adv s) else (false,s)
section
variable {T:List Tok} {lim e:Nat}
theorem tok_get {s:PS} (h:s.i<T.length):(T.map Tok.cells)[s.i]?=some (tokA T s).cells:=by
 simp [tokA,h]
theorem lentP {n:Nat} {H:List AO} {x:AV} (h:Tf x):LentN n H x x:=.tf _ h
theorem sNow:PF (pvS T lim) T e 35 [] (nowM T) tv:=by
 refine pf_of (pvS_tf T lim) fun H p s hp hs=>?_
 have hlt:decide ((s.i:Int)<(T.length:Int))=true:=by simp; exact hs.1
 have hg:=tok_get hs.1
 refine call35 (by simp) ?_
 simp only [go_sem,simprocAttr,mc35,mr35]
 refine drw_same ?_
 simp only [go_sem,simprocAttr,qp hp,pvS,List.length_map,hlt,hg,Tok.cells]
 exact ⟨_,rfl,lentP (tf_av (tokA T s).cells)⟩
theorem ws {s:PS} (hT:T.length<=1073741825) (hs:Ok T e s):wr .i64 ((s.i:Int)+1)=((s.i+1:Nat):Int):=wrN _ (by have:=hs.1; omega)
theorem sIs (x:List UInt8):PF (pvS T lim) T e 109 [sV x] (testM (isT T x)) bV:=by
 refine pf_of (pvS_tf T lim) fun H p s hp hs=>?_
 refine call109 (by simp) ?_
 simp only [go_sem,simprocAttr,mc109,mr109]
 refine acall_pure (sNow.nil hp hs) ?_
 have eT:isT T x s=(decide (s.c=0) && (decide ((tokA T s).k=6) || decide ((tokA T s).k=7)) && decide ((tokA T s).t=x)):=rfl
 rw [eT]
 simp only [go_sem,simprocAttr,qp hp,pvS,Tok.cells]
 cases h0:decide (s.c=0)
 ·simp only [go_sem,simprocAttr,h0,Bool.false_and]
  exact ⟨_,rfl,lentP (tf_p _)⟩
 cases h6:decide ((tokA T s).k=6)
 ·cases h7:decide ((tokA T s).k=7)
  ·simp only [go_sem,simprocAttr,h0,h6,h7,Bool.or_self,Bool.and_false,Bool.false_and]
   exact ⟨_,rfl,lentP (tf_p _)⟩
  ·simp only [go_sem,simprocAttr,h0,h6,h7,Bool.false_or,Bool.and_true,Bool.true_and]
   exact ⟨_,rfl,lentP (tf_p _)⟩
 ·simp only [go_sem,simprocAttr,h0,h6,Bool.true_or,Bool.and_true,Bool.true_and]
  exact ⟨_,rfl,lentP (tf_p _)⟩
theorem sFails (c:Int):PF (pvS T lim) T e 36 [iV c] (stepM (failP T c)) uV:=by
 refine pf_of (pvS_tf T lim) fun H p s hp hs=>?_
 refine call36 (by simp) ?_
 cases h0:decide (s.c=0)
 ·simp only [go_sem,simprocAttr,mc36,mr36,qp0 hp,pvS,h0]
  rw [failP_c (of_decide_eq_false h0)]
  exact ⟨[],by simp,lentP (tf_tup _ (by simp))⟩
 ·simp only [go_sem,simprocAttr,mc36,mr36,qp0 hp,pvS,h0]
  refine acall_pure (sNow.nil hp hs) ?_
  rw [failP_0 (of_decide_eq_true h0)]
  simp only [go_sem,simprocAttr,qp0 hp,pvS,Tok.cells,qq0]
  exact ⟨[],by simp,lentP (tf_tup _ (by simp))⟩
theorem sHas (hTl:T.length<=1073741825) (x:List UInt8):PF (pvS T lim) T e 141 [sV x] (takeM T x) bV:=by
 refine pf_of (pvS_tf T lim) fun H p s hp hs=>?_
 refine call141 (by simp) ?_
 simp only [go_sem,simprocAttr,mc141,mr141]
 refine acall_pure ((sIs x).nil hp hs) ?_
 unfold takeM
 cases h:isT T x s
 ·simp only [go_sem,simprocAttr,h]
  exact ⟨[],by simp,lentP (tf_p _)⟩
 ·simp only [go_sem,simprocAttr,h,qp0 hp,pvS,qq0,ws hTl hs]
  exact ⟨[],by simp [adv],lentP (tf_p _)⟩
theorem sWant (hTl:T.length<=1073741825) (x:List UInt8):PF (pvS T lim) T e 143 [sV x] (stepM (wantP T x)) uV:=by
 refine pf_of (pvS_tf T lim) fun H p s hp hs=>?_
 refine call143 (by simp) ?_
 simp only [go_sem,simprocAttr,mc143,mr143]
 refine acall_pure ((sHas hTl x).nil hp hs) ?_
 unfold takeM wantP
 cases h:isT T x s
 ·simp only [go_sem,simprocAttr,h]
  refine acall_pure ((sFails 11).nil hp hs) ?_
  simp only [go_sem,simprocAttr]
  exact ⟨[],by simp,lentP (tf_tup _ (by simp))⟩
 ·simp only [go_sem,simprocAttr,h]
  exact ⟨[],by simp,lentP (tf_tup _ (by simp))⟩
theorem sWord (hTl:T.length<=1073741825) (k:Int):PF (pvS T lim) T e 142 [iV k] (wordP T k) sV:=by
 refine pf_of (pvS_tf T lim) fun H p s hp hs=>?_
 refine call142 (by simp) ?_
 simp only [go_sem,simprocAttr,mc142,mr142]
 refine acall_pure (sNow.nil hp hs) ?_
 unfold wordP isK
 simp only [go_sem,simprocAttr,qp hp,pvS,Tok.cells]
 cases h0:decide (s.c=0)
 ·simp only [go_sem,simprocAttr,h0,Bool.false_and]
  refine acall_pure (sFails 11 H _ p s hp hs) ?_
  simp only [go_sem,simprocAttr]
  exact ⟨_,rfl,lentP (tf_p _)⟩
 cases h6:decide ((tokA T s).k=k)
 ·simp only [go_sem,simprocAttr,h0,h6,Bool.and_false]
  refine acall_pure (sFails 11 H _ p s hp hs) ?_
  simp only [go_sem,simprocAttr]
  exact ⟨_,rfl,lentP (tf_p _)⟩
 ·simp only [go_sem,simprocAttr,h0,h6,Bool.and_true,qp hp,qq hp,pvS,ws hTl hs]
  exact ⟨_,rfl,lentP (tf_p _)⟩
theorem opens_of {s s1:PS} (h:(if s.c=0/\s.nest=lim then failP T 12 s else s)=s1):opensP T lim s=if s1.c=0/\s1.d<s1.nest+1 then { s1 with nest:=s1.nest+1,d:=s1.nest+1 } else { s1 with nest:=s1.nest+1 }:=by subst h; rfl
theorem sOpens (hl:lim<=1099511627776) (he:e<=lim):∀ (H A:List AO) (p:Nat) (s:PS),p<H.length->Ok T e s->ACall Tryz.prog 95 [.ptr p 0] (H.set p (pvS T lim s)++A) (pureQ (.p (.b (decide ((opensP T lim s).c=0)))) (H.set p (pvS T lim (opensP T lim s))++A)):=by
 have key:PF (pvS T lim) T e 95 [] (fun s=>(decide ((opensP T lim s).c=0),opensP T lim s)) bV:=by
  refine pf_of (pvS_tf T lim) fun H p s hp hs=>?_
  have hn:=hs.2
  have en:wr .i64 ((s.nest:Int)+1)=((s.nest+1:Nat):Int):=wrN _ (by omega)
  refine call95 (by simp) ?_
  simp only [go_sem,simprocAttr,mc95,mr95]
  refine drw_same ?_
  simp only [go_sem,simprocAttr,qp0 hp,pvS]
  cases h0:decide (s.c=0)
  ·have h0':=of_decide_eq_false h0
   rw [opens_c h0']
   simp only [go_sem,simprocAttr,h0,qp0 hp,qq0,en]
   refine drw_same ?_
   simp only [go_sem,simprocAttr,h0,qp0 hp,qq0]
   exact ⟨[],by simp,lentP (tf_p _)⟩
  ·have h0':=of_decide_eq_true h0
   by_cases hd:s.nest=lim
   ·have d1:decide ((s.nest:Int)=(lim:Int))=true:=by simp; omega
    simp only [go_sem,simprocAttr,h0,d1,qp0 hp]
    refine acall_pure ((sFails 12).nil hp hs) ?_
    have e1:opensP T lim s={ failP T 12 s with nest:=s.nest+1 }:=by
     rw [opens_of (if_pos ⟨h0',hd⟩),failP_0 h0',if_neg (fun h=>absurd h.1 (show ¬ ((12:Int)=0) by decide))]
    have hf:=failP_0 (T:=T) (c:=12) h0'
    have e2:opensP T lim s={ s with c:=12,ps:=(tokA T s).p,nest:=s.nest+1 }:=by rw [e1,hf]
    rw [e2]
    simp only [stepM,hf]
    simp only [go_sem,simprocAttr,qp0 hp,pvS,qq0,en]
    refine drw_same ?_
    simp only [go_sem,simprocAttr,qp0 hp,qq0]
    exact ⟨[],by simp,lentP (tf_p _)⟩
   ·have d1:decide ((s.nest:Int)=(lim:Int))=false:=by simp; omega
    have e1:opensP T lim s=if s.d<s.nest+1 then { s with nest:=s.nest+1,d:=s.nest+1 } else { s with nest:=s.nest+1 }:=by
     rw [opens_of (if_neg fun h=>hd h.2)]
     simp only [h0',true_and]
    rw [e1]
    simp only [go_sem,simprocAttr,h0,d1,qp0 hp,qq0,en]
    refine drw_same ?_
    by_cases hdd:s.d<s.nest+1
    ·have d2:decide ((s.d:Int)<((s.nest+1:Nat):Int))=true:=by simp; omega
     rw [if_pos hdd]
     simp only [go_sem,simprocAttr,h0,d2,qp0 hp,qq0]
     exact ⟨[],by simp,lentP (tf_p _)⟩
    ·have d2:decide ((s.d:Int)<((s.nest+1:Nat):Int))=false:=by simp; omega
     rw [if_neg hdd]
     simp only [go_sem,simprocAttr,h0,d2,qp0 hp,qq0]
     exact ⟨[],by simp,lentP (tf_p _)⟩
 exact key
theorem sShut (hl:lim<=1099511627776):∀ (H A:List AO) (p:Nat) (s:PS),p<H.length->s.i<T.length->0<s.nest->s.nest<=lim+1->ACall Tryz.prog 97 [.ptr p 0] (H.set p (pvS T lim s)++A) (pureQ (.tup []) (H.set p (pvS T lim (shut s))++A)):=by
 intro H A p s hp hi h1 h2
 have en:wr .i64 ((s.nest:Int) - 1)=((s.nest - 1:Nat):Int):=by rw [wr64 (by omega) (by omega)]; omega
 refine call97 (by simp) ?_
 simp only [go_sem,simprocAttr,mc97,mr97,qp hp,qq hp,pvS,en]
 exact ⟨rfl,rfl⟩
end
end Go.Proofs.YteilijfligofdaaGreatDoor.Qp
namespace Go.Proofs.YteilijfligofdaaGreatDoor.Pg
open Go.AM
def nmB (q:UInt8->Bool) (s:List UInt8):Bool:=match s with
 | []=>false
 | c :: _=>decide (s.length<=12) && (q c && decide (runAt isNm s 0=s.length))
def lowB (s:List UInt8):Bool:=nmB isSm s && !isKey s
def upB (s:List UInt8):Bool:=nmB isGr s
def chB (c:UInt8):Bool:=isPl c || decide ((c.toNat:Int)=10)
def plainB (s:List UInt8):Bool:=s.all chB
def binB (s:List UInt8):Bool:=decide (s∈[[43],[45],[42],[94],[61],[60],[58,61]])
def primB (s:List UInt8):Bool:=decide (s∈[[112,114,105,110,116],[101,120,105,116],[115,105,122,101],[114,101,102],[33]])
def arity (s:List UInt8):Int:=if s=[114,101,97,100] then 0 else if primB s then 1 else -1
def patH (k : Int) (n : List UInt8) (u p m : Int) : Bool :=
  (if k = 1 ∨ k = 5 then decide (m = 0) && (decide (n = []) && decide (u = 0))
   else if k = 2 then decide (m = 0) && (lowB n && decide (u = 0))
   else if k = 3 then decide (m = 0) && (decide (n = []) && decide (0 ≤ u))
   else if k = 4 then decide (m = 0) && (decide (n = []) && (decide (0 ≤ u) && decide (u ≤ 1)))
   else if k = 6 then decide (2 ≤ m) && (decide (n = []) && decide (u = 0))
   else if k = 7 then decide (m ≤ 1) && (upB n && decide (u = 0))
   else false) && decide (0 ≤ p)
mutual
def PatD.okB:PatD->Bool
 | .mk k n u p ks=>patH k n u p ks.length && PatD.okL ks
def PatD.okL:List PatD->Bool
 | []=>true
 | t :: l=>t.okB && PatD.okL l
end
def expH (k : Int) (n : List UInt8) (u : Int) (t : List UInt8) (p m a : Int) : Bool :=
  (if k = 1 then decide (m = 0) && (decide (n = []) && (decide (0 ≤ u) && decide (t = [])))
   else if k = 2 then decide (m = 0) && (decide (n = []) && (decide (u = 0) && plainB t))
   else if k = 3 then decide (m = 0) && (decide (n = []) && ((decide (0 ≤ u) && decide (u ≤ 1)) && decide (t = [])))
   else if k = 4 then decide (m = 0) && (decide (n = []) && (decide (u = 0) && decide (t = [])))
   else if k = 5 then decide (m = 0) && (lowB n && (decide (u = 0) && decide (t = [])))
   else if k = 6 then decide (m ≤ 1) && (upB n && (decide (u = 0) && decide (t = [])))
   else if k = 7 then decide (2 ≤ m) && (decide (n = []) && (decide (u = 0) && decide (t = [])))
   else if k = 8 then decide (m = 1) && (lowB n && (decide (u = 0) && decide (t = [])))
   else if k = 9 then decide (m = 2) && (decide (n = []) && (decide (u = 0) && decide (t = [])))
   else if k = 10 then decide (m = 2) && (lowB n && (decide (u = 0) && decide (t = [])))
   else if k = 11 then decide (m = 2) && (lowB n && (decide (u = 0) && lowB t))
   else if k = 12 then decide (m = 3) && (decide (n = []) && (decide (u = 0) && decide (t = [])))
   else if k = 13 then decide (m = 1) && (decide (n = []) && (decide (u = 0) && decide (t = [])))
   else if k = 14 then decide (m = 2) && (binB n && (decide (u = 0) && decide (t = [])))
   else if k = 15 then decide (m = arity n) && (decide (u = 0) && decide (t = []))
   else false) && (decide (0 ≤ p) && (decide (k = 13) == decide (0 < a)))
mutual
def ExpD.okB:ExpD->Bool
 | .mk k n u t p ks as'=>expH k n u t p ks.length as'.length && (ExpD.okL ks && ExpD.okA as')
def ExpD.okL:List ExpD->Bool
 | []=>true
 | t :: l=>t.okB && ExpD.okL l
def ArmD.okB:ArmD->Bool
 | .mk p e=>p.okB && e.okB
def ExpD.okA:List ArmD->Bool
 | []=>true
 | t :: l=>t.okB && ExpD.okA l
end
theorem all_drop {α:Type} {q:α->Bool} {l:List α} {x:Nat} (h:x<l.length):(l.drop x).all q=(q l[x] && (l.drop (x+1)).all q):=by rw [List.drop_eq_getElem_cons h,List.all_cons]
theorem PatD.okL_eq (l:List PatD):PatD.okL l=l.all PatD.okB:=by
 induction l with
 | nil=>rfl
 | cons t l ih=>rw [PatD.okL,ih]; rfl
theorem ExpD.okL_eq (l:List ExpD):ExpD.okL l=l.all ExpD.okB:=by
 induction l with
 | nil=>rfl
 | cons t l ih=>rw [ExpD.okL,ih]; rfl
theorem ExpD.okA_eq (l:List ArmD):ExpD.okA l=l.all ArmD.okB:=by
 induction l with
 | nil=>rfl
 | cons t l ih=>rw [ExpD.okA,ih]; rfl
def figs (n:Nat):List UInt8:=if h:n<10 then [UInt8.ofNat (48+n)] else figs (n / 10)++[UInt8.ofNat (48+n % 10)]
termination_by n
def decZ (u:Int):List UInt8:=figs u.toNat
def quoC (c:UInt8):List UInt8:=if (c.toNat:Int)=10 then [92,110] else if (c.toNat:Int)=34\/(c.toNat:Int)=92 then [92,c] else [c]
def quoD (s:List UInt8):List UInt8:=34 :: ((s.map quoC).flatten++[34])
def boolW (u:Int):List UInt8:=if u=1 then [116,114,117,101] else [102,97,108,115,101]
def rnd (s:List UInt8) (level least:Int):List UInt8:=if level<least then 40 :: (s++[41]) else s
def joinD (sep:List UInt8):List (List UInt8)->List UInt8
 | []=>[]
 | [a]=>a
 | a :: l=>a++(sep++joinD sep l)
structure KF where
 f:List UInt8
 l:Int
 b:Bool
def KF.at (x:KF) (a:Int):List UInt8:=rnd x.f x.l a
def KF.no:KF:=⟨[],0,false⟩
def patG (k:Int) (n:List UInt8) (u:Int) (ks:List KF):KF :=
 if k=2 then ⟨n,1,false⟩
 else if k=3 then ⟨decZ u,1,false⟩
 else if k=4 then ⟨boolW u,1,false⟩
 else if k=5 then ⟨[40,41],1,false⟩
 else if k=6 then ⟨40 :: (joinD [44,32] (ks.map (·.at 0))++[41]),1,false⟩
 else if k=7 then (if ks.length=0 then ⟨n,1,false⟩ else ⟨n++(32 :: (ks.getD 0 .no).at 1),0,false⟩)
 else ⟨[95],1,false⟩
mutual
def PatD.kf:PatD->KF
 | .mk k n u p ks=>patG k n u (PatD.kfL ks)
def PatD.kfL:List PatD->List KF
 | []=>[]
 | t :: l=>t.kf :: PatD.kfL l
end
def opL (s:List UInt8):Int × Int × Int:=if s=[58,61] then (1,2,2) else if s=[61]\/s=[60] then (2,3,3) else if s=[42] then (4,4,5) else (3,3,4)
def armF (a:List UInt8 × KF):List UInt8:=[32,124,32]++(a.1++([32,45,62,32]++a.2.at 0))
def expG (k:Int) (n:List UInt8) (u:Int) (t:List UInt8) (ks:List KF) (as':List (List UInt8 × KF)):KF :=
 if k=1 then ⟨decZ u,6,false⟩
 else if k=2 then ⟨quoD t,6,false⟩
 else if k=3 then ⟨boolW u,6,false⟩
 else if k=4 then ⟨[40,41],6,false⟩
 else if k=5 then ⟨n,6,false⟩
 else if k=7 then ⟨40 :: (joinD [44,32] (ks.map (·.at 0))++[41]),6,false⟩
 else if k=14 then ⟨(ks.getD 0 .no).at (opL n).2.1++(32 :: (n++(32 :: (ks.getD 1 .no).at (opL n).2.2))),(opL n).1,false⟩
 else if k=6\/k=15 then (if ks.length=0 then ⟨n,6,decide (k=6)⟩ else ⟨n++(32 :: (ks.getD 0 .no).at 6),5,false⟩)
 else if k=9 then ⟨(ks.getD 0 .no).at (if (ks.getD 0 .no).b then 7 else 5)++(32 :: (ks.getD 1 .no).at 6),5,false⟩
 else if k=10 then ⟨[108,101,116,32]++(n++([32,61,32]++((ks.getD 0 .no).at 0++([32,105,110,32]++(ks.getD 1 .no).at 0)))),0,false⟩
 else if k=11 then ⟨[108,101,116,32,114,101,99,32]++(n++(32 :: (t++([32,61,32]++((ks.getD 0 .no).at 0++([32,105,110,32]++(ks.getD 1 .no).at 0)))))),0,false⟩
 else if k=8 then ⟨[102,117,110,32]++(n++([32,45,62,32]++(ks.getD 0 .no).at 0)),0,false⟩
 else if k=12 then ⟨[105,102,32]++((ks.getD 0 .no).at 0++([32,116,104,101,110,32]++((ks.getD 1 .no).at 0++([32,101,108,115,101,32]++(ks.getD 2 .no).at 0)))),0,false⟩
 else ⟨[109,97,116,99,104,32]++((ks.getD 0 .no).at 0++([32,119,105,116,104]++((as'.map armF).flatten++[32,101,110,100]))),0,false⟩
mutual
def ExpD.kf:ExpD->KF
 | .mk k n u t p ks as'=>expG k n u t (ExpD.kfL ks) (ExpD.kfA as')
def ExpD.kfL:List ExpD->List KF
 | []=>[]
 | t :: l=>t.kf :: ExpD.kfL l
def ArmD.kf:ArmD->List UInt8 × KF
 | .mk p e=>(p.kf.at 0,e.kf)
def ExpD.kfA:List ArmD->List (List UInt8 × KF)
 | []=>[]
 | t :: l=>t.kf :: ExpD.kfA l
end
theorem PatD.kfL_eq (l:List PatD):PatD.kfL l=l.map PatD.kf:=by
 induction l with
 | nil=>rfl
 | cons t l ih=>rw [PatD.kfL,ih]; rfl
theorem ExpD.kfL_eq (l:List ExpD):ExpD.kfL l=l.map ExpD.kf:=by
 induction l with
 | nil=>rfl
 | cons t l ih=>rw [ExpD.kfL,ih]; rfl
theorem ExpD.kfA_eq (l:List ArmD):ExpD.kfA l=l.map ArmD.kf:=by
 induction l with
 | nil=>rfl
 | cons t l ih=>rw [ExpD.kfA,ih]; rfl
theorem figs_len : ∀ (d n : Nat), n < 10 ^ (d + 1) → (figs n).length ≤ d + 1
  | 0, n, h => by rw [figs, dif_pos (by simpa using h)]; simp
  | d + 1, n, h => by
    rw [figs]
    split
    · simp
    · have := figs_len d (n / 10) (by rw [Nat.pow_succ] at h; omega)
      simp; omega
theorem quo_len (s : List UInt8) : (quoD s).length ≤ 2 * s.length + 2 := by
  have : ((s.map quoC).flatten).length ≤ 2 * s.length := by
    induction s with
    | nil => simp
    | cons c s ih =>
      rw [List.map_cons, List.flatten_cons, List.length_append, List.length_cons]
      have : (quoC c).length ≤ 2 := by unfold quoC; (repeat' split) <;> simp
      omega
  unfold quoD
  rw [List.length_cons, List.length_append, List.length_singleton]
  omega
theorem bool_len (u:Int):(boolW u).length<=5:=by unfold boolW; split <;> simp
theorem rnd_len (s:List UInt8) (l a:Int):(rnd s l a).length<=s.length+2/\s.length<=(rnd s l a).length:=by unfold rnd; split <;> simp <;> omega
theorem at_len (x:KF) (a:Int):(x.at a).length<=x.f.length+2/\x.f.length<=(x.at a).length:=rnd_len _ _ _
mutual
def PatD.fit:PatD->Prop
 | .mk k n u p ks=>u<=9223372036854775807/\PatD.fitL ks
def PatD.fitL:List PatD->Prop
 | []=>True
 | t :: l=>t.fit/\PatD.fitL l
end
mutual
def ExpD.fit:ExpD->Prop
 | .mk k n u t p ks as'=>u<=9223372036854775807/\ExpD.fitL ks/\ExpD.fitA as'
def ExpD.fitL:List ExpD->Prop
 | []=>True
 | t :: l=>t.fit/\ExpD.fitL l
def ArmD.fit:ArmD->Prop
 | .mk p e=>p.fit/\e.fit
def ExpD.fitA:List ArmD->Prop
 | []=>True
 | t :: l=>t.fit/\ExpD.fitA l
end
theorem PatD.fitL_mem {x : PatD} : ∀ {l : List PatD}, PatD.fitL l → x ∈ l → x.fit
  | [], _, h => by cases h
  | a :: l, hf, h => by
    rw [PatD.fitL] at hf
    rcases List.mem_cons.1 h with rfl | h
    · exact hf.1
    · exact PatD.fitL_mem hf.2 h
theorem ExpD.fitL_mem {x : ExpD} : ∀ {l : List ExpD}, ExpD.fitL l → x ∈ l → x.fit
  | [], _, h => by cases h
  | a :: l, hf, h => by
    rw [ExpD.fitL] at hf
    rcases List.mem_cons.1 h with rfl | h
    · exact hf.1
    · exact ExpD.fitL_mem hf.2 h
theorem ExpD.fitA_mem {x : ArmD} : ∀ {l : List ArmD}, ExpD.fitA l → x ∈ l → x.fit
  | [], _, h => by cases h
  | a :: l, hf, h => by
    rw [ExpD.fitA] at hf
    rcases List.mem_cons.1 h with rfl | h
    · exact hf.1
    · exact ExpD.fitA_mem hf.2 h
def wK:List KF->Nat
 | []=>0
 | a :: l=>a.f.length+20+wK l
theorem wK3 (l:List KF):(l.getD 0 .no).f.length+(l.getD 1 .no).f.length+(l.getD 2 .no).f.length<=wK l:=by
 rcases l with _ | ⟨a,_ | ⟨b,_ | ⟨c,l⟩⟩⟩ <;> simp [wK,KF.no] <;> omega
theorem joinK_len (sep : List UInt8) (hs : sep.length ≤ 10) (a : Int) : ∀ l : List KF, (joinD sep (l.map (·.at a))).length ≤ wK l
  | [] => by simp [joinD]
  | [x] => by have := (at_len x a).1; simp only [List.map_cons, List.map_nil, joinD, wK]; omega
  | x :: y :: l => by
    have h1 := (at_len x a).1
    have h2 := joinK_len sep hs a (y :: l)
    show (x.at a ++ (sep ++ joinD sep ((y :: l).map (·.at a)))).length ≤ _
    rw [wK]
    simp only [List.length_append]
    omega
theorem dec_len {u:Int} (h:u<=9223372036854775807):(decZ u).length<=20:=figs_len 19 _ (by omega)
theorem patG_len (k:Int) (n:List UInt8) {u:Int} (hu:u<=9223372036854775807) (ks:List KF):(patG k n u ks).f.length<=n.length+wK ks+30:=by
 have h3:=wK3 ks
 have a0:=fun a=>(at_len (ks.getD 0 .no) a).1
 have hj:=joinK_len [44,32] (by decide) 0 ks
 have:=dec_len hu; have:=bool_len u; have:=a0 1
 unfold patG
 repeat' split
 all_goals (try simp only [List.length_append,List.length_cons,List.length_nil] at *)
 all_goals omega
mutual
theorem PatD.kf_len : ∀ t : PatD, t.fit → t.kf.f.length ≤ 100 * t.sz + 30
  | .mk k n u p ks, h => by
    rw [PatD.fit] at h
    have := PatD.kfL_len ks h.2
    have := patG_len k n h.1 (PatD.kfL ks)
    rw [PatD.kf, PatD.sz]; omega
theorem PatD.kfL_len : ∀ l : List PatD, PatD.fitL l → wK (PatD.kfL l) ≤ 100 * PatD.szL l
  | [], _ => by simp [PatD.kfL, wK]
  | t :: l, h => by
    rw [PatD.fitL] at h
    have := PatD.kf_len t h.1
    have := PatD.kfL_len l h.2
    rw [PatD.kfL, wK, PatD.szL]; omega
end
def wA:List (List UInt8 × KF)->Nat
 | []=>0
 | a :: l=>a.1.length+a.2.f.length+20+wA l
theorem armF_len : ∀ l : List (List UInt8 × KF), ((l.map armF).flatten).length ≤ wA l
  | [] => by simp
  | x :: l => by
    have h1 := (at_len x.2 0).1
    have h2 := armF_len l
    rw [List.map_cons, List.flatten_cons, wA, List.length_append, armF]
    simp only [List.length_append, List.length_cons, List.length_nil]
    omega
theorem ite_f {c:Prop} [Decidable c] {a b:KF} {B:Nat} (h1:a.f.length<=B) (h2:b.f.length<=B):(if c then a else b).f.length<=B:=by split <;> assumption
theorem expG_len (k:Int) (n:List UInt8) {u:Int} (hu:u<=9223372036854775807) (t:List UInt8) (ks:List KF) (as':List (List UInt8 × KF)):(expG k n u t ks as').f.length<=n.length+2 * t.length+wK ks+wA as'+30:=by
 have h3:=wK3 ks
 have a0:=fun a=>(at_len (ks.getD 0 .no) a).1
 have a1:=fun a=>(at_len (ks.getD 1 .no) a).1
 have a2:=fun a=>(at_len (ks.getD 2 .no) a).1
 have hj:=joinK_len [44,32] (by decide) 0 ks
 have hA:=armF_len as'
 have:=dec_len hu; have:=bool_len u; have:=quo_len t
 have:=a0 0; have:=a1 0; have:=a2 0; have:=a0 6; have:=a1 6; have:=a0 7; have:=a0 5
 have:=a0 (opL n).2.1; have:=a1 (opL n).2.2
 unfold expG
 repeat' refine ite_f ?_ ?_
 all_goals (try split)
 all_goals (try simp only [List.length_append,List.length_cons,List.length_nil] at *)
 all_goals omega
mutual
theorem ExpD.kf_len : ∀ t : ExpD, t.fit → t.kf.f.length ≤ 100 * t.sz + 30
  | .mk k n u t p ks as', h => by
    rw [ExpD.fit] at h
    have := ExpD.kfL_len ks h.2.1
    have := ExpD.kfA_len as' h.2.2
    have := expG_len k n h.1 t (ExpD.kfL ks) (ExpD.kfA as')
    rw [ExpD.kf, ExpD.sz]; omega
theorem ExpD.kfL_len : ∀ l : List ExpD, ExpD.fitL l → wK (ExpD.kfL l) ≤ 100 * ExpD.szL l
  | [], _ => by simp [ExpD.kfL, wK]
  | t :: l, h => by
    rw [ExpD.fitL] at h
    have := ExpD.kf_len t h.1
    have := ExpD.kfL_len l h.2
    rw [ExpD.kfL, wK, ExpD.szL]; omega
theorem ExpD.kfA_len : ∀ l : List ArmD, ExpD.fitA l → wA (ExpD.kfA l) ≤ 100 * ExpD.szA l
  | [], _ => by simp [ExpD.kfA, wA]
  | .mk p e :: l, h => by
    rw [ExpD.fitA, ArmD.fit] at h
    have := PatD.kf_len p h.1.1
    have := (at_len p.kf 0).1
    have := ExpD.kf_len e h.1.2
    have := ExpD.kfA_len l h.2
    rw [ExpD.kfA, wA, ExpD.szA, ArmD.kf, ArmD.sz]; simp only; omega
end
abbrev TK:=Int × List UInt8 × Int
def Tok.b (x:Tok):TK:=(x.k,x.t,x.n)
def tkK (s:List UInt8):TK:=(6,s,0)
def tkS (s:List UInt8):TK:=(7,s,0)
def tkL (s:List UInt8):TK:=(3,s,0)
def tkU (s:List UInt8):TK:=(4,s,0)
def tkN (u:Int):TK:=(1,[],u)
def tkT (s:List UInt8):TK:=(2,s,0)
def gst:List UInt8->Bool
 | []=>true
 | c :: _=>!isNm c && (decide (c≠61) && decide (c≠62))
def LxO (s:List UInt8) (most i n:Nat) (ts:List TK) (out:List Tok):Prop :=
 (out.length+ts.length<=most/\∃ L:List Tok,L.map Tok.b=ts/\lexGo s most i out=lexGo s most (i+n) (out++L))\/(most<out.length+ts.length/\∃ p,lexGo s most i out=.inr (5,p))
def LxP (g:List UInt8->Bool) (a:List UInt8) (ts:List TK):Prop :=
 ∀ (s:List UInt8) (i:Nat) (b:List UInt8) (out:List Tok) (most:Nat),s.drop i=a++b->g b=true->out.length<=most->LxO s most i a.length ts out
def any1 (_:List UInt8):Bool:=true
abbrev Lx:=LxP gst
abbrev LxS:=LxP any1
theorem LxO.cat {s:List UInt8} {most i n m:Nat} {ts us:List TK} {out:List Tok} (h:LxO s most i n ts out) (k:∀ L:List Tok,L.map Tok.b=ts->out.length+ts.length<=most->LxO s most (i+n) m us (out++L)):LxO s most i (n+m) (ts++us) out:=by
 rcases h with ⟨h1,L,h2,h3⟩ | ⟨h1,p,h2⟩
 ·have hl:L.length=ts.length:=by rw [<- h2]; simp
  rcases k L h2 h1 with ⟨k1,M,k2,k3⟩ | ⟨k1,p,k2⟩
  ·refine .inl ⟨by simp at k1 ⊢; omega,L++M,by simp [h2,k2],?_⟩
   rw [h3,k3,Nat.add_assoc,List.append_assoc]
  ·exact .inr ⟨by simp at k1 ⊢; omega,p,by rw [h3,k2]⟩
 ·exact .inr ⟨by simp; omega,p,h2⟩
theorem drop_cat {s:List UInt8} {i:Nat} {a b:List UInt8} (h:s.drop i=a++b):s.drop (i+a.length)=b:=by
 rw [<- List.drop_drop,h,List.drop_left]
theorem gst_cat {b c:List UInt8} (hb:gst b=true) (hc:gst c=true):gst (b++c)=true:=by
 cases b with
 | nil=>exact hc
 | cons x b=>exact hb
theorem lx_cat {a b:List UInt8} {ts us:List TK} (h:Lx a ts) (hb:gst b=true) (k:Lx b us):Lx (a++b) (ts++us):=fun s i c out most hd hg hl=>by
 rw [List.append_assoc] at hd
 rw [List.length_append]
 refine (h s i _ out most hd (gst_cat hb hg) hl).cat fun L h1 h2=>k s _ c _ most (drop_cat hd) hg ?_
 rw [List.length_append,show L.length=ts.length by rw [<- h1]; simp]
 exact h2
theorem lxs_cat {g} {a b:List UInt8} {ts us:List TK} (h:LxS a ts) (k:LxP g b us):LxP g (a++b) (ts++us):=fun s i c out most hd hg hl=>by
 rw [List.append_assoc] at hd
 rw [List.length_append]
 refine (h s i _ out most hd rfl hl).cat fun L h1 h2=>k s _ c _ most (drop_cat hd) hg ?_
 rw [List.length_append,show L.length=ts.length by rw [<- h1]; simp]
 exact h2
theorem lx_end {a b:List UInt8} {ts us:List TK} (h:Lx a ts) (hb:∀ c,gst (b++c)=true) (k:LxS b us):LxS (a++b) (ts++us):=fun s i c out most hd _ hl=>by
 rw [List.append_assoc] at hd
 rw [List.length_append]
 refine (h s i _ out most hd (hb c) hl).cat fun L h1 h2=>k s _ c _ most (drop_cat hd) rfl ?_
 rw [List.length_append,show L.length=ts.length by rw [<- h1]; simp]
 exact h2
theorem LxP.weak {a:List UInt8} {ts:List TK} (h:LxS a ts) {g}:LxP g a ts:=fun s i b out most hd _ hl=>h s i b out most hd rfl hl
theorem lx_nil {g}:LxP g [] []:=fun s i b out most hd hg hl=>.inl ⟨by simpa using hl,[],rfl,by simp⟩
theorem drop_head {s:List UInt8} {i:Nat} {c:UInt8} {a:List UInt8} (h:s.drop i=c :: a):∃ hi:i<s.length,s[i]=c:=by
 have hi:i<s.length:=by
  have:=congrArg List.length h
  simp at this; omega
 rw [drop_at hi] at h
 exact ⟨hi,(List.cons.inj h).1⟩
theorem lx_blank {c:UInt8} (hc:blank c=true):LxS [c] []:=fun s i b out most hd hg hl=>by
 obtain ⟨hi,rfl⟩:=drop_head hd
 exact .inl ⟨by simpa using hl,[],rfl,by rw [lexGo_blank hi hc,List.append_nil]; rfl⟩
theorem lx_tok {g} {a:List UInt8} {t:TK} {c:UInt8} {a':List UInt8} (ha:a=c :: a') (hb:blank c=false) (hh:¬ (c.toNat:Int)=35)
  (ht:∀ (s:List UInt8) (i:Nat) (b:List UInt8),s.drop i=a++b->g b=true->∃ x:Tok,x.b=t/\tokD s i c=.inl (x,i+a.length)):LxP g a [t]:=fun s i b out most hd hg hl=>by
 obtain ⟨x,h1,h2⟩:=ht s i b hd hg
 have hd':=hd
 rw [ha] at hd'
 obtain ⟨hi,rfl⟩:=drop_head hd'
 rcases Nat.lt_or_ge out.length most with h | h
 ·exact .inl ⟨h,[x],by simp [h1],by rw [lexGo_tok hi hb hh h2 (by omega)]⟩
 ·exact .inr ⟨by simp; omega,i,lexGo_most hi hb hh h2 (by omega)⟩
theorem runL_app {q : UInt8 → Bool} {b : List UInt8} (hb : ∀ c b', b = c :: b' → q c = false) : ∀ a : List UInt8, a.all q = true → runL q (a ++ b) = a.length
  | [], _ => by
    cases b with
    | nil => rfl
    | cons c b => simp [runL, hb c b rfl]
  | x :: a, h => by
    rw [List.all_cons, Bool.and_eq_true] at h
    rw [List.cons_append, runL, if_pos h.1, runL_app hb a h.2]; rfl
theorem runL_all {q : UInt8 → Bool} : ∀ {a : List UInt8}, runL q a = a.length → a.all q = true
  | [], _ => rfl
  | x :: a, h => by
    rw [runL] at h
    split at h
    · rename_i hx
      rw [List.all_cons, hx, runL_all (by simpa using h)]; rfl
    · simp at h
theorem runAt_app {q:UInt8->Bool} {s:List UInt8} {i:Nat} {a b:List UInt8} (hd:s.drop i=a++b) (ha:a.all q=true) (hb:∀ c b',b=c :: b'->q c=false):runAt q s i=i+a.length:=by
 unfold runAt
 rw [hd,runL_app hb a ha]
theorem gst_nm {b:List UInt8} (h:gst b=true):∀ c b',b=c :: b'->isNm c=false:=by
 rintro c b' rfl
 simp only [gst,Bool.and_eq_true,Bool.not_eq_true'] at h
 exact h.1
theorem dg_nm {c:UInt8} (h:isNm c=false):isDg c=false:=by
 simp only [isNm,Bool.or_eq_false_iff] at h
 exact h.1.2
theorem nmB_iff {q : UInt8 → Bool} {s : List UInt8} (h : nmB q s = true) : ∃ c s', s = c :: s' ∧ q c = true ∧ s.all isNm = true ∧ s.length ≤ 12 := by
  cases s with
  | nil => cases h
  | cons c s =>
    simp only [nmB, Bool.and_eq_true, decide_eq_true_eq] at h
    refine ⟨c, s, rfl, h.2.1, runL_all ?_, h.1⟩
    have := h.2.2
    simpa [runAt] using this
theorem wordF_app {s:List UInt8} {i f:Nat} {c:UInt8} {a b:List UInt8} (hd:s.drop f=a++b) (ha:a.all isNm=true) (hl:a.length<=12) (hb:gst b=true) :
  wordF s i c f=.inl (⟨if (c.toNat:Int)=39 then 5 else if isGr c then 4 else if isKey a then 6 else 3,a,0,i⟩,f+a.length):=by
 unfold wordF
 rw [runAt_app hd ha (gst_nm hb),Nat.add_sub_cancel_left,if_neg (by omega),hd,List.take_left]
theorem lx_wordK {a:List UInt8} {q:UInt8->Bool} (hq:∀ c,q c=true->isSm c=true\/isGr c=true) (h:nmB q a=true):Lx a [(if q (a.headD 0) && isGr (a.headD 0) then 4 else if isKey a then 6 else 3,a,0)]:=by
 obtain ⟨c,a',rfl,h1,h2,h3⟩:=nmB_iff h
 have hc:isSm c=true\/isGr c=true:=hq c h1
 have hcn:65<=c.toNat/\c.toNat<=90\/97<=c.toNat/\c.toNat<=122:=by
  simp only [isSm,isGr,Bool.and_eq_true,decide_eq_true_eq] at hc; omega
 refine lx_tok rfl (by simp only [blank,Bool.or_eq_false_iff,decide_eq_false_iff_not]; omega) (by omega) fun s i b hd hb=>?_
 refine ⟨⟨if (c.toNat:Int)=39 then 5 else if isGr c then 4 else if isKey (c :: a') then 6 else 3,c :: a',0,i⟩,?_,?_⟩
 rotate_left
 ·have e1:isDg c=false:=by simp only [isDg,Bool.and_eq_false_iff,decide_eq_false_iff_not]; omega
  have e2:(isSm c || isGr c || tick s i c)=true:=by rcases hc with h | h <;> simp [h]
  unfold tokD wordD
  rw [e1,if_neg (by simp),if_pos e2,if_neg (by omega)]
  exact wordF_app hd h2 h3 hb
 ·simp only [Tok.b,List.headD_cons,h1,Bool.true_and]
  rw [if_neg (by omega)]
theorem lx_low {a:List UInt8} (h:lowB a=true):Lx a [tkL a]:=by
 simp only [lowB,Bool.and_eq_true,Bool.not_eq_true'] at h
 have:=lx_wordK (q:=isSm) (fun c hc=>.inl hc) h.1
 obtain ⟨c,a',rfl,h1,-,-⟩:=nmB_iff h.1
 have e:isGr c=false:=by simp only [isSm,isGr,Bool.and_eq_true,Bool.and_eq_false_iff,decide_eq_true_eq,decide_eq_false_iff_not] at h1 ⊢; omega
 simpa [e,h.2,tkL] using this
theorem lx_up {a:List UInt8} (h:upB a=true):Lx a [tkU a]:=by
 have:=lx_wordK (q:=isGr) (fun c hc=>.inr hc) h
 obtain ⟨c,a',rfl,h1,-,-⟩:=nmB_iff h
 simpa [h1,tkU] using this
theorem key_nm {a:List UInt8} (h:isKey a=true):nmB isSm a=true:=by
 simp only [isKey,decide_eq_true_eq,keys,List.mem_cons,List.not_mem_nil,or_false] at h
 rcases h with rfl|rfl|rfl|rfl|rfl|rfl|rfl|rfl|rfl|rfl|rfl|rfl|rfl|rfl|rfl|rfl|rfl|rfl|rfl <;> decide
theorem lx_key {a:List UInt8} (h:isKey a=true):Lx a [tkK a]:=by
 have h0:=key_nm h
 have:=lx_wordK (q:=isSm) (fun c hc=>.inl hc) h0
 obtain ⟨c,a',rfl,h1,-,-⟩:=nmB_iff h0
 have e:isGr c=false:=by simp only [isSm,isGr,Bool.and_eq_true,Bool.and_eq_false_iff,decide_eq_true_eq,decide_eq_false_iff_not] at h1 ⊢; omega
 simpa [e,h,tkK] using this
theorem ofNat_fig {d:Nat} (h:d<10):(UInt8.ofNat (48+d)).toNat=48+d:=by
 simp [UInt8.toNat_ofNat']; omega
theorem fig_dg {d:Nat} (h:d<10):isDg (UInt8.ofNat (48+d))=true:=by
 simp only [isDg,ofNat_fig h,Bool.and_eq_true,decide_eq_true_eq]; omega
theorem figs_dg : ∀ n : Nat, (figs n).all isDg = true := by
  intro n
  induction n using Nat.strongRecOn with
  | ind n ih =>
    rw [figs]
    split
    · rename_i h; rw [List.all_cons, List.all_nil, fig_dg h]; rfl
    · rw [List.all_append, ih _ (by omega), List.all_cons, List.all_nil, fig_dg (show n % 10 < 10 by omega)]; rfl
theorem numV_app:∀ (a b:List UInt8) (n:Nat),numV (a++b) n=numV b (numV a n)
 | [],b,n=>rfl
 | c :: a,b,n=>by rw [List.cons_append,numV,numV_app a b]; rfl
theorem figs_val : ∀ n : Nat, numV (figs n) 0 = n := by
  intro n
  induction n using Nat.strongRecOn with
  | ind n ih =>
    rw [figs]
    split
    · rename_i h; simp only [numV, ofNat_fig h]; omega
    · rw [numV_app, ih _ (by omega)]
      simp only [numV, ofNat_fig (show n % 10 < 10 by omega)]; omega
theorem figs_head : ∀ n : Nat, 0 < n → ∃ c l, figs n = c :: l ∧ c.toNat ≠ 48 := by
  intro n
  induction n using Nat.strongRecOn with
  | ind n ih =>
    intro h0
    rw [figs]
    split
    · rename_i h; exact ⟨_, _, rfl, by rw [ofNat_fig h]; omega⟩
    · obtain ⟨c, l, h1, h2⟩ := ih (n / 10) (by omega) (by omega)
      exact ⟨c, l ++ _, by rw [h1]; rfl, h2⟩
theorem lx_num {u:Int} (h0:0<=u) (h:u<=9223372036854775807):Lx (decZ u) [tkN u]:=by
 unfold decZ
 have hd:=figs_dg u.toNat
 have hv:=figs_val u.toNat
 rcases hf:figs u.toNat with _ | ⟨c,l⟩
 ·rw [hf] at hv
  rw [figs] at hf
  split at hf <;> simp at hf
 rw [hf] at hd hv
 have hc:isDg c=true:=by simp at hd; exact hd.1
 have hcn:48<=c.toNat/\c.toNat<=57:=by
  simp only [isDg,Bool.and_eq_true,decide_eq_true_eq] at hc; omega
 refine lx_tok rfl (by simp only [blank,Bool.or_eq_false_iff,decide_eq_false_iff_not]; omega) (by omega) fun s i b hs hb=>?_
 refine ⟨⟨1,[],u,i⟩,rfl,?_⟩
 unfold tokD numD
 rw [if_pos hc]
 simp only [runAt_app hs hd (fun c b' hc=>dg_nm (gst_nm hb c b' hc)),Nat.add_sub_cancel_left,hs,List.take_left,hv]
 rw [if_neg]
 ·refine congrArg Sum.inl (Prod.ext ?_ rfl)
  simp only [Int.toNat_of_nonneg h0]
 ·rintro (h1 | ⟨h1,h2⟩)
  ·unfold maxI at h1; omega
  ·rcases Nat.eq_zero_or_pos u.toNat with h3 | h3
   ·rw [h3] at hf
    have:figs 0=[48]:=by rw [figs]; rfl
    rw [this] at hf
    cases hf
    simp at h1
   ·obtain ⟨c',l',h4,h5⟩:=figs_head _ h3
    rw [hf] at h4
    cases h4
    exact h5 (by omega)
theorem strGo_app : ∀ (t : List UInt8) (s : List UInt8) (j : Nat) (b out : List UInt8), plainB t = true → s.drop j = (t.map quoC).flatten ++ (34 :: b) → strGo s j out = some (out ++ t, j + (t.map quoC).flatten.length + 1)
  | [], s, j, b, out, _, hd => by
    obtain ⟨hj, hc⟩ := drop_head hd
    rw [strGo, dif_pos hj, hc, if_pos (by decide)]; simp
  | c :: t, s, j, b, out, hp, hd => by
    simp only [plainB, List.all_cons, Bool.and_eq_true] at hp
    have ih := fun j' out' hd' => strGo_app t s j' b out' hp.2 hd'
    rw [List.map_cons, List.flatten_cons, List.append_assoc] at hd
    rw [List.map_cons, List.flatten_cons, List.length_append]
    by_cases h1 : (c.toNat : Int) = 10
    · have eq : quoC c = [92, 110] := by unfold quoC; rw [if_pos h1]
      rw [eq] at hd ⊢
      obtain ⟨hj, hc⟩ := drop_head hd
      have hd1 : s.drop (j + 1) = [110] ++ ((t.map quoC).flatten ++ (34 :: b)) := drop_cat (a := [92]) hd
      obtain ⟨hj1, hc1⟩ := drop_head hd1
      rw [strGo, dif_pos hj, hc, if_neg (by decide), if_pos (by decide), dif_pos hj1, hc1, if_pos (by decide), ih (j + 2) _ (drop_cat (a := [92, 110]) hd)]
      have : c = 10 := by apply UInt8.toNat_inj.1; simpa using Int.ofNat.inj h1
      subst this
      simp only [List.append_assoc, List.singleton_append, List.length_cons, List.length_nil]
      congr 2; omega
    by_cases h2 : (c.toNat : Int) = 34 ∨ (c.toNat : Int) = 92
    · have eq : quoC c = [92, c] := by unfold quoC; rw [if_neg h1, if_pos h2]
      rw [eq] at hd ⊢
      obtain ⟨hj, hc⟩ := drop_head hd
      have hd1 : s.drop (j + 1) = [c] ++ ((t.map quoC).flatten ++ (34 :: b)) := drop_cat (a := [92]) hd
      obtain ⟨hj1, hc1⟩ := drop_head hd1
      rw [strGo, dif_pos hj, hc, if_neg (by decide), if_pos (by decide), dif_pos hj1, hc1, if_neg (by omega), if_pos h2, ih (j + 2) _ (drop_cat (a := [92, c]) hd)]
      simp only [List.append_assoc, List.singleton_append, List.length_cons, List.length_nil]
      congr 2; omega
    have eq : quoC c = [c] := by unfold quoC; rw [if_neg h1, if_neg h2]
    rw [eq] at hd ⊢
    obtain ⟨hj, hc⟩ := drop_head hd
    have hpl : isPl c = true := by
      have := hp.1
      simp only [chB, Bool.or_eq_true, decide_eq_true_eq] at this
      rcases this with h | h
      · exact h
      · exact (h1 h).elim
    rw [strGo, dif_pos hj, hc, if_neg (by omega), if_neg (by omega), if_pos hpl, ih (j + 1) _ (drop_cat (a := [c]) hd)]
    simp only [List.append_assoc, List.singleton_append, List.length_cons, List.length_nil]
    congr 2; omega
theorem lx_str {t:List UInt8} (h:plainB t=true):LxS (quoD t) [tkT t]:=by
 refine lx_tok rfl (by decide) (by decide) fun s i b hd _=>?_
 refine ⟨⟨2,t,0,i⟩,rfl,?_⟩
 have hd1:s.drop (i+1)=(t.map quoC).flatten++(34 :: b):=by
  have:=drop_cat (a:=[34]) (b:=((t.map quoC).flatten++[34])++b) hd
  rw [List.append_assoc] at this; exact this
 have e2:tick s i 34=false:=by simp [tick]
 unfold tokD strD
 rw [if_neg (by decide),e2,if_neg (by decide),if_pos (by decide),strGo_app t s _ b [] h hd1]
 simp only [List.nil_append,quoD,List.length_cons,List.length_append,List.length_nil]
 congr 2; omega
theorem lx_sgn {g} {a:List UInt8} {c:UInt8} {a':List UInt8} (ha:a=c :: a') (hb:blank c=false) (hh:¬ (c.toNat:Int)=35) (hd:isDg c=false) (hs:isSm c=false) (hg:isGr c=false) (ht:¬ (c.toNat:Int)=39) (hq:¬ (c.toNat:Int)=34)
  (hl:∀ b:List UInt8,g b=true->signL (a++b) signs=a):LxP g a [tkS a]:=by
 refine lx_tok ha hb hh fun s i b hd' hb'=>?_
 refine ⟨⟨7,a,0,i⟩,rfl,?_⟩
 have e2:tick s i c=false:=by simp [tick,ht]
 unfold tokD signD
 simp only [hd,hs,hg,e2,Bool.or_false,if_neg hq,hd',hl b hb',Bool.false_eq_true,if_false]
 rw [if_neg (by rw [ha]; simp)]
theorem lx_arrow:LxS [45,62] [tkS [45,62]]:=lx_sgn rfl (by decide) (by decide) (by decide) (by decide) (by decide) (by decide) (by decide) fun b _=>by simp [signL,signs,preB]
theorem lx_put:LxS [58,61] [tkS [58,61]]:=lx_sgn rfl (by decide) (by decide) (by decide) (by decide) (by decide) (by decide) (by decide) fun b _=>by simp [signL,signs,preB]
theorem lx_minus:Lx [45] [tkS [45]]:=lx_sgn rfl (by decide) (by decide) (by decide) (by decide) (by decide) (by decide) (by decide) fun b hb=>by
 have:∀ c b',b=c :: b'->¬ c=62:=by
  rintro c b' rfl
  simp only [gst,Bool.and_eq_true,decide_eq_true_eq] at hb
  exact hb.2.2
 cases b with
 | nil=>decide
 | cons c b=>simp [signL,signs,preB,this c b rfl]
theorem lx_one {c:UInt8} (h:c∈([61,60,43,42,94,59,124,40,41,44,95,33]:List UInt8)):LxS [c] [tkS [c]]:=by
 simp only [List.mem_cons,List.not_mem_nil,or_false] at h
 rcases h with rfl|rfl|rfl|rfl|rfl|rfl|rfl|rfl|rfl|rfl|rfl|rfl <;>
  exact lx_sgn rfl (by decide) (by decide) (by decide) (by decide) (by decide) (by decide) (by decide) fun b _=>by simp [signL,signs,preB]
theorem lx_sp {g} {b:List UInt8} {us:List TK} (h:LxP g b us):LxP g (32 :: b) us:=lxs_cat (a:=[32]) (ts:=[]) (lx_blank (by decide)) h
theorem lxs_sp {a:List UInt8} {ts:List TK} (h:Lx a ts):LxS (a++[32]) ts:=by
 have:=lx_end (b:=[32]) (us:=[]) h (fun c=>by rfl) (lx_blank (by decide))
 simpa using this
theorem lx_bin {n:List UInt8} (h:binB n=true):Lx n [tkS n]:=by
 simp only [binB,decide_eq_true_eq,List.mem_cons,List.not_mem_nil,or_false] at h
 rcases h with rfl|rfl|rfl|rfl|rfl|rfl|rfl
 ·exact (lx_one (by decide)).weak
 ·exact lx_minus
 ·exact (lx_one (by decide)).weak
 ·exact (lx_one (by decide)).weak
 ·exact (lx_one (by decide)).weak
 ·exact (lx_one (by decide)).weak
 ·exact lx_put.weak
structure TF where
 f:List TK
 l:Int
 b:Bool
 q:Nat
def TF.at (y:TF) (a:Int):List TK:=if y.l<a then tkS [40] :: (y.f++[tkS [41]]) else y.f
def TF.qa (y:TF) (a:Int):Nat:=if y.l<a then y.q+1 else y.q
def TF.no:TF:=⟨[],0,false,0⟩
def joinT (sep:TK):List (List TK)->List TK
 | []=>[]
 | [a]=>a
 | a :: l=>a++(sep :: joinT sep l)
def mxq {α:Type} (f:α->Nat):List α->Nat
 | []=>0
 | a :: l=>max (f a) (mxq f l)
def patT (k:Int) (n:List UInt8) (u:Int) (ks:List TF):TF :=
 if k=2 then ⟨[tkL n],1,false,0⟩
 else if k=3 then ⟨[tkN u],1,false,0⟩
 else if k=4 then ⟨[tkK (boolW u)],1,false,0⟩
 else if k=5 then ⟨[tkS [40],tkS [41]],1,false,0⟩
 else if k=6 then ⟨tkS [40] :: (joinT (tkS [44]) (ks.map (·.at 0))++[tkS [41]]),1,false,mxq (·.qa 0+1) ks⟩
 else if k=7 then (if ks.length=0 then ⟨[tkU n],1,false,0⟩ else ⟨tkU n :: (ks.getD 0 .no).at 1,0,false,(ks.getD 0 .no).qa 1⟩)
 else ⟨[tkS [95]],1,false,0⟩
mutual
def PatD.tf:PatD->TF
 | .mk k n u p ks=>patT k n u (PatD.tfL ks)
def PatD.tfL:List PatD->List TF
 | []=>[]
 | t :: l=>t.tf :: PatD.tfL l
end
def armT (a:TF × TF):List TK:=tkS [124] :: (a.1.at 0++(tkS [45,62] :: a.2.at 0))
def tkP (n:List UInt8):TK:=if n=[33] then tkS n else tkK n
def expT (k:Int) (n:List UInt8) (u:Int) (t:List UInt8) (ks:List TF) (as':List (TF × TF)):TF :=
 if k=1 then ⟨[tkN u],6,false,0⟩
 else if k=2 then ⟨[tkT t],6,false,0⟩
 else if k=3 then ⟨[tkK (boolW u)],6,false,0⟩
 else if k=4 then ⟨[tkS [40],tkS [41]],6,false,0⟩
 else if k=5 then ⟨[tkL n],6,false,0⟩
 else if k=7 then ⟨tkS [40] :: (joinT (tkS [44]) (ks.map (·.at 0))++[tkS [41]]),6,false,mxq (·.qa 0+1) ks⟩
 else if k=14 then ⟨(ks.getD 0 .no).at (opL n).2.1++(tkS n :: (ks.getD 1 .no).at (opL n).2.2),(opL n).1,false,max ((ks.getD 0 .no).qa (opL n).2.1) ((ks.getD 1 .no).qa (opL n).2.2)⟩
 else if k=6\/k=15 then (if ks.length=0 then ⟨[if k=6 then tkU n else tkP n],6,decide (k=6),0⟩ else ⟨(if k=6 then tkU n else tkP n) :: (ks.getD 0 .no).at 6,5,false,(ks.getD 0 .no).qa 6⟩)
 else if k=9 then ⟨(ks.getD 0 .no).at (if (ks.getD 0 .no).b then 7 else 5)++(ks.getD 1 .no).at 6,5,false,max ((ks.getD 0 .no).qa (if (ks.getD 0 .no).b then 7 else 5)) ((ks.getD 1 .no).qa 6)⟩
 else if k=10 then ⟨tkK [108,101,116] :: tkL n :: tkS [61] :: ((ks.getD 0 .no).at 0++(tkK [105,110] :: (ks.getD 1 .no).at 0)),0,false,max ((ks.getD 0 .no).qa 0+1) ((ks.getD 1 .no).qa 0+1)⟩
 else if k=11 then ⟨tkK [108,101,116] :: tkK [114,101,99] :: tkL n :: tkL t :: tkS [61] :: ((ks.getD 0 .no).at 0++(tkK [105,110] :: (ks.getD 1 .no).at 0)),0,false,max ((ks.getD 0 .no).qa 0+1) ((ks.getD 1 .no).qa 0+1)⟩
 else if k=8 then ⟨tkK [102,117,110] :: tkL n :: tkS [45,62] :: (ks.getD 0 .no).at 0,0,false,(ks.getD 0 .no).qa 0+1⟩
 else if k=12 then ⟨tkK [105,102] :: ((ks.getD 0 .no).at 0++(tkK [116,104,101,110] :: ((ks.getD 1 .no).at 0++(tkK [101,108,115,101] :: (ks.getD 2 .no).at 0)))),0,false,max ((ks.getD 0 .no).qa 0+1) (max ((ks.getD 1 .no).qa 0+1) ((ks.getD 2 .no).qa 0+1))⟩
 else ⟨tkK [109,97,116,99,104] :: ((ks.getD 0 .no).at 0++(tkK [119,105,116,104] :: ((as'.map armT).flatten++[tkK [101,110,100]]))),0,false,max ((ks.getD 0 .no).qa 0+1) (mxq (fun a=>max (a.1.qa 0+1) (a.2.qa 0+1)) as')⟩
mutual
def ExpD.tf:ExpD->TF
 | .mk k n u t p ks as'=>expT k n u t (ExpD.tfL ks) (ExpD.tfA as')
def ExpD.tfL:List ExpD->List TF
 | []=>[]
 | t :: l=>t.tf :: ExpD.tfL l
def ArmD.tf:ArmD->TF × TF
 | .mk p e=>(p.tf,e.tf)
def ExpD.tfA:List ArmD->List (TF × TF)
 | []=>[]
 | t :: l=>t.tf :: ExpD.tfA l
end
structure LR (x:KF) (y:TF):Prop where
 lx:Lx x.f y.f
 l:x.l=y.l
 b:x.b=y.b
theorem lr_no:LR .no .no:=⟨lx_nil,rfl,rfl⟩
theorem lx_br {a:List UInt8} {ts:List TK} (h:Lx a ts):LxS (40 :: (a++[41])) (tkS [40] :: (ts++[tkS [41]])) :=
 lxs_cat (a:=[40]) (ts:=[tkS [40]]) (lx_one (by decide)) (lx_end h (fun c=>rfl) (lx_one (by decide)))
theorem LR.at {x:KF} {y:TF} (h:LR x y) (a:Int):Lx (x.at a) (y.at a):=by
 unfold KF.at TF.at rnd
 rw [h.l]
 split
 ·exact (lx_br h.lx).weak
 ·exact h.lx
inductive LRL:List KF->List TF->Prop
 | nil:LRL [] []
 | cons {x y l m}:LR x y->LRL l m->LRL (x :: l) (y :: m)
theorem LRL.get {l : List KF} {m : List TF} (h : LRL l m) : ∀ i, LR (l.getD i .no) (m.getD i .no) := by
  induction h with
  | nil => intro i; simpa using lr_no
  | cons h1 h2 ih =>
    intro i
    cases i with
    | zero => simpa using h1
    | succ i => simpa using ih i
theorem LRL.len {l:List KF} {m:List TF} (h:LRL l m):l.length=m.length:=by
 induction h with
 | nil=>rfl
 | cons h1 h2 ih=>simp [ih]
theorem joinD_cons2 (sep:List UInt8) (a b:List UInt8) (l):joinD sep (a :: b :: l)=a++(sep++joinD sep (b :: l)):=rfl
theorem joinT_cons2 (sep:TK) (a b:List TK) (l):joinT sep (a :: b :: l)=a++(sep :: joinT sep (b :: l)):=rfl
theorem LRL.join {sep : List UInt8} {st : TK} (hs : LxS sep [st]) (hg : ∀ b, gst (sep ++ b) = true) (a : Int) {l : List KF} {m : List TF} (h : LRL l m) : Lx (joinD sep (l.map (·.at a))) (joinT st (m.map (·.at a))) := by
  induction h with
  | nil => exact lx_nil
  | @cons x y l m h1 h2 ih =>
    cases h2 with
    | nil => exact h1.at a
    | cons k1 k2 =>
      simp only [List.map_cons, joinD_cons2, joinT_cons2] at ih ⊢
      exact lx_cat (h1.at a) (hg _) (lxs_cat (ts := [st]) hs ih)
theorem lx_k1 {a b:List UInt8} {t:TK} {us:List TK} (h:Lx a [t]) (hb:gst b=true) (k:Lx b us):Lx (a++b) (t :: us):=lx_cat (ts:=[t]) h hb k
theorem lx_s1 {g} {a b:List UInt8} {t:TK} {us:List TK} (h:LxS a [t]) (k:LxP g b us):LxP g (a++b) (t :: us):=lxs_cat (ts:=[t]) h k
theorem lxs_kb {w:List UInt8} (h:isKey w=true):LxS (w++[32]) [tkK w]:=lxs_sp (lx_key h)
theorem lxs_bkb {w:List UInt8} (h:isKey w=true):LxS (32 :: (w++[32])) [tkK w]:=lx_sp (lxs_kb h)
theorem lxs_bsb {w:List UInt8} (h:LxS w [tkS w]):LxS (32 :: (w++[32])) [tkS w]:=lx_sp (lxs_sp h.weak)
theorem boolW_key (u:Int):isKey (boolW u)=true:=by unfold boolW; split <;> decide
theorem lx_unit {g}:LxP g [40,41] [tkS [40],tkS [41]]:=lx_s1 (a:=[40]) (lx_one (by decide)) ((lx_one (by decide)).weak)
theorem lx_tup {l:List KF} {m:List TF} (h:LRL l m):Lx (40 :: (joinD [44,32] (l.map (·.at 0))++[41])) (tkS [40] :: (joinT (tkS [44]) (m.map (·.at 0))++[tkS [41]])) :=
 (lx_br (h.join (lxs_sp (a:=[44]) (ts:=[tkS [44]]) (lx_one (by decide)).weak) (fun b=>rfl) 0)).weak
theorem lx_pat {k:Int} {n:List UInt8} {u p m:Int} {ks:List KF} {ts:List TF} (hk:patH k n u p m=true) (hu:u<=9223372036854775807) (hm:m=ks.length) (h:LRL ks ts):LR (patG k n u ks) (patT k n u ts):=by
 have g:=h.get
 have hl:=h.len
 unfold patH at hk
 unfold patG patT
 by_cases h2:k=2
 ·rw [if_pos h2,if_pos h2]; subst h2; simp at hk
  exact ⟨lx_low hk.1.2.1,rfl,rfl⟩
 rw [if_neg h2,if_neg h2]
 by_cases h3:k=3
 ·rw [if_pos h3,if_pos h3]; subst h3; simp at hk
  exact ⟨lx_num hk.1.2.2 hu,rfl,rfl⟩
 rw [if_neg h3,if_neg h3]
 by_cases h4:k=4
 ·rw [if_pos h4,if_pos h4]
  exact ⟨lx_key (boolW_key u),rfl,rfl⟩
 rw [if_neg h4,if_neg h4]
 by_cases h5:k=5
 ·rw [if_pos h5,if_pos h5]
  exact ⟨lx_unit,rfl,rfl⟩
 rw [if_neg h5,if_neg h5]
 by_cases h6:k=6
 ·rw [if_pos h6,if_pos h6]
  exact ⟨lx_tup h,rfl,rfl⟩
 rw [if_neg h6,if_neg h6]
 by_cases h7:k=7
 ·rw [if_pos h7,if_pos h7]; subst h7; simp at hk
  rw [hl]
  split
  ·exact ⟨lx_up hk.1.2.1,rfl,rfl⟩
  ·exact ⟨lx_k1 (lx_up hk.1.2.1) rfl (lx_sp ((g 0).at 1)),rfl,rfl⟩
 rw [if_neg h7,if_neg h7]
 exact ⟨(lx_one (by decide)).weak,rfl,rfl⟩
mutual
theorem PatD.lx : ∀ t : PatD, t.okB = true → t.fit → LR t.kf t.tf
  | .mk k n u p ks, h, hf => by
    rw [PatD.okB, Bool.and_eq_true] at h
    rw [PatD.fit] at hf
    rw [PatD.kf, PatD.tf]
    exact lx_pat h.1 hf.1 (by rw [PatD.kfL_eq, List.length_map]) (PatD.lxL ks h.2 hf.2)
theorem PatD.lxL : ∀ l : List PatD, PatD.okL l = true → PatD.fitL l → LRL (PatD.kfL l) (PatD.tfL l)
  | [], _, _ => .nil
  | t :: l, h, hf => by
    rw [PatD.okL, Bool.and_eq_true] at h
    rw [PatD.fitL] at hf
    exact .cons (PatD.lx t h.1 hf.1) (PatD.lxL l h.2 hf.2)
end
inductive LRA:List (List UInt8 × KF)->List (TF × TF)->Prop
 | nil:LRA [] []
 | cons {x y z w l m}:Lx x (z.at 0)->LR y w->LRA l m->LRA ((x,y) :: l) ((z,w) :: m)
theorem LRA.flat {l : List (List UInt8 × KF)} {m : List (TF × TF)} (h : LRA l m) {b : List UInt8} {us : List TK} (hb : gst b = true) (k : Lx b us) : Lx ((l.map armF).flatten ++ b) ((m.map armT).flatten ++ us) ∧ gst ((l.map armF).flatten ++ b) = true := by
  induction h with
  | nil => exact ⟨k, hb⟩
  | @cons x y z w l m h1 h2 h3 ih =>
    simp only [List.map_cons, List.flatten_cons, armF, armT, List.append_assoc, List.cons_append]
    refine ⟨lx_s1 (lxs_bsb (w := [124]) (lx_one (by decide))) (lx_cat h1 rfl (lx_s1 (lxs_bsb (w := [45, 62]) lx_arrow) (lx_cat (h2.at 0) ih.2 ih.1))), rfl⟩
theorem prim_tok {n:List UInt8} (h:primB n=true):Lx n [tkP n]:=by
 simp only [primB,decide_eq_true_eq,List.mem_cons,List.not_mem_nil,or_false] at h
 unfold tkP
 rcases h with rfl|rfl|rfl|rfl|rfl
 ·exact lx_key (by decide)
 ·exact lx_key (by decide)
 ·exact lx_key (by decide)
 ·exact lx_key (by decide)
 ·exact (lx_one (by decide)).weak
theorem arity_cases {n:List UInt8} {m:Int} (h:m=arity n) (hm:0<=m):(n=[114,101,97,100]/\m=0)\/(primB n=true/\m=1):=by
 unfold arity at h
 split at h
 ·rename_i hn; exact .inl ⟨hn,h⟩
 ·split at h
  ·rename_i hp; exact .inr ⟨hp,h⟩
  ·omega
theorem lx_exp {k:Int} {n:List UInt8} {u:Int} {t:List UInt8} {p m a:Int} {ks:List KF} {ts:List TF} {as':List (List UInt8 × KF)} {as2:List (TF × TF)} (hk:expH k n u t p m a=true) (hu:u<=9223372036854775807) (hm:m=ks.length) (h:LRL ks ts) (hA:LRA as' as2):LR (expG k n u t ks as') (expT k n u t ts as2):=by
 have g:=h.get
 have hl:=h.len
 have hb:=(g 0).b
 unfold expH at hk
 unfold expG expT
 by_cases h1:k=1
 ·rw [if_pos h1,if_pos h1]; subst h1; simp at hk
  exact ⟨lx_num hk.1.2.2.1 hu,rfl,rfl⟩
 rw [if_neg h1,if_neg h1]
 by_cases h2:k=2
 ·rw [if_pos h2,if_pos h2]; subst h2; simp at hk
  exact ⟨(lx_str hk.1.2.2.2).weak,rfl,rfl⟩
 rw [if_neg h2,if_neg h2]
 by_cases h3:k=3
 ·rw [if_pos h3,if_pos h3]
  exact ⟨lx_key (boolW_key u),rfl,rfl⟩
 rw [if_neg h3,if_neg h3]
 by_cases h4:k=4
 ·rw [if_pos h4,if_pos h4]
  exact ⟨lx_unit,rfl,rfl⟩
 rw [if_neg h4,if_neg h4]
 by_cases h5:k=5
 ·rw [if_pos h5,if_pos h5]; subst h5; simp at hk
  exact ⟨lx_low hk.1.2.1,rfl,rfl⟩
 rw [if_neg h5,if_neg h5]
 by_cases h7:k=7
 ·rw [if_pos h7,if_pos h7]
  exact ⟨lx_tup h,rfl,rfl⟩
 rw [if_neg h7,if_neg h7]
 by_cases h14:k=14
 ·rw [if_pos h14,if_pos h14]; subst h14; simp at hk
  exact ⟨lx_cat ((g 0).at _) rfl (lx_sp (lx_k1 (lx_bin hk.1.2.1) rfl (lx_sp ((g 1).at _)))),rfl,rfl⟩
 rw [if_neg h14,if_neg h14]
 by_cases h6:k=6\/k=15
 ·rw [if_pos h6,if_pos h6,hl]
  have hn:Lx n [if k=6 then tkU n else tkP n]:=by
   rcases h6 with rfl | rfl
   ·simp at hk
    exact lx_up hk.1.2.1
   ·simp at hk
    rcases arity_cases hk.1.1 (by omega) with ⟨rfl,-⟩ | ⟨hp,-⟩
    ·exact lx_key (a:=[114,101,97,100]) (by decide)
    ·exact prim_tok hp
  split
  ·exact ⟨hn,rfl,rfl⟩
  ·exact ⟨lx_k1 hn rfl (lx_sp ((g 0).at 6)),rfl,rfl⟩
 rw [if_neg h6,if_neg h6]
 by_cases h9:k=9
 ·rw [if_pos h9,if_pos h9,hb]
  exact ⟨lx_cat ((g 0).at _) rfl (lx_sp ((g 1).at 6)),rfl,rfl⟩
 rw [if_neg h9,if_neg h9]
 have eqs:LxS [32,61,32] [tkS [61]]:=lxs_bsb (w:=[61]) (lx_one (by decide))
 have ins:LxS [32,105,110,32] [tkK [105,110]]:=lxs_bkb (w:=[105,110]) (by decide)
 by_cases h10:k=10
 ·rw [if_pos h10,if_pos h10]; subst h10; simp at hk
  exact ⟨lx_s1 (lxs_kb (w:=[108,101,116]) (by decide)) (lx_k1 (lx_low hk.1.2.1) rfl (lx_s1 eqs (lx_cat ((g 0).at 0) rfl (lx_s1 ins ((g 1).at 0))))),rfl,rfl⟩
 rw [if_neg h10,if_neg h10]
 by_cases h11:k=11
 ·rw [if_pos h11,if_pos h11]; subst h11; simp at hk
  exact ⟨lx_s1 (a:=[108,101,116,32]) (lxs_kb (w:=[108,101,116]) (by decide)) (lx_s1 (a:=[114,101,99,32]) (lxs_kb (w:=[114,101,99]) (by decide)) (lx_k1 (lx_low hk.1.2.1) rfl (lx_sp (lx_k1 (lx_low hk.1.2.2.2) rfl (lx_s1 eqs (lx_cat ((g 0).at 0) rfl (lx_s1 ins ((g 1).at 0)))))))),rfl,rfl⟩
 rw [if_neg h11,if_neg h11]
 by_cases h8:k=8
 ·rw [if_pos h8,if_pos h8]; subst h8; simp at hk
  exact ⟨lx_s1 (lxs_kb (w:=[102,117,110]) (by decide)) (lx_k1 (lx_low hk.1.2.1) rfl (lx_s1 (lxs_bsb (w:=[45,62]) lx_arrow) ((g 0).at 0))),rfl,rfl⟩
 rw [if_neg h8,if_neg h8]
 by_cases h12:k=12
 ·rw [if_pos h12,if_pos h12]
  exact ⟨lx_s1 (lxs_kb (w:=[105,102]) (by decide)) (lx_cat ((g 0).at 0) rfl (lx_s1 (lxs_bkb (w:=[116,104,101,110]) (by decide)) (lx_cat ((g 1).at 0) rfl (lx_s1 (lxs_bkb (w:=[101,108,115,101]) (by decide)) ((g 2).at 0))))),rfl,rfl⟩
 rw [if_neg h12,if_neg h12]
 have he:=hA.flat (b:=[32,101,110,100]) (us:=[tkK [101,110,100]]) rfl (lx_sp (lx_key (a:=[101,110,100]) (by decide)))
 exact ⟨lx_s1 (lxs_kb (w:=[109,97,116,99,104]) (by decide)) (lx_cat ((g 0).at 0) rfl (lx_sp (lx_k1 (lx_key (a:=[119,105,116,104]) (by decide)) he.2 he.1))),rfl,rfl⟩
mutual
theorem ExpD.lx : ∀ t : ExpD, t.okB = true → t.fit → LR t.kf t.tf
  | .mk k n u t p ks as', h, hf => by
    rw [ExpD.okB, Bool.and_eq_true, Bool.and_eq_true] at h
    rw [ExpD.fit] at hf
    rw [ExpD.kf, ExpD.tf]
    exact lx_exp h.1 hf.1 (by rw [ExpD.kfL_eq, List.length_map]) (ExpD.lxL ks h.2.1 hf.2.1) (ExpD.lxA as' h.2.2 hf.2.2)
theorem ExpD.lxL : ∀ l : List ExpD, ExpD.okL l = true → ExpD.fitL l → LRL (ExpD.kfL l) (ExpD.tfL l)
  | [], _, _ => .nil
  | t :: l, h, hf => by
    rw [ExpD.okL, Bool.and_eq_true] at h
    rw [ExpD.fitL] at hf
    exact .cons (ExpD.lx t h.1 hf.1) (ExpD.lxL l h.2 hf.2)
theorem ExpD.lxA : ∀ l : List ArmD, ExpD.okA l = true → ExpD.fitA l → LRA (ExpD.kfA l) (ExpD.tfA l)
  | [], _, _ => .nil
  | .mk p e :: l, h, hf => by
    rw [ExpD.okA, ArmD.okB, Bool.and_eq_true, Bool.and_eq_true] at h
    rw [ExpD.fitA, ArmD.fit] at hf
    rw [ExpD.kfA, ExpD.tfA, ArmD.kf, ArmD.tf]
    exact .cons ((PatD.lx p h.1.1 hf.1.1).at 0) (ExpD.lx e h.1.2 hf.1.2) (ExpD.lxA l h.2 hf.2)
end
theorem lx_whole {g} {s:List UInt8} {ts:List TK} (h:LxP g s ts) (hg:g []=true) (most:Nat) :
  (ts.length<=most/\∃ T:List Tok,T.map Tok.b=ts++[(8,[],0)]/\lexGo s most 0 []=.inl T)\/(most<ts.length/\∃ p,lexGo s most 0 []=.inr (5,p)):=by
 rcases h s 0 [] [] most (by simp) hg (Nat.zero_le _) with ⟨h1,L,h2,h3⟩ | ⟨h1,p,h2⟩
 ·refine .inl ⟨by simpa using h1,L++[⟨8,[],0,s.length⟩],by simp [h2,Tok.b],?_⟩
  rw [h3,lexGo_end (by omega),List.nil_append]
 ·exact .inr ⟨by simpa using h1,p,h2⟩
mutual
def PatD.er:PatD->PatD
 | .mk k n u p ks=>.mk k n u 0 (PatD.erL ks)
def PatD.erL:List PatD->List PatD
 | []=>[]
 | t :: l=>t.er :: PatD.erL l
end
mutual
def ExpD.er:ExpD->ExpD
 | .mk k n u t p ks as'=>.mk k n u t 0 (ExpD.erL ks) (ExpD.erA as')
def ExpD.erL:List ExpD->List ExpD
 | []=>[]
 | t :: l=>t.er :: ExpD.erL l
def ArmD.er:ArmD->ArmD
 | .mk p e=>.mk p.er e.er
def ExpD.erA:List ArmD->List ArmD
 | []=>[]
 | t :: l=>t.er :: ExpD.erA l
end
theorem PatD.erL_eq (l:List PatD):PatD.erL l=l.map PatD.er:=by
 induction l with
 | nil=>rfl
 | cons t l ih=>rw [PatD.erL,ih]; rfl
theorem ExpD.erL_eq (l:List ExpD):ExpD.erL l=l.map ExpD.er:=by
 induction l with
 | nil=>rfl
 | cons t l ih=>rw [ExpD.erL,ih]; rfl
theorem ExpD.erA_eq (l:List ArmD):ExpD.erA l=l.map ArmD.er:=by
 induction l with
 | nil=>rfl
 | cons t l ih=>rw [ExpD.erA,ih]; rfl
def tT (x:List UInt8) (g:TK):Bool:=(decide (g.1=6) || decide (g.1=7)) && decide (g.2.1=x)
def tK (k:Int) (g:TK):Bool:=decide (g.1=k)
def Rest (T:List Tok) (s:PS) (r:List TK):Prop:=(T.drop s.i).map Tok.b=r
def mv (s:PS) (n D:Nat):PS:={ s with i:=s.i+n,d:=max s.d D }
def Gd (T:List Tok) (g:PS->Bool) (p:TK->Bool):Prop:=∀ s h r,s.c=0->Rest T s (h :: r)->g s=p h
def Fl (T:List Tok) (s:PS):Prop:=s.c=12/\s.i<T.length
section
variable {T:List Tok}
theorem rest_tok {s:PS} {g:TK} {r:List TK} (h:Rest T s (g :: r)):(tokA T s).b=g/\s.i<T.length:=by
 unfold Rest at h
 have hi:s.i<T.length:=by
  have:=congrArg List.length h
  simp at this; omega
 rw [List.drop_eq_getElem_cons hi,List.map_cons] at h
 refine ⟨?_,hi⟩
 rw [<- (List.cons.inj h).1]
 simp [tokA,hi]
theorem rest_mv {s:PS} {ts r:List TK} (D:Nat) (h:Rest T s (ts++r)):Rest T (mv s ts.length D) r:=by
 unfold Rest at h ⊢
 show (T.drop (s.i+ts.length)).map Tok.b=r
 rw [<- List.drop_drop,List.map_drop,h,List.drop_left]
theorem rest_len {s:PS} {ts r:List TK} (h:Rest T s (ts++r)):ts.length+r.length<=T.length:=by
 have:=congrArg List.length h
 simp at this; omega
theorem mv_mv (s:PS) (n m D E:Nat):mv (mv s n D) m E=mv s (n+m) (max D E):=by
 simp [mv,Nat.add_assoc,Nat.max_assoc]
theorem mv_adv (s:PS) (n D:Nat):mv (adv s) n D=mv s (n+1) D:=by
 simp [mv,adv]; omega
theorem mv_0 {s:PS} {D:Nat} (h:D<=s.d):mv s 0 D=s:=by
 simp [mv,Nat.max_eq_left h]
theorem rest_adv {s:PS} {g:TK} {r:List TK} (h:Rest T s (g :: r)):Rest T (adv s) r:=by
 have:=rest_mv (ts:=[g]) 0 h
 exact this
theorem gd_t (x):Gd T (isT T x) (tT x):=fun s h r hc hr=>by
 have:=(rest_tok hr).1
 subst this
 simp only [isT,tT,hc,Tok.b,decide_true,Bool.true_and]; rfl
theorem gd_k (k):Gd T (isK T k) (tK k):=fun s h r hc hr=>by
 have:=(rest_tok hr).1
 subst this
 simp only [isK,tK,hc,Tok.b,decide_true,Bool.true_and]; rfl
theorem Gd.or {f g p q} (hf:Gd T f p) (hg:Gd T g q):Gd T (fun s=>f s || g s) (fun h=>p h || q h):=fun s h r hc hr=>by
 simp only [hf s h r hc hr,hg s h r hc hr]
def patS (h:TK):Bool:=tK 3 h || tK 1 h || tK 4 h || tT [95] h || tT [116,114,117,101] h || tT [102,97,108,115,101] h || tT [40] h
def atS (h:TK):Bool:=tK 1 h || tK 2 h || tK 3 h || tK 4 h || tT [116,114,117,101] h || tT [102,97,108,115,101] h || tT [114,101,97,100] h || tT [40] h
def prS (h:TK):Bool:=tT [112,114,105,110,116] h || tT [101,120,105,116] h || tT [115,105,122,101] h || tT [114,101,102] h || tT [33] h
def opS (L:List (List UInt8)) (h:TK):Bool:=tK 7 h && decide (h.2.1∈L)
theorem gd_pat:Gd T (patSt T) patS:=((((((gd_k 3).or (gd_k 1)).or (gd_k 4)).or (gd_t _)).or (gd_t _)).or (gd_t _)).or (gd_t _)
theorem gd_at:Gd T (atNx T) atS:=(((((((gd_k 1).or (gd_k 2)).or (gd_k 3)).or (gd_k 4)).or (gd_t _)).or (gd_t _)).or (gd_t _)).or (gd_t _)
theorem gd_prim:Gd T (primT T) prS:=((((gd_t _).or (gd_t _)).or (gd_t _)).or (gd_t _)).or (gd_t _)
theorem gd_op (L):Gd T (opT T L) (opS L):=fun s h r hc hr=>by
 have e:=(rest_tok hr).1
 have:=gd_k 7 s h r hc hr
 subst e
 simp only [opT,opS,this]; rfl
theorem gd_c:Gd T (fun s=>!decide (s.c=0)) (fun _=>false):=fun s h r hc _=>by simp [hc]
theorem gd_c':Gd T (fun s=>decide (s.c=0)) (fun _=>true):=fun s h r hc _=>by simp [hc]
def Rd (T:List Tok) (most lo:Nat) {α β:Type} (er:α->β) (m:PM α) (ts:List TK) (x:β) (D:Nat) (ok:TK->Bool):Prop :=
 ∀ s h r,s.c=0->lo<=s.d->s.d<=most->Rest T s (ts++h :: r)->ok h=true ->
  (D<=most/\∃ y,er y=x/\m s=(y,mv s ts.length D))\/(most<D/\Fl T (m s).2)
def Nx (p:TK->Bool) (ts:List TK) (ok:TK->Bool):Prop:=∀ h,ok h=true->p ((ts++[h]).headD h)=true
theorem nx_nil {p ok:TK->Bool} (h:∀ x,ok x=true->p x=true):Nx p [] ok:=fun x hx=>h x hx
theorem nx_cons {p ok:TK->Bool} {g:TK} {ts:List TK} (h:p g=true):Nx p (g :: ts) ok:=fun x hx=>h
theorem nx_any {ok:TK->Bool} {ts:List TK}:Nx (fun _=>true) ts ok:=fun x hx=>rfl
variable {most lo:Nat} {α β γ δ:Type} {er:α->β} {er2:γ->δ} {ok ok1:TK->Bool}
theorem rd_ret {a:α} {x:β} (h:er a=x):Rd T most lo er (retP a) [] x lo ok:=fun s g r hc hlo hd hr hk =>
 .inl ⟨by omega,a,h,by rw [List.length_nil,mv_0 hlo]; rfl⟩
theorem Rd.cast {m:PM α} {ts ts':List TK} {x:β} {D D':Nat} (h:Rd T most lo er m ts x D ok) (ht:ts=ts') (hD:D=D'):Rd T most lo er m ts' x D' ok:=by
 subst ht; subst hD; exact h
theorem Rd.low {m:PM α} {ts:List TK} {x:β} {D lo':Nat} (h:Rd T most lo er m ts x D ok) (hl:lo<=lo'):Rd T most lo' er m ts x D ok :=
 fun s g r hc hlo hd hr hk=>h s g r hc (by omega) hd hr hk
theorem Rd.okw {m:PM α} {ts:List TK} {x:β} {D:Nat} (h:Rd T most lo er m ts x D ok) (hl:∀ g,ok1 g=true->ok g=true):Rd T most lo er m ts x D ok1 :=
 fun s g r hc hlo hd hr hk=>h s g r hc hlo hd hr (hl g hk)
theorem nx_split {p ok:TK->Bool} {ts:List TK} (h:Nx p ts ok) {g:TK} {r:List TK} (hg:ok g=true):∃ g' r',ts++g :: r=g' :: r'/\p g'=true:=by
 have:=h g hg
 cases ts with
 | nil=>exact ⟨g,r,rfl,this⟩
 | cons t ts=>exact ⟨t,ts++g :: r,rfl,this⟩
theorem rd_bind {m:PM γ} {k:γ->PM α} {ts1 ts2:List TK} {x1:δ} {x:β} {D1 D2:Nat} (h1:Rd T most lo er2 m ts1 x1 D1 ok1) (hst:∀ a,StayM T (k a)) (h2:∀ y,er2 y=x1->Rd T most lo er (k y) ts2 x D2 ok) (hok:Nx ok1 ts2 ok) :
  Rd T most lo er (bindP m k) (ts1++ts2) x (max D1 D2) ok:=fun s g r hc hlo hd hr hk=>by
 obtain ⟨g',r',e1,e2⟩:=nx_split hok (r:=r) hk
 rw [List.append_assoc] at hr
 have hr1:=hr
 rw [e1] at hr1
 unfold bindP
 rcases h1 s g' r' hc hlo hd hr1 e2 with ⟨k1,y,k2,k3⟩ | ⟨k1,k2,k3⟩
 ·rw [k3]
  rcases h2 y k2 (mv s ts1.length D1) g r hc (Nat.le_trans hlo (Nat.le_max_left _ _)) (Nat.max_le.2 ⟨hd,k1⟩) (rest_mv D1 hr) hk with ⟨j1,z,j2,j3⟩ | ⟨j1,j2⟩
  ·refine .inl ⟨Nat.max_le.2 ⟨k1,j1⟩,z,j2,?_⟩
   rw [j3,mv_mv,List.length_append]
  ·exact .inr ⟨by omega,j2⟩
 ·have:=(hst (m s).1 _ k3).2.2.1 (by rw [k2]; decide)
  refine .inr ⟨by omega,?_⟩
  rw [this]; exact ⟨k2,k3⟩
theorem rd_seq {m:PM γ} {k:γ->PM α} {ts1 ts2 ts:List TK} {x1:δ} {x:β} {D D1 D2:Nat} (h1:Rd T most lo er2 m ts1 x1 D1 ok1) (hst:∀ a,StayM T (k a)) (h2:∀ y,er2 y=x1->Rd T most lo er (k y) ts2 x D2 ok) (hok:Nx ok1 ts2 ok) (hts:ts1++ts2=ts) (hD:max D1 D2=D) :
  Rd T most lo er (bindP m k) ts x D ok:=(rd_bind h1 hst h2 hok).cast hts hD
theorem rd_last {m:PM γ} {k:γ->PM α} {ts:List TK} {x1:δ} {x:β} {D:Nat} (h1:Rd T most lo er2 m ts x1 D ok1) (hst:∀ a,StayM T (k a)) (h2:∀ y,er2 y=x1->Rd T most lo er (k y) [] x lo ok) (hok:∀ g,ok g=true->ok1 g=true) (hD:lo<=D) :
  Rd T most lo er (bindP m k) ts x D ok:=(rd_bind h1 hst h2 (nx_nil hok)).cast (List.append_nil _) (Nat.max_eq_left hD)
theorem rd_map {m:PM γ} {f:γ->α} {ts:List TK} {x1:δ} {x:β} {D:Nat} (h1:Rd T most lo er2 m ts x1 D ok1) (hf:∀ y,er2 y=x1->er (f y)=x) (hok:∀ g,ok g=true->ok1 g=true) (hD:lo<=D) :
  Rd T most lo er (bindP m fun y=>retP (f y)) ts x D ok:=rd_last h1 (fun _=>StayM.ret _) (fun y hy=>rd_ret (hf y hy)) hok hD
theorem rd_step1 {m:PM α} {f:PS->PS} {g:TK} {ts:List TK} {x:β} {D:Nat} (hf:∀ s r,s.c=0->Rest T s (g :: r)->f s=adv s) (h:Rd T most lo er m ts x D ok):Rd T most lo er (stepP f m) (g :: ts) x D ok:=fun s h' r hc hlo hd hr hk=>by
 have:=h (adv s) h' r hc hlo hd (rest_adv hr) hk
 rw [mv_adv] at this
 unfold stepP
 rw [hf s _ hc hr]
 exact this
theorem rd_want {m:PM α} {g:TK} {x0:List UInt8} {ts:List TK} {x:β} {D:Nat} (hp:tT x0 g=true) (h:Rd T most lo er m ts x D ok):Rd T most lo er (stepP (wantP T x0) m) (g :: ts) x D ok :=
 rd_step1 (fun s r hc hr=>by unfold wantP; rw [gd_t x0 s g r hc hr,hp]; rfl) h
theorem rd_word {m:List UInt8->PM α} {k:Int} {n:List UInt8} {u:Int} {ts:List TK} {x:β} {D:Nat} (h:Rd T most lo er (m n) ts x D ok):Rd T most lo er (bindP (wordP T k) m) ((k,n,u) :: ts) x D ok:=fun s h' r hc hlo hd hr hk=>by
 have:=h (adv s) h' r hc hlo hd (rest_adv hr) hk
 rw [mv_adv] at this
 unfold bindP wordP
 have e:(tokA T s).t=n:=by have:=(rest_tok hr).1; exact congrArg (fun g:TK=>g.2.1) this
 rw [gd_k k s _ _ hc hr,show tK k (k,n,u)=true by simp [tK],if_pos rfl]
 simp only [e]
 exact this
theorem rd_now {k:Tok->PM α} {g:TK} {ts:List TK} {x:β} {D:Nat} (h:∀ w:Tok,w.b=g->Rd T most lo er (k w) (g :: ts) x D ok):Rd T most lo er (nowP T k) (g :: ts) x D ok:=fun s h' r hc hlo hd hr hk =>
 h _ (rest_tok hr).1 s h' r hc hlo hd hr hk
theorem rd_now0 {k:Tok->PM α} {x:β} {D:Nat} (h:∀ w:Tok,Rd T most lo er (k w) [] x D ok):Rd T most lo er (nowP T k) [] x D ok:=fun s h' r hc hlo hd hr hk =>
 h _ s h' r hc hlo hd hr hk
theorem rd_adv {m:PM α} {g:TK} {ts:List TK} {x:β} {D:Nat} (h:Rd T most lo er m ts x D ok):Rd T most lo er (advP m) (g :: ts) x D ok:=fun s h' r hc hlo hd hr hk=>by
 have:=h (adv s) h' r hc hlo hd (rest_adv hr) hk
 rw [mv_adv] at this
 exact this
theorem rd_t {f:PS->Bool} {p:TK->Bool} {m1 m2:PM α} {g:TK} {ts:List TK} {x:β} {D:Nat} (hf:Gd T f p) (hp:p g=true) (h:Rd T most lo er m1 ts x D ok):Rd T most lo er (iteG f m1 m2) (g :: ts) x D ok:=fun s h' r hc hlo hd hr hk=>by
 rw [iteG_t ((hf s g _ hc hr).trans hp)]
 exact rd_adv h s h' r hc hlo hd hr hk
theorem rd_f {f:PS->Bool} {p:TK->Bool} {m1 m2:PM α} {g:TK} {ts:List TK} {x:β} {D:Nat} (hf:Gd T f p) (hp:p g=false) (h:Rd T most lo er m2 (g :: ts) x D ok):Rd T most lo er (iteG f m1 m2) (g :: ts) x D ok:=fun s h' r hc hlo hd hr hk=>by
 rw [iteG_f ((hf s g _ hc hr).trans hp)]
 exact h s h' r hc hlo hd hr hk
theorem rd_f0 {f:PS->Bool} {p:TK->Bool} {m1 m2:PM α} {x:β} {D:Nat} (hf:Gd T f p) (hp:∀ g,ok g=true->p g=false) (h:Rd T most lo er m2 [] x D ok):Rd T most lo er (iteG f m1 m2) [] x D ok:=fun s h' r hc hlo hd hr hk=>by
 rw [iteG_f ((hf s h' _ hc hr).trans (hp h' hk))]
 exact h s h' r hc hlo hd hr hk
theorem rd_bt {f:PS->Bool} {p:TK->Bool} {m1 m2:PM α} {ts:List TK} {x:β} {D:Nat} (hf:Gd T f p) (hp:Nx p ts ok) (h:Rd T most lo er m1 ts x D ok):Rd T most lo er (iteB f m1 m2) ts x D ok:=fun s h' r hc hlo hd hr hk=>by
 obtain ⟨g',r',e1,e2⟩:=nx_split hp (r:=r) hk
 have hr1:=hr
 rw [e1] at hr1
 rw [iteB_t ((hf s g' _ hc hr1).trans e2)]
 exact h s h' r hc hlo hd hr hk
theorem rd_bf {f:PS->Bool} {p:TK->Bool} {m1 m2:PM α} {ts:List TK} {x:β} {D:Nat} (hf:Gd T f p) (hp:Nx (fun g=>!p g) ts ok) (h:Rd T most lo er m2 ts x D ok):Rd T most lo er (iteB f m1 m2) ts x D ok:=fun s h' r hc hlo hd hr hk=>by
 obtain ⟨g',r',e1,e2⟩:=nx_split hp (r:=r) hk
 have hr1:=hr
 rw [e1] at hr1
 rw [iteB_f ((hf s g' _ hc hr1).trans (by simpa using e2))]
 exact h s h' r hc hlo hd hr hk
theorem rd_deep {m:PM α} {z:α} {ts:List TK} {x:β} {d D:Nat} (hD:d<=D) (h:d<=most->Rd T most d er m ts x D ok):Rd T most lo er (deepP T most d z m) ts x D ok:=fun s h' r hc hlo hd hr hk=>by
 by_cases hm:most<d
 ·have e1:deeperP T most d s=failP T 12 s:=by
   unfold deeperP
   rw [if_pos hm,failP_0 hc]
   simp
  refine .inr ⟨by omega,?_⟩
  unfold deepP
  rw [e1,failP_0 hc]
  refine ⟨rfl,?_⟩
  obtain ⟨g',r',e1,-⟩:=nx_split (p:=fun _=>true) (ts:=ts) nx_any (r:=r) hk
  rw [e1] at hr
  exact (rest_tok hr).2
 ·have e1:deeperP T most d s={ s with d:=max s.d d }:=by
   unfold deeperP
   rw [if_neg hm]
   simp only [hc,if_true]
  have:=h (by omega) { s with d:=max s.d d } h' r hc (Nat.le_max_right _ _) (Nat.max_le.2 ⟨hd,by omega⟩) hr hk
  unfold deepP
  rw [e1,if_pos (show ({ s with d:=max s.d d }:PS).c=0 from hc)]
  have e2:mv { s with d:=max s.d d } ts.length D=mv s ts.length D:=by
   simp only [mv,Nat.max_assoc,Nat.max_eq_right hD]
  rw [<- e2]; exact this
inductive RdL (T:List Tok) (most lo:Nat) (er:α->β) (m:PM α) (ok:TK->Bool) (D:γ->Nat) (f:γ->List TK) (e:γ->β):List γ->Prop
 | nil:RdL T most lo er m ok D f e []
 | cons {a l}:Rd T most lo er m (f a) (e a) (D a) ok->RdL T most lo er m ok D f e l->RdL T most lo er m ok D f e (a :: l)
def mxl (lo:Nat) (D:γ->Nat):List γ->Nat
 | []=>lo
 | a :: l=>max (D a) (mxl lo D l)
theorem rd_many {g : PS → Bool} {p : TK → Bool} {m : PM α} (hp : Gd T g p) (hm : ∀ n, StayM T (many g m n)) {D : γ → Nat} {f : γ → List TK} {e : γ → β} {ok0 : TK → Bool} (h0 : ∀ h, ok h = true → p h = false) (hok : ∀ h, ok h = true → ok0 h = true) :
    ∀ (l : List γ) (n : Nat), RdL T most lo er m ok0 D f e l → l.length ≤ n → (∀ a ∈ l, ∃ h r, f a = h :: r ∧ p h = true ∧ ok0 h = true) → Rd T most lo (fun y => y.map er) (many g m n) ((l.map f).flatten) (l.map e) (mxl lo D l) ok
  | [], n, _, _, _ => fun s h r hc hlo hd hr hk => by
    rw [many_c ((hp s h r hc hr).trans (h0 h hk))]
    exact .inl ⟨by show lo ≤ most; omega, [], rfl, by rw [show (([] : List γ).map f).flatten.length = 0 from rfl, show mxl lo D ([] : List γ) = lo from rfl, mv_0 hlo]⟩
  | a :: l, n + 1, .cons h1 h2, hn, hh => by
    obtain ⟨g0, r0, e1, e2, e3⟩ := hh a (by simp)
    have ih := rd_many hp hm h0 hok l n h2 (by simpa using hn) (fun b hb => hh b (by simp [hb]))
    have hx : Nx ok0 ((l.map f).flatten) ok := by
      cases l with
      | nil => exact nx_nil hok
      | cons b l =>
        obtain ⟨g1, r1, k1, k2, k3⟩ := hh b (by simp)
        rw [List.map_cons, List.flatten_cons, k1]
        exact nx_cons k3
    have := rd_bind (er := fun y : List α => y.map er) (k := fun y => bindP (many g m n) fun ys => retP (y :: ys)) (x := (a :: l).map e) h1 (fun y => StayM.bind (hm n) fun _ => StayM.ret _) (fun y hy => (rd_bind ih (fun _ => StayM.ret _) (fun ys hys => rd_ret (by simp only [List.map_cons, hy, hys])) (nx_nil (fun x hx => hx))).cast (List.append_nil _) rfl) hx
    have hlo : ∀ l : List γ, lo ≤ mxl lo D l := by
      intro l
      induction l with
      | nil => exact Nat.le_refl _
      | cons b l ih => exact Nat.le_trans ih (Nat.le_max_right _ _)
    refine fun s h r hc hlo' hd hr hk => ?_
    have hr1 := hr
    rw [List.map_cons, List.flatten_cons, e1] at hr1
    have eb : many g m (n + 1) s = bindP m (fun y => bindP (many g m n) fun ys => retP (y :: ys)) s := by
      rw [many, if_pos ((hp s g0 _ hc hr1).trans e2)]; rfl
    rw [eb]
    have := this.cast (show _ = ((a :: l).map f).flatten by rw [List.map_cons, List.flatten_cons]) (show _ = mxl lo D (a :: l) by rw [mxl, Nat.max_eq_left (hlo l)])
    exact this s h r hc hlo' hd hr hk
  | a :: l, 0, _, hn, _ => by simp at hn
def Qd (T:List Tok) (N most lo:Nat) (m:PM ExpD) (g:PS->Bool) (st:ExpD->PM ExpD) (ts:List TK) (x:ExpD) (D:Nat) (ok:TK->Bool):Prop :=
 ∀ s h r,s.c=0->lo<=s.d->s.d<=most->Rest T s (ts++h :: r)->ok h=true ->
  (D<=most/\∃ y j,y.er=x/\j<=ts.length/\m s=carry g st (N - j) y (mv s ts.length D))\/(most<D/\Fl T (m s).2)
variable {N:Nat}
theorem Qd.cast {m:PM ExpD} {g st} {ts ts':List TK} {x:ExpD} {D D':Nat} (h:Qd T N most lo m g st ts x D ok) (ht:ts=ts') (hD:D=D'):Qd T N most lo m g st ts' x D' ok:=by
 subst ht; subst hD; exact h
theorem Qd.okw {m:PM ExpD} {g st} {ts:List TK} {x:ExpD} {D:Nat} (h:Qd T N most lo m g st ts x D ok) (hl:∀ g,ok1 g=true->ok g=true):Qd T N most lo m g st ts x D ok1 :=
 fun s g r hc hlo hd hr hk=>h s g r hc hlo hd hr (hl g hk)
theorem q_stop {m:PM ExpD} {g st} {p:TK->Bool} {ts:List TK} {x:ExpD} {D:Nat} (h:Qd T N most lo m g st ts x D ok) (hg:Gd T g p) (hok:∀ h,ok1 h=true->ok h=true/\p h=false):Rd T most lo ExpD.er m ts x D ok1:=fun s h' r hc hlo hd hr hk=>by
 obtain ⟨h1,h2⟩:=hok h' hk
 rcases h s h' r hc hlo hd hr h1 with ⟨k1,y,j,k2,k3,k4⟩ | k
 ·refine .inl ⟨k1,y,k2,?_⟩
  rw [k4,carry_c ((hg (mv s ts.length D) h' r hc (rest_mv D hr)).trans h2)]
 ·exact .inr k
theorem q_of {m:PM ExpD} {g:PS->Bool} {st:ExpD->PM ExpD} {ts:List TK} {x:ExpD} {D:Nat} (h:Rd T most lo ExpD.er m ts x D ok) (hst:∀ a,StayM T (carry g st N a)):Qd T N most lo (bindP m (carry g st N)) g st ts x D ok:=fun s h' r hc hlo hd hr hk=>by
 unfold bindP
 rcases h s h' r hc hlo hd hr hk with ⟨k1,y,k2,k3⟩ | ⟨k1,k2,k3⟩
 ·exact .inl ⟨k1,y,0,k2,Nat.zero_le _,by rw [k3]; rfl⟩
 ·have:=(hst (m s).1 _ k3).2.2.1 (by rw [k2]; decide)
  exact .inr ⟨k1,by rw [this]; exact ⟨k2,k3⟩⟩
theorem q_step {m:PM ExpD} {g:PS->Bool} {st:ExpD->PM ExpD} {p:TK->Bool} {ts1 ts2:List TK} {x1 x:ExpD} {D1 D2:Nat} {g0:TK} (hN:T.length<=N) (hg:Gd T g p) (h:Qd T N most lo m g st ts1 x1 D1 ok1) (hst:∀ n a,StayM T (carry g st n a))
  (h2:∀ y,y.er=x1->Rd T most lo ExpD.er (st y) (g0 :: ts2) x D2 ok) (h0:p g0=true) (h1:ok1 g0=true):Qd T N most lo m g st (ts1++g0 :: ts2) x (max D1 D2) ok:=fun s h' r hc hlo hd hr hk=>by
 rw [List.append_assoc] at hr
 have hl:=rest_len hr
 rcases h s g0 (ts2++h' :: r) hc hlo hd hr h1 with ⟨k1,y,j,k2,k3,k4⟩ | ⟨k1,k2⟩
 ·have hr2:=rest_mv D1 hr
  have e1:N - j=(N - (j+1))+1:=by simp at hl; omega
  have e2:m s=carry g st (N - (j+1)) (st y (mv s ts1.length D1)).1 (st y (mv s ts1.length D1)).2:=by
   rw [k4,e1,carry,if_pos ((hg (mv s ts1.length D1) g0 _ hc hr2).trans h0)]
  rcases h2 y k2 (mv s ts1.length D1) h' r hc (Nat.le_trans hlo (Nat.le_max_left _ _)) (Nat.max_le.2 ⟨hd,k1⟩) hr2 hk with ⟨j1,z,j2,j3⟩ | ⟨j1,j2,j3⟩
  ·refine .inl ⟨Nat.max_le.2 ⟨k1,j1⟩,z,j+1,j2,by simp; omega,?_⟩
   rw [e2,j3,mv_mv,List.length_append]
  ·refine .inr ⟨by omega,?_⟩
   have:=(hst (N - (j+1)) (st y (mv s ts1.length D1)).1 _ j3).2.2.1 (by rw [j2]; decide)
   rw [e2,this]; exact ⟨j2,j3⟩
 ·exact .inr ⟨by omega,k2⟩
end
theorem PatD.tfL_eq (l:List PatD):PatD.tfL l=l.map PatD.tf:=by
 induction l with
 | nil=>rfl
 | cons t l ih=>rw [PatD.tfL,ih]; rfl
theorem ExpD.tfL_eq (l:List ExpD):ExpD.tfL l=l.map ExpD.tf:=by
 induction l with
 | nil=>rfl
 | cons t l ih=>rw [ExpD.tfL,ih]; rfl
theorem ExpD.tfA_eq (l:List ArmD):ExpD.tfA l=l.map ArmD.tf:=by
 induction l with
 | nil=>rfl
 | cons t l ih=>rw [ExpD.tfA,ih]; rfl
theorem mxq_map {α β:Type} (f:β->Nat) (g:α->β) (l:List α):mxq f (l.map g)=mxq (fun a=>f (g a)) l:=by
 induction l with
 | nil=>rfl
 | cons a l ih=>simp only [List.map_cons,mxq,ih]
theorem mxl_eq {α:Type} (lo:Nat) (f:α->Nat) (l:List α):mxl lo (fun a=>lo+f a) l=lo+mxq f l:=by
 induction l with
 | nil=>rfl
 | cons a l ih=>simp only [mxl,mxq,ih]; omega
theorem joinT_eq (sep : TK) (a : List TK) : ∀ l : List (List TK), joinT sep (a :: l) = a ++ (l.map (sep :: ·)).flatten
  | [] => by simp [joinT]
  | b :: l => by
    rw [joinT_cons2, joinT_eq sep b l]
    simp
theorem rdl_mk {T:List Tok} {most lo:Nat} {α β γ:Type} {er:α->β} {m:PM α} {ok:TK->Bool} {D:γ->Nat} {f:γ->List TK} {e:γ->β}:∀ {l:List γ},(∀ a∈l,Rd T most lo er m (f a) (e a) (D a) ok)->RdL T most lo er m ok D f e l
 | [],_=>.nil
 | a :: l,h=>.cons (h a (by simp)) (rdl_mk fun b hb=>h b (by simp [hb]))
theorem len1 {α:Type} {l:List α} (h:(l.length:Int)=1):∃ a,l=[a]:=by
 rcases l with _ | ⟨a,_ | ⟨b,l⟩⟩
 ·simp at h
 ·exact ⟨a,rfl⟩
 ·simp at h; omega
theorem len2 {α:Type} {l:List α} (h:(l.length:Int)=2):∃ a b,l=[a,b]:=by
 rcases l with _ | ⟨a,_ | ⟨b,_ | ⟨c,l⟩⟩⟩
 ·simp at h
 ·simp at h
 ·exact ⟨a,b,rfl⟩
 ·simp at h; omega
theorem len0 {α:Type} {l:List α} (h:(l.length:Int)=0):l=[]:=by
 cases l with
 | nil=>rfl
 | cons a l=>simp at h; omega
theorem len_ge2 {α:Type} {l:List α} (h:2<=(l.length:Int)):∃ a b m,l=a :: b :: m:=by
 rcases l with _ | ⟨a,_ | ⟨b,l⟩⟩
 ·simp at h
 ·simp at h
 ·exact ⟨a,b,l,rfl⟩
section
variable (T:List Tok) (N most:Nat)
end
section
variable {T:List Tok} {N most:Nat} (hT:ToksOk T) (hN:T.length<=N)
include hT hN
end
theorem many_lenG {γ : Type} {f : γ → List TK} {l : List γ} (h : ∀ x ∈ l, ∃ h r, f x = h :: r) : l.length ≤ ((l.map f).flatten).length := by
  induction l with
  | nil => simp
  | cons a l ih =>
    obtain ⟨g, r, e⟩ := h a (by simp)
    have := ih fun x hx => h x (by simp [hx])
    simp only [List.map_cons, List.flatten_cons, List.length_append, List.length_cons, e]
    omega
section
variable {T:List Tok} {N most lo:Nat} (hT:ToksOk T) (hN:T.length<=N)
include hT hN
theorem rd_listP {α β γ:Type} {er:α->β} {m:PM α} (hm:StayM T m) {f0:List TK} {z0 z:β} {D0:Nat} {sp ok:TK->Bool} (h0:Rd T most lo er m f0 z0 D0 sp) {D:γ->Nat} {f:γ->List TK} {e:γ->β} {l:List γ}
  (hl:∀ a∈l,Rd T most lo er m (f a) (e a) (D a) sp) (mk:α->List α->α) (hz:∀ a l',er a=z0->l'.map er=l.map e->er (mk a l')=z) (s1:sp (tkS [44])=true) (s2:sp (tkS [41])=true) :
  Rd T most lo er (bindP m fun a=>bindP (many (isT T [44]) (advP m) N) fun l=>stepP (wantP T [41]) (retP (mk a l))) (f0++((l.map fun a=>tkS [44] :: f a).flatten++[tkS [41]])) z (max D0 (mxl lo D l)) ok:=fun s g r hc hlo hd hr hk=>by
 have hlen:l.length<=N:=by
  have:=rest_len hr
  have h3:=many_lenG (f:=fun x=>tkS [44] :: f x) (l:=l) fun x hx=>⟨_,_,rfl⟩
  simp only [List.length_append] at this
  omega
 have hst:∀ n,StayM T (many (isT T [44]) (advP m) n):=fun n=>StayM.manyA hT (only_isT T [44]) hm n
 have hm2:=rd_many (ok:=fun h=>decide (h=tkS [41])) (gd_t [44]) hst (fun h hh=>by rw [decide_eq_true_eq] at hh; subst hh; rfl) (fun h hh=>by rw [decide_eq_true_eq] at hh; subst hh; exact s2) l N (rdl_mk (f:=fun x=>tkS [44] :: f x) (D:=D) (e:=e) fun a ha=>rd_adv (hl a ha)) hlen (fun a ha=>⟨_,_,rfl,rfl,s1⟩)
 have hlo2:lo<=mxl lo D l:=by
  clear hm2 hl hz hlen hr
  induction l with
  | nil=>exact Nat.le_refl _
  | cons b l ih=>exact Nat.le_trans ih (Nat.le_max_right _ _)
 refine rd_seq (ok:=ok) h0 (fun _=>StayM.bind (hst N) fun _=>StayM.step (stay_want hT _) (StayM.ret _)) (fun a ha=>rd_seq hm2 (fun _=>StayM.step (stay_want hT _) (StayM.ret _)) (fun l' hl'=>rd_want (g:=tkS [41]) rfl (rd_ret (hz a l' ha hl'))) (nx_cons rfl) rfl (Nat.max_eq_left hlo2)) ?_ rfl rfl s g r hc hlo hd hr hk
 cases l with
 | nil=>exact nx_cons s2
 | cons b l=>exact nx_cons s1
end
def spP (h:TK):Bool:=!patS h
section
variable (T:List Tok) (N most:Nat)
def PE (f:List TK) (z:PatD) (q:Nat):Prop:=∀ K d,most+2<=K+d->d<=most+1->Rd T most 0 PatD.er (iPat T N most K d) f z (d+q) spP
def PA (f:List TK) (z:PatD) (q:Nat):Prop:=∀ K d,most+2<=K+(d+1)->d<=most->Rd T most d PatD.er (iPatA T N (iPat T N most K (d+1))) f z (d+q) (fun _=>true)
structure RPt (y:TF) (z:PatD):Prop where
 e:PE T N most (y.at 0) z (y.qa 0)
 a:PA T N most (y.at 1) z (y.qa 1)
 h0:∃ h r,y.at 0=h :: r/\tT [41] h=false
 h1:∃ h r,y.at 1=h :: r/\patS h=true
end
section
variable {T:List Tok} {N most:Nat} (hT:ToksOk T) (hN:T.length<=N)
include hT hN
theorem pat_pa {f z q} (h : PA T N most f z q) {g r} (hf : f = g :: r) (h4 : tK 4 g = false) : PE T N most f z q := fun K d hK hd => by
  subst hf
  cases K with
  | zero => omega
  | succ K =>
    exact rd_deep (Nat.le_add_right _ _) fun hd2 => rd_now fun w hw => rd_f (gd_k _) h4 ((h K d (by omega) hd2).okw fun _ _ => rfl)
theorem pat_listP {f0:List TK} {z0 z:PatD} {q0:Nat} (h0:PE T N most f0 z0 q0) {l:List PatD} (hl:∀ a∈l,PE T N most (a.tf.at 0) a.er (a.tf.qa 0)) (hd0:∃ h r,f0=h :: r/\tT [41] h=false)
  (hz:∀ (p:Int) (a:PatD) (l':List PatD),a.er=z0->l'.map PatD.er=l.map PatD.er->(if l'=[] then a else PatD.mk 6 [] 0 p (a :: l')).er=z) {q:Nat} (hq:max (q0+1) (mxq (fun a=>a.tf.qa 0+1) l)=q) :
  PA T N most (tkS [40] :: (f0++((l.map fun a=>tkS [44] :: a.tf.at 0).flatten++[tkS [41]]))) z q:=fun K d hK hd=>by
 obtain ⟨g,r,hf,hg⟩:=hd0
 have hs:=stay_iPat (N:=N) hT most K (d+1)
 have:=rd_listP (lo:=d) (ok:=fun _=>true) hT hN hs ((h0 K (d+1) hK (by omega)).low (Nat.zero_le d)) (l:=l) (D:=fun a=>d+(a.tf.qa 0+1)) (f:=fun a=>a.tf.at 0) (e:=PatD.er) (z:=z)
  (fun a ha=>((hl a ha K (d+1) hK (by omega)).low (Nat.zero_le d)).cast rfl (by omega))
 rw [mxl_eq] at this
 unfold iPatA
 refine rd_now fun w hw=>rd_f (gd_t _) rfl <| rd_f (gd_k _) rfl <| rd_f (gd_k _) rfl <| rd_f (gd_t _) rfl <| rd_f (gd_t _) rfl <| rd_f (gd_k _) rfl ?_
 unfold iPatBr
 refine rd_now fun w hw=>rd_want rfl ?_
 rw [hf] at this ⊢
 refine rd_f (gd_t _) hg (rd_bf gd_c (nx_cons rfl) ?_)
 exact (this (fun a l'=>if l'=[] then a else PatD.mk 6 [] 0 w.p (a :: l')) (fun a l' ha hl'=>hz _ a l' ha hl') rfl rfl).cast rfl (by omega)
theorem rpt_mk {y:TF} {z:PatD} (lv:Int) (hl:y.l=lv) (hE:PE T N most y.f z y.q) (h0:0<=lv) (hd:∃ h r,y.f=h :: r/\tT [41] h=false) (h1:1<=lv->PA T N most y.f z y.q/\∃ h r,y.f=h :: r/\patS h=true):RPt T N most y z:=by
 subst hl
 have hb:PA T N most (tkS [40] :: (y.f++[tkS [41]])) z (y.q+1):=by
  have:=pat_listP hT hN hE (l:=[]) (by simp) hd (z:=z) (fun p a l' ha hl'=>by
   have:l'=[]:=by simpa using hl'
   rw [if_pos this]; exact ha) (q:=y.q+1) (by simp [mxq])
  simpa using this
 refine ⟨?_,?_,?_,?_⟩ <;> unfold TF.at <;> try unfold TF.qa
 ·rw [if_neg (by omega),if_neg (by omega)]; exact hE
 ·by_cases h:y.l<1
  ·rw [if_pos h,if_pos h]; exact hb
  ·rw [if_neg h,if_neg h]; exact (h1 (by omega)).1
 ·rw [if_neg (by omega)]; exact hd
 ·by_cases h:y.l<1
  ·rw [if_pos h]; exact ⟨_,_,rfl,rfl⟩
  ·rw [if_neg h]; exact (h1 (by omega)).2
theorem rpt_at {g:TK} {r:List TK} {b:Bool} {q:Nat} {z:PatD} (h:PA T N most (g :: r) z q) (h4:tK 4 g=false) (hb:tT [41] g=false) (hs:patS g=true):RPt T N most ⟨g :: r,1,b,q⟩ z :=
 rpt_mk hT hN 1 rfl (pat_pa hT hN h rfl h4) (by decide) ⟨_,_,rfl,hb⟩ fun _=>⟨h,_,_,rfl,hs⟩
theorem rpt_any:RPt T N most (patT 1 [] 0 []) (.mk 1 [] 0 0 []):=rpt_at hT hN (fun K d hK hd=>rd_now fun w hw=>rd_t (gd_t _) rfl (rd_ret rfl)) rfl rfl rfl
theorem rpt_var {n:List UInt8}:RPt T N most (patT 2 n 0 []) (.mk 2 n 0 0 []):=rpt_at hT hN (fun K d hK hd=>rd_now fun w hw=>rd_f (gd_t _) rfl <| rd_t (gd_k _) rfl (rd_ret (by
 have hw2:w.t=n:=congrArg (fun g:TK=>g.2.1) hw
 rw [PatD.er,hw2]; rfl))) rfl rfl rfl
theorem rpt_int {u:Int}:RPt T N most (patT 3 [] u []) (.mk 3 [] u 0 []):=rpt_at hT hN (fun K d hK hd=>rd_now fun w hw=>rd_f (gd_t _) rfl <| rd_f (gd_k _) rfl <| rd_t (gd_k _) rfl (rd_ret (by
 have hw2:w.n=u:=congrArg (fun g:TK=>g.2.2) hw
 rw [PatD.er,hw2]; rfl))) rfl rfl rfl
theorem rpt_bool {u:Int} (h0:0<=u) (h1:u<=1):RPt T N most (patT 4 [] u []) (.mk 4 [] u 0 []):=by
 have:u=0\/u=1:=by omega
 rcases this with rfl | rfl
 ·exact rpt_at hT hN (g:=tkK [102,97,108,115,101]) (fun K d hK hd=>rd_now fun w hw=>rd_f (gd_t _) rfl <| rd_f (gd_k _) rfl <| rd_f (gd_k _) rfl <| rd_f (gd_t _) rfl <| rd_t (gd_t _) rfl (rd_ret rfl)) rfl rfl rfl
 ·exact rpt_at hT hN (g:=tkK [116,114,117,101]) (fun K d hK hd=>rd_now fun w hw=>rd_f (gd_t _) rfl <| rd_f (gd_k _) rfl <| rd_f (gd_k _) rfl <| rd_t (gd_t _) rfl (rd_ret rfl)) rfl rfl rfl
theorem rpt_unit:RPt T N most (patT 5 [] 0 []) (.mk 5 [] 0 0 []):=rpt_at hT hN (fun K d hK hd=>by
 unfold iPatA
 refine rd_now fun w hw=>rd_f (gd_t _) rfl <| rd_f (gd_k _) rfl <| rd_f (gd_k _) rfl <| rd_f (gd_t _) rfl <| rd_f (gd_t _) rfl <| rd_f (gd_k _) rfl ?_
 unfold iPatBr
 exact rd_now fun w hw=>rd_want rfl <| rd_t (gd_t _) rfl (rd_ret rfl)) rfl rfl rfl
theorem rpt_tup {a:PatD} {l:List PatD} (hl0:l≠[]) (ha:RPt T N most a.tf a.er) (hk:∀ x∈l,RPt T N most x.tf x.er):RPt T N most (patT 6 [] 0 (PatD.tfL (a :: l))) (.mk 6 [] 0 0 (PatD.erL (a :: l))):=by
 have h:=pat_listP hT hN ha.e (fun x hx=>(hk x hx).e) ha.h0 (z:=.mk 6 [] 0 0 (PatD.erL (a :: l))) (fun p b l' hb hl'=>by
  have:l'≠[]:=by rintro rfl; simp at hl'; exact hl0 hl'
  rw [if_neg this,PatD.er,PatD.erL,PatD.erL,PatD.erL_eq,PatD.erL_eq,hl',hb]) (q:=mxq (fun a=>a.tf.qa 0+1) (a :: l)) rfl
 have et:patT 6 [] 0 (PatD.tfL (a :: l))=⟨tkS [40] :: (a.tf.at 0++((l.map fun a=>tkS [44] :: a.tf.at 0).flatten++[tkS [41]])),1,false,mxq (fun a=>a.tf.qa 0+1) (a :: l)⟩:=by
  unfold patT
  rw [if_neg (by decide),if_neg (by decide),if_neg (by decide),if_neg (by decide),if_pos rfl,PatD.tfL_eq,List.map_map,List.map_cons,joinT_eq,List.map_map,mxq_map,List.append_assoc]; rfl
 rw [et]
 exact rpt_at hT hN h rfl rfl rfl
theorem rpt_ctor0 {n : List UInt8} : RPt T N most (patT 7 n 0 []) (.mk 7 n 0 0 []) := by
  have hE : PE T N most [tkU n] (.mk 7 n 0 0 []) 0 := fun K d hK hd => by
    cases K with
    | zero => omega
    | succ K =>
      refine rd_deep (Nat.le_add_right _ _) fun hd2 => rd_now fun w hw => rd_t (gd_k _) rfl (rd_bf gd_pat (fun h hh => hh) (rd_ret ?_))
      have hw2 : w.t = n := congrArg (fun g : TK => g.2.1) hw
      rw [PatD.er, hw2]; rfl
  refine rpt_mk (y := patT 7 n 0 []) hT hN 1 rfl hE (by decide) ⟨_, _, rfl, rfl⟩ fun _ => ⟨fun K d hK hd => ?_, _, _, rfl, rfl⟩
  refine rd_now fun w hw => rd_f (gd_t _) rfl <| rd_f (gd_k _) rfl <| rd_f (gd_k _) rfl <| rd_f (gd_t _) rfl <| rd_f (gd_t _) rfl <| rd_t (gd_k _) rfl (rd_ret ?_)
  have hw2 : w.t = n := congrArg (fun g : TK => g.2.1) hw
  rw [PatD.er, hw2]; rfl
theorem rpt_ctor1 {n : List UInt8} {y : TF} {z : PatD} (h : RPt T N most y z) : RPt T N most (patT 7 n 0 [y]) (.mk 7 n 0 0 [z]) := by
  have hE : PE T N most (tkU n :: y.at 1) (.mk 7 n 0 0 [z]) (y.qa 1) := fun K d hK hd => by
    cases K with
    | zero => omega
    | succ K =>
      obtain ⟨g, r, h1, h2⟩ := h.h1
      refine rd_deep (Nat.le_add_right _ _) fun hd2 => rd_now fun w hw => rd_t (gd_k _) rfl (rd_bt gd_pat (by rw [h1]; exact nx_cons h2) ?_)
      have hw2 : w.t = n := congrArg (fun g : TK => g.2.1) hw
      exact rd_map (h.a K d (by omega) hd2) (fun x hx => by rw [PatD.er, hw2, PatD.erL, PatD.erL, hx]) (fun _ _ => rfl) (by omega)
  exact rpt_mk (y := patT 7 n 0 [y]) hT hN 0 rfl hE (by decide) ⟨_, _, rfl, rfl⟩ fun h => absurd h (by decide)
mutual
theorem PatD.rt : ∀ t : PatD, t.okB = true → RPt T N most t.tf t.er
  | .mk k n u p ks, h => by
    rw [PatD.okB, Bool.and_eq_true] at h
    have ih := PatD.rtL ks h.2
    have hk := h.1
    unfold patH at hk
    rw [PatD.tf, PatD.er]
    by_cases h1 : k = 1
    · subst h1; simp at hk
      obtain ⟨⟨rfl, rfl, rfl⟩, -⟩ := hk
      exact rpt_any hT hN
    by_cases h2 : k = 2
    · subst h2; simp at hk
      obtain ⟨⟨rfl, -, rfl⟩, -⟩ := hk
      exact rpt_var hT hN
    by_cases h3 : k = 3
    · subst h3; simp at hk
      obtain ⟨⟨rfl, rfl, -⟩, -⟩ := hk
      exact rpt_int hT hN
    by_cases h4 : k = 4
    · subst h4; simp at hk
      obtain ⟨⟨rfl, rfl, h5, h6⟩, -⟩ := hk
      exact rpt_bool hT hN h5 h6
    by_cases h5 : k = 5
    · subst h5; simp at hk
      obtain ⟨⟨rfl, rfl, rfl⟩, -⟩ := hk
      exact rpt_unit hT hN
    by_cases h6 : k = 6
    · subst h6; simp at hk
      obtain ⟨a, b, l, rfl⟩ := len_ge2 (l := ks) (by have := hk.1.1; omega)
      obtain ⟨⟨-, rfl, rfl⟩, -⟩ := hk
      exact rpt_tup hT hN (by simp) (ih a (by simp)) (fun x hx => ih x (by simp [hx]))
    by_cases h7 : k = 7
    · subst h7; simp at hk
      obtain ⟨⟨hm, -, rfl⟩, -⟩ := hk
      rcases ks with _ | ⟨a, _ | ⟨b, l⟩⟩
      · exact rpt_ctor0 hT hN
      · exact rpt_ctor1 hT hN (ih a (by simp))
      · simp at hm; omega
    simp [h1, h2, h3, h4, h5, h6, h7] at hk
theorem PatD.rtL : ∀ l : List PatD, PatD.okL l = true → ∀ x ∈ l, RPt T N most x.tf x.er
  | [], _ => fun x hx => by cases hx
  | t :: l, h => fun x hx => by
    rw [PatD.okL, Bool.and_eq_true] at h
    rcases List.mem_cons.1 hx with e | hx
    · exact e ▸ PatD.rt t h.1
    · exact PatD.rtL l h.2 x hx
end
end
def sp5 (h:TK):Bool:=!atS h
def sp4 (h:TK):Bool:=!atS h && !opS [[42]] h
def sp3 (h:TK):Bool:=sp4 h && !opS [[43],[45],[94]] h
def sp2 (h:TK):Bool:=sp3 h && !(tT [61] h || tT [60] h)
def sp1 (h:TK):Bool:=sp2 h && !tT [58,61] h
def hdS (h:TK):Bool:=atS h || prS h
theorem sp12 {h} (k:sp1 h=true):sp2 h=true:=by simp only [sp1,Bool.and_eq_true] at k; exact k.1
theorem sp23 {h} (k:sp2 h=true):sp3 h=true:=by simp only [sp2,Bool.and_eq_true] at k; exact k.1
theorem sp34 {h} (k:sp3 h=true):sp4 h=true:=by simp only [sp3,Bool.and_eq_true] at k; exact k.1
theorem sp45 {h} (k:sp4 h=true):sp5 h=true:=by simp only [sp4,Bool.and_eq_true] at k; exact k.1
theorem sp1t {h} (k:sp1 h=true):tT [58,61] h=false:=by simp only [sp1,Bool.and_eq_true,Bool.not_eq_true'] at k; exact k.2
theorem sp2t {h} (k:sp2 h=true):(tT [61] h || tT [60] h)=false:=by simp only [sp2,Bool.and_eq_true,Bool.not_eq_true'] at k; exact k.2
theorem sp3t {h} (k:sp3 h=true):opS [[43],[45],[94]] h=false:=by simp only [sp3,Bool.and_eq_true,Bool.not_eq_true'] at k; exact k.2
theorem sp4t {h} (k:sp4 h=true):opS [[42]] h=false:=by simp only [sp4,Bool.and_eq_true,Bool.not_eq_true'] at k; exact k.2
theorem sp5t {h} (k:sp5 h=true):atS h=false:=by simpa [sp5] using k
def apS (T:List Tok) (N:Nat) (ex:PM ExpD):ExpD->PM ExpD:=fun a=>bindP (iAtom T N ex) fun b=>retP (node2 9 [] a.pos a b)
def rwS (T:List Tok) (side:PM ExpD):ExpD->PM ExpD:=fun a=>nowP T fun t=>advP (bindP side fun b=>retP (node2 14 t.t t.p a b))
section
variable (T:List Tok) (N most:Nat)
def XE (f:List TK) (z:ExpD) (q:Nat):Prop:=∀ K d,most+2<=K+d->d<=most+1->Rd T most 0 ExpD.er (iExp T N most K d) f z (d+q) sp1
def X1 (f:List TK) (z:ExpD) (q:Nat):Prop:=∀ K d,most+2<=K+(d+1)->d<=most->Rd T most d ExpD.er (iOnce0 T N (iExp T N most K (d+1))) f z (d+q) sp1
def X2 (f:List TK) (z:ExpD) (q:Nat):Prop:=∀ K d,most+2<=K+(d+1)->d<=most->Rd T most d ExpD.er (iOnce1 T N (iExp T N most K (d+1))) f z (d+q) sp2
def X3 (f:List TK) (z:ExpD) (q:Nat):Prop:=∀ K d,most+2<=K+(d+1)->d<=most->Qd T N most d (iRow0 T N (iExp T N most K (d+1))) (opT T [[43],[45],[94]]) (rwS T (iRow1 T N (iExp T N most K (d+1)))) f z (d+q) sp4
def X4 (f:List TK) (z:ExpD) (q:Nat):Prop:=∀ K d,most+2<=K+(d+1)->d<=most->Qd T N most d (iRow1 T N (iExp T N most K (d+1))) (opT T [[42]]) (rwS T (iApp T N (iExp T N most K (d+1)))) f z (d+q) sp5
def X5 (b:Bool) (f:List TK) (z:ExpD) (q:Nat):Prop:=∀ K d,most+2<=K+(d+1)->d<=most->Qd T N most d (iApp T N (iExp T N most K (d+1))) (atNx T) (apS T N (iExp T N most K (d+1))) f z (d+q) (fun h=>!(b && atS h))
def X6 (f:List TK) (z:ExpD) (q:Nat):Prop:=∀ K d,most+2<=K+(d+1)->d<=most->Rd T most d ExpD.er (iAtom T N (iExp T N most K (d+1))) f z (d+q) (fun _=>true)
structure RX (y:TF) (z:ExpD):Prop where
 e:XE T N most (y.at 0) z (y.qa 0)
 x1:X1 T N most (y.at 1) z (y.qa 1)
 x2:X2 T N most (y.at 2) z (y.qa 2)
 x3:X3 T N most (y.at 3) z (y.qa 3)
 x4:X4 T N most (y.at 4) z (y.qa 4)
 x5:X5 T N most y.b (y.at 5) z (y.qa 5)
 x6:X6 T N most (y.at 6) z (y.qa 6)
 x57:X5 T N most false (y.at 7) z (y.qa 7)
 h0:∃ h r,y.at 0=h :: r/\tT [41] h=false
 h1:∀ a,1<=a->∃ h r,y.at a=h :: r/\hdS h=true
 h6:∃ h r,y.at 6=h :: r/\atS h=true
end
theorem hd_no {g:TK} (h:hdS g=true):tT [41] g=false/\tT [108,101,116] g=false/\tT [102,117,110] g=false/\tT [105,102] g=false/\tT [109,97,116,99,104] g=false:=by
 obtain ⟨k,t,n⟩:=g
 refine ⟨?_,?_,?_,?_,?_⟩ <;>
 ·rw [Bool.eq_false_iff]
  intro ht
  simp only [tT,Bool.and_eq_true,Bool.or_eq_true,decide_eq_true_eq] at ht
  obtain ⟨hk,rfl⟩:=ht
  rcases hk with rfl | rfl <;> simp [hdS,atS,prS,tT,tK] at h
section
variable {T:List Tok} {N most:Nat} (hT:ToksOk T) (hN:T.length<=N)
include hT hN
theorem stay_ap (n:Nat) (a:ExpD) {ex:PM ExpD} (h:StayM T ex):StayM T (carry (atNx T) (apS T N ex) n a):=StayM.carry only_atNx (fun a=>StayM.bind (stay_iAtom hT h) fun _=>StayM.ret _) n a
theorem stay_rw {L} (n:Nat) (a:ExpD) {side:PM ExpD} (h:StayM T side):StayM T (carry (opT T L) (rwS T side) n a):=StayM.carryA hT (only_opT _) (fun t a=>StayM.bind h fun _=>StayM.ret _) n a
theorem l65 {f z q} (b:Bool) (h:X6 T N most f z q) {g r} (hf:f=g :: r) (hp:prS g=false) (h4:tK 4 g=false):X5 T N most b f z q:=fun K d hK hd=>by
 subst hf
 have hs:=stay_iExp (N:=N) hT most K (d+1)
 exact (q_of (m:=iPre T N (iExp T N most K (d+1))) (rd_now fun w hw=>rd_f gd_prim hp <| rd_f (gd_k _) h4 (h K d hK hd)) (fun a=>stay_ap hT hN N a hs)).okw fun _ _=>rfl
theorem r5 {b f z q} (h:X5 T N most b f z q) (K d) (hK:most+2<=K+(d+1)) (hd:d<=most):Rd T most d ExpD.er (iApp T N (iExp T N most K (d+1))) f z (d+q) sp5 :=
 q_stop (h K d hK hd) gd_at fun g hg=>⟨by rw [sp5t hg]; simp,sp5t hg⟩
theorem l54 {b f z q} (h:X5 T N most b f z q):X4 T N most f z q:=fun K d hK hd =>
 q_of (r5 hT hN h K d hK hd) fun a=>stay_rw hT hN N a (stay_iApp hT (stay_iExp hT most K (d+1)))
theorem r4 {f z q} (h:X4 T N most f z q) (K d) (hK:most+2<=K+(d+1)) (hd:d<=most):Rd T most d ExpD.er (iRow1 T N (iExp T N most K (d+1))) f z (d+q) sp4 :=
 q_stop (h K d hK hd) (gd_op _) fun g hg=>⟨sp45 hg,sp4t hg⟩
theorem l43 {f z q} (h:X4 T N most f z q):X3 T N most f z q:=fun K d hK hd =>
 q_of (r4 hT hN h K d hK hd) fun a=>stay_rw hT hN N a (stay_iRow1 hT (stay_iExp hT most K (d+1)))
theorem r3 {f z q} (h:X3 T N most f z q) (K d) (hK:most+2<=K+(d+1)) (hd:d<=most):Rd T most d ExpD.er (iRow0 T N (iExp T N most K (d+1))) f z (d+q) sp3 :=
 q_stop (h K d hK hd) (gd_op _) fun g hg=>⟨sp34 hg,sp3t hg⟩
theorem l32 {f z q} (h:X3 T N most f z q):X2 T N most f z q:=fun K d hK hd =>
 rd_last (ok:=sp2) (r3 hT hN h K d hK hd) (fun _=>stay_onceG hT ((only_isT T _).or (only_isT T _)) (stay_iRow0 hT (stay_iExp hT most K (d+1))))
  (fun y hy=>rd_now0 fun w=>rd_f0 ((gd_t _).or (gd_t _)) (fun g hg=>sp2t hg) (rd_ret hy)) (fun _ hg=>sp23 hg) (by omega)
theorem l21 {f z q} (h:X2 T N most f z q):X1 T N most f z q:=fun K d hK hd =>
 rd_last (ok:=sp1) (h K d hK hd) (fun _=>stay_onceG hT (only_isT T _) (stay_iOnce1 hT (stay_iExp hT most K (d+1))))
  (fun y hy=>rd_now0 fun w=>rd_f0 (gd_t _) (fun g hg=>sp1t hg) (rd_ret hy)) (fun _ hg=>sp12 hg) (by omega)
theorem l10 {f z q} (h : X1 T N most f z q) {g r} (hf : f = g :: r) (hg : hdS g = true) : XE T N most f z q := fun K d hK hd => by
  subst hf
  obtain ⟨-, h1, h2, h3, h4⟩ := hd_no hg
  cases K with
  | zero => omega
  | succ K =>
    exact rd_deep (Nat.le_add_right _ _) fun hd2 => rd_now fun w hw => rd_f (gd_t _) h1 <| rd_f (gd_t _) h2 <| rd_f (gd_t _) h3 <| rd_f (gd_t _) h4 (h K d (by omega) hd2)
theorem exp_listP {f0:List TK} {z0 z:ExpD} {q0:Nat} (h0:XE T N most f0 z0 q0) {l:List ExpD} (hl:∀ a∈l,XE T N most (a.tf.at 0) a.er (a.tf.qa 0)) (hd0:∃ h r,f0=h :: r/\tT [41] h=false)
  (hz:∀ (p:Int) (a:ExpD) (l':List ExpD),a.er=z0->l'.map ExpD.er=l.map ExpD.er->(if l'=[] then a else ExpD.mk 7 [] 0 [] p (a :: l') []).er=z) {q:Nat} (hq:max (q0+1) (mxq (fun a=>a.tf.qa 0+1) l)=q) :
  X6 T N most (tkS [40] :: (f0++((l.map fun a=>tkS [44] :: a.tf.at 0).flatten++[tkS [41]]))) z q:=fun K d hK hd=>by
 obtain ⟨g,r,hf,hg⟩:=hd0
 have hs:=stay_iExp (N:=N) hT most K (d+1)
 have:=rd_listP (lo:=d) (ok:=fun _=>true) hT hN hs ((h0 K (d+1) hK (by omega)).low (Nat.zero_le d)) (l:=l) (D:=fun a=>d+(a.tf.qa 0+1)) (f:=fun a=>a.tf.at 0) (e:=ExpD.er) (z:=z)
  (fun a ha=>((hl a ha K (d+1) hK (by omega)).low (Nat.zero_le d)).cast rfl (by omega))
 rw [mxl_eq] at this
 unfold iAtom
 refine rd_now fun w hw=>rd_f (gd_k _) rfl <| rd_f (gd_k _) rfl <| rd_f (gd_t _) rfl <| rd_f (gd_t _) rfl <| rd_f (gd_k _) rfl <| rd_f (gd_k _) rfl <| rd_f (gd_t _) rfl ?_
 unfold iBr
 refine rd_now fun w hw=>rd_want rfl ?_
 rw [hf] at this ⊢
 refine rd_f (gd_t _) hg (rd_bf gd_c (nx_cons rfl) ?_)
 exact (this (fun a l'=>if l'=[] then a else ExpD.mk 7 [] 0 [] w.p (a :: l') []) (fun a l' ha hl'=>hz _ a l' ha hl') rfl rfl).cast rfl (by omega)
theorem rx_mk {y:TF} {z:ExpD} (lv:Int) (hl:y.l=lv) (hE:XE T N most y.f z y.q) (h0:0<=lv) (hh:∃ h r,y.f=h :: r/\tT [41] h=false/\(1<=lv->hdS h=true)/\(6<=lv->atS h=true)) (hlv:lv<=6)
  (o1:1<=lv->X1 T N most y.f z y.q) (o2:2<=lv->X2 T N most y.f z y.q) (o3:3<=lv->X3 T N most y.f z y.q) (o4:4<=lv->X4 T N most y.f z y.q) (o5:5<=lv->X5 T N most y.b y.f z y.q) (o6:6<=lv->X6 T N most y.f z y.q):RX T N most y z:=by
 subst hl
 obtain ⟨g,r,hf,hh1,hh2,hh3⟩:=hh
 have b6:X6 T N most (tkS [40] :: (y.f++[tkS [41]])) z (y.q+1):=by
  have:=exp_listP hT hN hE (l:=[]) (by simp) ⟨g,r,hf,hh1⟩ (z:=z) (fun p a l' ha hl'=>by
   have:l'=[]:=by simpa using hl'
   rw [if_pos this]; exact ha) (q:=y.q+1) (by simp [mxq])
  simpa using this
 have b5:=fun b=>l65 hT hN b b6 rfl rfl rfl
 have b4:=l54 hT hN (b5 false)
 have b3:=l43 hT hN b4
 have b2:=l32 hT hN b3
 have b1:=l21 hT hN b2
 refine ⟨?_,?_,?_,?_,?_,?_,?_,?_,?_,?_,?_⟩ <;> unfold TF.at <;> try unfold TF.qa
 ·rw [if_neg (by omega),if_neg (by omega)]; exact hE
 ·by_cases h:y.l<1
  ·rw [if_pos h,if_pos h]; exact b1
  ·rw [if_neg h,if_neg h]; exact o1 (by omega)
 ·by_cases h:y.l<2
  ·rw [if_pos h,if_pos h]; exact b2
  ·rw [if_neg h,if_neg h]; exact o2 (by omega)
 ·by_cases h:y.l<3
  ·rw [if_pos h,if_pos h]; exact b3
  ·rw [if_neg h,if_neg h]; exact o3 (by omega)
 ·by_cases h:y.l<4
  ·rw [if_pos h,if_pos h]; exact b4
  ·rw [if_neg h,if_neg h]; exact o4 (by omega)
 ·by_cases h:y.l<5
  ·rw [if_pos h,if_pos h]; exact b5 _
  ·rw [if_neg h,if_neg h]; exact o5 (by omega)
 ·by_cases h:y.l<6
  ·rw [if_pos h,if_pos h]; exact b6
  ·rw [if_neg h,if_neg h]; exact o6 (by omega)
 ·rw [if_pos (by omega),if_pos (by omega)]; exact b5 _
 ·rw [if_neg (by omega)]; exact ⟨g,r,hf,hh1⟩
 ·intro a ha
  by_cases h:y.l<a
  ·rw [if_pos h]; exact ⟨_,_,rfl,rfl⟩
  ·rw [if_neg h]; exact ⟨g,r,hf,hh2 (by omega)⟩
 ·by_cases h:y.l<6
  ·rw [if_pos h]; exact ⟨_,_,rfl,rfl⟩
  ·rw [if_neg h]; exact ⟨g,r,hf,hh3 (by omega)⟩
theorem rx6 {g:TK} {r:List TK} {b:Bool} {q:Nat} {z:ExpD} (h:X6 T N most (g :: r) z q) (h5:X5 T N most b (g :: r) z q) (hs:atS g=true):RX T N most ⟨g :: r,6,b,q⟩ z:=by
 have h1:hdS g=true:=by simp [hdS,hs]
 have x4:=l54 hT hN h5
 have x3:=l43 hT hN x4
 have x2:=l32 hT hN x3
 have x1:=l21 hT hN x2
 exact rx_mk hT hN 6 rfl (l10 hT hN x1 rfl h1) (by decide) ⟨g,r,rfl,(hd_no h1).1,fun _=>h1,fun _=>hs⟩ (by decide) (fun _=>x1) (fun _=>x2) (fun _=>x3) (fun _=>x4) (fun _=>h5) (fun _=>h)
theorem rx5 {g:TK} {r:List TK} {q:Nat} {z:ExpD} (h5:X5 T N most false (g :: r) z q) (h1:hdS g=true):RX T N most ⟨g :: r,5,false,q⟩ z:=by
 have x4:=l54 hT hN h5
 have x3:=l43 hT hN x4
 have x2:=l32 hT hN x3
 have x1:=l21 hT hN x2
 exact rx_mk hT hN 5 rfl (l10 hT hN x1 rfl h1) (by decide) ⟨g,r,rfl,(hd_no h1).1,fun _=>h1,fun h=>absurd h (by decide)⟩ (by decide) (fun _=>x1) (fun _=>x2) (fun _=>x3) (fun _=>x4) (fun _=>h5) (fun h=>absurd h (by decide))
theorem rx4 {f:List TK} {q:Nat} {z:ExpD} (x4:X4 T N most f z q) (hh:∃ h r,f=h :: r/\hdS h=true):RX T N most ⟨f,4,false,q⟩ z:=by
 obtain ⟨g,r,rfl,h1⟩:=hh
 have x3:=l43 hT hN x4
 have x2:=l32 hT hN x3
 have x1:=l21 hT hN x2
 exact rx_mk hT hN 4 rfl (l10 hT hN x1 rfl h1) (by decide) ⟨g,r,rfl,(hd_no h1).1,fun _=>h1,fun h=>absurd h (by decide)⟩ (by decide) (fun _=>x1) (fun _=>x2) (fun _=>x3) (fun _=>x4) (fun h=>absurd h (by decide)) (fun h=>absurd h (by decide))
theorem rx3 {f:List TK} {q:Nat} {z:ExpD} (x3:X3 T N most f z q) (hh:∃ h r,f=h :: r/\hdS h=true):RX T N most ⟨f,3,false,q⟩ z:=by
 obtain ⟨g,r,rfl,h1⟩:=hh
 have x2:=l32 hT hN x3
 have x1:=l21 hT hN x2
 exact rx_mk hT hN 3 rfl (l10 hT hN x1 rfl h1) (by decide) ⟨g,r,rfl,(hd_no h1).1,fun _=>h1,fun h=>absurd h (by decide)⟩ (by decide) (fun _=>x1) (fun _=>x2) (fun _=>x3) (fun h=>absurd h (by decide)) (fun h=>absurd h (by decide)) (fun h=>absurd h (by decide))
theorem rx2 {f:List TK} {q:Nat} {z:ExpD} (x2:X2 T N most f z q) (hh:∃ h r,f=h :: r/\hdS h=true):RX T N most ⟨f,2,false,q⟩ z:=by
 obtain ⟨g,r,rfl,h1⟩:=hh
 have x1:=l21 hT hN x2
 exact rx_mk hT hN 2 rfl (l10 hT hN x1 rfl h1) (by decide) ⟨g,r,rfl,(hd_no h1).1,fun _=>h1,fun h=>absurd h (by decide)⟩ (by decide) (fun _=>x1) (fun _=>x2) (fun h=>absurd h (by decide)) (fun h=>absurd h (by decide)) (fun h=>absurd h (by decide)) (fun h=>absurd h (by decide))
theorem rx1 {f:List TK} {q:Nat} {z:ExpD} (x1:X1 T N most f z q) (hh:∃ h r,f=h :: r/\hdS h=true):RX T N most ⟨f,1,false,q⟩ z:=by
 obtain ⟨g,r,rfl,h1⟩:=hh
 exact rx_mk hT hN 1 rfl (l10 hT hN x1 rfl h1) (by decide) ⟨g,r,rfl,(hd_no h1).1,fun _=>h1,fun h=>absurd h (by decide)⟩ (by decide) (fun _=>x1) (fun h=>absurd h (by decide)) (fun h=>absurd h (by decide)) (fun h=>absurd h (by decide)) (fun h=>absurd h (by decide)) (fun h=>absurd h (by decide))
theorem rx0 {g:TK} {r:List TK} {q:Nat} {z:ExpD} (h:XE T N most (g :: r) z q) (hg:tT [41] g=false):RX T N most ⟨g :: r,0,false,q⟩ z :=
 rx_mk hT hN 0 rfl h (by decide) ⟨g,r,rfl,hg,fun h=>absurd h (by decide),fun h=>absurd h (by decide)⟩ (by decide) (fun h=>absurd h (by decide)) (fun h=>absurd h (by decide)) (fun h=>absurd h (by decide)) (fun h=>absurd h (by decide)) (fun h=>absurd h (by decide)) (fun h=>absurd h (by decide))
end
theorem tk_t {w:Tok} {g:TK} (h:w.b=g):w.t=g.2.1:=congrArg (fun g:TK=>g.2.1) h
theorem tk_n {w:Tok} {g:TK} (h:w.b=g):w.n=g.2.2:=congrArg (fun g:TK=>g.2.2) h
theorem er1 {k n p z} {a:ExpD} (h:a.er=z):(node1 k n p a).er=.mk k n 0 [] 0 [z] []:=by rw [node1,ExpD.er,ExpD.erL,ExpD.erL,ExpD.erA,h]
theorem er2 {k n p z1 z2} {a b:ExpD} (h:a.er=z1) (h2:b.er=z2):(node2 k n p a b).er=.mk k n 0 [] 0 [z1,z2] []:=by rw [node2,ExpD.er,ExpD.erL,ExpD.erL,ExpD.erL,ExpD.erA,h,h2]
def armB (a:TF × TF):List TK:=a.1.at 0++(tkS [45,62] :: a.2.at 0)
def armQ (a:TF × TF):Nat:=max (a.1.qa 0+1) (a.2.qa 0+1)
section
variable {T:List Tok} {N most:Nat} (hT:ToksOk T) (hN:T.length<=N)
include hT hN
theorem rx_leaf {g:TK} {z:ExpD} (h:X6 T N most [g] z 0) (hp:prS g=false) (h4:tK 4 g=false) (hs:atS g=true):RX T N most ⟨[g],6,false,0⟩ z:=rx6 hT hN h (l65 hT hN false h rfl hp h4) hs
theorem rx_int {u:Int}:RX T N most (expT 1 [] u [] [] []) (.mk 1 [] u [] 0 [] []):=rx_leaf hT hN (fun K d hK hd=>rd_now fun w hw=>rd_t (gd_k _) rfl (rd_ret (by rw [leaf,ExpD.er,tk_n hw]; rfl))) rfl rfl rfl
theorem rx_str {t:List UInt8}:RX T N most (expT 2 [] 0 t [] []) (.mk 2 [] 0 t 0 [] []):=rx_leaf hT hN (fun K d hK hd=>rd_now fun w hw=>rd_f (gd_k _) rfl <| rd_t (gd_k _) rfl (rd_ret (by rw [leaf,ExpD.er,tk_t hw]; rfl))) rfl rfl rfl
theorem rx_bool {u:Int} (h0:0<=u) (h1:u<=1):RX T N most (expT 3 [] u [] [] []) (.mk 3 [] u [] 0 [] []):=by
 have:u=0\/u=1:=by omega
 rcases this with rfl | rfl
 ·exact rx_leaf hT hN (g:=tkK [102,97,108,115,101]) (fun K d hK hd=>rd_now fun w hw=>rd_f (gd_k _) rfl <| rd_f (gd_k _) rfl <| rd_f (gd_t _) rfl <| rd_t (gd_t _) rfl (rd_ret rfl)) rfl rfl rfl
 ·exact rx_leaf hT hN (g:=tkK [116,114,117,101]) (fun K d hK hd=>rd_now fun w hw=>rd_f (gd_k _) rfl <| rd_f (gd_k _) rfl <| rd_t (gd_t _) rfl (rd_ret rfl)) rfl rfl rfl
theorem rx_unit:RX T N most (expT 4 [] 0 [] [] []) (.mk 4 [] 0 [] 0 [] []):=by
 have h:X6 T N most [tkS [40],tkS [41]] (.mk 4 [] 0 [] 0 [] []) 0:=fun K d hK hd=>by
  unfold iAtom
  refine rd_now fun w hw=>rd_f (gd_k _) rfl <| rd_f (gd_k _) rfl <| rd_f (gd_t _) rfl <| rd_f (gd_t _) rfl <| rd_f (gd_k _) rfl <| rd_f (gd_k _) rfl <| rd_f (gd_t _) rfl ?_
  unfold iBr
  exact rd_now fun w hw=>rd_want rfl <| rd_t (gd_t _) rfl (rd_ret rfl)
 exact rx6 hT hN h (l65 hT hN false h rfl rfl rfl) rfl
theorem rx_var {n:List UInt8}:RX T N most (expT 5 n 0 [] [] []) (.mk 5 n 0 [] 0 [] []):=rx_leaf hT hN (fun K d hK hd=>rd_now fun w hw=>rd_f (gd_k _) rfl <| rd_f (gd_k _) rfl <| rd_f (gd_t _) rfl <| rd_f (gd_t _) rfl <| rd_t (gd_k _) rfl (rd_ret (by rw [leaf,ExpD.er,tk_t hw]; rfl))) rfl rfl rfl
theorem rx_read:RX T N most (expT 15 [114,101,97,100] 0 [] [] []) (.mk 15 [114,101,97,100] 0 [] 0 [] []):=rx_leaf hT hN (g:=tkK [114,101,97,100]) (fun K d hK hd=>rd_now fun w hw=>rd_f (gd_k _) rfl <| rd_f (gd_k _) rfl <| rd_f (gd_t _) rfl <| rd_f (gd_t _) rfl <| rd_f (gd_k _) rfl <| rd_f (gd_k _) rfl <| rd_t (gd_t _) rfl (rd_ret (by rw [leaf,ExpD.er,tk_t hw]; rfl))) rfl rfl rfl
theorem rx_ctor0 {n:List UInt8}:RX T N most (expT 6 n 0 [] [] []) (.mk 6 n 0 [] 0 [] []):=by
 refine rx6 (g:=tkU n) (r:=[]) (b:=true) (q:=0) hT hN (fun K d hK hd=>?_) (fun K d hK hd=>?_) rfl
 ·exact rd_now fun w hw=>rd_f (gd_k _) rfl <| rd_f (gd_k _) rfl <| rd_f (gd_t _) rfl <| rd_f (gd_t _) rfl <| rd_f (gd_k _) rfl <| rd_t (gd_k _) rfl (rd_ret (by rw [leaf,ExpD.er,tk_t hw]; rfl))
 ·have hs:=stay_iExp (N:=N) hT most K (d+1)
  refine q_of (m:=iPre T N (iExp T N most K (d+1))) (rd_now fun w hw=>rd_f gd_prim rfl <| rd_t (gd_k _) rfl <| rd_bf gd_at (fun h hh=>?_) (rd_ret (by rw [leaf,ExpD.er,tk_t hw]; rfl))) (fun a=>stay_ap hT hN N a hs)
  simpa using hh
theorem rx_tup {a:ExpD} {l:List ExpD} (hl0:l≠[]) (ha:RX T N most a.tf a.er) (hk:∀ x∈l,RX T N most x.tf x.er):RX T N most (expT 7 [] 0 [] (ExpD.tfL (a :: l)) []) (.mk 7 [] 0 [] 0 (ExpD.erL (a :: l)) []):=by
 have h:=exp_listP hT hN ha.e (fun x hx=>(hk x hx).e) ha.h0 (z:=.mk 7 [] 0 [] 0 (ExpD.erL (a :: l)) []) (fun p b l' hb hl'=>by
  have:l'≠[]:=by rintro rfl; simp at hl'; exact hl0 hl'
  rw [if_neg this,ExpD.er,ExpD.erL,ExpD.erL,ExpD.erL_eq,ExpD.erL_eq,hl',hb,ExpD.erA]) (q:=mxq (fun a=>a.tf.qa 0+1) (a :: l)) rfl
 have et:expT 7 [] 0 [] (ExpD.tfL (a :: l)) []=⟨tkS [40] :: (a.tf.at 0++((l.map fun a=>tkS [44] :: a.tf.at 0).flatten++[tkS [41]])),6,false,mxq (fun a=>a.tf.qa 0+1) (a :: l)⟩:=by
  unfold expT
  rw [if_neg (by decide),if_neg (by decide),if_neg (by decide),if_neg (by decide),if_neg (by decide),if_pos rfl,ExpD.tfL_eq,List.map_map,List.map_cons,joinT_eq,List.map_map,mxq_map,List.append_assoc]; rfl
 rw [et]
 exact rx6 hT hN h (l65 hT hN false h rfl rfl rfl) rfl
theorem rx_ctor1 {n:List UInt8} {y:TF} {z:ExpD} (h:RX T N most y z):RX T N most (expT 6 n 0 [] [y] []) (.mk 6 n 0 [] 0 [z] []):=by
 obtain ⟨g,r,e,hg⟩:=h.h6
 refine rx5 (g:=tkU n) (r:=y.at 6) (q:=y.qa 6) hT hN (fun K d hK hd=>?_) rfl
 have hs:=stay_iExp (N:=N) hT most K (d+1)
 exact (q_of (ok:=fun h=>!(false && atS h)) (ts:=tkU n :: y.at 6) (x:=.mk 6 n 0 [] 0 [z] []) (D:=d+y.qa 6) (m:=iPre T N (iExp T N most K (d+1))) (rd_now fun w hw=>rd_f gd_prim rfl <| rd_t (gd_k _) rfl <| rd_bt gd_at (by rw [e]; exact nx_cons hg) (rd_map (h.x6 K d hK hd) (fun x hx=>by rw [er1 hx,tk_t hw]; rfl) (fun _ _=>rfl) (by omega))) (fun a=>stay_ap hT hN N a hs) :)
theorem prim_S {n:List UInt8} (h:primB n=true):prS (tkP n)=true/\(tkP n).2.1=n:=by
 simp only [primB,decide_eq_true_eq,List.mem_cons,List.not_mem_nil,or_false] at h
 rcases h with rfl|rfl|rfl|rfl|rfl <;> exact ⟨rfl,rfl⟩
theorem rx_prim {n:List UInt8} (hn:primB n=true) {y:TF} {z:ExpD} (h:RX T N most y z):RX T N most (expT 15 n 0 [] [y] []) (.mk 15 n 0 [] 0 [z] []):=by
 obtain ⟨hp,hn2⟩:=prim_S hT hN hn
 refine rx5 (g:=tkP n) (r:=y.at 6) (q:=y.qa 6) hT hN (fun K d hK hd=>?_) (by simp [hdS,hp])
 have hs:=stay_iExp (N:=N) hT most K (d+1)
 exact (q_of (ok:=fun h=>!(false && atS h)) (ts:=tkP n :: y.at 6) (x:=.mk 15 n 0 [] 0 [z] []) (D:=d+y.qa 6) (m:=iPre T N (iExp T N most K (d+1))) (rd_now fun w hw=>rd_t gd_prim hp <| rd_map (h.x6 K d hK hd) (fun x hx=>by rw [er1 hx,tk_t hw,hn2]) (fun _ _=>rfl) (by omega)) (fun a=>stay_ap hT hN N a hs) :)
theorem rx_app {y1 y2:TF} {z1 z2:ExpD} (h1:RX T N most y1 z1) (h2:RX T N most y2 z2):RX T N most (expT 9 [] 0 [] [y1,y2] []) (.mk 9 [] 0 [] 0 [z1,z2] []):=by
 obtain ⟨g2,r2,e2,hg2⟩:=h2.h6
 obtain ⟨g1,r1,e1,hg1⟩:=h1.h1 (if y1.b then 7 else 5) (by split <;> decide)
 have hx:X5 T N most false (y1.at (if y1.b then 7 else 5)) z1 (y1.qa (if y1.b then 7 else 5)):=by
  cases hb:y1.b with
  | true=>exact h1.x57
  | false=>have:=h1.x5; rw [hb] at this; exact this
 have et:expT 9 [] 0 [] [y1,y2] []=⟨g1 :: (r1++(g2 :: r2)),5,false,max (y1.qa (if y1.b then 7 else 5)) (y2.qa 6)⟩:=by
  show (⟨y1.at (if y1.b then 7 else 5)++y2.at 6,5,false,_⟩:TF)=_
  rw [e1,e2]; rfl
 rw [et]
 refine rx5 hT hN (fun K d hK hd=>?_) hg1
 have hs:=stay_iExp (N:=N) hT most K (d+1)
 rw [e1] at hx
 have hy:=h2.x6 K d hK hd
 rw [e2] at hy
 exact (q_step (ok:=fun h=>!(false && atS h)) hN gd_at (hx K d hK hd) (fun n a=>stay_ap hT hN n a hs) (fun y hy'=>rd_map hy (fun x hx=>er2 hy' hx) (fun _ _=>rfl) (by omega)) hg2 rfl).cast (by rw [List.cons_append]) (by omega)
theorem rx_op {n:List UInt8} (hn:binB n=true) {y1 y2:TF} {z1 z2:ExpD} (h1:RX T N most y1 z1) (h2:RX T N most y2 z2):RX T N most (expT 14 n 0 [] [y1,y2] []) (.mk 14 n 0 [] 0 [z1,z2] []):=by
 simp only [binB,decide_eq_true_eq,List.mem_cons,List.not_mem_nil,or_false] at hn
 have hd:∀ a (r:List TK),1<=a->∃ h r',y1.at a++r=h :: r'/\hdS h=true:=fun a r ha=>by
  obtain ⟨g,r',e,hg⟩:=h1.h1 a ha
  exact ⟨g,r'++r,by rw [e]; rfl,hg⟩
 have sum:∀ n:List UInt8,opS [[43],[45],[94]] (tkS n)=true->sp4 (tkS n)=true->expT 14 n 0 [] [y1,y2] []=⟨y1.at 3++(tkS n :: y2.at 4),3,false,max (y1.qa 3) (y2.qa 4)⟩->RX T N most (expT 14 n 0 [] [y1,y2] []) (.mk 14 n 0 [] 0 [z1,z2] []):=fun n ho hs4 et=>by
  rw [et]
  refine rx3 hT hN (fun K d hK hd'=>?_) (hd 3 _ (by decide))
  have hs:=stay_iExp (N:=N) hT most K (d+1)
  exact (q_step (ok:=sp4) hN (gd_op _) (h1.x3 K d hK hd') (fun n a=>stay_rw hT hN n a (stay_iRow1 hT hs)) (fun y hy=>rd_now fun w hw=>rd_adv (rd_map (r4 hT hN h2.x4 K d hK hd') (fun x hx=>by rw [er2 hy hx,tk_t hw]; rfl) (fun _ h=>h) (by omega))) ho hs4).cast rfl (by omega)
 have cmp:∀ n:List UInt8,(tT [61] (tkS n) || tT [60] (tkS n))=true->sp3 (tkS n)=true->expT 14 n 0 [] [y1,y2] []=⟨y1.at 3++(tkS n :: y2.at 3),2,false,max (y1.qa 3) (y2.qa 3)⟩->RX T N most (expT 14 n 0 [] [y1,y2] []) (.mk 14 n 0 [] 0 [z1,z2] []):=fun n ho hs3 et=>by
  rw [et]
  refine rx2 hT hN (fun K d hK hd'=>?_) (hd 3 _ (by decide))
  have hs:=stay_iExp (N:=N) hT most K (d+1)
  exact rd_seq (ok:=sp2) (r3 hT hN h1.x3 K d hK hd') (fun _=>stay_onceG hT ((only_isT T _).or (only_isT T _)) (stay_iRow0 hT hs)) (fun y hy=>rd_now fun w hw=>rd_t ((gd_t _).or (gd_t _)) ho (rd_map (r3 hT hN h2.x3 K d hK hd') (fun x hx=>by rw [er2 hy hx,tk_t hw]; rfl) (fun _ h=>sp23 h) (by omega))) (nx_cons hs3) rfl (by omega)
 rcases hn with rfl|rfl|rfl|rfl|rfl|rfl|rfl
 ·exact sum _ rfl rfl rfl
 ·exact sum _ rfl rfl rfl
 ·refine rx4 (f:=y1.at 4++(tkS [42] :: y2.at 5)) (q:=max (y1.qa 4) (y2.qa 5)) hT hN (fun K d hK hd'=>?_) (hd 4 _ (by decide))
  have hs:=stay_iExp (N:=N) hT most K (d+1)
  exact (q_step (ok:=sp5) hN (gd_op _) (h1.x4 K d hK hd') (fun n a=>stay_rw hT hN n a (stay_iApp hT hs)) (fun y hy=>rd_now fun w hw=>rd_adv (rd_map (r5 hT hN h2.x5 K d hK hd') (fun x hx=>by rw [er2 hy hx,tk_t hw]; rfl) (fun _ h=>h) (by omega))) rfl rfl).cast rfl (by omega)
 ·exact sum _ rfl rfl rfl
 ·exact cmp _ rfl rfl rfl
 ·exact cmp _ rfl rfl rfl
 ·refine rx1 (f:=y1.at 2++(tkS [58,61] :: y2.at 2)) (q:=max (y1.qa 2) (y2.qa 2)) hT hN (fun K d hK hd'=>?_) (hd 2 _ (by decide))
  have hs:=stay_iExp (N:=N) hT most K (d+1)
  exact rd_seq (ok:=sp1) (h1.x2 K d hK hd') (fun _=>stay_onceG hT (only_isT T _) (stay_iOnce1 hT hs)) (fun y hy=>rd_now fun w hw=>rd_t (gd_t _) rfl (rd_map (h2.x2 K d hK hd') (fun x hx=>by rw [er2 hy hx,tk_t hw]; rfl) (fun _ h=>sp12 h) (by omega))) (nx_cons rfl) rfl (by omega)
theorem rx_kid {y:TF} {z:ExpD} (h:RX T N most y z) {K d:Nat} (hK:most+2<=K+(d+1)) (hd:d<=most):Rd T most d ExpD.er (iExp T N most K (d+1)) (y.at 0) z (d+(y.qa 0+1)) sp1 :=
 ((h.e K (d+1) hK (by omega)).low (Nat.zero_le d)).cast rfl (by omega)
theorem rx_let {n : List UInt8} {y1 y2 : TF} {z1 z2 : ExpD} (h1 : RX T N most y1 z1) (h2 : RX T N most y2 z2) : RX T N most (expT 10 n 0 [] [y1, y2] []) (.mk 10 n 0 [] 0 [z1, z2] []) := by
  refine rx0 (g := tkK [108, 101, 116]) hT hN (fun K d hK hd => ?_) rfl
  cases K with
  | zero => omega
  | succ K =>
    have hs := stay_iExp (N := N) hT most K (d + 1)
    refine rd_deep (Nat.le_add_right _ _) fun hd2 => rd_now fun w hw => rd_t (gd_t _) rfl ?_
    unfold letP
    refine rd_f (gd_t _) rfl (rd_word (rd_want rfl ?_))
    exact rd_seq (rx_kid hT hN h1 (by omega) hd2) (fun _ => StayM.step (stay_want hT _) (StayM.bind hs fun _ => StayM.ret _)) (fun a ha => rd_want (g := tkK [105, 110]) rfl (rd_map (rx_kid hT hN h2 (by omega) hd2) (fun b hb => by rw [ExpD.er, ExpD.erL, ExpD.erL, ExpD.erL, ExpD.erA, ha, hb]) (fun _ h => h) (by omega))) (nx_cons rfl) rfl (by simp only [List.getD_cons_zero, List.getD_cons_succ]; omega)
theorem rx_rec {n t : List UInt8} {y1 y2 : TF} {z1 z2 : ExpD} (h1 : RX T N most y1 z1) (h2 : RX T N most y2 z2) : RX T N most (expT 11 n 0 t [y1, y2] []) (.mk 11 n 0 t 0 [z1, z2] []) := by
  refine rx0 (g := tkK [108, 101, 116]) hT hN (fun K d hK hd => ?_) rfl
  cases K with
  | zero => omega
  | succ K =>
    have hs := stay_iExp (N := N) hT most K (d + 1)
    refine rd_deep (Nat.le_add_right _ _) fun hd2 => rd_now fun w hw => rd_t (gd_t _) rfl ?_
    unfold letP
    refine rd_t (gd_t _) rfl (rd_word (rd_word (rd_want rfl ?_)))
    exact rd_seq (rx_kid hT hN h1 (by omega) hd2) (fun _ => StayM.step (stay_want hT _) (StayM.bind hs fun _ => StayM.ret _)) (fun a ha => rd_want (g := tkK [105, 110]) rfl (rd_map (rx_kid hT hN h2 (by omega) hd2) (fun b hb => by rw [ExpD.er, ExpD.erL, ExpD.erL, ExpD.erL, ExpD.erA, ha, hb]) (fun _ h => h) (by omega))) (nx_cons rfl) rfl (by simp only [List.getD_cons_zero, List.getD_cons_succ]; omega)
theorem rx_fun {n : List UInt8} {y1 : TF} {z1 : ExpD} (h1 : RX T N most y1 z1) : RX T N most (expT 8 n 0 [] [y1] []) (.mk 8 n 0 [] 0 [z1] []) := by
  refine rx0 (g := tkK [102, 117, 110]) (r := tkL n :: tkS [45, 62] :: y1.at 0) (q := y1.qa 0 + 1) hT hN (fun K d hK hd => ?_) rfl
  cases K with
  | zero => omega
  | succ K =>
    refine rd_deep (Nat.le_add_right _ _) fun hd2 => rd_now fun w hw => rd_f (gd_t _) rfl <| rd_t (gd_t _) rfl ?_
    unfold funP
    exact rd_word (rd_want rfl (rd_map (rx_kid hT hN h1 (by omega) hd2) (fun b hb => er1 hb) (fun _ h => h) (by omega)))
theorem rx_if {y1 y2 y3 : TF} {z1 z2 z3 : ExpD} (h1 : RX T N most y1 z1) (h2 : RX T N most y2 z2) (h3 : RX T N most y3 z3) : RX T N most (expT 12 [] 0 [] [y1, y2, y3] []) (.mk 12 [] 0 [] 0 [z1, z2, z3] []) := by
  refine rx0 (g := tkK [105, 102]) (r := y1.at 0 ++ (tkK [116, 104, 101, 110] :: (y2.at 0 ++ (tkK [101, 108, 115, 101] :: y3.at 0)))) (q := max (y1.qa 0 + 1) (max (y2.qa 0 + 1) (y3.qa 0 + 1))) hT hN (fun K d hK hd => ?_) rfl
  cases K with
  | zero => omega
  | succ K =>
    have hs := stay_iExp (N := N) hT most K (d + 1)
    refine rd_deep (Nat.le_add_right _ _) fun hd2 => rd_now fun w hw => rd_f (gd_t _) rfl <| rd_f (gd_t _) rfl <| rd_t (gd_t _) rfl ?_
    unfold ifP
    exact rd_seq (rx_kid hT hN h1 (by omega) hd2) (fun _ => StayM.step (stay_want hT _) (StayM.bind hs fun _ => StayM.step (stay_want hT _) (StayM.bind hs fun _ => StayM.ret _)))
      (fun a ha => rd_want (g := tkK [116, 104, 101, 110]) rfl (rd_seq (rx_kid hT hN h2 (by omega) hd2) (fun _ => StayM.step (stay_want hT _) (StayM.bind hs fun _ => StayM.ret _)) (fun b hb => rd_want (g := tkK [101, 108, 115, 101]) rfl (rd_map (rx_kid hT hN h3 (by omega) hd2) (fun c hc => by rw [ExpD.er, ExpD.erL, ExpD.erL, ExpD.erL, ExpD.erL, ExpD.erA, ha, hb, hc]) (fun _ h => h) (by omega))) (nx_cons rfl) rfl rfl)) (nx_cons rfl) rfl (by omega)
theorem rd_arm {y1 y2:TF} {z1:PatD} {z2:ExpD} (h1:RPt T N most y1 z1) (h2:RX T N most y2 z2) {K d:Nat} (hK:most+2<=K+(d+1)) (hd:d<=most):Rd T most d ArmD.er (armP T (iPat T N most K (d+1)) (iExp T N most K (d+1))) (armB (y1,y2)) (.mk z1 z2) (d+armQ (y1,y2)) sp1:=by
 have hs:=stay_iExp (N:=N) hT most K (d+1)
 exact rd_seq (((h1.e K (d+1) hK (by omega)).low (Nat.zero_le d)).cast rfl (D':=d+(y1.qa 0+1)) (by omega)) (fun _=>StayM.step (stay_want hT _) (StayM.bind hs fun _=>StayM.ret _)) (fun a ha=>rd_want (g:=tkS [45,62]) rfl (rd_map (rx_kid hT hN h2 hK hd) (fun b hb=>by rw [ArmD.er,ha,hb]) (fun _ h=>h) (by omega))) (nx_cons rfl) rfl (by simp only [armQ]; omega)
theorem rx_match {y1 : TF} {z1 : ExpD} (h1 : RX T N most y1 z1) {a : ArmD} {l : List ArmD} (ha : ∀ K d, most + 2 ≤ K + (d + 1) → d ≤ most → Rd T most d ArmD.er (armP T (iPat T N most K (d + 1)) (iExp T N most K (d + 1))) (armB a.tf) a.er (d + armQ a.tf) sp1)
    (hl : ∀ x ∈ l, ∀ K d, most + 2 ≤ K + (d + 1) → d ≤ most → Rd T most d ArmD.er (armP T (iPat T N most K (d + 1)) (iExp T N most K (d + 1))) (armB x.tf) x.er (d + armQ x.tf) sp1) :
    RX T N most (expT 13 [] 0 [] [y1] (ExpD.tfA (a :: l))) (.mk 13 [] 0 [] 0 [z1] (ExpD.erA (a :: l))) := by
  have et : expT 13 [] 0 [] [y1] (ExpD.tfA (a :: l)) = ⟨tkK [109, 97, 116, 99, 104] :: (y1.at 0 ++ (tkK [119, 105, 116, 104] :: tkS [124] :: ((armB a.tf ++ (l.map fun x => tkS [124] :: armB x.tf).flatten) ++ [tkK [101, 110, 100]]))), 0, false, max (y1.qa 0 + 1) (mxq (fun x => armQ x.tf) (a :: l))⟩ := by
    have e1 : ((ExpD.tfA (a :: l)).map armT).flatten ++ [tkK [101, 110, 100]] = tkS [124] :: ((armB a.tf ++ (l.map fun x => tkS [124] :: armB x.tf).flatten) ++ [tkK [101, 110, 100]]) := by
      rw [ExpD.tfA_eq, List.map_map, List.map_cons, List.flatten_cons]
      simp only [armT, armB, List.cons_append, List.append_assoc, Function.comp_apply]
      rfl
    have e2 : mxq (fun a : TF × TF => max (a.1.qa 0 + 1) (a.2.qa 0 + 1)) (ExpD.tfA (a :: l)) = mxq (fun x => armQ x.tf) (a :: l) := by
      rw [ExpD.tfA_eq, mxq_map]; rfl
    have e0 : expT 13 [] 0 [] [y1] (ExpD.tfA (a :: l)) = ⟨tkK [109, 97, 116, 99, 104] :: (y1.at 0 ++ (tkK [119, 105, 116, 104] :: (((ExpD.tfA (a :: l)).map armT).flatten ++ [tkK [101, 110, 100]]))), 0, false, max (y1.qa 0 + 1) (mxq (fun a : TF × TF => max (a.1.qa 0 + 1) (a.2.qa 0 + 1)) (ExpD.tfA (a :: l)))⟩ := rfl
    rw [e0, e1, e2]
  rw [et]
  refine rx0 hT hN (fun K d hK hd => ?_) rfl
  cases K with
  | zero => omega
  | succ K =>
    have hs := stay_iExp (N := N) hT most K (d + 1)
    have hp := stay_iPat (N := N) hT most K (d + 1)
    have hsa := stay_armP hT hp hs
    refine rd_deep (Nat.le_add_right _ _) fun hd2 => rd_now fun w hw => rd_f (gd_t _) rfl <| rd_f (gd_t _) rfl <| rd_f (gd_t _) rfl <| rd_t (gd_t _) rfl ?_
    have hK2 : most + 2 ≤ K + (d + 1) := by omega
    refine fun s g r hc hlo hd' hr hk' => ?_
    have hlen : l.length ≤ N := by
      have := rest_len hr
      have h3 := many_lenG (f := fun x => tkS [124] :: armB (ArmD.tf x)) (l := l) fun x hx => ⟨_, _, rfl⟩
      simp only [List.length_append, List.length_cons] at this
      omega
    have hst : ∀ n, StayM T (many (isT T [124]) (advP (armP T (iPat T N most K (d + 1)) (iExp T N most K (d + 1)))) n) := fun n => StayM.manyA hT (only_isT T [124]) hsa n
    have hl2 : RdL T most d ArmD.er (advP (armP T (iPat T N most K (d + 1)) (iExp T N most K (d + 1)))) sp1 (fun x => d + armQ (ArmD.tf x)) (fun x => tkS [124] :: armB (ArmD.tf x)) ArmD.er l := rdl_mk fun x hx => rd_adv (hl x hx K d hK2 hd2)
    have hm := rd_many (ok := fun h => decide (h = tkK [101, 110, 100])) (gd_t [124]) hst (fun h hh => by rw [decide_eq_true_eq] at hh; subst hh; rfl) (fun h hh => by rw [decide_eq_true_eq] at hh; subst hh; rfl) l N hl2 hlen (fun a ha => ⟨_, _, rfl, rfl, rfl⟩)
    have e0 : mxl d (fun x : ArmD => d + armQ x.tf) l = d + mxq (fun x => armQ x.tf) l := mxl_eq _ _ _
    rw [e0] at hm
    have hA : Rd T most d (fun l : List ArmD => l.map ArmD.er) (armsP T N (armP T (iPat T N most K (d + 1)) (iExp T N most K (d + 1)))) (armB a.tf ++ (l.map fun x => tkS [124] :: armB x.tf).flatten) ((a :: l).map ArmD.er) (d + mxq (fun x => armQ x.tf) (a :: l)) (fun h => decide (h = tkK [101, 110, 100])) :=
      rd_seq (ha K d hK2 hd2) (fun _ => StayM.bind (hst N) fun _ => StayM.ret _) (fun a' ha' => rd_map hm (fun l' hl' => by rw [List.map_cons, List.map_cons, ha', hl']) (fun _ h => h) (by omega)) (by
        cases l with
        | nil => exact nx_nil fun h hh => by rw [decide_eq_true_eq] at hh; subst hh; rfl
        | cons b l => exact nx_cons rfl) rfl (by rw [mxq]; omega)
    refine rd_seq (ok := sp1) (rx_kid hT hN h1 hK2 hd2) (fun _ => StayM.step (stay_want hT _) (StayM.step (stay_want hT _) (StayM.bind (StayM.iteB (stay_armsP hT hsa) (StayM.ret _)) fun _ => StayM.step (stay_want hT _) (StayM.ret _)))) (fun x hx => rd_want (g := tkK [119, 105, 116, 104]) rfl <| rd_want (g := tkS [124]) rfl <|
      rd_seq (rd_bt gd_c' (fun _ _ => rfl) hA) (fun _ => StayM.step (stay_want hT _) (StayM.ret _)) (fun l' hl' => rd_want (g := tkK [101, 110, 100]) rfl (rd_ret ?_)) (nx_cons rfl) rfl (Nat.max_eq_left (by omega))) (nx_cons rfl) rfl ?_ s g r hc hlo hd' hr hk'
    · rw [ExpD.er, ExpD.erL, ExpD.erL, ExpD.erA_eq, ExpD.erA_eq, hx, hl']
    · omega
theorem RX.arms0:∀ l:List ArmD,(∀ x∈l,RPt T N most x.tf.1 (match x with | .mk p e=>p.er)/\RX T N most x.tf.2 (match x with | .mk p e=>e.er))->∀ x∈l,∀ K d,most+2<=K+(d+1)->d<=most->Rd T most d ArmD.er (armP T (iPat T N most K (d+1)) (iExp T N most K (d+1))) (armB x.tf) x.er (d+armQ x.tf) sp1:=by
 intro l h x hx K d hK hd
 obtain ⟨h1,h2⟩:=h x hx
 cases x with
 | mk p e=>exact rd_arm hT hN h1 h2 hK hd
mutual
theorem ExpD.rt : ∀ t : ExpD, t.okB = true → RX T N most t.tf t.er
  | .mk k n u t p ks as', h => by
    rw [ExpD.okB, Bool.and_eq_true, Bool.and_eq_true] at h
    have ih := ExpD.rtL ks h.2.1
    have ihA := RX.arms0 hT hN as' (ExpD.rtA as' h.2.2)
    have hk := h.1
    unfold expH at hk
    rw [ExpD.tf, ExpD.er]
    by_cases h13 : k = 13
    · subst h13; simp at hk
      obtain ⟨⟨hm, rfl, rfl, rfl⟩, -, ha⟩ := hk
      obtain ⟨a, rfl⟩ := len1 (by simpa using hm)
      rcases as' with _ | ⟨b, l⟩
      · simp at ha
      · exact rx_match hT hN (ih a (by simp)) (ihA b (by simp)) (fun x hx => ihA x (by simp [hx]))
    have hA : as' = [] := by
      simp only [Bool.and_eq_true] at hk
      have := hk.2.2
      simp [h13] at this
      exact this
    subst hA
    replace hk := (Bool.and_eq_true _ _ ▸ hk).1
    by_cases h1 : k = 1
    · subst h1; simp at hk
      obtain ⟨rfl, rfl, -, rfl⟩ := hk
      exact rx_int hT hN
    by_cases h2 : k = 2
    · subst h2; simp at hk
      obtain ⟨rfl, rfl, rfl, -⟩ := hk
      exact rx_str hT hN
    by_cases h3 : k = 3
    · subst h3; simp at hk
      obtain ⟨rfl, rfl, ⟨h4, h5⟩, rfl⟩ := hk
      exact rx_bool hT hN h4 h5
    by_cases h4 : k = 4
    · subst h4; simp at hk
      obtain ⟨rfl, rfl, rfl, rfl⟩ := hk
      exact rx_unit hT hN
    by_cases h5 : k = 5
    · subst h5; simp at hk
      obtain ⟨rfl, -, rfl, rfl⟩ := hk
      exact rx_var hT hN
    by_cases h6 : k = 6
    · subst h6; simp at hk
      obtain ⟨hm, -, rfl, rfl⟩ := hk
      rcases ks with _ | ⟨a, _ | ⟨b, l⟩⟩
      · exact rx_ctor0 hT hN
      · exact rx_ctor1 hT hN (ih a (by simp))
      · simp at hm; omega
    by_cases h7 : k = 7
    · subst h7; simp at hk
      obtain ⟨a, b, l, rfl⟩ := len_ge2 (l := ks) (by have := hk.1; omega)
      obtain ⟨-, rfl, rfl, rfl⟩ := hk
      exact rx_tup hT hN (by simp) (ih a (by simp)) (fun x hx => ih x (by simp [hx]))
    by_cases h8 : k = 8
    · subst h8; simp at hk
      obtain ⟨hm, -, rfl, rfl⟩ := hk
      obtain ⟨a, rfl⟩ := len1 (by simpa using hm)
      exact rx_fun hT hN (ih a (by simp))
    by_cases h9 : k = 9
    · subst h9; simp at hk
      obtain ⟨hm, rfl, rfl, rfl⟩ := hk
      obtain ⟨a, b, rfl⟩ := len2 hm
      exact rx_app hT hN (ih a (by simp)) (ih b (by simp))
    by_cases h10 : k = 10
    · subst h10; simp at hk
      obtain ⟨hm, -, rfl, rfl⟩ := hk
      obtain ⟨a, b, rfl⟩ := len2 hm
      exact rx_let hT hN (ih a (by simp)) (ih b (by simp))
    by_cases h11 : k = 11
    · subst h11; simp at hk
      obtain ⟨hm, -, rfl, -⟩ := hk
      obtain ⟨a, b, rfl⟩ := len2 hm
      exact rx_rec hT hN (ih a (by simp)) (ih b (by simp))
    by_cases h12 : k = 12
    · subst h12; simp at hk
      obtain ⟨hm, rfl, rfl, rfl⟩ := hk
      obtain ⟨a, b, c, rfl⟩ : ∃ a b c, ks = [a, b, c] := by
        rcases ks with _ | ⟨a, _ | ⟨b, _ | ⟨c, _ | ⟨e, l⟩⟩⟩⟩
        · simp at hm
        · simp at hm
        · simp at hm
        · exact ⟨a, b, c, rfl⟩
        · simp at hm; omega
      exact rx_if hT hN (ih a (by simp)) (ih b (by simp)) (ih c (by simp))
    by_cases h14 : k = 14
    · subst h14; simp at hk
      obtain ⟨hm, hn, rfl, rfl⟩ := hk
      obtain ⟨a, b, rfl⟩ := len2 hm
      exact rx_op hT hN hn (ih a (by simp)) (ih b (by simp))
    by_cases h15 : k = 15
    · subst h15; simp at hk
      obtain ⟨hm, rfl, rfl⟩ := hk
      rcases arity_cases hm (by omega) with ⟨rfl, h0⟩ | ⟨hp, h0⟩
      · have := len0 (l := ks) (by simpa using h0)
        subst this
        exact rx_read hT hN
      · obtain ⟨a, rfl⟩ := len1 (by simpa using h0)
        exact rx_prim hT hN hp (ih a (by simp))
    simp [h1, h2, h3, h4, h5, h6, h7, h8, h9, h10, h11, h12, h13, h14, h15] at hk
theorem ExpD.rtL : ∀ l : List ExpD, ExpD.okL l = true → ∀ x ∈ l, RX T N most x.tf x.er
  | [], _ => fun x hx => by cases hx
  | t :: l, h => fun x hx => by
    rw [ExpD.okL, Bool.and_eq_true] at h
    rcases List.mem_cons.1 hx with e | hx
    · exact e ▸ ExpD.rt t h.1
    · exact ExpD.rtL l h.2 x hx
theorem ExpD.rtA : ∀ l : List ArmD, ExpD.okA l = true → ∀ x ∈ l, RPt T N most x.tf.1 (match x with | .mk p e => p.er) ∧ RX T N most x.tf.2 (match x with | .mk p e => e.er)
  | [], _ => fun x hx => by cases hx
  | .mk p e :: l, h => fun x hx => by
    rw [ExpD.okA, ArmD.okB, Bool.and_eq_true, Bool.and_eq_true] at h
    rcases List.mem_cons.1 hx with e2 | hx
    · exact e2 ▸ ⟨PatD.rt hT hN p h.1.1, ExpD.rt e h.1.2⟩
    · exact ExpD.rtA l h.2 x hx
end
end
def tkE:TK:=(8,[],0)
section
variable {T:List Tok} {N most K:Nat} (hT:ToksOk T) (hN:T.length<=N) (hK:most+2<=K+1)
include hT hN hK
end
theorem told_rd {α β:Type} {T:List Tok} {most:Nat} {er:α->β} {m:PM α} {ts:List TK} {x:β} {D:Nat} (h:Rd T most 0 er m ts x D (fun h=>decide (h=tkE))) (hT:T.map Tok.b=ts++[tkE]) :
  (D<=most/\∃ y,er y=x/\told m=.inl y/\(m ⟨0,0,0,0,0⟩).2.d=D/\(m ⟨0,0,0,0,0⟩).2.c=0)\/(most<D/\∃ q,told m=.inr (12,q)):=by
 rcases h ⟨0,0,0,0,0⟩ tkE [] rfl (Nat.le_refl _) (Nat.zero_le _) hT (by decide) with ⟨h1,y,h2,h3⟩ | ⟨h1,h2,h3⟩
 ·refine .inl ⟨h1,y,h2,?_,?_,?_⟩
  ·unfold told; rw [h3]; rfl
  ·rw [h3]; exact Nat.max_eq_right (Nat.zero_le _)
  ·rw [h3]; rfl
 ·refine .inr ⟨h1,(m ⟨0,0,0,0,0⟩).2.ps,?_⟩
  unfold told
  simp only [h2]
  rfl
theorem rd_one {T:List Tok} {N most K:Nat} (hT:ToksOk T) (hN:T.length<=N) (hK:most+2<=K+1) {e:ExpD} (h:e.okB=true):Rd T most 0 ExpD.er (oneP T (iExp T N most K 1)) (e.tf.at 0) e.er (e.tf.qa 0+1) (fun h=>decide (h=tkE)):=by
 have hend:∀ (x:ExpD),x.er=e.er->Rd T most 0 ExpD.er (stepP (endP T) <| retP x) [] e.er 0 (fun h=>decide (h=tkE)):=fun x hx s h r hc hlo hd hr hk=>by
  have:endP T s=s:=by
   unfold endP
   rw [if_pos]
   rw [gd_k 8 s h r hc hr]
   rw [decide_eq_true_eq] at hk
   subst hk; rfl
  unfold stepP
  rw [this]
  exact rd_ret (er:=ExpD.er) (ok:=fun h=>decide (h=tkE)) hx s h r hc hlo hd hr hk
 exact rd_last (((ExpD.rt (most:=most) hT hN e h).e K 1 hK (by omega)).cast rfl (by omega)) (fun _=>StayM.step (stay_end T) (StayM.ret _)) hend (fun h hh=>by rw [decide_eq_true_eq] at hh; subst hh; rfl) (Nat.zero_le _)
theorem lexD_cases {s:List UInt8} {ts:List TK} {g} (h:LxP g s ts) (hg:g []=true):(∃ T,lexD s=.inl T/\T.map Tok.b=ts++[tkE])\/∃ p,lexD s=.inr (5,p):=by
 unfold lexD
 split
 ·exact .inr ⟨0,rfl⟩
 ·rcases lx_whole h hg 1200 with ⟨-,T,h1,h2⟩ | ⟨-,p,h2⟩
  ·exact .inl ⟨T,h2,h1⟩
  ·exact .inr ⟨p,h2⟩
theorem one_rt {e:ExpD} (h:e.okB=true) (hf:e.fit):(∃ p,lexD (e.kf.at 0)=.inr (5,p))\/∃ T,lexD (e.kf.at 0)=.inl T /\
  ((∃ y,y.er=e.er/\told (oneP T (iExp T T.length 40 41 1))=.inl y)\/(∃ q,told (oneP T (iExp T T.length 40 41 1))=.inr (12,q))):=by
 rcases lexD_cases ((ExpD.lx e h hf).at 0) rfl with ⟨T,h1,h2⟩ | h1
 ·refine .inr ⟨T,h1,?_⟩
  rcases told_rd (rd_one (most:=40) (K:=41) (lexD_ok h1).1 (Nat.le_refl _) (by decide) h) h2 with ⟨-,y,k1,k2,-⟩ | ⟨-,k⟩
  ·exact .inl ⟨y,k1,k2⟩
  ·exact .inr k
 ·exact .inl h1
structure Cur where
 i:Nat
 h:Int
abbrev CM (α:Type):=Cur->α × Cur
def mixH (h:Int):Int:=wr .i64 (wr .i64 (h * 6364136223846793005)+1442695040888963407)
def bitX (h:Int):Int:=ibits .and .i64 (ibits .xor .i64 (h.fdiv (2 ^ 33)) (h.fdiv (2 ^ 47))) 255
def repC {α:Type} (m:CM α):Nat->CM (List α)
 | 0,c=>([],c)
 | n+1,c=>((m c).1 :: (repC m n (m c).2).1,(repC m n (m c).2).2)
section
variable (b:List Int)
def byteD:CM Int:=fun c=>if c.i<b.length then (ibits .and .i64 (wr .i64 (bitX (mixH c.h)+wr .i64 (b.getD c.i 0))) 255,⟨c.i+1,mixH c.h⟩) else (bitX (mixH c.h),⟨c.i,mixH c.h⟩)
def belowD (n:Int):CM Int:=fun c=>if n<=0 then (0,c) else if n<=256 then ((byteD b c).1.tmod n,(byteD b c).2) else
 (((byteD b c).1 * 65536+(byteD b (byteD b c).2).1 * 256+(byteD b (byteD b (byteD b c).2).2).1).tmod n,(byteD b (byteD b (byteD b c).2).2).2)
def onceD (n:Int):CM Bool:=fun c=>(decide ((belowD b n c).1=0),(belowD b n c).2)
def intD (l:List Int):CM Int:=fun c=>(l.getD (belowD b l.length c).1.toNat 0,(belowD b l.length c).2)
def strP (l:List (List UInt8)):CM (List UInt8):=fun c=>(l.getD (belowD b l.length c).1.toNat [],(belowD b l.length c).2)
def nmP:CM (List UInt8):=strP b [[120],[121],[102],[103],[110],[120,115]]
def upP:CM (List UInt8):=strP b [[78,105,108],[67,111,110,115],[65],[66],[83,111,109,101]]
def patK (rec:CM PatD) (k q:Int):CM PatD:=fun c =>
 if k=0 then (.mk 1 [] 0 q [],c)
 else if k=1 then (.mk 2 (nmP b c).1 0 q [],(nmP b c).2)
 else if k=2 then (.mk 3 [] (belowD b 4 c).1 q [],(belowD b 4 c).2)
 else if k=3 then (.mk 4 [] (belowD b 2 c).1 q [],(belowD b 2 c).2)
 else if k=4 then (.mk 5 [] 0 q [],c)
 else if k=5 then (.mk 7 (upP b c).1 0 q [],(upP b c).2)
 else if k=6 then (.mk 7 (upP b c).1 0 q [(rec (upP b c).2).1],(rec (upP b c).2).2)
 else (.mk 6 [] 0 q (repC rec (2+(belowD b 2 c).1).toNat (belowD b 2 c).2).1,(repC rec (2+(belowD b 2 c).1).toNat (belowD b 2 c).2).2)
def patB (leaf:Bool) (rec:CM PatD):CM PatD:=fun c =>
 let s:=if leaf then belowD b 5 (belowD b 9 c).2 else belowD b 9 c
 patK b rec s.1 (belowD b 9 s.2).1 (belowD b 9 s.2).2
def patDr:Nat->CM PatD
 | 0=>patB b true fun c=>(pat0,c)
 | d+1=>patB b false (patDr d)
def leafK (k q:Int):CM ExpD:=fun c =>
 if k=1 then (leaf 1 [] (intD b [0,3,17,9223372036854775807] c).1 [] q,(intD b [0,3,17,9223372036854775807] c).2)
 else if k=2 then (leaf 2 [] 0 (strP b [[],[104,105],[97,34,98],[10]] c).1 q,(strP b [[],[104,105],[97,34,98],[10]] c).2)
 else if k=3 then (leaf 3 [] (belowD b 2 c).1 [] q,(belowD b 2 c).2)
 else if k=5 then (leaf 5 (nmP b c).1 0 [] q,(nmP b c).2)
 else if k=6 then (leaf 6 (upP b c).1 0 [] q,(upP b c).2)
 else (leaf k [] 0 [] q,c)
def leafB:CM ExpD:=fun c =>
 let e:=leafK b (1+(belowD b 6 c).1) (belowD b 9 (belowD b 6 c).2).1 (belowD b 9 (belowD b 6 c).2).2
 if (onceD b 8 e.2).1 then (leaf 15 [114,101,97,100] 0 [] 0,(onceD b 8 e.2).2) else (e.1,(onceD b 8 e.2).2)
def armDr (rec:CM ExpD):CM ArmD:=fun c=>(.mk (patDr b 2 c).1 (rec (patDr b 2 c).2).1,(rec (patDr b 2 c).2).2)
structure Hd where
 n:List UInt8
 t:List UInt8
 as':List ArmD
 m:Int
def headK (rec:CM ExpD) (k:Int):CM Hd:=fun c =>
 if k=6 then (⟨(upP b c).1,[],[],(belowD b 2 (upP b c).2).1⟩,(belowD b 2 (upP b c).2).2)
 else if k=7 then (⟨[],[],[],2+(belowD b 2 c).1⟩,(belowD b 2 c).2)
 else if k=8 then (⟨(nmP b c).1,[],[],1⟩,(nmP b c).2)
 else if k=10 then (⟨(nmP b c).1,[],[],2⟩,(nmP b c).2)
 else if k=11 then (⟨(nmP b c).1,(nmP b (nmP b c).2).1,[],2⟩,(nmP b (nmP b c).2).2)
 else if k=12 then (⟨[],[],[],3⟩,c)
 else if k=13 then (⟨[],[],(repC (armDr b rec) (1+(belowD b 3 c).1).toNat (belowD b 3 c).2).1,1⟩,(repC (armDr b rec) (1+(belowD b 3 c).1).toNat (belowD b 3 c).2).2)
 else if k=14 then (⟨(strP b [[43],[45],[42],[94],[61],[60],[58,61]] c).1,[],[],2⟩,(strP b [[43],[45],[42],[94],[61],[60],[58,61]] c).2)
 else if k=15 then (⟨(strP b [[112,114,105,110,116],[101,120,105,116],[115,105,122,101],[114,101,102],[33]] c).1,[],[],1⟩,(strP b [[112,114,105,110,116],[101,120,105,116],[115,105,122,101],[114,101,102],[33]] c).2)
 else (⟨[],[],[],2⟩,c)
def nodeK (rec:CM ExpD) (k q:Int):CM ExpD:=fun c =>
 let h:=headK b rec k c
 (.mk k h.1.n 0 h.1.t q (repC rec h.1.m.toNat h.2).1 h.1.as',(repC rec h.1.m.toNat h.2).2)
def expB (rec:CM ExpD):CM ExpD:=fun c =>
 if (onceD b 6 c).1 then leafB b (onceD b 6 c).2
 else nodeK b rec (6+(belowD b 10 (onceD b 6 c).2).1) (belowD b 9 (belowD b 10 (onceD b 6 c).2).2).1 (belowD b 9 (belowD b 10 (onceD b 6 c).2).2).2
def expDr:Nat->CM ExpD
 | 0=>leafB b
 | d+1=>expB b (expDr d)
end
def AllC {α:Type} (P:α->Prop) (m:CM α):Prop:=∀ c,P (m c).1
theorem and255 (y:Int):0<=ibits .and .i64 y 255/\ibits .and .i64 y 255<=255:=by
 show 0<=wr .i64 ((BitVec.ofInt 64 y &&& BitVec.ofInt 64 255).toNat:Int)/\wr .i64 ((BitVec.ofInt 64 y &&& BitVec.ofInt 64 255).toNat:Int)<=255
 have h:(BitVec.ofInt 64 y &&& BitVec.ofInt 64 255).toNat<=255:=by
  rw [BitVec.toNat_and]
  have e2:(BitVec.ofInt 64 (255:Int)).toNat=255:=by rfl
  rw [e2]
  exact Nat.and_le_right
 generalize (BitVec.ofInt 64 y &&& BitVec.ofInt 64 255).toNat=n at h ⊢
 have e:wr .i64 (n:Int)=(n:Int):=by
  simp [wr,IntKind.wrap,IntKind.bits,IntKind.signed]
  omega
 omega
section
variable {b:List Int}
theorem byteD_lt (c:Cur):0<=(byteD b c).1/\(byteD b c).1<=255:=by
 unfold byteD
 split
 ·exact and255 _
 ·exact and255 _
theorem belowD_lt {n:Int} (hn:0<n) (c:Cur):0<=(belowD b n c).1/\(belowD b n c).1<n:=by
 unfold belowD
 rw [if_neg (by omega)]
 have h1:=byteD_lt (b:=b) c
 have h2:=byteD_lt (b:=b) (byteD b c).2
 have h3:=byteD_lt (b:=b) (byteD b (byteD b c).2).2
 split
 ·rw [Int.tmod_eq_emod_of_nonneg h1.1]
  exact ⟨Int.emod_nonneg _ (by omega),Int.emod_lt_of_pos _ hn⟩
 ·simp only []
  rw [Int.tmod_eq_emod_of_nonneg (by omega)]
  exact ⟨Int.emod_nonneg _ (by omega),Int.emod_lt_of_pos _ hn⟩
theorem getD_mem {α:Type} {l:List α} {i:Nat} {d:α} (h:i<l.length):l.getD i d∈l:=by
 rw [List.getD_eq_getElem?_getD,List.getElem?_eq_getElem h]; exact List.getElem_mem h
theorem strP_mem {l:List (List UInt8)} (hl:l≠[]) (c:Cur):(strP b l c).1∈l:=by
 have h0:0<l.length:=List.length_pos_iff.2 hl
 have:=belowD_lt (b:=b) (n:=l.length) (by omega) c
 exact getD_mem (by omega)
theorem strP_all {l:List (List UInt8)} {P:List UInt8->Prop} (hl:l≠[]) (h:∀ x∈l,P x) (c:Cur):P (strP b l c).1:=h _ (strP_mem hl c)
theorem intD_mem {l:List Int} (hl:l≠[]) (c:Cur):(intD b l c).1∈l:=by
 have h0:0<l.length:=List.length_pos_iff.2 hl
 have:=belowD_lt (b:=b) (n:=l.length) (by omega) c
 exact getD_mem (by omega)
theorem repC_len {α:Type} {m:CM α}:∀ (n:Nat) (c:Cur),(repC m n c).1.length=n
 | 0,c=>rfl
 | n+1,c=>by rw [repC]; simp [repC_len n]
theorem repC_all {α : Type} {m : CM α} {P : α → Prop} (h : AllC P m) : ∀ (n : Nat) (c : Cur), ∀ x ∈ (repC m n c).1, P x
  | 0, c => fun x hx => by cases hx
  | n + 1, c => fun x hx => by
    rw [repC] at hx
    rcases List.mem_cons.1 hx with rfl | hx
    · exact h c
    · exact repC_all h n _ x hx
theorem nmP_ok (c:Cur):lowB (nmP b c).1=true/\(nmP b c).1.length<=5:=strP_all (P:=fun x=>lowB x=true/\x.length<=5) (by simp) (by decide) c
theorem upP_ok (c:Cur):upB (upP b c).1=true/\(upP b c).1.length<=5:=strP_all (P:=fun x=>upB x=true/\x.length<=5) (by simp) (by decide) c
def GP (B:Nat) (t:PatD):Prop:=t.okB=true/\t.fit/\t.sz<=B
theorem GPs {B : Nat} : ∀ {l : List PatD}, (∀ x ∈ l, GP B x) → PatD.okL l = true ∧ PatD.fitL l ∧ PatD.szL l ≤ l.length * (B + 1)
  | [], _ => ⟨rfl, trivial, Nat.zero_le _⟩
  | t :: l, h => by
    obtain ⟨h1, h2, h3⟩ := h t (by simp)
    obtain ⟨k1, k2, k3⟩ := GPs (l := l) fun x hx => h x (by simp [hx])
    refine ⟨by rw [PatD.okL, h1, k1]; rfl, by rw [PatD.fitL]; exact ⟨h2, k2⟩, ?_⟩
    rw [PatD.szL, List.length_cons, Nat.add_mul]; omega
theorem gp_leaf {k:Int} {n:List UInt8} {u q:Int} {B:Nat} (h:patH k n u q 0=true) (hu:u<=9223372036854775807) (hn:n.length<=B):GP B (.mk k n u q []) :=
 ⟨by rw [PatD.okB,PatD.okL,Bool.and_true]; exact h,by rw [PatD.fit]; exact ⟨hu,trivial⟩,by rw [PatD.sz,PatD.szL]; omega⟩
theorem patK_ok {rec:CM PatD} {B:Nat} {k q:Int} (h:(0<=k/\k<5)\/AllC (GP B) rec) (hk:0<=k/\k<9) (hq:0<=q):AllC (GP (3 * B+10)) (patK b rec k q):=fun c=>by
 have hn:=nmP_ok (b:=b) c
 have hu:=upP_ok (b:=b) c
 have h4:=belowD_lt (b:=b) (n:=4) (by decide) c
 have h2:=belowD_lt (b:=b) (n:=2) (by decide) c
 unfold patK
 by_cases k0:k=0
 ·rw [if_pos k0]; exact gp_leaf (by simp [patH,hq]) (by decide) (by simp)
 rw [if_neg k0]
 by_cases k1:k=1
 ·rw [if_pos k1]; exact gp_leaf (by simp [patH,hq,hn.1]) (by decide) (by omega)
 rw [if_neg k1]
 by_cases k2:k=2
 ·rw [if_pos k2]; exact gp_leaf (by simp [patH,hq,h4.1]) (by omega) (by simp)
 rw [if_neg k2]
 by_cases k3:k=3
 ·rw [if_pos k3]; exact gp_leaf (by simp [patH,hq,h2.1]; omega) (by omega) (by simp)
 rw [if_neg k3]
 by_cases k4:k=4
 ·rw [if_pos k4]; exact gp_leaf (by simp [patH,hq]) (by decide) (by simp)
 rw [if_neg k4]
 by_cases k5:k=5
 ·rw [if_pos k5]; exact gp_leaf (by simp [patH,hq,hu.1]) (by decide) (by omega)
 rw [if_neg k5]
 have hr:AllC (GP B) rec:=h.resolve_left (by omega)
 by_cases k6:k=6
 ·rw [if_pos k6]
  obtain ⟨r1,r2,r3⟩:=hr (upP b c).2
  refine ⟨?_,?_,?_⟩
  ·rw [PatD.okB,PatD.okL,PatD.okL,r1]; simp [patH,hq,hu.1]
  ·rw [PatD.fit,PatD.fitL,PatD.fitL]; exact ⟨by decide,r2,trivial⟩
  ·rw [PatD.sz,PatD.szL,PatD.szL]; omega
 rw [if_neg k6]
 have hl:=repC_len (m:=rec) (2+(belowD b 2 c).1).toNat (belowD b 2 c).2
 obtain ⟨r1,r2,r3⟩:=GPs (repC_all hr (2+(belowD b 2 c).1).toNat (belowD b 2 c).2)
 refine ⟨?_,?_,?_⟩
 ·rw [PatD.okB,r1,hl]; simp [patH,hq]; omega
 ·rw [PatD.fit]; exact ⟨by decide,r2⟩
 ·rw [hl] at r3
  have:(2+(belowD b 2 c).1).toNat * (B+1)<=3 * (B+1):=Nat.mul_le_mul_right _ (by omega)
  rw [PatD.sz,List.length_nil]; omega
def bndP:Nat->Nat
 | 0=>10
 | d+1=>3 * bndP d+10
theorem patDr_ok : ∀ d : Nat, AllC (GP (bndP d)) (patDr b d)
  | 0 => fun c => by
    have h5 := belowD_lt (b := b) (n := 5) (by decide) (belowD b 9 c).2
    have h9 := belowD_lt (b := b) (n := 9) (by decide) (belowD b 5 (belowD b 9 c).2).2
    exact patK_ok (B := 0) (.inl h5) ⟨h5.1, by omega⟩ h9.1 _
  | d + 1 => fun c => by
    have h5 := belowD_lt (b := b) (n := 9) (by decide) c
    have h9 := belowD_lt (b := b) (n := 9) (by decide) (belowD b 9 c).2
    exact patK_ok (.inr (patDr_ok d)) h5 h9.1 _
def GE (B:Nat) (t:ExpD):Prop:=t.okB=true/\t.fit/\t.sz<=B
theorem GEs {B : Nat} : ∀ {l : List ExpD}, (∀ x ∈ l, GE B x) → ExpD.okL l = true ∧ ExpD.fitL l ∧ ExpD.szL l ≤ l.length * (B + 1)
  | [], _ => ⟨rfl, trivial, Nat.zero_le _⟩
  | t :: l, h => by
    obtain ⟨h1, h2, h3⟩ := h t (by simp)
    obtain ⟨k1, k2, k3⟩ := GEs (l := l) fun x hx => h x (by simp [hx])
    refine ⟨by rw [ExpD.okL, h1, k1]; rfl, by rw [ExpD.fitL]; exact ⟨h2, k2⟩, ?_⟩
    rw [ExpD.szL, List.length_cons, Nat.add_mul]; omega
def GA (B:Nat) (t:ArmD):Prop:=t.okB=true/\t.fit/\t.sz<=B
theorem GAs {B : Nat} : ∀ {l : List ArmD}, (∀ x ∈ l, GA B x) → ExpD.okA l = true ∧ ExpD.fitA l ∧ ExpD.szA l ≤ l.length * (B + 1)
  | [], _ => ⟨rfl, trivial, Nat.zero_le _⟩
  | t :: l, h => by
    obtain ⟨h1, h2, h3⟩ := h t (by simp)
    obtain ⟨k1, k2, k3⟩ := GAs (l := l) fun x hx => h x (by simp [hx])
    refine ⟨by rw [ExpD.okA, h1, k1]; rfl, by rw [ExpD.fitA]; exact ⟨h2, k2⟩, ?_⟩
    rw [ExpD.szA, List.length_cons, Nat.add_mul]; omega
theorem ge_leaf {k:Int} {n:List UInt8} {u:Int} {t:List UInt8} {q:Int} {B:Nat} (h:expH k n u t q 0 0=true) (hu:u<=9223372036854775807) (hn:n.length+t.length<=B):GE B (leaf k n u t q) :=
 ⟨by rw [leaf,ExpD.okB,ExpD.okL,ExpD.okA,Bool.and_true,Bool.and_true]; exact h,by rw [leaf,ExpD.fit]; exact ⟨hu,trivial,trivial⟩,by rw [leaf,ExpD.sz,ExpD.szL,ExpD.szA]; omega⟩
theorem leafK_ok {k q:Int} (hk:1<=k/\k<=6) (hq:0<=q):AllC (GE 10) (leafK b k q):=fun c=>by
 have hn:=nmP_ok (b:=b) c
 have hu:=upP_ok (b:=b) c
 have h2:=belowD_lt (b:=b) (n:=2) (by decide) c
 unfold leafK
 by_cases k1:k=1
 ·rw [if_pos k1]
  have hm:=intD_mem (b:=b) (l:=[0,3,17,9223372036854775807]) (by simp) c
  have:0<=(intD b [0,3,17,9223372036854775807] c).1/\(intD b [0,3,17,9223372036854775807] c).1<=9223372036854775807:=by
   simp only [List.mem_cons,List.not_mem_nil,or_false] at hm; omega
  exact ge_leaf (by simp [expH,hq,this.1]) this.2 (by simp)
 rw [if_neg k1]
 by_cases k2:k=2
 ·rw [if_pos k2]
  have hs:=strP_all (b:=b) (l:=[[],[104,105],[97,34,98],[10]]) (P:=fun x=>plainB x=true/\x.length<=5) (by simp) (by decide) c
  exact ge_leaf (by simp [expH,hq,hs.1]) (by decide) (by simp; omega)
 rw [if_neg k2]
 by_cases k3:k=3
 ·rw [if_pos k3]; exact ge_leaf (by simp [expH,hq,h2.1]; omega) (by omega) (by simp)
 rw [if_neg k3]
 by_cases k5:k=5
 ·rw [if_pos k5]; exact ge_leaf (by simp [expH,hq,hn.1]) (by decide) (by simp; omega)
 rw [if_neg k5]
 by_cases k6:k=6
 ·rw [if_pos k6]; exact ge_leaf (by simp [expH,hq,hu.1]) (by decide) (by simp; omega)
 rw [if_neg k6]
 have:k=4:=by omega
 subst this
 exact ge_leaf (by simp [expH,hq]) (by decide) (by simp)
theorem leafB_ok:AllC (GE 10) (leafB b):=fun c=>by
 have h6:=belowD_lt (b:=b) (n:=6) (by decide) c
 have h9:=belowD_lt (b:=b) (n:=9) (by decide) (belowD b 6 c).2
 unfold leafB
 simp only []
 split
 ·exact ge_leaf (by decide) (by decide) (by decide)
 ·exact leafK_ok ⟨by omega,by omega⟩ h9.1 _
theorem armDr_ok {rec:CM ExpD} {B:Nat} (hr:AllC (GE B) rec):AllC (GA (bndP 2+B)) (armDr b rec):=fun c=>by
 obtain ⟨p1,p2,p3⟩:=patDr_ok (b:=b) 2 c
 obtain ⟨r1,r2,r3⟩:=hr (patDr b 2 c).2
 exact ⟨by rw [armDr,ArmD.okB,p1,r1]; rfl,by rw [armDr,ArmD.fit]; exact ⟨p2,r2⟩,by rw [armDr,ArmD.sz]; omega⟩
theorem nodeK_ok {rec:CM ExpD} {B:Nat} {k q:Int} (hr:AllC (GE B) rec) (hk:6<=k/\k<=15) (hq:0<=q):AllC (GE (4 * B+3 * bndP 2+20)) (nodeK b rec k q):=fun c=>by
 have kids:=fun (m:Nat) (c:Cur)=>GEs (repC_all hr m c)
 have klen:=fun (m:Nat) (c:Cur)=>repC_len (m:=rec) m c
 have fin:∀ (h:Hd) (c2:Cur),headK b rec k c=(h,c2)->(∀ m:Nat,(m:Int)=h.m->expH k h.n 0 h.t q m h.as'.length=true)->0<=h.m->h.m<=3->(h.m=1\/h.as'=[])->ExpD.okA h.as'=true->ExpD.fitA h.as'->h.n.length+h.t.length<=12->ExpD.szA h.as'<=3 * (bndP 2+B+1)->GE (4 * B+3 * bndP 2+20) (nodeK b rec k q c).1:=by
  intro h c2 e h1 h2 h3 h4 h5 h6 h7 h8
  unfold nodeK
  simp only [e]
  obtain ⟨r1,r2,r3⟩:=kids h.m.toNat c2
  refine ⟨?_,?_,?_⟩
  ·rw [ExpD.okB,r1,h5,klen,h1 _ (by omega)]; rfl
  ·rw [ExpD.fit]; exact ⟨by decide,r2,h6⟩
  ·rw [klen] at r3
   rw [ExpD.sz]
   rcases h4 with h4 | h4
   ·have e1:h.m.toNat * (B+1)=B+1:=by rw [h4]; show 1 * (B+1)=_; omega
    omega
   ·rw [h4,ExpD.szA]
    have:h.m.toNat * (B+1)<=3 * (B+1):=Nat.mul_le_mul_right _ (by omega)
    omega
 have hn:=nmP_ok (b:=b) c
 have hn2:=nmP_ok (b:=b) (nmP b c).2
 have hu:=upP_ok (b:=b) c
 have h2:=belowD_lt (b:=b) (n:=2) (by decide) c
 have h2u:=belowD_lt (b:=b) (n:=2) (by decide) (upP b c).2
 by_cases k6:k=6
 ·subst k6
  refine fin ⟨(upP b c).1,[],[],(belowD b 2 (upP b c).2).1⟩ _ (by unfold headK; rw [if_pos rfl]) (fun m hm=>?_) h2u.1 (by simp only []; omega) (.inr rfl) rfl trivial (by simp; omega) (by simp [ExpD.szA])
  simp only [] at hm
  simp [expH,hq,hu.1]; omega
 by_cases k7:k=7
 ·subst k7
  refine fin ⟨[],[],[],2+(belowD b 2 c).1⟩ _ (by unfold headK; rw [if_neg (by decide),if_pos rfl]) (fun m hm=>?_) (by simp only []; omega) (by simp only []; omega) (.inr rfl) rfl trivial (by simp) (by simp [ExpD.szA])
  simp only [] at hm
  simp [expH,hq]; omega
 by_cases k8:k=8
 ·subst k8
  refine fin ⟨(nmP b c).1,[],[],1⟩ _ (by unfold headK; rw [if_neg (by decide),if_neg (by decide),if_pos rfl]) (fun m hm=>?_) (by simp) (by simp) (.inr rfl) rfl trivial (by simp; omega) (by simp [ExpD.szA])
  simp only [] at hm
  simp [expH,hq,hn.1]; omega
 by_cases k10:k=10
 ·subst k10
  refine fin ⟨(nmP b c).1,[],[],2⟩ _ (by unfold headK; rw [if_neg (by decide),if_neg (by decide),if_neg (by decide),if_pos rfl]) (fun m hm=>?_) (by simp) (by simp) (.inr rfl) rfl trivial (by simp; omega) (by simp [ExpD.szA])
  simp only [] at hm
  simp [expH,hq,hn.1]; omega
 by_cases k11:k=11
 ·subst k11
  refine fin ⟨(nmP b c).1,(nmP b (nmP b c).2).1,[],2⟩ _ (by unfold headK; rw [if_neg (by decide),if_neg (by decide),if_neg (by decide),if_neg (by decide),if_pos rfl]) (fun m hm=>?_) (by simp) (by simp) (.inr rfl) rfl trivial (by simp; omega) (by simp [ExpD.szA])
  simp only [] at hm
  simp [expH,hq,hn.1,hn2.1]; omega
 by_cases k12:k=12
 ·subst k12
  refine fin ⟨[],[],[],3⟩ _ (by unfold headK; rw [if_neg (by decide),if_neg (by decide),if_neg (by decide),if_neg (by decide),if_neg (by decide),if_pos rfl]) (fun m hm=>?_) (by simp) (by simp) (.inr rfl) rfl trivial (by simp) (by simp [ExpD.szA])
  simp only [] at hm
  simp [expH,hq]; omega
 by_cases k13:k=13
 ·subst k13
  have h3:=belowD_lt (b:=b) (n:=3) (by decide) c
  obtain ⟨r1,r2,r3⟩:=GAs (repC_all (armDr_ok (b:=b) hr) (1+(belowD b 3 c).1).toNat (belowD b 3 c).2)
  rw [repC_len] at r3
  have hm3:(1+(belowD b 3 c).1).toNat * (bndP 2+B+1)<=3 * (bndP 2+B+1):=Nat.mul_le_mul_right _ (by omega)
  refine fin ⟨[],[],(repC (armDr b rec) (1+(belowD b 3 c).1).toNat (belowD b 3 c).2).1,1⟩ _ (by unfold headK; rw [if_neg (by decide),if_neg (by decide),if_neg (by decide),if_neg (by decide),if_neg (by decide),if_neg (by decide),if_pos rfl]) (fun m hm=>?_) (by simp) (by simp) (.inl rfl) r1 r2 (by simp) (by simp only []; omega)
  simp only [repC_len] at hm ⊢
  have:0<(((1+(belowD b 3 c).1).toNat:Nat):Int):=by omega
  simp [expH,hq]; omega
 by_cases k14:k=14
 ·subst k14
  have hs:=strP_all (b:=b) (l:=[[43],[45],[42],[94],[61],[60],[58,61]]) (P:=fun x=>binB x=true/\x.length<=5) (by simp) (by decide) c
  refine fin ⟨_,[],[],2⟩ _ (by unfold headK; rw [if_neg (by decide),if_neg (by decide),if_neg (by decide),if_neg (by decide),if_neg (by decide),if_neg (by decide),if_neg (by decide),if_pos rfl]) (fun m hm=>?_) (by simp) (by simp) (.inr rfl) rfl trivial (by simp; omega) (by simp [ExpD.szA])
  simp only [] at hm
  simp [expH,hq,hs.1]; omega
 by_cases k15:k=15
 ·subst k15
  have hs:=strP_all (b:=b) (l:=[[112,114,105,110,116],[101,120,105,116],[115,105,122,101],[114,101,102],[33]]) (P:=fun x=>arity x=1/\x.length<=5) (by simp) (by decide) c
  refine fin ⟨_,[],[],1⟩ _ (by unfold headK; rw [if_neg (by decide),if_neg (by decide),if_neg (by decide),if_neg (by decide),if_neg (by decide),if_neg (by decide),if_neg (by decide),if_neg (by decide),if_pos rfl]) (fun m hm=>?_) (by simp) (by simp) (.inr rfl) rfl trivial (by simp; omega) (by simp [ExpD.szA])
  simp only [] at hm
  simp [expH,hq,hs.1]; omega
 have:k=9:=by omega
 subst this
 refine fin ⟨[],[],[],2⟩ c (by unfold headK; rfl) (fun m hm=>?_) (by simp) (by simp) (.inr rfl) rfl trivial (by simp) (by simp [ExpD.szA])
 simp only [] at hm
 simp [expH,hq]; omega
def bndE:Nat->Nat
 | 0=>10
 | d+1=>4 * bndE d+3 * bndP 2+20
theorem GE.mono {B C:Nat} {t:ExpD} (h:GE B t) (hb:B<=C):GE C t:=⟨h.1,h.2.1,Nat.le_trans h.2.2 hb⟩
theorem expDr_ok : ∀ d : Nat, AllC (GE (bndE d)) (expDr b d)
  | 0 => leafB_ok
  | d + 1 => fun c => by
    have hb : 10 ≤ bndE (d + 1) := by rw [bndE]; omega
    show GE _ (expB b (expDr b d) c).1
    unfold expB
    split
    · exact (leafB_ok _).mono hb
    · have h10 := belowD_lt (b := b) (n := 10) (by decide) (onceD b 6 c).2
      have h9 := belowD_lt (b := b) (n := 9) (by decide) (belowD b 10 (onceD b 6 c).2).2
      exact nodeK_ok (expDr_ok d) ⟨by omega, by omega⟩ h9.1 _
end
end Go.Proofs.YteilijfligofdaaGreatDoor.Pg