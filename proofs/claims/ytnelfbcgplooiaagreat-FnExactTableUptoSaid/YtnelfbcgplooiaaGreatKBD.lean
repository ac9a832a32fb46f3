/- Texts PgQ PgR PgS PgT PgU PgV PjJ PjK PjL, merged. -/
import Derived.Test.YtnelfbcgplooiaaGreatKBC
/- Patterns and types that are right, as the reference judges. -/
set_option linter.all false
namespace Go.Proofs.YtnelfbcgplooiaaGreat.Pg
open Go.AM Mc
theorem all_take_false {α:Type} {p:α→Bool} {s:List α} {x:Nat} (h:(s.take x).all p=false):s.all p=false:=by
 rw [List.all_eq_false] at h ⊢
 obtain ⟨a,ha,hp⟩:=h
 exact ⟨a,List.mem_of_mem_take ha,hp⟩
theorem and_take_false {α:Type} {p:α→Bool} {s:List α} {x:Nat} {B:Bool} (h:(B && (s.take x).all p)=false):(B && s.all p)=false:=by
 cases B
 ·rfl
 ·rw [Bool.true_and] at h ⊢
  exact all_take_false h
theorem all_step {α:Type} {p:α→Bool} {s:List α} {x:Nat} {B:Bool} (hB:(B && (s.take x).all p)=true) (h:x<s.length):(B && (s.take (x+1)).all p)=p s[x]:=by
 rw [all_takeA h,← Bool.and_assoc,hB,Bool.true_and]
theorem pat_OkS (k:Int) (n:List UInt8) (u p:Int) (ks:List PatD) (hk:∀ a∈ks,OkC 98 (av a.cells) a.ok):OkC 98 (av (PatD.cells (.mk k n u p ks))) (PatD.ok (.mk k n u p ks)):=by
 intro H
 refine acall_drop1 ?_ (tf_p _)
 refine call98 (by simp) ?_
 rw [PatD.ok,PatD.okL_eq]
 by_cases h1:k=1∨k=5
 ·have e:patHead k n u p ks.length=(decide (0≤p) && (decide (n=[]) && (decide (u=0) && decide (ks.length=0)))):=by
   unfold patHead
   rw [if_pos h1]
   all_goals generalize decide (0≤p)=b0
   all_goals generalize decide (n=[])=b1
   all_goals generalize decide (u=0)=b2
   all_goals generalize decide (ks.length=0)=b3
   all_goals cases b0 <;> cases b1 <;> cases b2 <;> cases b3 <;> rfl
  rw [e]
  rcases h1 with rfl | rfl
  ·simp only [go_sem,reduceIte,↓reduceIte,sevalprocAttr,Z0,Z1,bytesOf,mc98,mr98,PatD.cells,PatD.cellsL_eq,List.length_map,dN0,dN1,dN2,dE1,dE2,dE3,dPos]
   intro hl
   rw [maxLe] at hl
   try (simp only [go_sem,reduceIte,↓reduceIte,sevalprocAttr,Z0,Z1,bytesOf,PatD.cellsL_eq,List.length_map,dN0,dN1,dN2,dE1,dE2,dE3,dPos])
   cases ha0:decide (0≤p)
   ·simp only [go_sem,reduceIte,↓reduceIte,sevalprocAttr,Z0,Z1,bytesOf,ha0,Bool.false_and]
    refine ⟨Unit,[1,3,4,7],fun _ st=>st=⟨[(1,.ptr H.length 0),(3,.p (.i .i64 ks.length)),(4,.p (.b false)),(7,.p (.i .i64 0))],[],H++[AO.var [.p (.i .i64 1),.p (.s n),.p (.i .i64 u),.p (.i .i64 p),.p (.l (ks.map PatD.cells))]]⟩,fun _=>0,⟨(),?_⟩,?_⟩
    ·simp only [go_sem,reduceIte,↓reduceIte,sevalprocAttr,Z0,Z1,bytesOf]
    ·rintro _ _ rfl
     cases h0:decide ((0:Int)<(ks.length:Int)) <;> (simp only [go_sem,reduceIte,↓reduceIte,sevalprocAttr,Z0,Z1,bytesOf,h0]; exact ⟨_,rfl⟩)
   ·simp only [go_sem,reduceIte,↓reduceIte,sevalprocAttr,Z0,Z1,bytesOf,ha0,Bool.true_and,PatD.cellsL_eq,List.length_map,dN0,dN1,dN2,dE1,dE2,dE3,dPos]
    cases ha1:decide (n=[])
    ·simp only [go_sem,reduceIte,↓reduceIte,sevalprocAttr,Z0,Z1,bytesOf,ha1,Bool.false_and]
     refine ⟨Unit,[1,3,4,7],fun _ st=>st=⟨[(1,.ptr H.length 0),(3,.p (.i .i64 ks.length)),(4,.p (.b false)),(7,.p (.i .i64 0))],[],H++[AO.var [.p (.i .i64 1),.p (.s n),.p (.i .i64 u),.p (.i .i64 p),.p (.l (ks.map PatD.cells))]]⟩,fun _=>0,⟨(),?_⟩,?_⟩
     ·simp only [go_sem,reduceIte,↓reduceIte,sevalprocAttr,Z0,Z1,bytesOf]
     ·rintro _ _ rfl
      cases h0:decide ((0:Int)<(ks.length:Int)) <;> (simp only [go_sem,reduceIte,↓reduceIte,sevalprocAttr,Z0,Z1,bytesOf,h0]; exact ⟨_,rfl⟩)
    ·simp only [go_sem,reduceIte,↓reduceIte,sevalprocAttr,Z0,Z1,bytesOf,ha1,Bool.true_and,PatD.cellsL_eq,List.length_map,dN0,dN1,dN2,dE1,dE2,dE3,dPos]
     cases ha2:decide (u=0)
     ·simp only [go_sem,reduceIte,↓reduceIte,sevalprocAttr,Z0,Z1,bytesOf,ha2,Bool.false_and]
      refine ⟨Unit,[1,3,4,7],fun _ st=>st=⟨[(1,.ptr H.length 0),(3,.p (.i .i64 ks.length)),(4,.p (.b false)),(7,.p (.i .i64 0))],[],H++[AO.var [.p (.i .i64 1),.p (.s n),.p (.i .i64 u),.p (.i .i64 p),.p (.l (ks.map PatD.cells))]]⟩,fun _=>0,⟨(),?_⟩,?_⟩
      ·simp only [go_sem,reduceIte,↓reduceIte,sevalprocAttr,Z0,Z1,bytesOf]
      ·rintro _ _ rfl
       cases h0:decide ((0:Int)<(ks.length:Int)) <;> (simp only [go_sem,reduceIte,↓reduceIte,sevalprocAttr,Z0,Z1,bytesOf,h0]; exact ⟨_,rfl⟩)
     ·simp only [go_sem,reduceIte,↓reduceIte,sevalprocAttr,Z0,Z1,bytesOf,ha2,Bool.true_and,PatD.cellsL_eq,List.length_map,dN0,dN1,dN2,dE1,dE2,dE3,dPos]
      try (simp only [go_sem,reduceIte,↓reduceIte,sevalprocAttr,Z0,Z1,bytesOf,Bool.true_and,PatD.cellsL_eq,List.length_map,dN0,dN1,dN2,dE1,dE2,dE3,dPos])
      refine ⟨Nat × List AO,[1,3,4,7],fun x st=>(x.1≤ks.length∧x.2[H.length]?=some (.var [.p (.i .i64 1),.p (.s n),.p (.i .i64 u),.p (.i .i64 p),.p (.l (ks.map PatD.cells))])∧∃ G,x.2=H++G)∧st=⟨[(1,.ptr H.length 0),(3,.p (.i .i64 ks.length)),(4,.p (.b (decide (ks.length=0) && (ks.take x.1).all PatD.ok))),(7,.p (.i .i64 x.1))],[],x.2⟩,fun x=>ks.length - x.1,⟨(0,H++[AO.var [.p (.i .i64 1),.p (.s n),.p (.i .i64 u),.p (.i .i64 p),.p (.l (ks.map PatD.cells))]]),?_⟩,?_⟩
      ·simp only [go_sem,reduceIte,↓reduceIte,sevalprocAttr,Z0,Z1,bytesOf,List.take_zero,List.all_nil,Bool.and_true]
       exact ⟨Nat.zero_le _,_,rfl⟩
      ·rintro ⟨x,HG⟩ _ ⟨⟨hx,hbG,G',hG'⟩,rfl⟩
       simp only at hx hbG hG'
       by_cases hlt:x<ks.length
       ·have d1:decide ((x:Int)<(ks.length:Int))=true:=by simp; omega
        have hlt':((x:Int)<(ks.length:Int)):=by omega
        have ex:=wrN x (by omega)
        have hg:(ks.map PatD.cells)[x]?=some (PatD.cells ks[x]):=by simp [hlt]
        cases hB:(decide (ks.length=0) && (ks.take x).all PatD.ok)
        ·simp only [go_sem,reduceIte,↓reduceIte,sevalprocAttr,Z0,Z1,bytesOf,d1]
         rw [and_take_false hB]
         exact ⟨rfl,_,hG'⟩
        ·have hok:=all_step hB hlt
         have hcall:=hk ks[x] (List.getElem_mem hlt)
         generalize ks[x]=c at hg hok hcall
         obtain ⟨ck,cn,cu,cp,cks⟩:=c
         simp only [go_sem,reduceIte,↓reduceIte,sevalprocAttr,Z0,Z1,bytesOf,d1,hbG,hlt',hg,PatD.cells,zl8_0,zl8_1,zl8_2,zl8_3]
         refine acall_pure (hcall _) ?_
         simp only [go_sem,reduceIte,↓reduceIte,sevalprocAttr,Z0,Z1,bytesOf,ex]
         rw [← hok]
         exact ⟨(x+1,HG),⟨⟨by simp only; omega,hbG,_,hG'⟩,rfl⟩,by simp only; omega⟩
       ·have:x=ks.length:=by omega
        subst this
        have d1:decide ((ks.length:Int)<(ks.length:Int))=false:=by simp
        simp only [go_sem,reduceIte,↓reduceIte,sevalprocAttr,Z0,Z1,bytesOf,d1,List.take_length]
        exact ⟨_,hG'⟩
  ·simp only [go_sem,reduceIte,↓reduceIte,sevalprocAttr,Z0,Z1,bytesOf,mc98,mr98,PatD.cells,PatD.cellsL_eq,List.length_map,dN0,dN1,dN2,dE1,dE2,dE3,dPos]
   intro hl
   rw [maxLe] at hl
   try (simp only [go_sem,reduceIte,↓reduceIte,sevalprocAttr,Z0,Z1,bytesOf,PatD.cellsL_eq,List.length_map,dN0,dN1,dN2,dE1,dE2,dE3,dPos])
   cases ha0:decide (0≤p)
   ·simp only [go_sem,reduceIte,↓reduceIte,sevalprocAttr,Z0,Z1,bytesOf,ha0,Bool.false_and]
    refine ⟨Unit,[1,3,4,7],fun _ st=>st=⟨[(1,.ptr H.length 0),(3,.p (.i .i64 ks.length)),(4,.p (.b false)),(7,.p (.i .i64 0))],[],H++[AO.var [.p (.i .i64 5),.p (.s n),.p (.i .i64 u),.p (.i .i64 p),.p (.l (ks.map PatD.cells))]]⟩,fun _=>0,⟨(),?_⟩,?_⟩
    ·simp only [go_sem,reduceIte,↓reduceIte,sevalprocAttr,Z0,Z1,bytesOf]
    ·rintro _ _ rfl
     cases h0:decide ((0:Int)<(ks.length:Int)) <;> (simp only [go_sem,reduceIte,↓reduceIte,sevalprocAttr,Z0,Z1,bytesOf,h0]; exact ⟨_,rfl⟩)
   ·simp only [go_sem,reduceIte,↓reduceIte,sevalprocAttr,Z0,Z1,bytesOf,ha0,Bool.true_and,PatD.cellsL_eq,List.length_map,dN0,dN1,dN2,dE1,dE2,dE3,dPos]
    cases ha1:decide (n=[])
    ·simp only [go_sem,reduceIte,↓reduceIte,sevalprocAttr,Z0,Z1,bytesOf,ha1,Bool.false_and]
     refine ⟨Unit,[1,3,4,7],fun _ st=>st=⟨[(1,.ptr H.length 0),(3,.p (.i .i64 ks.length)),(4,.p (.b false)),(7,.p (.i .i64 0))],[],H++[AO.var [.p (.i .i64 5),.p (.s n),.p (.i .i64 u),.p (.i .i64 p),.p (.l (ks.map PatD.cells))]]⟩,fun _=>0,⟨(),?_⟩,?_⟩
     ·simp only [go_sem,reduceIte,↓reduceIte,sevalprocAttr,Z0,Z1,bytesOf]
     ·rintro _ _ rfl
      cases h0:decide ((0:Int)<(ks.length:Int)) <;> (simp only [go_sem,reduceIte,↓reduceIte,sevalprocAttr,Z0,Z1,bytesOf,h0]; exact ⟨_,rfl⟩)
    ·simp only [go_sem,reduceIte,↓reduceIte,sevalprocAttr,Z0,Z1,bytesOf,ha1,Bool.true_and,PatD.cellsL_eq,List.length_map,dN0,dN1,dN2,dE1,dE2,dE3,dPos]
     cases ha2:decide (u=0)
     ·simp only [go_sem,reduceIte,↓reduceIte,sevalprocAttr,Z0,Z1,bytesOf,ha2,Bool.false_and]
      refine ⟨Unit,[1,3,4,7],fun _ st=>st=⟨[(1,.ptr H.length 0),(3,.p (.i .i64 ks.length)),(4,.p (.b false)),(7,.p (.i .i64 0))],[],H++[AO.var [.p (.i .i64 5),.p (.s n),.p (.i .i64 u),.p (.i .i64 p),.p (.l (ks.map PatD.cells))]]⟩,fun _=>0,⟨(),?_⟩,?_⟩
      ·simp only [go_sem,reduceIte,↓reduceIte,sevalprocAttr,Z0,Z1,bytesOf]
      ·rintro _ _ rfl
       cases h0:decide ((0:Int)<(ks.length:Int)) <;> (simp only [go_sem,reduceIte,↓reduceIte,sevalprocAttr,Z0,Z1,bytesOf,h0]; exact ⟨_,rfl⟩)
     ·simp only [go_sem,reduceIte,↓reduceIte,sevalprocAttr,Z0,Z1,bytesOf,ha2,Bool.true_and,PatD.cellsL_eq,List.length_map,dN0,dN1,dN2,dE1,dE2,dE3,dPos]
      try (simp only [go_sem,reduceIte,↓reduceIte,sevalprocAttr,Z0,Z1,bytesOf,Bool.true_and,PatD.cellsL_eq,List.length_map,dN0,dN1,dN2,dE1,dE2,dE3,dPos])
      refine ⟨Nat × List AO,[1,3,4,7],fun x st=>(x.1≤ks.length∧x.2[H.length]?=some (.var [.p (.i .i64 5),.p (.s n),.p (.i .i64 u),.p (.i .i64 p),.p (.l (ks.map PatD.cells))])∧∃ G,x.2=H++G)∧st=⟨[(1,.ptr H.length 0),(3,.p (.i .i64 ks.length)),(4,.p (.b (decide (ks.length=0) && (ks.take x.1).all PatD.ok))),(7,.p (.i .i64 x.1))],[],x.2⟩,fun x=>ks.length - x.1,⟨(0,H++[AO.var [.p (.i .i64 5),.p (.s n),.p (.i .i64 u),.p (.i .i64 p),.p (.l (ks.map PatD.cells))]]),?_⟩,?_⟩
      ·simp only [go_sem,reduceIte,↓reduceIte,sevalprocAttr,Z0,Z1,bytesOf,List.take_zero,List.all_nil,Bool.and_true]
       exact ⟨Nat.zero_le _,_,rfl⟩
      ·rintro ⟨x,HG⟩ _ ⟨⟨hx,hbG,G',hG'⟩,rfl⟩
       simp only at hx hbG hG'
       by_cases hlt:x<ks.length
       ·have d1:decide ((x:Int)<(ks.length:Int))=true:=by simp; omega
        have hlt':((x:Int)<(ks.length:Int)):=by omega
        have ex:=wrN x (by omega)
        have hg:(ks.map PatD.cells)[x]?=some (PatD.cells ks[x]):=by simp [hlt]
        cases hB:(decide (ks.length=0) && (ks.take x).all PatD.ok)
        ·simp only [go_sem,reduceIte,↓reduceIte,sevalprocAttr,Z0,Z1,bytesOf,d1]
         rw [and_take_false hB]
         exact ⟨rfl,_,hG'⟩
        ·have hok:=all_step hB hlt
         have hcall:=hk ks[x] (List.getElem_mem hlt)
         generalize ks[x]=c at hg hok hcall
         obtain ⟨ck,cn,cu,cp,cks⟩:=c
         simp only [go_sem,reduceIte,↓reduceIte,sevalprocAttr,Z0,Z1,bytesOf,d1,hbG,hlt',hg,PatD.cells,zl8_0,zl8_1,zl8_2,zl8_3]
         refine acall_pure (hcall _) ?_
         simp only [go_sem,reduceIte,↓reduceIte,sevalprocAttr,Z0,Z1,bytesOf,ex]
         rw [← hok]
         exact ⟨(x+1,HG),⟨⟨by simp only; omega,hbG,_,hG'⟩,rfl⟩,by simp only; omega⟩
       ·have:x=ks.length:=by omega
        subst this
        have d1:decide ((ks.length:Int)<(ks.length:Int))=false:=by simp
        simp only [go_sem,reduceIte,↓reduceIte,sevalprocAttr,Z0,Z1,bytesOf,d1,List.take_length]
        exact ⟨_,hG'⟩
 by_cases h2:k=2
 ·have e:patHead k n u p ks.length=(decide (0≤p) && (lowD n && (decide (u=0) && decide (ks.length=0)))):=by
   unfold patHead
   rw [if_neg h1,if_pos h2]
   all_goals generalize decide (0≤p)=b0
   all_goals generalize lowD n=b1
   all_goals generalize decide (u=0)=b2
   all_goals generalize decide (ks.length=0)=b3
   all_goals cases b0 <;> cases b1 <;> cases b2 <;> cases b3 <;> rfl
  rw [e]
  subst h2
  ·simp only [go_sem,reduceIte,↓reduceIte,sevalprocAttr,Z0,Z1,bytesOf,mc98,mr98,PatD.cells,PatD.cellsL_eq,List.length_map,dN0,dN1,dN2,dE1,dE2,dE3,dPos]
   intro hl
   rw [maxLe] at hl
   try (simp only [go_sem,reduceIte,↓reduceIte,sevalprocAttr,Z0,Z1,bytesOf,PatD.cellsL_eq,List.length_map,dN0,dN1,dN2,dE1,dE2,dE3,dPos])
   cases ha0:decide (0≤p)
   ·simp only [go_sem,reduceIte,↓reduceIte,sevalprocAttr,Z0,Z1,bytesOf,ha0,Bool.false_and]
    refine ⟨Unit,[1,3,4,7],fun _ st=>st=⟨[(1,.ptr H.length 0),(3,.p (.i .i64 ks.length)),(4,.p (.b false)),(7,.p (.i .i64 0))],[],H++[AO.var [.p (.i .i64 2),.p (.s n),.p (.i .i64 u),.p (.i .i64 p),.p (.l (ks.map PatD.cells))]]⟩,fun _=>0,⟨(),?_⟩,?_⟩
    ·simp only [go_sem,reduceIte,↓reduceIte,sevalprocAttr,Z0,Z1,bytesOf]
    ·rintro _ _ rfl
     cases h0:decide ((0:Int)<(ks.length:Int)) <;> (simp only [go_sem,reduceIte,↓reduceIte,sevalprocAttr,Z0,Z1,bytesOf,h0]; exact ⟨_,rfl⟩)
   ·simp only [go_sem,reduceIte,↓reduceIte,sevalprocAttr,Z0,Z1,bytesOf,ha0,Bool.true_and,PatD.cellsL_eq,List.length_map,dN0,dN1,dN2,dE1,dE2,dE3,dPos]
    refine acall_pure (lowS n _) ?_
    (try (simp only [go_sem,reduceIte,↓reduceIte,sevalprocAttr,Z0,Z1,bytesOf,Bool.true_and]))
    cases ha1:lowD n
    ·simp only [go_sem,reduceIte,↓reduceIte,sevalprocAttr,Z0,Z1,bytesOf,ha1,Bool.false_and]
     refine ⟨Unit,[1,3,4,7],fun _ st=>st=⟨[(1,.ptr H.length 0),(3,.p (.i .i64 ks.length)),(4,.p (.b false)),(7,.p (.i .i64 0))],[],H++[AO.var [.p (.i .i64 2),.p (.s n),.p (.i .i64 u),.p (.i .i64 p),.p (.l (ks.map PatD.cells))]]⟩,fun _=>0,⟨(),?_⟩,?_⟩
     ·simp only [go_sem,reduceIte,↓reduceIte,sevalprocAttr,Z0,Z1,bytesOf]
     ·rintro _ _ rfl
      cases h0:decide ((0:Int)<(ks.length:Int)) <;> (simp only [go_sem,reduceIte,↓reduceIte,sevalprocAttr,Z0,Z1,bytesOf,h0]; exact ⟨_,rfl⟩)
    ·simp only [go_sem,reduceIte,↓reduceIte,sevalprocAttr,Z0,Z1,bytesOf,ha1,Bool.true_and,PatD.cellsL_eq,List.length_map,dN0,dN1,dN2,dE1,dE2,dE3,dPos]
     cases ha2:decide (u=0)
     ·simp only [go_sem,reduceIte,↓reduceIte,sevalprocAttr,Z0,Z1,bytesOf,ha2,Bool.false_and]
      refine ⟨Unit,[1,3,4,7],fun _ st=>st=⟨[(1,.ptr H.length 0),(3,.p (.i .i64 ks.length)),(4,.p (.b false)),(7,.p (.i .i64 0))],[],H++[AO.var [.p (.i .i64 2),.p (.s n),.p (.i .i64 u),.p (.i .i64 p),.p (.l (ks.map PatD.cells))]]⟩,fun _=>0,⟨(),?_⟩,?_⟩
      ·simp only [go_sem,reduceIte,↓reduceIte,sevalprocAttr,Z0,Z1,bytesOf]
      ·rintro _ _ rfl
       cases h0:decide ((0:Int)<(ks.length:Int)) <;> (simp only [go_sem,reduceIte,↓reduceIte,sevalprocAttr,Z0,Z1,bytesOf,h0]; exact ⟨_,rfl⟩)
     ·simp only [go_sem,reduceIte,↓reduceIte,sevalprocAttr,Z0,Z1,bytesOf,ha2,Bool.true_and,PatD.cellsL_eq,List.length_map,dN0,dN1,dN2,dE1,dE2,dE3,dPos]
      try (simp only [go_sem,reduceIte,↓reduceIte,sevalprocAttr,Z0,Z1,bytesOf,Bool.true_and,PatD.cellsL_eq,List.length_map,dN0,dN1,dN2,dE1,dE2,dE3,dPos])
      refine ⟨Nat × List AO,[1,3,4,7],fun x st=>(x.1≤ks.length∧x.2[H.length]?=some (.var [.p (.i .i64 2),.p (.s n),.p (.i .i64 u),.p (.i .i64 p),.p (.l (ks.map PatD.cells))])∧∃ G,x.2=H++G)∧st=⟨[(1,.ptr H.length 0),(3,.p (.i .i64 ks.length)),(4,.p (.b (decide (ks.length=0) && (ks.take x.1).all PatD.ok))),(7,.p (.i .i64 x.1))],[],x.2⟩,fun x=>ks.length - x.1,⟨(0,H++[AO.var [.p (.i .i64 2),.p (.s n),.p (.i .i64 u),.p (.i .i64 p),.p (.l (ks.map PatD.cells))]]),?_⟩,?_⟩
      ·simp only [go_sem,reduceIte,↓reduceIte,sevalprocAttr,Z0,Z1,bytesOf,List.take_zero,List.all_nil,Bool.and_true]
       exact ⟨Nat.zero_le _,_,rfl⟩
      ·rintro ⟨x,HG⟩ _ ⟨⟨hx,hbG,G',hG'⟩,rfl⟩
       simp only at hx hbG hG'
       by_cases hlt:x<ks.length
       ·have d1:decide ((x:Int)<(ks.length:Int))=true:=by simp; omega
        have hlt':((x:Int)<(ks.length:Int)):=by omega
        have ex:=wrN x (by omega)
        have hg:(ks.map PatD.cells)[x]?=some (PatD.cells ks[x]):=by simp [hlt]
        cases hB:(decide (ks.length=0) && (ks.take x).all PatD.ok)
        ·simp only [go_sem,reduceIte,↓reduceIte,sevalprocAttr,Z0,Z1,bytesOf,d1]
         rw [and_take_false hB]
         exact ⟨rfl,_,hG'⟩
        ·have hok:=all_step hB hlt
         have hcall:=hk ks[x] (List.getElem_mem hlt)
         generalize ks[x]=c at hg hok hcall
         obtain ⟨ck,cn,cu,cp,cks⟩:=c
         simp only [go_sem,reduceIte,↓reduceIte,sevalprocAttr,Z0,Z1,bytesOf,d1,hbG,hlt',hg,PatD.cells,zl8_0,zl8_1,zl8_2,zl8_3]
         refine acall_pure (hcall _) ?_
         simp only [go_sem,reduceIte,↓reduceIte,sevalprocAttr,Z0,Z1,bytesOf,ex]
         rw [← hok]
         exact ⟨(x+1,HG),⟨⟨by simp only; omega,hbG,_,hG'⟩,rfl⟩,by simp only; omega⟩
       ·have:x=ks.length:=by omega
        subst this
        have d1:decide ((ks.length:Int)<(ks.length:Int))=false:=by simp
        simp only [go_sem,reduceIte,↓reduceIte,sevalprocAttr,Z0,Z1,bytesOf,d1,List.take_length]
        exact ⟨_,hG'⟩
 by_cases h3:k=3
 ·have e:patHead k n u p ks.length=(decide (0≤p) && (decide (n=[]) && (decide (0≤u) && decide (ks.length=0)))):=by
   unfold patHead
   rw [if_neg h1,if_neg h2,if_pos h3]
   all_goals generalize decide (0≤p)=b0
   all_goals generalize decide (n=[])=b1
   all_goals generalize decide (0≤u)=b2
   all_goals generalize decide (ks.length=0)=b3
   all_goals cases b0 <;> cases b1 <;> cases b2 <;> cases b3 <;> rfl
  rw [e]
  subst h3
  ·simp only [go_sem,reduceIte,↓reduceIte,sevalprocAttr,Z0,Z1,bytesOf,mc98,mr98,PatD.cells,PatD.cellsL_eq,List.length_map,dN0,dN1,dN2,dE1,dE2,dE3,dPos]
   intro hl
   rw [maxLe] at hl
   try (simp only [go_sem,reduceIte,↓reduceIte,sevalprocAttr,Z0,Z1,bytesOf,PatD.cellsL_eq,List.length_map,dN0,dN1,dN2,dE1,dE2,dE3,dPos])
   cases ha0:decide (0≤p)
   ·simp only [go_sem,reduceIte,↓reduceIte,sevalprocAttr,Z0,Z1,bytesOf,ha0,Bool.false_and]
    refine ⟨Unit,[1,3,4,7],fun _ st=>st=⟨[(1,.ptr H.length 0),(3,.p (.i .i64 ks.length)),(4,.p (.b false)),(7,.p (.i .i64 0))],[],H++[AO.var [.p (.i .i64 3),.p (.s n),.p (.i .i64 u),.p (.i .i64 p),.p (.l (ks.map PatD.cells))]]⟩,fun _=>0,⟨(),?_⟩,?_⟩
    ·simp only [go_sem,reduceIte,↓reduceIte,sevalprocAttr,Z0,Z1,bytesOf]
    ·rintro _ _ rfl
     cases h0:decide ((0:Int)<(ks.length:Int)) <;> (simp only [go_sem,reduceIte,↓reduceIte,sevalprocAttr,Z0,Z1,bytesOf,h0]; exact ⟨_,rfl⟩)
   ·simp only [go_sem,reduceIte,↓reduceIte,sevalprocAttr,Z0,Z1,bytesOf,ha0,Bool.true_and,PatD.cellsL_eq,List.length_map,dN0,dN1,dN2,dE1,dE2,dE3,dPos]
    cases ha1:decide (n=[])
    ·simp only [go_sem,reduceIte,↓reduceIte,sevalprocAttr,Z0,Z1,bytesOf,ha1,Bool.false_and]
     refine ⟨Unit,[1,3,4,7],fun _ st=>st=⟨[(1,.ptr H.length 0),(3,.p (.i .i64 ks.length)),(4,.p (.b false)),(7,.p (.i .i64 0))],[],H++[AO.var [.p (.i .i64 3),.p (.s n),.p (.i .i64 u),.p (.i .i64 p),.p (.l (ks.map PatD.cells))]]⟩,fun _=>0,⟨(),?_⟩,?_⟩
     ·simp only [go_sem,reduceIte,↓reduceIte,sevalprocAttr,Z0,Z1,bytesOf]
     ·rintro _ _ rfl
      cases h0:decide ((0:Int)<(ks.length:Int)) <;> (simp only [go_sem,reduceIte,↓reduceIte,sevalprocAttr,Z0,Z1,bytesOf,h0]; exact ⟨_,rfl⟩)
    ·simp only [go_sem,reduceIte,↓reduceIte,sevalprocAttr,Z0,Z1,bytesOf,ha1,Bool.true_and,PatD.cellsL_eq,List.length_map,dN0,dN1,dN2,dE1,dE2,dE3,dPos]
     cases ha2:decide (0≤u)
     ·simp only [go_sem,reduceIte,↓reduceIte,sevalprocAttr,Z0,Z1,bytesOf,ha2,Bool.false_and]
      refine ⟨Unit,[1,3,4,7],fun _ st=>st=⟨[(1,.ptr H.length 0),(3,.p (.i .i64 ks.length)),(4,.p (.b false)),(7,.p (.i .i64 0))],[],H++[AO.var [.p (.i .i64 3),.p (.s n),.p (.i .i64 u),.p (.i .i64 p),.p (.l (ks.map PatD.cells))]]⟩,fun _=>0,⟨(),?_⟩,?_⟩
      ·simp only [go_sem,reduceIte,↓reduceIte,sevalprocAttr,Z0,Z1,bytesOf]
      ·rintro _ _ rfl
       cases h0:decide ((0:Int)<(ks.length:Int)) <;> (simp only [go_sem,reduceIte,↓reduceIte,sevalprocAttr,Z0,Z1,bytesOf,h0]; exact ⟨_,rfl⟩)
     ·simp only [go_sem,reduceIte,↓reduceIte,sevalprocAttr,Z0,Z1,bytesOf,ha2,Bool.true_and,PatD.cellsL_eq,List.length_map,dN0,dN1,dN2,dE1,dE2,dE3,dPos]
      try (simp only [go_sem,reduceIte,↓reduceIte,sevalprocAttr,Z0,Z1,bytesOf,Bool.true_and,PatD.cellsL_eq,List.length_map,dN0,dN1,dN2,dE1,dE2,dE3,dPos])
      refine ⟨Nat × List AO,[1,3,4,7],fun x st=>(x.1≤ks.length∧x.2[H.length]?=some (.var [.p (.i .i64 3),.p (.s n),.p (.i .i64 u),.p (.i .i64 p),.p (.l (ks.map PatD.cells))])∧∃ G,x.2=H++G)∧st=⟨[(1,.ptr H.length 0),(3,.p (.i .i64 ks.length)),(4,.p (.b (decide (ks.length=0) && (ks.take x.1).all PatD.ok))),(7,.p (.i .i64 x.1))],[],x.2⟩,fun x=>ks.length - x.1,⟨(0,H++[AO.var [.p (.i .i64 3),.p (.s n),.p (.i .i64 u),.p (.i .i64 p),.p (.l (ks.map PatD.cells))]]),?_⟩,?_⟩
      ·simp only [go_sem,reduceIte,↓reduceIte,sevalprocAttr,Z0,Z1,bytesOf,List.take_zero,List.all_nil,Bool.and_true]
       exact ⟨Nat.zero_le _,_,rfl⟩
      ·rintro ⟨x,HG⟩ _ ⟨⟨hx,hbG,G',hG'⟩,rfl⟩
       simp only at hx hbG hG'
       by_cases hlt:x<ks.length
       ·have d1:decide ((x:Int)<(ks.length:Int))=true:=by simp; omega
        have hlt':((x:Int)<(ks.length:Int)):=by omega
        have ex:=wrN x (by omega)
        have hg:(ks.map PatD.cells)[x]?=some (PatD.cells ks[x]):=by simp [hlt]
        cases hB:(decide (ks.length=0) && (ks.take x).all PatD.ok)
        ·simp only [go_sem,reduceIte,↓reduceIte,sevalprocAttr,Z0,Z1,bytesOf,d1]
         rw [and_take_false hB]
         exact ⟨rfl,_,hG'⟩
        ·have hok:=all_step hB hlt
         have hcall:=hk ks[x] (List.getElem_mem hlt)
         generalize ks[x]=c at hg hok hcall
         obtain ⟨ck,cn,cu,cp,cks⟩:=c
         simp only [go_sem,reduceIte,↓reduceIte,sevalprocAttr,Z0,Z1,bytesOf,d1,hbG,hlt',hg,PatD.cells,zl8_0,zl8_1,zl8_2,zl8_3]
         refine acall_pure (hcall _) ?_
         simp only [go_sem,reduceIte,↓reduceIte,sevalprocAttr,Z0,Z1,bytesOf,ex]
         rw [← hok]
         exact ⟨(x+1,HG),⟨⟨by simp only; omega,hbG,_,hG'⟩,rfl⟩,by simp only; omega⟩
       ·have:x=ks.length:=by omega
        subst this
        have d1:decide ((ks.length:Int)<(ks.length:Int))=false:=by simp
        simp only [go_sem,reduceIte,↓reduceIte,sevalprocAttr,Z0,Z1,bytesOf,d1,List.take_length]
        exact ⟨_,hG'⟩
 by_cases h4:k=4
 ·have e:patHead k n u p ks.length=(decide (0≤p) && (decide (n=[]) && (decide (0≤u∧u≤1) && decide (ks.length=0)))):=by
   unfold patHead
   rw [if_neg h1,if_neg h2,if_neg h3,if_pos h4]
   all_goals generalize decide (0≤p)=b0
   all_goals generalize decide (n=[])=b1
   all_goals generalize decide (0≤u∧u≤1)=b2
   all_goals generalize decide (ks.length=0)=b3
   all_goals cases b0 <;> cases b1 <;> cases b2 <;> cases b3 <;> rfl
  rw [e]
  subst h4
  ·simp only [go_sem,reduceIte,↓reduceIte,sevalprocAttr,Z0,Z1,bytesOf,mc98,mr98,PatD.cells,PatD.cellsL_eq,List.length_map,dN0,dN1,dN2,dE1,dE2,dE3,dPos]
   intro hl
   rw [maxLe] at hl
   try (simp only [go_sem,reduceIte,↓reduceIte,sevalprocAttr,Z0,Z1,bytesOf,PatD.cellsL_eq,List.length_map,dN0,dN1,dN2,dE1,dE2,dE3,dPos])
   cases ha0:decide (0≤p)
   ·simp only [go_sem,reduceIte,↓reduceIte,sevalprocAttr,Z0,Z1,bytesOf,ha0,Bool.false_and]
    refine ⟨Unit,[1,3,4,7],fun _ st=>st=⟨[(1,.ptr H.length 0),(3,.p (.i .i64 ks.length)),(4,.p (.b false)),(7,.p (.i .i64 0))],[],H++[AO.var [.p (.i .i64 4),.p (.s n),.p (.i .i64 u),.p (.i .i64 p),.p (.l (ks.map PatD.cells))]]⟩,fun _=>0,⟨(),?_⟩,?_⟩
    ·simp only [go_sem,reduceIte,↓reduceIte,sevalprocAttr,Z0,Z1,bytesOf]
    ·rintro _ _ rfl
     cases h0:decide ((0:Int)<(ks.length:Int)) <;> (simp only [go_sem,reduceIte,↓reduceIte,sevalprocAttr,Z0,Z1,bytesOf,h0]; exact ⟨_,rfl⟩)
   ·simp only [go_sem,reduceIte,↓reduceIte,sevalprocAttr,Z0,Z1,bytesOf,ha0,Bool.true_and,PatD.cellsL_eq,List.length_map,dN0,dN1,dN2,dE1,dE2,dE3,dPos]
    cases ha1:decide (n=[])
    ·simp only [go_sem,reduceIte,↓reduceIte,sevalprocAttr,Z0,Z1,bytesOf,ha1,Bool.false_and]
     refine ⟨Unit,[1,3,4,7],fun _ st=>st=⟨[(1,.ptr H.length 0),(3,.p (.i .i64 ks.length)),(4,.p (.b false)),(7,.p (.i .i64 0))],[],H++[AO.var [.p (.i .i64 4),.p (.s n),.p (.i .i64 u),.p (.i .i64 p),.p (.l (ks.map PatD.cells))]]⟩,fun _=>0,⟨(),?_⟩,?_⟩
     ·simp only [go_sem,reduceIte,↓reduceIte,sevalprocAttr,Z0,Z1,bytesOf]
     ·rintro _ _ rfl
      cases h0:decide ((0:Int)<(ks.length:Int)) <;> (simp only [go_sem,reduceIte,↓reduceIte,sevalprocAttr,Z0,Z1,bytesOf,h0]; exact ⟨_,rfl⟩)
    ·simp only [go_sem,reduceIte,↓reduceIte,sevalprocAttr,Z0,Z1,bytesOf,ha1,Bool.true_and,PatD.cellsL_eq,List.length_map,dN0,dN1,dN2,dE1,dE2,dE3,dPos]
     refine acall_pure (inC u 0 1 _) ?_
     rw [e01]
     (try (simp only [go_sem,reduceIte,↓reduceIte,sevalprocAttr,Z0,Z1,bytesOf,Bool.true_and]))
     cases ha2:decide (0≤u∧u≤1)
     ·simp only [go_sem,reduceIte,↓reduceIte,sevalprocAttr,Z0,Z1,bytesOf,ha2,Bool.false_and]
      refine ⟨Unit,[1,3,4,7],fun _ st=>st=⟨[(1,.ptr H.length 0),(3,.p (.i .i64 ks.length)),(4,.p (.b false)),(7,.p (.i .i64 0))],[],H++[AO.var [.p (.i .i64 4),.p (.s n),.p (.i .i64 u),.p (.i .i64 p),.p (.l (ks.map PatD.cells))]]⟩,fun _=>0,⟨(),?_⟩,?_⟩
      ·simp only [go_sem,reduceIte,↓reduceIte,sevalprocAttr,Z0,Z1,bytesOf]
      ·rintro _ _ rfl
       cases h0:decide ((0:Int)<(ks.length:Int)) <;> (simp only [go_sem,reduceIte,↓reduceIte,sevalprocAttr,Z0,Z1,bytesOf,h0]; exact ⟨_,rfl⟩)
     ·simp only [go_sem,reduceIte,↓reduceIte,sevalprocAttr,Z0,Z1,bytesOf,ha2,Bool.true_and,PatD.cellsL_eq,List.length_map,dN0,dN1,dN2,dE1,dE2,dE3,dPos]
      try (simp only [go_sem,reduceIte,↓reduceIte,sevalprocAttr,Z0,Z1,bytesOf,Bool.true_and,PatD.cellsL_eq,List.length_map,dN0,dN1,dN2,dE1,dE2,dE3,dPos])
      refine ⟨Nat × List AO,[1,3,4,7],fun x st=>(x.1≤ks.length∧x.2[H.length]?=some (.var [.p (.i .i64 4),.p (.s n),.p (.i .i64 u),.p (.i .i64 p),.p (.l (ks.map PatD.cells))])∧∃ G,x.2=H++G)∧st=⟨[(1,.ptr H.length 0),(3,.p (.i .i64 ks.length)),(4,.p (.b (decide (ks.length=0) && (ks.take x.1).all PatD.ok))),(7,.p (.i .i64 x.1))],[],x.2⟩,fun x=>ks.length - x.1,⟨(0,H++[AO.var [.p (.i .i64 4),.p (.s n),.p (.i .i64 u),.p (.i .i64 p),.p (.l (ks.map PatD.cells))]]),?_⟩,?_⟩
      ·simp only [go_sem,reduceIte,↓reduceIte,sevalprocAttr,Z0,Z1,bytesOf,List.take_zero,List.all_nil,Bool.and_true]
       exact ⟨Nat.zero_le _,_,rfl⟩
      ·rintro ⟨x,HG⟩ _ ⟨⟨hx,hbG,G',hG'⟩,rfl⟩
       simp only at hx hbG hG'
       by_cases hlt:x<ks.length
       ·have d1:decide ((x:Int)<(ks.length:Int))=true:=by simp; omega
        have hlt':((x:Int)<(ks.length:Int)):=by omega
        have ex:=wrN x (by omega)
        have hg:(ks.map PatD.cells)[x]?=some (PatD.cells ks[x]):=by simp [hlt]
        cases hB:(decide (ks.length=0) && (ks.take x).all PatD.ok)
        ·simp only [go_sem,reduceIte,↓reduceIte,sevalprocAttr,Z0,Z1,bytesOf,d1]
         rw [and_take_false hB]
         exact ⟨rfl,_,hG'⟩
        ·have hok:=all_step hB hlt
         have hcall:=hk ks[x] (List.getElem_mem hlt)
         generalize ks[x]=c at hg hok hcall
         obtain ⟨ck,cn,cu,cp,cks⟩:=c
         simp only [go_sem,reduceIte,↓reduceIte,sevalprocAttr,Z0,Z1,bytesOf,d1,hbG,hlt',hg,PatD.cells,zl8_0,zl8_1,zl8_2,zl8_3]
         refine acall_pure (hcall _) ?_
         simp only [go_sem,reduceIte,↓reduceIte,sevalprocAttr,Z0,Z1,bytesOf,ex]
         rw [← hok]
         exact ⟨(x+1,HG),⟨⟨by simp only; omega,hbG,_,hG'⟩,rfl⟩,by simp only; omega⟩
       ·have:x=ks.length:=by omega
        subst this
        have d1:decide ((ks.length:Int)<(ks.length:Int))=false:=by simp
        simp only [go_sem,reduceIte,↓reduceIte,sevalprocAttr,Z0,Z1,bytesOf,d1,List.take_length]
        exact ⟨_,hG'⟩
 by_cases h6:k=6
 ·have e:patHead k n u p ks.length=(decide (0≤p) && (decide (n=[]) && (decide (u=0) && decide (2≤ks.length)))):=by
   unfold patHead
   rw [if_neg h1,if_neg h2,if_neg h3,if_neg h4,if_pos h6]
   all_goals generalize decide (0≤p)=b0
   all_goals generalize decide (n=[])=b1
   all_goals generalize decide (u=0)=b2
   all_goals generalize decide (2≤ks.length)=b3
   all_goals cases b0 <;> cases b1 <;> cases b2 <;> cases b3 <;> rfl
  rw [e]
  subst h6
  ·simp only [go_sem,reduceIte,↓reduceIte,sevalprocAttr,Z0,Z1,bytesOf,mc98,mr98,PatD.cells,PatD.cellsL_eq,List.length_map,dN0,dN1,dN2,dE1,dE2,dE3,dPos]
   intro hl
   rw [maxLe] at hl
   try (simp only [go_sem,reduceIte,↓reduceIte,sevalprocAttr,Z0,Z1,bytesOf,PatD.cellsL_eq,List.length_map,dN0,dN1,dN2,dE1,dE2,dE3,dPos])
   cases ha0:decide (0≤p)
   ·simp only [go_sem,reduceIte,↓reduceIte,sevalprocAttr,Z0,Z1,bytesOf,ha0,Bool.false_and]
    refine ⟨Unit,[1,3,4,7],fun _ st=>st=⟨[(1,.ptr H.length 0),(3,.p (.i .i64 ks.length)),(4,.p (.b false)),(7,.p (.i .i64 0))],[],H++[AO.var [.p (.i .i64 6),.p (.s n),.p (.i .i64 u),.p (.i .i64 p),.p (.l (ks.map PatD.cells))]]⟩,fun _=>0,⟨(),?_⟩,?_⟩
    ·simp only [go_sem,reduceIte,↓reduceIte,sevalprocAttr,Z0,Z1,bytesOf]
    ·rintro _ _ rfl
     cases h0:decide ((0:Int)<(ks.length:Int)) <;> (simp only [go_sem,reduceIte,↓reduceIte,sevalprocAttr,Z0,Z1,bytesOf,h0]; exact ⟨_,rfl⟩)
   ·simp only [go_sem,reduceIte,↓reduceIte,sevalprocAttr,Z0,Z1,bytesOf,ha0,Bool.true_and,PatD.cellsL_eq,List.length_map,dN0,dN1,dN2,dE1,dE2,dE3,dPos]
    cases ha1:decide (n=[])
    ·simp only [go_sem,reduceIte,↓reduceIte,sevalprocAttr,Z0,Z1,bytesOf,ha1,Bool.false_and]
     refine ⟨Unit,[1,3,4,7],fun _ st=>st=⟨[(1,.ptr H.length 0),(3,.p (.i .i64 ks.length)),(4,.p (.b false)),(7,.p (.i .i64 0))],[],H++[AO.var [.p (.i .i64 6),.p (.s n),.p (.i .i64 u),.p (.i .i64 p),.p (.l (ks.map PatD.cells))]]⟩,fun _=>0,⟨(),?_⟩,?_⟩
     ·simp only [go_sem,reduceIte,↓reduceIte,sevalprocAttr,Z0,Z1,bytesOf]
     ·rintro _ _ rfl
      cases h0:decide ((0:Int)<(ks.length:Int)) <;> (simp only [go_sem,reduceIte,↓reduceIte,sevalprocAttr,Z0,Z1,bytesOf,h0]; exact ⟨_,rfl⟩)
    ·simp only [go_sem,reduceIte,↓reduceIte,sevalprocAttr,Z0,Z1,bytesOf,ha1,Bool.true_and,PatD.cellsL_eq,List.length_map,dN0,dN1,dN2,dE1,dE2,dE3,dPos]
     cases ha2:decide (u=0)
     ·simp only [go_sem,reduceIte,↓reduceIte,sevalprocAttr,Z0,Z1,bytesOf,ha2,Bool.false_and]
      refine ⟨Unit,[1,3,4,7],fun _ st=>st=⟨[(1,.ptr H.length 0),(3,.p (.i .i64 ks.length)),(4,.p (.b false)),(7,.p (.i .i64 0))],[],H++[AO.var [.p (.i .i64 6),.p (.s n),.p (.i .i64 u),.p (.i .i64 p),.p (.l (ks.map PatD.cells))]]⟩,fun _=>0,⟨(),?_⟩,?_⟩
      ·simp only [go_sem,reduceIte,↓reduceIte,sevalprocAttr,Z0,Z1,bytesOf]
      ·rintro _ _ rfl
       cases h0:decide ((0:Int)<(ks.length:Int)) <;> (simp only [go_sem,reduceIte,↓reduceIte,sevalprocAttr,Z0,Z1,bytesOf,h0]; exact ⟨_,rfl⟩)
     ·simp only [go_sem,reduceIte,↓reduceIte,sevalprocAttr,Z0,Z1,bytesOf,ha2,Bool.true_and,PatD.cellsL_eq,List.length_map,dN0,dN1,dN2,dE1,dE2,dE3,dPos]
      try (simp only [go_sem,reduceIte,↓reduceIte,sevalprocAttr,Z0,Z1,bytesOf,Bool.true_and,PatD.cellsL_eq,List.length_map,dN0,dN1,dN2,dE1,dE2,dE3,dPos])
      refine ⟨Nat × List AO,[1,3,4,7],fun x st=>(x.1≤ks.length∧x.2[H.length]?=some (.var [.p (.i .i64 6),.p (.s n),.p (.i .i64 u),.p (.i .i64 p),.p (.l (ks.map PatD.cells))])∧∃ G,x.2=H++G)∧st=⟨[(1,.ptr H.length 0),(3,.p (.i .i64 ks.length)),(4,.p (.b (decide (2≤ks.length) && (ks.take x.1).all PatD.ok))),(7,.p (.i .i64 x.1))],[],x.2⟩,fun x=>ks.length - x.1,⟨(0,H++[AO.var [.p (.i .i64 6),.p (.s n),.p (.i .i64 u),.p (.i .i64 p),.p (.l (ks.map PatD.cells))]]),?_⟩,?_⟩
      ·simp only [go_sem,reduceIte,↓reduceIte,sevalprocAttr,Z0,Z1,bytesOf,List.take_zero,List.all_nil,Bool.and_true]
       exact ⟨Nat.zero_le _,_,rfl⟩
      ·rintro ⟨x,HG⟩ _ ⟨⟨hx,hbG,G',hG'⟩,rfl⟩
       simp only at hx hbG hG'
       by_cases hlt:x<ks.length
       ·have d1:decide ((x:Int)<(ks.length:Int))=true:=by simp; omega
        have hlt':((x:Int)<(ks.length:Int)):=by omega
        have ex:=wrN x (by omega)
        have hg:(ks.map PatD.cells)[x]?=some (PatD.cells ks[x]):=by simp [hlt]
        cases hB:(decide (2≤ks.length) && (ks.take x).all PatD.ok)
        ·simp only [go_sem,reduceIte,↓reduceIte,sevalprocAttr,Z0,Z1,bytesOf,d1]
         rw [and_take_false hB]
         exact ⟨rfl,_,hG'⟩
        ·have hok:=all_step hB hlt
         have hcall:=hk ks[x] (List.getElem_mem hlt)
         generalize ks[x]=c at hg hok hcall
         obtain ⟨ck,cn,cu,cp,cks⟩:=c
         simp only [go_sem,reduceIte,↓reduceIte,sevalprocAttr,Z0,Z1,bytesOf,d1,hbG,hlt',hg,PatD.cells,zl8_0,zl8_1,zl8_2,zl8_3]
         refine acall_pure (hcall _) ?_
         simp only [go_sem,reduceIte,↓reduceIte,sevalprocAttr,Z0,Z1,bytesOf,ex]
         rw [← hok]
         exact ⟨(x+1,HG),⟨⟨by simp only; omega,hbG,_,hG'⟩,rfl⟩,by simp only; omega⟩
       ·have:x=ks.length:=by omega
        subst this
        have d1:decide ((ks.length:Int)<(ks.length:Int))=false:=by simp
        simp only [go_sem,reduceIte,↓reduceIte,sevalprocAttr,Z0,Z1,bytesOf,d1,List.take_length]
        exact ⟨_,hG'⟩
 by_cases h7:k=7
 ·have e:patHead k n u p ks.length=(decide (0≤p) && (isNameD true n && (decide (u=0) && decide (ks.length≤1)))):=by
   unfold patHead
   rw [if_neg h1,if_neg h2,if_neg h3,if_neg h4,if_neg h6,if_pos h7]
   all_goals generalize decide (0≤p)=b0
   all_goals generalize isNameD true n=b1
   all_goals generalize decide (u=0)=b2
   all_goals generalize decide (ks.length≤1)=b3
   all_goals cases b0 <;> cases b1 <;> cases b2 <;> cases b3 <;> rfl
  rw [e]
  subst h7
  ·simp only [go_sem,reduceIte,↓reduceIte,sevalprocAttr,Z0,Z1,bytesOf,mc98,mr98,PatD.cells,PatD.cellsL_eq,List.length_map,dN0,dN1,dN2,dE1,dE2,dE3,dPos]
   intro hl
   rw [maxLe] at hl
   try (simp only [go_sem,reduceIte,↓reduceIte,sevalprocAttr,Z0,Z1,bytesOf,PatD.cellsL_eq,List.length_map,dN0,dN1,dN2,dE1,dE2,dE3,dPos])
   cases ha0:decide (0≤p)
   ·simp only [go_sem,reduceIte,↓reduceIte,sevalprocAttr,Z0,Z1,bytesOf,ha0,Bool.false_and]
    refine ⟨Unit,[1,3,4,7],fun _ st=>st=⟨[(1,.ptr H.length 0),(3,.p (.i .i64 ks.length)),(4,.p (.b false)),(7,.p (.i .i64 0))],[],H++[AO.var [.p (.i .i64 7),.p (.s n),.p (.i .i64 u),.p (.i .i64 p),.p (.l (ks.map PatD.cells))]]⟩,fun _=>0,⟨(),?_⟩,?_⟩
    ·simp only [go_sem,reduceIte,↓reduceIte,sevalprocAttr,Z0,Z1,bytesOf]
    ·rintro _ _ rfl
     cases h0:decide ((0:Int)<(ks.length:Int)) <;> (simp only [go_sem,reduceIte,↓reduceIte,sevalprocAttr,Z0,Z1,bytesOf,h0]; exact ⟨_,rfl⟩)
   ·simp only [go_sem,reduceIte,↓reduceIte,sevalprocAttr,Z0,Z1,bytesOf,ha0,Bool.true_and,PatD.cellsL_eq,List.length_map,dN0,dN1,dN2,dE1,dE2,dE3,dPos]
    refine acall_pure (nameS true n _) ?_
    (try (simp only [go_sem,reduceIte,↓reduceIte,sevalprocAttr,Z0,Z1,bytesOf,Bool.true_and]))
    cases ha1:isNameD true n
    ·simp only [go_sem,reduceIte,↓reduceIte,sevalprocAttr,Z0,Z1,bytesOf,ha1,Bool.false_and]
     refine ⟨Unit,[1,3,4,7],fun _ st=>st=⟨[(1,.ptr H.length 0),(3,.p (.i .i64 ks.length)),(4,.p (.b false)),(7,.p (.i .i64 0))],[],H++[AO.var [.p (.i .i64 7),.p (.s n),.p (.i .i64 u),.p (.i .i64 p),.p (.l (ks.map PatD.cells))]]⟩,fun _=>0,⟨(),?_⟩,?_⟩
     ·simp only [go_sem,reduceIte,↓reduceIte,sevalprocAttr,Z0,Z1,bytesOf]
     ·rintro _ _ rfl
      cases h0:decide ((0:Int)<(ks.length:Int)) <;> (simp only [go_sem,reduceIte,↓reduceIte,sevalprocAttr,Z0,Z1,bytesOf,h0]; exact ⟨_,rfl⟩)
    ·simp only [go_sem,reduceIte,↓reduceIte,sevalprocAttr,Z0,Z1,bytesOf,ha1,Bool.true_and,PatD.cellsL_eq,List.length_map,dN0,dN1,dN2,dE1,dE2,dE3,dPos]
     cases ha2:decide (u=0)
     ·simp only [go_sem,reduceIte,↓reduceIte,sevalprocAttr,Z0,Z1,bytesOf,ha2,Bool.false_and]
      refine ⟨Unit,[1,3,4,7],fun _ st=>st=⟨[(1,.ptr H.length 0),(3,.p (.i .i64 ks.length)),(4,.p (.b false)),(7,.p (.i .i64 0))],[],H++[AO.var [.p (.i .i64 7),.p (.s n),.p (.i .i64 u),.p (.i .i64 p),.p (.l (ks.map PatD.cells))]]⟩,fun _=>0,⟨(),?_⟩,?_⟩
      ·simp only [go_sem,reduceIte,↓reduceIte,sevalprocAttr,Z0,Z1,bytesOf]
      ·rintro _ _ rfl
       cases h0:decide ((0:Int)<(ks.length:Int)) <;> (simp only [go_sem,reduceIte,↓reduceIte,sevalprocAttr,Z0,Z1,bytesOf,h0]; exact ⟨_,rfl⟩)
     ·simp only [go_sem,reduceIte,↓reduceIte,sevalprocAttr,Z0,Z1,bytesOf,ha2,Bool.true_and,PatD.cellsL_eq,List.length_map,dN0,dN1,dN2,dE1,dE2,dE3,dPos]
      try (simp only [go_sem,reduceIte,↓reduceIte,sevalprocAttr,Z0,Z1,bytesOf,Bool.true_and,PatD.cellsL_eq,List.length_map,dN0,dN1,dN2,dE1,dE2,dE3,dPos])
      refine ⟨Nat × List AO,[1,3,4,7],fun x st=>(x.1≤ks.length∧x.2[H.length]?=some (.var [.p (.i .i64 7),.p (.s n),.p (.i .i64 u),.p (.i .i64 p),.p (.l (ks.map PatD.cells))])∧∃ G,x.2=H++G)∧st=⟨[(1,.ptr H.length 0),(3,.p (.i .i64 ks.length)),(4,.p (.b (decide (ks.length≤1) && (ks.take x.1).all PatD.ok))),(7,.p (.i .i64 x.1))],[],x.2⟩,fun x=>ks.length - x.1,⟨(0,H++[AO.var [.p (.i .i64 7),.p (.s n),.p (.i .i64 u),.p (.i .i64 p),.p (.l (ks.map PatD.cells))]]),?_⟩,?_⟩
      ·simp only [go_sem,reduceIte,↓reduceIte,sevalprocAttr,Z0,Z1,bytesOf,List.take_zero,List.all_nil,Bool.and_true]
       exact ⟨Nat.zero_le _,_,rfl⟩
      ·rintro ⟨x,HG⟩ _ ⟨⟨hx,hbG,G',hG'⟩,rfl⟩
       simp only at hx hbG hG'
       by_cases hlt:x<ks.length
       ·have d1:decide ((x:Int)<(ks.length:Int))=true:=by simp; omega
        have hlt':((x:Int)<(ks.length:Int)):=by omega
        have ex:=wrN x (by omega)
        have hg:(ks.map PatD.cells)[x]?=some (PatD.cells ks[x]):=by simp [hlt]
        cases hB:(decide (ks.length≤1) && (ks.take x).all PatD.ok)
        ·simp only [go_sem,reduceIte,↓reduceIte,sevalprocAttr,Z0,Z1,bytesOf,d1]
         rw [and_take_false hB]
         exact ⟨rfl,_,hG'⟩
        ·have hok:=all_step hB hlt
         have hcall:=hk ks[x] (List.getElem_mem hlt)
         generalize ks[x]=c at hg hok hcall
         obtain ⟨ck,cn,cu,cp,cks⟩:=c
         simp only [go_sem,reduceIte,↓reduceIte,sevalprocAttr,Z0,Z1,bytesOf,d1,hbG,hlt',hg,PatD.cells,zl8_0,zl8_1,zl8_2,zl8_3]
         refine acall_pure (hcall _) ?_
         simp only [go_sem,reduceIte,↓reduceIte,sevalprocAttr,Z0,Z1,bytesOf,ex]
         rw [← hok]
         exact ⟨(x+1,HG),⟨⟨by simp only; omega,hbG,_,hG'⟩,rfl⟩,by simp only; omega⟩
       ·have:x=ks.length:=by omega
        subst this
        have d1:decide ((ks.length:Int)<(ks.length:Int))=false:=by simp
        simp only [go_sem,reduceIte,↓reduceIte,sevalprocAttr,Z0,Z1,bytesOf,d1,List.take_length]
        exact ⟨_,hG'⟩
 ·have e:patHead k n u p ks.length=false:=by unfold patHead; rw [if_neg h1,if_neg h2,if_neg h3,if_neg h4,if_neg h6,if_neg h7,Bool.and_false]
  rw [e,Bool.false_and]
  have d1:decide (k=1)=false:=decide_eq_false (by omega)
  have d2:decide (k=2)=false:=decide_eq_false (by omega)
  have d3:decide (k=3)=false:=decide_eq_false (by omega)
  have d4:decide (k=4)=false:=decide_eq_false (by omega)
  have d5:decide (k=5)=false:=decide_eq_false (by omega)
  have d6:decide (k=6)=false:=decide_eq_false (by omega)
  have d7:decide (k=7)=false:=decide_eq_false (by omega)
  simp only [go_sem,reduceIte,↓reduceIte,sevalprocAttr,Z0,Z1,bytesOf,mc98,mr98,PatD.cells,PatD.cellsL_eq,List.length_map,dN0,dN1,dN2,dE1,dE2,dE3,dPos]
  intros
  simp only [go_sem,reduceIte,↓reduceIte,sevalprocAttr,Z0,Z1,bytesOf,d1,d2,d3,d4,d5,d6,d7]
  exact ⟨_,rfl⟩
theorem patOkS : ∀ (m : Nat) (t : PatD), t.sz < m → OkC 98 (av t.cells) t.ok := by
  intro m
  induction m with
  | zero => intro t h; omega
  | succ m ih =>
    intro t h
    obtain ⟨k, n, u, p, ks⟩ := t
    rw [PatD.sz, PatD.szL_eq] at h
    exact pat_OkS k n u p ks fun a ha => ih a (by have := sumSz_mem PatD.sz ha; omega)
theorem type_OkS (k:Int) (n:List UInt8) (p:Int) (ks:List TyE) (hk:∀ a∈ks,OkC 62 (av a.cells) a.ok):OkC 62 (av (TyE.cells (.mk k n p ks))) (TyE.ok (.mk k n p ks)):=by
 intro H
 refine acall_drop1 ?_ (tf_p _)
 refine call62 (by simp) ?_
 rw [TyE.ok,TyE.okL_eq]
 by_cases h1:k=1
 ·have e:typeHead k n p ks.length=(decide (0≤p) && lowD n):=by
   unfold typeHead
   rw [if_pos h1]
   all_goals generalize decide (0≤p)=b0
   all_goals generalize lowD n=b1
   all_goals cases b0 <;> cases b1 <;> rfl
  rw [e]
  subst h1
  ·simp only [go_sem,reduceIte,↓reduceIte,sevalprocAttr,Z0,Z1,bytesOf,mc62,mr62,TyE.cells,TyE.cellsL_eq,List.length_map,dN0,dN1,dN2,dE1,dE2,dE3,dPos]
   intro hl
   rw [maxLe] at hl
   try (simp only [go_sem,reduceIte,↓reduceIte,sevalprocAttr,Z0,Z1,bytesOf,TyE.cellsL_eq,List.length_map,dN0,dN1,dN2,dE1,dE2,dE3,dPos])
   cases ha0:decide (0≤p)
   ·simp only [go_sem,reduceIte,↓reduceIte,sevalprocAttr,Z0,Z1,bytesOf,ha0,Bool.false_and]
    refine ⟨Unit,[1,3,4,5],fun _ st=>st=⟨[(1,.ptr H.length 0),(3,.p (.i .i64 ks.length)),(4,.p (.b false)),(5,.p (.i .i64 0))],[],H++[AO.var [.p (.i .i64 1),.p (.s n),.p (.i .i64 p),.p (.l (ks.map TyE.cells))]]⟩,fun _=>0,⟨(),?_⟩,?_⟩
    ·simp only [go_sem,reduceIte,↓reduceIte,sevalprocAttr,Z0,Z1,bytesOf]
    ·rintro _ _ rfl
     cases h0:decide ((0:Int)<(ks.length:Int)) <;> (simp only [go_sem,reduceIte,↓reduceIte,sevalprocAttr,Z0,Z1,bytesOf,h0]; exact ⟨_,rfl⟩)
   ·simp only [go_sem,reduceIte,↓reduceIte,sevalprocAttr,Z0,Z1,bytesOf,ha0,Bool.true_and,TyE.cellsL_eq,List.length_map,dN0,dN1,dN2,dE1,dE2,dE3,dPos]
    refine acall_pure (lowS n _) ?_
    (try (simp only [go_sem,reduceIte,↓reduceIte,sevalprocAttr,Z0,Z1,bytesOf,Bool.true_and]))
    try (simp only [go_sem,reduceIte,↓reduceIte,sevalprocAttr,Z0,Z1,bytesOf,Bool.true_and,TyE.cellsL_eq,List.length_map,dN0,dN1,dN2,dE1,dE2,dE3,dPos])
    refine ⟨Nat × List AO,[1,3,4,5],fun x st=>(x.1≤ks.length∧x.2[H.length]?=some (.var [.p (.i .i64 1),.p (.s n),.p (.i .i64 p),.p (.l (ks.map TyE.cells))])∧∃ G,x.2=H++G)∧st=⟨[(1,.ptr H.length 0),(3,.p (.i .i64 ks.length)),(4,.p (.b (lowD n && (ks.take x.1).all TyE.ok))),(5,.p (.i .i64 x.1))],[],x.2⟩,fun x=>ks.length - x.1,⟨(0,H++[AO.var [.p (.i .i64 1),.p (.s n),.p (.i .i64 p),.p (.l (ks.map TyE.cells))]]),?_⟩,?_⟩
    ·simp only [go_sem,reduceIte,↓reduceIte,sevalprocAttr,Z0,Z1,bytesOf,List.take_zero,List.all_nil,Bool.and_true]
     exact ⟨Nat.zero_le _,_,rfl⟩
    ·rintro ⟨x,HG⟩ _ ⟨⟨hx,hbG,G',hG'⟩,rfl⟩
     simp only at hx hbG hG'
     by_cases hlt:x<ks.length
     ·have d1:decide ((x:Int)<(ks.length:Int))=true:=by simp; omega
      have hlt':((x:Int)<(ks.length:Int)):=by omega
      have ex:=wrN x (by omega)
      have hg:(ks.map TyE.cells)[x]?=some (TyE.cells ks[x]):=by simp [hlt]
      cases hB:(lowD n && (ks.take x).all TyE.ok)
      ·simp only [go_sem,reduceIte,↓reduceIte,sevalprocAttr,Z0,Z1,bytesOf,d1]
       rw [and_take_false hB]
       exact ⟨rfl,_,hG'⟩
      ·have hok:=all_step hB hlt
       have hcall:=hk ks[x] (List.getElem_mem hlt)
       generalize ks[x]=c at hg hok hcall
       obtain ⟨ck,cn,cp,cks⟩:=c
       simp only [go_sem,reduceIte,↓reduceIte,sevalprocAttr,Z0,Z1,bytesOf,d1,hbG,hlt',hg,TyE.cells,zl8_0,zl8_1,zl8_2,zl8_3]
       refine acall_pure (hcall _) ?_
       simp only [go_sem,reduceIte,↓reduceIte,sevalprocAttr,Z0,Z1,bytesOf,ex]
       rw [← hok]
       exact ⟨(x+1,HG),⟨⟨by simp only; omega,hbG,_,hG'⟩,rfl⟩,by simp only; omega⟩
     ·have:x=ks.length:=by omega
      subst this
      have d1:decide ((ks.length:Int)<(ks.length:Int))=false:=by simp
      simp only [go_sem,reduceIte,↓reduceIte,sevalprocAttr,Z0,Z1,bytesOf,d1,List.take_length]
      exact ⟨_,hG'⟩
 by_cases h2:k=2
 ·have e:typeHead k n p ks.length=(decide (0≤p) && (isNameD false n && decide (ks.length=0))):=by
   unfold typeHead
   rw [if_neg h1,if_pos h2]
   all_goals generalize decide (0≤p)=b0
   all_goals generalize isNameD false n=b1
   all_goals generalize decide (ks.length=0)=b2
   all_goals cases b0 <;> cases b1 <;> cases b2 <;> rfl
  rw [e]
  subst h2
  ·simp only [go_sem,reduceIte,↓reduceIte,sevalprocAttr,Z0,Z1,bytesOf,mc62,mr62,TyE.cells,TyE.cellsL_eq,List.length_map,dN0,dN1,dN2,dE1,dE2,dE3,dPos]
   intro hl
   rw [maxLe] at hl
   try (simp only [go_sem,reduceIte,↓reduceIte,sevalprocAttr,Z0,Z1,bytesOf,TyE.cellsL_eq,List.length_map,dN0,dN1,dN2,dE1,dE2,dE3,dPos])
   cases ha0:decide (0≤p)
   ·simp only [go_sem,reduceIte,↓reduceIte,sevalprocAttr,Z0,Z1,bytesOf,ha0,Bool.false_and]
    refine ⟨Unit,[1,3,4,5],fun _ st=>st=⟨[(1,.ptr H.length 0),(3,.p (.i .i64 ks.length)),(4,.p (.b false)),(5,.p (.i .i64 0))],[],H++[AO.var [.p (.i .i64 2),.p (.s n),.p (.i .i64 p),.p (.l (ks.map TyE.cells))]]⟩,fun _=>0,⟨(),?_⟩,?_⟩
    ·simp only [go_sem,reduceIte,↓reduceIte,sevalprocAttr,Z0,Z1,bytesOf]
    ·rintro _ _ rfl
     cases h0:decide ((0:Int)<(ks.length:Int)) <;> (simp only [go_sem,reduceIte,↓reduceIte,sevalprocAttr,Z0,Z1,bytesOf,h0]; exact ⟨_,rfl⟩)
   ·simp only [go_sem,reduceIte,↓reduceIte,sevalprocAttr,Z0,Z1,bytesOf,ha0,Bool.true_and,TyE.cellsL_eq,List.length_map,dN0,dN1,dN2,dE1,dE2,dE3,dPos]
    refine acall_pure (nameS false n _) ?_
    (try (simp only [go_sem,reduceIte,↓reduceIte,sevalprocAttr,Z0,Z1,bytesOf,Bool.true_and]))
    cases ha1:isNameD false n
    ·simp only [go_sem,reduceIte,↓reduceIte,sevalprocAttr,Z0,Z1,bytesOf,ha1,Bool.false_and]
     refine ⟨Unit,[1,3,4,5],fun _ st=>st=⟨[(1,.ptr H.length 0),(3,.p (.i .i64 ks.length)),(4,.p (.b false)),(5,.p (.i .i64 0))],[],H++[AO.var [.p (.i .i64 2),.p (.s n),.p (.i .i64 p),.p (.l (ks.map TyE.cells))]]⟩,fun _=>0,⟨(),?_⟩,?_⟩
     ·simp only [go_sem,reduceIte,↓reduceIte,sevalprocAttr,Z0,Z1,bytesOf]
     ·rintro _ _ rfl
      cases h0:decide ((0:Int)<(ks.length:Int)) <;> (simp only [go_sem,reduceIte,↓reduceIte,sevalprocAttr,Z0,Z1,bytesOf,h0]; exact ⟨_,rfl⟩)
    ·simp only [go_sem,reduceIte,↓reduceIte,sevalprocAttr,Z0,Z1,bytesOf,ha1,Bool.true_and,TyE.cellsL_eq,List.length_map,dN0,dN1,dN2,dE1,dE2,dE3,dPos]
     try (simp only [go_sem,reduceIte,↓reduceIte,sevalprocAttr,Z0,Z1,bytesOf,Bool.true_and,TyE.cellsL_eq,List.length_map,dN0,dN1,dN2,dE1,dE2,dE3,dPos])
     refine ⟨Nat × List AO,[1,3,4,5],fun x st=>(x.1≤ks.length∧x.2[H.length]?=some (.var [.p (.i .i64 2),.p (.s n),.p (.i .i64 p),.p (.l (ks.map TyE.cells))])∧∃ G,x.2=H++G)∧st=⟨[(1,.ptr H.length 0),(3,.p (.i .i64 ks.length)),(4,.p (.b (decide (ks.length=0) && (ks.take x.1).all TyE.ok))),(5,.p (.i .i64 x.1))],[],x.2⟩,fun x=>ks.length - x.1,⟨(0,H++[AO.var [.p (.i .i64 2),.p (.s n),.p (.i .i64 p),.p (.l (ks.map TyE.cells))]]),?_⟩,?_⟩
     ·simp only [go_sem,reduceIte,↓reduceIte,sevalprocAttr,Z0,Z1,bytesOf,List.take_zero,List.all_nil,Bool.and_true]
      exact ⟨Nat.zero_le _,_,rfl⟩
     ·rintro ⟨x,HG⟩ _ ⟨⟨hx,hbG,G',hG'⟩,rfl⟩
      simp only at hx hbG hG'
      by_cases hlt:x<ks.length
      ·have d1:decide ((x:Int)<(ks.length:Int))=true:=by simp; omega
       have hlt':((x:Int)<(ks.length:Int)):=by omega
       have ex:=wrN x (by omega)
       have hg:(ks.map TyE.cells)[x]?=some (TyE.cells ks[x]):=by simp [hlt]
       cases hB:(decide (ks.length=0) && (ks.take x).all TyE.ok)
       ·simp only [go_sem,reduceIte,↓reduceIte,sevalprocAttr,Z0,Z1,bytesOf,d1]
        rw [and_take_false hB]
        exact ⟨rfl,_,hG'⟩
       ·have hok:=all_step hB hlt
        have hcall:=hk ks[x] (List.getElem_mem hlt)
        generalize ks[x]=c at hg hok hcall
        obtain ⟨ck,cn,cp,cks⟩:=c
        simp only [go_sem,reduceIte,↓reduceIte,sevalprocAttr,Z0,Z1,bytesOf,d1,hbG,hlt',hg,TyE.cells,zl8_0,zl8_1,zl8_2,zl8_3]
        refine acall_pure (hcall _) ?_
        simp only [go_sem,reduceIte,↓reduceIte,sevalprocAttr,Z0,Z1,bytesOf,ex]
        rw [← hok]
        exact ⟨(x+1,HG),⟨⟨by simp only; omega,hbG,_,hG'⟩,rfl⟩,by simp only; omega⟩
      ·have:x=ks.length:=by omega
       subst this
       have d1:decide ((ks.length:Int)<(ks.length:Int))=false:=by simp
       simp only [go_sem,reduceIte,↓reduceIte,sevalprocAttr,Z0,Z1,bytesOf,d1,List.take_length]
       exact ⟨_,hG'⟩
 by_cases h3:k=3
 ·have e:typeHead k n p ks.length=(decide (0≤p) && (decide (n=[]) && decide (ks.length=2))):=by
   unfold typeHead
   rw [if_neg h1,if_neg h2,if_pos h3]
   all_goals generalize decide (0≤p)=b0
   all_goals generalize decide (n=[])=b1
   all_goals generalize decide (ks.length=2)=b2
   all_goals cases b0 <;> cases b1 <;> cases b2 <;> rfl
  rw [e]
  subst h3
  ·simp only [go_sem,reduceIte,↓reduceIte,sevalprocAttr,Z0,Z1,bytesOf,mc62,mr62,TyE.cells,TyE.cellsL_eq,List.length_map,dN0,dN1,dN2,dE1,dE2,dE3,dPos]
   intro hl
   rw [maxLe] at hl
   try (simp only [go_sem,reduceIte,↓reduceIte,sevalprocAttr,Z0,Z1,bytesOf,TyE.cellsL_eq,List.length_map,dN0,dN1,dN2,dE1,dE2,dE3,dPos])
   cases ha0:decide (0≤p)
   ·simp only [go_sem,reduceIte,↓reduceIte,sevalprocAttr,Z0,Z1,bytesOf,ha0,Bool.false_and]
    refine ⟨Unit,[1,3,4,5],fun _ st=>st=⟨[(1,.ptr H.length 0),(3,.p (.i .i64 ks.length)),(4,.p (.b false)),(5,.p (.i .i64 0))],[],H++[AO.var [.p (.i .i64 3),.p (.s n),.p (.i .i64 p),.p (.l (ks.map TyE.cells))]]⟩,fun _=>0,⟨(),?_⟩,?_⟩
    ·simp only [go_sem,reduceIte,↓reduceIte,sevalprocAttr,Z0,Z1,bytesOf]
    ·rintro _ _ rfl
     cases h0:decide ((0:Int)<(ks.length:Int)) <;> (simp only [go_sem,reduceIte,↓reduceIte,sevalprocAttr,Z0,Z1,bytesOf,h0]; exact ⟨_,rfl⟩)
   ·simp only [go_sem,reduceIte,↓reduceIte,sevalprocAttr,Z0,Z1,bytesOf,ha0,Bool.true_and,TyE.cellsL_eq,List.length_map,dN0,dN1,dN2,dE1,dE2,dE3,dPos]
    cases ha1:decide (n=[])
    ·simp only [go_sem,reduceIte,↓reduceIte,sevalprocAttr,Z0,Z1,bytesOf,ha1,Bool.false_and]
     refine ⟨Unit,[1,3,4,5],fun _ st=>st=⟨[(1,.ptr H.length 0),(3,.p (.i .i64 ks.length)),(4,.p (.b false)),(5,.p (.i .i64 0))],[],H++[AO.var [.p (.i .i64 3),.p (.s n),.p (.i .i64 p),.p (.l (ks.map TyE.cells))]]⟩,fun _=>0,⟨(),?_⟩,?_⟩
     ·simp only [go_sem,reduceIte,↓reduceIte,sevalprocAttr,Z0,Z1,bytesOf]
     ·rintro _ _ rfl
      cases h0:decide ((0:Int)<(ks.length:Int)) <;> (simp only [go_sem,reduceIte,↓reduceIte,sevalprocAttr,Z0,Z1,bytesOf,h0]; exact ⟨_,rfl⟩)
    ·simp only [go_sem,reduceIte,↓reduceIte,sevalprocAttr,Z0,Z1,bytesOf,ha1,Bool.true_and,TyE.cellsL_eq,List.length_map,dN0,dN1,dN2,dE1,dE2,dE3,dPos]
     try (simp only [go_sem,reduceIte,↓reduceIte,sevalprocAttr,Z0,Z1,bytesOf,Bool.true_and,TyE.cellsL_eq,List.length_map,dN0,dN1,dN2,dE1,dE2,dE3,dPos])
     refine ⟨Nat × List AO,[1,3,4,5],fun x st=>(x.1≤ks.length∧x.2[H.length]?=some (.var [.p (.i .i64 3),.p (.s n),.p (.i .i64 p),.p (.l (ks.map TyE.cells))])∧∃ G,x.2=H++G)∧st=⟨[(1,.ptr H.length 0),(3,.p (.i .i64 ks.length)),(4,.p (.b (decide (ks.length=2) && (ks.take x.1).all TyE.ok))),(5,.p (.i .i64 x.1))],[],x.2⟩,fun x=>ks.length - x.1,⟨(0,H++[AO.var [.p (.i .i64 3),.p (.s n),.p (.i .i64 p),.p (.l (ks.map TyE.cells))]]),?_⟩,?_⟩
     ·simp only [go_sem,reduceIte,↓reduceIte,sevalprocAttr,Z0,Z1,bytesOf,List.take_zero,List.all_nil,Bool.and_true]
      exact ⟨Nat.zero_le _,_,rfl⟩
     ·rintro ⟨x,HG⟩ _ ⟨⟨hx,hbG,G',hG'⟩,rfl⟩
      simp only at hx hbG hG'
      by_cases hlt:x<ks.length
      ·have d1:decide ((x:Int)<(ks.length:Int))=true:=by simp; omega
       have hlt':((x:Int)<(ks.length:Int)):=by omega
       have ex:=wrN x (by omega)
       have hg:(ks.map TyE.cells)[x]?=some (TyE.cells ks[x]):=by simp [hlt]
       cases hB:(decide (ks.length=2) && (ks.take x).all TyE.ok)
       ·simp only [go_sem,reduceIte,↓reduceIte,sevalprocAttr,Z0,Z1,bytesOf,d1]
        rw [and_take_false hB]
        exact ⟨rfl,_,hG'⟩
       ·have hok:=all_step hB hlt
        have hcall:=hk ks[x] (List.getElem_mem hlt)
        generalize ks[x]=c at hg hok hcall
        obtain ⟨ck,cn,cp,cks⟩:=c
        simp only [go_sem,reduceIte,↓reduceIte,sevalprocAttr,Z0,Z1,bytesOf,d1,hbG,hlt',hg,TyE.cells,zl8_0,zl8_1,zl8_2,zl8_3]
        refine acall_pure (hcall _) ?_
        simp only [go_sem,reduceIte,↓reduceIte,sevalprocAttr,Z0,Z1,bytesOf,ex]
        rw [← hok]
        exact ⟨(x+1,HG),⟨⟨by simp only; omega,hbG,_,hG'⟩,rfl⟩,by simp only; omega⟩
      ·have:x=ks.length:=by omega
       subst this
       have d1:decide ((ks.length:Int)<(ks.length:Int))=false:=by simp
       simp only [go_sem,reduceIte,↓reduceIte,sevalprocAttr,Z0,Z1,bytesOf,d1,List.take_length]
       exact ⟨_,hG'⟩
 by_cases h4:k=4
 ·have e:typeHead k n p ks.length=(decide (0≤p) && (decide (n=[]) && decide (2≤ks.length))):=by
   unfold typeHead
   rw [if_neg h1,if_neg h2,if_neg h3,if_pos h4]
   all_goals generalize decide (0≤p)=b0
   all_goals generalize decide (n=[])=b1
   all_goals generalize decide (2≤ks.length)=b2
   all_goals cases b0 <;> cases b1 <;> cases b2 <;> rfl
  rw [e]
  subst h4
  ·simp only [go_sem,reduceIte,↓reduceIte,sevalprocAttr,Z0,Z1,bytesOf,mc62,mr62,TyE.cells,TyE.cellsL_eq,List.length_map,dN0,dN1,dN2,dE1,dE2,dE3,dPos]
   intro hl
   rw [maxLe] at hl
   try (simp only [go_sem,reduceIte,↓reduceIte,sevalprocAttr,Z0,Z1,bytesOf,TyE.cellsL_eq,List.length_map,dN0,dN1,dN2,dE1,dE2,dE3,dPos])
   cases ha0:decide (0≤p)
   ·simp only [go_sem,reduceIte,↓reduceIte,sevalprocAttr,Z0,Z1,bytesOf,ha0,Bool.false_and]
    refine ⟨Unit,[1,3,4,5],fun _ st=>st=⟨[(1,.ptr H.length 0),(3,.p (.i .i64 ks.length)),(4,.p (.b false)),(5,.p (.i .i64 0))],[],H++[AO.var [.p (.i .i64 4),.p (.s n),.p (.i .i64 p),.p (.l (ks.map TyE.cells))]]⟩,fun _=>0,⟨(),?_⟩,?_⟩
    ·simp only [go_sem,reduceIte,↓reduceIte,sevalprocAttr,Z0,Z1,bytesOf]
    ·rintro _ _ rfl
     cases h0:decide ((0:Int)<(ks.length:Int)) <;> (simp only [go_sem,reduceIte,↓reduceIte,sevalprocAttr,Z0,Z1,bytesOf,h0]; exact ⟨_,rfl⟩)
   ·simp only [go_sem,reduceIte,↓reduceIte,sevalprocAttr,Z0,Z1,bytesOf,ha0,Bool.true_and,TyE.cellsL_eq,List.length_map,dN0,dN1,dN2,dE1,dE2,dE3,dPos]
    cases ha1:decide (n=[])
    ·simp only [go_sem,reduceIte,↓reduceIte,sevalprocAttr,Z0,Z1,bytesOf,ha1,Bool.false_and]
     refine ⟨Unit,[1,3,4,5],fun _ st=>st=⟨[(1,.ptr H.length 0),(3,.p (.i .i64 ks.length)),(4,.p (.b false)),(5,.p (.i .i64 0))],[],H++[AO.var [.p (.i .i64 4),.p (.s n),.p (.i .i64 p),.p (.l (ks.map TyE.cells))]]⟩,fun _=>0,⟨(),?_⟩,?_⟩
     ·simp only [go_sem,reduceIte,↓reduceIte,sevalprocAttr,Z0,Z1,bytesOf]
     ·rintro _ _ rfl
      cases h0:decide ((0:Int)<(ks.length:Int)) <;> (simp only [go_sem,reduceIte,↓reduceIte,sevalprocAttr,Z0,Z1,bytesOf,h0]; exact ⟨_,rfl⟩)
    ·simp only [go_sem,reduceIte,↓reduceIte,sevalprocAttr,Z0,Z1,bytesOf,ha1,Bool.true_and,TyE.cellsL_eq,List.length_map,dN0,dN1,dN2,dE1,dE2,dE3,dPos]
     try (simp only [go_sem,reduceIte,↓reduceIte,sevalprocAttr,Z0,Z1,bytesOf,Bool.true_and,TyE.cellsL_eq,List.length_map,dN0,dN1,dN2,dE1,dE2,dE3,dPos])
     refine ⟨Nat × List AO,[1,3,4,5],fun x st=>(x.1≤ks.length∧x.2[H.length]?=some (.var [.p (.i .i64 4),.p (.s n),.p (.i .i64 p),.p (.l (ks.map TyE.cells))])∧∃ G,x.2=H++G)∧st=⟨[(1,.ptr H.length 0),(3,.p (.i .i64 ks.length)),(4,.p (.b (decide (2≤ks.length) && (ks.take x.1).all TyE.ok))),(5,.p (.i .i64 x.1))],[],x.2⟩,fun x=>ks.length - x.1,⟨(0,H++[AO.var [.p (.i .i64 4),.p (.s n),.p (.i .i64 p),.p (.l (ks.map TyE.cells))]]),?_⟩,?_⟩
     ·simp only [go_sem,reduceIte,↓reduceIte,sevalprocAttr,Z0,Z1,bytesOf,List.take_zero,List.all_nil,Bool.and_true]
      exact ⟨Nat.zero_le _,_,rfl⟩
     ·rintro ⟨x,HG⟩ _ ⟨⟨hx,hbG,G',hG'⟩,rfl⟩
      simp only at hx hbG hG'
      by_cases hlt:x<ks.length
      ·have d1:decide ((x:Int)<(ks.length:Int))=true:=by simp; omega
       have hlt':((x:Int)<(ks.length:Int)):=by omega
       have ex:=wrN x (by omega)
       have hg:(ks.map TyE.cells)[x]?=some (TyE.cells ks[x]):=by simp [hlt]
       cases hB:(decide (2≤ks.length) && (ks.take x).all TyE.ok)
       ·simp only [go_sem,reduceIte,↓reduceIte,sevalprocAttr,Z0,Z1,bytesOf,d1]
        rw [and_take_false hB]
        exact ⟨rfl,_,hG'⟩
       ·have hok:=all_step hB hlt
        have hcall:=hk ks[x] (List.getElem_mem hlt)
        generalize ks[x]=c at hg hok hcall
        obtain ⟨ck,cn,cp,cks⟩:=c
        simp only [go_sem,reduceIte,↓reduceIte,sevalprocAttr,Z0,Z1,bytesOf,d1,hbG,hlt',hg,TyE.cells,zl8_0,zl8_1,zl8_2,zl8_3]
        refine acall_pure (hcall _) ?_
        simp only [go_sem,reduceIte,↓reduceIte,sevalprocAttr,Z0,Z1,bytesOf,ex]
        rw [← hok]
        exact ⟨(x+1,HG),⟨⟨by simp only; omega,hbG,_,hG'⟩,rfl⟩,by simp only; omega⟩
      ·have:x=ks.length:=by omega
       subst this
       have d1:decide ((ks.length:Int)<(ks.length:Int))=false:=by simp
       simp only [go_sem,reduceIte,↓reduceIte,sevalprocAttr,Z0,Z1,bytesOf,d1,List.take_length]
       exact ⟨_,hG'⟩
 by_cases h5:k=5
 ·have e:typeHead k n p ks.length=(decide (0≤p) && (decide (n=[]) && decide (ks.length=1))):=by
   unfold typeHead
   rw [if_neg h1,if_neg h2,if_neg h3,if_neg h4,if_pos h5]
   all_goals generalize decide (0≤p)=b0
   all_goals generalize decide (n=[])=b1
   all_goals generalize decide (ks.length=1)=b2
   all_goals cases b0 <;> cases b1 <;> cases b2 <;> rfl
  rw [e]
  subst h5
  ·simp only [go_sem,reduceIte,↓reduceIte,sevalprocAttr,Z0,Z1,bytesOf,mc62,mr62,TyE.cells,TyE.cellsL_eq,List.length_map,dN0,dN1,dN2,dE1,dE2,dE3,dPos]
   intro hl
   rw [maxLe] at hl
   try (simp only [go_sem,reduceIte,↓reduceIte,sevalprocAttr,Z0,Z1,bytesOf,TyE.cellsL_eq,List.length_map,dN0,dN1,dN2,dE1,dE2,dE3,dPos])
   cases ha0:decide (0≤p)
   ·simp only [go_sem,reduceIte,↓reduceIte,sevalprocAttr,Z0,Z1,bytesOf,ha0,Bool.false_and]
    refine ⟨Unit,[1,3,4,5],fun _ st=>st=⟨[(1,.ptr H.length 0),(3,.p (.i .i64 ks.length)),(4,.p (.b false)),(5,.p (.i .i64 0))],[],H++[AO.var [.p (.i .i64 5),.p (.s n),.p (.i .i64 p),.p (.l (ks.map TyE.cells))]]⟩,fun _=>0,⟨(),?_⟩,?_⟩
    ·simp only [go_sem,reduceIte,↓reduceIte,sevalprocAttr,Z0,Z1,bytesOf]
    ·rintro _ _ rfl
     cases h0:decide ((0:Int)<(ks.length:Int)) <;> (simp only [go_sem,reduceIte,↓reduceIte,sevalprocAttr,Z0,Z1,bytesOf,h0]; exact ⟨_,rfl⟩)
   ·simp only [go_sem,reduceIte,↓reduceIte,sevalprocAttr,Z0,Z1,bytesOf,ha0,Bool.true_and,TyE.cellsL_eq,List.length_map,dN0,dN1,dN2,dE1,dE2,dE3,dPos]
    cases ha1:decide (n=[])
    ·simp only [go_sem,reduceIte,↓reduceIte,sevalprocAttr,Z0,Z1,bytesOf,ha1,Bool.false_and]
     refine ⟨Unit,[1,3,4,5],fun _ st=>st=⟨[(1,.ptr H.length 0),(3,.p (.i .i64 ks.length)),(4,.p (.b false)),(5,.p (.i .i64 0))],[],H++[AO.var [.p (.i .i64 5),.p (.s n),.p (.i .i64 p),.p (.l (ks.map TyE.cells))]]⟩,fun _=>0,⟨(),?_⟩,?_⟩
     ·simp only [go_sem,reduceIte,↓reduceIte,sevalprocAttr,Z0,Z1,bytesOf]
     ·rintro _ _ rfl
      cases h0:decide ((0:Int)<(ks.length:Int)) <;> (simp only [go_sem,reduceIte,↓reduceIte,sevalprocAttr,Z0,Z1,bytesOf,h0]; exact ⟨_,rfl⟩)
    ·simp only [go_sem,reduceIte,↓reduceIte,sevalprocAttr,Z0,Z1,bytesOf,ha1,Bool.true_and,TyE.cellsL_eq,List.length_map,dN0,dN1,dN2,dE1,dE2,dE3,dPos]
     try (simp only [go_sem,reduceIte,↓reduceIte,sevalprocAttr,Z0,Z1,bytesOf,Bool.true_and,TyE.cellsL_eq,List.length_map,dN0,dN1,dN2,dE1,dE2,dE3,dPos])
     refine ⟨Nat × List AO,[1,3,4,5],fun x st=>(x.1≤ks.length∧x.2[H.length]?=some (.var [.p (.i .i64 5),.p (.s n),.p (.i .i64 p),.p (.l (ks.map TyE.cells))])∧∃ G,x.2=H++G)∧st=⟨[(1,.ptr H.length 0),(3,.p (.i .i64 ks.length)),(4,.p (.b (decide (ks.length=1) && (ks.take x.1).all TyE.ok))),(5,.p (.i .i64 x.1))],[],x.2⟩,fun x=>ks.length - x.1,⟨(0,H++[AO.var [.p (.i .i64 5),.p (.s n),.p (.i .i64 p),.p (.l (ks.map TyE.cells))]]),?_⟩,?_⟩
     ·simp only [go_sem,reduceIte,↓reduceIte,sevalprocAttr,Z0,Z1,bytesOf,List.take_zero,List.all_nil,Bool.and_true]
      exact ⟨Nat.zero_le _,_,rfl⟩
     ·rintro ⟨x,HG⟩ _ ⟨⟨hx,hbG,G',hG'⟩,rfl⟩
      simp only at hx hbG hG'
      by_cases hlt:x<ks.length
      ·have d1:decide ((x:Int)<(ks.length:Int))=true:=by simp; omega
       have hlt':((x:Int)<(ks.length:Int)):=by omega
       have ex:=wrN x (by omega)
       have hg:(ks.map TyE.cells)[x]?=some (TyE.cells ks[x]):=by simp [hlt]
       cases hB:(decide (ks.length=1) && (ks.take x).all TyE.ok)
       ·simp only [go_sem,reduceIte,↓reduceIte,sevalprocAttr,Z0,Z1,bytesOf,d1]
        rw [and_take_false hB]
        exact ⟨rfl,_,hG'⟩
       ·have hok:=all_step hB hlt
        have hcall:=hk ks[x] (List.getElem_mem hlt)
        generalize ks[x]=c at hg hok hcall
        obtain ⟨ck,cn,cp,cks⟩:=c
        simp only [go_sem,reduceIte,↓reduceIte,sevalprocAttr,Z0,Z1,bytesOf,d1,hbG,hlt',hg,TyE.cells,zl8_0,zl8_1,zl8_2,zl8_3]
        refine acall_pure (hcall _) ?_
        simp only [go_sem,reduceIte,↓reduceIte,sevalprocAttr,Z0,Z1,bytesOf,ex]
        rw [← hok]
        exact ⟨(x+1,HG),⟨⟨by simp only; omega,hbG,_,hG'⟩,rfl⟩,by simp only; omega⟩
      ·have:x=ks.length:=by omega
       subst this
       have d1:decide ((ks.length:Int)<(ks.length:Int))=false:=by simp
       simp only [go_sem,reduceIte,↓reduceIte,sevalprocAttr,Z0,Z1,bytesOf,d1,List.take_length]
       exact ⟨_,hG'⟩
 ·have e:typeHead k n p ks.length=false:=by unfold typeHead; rw [if_neg h1,if_neg h2,if_neg h3,if_neg h4,if_neg h5,Bool.and_false]
  rw [e,Bool.false_and]
  have d1:decide (k=1)=false:=decide_eq_false (by omega)
  have d2:decide (k=2)=false:=decide_eq_false (by omega)
  have d3:decide (k=3)=false:=decide_eq_false (by omega)
  have d4:decide (k=4)=false:=decide_eq_false (by omega)
  have d5:decide (k=5)=false:=decide_eq_false (by omega)
  simp only [go_sem,reduceIte,↓reduceIte,sevalprocAttr,Z0,Z1,bytesOf,mc62,mr62,TyE.cells,TyE.cellsL_eq,List.length_map,dN0,dN1,dN2,dE1,dE2,dE3,dPos]
  intros
  simp only [go_sem,reduceIte,↓reduceIte,sevalprocAttr,Z0,Z1,bytesOf,d1,d2,d3,d4,d5]
  exact ⟨_,rfl⟩
theorem typeOkS : ∀ (m : Nat) (t : TyE), t.sz < m → OkC 62 (av t.cells) t.ok := by
  intro m
  induction m with
  | zero => intro t h; omega
  | succ m ih =>
    intro t h
    obtain ⟨k, n, p, ks⟩ := t
    rw [TyE.sz, TyE.szL_eq] at h
    exact type_OkS k n p ks fun a ha => ih a (by have := sumSz_mem TyE.sz ha; omega)
theorem noTypeS (t:TyE):OkC 63 (av t.cells) t.none:=by
 intro H
 obtain ⟨k,n,p,ks⟩:=t
 refine acall_drop1 ?_ (tf_p _)
 refine call63 (by simp) ?_
 rw [TyE.none]
 simp only [go_sem,reduceIte,↓reduceIte,sevalprocAttr,Z0,Z1,bytesOf,mc63,mr63,TyE.cells]
 cases ha3:decide (k=0)
 ·simp only [go_sem,reduceIte,↓reduceIte,sevalprocAttr,Z0,Z1,bytesOf,ha3,Bool.false_and]
  exact ⟨_,rfl⟩
 ·simp only [go_sem,reduceIte,↓reduceIte,sevalprocAttr,Z0,Z1,bytesOf,ha3,Bool.true_and]
  cases ha2:decide (n=[])
  ·simp only [go_sem,reduceIte,↓reduceIte,sevalprocAttr,Z0,Z1,bytesOf,ha2,Bool.false_and]
   exact ⟨_,rfl⟩
  ·simp only [go_sem,reduceIte,↓reduceIte,sevalprocAttr,Z0,Z1,bytesOf,ha2,Bool.true_and]
   cases ha1:decide (p=0)
   ·simp only [go_sem,reduceIte,↓reduceIte,sevalprocAttr,Z0,Z1,bytesOf,ha1,Bool.false_and]
    exact ⟨_,rfl⟩
   ·simp only [go_sem,reduceIte,↓reduceIte,sevalprocAttr,Z0,Z1,bytesOf,ha1,Bool.true_and]
    simp only [go_sem,reduceIte,↓reduceIte,sevalprocAttr,Z0,Z1,bytesOf,TyE.cellsL_len,dN0]
    intros
    exact ⟨_,rfl⟩
end Go.Proofs.YtnelfbcgplooiaaGreat.Pg
/- Expressions that are right, as the reference judges. -/
set_option linter.all false
namespace Go.Proofs.YtnelfbcgplooiaaGreat.Pg
open Go.AM Mc
theorem exp_OkS (k:Int) (n:List UInt8) (u:Int) (t:List UInt8) (p:Int) (ks:List ExpD) (as':List ArmD) (hk:∀ a∈ks,OkC 64 (av a.cells) a.ok) (ha:∀ q e,ArmD.mk q e∈as'→OkC 98 (av q.cells) q.ok∧OkC 64 (av e.cells) e.ok) :
  OkC 64 (av (ExpD.cells (.mk k n u t p ks as'))) (ExpD.ok (.mk k n u t p ks as')):=by
 intro H
 have hh:=node_Ok k n u t p ks as'
 rw [ExpD.ok,ExpD.okL_eq,ExpD.okA_eq]
 refine acall_drop1 ?_ (tf_p _)
 refine call64 (by simp) ?_
 simp only [go_sem,reduceIte,↓reduceIte,sevalprocAttr,Z0,Z1,bytesOf,mc64,mr64,ExpD.cells]
 refine acall_pure (hh _) ?_
 cases h1:expHead k n u t p ks.length as'.length
 ·simp only [go_sem,reduceIte,↓reduceIte,sevalprocAttr,Z0,Z1,bytesOf,h1,Bool.false_and]
  exact ⟨_,rfl⟩
 simp only [go_sem,reduceIte,↓reduceIte,sevalprocAttr,Z0,Z1,bytesOf,h1,Bool.true_and,ExpD.cellsL_eq,ExpD.cellsA_eq]
 have hb0:(H++[AO.var [.p (.i .i64 k),.p (.s n),.p (.i .i64 u),.p (.s t),.p (.i .i64 p),.p (.l (ks.map ExpD.cells)),.p (.l (as'.map ArmD.cells))]])[H.length]?=some (.var [.p (.i .i64 k),.p (.s n),.p (.i .i64 u),.p (.s t),.p (.i .i64 p),.p (.l (ks.map ExpD.cells)),.p (.l (as'.map ArmD.cells))]):=by rw [get_off0]; rfl
 refine ⟨Nat × List AO,[1,3],fun x st=>(x.1≤ks.length∧(ks.take x.1).all ExpD.ok=true∧x.2[H.length]?=some (.var [.p (.i .i64 k),.p (.s n),.p (.i .i64 u),.p (.s t),.p (.i .i64 p),.p (.l (ks.map ExpD.cells)),.p (.l (as'.map ArmD.cells))])∧∃ G,x.2=H++G)∧st=⟨[(1,.ptr H.length 0),(3,.p (.i .i64 x.1))],[],x.2⟩,fun x=>ks.length - x.1,⟨(0,H++[AO.var [.p (.i .i64 k),.p (.s n),.p (.i .i64 u),.p (.s t),.p (.i .i64 p),.p (.l (ks.map ExpD.cells)),.p (.l (as'.map ArmD.cells))]]),?_⟩,?_⟩
 ·simp only [go_sem,reduceIte,↓reduceIte,sevalprocAttr,Z0,Z1,bytesOf,List.take_zero]
  exact ⟨Nat.zero_le _,rfl,_,rfl⟩
 ·rintro ⟨x,HG⟩ _ ⟨⟨hx,hn,hbG,G',hG'⟩,rfl⟩
  simp only at hx hn hbG hG'
  simp only [go_sem,reduceIte,↓reduceIte,sevalprocAttr,Z0,Z1,bytesOf,hbG,List.length_map]
  intro hl
  rw [maxLe] at hl
  by_cases hlt:x<ks.length
  ·have d1:decide ((x:Int)<(ks.length:Int))=true:=by simp; omega
   have hlt':((x:Int)<(ks.length:Int)):=by omega
   have ex:=wrN x (by omega)
   have hg:(ks.map ExpD.cells)[x]?=some (ExpD.cells ks[x]):=by simp [hlt]
   have hok:(ks.take (x+1)).all ExpD.ok=ExpD.ok ks[x]:=by rw [all_takeA hlt,hn,Bool.true_and]
   have hnot:ExpD.ok ks[x]=false→ks.all ExpD.ok=false:=fun h=>all_notA hlt h
   have hcall:=hk ks[x] (List.getElem_mem hlt)
   generalize ks[x]=c at hg hok hnot hcall
   obtain ⟨ck,cn,cu,ct,cp,cks,cas⟩:=c
   simp only [go_sem,reduceIte,↓reduceIte,sevalprocAttr,Z0,Z1,bytesOf,d1,hlt',hg,hbG,List.length_map,ExpD.cells,zl8_0,zl8_1,zl8_2,zl8_3]
   refine acall_pure (hcall _) ?_
   cases h2:ExpD.ok (.mk ck cn cu ct cp cks cas)
   ·have ev:=hnot h2
    simp only [go_sem,reduceIte,↓reduceIte,sevalprocAttr,Z0,Z1,bytesOf,h2,ev,Bool.false_and]
    exact ⟨_,hG'⟩
   ·simp only [go_sem,reduceIte,↓reduceIte,sevalprocAttr,Z0,Z1,bytesOf,h2,ex]
    exact ⟨(x+1,HG),⟨⟨by simp only; omega,by simp only; rw [hok,h2],hbG,_,hG'⟩,rfl⟩,by simp only; omega⟩
  ·have:x=ks.length:=by omega
   subst this
   have d1:decide ((ks.length:Int)<(ks.length:Int))=false:=by simp
   rw [List.take_length] at hn
   simp only [go_sem,reduceIte,↓reduceIte,sevalprocAttr,Z0,Z1,bytesOf,d1]
   rw [hn,Bool.true_and]
   refine ⟨Nat × List AO,[1,4],fun x st=>(x.1≤as'.length∧(as'.take x.1).all ArmD.ok=true∧x.2[H.length]?=some (.var [.p (.i .i64 k),.p (.s n),.p (.i .i64 u),.p (.s t),.p (.i .i64 p),.p (.l (ks.map ExpD.cells)),.p (.l (as'.map ArmD.cells))])∧∃ G,x.2=H++G)∧st=⟨[(1,.ptr H.length 0),(4,.p (.i .i64 x.1))],[],x.2⟩,fun x=>as'.length - x.1,⟨(0,HG),?_⟩,?_⟩
   ·simp only [go_sem,reduceIte,↓reduceIte,sevalprocAttr,Z0,Z1,bytesOf,List.take_zero,hbG]
    exact ⟨Nat.zero_le _,rfl,_,hG'⟩
   ·rintro ⟨y,HK⟩ _ ⟨⟨hy,hm,hbK,K',hK'⟩,rfl⟩
    simp only at hy hm hbK hK'
    simp only [go_sem,reduceIte,↓reduceIte,sevalprocAttr,Z0,Z1,bytesOf,hbK,List.length_map]
    intro hl2
    rw [maxLe] at hl2
    by_cases hlt:y<as'.length
    ·have d1:decide ((y:Int)<(as'.length:Int))=true:=by simp; omega
     have hlt':((y:Int)<(as'.length:Int)):=by omega
     have ex:=wrN y (by omega)
     have hg:(as'.map ArmD.cells)[y]?=some (ArmD.cells as'[y]):=by simp [hlt]
     have hok:(as'.take (y+1)).all ArmD.ok=ArmD.ok as'[y]:=by rw [all_takeA hlt,hm,Bool.true_and]
     have hnot:ArmD.ok as'[y]=false→as'.all ArmD.ok=false:=fun h=>all_notA hlt h
     have hmem:=List.getElem_mem hlt
     generalize as'[y]=c at hg hok hnot hmem
     obtain ⟨⟨pk,pn,pu,pp,pks⟩,⟨ck,cn,cu,ct,cp,cks,cas⟩⟩:=c
     obtain ⟨hc1,hc2⟩:=ha _ _ hmem
     simp only [go_sem,reduceIte,↓reduceIte,sevalprocAttr,Z0,Z1,bytesOf,d1,hlt',hg,hbK,List.length_map,ArmD.cells,PatD.cells,ExpD.cells,zl8_0,zl8_1,zl8_2,zl8_3]
     refine acall_pure (hc1 _) ?_
     cases h2:PatD.ok (.mk pk pn pu pp pks)
     ·have ev:=hnot (by rw [ArmD.ok,h2]; rfl)
      simp only [go_sem,reduceIte,↓reduceIte,sevalprocAttr,Z0,Z1,bytesOf,h2,ev]
      exact ⟨_,hK'⟩
     ·simp only [go_sem,reduceIte,↓reduceIte,sevalprocAttr,Z0,Z1,bytesOf,h2,hlt',hg,hbK,List.length_map,ArmD.cells,PatD.cells,ExpD.cells,zl8_0,zl8_1,zl8_2,zl8_3]
      refine acall_pure (hc2 _) ?_
      cases h3:ExpD.ok (.mk ck cn cu ct cp cks cas)
      ·have ev:=hnot (by rw [ArmD.ok,h2,h3]; rfl)
       simp only [go_sem,reduceIte,↓reduceIte,sevalprocAttr,Z0,Z1,bytesOf,h3,ev]
       exact ⟨_,hK'⟩
      ·simp only [go_sem,reduceIte,↓reduceIte,sevalprocAttr,Z0,Z1,bytesOf,h3,ex]
       exact ⟨(y+1,HK),⟨⟨by simp only; omega,by simp only; rw [hok,ArmD.ok,h2,h3]; rfl,hbK,_,hK'⟩,rfl⟩,by simp only; omega⟩
    ·have:y=as'.length:=by omega
     subst this
     have d1:decide ((as'.length:Int)<(as'.length:Int))=false:=by simp
     rw [List.take_length] at hm
     simp only [go_sem,reduceIte,↓reduceIte,sevalprocAttr,Z0,Z1,bytesOf,d1,hm]
     exact ⟨_,hK'⟩
theorem expOkS : ∀ (m : Nat) (t : ExpD), t.sz < m → OkC 64 (av t.cells) t.ok := by
  intro m
  induction m with
  | zero => intro t h; omega
  | succ m ih =>
    intro t h
    obtain ⟨k, n, u, x, p, ks, as'⟩ := t
    rw [ExpD.sz, ExpD.szL_eq, ExpD.szA_eq] at h
    refine exp_OkS k n u x p ks as' (fun a ha => ih a (by have := sumSz_mem ExpD.sz ha; omega)) (fun q e ha => ?_)
    have hm := sumSz_mem ArmD.sz ha
    rw [ArmD.sz] at hm
    exact ⟨patOkS _ q (Nat.lt_succ_self _), ih e (by omega)⟩
end Go.Proofs.YtnelfbcgplooiaaGreat.Pg
/- Programs that are right, as the reference judges. -/
set_option linter.all false
namespace Go.Proofs.YtnelfbcgplooiaaGreat.Pg
open Go.AM Mc
theorem progOkS (g:ProgD):OkC 25 (av g.cells) g.ok:=by
 intro H
 have he:=expOkS _ g.body (Nat.lt_succ_self _)
 obtain ⟨ts,⟨k,n,u,t,p,ks,as'⟩⟩:=g
 refine acall_drop1 ?_ (tf_p _)
 refine call25 (by simp) ?_
 rw [ProgD.ok]
 simp only [go_sem,reduceIte,↓reduceIte,sevalprocAttr,Z0,Z1,bytesOf,mc25,mr25,ProgD.cells,ExpD.cells]
 generalize hB:AO.var [.p (.l (ts.map DataD.cells)),.p (.i .i64 k),.p (.s n),.p (.i .i64 u),.p (.s t),.p (.i .i64 p),.p (.l (ExpD.cellsL ks)),.p (.l (ExpD.cellsA as'))]=B
 have fin:∀ HX:List AO,(∃ G,HX=H++G)→∃ G,HX=H++G:=fun _ h=>h
 refine ⟨Nat × List AO,[1,3],fun x st=>(x.1≤ts.length∧(ts.take x.1).all DataD.ok=true∧x.2[H.length]?=some B∧∃ G,x.2=H++G)∧st=⟨[(1,.ptr H.length 0),(3,.p (.i .i64 x.1))],[],x.2⟩,fun x=>ts.length - x.1,⟨(0,H++[B]),?_⟩,?_⟩
 ·simp only [go_sem,reduceIte,↓reduceIte,sevalprocAttr,Z0,Z1,bytesOf,List.take_zero]
  exact ⟨Nat.zero_le _,rfl,_,rfl⟩
 ·rintro ⟨x,HG⟩ _ ⟨⟨hx,hn,hbG,G',hG'⟩,rfl⟩
  simp only at hx hn hbG hG'
  have hbG1:=hbG
  rw [← hB] at hbG1
  simp only [go_sem,reduceIte,↓reduceIte,sevalprocAttr,Z0,Z1,bytesOf,hbG1,List.length_map]
  intro hl
  rw [maxLe] at hl
  by_cases hlt:x<ts.length
  ·have d1:decide ((x:Int)<(ts.length:Int))=true:=by simp; omega
   have hlt':((x:Int)<(ts.length:Int)):=by omega
   have ex:=wrN x (by omega)
   have hg:(ts.map DataD.cells)[x]?=some (DataD.cells ts[x]):=by simp [hlt]
   have hok:(ts.take (x+1)).all DataD.ok=DataD.ok ts[x]:=by rw [all_takeA hlt,hn,Bool.true_and]
   have hnot:DataD.ok ts[x]=false→ts.all DataD.ok=false:=fun h=>all_notA hlt h
   generalize ts[x]=d at hg hok hnot
   obtain ⟨dn,vs,cs,dp⟩:=d
   simp only [go_sem,reduceIte,↓reduceIte,sevalprocAttr,Z0,Z1,bytesOf,d1,hlt',hg,hbG1,List.length_map,DataD.cells,zl6_0]
   have hbD:(HG++[AO.var [.p (.s dn),.p (.l (namesC vs)),.p (.l (cs.map CtorD.cells)),.p (.i .i64 dp)]])[HG.length]?=some (.var [.p (.s dn),.p (.l (namesC vs)),.p (.l (cs.map CtorD.cells)),.p (.i .i64 dp)]):=by rw [get_off0]; rfl
   have hbP:=get_ext hbG [AO.var [.p (.s dn),.p (.l (namesC vs)),.p (.l (cs.map CtorD.cells)),.p (.i .i64 dp)]]
   have hH1:∃ G,HG++[AO.var [.p (.s dn),.p (.l (namesC vs)),.p (.l (cs.map CtorD.cells)),.p (.i .i64 dp)]]=H++G:=⟨_,by rw [hG',List.append_assoc]⟩
   generalize hj:HG.length=j at hbD ⊢
   generalize HG++[AO.var [.p (.s dn),.p (.l (namesC vs)),.p (.l (cs.map CtorD.cells)),.p (.i .i64 dp)]]=H1 at hbD hbP hH1 ⊢
   refine acall_pure (lowS dn _) ?_
   cases h1:lowD dn
   ·have ev:=hnot (by simp [DataD.ok,h1])
    simp only [go_sem,reduceIte,↓reduceIte,sevalprocAttr,Z0,Z1,bytesOf,h1,ev,Bool.false_and]
    exact hH1
   simp only [go_sem,reduceIte,↓reduceIte,sevalprocAttr,Z0,Z1,bytesOf,h1,dLt,hbD]
   cases h2:decide (0≤dp)
   ·have ev:=hnot (by simp [DataD.ok,h2])
    simp only [go_sem,reduceIte,↓reduceIte,sevalprocAttr,Z0,Z1,bytesOf,h2,ev,Bool.false_and]
    exact hH1
   simp only [go_sem,reduceIte,↓reduceIte,sevalprocAttr,Z0,Z1,bytesOf,h2,hbD,List.length_map,dN0]
   intro hl3
   cases h3:decide (cs.length=0)
   case true =>
    have h3':cs.length=0:=of_decide_eq_true h3
    have ev:=hnot (by simp [DataD.ok,h3'])
    simp only [go_sem,reduceIte,↓reduceIte,sevalprocAttr,Z0,Z1,bytesOf,h3,ev,Bool.false_and]
    exact hH1
   have h3':0<cs.length:=by have:=of_decide_eq_false h3; omega
   rw [maxLe] at hl3
   simp only [go_sem,reduceIte,↓reduceIte,sevalprocAttr,Z0,Z1,bytesOf,h3]
   refine ⟨Nat,[1,3,4,5],fun y st=>(y≤vs.length∧(vs.take y).all (isNameD false)=true)∧st=⟨[(1,.ptr H.length 0),(3,.p (.i .i64 x)),(4,.ptr j 0),(5,.p (.i .i64 y))],[],H1⟩,fun y=>vs.length - y,⟨0,?_⟩,?_⟩
   ·simp only [go_sem,reduceIte,↓reduceIte,sevalprocAttr,Z0,Z1,bytesOf,List.take_zero]
    exact ⟨Nat.zero_le _,rfl⟩
   ·rintro y _ ⟨⟨hy,hm⟩,rfl⟩
    simp only [go_sem,reduceIte,↓reduceIte,sevalprocAttr,Z0,Z1,bytesOf,hbD,namesC_len]
    intro hl4
    rw [maxLe] at hl4
    by_cases hyl:y<vs.length
    ·have d2:decide ((y:Int)<(vs.length:Int))=true:=by simp; omega
     have hyl':((y:Int)<(vs.length:Int)):=by omega
     have ey:=wrN y (by omega)
     have hg2:=namesC_get vs hyl
     have hok2:(vs.take (y+1)).all (isNameD false)=isNameD false vs[y]:=by rw [all_takeA hyl,hm,Bool.true_and]
     have hnot2:isNameD false vs[y]=false→vs.all (isNameD false)=false:=fun h=>all_notA hyl h
     generalize vs[y]=v at hg2 hok2 hnot2
     simp only [go_sem,reduceIte,↓reduceIte,sevalprocAttr,Z0,Z1,bytesOf,d2,hyl',hg2,hbD,namesC_len]
     refine acall_pure (nameS false v _) ?_
     cases h4:isNameD false v
     ·have ev:=hnot (by simp [DataD.ok,hnot2 h4])
      simp only [go_sem,reduceIte,↓reduceIte,sevalprocAttr,Z0,Z1,bytesOf,h4,ev,Bool.false_and]
      exact hH1
     ·simp only [go_sem,reduceIte,↓reduceIte,sevalprocAttr,Z0,Z1,bytesOf,h4,ey]
      exact ⟨y+1,⟨⟨by omega,by rw [hok2,h4]⟩,rfl⟩,by omega⟩
    ·have:y=vs.length:=by omega
     subst this
     have d2:decide ((vs.length:Int)<(vs.length:Int))=false:=by simp
     rw [List.take_length] at hm
     simp only [go_sem,reduceIte,↓reduceIte,sevalprocAttr,Z0,Z1,bytesOf,d2]
     refine ⟨Nat × List AO,[1,3,4,6],fun z st=>(z.1≤cs.length∧(cs.take z.1).all CtorD.ok=true∧z.2[H.length]?=some B∧z.2[j]?=some (.var [.p (.s dn),.p (.l (namesC vs)),.p (.l (cs.map CtorD.cells)),.p (.i .i64 dp)])∧∃ G,z.2=H++G)∧st=⟨[(1,.ptr H.length 0),(3,.p (.i .i64 x)),(4,.ptr j 0),(6,.p (.i .i64 z.1))],[],z.2⟩,fun z=>cs.length - z.1,⟨(0,H1),?_⟩,?_⟩
     ·simp only [go_sem,reduceIte,↓reduceIte,sevalprocAttr,Z0,Z1,bytesOf,List.take_zero]
      exact ⟨Nat.zero_le _,rfl,hbP,hbD,hH1⟩
     ·rintro ⟨z,HK⟩ _ ⟨⟨hz,hc,hbK,hbE,K',hK'⟩,rfl⟩
      simp only at hz hc hbK hbE hK'
      simp only [go_sem,reduceIte,↓reduceIte,sevalprocAttr,Z0,Z1,bytesOf,hbE,List.length_map]
      intro hl5
      by_cases hzl:z<cs.length
      ·have d3:decide ((z:Int)<(cs.length:Int))=true:=by simp; omega
       have hzl':((z:Int)<(cs.length:Int)):=by omega
       have ez:=wrN z (by omega)
       have hg3:(cs.map CtorD.cells)[z]?=some (CtorD.cells cs[z]):=by simp [hzl]
       have hok3:(cs.take (z+1)).all CtorD.ok=CtorD.ok cs[z]:=by rw [all_takeA hzl,hc,Bool.true_and]
       have hnot3:CtorD.ok cs[z]=false→cs.all CtorD.ok=false:=fun h=>all_notA hzl h
       generalize cs[z]=c at hg3 hok3 hnot3
       obtain ⟨cn,ch,⟨ak,an,ap,aks⟩,cp⟩:=c
       have hty:=typeOkS _ (.mk ak an ap aks) (Nat.lt_succ_self _)
       have hem:=noTypeS (.mk ak an ap aks)
       have next:∀ A,CtorD.ok ⟨cn,ch,.mk ak an ap aks,cp⟩=true→∃ y:Nat × List AO,((y.1≤cs.length∧(cs.take y.1).all CtorD.ok=true∧y.2[H.length]?=some B∧y.2[j]?=some (.var [.p (.s dn),.p (.l (namesC vs)),.p (.l (cs.map CtorD.cells)),.p (.i .i64 dp)])∧∃ G,y.2=H++G)∧(⟨[(1,.ptr H.length 0),(3,.p (.i .i64 x)),(4,.ptr j 0),(6,.p (.i .i64 ((z+1:Nat):Int)))],[],HK++A⟩:St)=⟨[(1,.ptr H.length 0),(3,.p (.i .i64 x)),(4,.ptr j 0),(6,.p (.i .i64 y.1))],[],y.2⟩)∧cs.length - y.1<cs.length - z:=fun A h=>⟨(z+1,HK++A),⟨⟨by simp only; omega,by simp only; rw [hok3]; exact h,get_ext hbK A,get_ext hbE A,_,by rw [hK',List.append_assoc]⟩,rfl⟩,by simp only; omega⟩
       have bad:CtorD.ok ⟨cn,ch,.mk ak an ap aks,cp⟩=false→ts.all DataD.ok=false:=fun h=>hnot (by simp [DataD.ok,hnot3 h])
       have hfin:∀ A,∃ G,HK++A=H++G:=fun A=>⟨_,by rw [hK',List.append_assoc]⟩
       simp only [go_sem,reduceIte,↓reduceIte,sevalprocAttr,Z0,Z1,bytesOf,d3,hzl',hg3,hbE,List.length_map,CtorD.cells,TyE.cells,zl6_0]
       refine acall_pure (nameS true cn _) ?_
       cases h5:isNameD true cn
       ·have ev:=bad (by simp [CtorD.ok,h5])
        simp only [go_sem,reduceIte,↓reduceIte,sevalprocAttr,Z0,Z1,bytesOf,h5,ev,Bool.false_and]
        exact hfin _
       simp only [go_sem,reduceIte,↓reduceIte,sevalprocAttr,Z0,Z1,bytesOf,h5,dLt]
       cases h6:decide (0≤cp)
       ·have ev:=bad (by simp [CtorD.ok,h6])
        simp only [go_sem,reduceIte,↓reduceIte,sevalprocAttr,Z0,Z1,bytesOf,h6,ev,Bool.false_and]
        exact hfin _
       simp only [go_sem,reduceIte,↓reduceIte,sevalprocAttr,Z0,Z1,bytesOf,h6]
       cases ch
       ·simp only [go_sem,reduceIte,↓reduceIte,sevalprocAttr,Z0,Z1,bytesOf]
        refine acall_pure (hem _) ?_
        cases h7:TyE.none (.mk ak an ap aks)
        ·have ev:=bad (by simp [CtorD.ok,h7])
         simp only [go_sem,reduceIte,↓reduceIte,sevalprocAttr,Z0,Z1,bytesOf,h7,ev,Bool.false_and]
         exact hfin _
        ·simp only [go_sem,reduceIte,↓reduceIte,sevalprocAttr,Z0,Z1,bytesOf,h7,ez]
         exact next _ (by simp [CtorD.ok,h5,h6,h7])
       ·simp only [go_sem,reduceIte,↓reduceIte,sevalprocAttr,Z0,Z1,bytesOf]
        refine acall_pure (hty _) ?_
        cases h7:TyE.ok (.mk ak an ap aks)
        ·have ev:=bad (by simp [CtorD.ok,h7])
         simp only [go_sem,reduceIte,↓reduceIte,sevalprocAttr,Z0,Z1,bytesOf,h7,ev,Bool.false_and]
         exact hfin _
        ·simp only [go_sem,reduceIte,↓reduceIte,sevalprocAttr,Z0,Z1,bytesOf,h7,ez]
         exact next _ (by simp [CtorD.ok,h5,h6,h7])
      ·have:z=cs.length:=by omega
       subst this
       have d3:decide ((cs.length:Int)<(cs.length:Int))=false:=by simp
       rw [List.take_length] at hc
       simp only [go_sem,reduceIte,↓reduceIte,sevalprocAttr,Z0,Z1,bytesOf,d3,ex]
       refine ⟨(x+1,HK),⟨⟨by simp only; omega,by simp only; rw [hok]; simp [DataD.ok,h1,h2,h3',hm,hc],hbK,_,hK'⟩,rfl⟩,by simp only; omega⟩
  ·have:x=ts.length:=by omega
   subst this
   have d1:decide ((ts.length:Int)<(ts.length:Int))=false:=by simp
   rw [List.take_length] at hn
   simp only [go_sem,reduceIte,↓reduceIte,sevalprocAttr,Z0,Z1,bytesOf,d1,hbG1]
   refine acall_pure (he _) ?_
   simp only [go_sem,reduceIte,↓reduceIte,sevalprocAttr,Z0,Z1,bytesOf,hn,Bool.true_and]
   exact ⟨_,hG'⟩
end Go.Proofs.YtnelfbcgplooiaaGreat.Pg
/- The program's maker of tables: its smaller methods. -/
set_option linter.all false
namespace Go.Proofs.YtnelfbcgplooiaaGreat.Pg
open Go.AM Mc
def tmO (g:ProgD) (a:AV) (f:Ft):AO:=.var (g.cells.map .p++[a,.p (.i .i64 f.1),.p (.i .i64 f.2)])
theorem tmO_in {g:ProgD} {a:AV} {f f':Ft}:∀ c,InO c (tmO g a f')→Tf c∨InO c (tmO g a f):=by
 intro c hc
 simp only [tmO,InO,List.mem_append,List.mem_map,List.mem_cons,List.not_mem_nil,or_false] at hc ⊢
 rcases hc with ⟨q,_,rfl⟩ | rfl | rfl | rfl
 ·exact .inl (tf_p _)
 ·exact .inr (.inr (.inl rfl))
 ·exact .inl (tf_p _)
 ·exact .inl (tf_p _)
theorem set_id {H:List AO} {j:Nat} {o:AO} (h:H[j]?=some o):H.set j o=H:=by
 apply List.ext_getElem?
 intro i
 by_cases e:j=i
 ·subst e; rw [set_get h,h]
 ·rw [List.getElem?_set_ne e]
theorem failT {g:ProgD} {a:AV} {f:Ft} {H:List AO} {j:Nat} (hj:H[j]?=some (tmO g a f)) (c q:Int) :
  ACall Tryz.prog 35 [.ptr j 0,.p (.i .i64 c),.p (.i .i64 q)] H (pureQ (.tup []) (H.set j (tmO g a (firstF f (c,q))))):=by
 obtain ⟨f1,f2⟩:=f
 have hv:=hj
 obtain ⟨ts,⟨k,n,u,t,p,ks,as'⟩⟩:=g
 simp only [tmO,ProgD.cells,ExpD.cells,List.map_cons,List.map_nil,List.cons_append,List.nil_append] at hv
 refine call35 (by simp) ?_
 cases h1:decide (f1=0)
 ·have e:firstF (f1,f2) (c,q)=(f1,f2):=firstF_ne (of_decide_eq_false h1)
  simp only [go_sem,reduceIte,↓reduceIte,sevalprocAttr,Z0,Z1,bytesOf,mc35,mr35,hv,h1]
  rw [e,set_id hj]
  exact ⟨rfl,rfl⟩
 ·have e:firstF (f1,f2) (c,q)=(c,q):=by simp [firstF,of_decide_eq_true h1]
  rw [e]
  simp only [go_sem,reduceIte,↓reduceIte,sevalprocAttr,Z0,Z1,bytesOf,mc35,mr35,hv,h1]
  exact ⟨rfl,rfl⟩
theorem fourC (H:List AO):ACall Tryz.prog 34 [] H (pureQ (.p (.l (namesC fourL))) H):=by
 refine (acall_fresh (R:=fun r=>r=.p (.l (namesC fourL))) (Q:=fun r H'=>∃ id ver,r=.gs id ver 0 (namesC fourL).length∧H'[id]?=some (.rows 1 ver ((namesC fourL).map fun y=>y.map .p))) ?_ (by intro b hb; simp at hb) ?_).mono (fun r H' ⟨h1,h2⟩=>⟨h2,h1⟩)
 ·refine call34 (by simp) ?_
  simp only [go_sem,reduceIte,↓reduceIte,sevalprocAttr,Z0,Z1,bytesOf,mc34,mr34]
  exact ⟨0,0,rfl,rfl⟩
 ·rintro r H' ⟨id,ver,rfl,hid⟩
  exact ⟨_,lent_rows hid (by intro y hy; obtain ⟨a,_,rfl⟩:=List.mem_map.1 hy; rfl),rfl⟩
theorem tyFn1 {k:Int} {n:List UInt8} {p:Int} {ks:List TyE} {H:List AO} {i:Nat} (hi:H[i]?=some (.var ((TyE.cells (.mk k n p ks)).map .p))) (d:DataD) :
  ACall Tryz.prog 109 [av d.cells,.ptr i 0] H (pureQ (.p (.b (decide (d.name=n) && decide (d.vars.length=ks.length)))) H):=by
 obtain ⟨dn,vs,cs,dp⟩:=d
 have hiX:∀ A,(H++A)[i]?=some (.var [.p (.i .i64 k),.p (.s n),.p (.i .i64 p),.p (.l (TyE.cellsL ks))]):=fun A=>get_ext hi A
 have hd:decide ((vs.length:Int)=(ks.length:Int))=decide (vs.length=ks.length):=by rw [decide_eq_decide]; omega
 refine acall_drop1 ?_ (tf_p _)
 refine call109 (by simp) ?_
 simp only [go_sem,reduceIte,↓reduceIte,sevalprocAttr,Z0,Z1,bytesOf,mc109,mr109,DataD.cells,hiX]
 cases h1:decide (dn=n)
 ·simp only [go_sem,reduceIte,↓reduceIte,sevalprocAttr,Z0,Z1,bytesOf,h1,Bool.false_and]
  exact ⟨_,rfl⟩
 ·simp only [go_sem,reduceIte,↓reduceIte,sevalprocAttr,Z0,Z1,bytesOf,h1,Bool.true_and,namesC_len,TyE.cellsL_len,hiX,hd]
  intros
  exact ⟨_,rfl⟩
theorem tblFn1 {e:DataD} {H:List AO} {i:Nat} (hi:H[i]?=some (.var (e.cells.map .p))) (d:DataD) :
  ACall Tryz.prog 32 [av d.cells,.ptr i 0] H (pureQ (.p (.b (decide (d.name=e.name)))) H):=by
 obtain ⟨dn,vs,cs,dp⟩:=d
 obtain ⟨en,evs,ecs,ep⟩:=e
 have hiX:∀ A,(H++A)[i]?=some (.var [.p (.s en),.p (.l (namesC evs)),.p (.l (ecs.map CtorD.cells)),.p (.i .i64 ep)]):=fun A=>get_ext hi A
 refine acall_drop1 ?_ (tf_p _)
 refine call32 (by simp) ?_
 simp only [go_sem,reduceIte,↓reduceIte,sevalprocAttr,Z0,Z1,bytesOf,mc32,mr32,DataD.cells,hiX]
 exact ⟨_,rfl⟩
theorem manyF_step {ts:List DataD} {x:Nat} (h:x<ts.length):manyF x (ts.drop x)=if x=12 then (26,ts[x].pos) else match ts[x].ctors[16]? with
  | some c=>(26,c.pos)
  | .none=>manyF (x+1) (ts.drop (x+1)):=by
 rw [List.drop_eq_getElem_cons h,manyF]
 rfl
theorem set_far {H X:List AO} {i:Nat} (h:∃ G,X=H++G) (hi:H.length≤i) (o:AO):∃ G,X.set i o=H++G:=by
 obtain ⟨G,rfl⟩:=h
 exact ⟨_,List.set_append_right _ _ hi⟩
theorem app_far {H X:List AO} (h:∃ G,X=H++G) (A:List AO):∃ G,X++A=H++G:=by
 obtain ⟨G,rfl⟩:=h
 exact ⟨_,List.append_assoc _ _ _⟩
theorem tooManyC (g:ProgD) (H:List AO):ACall Tryz.prog 30 [av g.cells] H (pureQ (av (Ft.cells (manyF 0 g.types))) H):=by
 obtain ⟨ts,⟨k,n,u,t,p,ks,as'⟩⟩:=g
 refine acall_drop1 ?_ (tf_av _)
 refine call30 (by simp) ?_
 simp only [go_sem,reduceIte,↓reduceIte,sevalprocAttr,Z0,Z1,bytesOf,mc30,mr30,ProgD.cells,ExpD.cells,List.length_map]
 intro hl
 rw [maxLe] at hl
 refine ⟨Nat × List AO,[1,2,6,7,8],fun x st=>st=⟨[(1,.ptr H.length 0),(2,.ptr (H.length+1) 0),(6,.p (.l (ts.map DataD.cells))),(7,.p (.i .i64 ts.length)),(8,.p (.i .i64 x.1))],[],x.2⟩∧x.1≤ts.length∧manyF 0 ts=manyF x.1 (ts.drop x.1)∧x.2[H.length+1]?=some (.var [.p (.i .i64 0),.p (.i .i64 0)])∧∃ G,x.2=H++G,fun x=>ts.length - x.1,⟨(0,_),rfl,Nat.zero_le _,rfl,by rw [get_off]; rfl,_,rfl⟩,?_⟩
 ·rintro ⟨x,HG⟩ _ ⟨rfl,hx,hn,hbG,G',hG'⟩
  simp only at hx hn hbG hG'
  by_cases hlt:x<ts.length
  ·have d1:decide ((x:Int)<(ts.length:Int))=true:=by simp; omega
   have hlt':((x:Int)<(ts.length:Int)):=by omega
   have ex:=wrN x (by omega)
   have hg:(ts.map DataD.cells)[x]?=some (DataD.cells ts[x]):=by simp [hlt]
   rw [manyF_step hlt] at hn
   have hlen:HG.length=H.length+G'.length:=by rw [hG',List.length_append]
   generalize ts[x]=d at hg hn
   obtain ⟨dn,vs,cs,dp⟩:=d
   have d12:decide ((x:Int)=12)=decide (x=12):=by rw [decide_eq_decide]; omega
   have d16:decide ((16:Int)<(cs.length:Int))=decide (16<cs.length):=by rw [decide_eq_decide]; omega
   simp only at hn
   have hK:∀ A,(HG++A)[H.length+1]?=some (.var [.p (.i .i64 0),.p (.i .i64 0)]):=fun A=>get_ext hbG A
   simp only [go_sem,reduceIte,↓reduceIte,sevalprocAttr,Z0,Z1,bytesOf,d1,hlt',hg,DataD.cells,zl6_0,d12]
   cases h12:decide (x=12)
   case true =>
    rw [if_pos (of_decide_eq_true h12)] at hn
    simp only [go_sem,reduceIte,↓reduceIte,sevalprocAttr,Z0,Z1,bytesOf,h12,hK,hn,Ft.cells]
    rw [set_get (hK _)]
    simp only [go_sem,reduceIte,↓reduceIte,sevalprocAttr,Z0,Z1,bytesOf]
    exact ⟨rfl,set_far (app_far ⟨_,hG'⟩ _) (by omega) _⟩
   rw [if_neg (of_decide_eq_false h12)] at hn
   simp only [go_sem,reduceIte,↓reduceIte,sevalprocAttr,Z0,Z1,bytesOf,h12,List.length_map,d16]
   intro hl2
   cases h16:decide (16<cs.length)
   ·have e16:cs[16]?=.none:=List.getElem?_eq_none (by have:=of_decide_eq_false h16; omega)
    rw [e16] at hn
    simp only [go_sem,reduceIte,↓reduceIte,sevalprocAttr,Z0,Z1,bytesOf,h16,ex]
    refine ⟨(x+1,HG++_),⟨rfl,by simp only; omega,hn,hK _,_,by rw [hG',List.append_assoc]⟩,by simp only; omega⟩
   ·have h16':=of_decide_eq_true h16
    have e16:cs[16]?=some cs[16]:=List.getElem?_eq_getElem h16'
    have e16':(cs.map CtorD.cells)[16]?=some (CtorD.cells cs[16]):=by simp [h16']
    have l16:((16:Int)<(cs.length:Int)):=by omega
    rw [e16] at hn
    generalize cs[16]=c at hn e16'
    obtain ⟨cn,ch,⟨ak,an,ap,aks⟩,cp⟩:=c
    simp only at hn
    simp only [go_sem,reduceIte,↓reduceIte,sevalprocAttr,Z0,Z1,bytesOf,h16,l16,e16',hK,hn,Ft.cells,CtorD.cells,TyE.cells,List.length_map]
    rw [set_get (hK _)]
    simp only [go_sem,reduceIte,↓reduceIte,sevalprocAttr,Z0,Z1,bytesOf]
    exact ⟨rfl,set_far (app_far ⟨_,hG'⟩ _) (by omega) _⟩
  ·have:x=ts.length:=by omega
   subst this
   have d1:decide ((ts.length:Int)<(ts.length:Int))=false:=by simp
   rw [List.drop_length,manyF] at hn
   simp only [go_sem,reduceIte,↓reduceIte,sevalprocAttr,Z0,Z1,bytesOf,d1,hbG,hn,Ft.cells]
   rw [set_get hbG]
   simp only [go_sem,reduceIte,↓reduceIte,sevalprocAttr,Z0,Z1,bytesOf]
   exact ⟨rfl,set_far ⟨_,hG'⟩ (by omega) _⟩
end Go.Proofs.YtnelfbcgplooiaaGreat.Pg
/- The program's maker of tables: types. -/
set_option linter.all false
namespace Go.Proofs.YtnelfbcgplooiaaGreat.Pg
open Go.AM Mc
def Fz (f:Ft):Prop:=f.1=0→f=(0,0)
theorem TyD.cells_len (t:TyD):t.cells.length=4:=by obtain ⟨k,n,s,ks⟩:=t; rfl
theorem lent_st4 {H:List AO} {a b:AV} (h:Lent H a b) (c1 c2 c3:PV):Lent H (.st [.p c1,.p c2,.p c3,a]) (.st [.p c1,.p c2,.p c3,b]):=by
 refine .st _ _ rfl fun j x y hx hy=>?_
 match j with
 | 0=>cases hx; cases hy; exact .pure _
 | 1=>cases hx; cases hy; exact .pure _
 | 2=>cases hx; cases hy; exact .pure _
 | 3=>cases hx; cases hy; exact h
 | j+4=>simp at hx
theorem idxI_neg (l:List (List UInt8)) (s:List UInt8):decide (idxI l s<0)=decide (idx s l=.none):=by
 unfold idxI
 cases idx s l with
 | none=>rfl
 | some k=>simp
theorem idxI_nonneg (l : List (List UInt8)) (s : List UInt8) : decide (0 ≤ idxI l s) = decide (s ∈ l) := by
  unfold idxI
  cases h : idx s l with
  | none => simp [idx_none.1 h]
  | some k =>
    have : s ∈ l := by
      apply Classical.byContradiction
      intro hn
      rw [idx_none.2 hn] at h
      cases h
    simp [this]
theorem eget_same (L : En) (t : Nat) (v : AV) : eget (eset L t v) t = v := by
  induction L with
  | nil => simp [eset, eget]
  | cons x L ih =>
    obtain ⟨k, u⟩ := x
    simp only [eset]
    split
    · simp [eget]
    · rename_i h; simp [eget, h, ih]
theorem eget_ne {L : En} {k t : Nat} {v : AV} (h : k ≠ t) : eget (eset L k v) t = eget L t := by
  induction L with
  | nil => simp [eset, eget, h]
  | cons x L ih =>
    obtain ⟨m, u⟩ := x
    simp only [eset]
    split
    · rename_i e; subst e; simp [eget, h]
    · simp only [eget, ih]
theorem eget_keep {lv : List Nat} {L : En} {t : Nat} (h : lmem lv t = true) : eget (ekeep lv L) t = eget L t := by
  induction L with
  | nil => rfl
  | cons x L ih =>
    obtain ⟨m, u⟩ := x
    simp only [ekeep]
    by_cases e : m = t
    · subst e; simp [h, eget]
    · split
      · simp [eget, e, ih]
      · simp [eget, e, ih]
theorem TyE.tyL_eq (vs l):TyE.tyL vs l=l.map (TyE.ty vs):=by
 induction l with
 | nil=>rfl
 | cons t l ih=>rw [TyE.tyL,ih]; rfl
theorem firstF_zz {a b:Ft} (ha:a.1=0→a=(0,0)) (hb:b.1=0→b=(0,0)):(firstF a b).1=0→firstF a b=(0,0):=by
 unfold firstF
 split
 ·exact hb
 ·exact ha
mutual
theorem TyE.ft_z (types : List DataD) (vs : List (List UInt8)) : ∀ (t : TyE), (t.ft types vs).1 = 0 → t.ft types vs = (0, 0)
  | .mk k n p ks => by
    have := TyE.ftL_z types vs ks
    rw [TyE.ft]
    split
    · split
      · simp
      · simp
    · split
      · exact this
      · split
        · simp
        · split
          · exact this
          · simp
theorem TyE.ftL_z (types : List DataD) (vs : List (List UInt8)) : ∀ (l : List TyE), (TyE.ftL types vs l).1 = 0 → TyE.ftL types vs l = (0, 0)
  | [] => by simp [TyE.ftL]
  | t :: l => by
    rw [TyE.ftL]
    exact firstF_zz (TyE.ft_z types vs t) (TyE.ftL_z types vs l)
end
theorem firstF_r {a:Ft} (h:a.1=0→a=(0,0)):firstF a (0,0)=a:=by
 unfold firstF
 split
 ·rename_i e; exact (h e).symm
 ·rfl
theorem ftL_step {types : List DataD} {vs : List (List UInt8)} {l : List TyE} {x : Nat} (h : x < l.length) : TyE.ftL types vs (l.take (x + 1)) = firstF (TyE.ftL types vs (l.take x)) (l[x].ft types vs) := by
  induction l generalizing x with
  | nil => simp at h
  | cons t l ih =>
    cases x with
    | zero =>
      simp only [List.take_succ_cons, List.take_zero, TyE.ftL, List.getElem_cons_zero, firstF_z]
      exact firstF_r (TyE.ft_z types vs t)
    | succ x =>
      simp only [List.take_succ_cons, TyE.ftL, List.getElem_cons_succ]
      rw [ih (by simpa using h), firstF_assoc]
theorem set_app {H G:List AO} {j:Nat} {o:AO} (h:j<H.length):(H++G).set j o=H.set j o++G:=List.set_append_left _ _ h
theorem own_setVar {H:List AO} {a:AV} {sz:Nat} {rs:List (List AV)} {lo hi j:Nat} {cs:List AV} {o:AO} (h:OwnAt H a sz rs lo hi) (hj:H[j]?=some (.var cs)):OwnAt (H.set j o) a sz rs lo hi:=by
 rcases h with h | ⟨id,ver,h0,h1,h2,h3⟩
 ·exact .inl h
 ·refine .inr ⟨id,ver,h0,h1,h2,?_⟩
  rw [List.getElem?_set_ne (by rintro rfl; rw [h3] at hj; cases hj)]
  exact h3
theorem own_ne {H:List AO} {a:AV} {sz:Nat} {rs:List (List AV)} {lo hi i:Nat} {cs:List AV} (h:OwnAt H a sz rs lo hi) (hi':H[i]?=some (.var cs)):∀ v o n,a≠.gs i v o n:=by
 rintro v o n rfl
 rcases h with ⟨h,_⟩ | ⟨id,ver,h0,h1,h2,h3⟩
 ·cases h
 ·cases h2; rw [h3] at hi'; cases hi'
theorem own_lo {H:List AO} {a:AV} {sz:Nat} {rs:List (List AV)} {lo hi i:Nat} (h:OwnAt H a sz rs lo hi) (hi':i<lo):∀ v o n,a≠.gs i v o n:=by
 rintro v o n rfl
 rcases h with ⟨h,_⟩ | ⟨id,ver,h0,h1,h2,h3⟩
 ·cases h
 ·cases h2; omega
theorem pre_of {A H:List AO} (h:∀ (i:Nat) o,A[i]?=some o→H[i]?=some o):∃ G,H=A++G:=by
 refine ⟨H.drop A.length,?_⟩
 have:A=H.take A.length:=by
  apply List.ext_getElem?
  intro i
  rw [List.getElem?_take]
  split
  ·rename_i hl; rw [List.getElem?_eq_getElem hl]; exact (h i _ (List.getElem?_eq_getElem hl)).symm
  ·rename_i hl; exact List.getElem?_eq_none (by omega)
 rw [show A++H.drop A.length=H.take A.length++H.drop A.length by rw [← this],List.take_append_drop]
theorem set_far2 {A X:List AO} {i:Nat} (h:∃ G,X=A++G) (hi:A.length≤i) (o:AO):∃ G,X.set i o=A++G:=set_far h hi o
end Go.Proofs.YtnelfbcgplooiaaGreat.Pg
/- The program's maker of tables: datatypes. -/
set_option linter.all false
namespace Go.Proofs.YtnelfbcgplooiaaGreat.Pg
open Go.AM Mc
def nmR (l:List (List UInt8)):List (List AV):=l.map fun s=>[.p (.s s)]
theorem nmR_eq (l:List (List UInt8)):(namesC l).map (fun y=>y.map AV.p)=nmR l:=by
 unfold namesC nmR; rw [List.map_map]; rfl
theorem nmR_app (l k):nmR (l++k)=nmR l++nmR k:=List.map_append
theorem containsO {l:List (List UInt8)} {s:List UInt8} {H:List AO} {a:AV} (h:OwnR H a 1 (nmR l)):ACall Tryz.prog 33 [a,.p (.s s)] H (pureQ (.p (.b (decide (s∈l)))) H):=by
 rw [← nmR_eq] at h
 rcases h with ⟨rfl,h⟩ | ⟨id,ver,rfl,h⟩
 ·have:l=[]:=by unfold namesC at h; simpa using h
  subst this
  exact acall_lendP (containsC [] s) (grnd_b _) (lentAll_cons .nl (lentAll_cons (.pure _) (lentAll_nil _)))
 ·rw [List.length_map,namesC_len]
  exact containsG h
structure MkS (g:ProgD) (H0 H:List AO) (j:Nat) (a0 a:AV) (seen:List (List UInt8)) (f:Ft):Prop where
 hj:j<H0.length
 mkr:H[j]?=some (tmO g a f)
 own:OwnR H a 1 (nmR seen)
 len:H0.length≤H.length
 keep:∀ (i:Nat) o,H0[i]?=some o→i≠j→(∀ v q n,a0≠.gs i v q n)→H[i]?=some o
 id:∀ id v q n,a=.gs id v q n→H0.length≤id∨∃ v' q' n',a0=.gs id v' q' n'
 z:Fz f
theorem tmO_ne {g:ProgD} {a:AV} {f:Ft} {H:List AO} {j sz:Nat} {rs:List (List AV)} (h:H[j]?=some (tmO g a f)) (ho:OwnR H a sz rs):∀ id v q n,a=.gs id v q n→id≠j:=by
 rintro id v q n rfl rfl
 rcases ho with ⟨h1,_⟩ | ⟨i,ver,h1,h2⟩
 ·cases h1
 ·cases h1; rw [h2] at h; cases h
theorem ownR_keep {H H':List AO} {a:AV} {sz:Nat} {rs:List (List AV)} (h:OwnR H a sz rs) (hk:∀ id v q n,a=.gs id v q n→∀ o,H[id]?=some o→H'[id]?=some o):OwnR H' a sz rs:=by
 rcases h with h | ⟨id,ver,rfl,h⟩
 ·exact .inl h
 ·exact .inr ⟨id,ver,rfl,hk _ _ _ _ rfl _ h⟩
variable {g:ProgD} {H0 H H':List AO} {j:Nat} {a0 a:AV} {seen:List (List UInt8)} {f f':Ft}
theorem MkS.refl (hj:H[j]?=some (tmO g a f)) (ho:OwnR H a 1 (nmR seen)) (hz:Fz f):MkS g H H j a a seen f :=
 ⟨get_lt hj,hj,ho,Nat.le_refl _,fun _ _ h _ _=>h,fun _ _ _ _ h=>.inr ⟨_,_,_,h⟩,hz⟩
theorem MkS.step (h:MkS g H0 H j a0 a seen f) (P:Nat→Prop) (hk:∀ (i:Nat) o,H[i]?=some o→P i→H'[i]?=some o) (hP:∀ i,i<H0.length→P i) (ha:∀ id v q n,a=.gs id v q n→P id) (hl:H.length≤H'.length):MkS g H0 H' j a0 a seen f :=
 ⟨h.hj,hk _ _ h.mkr (hP _ h.hj),ownR_keep h.own fun id v q n e o ho=>hk _ _ ho (ha _ _ _ _ e),Nat.le_trans h.len hl,fun i o hi hne hna=>hk _ _ (h.keep i o hi hne hna) (hP _ (get_lt hi)),h.id,h.z⟩
theorem MkS.ext (h:MkS g H0 H j a0 a seen f) (A:List AO):MkS g H0 (H++A) j a0 a seen f :=
 h.step (fun _=>True) (fun i o hi _=>get_ext hi A) (fun _ _=>trivial) (fun _ _ _ _ _=>trivial) (by simp)
theorem MkS.setV (h:MkS g H0 H j a0 a seen f) {i:Nat} {cs:List AV} (hi:H0.length≤i) (hv:H[i]?=some (.var cs)) (o:AO):MkS g H0 (H.set i o) j a0 a seen f :=
 h.step (fun k=>k≠i) (fun k o hk hne=>get_set hk (Ne.symm hne)) (fun k hk=>by omega) (fun id v q n e hx=>by
  subst hx; subst e
  rcases h.own with ⟨h1,_⟩ | ⟨i',ver,h1,h2⟩
  ·cases h1
  ·cases h1; rw [h2] at hv; cases hv) (by simp)
theorem MkS.fail (h:MkS g H0 H j a0 a seen f) (hz:Fz f'):MkS g H0 (H.set j (tmO g a f')) j a0 a seen f' :=
 ⟨h.hj,set_get h.mkr,ownR_keep h.own fun id v q n e o ho=>get_set ho (Ne.symm (tmO_ne h.mkr h.own _ _ _ _ e)),by simpa using h.len,fun i o hi hne hna=>get_set (h.keep i o hi hne hna) (Ne.symm hne),h.id,hz⟩
theorem MkS.trans {H1:List AO} {a1:AV} {seen1:List (List UInt8)} {f1:Ft} (h:MkS g H0 H1 j a0 a1 seen1 f1) (h2:MkS g H1 H' j a1 a seen f):MkS g H0 H' j a0 a seen f :=
 ⟨h.hj,h2.mkr,h2.own,Nat.le_trans h.len h2.len,fun i o hi hne hna=>h2.keep i o (h.keep i o hi hne hna) hne (fun v q n e=>by
  rcases h.id i v q n e with h3 | ⟨v',q',n',h3⟩
  ·have:=get_lt hi; omega
  ·exact hna _ _ _ h3),fun id v q n e=>by
  rcases h2.id id v q n e with h3 | ⟨v',q',n',h3⟩
  ·have:=h.len; exact .inl (by omega)
  ·exact h.id _ _ _ _ h3,h2.z⟩
def Sep (a b:AV):Prop:=∀ id v q n v' q' n',a=.gs id v q n→b≠.gs id v' q' n'
def rawC (vs:List (List UInt8)) (c:CtorD):List PV:=[.s c.name,.b c.has]++(if c.has then (c.arg.ty vs).cells else [.i .i64 0,.i .i64 0,.s [],.nl])
theorem rawC_len (vs:List (List UInt8)) (c:CtorD):(rawC vs c).length=6:=by
 obtain ⟨cn,ch,t,cp⟩:=c
 cases ch
 ·rfl
 ·show ([PV.s cn,.b true]++(t.ty vs).cells).length=6
  rw [List.length_append,TyD.cells_len]; rfl
theorem own_up {H:List AO} {a:AV} {sz:Nat} {rs:List (List AV)} {lo:Nat} (h:OwnAt H a sz rs lo H.length) (A:List AO):OwnAt (H++A) a sz rs lo (H.length+A.length):=by
 rcases h with h | ⟨id,ver,h0,h1,h2,h3⟩
 ·exact .inl h
 ·exact .inr ⟨id,ver,h0,by omega,h2,get_ext h3 A⟩
theorem app_drwG {J:PK} {L T:En} {H N:List AO} {d:MD} {sz bytes id ver:Nat} {rs ys:List (List AV)} (hid:H[id]?=some (.rows sz ver rs))
  (hb:(rs.length+ys.length) * bytes≤140737488355328) (hl:rs.length+ys.length≤140737488355328)
  (k:J (H.set id (.rows sz (ver+1) (rs++ys))) ⟨(St.put ⟨L,T,H.set id (.rows sz (ver+1) (rs++ys))⟩ d (.gs id (ver+1) 0 (rs.length+ys.length))).L,(St.put ⟨L,T,H.set id (.rows sz (ver+1) (rs++ys))⟩ d (.gs id (ver+1) 0 (rs.length+ys.length))).T,N⟩) :
  appX sz bytes (.gs id ver 0 rs.length) ys d (effK (H.set id .dead) H N J) ⟨L,T,H⟩:=by
 show appR sz bytes id ver 0 rs.length ys d _ ⟨L,T,H⟩ H[id]?
 rw [hid]
 refine ⟨rfl,rfl,rfl,Nat.le_refl _,hb,hl,?_⟩
 rw [List.take_length]
 cases d <;> exact ⟨List.length_set,hext_dead _ _ _,k⟩
theorem ownAt_keep {H H':List AO} {a:AV} {sz lo hi hi':Nat} {rs:List (List AV)} (h:OwnAt H a sz rs lo hi) (hk:∀ id v q n,a=.gs id v q n→∀ o,H[id]?=some o→H'[id]?=some o) (hl:hi≤hi'):OwnAt H' a sz rs lo hi':=by
 rcases h with h | ⟨id,ver,h0,h1,rfl,h⟩
 ·exact .inl h
 ·exact .inr ⟨id,ver,h0,by omega,rfl,hk _ _ _ _ rfl _ h⟩
theorem own_lt {H:List AO} {a:AV} {sz:Nat} {rs:List (List AV)} (h:OwnR H a sz rs):∀ id v q n,a=.gs id v q n→id<H.length:=by
 rintro id v q n rfl
 rcases h with ⟨h1,_⟩ | ⟨i,ver,h1,h2⟩
 ·cases h1
 ·cases h1; exact get_lt h2
theorem own_ltAt {H:List AO} {a:AV} {sz lo hi:Nat} {rs:List (List AV)} (h:OwnAt H a sz rs lo hi):∀ id v q n,a=.gs id v q n→id<hi:=by
 rintro id v q n rfl
 rcases h with ⟨h1,_⟩ | ⟨i,ver,_,h0,h1,h2⟩
 ·cases h1
 ·cases h1; exact h0
theorem MkS.name (h:MkS g H0 H j a0 a seen f) {X:List AO} {id ver:Nat} {s:List UInt8} (hk:∀ (i:Nat) o,H[i]?=some o→(∀ v q n,a≠.gs i v q n)→X[i]?=some o) (hx:X[id]?=some (.rows 1 ver (nmR (seen++[s]))))
  (hs:(∃ v o n,a=.gs id v o n)∨H.length≤id) (hl:H.length≤X.length):MkS g H0 (X.set j (tmO g (.gs id ver 0 (seen++[s]).length) f)) j a0 (.gs id ver 0 (seen++[s]).length) (seen++[s]) f:=by
 have haj:∀ v q n,a≠.gs j v q n:=fun v q n e=>tmO_ne h.mkr h.own _ _ _ _ e rfl
 have hij:j≠id:=by
  rintro rfl
  rcases hs with ⟨v,o,n,e⟩ | h'
  ·exact haj _ _ _ e
  ·have:=get_lt h.mkr; omega
 refine ⟨h.hj,set_get (hk _ _ h.mkr haj),.inr ⟨id,ver,by simp [nmR],get_set hx hij⟩,by rw [List.length_set]; exact Nat.le_trans h.len hl,?_,?_,h.z⟩
 ·intro i o hi hne hna
  refine get_set (hk _ _ (h.keep i o hi hne hna) ?_) (Ne.symm hne)
  intro v q n e
  rcases h.id _ _ _ _ e with h' | ⟨_,_,_,h'⟩
  ·have:=get_lt hi; omega
  ·exact hna _ _ _ h'
 ·rintro i v q n e
  cases e
  rcases hs with ⟨_,_,_,e⟩ | h'
  ·exact h.id _ _ _ _ e
  ·exact .inl (Nat.le_trans h.len h')
end Go.Proofs.YtnelfbcgplooiaaGreat.Pg
/- Marks: texts, and slices of texts. -/
set_option linter.all false
namespace Go.Proofs.YtnelfbcgplooiaaGreat.Pg
open Go.AM Mc
theorem markText (k : Int) (hk0 : 0 ≤ k) (hk : k ≤ 1000000000) : ACall Tryz.prog 40 [.p (.i .i64 k)] [] (fun r H => r = .p (.s (textM k))) := by
  refine call40 (by simp) ?_
  simp only [go_sem, reduceIte, ↓reduceIte, sevalprocAttr, Z0, Z1, bytesOf, mc40, mr40]
  by_cases hc' : k ≤ 0
  · simp only [go_sem, reduceIte, ↓reduceIte, sevalprocAttr, Z0, Z1, bytesOf, dT hc']
    simp [textM, hc']
  · simp only [go_sem, reduceIte, ↓reduceIte, sevalprocAttr, Z0, Z1, bytesOf, dF hc']
    refine ⟨Int × List UInt8 × List AO, [0, 2, 3], fun x st => (0 ≤ x.1 ∧ x.1 ≤ 1000000000 ∧ (x.2.1.length : Int) + x.1 ≤ k ∧ (∃ f : Nat, x.1.toNat ≤ f ∧ mdigs f x.1 x.2.1 = mdigs k.toNat k [])) ∧ st = ⟨[(0, .p (.i .i64 x.1)), (2, .p (.s [])), (3, .p (.s x.2.1))], [], x.2.2⟩, fun x => x.1.toNat, ⟨⟨k, [], []⟩, ?_⟩, ?_⟩
    · simp only [go_sem, reduceIte, ↓reduceIte, sevalprocAttr, Z0, Z1, bytesOf]
      exact ⟨hk0, hk, by simp, ⟨_, Nat.le_refl _, rfl⟩⟩
    · rintro ⟨n, s, G⟩ st ⟨⟨h0, h1, h2, ⟨f, hf, hd0⟩⟩, rfl⟩
      simp only at h0 h1 h2 hf hd0
      by_cases hd' : 0 < n
      · have hlen : (n.tdiv 10) < n ∧ 0 ≤ n.tdiv 10 := by
          rw [Int.tdiv_eq_ediv_of_nonneg h0]; omega
        simp only [go_sem, reduceIte, ↓reduceIte, sevalprocAttr, Z0, Z1, bytesOf, dT hd']
        refine ⟨by rw [maxLe]; omega, ?_⟩
        rw [wr64 (n := n.tdiv 10) (by omega) (by omega)]
        refine ⟨⟨n.tdiv 10, mdigit n :: s, _⟩, ⟨⟨hlen.2, by simp only; omega, ?_, ?_⟩, rfl⟩, ?_⟩
        · simp; omega
        · cases f with
          | zero => omega
          | succ f =>
            refine ⟨f, by simp only; omega, ?_⟩
            rw [← hd0, mdigs, if_pos hd']
        · simp; omega
      · have hz : n = 0 := by omega
        subst hz
        rw [mdigs_zero] at hd0
        simp only [go_sem, reduceIte, ↓reduceIte, sevalprocAttr, Z0, Z1, bytesOf]
        refine ⟨by rw [maxLe]; omega, ?_⟩
        rw [textM, if_neg hc', ← hd0]
theorem markTextP (k:Int) (hk0:0≤k) (hk:k≤1000000000) (H:List AO):ACall Tryz.prog 40 [.p (.i .i64 k)] H (pureQ (.p (.s (textM k))) H) :=
 (acall_lend (markText k hk0 hk) (fun r H' hr=>by subst hr; exact grnd_s _) (lentAll_cons (.pure _) (lentAll_nil _))).mono fun r H' ⟨h1,_,h2⟩=>⟨h2,h1⟩
theorem wrK {k:Int} (h0:0≤k) (h:k≤1000000000):wr .i64 (k+1)=k+1:=wr64 (by omega) (by omega)
theorem markStringS (l:List (List UInt8)):MarkC Tryz.prog 74 1 (l.map fun s=>[.p (.s s)]):=by
 have sh:∀ r∈l.map (fun s=>[TV.p (.s s)]),∃ s,r=[TV.p (.s s)]:=fun r hr=>by obtain ⟨s,_,rfl⟩:=List.mem_map.1 hr; exact ⟨s,rfl⟩
 generalize l.map (fun s=>[TV.p (.s s)])=rows at sh
 intro H a ids k hO hN hk0 hk hn
 refine call74 (by simp) ?_
 have hO':=hO
 rw [Own] at hO'
 rcases hO' with ⟨rfl,rfl,rfl⟩ | ⟨id,ver,rs,js,rfl,rfl,h1,h2⟩
 ·simp only [go_sem,reduceIte,↓reduceIte,sevalprocAttr,Z0,Z1,bytesOf,mc74,mr74]
  refine ⟨Unit,[0,1,4,5],fun _ st=>st=⟨[(0,.p .nl),(1,.p (.i .i64 k)),(4,.p (.i .i64 0)),(5,.p (.i .i64 0))],[],H⟩,fun _=>0,⟨(),rfl⟩,?_⟩
  rintro _ _ rfl
  simp only [go_sem,reduceIte,↓reduceIte,sevalprocAttr,Z0,Z1,bytesOf]
  refine ⟨by simp [mcR],?_,fun i _=>trivial⟩
  rw [mkR]; exact hO
 ·have hlen:=h2.len
  generalize rs.length=N at hO hlen ⊢
  clear h1 h2
  subst hlen
  simp only [go_sem,reduceIte,↓reduceIte,sevalprocAttr,Z0,Z1,bytesOf,mc74,mr74]
  refine ⟨Nat × List AO,[0,1,4,5],fun x st=>(x.1≤rows.length∧MkI H x.2 1 id ver rows.length ((mkR (rows.take x.1) k).1++rows.drop x.1) (id :: js))∧st=⟨[(0,.gs id ver 0 rows.length),(1,.p (.i .i64 (k+mcR (rows.take x.1)))),(4,.p (.i .i64 0)),(5,.p (.i .i64 x.1))],[],x.2⟩,fun x=>rows.length - x.1,⟨(0,H),?_⟩,?_⟩
  ·simp only [go_sem,reduceIte,↓reduceIte,sevalprocAttr,Z0,Z1,bytesOf,List.take_zero,List.drop_zero,mkR,mcR]
   exact ⟨⟨Nat.zero_le _,hO,hN,rfl,fun _ _=>rfl⟩,by simp⟩
  ·rintro ⟨x,HG⟩ _ ⟨⟨hx,M⟩,rfl⟩
   simp only at hx M
   by_cases hlt:x<rows.length
   ·have d1:decide ((x:Int)<(rows.length:Int))=true:=by simp; omega
    have hlt':((x:Int)<(rows.length:Int)):=by omega
    have hX:=mk_row hlt k
    have hE:=mk_rows hlt k
    have hS:=mcR_step rows x hlt
    have hB:=mcR_take rows (x+1)
    obtain ⟨s0,hs⟩:=sh rows[x] (List.getElem_mem hlt)
    rw [hs] at hX hE hS
    have hK0:0≤k+(mcR (rows.take x):Int):=by omega
    generalize hkx:k+(mcR (rows.take x):Int)=kx at hE hK0 ⊢
    generalize (mkR (rows.take x) k).1++rows.drop x=R0 at hX hE M
    simp only [mcC,mcT] at hS
    simp only [go_sem,reduceIte,↓reduceIte,sevalprocAttr,Z0,Z1,bytesOf,d1]
    intro hml
    refine acall_pure (markTextP _ (by omega) (by omega) _) ?_
    obtain ⟨rs1,H1,q1,e1,M1,hX1⟩:=mk_sto M hX (c:=0) rfl (.s (textM kx))
    simp only [go_sem,reduceIte,↓reduceIte,sevalprocAttr,Z0,Z1,bytesOf,q1]
    refine ⟨hlt',?_⟩
    rw [e1]
    simp only [go_sem,reduceIte,↓reduceIte,sevalprocAttr,Z0,Z1,bytesOf,wrK (k:=kx) (by omega) (by omega)]
    have ew:=wrN x (by rw [maxLe] at hml; omega)
    simp only [go_sem,reduceIte,↓reduceIte,sevalprocAttr,Z0,Z1,bytesOf,ew]
    refine ⟨(x+1,H1),⟨⟨by simp only; omega,?_⟩,?_⟩,by simp only; omega⟩
    ·simp only
     rw [← hE]
     exact M1
    ·simp only
     rw [hS]
     simp
     omega
   ·have hx':x=rows.length:=by omega
    subst hx'
    have d1:decide ((rows.length:Int)<(rows.length:Int))=false:=by simp
    rw [List.take_length,List.drop_length,List.append_nil] at M
    simp only [go_sem,reduceIte,↓reduceIte,sevalprocAttr,Z0,Z1,bytesOf,d1,List.take_length]
    intro _
    exact ⟨M.len,M.own,M.fr⟩
end Go.Proofs.YtnelfbcgplooiaaGreat.Pg
/- Marks of slices (printed by wip/tools/genmark.py). -/
set_option linter.all false
namespace Go.Proofs.YtnelfbcgplooiaaGreat.Pg
open Go.AM Mc
theorem len3 {r:List AV} (h:r.length=3):∃ a b c,r=[a,b,c]:=by match r,h with | [a,b,c],_=>exact ⟨_,_,_,rfl⟩
theorem len4 {r:List AV} (h:r.length=4):∃ a b c d,r=[a,b,c,d]:=by match r,h with | [a,b,c,d],_=>exact ⟨_,_,_,_,rfl⟩
theorem len5 {r:List AV} (h:r.length=5):∃ a b c d e,r=[a,b,c,d,e]:=by match r,h with | [a,b,c,d,e],_=>exact ⟨_,_,_,_,_,rfl⟩
theorem len6 {r:List AV} (h:r.length=6):∃ a b c d e f,r=[a,b,c,d,e,f]:=by match r,h with | [a,b,c,d,e,f],_=>exact ⟨_,_,_,_,_,_,rfl⟩
theorem len7 {r:List AV} (h:r.length=7):∃ a b c d e f g,r=[a,b,c,d,e,f,g]:=by match r,h with | [a,b,c,d,e,f,g],_=>exact ⟨_,_,_,_,_,_,_,rfl⟩
theorem len12 {r:List AV} (h:r.length=12):∃ a b c d e f g h i j k l,r=[a,b,c,d,e,f,g,h,i,j,k,l]:=by match r,h with | [a,b,c,d,e,f,g,h,i,j,k,l],_=>exact ⟨_,_,_,_,_,_,_,_,_,_,_,_,rfl⟩
theorem mark_TypeExpS {rows:List (List TV)} (sh:∀ r∈rows,∃ (v0:Int) (v1:List UInt8) (v2:Int) (v3:List (List TV)),r=([.p (.i .i64 v0),.p (.s v1),.p (.i .i64 v2),.s 4 v3]:List TV)∧(MarkC Tryz.prog 111 4 v3∧v3.length≤1048576)):MarkC Tryz.prog 111 4 rows:=by
 intro H a ids k hO hN hk0 hk hn
 refine call111 (by simp) ?_
 have hO':=hO
 rw [Own] at hO'
 rcases hO' with ⟨rfl,rfl,rfl⟩ | ⟨id,ver,rs,js,rfl,rfl,h1,h2⟩
 ·simp only [go_sem,reduceIte,↓reduceIte,sevalprocAttr,Z0,Z1,bytesOf,mc111,mr111]
  refine ⟨Unit,[0,1,4,5],fun _ st=>st=⟨[(0,.p .nl),(1,.p (.i .i64 k)),(4,.p (.i .i64 0)),(5,.p (.i .i64 0))],[],H⟩,fun _=>0,⟨(),rfl⟩,?_⟩
  rintro _ _ rfl
  simp only [go_sem,reduceIte,↓reduceIte,sevalprocAttr,Z0,Z1,bytesOf]
  refine ⟨by simp [mcR],?_,fun i _=>trivial⟩
  rw [mkR]; exact hO
 ·have hlen:=h2.len
  generalize rs.length=N at hO hlen ⊢
  clear h1 h2
  subst hlen
  simp only [go_sem,reduceIte,↓reduceIte,sevalprocAttr,Z0,Z1,bytesOf,mc111,mr111]
  refine ⟨Nat × List AO,[0,1,4,5],fun x st=>(x.1≤rows.length∧MkI H x.2 4 id ver rows.length ((mkR (rows.take x.1) k).1++rows.drop x.1) (id :: js))∧st=⟨[(0,.gs id ver 0 rows.length),(1,.p (.i .i64 (k+mcR (rows.take x.1)))),(4,.p (.i .i64 0)),(5,.p (.i .i64 x.1))],[],x.2⟩,fun x=>rows.length - x.1,⟨(0,H),?_⟩,?_⟩
  ·simp only [go_sem,reduceIte,↓reduceIte,sevalprocAttr,Z0,Z1,bytesOf,List.take_zero,List.drop_zero,mkR,mcR]
   exact ⟨⟨Nat.zero_le _,hO,hN,rfl,fun _ _=>rfl⟩,by simp⟩
  ·rintro ⟨x,H0'⟩ _ ⟨⟨hx,M0⟩,rfl⟩
   simp only at hx M0
   by_cases hlt:x<rows.length
   ·have d1:decide ((x:Int)<(rows.length:Int))=true:=by simp; omega
    have hlt':((x:Int)<(rows.length:Int)):=by omega
    have X0:=mk_row hlt k
    have hE:=mk_rows hlt k
    have hS:=mcR_step rows x hlt
    have hB:=mcR_take rows (x+1)
    have hK0:0≤k+(mcR (rows.take x):Int):=by omega
    have ew:=wrN x (by omega)
    obtain ⟨v0,v1,v2,v3,hs,⟨m3,n3⟩⟩:=sh rows[x] (List.getElem_mem hlt)
    rw [hs] at X0 hE hS
    generalize hkx:k+(mcR (rows.take x):Int)=kx at hE hK0 ⊢
    generalize (mkR (rows.take x) k).1++rows.drop x=R0 at X0 hE M0
    simp only [mcC,mcT] at hS
    simp only [go_sem,reduceIte,↓reduceIte,sevalprocAttr,Z0,Z1,bytesOf,d1]
    intro hml
    obtain ⟨rs0,Hn0,q0,e0,M1,X1⟩:=mk_sto M0 X0 (c:=0) rfl (.i .i64 (kx))
    simp only [go_sem,reduceIte,↓reduceIte,sevalprocAttr,Z0,Z1,bytesOf,q0]
    refine ⟨hlt',?_⟩
    rw [e0]
    simp only [go_sem,reduceIte,↓reduceIte,sevalprocAttr,Z0,Z1,bytesOf,wrK (k:=kx) (by omega) (by omega)]
    refine acall_pure (markTextP (kx+1) (by omega) (by omega) _) ?_
    obtain ⟨rs1,Hn1,q1,e1,M2,X2⟩:=mk_sto M1 X1 (c:=1) rfl (.s (textM (kx+1)))
    simp only [go_sem,reduceIte,↓reduceIte,sevalprocAttr,Z0,Z1,bytesOf,q1]
    refine ⟨hlt',?_⟩
    rw [e1]
    simp only [go_sem,reduceIte,↓reduceIte,sevalprocAttr,Z0,Z1,bytesOf,wrK (k:=kx+1) (by omega) (by omega)]
    obtain ⟨rs2,Hn2,q2,e2,M3,X3⟩:=mk_sto M2 X2 (c:=2) rfl (.i .i64 (kx+1+1))
    simp only [go_sem,reduceIte,↓reduceIte,sevalprocAttr,Z0,Z1,bytesOf,q2]
    refine ⟨hlt',?_⟩
    rw [e2]
    simp only [go_sem,reduceIte,↓reduceIte,sevalprocAttr,Z0,Z1,bytesOf,wrK (k:=kx+1+1) (by omega) (by omega)]
    obtain ⟨rs3,r3,kv3,js3,q3,qr3,ql3,qc3,qo3,qn3,put3⟩:=mk_call M3 X3 (c:=3) rfl
    obtain ⟨r3_0,r3_1,r3_2,r3_3,rfl⟩:=len4 ql3
    obtain rfl:r3_3=kv3:=by simpa using qc3
    simp only [go_sem,reduceIte,↓reduceIte,sevalprocAttr,Z0,Z1,bytesOf,q3,qr3]
    refine ⟨hlt',?_⟩
    refine (m3 _ _ _ (kx+1+1+1) qo3 qn3 (by omega) (by omega) n3).mono ?_
    rintro _ Hn3 ⟨rfl,hl3,ho3,hf3⟩
    obtain ⟨M4,X4⟩:=put3 Hn3 _ hl3 ho3 hf3
    simp only [go_sem,reduceIte,↓reduceIte,sevalprocAttr,Z0,Z1,bytesOf]
    simp only [go_sem,reduceIte,↓reduceIte,sevalprocAttr,Z0,Z1,bytesOf,ew]
    refine ⟨(x+1,Hn3),⟨⟨by simp only; omega,?_⟩,?_⟩,by simp only; omega⟩
    ·simp only
     rw [← hE]
     simp only [List.set_set,List.set_cons_zero,List.set_cons_succ] at M4
     simpa only [mkC,mkT,mkR_cnt] using M4
    ·simp only
     rw [hS]
     simp
     omega
   ·have hx':x=rows.length:=by omega
    subst hx'
    have d1:decide ((rows.length:Int)<(rows.length:Int))=false:=by simp
    rw [List.take_length,List.drop_length,List.append_nil] at M0
    simp only [go_sem,reduceIte,↓reduceIte,sevalprocAttr,Z0,Z1,bytesOf,d1,List.take_length]
    intro _
    exact ⟨M0.len,M0.own,M0.fr⟩
theorem mark_PatS {rows:List (List TV)} (sh:∀ r∈rows,∃ (v0:Int) (v1:List UInt8) (v2:Int) (v3:Int) (v4:List (List TV)),r=([.p (.i .i64 v0),.p (.s v1),.p (.i .i64 v2),.p (.i .i64 v3),.s 5 v4]:List TV)∧(MarkC Tryz.prog 112 5 v4∧v4.length≤1048576)):MarkC Tryz.prog 112 5 rows:=by
 intro H a ids k hO hN hk0 hk hn
 refine call112 (by simp) ?_
 have hO':=hO
 rw [Own] at hO'
 rcases hO' with ⟨rfl,rfl,rfl⟩ | ⟨id,ver,rs,js,rfl,rfl,h1,h2⟩
 ·simp only [go_sem,reduceIte,↓reduceIte,sevalprocAttr,Z0,Z1,bytesOf,mc112,mr112]
  refine ⟨Unit,[0,1,4,5],fun _ st=>st=⟨[(0,.p .nl),(1,.p (.i .i64 k)),(4,.p (.i .i64 0)),(5,.p (.i .i64 0))],[],H⟩,fun _=>0,⟨(),rfl⟩,?_⟩
  rintro _ _ rfl
  simp only [go_sem,reduceIte,↓reduceIte,sevalprocAttr,Z0,Z1,bytesOf]
  refine ⟨by simp [mcR],?_,fun i _=>trivial⟩
  rw [mkR]; exact hO
 ·have hlen:=h2.len
  generalize rs.length=N at hO hlen ⊢
  clear h1 h2
  subst hlen
  simp only [go_sem,reduceIte,↓reduceIte,sevalprocAttr,Z0,Z1,bytesOf,mc112,mr112]
  refine ⟨Nat × List AO,[0,1,4,5],fun x st=>(x.1≤rows.length∧MkI H x.2 5 id ver rows.length ((mkR (rows.take x.1) k).1++rows.drop x.1) (id :: js))∧st=⟨[(0,.gs id ver 0 rows.length),(1,.p (.i .i64 (k+mcR (rows.take x.1)))),(4,.p (.i .i64 0)),(5,.p (.i .i64 x.1))],[],x.2⟩,fun x=>rows.length - x.1,⟨(0,H),?_⟩,?_⟩
  ·simp only [go_sem,reduceIte,↓reduceIte,sevalprocAttr,Z0,Z1,bytesOf,List.take_zero,List.drop_zero,mkR,mcR]
   exact ⟨⟨Nat.zero_le _,hO,hN,rfl,fun _ _=>rfl⟩,by simp⟩
  ·rintro ⟨x,H0'⟩ _ ⟨⟨hx,M0⟩,rfl⟩
   simp only at hx M0
   by_cases hlt:x<rows.length
   ·have d1:decide ((x:Int)<(rows.length:Int))=true:=by simp; omega
    have hlt':((x:Int)<(rows.length:Int)):=by omega
    have X0:=mk_row hlt k
    have hE:=mk_rows hlt k
    have hS:=mcR_step rows x hlt
    have hB:=mcR_take rows (x+1)
    have hK0:0≤k+(mcR (rows.take x):Int):=by omega
    have ew:=wrN x (by omega)
    obtain ⟨v0,v1,v2,v3,v4,hs,⟨m4,n4⟩⟩:=sh rows[x] (List.getElem_mem hlt)
    rw [hs] at X0 hE hS
    generalize hkx:k+(mcR (rows.take x):Int)=kx at hE hK0 ⊢
    generalize (mkR (rows.take x) k).1++rows.drop x=R0 at X0 hE M0
    simp only [mcC,mcT] at hS
    simp only [go_sem,reduceIte,↓reduceIte,sevalprocAttr,Z0,Z1,bytesOf,d1]
    intro hml
    obtain ⟨rs0,Hn0,q0,e0,M1,X1⟩:=mk_sto M0 X0 (c:=0) rfl (.i .i64 (kx))
    simp only [go_sem,reduceIte,↓reduceIte,sevalprocAttr,Z0,Z1,bytesOf,q0]
    refine ⟨hlt',?_⟩
    rw [e0]
    simp only [go_sem,reduceIte,↓reduceIte,sevalprocAttr,Z0,Z1,bytesOf,wrK (k:=kx) (by omega) (by omega)]
    refine acall_pure (markTextP (kx+1) (by omega) (by omega) _) ?_
    obtain ⟨rs1,Hn1,q1,e1,M2,X2⟩:=mk_sto M1 X1 (c:=1) rfl (.s (textM (kx+1)))
    simp only [go_sem,reduceIte,↓reduceIte,sevalprocAttr,Z0,Z1,bytesOf,q1]
    refine ⟨hlt',?_⟩
    rw [e1]
    simp only [go_sem,reduceIte,↓reduceIte,sevalprocAttr,Z0,Z1,bytesOf,wrK (k:=kx+1) (by omega) (by omega)]
    obtain ⟨rs2,Hn2,q2,e2,M3,X3⟩:=mk_sto M2 X2 (c:=2) rfl (.i .i64 (kx+1+1))
    simp only [go_sem,reduceIte,↓reduceIte,sevalprocAttr,Z0,Z1,bytesOf,q2]
    refine ⟨hlt',?_⟩
    rw [e2]
    simp only [go_sem,reduceIte,↓reduceIte,sevalprocAttr,Z0,Z1,bytesOf,wrK (k:=kx+1+1) (by omega) (by omega)]
    obtain ⟨rs3,Hn3,q3,e3,M4,X4⟩:=mk_sto M3 X3 (c:=3) rfl (.i .i64 (kx+1+1+1))
    simp only [go_sem,reduceIte,↓reduceIte,sevalprocAttr,Z0,Z1,bytesOf,q3]
    refine ⟨hlt',?_⟩
    rw [e3]
    simp only [go_sem,reduceIte,↓reduceIte,sevalprocAttr,Z0,Z1,bytesOf,wrK (k:=kx+1+1+1) (by omega) (by omega)]
    obtain ⟨rs4,r4,kv4,js4,q4,qr4,ql4,qc4,qo4,qn4,put4⟩:=mk_call M4 X4 (c:=4) rfl
    obtain ⟨r4_0,r4_1,r4_2,r4_3,r4_4,rfl⟩:=len5 ql4
    obtain rfl:r4_4=kv4:=by simpa using qc4
    simp only [go_sem,reduceIte,↓reduceIte,sevalprocAttr,Z0,Z1,bytesOf,q4,qr4]
    refine ⟨hlt',?_⟩
    refine (m4 _ _ _ (kx+1+1+1+1) qo4 qn4 (by omega) (by omega) n4).mono ?_
    rintro _ Hn4 ⟨rfl,hl4,ho4,hf4⟩
    obtain ⟨M5,X5⟩:=put4 Hn4 _ hl4 ho4 hf4
    simp only [go_sem,reduceIte,↓reduceIte,sevalprocAttr,Z0,Z1,bytesOf]
    simp only [go_sem,reduceIte,↓reduceIte,sevalprocAttr,Z0,Z1,bytesOf,ew]
    refine ⟨(x+1,Hn4),⟨⟨by simp only; omega,?_⟩,?_⟩,by simp only; omega⟩
    ·simp only
     rw [← hE]
     simp only [List.set_set,List.set_cons_zero,List.set_cons_succ] at M5
     simpa only [mkC,mkT,mkR_cnt] using M5
    ·simp only
     rw [hS]
     simp
     omega
   ·have hx':x=rows.length:=by omega
    subst hx'
    have d1:decide ((rows.length:Int)<(rows.length:Int))=false:=by simp
    rw [List.take_length,List.drop_length,List.append_nil] at M0
    simp only [go_sem,reduceIte,↓reduceIte,sevalprocAttr,Z0,Z1,bytesOf,d1,List.take_length]
    intro _
    exact ⟨M0.len,M0.own,M0.fr⟩
theorem mark_ExpS {rows:List (List TV)} (sh:∀ r∈rows,∃ (v0:Int) (v1:List UInt8) (v2:Int) (v3:List UInt8) (v4:Int) (v5:List (List TV)) (v6:List (List TV)),r=([.p (.i .i64 v0),.p (.s v1),.p (.i .i64 v2),.p (.s v3),.p (.i .i64 v4),.s 7 v5,.s 12 v6]:List TV)∧(MarkC Tryz.prog 76 7 v5∧v5.length≤1048576)∧(MarkC Tryz.prog 77 12 v6∧v6.length≤1048576)):MarkC Tryz.prog 76 7 rows:=by
 intro H a ids k hO hN hk0 hk hn
 refine call76 (by simp) ?_
 have hO':=hO
 rw [Own] at hO'
 rcases hO' with ⟨rfl,rfl,rfl⟩ | ⟨id,ver,rs,js,rfl,rfl,h1,h2⟩
 ·simp only [go_sem,reduceIte,↓reduceIte,sevalprocAttr,Z0,Z1,bytesOf,mc76,mr76]
  refine ⟨Unit,[0,1,4,5],fun _ st=>st=⟨[(0,.p .nl),(1,.p (.i .i64 k)),(4,.p (.i .i64 0)),(5,.p (.i .i64 0))],[],H⟩,fun _=>0,⟨(),rfl⟩,?_⟩
  rintro _ _ rfl
  simp only [go_sem,reduceIte,↓reduceIte,sevalprocAttr,Z0,Z1,bytesOf]
  refine ⟨by simp [mcR],?_,fun i _=>trivial⟩
  rw [mkR]; exact hO
 ·have hlen:=h2.len
  generalize rs.length=N at hO hlen ⊢
  clear h1 h2
  subst hlen
  simp only [go_sem,reduceIte,↓reduceIte,sevalprocAttr,Z0,Z1,bytesOf,mc76,mr76]
  refine ⟨Nat × List AO,[0,1,4,5],fun x st=>(x.1≤rows.length∧MkI H x.2 7 id ver rows.length ((mkR (rows.take x.1) k).1++rows.drop x.1) (id :: js))∧st=⟨[(0,.gs id ver 0 rows.length),(1,.p (.i .i64 (k+mcR (rows.take x.1)))),(4,.p (.i .i64 0)),(5,.p (.i .i64 x.1))],[],x.2⟩,fun x=>rows.length - x.1,⟨(0,H),?_⟩,?_⟩
  ·simp only [go_sem,reduceIte,↓reduceIte,sevalprocAttr,Z0,Z1,bytesOf,List.take_zero,List.drop_zero,mkR,mcR]
   exact ⟨⟨Nat.zero_le _,hO,hN,rfl,fun _ _=>rfl⟩,by simp⟩
  ·rintro ⟨x,H0'⟩ _ ⟨⟨hx,M0⟩,rfl⟩
   simp only at hx M0
   by_cases hlt:x<rows.length
   ·have d1:decide ((x:Int)<(rows.length:Int))=true:=by simp; omega
    have hlt':((x:Int)<(rows.length:Int)):=by omega
    have X0:=mk_row hlt k
    have hE:=mk_rows hlt k
    have hS:=mcR_step rows x hlt
    have hB:=mcR_take rows (x+1)
    have hK0:0≤k+(mcR (rows.take x):Int):=by omega
    have ew:=wrN x (by omega)
    obtain ⟨v0,v1,v2,v3,v4,v5,v6,hs,⟨m5,n5⟩,⟨m6,n6⟩⟩:=sh rows[x] (List.getElem_mem hlt)
    rw [hs] at X0 hE hS
    generalize hkx:k+(mcR (rows.take x):Int)=kx at hE hK0 ⊢
    generalize (mkR (rows.take x) k).1++rows.drop x=R0 at X0 hE M0
    simp only [mcC,mcT] at hS
    simp only [go_sem,reduceIte,↓reduceIte,sevalprocAttr,Z0,Z1,bytesOf,d1]
    intro hml
    obtain ⟨rs0,Hn0,q0,e0,M1,X1⟩:=mk_sto M0 X0 (c:=0) rfl (.i .i64 (kx))
    simp only [go_sem,reduceIte,↓reduceIte,sevalprocAttr,Z0,Z1,bytesOf,q0]
    refine ⟨hlt',?_⟩
    rw [e0]
    simp only [go_sem,reduceIte,↓reduceIte,sevalprocAttr,Z0,Z1,bytesOf,wrK (k:=kx) (by omega) (by omega)]
    refine acall_pure (markTextP (kx+1) (by omega) (by omega) _) ?_
    obtain ⟨rs1,Hn1,q1,e1,M2,X2⟩:=mk_sto M1 X1 (c:=1) rfl (.s (textM (kx+1)))
    simp only [go_sem,reduceIte,↓reduceIte,sevalprocAttr,Z0,Z1,bytesOf,q1]
    refine ⟨hlt',?_⟩
    rw [e1]
    simp only [go_sem,reduceIte,↓reduceIte,sevalprocAttr,Z0,Z1,bytesOf,wrK (k:=kx+1) (by omega) (by omega)]
    obtain ⟨rs2,Hn2,q2,e2,M3,X3⟩:=mk_sto M2 X2 (c:=2) rfl (.i .i64 (kx+1+1))
    simp only [go_sem,reduceIte,↓reduceIte,sevalprocAttr,Z0,Z1,bytesOf,q2]
    refine ⟨hlt',?_⟩
    rw [e2]
    simp only [go_sem,reduceIte,↓reduceIte,sevalprocAttr,Z0,Z1,bytesOf,wrK (k:=kx+1+1) (by omega) (by omega)]
    refine acall_pure (markTextP (kx+1+1+1) (by omega) (by omega) _) ?_
    obtain ⟨rs3,Hn3,q3,e3,M4,X4⟩:=mk_sto M3 X3 (c:=3) rfl (.s (textM (kx+1+1+1)))
    simp only [go_sem,reduceIte,↓reduceIte,sevalprocAttr,Z0,Z1,bytesOf,q3]
    refine ⟨hlt',?_⟩
    rw [e3]
    simp only [go_sem,reduceIte,↓reduceIte,sevalprocAttr,Z0,Z1,bytesOf,wrK (k:=kx+1+1+1) (by omega) (by omega)]
    obtain ⟨rs4,Hn4,q4,e4,M5,X5⟩:=mk_sto M4 X4 (c:=4) rfl (.i .i64 (kx+1+1+1+1))
    simp only [go_sem,reduceIte,↓reduceIte,sevalprocAttr,Z0,Z1,bytesOf,q4]
    refine ⟨hlt',?_⟩
    rw [e4]
    simp only [go_sem,reduceIte,↓reduceIte,sevalprocAttr,Z0,Z1,bytesOf,wrK (k:=kx+1+1+1+1) (by omega) (by omega)]
    obtain ⟨rs5,r5,kv5,js5,q5,qr5,ql5,qc5,qo5,qn5,put5⟩:=mk_call M5 X5 (c:=5) rfl
    obtain ⟨r5_0,r5_1,r5_2,r5_3,r5_4,r5_5,r5_6,rfl⟩:=len7 ql5
    obtain rfl:r5_5=kv5:=by simpa using qc5
    simp only [go_sem,reduceIte,↓reduceIte,sevalprocAttr,Z0,Z1,bytesOf,q5,qr5]
    refine ⟨hlt',?_⟩
    refine (m5 _ _ _ (kx+1+1+1+1+1) qo5 qn5 (by omega) (by omega) n5).mono ?_
    rintro _ Hn5 ⟨rfl,hl5,ho5,hf5⟩
    obtain ⟨M6,X6⟩:=put5 Hn5 _ hl5 ho5 hf5
    simp only [go_sem,reduceIte,↓reduceIte,sevalprocAttr,Z0,Z1,bytesOf]
    obtain ⟨rs6,r6,kv6,js6,q6,qr6,ql6,qc6,qo6,qn6,put6⟩:=mk_call M6 X6 (c:=6) rfl
    obtain ⟨r6_0,r6_1,r6_2,r6_3,r6_4,r6_5,r6_6,rfl⟩:=len7 ql6
    obtain rfl:r6_6=kv6:=by simpa using qc6
    simp only [go_sem,reduceIte,↓reduceIte,sevalprocAttr,Z0,Z1,bytesOf,q6,qr6]
    refine ⟨hlt',?_⟩
    refine (m6 _ _ _ (kx+1+1+1+1+1+(mcR v5:Int)) qo6 qn6 (by omega) (by omega) n6).mono ?_
    rintro _ Hn6 ⟨rfl,hl6,ho6,hf6⟩
    obtain ⟨M7,X7⟩:=put6 Hn6 _ hl6 ho6 hf6
    simp only [go_sem,reduceIte,↓reduceIte,sevalprocAttr,Z0,Z1,bytesOf]
    simp only [go_sem,reduceIte,↓reduceIte,sevalprocAttr,Z0,Z1,bytesOf,ew]
    refine ⟨(x+1,Hn6),⟨⟨by simp only; omega,?_⟩,?_⟩,by simp only; omega⟩
    ·simp only
     rw [← hE]
     simp only [List.set_set,List.set_cons_zero,List.set_cons_succ] at M7
     simpa only [mkC,mkT,mkR_cnt] using M7
    ·simp only
     rw [hS]
     simp
     omega
   ·have hx':x=rows.length:=by omega
    subst hx'
    have d1:decide ((rows.length:Int)<(rows.length:Int))=false:=by simp
    rw [List.take_length,List.drop_length,List.append_nil] at M0
    simp only [go_sem,reduceIte,↓reduceIte,sevalprocAttr,Z0,Z1,bytesOf,d1,List.take_length]
    intro _
    exact ⟨M0.len,M0.own,M0.fr⟩
theorem mark_ArmS {rows:List (List TV)} (sh:∀ r∈rows,∃ (v0:Int) (v1:List UInt8) (v2:Int) (v3:Int) (v4:List (List TV)) (v5:Int) (v6:List UInt8) (v7:Int) (v8:List UInt8) (v9:Int) (v10:List (List TV)) (v11:List (List TV)),r=([.p (.i .i64 v0),.p (.s v1),.p (.i .i64 v2),.p (.i .i64 v3),.s 5 v4,.p (.i .i64 v5),.p (.s v6),.p (.i .i64 v7),.p (.s v8),.p (.i .i64 v9),.s 7 v10,.s 12 v11]:List TV)∧(MarkC Tryz.prog 112 5 v4∧v4.length≤1048576)∧(MarkC Tryz.prog 76 7 v10∧v10.length≤1048576)∧(MarkC Tryz.prog 77 12 v11∧v11.length≤1048576)):MarkC Tryz.prog 77 12 rows:=by
 intro H a ids k hO hN hk0 hk hn
 refine call77 (by simp) ?_
 have hO':=hO
 rw [Own] at hO'
 rcases hO' with ⟨rfl,rfl,rfl⟩ | ⟨id,ver,rs,js,rfl,rfl,h1,h2⟩
 ·simp only [go_sem,reduceIte,↓reduceIte,sevalprocAttr,Z0,Z1,bytesOf,mc77,mr77]
  refine ⟨Unit,[0,1,4,5],fun _ st=>st=⟨[(0,.p .nl),(1,.p (.i .i64 k)),(4,.p (.i .i64 0)),(5,.p (.i .i64 0))],[],H⟩,fun _=>0,⟨(),rfl⟩,?_⟩
  rintro _ _ rfl
  simp only [go_sem,reduceIte,↓reduceIte,sevalprocAttr,Z0,Z1,bytesOf]
  refine ⟨by simp [mcR],?_,fun i _=>trivial⟩
  rw [mkR]; exact hO
 ·have hlen:=h2.len
  generalize rs.length=N at hO hlen ⊢
  clear h1 h2
  subst hlen
  simp only [go_sem,reduceIte,↓reduceIte,sevalprocAttr,Z0,Z1,bytesOf,mc77,mr77]
  refine ⟨Nat × List AO,[0,1,4,5],fun x st=>(x.1≤rows.length∧MkI H x.2 12 id ver rows.length ((mkR (rows.take x.1) k).1++rows.drop x.1) (id :: js))∧st=⟨[(0,.gs id ver 0 rows.length),(1,.p (.i .i64 (k+mcR (rows.take x.1)))),(4,.p (.i .i64 0)),(5,.p (.i .i64 x.1))],[],x.2⟩,fun x=>rows.length - x.1,⟨(0,H),?_⟩,?_⟩
  ·simp only [go_sem,reduceIte,↓reduceIte,sevalprocAttr,Z0,Z1,bytesOf,List.take_zero,List.drop_zero,mkR,mcR]
   exact ⟨⟨Nat.zero_le _,hO,hN,rfl,fun _ _=>rfl⟩,by simp⟩
  ·rintro ⟨x,H0'⟩ _ ⟨⟨hx,M0⟩,rfl⟩
   simp only at hx M0
   by_cases hlt:x<rows.length
   ·have d1:decide ((x:Int)<(rows.length:Int))=true:=by simp; omega
    have hlt':((x:Int)<(rows.length:Int)):=by omega
    have X0:=mk_row hlt k
    have hE:=mk_rows hlt k
    have hS:=mcR_step rows x hlt
    have hB:=mcR_take rows (x+1)
    have hK0:0≤k+(mcR (rows.take x):Int):=by omega
    have ew:=wrN x (by omega)
    obtain ⟨v0,v1,v2,v3,v4,v5,v6,v7,v8,v9,v10,v11,hs,⟨m4,n4⟩,⟨m10,n10⟩,⟨m11,n11⟩⟩:=sh rows[x] (List.getElem_mem hlt)
    rw [hs] at X0 hE hS
    generalize hkx:k+(mcR (rows.take x):Int)=kx at hE hK0 ⊢
    generalize (mkR (rows.take x) k).1++rows.drop x=R0 at X0 hE M0
    simp only [mcC,mcT] at hS
    simp only [go_sem,reduceIte,↓reduceIte,sevalprocAttr,Z0,Z1,bytesOf,d1]
    intro hml
    obtain ⟨rs0,Hn0,q0,e0,M1,X1⟩:=mk_sto M0 X0 (c:=0) rfl (.i .i64 (kx))
    simp only [go_sem,reduceIte,↓reduceIte,sevalprocAttr,Z0,Z1,bytesOf,q0]
    refine ⟨hlt',?_⟩
    rw [e0]
    simp only [go_sem,reduceIte,↓reduceIte,sevalprocAttr,Z0,Z1,bytesOf,wrK (k:=kx) (by omega) (by omega)]
    refine acall_pure (markTextP (kx+1) (by omega) (by omega) _) ?_
    obtain ⟨rs1,Hn1,q1,e1,M2,X2⟩:=mk_sto M1 X1 (c:=1) rfl (.s (textM (kx+1)))
    simp only [go_sem,reduceIte,↓reduceIte,sevalprocAttr,Z0,Z1,bytesOf,q1]
    refine ⟨hlt',?_⟩
    rw [e1]
    simp only [go_sem,reduceIte,↓reduceIte,sevalprocAttr,Z0,Z1,bytesOf,wrK (k:=kx+1) (by omega) (by omega)]
    obtain ⟨rs2,Hn2,q2,e2,M3,X3⟩:=mk_sto M2 X2 (c:=2) rfl (.i .i64 (kx+1+1))
    simp only [go_sem,reduceIte,↓reduceIte,sevalprocAttr,Z0,Z1,bytesOf,q2]
    refine ⟨hlt',?_⟩
    rw [e2]
    simp only [go_sem,reduceIte,↓reduceIte,sevalprocAttr,Z0,Z1,bytesOf,wrK (k:=kx+1+1) (by omega) (by omega)]
    obtain ⟨rs3,Hn3,q3,e3,M4,X4⟩:=mk_sto M3 X3 (c:=3) rfl (.i .i64 (kx+1+1+1))
    simp only [go_sem,reduceIte,↓reduceIte,sevalprocAttr,Z0,Z1,bytesOf,q3]
    refine ⟨hlt',?_⟩
    rw [e3]
    simp only [go_sem,reduceIte,↓reduceIte,sevalprocAttr,Z0,Z1,bytesOf,wrK (k:=kx+1+1+1) (by omega) (by omega)]
    obtain ⟨rs4,r4,kv4,js4,q4,qr4,ql4,qc4,qo4,qn4,put4⟩:=mk_call M4 X4 (c:=4) rfl
    obtain ⟨r4_0,r4_1,r4_2,r4_3,r4_4,r4_5,r4_6,r4_7,r4_8,r4_9,r4_10,r4_11,rfl⟩:=len12 ql4
    obtain rfl:r4_4=kv4:=by simpa using qc4
    simp only [go_sem,reduceIte,↓reduceIte,sevalprocAttr,Z0,Z1,bytesOf,q4,qr4]
    refine ⟨hlt',?_⟩
    refine (m4 _ _ _ (kx+1+1+1+1) qo4 qn4 (by omega) (by omega) n4).mono ?_
    rintro _ Hn4 ⟨rfl,hl4,ho4,hf4⟩
    obtain ⟨M5,X5⟩:=put4 Hn4 _ hl4 ho4 hf4
    simp only [go_sem,reduceIte,↓reduceIte,sevalprocAttr,Z0,Z1,bytesOf]
    obtain ⟨rs5,Hn5,q5,e5,M6,X6⟩:=mk_sto M5 X5 (c:=5) rfl (.i .i64 (kx+1+1+1+1+(mcR v4:Int)))
    simp only [go_sem,reduceIte,↓reduceIte,sevalprocAttr,Z0,Z1,bytesOf,q5]
    refine ⟨hlt',?_⟩
    rw [e5]
    simp only [go_sem,reduceIte,↓reduceIte,sevalprocAttr,Z0,Z1,bytesOf,wrK (k:=kx+1+1+1+1+(mcR v4:Int)) (by omega) (by omega)]
    refine acall_pure (markTextP (kx+1+1+1+1+(mcR v4:Int)+1) (by omega) (by omega) _) ?_
    obtain ⟨rs6,Hn6,q6,e6,M7,X7⟩:=mk_sto M6 X6 (c:=6) rfl (.s (textM (kx+1+1+1+1+(mcR v4:Int)+1)))
    simp only [go_sem,reduceIte,↓reduceIte,sevalprocAttr,Z0,Z1,bytesOf,q6]
    refine ⟨hlt',?_⟩
    rw [e6]
    simp only [go_sem,reduceIte,↓reduceIte,sevalprocAttr,Z0,Z1,bytesOf,wrK (k:=kx+1+1+1+1+(mcR v4:Int)+1) (by omega) (by omega)]
    obtain ⟨rs7,Hn7,q7,e7,M8,X8⟩:=mk_sto M7 X7 (c:=7) rfl (.i .i64 (kx+1+1+1+1+(mcR v4:Int)+1+1))
    simp only [go_sem,reduceIte,↓reduceIte,sevalprocAttr,Z0,Z1,bytesOf,q7]
    refine ⟨hlt',?_⟩
    rw [e7]
    simp only [go_sem,reduceIte,↓reduceIte,sevalprocAttr,Z0,Z1,bytesOf,wrK (k:=kx+1+1+1+1+(mcR v4:Int)+1+1) (by omega) (by omega)]
    refine acall_pure (markTextP (kx+1+1+1+1+(mcR v4:Int)+1+1+1) (by omega) (by omega) _) ?_
    obtain ⟨rs8,Hn8,q8,e8,M9,X9⟩:=mk_sto M8 X8 (c:=8) rfl (.s (textM (kx+1+1+1+1+(mcR v4:Int)+1+1+1)))
    simp only [go_sem,reduceIte,↓reduceIte,sevalprocAttr,Z0,Z1,bytesOf,q8]
    refine ⟨hlt',?_⟩
    rw [e8]
    simp only [go_sem,reduceIte,↓reduceIte,sevalprocAttr,Z0,Z1,bytesOf,wrK (k:=kx+1+1+1+1+(mcR v4:Int)+1+1+1) (by omega) (by omega)]
    obtain ⟨rs9,Hn9,q9,e9,M10,X10⟩:=mk_sto M9 X9 (c:=9) rfl (.i .i64 (kx+1+1+1+1+(mcR v4:Int)+1+1+1+1))
    simp only [go_sem,reduceIte,↓reduceIte,sevalprocAttr,Z0,Z1,bytesOf,q9]
    refine ⟨hlt',?_⟩
    rw [e9]
    simp only [go_sem,reduceIte,↓reduceIte,sevalprocAttr,Z0,Z1,bytesOf,wrK (k:=kx+1+1+1+1+(mcR v4:Int)+1+1+1+1) (by omega) (by omega)]
    obtain ⟨rs10,r10,kv10,js10,q10,qr10,ql10,qc10,qo10,qn10,put10⟩:=mk_call M10 X10 (c:=10) rfl
    obtain ⟨r10_0,r10_1,r10_2,r10_3,r10_4,r10_5,r10_6,r10_7,r10_8,r10_9,r10_10,r10_11,rfl⟩:=len12 ql10
    obtain rfl:r10_10=kv10:=by simpa using qc10
    simp only [go_sem,reduceIte,↓reduceIte,sevalprocAttr,Z0,Z1,bytesOf,q10,qr10]
    refine ⟨hlt',?_⟩
    refine (m10 _ _ _ (kx+1+1+1+1+(mcR v4:Int)+1+1+1+1+1) qo10 qn10 (by omega) (by omega) n10).mono ?_
    rintro _ Hn10 ⟨rfl,hl10,ho10,hf10⟩
    obtain ⟨M11,X11⟩:=put10 Hn10 _ hl10 ho10 hf10
    simp only [go_sem,reduceIte,↓reduceIte,sevalprocAttr,Z0,Z1,bytesOf]
    obtain ⟨rs11,r11,kv11,js11,q11,qr11,ql11,qc11,qo11,qn11,put11⟩:=mk_call M11 X11 (c:=11) rfl
    obtain ⟨r11_0,r11_1,r11_2,r11_3,r11_4,r11_5,r11_6,r11_7,r11_8,r11_9,r11_10,r11_11,rfl⟩:=len12 ql11
    obtain rfl:r11_11=kv11:=by simpa using qc11
    simp only [go_sem,reduceIte,↓reduceIte,sevalprocAttr,Z0,Z1,bytesOf,q11,qr11]
    refine ⟨hlt',?_⟩
    refine (m11 _ _ _ (kx+1+1+1+1+(mcR v4:Int)+1+1+1+1+1+(mcR v10:Int)) qo11 qn11 (by omega) (by omega) n11).mono ?_
    rintro _ Hn11 ⟨rfl,hl11,ho11,hf11⟩
    obtain ⟨M12,X12⟩:=put11 Hn11 _ hl11 ho11 hf11
    simp only [go_sem,reduceIte,↓reduceIte,sevalprocAttr,Z0,Z1,bytesOf]
    simp only [go_sem,reduceIte,↓reduceIte,sevalprocAttr,Z0,Z1,bytesOf,ew]
    refine ⟨(x+1,Hn11),⟨⟨by simp only; omega,?_⟩,?_⟩,by simp only; omega⟩
    ·simp only
     rw [← hE]
     simp only [List.set_set,List.set_cons_zero,List.set_cons_succ] at M12
     simpa only [mkC,mkT,mkR_cnt] using M12
    ·simp only
     rw [hS]
     simp
     omega
   ·have hx':x=rows.length:=by omega
    subst hx'
    have d1:decide ((rows.length:Int)<(rows.length:Int))=false:=by simp
    rw [List.take_length,List.drop_length,List.append_nil] at M0
    simp only [go_sem,reduceIte,↓reduceIte,sevalprocAttr,Z0,Z1,bytesOf,d1,List.take_length]
    intro _
    exact ⟨M0.len,M0.own,M0.fr⟩
theorem mark_CtorS {rows:List (List TV)} (sh:∀ r∈rows,∃ (v0:List UInt8) (v1:Bool) (v2:Int) (v3:List UInt8) (v4:Int) (v5:List (List TV)) (v6:Int),r=([.p (.s v0),.p (.b v1),.p (.i .i64 v2),.p (.s v3),.p (.i .i64 v4),.s 4 v5,.p (.i .i64 v6)]:List TV)∧(MarkC Tryz.prog 111 4 v5∧v5.length≤1048576)):MarkC Tryz.prog 75 7 rows:=by
 intro H a ids k hO hN hk0 hk hn
 refine call75 (by simp) ?_
 have hO':=hO
 rw [Own] at hO'
 rcases hO' with ⟨rfl,rfl,rfl⟩ | ⟨id,ver,rs,js,rfl,rfl,h1,h2⟩
 ·simp only [go_sem,reduceIte,↓reduceIte,sevalprocAttr,Z0,Z1,bytesOf,mc75,mr75]
  refine ⟨Unit,[0,1,4,5],fun _ st=>st=⟨[(0,.p .nl),(1,.p (.i .i64 k)),(4,.p (.i .i64 0)),(5,.p (.i .i64 0))],[],H⟩,fun _=>0,⟨(),rfl⟩,?_⟩
  rintro _ _ rfl
  simp only [go_sem,reduceIte,↓reduceIte,sevalprocAttr,Z0,Z1,bytesOf]
  refine ⟨by simp [mcR],?_,fun i _=>trivial⟩
  rw [mkR]; exact hO
 ·have hlen:=h2.len
  generalize rs.length=N at hO hlen ⊢
  clear h1 h2
  subst hlen
  simp only [go_sem,reduceIte,↓reduceIte,sevalprocAttr,Z0,Z1,bytesOf,mc75,mr75]
  refine ⟨Nat × List AO,[0,1,4,5],fun x st=>(x.1≤rows.length∧MkI H x.2 7 id ver rows.length ((mkR (rows.take x.1) k).1++rows.drop x.1) (id :: js))∧st=⟨[(0,.gs id ver 0 rows.length),(1,.p (.i .i64 (k+mcR (rows.take x.1)))),(4,.p (.i .i64 0)),(5,.p (.i .i64 x.1))],[],x.2⟩,fun x=>rows.length - x.1,⟨(0,H),?_⟩,?_⟩
  ·simp only [go_sem,reduceIte,↓reduceIte,sevalprocAttr,Z0,Z1,bytesOf,List.take_zero,List.drop_zero,mkR,mcR]
   exact ⟨⟨Nat.zero_le _,hO,hN,rfl,fun _ _=>rfl⟩,by simp⟩
  ·rintro ⟨x,H0'⟩ _ ⟨⟨hx,M0⟩,rfl⟩
   simp only at hx M0
   by_cases hlt:x<rows.length
   ·have d1:decide ((x:Int)<(rows.length:Int))=true:=by simp; omega
    have hlt':((x:Int)<(rows.length:Int)):=by omega
    have X0:=mk_row hlt k
    have hE:=mk_rows hlt k
    have hS:=mcR_step rows x hlt
    have hB:=mcR_take rows (x+1)
    have hK0:0≤k+(mcR (rows.take x):Int):=by omega
    have ew:=wrN x (by omega)
    obtain ⟨v0,v1,v2,v3,v4,v5,v6,hs,⟨m5,n5⟩⟩:=sh rows[x] (List.getElem_mem hlt)
    rw [hs] at X0 hE hS
    generalize hkx:k+(mcR (rows.take x):Int)=kx at hE hK0 ⊢
    generalize (mkR (rows.take x) k).1++rows.drop x=R0 at X0 hE M0
    simp only [mcC,mcT] at hS
    simp only [go_sem,reduceIte,↓reduceIte,sevalprocAttr,Z0,Z1,bytesOf,d1]
    intro hml
    refine acall_pure (markTextP (kx) (by omega) (by omega) _) ?_
    obtain ⟨rs0,Hn0,q0,e0,M1,X1⟩:=mk_sto M0 X0 (c:=0) rfl (.s (textM (kx)))
    simp only [go_sem,reduceIte,↓reduceIte,sevalprocAttr,Z0,Z1,bytesOf,q0]
    refine ⟨hlt',?_⟩
    rw [e0]
    simp only [go_sem,reduceIte,↓reduceIte,sevalprocAttr,Z0,Z1,bytesOf,wrK (k:=kx) (by omega) (by omega)]
    obtain ⟨rs1,Hn1,q1,e1,M2,X2⟩:=mk_sto M1 X1 (c:=1) rfl (.b (decide ((kx+1).tmod 3=0)))
    simp only [go_sem,reduceIte,↓reduceIte,sevalprocAttr,Z0,Z1,bytesOf,q1]
    refine ⟨hlt',?_⟩
    rw [e1]
    simp only [go_sem,reduceIte,↓reduceIte,sevalprocAttr,Z0,Z1,bytesOf,wrK (k:=kx+1) (by omega) (by omega)]
    obtain ⟨rs2,Hn2,q2,e2,M3,X3⟩:=mk_sto M2 X2 (c:=2) rfl (.i .i64 (kx+1+1))
    simp only [go_sem,reduceIte,↓reduceIte,sevalprocAttr,Z0,Z1,bytesOf,q2]
    refine ⟨hlt',?_⟩
    rw [e2]
    simp only [go_sem,reduceIte,↓reduceIte,sevalprocAttr,Z0,Z1,bytesOf,wrK (k:=kx+1+1) (by omega) (by omega)]
    refine acall_pure (markTextP (kx+1+1+1) (by omega) (by omega) _) ?_
    obtain ⟨rs3,Hn3,q3,e3,M4,X4⟩:=mk_sto M3 X3 (c:=3) rfl (.s (textM (kx+1+1+1)))
    simp only [go_sem,reduceIte,↓reduceIte,sevalprocAttr,Z0,Z1,bytesOf,q3]
    refine ⟨hlt',?_⟩
    rw [e3]
    simp only [go_sem,reduceIte,↓reduceIte,sevalprocAttr,Z0,Z1,bytesOf,wrK (k:=kx+1+1+1) (by omega) (by omega)]
    obtain ⟨rs4,Hn4,q4,e4,M5,X5⟩:=mk_sto M4 X4 (c:=4) rfl (.i .i64 (kx+1+1+1+1))
    simp only [go_sem,reduceIte,↓reduceIte,sevalprocAttr,Z0,Z1,bytesOf,q4]
    refine ⟨hlt',?_⟩
    rw [e4]
    simp only [go_sem,reduceIte,↓reduceIte,sevalprocAttr,Z0,Z1,bytesOf,wrK (k:=kx+1+1+1+1) (by omega) (by omega)]
    obtain ⟨rs5,r5,kv5,js5,q5,qr5,ql5,qc5,qo5,qn5,put5⟩:=mk_call M5 X5 (c:=5) rfl
    obtain ⟨r5_0,r5_1,r5_2,r5_3,r5_4,r5_5,r5_6,rfl⟩:=len7 ql5
    obtain rfl:r5_5=kv5:=by simpa using qc5
    simp only [go_sem,reduceIte,↓reduceIte,sevalprocAttr,Z0,Z1,bytesOf,q5,qr5]
    refine ⟨hlt',?_⟩
    refine (m5 _ _ _ (kx+1+1+1+1+1) qo5 qn5 (by omega) (by omega) n5).mono ?_
    rintro _ Hn5 ⟨rfl,hl5,ho5,hf5⟩
    obtain ⟨M6,X6⟩:=put5 Hn5 _ hl5 ho5 hf5
    simp only [go_sem,reduceIte,↓reduceIte,sevalprocAttr,Z0,Z1,bytesOf]
    obtain ⟨rs6,Hn6,q6,e6,M7,X7⟩:=mk_sto M6 X6 (c:=6) rfl (.i .i64 (kx+1+1+1+1+1+(mcR v5:Int)))
    simp only [go_sem,reduceIte,↓reduceIte,sevalprocAttr,Z0,Z1,bytesOf,q6]
    refine ⟨hlt',?_⟩
    rw [e6]
    simp only [go_sem,reduceIte,↓reduceIte,sevalprocAttr,Z0,Z1,bytesOf,wrK (k:=kx+1+1+1+1+1+(mcR v5:Int)) (by omega) (by omega)]
    simp only [go_sem,reduceIte,↓reduceIte,sevalprocAttr,Z0,Z1,bytesOf,ew]
    refine ⟨(x+1,Hn6),⟨⟨by simp only; omega,?_⟩,?_⟩,by simp only; omega⟩
    ·simp only
     rw [← hE]
     simp only [List.set_set,List.set_cons_zero,List.set_cons_succ] at M7
     simp only [mkC,mkT,mkR_cnt]; refine cast ?_ M7; congr
    ·simp only
     rw [hS]
     simp
     omega
   ·have hx':x=rows.length:=by omega
    subst hx'
    have d1:decide ((rows.length:Int)<(rows.length:Int))=false:=by simp
    rw [List.take_length,List.drop_length,List.append_nil] at M0
    simp only [go_sem,reduceIte,↓reduceIte,sevalprocAttr,Z0,Z1,bytesOf,d1,List.take_length]
    intro _
    exact ⟨M0.len,M0.own,M0.fr⟩
theorem mark_DataS {rows:List (List TV)} (sh:∀ r∈rows,∃ (v0:List UInt8) (v1:List (List TV)) (v2:List (List TV)) (v3:Int),r=([.p (.s v0),.s 1 v1,.s 7 v2,.p (.i .i64 v3)]:List TV)∧(MarkC Tryz.prog 74 1 v1∧v1.length≤1048576)∧(MarkC Tryz.prog 75 7 v2∧v2.length≤1048576)):MarkC Tryz.prog 38 4 rows:=by
 intro H a ids k hO hN hk0 hk hn
 refine call38 (by simp) ?_
 have hO':=hO
 rw [Own] at hO'
 rcases hO' with ⟨rfl,rfl,rfl⟩ | ⟨id,ver,rs,js,rfl,rfl,h1,h2⟩
 ·simp only [go_sem,reduceIte,↓reduceIte,sevalprocAttr,Z0,Z1,bytesOf,mc38,mr38]
  refine ⟨Unit,[0,1,4,5],fun _ st=>st=⟨[(0,.p .nl),(1,.p (.i .i64 k)),(4,.p (.i .i64 0)),(5,.p (.i .i64 0))],[],H⟩,fun _=>0,⟨(),rfl⟩,?_⟩
  rintro _ _ rfl
  simp only [go_sem,reduceIte,↓reduceIte,sevalprocAttr,Z0,Z1,bytesOf]
  refine ⟨by simp [mcR],?_,fun i _=>trivial⟩
  rw [mkR]; exact hO
 ·have hlen:=h2.len
  generalize rs.length=N at hO hlen ⊢
  clear h1 h2
  subst hlen
  simp only [go_sem,reduceIte,↓reduceIte,sevalprocAttr,Z0,Z1,bytesOf,mc38,mr38]
  refine ⟨Nat × List AO,[0,1,4,5],fun x st=>(x.1≤rows.length∧MkI H x.2 4 id ver rows.length ((mkR (rows.take x.1) k).1++rows.drop x.1) (id :: js))∧st=⟨[(0,.gs id ver 0 rows.length),(1,.p (.i .i64 (k+mcR (rows.take x.1)))),(4,.p (.i .i64 0)),(5,.p (.i .i64 x.1))],[],x.2⟩,fun x=>rows.length - x.1,⟨(0,H),?_⟩,?_⟩
  ·simp only [go_sem,reduceIte,↓reduceIte,sevalprocAttr,Z0,Z1,bytesOf,List.take_zero,List.drop_zero,mkR,mcR]
   exact ⟨⟨Nat.zero_le _,hO,hN,rfl,fun _ _=>rfl⟩,by simp⟩
  ·rintro ⟨x,H0'⟩ _ ⟨⟨hx,M0⟩,rfl⟩
   simp only at hx M0
   by_cases hlt:x<rows.length
   ·have d1:decide ((x:Int)<(rows.length:Int))=true:=by simp; omega
    have hlt':((x:Int)<(rows.length:Int)):=by omega
    have X0:=mk_row hlt k
    have hE:=mk_rows hlt k
    have hS:=mcR_step rows x hlt
    have hB:=mcR_take rows (x+1)
    have hK0:0≤k+(mcR (rows.take x):Int):=by omega
    have ew:=wrN x (by omega)
    obtain ⟨v0,v1,v2,v3,hs,⟨m1,n1⟩,⟨m2,n2⟩⟩:=sh rows[x] (List.getElem_mem hlt)
    rw [hs] at X0 hE hS
    generalize hkx:k+(mcR (rows.take x):Int)=kx at hE hK0 ⊢
    generalize (mkR (rows.take x) k).1++rows.drop x=R0 at X0 hE M0
    simp only [mcC,mcT] at hS
    simp only [go_sem,reduceIte,↓reduceIte,sevalprocAttr,Z0,Z1,bytesOf,d1]
    intro hml
    refine acall_pure (markTextP (kx) (by omega) (by omega) _) ?_
    obtain ⟨rs0,Hn0,q0,e0,M1,X1⟩:=mk_sto M0 X0 (c:=0) rfl (.s (textM (kx)))
    simp only [go_sem,reduceIte,↓reduceIte,sevalprocAttr,Z0,Z1,bytesOf,q0]
    refine ⟨hlt',?_⟩
    rw [e0]
    simp only [go_sem,reduceIte,↓reduceIte,sevalprocAttr,Z0,Z1,bytesOf,wrK (k:=kx) (by omega) (by omega)]
    obtain ⟨rs1,r1,kv1,js1,q1,qr1,ql1,qc1,qo1,qn1,put1⟩:=mk_call M1 X1 (c:=1) rfl
    obtain ⟨r1_0,r1_1,r1_2,r1_3,rfl⟩:=len4 ql1
    obtain rfl:r1_1=kv1:=by simpa using qc1
    simp only [go_sem,reduceIte,↓reduceIte,sevalprocAttr,Z0,Z1,bytesOf,q1,qr1]
    refine ⟨hlt',?_⟩
    refine (m1 _ _ _ (kx+1) qo1 qn1 (by omega) (by omega) n1).mono ?_
    rintro _ Hn1 ⟨rfl,hl1,ho1,hf1⟩
    obtain ⟨M2,X2⟩:=put1 Hn1 _ hl1 ho1 hf1
    simp only [go_sem,reduceIte,↓reduceIte,sevalprocAttr,Z0,Z1,bytesOf]
    obtain ⟨rs2,r2,kv2,js2,q2,qr2,ql2,qc2,qo2,qn2,put2⟩:=mk_call M2 X2 (c:=2) rfl
    obtain ⟨r2_0,r2_1,r2_2,r2_3,rfl⟩:=len4 ql2
    obtain rfl:r2_2=kv2:=by simpa using qc2
    simp only [go_sem,reduceIte,↓reduceIte,sevalprocAttr,Z0,Z1,bytesOf,q2,qr2]
    refine ⟨hlt',?_⟩
    refine (m2 _ _ _ (kx+1+(mcR v1:Int)) qo2 qn2 (by omega) (by omega) n2).mono ?_
    rintro _ Hn2 ⟨rfl,hl2,ho2,hf2⟩
    obtain ⟨M3,X3⟩:=put2 Hn2 _ hl2 ho2 hf2
    simp only [go_sem,reduceIte,↓reduceIte,sevalprocAttr,Z0,Z1,bytesOf]
    obtain ⟨rs3,Hn3,q3,e3,M4,X4⟩:=mk_sto M3 X3 (c:=3) rfl (.i .i64 (kx+1+(mcR v1:Int)+(mcR v2:Int)))
    simp only [go_sem,reduceIte,↓reduceIte,sevalprocAttr,Z0,Z1,bytesOf,q3]
    refine ⟨hlt',?_⟩
    rw [e3]
    simp only [go_sem,reduceIte,↓reduceIte,sevalprocAttr,Z0,Z1,bytesOf,wrK (k:=kx+1+(mcR v1:Int)+(mcR v2:Int)) (by omega) (by omega)]
    simp only [go_sem,reduceIte,↓reduceIte,sevalprocAttr,Z0,Z1,bytesOf,ew]
    refine ⟨(x+1,Hn3),⟨⟨by simp only; omega,?_⟩,?_⟩,by simp only; omega⟩
    ·simp only
     rw [← hE]
     simp only [List.set_set,List.set_cons_zero,List.set_cons_succ] at M4
     simpa only [mkC,mkT,mkR_cnt] using M4
    ·simp only
     rw [hS]
     simp
     omega
   ·have hx':x=rows.length:=by omega
    subst hx'
    have d1:decide ((rows.length:Int)<(rows.length:Int))=false:=by simp
    rw [List.take_length,List.drop_length,List.append_nil] at M0
    simp only [go_sem,reduceIte,↓reduceIte,sevalprocAttr,Z0,Z1,bytesOf,d1,List.take_length]
    intro _
    exact ⟨M0.len,M0.own,M0.fr⟩
theorem mark_TyS {rows:List (List TV)} (sh:∀ r∈rows,∃ (v0:Int) (v1:Int) (v2:List UInt8) (v3:List (List TV)),r=([.p (.i .i64 v0),.p (.i .i64 v1),.p (.s v2),.s 4 v3]:List TV)∧(MarkC Tryz.prog 78 4 v3∧v3.length≤1048576)):MarkC Tryz.prog 78 4 rows:=by
 intro H a ids k hO hN hk0 hk hn
 refine call78 (by simp) ?_
 have hO':=hO
 rw [Own] at hO'
 rcases hO' with ⟨rfl,rfl,rfl⟩ | ⟨id,ver,rs,js,rfl,rfl,h1,h2⟩
 ·simp only [go_sem,reduceIte,↓reduceIte,sevalprocAttr,Z0,Z1,bytesOf,mc78,mr78]
  refine ⟨Unit,[0,1,4,5],fun _ st=>st=⟨[(0,.p .nl),(1,.p (.i .i64 k)),(4,.p (.i .i64 0)),(5,.p (.i .i64 0))],[],H⟩,fun _=>0,⟨(),rfl⟩,?_⟩
  rintro _ _ rfl
  simp only [go_sem,reduceIte,↓reduceIte,sevalprocAttr,Z0,Z1,bytesOf]
  refine ⟨by simp [mcR],?_,fun i _=>trivial⟩
  rw [mkR]; exact hO
 ·have hlen:=h2.len
  generalize rs.length=N at hO hlen ⊢
  clear h1 h2
  subst hlen
  simp only [go_sem,reduceIte,↓reduceIte,sevalprocAttr,Z0,Z1,bytesOf,mc78,mr78]
  refine ⟨Nat × List AO,[0,1,4,5],fun x st=>(x.1≤rows.length∧MkI H x.2 4 id ver rows.length ((mkR (rows.take x.1) k).1++rows.drop x.1) (id :: js))∧st=⟨[(0,.gs id ver 0 rows.length),(1,.p (.i .i64 (k+mcR (rows.take x.1)))),(4,.p (.i .i64 0)),(5,.p (.i .i64 x.1))],[],x.2⟩,fun x=>rows.length - x.1,⟨(0,H),?_⟩,?_⟩
  ·simp only [go_sem,reduceIte,↓reduceIte,sevalprocAttr,Z0,Z1,bytesOf,List.take_zero,List.drop_zero,mkR,mcR]
   exact ⟨⟨Nat.zero_le _,hO,hN,rfl,fun _ _=>rfl⟩,by simp⟩
  ·rintro ⟨x,H0'⟩ _ ⟨⟨hx,M0⟩,rfl⟩
   simp only at hx M0
   by_cases hlt:x<rows.length
   ·have d1:decide ((x:Int)<(rows.length:Int))=true:=by simp; omega
    have hlt':((x:Int)<(rows.length:Int)):=by omega
    have X0:=mk_row hlt k
    have hE:=mk_rows hlt k
    have hS:=mcR_step rows x hlt
    have hB:=mcR_take rows (x+1)
    have hK0:0≤k+(mcR (rows.take x):Int):=by omega
    have ew:=wrN x (by omega)
    obtain ⟨v0,v1,v2,v3,hs,⟨m3,n3⟩⟩:=sh rows[x] (List.getElem_mem hlt)
    rw [hs] at X0 hE hS
    generalize hkx:k+(mcR (rows.take x):Int)=kx at hE hK0 ⊢
    generalize (mkR (rows.take x) k).1++rows.drop x=R0 at X0 hE M0
    simp only [mcC,mcT] at hS
    simp only [go_sem,reduceIte,↓reduceIte,sevalprocAttr,Z0,Z1,bytesOf,d1]
    intro hml
    obtain ⟨rs0,Hn0,q0,e0,M1,X1⟩:=mk_sto M0 X0 (c:=0) rfl (.i .i64 (kx))
    simp only [go_sem,reduceIte,↓reduceIte,sevalprocAttr,Z0,Z1,bytesOf,q0]
    refine ⟨hlt',?_⟩
    rw [e0]
    simp only [go_sem,reduceIte,↓reduceIte,sevalprocAttr,Z0,Z1,bytesOf,wrK (k:=kx) (by omega) (by omega)]
    obtain ⟨rs1,Hn1,q1,e1,M2,X2⟩:=mk_sto M1 X1 (c:=1) rfl (.i .i64 (kx+1))
    simp only [go_sem,reduceIte,↓reduceIte,sevalprocAttr,Z0,Z1,bytesOf,q1]
    refine ⟨hlt',?_⟩
    rw [e1]
    simp only [go_sem,reduceIte,↓reduceIte,sevalprocAttr,Z0,Z1,bytesOf,wrK (k:=kx+1) (by omega) (by omega)]
    refine acall_pure (markTextP (kx+1+1) (by omega) (by omega) _) ?_
    obtain ⟨rs2,Hn2,q2,e2,M3,X3⟩:=mk_sto M2 X2 (c:=2) rfl (.s (textM (kx+1+1)))
    simp only [go_sem,reduceIte,↓reduceIte,sevalprocAttr,Z0,Z1,bytesOf,q2]
    refine ⟨hlt',?_⟩
    rw [e2]
    simp only [go_sem,reduceIte,↓reduceIte,sevalprocAttr,Z0,Z1,bytesOf,wrK (k:=kx+1+1) (by omega) (by omega)]
    obtain ⟨rs3,r3,kv3,js3,q3,qr3,ql3,qc3,qo3,qn3,put3⟩:=mk_call M3 X3 (c:=3) rfl
    obtain ⟨r3_0,r3_1,r3_2,r3_3,rfl⟩:=len4 ql3
    obtain rfl:r3_3=kv3:=by simpa using qc3
    simp only [go_sem,reduceIte,↓reduceIte,sevalprocAttr,Z0,Z1,bytesOf,q3,qr3]
    refine ⟨hlt',?_⟩
    refine (m3 _ _ _ (kx+1+1+1) qo3 qn3 (by omega) (by omega) n3).mono ?_
    rintro _ Hn3 ⟨rfl,hl3,ho3,hf3⟩
    obtain ⟨M4,X4⟩:=put3 Hn3 _ hl3 ho3 hf3
    simp only [go_sem,reduceIte,↓reduceIte,sevalprocAttr,Z0,Z1,bytesOf]
    simp only [go_sem,reduceIte,↓reduceIte,sevalprocAttr,Z0,Z1,bytesOf,ew]
    refine ⟨(x+1,Hn3),⟨⟨by simp only; omega,?_⟩,?_⟩,by simp only; omega⟩
    ·simp only
     rw [← hE]
     simp only [List.set_set,List.set_cons_zero,List.set_cons_succ] at M4
     simpa only [mkC,mkT,mkR_cnt] using M4
    ·simp only
     rw [hS]
     simp
     omega
   ·have hx':x=rows.length:=by omega
    subst hx'
    have d1:decide ((rows.length:Int)<(rows.length:Int))=false:=by simp
    rw [List.take_length,List.drop_length,List.append_nil] at M0
    simp only [go_sem,reduceIte,↓reduceIte,sevalprocAttr,Z0,Z1,bytesOf,d1,List.take_length]
    intro _
    exact ⟨M0.len,M0.own,M0.fr⟩
theorem mark_CtorInfoS {rows:List (List TV)} (sh:∀ r∈rows,∃ (v0:List UInt8) (v1:Bool) (v2:Int) (v3:Int) (v4:List UInt8) (v5:List (List TV)),r=([.p (.s v0),.p (.b v1),.p (.i .i64 v2),.p (.i .i64 v3),.p (.s v4),.s 4 v5]:List TV)∧(MarkC Tryz.prog 78 4 v5∧v5.length≤1048576)):MarkC Tryz.prog 41 6 rows:=by
 intro H a ids k hO hN hk0 hk hn
 refine call41 (by simp) ?_
 have hO':=hO
 rw [Own] at hO'
 rcases hO' with ⟨rfl,rfl,rfl⟩ | ⟨id,ver,rs,js,rfl,rfl,h1,h2⟩
 ·simp only [go_sem,reduceIte,↓reduceIte,sevalprocAttr,Z0,Z1,bytesOf,mc41,mr41]
  refine ⟨Unit,[0,1,4,5],fun _ st=>st=⟨[(0,.p .nl),(1,.p (.i .i64 k)),(4,.p (.i .i64 0)),(5,.p (.i .i64 0))],[],H⟩,fun _=>0,⟨(),rfl⟩,?_⟩
  rintro _ _ rfl
  simp only [go_sem,reduceIte,↓reduceIte,sevalprocAttr,Z0,Z1,bytesOf]
  refine ⟨by simp [mcR],?_,fun i _=>trivial⟩
  rw [mkR]; exact hO
 ·have hlen:=h2.len
  generalize rs.length=N at hO hlen ⊢
  clear h1 h2
  subst hlen
  simp only [go_sem,reduceIte,↓reduceIte,sevalprocAttr,Z0,Z1,bytesOf,mc41,mr41]
  refine ⟨Nat × List AO,[0,1,4,5],fun x st=>(x.1≤rows.length∧MkI H x.2 6 id ver rows.length ((mkR (rows.take x.1) k).1++rows.drop x.1) (id :: js))∧st=⟨[(0,.gs id ver 0 rows.length),(1,.p (.i .i64 (k+mcR (rows.take x.1)))),(4,.p (.i .i64 0)),(5,.p (.i .i64 x.1))],[],x.2⟩,fun x=>rows.length - x.1,⟨(0,H),?_⟩,?_⟩
  ·simp only [go_sem,reduceIte,↓reduceIte,sevalprocAttr,Z0,Z1,bytesOf,List.take_zero,List.drop_zero,mkR,mcR]
   exact ⟨⟨Nat.zero_le _,hO,hN,rfl,fun _ _=>rfl⟩,by simp⟩
  ·rintro ⟨x,H0'⟩ _ ⟨⟨hx,M0⟩,rfl⟩
   simp only at hx M0
   by_cases hlt:x<rows.length
   ·have d1:decide ((x:Int)<(rows.length:Int))=true:=by simp; omega
    have hlt':((x:Int)<(rows.length:Int)):=by omega
    have X0:=mk_row hlt k
    have hE:=mk_rows hlt k
    have hS:=mcR_step rows x hlt
    have hB:=mcR_take rows (x+1)
    have hK0:0≤k+(mcR (rows.take x):Int):=by omega
    have ew:=wrN x (by omega)
    obtain ⟨v0,v1,v2,v3,v4,v5,hs,⟨m5,n5⟩⟩:=sh rows[x] (List.getElem_mem hlt)
    rw [hs] at X0 hE hS
    generalize hkx:k+(mcR (rows.take x):Int)=kx at hE hK0 ⊢
    generalize (mkR (rows.take x) k).1++rows.drop x=R0 at X0 hE M0
    simp only [mcC,mcT] at hS
    simp only [go_sem,reduceIte,↓reduceIte,sevalprocAttr,Z0,Z1,bytesOf,d1]
    intro hml
    refine acall_pure (markTextP (kx) (by omega) (by omega) _) ?_
    obtain ⟨rs0,Hn0,q0,e0,M1,X1⟩:=mk_sto M0 X0 (c:=0) rfl (.s (textM (kx)))
    simp only [go_sem,reduceIte,↓reduceIte,sevalprocAttr,Z0,Z1,bytesOf,q0]
    refine ⟨hlt',?_⟩
    rw [e0]
    simp only [go_sem,reduceIte,↓reduceIte,sevalprocAttr,Z0,Z1,bytesOf,wrK (k:=kx) (by omega) (by omega)]
    obtain ⟨rs1,Hn1,q1,e1,M2,X2⟩:=mk_sto M1 X1 (c:=1) rfl (.b (decide ((kx+1).tmod 3=0)))
    simp only [go_sem,reduceIte,↓reduceIte,sevalprocAttr,Z0,Z1,bytesOf,q1]
    refine ⟨hlt',?_⟩
    rw [e1]
    simp only [go_sem,reduceIte,↓reduceIte,sevalprocAttr,Z0,Z1,bytesOf,wrK (k:=kx+1) (by omega) (by omega)]
    obtain ⟨rs2,Hn2,q2,e2,M3,X3⟩:=mk_sto M2 X2 (c:=2) rfl (.i .i64 (kx+1+1))
    simp only [go_sem,reduceIte,↓reduceIte,sevalprocAttr,Z0,Z1,bytesOf,q2]
    refine ⟨hlt',?_⟩
    rw [e2]
    simp only [go_sem,reduceIte,↓reduceIte,sevalprocAttr,Z0,Z1,bytesOf,wrK (k:=kx+1+1) (by omega) (by omega)]
    obtain ⟨rs3,Hn3,q3,e3,M4,X4⟩:=mk_sto M3 X3 (c:=3) rfl (.i .i64 (kx+1+1+1))
    simp only [go_sem,reduceIte,↓reduceIte,sevalprocAttr,Z0,Z1,bytesOf,q3]
    refine ⟨hlt',?_⟩
    rw [e3]
    simp only [go_sem,reduceIte,↓reduceIte,sevalprocAttr,Z0,Z1,bytesOf,wrK (k:=kx+1+1+1) (by omega) (by omega)]
    refine acall_pure (markTextP (kx+1+1+1+1) (by omega) (by omega) _) ?_
    obtain ⟨rs4,Hn4,q4,e4,M5,X5⟩:=mk_sto M4 X4 (c:=4) rfl (.s (textM (kx+1+1+1+1)))
    simp only [go_sem,reduceIte,↓reduceIte,sevalprocAttr,Z0,Z1,bytesOf,q4]
    refine ⟨hlt',?_⟩
    rw [e4]
    simp only [go_sem,reduceIte,↓reduceIte,sevalprocAttr,Z0,Z1,bytesOf,wrK (k:=kx+1+1+1+1) (by omega) (by omega)]
    obtain ⟨rs5,r5,kv5,js5,q5,qr5,ql5,qc5,qo5,qn5,put5⟩:=mk_call M5 X5 (c:=5) rfl
    obtain ⟨r5_0,r5_1,r5_2,r5_3,r5_4,r5_5,rfl⟩:=len6 ql5
    obtain rfl:r5_5=kv5:=by simpa using qc5
    simp only [go_sem,reduceIte,↓reduceIte,sevalprocAttr,Z0,Z1,bytesOf,q5,qr5]
    refine ⟨hlt',?_⟩
    refine (m5 _ _ _ (kx+1+1+1+1+1) qo5 qn5 (by omega) (by omega) n5).mono ?_
    rintro _ Hn5 ⟨rfl,hl5,ho5,hf5⟩
    obtain ⟨M6,X6⟩:=put5 Hn5 _ hl5 ho5 hf5
    simp only [go_sem,reduceIte,↓reduceIte,sevalprocAttr,Z0,Z1,bytesOf]
    simp only [go_sem,reduceIte,↓reduceIte,sevalprocAttr,Z0,Z1,bytesOf,ew]
    refine ⟨(x+1,Hn5),⟨⟨by simp only; omega,?_⟩,?_⟩,by simp only; omega⟩
    ·simp only
     rw [← hE]
     simp only [List.set_set,List.set_cons_zero,List.set_cons_succ] at M6
     simp only [mkC,mkT,mkR_cnt]; refine cast ?_ M6; congr
    ·simp only
     rw [hS]
     simp
     omega
   ·have hx':x=rows.length:=by omega
    subst hx'
    have d1:decide ((rows.length:Int)<(rows.length:Int))=false:=by simp
    rw [List.take_length,List.drop_length,List.append_nil] at M0
    simp only [go_sem,reduceIte,↓reduceIte,sevalprocAttr,Z0,Z1,bytesOf,d1,List.take_length]
    intro _
    exact ⟨M0.len,M0.own,M0.fr⟩
theorem mark_DataInfoS {rows:List (List TV)} (sh:∀ r∈rows,∃ (v0:List UInt8) (v1:Int) (v2:List (List TV)),r=([.p (.s v0),.p (.i .i64 v1),.s 6 v2]:List TV)∧(MarkC Tryz.prog 41 6 v2∧v2.length≤1048576)):MarkC Tryz.prog 15 3 rows:=by
 intro H a ids k hO hN hk0 hk hn
 refine call15 (by simp) ?_
 have hO':=hO
 rw [Own] at hO'
 rcases hO' with ⟨rfl,rfl,rfl⟩ | ⟨id,ver,rs,js,rfl,rfl,h1,h2⟩
 ·simp only [go_sem,reduceIte,↓reduceIte,sevalprocAttr,Z0,Z1,bytesOf,mc15,mr15]
  refine ⟨Unit,[0,1,4,5],fun _ st=>st=⟨[(0,.p .nl),(1,.p (.i .i64 k)),(4,.p (.i .i64 0)),(5,.p (.i .i64 0))],[],H⟩,fun _=>0,⟨(),rfl⟩,?_⟩
  rintro _ _ rfl
  simp only [go_sem,reduceIte,↓reduceIte,sevalprocAttr,Z0,Z1,bytesOf]
  refine ⟨by simp [mcR],?_,fun i _=>trivial⟩
  rw [mkR]; exact hO
 ·have hlen:=h2.len
  generalize rs.length=N at hO hlen ⊢
  clear h1 h2
  subst hlen
  simp only [go_sem,reduceIte,↓reduceIte,sevalprocAttr,Z0,Z1,bytesOf,mc15,mr15]
  refine ⟨Nat × List AO,[0,1,4,5],fun x st=>(x.1≤rows.length∧MkI H x.2 3 id ver rows.length ((mkR (rows.take x.1) k).1++rows.drop x.1) (id :: js))∧st=⟨[(0,.gs id ver 0 rows.length),(1,.p (.i .i64 (k+mcR (rows.take x.1)))),(4,.p (.i .i64 0)),(5,.p (.i .i64 x.1))],[],x.2⟩,fun x=>rows.length - x.1,⟨(0,H),?_⟩,?_⟩
  ·simp only [go_sem,reduceIte,↓reduceIte,sevalprocAttr,Z0,Z1,bytesOf,List.take_zero,List.drop_zero,mkR,mcR]
   exact ⟨⟨Nat.zero_le _,hO,hN,rfl,fun _ _=>rfl⟩,by simp⟩
  ·rintro ⟨x,H0'⟩ _ ⟨⟨hx,M0⟩,rfl⟩
   simp only at hx M0
   by_cases hlt:x<rows.length
   ·have d1:decide ((x:Int)<(rows.length:Int))=true:=by simp; omega
    have hlt':((x:Int)<(rows.length:Int)):=by omega
    have X0:=mk_row hlt k
    have hE:=mk_rows hlt k
    have hS:=mcR_step rows x hlt
    have hB:=mcR_take rows (x+1)
    have hK0:0≤k+(mcR (rows.take x):Int):=by omega
    have ew:=wrN x (by omega)
    obtain ⟨v0,v1,v2,hs,⟨m2,n2⟩⟩:=sh rows[x] (List.getElem_mem hlt)
    rw [hs] at X0 hE hS
    generalize hkx:k+(mcR (rows.take x):Int)=kx at hE hK0 ⊢
    generalize (mkR (rows.take x) k).1++rows.drop x=R0 at X0 hE M0
    simp only [mcC,mcT] at hS
    simp only [go_sem,reduceIte,↓reduceIte,sevalprocAttr,Z0,Z1,bytesOf,d1]
    intro hml
    refine acall_pure (markTextP (kx) (by omega) (by omega) _) ?_
    obtain ⟨rs0,Hn0,q0,e0,M1,X1⟩:=mk_sto M0 X0 (c:=0) rfl (.s (textM (kx)))
    simp only [go_sem,reduceIte,↓reduceIte,sevalprocAttr,Z0,Z1,bytesOf,q0]
    refine ⟨hlt',?_⟩
    rw [e0]
    simp only [go_sem,reduceIte,↓reduceIte,sevalprocAttr,Z0,Z1,bytesOf,wrK (k:=kx) (by omega) (by omega)]
    obtain ⟨rs1,Hn1,q1,e1,M2,X2⟩:=mk_sto M1 X1 (c:=1) rfl (.i .i64 (kx+1))
    simp only [go_sem,reduceIte,↓reduceIte,sevalprocAttr,Z0,Z1,bytesOf,q1]
    refine ⟨hlt',?_⟩
    rw [e1]
    simp only [go_sem,reduceIte,↓reduceIte,sevalprocAttr,Z0,Z1,bytesOf,wrK (k:=kx+1) (by omega) (by omega)]
    obtain ⟨rs2,r2,kv2,js2,q2,qr2,ql2,qc2,qo2,qn2,put2⟩:=mk_call M2 X2 (c:=2) rfl
    obtain ⟨r2_0,r2_1,r2_2,rfl⟩:=len3 ql2
    obtain rfl:r2_2=kv2:=by simpa using qc2
    simp only [go_sem,reduceIte,↓reduceIte,sevalprocAttr,Z0,Z1,bytesOf,q2,qr2]
    refine ⟨hlt',?_⟩
    refine (m2 _ _ _ (kx+1+1) qo2 qn2 (by omega) (by omega) n2).mono ?_
    rintro _ Hn2 ⟨rfl,hl2,ho2,hf2⟩
    obtain ⟨M3,X3⟩:=put2 Hn2 _ hl2 ho2 hf2
    simp only [go_sem,reduceIte,↓reduceIte,sevalprocAttr,Z0,Z1,bytesOf]
    simp only [go_sem,reduceIte,↓reduceIte,sevalprocAttr,Z0,Z1,bytesOf,ew]
    refine ⟨(x+1,Hn2),⟨⟨by simp only; omega,?_⟩,?_⟩,by simp only; omega⟩
    ·simp only
     rw [← hE]
     simp only [List.set_set,List.set_cons_zero,List.set_cons_succ] at M3
     simpa only [mkC,mkT,mkR_cnt] using M3
    ·simp only
     rw [hS]
     simp
     omega
   ·have hx':x=rows.length:=by omega
    subst hx'
    have d1:decide ((rows.length:Int)<(rows.length:Int))=false:=by simp
    rw [List.take_length,List.drop_length,List.append_nil] at M0
    simp only [go_sem,reduceIte,↓reduceIte,sevalprocAttr,Z0,Z1,bytesOf,d1,List.take_length]
    intro _
    exact ⟨M0.len,M0.own,M0.fr⟩
end Go.Proofs.YtnelfbcgplooiaaGreat.Pg
/- Marks that are found again (printed by wip/tools/genmark.py). -/
set_option linter.all false
namespace Go.Proofs.YtnelfbcgplooiaaGreat.Pg
open Go.AM Mc
theorem mkR_get : ∀ (l : List (List TV)) (x : Nat) (h : x < l.length) (k : Int), (mkR l k).1[x]? = some (mkC l[x] (k + mcR (l.take x))).1
  | [], x, h, k => by simp at h
  | r :: l, 0, h, k => by rw [mkR]; simp [mcR]
  | r :: l, x + 1, h, k => by
    rw [mkR]
    simp only [List.getElem?_cons_succ, List.getElem_cons_succ, List.take_succ_cons, mcR]
    rw [mkR_get l x (by simpa using h), mkC_cnt]
    congr 3
    simp; omega
theorem held_row {H:List AO} {sz:Nat} {rows:List (List TV)} {rs:List (List AV)} {js:List Nat} {k:Int} (h:OwnRs H sz (mkR rows k).1 rs js) {x:Nat} (hx:x<rows.length) :
  ∃ r jr,rs[x]?=some r∧r.length=sz∧OwnCs H (mkC rows[x] (k+mcR (rows.take x))).1 r jr:=by
 obtain ⟨c,j1,j2,j3,e1,_,e2,e3,_⟩:=h.at (mkR_get rows x hx k)
 exact ⟨c,j2,e1,e2,e3⟩
theorem condK_no {x y:Bool} {A B:St→Prop} {st:St} (h:x=y) (k:B st):condK (.p (.b (!(x == y)))) A B st:=by
 subst h
 simpa [condK,splitK] using k
theorem cell_p {H:List AO} {ts:List TV} {cs:List AV} {ids:List Nat} (h:OwnCs H ts cs ids) {c:Nat} {v:PV} {a:AV} (ht:ts[c]?=some (.p v)) (hc:cs[c]?=some a):a=.p v:=by
 obtain ⟨c',j1,j2,j3,e1,_,e2,_⟩:=h.at ht
 rw [hc] at e1; cases e1
 rw [Own] at e2; exact e2.1
theorem cell_s {H:List AO} {ts:List TV} {cs:List AV} {ids:List Nat} (h:OwnCs H ts cs ids) {c sz:Nat} {rows:List (List TV)} {a:AV} (ht:ts[c]?=some (.s sz rows)) (hc:cs[c]?=some a):∃ js,Own H (.s sz rows) a js:=by
 obtain ⟨c',j1,j2,j3,e1,_,e2,_⟩:=h.at ht
 rw [hc] at e1; cases e1
 exact ⟨_,e2⟩
theorem held_TyS {rows:List (List TV)} (sh:∀ r∈rows,∃ (v0:Int) (v1:Int) (v2:List UInt8) (v3:List (List TV)),r=([.p (.i .i64 v0),.p (.i .i64 v1),.p (.s v2),.s 4 v3]:List TV)∧(HeldC Tryz.prog 79 4 v3∧v3.length≤1048576)):HeldC Tryz.prog 79 4 rows:=by
 intro H a ids k hO hk0 hk hn
 refine call79 (by simp) ?_
 rw [Own] at hO
 rcases hO with ⟨h0,rfl,rfl⟩ | ⟨id,ver,rs,js,rfl,rfl,h1,h2⟩
 ·have:rows=[]:=by have:=mkR_len rows k; rw [h0] at this; exact List.length_eq_zero_iff.1 this.symm
  subst this
  simp only [go_sem,reduceIte,↓reduceIte,sevalprocAttr,Z0,Z1,bytesOf,mc79,mr79]
  refine ⟨Unit,[0,1,4,5],fun _ st=>st=⟨[(0,.p .nl),(1,.p (.i .i64 k)),(4,.p (.i .i64 0)),(5,.p (.i .i64 0))],[],H⟩,fun _=>0,⟨(),rfl⟩,?_⟩
  rintro _ _ rfl
  simp only [go_sem,reduceIte,↓reduceIte,sevalprocAttr,Z0,Z1,bytesOf]
  simp [mcR,pureQ]
 ·have hlen:=h2.len
  rw [mkR_len] at hlen
  rw [hlen]
  simp only [go_sem,reduceIte,↓reduceIte,sevalprocAttr,Z0,Z1,bytesOf,mc79,mr79]
  refine ⟨Nat,[0,1,4,5],fun x st=>x≤rows.length∧st=⟨[(0,.gs id ver 0 rows.length),(1,.p (.i .i64 (k+mcR (rows.take x)))),(4,.p (.i .i64 0)),(5,.p (.i .i64 x))],[],H⟩,fun x=>rows.length - x,⟨0,?_⟩,?_⟩
  ·simp only [go_sem,reduceIte,↓reduceIte,sevalprocAttr,Z0,Z1,bytesOf,List.take_zero,mcR]
   exact ⟨Nat.zero_le _,by simp⟩
  ·rintro x _ ⟨hx,rfl⟩
   by_cases hlt:x<rows.length
   ·have d1:decide ((x:Int)<(rows.length:Int))=true:=by simp; omega
    have hlt':((x:Int)<(rows.length:Int)):=by omega
    have hS:=mcR_step rows x hlt
    have hB:=mcR_take rows (x+1)
    have hK0:0≤k+(mcR (rows.take x):Int):=by omega
    have ew:=wrN x (by omega)
    obtain ⟨r,jr,hr,hrl,hcs⟩:=held_row h2 hlt
    obtain ⟨v0,v1,v2,v3,hs,⟨m3,n3⟩⟩:=sh rows[x] (List.getElem_mem hlt)
    rw [hs] at hS hcs
    generalize hkx:k+(mcR (rows.take x):Int)=kx at hK0 hcs ⊢
    simp only [mcC,mcT] at hS
    simp only [mkC,mkT,mkR_cnt] at hcs
    obtain ⟨r_0,r_1,r_2,r_3,rfl⟩:=len4 hrl
    obtain rfl:=cell_p hcs (c:=0) rfl rfl
    obtain rfl:=cell_p hcs (c:=1) rfl rfl
    obtain rfl:=cell_p hcs (c:=2) rfl rfl
    obtain ⟨ids3,ho3⟩:=cell_s hcs (c:=3) rfl rfl
    have w0:=wrK (k:=kx) (by omega) (by omega)
    have w1:=wrK (k:=kx+1) (by omega) (by omega)
    have w2:=wrK (k:=kx+1+1) (by omega) (by omega)
    have w3:decide (kx+1+1+1+(mcR v3:Int)<0)=false:=decide_eq_false (by omega)
    simp only [go_sem,reduceIte,↓reduceIte,sevalprocAttr,Z0,Z1,bytesOf,d1,h1,hr,hlt',w0,w1,w2,w3]
    intro hml
    refine drw_same ?_
    simp only [go_sem,reduceIte,↓reduceIte,sevalprocAttr,Z0,Z1,bytesOf,h1,hr,hlt',w0,w1,w2,w3]
    refine pcall_pure (fun A=>markTextP (kx+1+1) (by omega) (by omega) _) (Hext.refl _) ?_
    simp only [go_sem,reduceIte,↓reduceIte,sevalprocAttr,Z0,Z1,bytesOf,h1,hr,hlt',w0,w1,w2,w3]
    refine acall_pure (m3 _ _ _ (kx+1+1+1) ho3 (by omega) (by omega) n3) ?_
    simp only [go_sem,reduceIte,↓reduceIte,sevalprocAttr,Z0,Z1,bytesOf,h1,hr,hlt',w0,w1,w2,w3]
    simp only [go_sem,reduceIte,↓reduceIte,sevalprocAttr,Z0,Z1,bytesOf,ew]
    refine ⟨x+1,⟨by omega,?_⟩,by omega⟩
    rw [hS]
    simp
    omega
   ·have hx':x=rows.length:=by omega
    subst hx'
    have d1:decide ((rows.length:Int)<(rows.length:Int))=false:=by simp
    simp only [go_sem,reduceIte,↓reduceIte,sevalprocAttr,Z0,Z1,bytesOf,d1,List.take_length]
    intro _
    exact ⟨rfl,rfl⟩
theorem held_CtorInfoS {rows:List (List TV)} (sh:∀ r∈rows,∃ (v0:List UInt8) (v1:Bool) (v2:Int) (v3:Int) (v4:List UInt8) (v5:List (List TV)),r=([.p (.s v0),.p (.b v1),.p (.i .i64 v2),.p (.i .i64 v3),.p (.s v4),.s 4 v5]:List TV)∧(HeldC Tryz.prog 79 4 v5∧v5.length≤1048576)):HeldC Tryz.prog 42 6 rows:=by
 intro H a ids k hO hk0 hk hn
 refine call42 (by simp) ?_
 rw [Own] at hO
 rcases hO with ⟨h0,rfl,rfl⟩ | ⟨id,ver,rs,js,rfl,rfl,h1,h2⟩
 ·have:rows=[]:=by have:=mkR_len rows k; rw [h0] at this; exact List.length_eq_zero_iff.1 this.symm
  subst this
  simp only [go_sem,reduceIte,↓reduceIte,sevalprocAttr,Z0,Z1,bytesOf,mc42,mr42]
  refine ⟨Unit,[0,1,4,5],fun _ st=>st=⟨[(0,.p .nl),(1,.p (.i .i64 k)),(4,.p (.i .i64 0)),(5,.p (.i .i64 0))],[],H⟩,fun _=>0,⟨(),rfl⟩,?_⟩
  rintro _ _ rfl
  simp only [go_sem,reduceIte,↓reduceIte,sevalprocAttr,Z0,Z1,bytesOf]
  simp [mcR,pureQ]
 ·have hlen:=h2.len
  rw [mkR_len] at hlen
  rw [hlen]
  simp only [go_sem,reduceIte,↓reduceIte,sevalprocAttr,Z0,Z1,bytesOf,mc42,mr42]
  refine ⟨Nat,[0,1,4,5],fun x st=>x≤rows.length∧st=⟨[(0,.gs id ver 0 rows.length),(1,.p (.i .i64 (k+mcR (rows.take x)))),(4,.p (.i .i64 0)),(5,.p (.i .i64 x))],[],H⟩,fun x=>rows.length - x,⟨0,?_⟩,?_⟩
  ·simp only [go_sem,reduceIte,↓reduceIte,sevalprocAttr,Z0,Z1,bytesOf,List.take_zero,mcR]
   exact ⟨Nat.zero_le _,by simp⟩
  ·rintro x _ ⟨hx,rfl⟩
   by_cases hlt:x<rows.length
   ·have d1:decide ((x:Int)<(rows.length:Int))=true:=by simp; omega
    have hlt':((x:Int)<(rows.length:Int)):=by omega
    have hS:=mcR_step rows x hlt
    have hB:=mcR_take rows (x+1)
    have hK0:0≤k+(mcR (rows.take x):Int):=by omega
    have ew:=wrN x (by omega)
    obtain ⟨r,jr,hr,hrl,hcs⟩:=held_row h2 hlt
    obtain ⟨v0,v1,v2,v3,v4,v5,hs,⟨m5,n5⟩⟩:=sh rows[x] (List.getElem_mem hlt)
    rw [hs] at hS hcs
    generalize hkx:k+(mcR (rows.take x):Int)=kx at hK0 hcs ⊢
    simp only [mcC,mcT] at hS
    simp only [mkC,mkT,mkR_cnt] at hcs
    obtain ⟨r_0,r_1,r_2,r_3,r_4,r_5,rfl⟩:=len6 hrl
    obtain rfl:=cell_p hcs (c:=0) rfl rfl
    obtain rfl:=cell_p hcs (c:=1) rfl rfl
    obtain rfl:=cell_p hcs (c:=2) rfl rfl
    obtain rfl:=cell_p hcs (c:=3) rfl rfl
    obtain rfl:=cell_p hcs (c:=4) rfl rfl
    obtain ⟨ids5,ho5⟩:=cell_s hcs (c:=5) rfl rfl
    have w0:=wrK (k:=kx) (by omega) (by omega)
    have w1:=wrK (k:=kx+1) (by omega) (by omega)
    have w2:=wrK (k:=kx+1+1) (by omega) (by omega)
    have w3:=wrK (k:=kx+1+1+1) (by omega) (by omega)
    have w4:=wrK (k:=kx+1+1+1+1) (by omega) (by omega)
    have w5:decide (kx+1+1+1+1+1+(mcR v5:Int)<0)=false:=decide_eq_false (by omega)
    simp only [go_sem,reduceIte,↓reduceIte,sevalprocAttr,Z0,Z1,bytesOf,d1,h1,hr,hlt',w0,w1,w2,w3,w4,w5]
    intro hml
    refine drw_same ?_
    simp only [go_sem,reduceIte,↓reduceIte,sevalprocAttr,Z0,Z1,bytesOf,h1,hr,hlt',w0,w1,w2,w3,w4,w5]
    refine pcall_pure (fun A=>markTextP (kx) (by omega) (by omega) _) (Hext.refl _) ?_
    simp only [go_sem,reduceIte,↓reduceIte,sevalprocAttr,Z0,Z1,bytesOf,h1,hr,hlt',w0,w1,w2,w3,w4,w5]
    refine condK_no (by congr) ?_
    simp only [go_sem,reduceIte,↓reduceIte,sevalprocAttr,Z0,Z1,bytesOf,h1,hr,hlt',w0,w1,w2,w3,w4,w5]
    refine drw_same ?_
    simp only [go_sem,reduceIte,↓reduceIte,sevalprocAttr,Z0,Z1,bytesOf,h1,hr,hlt',w0,w1,w2,w3,w4,w5]
    refine pcall_pure (fun A=>markTextP (kx+1+1+1+1) (by omega) (by omega) _) (Hext.refl _) ?_
    simp only [go_sem,reduceIte,↓reduceIte,sevalprocAttr,Z0,Z1,bytesOf,h1,hr,hlt',w0,w1,w2,w3,w4,w5]
    refine acall_pure (m5 _ _ _ (kx+1+1+1+1+1) ho5 (by omega) (by omega) n5) ?_
    simp only [go_sem,reduceIte,↓reduceIte,sevalprocAttr,Z0,Z1,bytesOf,h1,hr,hlt',w0,w1,w2,w3,w4,w5]
    simp only [go_sem,reduceIte,↓reduceIte,sevalprocAttr,Z0,Z1,bytesOf,ew]
    refine ⟨x+1,⟨by omega,?_⟩,by omega⟩
    rw [hS]
    simp
    omega
   ·have hx':x=rows.length:=by omega
    subst hx'
    have d1:decide ((rows.length:Int)<(rows.length:Int))=false:=by simp
    simp only [go_sem,reduceIte,↓reduceIte,sevalprocAttr,Z0,Z1,bytesOf,d1,List.take_length]
    intro _
    exact ⟨rfl,rfl⟩
theorem held_DataInfoS {rows:List (List TV)} (sh:∀ r∈rows,∃ (v0:List UInt8) (v1:Int) (v2:List (List TV)),r=([.p (.s v0),.p (.i .i64 v1),.s 6 v2]:List TV)∧(HeldC Tryz.prog 42 6 v2∧v2.length≤1048576)):HeldC Tryz.prog 16 3 rows:=by
 intro H a ids k hO hk0 hk hn
 refine call16 (by simp) ?_
 rw [Own] at hO
 rcases hO with ⟨h0,rfl,rfl⟩ | ⟨id,ver,rs,js,rfl,rfl,h1,h2⟩
 ·have:rows=[]:=by have:=mkR_len rows k; rw [h0] at this; exact List.length_eq_zero_iff.1 this.symm
  subst this
  simp only [go_sem,reduceIte,↓reduceIte,sevalprocAttr,Z0,Z1,bytesOf,mc16,mr16]
  refine ⟨Unit,[0,1,4,5],fun _ st=>st=⟨[(0,.p .nl),(1,.p (.i .i64 k)),(4,.p (.i .i64 0)),(5,.p (.i .i64 0))],[],H⟩,fun _=>0,⟨(),rfl⟩,?_⟩
  rintro _ _ rfl
  simp only [go_sem,reduceIte,↓reduceIte,sevalprocAttr,Z0,Z1,bytesOf]
  simp [mcR,pureQ]
 ·have hlen:=h2.len
  rw [mkR_len] at hlen
  rw [hlen]
  simp only [go_sem,reduceIte,↓reduceIte,sevalprocAttr,Z0,Z1,bytesOf,mc16,mr16]
  refine ⟨Nat,[0,1,4,5],fun x st=>x≤rows.length∧st=⟨[(0,.gs id ver 0 rows.length),(1,.p (.i .i64 (k+mcR (rows.take x)))),(4,.p (.i .i64 0)),(5,.p (.i .i64 x))],[],H⟩,fun x=>rows.length - x,⟨0,?_⟩,?_⟩
  ·simp only [go_sem,reduceIte,↓reduceIte,sevalprocAttr,Z0,Z1,bytesOf,List.take_zero,mcR]
   exact ⟨Nat.zero_le _,by simp⟩
  ·rintro x _ ⟨hx,rfl⟩
   by_cases hlt:x<rows.length
   ·have d1:decide ((x:Int)<(rows.length:Int))=true:=by simp; omega
    have hlt':((x:Int)<(rows.length:Int)):=by omega
    have hS:=mcR_step rows x hlt
    have hB:=mcR_take rows (x+1)
    have hK0:0≤k+(mcR (rows.take x):Int):=by omega
    have ew:=wrN x (by omega)
    obtain ⟨r,jr,hr,hrl,hcs⟩:=held_row h2 hlt
    obtain ⟨v0,v1,v2,hs,⟨m2,n2⟩⟩:=sh rows[x] (List.getElem_mem hlt)
    rw [hs] at hS hcs
    generalize hkx:k+(mcR (rows.take x):Int)=kx at hK0 hcs ⊢
    simp only [mcC,mcT] at hS
    simp only [mkC,mkT,mkR_cnt] at hcs
    obtain ⟨r_0,r_1,r_2,rfl⟩:=len3 hrl
    obtain rfl:=cell_p hcs (c:=0) rfl rfl
    obtain rfl:=cell_p hcs (c:=1) rfl rfl
    obtain ⟨ids2,ho2⟩:=cell_s hcs (c:=2) rfl rfl
    have w0:=wrK (k:=kx) (by omega) (by omega)
    have w1:=wrK (k:=kx+1) (by omega) (by omega)
    have w2:decide (kx+1+1+(mcR v2:Int)<0)=false:=decide_eq_false (by omega)
    simp only [go_sem,reduceIte,↓reduceIte,sevalprocAttr,Z0,Z1,bytesOf,d1,h1,hr,hlt',w0,w1,w2]
    intro hml
    refine drw_same ?_
    simp only [go_sem,reduceIte,↓reduceIte,sevalprocAttr,Z0,Z1,bytesOf,h1,hr,hlt',w0,w1,w2]
    refine pcall_pure (fun A=>markTextP (kx) (by omega) (by omega) _) (Hext.refl _) ?_
    simp only [go_sem,reduceIte,↓reduceIte,sevalprocAttr,Z0,Z1,bytesOf,h1,hr,hlt',w0,w1,w2]
    refine acall_pure (m2 _ _ _ (kx+1+1) ho2 (by omega) (by omega) n2) ?_
    simp only [go_sem,reduceIte,↓reduceIte,sevalprocAttr,Z0,Z1,bytesOf,h1,hr,hlt',w0,w1,w2]
    simp only [go_sem,reduceIte,↓reduceIte,sevalprocAttr,Z0,Z1,bytesOf,ew]
    refine ⟨x+1,⟨by omega,?_⟩,by omega⟩
    rw [hS]
    simp
    omega
   ·have hx':x=rows.length:=by omega
    subst hx'
    have d1:decide ((rows.length:Int)<(rows.length:Int))=false:=by simp
    simp only [go_sem,reduceIte,↓reduceIte,sevalprocAttr,Z0,Z1,bytesOf,d1,List.take_length]
    intro _
    exact ⟨rfl,rfl⟩
end Go.Proofs.YtnelfbcgplooiaaGreat.Pg