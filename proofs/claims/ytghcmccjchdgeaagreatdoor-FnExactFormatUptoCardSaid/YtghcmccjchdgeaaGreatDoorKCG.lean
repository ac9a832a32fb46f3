/- Texts QfZ QgC QgD, merged. -/
import Derived.Test.YtghcmccjchdgeaaGreatDoorKCF
set_option linter.all false
namespace Go.Proofs.YtghcmccjchdgeaaGreatDoor.Qp
open Go.AM Go.Shelf Mc Pg
theorem joinC_take (l : List CtorD) (x : Nat) : (joinD [32, 124, 32] ((l.take x).map CtorD.form)).length ≤ 100 * ctorsSz l := by
  have h : ∀ (l : List CtorD) (x : Nat), ctorsSz (l.take x) ≤ ctorsSz l := by
    intro l
    induction l with
    | nil => intro x; simp
    | cons a l ih =>
      intro x
      cases x with
      | zero => simp [ctorsSz]
      | succ x => have := ih x; rw [List.take_succ_cons, ctorsSz, ctorsSz]; omega
  have h1 := ctors_len (l.take x)
  have h2 := h l x
  omega
theorem printSC {g:ProgD} (hg:g.sz<=1073741824) (hf:g.body.fit) (H:List AO):ACall Tryz.prog 43 [avC g.cells] H (pureQ (.p (.s g.print)) H):=by
 obtain ⟨ds,b⟩:=g
 have hpo:=progOkSC ⟨ds,b⟩ hg
 simp only [ProgD.sz] at hg
 simp only at hf
 refine acall_drop1 ?_ (tf_p _)
 refine call43 (by simp) ?_
 unfold ProgD.print
 cases hok:ProgD.okB ⟨ds,b⟩
 ·rw [hok] at hpo
  obtain ⟨k,n,u,t,p,ks,as'⟩:=b
  simp only [ProgD.cells,ExpD.cells,avC,List.map_cons,List.map_nil] at hpo
  simp only [go_sem,simprocAttr,mc43,mr43,ProgD.cells,ExpD.cells,avC]
  refine acall_pure (hpo _) ?_
  simp only [go_sem,simprocAttr]
  exact ⟨_,rfl⟩
 rw [hok] at hpo
 simp only [ProgD.okB,Bool.and_eq_true,List.all_eq_true] at hok
 have h2:=textSC b (by omega) hok.1 hf 0
 have l1:=datas_len ds
 have l2:=ExpD.kf_len b hf
 have l3:=(at_len b.kf 0).1
 have e:ProgD.form ⟨ds,b⟩=(ds.map DataD.form).flatten++(b.kf.at 0++[10]):=rfl
 rw [e]
 clear e
 have hds:∀ d∈ds,d.sz<=1073741824/\d.okB=true:=fun d hd=>⟨by have:=datasSz_mem hd; omega,hok.2 d hd⟩
 clear hok
 generalize b.kf.at 0=s2 at *
 have hb2:s2.length<=200000000000:=by omega
 clear l2 l3
 obtain ⟨k,n,u,t,p,ks,as'⟩:=b
 simp only [ProgD.cells,ExpD.cells,avC,List.map_cons,List.map_nil] at hpo h2
 simp only [go_sem,simprocAttr,mc43,mr43,ProgD.cells,ExpD.cells,avC]
 refine acall_pure (hpo _) ?_
 simp only [go_sem,simprocAttr]
 have hB:=Bh.nil H (.var [.p (.l (ds.map DataD.cells)),.p (.i .i64 k),.p (.s n),.p (.i .i64 u),.p (.s t),.p (.i .i64 p),.p (.l (ExpD.cellsL ks)),.p (.l (ExpD.cellsA as'))])
 generalize hV:AO.var [.p (.l (ds.map DataD.cells)),.p (.i .i64 k),.p (.s n),.p (.i .i64 u),.p (.s t),.p (.i .i64 p),.p (.l (ExpD.cellsL ks)),.p (.l (ExpD.cellsA as'))]=V at hB
 generalize H++[V]=X at hB
 refine ⟨Nat × List AO,[1,2,3,4],fun x st=>(x.1<=ds.length/\Bh H V x.2)/\st=⟨[(1,.ptr H.length 0),(2,.p (.s [])),(3,.p (.s ((ds.take x.1).map DataD.form).flatten)),(4,.p (.i .i64 x.1))],[],x.2⟩,fun x=>ds.length - x.1,⟨(0,X),?_⟩,?_⟩
 ·simp only [go_sem,simprocAttr]
  exact ⟨⟨Nat.zero_le _,hB⟩,rfl⟩
 rintro ⟨x,Y⟩ _ ⟨⟨hx,hY⟩,rfl⟩
 simp only at hx hY
 have hz0:=hY.at0
 rw [<- hV] at hz0
 have b1:=flat_take DataD.form ds x
 by_cases hlt:x<ds.length
 ·have d1:decide ((x:Int)<(ds.length:Int))=true:=by simp; omega
  have hlt':(x:Int)<(ds.length:Int):=by omega
  have hg:(ds.map DataD.cells)[x]?=some (DataD.cells ds[x]):=by simp [hlt]
  have hc:=hds ds[x] (List.getElem_mem hlt)
  have hj:=flat_at DataD.form hlt
  generalize ((ds.take x).map DataD.form).flatten=S0 at b1 hj ⊢
  generalize ds[x]=d at hg hc hj
  obtain ⟨dn,dv,dc,dp⟩:=d
  simp only [DataD.sz,DataD.okB,Bool.and_eq_true] at hc
  obtain ⟨hc,_,_,_,_,hcs⟩:=hc
  rw [List.all_eq_true] at hcs
  have eF:DataD.form ⟨dn,dv,dc,dp⟩=[116,121,112,101,32]++((dv.map varF).flatten++(dn++([32,61,32]++(joinD [32,124,32] (dc.map CtorD.form)++[59,10])))):=rfl
  rw [eF] at hj
  simp only [DataD.cells] at hg
  simp only [go_sem,simprocAttr,d1,hlt',hg,hz0,List.length_map]
  intro hl
  rw [maxLe] at hl
  have hY1:=hY.ext [.var [.p (.s dn),.p (.l (namesC dv)),.p (.l (dc.map CtorD.cells)),.p (.i .i64 dp)]]
  have hz4:=(Bh.nil Y (.var [.p (.s dn),.p (.l (namesC dv)),.p (.l (dc.map CtorD.cells)),.p (.i .i64 dp)])).at
  have hY4:=fun A=>hY1.ext A
  have hz5:=hz4 []
  rw [List.append_nil] at hz5
  generalize hY2:Y++[AO.var [.p (.s dn),.p (.l (namesC dv)),.p (.l (dc.map CtorD.cells)),.p (.i .i64 dp)]]=Y2 at hY1 hz4 hY4 hz5
  have q1:=vars_len dv
  have qn:=names_cnt dv
  have qc:=ctors_cnt dc
  repeat' first
   | (with_reducible refine condK_split _ (fun h=>?_) (fun h=>?_) <;> simp only [go_sem,simprocAttr,h,List.length_map])
   | (refine drw_same ?_; simp only [go_sem,simprocAttr,List.length_map])
   | (refine And.intro (by (try simp only [maxLe,LL]); omega) ?_; try simp only [go_sem,simprocAttr,List.length_map])
   | (intro _)
  refine ⟨Nat,[1,2,3,4,5,6],fun z st=>z<=dv.length/\st=⟨[(1,.ptr H.length 0),(2,.p (.s [])),(3,.p (.s (S0++([116,121,112,101,32]++((dv.take z).map varF).flatten)))),(4,.p (.i .i64 x)),(5,.ptr Y.length 0),(6,.p (.i .i64 z))],[],Y2⟩,fun z=>dv.length - z,⟨0,?_⟩,?_⟩
  ·simp only [go_sem,simprocAttr]
   exact ⟨Nat.zero_le _,by simp⟩
  rintro z _ ⟨hx5,rfl⟩
  have q2:=flat_take varF dv z
  have hl5:(namesC dv).length=dv.length:=by simp [namesC]
  by_cases hlt5:z<dv.length
  ·have d5:decide ((z:Int)<(dv.length:Int))=true:=by simp; omega
   have hlt5':(z:Int)<(dv.length:Int):=by omega
   have hg5:(namesC dv)[z]?=some [.s dv[z]]:=by simp [namesC,hlt5]
   have hc5:dv[z].length<=1073741824:=by have:=namesSz_mem (List.getElem_mem hlt5); omega
   have hj5:=flat_at varF hlt5
   generalize ((dv.take z).map varF).flatten=S1 at q2 hj5 ⊢
   generalize dv[z]=w at hg5 hc5 hj5
   simp only [go_sem,simprocAttr,d5,hlt5',hg5,hz5,hl5]
   repeat' first
    | (with_reducible refine condK_split _ (fun h=>?_) (fun h=>?_) <;> simp only [go_sem,simprocAttr,h,hlt5',hg5,hz5,hl5,wrN z (by omega)])
    | (refine drw_same ?_; simp only [go_sem,simprocAttr,hlt5',hg5,hz5,hl5,wrN z (by omega)])
    | (refine And.intro (by (try simp only [maxLe,LL]); omega) ?_; try simp only [go_sem,simprocAttr,hlt5',hg5,hz5,hl5,wrN z (by omega)])
    | (intro _)
   all_goals exact ⟨z+1,⟨by omega,by rw [hj5,varF] <;> simp [wrN z (by omega)]⟩,by omega⟩
  have d5:decide ((z:Int)<(dv.length:Int))=false:=by simp; omega
  rw [List.take_of_length_le (by omega)] at q2 ⊢
  generalize (dv.map varF).flatten=S1 at q1 q2 hj ⊢
  simp only [go_sem,simprocAttr,d5,hz5,hl5]
  repeat' first
   | (with_reducible refine condK_split _ (fun h=>?_) (fun h=>?_) <;> simp only [go_sem,simprocAttr,h,hz5,hl5])
   | (refine drw_same ?_; simp only [go_sem,simprocAttr,hz5,hl5])
   | (refine And.intro (by (try simp only [maxLe,LL]); omega) ?_; try simp only [go_sem,simprocAttr,hz5,hl5])
   | (intro _)
  refine ⟨Nat,[1,2,3,4,5,7],fun z st=>z<=dc.length/\st=⟨[(1,.ptr H.length 0),(2,.p (.s [])),(3,.p (.s (S0++([116,121,112,101,32]++(S1++(dn++([32,61,32]++joinD [32,124,32] ((dc.take z).map CtorD.form)))))))),(4,.p (.i .i64 x)),(5,.ptr Y.length 0),(7,.p (.i .i64 z))],[],Y2⟩,fun z=>dc.length - z,⟨0,?_⟩,?_⟩
  ·simp only [go_sem,simprocAttr]
   exact ⟨Nat.zero_le _,by simp [joinD]⟩
  rintro y _ ⟨hy,rfl⟩
  have q3:=joinC_take dc y
  by_cases hlt7:y<dc.length
  ·have d7:decide ((y:Int)<(dc.length:Int))=true:=by simp; omega
   have hlt7':(y:Int)<(dc.length:Int):=by omega
   have hg7:(dc.map CtorD.cells)[y]?=some (CtorD.cells dc[y]):=by simp [hlt7]
   have hc7:dc[y].sz<=1073741824:=by have:=ctorsSz_mem (List.getElem_mem hlt7); omega
   have ho7:=hcs dc[y] (List.getElem_mem hlt7)
   have hj7:=joinD_step [32,124,32] CtorD.form hlt7
   have hj0:y=0->joinD [32,124,32] ((dc.take y).map CtorD.form)=[]:=by rintro rfl; rfl
   generalize joinD [32,124,32] ((dc.take y).map CtorD.form)=S2 at q3 hj7 hj0 ⊢
   generalize dc[y]=w at hg7 hc7 ho7 hj7
   obtain ⟨cn,ch,ca,cp⟩:=w
   simp only [CtorD.sz] at hc7
   simp only [CtorD.okB,Bool.and_eq_true] at ho7
   simp only [CtorD.form] at hj7
   have q4:=TyE.kf_len ca
   have q5:=(at_len ca.kf 0).1
   have t1:ch=true->TySC ca:=fun h=>tySC ca (by omega) (by have:=ho7.2.2; rwa [if_pos h] at this)
   generalize hs5:ca.kf.at 0=s5 at hj7 q5
   have t1:ch=true->∀ H,ACall Tryz.prog 80 [avC ca.cells,.p (.i .i64 0)] H (pureQ (.p (.s s5)) H):=fun h H=>by rw [<- hs5]; exact t1 h 0 H
   clear hs5
   have hb5:s5.length<=200000000000:=by omega
   clear q4 q5
   obtain ⟨ak,an,ap,aks⟩:=ca
   simp only [CtorD.cells,TyE.cells,avC,List.map_cons,List.map_nil,List.cons_append,List.nil_append] at hg7 t1
   by_cases hy0:y=0
   ·rw [if_pos hy0] at hj7
    have hj0:=hj0 hy0
    subst hj0
    have d0:decide ((0:Int)<(y:Int))=false:=by simp; omega
    simp only [go_sem,simprocAttr,d7,d0,hlt7',hg7,hz5,List.length_map]
    cases ch
    ·skip
     repeat' first
      | (with_reducible refine condK_split _ (fun h=>?_) (fun h=>?_) <;> simp only [go_sem,simprocAttr,h,d7,d0,hlt7',hg7,hz5,List.length_map,wrN y (by omega)])
      | (refine drw_same ?_; simp only [go_sem,simprocAttr,d7,d0,hlt7',hg7,hz5,List.length_map,wrN y (by omega)])
      | (refine And.intro (by (try simp only [maxLe,LL]); omega) ?_; try simp only [go_sem,simprocAttr,d7,d0,hlt7',hg7,hz5,List.length_map,wrN y (by omega)])
      | (intro _)
     all_goals exact ⟨y+1,⟨by omega,by rw [hj7] <;> simp [wrN y (by omega)]⟩,by omega⟩
    ·have t1:=t1 rfl
     repeat' first
      | (with_reducible refine condK_split _ (fun h=>?_) (fun h=>?_) <;> simp only [go_sem,simprocAttr,h,d7,d0,hlt7',hg7,hz5,List.length_map,wrN y (by omega)])
      | (with_reducible refine acall_pure (t1 _) ?_; simp only [go_sem,simprocAttr,d7,d0,hlt7',hg7,hz5,List.length_map,wrN y (by omega)])
      | (refine drw_same ?_; simp only [go_sem,simprocAttr,d7,d0,hlt7',hg7,hz5,List.length_map,wrN y (by omega)])
      | (refine And.intro (by (try simp only [maxLe,LL]); omega) ?_; try simp only [go_sem,simprocAttr,d7,d0,hlt7',hg7,hz5,List.length_map,wrN y (by omega)])
      | (intro _)
     all_goals exact ⟨y+1,⟨by omega,by rw [hj7] <;> simp [wrN y (by omega)]⟩,by omega⟩
   rw [if_neg hy0] at hj7
   have d0:decide ((0:Int)<(y:Int))=true:=by simp; omega
   simp only [go_sem,simprocAttr,d7,d0,hlt7',hg7,hz5,List.length_map]
   cases ch
   ·skip
    repeat' first
     | (with_reducible refine condK_split _ (fun h=>?_) (fun h=>?_) <;> simp only [go_sem,simprocAttr,h,d7,d0,hlt7',hg7,hz5,List.length_map,wrN y (by omega)])
     | (refine drw_same ?_; simp only [go_sem,simprocAttr,d7,d0,hlt7',hg7,hz5,List.length_map,wrN y (by omega)])
     | (refine And.intro (by (try simp only [maxLe,LL]); omega) ?_; try simp only [go_sem,simprocAttr,d7,d0,hlt7',hg7,hz5,List.length_map,wrN y (by omega)])
     | (intro _)
    all_goals exact ⟨y+1,⟨by omega,by rw [hj7] <;> simp [wrN y (by omega)]⟩,by omega⟩
   ·have t1:=t1 rfl
    repeat' first
     | (with_reducible refine condK_split _ (fun h=>?_) (fun h=>?_) <;> simp only [go_sem,simprocAttr,h,d7,d0,hlt7',hg7,hz5,List.length_map,wrN y (by omega)])
     | (with_reducible refine acall_pure (t1 _) ?_; simp only [go_sem,simprocAttr,d7,d0,hlt7',hg7,hz5,List.length_map,wrN y (by omega)])
     | (refine drw_same ?_; simp only [go_sem,simprocAttr,d7,d0,hlt7',hg7,hz5,List.length_map,wrN y (by omega)])
     | (refine And.intro (by (try simp only [maxLe,LL]); omega) ?_; try simp only [go_sem,simprocAttr,d7,d0,hlt7',hg7,hz5,List.length_map,wrN y (by omega)])
     | (intro _)
    all_goals exact ⟨y+1,⟨by omega,by rw [hj7] <;> simp [wrN y (by omega)]⟩,by omega⟩
  have d7:decide ((y:Int)<(dc.length:Int))=false:=by simp; omega
  rw [List.take_of_length_le (by omega)] at q3 ⊢
  generalize joinD [32,124,32] (dc.map CtorD.form)=S2 at q3 hj ⊢
  simp only [go_sem,simprocAttr,d7,hz5,List.length_map,wrN x (by omega)]
  repeat' first
   | (with_reducible refine condK_split _ (fun h=>?_) (fun h=>?_) <;> simp only [go_sem,simprocAttr,h,d7,hz5,List.length_map,wrN x (by omega)])
   | (refine drw_same ?_; simp only [go_sem,simprocAttr,d7,hz5,List.length_map,wrN x (by omega)])
   | (refine And.intro (by (try simp only [maxLe,LL]); omega) ?_; try simp only [go_sem,simprocAttr,d7,hz5,List.length_map,wrN x (by omega)])
   | (intro _)
  all_goals exact ⟨(x+1,_),⟨⟨by omega,hY1⟩,by rw [hj] <;> simp [wrN x (by omega)]⟩,by simp only; omega⟩
 ·have d1:decide ((x:Int)<(ds.length:Int))=false:=by simp; omega
  rw [List.take_of_length_le (by omega)] at b1 ⊢
  generalize (ds.map DataD.form).flatten=S0 at *
  simp only [go_sem,simprocAttr,d1,hz0,List.length_map]
  repeat' first
   | (with_reducible refine condK_split _ (fun h=>?_) (fun h=>?_) <;> simp only [go_sem,simprocAttr,h,hz0,List.length_map])
   | (with_reducible refine acall_pure (h2 _) ?_; simp only [go_sem,simprocAttr,hz0,List.length_map])
   | (refine drw_same ?_; simp only [go_sem,simprocAttr,hz0,List.length_map])
   | (refine And.intro (by (try simp only [maxLe,LL]); omega) ?_; try simp only [go_sem,simprocAttr,hz0,List.length_map])
   | (intro _)
  all_goals first | exact ⟨Qp.s2 (by simp),hY.ends⟩ | exact hY.ends
end Go.Proofs.YtghcmccjchdgeaaGreatDoor.Qp
namespace Go.Proofs.YtghcmccjchdgeaaGreatDoor.Pg
open Go.AM
mutual
theorem TyE.sz_lit : ∀ t : TyE, t.lit → t.sz + 1 ≤ 8200 * mcC t.tv
  | .mk k n p ks, h => by
    rw [TyE.lit] at h
    have := TyE.szL_lit ks h.2
    rw [TyE.sz, mc_ty]; omega
theorem TyE.szL_lit : ∀ l : List TyE, TyE.litL l → TyE.szL l ≤ 8200 * mcR (l.map TyE.tv)
  | [], _ => by simp [TyE.szL]
  | t :: l, h => by
    rw [TyE.litL] at h
    have := TyE.sz_lit t h.1
    have := TyE.szL_lit l h.2
    rw [TyE.szL, List.map_cons, mcR]; omega
end
mutual
theorem PatD.sz_lit : ∀ t : PatD, t.lit → t.sz + 1 ≤ 8200 * mcC t.tv ∧ t.fit
  | .mk k n u p ks, h => by
    rw [PatD.lit] at h
    have := PatD.szL_lit ks h.2.2
    rw [PatD.sz, mc_pat, PatD.fit]
    exact ⟨by omega, h.2.1, this.2⟩
theorem PatD.szL_lit : ∀ l : List PatD, PatD.litL l → PatD.szL l ≤ 8200 * mcR (l.map PatD.tv) ∧ PatD.fitL l
  | [], _ => by simp [PatD.szL, PatD.fitL]
  | t :: l, h => by
    rw [PatD.litL] at h
    have h1 := PatD.sz_lit t h.1
    have h2 := PatD.szL_lit l h.2
    rw [PatD.szL, List.map_cons, mcR, PatD.fitL]
    exact ⟨by omega, h1.2, h2.2⟩
end
mutual
theorem ExpD.sz_lit : ∀ t : ExpD, t.lit → t.sz + 1 ≤ 8200 * mcC t.tv ∧ t.fit
  | .mk k n u t p ks as', h => by
    rw [ExpD.lit] at h
    have h1 := ExpD.szL_lit ks h.2.2.2.1
    have h2 := ExpD.szA_lit as' h.2.2.2.2
    rw [ExpD.sz, mc_exp, ExpD.fit]
    exact ⟨by omega, h.2.2.1, h1.2, h2.2⟩
theorem ExpD.szL_lit : ∀ l : List ExpD, ExpD.litL l → ExpD.szL l ≤ 8200 * mcR (l.map ExpD.tv) ∧ ExpD.fitL l
  | [], _ => by simp [ExpD.szL, ExpD.fitL]
  | t :: l, h => by
    rw [ExpD.litL] at h
    have h1 := ExpD.sz_lit t h.1
    have h2 := ExpD.szL_lit l h.2
    rw [ExpD.szL, List.map_cons, mcR, ExpD.fitL]
    exact ⟨by omega, h1.2, h2.2⟩
theorem ExpD.szA_lit : ∀ l : List ArmD, ExpD.litA l → ExpD.szA l ≤ 8200 * mcR (l.map ArmD.tv) ∧ ExpD.fitA l
  | [], _ => by simp [ExpD.szA, ExpD.fitA]
  | .mk p e :: l, h => by
    rw [ExpD.litA, ArmD.lit] at h
    have h0 := PatD.sz_lit p h.1.1
    have h1 := ExpD.sz_lit e h.1.2
    have h2 := ExpD.szA_lit l h.2
    rw [ExpD.szA, List.map_cons, mcR, ExpD.fitA, ArmD.fit, ArmD.sz, ArmD.tv, mcC_app]
    exact ⟨by omega, ⟨h0.2, h1.2⟩, h2.2⟩
end
theorem names_lit : ∀ l : List (List UInt8), (∀ v ∈ l, v.length ≤ 4000) → namesSz l ≤ 8200 * l.length
  | [], _ => by simp [namesSz]
  | a :: l, h => by
    have := h a (by simp)
    have := names_lit l fun v hv => h v (by simp [hv])
    rw [namesSz, List.length_cons]; omega
theorem ctors_lit : ∀ l : List CtorD, (∀ c ∈ l, c.lit) → ctorsSz l ≤ 8200 * mcR (l.map CtorD.tv)
  | [], _ => by simp [ctorsSz]
  | ⟨n, h, t, p⟩ :: l, hl => by
    obtain ⟨h1, h2⟩ := hl ⟨n, h, t, p⟩ (by simp)
    simp only at h1 h2
    have := TyE.sz_lit t h2
    have := ctors_lit l fun v hv => hl v (by simp [hv])
    rw [ctorsSz, List.map_cons, mcR, mc_ctor]
    simp only [CtorD.sz]
    omega
theorem datas_lit : ∀ l : List DataD, (∀ c ∈ l, c.lit) → datasSz l ≤ 8200 * mcR (l.map DataD.tv)
  | [], _ => by simp [datasSz]
  | ⟨n, vs, cs, p⟩ :: l, hl => by
    obtain ⟨h1, h2, h3⟩ := hl ⟨n, vs, cs, p⟩ (by simp)
    simp only at h1 h2 h3
    have := names_lit vs h2
    have := ctors_lit cs h3
    have := datas_lit l fun v hv => hl v (by simp [hv])
    rw [datasSz, List.map_cons, mcR, mc_data]
    simp only [DataD.sz]
    omega
open Qp in
theorem parsedP_fit (s:List UInt8):(parsedP s).1.sz<=1073741824/\(parsedP s).1.body.fit:=by
 have h1:=parsedP_mc s
 have h2:=parsedP_lit s
 generalize (parsedP s).1=g at h1 h2
 obtain ⟨ds,e⟩:=g
 obtain ⟨h3,h4⟩:=h2
 simp only at h3 h4
 have h5:=datas_lit ds h3
 have h6:=ExpD.sz_lit e h4
 rw [mc_prog] at h1
 rw [ProgD.sz]
 exact ⟨by simp only; omega,h6.2⟩
end Go.Proofs.YtghcmccjchdgeaaGreatDoor.Pg
namespace Go.AM
variable {P:Program} {θ:Th} {W:Im}
theorem SR.frzT {H : List AO} {w : World} (h : SR θ W H w) {i b : Nat} {v : Value} {o : Obj} (hi : H[i]? = some (.tab b v o)) : SR noTh (AM.frz θ W w) [.tab b v o] w := by
  have h0 := h.frz
  refine ⟨h0.imm, fun id ob hid => ?_, fun _ _ _ => rfl, h0.own, h0.inj⟩
  cases id with
  | zero =>
    cases hid
    obtain ⟨h1, h2, _⟩ := h.obj i _ hi
    exact ⟨h.frz_ext _ _ _ h1, h2, fun _ => rfl⟩
  | succ id => simp at hid
theorem acall_lendT {f:Nat} {xs bs:List AV} {H:List AO} {Q:AV->List AO->Prop} {i b:Nat} {v:Value} {o:Obj} (hi:H[i]?=some (.tab b v o)) (h:ACall P f bs [.tab b v o] Q) (hg:∀ r H',Q r H'->Grnd r) (hl:LentAll H xs bs) :
  ACall P f xs H (fun r H'=>H'=H/\∃ H0,Q r H0):=by
 refine ⟨h.1,fun w θ W vs hSR hrel=>?_⟩
 have hrel':Rels noTh (AM.frz θ W w) bs vs:=by
  refine ⟨hrel.1.trans hl.1,fun j b v hb hv=>?_⟩
  have hlt:j<xs.length:=by rw [hl.1]; exact (List.getElem?_eq_some_iff.1 hb).1
  exact lent_rel hSR (hl.2 j xs[j] b (by simp [hlt]) hb) (hrel.2 j xs[j] v (by simp [hlt]) hv)
 refine (h.2 w noTh (AM.frz θ W w) vs (hSR.frzT hi) hrel').mono ?_
 rintro e w' ⟨v,r,H',θ',W',rfl,hq,hSR',hA,hS⟩
 have hold:=hS.old_heap
 refine ⟨v,r,H,θ,W,rfl,⟨rfl,H',hq⟩,⟨fun b o u hu=>?_,fun id ob hid=>?_,hSR.out,hSR.own,hSR.inj⟩,hg r H' hq _ _ _ _ _ hA,⟨hS.os,hS.tape,hS.output,hS.size,fun b hb _=>hold b hb,fun _ _ _ h=>h,fun _ _ _ _=>rfl,fun _ _ _=>.inl rfl,fun _ h=>.inl h⟩⟩
 ·have hc:=hSR.imm b o u hu
  have:=hold b (cell_old hc)
  simp only [World.cell?] at hc ⊢
  rw [this]; exact hc
 ·exact (hSR.obj id ob hid).mono (fun _=>rfl) (fun ver b sz tot ho=>hold b (hSR.ownedLt ho)) (fun _ _ h=>h) (ht:=fun b v o hv ho=>by rw [hold b (hSR.lt hv)]; exact ho)
end Go.AM
namespace Go.Proofs.YtghcmccjchdgeaaGreatDoor.Pg
open Go.AM Mc Qp
theorem parsedP_z (s:List UInt8):(parsedP s).2.1=0->(parsedP s).2.2=0:=by
 unfold parsedP
 rcases hl:lexD s with T | ⟨c,i⟩
 ·simp only
  rw [told_e]
  split
  ·intro _; rfl
  ·rename_i h1
   split at h1
   ·cases h1
   ·rename_i h2; cases h1; exact fun h=>(h2 h).elim
 ·exact fun h=>(lexD_ne hl h).elim
def fmtD (s:List UInt8):List UInt8:=if (parsedP s).2.1=0 then (parsedP s).1.print else []
theorem specFormat {s:List UInt8} {H:List AO} (hs:s.length<=1048576):ACall Tryz.prog 18 [.p (.s s)] H (pureQ (.tup [.p (.s (fmtD s)),ftC (parsedP s).2.1 (parsedP s).2.2]) H):=by
 obtain ⟨hf1,hf2⟩:=parsedP_fit s
 have hp:=fun H=>specParse (s:=s) (H:=H) (by omega)
 have hpr:=fun H=>printSC hf1 hf2 H
 unfold fmtD
 generalize parsedP s=R at *
 obtain ⟨⟨ds,⟨k,n,u,t,p,ks,as'⟩⟩,c,q⟩:=R
 simp only [ProgD.cells,ExpD.cells,avC,List.map_cons,List.map_nil] at hp hpr
 refine acall_frz1 ?_
 refine call18 (by simp) ?_
 simp only [go_sem,simprocAttr,mc18,mr18]
 refine acall_pure (hp _) ?_
 by_cases hc:c=0
 ·subst hc
  simp only [go_sem,simprocAttr,ProgD.cells,ExpD.cells,decide_true,Bool.not_true,decide_not]
  repeat' first
   | (with_reducible refine condK_split _ (fun h=>?_) (fun h=>?_) <;> simp only [go_sem,simprocAttr,h])
   | (with_reducible refine pcall_pure (fun A=>hpr _) (Hext.refl _) ?_; simp only [go_sem,simprocAttr])
   | (refine drw_same ?_; simp only [go_sem,simprocAttr])
   | (refine And.intro (by (try simp only [maxLe,LL]); omega) ?_; try simp only [go_sem,simprocAttr])
   | (intro _)
  all_goals exact ⟨_,rfl,lent_two (lentP (tf_p _)) (tf_ft _ _)⟩
 ·simp only [go_sem,simprocAttr,ProgD.cells,ExpD.cells,dF hc,decide_not,Bool.not_true,Bool.not_false]
  repeat' first
   | (with_reducible refine condK_split _ (fun h=>?_) (fun h=>?_) <;> simp only [go_sem,simprocAttr,h])
   | (refine drw_same ?_; simp only [go_sem,simprocAttr])
   | (refine And.intro (by (try simp only [maxLe,LL]); omega) ?_; try simp only [go_sem,simprocAttr])
   | (intro _)
  all_goals rw [if_neg hc]
  all_goals exact ⟨_,rfl,lent_two (lentP (tf_p _)) (tf_ft _ _)⟩
theorem implFormat {s:List UInt8} {H:List AO} (hs:s.length<=1048576) (hg:Rg H) (hT:Tb H):ACall Tryz.prog 19 [.p (.s s)] H (pureQ (.tup [.p (.s (fmtD s)),ftC (parsedP s).2.1 (parsedP s).2.2]) H):=by
 obtain ⟨hf1,hf2⟩:=parsedP_fit s
 have hz:=parsedP_z s
 have hI:=fun (X:List AO) (hr:Rg X)=>implParse (s:=s) (H:=X) (by omega) hr
 obtain ⟨ti,ty,fz,hti⟩:=hT
 have hpr:=fun (X:List AO) (a:AV) (hx:X[ti]?=some (.tab 1 (.int .u64 1) (.cells (Lib.pow10Tab.map fun z=>Value.int .u64 z).toArray ty fz))) (hl:Lent X a (av (parsedP s).1.cells)) =>
  acall_lendT hx (printC hf1 hf2 (H:=[.tab 1 (.int .u64 1) (.cells (Lib.pow10Tab.map fun z=>Value.int .u64 z).toArray ty fz)]) ⟨0,ty,fz,rfl⟩) (by rintro r H' ⟨rfl,_⟩; exact grnd_s _) (lentAll_cons hl (lentAll_nil _))
 unfold fmtD
 generalize parsedP s=R at *
 obtain ⟨⟨ds,⟨k,n,u,t,p,ks,as'⟩⟩,c,q⟩:=R
 refine acall_frz1 ?_
 refine call19 (by simp) ?_
 simp only [go_sem,simprocAttr,mc19,mr19]
 refine (hI _ (hg.ext _)).mono ?_
 rintro r X2 ⟨cs,G,rfl,rfl,hE⟩
 obtain ⟨v0,v,w,rfl⟩:=Env.progC hE
 obtain ⟨ids,o1,_⟩:=hE
 have ht2:=get_ext (get_ext hti [AO.var [iV 0,iV 0]]) G
 have hlent:∀ A,Lent (H++[AO.var [iV 0,iV 0]]++G++A) (.st [v0,iV k,sV n,iV u,sV t,iV p,v,w]) (av (ProgD.cells ⟨ds,.mk k n u t p ks as'⟩)):=fun A=>lentProg (o1.keep fun i _ o h=>get_ext h A)
 have z3:(H++[AO.var [iV 0,iV 0]]++G)[H.length]?=some (.var [iV 0,iV 0]):=get_ext (by rw [gx0]; rfl) G
 have hY:∃ G',H++[AO.var [iV 0,iV 0]]++G=H++G':=⟨_,by rw [List.append_assoc]⟩
 by_cases hc:c=0
 ·obtain rfl:=hz hc
  subst hc
  generalize H++[AO.var [iV 0,iV 0]]++G=Y at *
  have hlt:=get_lt z3
  simp only [go_sem,simprocAttr,decide_true,Bool.not_true,decide_not]
  refine (hpr _ _ (get_ext ht2 _) (hlent _)).mono ?_
  rintro r _ ⟨rfl,_,rfl,_⟩
  have z3':∀ A,(Y++A)[H.length]?=_:=fun A=>get_ext z3 A
  simp only [go_sem,simprocAttr,z3']
  rw [list_set_same (z3' _),z3']
  obtain ⟨G',rfl⟩:=hY
  exact ⟨_,List.append_assoc _ _ _,lent_two (lentP (tf_p _)) (tf_ft _ _)⟩
 ·generalize hYe:H++[AO.var [iV 0,iV 0]]++G=Y at *
  have hlt:=get_lt z3
  have z3':∀ A,(Y++A)[H.length]?=_:=fun A=>get_ext z3 A
  rw [if_neg hc]
  simp only [go_sem,simprocAttr,dF hc,Bool.not_true,Bool.not_false,decide_not,z3']
  repeat' first
   | (with_reducible refine condK_split _ (fun h=>?_) (fun h=>?_) <;> simp only [go_sem,simprocAttr,h,z3'])
   | (refine drw_same ?_; simp only [go_sem,simprocAttr,z3'])
   | (refine And.intro (by (try simp only [maxLe,LL]); omega) ?_; try simp only [go_sem,simprocAttr,z3'])
   | (intro _)
  subst hYe
  simp only [List.append_assoc,List.cons_append,List.nil_append,sx0,gx0]
  exact ⟨_,rfl,lent_two (lentP (tf_p _)) (tf_ft _ _)⟩
theorem lawFormat (s:List UInt8) {H:List AO} (hg:Rg H) (hT:Tb H):ACall Tryz.prog 5 [.p (.s s)] H (fun r _=>r=.p (.b true)):=by
 refine call5 (by simp) ?_
 by_cases hs:s.length<=1048576
 rotate_left
 ·have d1:decide ((1048576:Int)<(s.length:Int))=true:=by simp; omega
  simp only [go_sem,simprocAttr,mc5,mr5,d1]
  intro _
  trivial
 have d1:decide ((1048576:Int)<(s.length:Int))=false:=by simp; omega
 have hS:=fun (X:List AO)=>specFormat (s:=s) (H:=X) hs
 have hI:=fun (X:List AO) (h1:Rg X) (h2:Tb X)=>implFormat (s:=s) (H:=X) hs h1 h2
 generalize fmtD s=F at *
 generalize (parsedP s).2.1=c at *
 generalize (parsedP s).2.2=q at *
 simp only [go_sem,simprocAttr,mc5,mr5,d1]
 intro _
 refine acall_pure (hS _) ?_
 simp only [go_sem,simprocAttr]
 refine acall_pure (hI _ (hg.ext _) (hT.ext _)) ?_
 simp only [go_sem,simprocAttr,decide_true,Bool.not_true,decide_not]
 repeat' first
  | (with_reducible refine condK_split _ (fun h=>?_) (fun h=>?_) <;> simp only [go_sem,simprocAttr,h])
  | (with_reducible refine acall_pure (eqFaultC c q _) ?_; simp only [go_sem,simprocAttr])
  | (refine drw_same ?_; simp only [go_sem,simprocAttr])
  | (refine And.intro (by (try simp only [maxLe,LL]); omega) ?_; try simp only [go_sem,simprocAttr])
  | (intro _)
 all_goals rfl
end Go.Proofs.YtghcmccjchdgeaaGreatDoor.Pg