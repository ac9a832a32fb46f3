/- Texts QeG QeH QdA QeI QdB QeJ QdC QeK QdD QeL QdE QeM QdF QeN, merged. -/
import Derived.Test.YtghcmccjchdgeaaGreatDoorKBD
import Derived.Test.YtghcmccjchdgeaaGreatDoorChecked
import Derived.KernelRfl
/- The reference's programs. -/
set_option linter.all false
namespace Go.Proofs.YtghcmccjchdgeaaGreatDoor.Qp
open Go.AM Mc Pg
section
variable {T:List Tok} {lim e:Nat} (hT:ToksOk T) (hTl:T.length≤1048577)
include hT hTl
theorem sProgC {ty:PM TyE} {ex:PM ExpD} (hty:PF (pvS T lim) T e 172 [] ty tyV) (sty:StayM T ty) (hex:PF (pvS T lim) T e 25 [] ex expV) (sex:StayM T ex):PF (pvS T lim) T e 38 [] (progP T T.length ty ex) progV:=by
 have hD:=sDataC hT hTl hty sty
 have sD:=Pg.stay_dataP (N:=T.length) hT sty
 have oT:Only T (isT T [116,121,112,101]):=only_isT T _
 refine pf_of (pvS_tf T lim) fun H p s hp hs=>?_
 refine call38 (by simp) ?_
 simp only [go_sem,reduceIte,↓reduceIte,sevalprocAttr,Z0,Z1,bytesOf,qx0,qxk,qs0,qsk,List.length_set,mc38,mr38]
 unfold progP
 rcases hV:many (isT T [116,121,112,101]) (dataP T T.length ty) T.length s with ⟨ds,s2⟩
 rcases hq5:ex s2 with ⟨⟨k5,n5,u5,t5,q5,l5,m5⟩,s5⟩
 simp only [bindP_e,stepP_e,retP_e,hV,hq5]
 refine ⟨Nat × PS × List DataD × AV × List AO,[0,2,3],fun x st=>(Lp (pvS T lim) T e H p [0,1] 4 DataD.cells (isT T [116,121,112,101]) (dataP T T.length ty) ds s2 x.1 x.2.1 x.2.2.1 x.2.2.2.1 x.2.2.2.2∧x.2.2.2.2[0]?=some (.var [.p .nl,iV 0,sV [],iV 0,sV [],iV 0,.p .nl,.p .nl])∧x.2.2.2.2[1]?=some (.var [x.2.2.2.1,iV 0,sV [],iV 0,sV [],iV 0,.p .nl,.p .nl])) ∧
   st=⟨[(0,.ptr p 0),(2,.ptr H.length 0),(3,.ptr (H.length+1) 0)],[],H.set p (pvS T lim x.2.1)++x.2.2.2.2⟩,fun x=>T.length - x.2.1.i,⟨(T.length,s,[],.p .nl,[.var [.p .nl,iV 0,sV [],iV 0,sV [],iV 0,.p .nl,.p .nl],.var [.p .nl,iV 0,sV [],iV 0,sV [],iV 0,.p .nl,.p .nl]]),?_⟩,?_⟩
 ·refine ⟨⟨Lp.start hs hV (by simp),rfl,rfl⟩,?_⟩
  simp only [go_sem,reduceIte,↓reduceIte,sevalprocAttr,Z0,Z1,bytesOf,qx0,qxk,qs0,qsk,List.length_set]
 ·rintro ⟨j,s',acc,a,A⟩ _ ⟨⟨hL,i0,i1⟩,rfl⟩
  simp only at hL i0 i1 ⊢
  simp only [go_sem,reduceIte,↓reduceIte,sevalprocAttr,Z0,Z1,bytesOf,qx0,qxk,qs0,qsk,List.length_set]
  refine acall_pure (sIs [116,121,112,101] H _ p s' hp hL.ok) ?_
  cases hg:isT T [116,121,112,101] s'
  ·obtain ⟨rfl,rfl⟩:=hL.stop hg
   simp only [go_sem,reduceIte,↓reduceIte,sevalprocAttr,Z0,Z1,bytesOf,qx0,qxk,qs0,qsk,List.length_set,hg]
   have hs5:=hL.ok.run sex
   have hc5:=hex H A p s' hp hL.ok
   rw [hq5] at hs5 hc5
   simp only at hs5
   refine acall_pure hc5 ?_
   have hz:∀ o,(A.set 1 o)[1]?=some o:=fun o=>set_get i1
   have hz0:∀ o,(A.set 1 o)[0]?=some (.var [.p .nl,iV 0,sV [],iV 0,sV [],iV 0,.p .nl,.p .nl]):=fun o=>get_set i0 (by decide)
   have hz2:∀ o o',((A.set 1 o).set 0 o')[0]?=some o':=fun o o'=>set_get (hz0 o)
   simp only [go_sem,reduceIte,↓reduceIte,sevalprocAttr,Z0,Z1,bytesOf,qx0,qxk,qs0,qsk,List.length_set,ExpD.cells,i1,hz,hz0,qpS hp]
   have hfin:∀ s9,LentN H.length (H.set p (pvS T lim s9)++(A.set 1 (.var [a,iV k5,sV n5,iV u5,sV t5,iV q5,.p (.l (ExpD.cellsL l5)),.p (.l (ExpD.cellsA m5))])).set 0 (.var [a,iV k5,sV n5,iV u5,sV t5,iV q5,.p (.l (ExpD.cellsL l5)),.p (.l (ExpD.cellsA m5))])) (.st [a,iV k5,sV n5,iV u5,sV t5,iV q5,.p (.l (ExpD.cellsL l5)),.p (.l (ExpD.cellsA m5))]) (progV ⟨acc,.mk k5 n5 u5 t5 q5 l5 m5⟩):=fun s9=>by
    refine LentC.st (.cons (hL.lent (fun k o hk h=>?_) dataE) (LentC.pure (ExpD.cells (.mk k5 n5 u5 t5 q5 l5 m5))))
    rw [List.getElem?_set_ne (by rintro rfl; exact hk (by simp)),List.getElem?_set_ne (by rintro rfl; exact hk (by simp))]; exact h
   by_cases hc:s5.c=0
   ·simp only [go_sem,reduceIte,↓reduceIte,sevalprocAttr,Z0,Z1,bytesOf,qx0,qxk,qs0,qsk,List.length_set,dT hc]
    refine acall_pure (sNow H _ p s5 hp hs5) ?_
    by_cases hk:(tokA T s5).k=8
    ·have hE:endP T s5=s5:=by unfold endP isK; simp [hc,hk]
     rw [hE]
     simp only [go_sem,reduceIte,↓reduceIte,sevalprocAttr,Z0,Z1,bytesOf,qx0,qxk,qs0,qsk,List.length_set,Tok.cells,dT hk,decide_not,Bool.not_true,Bool.not_false,hz,hz0,hz2]
     exact ⟨_,rfl,hfin _⟩
    ·have hE:endP T s5=failP T 11 s5:=by unfold endP isK; simp [hc,hk]
     rw [hE]
     simp only [go_sem,reduceIte,↓reduceIte,sevalprocAttr,Z0,Z1,bytesOf,qx0,qxk,qs0,qsk,List.length_set,Tok.cells,dF hk,decide_not,Bool.not_true,Bool.not_false]
     refine acall_pure (sFails 11 H _ p s5 hp hs5) ?_
     simp only [go_sem,reduceIte,↓reduceIte,sevalprocAttr,Z0,Z1,bytesOf,qx0,qxk,qs0,qsk,List.length_set,hz,hz0,hz2]
     exact ⟨_,rfl,hfin _⟩
   ·have hE:endP T s5=s5:=by unfold endP; rw [isK_c hc]; simp [failP_c hc]
    rw [hE]
    simp only [go_sem,reduceIte,↓reduceIte,sevalprocAttr,Z0,Z1,bytesOf,qx0,qxk,qs0,qsk,List.length_set,dF hc,hz,hz0,hz2]
    exact ⟨_,rfl,hfin _⟩
  ·obtain ⟨j,rfl⟩:=hL.succ oT hg
   have hs9:=hL.ok.run sD
   have hgt:=data_gt hT hTl sty hL.ok.1 hg
   simp only [go_sem,reduceIte,↓reduceIte,sevalprocAttr,Z0,Z1,bytesOf,qx0,qxk,qs0,qsk,List.length_set,hg]
   refine ⟨_,Qp.hx hp _ _,?_⟩
   simp only [go_sem,reduceIte,↓reduceIte,sevalprocAttr,Z0,Z1,bytesOf,qx0,qxk,qs0,qsk,List.length_set,i1]
   refine pcall_chain _ _ (by simp) (Qp.hx hp _ _) (hD.chain hp hL.ok) ?_
   rcases hq9:dataP T T.length ty s' with ⟨⟨dn,dv,dc,dq⟩,s9⟩
   rw [hq9] at hs9 hgt
   simp only [go_sem,reduceIte,↓reduceIte,sevalprocAttr,Z0,Z1,bytesOf,qx0,qxk,qs0,qsk,List.length_set,DataD.cells,qxa]
   refine ⟨by intro r hr; simp at hr; subst hr; rfl,?_⟩
   refine hL.app (fun k o h=>get_ext h _) hTl (by decide) ?_
   intro id ver A' m1 m2 m3
   have j0:=(m3 0 (by decide)).trans i0
   have j1:=(m3 1 (by decide)).trans i1
   simp only [go_sem,reduceIte,↓reduceIte,sevalprocAttr,Z0,Z1,bytesOf,qx0,qxk,qs0,qsk,List.length_set,j1]
   exact ⟨(j,s9,acc++[⟨dn,dv,dc,dq⟩],.gs id ver 0 (acc.length+1),A'.set 1 (.var [.gs id ver 0 (acc.length+1),iV 0,sV [],iV 0,sV [],iV 0,.p .nl,.p .nl])),⟨⟨hL.next oT hg hq9 hs9 hgt m1 m2 (set_keep (by decide)) (by intro k hk; rw [List.length_set]; simp at hk; rcases hk with rfl | rfl; exact get_lt j0; exact get_lt j1),get_set j0 (by decide),set_get j1⟩,rfl⟩,by have h1:s'.i<s9.i:=hgt; have:=hL.ok.1; simp only; omega⟩
end
end Go.Proofs.YtghcmccjchdgeaaGreatDoor.Qp
/- Both Parse. -/
set_option linter.all false
namespace Go.Proofs.YtghcmccjchdgeaaGreatDoor.Qp
open Go.AM Mc Pg
def prog0:ProgD:=⟨[],exp0⟩
def parsedP (s : List UInt8) : ProgD × Int × Int :=
  match lexD s with
  | .inr (c, i) => (prog0, c, i)
  | .inl T => match told (progP T T.length (iTy T T.length 40 41 1) (iExp T T.length 40 41 1)) with
    | .inl e => (e, 0, 0)
    | .inr (c, q) => (prog0, c, q)
theorem parsedP_s {s:List UInt8} {T:List Tok} (h:lexD s=.inl T):told (progP T T.length (iTy T T.length 40 41 1) (iExp T T.length 40 41 1))=told (progP T T.length (sTy T T.length 40 41) (sExp T T.length 40 41)) :=
 told_eq (lexD_ok h).1 (s3_prog (lexD_ok h).1 (s3_tyK (lexD_ok h).1 (lexD_ok h).1.pos 41 0 fun e' h1 h2=>by omega) (s3_expK (lexD_ok h).1 41 0 fun e' h1 h2=>by omega))
theorem parsedP_T {s:List UInt8} {T:List Tok} (h:lexD s=.inl T):parsedP s=(match told (progP T T.length (iTy T T.length 40 41 1) (iExp T T.length 40 41 1)) with | .inl e=>(e,0,0) | .inr (c,q)=>(prog0,c,q)):=by
 unfold parsedP; rw [h]
theorem prog_leaf (b u:Nat) (X:List AO):Env b u X (ProgD.tv prog0) [.p .nl,iV 0,sV [],iV 0,sV [],iV 0,.p .nl,.p .nl]:=Env.nlF (exp_leaf b u X 0 [] 0 [] 0)
theorem Env.progC {b u:Nat} {X:List AO} {cs:List AV} {l:List DataD} {k:Int} {nm:List UInt8} {un:Int} {t:List UInt8} {q:Int} {ks:List ExpD} {as':List ArmD} (h:Env b u X (ProgD.tv ⟨l,.mk k nm un t q ks as'⟩) cs):∃ a c d,cs=[a,iV k,sV nm,iV un,sV t,iV q,c,d]:=by
 have hl:=h.len
 rw [ProgD.tv_len] at hl
 obtain ⟨a,cs,rfl⟩:∃ a cs',cs=a :: cs':=by
  match cs,hl with
  | a :: cs',_=>exact ⟨a,cs',rfl⟩
 obtain ⟨c,d,rfl⟩:=Env.expC (ts:=[.s 4 (l.map DataD.tv)]) (ds:=[a]) (cs:=cs) h rfl
 exact ⟨a,c,d,rfl⟩
theorem implParse {s:List UInt8} {H:List AO} (hs:s.length≤1048576) (hg:Rg H) :
  ACall Tryz.prog 14 [.p (.s s)] H (fun r H'=>∃ cs G,r=.tup [.st cs,ftC (parsedP s).2.1 (parsedP s).2.2]∧H'=H++G∧Env H.length H'.length H' (parsedP s).1.tv cs):=by
 refine call14 (by simp) ?_
 simp only [go_sem,reduceIte,↓reduceIte,sevalprocAttr,Z0,Z1,bytesOf,gx0,gxk,sx0,sxk,mc14,mr14]
 refine acall_pure (lexC hs (hg.ext _)) ?_
 rcases hl:lexD s with T | ⟨c,i⟩
 rotate_left
 ·have hp:parsedP s=(prog0,c,(i:Int)):=by unfold parsedP; rw [hl]
  rw [lex_r,hp]
  simp only [go_sem,reduceIte,↓reduceIte,sevalprocAttr,Z0,Z1,bytesOf,gx0,gxk,sx0,sxk,dF (lexD_ne hl),dT (lexD_ne hl),decide_not,Bool.not_true,Bool.not_false]
  refine ⟨H++[.dead,_,_],hx1 _ _ _,?_⟩
  simp only [go_sem,reduceIte,↓reduceIte,sevalprocAttr,Z0,Z1,bytesOf,gx0,gxk,sx0,sxk]
  refine ⟨hx1 _ _ _,?_⟩
  refine ⟨_,_,rfl,rfl,?_⟩
  exact prog_leaf _ _ _
 ·obtain ⟨hT,hTl⟩:=lexD_ok hl
  have hTl:T.length≤1048577:=by omega
  rw [lex_l,parsedP_T hl,told_e]
  simp only [go_sem,reduceIte,↓reduceIte,sevalprocAttr,Z0,Z1,bytesOf,gx0,gxk,sx0,sxk,List.length_append]
  rcases hq:progP T T.length (iTy T T.length 40 41 1) (iExp T T.length 40 41 1) ⟨0,0,0,0,0⟩ with ⟨⟨ds,k1,n1,u1,t1,q1,l1,m1⟩,s1⟩
  have hs1:=(Ok0 hT).run (stay_progP (N:=T.length) hT (stay_iTy (N:=T.length) hT 40 41 1) (stay_iExp (N:=T.length) hT 40 41 1))
  rw [hq] at hs1
  simp only at hs1
  refine (PX.top (iProgC hT hTl (iTyK hT hTl 41 1 (by omega) (by omega) (by omega)) (stay_iTy hT 40 41 1) (iExpK hT hTl 41 1 (by omega) (by omega) (by omega)) (stay_iExp hT 40 41 1) (H.length+3)) ProgD.wf hq (by rw [gxk]; rfl) (Ok0 hT)).mono ?_
  rintro r X' ⟨cs,R,rfl,rfl,hE⟩
  obtain ⟨a1,c1,b1,rfl⟩:=Env.progC hE
  rw [sxk] at hE ⊢
  have hE4:=fun (a' b' c' d':AO) (S:List AO) (v:Nat) (hv:H.length+4+R.length≤v)=>env4 (a':=a') (b':=b') (c':=c') (d':=d') (S:=S) (v:=v) hv hE
  simp only [go_sem,reduceIte,↓reduceIte,sevalprocAttr,Z0,Z1,bytesOf,gx0,gxk,sx0,sxk]
  refine acall_pure (iFailed.at (by rw [gxk]; rfl) hs1) ?_
  by_cases hc:s1.c=0
  ·rw [if_pos hc]
   simp only [go_sem,reduceIte,↓reduceIte,sevalprocAttr,Z0,Z1,bytesOf,gx0,gxk,sx0,sxk,dT hc,Bool.not_true,Bool.not_false]
   exact ⟨_,_,rfl,rfl,hE4 _ _ _ _ _ _ (by omega)⟩
  ·rw [if_neg hc]
   simp only [go_sem,reduceIte,↓reduceIte,sevalprocAttr,Z0,Z1,bytesOf,gx0,gxk,sx0,sxk,dF hc,Bool.not_true,Bool.not_false]
   refine ⟨H++(.dead :: _),hx1 _ _ _,?_⟩
   simp only [go_sem,reduceIte,↓reduceIte,sevalprocAttr,Z0,Z1,bytesOf,gx0,gxk,sx0,sxk,pvI]
   refine ⟨hx1 _ _ _,?_⟩
   refine ⟨_,_,rfl,rfl,?_⟩
   exact prog_leaf _ _ _
theorem specParse {s:List UInt8} {H:List AO} (hs:s.length≤1048576) :
  ACall Tryz.prog 13 [.p (.s s)] H (pureQ (.tup [progV (parsedP s).1,ftC (parsedP s).2.1 (parsedP s).2.2]) H):=by
 refine acall_frz1 ?_
 refine call13 (by simp) ?_
 simp only [go_sem,reduceIte,↓reduceIte,sevalprocAttr,Z0,Z1,bytesOf,gx0,gxk,sx0,sxk,mc13,mr13]
 refine acall_pure (lexIC hs) ?_
 have lz:∀ (X:List AO) (c q:Int),LentN H.length X (.tup [.st [.p .nl,iV 0,sV [],iV 0,sV [],iV 0,.p .nl,.p .nl],ftC c q]) (.tup [progV prog0,ftC c q]):=fun X c q=>by
  refine lent_two ?_ (tf_ft c q)
  exact LentC.st (.cons .nl (.pc (.pc (.pc (.pc (.pc (.cons (by rw [ExpD.cellsL]; exact .nl) (.cons (by rw [ExpD.cellsA]; exact .nl) .nil))))))))
 rcases hl:lexD s with T | ⟨c,i⟩
 rotate_left
 ·have hp:parsedP s=(prog0,c,(i:Int)):=by unfold parsedP; rw [hl]
  rw [lex_r,hp]
  simp only [go_sem,reduceIte,↓reduceIte,sevalprocAttr,Z0,Z1,bytesOf,gx0,gxk,sx0,sxk,dF (lexD_ne hl),dT (lexD_ne hl),decide_not,Bool.not_true,Bool.not_false]
  refine ⟨H++[.dead,_,_],hx1 _ _ _,?_⟩
  simp only [go_sem,reduceIte,↓reduceIte,sevalprocAttr,Z0,Z1,bytesOf,gx0,gxk,sx0,sxk]
  refine ⟨hx1 _ _ _,?_⟩
  exact ⟨_,rfl,lz _ _ _⟩
 ·obtain ⟨hT,hTl⟩:=lexD_ok hl
  have hTl:T.length≤1048577:=by omega
  rw [lex_l,parsedP_T hl,parsedP_s hl,told_e]
  simp only [go_sem,reduceIte,↓reduceIte,sevalprocAttr,Z0,Z1,bytesOf,gx0,gxk,sx0,sxk,List.length_append]
  rcases hq:progP T T.length (sTy T T.length 40 41) (sExp T T.length 40 41) ⟨0,0,0,0,0⟩ with ⟨⟨ds,k1,n1,u1,t1,q1,l1,m1⟩,s1⟩
  have hs1:=(Ok0 hT).run (stay_progP (N:=T.length) hT (stay_sTy (N:=T.length) hT 40 41) (stay_sExp (N:=T.length) hT 40 41))
  rw [hq] at hs1
  simp only at hs1
  have hcall:=(sProgC hT hTl (sTyK hT hTl (lim:=40) (by omega) 41 0 rfl (by omega)) (stay_sTy hT 40 41) (sExpK hT hTl (lim:=40) (by omega) 41 0 rfl (by omega)) (stay_sExp hT 40 41)).at (X:=H++[.var [.p .nl,iV 0,sV [],iV 0,sV [],iV 0,.p .nl,.p .nl],.var [iV 0,iV 0],.var [iV 0,iV 0],pvS T 40 ⟨0,0,0,0,0⟩]) (p:=H.length+3) (by rw [gxk]; rfl) (Ok0 hT)
  rw [hq] at hcall
  refine acall_pure hcall ?_
  by_cases hc:s1.c=0
  ·rw [if_pos hc]
   simp only [go_sem,reduceIte,↓reduceIte,sevalprocAttr,Z0,Z1,bytesOf,gx0,gxk,sx0,sxk,ProgD.cells,ExpD.cells,pvS,dT hc,decide_not,Bool.not_true,Bool.not_false]
   exact ⟨_,rfl,lent_two (lentP (tf_av (ProgD.cells ⟨ds,.mk k1 n1 u1 t1 q1 l1 m1⟩))) (tf_ft 0 0)⟩
  ·rw [if_neg hc]
   simp only [go_sem,reduceIte,↓reduceIte,sevalprocAttr,Z0,Z1,bytesOf,gx0,gxk,sx0,sxk,ProgD.cells,ExpD.cells,pvS,dF hc,decide_not,Bool.not_true,Bool.not_false]
   refine ⟨H++(.dead :: _),hx1 _ _ _,?_⟩
   simp only [go_sem,reduceIte,↓reduceIte,sevalprocAttr,Z0,Z1,bytesOf,gx0,gxk,sx0,sxk]
   refine ⟨hx1 _ _ _,?_⟩
   exact ⟨_,rfl,lz _ _ _⟩
end Go.Proofs.YtghcmccjchdgeaaGreatDoor.Qp
/- How great a parsed tree is: its marks, by its words. -/
set_option linter.all false
namespace Go.Proofs.YtghcmccjchdgeaaGreatDoor.Pg
open Go.AM
theorem mcC_app (a b:List TV):mcC (a++b)=mcC a+mcC b:=by
 induction a with
 | nil=>simp [mcC]
 | cons t a ih=>rw [List.cons_append,mcC,mcC,ih]; omega
structure Bx (T:List Tok) {α:Type} (m:PM α) (φ:α→Int):Prop where
 st:StayM T m
 le:∀ s,s.i<T.length→(m s).2.c=0→φ (m s).1+10 * (s.i:Int)≤10 * ((m s).2.i:Int)
section
variable {T:List Tok}
theorem stay_c {α:Type} {m:PM α} (h:StayM T m) {s:PS} (hi:s.i<T.length) (hc:(m s).2.c=0):s.c=0:=by
 rcases Decidable.em (s.c=0) with h0 | h0
 ·exact h0
 ·have:=(h s hi).2.2.1 h0; rw [this] at hc; exact hc
theorem bx_ret {α:Type} {a:α} {φ:α→Int} (h:φ a≤0):Bx T (retP a) φ:=⟨StayM.ret a,fun s hi hc=>by show φ a+_≤_; have:(retP a s).2=s:=rfl; rw [this]; omega⟩
theorem bx_mono {α:Type} {m:PM α} {φ ψ:α→Int} (h:Bx T m ψ) (k:∀ a,φ a≤ψ a):Bx T m φ:=⟨h.st,fun s hi hc=>by have:=h.le s hi hc; have:=k (m s).1; omega⟩
theorem bx_bind {α β:Type} {m:PM α} {k:α→PM β} {ψ:α→Int} {φ:β→Int} (h:Bx T m ψ) (hk:∀ a,Bx T (k a) (fun b=>φ b - ψ a)):Bx T (bindP m k) φ :=
 ⟨StayM.bind h.st fun a=>(hk a).st,fun s hi hc=>by
  have h1:=(h.st s hi).2.1
  have hc1:=stay_c (hk (m s).1).st h1 hc
  have e1:=h.le s hi hc1
  have e2:=(hk (m s).1).le _ h1 hc
  simp only [bindP_e] at *
  omega⟩
theorem bx_want (hT : ToksOk T) {α : Type} {x : List UInt8} {m : PM α} {φ : α → Int} (h : Bx T m (fun b => φ b - 10)) : Bx T (stepP (wantP T x) m) φ :=
  ⟨StayM.step (stay_want hT x) h.st, fun s hi hc => by
    have h1 := (stay_want hT x s hi).2.1
    have hc1 := stay_c h.st h1 hc
    have e2 := h.le _ h1 hc
    have hx : isT T x s = true := by
      cases hb : isT T x s with
      | true => rfl
      | false =>
        exfalso
        have : wantP T x s = failP T 11 s := by unfold wantP; rw [hb]; rfl
        rw [this] at hc1
        by_cases h0 : s.c = 0
        · rw [failP_0 h0] at hc1; exact absurd hc1 (show ¬ ((11 : Int) = 0) by decide)
        · rw [failP_c h0] at hc1; exact h0 hc1
    have ew : wantP T x s = adv s := by unfold wantP; rw [if_pos hx]
    simp only [stepP_e] at *
    rw [ew] at e2 ⊢
    simp only [adv] at *
    omega⟩
theorem bx_end {α:Type} {m:PM α} {φ:α→Int} (h:Bx T m φ):Bx T (stepP (endP T) m) φ :=
 ⟨StayM.step (stay_end T) h.st,fun s hi hc=>by
  have h1:=stay_end T s hi
  have e2:=h.le _ h1.2.1 hc
  have:=h1.1
  simp only [stepP_e] at *
  omega⟩
theorem bx_now {α:Type} {k:Tok→PM α} {φ:α→Int} (h:∀ t,Bx T (k t) φ):Bx T (nowP T k) φ:=⟨StayM.now fun t=>(h t).st,fun s hi hc=>(h (tokA T s)).le s hi hc⟩
theorem bx_iteG (hT : ToksOk T) {α : Type} {g : PS → Bool} {m1 m2 : PM α} {φ : α → Int} (hg : Only T g) (h1 : Bx T m1 (fun b => φ b - 10)) (h2 : Bx T m2 φ) : Bx T (iteG g m1 m2) φ :=
  ⟨StayM.iteG hT hg h1.st h2.st, fun s hi hc => by
    cases hb : g s with
    | true =>
      rw [iteG_t hb] at hc ⊢
      have := h1.le (adv s) (by simpa [adv] using adv_at hT hi (hg s hb).2) hc
      simp only [adv] at *
      omega
    | false =>
      rw [iteG_f hb] at hc ⊢
      exact h2.le s hi hc⟩
theorem bx_iteB {α:Type} {g:PS→Bool} {m1 m2:PM α} {φ:α→Int} (h1:Bx T m1 φ) (h2:Bx T m2 φ):Bx T (iteB g m1 m2) φ :=
 ⟨StayM.iteB h1.st h2.st,fun s hi hc=>by
  cases hb:g s with
  | true=>rw [iteB_t hb] at hc ⊢; exact h1.le s hi hc
  | false=>rw [iteB_f hb] at hc ⊢; exact h2.le s hi hc⟩
theorem bx_bad {α:Type} {m1 m2:PM α} {φ:α→Int} (h1:StayM T m1) (h1':∀ s,(m1 s).2=s) (h2:Bx T m2 φ):Bx T (iteB (fun s=>!decide (s.c=0)) m1 m2) φ :=
 ⟨StayM.iteB h1 h2.st,fun s hi hc=>by
  by_cases h0:s.c=0
  ·have hb:(fun s:PS=>!decide (s.c=0)) s=false:=by simp [h0]
   rw [iteB_f hb] at hc ⊢; exact h2.le s hi hc
  ·have hb:(fun s:PS=>!decide (s.c=0)) s=true:=by simp [h0]
   rw [iteB_t hb,h1'] at hc; exact absurd hc h0⟩
theorem bx_word (hT : ToksOk T) {k : Int} (hk : k ≠ 8) : Bx T (wordP T k) (fun _ => 10) :=
  ⟨StayM.word hT hk, fun s hi hc => by
    cases hb : isK T k s with
    | true =>
      have e : wordP T k s = ((tokA T s).t, adv s) := by unfold wordP; rw [if_pos hb]
      rw [e]; simp only [adv]; omega
    | false =>
      exfalso
      have e : (wordP T k s).2 = failP T 11 s := by unfold wordP; rw [hb]; rfl
      rw [e] at hc
      by_cases h0 : s.c = 0
      · rw [failP_0 h0] at hc; exact absurd hc (show ¬ ((11 : Int) = 0) by decide)
      · rw [failP_c h0] at hc; exact h0 hc⟩
theorem bx_deep {α:Type} {most d:Nat} {z:α} {m:PM α} {φ:α→Int} (h:Bx T m φ):Bx T (deepP T most d z m) φ :=
 ⟨StayM.deep h.st,fun s hi hc=>by
  have h1:=stay_deeper T most d s hi
  unfold deepP at *
  by_cases h0:(deeperP T most d s).c=0
  ·rw [if_pos h0] at hc ⊢
   have:=h.le _ h1.2.1 hc
   have:=h1.1
   omega
  ·rw [if_neg h0] at hc
   exact absurd hc h0⟩
def sumI {α:Type} (ψ:α→Int):List α→Int
 | []=>0
 | a :: l=>ψ a+sumI ψ l
theorem bx_many {α : Type} {g : PS → Bool} {m : PM α} {ψ : α → Int} (hg : Only T g) (hm : Bx T m ψ) (n : Nat) : Bx T (many g m n) (fun l => sumI ψ l) :=
  ⟨StayM.many hg hm.st n, by
    induction n with
    | zero => intro s hi hc; show sumI ψ [] + _ ≤ _; rw [sumI]; show 0 + 10 * (s.i : Int) ≤ 10 * (s.i : Int); omega
    | succ n ih =>
      intro s hi hc
      cases hb : g s with
      | false => rw [many_c hb]; show sumI ψ [] + _ ≤ _; rw [sumI]; show 0 + 10 * (s.i : Int) ≤ 10 * (s.i : Int); omega
      | true =>
        have h1 := (hm.st s hi).2.1
        have e : many g m (n + 1) s = ((m s).1 :: (many g m n (m s).2).1, (many g m n (m s).2).2) := by rw [many, if_pos hb]
        rw [e] at hc ⊢
        have hc1 := stay_c (StayM.many hg hm.st n) h1 hc
        have e1 := hm.le s hi hc1
        have e2 := ih _ h1 hc
        simp only [sumI] at *
        omega⟩
theorem bx_manyA (hT : ToksOk T) {α : Type} {g : PS → Bool} {m : PM α} {ψ : α → Int} (hg : Only T g) (hm : Bx T m ψ) (n : Nat) : Bx T (many g (advP m) n) (fun l => sumI (fun a => ψ a + 10) l) :=
  ⟨StayM.manyA hT hg hm.st n, by
    induction n with
    | zero => intro s hi hc; show sumI _ [] + _ ≤ _; rw [sumI]; show 0 + 10 * (s.i : Int) ≤ 10 * (s.i : Int); omega
    | succ n ih =>
      intro s hi hc
      cases hb : g s with
      | false => rw [many_c hb]; show sumI _ [] + _ ≤ _; rw [sumI]; show 0 + 10 * (s.i : Int) ≤ 10 * (s.i : Int); omega
      | true =>
        have h0 : (adv s).i < T.length := by simpa [adv] using adv_at hT hi (hg s hb).2
        have h1 := (hm.st _ h0).2.1
        have e : many g (advP m) (n + 1) s = ((m (adv s)).1 :: (many g (advP m) n (m (adv s)).2).1, (many g (advP m) n (m (adv s)).2).2) := by rw [many, if_pos hb]; rfl
        rw [e] at hc ⊢
        have hc1 := stay_c (StayM.manyA hT hg hm.st n) h1 hc
        have e1 := hm.le _ h0 hc1
        have e2 := ih _ h1 hc
        simp only [sumI, adv] at *
        omega⟩
theorem bx_carry {α : Type} {g : PS → Bool} {m : α → PM α} {φ : α → Int} (hg : Only T g) (hm : ∀ a, Bx T (m a) (fun b => φ b - φ a)) (n : Nat) (a : α) : Bx T (carry g m n a) (fun b => φ b - φ a) :=
  ⟨StayM.carry hg (fun a => (hm a).st) n a, by
    induction n generalizing a with
    | zero => intro s hi hc; show φ a - φ a + 10 * (s.i : Int) ≤ 10 * (s.i : Int); omega
    | succ n ih =>
      intro s hi hc
      cases hb : g s with
      | false => rw [carry_c hb]; show φ a - φ a + 10 * (s.i : Int) ≤ 10 * (s.i : Int); omega
      | true =>
        have h1 := ((hm a).st s hi).2.1
        have e : carry g m (n + 1) a s = carry g m n (m a s).1 (m a s).2 := by rw [carry, if_pos hb]
        rw [e] at hc ⊢
        have hc1 := stay_c (StayM.carry hg (fun a => (hm a).st) n (m a s).1) h1 hc
        have e1 := (hm a).le s hi hc1
        have e2 := ih _ _ h1 hc
        omega⟩
end
def phP (p:PatD):Int:=(mcC p.tv:Int)+5
def phE (e:ExpD):Int:=(mcC e.tv:Int)+5
def phA (a:ArmD):Int:=(mcC a.tv:Int)+20
theorem sum_P (c:Int):∀ l:List PatD,sumI (fun a=>phP a+c) l=(mcR (l.map PatD.tv):Int)+(5+c) * l.length
 | []=>by simp [sumI,mcR]
 | a :: l=>by rw [sumI,sum_P c l]; simp only [phP,List.map_cons,mcR,List.length_cons]; push_cast; rw [Int.mul_add]; omega
theorem sum_E (c:Int):∀ l:List ExpD,sumI (fun a=>phE a+c) l=(mcR (l.map ExpD.tv):Int)+(5+c) * l.length
 | []=>by simp [sumI,mcR]
 | a :: l=>by rw [sumI,sum_E c l]; simp only [phE,List.map_cons,mcR,List.length_cons]; push_cast; rw [Int.mul_add]; omega
theorem sum_A (c:Int):∀ l:List ArmD,sumI (fun a=>phA a+c) l=(mcR (l.map ArmD.tv):Int)+(20+c) * l.length
 | []=>by simp [sumI,mcR]
 | a :: l=>by rw [sumI,sum_A c l]; simp only [phA,List.map_cons,mcR,List.length_cons]; push_cast; rw [Int.mul_add]; omega
theorem mc_pat (k n u p ks):mcC (PatD.tv (.mk k n u p ks))=4+mcR (ks.map PatD.tv):=by rw [PatD.tv,PatD.tvL_eq]; simp only [mcC,mcT]; omega
theorem mc_exp (k n u t p ks as'):mcC (ExpD.tv (.mk k n u t p ks as'))=5+(mcR (ks.map ExpD.tv)+mcR (as'.map ArmD.tv)):=by rw [ExpD.tv,ExpD.tvL_eq,ExpD.tvA_eq]; simp only [mcC,mcT]; omega
theorem mc_leaf (k n u t p):mcC (ExpD.tv (leaf k n u t p))=5:=by rw [leaf,mc_exp]; simp [mcR]
section
variable {T:List Tok} {N:Nat} (hT:ToksOk T)
include hT
theorem leP {k n u p}:phP (.mk k n u p [])≤10:=by simp only [phP,mc_pat]; simp [mcR]
theorem leE {k n u t p}:phE (leaf k n u t p)≤10:=by simp only [phE,mc_leaf]; omega
theorem bx_patBr {pat:PM PatD} (h:Bx T pat phP):Bx T (iPatBr T N pat) phP :=
 bx_now fun t=>bx_want hT <| bx_iteG hT (only_isT T _) (bx_ret (by have:=leP hT (k:=5) (n:=[]) (u:=0) (p:=t.p); omega)) <|
  bx_bad (StayM.ret _) (fun _=>rfl) <| bx_bind h fun a=>bx_bind (bx_manyA hT (only_isT T _) h N) fun l=>bx_want hT <| bx_ret (by
   rw [sum_P]
   split
   ·rename_i h0; subst h0; simp only [List.map_nil,mcR,List.length_nil]; omega
   ·simp only [phP,mc_pat,List.map_cons,mcR]; push_cast; omega)
theorem bx_patA {pat:PM PatD} (h:Bx T pat phP):Bx T (iPatA T N pat) phP :=
 bx_now fun t=>bx_iteG hT (only_isT T _) (bx_ret (by have:=leP hT (k:=1) (n:=[]) (u:=0) (p:=t.p); omega)) <|
  bx_iteG hT (only_isK T (by decide)) (bx_ret (by have:=leP hT (k:=2) (n:=t.t) (u:=0) (p:=t.p); omega)) <|
  bx_iteG hT (only_isK T (by decide)) (bx_ret (by have:=leP hT (k:=3) (n:=[]) (u:=t.n) (p:=t.p); omega)) <|
  bx_iteG hT (only_isT T _) (bx_ret (by have:=leP hT (k:=4) (n:=[]) (u:=1) (p:=t.p); omega)) <|
  bx_iteG hT (only_isT T _) (bx_ret (by have:=leP hT (k:=4) (n:=[]) (u:=0) (p:=t.p); omega)) <|
  bx_iteG hT (only_isK T (by decide)) (bx_ret (by have:=leP hT (k:=7) (n:=t.t) (u:=0) (p:=t.p); omega)) (bx_patBr hT h)
theorem bx_pat1 {most d:Nat} {pat:PM PatD} (h:Bx T pat phP):Bx T (iPatB T N most pat d) phP :=
 bx_deep <| bx_now fun t=>bx_iteG hT (only_isK T (by decide)) (bx_iteB (bx_bind (bx_patA hT h) fun a=>bx_ret (by simp only [phP,mc_pat,List.map_cons,List.map_nil,mcR]; push_cast; omega)) (bx_ret (by have:=leP hT (k:=7) (n:=t.t) (u:=0) (p:=t.p); omega))) (bx_patA hT h)
theorem bx_pat {most : Nat} : ∀ k d, 0 < k → most + 2 ≤ d + k → Bx T (iPat T N most k d) phP
  | 0, d, h, _ => absurd h (by omega)
  | k + 1, d, _, hk => by
    rcases Nat.lt_or_ge most d with hd | hd
    · exact ⟨stay_iPat hT most (k + 1) d, fun s hi hc => by
        exfalso
        rw [iPat] at hc
        unfold iPatB deepP at hc
        have hne : (deeperP T most d s).c ≠ 0 := by
          unfold deeperP
          simp only [if_pos hd]
          by_cases h0 : s.c = 0
          · rw [failP_0 h0, if_neg (show ¬ ((12 : Int) = 0) by decide)]; exact (by decide : (12 : Int) ≠ 0)
          · rw [failP_c h0, if_neg h0]; exact h0
        rw [if_neg hne] at hc
        exact hne hc⟩
    · rw [iPat]; exact bx_pat1 hT (bx_pat k (d + 1) (by omega) (by omega))
theorem bx_br {ex:PM ExpD} (h:Bx T ex phE):Bx T (iBr T N ex) phE :=
 bx_now fun t=>bx_want hT <| bx_iteG hT (only_isT T _) (bx_ret (by have:=leE hT (k:=4) (n:=[]) (u:=0) (t:=[]) (p:=t.p); omega)) <|
  bx_bad (StayM.ret _) (fun _=>rfl) <| bx_bind h fun a=>bx_bind (bx_manyA hT (only_isT T _) h N) fun l=>bx_want hT <| bx_ret (by
   rw [sum_E]
   split
   ·rename_i h0; subst h0; simp only [List.map_nil,mcR,List.length_nil]; omega
   ·simp only [phE,mc_exp,List.map_cons,List.map_nil,mcR]; push_cast; omega)
theorem bx_atom {ex:PM ExpD} (h:Bx T ex phE):Bx T (iAtom T N ex) phE :=
 bx_now fun t=>bx_iteG hT (only_isK T (by decide)) (bx_ret (by have:=leE hT (k:=1) (n:=[]) (u:=t.n) (t:=[]) (p:=t.p); omega)) <|
  bx_iteG hT (only_isK T (by decide)) (bx_ret (by have:=leE hT (k:=2) (n:=[]) (u:=0) (t:=t.t) (p:=t.p); omega)) <|
  bx_iteG hT (only_isT T _) (bx_ret (by have:=leE hT (k:=3) (n:=[]) (u:=1) (t:=[]) (p:=t.p); omega)) <|
  bx_iteG hT (only_isT T _) (bx_ret (by have:=leE hT (k:=3) (n:=[]) (u:=0) (t:=[]) (p:=t.p); omega)) <|
  bx_iteG hT (only_isK T (by decide)) (bx_ret (by have:=leE hT (k:=5) (n:=t.t) (u:=0) (t:=[]) (p:=t.p); omega)) <|
  bx_iteG hT (only_isK T (by decide)) (bx_ret (by have:=leE hT (k:=6) (n:=t.t) (u:=0) (t:=[]) (p:=t.p); omega)) <|
  bx_iteG hT (only_isT T _) (bx_ret (by have:=leE hT (k:=15) (n:=t.t) (u:=0) (t:=[]) (p:=t.p); omega)) (bx_br hT h)
theorem nd1 (k n p a):phE (node1 k n p a)=phE a+5:=by simp only [phE,node1,mc_exp,List.map_cons,List.map_nil,mcR]; push_cast; omega
theorem nd2 (k n p a b):phE (node2 k n p a b)=phE a+phE b:=by simp only [phE,node2,mc_exp,List.map_cons,List.map_nil,mcR]; push_cast; omega
theorem bx_pre {ex:PM ExpD} (h:Bx T ex phE):Bx T (iPre T N ex) phE :=
 bx_now fun t=>bx_iteG hT only_primT (bx_bind (bx_atom hT h) fun a=>bx_ret (by rw [nd1 hT]; omega)) <|
  bx_iteG hT (only_isK T (by decide)) (bx_iteB (bx_bind (bx_atom hT h) fun a=>bx_ret (by rw [nd1 hT]; omega)) (bx_ret (by have:=leE hT (k:=6) (n:=t.t) (u:=0) (t:=[]) (p:=t.p); omega))) (bx_atom hT h)
theorem bx_app {ex:PM ExpD} (h:Bx T ex phE):Bx T (iApp T N ex) phE :=
 bx_bind (bx_pre hT h) fun a=>bx_carry only_atNx (fun a=>bx_bind (bx_atom hT h) fun b=>bx_ret (by rw [nd2 hT]; omega)) N a
theorem bx_rowG {L : List (List UInt8)} {side : PM ExpD} (h : Bx T side phE) (a : ExpD) : Bx T (rowG T N L side a) (fun b => phE b - phE a) := by
  refine ⟨stay_rowG hT h.st, ?_⟩
  unfold rowG
  induction N generalizing a with
  | zero => intro s hi hc; show phE a - phE a + 10 * (s.i : Int) ≤ 10 * (s.i : Int); omega
  | succ n ih =>
    intro s hi hc
    cases hb : opT T L s with
    | false => rw [carry_c hb]; show phE a - phE a + 10 * (s.i : Int) ≤ 10 * (s.i : Int); omega
    | true =>
      have h0 : (adv s).i < T.length := by simpa [adv] using adv_at hT hi (only_opT L s hb).2
      have h1 := (h.st _ h0).2.1
      have e : carry (opT T L) (fun a => nowP T fun t => advP (bindP side fun b => retP (node2 14 t.t t.p a b))) (n + 1) a s = carry (opT T L) (fun a => nowP T fun t => advP (bindP side fun b => retP (node2 14 t.t t.p a b))) n (node2 14 (tokA T s).t (tokA T s).p a (side (adv s)).1) (side (adv s)).2 := by rw [carry, if_pos hb]; rfl
      rw [e] at hc ⊢
      have hc1 := stay_c (stay_rowG (N := n) (L := L) (a := node2 14 (tokA T s).t (tokA T s).p a (side (adv s)).1) hT h.st) h1 hc
      have e1 := h.le _ h0 hc1
      have e2 := ih _ _ h1 hc
      rw [nd2 hT] at e2
      simp only [adv] at *
      omega
theorem bx_row1 {ex:PM ExpD} (h:Bx T ex phE):Bx T (iRow1 T N ex) phE:=bx_bind (bx_app hT h) fun a=>bx_rowG hT (bx_app hT h) a
theorem bx_row0 {ex:PM ExpD} (h:Bx T ex phE):Bx T (iRow0 T N ex) phE:=bx_bind (bx_row1 hT h) fun a=>bx_rowG hT (bx_row1 hT h) a
theorem bx_onceG {g:PS→Bool} (hg:Only T g) {side:PM ExpD} (h:Bx T side phE) (a:ExpD):Bx T (onceG T g side a) (fun b=>phE b - phE a) :=
 bx_now fun t=>bx_iteG hT hg (bx_bind h fun b=>bx_ret (by rw [nd2 hT]; omega)) (bx_ret (by omega))
theorem bx_once1 {ex:PM ExpD} (h:Bx T ex phE):Bx T (iOnce1 T N ex) phE:=bx_bind (bx_row0 hT h) fun a=>bx_onceG hT ((only_isT T _).or (only_isT T _)) (bx_row0 hT h) a
theorem bx_once0 {ex:PM ExpD} (h:Bx T ex phE):Bx T (iOnce0 T N ex) phE:=bx_bind (bx_once1 hT h) fun a=>bx_onceG hT (only_isT T _) (bx_once1 hT h) a
theorem bx_let {ex:PM ExpD} (h:Bx T ex phE) (p:Int):Bx T (letP T ex p) phE :=
 bx_iteG hT (only_isT T _)
  (bx_bind (bx_word hT (by decide)) fun n=>bx_bind (bx_word hT (by decide)) fun f=>bx_want hT <| bx_bind h fun a=>bx_want hT <| bx_bind h fun b=>bx_ret (by simp only [phE,mc_exp,List.map_cons,List.map_nil,mcR]; push_cast; omega))
  (bx_bind (bx_word hT (by decide)) fun n=>bx_want hT <| bx_bind h fun a=>bx_want hT <| bx_bind h fun b=>bx_ret (by simp only [phE,mc_exp,List.map_cons,List.map_nil,mcR]; push_cast; omega))
theorem bx_fun {ex:PM ExpD} (h:Bx T ex phE) (p:Int):Bx T (funP T ex p) phE :=
 bx_bind (bx_word hT (by decide)) fun n=>bx_want hT <| bx_bind h fun a=>bx_ret (by rw [nd1 hT]; omega)
theorem bx_ifP {ex:PM ExpD} (h:Bx T ex phE) (p:Int):Bx T (ifP T ex p) phE :=
 bx_bind h fun a=>bx_want hT <| bx_bind h fun b=>bx_want hT <| bx_bind h fun c=>bx_ret (by simp only [phE,mc_exp,List.map_cons,List.map_nil,mcR]; push_cast; omega)
theorem bx_arm {pat:PM PatD} {ex:PM ExpD} (hp:Bx T pat phP) (h:Bx T ex phE):Bx T (armP T pat ex) phA :=
 bx_bind hp fun a=>bx_want hT <| bx_bind h fun b=>bx_ret (by simp only [phA,phP,phE,ArmD.tv,mcC_app]; push_cast; omega)
theorem bx_match {pat:PM PatD} {ex:PM ExpD} (hp:Bx T pat phP) (h:Bx T ex phE) (p:Int):Bx T (iMatch T N pat ex p) phE :=
 bx_bind h fun a=>bx_want hT <| bx_want hT <| bx_bind (ψ:=fun l=>sumI phA l) (m:=iteB (fun s=>decide (s.c=0)) (armsP T N (armP T pat ex)) (retP []))
  (bx_iteB (bx_bind (bx_arm hT hp h) fun a=>bx_bind (bx_manyA hT (only_isT T _) (bx_arm hT hp h) N) fun l=>bx_ret (by
   have e1:=sum_A 10 l
   have e2:=sum_A 0 l
   simp only [Int.add_zero] at e2
   simp only [sumI,e1,e2]
   omega)) (bx_ret (by simp [sumI])))
  fun l=>bx_want hT <| bx_ret (by
   have e2:=sum_A 0 l
   simp only [Int.add_zero] at e2
   rw [e2]
   simp only [phE,mc_exp,List.map_cons,List.map_nil,mcR]; push_cast; omega)
theorem bx_exp1 {most d:Nat} {pat:PM PatD} {ex:PM ExpD} (hp:Bx T pat phP) (h:Bx T ex phE):Bx T (iExpB T N most pat ex d) phE :=
 bx_deep <| bx_now fun t=>bx_iteG hT (only_isT T _) (bx_mono (bx_let hT h t.p) fun a=>by omega) <| bx_iteG hT (only_isT T _) (bx_mono (bx_fun hT h t.p) fun a=>by omega) <|
  bx_iteG hT (only_isT T _) (bx_mono (bx_ifP hT h t.p) fun a=>by omega) <| bx_iteG hT (only_isT T _) (bx_mono (bx_match hT hp h t.p) fun a=>by omega) (bx_once0 hT h)
theorem deep_bad {α:Type} {most d:Nat} {z:α} {m:PM α} {s:PS} (hd:most<d):¬ (deepP T most d z m s).2.c=0:=by
 have hne:(deeperP T most d s).c≠0:=by
  unfold deeperP
  simp only [if_pos hd]
  by_cases h0:s.c=0
  ·rw [failP_0 h0,if_neg (show ¬ ((12:Int)=0) by decide)]; exact (by decide:(12:Int)≠0)
  ·rw [failP_c h0,if_neg h0]; exact h0
 unfold deepP
 rw [if_neg hne]
 exact hne
theorem bx_exp {most : Nat} : ∀ k d, 0 < k → most + 2 ≤ d + k → Bx T (iExp T N most k d) phE
  | 0, d, h, _ => absurd h (by omega)
  | k + 1, d, _, hk => by
    rcases Nat.lt_or_ge most d with hd | hd
    · exact ⟨stay_iExp hT most (k + 1) d, fun s hi hc => (deep_bad hT hd hc).elim⟩
    · rw [iExp]; exact bx_exp1 hT (bx_pat hT k (d + 1) (by omega) (by omega)) (bx_exp k (d + 1) (by omega) (by omega))
end
end Go.Proofs.YtghcmccjchdgeaaGreatDoor.Pg
/- How great a parsed program is: its marks, by its words. -/
set_option linter.all false
namespace Go.Proofs.YtghcmccjchdgeaaGreatDoor.Pg
open Go.AM
def phT (t:TyE):Int:=(mcC t.tv:Int)+5
def phC (c:CtorD):Int:=(mcC c.tv:Int)+4
def phD (d:DataD):Int:=(mcC d.tv:Int)+10
theorem sum_T (c:Int):∀ l:List TyE,sumI (fun a=>phT a+c) l=(mcR (l.map TyE.tv):Int)+(5+c) * l.length
 | []=>by simp [sumI,mcR]
 | a :: l=>by rw [sumI,sum_T c l]; simp only [phT,List.map_cons,mcR,List.length_cons]; push_cast; rw [Int.mul_add]; omega
theorem sum_C (c:Int):∀ l:List CtorD,sumI (fun a=>phC a+c) l=(mcR (l.map CtorD.tv):Int)+(4+c) * l.length
 | []=>by simp [sumI,mcR]
 | a :: l=>by rw [sumI,sum_C c l]; simp only [phC,List.map_cons,mcR,List.length_cons]; push_cast; rw [Int.mul_add]; omega
theorem sum_D:∀ l:List DataD,sumI phD l=(mcR (l.map DataD.tv):Int)+10 * l.length
 | []=>by simp [sumI,mcR]
 | a :: l=>by rw [sumI,sum_D l]; simp only [phD,List.map_cons,mcR,List.length_cons]; push_cast; omega
theorem sum_10 {α:Type}:∀ l:List α,sumI (fun _=>(10:Int)) l=10 * l.length
 | []=>by simp [sumI]
 | a :: l=>by rw [sumI,sum_10 l]; simp only [List.length_cons]; push_cast; omega
theorem mc_ty (k n p ks):mcC (TyE.tv (.mk k n p ks))=3+mcR (ks.map TyE.tv):=by rw [TyE.tv,TyE.tvL_eq]; simp only [mcC,mcT]; omega
theorem mc_ctor (n h t p):mcC (CtorD.tv ⟨n,h,t,p⟩)=3+mcC t.tv:=by unfold CtorD.tv; rw [mcC_app,mcC_app]; simp only [mcC,mcT]; omega
theorem mc_names:∀ l,mcR (namesTV l)=l.length
 | []=>rfl
 | a :: l=>by have:=mc_names l; unfold namesTV at *; rw [List.map_cons,mcR,this]; simp only [mcC,mcT,List.length_cons]; omega
theorem mc_data (n vs cs p):mcC (DataD.tv ⟨n,vs,cs,p⟩)=2+vs.length+mcR (cs.map CtorD.tv):=by unfold DataD.tv; simp only [mcC,mcT,mc_names]; omega
theorem mc_prog (ds e):mcC (ProgD.tv ⟨ds,e⟩)=mcR (ds.map DataD.tv)+mcC e.tv:=by unfold ProgD.tv; simp only [mcC,mcT]
section
variable {T:List Tok} {N:Nat} (hT:ToksOk T)
include hT
theorem leT {k n p}:phT (.mk k n p [])≤10:=by simp only [phT,mc_ty]; simp [mcR]
theorem bx_tyAt {ty:PM TyE} (h:Bx T ty phT):Bx T (tyAt T ty) phT :=
 bx_now fun t=>bx_iteG hT (only_isK T (by decide)) (bx_ret (by have:=leT hT (k:=2) (n:=t.t) (p:=t.p); omega)) <|
  bx_iteG hT (only_isK T (by decide)) (bx_ret (by have:=leT hT (k:=1) (n:=t.t) (p:=t.p); omega)) <|
  bx_want hT <| bx_bind h fun o=>bx_want hT <| bx_ret (by omega)
theorem bx_tyPost {ty:PM TyE} (h:Bx T ty phT):Bx T (tyPost T N ty) phT :=
 bx_now fun t=>bx_iteG hT (only_isT T _) (bx_bind (bx_tyAt hT h) fun x=>bx_ret (by simp only [phT,mc_ty,List.map_cons,List.map_nil,mcR]; push_cast; omega)) <|
  bx_iteG hT (only_isK T (by decide)) (bx_bind (bx_many only_tySt (bx_tyAt hT h) N) fun l=>bx_ret (by
   have e1:=sum_T 0 l
   simp only [Int.add_zero] at e1
   rw [e1]; simp only [phT,mc_ty]; push_cast; omega)) (bx_tyAt hT h)
theorem tup_le (a:TyE) (l:List TyE):phT (tup4 a l)≤phT a+sumI (fun a=>phT a+10) l:=by
 rw [sum_T,tup4]
 split
 ·rename_i h0; subst h0; simp [mcR]
 ·rename_i h0
  have:1≤l.length:=by cases l; exact (h0 rfl).elim; simp
  simp only [phT,mc_ty,List.map_cons,mcR]; push_cast; omega
theorem bx_ty1 {most d:Nat} {ty:PM TyE} (h:Bx T ty phT):Bx T (iTyB T N most ty d) phT :=
 bx_deep <| bx_bind (bx_tyPost hT h) fun a=>bx_bind (bx_manyA hT (only_isT T _) (bx_tyPost hT h) N) fun l =>
  bx_iteG hT (only_isT T _) (bx_bind h fun b=>bx_ret (by
   have:=tup_le hT a l
   simp only [phT,mc_ty,List.map_cons,List.map_nil,mcR] at *
   push_cast; omega)) (bx_ret (by have:=tup_le hT a l; omega))
theorem bx_ty {most : Nat} : ∀ k d, 0 < k → most + 2 ≤ d + k → Bx T (iTy T N most k d) phT
  | 0, d, h, _ => absurd h (by omega)
  | k + 1, d, _, hk => by
    rcases Nat.lt_or_ge most d with hd | hd
    · exact ⟨stay_iTy hT most (k + 1) d, fun s hi hc => (deep_bad hT hd hc).elim⟩
    · rw [iTy]; exact bx_ty1 hT (bx_ty k (d + 1) (by omega) (by omega))
theorem bx_ctor {ty:PM TyE} (h:Bx T ty phT):Bx T (ctorP T ty) phC :=
 bx_now fun t=>bx_bind (bx_word hT (by decide)) fun n=>bx_iteG hT (only_isT T _) (bx_bind h fun a=>bx_ret (by simp only [phC,phT,mc_ctor]; push_cast; omega))
  (bx_ret (by simp only [phC,mc_ctor,ty0,mc_ty,List.map_nil,mcR]; omega))
theorem bx_data {ty:PM TyE} (h:Bx T ty phT):Bx T (dataP T N ty) phD :=
 bx_now fun t=>bx_want hT <| bx_bind (bx_many (only_isK T (by decide)) (bx_word hT (by decide)) N) fun vs=>bx_bind (bx_word hT (by decide)) fun n=>bx_want hT <|
  bx_bind (bx_ctor hT h) fun c=>bx_bind (bx_manyA hT (only_isT T _) (bx_ctor hT h) N) fun cs=>bx_want hT <| bx_ret (by
   rw [sum_C,sum_10]
   simp only [phD,phC,mc_data,List.map_cons,mcR]; push_cast; omega)
theorem bx_prog {ty:PM TyE} {ex:PM ExpD} (h:Bx T ty phT) (hx:Bx T ex phE):Bx T (progP T N ty ex) (fun p=>(mcC p.tv:Int)) :=
 bx_bind (bx_many (only_isT T _) (bx_data hT h) N) fun ds=>bx_bind hx fun e=>bx_end <| bx_ret (by
  rw [sum_D]
  simp only [phE,mc_prog]; push_cast; omega)
end
end Go.Proofs.YtghcmccjchdgeaaGreatDoor.Pg
/- TIES of functions 3 9 10 11 12 32 33 34 35 36 37 66 67 68 69 113 171 (printed by wip/tools/mkties3.py). -/
set_option linter.all false
set_option maxRecDepth 100000
namespace Go.Proofs.YtghcmccjchdgeaaGreatDoor.Mc
open Go.AM
def mc3:Got (Tryz.f3.body.map (compile [0,2,3,4,5,6,7,8,9,10,13,33,41,44,59,64,67] Tryz.prog 68)):=⟨_,by conv=>lhs; cbv⟩
def mr3:List MR:=[.t 2]
theorem call3:CallT Tryz.prog 3 68 mc3.m mr3:=mc3.call Tryz.func3 (by kernel_rfl)
def mc9:Got (Tryz.f9.body.map (compile [0,1,2,3,4,9,14,19,24,29,35,41] Tryz.prog 42)):=⟨_,by conv=>lhs; cbv⟩
def mr9:List MR:=[.t 4]
theorem call9:CallT Tryz.prog 9 42 mc9.m mr9:=mc9.call Tryz.func9 (by kernel_rfl)
def mc10:Got (Tryz.f10.body.map (compile [0,1,2,3,4,9,14] Tryz.prog 15)):=⟨_,by conv=>lhs; cbv⟩
def mr10:List MR:=[.t 4]
theorem call10:CallT Tryz.prog 10 15 mc10.m mr10:=mc10.call Tryz.func10 (by kernel_rfl)
def mc11:Got (Tryz.f11.body.map (compile [0,1,2,4] Tryz.prog 14)):=⟨_,by conv=>lhs; cbv⟩
def mr11:List MR:=[.t 4]
theorem call11:CallT Tryz.prog 11 14 mc11.m mr11:=mc11.call Tryz.func11 (by kernel_rfl)
def mc12:Got (Tryz.f12.body.map (compile [0,1,2,4,10,16] Tryz.prog 18)):=⟨_,by conv=>lhs; cbv⟩
def mr12:List MR:=[.t 4]
theorem call12:CallT Tryz.prog 12 18 mc12.m mr12:=mc12.call Tryz.func12 (by kernel_rfl)
def mc32:Got (Tryz.f32.body.map (compile [0,1,4,5,10,14,26] Tryz.prog 27)):=⟨_,by conv=>lhs; cbv⟩
def mr32:List MR:=[.t 4]
theorem call32:CallT Tryz.prog 32 27 mc32.m mr32:=mc32.call Tryz.func32 (by kernel_rfl)
def mc33:Got (Tryz.f33.body.map (compile [0,1,4,5,10,14,26] Tryz.prog 27)):=⟨_,by conv=>lhs; cbv⟩
def mr33:List MR:=[.t 4]
theorem call33:CallT Tryz.prog 33 27 mc33.m mr33:=mc33.call Tryz.func33 (by kernel_rfl)
def mc34:Got (Tryz.f34.body.map (compile [0,1,4,5,9] Tryz.prog 64)):=⟨_,by conv=>lhs; cbv⟩
def mr34:List MR:=[.t 4]
theorem call34:CallT Tryz.prog 34 64 mc34.m mr34:=mc34.call Tryz.func34 (by kernel_rfl)
def mc35:Got (Tryz.f35.body.map (compile [0,1,4,5,9] Tryz.prog 112)):=⟨_,by conv=>lhs; cbv⟩
def mr35:List MR:=[.t 4]
theorem call35:CallT Tryz.prog 35 112 mc35.m mr35:=mc35.call Tryz.func35 (by kernel_rfl)
def mc36:Got (Tryz.f36.body.map (compile [0,1,4,5,9,18,28,37,47,56,67,76] Tryz.prog 78)):=⟨_,by conv=>lhs; cbv⟩
def mr36:List MR:=[.t 4]
theorem call36:CallT Tryz.prog 36 78 mc36.m mr36:=mc36.call Tryz.func36 (by kernel_rfl)
def mc37:Got (Tryz.f37.body.map (compile [0,1,4,5,9,19,30,40,50,62,70,81,91,102,112,124,134] Tryz.prog 136)):=⟨_,by conv=>lhs; cbv⟩
def mr37:List MR:=[.t 4]
theorem call37:CallT Tryz.prog 37 136 mc37.m mr37:=mc37.call Tryz.func37 (by kernel_rfl)
def mc66:Got (Tryz.f66.body.map (compile [0,1,2,3,4,10,16] Tryz.prog 17)):=⟨_,by conv=>lhs; cbv⟩
def mr66:List MR:=[.t 4]
theorem call66:CallT Tryz.prog 66 17 mc66.m mr66:=mc66.call Tryz.func66 (by kernel_rfl)
def mc67:Got (Tryz.f67.body.map (compile [0,2,3,5,7] Tryz.prog 20)):=⟨_,by conv=>lhs; cbv⟩
def mr67:List MR:=[.t 2]
theorem call67:CallT Tryz.prog 67 20 mc67.m mr67:=mc67.call Tryz.func67 (by kernel_rfl)
def mc68:Got (Tryz.f68.body.map (compile [0,1,4,5,9] Tryz.prog 49)):=⟨_,by conv=>lhs; cbv⟩
def mr68:List MR:=[.t 4]
theorem call68:CallT Tryz.prog 68 49 mc68.m mr68:=mc68.call Tryz.func68 (by kernel_rfl)
def mc69:Got (Tryz.f69.body.map (compile [0,1,4,5,9,18,28,37,46,57] Tryz.prog 59)):=⟨_,by conv=>lhs; cbv⟩
def mr69:List MR:=[.t 4]
theorem call69:CallT Tryz.prog 69 59 mc69.m mr69:=mc69.call Tryz.func69 (by kernel_rfl)
def mc113:Got (Tryz.f113.body.map (compile [0,1,2,3,4,9,14,19,24,30] Tryz.prog 31)):=⟨_,by conv=>lhs; cbv⟩
def mr113:List MR:=[.t 4]
theorem call113:CallT Tryz.prog 113 31 mc113.m mr113:=mc113.call Tryz.func113 (by kernel_rfl)
def mc171:Got (Tryz.f171.body.map (compile [0,1,4,5,10,14,26] Tryz.prog 27)):=⟨_,by conv=>lhs; cbv⟩
def mr171:List MR:=[.t 4]
theorem call171:CallT Tryz.prog 171 27 mc171.m mr171:=mc171.call Tryz.func171 (by kernel_rfl)
end Go.Proofs.YtghcmccjchdgeaaGreatDoor.Mc
/- TIES of functions 4 15 16 17 40 41 42 74 75 76 77 78 116 117 118 119 174 219 240 (printed by wip/tools/mkties3.py). -/
set_option linter.all false
set_option maxRecDepth 100000
namespace Go.Proofs.YtghcmccjchdgeaaGreatDoor.Mc
open Go.AM
def mc4:Got (Tryz.f4.body.map (compile [0,2,3,4,5,6,7,8,9,10,13,33,41,44,59,64,67] Tryz.prog 68)):=⟨_,by conv=>lhs; cbv⟩
def mr4:List MR:=[.t 2]
theorem call4:CallT Tryz.prog 4 68 mc4.m mr4:=mc4.call Tryz.func4 (by kernel_rfl)
def mc15:Got (Tryz.f15.body.map (compile [0,1,2,3,4,10,16] Tryz.prog 17)):=⟨_,by conv=>lhs; cbv⟩
def mr15:List MR:=[.t 4]
theorem call15:CallT Tryz.prog 15 17 mc15.m mr15:=mc15.call Tryz.func15 (by kernel_rfl)
def mc16:Got (Tryz.f16.body.map (compile [0,1,2,4] Tryz.prog 14)):=⟨_,by conv=>lhs; cbv⟩
def mr16:List MR:=[.t 4]
theorem call16:CallT Tryz.prog 16 14 mc16.m mr16:=mc16.call Tryz.func16 (by kernel_rfl)
def mc17:Got (Tryz.f17.body.map (compile [0,1,2,4,10,16] Tryz.prog 18)):=⟨_,by conv=>lhs; cbv⟩
def mr17:List MR:=[.t 4]
theorem call17:CallT Tryz.prog 17 18 mc17.m mr17:=mc17.call Tryz.func17 (by kernel_rfl)
def mc40:Got (Tryz.f40.body.map (compile [0,1,4,5,10,14,26] Tryz.prog 27)):=⟨_,by conv=>lhs; cbv⟩
def mr40:List MR:=[.t 4]
theorem call40:CallT Tryz.prog 40 27 mc40.m mr40:=mc40.call Tryz.func40 (by kernel_rfl)
def mc41:Got (Tryz.f41.body.map (compile [0,1,4,5,9] Tryz.prog 42)):=⟨_,by conv=>lhs; cbv⟩
def mr41:List MR:=[.t 4]
theorem call41:CallT Tryz.prog 41 42 mc41.m mr41:=mc41.call Tryz.func41 (by kernel_rfl)
def mc42:Got (Tryz.f42.body.map (compile [0,1,4,5,9,19,30,39,46] Tryz.prog 50)):=⟨_,by conv=>lhs; cbv⟩
def mr42:List MR:=[.t 4]
theorem call42:CallT Tryz.prog 42 50 mc42.m mr42:=mc42.call Tryz.func42 (by kernel_rfl)
def mc74:Got (Tryz.f74.body.map (compile [0,1,2,3,4,9,15,21,26] Tryz.prog 27)):=⟨_,by conv=>lhs; cbv⟩
def mr74:List MR:=[.t 4]
theorem call74:CallT Tryz.prog 74 27 mc74.m mr74:=mc74.call Tryz.func74 (by kernel_rfl)
def mc75:Got (Tryz.f75.body.map (compile [0,1,4,5,9] Tryz.prog 20)):=⟨_,by conv=>lhs; cbv⟩
def mr75:List MR:=[.t 4]
theorem call75:CallT Tryz.prog 75 20 mc75.m mr75:=mc75.call Tryz.func75 (by kernel_rfl)
def mc76:Got (Tryz.f76.body.map (compile [0,1,4,5,9] Tryz.prog 70)):=⟨_,by conv=>lhs; cbv⟩
def mr76:List MR:=[.t 4]
theorem call76:CallT Tryz.prog 76 70 mc76.m mr76:=mc76.call Tryz.func76 (by kernel_rfl)
def mc77:Got (Tryz.f77.body.map (compile [0,1,4,5,9,18] Tryz.prog 22)):=⟨_,by conv=>lhs; cbv⟩
def mr77:List MR:=[.t 4]
theorem call77:CallT Tryz.prog 77 22 mc77.m mr77:=mc77.call Tryz.func77 (by kernel_rfl)
def mc78:Got (Tryz.f78.body.map (compile [0,1,4,5,9,19,30,40,51,61,73,80] Tryz.prog 84)):=⟨_,by conv=>lhs; cbv⟩
def mr78:List MR:=[.t 4]
theorem call78:CallT Tryz.prog 78 84 mc78.m mr78:=mc78.call Tryz.func78 (by kernel_rfl)
def mc116:Got (Tryz.f116.body.map (compile [0,1,4,5,10,14,25] Tryz.prog 26)):=⟨_,by conv=>lhs; cbv⟩
def mr116:List MR:=[.t 4]
theorem call116:CallT Tryz.prog 116 26 mc116.m mr116:=mc116.call Tryz.func116 (by kernel_rfl)
def mc117:Got (Tryz.f117.body.map (compile [0,1,4,5,10,14,26] Tryz.prog 27)):=⟨_,by conv=>lhs; cbv⟩
def mr117:List MR:=[.t 4]
theorem call117:CallT Tryz.prog 117 27 mc117.m mr117:=mc117.call Tryz.func117 (by kernel_rfl)
def mc118:Got (Tryz.f118.body.map (compile [0,1,4,5,9] Tryz.prog 42)):=⟨_,by conv=>lhs; cbv⟩
def mr118:List MR:=[.t 4]
theorem call118:CallT Tryz.prog 118 42 mc118.m mr118:=mc118.call Tryz.func118 (by kernel_rfl)
def mc119:Got (Tryz.f119.body.map (compile [0,1,4,5,9,18,28,37,48] Tryz.prog 50)):=⟨_,by conv=>lhs; cbv⟩
def mr119:List MR:=[.t 4]
theorem call119:CallT Tryz.prog 119 50 mc119.m mr119:=mc119.call Tryz.func119 (by kernel_rfl)
def mc174:Got (Tryz.f174.body.map (compile [0,1,2,3,4,9,14,20,25] Tryz.prog 26)):=⟨_,by conv=>lhs; cbv⟩
def mr174:List MR:=[.t 4]
theorem call174:CallT Tryz.prog 174 26 mc174.m mr174:=mc174.call Tryz.func174 (by kernel_rfl)
def mc219:Got (Tryz.f219.body.map (compile [0,1,2,3,4,9,14,19,25] Tryz.prog 26)):=⟨_,by conv=>lhs; cbv⟩
def mr219:List MR:=[.t 4]
theorem call219:CallT Tryz.prog 219 26 mc219.m mr219:=mc219.call Tryz.func219 (by kernel_rfl)
def mc240:Got (Tryz.f240.body.map (compile [0,1,4,5,10,14,26] Tryz.prog 27)):=⟨_,by conv=>lhs; cbv⟩
def mr240:List MR:=[.t 4]
theorem call240:CallT Tryz.prog 240 27 mc240.m mr240:=mc240.call Tryz.func240 (by kernel_rfl)
end Go.Proofs.YtghcmccjchdgeaaGreatDoor.Mc
/- Trees that are compared (in part PgH's). -/
set_option linter.all false
namespace Go.Proofs.YtghcmccjchdgeaaGreatDoor.Pg
open Go.AM Mc Qp
abbrev av (cs:List PV):AV:=.st (cs.map .p)
theorem takeN_all {cs:List AV} {n:Nat} (h:cs.length=n):takeN n cs=some cs:=by
 have:=takeN_app' (a:=cs) (b:=[]) h
 simpa using this
theorem PatD.cells_len (t:PatD):t.cells.length=5:=by cases t; rfl
theorem ExpD.cells_len (t:ExpD):t.cells.length=7:=by cases t; rfl
theorem ArmD.cells_len (t:ArmD):t.cells.length=12:=by
 cases t; rw [ArmD.cells,List.length_append,PatD.cells_len,ExpD.cells_len]
def EqC (f:Nat) (x:AV):Prop:=∀ H,ACall Tryz.prog f [x,x] H (pureQ (.p (.b true)) H)
theorem eqL_Pat {l:List PatD} (he:∀ a∈l,EqC 113 (av (PatD.cells a))):EqC 171 (.p (.l (l.map PatD.cells))):=by
 intro H
 refine call171 (by simp) ?_
 have d0:decide ((l.length:Int)=(l.length:Int))=true:=by simp
 simp only [go_sem,reduceIte,↓reduceIte,sevalprocAttr,Z0,Z1,bytesOf,mc171,mr171,List.length_map,d0]
 intro hm hm2
 rw [maxLe] at hm
 refine ⟨Nat,[0,1,4,5],fun i st=>i≤l.length∧st=⟨[(0,.p (.l (l.map PatD.cells))),(1,.p (.l (l.map PatD.cells))),(4,.p (.b false)),(5,.p (.i .i64 i))],[],H⟩,fun i=>l.length - i,⟨0,?_⟩,?_⟩
 ·simp only [go_sem,reduceIte,↓reduceIte,sevalprocAttr,Z0,Z1,bytesOf]
  omega
 ·rintro i st ⟨hi,rfl⟩
  by_cases hlt:i<l.length
  ·have d1:decide ((i:Int)<(l.length:Int))=true:=by simp; omega
   have hg:(l.map PatD.cells)[i]?=some (PatD.cells l[i]):=by simp [hlt]
   have et:takeN 5 (List.map AV.p (PatD.cells l[i]))=some (List.map AV.p (PatD.cells l[i])):=takeN_all (by rw [List.length_map,PatD.cells_len])
   have ex:=wrN i (by omega)
   simp only [go_sem,reduceIte,↓reduceIte,sevalprocAttr,Z0,Z1,bytesOf,List.length_map,d1]
   intro _
   refine drw_same ?_
   simp only [go_sem,reduceIte,↓reduceIte,sevalprocAttr,Z0,Z1,bytesOf,hg,et,PatD.cells_len]
   refine acall_pure (he l[i] (List.getElem_mem hlt) _) ?_
   simp only [go_sem,reduceIte,↓reduceIte,sevalprocAttr,Z0,Z1,bytesOf,ex]
   exact ⟨i+1,⟨by omega,rfl⟩,by omega⟩
  ·have:i=l.length:=by omega
   subst this
   have d1:decide ((l.length:Int)<(l.length:Int))=false:=by simp
   simp only [go_sem,reduceIte,↓reduceIte,sevalprocAttr,Z0,Z1,bytesOf,List.length_map,d1]
   intro _
   exact ⟨rfl,rfl⟩
theorem eqL_Exp {l:List ExpD} (he:∀ a∈l,EqC 9 (av (ExpD.cells a))):EqC 32 (.p (.l (l.map ExpD.cells))):=by
 intro H
 refine call32 (by simp) ?_
 have d0:decide ((l.length:Int)=(l.length:Int))=true:=by simp
 simp only [go_sem,reduceIte,↓reduceIte,sevalprocAttr,Z0,Z1,bytesOf,mc32,mr32,List.length_map,d0]
 intro hm hm2
 rw [maxLe] at hm
 refine ⟨Nat,[0,1,4,5],fun i st=>i≤l.length∧st=⟨[(0,.p (.l (l.map ExpD.cells))),(1,.p (.l (l.map ExpD.cells))),(4,.p (.b false)),(5,.p (.i .i64 i))],[],H⟩,fun i=>l.length - i,⟨0,?_⟩,?_⟩
 ·simp only [go_sem,reduceIte,↓reduceIte,sevalprocAttr,Z0,Z1,bytesOf]
  omega
 ·rintro i st ⟨hi,rfl⟩
  by_cases hlt:i<l.length
  ·have d1:decide ((i:Int)<(l.length:Int))=true:=by simp; omega
   have hg:(l.map ExpD.cells)[i]?=some (ExpD.cells l[i]):=by simp [hlt]
   have et:takeN 7 (List.map AV.p (ExpD.cells l[i]))=some (List.map AV.p (ExpD.cells l[i])):=takeN_all (by rw [List.length_map,ExpD.cells_len])
   have ex:=wrN i (by omega)
   simp only [go_sem,reduceIte,↓reduceIte,sevalprocAttr,Z0,Z1,bytesOf,List.length_map,d1]
   intro _
   refine drw_same ?_
   simp only [go_sem,reduceIte,↓reduceIte,sevalprocAttr,Z0,Z1,bytesOf,hg,et,ExpD.cells_len]
   refine acall_pure (he l[i] (List.getElem_mem hlt) _) ?_
   simp only [go_sem,reduceIte,↓reduceIte,sevalprocAttr,Z0,Z1,bytesOf,ex]
   exact ⟨i+1,⟨by omega,rfl⟩,by omega⟩
  ·have:i=l.length:=by omega
   subst this
   have d1:decide ((l.length:Int)<(l.length:Int))=false:=by simp
   simp only [go_sem,reduceIte,↓reduceIte,sevalprocAttr,Z0,Z1,bytesOf,List.length_map,d1]
   intro _
   exact ⟨rfl,rfl⟩
theorem eqL_Arm {l:List ArmD} (he:∀ a∈l,EqC 66 (av (ArmD.cells a))):EqC 33 (.p (.l (l.map ArmD.cells))):=by
 intro H
 refine call33 (by simp) ?_
 have d0:decide ((l.length:Int)=(l.length:Int))=true:=by simp
 simp only [go_sem,reduceIte,↓reduceIte,sevalprocAttr,Z0,Z1,bytesOf,mc33,mr33,List.length_map,d0]
 intro hm hm2
 rw [maxLe] at hm
 refine ⟨Nat,[0,1,4,5],fun i st=>i≤l.length∧st=⟨[(0,.p (.l (l.map ArmD.cells))),(1,.p (.l (l.map ArmD.cells))),(4,.p (.b false)),(5,.p (.i .i64 i))],[],H⟩,fun i=>l.length - i,⟨0,?_⟩,?_⟩
 ·simp only [go_sem,reduceIte,↓reduceIte,sevalprocAttr,Z0,Z1,bytesOf]
  omega
 ·rintro i st ⟨hi,rfl⟩
  by_cases hlt:i<l.length
  ·have d1:decide ((i:Int)<(l.length:Int))=true:=by simp; omega
   have hg:(l.map ArmD.cells)[i]?=some (ArmD.cells l[i]):=by simp [hlt]
   have et:takeN 12 (List.map AV.p (ArmD.cells l[i]))=some (List.map AV.p (ArmD.cells l[i])):=takeN_all (by rw [List.length_map,ArmD.cells_len])
   have ex:=wrN i (by omega)
   simp only [go_sem,reduceIte,↓reduceIte,sevalprocAttr,Z0,Z1,bytesOf,List.length_map,d1]
   intro _
   refine drw_same ?_
   simp only [go_sem,reduceIte,↓reduceIte,sevalprocAttr,Z0,Z1,bytesOf,hg,et,ArmD.cells_len]
   refine acall_pure (he l[i] (List.getElem_mem hlt) _) ?_
   simp only [go_sem,reduceIte,↓reduceIte,sevalprocAttr,Z0,Z1,bytesOf,ex]
   exact ⟨i+1,⟨by omega,rfl⟩,by omega⟩
  ·have:i=l.length:=by omega
   subst this
   have d1:decide ((l.length:Int)<(l.length:Int))=false:=by simp
   simp only [go_sem,reduceIte,↓reduceIte,sevalprocAttr,Z0,Z1,bytesOf,List.length_map,d1]
   intro _
   exact ⟨rfl,rfl⟩
theorem eq_Pat (k:Int) (n:List UInt8) (u p:Int) (ks:List PatD) (hk:EqC 171 (.p (.l (PatD.cellsL ks)))):EqC 113 (av (PatD.cells (PatD.mk k n u p ks))):=by
 intro H
 refine acall_drop1 ?_ (tf_p _)
 refine call113 (by simp) ?_
 simp only [go_sem,reduceIte,↓reduceIte,sevalprocAttr,Z0,Z1,bytesOf,mc113,mr113,PatD.cells]
 refine acall_pure (hk _) ?_
 simp only [go_sem,reduceIte,↓reduceIte,sevalprocAttr,Z0,Z1,bytesOf]
 exact ⟨_,rfl⟩
theorem eq_Exp (k:Int) (n:List UInt8) (u:Int) (t:List UInt8) (p:Int) (ks:List ExpD) (as':List ArmD) (hk:EqC 32 (.p (.l (ExpD.cellsL ks)))) (ha:EqC 33 (.p (.l (ExpD.cellsA as')))):EqC 9 (av (ExpD.cells (ExpD.mk k n u t p ks as'))):=by
 intro H
 refine acall_drop1 ?_ (tf_p _)
 refine call9 (by simp) ?_
 simp only [go_sem,reduceIte,↓reduceIte,sevalprocAttr,Z0,Z1,bytesOf,mc9,mr9,ExpD.cells]
 refine acall_pure (hk _) ?_
 simp only [go_sem,reduceIte,↓reduceIte,sevalprocAttr,Z0,Z1,bytesOf]
 refine acall_pure (ha _) ?_
 simp only [go_sem,reduceIte,↓reduceIte,sevalprocAttr,Z0,Z1,bytesOf]
 exact ⟨_,rfl⟩
theorem eq_Arm {p:PatD} {e:ExpD} (hp:EqC 113 (av p.cells)) (he:EqC 9 (av e.cells)):EqC 66 (av (ArmD.cells (ArmD.mk p e))):=by
 intro H
 obtain ⟨pk,pn,pu,pp,pks⟩:=p
 obtain ⟨ek,en,eu,et,ep,eks,eas⟩:=e
 rw [av,PatD.cells] at hp
 rw [av,ExpD.cells] at he
 simp only [List.map_cons,List.map_nil] at hp he
 refine acall_drop1 ?_ (tf_p _)
 refine call66 (by simp) ?_
 simp only [go_sem,reduceIte,↓reduceIte,sevalprocAttr,Z0,Z1,bytesOf,mc66,mr66,ArmD.cells,PatD.cells,ExpD.cells]
 refine acall_pure (hp _) ?_
 simp only [go_sem,reduceIte,↓reduceIte,sevalprocAttr,Z0,Z1,bytesOf]
 refine acall_pure (he _) ?_
 simp only [go_sem,reduceIte,↓reduceIte,sevalprocAttr,Z0,Z1,bytesOf]
 exact ⟨_,rfl⟩
theorem eqPatA : ∀ (m : Nat) (t : PatD), t.sz < m → EqC 113 (av t.cells) := by
  intro m
  induction m with
  | zero => intro t h; omega
  | succ m ih =>
    intro t h
    obtain ⟨k, n, u, p, ks⟩ := t
    rw [PatD.sz, PatD.szL_eq] at h
    have := eq_Pat k n u p ks
    rw [PatD.cellsL_eq] at this
    exact this (eqL_Pat fun a ha => ih a (by have := sumSz_mem PatD.sz ha; omega))
theorem eqExpA : ∀ (m : Nat) (t : ExpD), t.sz < m → EqC 9 (av t.cells) := by
  intro m
  induction m with
  | zero => intro t h; omega
  | succ m ih =>
    intro t h
    obtain ⟨k, n, u, x, p, ks, as'⟩ := t
    rw [ExpD.sz, ExpD.szL_eq, ExpD.szA_eq] at h
    have := eq_Exp k n u x p ks as'
    rw [ExpD.cellsL_eq, ExpD.cellsA_eq] at this
    refine this (eqL_Exp fun a ha => ih a (by have := sumSz_mem ExpD.sz ha; omega)) (eqL_Arm fun a ha => ?_)
    have hm := sumSz_mem ArmD.sz ha
    obtain ⟨q, e⟩ := a
    rw [ArmD.sz] at hm
    exact eq_Arm (eqPatA _ q (Nat.lt_succ_self _)) (ih e (by omega))
end Go.Proofs.YtghcmccjchdgeaaGreatDoor.Pg
/- Programs that are compared (in part PgH's). -/
set_option linter.all false
namespace Go.Proofs.YtghcmccjchdgeaaGreatDoor.Pg
open Go.AM Mc Qp
theorem TyE.cells_len (t:TyE):t.cells.length=4:=by cases t; rfl
theorem CtorD.cells_len (t:CtorD):t.cells.length=7:=by
 simp [CtorD.cells,TyE.cells_len]
theorem DataD.cells_len (t:DataD):t.cells.length=4:=rfl
theorem eqL_TypeExp {l:List TyE} (he:∀ a∈l,EqC 219 (av (TyE.cells a))):EqC 240 (.p (.l (l.map TyE.cells))):=by
 intro H
 refine call240 (by simp) ?_
 have d0:decide ((l.length:Int)=(l.length:Int))=true:=by simp
 simp only [go_sem,reduceIte,↓reduceIte,sevalprocAttr,Z0,Z1,bytesOf,mc240,mr240,List.length_map,d0]
 intro hm hm2
 rw [maxLe] at hm
 refine ⟨Nat,[0,1,4,5],fun i st=>i≤l.length∧st=⟨[(0,.p (.l (l.map TyE.cells))),(1,.p (.l (l.map TyE.cells))),(4,.p (.b false)),(5,.p (.i .i64 i))],[],H⟩,fun i=>l.length - i,⟨0,?_⟩,?_⟩
 ·simp only [go_sem,reduceIte,↓reduceIte,sevalprocAttr,Z0,Z1,bytesOf]
  omega
 ·rintro i st ⟨hi,rfl⟩
  by_cases hlt:i<l.length
  ·have d1:decide ((i:Int)<(l.length:Int))=true:=by simp; omega
   have hg:(l.map TyE.cells)[i]?=some (TyE.cells l[i]):=by simp [hlt]
   have et:takeN 4 (List.map AV.p (TyE.cells l[i]))=some (List.map AV.p (TyE.cells l[i])):=takeN_all (by rw [List.length_map,TyE.cells_len])
   have ex:=wrN i (by omega)
   simp only [go_sem,reduceIte,↓reduceIte,sevalprocAttr,Z0,Z1,bytesOf,List.length_map,d1]
   intro _
   refine drw_same ?_
   simp only [go_sem,reduceIte,↓reduceIte,sevalprocAttr,Z0,Z1,bytesOf,hg,et,TyE.cells_len]
   refine acall_pure (he l[i] (List.getElem_mem hlt) _) ?_
   simp only [go_sem,reduceIte,↓reduceIte,sevalprocAttr,Z0,Z1,bytesOf,ex]
   exact ⟨i+1,⟨by omega,rfl⟩,by omega⟩
  ·have:i=l.length:=by omega
   subst this
   have d1:decide ((l.length:Int)<(l.length:Int))=false:=by simp
   simp only [go_sem,reduceIte,↓reduceIte,sevalprocAttr,Z0,Z1,bytesOf,List.length_map,d1]
   intro _
   exact ⟨rfl,rfl⟩
theorem eqL_Ctor {l:List CtorD} (he:∀ a∈l,EqC 174 (av (CtorD.cells a))):EqC 117 (.p (.l (l.map CtorD.cells))):=by
 intro H
 refine call117 (by simp) ?_
 have d0:decide ((l.length:Int)=(l.length:Int))=true:=by simp
 simp only [go_sem,reduceIte,↓reduceIte,sevalprocAttr,Z0,Z1,bytesOf,mc117,mr117,List.length_map,d0]
 intro hm hm2
 rw [maxLe] at hm
 refine ⟨Nat,[0,1,4,5],fun i st=>i≤l.length∧st=⟨[(0,.p (.l (l.map CtorD.cells))),(1,.p (.l (l.map CtorD.cells))),(4,.p (.b false)),(5,.p (.i .i64 i))],[],H⟩,fun i=>l.length - i,⟨0,?_⟩,?_⟩
 ·simp only [go_sem,reduceIte,↓reduceIte,sevalprocAttr,Z0,Z1,bytesOf]
  omega
 ·rintro i st ⟨hi,rfl⟩
  by_cases hlt:i<l.length
  ·have d1:decide ((i:Int)<(l.length:Int))=true:=by simp; omega
   have hg:(l.map CtorD.cells)[i]?=some (CtorD.cells l[i]):=by simp [hlt]
   have et:takeN 7 (List.map AV.p (CtorD.cells l[i]))=some (List.map AV.p (CtorD.cells l[i])):=takeN_all (by rw [List.length_map,CtorD.cells_len])
   have ex:=wrN i (by omega)
   simp only [go_sem,reduceIte,↓reduceIte,sevalprocAttr,Z0,Z1,bytesOf,List.length_map,d1]
   intro _
   refine drw_same ?_
   simp only [go_sem,reduceIte,↓reduceIte,sevalprocAttr,Z0,Z1,bytesOf,hg,et,CtorD.cells_len]
   refine acall_pure (he l[i] (List.getElem_mem hlt) _) ?_
   simp only [go_sem,reduceIte,↓reduceIte,sevalprocAttr,Z0,Z1,bytesOf,ex]
   exact ⟨i+1,⟨by omega,rfl⟩,by omega⟩
  ·have:i=l.length:=by omega
   subst this
   have d1:decide ((l.length:Int)<(l.length:Int))=false:=by simp
   simp only [go_sem,reduceIte,↓reduceIte,sevalprocAttr,Z0,Z1,bytesOf,List.length_map,d1]
   intro _
   exact ⟨rfl,rfl⟩
theorem eqL_Data {l:List DataD} (he:∀ a∈l,EqC 74 (av (DataD.cells a))):EqC 40 (.p (.l (l.map DataD.cells))):=by
 intro H
 refine call40 (by simp) ?_
 have d0:decide ((l.length:Int)=(l.length:Int))=true:=by simp
 simp only [go_sem,reduceIte,↓reduceIte,sevalprocAttr,Z0,Z1,bytesOf,mc40,mr40,List.length_map,d0]
 intro hm hm2
 rw [maxLe] at hm
 refine ⟨Nat,[0,1,4,5],fun i st=>i≤l.length∧st=⟨[(0,.p (.l (l.map DataD.cells))),(1,.p (.l (l.map DataD.cells))),(4,.p (.b false)),(5,.p (.i .i64 i))],[],H⟩,fun i=>l.length - i,⟨0,?_⟩,?_⟩
 ·simp only [go_sem,reduceIte,↓reduceIte,sevalprocAttr,Z0,Z1,bytesOf]
  omega
 ·rintro i st ⟨hi,rfl⟩
  by_cases hlt:i<l.length
  ·have d1:decide ((i:Int)<(l.length:Int))=true:=by simp; omega
   have hg:(l.map DataD.cells)[i]?=some (DataD.cells l[i]):=by simp [hlt]
   have et:takeN 4 (List.map AV.p (DataD.cells l[i]))=some (List.map AV.p (DataD.cells l[i])):=takeN_all (by rw [List.length_map,DataD.cells_len])
   have ex:=wrN i (by omega)
   simp only [go_sem,reduceIte,↓reduceIte,sevalprocAttr,Z0,Z1,bytesOf,List.length_map,d1]
   intro _
   refine drw_same ?_
   simp only [go_sem,reduceIte,↓reduceIte,sevalprocAttr,Z0,Z1,bytesOf,hg,et,DataD.cells_len]
   refine acall_pure (he l[i] (List.getElem_mem hlt) _) ?_
   simp only [go_sem,reduceIte,↓reduceIte,sevalprocAttr,Z0,Z1,bytesOf,ex]
   exact ⟨i+1,⟨by omega,rfl⟩,by omega⟩
  ·have:i=l.length:=by omega
   subst this
   have d1:decide ((l.length:Int)<(l.length:Int))=false:=by simp
   simp only [go_sem,reduceIte,↓reduceIte,sevalprocAttr,Z0,Z1,bytesOf,List.length_map,d1]
   intro _
   exact ⟨rfl,rfl⟩
theorem eqL_String {l:List (List UInt8)}:EqC 116 (.p (.l (namesC l))):=by
 intro H
 refine call116 (by simp) ?_
 have d0:decide ((l.length:Int)=(l.length:Int))=true:=by simp
 simp only [go_sem,reduceIte,↓reduceIte,sevalprocAttr,Z0,Z1,bytesOf,mc116,mr116,namesC,List.length_map,d0]
 intro hm hm2
 rw [maxLe] at hm
 refine ⟨Nat,[0,1,4,5],fun i st=>i≤l.length∧st=⟨[(0,.p (.l (l.map fun s=>[.s s]))),(1,.p (.l (l.map fun s=>[.s s]))),(4,.p (.b false)),(5,.p (.i .i64 i))],[],H⟩,fun i=>l.length - i,⟨0,?_⟩,?_⟩
 ·simp only [go_sem,reduceIte,↓reduceIte,sevalprocAttr,Z0,Z1,bytesOf]
  omega
 ·rintro i st ⟨hi,rfl⟩
  by_cases hlt:i<l.length
  ·have d1:decide ((i:Int)<(l.length:Int))=true:=by simp; omega
   have hg:(l.map fun s=>[PV.s s])[i]?=some [.s l[i]]:=by simp [hlt]
   have d3:decide (l[i]≠l[i])=false:=by simp
   have ex:=wrN i (by omega)
   simp only [go_sem,reduceIte,↓reduceIte,sevalprocAttr,Z0,Z1,bytesOf,List.length_map,d1]
   intro _
   refine drw_same ?_
   simp only [go_sem,reduceIte,↓reduceIte,sevalprocAttr,Z0,Z1,bytesOf,hg]
   simp only [go_sem,reduceIte,↓reduceIte,sevalprocAttr,Z0,Z1,bytesOf,ex]
   exact ⟨i+1,⟨by omega,rfl⟩,by omega⟩
  ·have:i=l.length:=by omega
   subst this
   have d1:decide ((l.length:Int)<(l.length:Int))=false:=by simp
   simp only [go_sem,reduceIte,↓reduceIte,sevalprocAttr,Z0,Z1,bytesOf,List.length_map,d1]
   intro _
   exact ⟨rfl,rfl⟩
theorem eq_TypeExp (k:Int) (n:List UInt8) (p:Int) (ks:List TyE) (hk:EqC 240 (.p (.l (TyE.cellsL ks)))):EqC 219 (av (TyE.cells (TyE.mk k n p ks))):=by
 intro H
 refine acall_drop1 ?_ (tf_p _)
 refine call219 (by simp) ?_
 simp only [go_sem,reduceIte,↓reduceIte,sevalprocAttr,Z0,Z1,bytesOf,mc219,mr219,TyE.cells]
 refine acall_pure (hk _) ?_
 simp only [go_sem,reduceIte,↓reduceIte,sevalprocAttr,Z0,Z1,bytesOf]
 exact ⟨_,rfl⟩
theorem eq_Ctor {c:CtorD} (ht:EqC 219 (av c.arg.cells)):EqC 174 (av (CtorD.cells (c))):=by
 intro H
 obtain ⟨cn,ch,⟨ak,an,ap,aks⟩,cp⟩:=c
 rw [av,TyE.cells] at ht
 simp only [List.map_cons,List.map_nil] at ht
 refine acall_drop1 ?_ (tf_p _)
 refine call174 (by simp) ?_
 simp only [go_sem,reduceIte,↓reduceIte,sevalprocAttr,Z0,Z1,bytesOf,mc174,mr174,CtorD.cells,TyE.cells]
 refine acall_pure (ht _) ?_
 simp only [go_sem,reduceIte,↓reduceIte,sevalprocAttr,Z0,Z1,bytesOf]
 exact ⟨_,rfl⟩
theorem eq_Data {d:DataD} (hv:EqC 116 (.p (.l (namesC d.vars)))) (hc:EqC 117 (.p (.l (d.ctors.map CtorD.cells)))):EqC 74 (av (DataD.cells (d))):=by
 intro H
 refine acall_drop1 ?_ (tf_p _)
 refine call74 (by simp) ?_
 simp only [go_sem,reduceIte,↓reduceIte,sevalprocAttr,Z0,Z1,bytesOf,mc74,mr74,DataD.cells]
 refine acall_pure (hv _) ?_
 simp only [go_sem,reduceIte,↓reduceIte,sevalprocAttr,Z0,Z1,bytesOf]
 refine acall_pure (hc _) ?_
 simp only [go_sem,reduceIte,↓reduceIte,sevalprocAttr,Z0,Z1,bytesOf]
 exact ⟨_,rfl⟩
theorem eq_Prog {g:ProgD} (hd:EqC 40 (.p (.l (g.types.map DataD.cells)))) (he:EqC 9 (av g.body.cells)):EqC 15 (av (ProgD.cells (g))):=by
 intro H
 obtain ⟨gt,⟨ek,en,eu,et,ep,eks,eas⟩⟩:=g
 rw [av,ExpD.cells] at he
 simp only [List.map_cons,List.map_nil] at he
 refine acall_drop1 ?_ (tf_p _)
 refine call15 (by simp) ?_
 simp only [go_sem,reduceIte,↓reduceIte,sevalprocAttr,Z0,Z1,bytesOf,mc15,mr15,ProgD.cells,ExpD.cells]
 refine acall_pure (hd _) ?_
 simp only [go_sem,reduceIte,↓reduceIte,sevalprocAttr,Z0,Z1,bytesOf]
 refine acall_pure (he _) ?_
 simp only [go_sem,reduceIte,↓reduceIte,sevalprocAttr,Z0,Z1,bytesOf]
 exact ⟨_,rfl⟩
/- all trees -/
theorem eqTy : ∀ (m : Nat) (t : TyE), t.sz < m → EqC 219 (av t.cells) := by
  intro m
  induction m with
  | zero => intro t h; omega
  | succ m ih =>
    intro t h
    obtain ⟨k, n, p, ks⟩ := t
    rw [TyE.sz, TyE.szL_eq] at h
    have := eq_TypeExp k n p ks
    rw [TyE.cellsL_eq] at this
    exact this (eqL_TypeExp fun a ha => ih a (by have := sumSz_mem TyE.sz ha; omega))
theorem eqProgC (g:ProgD):EqC 15 (av g.cells) :=
 eq_Prog (eqL_Data fun d hd=>eq_Data eqL_String (eqL_Ctor fun c hc=>eq_Ctor (eqTy _ _ (Nat.lt_succ_self _)))) (eqExpA _ _ (Nat.lt_succ_self _))
end Go.Proofs.YtghcmccjchdgeaaGreatDoor.Pg
/- Marks of trees that are written, and found again (printed in part by wip/tools/genmark.py). -/
set_option linter.all false
namespace Go.Proofs.YtghcmccjchdgeaaGreatDoor.Pg
open Go.AM Mc Qp
theorem markText (k : Int) (hk0 : 0 ≤ k) (hk : k ≤ 1000000000) : ACall Tryz.prog 67 [.p (.i .i64 k)] [] (fun r H => r = .p (.s (textM k))) := by
  refine call67 (by simp) ?_
  simp only [go_sem, reduceIte, ↓reduceIte, sevalprocAttr, Z0, Z1, bytesOf, mc67, mr67]
  by_cases hc' : k ≤ 0
  · simp only [go_sem, reduceIte, ↓reduceIte, sevalprocAttr, Z0, Z1, bytesOf, dT hc']
    simp [textM, hc']
  · simp only [go_sem, reduceIte, ↓reduceIte, sevalprocAttr, Z0, Z1, bytesOf, dF hc']
    refine ⟨Int × List UInt8 × List AO, [0, 2, 3], fun x st => (0 ≤ x.1 ∧ x.1 ≤ 1000000000 ∧ (x.2.1.length : Int) + x.1 ≤ k ∧ (∃ f : Nat, x.1.toNat ≤ f ∧ mdigs f x.1 x.2.1 = mdigs k.toNat k [])) ∧ st = ⟨[(0, .p (.i .i64 x.1)), (2, .p (.s [])), (3, .p (.s x.2.1))], [], x.2.2⟩, fun x => x.1.toNat, ⟨⟨k, [], []⟩, ?_⟩, ?_⟩
    · simp only [go_sem, reduceIte, ↓reduceIte, sevalprocAttr, Z0, Z1, bytesOf]
      exact ⟨hk0, hk, by simp, ⟨_, Nat.le_refl _, rfl⟩⟩
    · rintro ⟨n, s, G⟩ st ⟨⟨h0, h1, h2, ⟨f, hf, hd0⟩⟩, rfl⟩
      simp only at h0 h1 h2 hf hd0
      by_cases hd' : 0 < n
      · have hlen : (n.tdiv 10) < n ∧ 0 ≤ n.tdiv 10 := by
          rw [Int.tdiv_eq_ediv_of_nonneg h0]; omega
        simp only [go_sem, reduceIte, ↓reduceIte, sevalprocAttr, Z0, Z1, bytesOf, dT hd']
        refine ⟨by rw [maxLe]; omega, ?_⟩
        rw [wr64 (n := n.tdiv 10) (by omega) (by omega)]
        refine ⟨⟨n.tdiv 10, mdigit n :: s, _⟩, ⟨⟨hlen.2, by simp only; omega, ?_, ?_⟩, rfl⟩, ?_⟩
        · simp; omega
        · cases f with
          | zero => omega
          | succ f =>
            refine ⟨f, by simp only; omega, ?_⟩
            rw [← hd0, mdigs, if_pos hd']
        · simp; omega
      · have hz : n = 0 := by omega
        subst hz
        rw [mdigs_zero] at hd0
        simp only [go_sem, reduceIte, ↓reduceIte, sevalprocAttr, Z0, Z1, bytesOf]
        refine ⟨by rw [maxLe]; omega, ?_⟩
        rw [textM, if_neg hc', ← hd0]
theorem markTextP (k:Int) (hk0:0≤k) (hk:k≤1000000000) (H:List AO):ACall Tryz.prog 67 [.p (.i .i64 k)] H (pureQ (.p (.s (textM k))) H) :=
 (acall_lend (markText k hk0 hk) (fun r H' hr=>by subst hr; exact grnd_s _) (lentAll_cons (.pure _) (lentAll_nil _))).mono fun r H' ⟨h1,_,h2⟩=>⟨h2,h1⟩
theorem wrK {k:Int} (h0:0≤k) (h:k≤1000000000):wr .i64 (k+1)=k+1:=wr64 (by omega) (by omega)
theorem mark_PatS {rows:List (List TV)} (sh:∀ r∈rows,∃ (v0:Int) (v1:List UInt8) (v2:Int) (v3:Int) (v4:List (List TV)),r=([.p (.i .i64 v0),.p (.s v1),.p (.i .i64 v2),.p (.i .i64 v3),.s 5 v4]:List TV)∧(MarkC Tryz.prog 68 5 v4∧v4.length≤1048576)):MarkC Tryz.prog 68 5 rows:=by
 intro H a ids k hO hN hk0 hk hn
 refine call68 (by simp) ?_
 have hO':=hO
 rw [Own] at hO'
 rcases hO' with ⟨rfl,rfl,rfl⟩ | ⟨id,ver,rs,js,rfl,rfl,h1,h2⟩
 ·simp only [go_sem,reduceIte,↓reduceIte,sevalprocAttr,Z0,Z1,bytesOf,mc68,mr68]
  refine ⟨Unit,[0,1,4,5],fun _ st=>st=⟨[(0,.p .nl),(1,.p (.i .i64 k)),(4,.p (.i .i64 0)),(5,.p (.i .i64 0))],[],H⟩,fun _=>0,⟨(),rfl⟩,?_⟩
  rintro _ _ rfl
  simp only [go_sem,reduceIte,↓reduceIte,sevalprocAttr,Z0,Z1,bytesOf]
  refine ⟨by simp [mcR],?_,fun i _=>trivial⟩
  rw [mkR]; exact hO
 ·have hlen:=h2.len
  generalize rs.length=N at hO hlen ⊢
  clear h1 h2
  subst hlen
  simp only [go_sem,reduceIte,↓reduceIte,sevalprocAttr,Z0,Z1,bytesOf,mc68,mr68]
  refine ⟨Nat × List AO,[0,1,4,5],fun x st=>(x.1≤rows.length∧MkI H x.2 5 id ver rows.length ((mkR (rows.take x.1) k).1++rows.drop x.1) (id :: js))∧st=⟨[(0,.gs id ver 0 rows.length),(1,.p (.i .i64 (k+mcR (rows.take x.1)))),(4,.p (.i .i64 0)),(5,.p (.i .i64 x.1))],[],x.2⟩,fun x=>rows.length - x.1,⟨(0,H),?_⟩,?_⟩
  ·simp only [go_sem,reduceIte,↓reduceIte,sevalprocAttr,Z0,Z1,bytesOf,List.take_zero,List.drop_zero,mkR,mcR]
   exact ⟨⟨Nat.zero_le _,hO,hN,rfl,fun _ _=>rfl⟩,by simp⟩
  ·rintro ⟨x,H0'⟩ _ ⟨⟨hx,M0⟩,rfl⟩
   simp only at hx M0
   by_cases hlt:x<rows.length
   ·have d1:decide ((x:Int)<(rows.length:Int))=true:=by simp; omega
    have hlt':((x:Int)<(rows.length:Int)):=by omega
    have X0:=mk_row hlt k
    have hE:=mk_rows hlt k
    have hS:=mcR_step rows x hlt
    have hB:=mcR_take rows (x+1)
    have hK0:0≤k+(mcR (rows.take x):Int):=by omega
    have ew:=wrN x (by omega)
    obtain ⟨v0,v1,v2,v3,v4,hs,⟨m4,n4⟩⟩:=sh rows[x] (List.getElem_mem hlt)
    rw [hs] at X0 hE hS
    generalize hkx:k+(mcR (rows.take x):Int)=kx at hE hK0 ⊢
    generalize (mkR (rows.take x) k).1++rows.drop x=R0 at X0 hE M0
    simp only [mcC,mcT] at hS
    simp only [go_sem,reduceIte,↓reduceIte,sevalprocAttr,Z0,Z1,bytesOf,d1]
    intro hml
    obtain ⟨rs0,Hn0,q0,e0,M1,X1⟩:=mk_sto M0 X0 (c:=0) rfl (.i .i64 (kx))
    simp only [go_sem,reduceIte,↓reduceIte,sevalprocAttr,Z0,Z1,bytesOf,q0]
    refine ⟨hlt',?_⟩
    rw [e0]
    simp only [go_sem,reduceIte,↓reduceIte,sevalprocAttr,Z0,Z1,bytesOf,wrK (k:=kx) (by omega) (by omega)]
    refine acall_pure (markTextP (kx+1) (by omega) (by omega) _) ?_
    obtain ⟨rs1,Hn1,q1,e1,M2,X2⟩:=mk_sto M1 X1 (c:=1) rfl (.s (textM (kx+1)))
    simp only [go_sem,reduceIte,↓reduceIte,sevalprocAttr,Z0,Z1,bytesOf,q1]
    refine ⟨hlt',?_⟩
    rw [e1]
    simp only [go_sem,reduceIte,↓reduceIte,sevalprocAttr,Z0,Z1,bytesOf,wrK (k:=kx+1) (by omega) (by omega)]
    obtain ⟨rs2,Hn2,q2,e2,M3,X3⟩:=mk_sto M2 X2 (c:=2) rfl (.i .i64 (kx+1+1))
    simp only [go_sem,reduceIte,↓reduceIte,sevalprocAttr,Z0,Z1,bytesOf,q2]
    refine ⟨hlt',?_⟩
    rw [e2]
    simp only [go_sem,reduceIte,↓reduceIte,sevalprocAttr,Z0,Z1,bytesOf,wrK (k:=kx+1+1) (by omega) (by omega)]
    obtain ⟨rs3,Hn3,q3,e3,M4,X4⟩:=mk_sto M3 X3 (c:=3) rfl (.i .i64 (kx+1+1+1))
    simp only [go_sem,reduceIte,↓reduceIte,sevalprocAttr,Z0,Z1,bytesOf,q3]
    refine ⟨hlt',?_⟩
    rw [e3]
    simp only [go_sem,reduceIte,↓reduceIte,sevalprocAttr,Z0,Z1,bytesOf,wrK (k:=kx+1+1+1) (by omega) (by omega)]
    obtain ⟨rs4,r4,kv4,js4,q4,qr4,ql4,qc4,qo4,qn4,put4⟩:=mk_call M4 X4 (c:=4) rfl
    obtain ⟨r4_0,r4_1,r4_2,r4_3,r4_4,rfl⟩:=len5 ql4
    obtain rfl:r4_4=kv4:=by simpa using qc4
    simp only [go_sem,reduceIte,↓reduceIte,sevalprocAttr,Z0,Z1,bytesOf,q4,qr4]
    refine ⟨hlt',?_⟩
    refine (m4 _ _ _ (kx+1+1+1+1) qo4 qn4 (by omega) (by omega) n4).mono ?_
    rintro _ Hn4 ⟨rfl,hl4,ho4,hf4⟩
    obtain ⟨M5,X5⟩:=put4 Hn4 _ hl4 ho4 hf4
    simp only [go_sem,reduceIte,↓reduceIte,sevalprocAttr,Z0,Z1,bytesOf]
    simp only [go_sem,reduceIte,↓reduceIte,sevalprocAttr,Z0,Z1,bytesOf,ew]
    refine ⟨(x+1,Hn4),⟨⟨by simp only; omega,?_⟩,?_⟩,by simp only; omega⟩
    ·simp only
     rw [← hE]
     simp only [List.set_set,List.set_cons_zero,List.set_cons_succ] at M5
     simpa only [mkC,mkT,mkR_cnt] using M5
    ·simp only
     rw [hS]
     simp
     omega
   ·have hx':x=rows.length:=by omega
    subst hx'
    have d1:decide ((rows.length:Int)<(rows.length:Int))=false:=by simp
    rw [List.take_length,List.drop_length,List.append_nil] at M0
    simp only [go_sem,reduceIte,↓reduceIte,sevalprocAttr,Z0,Z1,bytesOf,d1,List.take_length]
    intro _
    exact ⟨M0.len,M0.own,M0.fr⟩
theorem mark_ExpS {rows:List (List TV)} (sh:∀ r∈rows,∃ (v0:Int) (v1:List UInt8) (v2:Int) (v3:List UInt8) (v4:Int) (v5:List (List TV)) (v6:List (List TV)),r=([.p (.i .i64 v0),.p (.s v1),.p (.i .i64 v2),.p (.s v3),.p (.i .i64 v4),.s 7 v5,.s 12 v6]:List TV)∧(MarkC Tryz.prog 34 7 v5∧v5.length≤1048576)∧(MarkC Tryz.prog 35 12 v6∧v6.length≤1048576)):MarkC Tryz.prog 34 7 rows:=by
 intro H a ids k hO hN hk0 hk hn
 refine call34 (by simp) ?_
 have hO':=hO
 rw [Own] at hO'
 rcases hO' with ⟨rfl,rfl,rfl⟩ | ⟨id,ver,rs,js,rfl,rfl,h1,h2⟩
 ·simp only [go_sem,reduceIte,↓reduceIte,sevalprocAttr,Z0,Z1,bytesOf,mc34,mr34]
  refine ⟨Unit,[0,1,4,5],fun _ st=>st=⟨[(0,.p .nl),(1,.p (.i .i64 k)),(4,.p (.i .i64 0)),(5,.p (.i .i64 0))],[],H⟩,fun _=>0,⟨(),rfl⟩,?_⟩
  rintro _ _ rfl
  simp only [go_sem,reduceIte,↓reduceIte,sevalprocAttr,Z0,Z1,bytesOf]
  refine ⟨by simp [mcR],?_,fun i _=>trivial⟩
  rw [mkR]; exact hO
 ·have hlen:=h2.len
  generalize rs.length=N at hO hlen ⊢
  clear h1 h2
  subst hlen
  simp only [go_sem,reduceIte,↓reduceIte,sevalprocAttr,Z0,Z1,bytesOf,mc34,mr34]
  refine ⟨Nat × List AO,[0,1,4,5],fun x st=>(x.1≤rows.length∧MkI H x.2 7 id ver rows.length ((mkR (rows.take x.1) k).1++rows.drop x.1) (id :: js))∧st=⟨[(0,.gs id ver 0 rows.length),(1,.p (.i .i64 (k+mcR (rows.take x.1)))),(4,.p (.i .i64 0)),(5,.p (.i .i64 x.1))],[],x.2⟩,fun x=>rows.length - x.1,⟨(0,H),?_⟩,?_⟩
  ·simp only [go_sem,reduceIte,↓reduceIte,sevalprocAttr,Z0,Z1,bytesOf,List.take_zero,List.drop_zero,mkR,mcR]
   exact ⟨⟨Nat.zero_le _,hO,hN,rfl,fun _ _=>rfl⟩,by simp⟩
  ·rintro ⟨x,H0'⟩ _ ⟨⟨hx,M0⟩,rfl⟩
   simp only at hx M0
   by_cases hlt:x<rows.length
   ·have d1:decide ((x:Int)<(rows.length:Int))=true:=by simp; omega
    have hlt':((x:Int)<(rows.length:Int)):=by omega
    have X0:=mk_row hlt k
    have hE:=mk_rows hlt k
    have hS:=mcR_step rows x hlt
    have hB:=mcR_take rows (x+1)
    have hK0:0≤k+(mcR (rows.take x):Int):=by omega
    have ew:=wrN x (by omega)
    obtain ⟨v0,v1,v2,v3,v4,v5,v6,hs,⟨m5,n5⟩,⟨m6,n6⟩⟩:=sh rows[x] (List.getElem_mem hlt)
    rw [hs] at X0 hE hS
    generalize hkx:k+(mcR (rows.take x):Int)=kx at hE hK0 ⊢
    generalize (mkR (rows.take x) k).1++rows.drop x=R0 at X0 hE M0
    simp only [mcC,mcT] at hS
    simp only [go_sem,reduceIte,↓reduceIte,sevalprocAttr,Z0,Z1,bytesOf,d1]
    intro hml
    obtain ⟨rs0,Hn0,q0,e0,M1,X1⟩:=mk_sto M0 X0 (c:=0) rfl (.i .i64 (kx))
    simp only [go_sem,reduceIte,↓reduceIte,sevalprocAttr,Z0,Z1,bytesOf,q0]
    refine ⟨hlt',?_⟩
    rw [e0]
    simp only [go_sem,reduceIte,↓reduceIte,sevalprocAttr,Z0,Z1,bytesOf,wrK (k:=kx) (by omega) (by omega)]
    refine acall_pure (markTextP (kx+1) (by omega) (by omega) _) ?_
    obtain ⟨rs1,Hn1,q1,e1,M2,X2⟩:=mk_sto M1 X1 (c:=1) rfl (.s (textM (kx+1)))
    simp only [go_sem,reduceIte,↓reduceIte,sevalprocAttr,Z0,Z1,bytesOf,q1]
    refine ⟨hlt',?_⟩
    rw [e1]
    simp only [go_sem,reduceIte,↓reduceIte,sevalprocAttr,Z0,Z1,bytesOf,wrK (k:=kx+1) (by omega) (by omega)]
    obtain ⟨rs2,Hn2,q2,e2,M3,X3⟩:=mk_sto M2 X2 (c:=2) rfl (.i .i64 (kx+1+1))
    simp only [go_sem,reduceIte,↓reduceIte,sevalprocAttr,Z0,Z1,bytesOf,q2]
    refine ⟨hlt',?_⟩
    rw [e2]
    simp only [go_sem,reduceIte,↓reduceIte,sevalprocAttr,Z0,Z1,bytesOf,wrK (k:=kx+1+1) (by omega) (by omega)]
    refine acall_pure (markTextP (kx+1+1+1) (by omega) (by omega) _) ?_
    obtain ⟨rs3,Hn3,q3,e3,M4,X4⟩:=mk_sto M3 X3 (c:=3) rfl (.s (textM (kx+1+1+1)))
    simp only [go_sem,reduceIte,↓reduceIte,sevalprocAttr,Z0,Z1,bytesOf,q3]
    refine ⟨hlt',?_⟩
    rw [e3]
    simp only [go_sem,reduceIte,↓reduceIte,sevalprocAttr,Z0,Z1,bytesOf,wrK (k:=kx+1+1+1) (by omega) (by omega)]
    obtain ⟨rs4,Hn4,q4,e4,M5,X5⟩:=mk_sto M4 X4 (c:=4) rfl (.i .i64 (kx+1+1+1+1))
    simp only [go_sem,reduceIte,↓reduceIte,sevalprocAttr,Z0,Z1,bytesOf,q4]
    refine ⟨hlt',?_⟩
    rw [e4]
    simp only [go_sem,reduceIte,↓reduceIte,sevalprocAttr,Z0,Z1,bytesOf,wrK (k:=kx+1+1+1+1) (by omega) (by omega)]
    obtain ⟨rs5,r5,kv5,js5,q5,qr5,ql5,qc5,qo5,qn5,put5⟩:=mk_call M5 X5 (c:=5) rfl
    obtain ⟨r5_0,r5_1,r5_2,r5_3,r5_4,r5_5,r5_6,rfl⟩:=len7 ql5
    obtain rfl:r5_5=kv5:=by simpa using qc5
    simp only [go_sem,reduceIte,↓reduceIte,sevalprocAttr,Z0,Z1,bytesOf,q5,qr5]
    refine ⟨hlt',?_⟩
    refine (m5 _ _ _ (kx+1+1+1+1+1) qo5 qn5 (by omega) (by omega) n5).mono ?_
    rintro _ Hn5 ⟨rfl,hl5,ho5,hf5⟩
    obtain ⟨M6,X6⟩:=put5 Hn5 _ hl5 ho5 hf5
    simp only [go_sem,reduceIte,↓reduceIte,sevalprocAttr,Z0,Z1,bytesOf]
    obtain ⟨rs6,r6,kv6,js6,q6,qr6,ql6,qc6,qo6,qn6,put6⟩:=mk_call M6 X6 (c:=6) rfl
    obtain ⟨r6_0,r6_1,r6_2,r6_3,r6_4,r6_5,r6_6,rfl⟩:=len7 ql6
    obtain rfl:r6_6=kv6:=by simpa using qc6
    simp only [go_sem,reduceIte,↓reduceIte,sevalprocAttr,Z0,Z1,bytesOf,q6,qr6]
    refine ⟨hlt',?_⟩
    refine (m6 _ _ _ (kx+1+1+1+1+1+(mcR v5:Int)) qo6 qn6 (by omega) (by omega) n6).mono ?_
    rintro _ Hn6 ⟨rfl,hl6,ho6,hf6⟩
    obtain ⟨M7,X7⟩:=put6 Hn6 _ hl6 ho6 hf6
    simp only [go_sem,reduceIte,↓reduceIte,sevalprocAttr,Z0,Z1,bytesOf]
    simp only [go_sem,reduceIte,↓reduceIte,sevalprocAttr,Z0,Z1,bytesOf,ew]
    refine ⟨(x+1,Hn6),⟨⟨by simp only; omega,?_⟩,?_⟩,by simp only; omega⟩
    ·simp only
     rw [← hE]
     simp only [List.set_set,List.set_cons_zero,List.set_cons_succ] at M7
     simpa only [mkC,mkT,mkR_cnt] using M7
    ·simp only
     rw [hS]
     simp
     omega
   ·have hx':x=rows.length:=by omega
    subst hx'
    have d1:decide ((rows.length:Int)<(rows.length:Int))=false:=by simp
    rw [List.take_length,List.drop_length,List.append_nil] at M0
    simp only [go_sem,reduceIte,↓reduceIte,sevalprocAttr,Z0,Z1,bytesOf,d1,List.take_length]
    intro _
    exact ⟨M0.len,M0.own,M0.fr⟩
theorem mark_ArmS {rows:List (List TV)} (sh:∀ r∈rows,∃ (v0:Int) (v1:List UInt8) (v2:Int) (v3:Int) (v4:List (List TV)) (v5:Int) (v6:List UInt8) (v7:Int) (v8:List UInt8) (v9:Int) (v10:List (List TV)) (v11:List (List TV)),r=([.p (.i .i64 v0),.p (.s v1),.p (.i .i64 v2),.p (.i .i64 v3),.s 5 v4,.p (.i .i64 v5),.p (.s v6),.p (.i .i64 v7),.p (.s v8),.p (.i .i64 v9),.s 7 v10,.s 12 v11]:List TV)∧(MarkC Tryz.prog 68 5 v4∧v4.length≤1048576)∧(MarkC Tryz.prog 34 7 v10∧v10.length≤1048576)∧(MarkC Tryz.prog 35 12 v11∧v11.length≤1048576)):MarkC Tryz.prog 35 12 rows:=by
 intro H a ids k hO hN hk0 hk hn
 refine call35 (by simp) ?_
 have hO':=hO
 rw [Own] at hO'
 rcases hO' with ⟨rfl,rfl,rfl⟩ | ⟨id,ver,rs,js,rfl,rfl,h1,h2⟩
 ·simp only [go_sem,reduceIte,↓reduceIte,sevalprocAttr,Z0,Z1,bytesOf,mc35,mr35]
  refine ⟨Unit,[0,1,4,5],fun _ st=>st=⟨[(0,.p .nl),(1,.p (.i .i64 k)),(4,.p (.i .i64 0)),(5,.p (.i .i64 0))],[],H⟩,fun _=>0,⟨(),rfl⟩,?_⟩
  rintro _ _ rfl
  simp only [go_sem,reduceIte,↓reduceIte,sevalprocAttr,Z0,Z1,bytesOf]
  refine ⟨by simp [mcR],?_,fun i _=>trivial⟩
  rw [mkR]; exact hO
 ·have hlen:=h2.len
  generalize rs.length=N at hO hlen ⊢
  clear h1 h2
  subst hlen
  simp only [go_sem,reduceIte,↓reduceIte,sevalprocAttr,Z0,Z1,bytesOf,mc35,mr35]
  refine ⟨Nat × List AO,[0,1,4,5],fun x st=>(x.1≤rows.length∧MkI H x.2 12 id ver rows.length ((mkR (rows.take x.1) k).1++rows.drop x.1) (id :: js))∧st=⟨[(0,.gs id ver 0 rows.length),(1,.p (.i .i64 (k+mcR (rows.take x.1)))),(4,.p (.i .i64 0)),(5,.p (.i .i64 x.1))],[],x.2⟩,fun x=>rows.length - x.1,⟨(0,H),?_⟩,?_⟩
  ·simp only [go_sem,reduceIte,↓reduceIte,sevalprocAttr,Z0,Z1,bytesOf,List.take_zero,List.drop_zero,mkR,mcR]
   exact ⟨⟨Nat.zero_le _,hO,hN,rfl,fun _ _=>rfl⟩,by simp⟩
  ·rintro ⟨x,H0'⟩ _ ⟨⟨hx,M0⟩,rfl⟩
   simp only at hx M0
   by_cases hlt:x<rows.length
   ·have d1:decide ((x:Int)<(rows.length:Int))=true:=by simp; omega
    have hlt':((x:Int)<(rows.length:Int)):=by omega
    have X0:=mk_row hlt k
    have hE:=mk_rows hlt k
    have hS:=mcR_step rows x hlt
    have hB:=mcR_take rows (x+1)
    have hK0:0≤k+(mcR (rows.take x):Int):=by omega
    have ew:=wrN x (by omega)
    obtain ⟨v0,v1,v2,v3,v4,v5,v6,v7,v8,v9,v10,v11,hs,⟨m4,n4⟩,⟨m10,n10⟩,⟨m11,n11⟩⟩:=sh rows[x] (List.getElem_mem hlt)
    rw [hs] at X0 hE hS
    generalize hkx:k+(mcR (rows.take x):Int)=kx at hE hK0 ⊢
    generalize (mkR (rows.take x) k).1++rows.drop x=R0 at X0 hE M0
    simp only [mcC,mcT] at hS
    simp only [go_sem,reduceIte,↓reduceIte,sevalprocAttr,Z0,Z1,bytesOf,d1]
    intro hml
    obtain ⟨rs0,Hn0,q0,e0,M1,X1⟩:=mk_sto M0 X0 (c:=0) rfl (.i .i64 (kx))
    simp only [go_sem,reduceIte,↓reduceIte,sevalprocAttr,Z0,Z1,bytesOf,q0]
    refine ⟨hlt',?_⟩
    rw [e0]
    simp only [go_sem,reduceIte,↓reduceIte,sevalprocAttr,Z0,Z1,bytesOf,wrK (k:=kx) (by omega) (by omega)]
    refine acall_pure (markTextP (kx+1) (by omega) (by omega) _) ?_
    obtain ⟨rs1,Hn1,q1,e1,M2,X2⟩:=mk_sto M1 X1 (c:=1) rfl (.s (textM (kx+1)))
    simp only [go_sem,reduceIte,↓reduceIte,sevalprocAttr,Z0,Z1,bytesOf,q1]
    refine ⟨hlt',?_⟩
    rw [e1]
    simp only [go_sem,reduceIte,↓reduceIte,sevalprocAttr,Z0,Z1,bytesOf,wrK (k:=kx+1) (by omega) (by omega)]
    obtain ⟨rs2,Hn2,q2,e2,M3,X3⟩:=mk_sto M2 X2 (c:=2) rfl (.i .i64 (kx+1+1))
    simp only [go_sem,reduceIte,↓reduceIte,sevalprocAttr,Z0,Z1,bytesOf,q2]
    refine ⟨hlt',?_⟩
    rw [e2]
    simp only [go_sem,reduceIte,↓reduceIte,sevalprocAttr,Z0,Z1,bytesOf,wrK (k:=kx+1+1) (by omega) (by omega)]
    obtain ⟨rs3,Hn3,q3,e3,M4,X4⟩:=mk_sto M3 X3 (c:=3) rfl (.i .i64 (kx+1+1+1))
    simp only [go_sem,reduceIte,↓reduceIte,sevalprocAttr,Z0,Z1,bytesOf,q3]
    refine ⟨hlt',?_⟩
    rw [e3]
    simp only [go_sem,reduceIte,↓reduceIte,sevalprocAttr,Z0,Z1,bytesOf,wrK (k:=kx+1+1+1) (by omega) (by omega)]
    obtain ⟨rs4,r4,kv4,js4,q4,qr4,ql4,qc4,qo4,qn4,put4⟩:=mk_call M4 X4 (c:=4) rfl
    obtain ⟨r4_0,r4_1,r4_2,r4_3,r4_4,r4_5,r4_6,r4_7,r4_8,r4_9,r4_10,r4_11,rfl⟩:=len12 ql4
    obtain rfl:r4_4=kv4:=by simpa using qc4
    simp only [go_sem,reduceIte,↓reduceIte,sevalprocAttr,Z0,Z1,bytesOf,q4,qr4]
    refine ⟨hlt',?_⟩
    refine (m4 _ _ _ (kx+1+1+1+1) qo4 qn4 (by omega) (by omega) n4).mono ?_
    rintro _ Hn4 ⟨rfl,hl4,ho4,hf4⟩
    obtain ⟨M5,X5⟩:=put4 Hn4 _ hl4 ho4 hf4
    simp only [go_sem,reduceIte,↓reduceIte,sevalprocAttr,Z0,Z1,bytesOf]
    obtain ⟨rs5,Hn5,q5,e5,M6,X6⟩:=mk_sto M5 X5 (c:=5) rfl (.i .i64 (kx+1+1+1+1+(mcR v4:Int)))
    simp only [go_sem,reduceIte,↓reduceIte,sevalprocAttr,Z0,Z1,bytesOf,q5]
    refine ⟨hlt',?_⟩
    rw [e5]
    simp only [go_sem,reduceIte,↓reduceIte,sevalprocAttr,Z0,Z1,bytesOf,wrK (k:=kx+1+1+1+1+(mcR v4:Int)) (by omega) (by omega)]
    refine acall_pure (markTextP (kx+1+1+1+1+(mcR v4:Int)+1) (by omega) (by omega) _) ?_
    obtain ⟨rs6,Hn6,q6,e6,M7,X7⟩:=mk_sto M6 X6 (c:=6) rfl (.s (textM (kx+1+1+1+1+(mcR v4:Int)+1)))
    simp only [go_sem,reduceIte,↓reduceIte,sevalprocAttr,Z0,Z1,bytesOf,q6]
    refine ⟨hlt',?_⟩
    rw [e6]
    simp only [go_sem,reduceIte,↓reduceIte,sevalprocAttr,Z0,Z1,bytesOf,wrK (k:=kx+1+1+1+1+(mcR v4:Int)+1) (by omega) (by omega)]
    obtain ⟨rs7,Hn7,q7,e7,M8,X8⟩:=mk_sto M7 X7 (c:=7) rfl (.i .i64 (kx+1+1+1+1+(mcR v4:Int)+1+1))
    simp only [go_sem,reduceIte,↓reduceIte,sevalprocAttr,Z0,Z1,bytesOf,q7]
    refine ⟨hlt',?_⟩
    rw [e7]
    simp only [go_sem,reduceIte,↓reduceIte,sevalprocAttr,Z0,Z1,bytesOf,wrK (k:=kx+1+1+1+1+(mcR v4:Int)+1+1) (by omega) (by omega)]
    refine acall_pure (markTextP (kx+1+1+1+1+(mcR v4:Int)+1+1+1) (by omega) (by omega) _) ?_
    obtain ⟨rs8,Hn8,q8,e8,M9,X9⟩:=mk_sto M8 X8 (c:=8) rfl (.s (textM (kx+1+1+1+1+(mcR v4:Int)+1+1+1)))
    simp only [go_sem,reduceIte,↓reduceIte,sevalprocAttr,Z0,Z1,bytesOf,q8]
    refine ⟨hlt',?_⟩
    rw [e8]
    simp only [go_sem,reduceIte,↓reduceIte,sevalprocAttr,Z0,Z1,bytesOf,wrK (k:=kx+1+1+1+1+(mcR v4:Int)+1+1+1) (by omega) (by omega)]
    obtain ⟨rs9,Hn9,q9,e9,M10,X10⟩:=mk_sto M9 X9 (c:=9) rfl (.i .i64 (kx+1+1+1+1+(mcR v4:Int)+1+1+1+1))
    simp only [go_sem,reduceIte,↓reduceIte,sevalprocAttr,Z0,Z1,bytesOf,q9]
    refine ⟨hlt',?_⟩
    rw [e9]
    simp only [go_sem,reduceIte,↓reduceIte,sevalprocAttr,Z0,Z1,bytesOf,wrK (k:=kx+1+1+1+1+(mcR v4:Int)+1+1+1+1) (by omega) (by omega)]
    obtain ⟨rs10,r10,kv10,js10,q10,qr10,ql10,qc10,qo10,qn10,put10⟩:=mk_call M10 X10 (c:=10) rfl
    obtain ⟨r10_0,r10_1,r10_2,r10_3,r10_4,r10_5,r10_6,r10_7,r10_8,r10_9,r10_10,r10_11,rfl⟩:=len12 ql10
    obtain rfl:r10_10=kv10:=by simpa using qc10
    simp only [go_sem,reduceIte,↓reduceIte,sevalprocAttr,Z0,Z1,bytesOf,q10,qr10]
    refine ⟨hlt',?_⟩
    refine (m10 _ _ _ (kx+1+1+1+1+(mcR v4:Int)+1+1+1+1+1) qo10 qn10 (by omega) (by omega) n10).mono ?_
    rintro _ Hn10 ⟨rfl,hl10,ho10,hf10⟩
    obtain ⟨M11,X11⟩:=put10 Hn10 _ hl10 ho10 hf10
    simp only [go_sem,reduceIte,↓reduceIte,sevalprocAttr,Z0,Z1,bytesOf]
    obtain ⟨rs11,r11,kv11,js11,q11,qr11,ql11,qc11,qo11,qn11,put11⟩:=mk_call M11 X11 (c:=11) rfl
    obtain ⟨r11_0,r11_1,r11_2,r11_3,r11_4,r11_5,r11_6,r11_7,r11_8,r11_9,r11_10,r11_11,rfl⟩:=len12 ql11
    obtain rfl:r11_11=kv11:=by simpa using qc11
    simp only [go_sem,reduceIte,↓reduceIte,sevalprocAttr,Z0,Z1,bytesOf,q11,qr11]
    refine ⟨hlt',?_⟩
    refine (m11 _ _ _ (kx+1+1+1+1+(mcR v4:Int)+1+1+1+1+1+(mcR v10:Int)) qo11 qn11 (by omega) (by omega) n11).mono ?_
    rintro _ Hn11 ⟨rfl,hl11,ho11,hf11⟩
    obtain ⟨M12,X12⟩:=put11 Hn11 _ hl11 ho11 hf11
    simp only [go_sem,reduceIte,↓reduceIte,sevalprocAttr,Z0,Z1,bytesOf]
    simp only [go_sem,reduceIte,↓reduceIte,sevalprocAttr,Z0,Z1,bytesOf,ew]
    refine ⟨(x+1,Hn11),⟨⟨by simp only; omega,?_⟩,?_⟩,by simp only; omega⟩
    ·simp only
     rw [← hE]
     simp only [List.set_set,List.set_cons_zero,List.set_cons_succ] at M12
     simpa only [mkC,mkT,mkR_cnt] using M12
    ·simp only
     rw [hS]
     simp
     omega
   ·have hx':x=rows.length:=by omega
    subst hx'
    have d1:decide ((rows.length:Int)<(rows.length:Int))=false:=by simp
    rw [List.take_length,List.drop_length,List.append_nil] at M0
    simp only [go_sem,reduceIte,↓reduceIte,sevalprocAttr,Z0,Z1,bytesOf,d1,List.take_length]
    intro _
    exact ⟨M0.len,M0.own,M0.fr⟩
theorem mkR_get : ∀ (l : List (List TV)) (x : Nat) (h : x < l.length) (k : Int), (mkR l k).1[x]? = some (mkC l[x] (k + mcR (l.take x))).1
  | [], x, h, k => by simp at h
  | r :: l, 0, h, k => by rw [mkR]; simp [mcR]
  | r :: l, x + 1, h, k => by
    rw [mkR]
    simp only [List.getElem?_cons_succ, List.getElem_cons_succ, List.take_succ_cons, mcR]
    rw [mkR_get l x (by simpa using h), mkC_cnt]
    congr 3
    simp; omega
theorem held_row {H:List AO} {sz:Nat} {rows:List (List TV)} {rs:List (List AV)} {js:List Nat} {k:Int} (h:OwnRs H sz (mkR rows k).1 rs js) {x:Nat} (hx:x<rows.length) :
  ∃ r jr,rs[x]?=some r∧r.length=sz∧OwnCs H (mkC rows[x] (k+mcR (rows.take x))).1 r jr:=by
 obtain ⟨c,j1,j2,j3,e1,_,e2,e3,_⟩:=h.at (mkR_get rows x hx k)
 exact ⟨c,j2,e1,e2,e3⟩
theorem condK_no {x y:Bool} {A B:St→Prop} {st:St} (h:x=y) (k:B st):condK (.p (.b (!(x == y)))) A B st:=by
 subst h
 simpa [condK,splitK] using k
theorem cell_p {H:List AO} {ts:List TV} {cs:List AV} {ids:List Nat} (h:OwnCs H ts cs ids) {c:Nat} {v:PV} {a:AV} (ht:ts[c]?=some (.p v)) (hc:cs[c]?=some a):a=.p v:=by
 obtain ⟨c',j1,j2,j3,e1,_,e2,_⟩:=h.at ht
 rw [hc] at e1; cases e1
 rw [Own] at e2; exact e2.1
theorem cell_s {H:List AO} {ts:List TV} {cs:List AV} {ids:List Nat} (h:OwnCs H ts cs ids) {c sz:Nat} {rows:List (List TV)} {a:AV} (ht:ts[c]?=some (.s sz rows)) (hc:cs[c]?=some a):∃ js,Own H (.s sz rows) a js:=by
 obtain ⟨c',j1,j2,j3,e1,_,e2,_⟩:=h.at ht
 rw [hc] at e1; cases e1
 exact ⟨_,e2⟩
theorem held_PatS {rows:List (List TV)} (sh:∀ r∈rows,∃ (v0:Int) (v1:List UInt8) (v2:Int) (v3:Int) (v4:List (List TV)),r=([.p (.i .i64 v0),.p (.s v1),.p (.i .i64 v2),.p (.i .i64 v3),.s 5 v4]:List TV)∧(HeldC Tryz.prog 69 5 v4∧v4.length≤1048576)):HeldC Tryz.prog 69 5 rows:=by
 intro H a ids k hO hk0 hk hn
 refine call69 (by simp) ?_
 rw [Own] at hO
 rcases hO with ⟨h0,rfl,rfl⟩ | ⟨id,ver,rs,js,rfl,rfl,h1,h2⟩
 ·have:rows=[]:=by have:=mkR_len rows k; rw [h0] at this; exact List.length_eq_zero_iff.1 this.symm
  subst this
  simp only [go_sem,reduceIte,↓reduceIte,sevalprocAttr,Z0,Z1,bytesOf,mc69,mr69]
  refine ⟨Unit,[0,1,4,5],fun _ st=>st=⟨[(0,.p .nl),(1,.p (.i .i64 k)),(4,.p (.i .i64 0)),(5,.p (.i .i64 0))],[],H⟩,fun _=>0,⟨(),rfl⟩,?_⟩
  rintro _ _ rfl
  simp only [go_sem,reduceIte,↓reduceIte,sevalprocAttr,Z0,Z1,bytesOf]
  simp [mcR,pureQ]
 ·have hlen:=h2.len
  rw [mkR_len] at hlen
  rw [hlen]
  simp only [go_sem,reduceIte,↓reduceIte,sevalprocAttr,Z0,Z1,bytesOf,mc69,mr69]
  refine ⟨Nat,[0,1,4,5],fun x st=>x≤rows.length∧st=⟨[(0,.gs id ver 0 rows.length),(1,.p (.i .i64 (k+mcR (rows.take x)))),(4,.p (.i .i64 0)),(5,.p (.i .i64 x))],[],H⟩,fun x=>rows.length - x,⟨0,?_⟩,?_⟩
  ·simp only [go_sem,reduceIte,↓reduceIte,sevalprocAttr,Z0,Z1,bytesOf,List.take_zero,mcR]
   exact ⟨Nat.zero_le _,by simp⟩
  ·rintro x _ ⟨hx,rfl⟩
   by_cases hlt:x<rows.length
   ·have d1:decide ((x:Int)<(rows.length:Int))=true:=by simp; omega
    have hlt':((x:Int)<(rows.length:Int)):=by omega
    have hS:=mcR_step rows x hlt
    have hB:=mcR_take rows (x+1)
    have hK0:0≤k+(mcR (rows.take x):Int):=by omega
    have ew:=wrN x (by omega)
    obtain ⟨r,jr,hr,hrl,hcs⟩:=held_row h2 hlt
    obtain ⟨v0,v1,v2,v3,v4,hs,⟨m4,n4⟩⟩:=sh rows[x] (List.getElem_mem hlt)
    rw [hs] at hS hcs
    generalize hkx:k+(mcR (rows.take x):Int)=kx at hK0 hcs ⊢
    simp only [mcC,mcT] at hS
    simp only [mkC,mkT,mkR_cnt] at hcs
    obtain ⟨r_0,r_1,r_2,r_3,r_4,rfl⟩:=len5 hrl
    obtain rfl:=cell_p hcs (c:=0) rfl rfl
    obtain rfl:=cell_p hcs (c:=1) rfl rfl
    obtain rfl:=cell_p hcs (c:=2) rfl rfl
    obtain rfl:=cell_p hcs (c:=3) rfl rfl
    obtain ⟨ids4,ho4⟩:=cell_s hcs (c:=4) rfl rfl
    have w0:=wrK (k:=kx) (by omega) (by omega)
    have w1:=wrK (k:=kx+1) (by omega) (by omega)
    have w2:=wrK (k:=kx+1+1) (by omega) (by omega)
    have w3:=wrK (k:=kx+1+1+1) (by omega) (by omega)
    have w4:decide (kx+1+1+1+1+(mcR v4:Int)<0)=false:=decide_eq_false (by omega)
    simp only [go_sem,reduceIte,↓reduceIte,sevalprocAttr,Z0,Z1,bytesOf,d1,h1,hr,hlt',w0,w1,w2,w3,w4]
    intro hml
    refine drw_same ?_
    simp only [go_sem,reduceIte,↓reduceIte,sevalprocAttr,Z0,Z1,bytesOf,h1,hr,hlt',w0,w1,w2,w3,w4]
    refine pcall_pure (fun A=>markTextP (kx+1) (by omega) (by omega) _) (Hext.refl _) ?_
    simp only [go_sem,reduceIte,↓reduceIte,sevalprocAttr,Z0,Z1,bytesOf,h1,hr,hlt',w0,w1,w2,w3,w4]
    refine acall_pure (m4 _ _ _ (kx+1+1+1+1) ho4 (by omega) (by omega) n4) ?_
    simp only [go_sem,reduceIte,↓reduceIte,sevalprocAttr,Z0,Z1,bytesOf,h1,hr,hlt',w0,w1,w2,w3,w4]
    simp only [go_sem,reduceIte,↓reduceIte,sevalprocAttr,Z0,Z1,bytesOf,ew]
    refine ⟨x+1,⟨by omega,?_⟩,by omega⟩
    rw [hS]
    simp
    omega
   ·have hx':x=rows.length:=by omega
    subst hx'
    have d1:decide ((rows.length:Int)<(rows.length:Int))=false:=by simp
    simp only [go_sem,reduceIte,↓reduceIte,sevalprocAttr,Z0,Z1,bytesOf,d1,List.take_length]
    intro _
    exact ⟨rfl,rfl⟩
theorem held_ExpS {rows:List (List TV)} (sh:∀ r∈rows,∃ (v0:Int) (v1:List UInt8) (v2:Int) (v3:List UInt8) (v4:Int) (v5:List (List TV)) (v6:List (List TV)),r=([.p (.i .i64 v0),.p (.s v1),.p (.i .i64 v2),.p (.s v3),.p (.i .i64 v4),.s 7 v5,.s 12 v6]:List TV)∧(HeldC Tryz.prog 36 7 v5∧v5.length≤1048576)∧(HeldC Tryz.prog 37 12 v6∧v6.length≤1048576)):HeldC Tryz.prog 36 7 rows:=by
 intro H a ids k hO hk0 hk hn
 refine call36 (by simp) ?_
 rw [Own] at hO
 rcases hO with ⟨h0,rfl,rfl⟩ | ⟨id,ver,rs,js,rfl,rfl,h1,h2⟩
 ·have:rows=[]:=by have:=mkR_len rows k; rw [h0] at this; exact List.length_eq_zero_iff.1 this.symm
  subst this
  simp only [go_sem,reduceIte,↓reduceIte,sevalprocAttr,Z0,Z1,bytesOf,mc36,mr36]
  refine ⟨Unit,[0,1,4,5],fun _ st=>st=⟨[(0,.p .nl),(1,.p (.i .i64 k)),(4,.p (.i .i64 0)),(5,.p (.i .i64 0))],[],H⟩,fun _=>0,⟨(),rfl⟩,?_⟩
  rintro _ _ rfl
  simp only [go_sem,reduceIte,↓reduceIte,sevalprocAttr,Z0,Z1,bytesOf]
  simp [mcR,pureQ]
 ·have hlen:=h2.len
  rw [mkR_len] at hlen
  rw [hlen]
  simp only [go_sem,reduceIte,↓reduceIte,sevalprocAttr,Z0,Z1,bytesOf,mc36,mr36]
  refine ⟨Nat,[0,1,4,5],fun x st=>x≤rows.length∧st=⟨[(0,.gs id ver 0 rows.length),(1,.p (.i .i64 (k+mcR (rows.take x)))),(4,.p (.i .i64 0)),(5,.p (.i .i64 x))],[],H⟩,fun x=>rows.length - x,⟨0,?_⟩,?_⟩
  ·simp only [go_sem,reduceIte,↓reduceIte,sevalprocAttr,Z0,Z1,bytesOf,List.take_zero,mcR]
   exact ⟨Nat.zero_le _,by simp⟩
  ·rintro x _ ⟨hx,rfl⟩
   by_cases hlt:x<rows.length
   ·have d1:decide ((x:Int)<(rows.length:Int))=true:=by simp; omega
    have hlt':((x:Int)<(rows.length:Int)):=by omega
    have hS:=mcR_step rows x hlt
    have hB:=mcR_take rows (x+1)
    have hK0:0≤k+(mcR (rows.take x):Int):=by omega
    have ew:=wrN x (by omega)
    obtain ⟨r,jr,hr,hrl,hcs⟩:=held_row h2 hlt
    obtain ⟨v0,v1,v2,v3,v4,v5,v6,hs,⟨m5,n5⟩,⟨m6,n6⟩⟩:=sh rows[x] (List.getElem_mem hlt)
    rw [hs] at hS hcs
    generalize hkx:k+(mcR (rows.take x):Int)=kx at hK0 hcs ⊢
    simp only [mcC,mcT] at hS
    simp only [mkC,mkT,mkR_cnt] at hcs
    obtain ⟨r_0,r_1,r_2,r_3,r_4,r_5,r_6,rfl⟩:=len7 hrl
    obtain rfl:=cell_p hcs (c:=0) rfl rfl
    obtain rfl:=cell_p hcs (c:=1) rfl rfl
    obtain rfl:=cell_p hcs (c:=2) rfl rfl
    obtain rfl:=cell_p hcs (c:=3) rfl rfl
    obtain rfl:=cell_p hcs (c:=4) rfl rfl
    obtain ⟨ids5,ho5⟩:=cell_s hcs (c:=5) rfl rfl
    obtain ⟨ids6,ho6⟩:=cell_s hcs (c:=6) rfl rfl
    have w0:=wrK (k:=kx) (by omega) (by omega)
    have w1:=wrK (k:=kx+1) (by omega) (by omega)
    have w2:=wrK (k:=kx+1+1) (by omega) (by omega)
    have w3:=wrK (k:=kx+1+1+1) (by omega) (by omega)
    have w4:=wrK (k:=kx+1+1+1+1) (by omega) (by omega)
    have w5:decide (kx+1+1+1+1+1+(mcR v5:Int)<0)=false:=decide_eq_false (by omega)
    have w6:decide (kx+1+1+1+1+1+(mcR v5:Int)+(mcR v6:Int)<0)=false:=decide_eq_false (by omega)
    simp only [go_sem,reduceIte,↓reduceIte,sevalprocAttr,Z0,Z1,bytesOf,d1,h1,hr,hlt',w0,w1,w2,w3,w4,w5,w6]
    intro hml
    refine drw_same ?_
    simp only [go_sem,reduceIte,↓reduceIte,sevalprocAttr,Z0,Z1,bytesOf,h1,hr,hlt',w0,w1,w2,w3,w4,w5,w6]
    refine pcall_pure (fun A=>markTextP (kx+1) (by omega) (by omega) _) (Hext.refl _) ?_
    simp only [go_sem,reduceIte,↓reduceIte,sevalprocAttr,Z0,Z1,bytesOf,h1,hr,hlt',w0,w1,w2,w3,w4,w5,w6]
    refine drw_same ?_
    simp only [go_sem,reduceIte,↓reduceIte,sevalprocAttr,Z0,Z1,bytesOf,h1,hr,hlt',w0,w1,w2,w3,w4,w5,w6]
    refine pcall_pure (fun A=>markTextP (kx+1+1+1) (by omega) (by omega) _) (Hext.refl _) ?_
    simp only [go_sem,reduceIte,↓reduceIte,sevalprocAttr,Z0,Z1,bytesOf,h1,hr,hlt',w0,w1,w2,w3,w4,w5,w6]
    refine acall_pure (m5 _ _ _ (kx+1+1+1+1+1) ho5 (by omega) (by omega) n5) ?_
    simp only [go_sem,reduceIte,↓reduceIte,sevalprocAttr,Z0,Z1,bytesOf,h1,hr,hlt',w0,w1,w2,w3,w4,w5,w6]
    refine acall_pure (m6 _ _ _ (kx+1+1+1+1+1+(mcR v5:Int)) ho6 (by omega) (by omega) n6) ?_
    simp only [go_sem,reduceIte,↓reduceIte,sevalprocAttr,Z0,Z1,bytesOf,h1,hr,hlt',w0,w1,w2,w3,w4,w5,w6]
    simp only [go_sem,reduceIte,↓reduceIte,sevalprocAttr,Z0,Z1,bytesOf,ew]
    refine ⟨x+1,⟨by omega,?_⟩,by omega⟩
    rw [hS]
    simp
    omega
   ·have hx':x=rows.length:=by omega
    subst hx'
    have d1:decide ((rows.length:Int)<(rows.length:Int))=false:=by simp
    simp only [go_sem,reduceIte,↓reduceIte,sevalprocAttr,Z0,Z1,bytesOf,d1,List.take_length]
    intro _
    exact ⟨rfl,rfl⟩
set_option maxHeartbeats 2000000 in
theorem held_ArmS {rows:List (List TV)} (sh:∀ r∈rows,∃ (v0:Int) (v1:List UInt8) (v2:Int) (v3:Int) (v4:List (List TV)) (v5:Int) (v6:List UInt8) (v7:Int) (v8:List UInt8) (v9:Int) (v10:List (List TV)) (v11:List (List TV)),r=([.p (.i .i64 v0),.p (.s v1),.p (.i .i64 v2),.p (.i .i64 v3),.s 5 v4,.p (.i .i64 v5),.p (.s v6),.p (.i .i64 v7),.p (.s v8),.p (.i .i64 v9),.s 7 v10,.s 12 v11]:List TV)∧(HeldC Tryz.prog 69 5 v4∧v4.length≤1048576)∧(HeldC Tryz.prog 36 7 v10∧v10.length≤1048576)∧(HeldC Tryz.prog 37 12 v11∧v11.length≤1048576)):HeldC Tryz.prog 37 12 rows:=by
 intro H a ids k hO hk0 hk hn
 refine call37 (by simp) ?_
 rw [Own] at hO
 rcases hO with ⟨h0,rfl,rfl⟩ | ⟨id,ver,rs,js,rfl,rfl,h1,h2⟩
 ·have:rows=[]:=by have:=mkR_len rows k; rw [h0] at this; exact List.length_eq_zero_iff.1 this.symm
  subst this
  simp only [go_sem,reduceIte,↓reduceIte,sevalprocAttr,Z0,Z1,bytesOf,mc37,mr37]
  refine ⟨Unit,[0,1,4,5],fun _ st=>st=⟨[(0,.p .nl),(1,.p (.i .i64 k)),(4,.p (.i .i64 0)),(5,.p (.i .i64 0))],[],H⟩,fun _=>0,⟨(),rfl⟩,?_⟩
  rintro _ _ rfl
  simp only [go_sem,reduceIte,↓reduceIte,sevalprocAttr,Z0,Z1,bytesOf]
  simp [mcR,pureQ]
 ·have hlen:=h2.len
  rw [mkR_len] at hlen
  rw [hlen]
  simp only [go_sem,reduceIte,↓reduceIte,sevalprocAttr,Z0,Z1,bytesOf,mc37,mr37]
  refine ⟨Nat,[0,1,4,5],fun x st=>x≤rows.length∧st=⟨[(0,.gs id ver 0 rows.length),(1,.p (.i .i64 (k+mcR (rows.take x)))),(4,.p (.i .i64 0)),(5,.p (.i .i64 x))],[],H⟩,fun x=>rows.length - x,⟨0,?_⟩,?_⟩
  ·simp only [go_sem,reduceIte,↓reduceIte,sevalprocAttr,Z0,Z1,bytesOf,List.take_zero,mcR]
   exact ⟨Nat.zero_le _,by simp⟩
  ·rintro x _ ⟨hx,rfl⟩
   by_cases hlt:x<rows.length
   ·have d1:decide ((x:Int)<(rows.length:Int))=true:=by simp; omega
    have hlt':((x:Int)<(rows.length:Int)):=by omega
    have hS:=mcR_step rows x hlt
    have hB:=mcR_take rows (x+1)
    have hK0:0≤k+(mcR (rows.take x):Int):=by omega
    have ew:=wrN x (by omega)
    obtain ⟨r,jr,hr,hrl,hcs⟩:=held_row h2 hlt
    obtain ⟨v0,v1,v2,v3,v4,v5,v6,v7,v8,v9,v10,v11,hs,⟨m4,n4⟩,⟨m10,n10⟩,⟨m11,n11⟩⟩:=sh rows[x] (List.getElem_mem hlt)
    rw [hs] at hS hcs
    generalize hkx:k+(mcR (rows.take x):Int)=kx at hK0 hcs ⊢
    simp only [mcC,mcT] at hS
    simp only [mkC,mkT,mkR_cnt] at hcs
    obtain ⟨r_0,r_1,r_2,r_3,r_4,r_5,r_6,r_7,r_8,r_9,r_10,r_11,rfl⟩:=len12 hrl
    obtain rfl:=cell_p hcs (c:=0) rfl rfl
    obtain rfl:=cell_p hcs (c:=1) rfl rfl
    obtain rfl:=cell_p hcs (c:=2) rfl rfl
    obtain rfl:=cell_p hcs (c:=3) rfl rfl
    obtain ⟨ids4,ho4⟩:=cell_s hcs (c:=4) rfl rfl
    obtain rfl:=cell_p hcs (c:=5) rfl rfl
    obtain rfl:=cell_p hcs (c:=6) rfl rfl
    obtain rfl:=cell_p hcs (c:=7) rfl rfl
    obtain rfl:=cell_p hcs (c:=8) rfl rfl
    obtain rfl:=cell_p hcs (c:=9) rfl rfl
    obtain ⟨ids10,ho10⟩:=cell_s hcs (c:=10) rfl rfl
    obtain ⟨ids11,ho11⟩:=cell_s hcs (c:=11) rfl rfl
    have w0:=wrK (k:=kx) (by omega) (by omega)
    have w1:=wrK (k:=kx+1) (by omega) (by omega)
    have w2:=wrK (k:=kx+1+1) (by omega) (by omega)
    have w3:=wrK (k:=kx+1+1+1) (by omega) (by omega)
    have w4:decide (kx+1+1+1+1+(mcR v4:Int)<0)=false:=decide_eq_false (by omega)
    have w5:=wrK (k:=kx+1+1+1+1+(mcR v4:Int)) (by omega) (by omega)
    have w6:=wrK (k:=kx+1+1+1+1+(mcR v4:Int)+1) (by omega) (by omega)
    have w7:=wrK (k:=kx+1+1+1+1+(mcR v4:Int)+1+1) (by omega) (by omega)
    have w8:=wrK (k:=kx+1+1+1+1+(mcR v4:Int)+1+1+1) (by omega) (by omega)
    have w9:=wrK (k:=kx+1+1+1+1+(mcR v4:Int)+1+1+1+1) (by omega) (by omega)
    have w10:decide (kx+1+1+1+1+(mcR v4:Int)+1+1+1+1+1+(mcR v10:Int)<0)=false:=decide_eq_false (by omega)
    have w11:decide (kx+1+1+1+1+(mcR v4:Int)+1+1+1+1+1+(mcR v10:Int)+(mcR v11:Int)<0)=false:=decide_eq_false (by omega)
    simp only [go_sem,reduceIte,↓reduceIte,sevalprocAttr,Z0,Z1,bytesOf,d1,h1,hr,hlt',w0,w1,w2,w3,w4,w5,w6,w7,w8,w9,w10,w11]
    intro hml
    refine drw_same ?_
    simp only [go_sem,reduceIte,↓reduceIte,sevalprocAttr,Z0,Z1,bytesOf,h1,hr,hlt',w0,w1,w2,w3,w4,w5,w6,w7,w8,w9,w10,w11]
    refine pcall_pure (fun A=>markTextP (kx+1) (by omega) (by omega) _) (Hext.refl _) ?_
    simp only [go_sem,reduceIte,↓reduceIte,sevalprocAttr,Z0,Z1,bytesOf,h1,hr,hlt',w0,w1,w2,w3,w4,w5,w6,w7,w8,w9,w10,w11]
    refine acall_pure (m4 _ _ _ (kx+1+1+1+1) ho4 (by omega) (by omega) n4) ?_
    simp only [go_sem,reduceIte,↓reduceIte,sevalprocAttr,Z0,Z1,bytesOf,h1,hr,hlt',w0,w1,w2,w3,w4,w5,w6,w7,w8,w9,w10,w11]
    refine drw_same ?_
    simp only [go_sem,reduceIte,↓reduceIte,sevalprocAttr,Z0,Z1,bytesOf,h1,hr,hlt',w0,w1,w2,w3,w4,w5,w6,w7,w8,w9,w10,w11]
    refine pcall_pure (fun A=>markTextP (kx+1+1+1+1+(mcR v4:Int)+1) (by omega) (by omega) _) (Hext.refl _) ?_
    simp only [go_sem,reduceIte,↓reduceIte,sevalprocAttr,Z0,Z1,bytesOf,h1,hr,hlt',w0,w1,w2,w3,w4,w5,w6,w7,w8,w9,w10,w11]
    refine drw_same ?_
    simp only [go_sem,reduceIte,↓reduceIte,sevalprocAttr,Z0,Z1,bytesOf,h1,hr,hlt',w0,w1,w2,w3,w4,w5,w6,w7,w8,w9,w10,w11]
    refine pcall_pure (fun A=>markTextP (kx+1+1+1+1+(mcR v4:Int)+1+1+1) (by omega) (by omega) _) (Hext.refl _) ?_
    simp only [go_sem,reduceIte,↓reduceIte,sevalprocAttr,Z0,Z1,bytesOf,h1,hr,hlt',w0,w1,w2,w3,w4,w5,w6,w7,w8,w9,w10,w11]
    refine acall_pure (m10 _ _ _ (kx+1+1+1+1+(mcR v4:Int)+1+1+1+1+1) ho10 (by omega) (by omega) n10) ?_
    simp only [go_sem,reduceIte,↓reduceIte,sevalprocAttr,Z0,Z1,bytesOf,h1,hr,hlt',w0,w1,w2,w3,w4,w5,w6,w7,w8,w9,w10,w11]
    refine acall_pure (m11 _ _ _ (kx+1+1+1+1+(mcR v4:Int)+1+1+1+1+1+(mcR v10:Int)) ho11 (by omega) (by omega) n11) ?_
    simp only [go_sem,reduceIte,↓reduceIte,sevalprocAttr,Z0,Z1,bytesOf,h1,hr,hlt',w0,w1,w2,w3,w4,w5,w6,w7,w8,w9,w10,w11]
    simp only [go_sem,reduceIte,↓reduceIte,sevalprocAttr,Z0,Z1,bytesOf,ew]
    refine ⟨x+1,⟨by omega,?_⟩,by omega⟩
    rw [hS]
    simp
    omega
   ·have hx':x=rows.length:=by omega
    subst hx'
    have d1:decide ((rows.length:Int)<(rows.length:Int))=false:=by simp
    simp only [go_sem,reduceIte,↓reduceIte,sevalprocAttr,Z0,Z1,bytesOf,d1,List.take_length]
    intro _
    exact ⟨rfl,rfl⟩
end Go.Proofs.YtghcmccjchdgeaaGreatDoor.Pg
/- Marks of a program's trees that are written, and found again (printed in part by wip/tools/genmark.py). -/
set_option linter.all false
namespace Go.Proofs.YtghcmccjchdgeaaGreatDoor.Pg
open Go.AM Mc Qp
theorem len1 {r:List AV} (h:r.length=1):∃ a,r=[a]:=by match r,h with | [a],_=>exact ⟨_,rfl⟩
theorem markStringS (l:List (List UInt8)):MarkC Tryz.prog 75 1 (l.map fun s=>[.p (.s s)]):=by
 have sh:∀ r∈l.map (fun s=>[TV.p (.s s)]),∃ s,r=[TV.p (.s s)]:=fun r hr=>by obtain ⟨s,_,rfl⟩:=List.mem_map.1 hr; exact ⟨s,rfl⟩
 generalize l.map (fun s=>[TV.p (.s s)])=rows at sh
 intro H a ids k hO hN hk0 hk hn
 refine call75 (by simp) ?_
 have hO':=hO
 rw [Own] at hO'
 rcases hO' with ⟨rfl,rfl,rfl⟩ | ⟨id,ver,rs,js,rfl,rfl,h1,h2⟩
 ·simp only [go_sem,reduceIte,↓reduceIte,sevalprocAttr,Z0,Z1,bytesOf,mc75,mr75]
  refine ⟨Unit,[0,1,4,5],fun _ st=>st=⟨[(0,.p .nl),(1,.p (.i .i64 k)),(4,.p (.i .i64 0)),(5,.p (.i .i64 0))],[],H⟩,fun _=>0,⟨(),rfl⟩,?_⟩
  rintro _ _ rfl
  simp only [go_sem,reduceIte,↓reduceIte,sevalprocAttr,Z0,Z1,bytesOf]
  refine ⟨by simp [mcR],?_,fun i _=>trivial⟩
  rw [mkR]; exact hO
 ·have hlen:=h2.len
  generalize rs.length=N at hO hlen ⊢
  clear h1 h2
  subst hlen
  simp only [go_sem,reduceIte,↓reduceIte,sevalprocAttr,Z0,Z1,bytesOf,mc75,mr75]
  refine ⟨Nat × List AO,[0,1,4,5],fun x st=>(x.1≤rows.length∧MkI H x.2 1 id ver rows.length ((mkR (rows.take x.1) k).1++rows.drop x.1) (id :: js))∧st=⟨[(0,.gs id ver 0 rows.length),(1,.p (.i .i64 (k+mcR (rows.take x.1)))),(4,.p (.i .i64 0)),(5,.p (.i .i64 x.1))],[],x.2⟩,fun x=>rows.length - x.1,⟨(0,H),?_⟩,?_⟩
  ·simp only [go_sem,reduceIte,↓reduceIte,sevalprocAttr,Z0,Z1,bytesOf,List.take_zero,List.drop_zero,mkR,mcR]
   exact ⟨⟨Nat.zero_le _,hO,hN,rfl,fun _ _=>rfl⟩,by simp⟩
  ·rintro ⟨x,HG⟩ _ ⟨⟨hx,M⟩,rfl⟩
   simp only at hx M
   by_cases hlt:x<rows.length
   ·have d1:decide ((x:Int)<(rows.length:Int))=true:=by simp; omega
    have hlt':((x:Int)<(rows.length:Int)):=by omega
    have hX:=mk_row hlt k
    have hE:=mk_rows hlt k
    have hS:=mcR_step rows x hlt
    have hB:=mcR_take rows (x+1)
    obtain ⟨s0,hs⟩:=sh rows[x] (List.getElem_mem hlt)
    rw [hs] at hX hE hS
    have hK0:0≤k+(mcR (rows.take x):Int):=by omega
    generalize hkx:k+(mcR (rows.take x):Int)=kx at hE hK0 ⊢
    generalize (mkR (rows.take x) k).1++rows.drop x=R0 at hX hE M
    simp only [mcC,mcT] at hS
    simp only [go_sem,reduceIte,↓reduceIte,sevalprocAttr,Z0,Z1,bytesOf,d1]
    intro hml
    refine acall_pure (markTextP _ (by omega) (by omega) _) ?_
    obtain ⟨rs1,H1,q1,e1,M1,hX1⟩:=mk_sto M hX (c:=0) rfl (.s (textM kx))
    simp only [go_sem,reduceIte,↓reduceIte,sevalprocAttr,Z0,Z1,bytesOf,q1]
    refine ⟨hlt',?_⟩
    rw [e1]
    simp only [go_sem,reduceIte,↓reduceIte,sevalprocAttr,Z0,Z1,bytesOf,wrK (k:=kx) (by omega) (by omega)]
    have ew:=wrN x (by rw [maxLe] at hml; omega)
    simp only [go_sem,reduceIte,↓reduceIte,sevalprocAttr,Z0,Z1,bytesOf,ew]
    refine ⟨(x+1,H1),⟨⟨by simp only; omega,?_⟩,?_⟩,by simp only; omega⟩
    ·simp only
     rw [← hE]
     exact M1
    ·simp only
     rw [hS]
     simp
     omega
   ·have hx':x=rows.length:=by omega
    subst hx'
    have d1:decide ((rows.length:Int)<(rows.length:Int))=false:=by simp
    rw [List.take_length,List.drop_length,List.append_nil] at M
    simp only [go_sem,reduceIte,↓reduceIte,sevalprocAttr,Z0,Z1,bytesOf,d1,List.take_length]
    intro _
    exact ⟨M.len,M.own,M.fr⟩
theorem mark_TypeExpS {rows:List (List TV)} (sh:∀ r∈rows,∃ (v0:Int) (v1:List UInt8) (v2:Int) (v3:List (List TV)),r=([.p (.i .i64 v0),.p (.s v1),.p (.i .i64 v2),.s 4 v3]:List TV)∧(MarkC Tryz.prog 118 4 v3∧v3.length≤1048576)):MarkC Tryz.prog 118 4 rows:=by
 intro H a ids k hO hN hk0 hk hn
 refine call118 (by simp) ?_
 have hO':=hO
 rw [Own] at hO'
 rcases hO' with ⟨rfl,rfl,rfl⟩ | ⟨id,ver,rs,js,rfl,rfl,h1,h2⟩
 ·simp only [go_sem,reduceIte,↓reduceIte,sevalprocAttr,Z0,Z1,bytesOf,mc118,mr118]
  refine ⟨Unit,[0,1,4,5],fun _ st=>st=⟨[(0,.p .nl),(1,.p (.i .i64 k)),(4,.p (.i .i64 0)),(5,.p (.i .i64 0))],[],H⟩,fun _=>0,⟨(),rfl⟩,?_⟩
  rintro _ _ rfl
  simp only [go_sem,reduceIte,↓reduceIte,sevalprocAttr,Z0,Z1,bytesOf]
  refine ⟨by simp [mcR],?_,fun i _=>trivial⟩
  rw [mkR]; exact hO
 ·have hlen:=h2.len
  generalize rs.length=N at hO hlen ⊢
  clear h1 h2
  subst hlen
  simp only [go_sem,reduceIte,↓reduceIte,sevalprocAttr,Z0,Z1,bytesOf,mc118,mr118]
  refine ⟨Nat × List AO,[0,1,4,5],fun x st=>(x.1≤rows.length∧MkI H x.2 4 id ver rows.length ((mkR (rows.take x.1) k).1++rows.drop x.1) (id :: js))∧st=⟨[(0,.gs id ver 0 rows.length),(1,.p (.i .i64 (k+mcR (rows.take x.1)))),(4,.p (.i .i64 0)),(5,.p (.i .i64 x.1))],[],x.2⟩,fun x=>rows.length - x.1,⟨(0,H),?_⟩,?_⟩
  ·simp only [go_sem,reduceIte,↓reduceIte,sevalprocAttr,Z0,Z1,bytesOf,List.take_zero,List.drop_zero,mkR,mcR]
   exact ⟨⟨Nat.zero_le _,hO,hN,rfl,fun _ _=>rfl⟩,by simp⟩
  ·rintro ⟨x,H0'⟩ _ ⟨⟨hx,M0⟩,rfl⟩
   simp only at hx M0
   by_cases hlt:x<rows.length
   ·have d1:decide ((x:Int)<(rows.length:Int))=true:=by simp; omega
    have hlt':((x:Int)<(rows.length:Int)):=by omega
    have X0:=mk_row hlt k
    have hE:=mk_rows hlt k
    have hS:=mcR_step rows x hlt
    have hB:=mcR_take rows (x+1)
    have hK0:0≤k+(mcR (rows.take x):Int):=by omega
    have ew:=wrN x (by omega)
    obtain ⟨v0,v1,v2,v3,hs,⟨m3,n3⟩⟩:=sh rows[x] (List.getElem_mem hlt)
    rw [hs] at X0 hE hS
    generalize hkx:k+(mcR (rows.take x):Int)=kx at hE hK0 ⊢
    generalize (mkR (rows.take x) k).1++rows.drop x=R0 at X0 hE M0
    simp only [mcC,mcT] at hS
    simp only [go_sem,reduceIte,↓reduceIte,sevalprocAttr,Z0,Z1,bytesOf,d1]
    intro hml
    obtain ⟨rs0,Hn0,q0,e0,M1,X1⟩:=mk_sto M0 X0 (c:=0) rfl (.i .i64 (kx))
    simp only [go_sem,reduceIte,↓reduceIte,sevalprocAttr,Z0,Z1,bytesOf,q0]
    refine ⟨hlt',?_⟩
    rw [e0]
    simp only [go_sem,reduceIte,↓reduceIte,sevalprocAttr,Z0,Z1,bytesOf,wrK (k:=kx) (by omega) (by omega)]
    refine acall_pure (markTextP (kx+1) (by omega) (by omega) _) ?_
    obtain ⟨rs1,Hn1,q1,e1,M2,X2⟩:=mk_sto M1 X1 (c:=1) rfl (.s (textM (kx+1)))
    simp only [go_sem,reduceIte,↓reduceIte,sevalprocAttr,Z0,Z1,bytesOf,q1]
    refine ⟨hlt',?_⟩
    rw [e1]
    simp only [go_sem,reduceIte,↓reduceIte,sevalprocAttr,Z0,Z1,bytesOf,wrK (k:=kx+1) (by omega) (by omega)]
    obtain ⟨rs2,Hn2,q2,e2,M3,X3⟩:=mk_sto M2 X2 (c:=2) rfl (.i .i64 (kx+1+1))
    simp only [go_sem,reduceIte,↓reduceIte,sevalprocAttr,Z0,Z1,bytesOf,q2]
    refine ⟨hlt',?_⟩
    rw [e2]
    simp only [go_sem,reduceIte,↓reduceIte,sevalprocAttr,Z0,Z1,bytesOf,wrK (k:=kx+1+1) (by omega) (by omega)]
    obtain ⟨rs3,r3,kv3,js3,q3,qr3,ql3,qc3,qo3,qn3,put3⟩:=mk_call M3 X3 (c:=3) rfl
    obtain ⟨r3_0,r3_1,r3_2,r3_3,rfl⟩:=len4 ql3
    obtain rfl:r3_3=kv3:=by simpa using qc3
    simp only [go_sem,reduceIte,↓reduceIte,sevalprocAttr,Z0,Z1,bytesOf,q3,qr3]
    refine ⟨hlt',?_⟩
    refine (m3 _ _ _ (kx+1+1+1) qo3 qn3 (by omega) (by omega) n3).mono ?_
    rintro _ Hn3 ⟨rfl,hl3,ho3,hf3⟩
    obtain ⟨M4,X4⟩:=put3 Hn3 _ hl3 ho3 hf3
    simp only [go_sem,reduceIte,↓reduceIte,sevalprocAttr,Z0,Z1,bytesOf]
    simp only [go_sem,reduceIte,↓reduceIte,sevalprocAttr,Z0,Z1,bytesOf,ew]
    refine ⟨(x+1,Hn3),⟨⟨by simp only; omega,?_⟩,?_⟩,by simp only; omega⟩
    ·simp only
     rw [← hE]
     simp only [List.set_set,List.set_cons_zero,List.set_cons_succ] at M4
     simpa only [mkC,mkT,mkR_cnt] using M4
    ·simp only
     rw [hS]
     simp
     omega
   ·have hx':x=rows.length:=by omega
    subst hx'
    have d1:decide ((rows.length:Int)<(rows.length:Int))=false:=by simp
    rw [List.take_length,List.drop_length,List.append_nil] at M0
    simp only [go_sem,reduceIte,↓reduceIte,sevalprocAttr,Z0,Z1,bytesOf,d1,List.take_length]
    intro _
    exact ⟨M0.len,M0.own,M0.fr⟩
theorem mark_CtorS {rows:List (List TV)} (sh:∀ r∈rows,∃ (v0:List UInt8) (v1:Bool) (v2:Int) (v3:List UInt8) (v4:Int) (v5:List (List TV)) (v6:Int),r=([.p (.s v0),.p (.b v1),.p (.i .i64 v2),.p (.s v3),.p (.i .i64 v4),.s 4 v5,.p (.i .i64 v6)]:List TV)∧(MarkC Tryz.prog 118 4 v5∧v5.length≤1048576)):MarkC Tryz.prog 76 7 rows:=by
 intro H a ids k hO hN hk0 hk hn
 refine call76 (by simp) ?_
 have hO':=hO
 rw [Own] at hO'
 rcases hO' with ⟨rfl,rfl,rfl⟩ | ⟨id,ver,rs,js,rfl,rfl,h1,h2⟩
 ·simp only [go_sem,reduceIte,↓reduceIte,sevalprocAttr,Z0,Z1,bytesOf,mc76,mr76]
  refine ⟨Unit,[0,1,4,5],fun _ st=>st=⟨[(0,.p .nl),(1,.p (.i .i64 k)),(4,.p (.i .i64 0)),(5,.p (.i .i64 0))],[],H⟩,fun _=>0,⟨(),rfl⟩,?_⟩
  rintro _ _ rfl
  simp only [go_sem,reduceIte,↓reduceIte,sevalprocAttr,Z0,Z1,bytesOf]
  refine ⟨by simp [mcR],?_,fun i _=>trivial⟩
  rw [mkR]; exact hO
 ·have hlen:=h2.len
  generalize rs.length=N at hO hlen ⊢
  clear h1 h2
  subst hlen
  simp only [go_sem,reduceIte,↓reduceIte,sevalprocAttr,Z0,Z1,bytesOf,mc76,mr76]
  refine ⟨Nat × List AO,[0,1,4,5],fun x st=>(x.1≤rows.length∧MkI H x.2 7 id ver rows.length ((mkR (rows.take x.1) k).1++rows.drop x.1) (id :: js))∧st=⟨[(0,.gs id ver 0 rows.length),(1,.p (.i .i64 (k+mcR (rows.take x.1)))),(4,.p (.i .i64 0)),(5,.p (.i .i64 x.1))],[],x.2⟩,fun x=>rows.length - x.1,⟨(0,H),?_⟩,?_⟩
  ·simp only [go_sem,reduceIte,↓reduceIte,sevalprocAttr,Z0,Z1,bytesOf,List.take_zero,List.drop_zero,mkR,mcR]
   exact ⟨⟨Nat.zero_le _,hO,hN,rfl,fun _ _=>rfl⟩,by simp⟩
  ·rintro ⟨x,H0'⟩ _ ⟨⟨hx,M0⟩,rfl⟩
   simp only at hx M0
   by_cases hlt:x<rows.length
   ·have d1:decide ((x:Int)<(rows.length:Int))=true:=by simp; omega
    have hlt':((x:Int)<(rows.length:Int)):=by omega
    have X0:=mk_row hlt k
    have hE:=mk_rows hlt k
    have hS:=mcR_step rows x hlt
    have hB:=mcR_take rows (x+1)
    have hK0:0≤k+(mcR (rows.take x):Int):=by omega
    have ew:=wrN x (by omega)
    obtain ⟨v0,v1,v2,v3,v4,v5,v6,hs,⟨m5,n5⟩⟩:=sh rows[x] (List.getElem_mem hlt)
    rw [hs] at X0 hE hS
    generalize hkx:k+(mcR (rows.take x):Int)=kx at hE hK0 ⊢
    generalize (mkR (rows.take x) k).1++rows.drop x=R0 at X0 hE M0
    simp only [mcC,mcT] at hS
    simp only [go_sem,reduceIte,↓reduceIte,sevalprocAttr,Z0,Z1,bytesOf,d1]
    intro hml
    refine acall_pure (markTextP (kx) (by omega) (by omega) _) ?_
    obtain ⟨rs0,Hn0,q0,e0,M1,X1⟩:=mk_sto M0 X0 (c:=0) rfl (.s (textM (kx)))
    simp only [go_sem,reduceIte,↓reduceIte,sevalprocAttr,Z0,Z1,bytesOf,q0]
    refine ⟨hlt',?_⟩
    rw [e0]
    simp only [go_sem,reduceIte,↓reduceIte,sevalprocAttr,Z0,Z1,bytesOf,wrK (k:=kx) (by omega) (by omega)]
    obtain ⟨rs1,Hn1,q1,e1,M2,X2⟩:=mk_sto M1 X1 (c:=1) rfl (.b (decide ((kx+1).tmod 3=0)))
    simp only [go_sem,reduceIte,↓reduceIte,sevalprocAttr,Z0,Z1,bytesOf,q1]
    refine ⟨hlt',?_⟩
    rw [e1]
    simp only [go_sem,reduceIte,↓reduceIte,sevalprocAttr,Z0,Z1,bytesOf,wrK (k:=kx+1) (by omega) (by omega)]
    obtain ⟨rs2,Hn2,q2,e2,M3,X3⟩:=mk_sto M2 X2 (c:=2) rfl (.i .i64 (kx+1+1))
    simp only [go_sem,reduceIte,↓reduceIte,sevalprocAttr,Z0,Z1,bytesOf,q2]
    refine ⟨hlt',?_⟩
    rw [e2]
    simp only [go_sem,reduceIte,↓reduceIte,sevalprocAttr,Z0,Z1,bytesOf,wrK (k:=kx+1+1) (by omega) (by omega)]
    refine acall_pure (markTextP (kx+1+1+1) (by omega) (by omega) _) ?_
    obtain ⟨rs3,Hn3,q3,e3,M4,X4⟩:=mk_sto M3 X3 (c:=3) rfl (.s (textM (kx+1+1+1)))
    simp only [go_sem,reduceIte,↓reduceIte,sevalprocAttr,Z0,Z1,bytesOf,q3]
    refine ⟨hlt',?_⟩
    rw [e3]
    simp only [go_sem,reduceIte,↓reduceIte,sevalprocAttr,Z0,Z1,bytesOf,wrK (k:=kx+1+1+1) (by omega) (by omega)]
    obtain ⟨rs4,Hn4,q4,e4,M5,X5⟩:=mk_sto M4 X4 (c:=4) rfl (.i .i64 (kx+1+1+1+1))
    simp only [go_sem,reduceIte,↓reduceIte,sevalprocAttr,Z0,Z1,bytesOf,q4]
    refine ⟨hlt',?_⟩
    rw [e4]
    simp only [go_sem,reduceIte,↓reduceIte,sevalprocAttr,Z0,Z1,bytesOf,wrK (k:=kx+1+1+1+1) (by omega) (by omega)]
    obtain ⟨rs5,r5,kv5,js5,q5,qr5,ql5,qc5,qo5,qn5,put5⟩:=mk_call M5 X5 (c:=5) rfl
    obtain ⟨r5_0,r5_1,r5_2,r5_3,r5_4,r5_5,r5_6,rfl⟩:=len7 ql5
    obtain rfl:r5_5=kv5:=by simpa using qc5
    simp only [go_sem,reduceIte,↓reduceIte,sevalprocAttr,Z0,Z1,bytesOf,q5,qr5]
    refine ⟨hlt',?_⟩
    refine (m5 _ _ _ (kx+1+1+1+1+1) qo5 qn5 (by omega) (by omega) n5).mono ?_
    rintro _ Hn5 ⟨rfl,hl5,ho5,hf5⟩
    obtain ⟨M6,X6⟩:=put5 Hn5 _ hl5 ho5 hf5
    simp only [go_sem,reduceIte,↓reduceIte,sevalprocAttr,Z0,Z1,bytesOf]
    obtain ⟨rs6,Hn6,q6,e6,M7,X7⟩:=mk_sto M6 X6 (c:=6) rfl (.i .i64 (kx+1+1+1+1+1+(mcR v5:Int)))
    simp only [go_sem,reduceIte,↓reduceIte,sevalprocAttr,Z0,Z1,bytesOf,q6]
    refine ⟨hlt',?_⟩
    rw [e6]
    simp only [go_sem,reduceIte,↓reduceIte,sevalprocAttr,Z0,Z1,bytesOf,wrK (k:=kx+1+1+1+1+1+(mcR v5:Int)) (by omega) (by omega)]
    simp only [go_sem,reduceIte,↓reduceIte,sevalprocAttr,Z0,Z1,bytesOf,ew]
    refine ⟨(x+1,Hn6),⟨⟨by simp only; omega,?_⟩,?_⟩,by simp only; omega⟩
    ·simp only
     rw [← hE]
     simp only [List.set_set,List.set_cons_zero,List.set_cons_succ] at M7
     simp only [mkC,mkT,mkR_cnt]; refine cast ?_ M7; congr
    ·simp only
     rw [hS]
     simp
     omega
   ·have hx':x=rows.length:=by omega
    subst hx'
    have d1:decide ((rows.length:Int)<(rows.length:Int))=false:=by simp
    rw [List.take_length,List.drop_length,List.append_nil] at M0
    simp only [go_sem,reduceIte,↓reduceIte,sevalprocAttr,Z0,Z1,bytesOf,d1,List.take_length]
    intro _
    exact ⟨M0.len,M0.own,M0.fr⟩
theorem mark_DataS {rows:List (List TV)} (sh:∀ r∈rows,∃ (v0:List UInt8) (v1:List (List TV)) (v2:List (List TV)) (v3:Int),r=([.p (.s v0),.s 1 v1,.s 7 v2,.p (.i .i64 v3)]:List TV)∧(MarkC Tryz.prog 75 1 v1∧v1.length≤1048576)∧(MarkC Tryz.prog 76 7 v2∧v2.length≤1048576)):MarkC Tryz.prog 41 4 rows:=by
 intro H a ids k hO hN hk0 hk hn
 refine call41 (by simp) ?_
 have hO':=hO
 rw [Own] at hO'
 rcases hO' with ⟨rfl,rfl,rfl⟩ | ⟨id,ver,rs,js,rfl,rfl,h1,h2⟩
 ·simp only [go_sem,reduceIte,↓reduceIte,sevalprocAttr,Z0,Z1,bytesOf,mc41,mr41]
  refine ⟨Unit,[0,1,4,5],fun _ st=>st=⟨[(0,.p .nl),(1,.p (.i .i64 k)),(4,.p (.i .i64 0)),(5,.p (.i .i64 0))],[],H⟩,fun _=>0,⟨(),rfl⟩,?_⟩
  rintro _ _ rfl
  simp only [go_sem,reduceIte,↓reduceIte,sevalprocAttr,Z0,Z1,bytesOf]
  refine ⟨by simp [mcR],?_,fun i _=>trivial⟩
  rw [mkR]; exact hO
 ·have hlen:=h2.len
  generalize rs.length=N at hO hlen ⊢
  clear h1 h2
  subst hlen
  simp only [go_sem,reduceIte,↓reduceIte,sevalprocAttr,Z0,Z1,bytesOf,mc41,mr41]
  refine ⟨Nat × List AO,[0,1,4,5],fun x st=>(x.1≤rows.length∧MkI H x.2 4 id ver rows.length ((mkR (rows.take x.1) k).1++rows.drop x.1) (id :: js))∧st=⟨[(0,.gs id ver 0 rows.length),(1,.p (.i .i64 (k+mcR (rows.take x.1)))),(4,.p (.i .i64 0)),(5,.p (.i .i64 x.1))],[],x.2⟩,fun x=>rows.length - x.1,⟨(0,H),?_⟩,?_⟩
  ·simp only [go_sem,reduceIte,↓reduceIte,sevalprocAttr,Z0,Z1,bytesOf,List.take_zero,List.drop_zero,mkR,mcR]
   exact ⟨⟨Nat.zero_le _,hO,hN,rfl,fun _ _=>rfl⟩,by simp⟩
  ·rintro ⟨x,H0'⟩ _ ⟨⟨hx,M0⟩,rfl⟩
   simp only at hx M0
   by_cases hlt:x<rows.length
   ·have d1:decide ((x:Int)<(rows.length:Int))=true:=by simp; omega
    have hlt':((x:Int)<(rows.length:Int)):=by omega
    have X0:=mk_row hlt k
    have hE:=mk_rows hlt k
    have hS:=mcR_step rows x hlt
    have hB:=mcR_take rows (x+1)
    have hK0:0≤k+(mcR (rows.take x):Int):=by omega
    have ew:=wrN x (by omega)
    obtain ⟨v0,v1,v2,v3,hs,⟨m1,n1⟩,⟨m2,n2⟩⟩:=sh rows[x] (List.getElem_mem hlt)
    rw [hs] at X0 hE hS
    generalize hkx:k+(mcR (rows.take x):Int)=kx at hE hK0 ⊢
    generalize (mkR (rows.take x) k).1++rows.drop x=R0 at X0 hE M0
    simp only [mcC,mcT] at hS
    simp only [go_sem,reduceIte,↓reduceIte,sevalprocAttr,Z0,Z1,bytesOf,d1]
    intro hml
    refine acall_pure (markTextP (kx) (by omega) (by omega) _) ?_
    obtain ⟨rs0,Hn0,q0,e0,M1,X1⟩:=mk_sto M0 X0 (c:=0) rfl (.s (textM (kx)))
    simp only [go_sem,reduceIte,↓reduceIte,sevalprocAttr,Z0,Z1,bytesOf,q0]
    refine ⟨hlt',?_⟩
    rw [e0]
    simp only [go_sem,reduceIte,↓reduceIte,sevalprocAttr,Z0,Z1,bytesOf,wrK (k:=kx) (by omega) (by omega)]
    obtain ⟨rs1,r1,kv1,js1,q1,qr1,ql1,qc1,qo1,qn1,put1⟩:=mk_call M1 X1 (c:=1) rfl
    obtain ⟨r1_0,r1_1,r1_2,r1_3,rfl⟩:=len4 ql1
    obtain rfl:r1_1=kv1:=by simpa using qc1
    simp only [go_sem,reduceIte,↓reduceIte,sevalprocAttr,Z0,Z1,bytesOf,q1,qr1]
    refine ⟨hlt',?_⟩
    refine (m1 _ _ _ (kx+1) qo1 qn1 (by omega) (by omega) n1).mono ?_
    rintro _ Hn1 ⟨rfl,hl1,ho1,hf1⟩
    obtain ⟨M2,X2⟩:=put1 Hn1 _ hl1 ho1 hf1
    simp only [go_sem,reduceIte,↓reduceIte,sevalprocAttr,Z0,Z1,bytesOf]
    obtain ⟨rs2,r2,kv2,js2,q2,qr2,ql2,qc2,qo2,qn2,put2⟩:=mk_call M2 X2 (c:=2) rfl
    obtain ⟨r2_0,r2_1,r2_2,r2_3,rfl⟩:=len4 ql2
    obtain rfl:r2_2=kv2:=by simpa using qc2
    simp only [go_sem,reduceIte,↓reduceIte,sevalprocAttr,Z0,Z1,bytesOf,q2,qr2]
    refine ⟨hlt',?_⟩
    refine (m2 _ _ _ (kx+1+(mcR v1:Int)) qo2 qn2 (by omega) (by omega) n2).mono ?_
    rintro _ Hn2 ⟨rfl,hl2,ho2,hf2⟩
    obtain ⟨M3,X3⟩:=put2 Hn2 _ hl2 ho2 hf2
    simp only [go_sem,reduceIte,↓reduceIte,sevalprocAttr,Z0,Z1,bytesOf]
    obtain ⟨rs3,Hn3,q3,e3,M4,X4⟩:=mk_sto M3 X3 (c:=3) rfl (.i .i64 (kx+1+(mcR v1:Int)+(mcR v2:Int)))
    simp only [go_sem,reduceIte,↓reduceIte,sevalprocAttr,Z0,Z1,bytesOf,q3]
    refine ⟨hlt',?_⟩
    rw [e3]
    simp only [go_sem,reduceIte,↓reduceIte,sevalprocAttr,Z0,Z1,bytesOf,wrK (k:=kx+1+(mcR v1:Int)+(mcR v2:Int)) (by omega) (by omega)]
    simp only [go_sem,reduceIte,↓reduceIte,sevalprocAttr,Z0,Z1,bytesOf,ew]
    refine ⟨(x+1,Hn3),⟨⟨by simp only; omega,?_⟩,?_⟩,by simp only; omega⟩
    ·simp only
     rw [← hE]
     simp only [List.set_set,List.set_cons_zero,List.set_cons_succ] at M4
     simpa only [mkC,mkT,mkR_cnt] using M4
    ·simp only
     rw [hS]
     simp
     omega
   ·have hx':x=rows.length:=by omega
    subst hx'
    have d1:decide ((rows.length:Int)<(rows.length:Int))=false:=by simp
    rw [List.take_length,List.drop_length,List.append_nil] at M0
    simp only [go_sem,reduceIte,↓reduceIte,sevalprocAttr,Z0,Z1,bytesOf,d1,List.take_length]
    intro _
    exact ⟨M0.len,M0.own,M0.fr⟩
theorem held_StringS {rows:List (List TV)} (sh:∀ r∈rows,∃ (v0:List UInt8),r=([.p (.s v0)]:List TV)):HeldC Tryz.prog 77 1 rows:=by
 intro H a ids k hO hk0 hk hn
 refine call77 (by simp) ?_
 rw [Own] at hO
 rcases hO with ⟨h0,rfl,rfl⟩ | ⟨id,ver,rs,js,rfl,rfl,h1,h2⟩
 ·have:rows=[]:=by have:=mkR_len rows k; rw [h0] at this; exact List.length_eq_zero_iff.1 this.symm
  subst this
  simp only [go_sem,reduceIte,↓reduceIte,sevalprocAttr,Z0,Z1,bytesOf,mc77,mr77]
  refine ⟨Unit,[0,1,4,5],fun _ st=>st=⟨[(0,.p .nl),(1,.p (.i .i64 k)),(4,.p (.i .i64 0)),(5,.p (.i .i64 0))],[],H⟩,fun _=>0,⟨(),rfl⟩,?_⟩
  rintro _ _ rfl
  simp only [go_sem,reduceIte,↓reduceIte,sevalprocAttr,Z0,Z1,bytesOf]
  simp [mcR,pureQ]
 ·have hlen:=h2.len
  rw [mkR_len] at hlen
  rw [hlen]
  simp only [go_sem,reduceIte,↓reduceIte,sevalprocAttr,Z0,Z1,bytesOf,mc77,mr77]
  refine ⟨Nat,[0,1,4,5],fun x st=>x≤rows.length∧st=⟨[(0,.gs id ver 0 rows.length),(1,.p (.i .i64 (k+mcR (rows.take x)))),(4,.p (.i .i64 0)),(5,.p (.i .i64 x))],[],H⟩,fun x=>rows.length - x,⟨0,?_⟩,?_⟩
  ·simp only [go_sem,reduceIte,↓reduceIte,sevalprocAttr,Z0,Z1,bytesOf,List.take_zero,mcR]
   exact ⟨Nat.zero_le _,by simp⟩
  ·rintro x _ ⟨hx,rfl⟩
   by_cases hlt:x<rows.length
   ·have d1:decide ((x:Int)<(rows.length:Int))=true:=by simp; omega
    have hlt':((x:Int)<(rows.length:Int)):=by omega
    have hS:=mcR_step rows x hlt
    have hB:=mcR_take rows (x+1)
    have hK0:0≤k+(mcR (rows.take x):Int):=by omega
    have ew:=wrN x (by omega)
    obtain ⟨r,jr,hr,hrl,hcs⟩:=held_row h2 hlt
    obtain ⟨v0,hs⟩:=sh rows[x] (List.getElem_mem hlt)
    rw [hs] at hS hcs
    generalize hkx:k+(mcR (rows.take x):Int)=kx at hK0 hcs ⊢
    simp only [mcC,mcT] at hS
    simp only [mkC,mkT,mkR_cnt] at hcs
    obtain ⟨r_0,rfl⟩:=len1 hrl
    obtain rfl:=cell_p hcs (c:=0) rfl rfl
    have w0:=wrK (k:=kx) (by omega) (by omega)
    simp only [go_sem,reduceIte,↓reduceIte,sevalprocAttr,Z0,Z1,bytesOf,d1,h1,hr,hlt',w0]
    intro hml
    refine drw_same ?_
    simp only [go_sem,reduceIte,↓reduceIte,sevalprocAttr,Z0,Z1,bytesOf,h1,hr,hlt',w0]
    refine pcall_pure (fun A=>markTextP (kx) (by omega) (by omega) _) (Hext.refl _) ?_
    simp only [go_sem,reduceIte,↓reduceIte,sevalprocAttr,Z0,Z1,bytesOf,h1,hr,hlt',w0]
    simp only [go_sem,reduceIte,↓reduceIte,sevalprocAttr,Z0,Z1,bytesOf,ew]
    refine ⟨x+1,⟨by omega,?_⟩,by omega⟩
    rw [hS]
    simp
    omega
   ·have hx':x=rows.length:=by omega
    subst hx'
    have d1:decide ((rows.length:Int)<(rows.length:Int))=false:=by simp
    simp only [go_sem,reduceIte,↓reduceIte,sevalprocAttr,Z0,Z1,bytesOf,d1,List.take_length]
    intro _
    exact ⟨rfl,rfl⟩
theorem held_TypeExpS {rows:List (List TV)} (sh:∀ r∈rows,∃ (v0:Int) (v1:List UInt8) (v2:Int) (v3:List (List TV)),r=([.p (.i .i64 v0),.p (.s v1),.p (.i .i64 v2),.s 4 v3]:List TV)∧(HeldC Tryz.prog 119 4 v3∧v3.length≤1048576)):HeldC Tryz.prog 119 4 rows:=by
 intro H a ids k hO hk0 hk hn
 refine call119 (by simp) ?_
 rw [Own] at hO
 rcases hO with ⟨h0,rfl,rfl⟩ | ⟨id,ver,rs,js,rfl,rfl,h1,h2⟩
 ·have:rows=[]:=by have:=mkR_len rows k; rw [h0] at this; exact List.length_eq_zero_iff.1 this.symm
  subst this
  simp only [go_sem,reduceIte,↓reduceIte,sevalprocAttr,Z0,Z1,bytesOf,mc119,mr119]
  refine ⟨Unit,[0,1,4,5],fun _ st=>st=⟨[(0,.p .nl),(1,.p (.i .i64 k)),(4,.p (.i .i64 0)),(5,.p (.i .i64 0))],[],H⟩,fun _=>0,⟨(),rfl⟩,?_⟩
  rintro _ _ rfl
  simp only [go_sem,reduceIte,↓reduceIte,sevalprocAttr,Z0,Z1,bytesOf]
  simp [mcR,pureQ]
 ·have hlen:=h2.len
  rw [mkR_len] at hlen
  rw [hlen]
  simp only [go_sem,reduceIte,↓reduceIte,sevalprocAttr,Z0,Z1,bytesOf,mc119,mr119]
  refine ⟨Nat,[0,1,4,5],fun x st=>x≤rows.length∧st=⟨[(0,.gs id ver 0 rows.length),(1,.p (.i .i64 (k+mcR (rows.take x)))),(4,.p (.i .i64 0)),(5,.p (.i .i64 x))],[],H⟩,fun x=>rows.length - x,⟨0,?_⟩,?_⟩
  ·simp only [go_sem,reduceIte,↓reduceIte,sevalprocAttr,Z0,Z1,bytesOf,List.take_zero,mcR]
   exact ⟨Nat.zero_le _,by simp⟩
  ·rintro x _ ⟨hx,rfl⟩
   by_cases hlt:x<rows.length
   ·have d1:decide ((x:Int)<(rows.length:Int))=true:=by simp; omega
    have hlt':((x:Int)<(rows.length:Int)):=by omega
    have hS:=mcR_step rows x hlt
    have hB:=mcR_take rows (x+1)
    have hK0:0≤k+(mcR (rows.take x):Int):=by omega
    have ew:=wrN x (by omega)
    obtain ⟨r,jr,hr,hrl,hcs⟩:=held_row h2 hlt
    obtain ⟨v0,v1,v2,v3,hs,⟨m3,n3⟩⟩:=sh rows[x] (List.getElem_mem hlt)
    rw [hs] at hS hcs
    generalize hkx:k+(mcR (rows.take x):Int)=kx at hK0 hcs ⊢
    simp only [mcC,mcT] at hS
    simp only [mkC,mkT,mkR_cnt] at hcs
    obtain ⟨r_0,r_1,r_2,r_3,rfl⟩:=len4 hrl
    obtain rfl:=cell_p hcs (c:=0) rfl rfl
    obtain rfl:=cell_p hcs (c:=1) rfl rfl
    obtain rfl:=cell_p hcs (c:=2) rfl rfl
    obtain ⟨ids3,ho3⟩:=cell_s hcs (c:=3) rfl rfl
    have w0:=wrK (k:=kx) (by omega) (by omega)
    have w1:=wrK (k:=kx+1) (by omega) (by omega)
    have w2:=wrK (k:=kx+1+1) (by omega) (by omega)
    have w3:decide (kx+1+1+1+(mcR v3:Int)<0)=false:=decide_eq_false (by omega)
    simp only [go_sem,reduceIte,↓reduceIte,sevalprocAttr,Z0,Z1,bytesOf,d1,h1,hr,hlt',w0,w1,w2,w3]
    intro hml
    refine drw_same ?_
    simp only [go_sem,reduceIte,↓reduceIte,sevalprocAttr,Z0,Z1,bytesOf,h1,hr,hlt',w0,w1,w2,w3]
    refine pcall_pure (fun A=>markTextP (kx+1) (by omega) (by omega) _) (Hext.refl _) ?_
    simp only [go_sem,reduceIte,↓reduceIte,sevalprocAttr,Z0,Z1,bytesOf,h1,hr,hlt',w0,w1,w2,w3]
    refine acall_pure (m3 _ _ _ (kx+1+1+1) ho3 (by omega) (by omega) n3) ?_
    simp only [go_sem,reduceIte,↓reduceIte,sevalprocAttr,Z0,Z1,bytesOf,h1,hr,hlt',w0,w1,w2,w3]
    simp only [go_sem,reduceIte,↓reduceIte,sevalprocAttr,Z0,Z1,bytesOf,ew]
    refine ⟨x+1,⟨by omega,?_⟩,by omega⟩
    rw [hS]
    simp
    omega
   ·have hx':x=rows.length:=by omega
    subst hx'
    have d1:decide ((rows.length:Int)<(rows.length:Int))=false:=by simp
    simp only [go_sem,reduceIte,↓reduceIte,sevalprocAttr,Z0,Z1,bytesOf,d1,List.take_length]
    intro _
    exact ⟨rfl,rfl⟩
theorem held_CtorS {rows:List (List TV)} (sh:∀ r∈rows,∃ (v0:List UInt8) (v1:Bool) (v2:Int) (v3:List UInt8) (v4:Int) (v5:List (List TV)) (v6:Int),r=([.p (.s v0),.p (.b v1),.p (.i .i64 v2),.p (.s v3),.p (.i .i64 v4),.s 4 v5,.p (.i .i64 v6)]:List TV)∧(HeldC Tryz.prog 119 4 v5∧v5.length≤1048576)):HeldC Tryz.prog 78 7 rows:=by
 intro H a ids k hO hk0 hk hn
 refine call78 (by simp) ?_
 rw [Own] at hO
 rcases hO with ⟨h0,rfl,rfl⟩ | ⟨id,ver,rs,js,rfl,rfl,h1,h2⟩
 ·have:rows=[]:=by have:=mkR_len rows k; rw [h0] at this; exact List.length_eq_zero_iff.1 this.symm
  subst this
  simp only [go_sem,reduceIte,↓reduceIte,sevalprocAttr,Z0,Z1,bytesOf,mc78,mr78]
  refine ⟨Unit,[0,1,4,5],fun _ st=>st=⟨[(0,.p .nl),(1,.p (.i .i64 k)),(4,.p (.i .i64 0)),(5,.p (.i .i64 0))],[],H⟩,fun _=>0,⟨(),rfl⟩,?_⟩
  rintro _ _ rfl
  simp only [go_sem,reduceIte,↓reduceIte,sevalprocAttr,Z0,Z1,bytesOf]
  simp [mcR,pureQ]
 ·have hlen:=h2.len
  rw [mkR_len] at hlen
  rw [hlen]
  simp only [go_sem,reduceIte,↓reduceIte,sevalprocAttr,Z0,Z1,bytesOf,mc78,mr78]
  refine ⟨Nat,[0,1,4,5],fun x st=>x≤rows.length∧st=⟨[(0,.gs id ver 0 rows.length),(1,.p (.i .i64 (k+mcR (rows.take x)))),(4,.p (.i .i64 0)),(5,.p (.i .i64 x))],[],H⟩,fun x=>rows.length - x,⟨0,?_⟩,?_⟩
  ·simp only [go_sem,reduceIte,↓reduceIte,sevalprocAttr,Z0,Z1,bytesOf,List.take_zero,mcR]
   exact ⟨Nat.zero_le _,by simp⟩
  ·rintro x _ ⟨hx,rfl⟩
   by_cases hlt:x<rows.length
   ·have d1:decide ((x:Int)<(rows.length:Int))=true:=by simp; omega
    have hlt':((x:Int)<(rows.length:Int)):=by omega
    have hS:=mcR_step rows x hlt
    have hB:=mcR_take rows (x+1)
    have hK0:0≤k+(mcR (rows.take x):Int):=by omega
    have ew:=wrN x (by omega)
    obtain ⟨r,jr,hr,hrl,hcs⟩:=held_row h2 hlt
    obtain ⟨v0,v1,v2,v3,v4,v5,v6,hs,⟨m5,n5⟩⟩:=sh rows[x] (List.getElem_mem hlt)
    rw [hs] at hS hcs
    generalize hkx:k+(mcR (rows.take x):Int)=kx at hK0 hcs ⊢
    simp only [mcC,mcT] at hS
    simp only [mkC,mkT,mkR_cnt] at hcs
    obtain ⟨r_0,r_1,r_2,r_3,r_4,r_5,r_6,rfl⟩:=len7 hrl
    obtain rfl:=cell_p hcs (c:=0) rfl rfl
    obtain rfl:=cell_p hcs (c:=1) rfl rfl
    obtain rfl:=cell_p hcs (c:=2) rfl rfl
    obtain rfl:=cell_p hcs (c:=3) rfl rfl
    obtain rfl:=cell_p hcs (c:=4) rfl rfl
    obtain ⟨ids5,ho5⟩:=cell_s hcs (c:=5) rfl rfl
    obtain rfl:=cell_p hcs (c:=6) rfl rfl
    have w0:=wrK (k:=kx) (by omega) (by omega)
    have w1:=wrK (k:=kx+1) (by omega) (by omega)
    have w2:=wrK (k:=kx+1+1) (by omega) (by omega)
    have w3:=wrK (k:=kx+1+1+1) (by omega) (by omega)
    have w4:=wrK (k:=kx+1+1+1+1) (by omega) (by omega)
    have w5:decide (kx+1+1+1+1+1+(mcR v5:Int)<0)=false:=decide_eq_false (by omega)
    have w6:=wrK (k:=kx+1+1+1+1+1+(mcR v5:Int)) (by omega) (by omega)
    simp only [go_sem,reduceIte,↓reduceIte,sevalprocAttr,Z0,Z1,bytesOf,d1,h1,hr,hlt',w0,w1,w2,w3,w4,w5,w6]
    intro hml
    refine drw_same ?_
    simp only [go_sem,reduceIte,↓reduceIte,sevalprocAttr,Z0,Z1,bytesOf,h1,hr,hlt',w0,w1,w2,w3,w4,w5,w6]
    refine pcall_pure (fun A=>markTextP (kx) (by omega) (by omega) _) (Hext.refl _) ?_
    simp only [go_sem,reduceIte,↓reduceIte,sevalprocAttr,Z0,Z1,bytesOf,h1,hr,hlt',w0,w1,w2,w3,w4,w5,w6]
    refine condK_no (by congr) ?_
    simp only [go_sem,reduceIte,↓reduceIte,sevalprocAttr,Z0,Z1,bytesOf,h1,hr,hlt',w0,w1,w2,w3,w4,w5,w6]
    refine drw_same ?_
    simp only [go_sem,reduceIte,↓reduceIte,sevalprocAttr,Z0,Z1,bytesOf,h1,hr,hlt',w0,w1,w2,w3,w4,w5,w6]
    refine pcall_pure (fun A=>markTextP (kx+1+1+1) (by omega) (by omega) _) (Hext.refl _) ?_
    simp only [go_sem,reduceIte,↓reduceIte,sevalprocAttr,Z0,Z1,bytesOf,h1,hr,hlt',w0,w1,w2,w3,w4,w5,w6]
    refine acall_pure (m5 _ _ _ (kx+1+1+1+1+1) ho5 (by omega) (by omega) n5) ?_
    simp only [go_sem,reduceIte,↓reduceIte,sevalprocAttr,Z0,Z1,bytesOf,h1,hr,hlt',w0,w1,w2,w3,w4,w5,w6]
    simp only [go_sem,reduceIte,↓reduceIte,sevalprocAttr,Z0,Z1,bytesOf,ew]
    refine ⟨x+1,⟨by omega,?_⟩,by omega⟩
    rw [hS]
    simp
    omega
   ·have hx':x=rows.length:=by omega
    subst hx'
    have d1:decide ((rows.length:Int)<(rows.length:Int))=false:=by simp
    simp only [go_sem,reduceIte,↓reduceIte,sevalprocAttr,Z0,Z1,bytesOf,d1,List.take_length]
    intro _
    exact ⟨rfl,rfl⟩
theorem held_DataS {rows:List (List TV)} (sh:∀ r∈rows,∃ (v0:List UInt8) (v1:List (List TV)) (v2:List (List TV)) (v3:Int),r=([.p (.s v0),.s 1 v1,.s 7 v2,.p (.i .i64 v3)]:List TV)∧(HeldC Tryz.prog 77 1 v1∧v1.length≤1048576)∧(HeldC Tryz.prog 78 7 v2∧v2.length≤1048576)):HeldC Tryz.prog 42 4 rows:=by
 intro H a ids k hO hk0 hk hn
 refine call42 (by simp) ?_
 rw [Own] at hO
 rcases hO with ⟨h0,rfl,rfl⟩ | ⟨id,ver,rs,js,rfl,rfl,h1,h2⟩
 ·have:rows=[]:=by have:=mkR_len rows k; rw [h0] at this; exact List.length_eq_zero_iff.1 this.symm
  subst this
  simp only [go_sem,reduceIte,↓reduceIte,sevalprocAttr,Z0,Z1,bytesOf,mc42,mr42]
  refine ⟨Unit,[0,1,4,5],fun _ st=>st=⟨[(0,.p .nl),(1,.p (.i .i64 k)),(4,.p (.i .i64 0)),(5,.p (.i .i64 0))],[],H⟩,fun _=>0,⟨(),rfl⟩,?_⟩
  rintro _ _ rfl
  simp only [go_sem,reduceIte,↓reduceIte,sevalprocAttr,Z0,Z1,bytesOf]
  simp [mcR,pureQ]
 ·have hlen:=h2.len
  rw [mkR_len] at hlen
  rw [hlen]
  simp only [go_sem,reduceIte,↓reduceIte,sevalprocAttr,Z0,Z1,bytesOf,mc42,mr42]
  refine ⟨Nat,[0,1,4,5],fun x st=>x≤rows.length∧st=⟨[(0,.gs id ver 0 rows.length),(1,.p (.i .i64 (k+mcR (rows.take x)))),(4,.p (.i .i64 0)),(5,.p (.i .i64 x))],[],H⟩,fun x=>rows.length - x,⟨0,?_⟩,?_⟩
  ·simp only [go_sem,reduceIte,↓reduceIte,sevalprocAttr,Z0,Z1,bytesOf,List.take_zero,mcR]
   exact ⟨Nat.zero_le _,by simp⟩
  ·rintro x _ ⟨hx,rfl⟩
   by_cases hlt:x<rows.length
   ·have d1:decide ((x:Int)<(rows.length:Int))=true:=by simp; omega
    have hlt':((x:Int)<(rows.length:Int)):=by omega
    have hS:=mcR_step rows x hlt
    have hB:=mcR_take rows (x+1)
    have hK0:0≤k+(mcR (rows.take x):Int):=by omega
    have ew:=wrN x (by omega)
    obtain ⟨r,jr,hr,hrl,hcs⟩:=held_row h2 hlt
    obtain ⟨v0,v1,v2,v3,hs,⟨m1,n1⟩,⟨m2,n2⟩⟩:=sh rows[x] (List.getElem_mem hlt)
    rw [hs] at hS hcs
    generalize hkx:k+(mcR (rows.take x):Int)=kx at hK0 hcs ⊢
    simp only [mcC,mcT] at hS
    simp only [mkC,mkT,mkR_cnt] at hcs
    obtain ⟨r_0,r_1,r_2,r_3,rfl⟩:=len4 hrl
    obtain rfl:=cell_p hcs (c:=0) rfl rfl
    obtain ⟨ids1,ho1⟩:=cell_s hcs (c:=1) rfl rfl
    obtain ⟨ids2,ho2⟩:=cell_s hcs (c:=2) rfl rfl
    obtain rfl:=cell_p hcs (c:=3) rfl rfl
    have w0:=wrK (k:=kx) (by omega) (by omega)
    have w1:decide (kx+1+(mcR v1:Int)<0)=false:=decide_eq_false (by omega)
    have w2:decide (kx+1+(mcR v1:Int)+(mcR v2:Int)<0)=false:=decide_eq_false (by omega)
    have w3:=wrK (k:=kx+1+(mcR v1:Int)+(mcR v2:Int)) (by omega) (by omega)
    simp only [go_sem,reduceIte,↓reduceIte,sevalprocAttr,Z0,Z1,bytesOf,d1,h1,hr,hlt',w0,w1,w2,w3]
    intro hml
    refine drw_same ?_
    simp only [go_sem,reduceIte,↓reduceIte,sevalprocAttr,Z0,Z1,bytesOf,h1,hr,hlt',w0,w1,w2,w3]
    refine pcall_pure (fun A=>markTextP (kx) (by omega) (by omega) _) (Hext.refl _) ?_
    simp only [go_sem,reduceIte,↓reduceIte,sevalprocAttr,Z0,Z1,bytesOf,h1,hr,hlt',w0,w1,w2,w3]
    refine acall_pure (m1 _ _ _ (kx+1) ho1 (by omega) (by omega) n1) ?_
    simp only [go_sem,reduceIte,↓reduceIte,sevalprocAttr,Z0,Z1,bytesOf,h1,hr,hlt',w0,w1,w2,w3]
    refine acall_pure (m2 _ _ _ (kx+1+(mcR v1:Int)) ho2 (by omega) (by omega) n2) ?_
    simp only [go_sem,reduceIte,↓reduceIte,sevalprocAttr,Z0,Z1,bytesOf,h1,hr,hlt',w0,w1,w2,w3]
    simp only [go_sem,reduceIte,↓reduceIte,sevalprocAttr,Z0,Z1,bytesOf,ew]
    refine ⟨x+1,⟨by omega,?_⟩,by omega⟩
    rw [hS]
    simp
    omega
   ·have hx':x=rows.length:=by omega
    subst hx'
    have d1:decide ((rows.length:Int)<(rows.length:Int))=false:=by simp
    simp only [go_sem,reduceIte,↓reduceIte,sevalprocAttr,Z0,Z1,bytesOf,d1,List.take_length]
    intro _
    exact ⟨rfl,rfl⟩
end Go.Proofs.YtghcmccjchdgeaaGreatDoor.Pg
/- Marks of a parsed expression, written and found again. -/
set_option linter.all false
namespace Go.Proofs.YtghcmccjchdgeaaGreatDoor.Pg
open Go.AM Mc Qp
theorem mcR_mem : ∀ {l : List (List TV)} {r : List TV}, r ∈ l → mcC r ≤ mcR l
  | t :: l, r, h => by
    rw [mcR]
    rcases List.mem_cons.1 h with rfl | h
    · omega
    · have := mcR_mem h; omega
theorem mcR_len : ∀ {l : List (List TV)}, (∀ r ∈ l, 1 ≤ mcC r) → l.length ≤ mcR l
  | [], _ => Nat.zero_le _
  | t :: l, h => by
    have := h t (by simp)
    have := mcR_len (l := l) fun r hr => h r (by simp [hr])
    rw [mcR, List.length_cons]; omega
theorem tvL_memP {l:List PatD} {r:List TV} (h:r∈PatD.tvL l):∃ t∈l,r=t.tv:=by rw [PatD.tvL_eq] at h; obtain ⟨t,h1,rfl⟩:=List.mem_map.1 h; exact ⟨t,h1,rfl⟩
theorem tvL_memE {l:List ExpD} {r:List TV} (h:r∈ExpD.tvL l):∃ t∈l,r=t.tv:=by rw [ExpD.tvL_eq] at h; obtain ⟨t,h1,rfl⟩:=List.mem_map.1 h; exact ⟨t,h1,rfl⟩
theorem tvL_memA {l:List ArmD} {r:List TV} (h:r∈ExpD.tvA l):∃ t∈l,r=t.tv:=by rw [ExpD.tvA_eq] at h; obtain ⟨t,h1,rfl⟩:=List.mem_map.1 h; exact ⟨t,h1,rfl⟩
theorem lenP (l:List PatD):(PatD.tvL l).length≤mcR (PatD.tvL l):=mcR_len fun r hr=>by
 obtain ⟨⟨k,n,u,p,ks⟩,_,rfl⟩:=tvL_memP hr
 rw [mc_pat]; omega
theorem lenE (l:List ExpD):(ExpD.tvL l).length≤mcR (ExpD.tvL l):=mcR_len fun r hr=>by
 obtain ⟨⟨k,n,u,x,p,ks,as'⟩,_,rfl⟩:=tvL_memE hr
 rw [mc_exp]; omega
theorem lenA (l:List ArmD):(ExpD.tvA l).length≤mcR (ExpD.tvA l):=mcR_len fun r hr=>by
 obtain ⟨⟨⟨k,n,u,p,ks⟩,e⟩,_,rfl⟩:=tvL_memA hr
 rw [ArmD.tv,mcC_app,mc_pat]; omega
theorem markPatR : ∀ (m : Nat) (l : List PatD), mcR (PatD.tvL l) < m → mcR (PatD.tvL l) ≤ 1048576 → MarkC Tryz.prog 68 5 (PatD.tvL l) ∧ HeldC Tryz.prog 69 5 (PatD.tvL l) := by
  intro m
  induction m with
  | zero => intro l h; omega
  | succ m ih =>
    intro l h hb
    have key : ∀ r ∈ PatD.tvL l, ∃ (v0 : Int) (v1 : List UInt8) (v2 : Int) (v3 : Int) (ks : List PatD), r = ([.p (.i .i64 v0), .p (.s v1), .p (.i .i64 v2), .p (.i .i64 v3), .s 5 (PatD.tvL ks)] : List TV) ∧ (MarkC Tryz.prog 68 5 (PatD.tvL ks) ∧ HeldC Tryz.prog 69 5 (PatD.tvL ks)) ∧ (PatD.tvL ks).length ≤ 1048576 := fun r hr => by
      have hm := mcR_mem hr
      obtain ⟨⟨k, n, u, p, ks⟩, ht, rfl⟩ := tvL_memP hr
      rw [PatD.tv] at hm
      simp only [mcC, mcT] at hm
      have := lenP ks
      exact ⟨k, n, u, p, ks, by rw [PatD.tv], ih ks (by omega) (by omega), by omega⟩
    exact ⟨mark_PatS fun r hr => by obtain ⟨k, n, u, p, ks, e, h1, h2⟩ := key r hr; exact ⟨k, n, u, p, _, e, h1.1, h2⟩, held_PatS fun r hr => by obtain ⟨k, n, u, p, ks, e, h1, h2⟩ := key r hr; exact ⟨k, n, u, p, _, e, h1.2, h2⟩⟩
theorem markExpR : ∀ (m : Nat), (∀ l : List ExpD, mcR (ExpD.tvL l) < m → mcR (ExpD.tvL l) ≤ 1048576 → MarkC Tryz.prog 34 7 (ExpD.tvL l) ∧ HeldC Tryz.prog 36 7 (ExpD.tvL l)) ∧ ∀ l : List ArmD, mcR (ExpD.tvA l) < m → mcR (ExpD.tvA l) ≤ 1048576 → MarkC Tryz.prog 35 12 (ExpD.tvA l) ∧ HeldC Tryz.prog 37 12 (ExpD.tvA l) := by
  intro m
  induction m with
  | zero => exact ⟨fun l h => by omega, fun l h => by omega⟩
  | succ m ih =>
    refine ⟨fun l h hb => ?_, fun l h hb => ?_⟩
    · have key : ∀ r ∈ ExpD.tvL l, ∃ (k : Int) (n : List UInt8) (u : Int) (x : List UInt8) (p : Int) (ks : List ExpD) (as' : List ArmD), r = ([.p (.i .i64 k), .p (.s n), .p (.i .i64 u), .p (.s x), .p (.i .i64 p), .s 7 (ExpD.tvL ks), .s 12 (ExpD.tvA as')] : List TV) ∧
          ((MarkC Tryz.prog 34 7 (ExpD.tvL ks) ∧ HeldC Tryz.prog 36 7 (ExpD.tvL ks)) ∧ (ExpD.tvL ks).length ≤ 1048576) ∧ (MarkC Tryz.prog 35 12 (ExpD.tvA as') ∧ HeldC Tryz.prog 37 12 (ExpD.tvA as')) ∧ (ExpD.tvA as').length ≤ 1048576 := fun r hr => by
        have hm := mcR_mem hr
        obtain ⟨⟨k, n, u, x, p, ks, as'⟩, ht, rfl⟩ := tvL_memE hr
        rw [ExpD.tv] at hm
        simp only [mcC, mcT] at hm
        have := lenE ks
        have := lenA as'
        exact ⟨k, n, u, x, p, ks, as', by rw [ExpD.tv], ⟨ih.1 ks (by omega) (by omega), by omega⟩, ih.2 as' (by omega) (by omega), by omega⟩
      exact ⟨mark_ExpS fun r hr => by obtain ⟨k, n, u, x, p, ks, as', e, ⟨h1, h2⟩, h3, h4⟩ := key r hr; exact ⟨k, n, u, x, p, _, _, e, ⟨h1.1, h2⟩, h3.1, h4⟩, held_ExpS fun r hr => by obtain ⟨k, n, u, x, p, ks, as', e, ⟨h1, h2⟩, h3, h4⟩ := key r hr; exact ⟨k, n, u, x, p, _, _, e, ⟨h1.2, h2⟩, h3.2, h4⟩⟩
    · have key : ∀ r ∈ ExpD.tvA l, ∃ (qk : Int) (qn : List UInt8) (qu : Int) (qp : Int) (qs : List PatD) (k : Int) (n : List UInt8) (u : Int) (x : List UInt8) (p : Int) (ks : List ExpD) (as' : List ArmD), r = ([.p (.i .i64 qk), .p (.s qn), .p (.i .i64 qu), .p (.i .i64 qp), .s 5 (PatD.tvL qs), .p (.i .i64 k), .p (.s n), .p (.i .i64 u), .p (.s x), .p (.i .i64 p), .s 7 (ExpD.tvL ks), .s 12 (ExpD.tvA as')] : List TV) ∧
          ((MarkC Tryz.prog 68 5 (PatD.tvL qs) ∧ HeldC Tryz.prog 69 5 (PatD.tvL qs)) ∧ (PatD.tvL qs).length ≤ 1048576) ∧ ((MarkC Tryz.prog 34 7 (ExpD.tvL ks) ∧ HeldC Tryz.prog 36 7 (ExpD.tvL ks)) ∧ (ExpD.tvL ks).length ≤ 1048576) ∧ (MarkC Tryz.prog 35 12 (ExpD.tvA as') ∧ HeldC Tryz.prog 37 12 (ExpD.tvA as')) ∧ (ExpD.tvA as').length ≤ 1048576 := fun r hr => by
        have hm := mcR_mem hr
        obtain ⟨⟨⟨qk, qn, qu, qp, qs⟩, ⟨k, n, u, x, p, ks, as'⟩⟩, ht, rfl⟩ := tvL_memA hr
        rw [ArmD.tv, PatD.tv, ExpD.tv] at hm
        simp only [mcC, mcT, List.cons_append, List.nil_append] at hm
        have := lenP qs
        have := lenE ks
        have := lenA as'
        exact ⟨qk, qn, qu, qp, qs, k, n, u, x, p, ks, as', by rw [ArmD.tv, PatD.tv, ExpD.tv]; rfl, ⟨markPatR _ qs (Nat.lt_succ_self _) (by omega), by omega⟩, ⟨ih.1 ks (by omega) (by omega), by omega⟩, ih.2 as' (by omega) (by omega), by omega⟩
      exact ⟨mark_ArmS fun r hr => by obtain ⟨qk, qn, qu, qp, qs, k, n, u, x, p, ks, as', e, ⟨g1, g2⟩, ⟨h1, h2⟩, h3, h4⟩ := key r hr; exact ⟨qk, qn, qu, qp, _, k, n, u, x, p, _, _, e, ⟨g1.1, g2⟩, ⟨h1.1, h2⟩, h3.1, h4⟩, held_ArmS fun r hr => by obtain ⟨qk, qn, qu, qp, qs, k, n, u, x, p, ks, as', e, ⟨g1, g2⟩, ⟨h1, h2⟩, h3, h4⟩ := key r hr; exact ⟨qk, qn, qu, qp, _, k, n, u, x, p, _, _, e, ⟨g1.2, g2⟩, ⟨h1.2, h2⟩, h3.2, h4⟩⟩
theorem own_ltI {H:List AO} {t:TV} {a:AV} {ids:List Nat} (h:Own H t a ids):∀ i∈ids,i<H.length:=fun i hi=>by obtain ⟨_,_,_,h'⟩:=h.rows i hi; exact get_lt h'
def Mkd (ks:List ExpD) (as':List ArmD) (k:Int) (v w:AV) (i j:List Nat) (H:List AO):Prop:=Own H (.s 7 (mkR (ExpD.tvL ks) k).1) v i∧Own H (.s 12 (mkR (ExpD.tvA as') (k+mcR (ExpD.tvL ks))).1) w j
theorem Mkd.keep {ks:List ExpD} {as':List ArmD} {k:Int} {v w:AV} {i j:List Nat} {H H':List AO} (h:Mkd ks as' k v w i j H) (hk:∀ q∈i++j,∀ o,H[q]?=some o→H'[q]?=some o):Mkd ks as' k v w i j H' :=
 ⟨h.1.keep fun q hq=>hk q (by simp [hq]),h.2.keep fun q hq=>hk q (by simp [hq])⟩
section
variable {ek u p:Int} {n x:List UInt8} {ks:List ExpD} {as':List ArmD} {v w:AV} {i j:List Nat} {H:List AO} {k:Int}
theorem markExpN (hb:mcR (ExpD.tvL ks)+mcR (ExpD.tvA as')≤1048576) (o5:Own H (.s 7 (ExpD.tvL ks)) v i) (o6:Own H (.s 12 (ExpD.tvA as')) w j) (hn:(i++j).Nodup) (h0:0≤k) (hk:k≤1000000) :
  ACall Tryz.prog 11 [.st [iV ek,sV n,iV u,sV x,iV p,v,w],iV k] H (fun r H'=>r=iV (k+mcR (ExpD.tvL ks)+mcR (ExpD.tvA as'))∧Mkd ks as' k v w i j H'∧∀ (q:Nat) o,H[q]?=some o→q ∉ i++j→H'[q]?=some o):=by
 obtain ⟨n5,n6,n56⟩:=List.nodup_append.1 hn
 have l5:=own_ltI o5
 have l6:=own_ltI o6
 have e5:=lenE ks
 have e6:=lenA as'
 refine call11 (by simp) ?_
 simp only [go_sem,reduceIte,↓reduceIte,sevalprocAttr,Z0,Z1,bytesOf,mc11,mr11]
 refine (((markExpR _).1 ks (Nat.lt_succ_self _) (by omega)).1 _ v i k (o5.keep fun i _ o h=>get_ext h _) n5 h0 (by omega) (by omega)).mono ?_
 rintro _ H2 ⟨rfl,hl2,ho2,hf2⟩
 have hk1:∀ (q:Nat) o,(H++[AO.var [iV ek,sV n,iV u,sV x,iV p,v,w]])[q]?=some o→q ∉ i→H2[q]?=some o:=fun q o hi hni=>(hf2 q hni).trans hi
 have hv:H2[H.length]?=some (AO.var [iV ek,sV n,iV u,sV x,iV p,v,w]):=hk1 _ _ (get_off0 _ _) (fun h=>by have:=l5 _ h; omega)
 simp only [go_sem,reduceIte,↓reduceIte,sevalprocAttr,Z0,Z1,bytesOf,hv]
 refine (((markExpR _).2 as' (Nat.lt_succ_self _) (by omega)).1 H2 w j _ (o6.keep fun q hi o h=>hk1 q o (get_ext h _) (fun h5=>n56 q h5 q hi rfl)) n6 (by omega) (by omega) (by omega)).mono ?_
 rintro _ H3 ⟨rfl,hl3,ho3,hf3⟩
 simp only [go_sem,reduceIte,↓reduceIte,sevalprocAttr,Z0,Z1,bytesOf]
 refine ⟨⟨ho2.keep fun q hq o h=>(hf3 q fun h6=>n56 q hq q h6 rfl).trans h,ho3⟩,fun q o hi hni=>?_⟩
 simp only [List.mem_append,not_or] at hni
 exact (hf3 q hni.2).trans (hk1 q o (get_ext hi _) hni.1)
theorem heldExpN (hb:mcR (ExpD.tvL ks)+mcR (ExpD.tvA as')≤1048576) (hM:Mkd ks as' k v w i j H) (h0:0≤k) (hk:k≤1000000) :
  ACall Tryz.prog 12 [.st [iV ek,sV n,iV u,sV x,iV p,v,w],iV k] H (fun r H'=>r=iV (k+mcR (ExpD.tvL ks)+mcR (ExpD.tvA as'))∧∃ G,H'=H++G):=by
 have e5:=lenE ks
 have e6:=lenA as'
 have d5:decide (k+(mcR (ExpD.tvL ks):Int)<0)=false:=decide_eq_false (by omega)
 have d6:decide (k+(mcR (ExpD.tvL ks):Int)+(mcR (ExpD.tvA as'):Int)<0)=false:=decide_eq_false (by omega)
 refine call12 (by simp) ?_
 simp only [go_sem,reduceIte,↓reduceIte,sevalprocAttr,Z0,Z1,bytesOf,gx0,gxk,sx0,sxk,mc12,mr12]
 refine acall_pure (((markExpR _).1 ks (Nat.lt_succ_self _) (by omega)).2 _ v i k (hM.1.keep fun i _ o h=>get_ext h _) h0 (by omega) (by omega)) ?_
 simp only [go_sem,reduceIte,↓reduceIte,sevalprocAttr,Z0,Z1,bytesOf,gx0,gxk,sx0,sxk,d5]
 refine acall_pure (((markExpR _).2 as' (Nat.lt_succ_self _) (by omega)).2 _ w j _ (hM.2.keep fun i _ o h=>get_ext h _) (by omega) (by omega) (by omega)) ?_
 simp only [go_sem,reduceIte,↓reduceIte,sevalprocAttr,Z0,Z1,bytesOf,gx0,gxk,sx0,sxk,d6]
 exact ⟨_,rfl⟩
end
end Go.Proofs.YtghcmccjchdgeaaGreatDoor.Pg
/- Marks of a parsed program, written and found again. -/
set_option linter.all false
namespace Go.Proofs.YtghcmccjchdgeaaGreatDoor.Pg
open Go.AM Mc Qp
theorem tvL_memT {l:List TyE} {r:List TV} (h:r∈TyE.tvL l):∃ t∈l,r=t.tv:=by rw [TyE.tvL_eq] at h; obtain ⟨t,h1,rfl⟩:=List.mem_map.1 h; exact ⟨t,h1,rfl⟩
theorem lenT (l:List TyE):(TyE.tvL l).length≤mcR (TyE.tvL l):=mcR_len fun r hr=>by
 obtain ⟨⟨k,n,p,ks⟩,_,rfl⟩:=tvL_memT hr
 rw [mc_ty]; omega
theorem lenC (l:List CtorD):(l.map CtorD.tv).length≤mcR (l.map CtorD.tv):=mcR_len fun r hr=>by
 obtain ⟨⟨n,h,t,p⟩,_,rfl⟩:=List.mem_map.1 hr
 rw [mc_ctor]; omega
theorem lenD (l:List DataD):(l.map DataD.tv).length≤mcR (l.map DataD.tv):=mcR_len fun r hr=>by
 obtain ⟨⟨n,vs,cs,p⟩,_,rfl⟩:=List.mem_map.1 hr
 rw [mc_data]; omega
theorem markTyR : ∀ (m : Nat) (l : List TyE), mcR (TyE.tvL l) < m → mcR (TyE.tvL l) ≤ 1048576 → MarkC Tryz.prog 118 4 (TyE.tvL l) ∧ HeldC Tryz.prog 119 4 (TyE.tvL l) := by
  intro m
  induction m with
  | zero => intro l h; omega
  | succ m ih =>
    intro l h hb
    have key : ∀ r ∈ TyE.tvL l, ∃ (v0 : Int) (v1 : List UInt8) (v2 : Int) (ks : List TyE), r = ([.p (.i .i64 v0), .p (.s v1), .p (.i .i64 v2), .s 4 (TyE.tvL ks)] : List TV) ∧ (MarkC Tryz.prog 118 4 (TyE.tvL ks) ∧ HeldC Tryz.prog 119 4 (TyE.tvL ks)) ∧ (TyE.tvL ks).length ≤ 1048576 := fun r hr => by
      have hm := mcR_mem hr
      obtain ⟨⟨k, n, p, ks⟩, ht, rfl⟩ := tvL_memT hr
      rw [TyE.tv] at hm
      simp only [mcC, mcT] at hm
      have := lenT ks
      exact ⟨k, n, p, ks, by rw [TyE.tv], ih ks (by omega) (by omega), by omega⟩
    exact ⟨mark_TypeExpS fun r hr => by obtain ⟨k, n, p, ks, e, h1, h2⟩ := key r hr; exact ⟨k, n, p, _, e, h1.1, h2⟩, held_TypeExpS fun r hr => by obtain ⟨k, n, p, ks, e, h1, h2⟩ := key r hr; exact ⟨k, n, p, _, e, h1.2, h2⟩⟩
theorem markCtorsR {l:List CtorD} (hb:mcR (l.map CtorD.tv)≤1048576):MarkC Tryz.prog 76 7 (l.map CtorD.tv)∧HeldC Tryz.prog 78 7 (l.map CtorD.tv):=by
 have key:∀ r∈l.map CtorD.tv,∃ (v0:List UInt8) (v1:Bool) (v2:Int) (v3:List UInt8) (v4:Int) (ks:List TyE) (v6:Int),r=([.p (.s v0),.p (.b v1),.p (.i .i64 v2),.p (.s v3),.p (.i .i64 v4),.s 4 (TyE.tvL ks),.p (.i .i64 v6)]:List TV)∧(MarkC Tryz.prog 118 4 (TyE.tvL ks)∧HeldC Tryz.prog 119 4 (TyE.tvL ks))∧(TyE.tvL ks).length≤1048576:=fun r hr=>by
  have hm:=mcR_mem hr
  obtain ⟨⟨n,h,⟨k,m,p,ks⟩,q⟩,ht,rfl⟩:=List.mem_map.1 hr
  rw [CtorD.tv,TyE.tv] at hm
  simp only [mcC,mcT,List.cons_append,List.nil_append] at hm
  have:=lenT ks
  exact ⟨n,h,k,m,p,ks,q,by rw [CtorD.tv,TyE.tv]; rfl,markTyR _ ks (Nat.lt_succ_self _) (by omega),by omega⟩
 exact ⟨mark_CtorS fun r hr=>by obtain ⟨n,h,k,m,p,ks,q,e,h1,h2⟩:=key r hr; exact ⟨n,h,k,m,p,_,q,e,h1.1,h2⟩,held_CtorS fun r hr=>by obtain ⟨n,h,k,m,p,ks,q,e,h1,h2⟩:=key r hr; exact ⟨n,h,k,m,p,_,q,e,h1.2,h2⟩⟩
theorem markNamesR (l:List (List UInt8)):MarkC Tryz.prog 75 1 (namesTV l)∧HeldC Tryz.prog 77 1 (namesTV l) :=
 ⟨markStringS l,held_StringS fun r hr=>by unfold namesTV at hr; obtain ⟨t,_,rfl⟩:=List.mem_map.1 hr; exact ⟨t,rfl⟩⟩
theorem markDatasR {l:List DataD} (hb:mcR (l.map DataD.tv)≤1048576):MarkC Tryz.prog 41 4 (l.map DataD.tv)∧HeldC Tryz.prog 42 4 (l.map DataD.tv):=by
 have key:∀ r∈l.map DataD.tv,∃ (v0:List UInt8) (vs:List (List UInt8)) (cs:List CtorD) (v3:Int),r=([.p (.s v0),.s 1 (namesTV vs),.s 7 (cs.map CtorD.tv),.p (.i .i64 v3)]:List TV)∧(namesTV vs).length≤1048576∧mcR (cs.map CtorD.tv)≤1048576∧(cs.map CtorD.tv).length≤1048576:=fun r hr=>by
  have hm:=mcR_mem hr
  obtain ⟨⟨n,vs,cs,p⟩,ht,rfl⟩:=List.mem_map.1 hr
  rw [mc_data] at hm
  have:=lenC cs
  exact ⟨n,vs,cs,p,rfl,by unfold namesTV; rw [List.length_map]; omega,by omega,by omega⟩
 exact ⟨mark_DataS fun r hr=>by obtain ⟨n,vs,cs,p,e,h1,h2,h3⟩:=key r hr; exact ⟨n,_,_,p,e,⟨(markNamesR vs).1,h1⟩,(markCtorsR h2).1,h3⟩,held_DataS fun r hr=>by obtain ⟨n,vs,cs,p,e,h1,h2,h3⟩:=key r hr; exact ⟨n,_,_,p,e,⟨(markNamesR vs).2,h1⟩,(markCtorsR h2).2,h3⟩⟩
section
variable {ds:List DataD} {ek u p:Int} {n x:List UInt8} {ks:List ExpD} {as':List ArmD} {v0 v w:AV} {i0 i j:List Nat} {H:List AO} {k:Int}
theorem markProgN (hb:mcR (ds.map DataD.tv)+(mcR (ExpD.tvL ks)+mcR (ExpD.tvA as'))≤1048576) (o0:Own H (.s 4 (ds.map DataD.tv)) v0 i0) (o5:Own H (.s 7 (ExpD.tvL ks)) v i) (o6:Own H (.s 12 (ExpD.tvA as')) w j) (hn:(i0++(i++j)).Nodup) (h0:0≤k) (hk:k+mcR (ds.map DataD.tv)≤1000000) :
  ACall Tryz.prog 16 [.st [v0,iV ek,sV n,iV u,sV x,iV p,v,w],iV k] H (fun r H'=>r=iV (k+mcR (ds.map DataD.tv)+mcR (ExpD.tvL ks)+mcR (ExpD.tvA as'))∧Own H' (.s 4 (mkR (ds.map DataD.tv) k).1) v0 i0∧Mkd ks as' (k+mcR (ds.map DataD.tv)) v w i j H'∧∀ (q:Nat) o,H[q]?=some o→q ∉ i0++(i++j)→H'[q]?=some o):=by
 obtain ⟨n0,ne,n0e⟩:=List.nodup_append.1 hn
 have l0:=own_ltI o0
 have e0:=lenD ds
 refine call16 (by simp) ?_
 simp only [go_sem,reduceIte,↓reduceIte,sevalprocAttr,Z0,Z1,bytesOf,mc16,mr16]
 refine ((markDatasR (l:=ds) (by omega)).1 _ v0 i0 k (o0.keep fun i _ o h=>get_ext h _) n0 h0 (by omega) (by omega)).mono ?_
 rintro _ H2 ⟨rfl,hl2,ho2,hf2⟩
 have hk1:∀ (q:Nat) o,(H++[AO.var [v0,iV ek,sV n,iV u,sV x,iV p,v,w]])[q]?=some o→q ∉ i0→H2[q]?=some o:=fun q o hi hni=>(hf2 q hni).trans hi
 have hv:H2[H.length]?=some (AO.var [v0,iV ek,sV n,iV u,sV x,iV p,v,w]):=hk1 _ _ (get_off0 _ _) (fun h=>by have:=l0 _ h; omega)
 simp only [go_sem,reduceIte,↓reduceIte,sevalprocAttr,Z0,Z1,bytesOf,hv]
 refine (markExpN (k:=k+mcR (ds.map DataD.tv)) (by omega) (o5.keep fun q hi o h=>hk1 q o (get_ext h _) (fun h5=>n0e q h5 q (by simp [hi]) rfl)) (o6.keep fun q hi o h=>hk1 q o (get_ext h _) (fun h5=>n0e q h5 q (by simp [hi]) rfl)) ne (by omega) (by omega)).mono ?_
 rintro _ H3 ⟨rfl,hM,hf3⟩
 simp only [go_sem,reduceIte,↓reduceIte,sevalprocAttr,Z0,Z1,bytesOf]
 refine ⟨ho2.keep fun q hq o h=>hf3 q o h fun h6=>n0e q hq q h6 rfl,hM,fun q o hi hni=>?_⟩
 simp only [List.mem_append,not_or] at hni
 exact hf3 q o (hk1 q o (get_ext hi _) hni.1) (by simp only [List.mem_append,not_or]; exact hni.2)
theorem heldProgN (hb:mcR (ds.map DataD.tv)+(mcR (ExpD.tvL ks)+mcR (ExpD.tvA as'))≤1048576) (h0':Own H (.s 4 (mkR (ds.map DataD.tv) k).1) v0 i0) (hM:Mkd ks as' (k+mcR (ds.map DataD.tv)) v w i j H) (h0:0≤k) (hk:k+mcR (ds.map DataD.tv)≤1000000) :
  ACall Tryz.prog 17 [.st [v0,iV ek,sV n,iV u,sV x,iV p,v,w],iV k] H (fun r H'=>r=iV (k+mcR (ds.map DataD.tv)+mcR (ExpD.tvL ks)+mcR (ExpD.tvA as'))∧∃ G,H'=H++G):=by
 have e0:=lenD ds
 have d5:decide (k+(mcR (ds.map DataD.tv):Int)<0)=false:=decide_eq_false (by omega)
 have d6:decide (k+(mcR (ds.map DataD.tv):Int)+(mcR (ExpD.tvL ks):Int)+(mcR (ExpD.tvA as'):Int)<0)=false:=decide_eq_false (by omega)
 refine call17 (by simp) ?_
 simp only [go_sem,reduceIte,↓reduceIte,sevalprocAttr,Z0,Z1,bytesOf,gx0,gxk,sx0,sxk,mc17,mr17]
 refine acall_pure ((markDatasR (l:=ds) (by omega)).2 _ v0 i0 k (h0'.keep fun i _ o h=>get_ext h _) h0 (by omega) (by omega)) ?_
 simp only [go_sem,reduceIte,↓reduceIte,sevalprocAttr,Z0,Z1,bytesOf,gx0,gxk,sx0,sxk,d5]
 refine (heldExpN (k:=k+mcR (ds.map DataD.tv)) (by omega) (hM.keep fun i _ o h=>get_ext h _) (by omega) (by omega)).mono ?_
 rintro _ _ ⟨rfl,G,rfl⟩
 simp only [go_sem,reduceIte,↓reduceIte,sevalprocAttr,Z0,Z1,bytesOf,gx0,gxk,sx0,sxk,d6]
 exact ⟨_,rfl⟩
end
end Go.Proofs.YtghcmccjchdgeaaGreatDoor.Pg
/- ParseExp: the law on the abstract machine. -/
set_option linter.all false
namespace Go.Proofs.YtghcmccjchdgeaaGreatDoor.Pg
open Go.AM Mc Qp
mutual
theorem pvPat (t:PatD):TV.pvC t.tv=t.cells:=by
 match t with
 | .mk k n u p ks=>rw [PatD.tv,PatD.cells]; simp only [TV.pvC,TV.pv,pvPatL ks]
theorem pvPatL (l:List PatD):TV.pvR (PatD.tvL l)=PatD.cellsL l:=by
 match l with
 | []=>rw [PatD.tvL,TV.pvR,PatD.cellsL]
 | t :: l=>rw [PatD.tvL,TV.pvR,PatD.cellsL,pvPat t,pvPatL l]
end
theorem pvC_app (a b:List TV):TV.pvC (a++b)=TV.pvC a++TV.pvC b:=by
 induction a with
 | nil=>rw [TV.pvC]; rfl
 | cons t a ih=>rw [List.cons_append,TV.pvC,TV.pvC,ih]; rfl
mutual
theorem pvExp (t:ExpD):TV.pvC t.tv=t.cells:=by
 match t with
 | .mk k n u x p ks as'=>rw [ExpD.tv,ExpD.cells]; simp only [TV.pvC,TV.pv,pvExpL ks,pvExpA as']
theorem pvExpL (l:List ExpD):TV.pvR (ExpD.tvL l)=ExpD.cellsL l:=by
 match l with
 | []=>rw [ExpD.tvL,TV.pvR,ExpD.cellsL]
 | t :: l=>rw [ExpD.tvL,TV.pvR,ExpD.cellsL,pvExp t,pvExpL l]
theorem pvArm (t:ArmD):TV.pvC t.tv=t.cells:=by
 match t with
 | .mk p e=>rw [ArmD.tv,ArmD.cells,pvC_app,pvPat,pvExp e]
theorem pvExpA (l:List ArmD):TV.pvR (ExpD.tvA l)=ExpD.cellsA l:=by
 match l with
 | []=>rw [ExpD.tvA,TV.pvR,ExpD.cellsA]
 | t :: l=>rw [ExpD.tvA,TV.pvR,ExpD.cellsA,pvArm t,pvExpA l]
end
theorem lentExp {e:ExpD} {H:List AO} {cs:List AV} {ids:List Nat} (h:OwnCs H e.tv cs ids):Lent H (.st cs) (av e.cells):=by
 have h1:=OwnCs.lentC h
 have hlen:=h.len
 rw [pvExp] at h1
 refine .st _ _ (by rw [hlen,ExpD.tv_len,List.length_map,ExpD.cells_len]) fun j c q hc hq=>?_
 rw [List.getElem?_map] at hq
 cases hx:e.cells[j]? with
 | none=>rw [hx] at hq; cases hq
 | some x=>rw [hx] at hq; cases hq; exact h1 j c x hc hx
theorem acall_lendP {f:Nat} {xs bs:List AV} {H:List AO} {r:AV} (h:∀ H,ACall Tryz.prog f bs H (pureQ r H)) (hg:Grnd r) (hl:LentAll H xs bs):ACall Tryz.prog f xs H (pureQ r H):=by
 refine (acall_lend (h []) (by rintro r' H' ⟨rfl,_⟩; exact hg) hl).mono ?_
 rintro r' H' ⟨rfl,H0,rfl,_⟩
 exact ⟨rfl,rfl⟩
theorem lent_av {H:List AO} (l:List PV):Lent H (av l) (av l):=.st _ _ rfl fun j c q hc hq=>by
 rw [hc] at hq; cases hq
 rw [List.getElem?_map] at hc
 cases hx:l[j]? with
 | none=>rw [hx] at hc; cases hc
 | some x=>rw [hx] at hc; cases hc; exact .pure _
theorem own_split {Y:List AO} {k u p:Int} {n t:List UInt8} {ks:List ExpD} {as':List ArmD} {v w:AV} {ids:List Nat} (h:OwnCs Y (ExpD.tv (.mk k n u t p ks as')) [iV k,sV n,iV u,sV t,iV p,v,w] ids):∃ i j,ids=i++j∧Own Y (.s 7 (ExpD.tvL ks)) v i∧Own Y (.s 12 (ExpD.tvA as')) w j:=by
 rw [ExpD.tv] at h
 simp only [OwnCs] at h
 obtain ⟨_,_,_,_,e0,rfl,h0,_,_,_,_,e1,rfl,h1,_,_,_,_,e2,rfl,h2,_,_,_,_,e3,rfl,h3,_,_,_,_,e4,rfl,h4,_,_,_,_,e5,rfl,h5,_,_,_,_,e6,rfl,h6,e7,rfl⟩:=h
 cases e0; cases e1; cases e2; cases e3; cases e4; cases e5; cases e6
 rw [Own] at h0 h1 h2 h3 h4
 obtain ⟨_,rfl⟩:=h0
 obtain ⟨_,rfl⟩:=h1
 obtain ⟨_,rfl⟩:=h2
 obtain ⟨_,rfl⟩:=h3
 obtain ⟨_,rfl⟩:=h4
 exact ⟨_,_,by simp,h5,h6⟩
theorem eqFaultC (c q:Int) (H:List AO):ACall Tryz.prog 10 [ftC c q,ftC c q] H (pureQ (.p (.b true)) H):=by
 refine acall_drop1 ?_ (tf_p _)
 refine call10 (by simp) ?_
 simp only [go_sem,reduceIte,↓reduceIte,sevalprocAttr,Z0,Z1,bytesOf,mc10,mr10,decide_true,Bool.not_true,Bool.and_self]
 exact ⟨_,rfl⟩
theorem parsed1_mc (s:List UInt8):mcC (parsed1 s).1.tv≤1048576:=by
 unfold parsed1
 rcases hl:lexD s with T | ⟨c,i⟩
 ·obtain ⟨hT,hTl⟩:=lexD_ok hl
  simp only
  rw [told_e]
  split
  ·rename_i h0
   split at h0
   ·rename_i hc
    have hb:Bx T (oneP T (iExp T T.length 40 41 1)) phE:=bx_bind (bx_exp hT 41 1 (by omega) (by omega)) fun a=>bx_end (bx_ret (by omega))
    have h1:=hb.le ⟨0,0,0,0,0⟩ hT.pos hc
    have h2:=(hb.st ⟨0,0,0,0,0⟩ hT.pos).2.1
    cases h0
    simp only [phE] at h1
    simp only
    omega
   ·cases h0
  ·show mcC exp0.tv≤_
   rw [exp0,mc_exp]; simp [mcR]
 ·show mcC exp0.tv≤_
  rw [exp0,mc_exp]; simp [mcR]
theorem lawParseExp (s:List UInt8) {H:List AO} (hg:Rg H):ACall Tryz.prog 3 [.p (.s s)] H (fun r _=>r=.p (.b true)):=by
 have hb0:=parsed1_mc s
 have hS:=fun (X:List AO) (h:s.length≤1048576)=>specParse1 (s:=s) (H:=X) h
 have hI:=fun (X:List AO) (h:s.length≤1048576) (hr:Rg X)=>implParse1 (s:=s) (H:=X) h hr
 generalize parsed1 s=R at *
 obtain ⟨⟨k,n,u,t,p,ks,as'⟩,c,q⟩:=R
 have hE:=eqExpA _ (.mk k n u t p ks as') (Nat.lt_succ_self _)
 simp only at hb0 hS hI
 rw [ExpD.tv] at hb0
 simp only [mcC,mcT] at hb0
 have hbM:mcR (ExpD.tvL ks)+mcR (ExpD.tvA as')≤1048576:=by omega
 refine call3 (by simp) ?_
 by_cases hs:s.length≤1048576
 rotate_left
 ·have d1:decide ((1048576:Int)<(s.length:Int))=true:=by simp; omega
  simp only [go_sem,reduceIte,↓reduceIte,sevalprocAttr,Z0,Z1,bytesOf,gx0,gxk,sx0,sxk,mc3,mr3,d1]
  intro _
  trivial
 have d1:decide ((1048576:Int)<(s.length:Int))=false:=by simp; omega
 simp only [go_sem,reduceIte,↓reduceIte,sevalprocAttr,Z0,Z1,bytesOf,gx0,gxk,sx0,sxk,mc3,mr3,d1]
 intro _
 refine acall_pure (hS _ hs) ?_
 simp only [go_sem,reduceIte,↓reduceIte,sevalprocAttr,Z0,Z1,bytesOf,gx0,gxk,sx0,sxk,ExpD.cells]
 refine (hI _ hs (hg.ext _)).mono ?_
 rintro r X2 ⟨cs,G,rfl,rfl,ids,o1,o2,o3,o4⟩
 obtain ⟨v,w,rfl⟩:=Env.expC (ts:=[]) (ds:=[]) (b:=0) (u:=(H++[AO.var [iV k,sV n,iV u,sV t,iV p,.p (.l (ExpD.cellsL ks)),.p (.l (ExpD.cellsA as'))],.var [iV c,iV q]]++G).length) (cs:=cs) ⟨ids,o1,o2,o3,fun i hi=>⟨Nat.zero_le _,(o4 i hi).2⟩⟩ rfl
 have ge:∀ i∈ids,H.length+2≤i:=fun i hi=>by have:=(o4 i hi).1; simp at this; omega
 have z3:(H++[AO.var [iV k,sV n,iV u,sV t,iV p,.p (.l (ExpD.cellsL ks)),.p (.l (ExpD.cellsA as'))],.var [iV c,iV q]]++G)[H.length]?=some (.var [iV k,sV n,iV u,sV t,iV p,.p (.l (ExpD.cellsL ks)),.p (.l (ExpD.cellsA as'))]):=get_ext (by rw [gx0]; rfl) G
 have z4:(H++[AO.var [iV k,sV n,iV u,sV t,iV p,.p (.l (ExpD.cellsL ks)),.p (.l (ExpD.cellsA as'))],.var [iV c,iV q]]++G)[H.length+1]?=some (.var [iV c,iV q]):=get_ext (by rw [gxk]; rfl) G
 have hg2:∀ A,Rg (H++[AO.var [iV k,sV n,iV u,sV t,iV p,.p (.l (ExpD.cellsL ks)),.p (.l (ExpD.cellsA as'))],.var [iV c,iV q]]++G++A):=fun A=>((hg.ext _).ext _).ext _
 obtain ⟨gi,te,pe,hgi⟩:=hg
 have hgl:=get_lt hgi
 have hgY:=get_ext (get_ext hgi [AO.var [iV k,sV n,iV u,sV t,iV p,.p (.l (ExpD.cellsL ks)),.p (.l (ExpD.cellsA as'))],.var [iV c,iV q]]) G
 generalize hY:H++[AO.var [iV k,sV n,iV u,sV t,iV p,.p (.l (ExpD.cellsL ks)),.p (.l (ExpD.cellsA as'))],.var [iV c,iV q]]++G=Y at *
 have z3':∀ A,(Y++A)[H.length]?=_:=fun A=>get_ext z3 A
 have z4':∀ A,(Y++A)[H.length+1]?=_:=fun A=>get_ext z4 A
 have hlt:=get_lt z4
 simp only [go_sem,reduceIte,↓reduceIte,sevalprocAttr,Z0,Z1,bytesOf,gx0,gxk,sx0,sxk,z3']
 have hlent:∀ A,Lent (Y++A) (.st [iV k,sV n,iV u,sV t,iV p,v,w]) (av (ExpD.cells (.mk k n u t p ks as'))):=fun A=>lentExp (o1.keep fun i _ o h=>get_ext h A)
 refine acall_pure (acall_lendP hE (grnd_b _) (lentAll_cons (hlent _) (lentAll_cons (lent_av (H:=_) (ExpD.cells (.mk k n u t p ks as'))) (lentAll_nil _)))) ?_
 simp only [go_sem,reduceIte,↓reduceIte,sevalprocAttr,Z0,Z1,bytesOf,gx0,gxk,sx0,sxk,z4',Bool.not_true,Bool.not_false]
 refine acall_pure (eqFaultC c q _) ?_
 simp only [go_sem,reduceIte,↓reduceIte,sevalprocAttr,Z0,Z1,bytesOf,gx0,gxk,sx0,sxk,Bool.not_true,Bool.not_false]
 obtain ⟨i5,i6,rfl,p5,p6⟩:=own_split o1
 refine (markExpN hbM (p5.keep fun i _ o h=>get_ext h _) (p6.keep fun i _ o h=>get_ext h _) o2 (by omega) (by omega)).mono ?_
 rintro _ Z ⟨rfl,hM,hf⟩
 have hlow:∀ (i:Nat) (o:AO),i<H.length+2→Y[i]?=some o→Z[i]?=some o:=fun i o hi ho=>hf i o (get_ext ho _) fun hm=>by have:=ge i hm; omega
 have x3:=hlow _ _ (by omega) z3
 have x4:=hlow _ _ (by omega) z4
 have xg:=hlow _ _ (by omega) hgY
 have x5:Z[Y.length]?=some (.var [iV k,sV n,iV u,sV t,iV p,v,w]):=hf _ _ (by rw [gx0]; rfl) fun hm=>by have:=(o4 _ hm).2; omega
 have dq:decide ((1:Int)+mcR (ExpD.tvL ks)+mcR (ExpD.tvA as')<0)=false:=decide_eq_false (by omega)
 simp only [go_sem,reduceIte,↓reduceIte,sevalprocAttr,Z0,Z1,bytesOf,gx0,gxk,sx0,sxk,x5]
 refine (heldExpN hbM hM (by omega) (by omega)).mono ?_
 rintro _ _ ⟨rfl,G2,rfl⟩
 simp only [go_sem,reduceIte,↓reduceIte,sevalprocAttr,Z0,Z1,bytesOf,gx0,gxk,sx0,sxk,dq,decide_true,Bool.not_true,Bool.not_false]
 refine (hI _ hs ⟨gi,te,pe,get_ext xg _⟩).mono ?_
 rintro r _ ⟨cs,G3,rfl,rfl,hE3⟩
 obtain ⟨v2,w2,rfl⟩:=Env.expC (ts:=[]) (ds:=[]) (cs:=cs) hE3 rfl
 obtain ⟨ids3,o13,_⟩:=hE3
 have y3:∀ A,(Z++G2++G3++A)[H.length]?=_:=fun A=>get_ext (get_ext (get_ext x3 _) _) A
 have y4:∀ A,(Z++G2++G3++A)[H.length+1]?=_:=fun A=>get_ext (get_ext (get_ext x4 _) _) A
 have y5:∀ A,(Z++G2++G3++A)[Y.length]?=_:=fun A=>get_ext (get_ext (get_ext x5 _) _) A
 have hM3:=fun A=>hM.keep (H':=Z++G2++G3++A) fun i _ o h=>get_ext (get_ext (get_ext h _) _) A
 have hlent3:∀ A,Lent (Z++G2++G3++A) (.st [iV k,sV n,iV u,sV t,iV p,v2,w2]) (av (ExpD.cells (.mk k n u t p ks as'))):=fun A=>lentExp (o13.keep fun i _ o h=>get_ext h A)
 generalize Z++G2++G3=Z3 at *
 simp only [go_sem,reduceIte,↓reduceIte,sevalprocAttr,Z0,Z1,bytesOf,gx0,gxk,sx0,sxk,y3]
 refine acall_pure (acall_lendP hE (grnd_b _) (lentAll_cons (hlent3 _) (lentAll_cons (lent_av (H:=_) (ExpD.cells (.mk k n u t p ks as'))) (lentAll_nil _)))) ?_
 simp only [go_sem,reduceIte,↓reduceIte,sevalprocAttr,Z0,Z1,bytesOf,gx0,gxk,sx0,sxk,y4,Bool.not_true,Bool.not_false]
 refine acall_pure (eqFaultC c q _) ?_
 simp only [go_sem,reduceIte,↓reduceIte,sevalprocAttr,Z0,Z1,bytesOf,gx0,gxk,sx0,sxk,Bool.not_true,Bool.not_false,y5]
 refine (heldExpN hbM (hM3 _) (by omega) (by omega)).mono ?_
 rintro _ _ ⟨rfl,G4,rfl⟩
 simp only [go_sem,reduceIte,↓reduceIte,sevalprocAttr,Z0,Z1,bytesOf,gx0,gxk,sx0,sxk,dq,decide_true,Bool.not_true,Bool.not_false]
end Go.Proofs.YtghcmccjchdgeaaGreatDoor.Pg
/- Parse: the law on the abstract machine. -/
set_option linter.all false
namespace Go.Proofs.YtghcmccjchdgeaaGreatDoor.Pg
open Go.AM Mc Qp
mutual
theorem pvTyE (t:TyE):TV.pvC t.tv=t.cells:=by
 match t with
 | .mk k n p ks=>rw [TyE.tv,TyE.cells]; simp only [TV.pvC,TV.pv,pvTyL ks]
theorem pvTyL (l:List TyE):TV.pvR (TyE.tvL l)=TyE.cellsL l:=by
 match l with
 | []=>rw [TyE.tvL,TV.pvR,TyE.cellsL]
 | t :: l=>rw [TyE.tvL,TV.pvR,TyE.cellsL,pvTyE t,pvTyL l]
end
theorem pvNames (l:List (List UInt8)):TV.pvR (namesTV l)=namesC l:=by
 unfold namesTV namesC
 induction l with
 | nil=>rfl
 | cons s l ih=>rw [List.map_cons,TV.pvR,ih]; simp only [TV.pvC,TV.pv]; rfl
theorem pvCtors (l:List CtorD):TV.pvR (l.map CtorD.tv)=l.map CtorD.cells:=by
 induction l with
 | nil=>rfl
 | cons c l ih=>rw [List.map_cons,TV.pvR,ih,CtorD.tv,pvC_app,pvC_app,pvTyE]; simp only [TV.pvC,TV.pv]; rfl
theorem pvDataL (l:List DataD):TV.pvR (l.map DataD.tv)=l.map DataD.cells:=by
 induction l with
 | nil=>rfl
 | cons d l ih=>rw [List.map_cons,TV.pvR,ih]; simp only [DataD.tv,TV.pvC,TV.pv,pvNames,pvCtors]; rfl
theorem pvProg (g:ProgD):TV.pvC g.tv=g.cells:=by
 rw [ProgD.tv,TV.pvC,TV.pv,pvDataL,pvExp]; rfl
theorem ProgD.cells_len (g:ProgD):g.cells.length=8:=by unfold ProgD.cells; rw [List.length_cons,ExpD.cells_len]
theorem lentProg {e:ProgD} {H:List AO} {cs:List AV} {ids:List Nat} (h:OwnCs H e.tv cs ids):Lent H (.st cs) (av e.cells):=by
 have h1:=OwnCs.lentC h
 have hlen:=h.len
 rw [pvProg] at h1
 refine .st _ _ (by rw [hlen,ProgD.tv_len,List.length_map,ProgD.cells_len]) fun j c q hc hq=>?_
 rw [List.getElem?_map] at hq
 cases hx:e.cells[j]? with
 | none=>rw [hx] at hq; cases hq
 | some x=>rw [hx] at hq; cases hq; exact h1 j c x hc hx
theorem own_splitP {Y:List AO} {ds:List DataD} {k u p:Int} {n t:List UInt8} {ks:List ExpD} {as':List ArmD} {v0 v w:AV} {ids:List Nat} (h:OwnCs Y (ProgD.tv ⟨ds,.mk k n u t p ks as'⟩) [v0,iV k,sV n,iV u,sV t,iV p,v,w] ids):∃ i0 i j,ids=i0++(i++j)∧Own Y (.s 4 (ds.map DataD.tv)) v0 i0∧Own Y (.s 7 (ExpD.tvL ks)) v i∧Own Y (.s 12 (ExpD.tvA as')) w j:=by
 rw [ProgD.tv] at h
 simp only at h
 rw [OwnCs] at h
 obtain ⟨_,_,i0,_,e0,rfl,h0,h1⟩:=h
 cases e0
 obtain ⟨i,j,rfl,h2,h3⟩:=own_split h1
 exact ⟨i0,i,j,rfl,h0,h2,h3⟩
theorem parsedP_mc (s:List UInt8):mcC (parsedP s).1.tv≤100000:=by
 have h0:mcC prog0.tv≤100000:=by rw [prog0,mc_prog,exp0,mc_exp]; simp [mcR]
 unfold parsedP
 rcases hl:lexD s with T | ⟨c,i⟩
 ·obtain ⟨hT,hTl⟩:=lexD_ok hl
  simp only
  rw [told_e]
  split
  ·rename_i h0
   split at h0
   ·rename_i hc
    have hb:=bx_prog (N:=T.length) hT (bx_ty (N:=T.length) (most:=40) hT 41 1 (by omega) (by omega)) (bx_exp (N:=T.length) (most:=40) hT 41 1 (by omega) (by omega))
    have h1:=hb.le ⟨0,0,0,0,0⟩ hT.pos hc
    have h2:=(hb.st ⟨0,0,0,0,0⟩ hT.pos).2.1
    cases h0
    simp only
    omega
   ·cases h0
  ·exact h0
 ·exact h0
theorem lawParse (s:List UInt8) {H:List AO} (hg:Rg H):ACall Tryz.prog 4 [.p (.s s)] H (fun r _=>r=.p (.b true)):=by
 have hb0:=parsedP_mc s
 have hS:=fun (X:List AO) (h:s.length≤1048576)=>specParse (s:=s) (H:=X) h
 have hI:=fun (X:List AO) (h:s.length≤1048576) (hr:Rg X)=>implParse (s:=s) (H:=X) h hr
 generalize parsedP s=R at *
 obtain ⟨⟨ds,⟨k,n,u,t,p,ks,as'⟩⟩,c,q⟩:=R
 have hE:=eqProgC ⟨ds,.mk k n u t p ks as'⟩
 simp only at hb0 hS hI
 rw [mc_prog,ExpD.tv] at hb0
 simp only [mcC,mcT] at hb0
 have hbM:mcR (ds.map DataD.tv)+(mcR (ExpD.tvL ks)+mcR (ExpD.tvA as'))≤1048576:=by omega
 refine call4 (by simp) ?_
 by_cases hs:s.length≤1048576
 rotate_left
 ·have d1:decide ((1048576:Int)<(s.length:Int))=true:=by simp; omega
  simp only [go_sem,reduceIte,↓reduceIte,sevalprocAttr,Z0,Z1,bytesOf,gx0,gxk,sx0,sxk,mc4,mr4,d1]
  intro _
  trivial
 have d1:decide ((1048576:Int)<(s.length:Int))=false:=by simp; omega
 simp only [go_sem,reduceIte,↓reduceIte,sevalprocAttr,Z0,Z1,bytesOf,gx0,gxk,sx0,sxk,mc4,mr4,d1]
 intro _
 refine acall_pure (hS _ hs) ?_
 simp only [go_sem,reduceIte,↓reduceIte,sevalprocAttr,Z0,Z1,bytesOf,gx0,gxk,sx0,sxk,ProgD.cells,ExpD.cells]
 refine (hI _ hs (hg.ext _)).mono ?_
 rintro r X2 ⟨cs,G,rfl,rfl,ids,o1,o2,o3,o4⟩
 obtain ⟨v0,v,w,rfl⟩:=Env.progC (b:=0) (u:=(H++[AO.var [.p (.l (ds.map DataD.cells)),iV k,sV n,iV u,sV t,iV p,.p (.l (ExpD.cellsL ks)),.p (.l (ExpD.cellsA as'))],.var [iV c,iV q]]++G).length) (cs:=cs) ⟨ids,o1,o2,o3,fun i hi=>⟨Nat.zero_le _,(o4 i hi).2⟩⟩
 have ge:∀ i∈ids,H.length+2≤i:=fun i hi=>by have:=(o4 i hi).1; simp at this; omega
 have z3:(H++[AO.var [.p (.l (ds.map DataD.cells)),iV k,sV n,iV u,sV t,iV p,.p (.l (ExpD.cellsL ks)),.p (.l (ExpD.cellsA as'))],.var [iV c,iV q]]++G)[H.length]?=some (.var [.p (.l (ds.map DataD.cells)),iV k,sV n,iV u,sV t,iV p,.p (.l (ExpD.cellsL ks)),.p (.l (ExpD.cellsA as'))]):=get_ext (by rw [gx0]; rfl) G
 have z4:(H++[AO.var [.p (.l (ds.map DataD.cells)),iV k,sV n,iV u,sV t,iV p,.p (.l (ExpD.cellsL ks)),.p (.l (ExpD.cellsA as'))],.var [iV c,iV q]]++G)[H.length+1]?=some (.var [iV c,iV q]):=get_ext (by rw [gxk]; rfl) G
 have hg2:∀ A,Rg (H++[AO.var [.p (.l (ds.map DataD.cells)),iV k,sV n,iV u,sV t,iV p,.p (.l (ExpD.cellsL ks)),.p (.l (ExpD.cellsA as'))],.var [iV c,iV q]]++G++A):=fun A=>((hg.ext _).ext _).ext _
 obtain ⟨gi,te,pe,hgi⟩:=hg
 have hgl:=get_lt hgi
 have hgY:=get_ext (get_ext hgi [AO.var [.p (.l (ds.map DataD.cells)),iV k,sV n,iV u,sV t,iV p,.p (.l (ExpD.cellsL ks)),.p (.l (ExpD.cellsA as'))],.var [iV c,iV q]]) G
 generalize hY:H++[AO.var [.p (.l (ds.map DataD.cells)),iV k,sV n,iV u,sV t,iV p,.p (.l (ExpD.cellsL ks)),.p (.l (ExpD.cellsA as'))],.var [iV c,iV q]]++G=Y at *
 have z3':∀ A,(Y++A)[H.length]?=_:=fun A=>get_ext z3 A
 have z4':∀ A,(Y++A)[H.length+1]?=_:=fun A=>get_ext z4 A
 have hlt:=get_lt z4
 simp only [go_sem,reduceIte,↓reduceIte,sevalprocAttr,Z0,Z1,bytesOf,gx0,gxk,sx0,sxk,z3']
 have hlent:∀ A,Lent (Y++A) (.st [v0,iV k,sV n,iV u,sV t,iV p,v,w]) (av (ProgD.cells ⟨ds,.mk k n u t p ks as'⟩)):=fun A=>lentProg (o1.keep fun i _ o h=>get_ext h A)
 refine acall_pure (acall_lendP hE (grnd_b _) (lentAll_cons (hlent _) (lentAll_cons (lent_av (H:=_) (ProgD.cells ⟨ds,.mk k n u t p ks as'⟩)) (lentAll_nil _)))) ?_
 simp only [go_sem,reduceIte,↓reduceIte,sevalprocAttr,Z0,Z1,bytesOf,gx0,gxk,sx0,sxk,z4',Bool.not_true,Bool.not_false]
 refine acall_pure (eqFaultC c q _) ?_
 simp only [go_sem,reduceIte,↓reduceIte,sevalprocAttr,Z0,Z1,bytesOf,gx0,gxk,sx0,sxk,Bool.not_true,Bool.not_false]
 obtain ⟨i0,i5,i6,rfl,p0,p5,p6⟩:=own_splitP o1
 refine (markProgN hbM (p0.keep fun i _ o h=>get_ext h _) (p5.keep fun i _ o h=>get_ext h _) (p6.keep fun i _ o h=>get_ext h _) o2 (by omega) (by omega)).mono ?_
 rintro _ Z ⟨rfl,hM0,hM,hf⟩
 have hlow:∀ (i:Nat) (o:AO),i<H.length+2→Y[i]?=some o→Z[i]?=some o:=fun i o hi ho=>hf i o (get_ext ho _) fun hm=>by have:=ge i hm; omega
 have x3:=hlow _ _ (by omega) z3
 have x4:=hlow _ _ (by omega) z4
 have xg:=hlow _ _ (by omega) hgY
 have x5:Z[Y.length]?=some (.var [v0,iV k,sV n,iV u,sV t,iV p,v,w]):=hf _ _ (by rw [gx0]; rfl) fun hm=>by have:=(o4 _ hm).2; omega
 have dq:decide ((1:Int)+mcR (ds.map DataD.tv)+mcR (ExpD.tvL ks)+mcR (ExpD.tvA as')<0)=false:=decide_eq_false (by omega)
 simp only [go_sem,reduceIte,↓reduceIte,sevalprocAttr,Z0,Z1,bytesOf,gx0,gxk,sx0,sxk,x5]
 refine (heldProgN hbM hM0 hM (by omega) (by omega)).mono ?_
 rintro _ _ ⟨rfl,G2,rfl⟩
 simp only [go_sem,reduceIte,↓reduceIte,sevalprocAttr,Z0,Z1,bytesOf,gx0,gxk,sx0,sxk,dq,decide_true,Bool.not_true,Bool.not_false]
 refine (hI _ hs ⟨gi,te,pe,get_ext xg _⟩).mono ?_
 rintro r _ ⟨cs,G3,rfl,rfl,hE3⟩
 obtain ⟨v02,v2,w2,rfl⟩:=Env.progC hE3
 obtain ⟨ids3,o13,_⟩:=hE3
 have y3:∀ A,(Z++G2++G3++A)[H.length]?=_:=fun A=>get_ext (get_ext (get_ext x3 _) _) A
 have y4:∀ A,(Z++G2++G3++A)[H.length+1]?=_:=fun A=>get_ext (get_ext (get_ext x4 _) _) A
 have y5:∀ A,(Z++G2++G3++A)[Y.length]?=_:=fun A=>get_ext (get_ext (get_ext x5 _) _) A
 have hM03:=fun A=>hM0.keep (H':=Z++G2++G3++A) fun i _ o h=>get_ext (get_ext (get_ext h _) _) A
 have hM3:=fun A=>hM.keep (H':=Z++G2++G3++A) fun i _ o h=>get_ext (get_ext (get_ext h _) _) A
 have hlent3:∀ A,Lent (Z++G2++G3++A) (.st [v02,iV k,sV n,iV u,sV t,iV p,v2,w2]) (av (ProgD.cells ⟨ds,.mk k n u t p ks as'⟩)):=fun A=>lentProg (o13.keep fun i _ o h=>get_ext h A)
 generalize Z++G2++G3=Z3 at *
 simp only [go_sem,reduceIte,↓reduceIte,sevalprocAttr,Z0,Z1,bytesOf,gx0,gxk,sx0,sxk,y3]
 refine acall_pure (acall_lendP hE (grnd_b _) (lentAll_cons (hlent3 _) (lentAll_cons (lent_av (H:=_) (ProgD.cells ⟨ds,.mk k n u t p ks as'⟩)) (lentAll_nil _)))) ?_
 simp only [go_sem,reduceIte,↓reduceIte,sevalprocAttr,Z0,Z1,bytesOf,gx0,gxk,sx0,sxk,y4,Bool.not_true,Bool.not_false]
 refine acall_pure (eqFaultC c q _) ?_
 simp only [go_sem,reduceIte,↓reduceIte,sevalprocAttr,Z0,Z1,bytesOf,gx0,gxk,sx0,sxk,Bool.not_true,Bool.not_false,y5]
 refine (heldProgN hbM (hM03 _) (hM3 _) (by omega) (by omega)).mono ?_
 rintro _ _ ⟨rfl,G4,rfl⟩
 simp only [go_sem,reduceIte,↓reduceIte,sevalprocAttr,Z0,Z1,bytesOf,gx0,gxk,sx0,sxk,dq,decide_true,Bool.not_true,Bool.not_false]
end Go.Proofs.YtghcmccjchdgeaaGreatDoor.Pg