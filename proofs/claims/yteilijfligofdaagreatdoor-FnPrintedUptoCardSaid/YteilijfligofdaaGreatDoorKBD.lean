/- Texts QbS QbT QcA QbB QcB QcC QcD QcE QcF QcG QcH QcI QcJ, merged. -/
import Derived.Test.YteilijfligofdaaGreatDoorKBC
import Derived.Test.YteilijfligofdaaGreatDoorChecked
import Derived.KernelRfl
set_option linter.all false
namespace Go.Proofs.YteilijfligofdaaGreatDoor.Qp
open Go.AM Mc Pg
def Pq (s:List UInt8):Bool:=decide (s=[43])||decide (s=[45])||decide (s=[42])||decide (s=[94])||decide (s=[61])||decide (s=[60])||decide (s=[58,61])
def TM (s:List UInt8):Int:=if s=[58,61]then 1 else if s=[61]\/s=[60]then 2 else if s=[42]then 4 else 3
def xq:Nat->List (List UInt8)
 |1=>[[58,61]]
 |2=>[[61],[60]]
 |3=>[[43],[45],[94]]
 |_=>[[42]]
theorem ado {L:Nat} (h1:1<=L) (h4:L<=4) (s:List UInt8):(Pq s&&decide (TM s=(L:Int)))=decide (s∈xq L):=by
 have:L=1\/L=2\/L=3\/L=4:=by omega
 by_cases e0:s=[43]
 ·subst e0
  rcases this with rfl|rfl|rfl|rfl<;>decide
 by_cases e1:s=[45]
 ·subst e1
  rcases this with rfl|rfl|rfl|rfl<;>decide
 by_cases e2:s=[42]
 ·subst e2
  rcases this with rfl|rfl|rfl|rfl<;>decide
 by_cases e3:s=[94]
 ·subst e3
  rcases this with rfl|rfl|rfl|rfl<;>decide
 by_cases e4:s=[61]
 ·subst e4
  rcases this with rfl|rfl|rfl|rfl<;>decide
 by_cases e5:s=[60]
 ·subst e5
  rcases this with rfl|rfl|rfl|rfl<;>decide
 by_cases e6:s=[58,61]
 ·subst e6
  rcases this with rfl|rfl|rfl|rfl<;>decide
 have hb:Pq s=false:=by simp[Pq,e0,e1,e2,e3,e4,e5,e6]
 rw[hb,Bool.false_and];symm;refine decide_eq_false ?_;rcases this with rfl|rfl|rfl|rfl<;>simp[xq,e0,e1,e2,e3,e4,e5,e6]
theorem agw (s:List UInt8) (H:List AO):al Tryz.prog 73 [sV s] H (aP (bV (Pq s)) H):=by
 refine call73 (by simp) ?_;unfold Pq;simp only[go_sem,simprocAttr,SF,aaS];cases h0:decide (s=[43]);rotate_left
 ·simp only[go_sem,simprocAttr,h0,Bool.true_or,Bool.false_or]
  exact⟨rfl,rfl⟩
 cases h1:decide (s=[45]);rotate_left
 ·simp only[go_sem,simprocAttr,h0,h1,Bool.true_or,Bool.false_or]
  exact⟨rfl,rfl⟩
 cases h2:decide (s=[42]);rotate_left
 ·simp only[go_sem,simprocAttr,h0,h1,h2,Bool.true_or,Bool.false_or]
  exact⟨rfl,rfl⟩
 cases h3:decide (s=[94]);rotate_left
 ·simp only[go_sem,simprocAttr,h0,h1,h2,h3,Bool.true_or,Bool.false_or]
  exact⟨rfl,rfl⟩
 cases h4:decide (s=[61]);rotate_left
 ·simp only[go_sem,simprocAttr,h0,h1,h2,h3,h4,Bool.true_or,Bool.false_or]
  exact⟨rfl,rfl⟩
 cases h5:decide (s=[60]);rotate_left
 ·simp only[go_sem,simprocAttr,h0,h1,h2,h3,h4,h5,Bool.true_or,Bool.false_or]
  exact⟨rfl,rfl⟩
 simp only[go_sem,simprocAttr,h0,h1,h2,h3,h4,h5,Bool.false_or];exact⟨rfl,rfl⟩
theorem adp (s:List UInt8) (H:List AO):al Tryz.prog 192 [sV s] H (aP (iV (TM s)) H):=by
 refine call192 (by simp) ?_;unfold TM;simp only[go_sem,simprocAttr,KP,Sy];cases h0:decide (s=[58,61]);rotate_left
 ·rw[if_pos (of_decide_eq_true h0)]
  simp only[go_sem,simprocAttr,h0];exact⟨rfl,rfl⟩
 rw[if_neg (of_decide_eq_false h0)];cases h1:decide (s=[61]);rotate_left
 ·rw[if_pos (.inl (of_decide_eq_true h1))]
  simp only[go_sem,simprocAttr,h0,h1];exact⟨rfl,rfl⟩
 cases h2:decide (s=[60]);rotate_left
 ·rw[if_pos (.inr (of_decide_eq_true h2))]
  simp only[go_sem,simprocAttr,h0,h1,h2];exact⟨rfl,rfl⟩
 rw[if_neg (by rw[not_or];exact⟨of_decide_eq_false h1,of_decide_eq_false h2⟩)];cases h3:decide (s=[42]);rotate_left
 ·rw[if_pos (of_decide_eq_true h3)]
  simp only[go_sem,simprocAttr,h0,h1,h2,h3];exact⟨rfl,rfl⟩
 rw[if_neg (of_decide_eq_false h3)];simp only[go_sem,simprocAttr,h0,h1,h2,h3];exact⟨rfl,rfl⟩
section
variable {T:List Tok} {lim e:Nat} (hT:bH T) (aK:T.length<=1073741825)
include hT aK
theorem Gp {L:Nat} (h1:1<=L) (h4:L<=4):PF (bG T lim) T e 171 [iV L] (sy (iw T (xq L))) bV:=by
 refine dm (dt T lim) fun H p s hp hs=>?_
 refine call171 (by simp) ?_;simp only[go_sem,simprocAttr,KN,Sw];refine U (kb.nil hp hs) ?_;unfold iw bp;rw[<-ado h1 h4];simp only[go_sem,simprocAttr,qp hp,bG,Tok.cells];cases h0:decide (s.c=0)
 ·simp only[go_sem,simprocAttr,h0,Bool.false_and]
  exact⟨_,rfl,aZ (bw _)⟩
 cases h7:decide ((aD T s).k=7)
 ·simp only[go_sem,simprocAttr,h0,h7,Bool.false_and,Bool.and_false]
  exact⟨_,rfl,aZ (bw _)⟩
 simp only[go_sem,simprocAttr,h0,h7];refine U (agw _ _) ?_;cases hb:Pq (aD T s).t
 ·simp only[go_sem,simprocAttr,hb,Bool.false_and,Bool.and_false]
  exact⟨_,rfl,aZ (bw _)⟩
 simp only[go_sem,simprocAttr,hb];refine U (adp _ _) ?_;simp only[go_sem,simprocAttr,Bool.true_and];exact⟨_,rfl,aZ (bw _)⟩
theorem Ys {ex:PM aa} (hr:PF (bG T lim) T e 34 [] ex jQ) (sr:ab T ex):PF (bG T lim) T e 145 [iV 5] (jY T T.length ex) jQ:=by
 have hA:=adn hT aK hr sr;refine dm (dt T lim) fun H p s hp hs=>?_
 refine call145 (by simp) ?_;simp only[go_sem,simprocAttr,xd,zU];refine U (hA H _ p s hp hs) ?_;rcases hq:jY T T.length ex s with⟨⟨k,n,u,t,q,ks,ms⟩,s1⟩
 simp only[go_sem,simprocAttr,aa.cells];exact⟨_,rfl,aZ (dP (aa.cells (.mk k n u t q ks ms)))⟩
theorem Yt {ex:PM aa} (hr:PF (bG T lim) T e 145 [iV 5] (jY T T.length ex) jQ) (sr:ab T ex):PF (bG T lim) T e 145 [iV 4] (lp T T.length ex) jQ:=by
  have sA:=um (N:=T.length) hT sr;refine dm (dt T lim) fun H p s hp hs=> ?_
  have ew:wr .i64 (4+1)=5:=by decide
  refine call145 (by simp) ?_;simp only[go_sem,simprocAttr,xd,zU,ew];refine U (hr H _ p s hp hs) ?_;have bx:=hs.run sA;rcases hq:jY T T.length ex s with⟨⟨k,n,u,t,q,ks,ms⟩,s1⟩
  rw[hq]at bx;have iN:lp T T.length ex s=lD T T.length (xq 4) (jY T T.length ex) (.mk k n u t q ks ms) s1:=by unfold lp;rw[aN,hq];rfl
  rw[iN];unfold lD;generalize hR:carry (iw T (xq 4)) (fun a=>dZ T fun t=>bM (az (jY T T.length ex) fun b=>aO (node2 14 t.t t.p a b))) T.length (.mk k n u t q ks ms) s1=R;simp only[go_sem,simprocAttr,aa.cells]
  refine⟨Nat×PS×aa×List AO,[0,1,4,5],fun x st=>(Lc T e (iw T (xq 4)) (fun a=>dZ T fun t=>bM (az (jY T T.length ex) fun b=>aO (node2 14 t.t t.p a b))) R x.1 x.2.1 x.2.2.1∧EvA H p (bG T lim x.2.1) x.2.2.2 1 x.2.2.1∧x.2.2.2[0]?=some ZE)∧
      st=⟨[(0, .ptr p 0),(1,iV 4),(4, .ptr H.length 0),(5, .ptr (H.length+1) 0)],[],H.set p (bG T lim x.2.1)++x.2.2.2⟩,fun x=>T.length-x.2.1.i,⟨(T.length,s1, .mk k n u t q ks ms,[ZE, .var [iV k,sV n,iV u,sV t,iV q, .p (.l (aa.aJ ks)), .p (.l (aa.bL ms))]]), ?_⟩, ?_⟩
  · simp only[go_sem,simprocAttr]
    exact⟨Lc.start bx hR,_,_,_,_,_,_,_,_,_,rfl, .p _, .p _,rfl⟩
  · rintro⟨j,s',x,A⟩ _ ⟨⟨hL,⟨k,n,u,t,q,ks,ms,a,b,IG,ha,hb,i9⟩,i8⟩,rfl⟩
    simp only at hL IG ha hb i8 i9⊢;subst IG;simp only[go_sem,simprocAttr];refine U (Gp hT aK (L:=4) (by decide) (by decide) H _ p s' hp hL.ok) ?_;cases hg:iw T (xq 4) s'
    · have TL:=hL.stop hg
      subst TL;have hz:∀o,(A.set 0 o)[0]?=some o:=fun o=>aR i8
      simp only[go_sem,simprocAttr,hg,i9,i8,hz];exact⟨_,rfl,cL (bI.uR (kh (mm i8)) ha) (bI.uR (kh (mm i8)) hb)⟩
    · obtain⟨j,rfl⟩:=hL.succ (ee _) hg
      have Gq:=(ee _ s' hg).2;have dB:=hL.ok.aE hT Gq;have bt:=dB.run sA;have cG:=(gR.aE hT sA hL.ok.1 Gq).1;simp only[go_sem,simprocAttr,hg];refine U (kb H _ p s' hp hL.ok) ?_;have xr:∀r,jY T T.length ex (aE s')=r→(fun a=>dZ T fun t=>bM (az (jY T T.length ex) fun b=>aO (node2 14 t.t t.p a b))) (aa.mk k n u t q ks ms) s'=(node2 14 (aD T s').t (aD T s').p (.mk k n u t q ks ms) r.1,r.2):=fun r h=>by simp only[bE,bM,aN,h];rfl
      simp only[go_sem,simprocAttr,Tok.cells,qp hp,bG,qq hp,ws aK hL.ok];generalize hx:aD T s'=x at xr⊢;obtain⟨tk,tt,tn,tp⟩:=x;have fold:AO.var [yt T,iV (s'.i+1:Nat),iV s'.nest,iV s'.d,iV lim,iV s'.c,iV s'.ps]=bG T lim (aE s'):=rfl;rw[fold];have Lf:=ag i8 [AO.var [iV tk,sV tt,iV tn,iV tp]];have xp:=ag i9 [AO.var [iV tk,sV tt,iV tn,iV tp]];refine⟨_,Qp.hx hp _ _, ?_⟩;simp only[go_sem,simprocAttr,xp,pO,abe,ew];refine aL _ _ (by simp) (Qp.hx hp _ _) (hr.chain hp dB) ?_;rcases dC:jY T T.length ex (aE s')with⟨y,s2⟩
      rw[dC]at cG bt;have hm:=xr _ dC;obtain⟨k',n',u',t',q',fY,nh⟩:=y;have Lf:=ag i8 [AO.var [iV tk,sV tt,iV tn,iV tp],AO.rows 7 0 [[iV k,sV n,iV u,sV t,iV q,a,b],[iV k',sV n',iV u',sV t',iV q', .p (.l (aa.aJ fY)), .p (.l (aa.bL nh))]]];have xp:=ag i9 [AO.var [iV tk,sV tt,iV tn,iV tp],AO.rows 7 0 [[iV k,sV n,iV u,sV t,iV q,a,b],[iV k',sV n',iV u',sV t',iV q', .p (.l (aa.aJ fY)), .p (.l (aa.bL nh))]]];simp only[go_sem,simprocAttr,aa.cells,xp,Nat.add_zero]
      have cK:1≠A.length+1:=by intro h;have :A.length=0:=by omega
                               rw[List.length_eq_zero_iff.1 this]at i9;simp at i9
      refine⟨(j,s2,node2 14 tt tp (.mk k n u t q ks ms) (.mk k' n' u' t' q' fY nh),_),⟨⟨hL.next (ee _) hg hm bt cG,⟨14,tt,0,[],tp,_,[],_, .p .nl,rfl, ?_,by rw[aa.bL];exact .nl,aR xp⟩,aM Lf (by decide)⟩,rfl⟩,by have h1:s'.i<s2.i:=cG;have :=hL.ok.1;simp only;omega⟩;exact Ag ha hb (fun k sz ver rs h=>mm xp k sz ver rs (ag h _)) (aM (by rw[eZ];rfl) cK)
theorem Yu {ex:PM aa} (hr:PF (bG T lim) T e 145 [iV 4] (lp T T.length ex) jQ) (sr:ab T ex):PF (bG T lim) T e 145 [iV 3] (pB T T.length ex) jQ:=by
  have sA:=uo (N:=T.length) hT sr;refine dm (dt T lim) fun H p s hp hs=> ?_
  have ew:wr .i64 (3+1)=4:=by decide
  refine call145 (by simp) ?_;simp only[go_sem,simprocAttr,xd,zU,ew];refine U (hr H _ p s hp hs) ?_;have bx:=hs.run sA;rcases hq:lp T T.length ex s with⟨⟨k,n,u,t,q,ks,ms⟩,s1⟩
  rw[hq]at bx;have iN:pB T T.length ex s=lD T T.length (xq 3) (lp T T.length ex) (.mk k n u t q ks ms) s1:=by unfold pB;rw[aN,hq];rfl
  rw[iN];unfold lD;generalize hR:carry (iw T (xq 3)) (fun a=>dZ T fun t=>bM (az (lp T T.length ex) fun b=>aO (node2 14 t.t t.p a b))) T.length (.mk k n u t q ks ms) s1=R;simp only[go_sem,simprocAttr,aa.cells]
  refine⟨Nat×PS×aa×List AO,[0,1,4,5],fun x st=>(Lc T e (iw T (xq 3)) (fun a=>dZ T fun t=>bM (az (lp T T.length ex) fun b=>aO (node2 14 t.t t.p a b))) R x.1 x.2.1 x.2.2.1∧EvA H p (bG T lim x.2.1) x.2.2.2 1 x.2.2.1∧x.2.2.2[0]?=some ZE)∧
      st=⟨[(0, .ptr p 0),(1,iV 3),(4, .ptr H.length 0),(5, .ptr (H.length+1) 0)],[],H.set p (bG T lim x.2.1)++x.2.2.2⟩,fun x=>T.length-x.2.1.i,⟨(T.length,s1, .mk k n u t q ks ms,[ZE, .var [iV k,sV n,iV u,sV t,iV q, .p (.l (aa.aJ ks)), .p (.l (aa.bL ms))]]), ?_⟩, ?_⟩
  · simp only[go_sem,simprocAttr]
    exact⟨Lc.start bx hR,_,_,_,_,_,_,_,_,_,rfl, .p _, .p _,rfl⟩
  · rintro⟨j,s',x,A⟩ _ ⟨⟨hL,⟨k,n,u,t,q,ks,ms,a,b,IG,ha,hb,i9⟩,i8⟩,rfl⟩
    simp only at hL IG ha hb i8 i9⊢;subst IG;simp only[go_sem,simprocAttr];refine U (Gp hT aK (L:=3) (by decide) (by decide) H _ p s' hp hL.ok) ?_;cases hg:iw T (xq 3) s'
    · have TL:=hL.stop hg
      subst TL;have hz:∀o,(A.set 0 o)[0]?=some o:=fun o=>aR i8
      simp only[go_sem,simprocAttr,hg,i9,i8,hz];exact⟨_,rfl,cL (bI.uR (kh (mm i8)) ha) (bI.uR (kh (mm i8)) hb)⟩
    · obtain⟨j,rfl⟩:=hL.succ (ee _) hg
      have Gq:=(ee _ s' hg).2;have dB:=hL.ok.aE hT Gq;have bt:=dB.run sA;have cG:=(gR.aE hT sA hL.ok.1 Gq).1;simp only[go_sem,simprocAttr,hg];refine U (kb H _ p s' hp hL.ok) ?_;have xr:∀r,lp T T.length ex (aE s')=r→(fun a=>dZ T fun t=>bM (az (lp T T.length ex) fun b=>aO (node2 14 t.t t.p a b))) (aa.mk k n u t q ks ms) s'=(node2 14 (aD T s').t (aD T s').p (.mk k n u t q ks ms) r.1,r.2):=fun r h=>by simp only[bE,bM,aN,h];rfl
      simp only[go_sem,simprocAttr,Tok.cells,qp hp,bG,qq hp,ws aK hL.ok];generalize hx:aD T s'=x at xr⊢;obtain⟨tk,tt,tn,tp⟩:=x;have fold:AO.var [yt T,iV (s'.i+1:Nat),iV s'.nest,iV s'.d,iV lim,iV s'.c,iV s'.ps]=bG T lim (aE s'):=rfl;rw[fold];have Lf:=ag i8 [AO.var [iV tk,sV tt,iV tn,iV tp]];have xp:=ag i9 [AO.var [iV tk,sV tt,iV tn,iV tp]];refine⟨_,Qp.hx hp _ _, ?_⟩;simp only[go_sem,simprocAttr,xp,pO,abe,ew];refine aL _ _ (by simp) (Qp.hx hp _ _) (hr.chain hp dB) ?_;rcases dC:lp T T.length ex (aE s')with⟨y,s2⟩
      rw[dC]at cG bt;have hm:=xr _ dC;obtain⟨k',n',u',t',q',fY,nh⟩:=y;have Lf:=ag i8 [AO.var [iV tk,sV tt,iV tn,iV tp],AO.rows 7 0 [[iV k,sV n,iV u,sV t,iV q,a,b],[iV k',sV n',iV u',sV t',iV q', .p (.l (aa.aJ fY)), .p (.l (aa.bL nh))]]];have xp:=ag i9 [AO.var [iV tk,sV tt,iV tn,iV tp],AO.rows 7 0 [[iV k,sV n,iV u,sV t,iV q,a,b],[iV k',sV n',iV u',sV t',iV q', .p (.l (aa.aJ fY)), .p (.l (aa.bL nh))]]];simp only[go_sem,simprocAttr,aa.cells,xp,Nat.add_zero]
      have cK:1≠A.length+1:=by intro h;have :A.length=0:=by omega
                               rw[List.length_eq_zero_iff.1 this]at i9;simp at i9
      refine⟨(j,s2,node2 14 tt tp (.mk k n u t q ks ms) (.mk k' n' u' t' q' fY nh),_),⟨⟨hL.next (ee _) hg hm bt cG,⟨14,tt,0,[],tp,_,[],_, .p .nl,rfl, ?_,by rw[aa.bL];exact .nl,aR xp⟩,aM Lf (by decide)⟩,rfl⟩,by have h1:s'.i<s2.i:=cG;have :=hL.ok.1;simp only;omega⟩;exact Ag ha hb (fun k sz ver rs h=>mm xp k sz ver rs (ag h _)) (aM (by rw[eZ];rfl) cK)
theorem Yv {ex:PM aa} (hr:PF (bG T lim) T e 145 [iV 3] (pB T T.length ex) jQ) (sr:ab T ex):PF (bG T lim) T e 145 [iV 2] (pC T T.length ex) jQ:=by
 have sA:=uq (N:=T.length) hT sr;refine dm (dt T lim) fun H p s hp hs=>?_
 have ew:wr .i64 (2+1)=3:=by decide
 refine call145 (by simp) ?_;simp only[go_sem,simprocAttr,xd,zU,ew];refine U (hr H _ p s hp hs) ?_;have bx:=hs.run sA;rcases hq:pB T T.length ex s with⟨⟨k,n,u,t,q,ks,ms⟩,s1⟩
 rw[hq]at bx;rw[show pC T T.length ex s=fc T (iw T (xq 2)) (pB T T.length ex) (.mk k n u t q ks ms) s1 by unfold pC;rw[aN,hq];rfl];unfold fc;rw[bE];simp only[go_sem,simprocAttr,aa.cells];refine⟨Unit,[0,1,4,5],fun _ st=>st=⟨[(0,.ptr p 0),(1,iV 2),(4,.ptr H.length 0),(5,.ptr (H.length+1) 0)],[],H.set p (bG T lim s1)++[ZE,.var [iV k,sV n,iV u,sV t,iV q,.p (.l (aa.aJ ks)),.p (.l (aa.bL ms))]]⟩,fun _=>0,⟨(),?_⟩,?_⟩
 ·simp only[go_sem,simprocAttr]
 ·rintro _ _ rfl
  simp only[go_sem,simprocAttr];refine U (Gp hT aK (L:=2) (by decide) (by decide) H _ p s1 hp bx) ?_;cases hg:iw T (xq 2) s1
  ·rw[aU hg]
   simp only[go_sem,simprocAttr,hg];exact⟨_,rfl,aZ (dP (aa.cells (.mk k n u t q ks ms)))⟩
  ·have Gq:=(ee _ s1 hg).2
   have dB:=bx.aE hT Gq;rw[aQ hg];simp only[go_sem,simprocAttr,hg];refine U (kb H _ p s1 hp bx) ?_;simp only[go_sem,simprocAttr,Tok.cells,qp hp,bG,qq hp,ws aK bx];generalize hx:aD T s1=x;obtain⟨tk,tt,tn,tp⟩:=x;have fold:AO.var [yt T,iV (s1.i+1:Nat),iV s1.nest,iV s1.d,iV lim,iV s1.c,iV s1.ps]=bG T lim (aE s1):=rfl;rw[fold];refine⟨_,Qp.hx hp _ _,?_⟩;simp only[go_sem,simprocAttr,ew];refine aL _ _ (by simp) (Qp.hx hp _ _) (hr.chain hp dB) ?_;rw[aN];rcases dC:pB T T.length ex (aE s1)with⟨⟨k',n',u',t',q',fY,nh⟩,s2⟩
   simp only[go_sem,simprocAttr,aa.cells,Nat.add_zero];exact⟨_,rfl,cL (cS (n:=H.length) (ys:=[aa.cells (.mk k n u t q ks ms),aa.cells (.mk k' n' u' t' q' fY nh)]) (by omega) (by rw[lq];rfl) (by intro y hy;simp at hy;rcases hy with rfl|rfl<;>rfl)) (by rw[aa.bL];exact .nl)⟩
theorem Yw {ex:PM aa} (hr:PF (bG T lim) T e 145 [iV 2] (pC T T.length ex) jQ) (sr:ab T ex):PF (bG T lim) T e 145 [iV 1] (ui T T.length ex) jQ:=by
 have sA:=ur (N:=T.length) hT sr;refine dm (dt T lim) fun H p s hp hs=>?_
 have ew:wr .i64 (1+1)=2:=by decide
 refine call145 (by simp) ?_;simp only[go_sem,simprocAttr,xd,zU,ew];refine U (hr H _ p s hp hs) ?_;have bx:=hs.run sA;rcases hq:pC T T.length ex s with⟨⟨k,n,u,t,q,ks,ms⟩,s1⟩
 rw[hq]at bx;rw[show ui T T.length ex s=fc T (iw T (xq 1)) (pC T T.length ex) (.mk k n u t q ks ms) s1 by unfold ui;rw[aN,hq];rfl];unfold fc;rw[bE];simp only[go_sem,simprocAttr,aa.cells];refine⟨Unit,[0,1,4,5],fun _ st=>st=⟨[(0,.ptr p 0),(1,iV 1),(4,.ptr H.length 0),(5,.ptr (H.length+1) 0)],[],H.set p (bG T lim s1)++[ZE,.var [iV k,sV n,iV u,sV t,iV q,.p (.l (aa.aJ ks)),.p (.l (aa.bL ms))]]⟩,fun _=>0,⟨(),?_⟩,?_⟩
 ·simp only[go_sem,simprocAttr]
 ·rintro _ _ rfl
  simp only[go_sem,simprocAttr];refine U (Gp hT aK (L:=1) (by decide) (by decide) H _ p s1 hp bx) ?_;cases hg:iw T (xq 1) s1
  ·rw[aU hg]
   simp only[go_sem,simprocAttr,hg];exact⟨_,rfl,aZ (dP (aa.cells (.mk k n u t q ks ms)))⟩
  ·have Gq:=(ee _ s1 hg).2
   have dB:=bx.aE hT Gq;rw[aQ hg];simp only[go_sem,simprocAttr,hg];refine U (kb H _ p s1 hp bx) ?_;simp only[go_sem,simprocAttr,Tok.cells,qp hp,bG,qq hp,ws aK bx];generalize hx:aD T s1=x;obtain⟨tk,tt,tn,tp⟩:=x;have fold:AO.var [yt T,iV (s1.i+1:Nat),iV s1.nest,iV s1.d,iV lim,iV s1.c,iV s1.ps]=bG T lim (aE s1):=rfl;rw[fold];refine⟨_,Qp.hx hp _ _,?_⟩;simp only[go_sem,simprocAttr,ew];refine aL _ _ (by simp) (Qp.hx hp _ _) (hr.chain hp dB) ?_;rw[aN];rcases dC:pC T T.length ex (aE s1)with⟨⟨k',n',u',t',q',fY,nh⟩,s2⟩
   simp only[go_sem,simprocAttr,aa.cells,Nat.add_zero];exact⟨_,rfl,cL (cS (n:=H.length) (ys:=[aa.cells (.mk k n u t q ks ms),aa.cells (.mk k' n' u' t' q' fY nh)]) (by omega) (by rw[lq];rfl) (by intro y hy;simp at hy;rcases hy with rfl|rfl<;>rfl)) (by rw[aa.bL];exact .nl)⟩
end
abbrev agx (t:ar):AV:=.st (t.cells.map .p)
theorem agy (t:ar):t.cells.length=12:=by
 obtain⟨p,x⟩:=t;rw[ar.cells,List.length_append,TA,Gn]
def TN (T:List Tok) (N:Nat) (pat:PM ae) (ex:PM aa):PM aa:=dZ T fun t=>
 bg (aH T [108,101,116]) (uh T ex t.p)<|bg (aH T [102,117,110]) (wu T ex t.p)<|bg (aH T [105,102]) (DQ T ex t.p)<|
 bg (aH T [109,97,116,99,104]) (yk T N pat ex t.p) (ui T N ex)
section
variable {T:List Tok} {lim e:Nat} (hT:bH T) (aK:T.length<=1073741825)
include hT aK
theorem Pr {pat:PM ae} {ex:PM aa} (iL:ab T pat) (hex:ab T ex):ab T (TN T T.length pat ex):=
 (ab.now fun _=>(ab.bg hT (aw T _) (w5 hT hex) (ab.bg hT (aw T _) (w6 hT hex) (ab.bg hT (aw T _) (zO hT hex) (ab.bg hT (aw T _) (yl hT iL hex) (AR hT hex))))))
theorem adq {pat:PM ae} {ex:PM aa} (hP:PF (bG T lim) T e 169 [] pat yN) (sP:ab T pat) (hr:PF (bG T lim) T e 34 [] ex jQ) (sr:ab T ex):PF (bG T lim) T e 144 [] (iA T pat ex) agx:=by
 refine dm (dt T lim) fun H p s hp hs=>?_
 refine call144 (by simp) ?_;simp only[go_sem,simprocAttr,KJ,Sr];refine U (hP H _ p s hp hs) ?_;have bx:=hs.run sP;rcases hq:pat s with⟨⟨k,n,u,q,ks⟩,s1⟩
 rw[hq]at bx;simp only[go_sem,simprocAttr,ae.cells];refine U (gY aK [45,62] H _ p s1 hp bx) ?_;have bt:=bx.step (aG hT [45,62]);simp only[go_sem,simprocAttr];refine U (hr H _ p _ hp bt) ?_;rcases dC:ex (aS T [45,62] s1)with⟨⟨k',n',u',t',q',fY,nh⟩,s3⟩
 have iN:iA T pat ex s=(.mk (.mk k n u q ks) (.mk k' n' u' t' q' fY nh),s3):=by unfold iA;rw[aN,hq,cV,aN,dC];rfl
 rw[iN];simp only[go_sem,simprocAttr,aa.cells];exact⟨_,rfl,aZ (dP (ar.cells (.mk (.mk k n u q ks) (.mk k' n' u' t' q' fY nh))))⟩
theorem agz {pat:PM ae} {ex:PM aa} (hP:PF (bG T lim) T e 169 [] pat yN) (sP:ab T pat) (hr:PF (bG T lim) T e 34 [] ex jQ) (sr:ab T ex):PF (bG T lim) T e 96 [] (TN T T.length pat ex) jQ:=by
 have hO:=Yw hT aK (Yv hT aK (Yu hT aK (Yt hT aK (Ys hT aK hr sr) sr) sr) sr) sr;have abf:=adq hT aK hP sP hr sr;have IH:=pE hT sP sr;refine dm (dt T lim) fun H p s hp hs=>?_
 refine call96 (by simp) ?_;simp only[go_sem,simprocAttr,Sk,aaQ];refine U (kb H _ p s hp hs) ?_;unfold TN;rw[bE];simp only[go_sem,simprocAttr,Tok.cells];generalize (aD T s).p=tp;refine U (nZ aK [108,101,116] H _ p s hp hs) ?_;unfold di;cases c1:aH T [108,101,116] s;rotate_left
 ·rw[aQ c1]
  have bx:=hs.aE hT (cB c1).2;simp only[go_sem,simprocAttr,c1];refine U (nZ aK [114,101,99] H _ p _ hp bx) ?_;unfold uh di;cases c2:aH T [114,101,99] (aE s)
  ·rw[aU c2]
   simp only[go_sem,simprocAttr,c2];refine U (uB aK 3 H _ p _ hp bx) ?_;have bt:=bx.run (ab.word hT (k:=3) (by decide));rcases dC:cU T 3 (aE s)with⟨w1,s2⟩
   rw[dC]at bt;simp only[go_sem,simprocAttr];refine U (gY aK [61] H _ p _ hp bt) ?_;have rO:=bt.step (aG hT [61]);simp only[go_sem,simprocAttr];refine⟨_,Qp.hx hp _ _,?_⟩;simp only[go_sem,simprocAttr];refine aL _ _ (by simp) (Qp.hx hp _ _) (hr.chain hp rO) ?_;have og:=rO.run sr;rcases xt:ex (aS T [61] s2)with⟨⟨k1,n1,u1,t1,q1,Bc,Bd⟩,s4⟩
   rw[xt]at og;simp only[go_sem,simprocAttr,aa.cells,Nat.add_zero];refine⟨by intro r hr;simp at hr;subst hr;rfl,?_⟩;refine U (gY aK [105,110] H _ p _ hp og) ?_;have yO:=og.step (aG hT [105,110]);simp only[go_sem,simprocAttr];refine⟨_,Qp.hx hp _ _,?_⟩;simp only[go_sem,simprocAttr];refine aL _ _ (by simp) (Qp.hx hp _ _) (hr.chain hp yO) ?_;have yP:=yO.run sr;rcases yQ:ex (aS T [105,110] s4)with⟨⟨k2,n2,u2,t2,q2,Lg,TO⟩,s6⟩
   rw[yQ]at yP;simp only[go_sem,simprocAttr,aa.cells,Nat.add_zero];refine⟨by intro r hr;simp at hr;subst hr;rfl,?_⟩;simp only[aN,cV,il,dC,xt,yQ];exact⟨_,rfl,cL (cS (n:=H.length) (ys:=[aa.cells (.mk k1 n1 u1 t1 q1 Bc Bd),aa.cells (.mk k2 n2 u2 t2 q2 Lg TO)]) (by omega) (by rw[lq];rfl) (by intro y hy;simp at hy;rcases hy with rfl|rfl<;>rfl)) (by rw[aa.bL];exact .nl)⟩
  ·rw[aQ c2]
   have bx:=bx.aE hT (cB c2).2;simp only[go_sem,simprocAttr,c2];refine U (uB aK 3 H _ p _ hp bx) ?_;have bt:=bx.run (ab.word hT (k:=3) (by decide));rcases dC:cU T 3 (aE (aE s))with⟨w1,s2⟩
   rw[dC]at bt;simp only[go_sem,simprocAttr];refine U (uB aK 3 H _ p _ hp bt) ?_;have eA:=bt.run (ab.word hT (k:=3) (by decide));rcases fD:cU T 3 s2 with⟨w2,s3⟩
   rw[fD]at eA;simp only[go_sem,simprocAttr];refine U (gY aK [61] H _ p _ hp eA) ?_;have rP:=eA.step (aG hT [61]);simp only[go_sem,simprocAttr];refine⟨_,Qp.hx hp _ _,?_⟩;simp only[go_sem,simprocAttr];refine aL _ _ (by simp) (Qp.hx hp _ _) (hr.chain hp rP) ?_;have lO:=rP.run sr;rcases jS:ex (aS T [61] s3)with⟨⟨k1,n1,u1,t1,q1,Bc,Bd⟩,s5⟩
   rw[jS]at lO;simp only[go_sem,simprocAttr,aa.cells,Nat.add_zero];refine⟨by intro r hr;simp at hr;subst hr;rfl,?_⟩;refine U (gY aK [105,110] H _ p _ hp lO) ?_;have abg:=lO.step (aG hT [105,110]);simp only[go_sem,simprocAttr];refine⟨_,Qp.hx hp _ _,?_⟩;simp only[go_sem,simprocAttr];refine aL _ _ (by simp) (Qp.hx hp _ _) (hr.chain hp abg) ?_;have Ps:=abg.run sr;rcases Pt:ex (aS T [105,110] s5)with⟨⟨k2,n2,u2,t2,q2,Lg,TO⟩,s7⟩
   rw[Pt]at Ps;simp only[go_sem,simprocAttr,aa.cells,Nat.add_zero];refine⟨by intro r hr;simp at hr;subst hr;rfl,?_⟩;simp only[aN,cV,il,dC,fD,jS,Pt];exact⟨_,rfl,cL (cS (n:=H.length) (ys:=[aa.cells (.mk k1 n1 u1 t1 q1 Bc Bd),aa.cells (.mk k2 n2 u2 t2 q2 Lg TO)]) (by omega) (by rw[lq];rfl) (by intro y hy;simp at hy;rcases hy with rfl|rfl<;>rfl)) (by rw[aa.bL];exact .nl)⟩
 rw[aU c1];simp only[go_sem,simprocAttr,c1];refine U (nZ aK [102,117,110] H _ p s hp hs) ?_;unfold di;cases c2:aH T [102,117,110] s;rotate_left
 ·rw[aQ c2]
  have bx:=hs.aE hT (cB c2).2;unfold wu;simp only[go_sem,simprocAttr,c2];refine U (uB aK 3 H _ p _ hp bx) ?_;have bt:=bx.run (ab.word hT (k:=3) (by decide));rcases dC:cU T 3 (aE s)with⟨w1,s2⟩
  rw[dC]at bt;simp only[go_sem,simprocAttr];refine U (gY aK [45,62] H _ p _ hp bt) ?_;have rO:=bt.step (aG hT [45,62]);simp only[go_sem,simprocAttr];refine⟨_,Qp.hx hp _ _,?_⟩;simp only[go_sem,simprocAttr];refine aL _ _ (by simp) (Qp.hx hp _ _) (hr.chain hp rO) ?_;have og:=rO.run sr;rcases xt:ex (aS T [45,62] s2)with⟨⟨k1,n1,u1,t1,q1,Bc,Bd⟩,s4⟩
  rw[xt]at og;simp only[go_sem,simprocAttr,aa.cells,Nat.add_zero];refine⟨by intro r hr;simp at hr;subst hr;rfl,?_⟩;simp only[aN,cV,il,dC,xt];exact⟨_,rfl,cL (cS (n:=H.length) (ys:=[aa.cells (.mk k1 n1 u1 t1 q1 Bc Bd)]) (by omega) (by rw[lq];rfl) (by intro y hy;simp at hy;subst hy;rfl)) (by rw[aa.bL];exact .nl)⟩
 rw[aU c2];simp only[go_sem,simprocAttr,c2];refine U (nZ aK [105,102] H _ p s hp hs) ?_;unfold di;cases c3:aH T [105,102] s;rotate_left
 ·rw[aQ c3]
  have bx:=hs.aE hT (cB c3).2;unfold DQ;simp only[go_sem,simprocAttr,c3];refine⟨_,Qp.hx hp _ _,?_⟩;simp only[go_sem,simprocAttr];refine aL _ _ (by simp) (Qp.hx hp _ _) (hr.chain hp bx) ?_;have bt:=bx.run sr;rcases dC:ex (aE s)with⟨⟨k1,n1,u1,t1,q1,Bc,Bd⟩,s2⟩
  rw[dC]at bt;simp only[go_sem,simprocAttr,aa.cells,Nat.add_zero];refine⟨by intro r hr;simp at hr;subst hr;rfl,?_⟩;refine U (gY aK [116,104,101,110] H _ p _ hp bt) ?_;have rO:=bt.step (aG hT [116,104,101,110]);simp only[go_sem,simprocAttr];refine⟨_,Qp.hx hp _ _,?_⟩;simp only[go_sem,simprocAttr];refine aL _ _ (by simp) (Qp.hx hp _ _) (hr.chain hp rO) ?_;have og:=rO.run sr;rcases xt:ex (aS T [116,104,101,110] s2)with⟨⟨k2,n2,u2,t2,q2,Lg,TO⟩,s4⟩
  rw[xt]at og;simp only[go_sem,simprocAttr,aa.cells,Nat.add_zero];refine⟨by intro r hr;simp at hr;subst hr;rfl,?_⟩;refine U (gY aK [101,108,115,101] H _ p _ hp og) ?_;have yO:=og.step (aG hT [101,108,115,101]);simp only[go_sem,simprocAttr];refine⟨_,Qp.hx hp _ _,?_⟩;simp only[go_sem,simprocAttr];refine aL _ _ (by simp) (Qp.hx hp _ _) (hr.chain hp yO) ?_;have yP:=yO.run sr;rcases yQ:ex (aS T [101,108,115,101] s4)with⟨⟨k3,n3,u3,t3,q3,ks3,ms3⟩,s6⟩
  rw[yQ]at yP;simp only[go_sem,simprocAttr,aa.cells,Nat.add_zero];refine⟨by intro r hr;simp at hr;subst hr;rfl,?_⟩;simp only[aN,cV,il,dC,xt,yQ];exact⟨_,rfl,cL (cS (n:=H.length) (ys:=[aa.cells (.mk k1 n1 u1 t1 q1 Bc Bd),aa.cells (.mk k2 n2 u2 t2 q2 Lg TO),aa.cells (.mk k3 n3 u3 t3 q3 ks3 ms3)]) (by omega) (by rw[lq];rfl) (by intro y hy;simp at hy;rcases hy with rfl|rfl|rfl<;>rfl)) (by rw[aa.bL];exact .nl)⟩
 rw[aU c3];simp only[go_sem,simprocAttr,c3];refine U (nZ aK [109,97,116,99,104] H _ p s hp hs) ?_;unfold di;cases c4:aH T [109,97,116,99,104] s
 ·rw[aU c4]
  simp only[go_sem,simprocAttr,c4];refine U (hO H _ p s hp hs) ?_;rcases hq:ui T T.length ex s with⟨⟨k,n,u,t,q,ks,ms⟩,s1⟩
  simp only[go_sem,simprocAttr,aa.cells];exact⟨_,rfl,aZ (dP (aa.cells (.mk k n u t q ks ms)))⟩
 ·rw[aQ c4]
  have bx:=hs.aE hT (cB c4).2;unfold yk;simp only[go_sem,simprocAttr,c4];refine⟨_,Qp.hx hp _ _,?_⟩;simp only[go_sem,simprocAttr];refine aL _ _ (by simp) (Qp.hx hp _ _) (hr.chain hp bx) ?_;have bt:=bx.run sr;rcases dC:ex (aE s)with⟨⟨k1,n1,u1,t1,q1,Bc,Bd⟩,s2⟩
  rw[dC]at bt;simp only[go_sem,simprocAttr,aa.cells,Nat.add_zero];refine⟨by intro r hr;simp at hr;subst hr;rfl,?_⟩;refine U (gY aK [119,105,116,104] H _ p _ hp bt) ?_;have rO:=bt.step (aG hT [119,105,116,104]);simp only[go_sem,simprocAttr];refine U (gY aK [124] H _ p _ hp rO) ?_;have rP:=rO.step (aG hT [124]);simp only[go_sem,simprocAttr];refine⟨_,Qp.hx hp _ _,?_⟩;simp only[go_sem,simprocAttr];refine aL _ _ (by simp) (Qp.hx hp _ _) (abf.chain hp rP) ?_;have lO:=rP.run IH;rcases jS:iA T pat ex (aS T [124] (aS T [119,105,116,104] s2))with⟨⟨⟨pk,pn,pu,pq,Yx⟩,⟨ak,an,au,at',aq,II,Yy⟩⟩,s5⟩
  rw[jS]at lO;simp only[go_sem,simprocAttr,ar.cells,ae.cells,aa.cells,Nat.add_zero];refine⟨by intro r hr;simp at hr;subst hr;rfl,?_⟩;rcases hR:many (aH T [124]) (bM (iA T pat ex)) T.length s5 with⟨Rl,Rs⟩
  simp only[aN,cV,il,ow,dC,jS,hR]
  refine⟨Nat×PS×List ar×AV×List AO,[0,2,3],fun x st=>(Lp (bG T lim) T e H p [0,1,3] 12 ar.cells (aH T [124]) (bM (iA T pat ex)) ((.mk (.mk pk pn pu pq Yx) (.mk ak an au at' aq II Yy))::Rl) Rs x.1 x.2.1 x.2.2.1 x.2.2.2.1 x.2.2.2.2/\x.2.2.2.2[0]?=some ZE/\x.2.2.2.2[1]?=some (.var [iV 13,sV [],iV 0,sV [],iV tp,.gs (H.length+3) 0 0 1,x.2.2.2.1])/\x.2.2.2.2[3]?=some (.rows 7 0 [[iV k1,sV n1,iV u1,sV t1,iV q1,.p (.l (aa.aJ Bc)),.p (.l (aa.bL Bd))]]))/\
    st=⟨[(0,.ptr p 0),(2,.ptr H.length 0),(3,.ptr (H.length+1) 0)],[],H.set p (bG T lim x.2.1)++x.2.2.2.2⟩,fun x=>T.length-x.2.1.i,⟨(T.length,s5,[(.mk (.mk pk pn pu pq Yx) (.mk ak an au at' aq II Yy))],.gs (H.length+5) 0 0 1,[ZE,.var [iV 13,sV [],iV 0,sV [],iV tp,.gs (H.length+3) 0 0 1,.gs (H.length+5) 0 0 1],.rows 7 0 [[iV k1,sV n1,iV u1,sV t1,iV q1,.p (.l (aa.aJ Bc)),.p (.l (aa.bL Bd))]],.rows 7 0 [[iV k1,sV n1,iV u1,sV t1,iV q1,.p (.l (aa.aJ Bc)),.p (.l (aa.bL Bd))]],.rows 12 0 [[iV pk,sV pn,iV pu,iV pq,.p (.l (ae.aJ Yx)),iV ak,sV an,iV au,sV at',iV aq,.p (.l (aa.aJ II)),.p (.l (aa.bL Yy))]],.rows 12 0 [[iV pk,sV pn,iV pu,iV pq,.p (.l (ae.aJ Yx)),iV ak,sV an,iV au,sV at',iV aq,.p (.l (aa.aJ II)),.p (.l (aa.bL Yy))]]]),?_⟩,?_⟩
  ·simp only[go_sem,simprocAttr]
   exact Lp.nx lO hR (by simp) rfl (by decide)
  ·rintro⟨j,s',acc,a,A⟩ _ ⟨⟨hL,i8,i9,i10⟩,rfl⟩
   simp only at hL i8 i9 i10⊢;simp only[go_sem,simprocAttr];refine U (nZ aK [124] H _ p s' hp hL.ok) ?_;unfold di;cases hg:aH T [124] s'
   ·obtain⟨rfl,rfl⟩:=hL.stop hg
    have hz:∀o,(A.set 0 o)[0]?=some o:=fun o=>aR i8
    simp only[go_sem,simprocAttr,hg];refine U (gY aK [101,110,100] H _ p s' hp hL.ok) ?_;simp only[go_sem,simprocAttr,i9,i8,hz];exact⟨_,rfl,cL (cS (n:=H.length) (ys:=[aa.cells (.mk k1 n1 u1 t1 q1 Bc Bd)]) (by omega) (by rw[lq];exact aM i10 (by decide)) (by intro y hy;simp at hy;subst hy;rfl)) (by rw[aa.cd];exact hL.mI (cD (by decide)) agy)⟩
   ·obtain⟨j,rfl⟩:=hL.succ (aw T _) hg
    have dB:=hL.ok.aE hT (cB hg).2;have bt:=dB.run IH;have cG:=(gR.aE hT IH hL.ok.1 (cB hg).2).1;simp only[go_sem,simprocAttr,hg];refine⟨_,Qp.hx hp _ _,?_⟩;simp only[go_sem,simprocAttr,i9];refine aL _ _ (by simp) (Qp.hx hp _ _) (abf.chain hp dB) ?_;rcases C4:iA T pat ex (aE s')with⟨⟨⟨bk,bn,bu,bq,bks⟩,⟨ck,cn,cu,ct,cq,DW,cms⟩⟩,s9⟩
    rw[C4]at bt cG;simp only[go_sem,simprocAttr,ar.cells,ae.cells,aa.cells,pO];refine⟨by intro r hr;simp at hr;subst hr;rfl,?_⟩;refine hL.app (fun k o h=>ag h _) aK (by decide) ?_;intro id ver A' k1' k2' k3';have j0:=(k3' 0 (by decide)).trans i8;have j1:=(k3' 1 (by decide)).trans i9;have j3:=(k3' 3 (by decide)).trans i10;have ah6:=aT j3;have hz:∀o,(A'.set 1 o)[1]?=some o:=fun o=>aR j1
    simp only[go_sem,simprocAttr,j1];exact⟨(j,s9,acc++[.mk (.mk bk bn bu bq bks) (.mk ck cn cu ct cq DW cms)],.gs id ver 0 (acc.length+1),A'.set 1 (.var [iV 13,sV [],iV 0,sV [],iV tp,.gs (H.length+3) 0 0 1,.gs id ver 0 (acc.length+1)])),⟨⟨hL.next (aw T _) hg C4 bt cG k1' k2' (cD (by decide)) (by simp;omega),aM j0 (by decide),hz _,aM j3 (by decide)⟩,rfl⟩,by have h1:s'.i<s9.i:=cG;have:=hL.ok.1;simp only;omega⟩
theorem adr (hl:lim<=1099511627776) (he:e<=lim) {pat:PM ae} {ex:PM aa} (hP:e<lim->PF (bG T lim) T (e+1) 169 [] pat yN) (sP:ab T pat) (hr:e<lim->PF (bG T lim) T (e+1) 34 [] ex jQ) (sr:ab T ex):PF (bG T lim) T e 34 [] (Cr T T.length lim pat ex) jQ:=by
 have sA:=Pr hT aK sP sr;refine dm (dt T lim) fun H p s hp hs=>?_
 obtain⟨o1,o2,o3⟩:=Ad (lim:=lim) hT aK hs;have hi:=hs.1;have hn:=hs.2;refine call34 (by simp) ?_;simp only[go_sem,simprocAttr,Sf,aaM];refine U (F7 hl he H _ p s hp hs) ?_;have iN:Cr T T.length lim pat ex s=qf T lim AN (TN T T.length pat ex) s:=rfl;rw[iN];unfold qf;cases hc:decide ((cz T lim s).c=0)
 ·rw[if_neg (of_decide_eq_false hc)]
  simp only[go_sem,simprocAttr,hc];refine U (sF hl H _ p (cz T lim s) hp (by omega) (by omega) (by omega)) ?_;simp only[go_sem,simprocAttr];exact⟨_,rfl,cL (by rw[aa.aJ];exact .nl) (by rw[aa.bL];exact .nl)⟩
 ·obtain⟨bx,cK⟩:=o3 (of_decide_eq_true hc)
  have hA:=agz hT aK (hP (by omega)) sP (hr (by omega)) sr;rw[if_pos (of_decide_eq_true hc)];simp only[go_sem,simprocAttr,hc];refine U (hA H _ p _ hp bx) ?_;have bt:=bx.run sA;have wS:=sA _ bx.1;rcases hq:TN T T.length pat ex (cz T lim s)with⟨⟨k,n,u,t,q,ks,ms⟩,s2⟩
  rw[hq]at bt wS;have bd:s2.nest=s.nest+1:=wS.2.2.2.trans o2;simp only[go_sem,simprocAttr,aa.cells];refine U (sF hl H _ p s2 hp bt.1 (by omega) (by omega)) ?_;simp only[go_sem,simprocAttr];exact⟨_,rfl,aZ (dP (aa.cells (.mk k n u t q ks ms)))⟩
theorem TP (hl:lim<=1099511627776):∀k e,e+k=lim+1->0<k->PF (bG T lim) T e 34 [] (EJ T T.length lim k) jQ
 |0,e,_,h=>absurd h (by omega)
 |k+1,e,h,_=>adr hT aK hl (by omega) (fun aF=>TD hT aK hl k (e+1) (by omega) (by omega)) (so hT lim k) (fun aF=>TP hl k (e+1) (by omega) (by omega)) (su hT lim k)
end
theorem aj {H:List AO} {n:Nat} (hn:H.length=n) (A:List AO) (p:Nat) (c:AO) (k:Nat):(H.set p c++A)[n+k]?=A[k]?:=by subst hn;exact lq H A p c k
theorem aA {H:List AO} {n:Nat} (hn:H.length=n) (A:List AO) (p:Nat) (c:AO):(H.set p c++A)[n]?=A[0]?:=aj hn A p c 0
theorem ay {H:List AO} {n:Nat} (hn:H.length=n) (A:List AO) (p:Nat) (c:AO) (k:Nat) (o:AO):(H.set p c++A).set (n+k) o=H.set p c++A.set k o:=by subst hn;exact qsk H A p c k o
theorem aB {H:List AO} {n:Nat} (hn:H.length=n) (A:List AO) (p:Nat) (c:AO) (o:AO):(H.set p c++A).set n o=H.set p c++A.set 0 o:=ay hn A p c 0 o
theorem qdk (n:Nat) (A:List AO) (k:Nat):(List.replicate n AO.dead++A)[n+k]?=A[k]?:=by
 have:=eZ (List.replicate n AO.dead) A k;rwa[List.length_replicate]at this
theorem qd0 (n:Nat) (A:List AO):(List.replicate n AO.dead++A)[n]?=A[0]?:=qdk n A 0
attribute [go_sem] qdk qd0 List.length_replicate
theorem gP {H:List AO} {n:Nat} (hn:H.length=n) (p:Nat) (c:AO) (A:List AO):cA (List.replicate n .dead++A) (H.set p c++A):=fun id o h hd=>by
 rcases Nat.lt_or_ge id n with hi|hi
 ·rw[List.getElem?_append_left (by simpa using hi)]at h
  simp[hi]at h;exact(hd h.symm).elim
 ·obtain⟨k,rfl⟩:=Nat.le.dest hi
  rw[qdk]at h;rw[aj hn];exact h
def Kp (b:Nat) (H K:List AO):Prop:=K.length=H.length/\(∀i,i<b->K[i]?=H[i]?)/\∀(i:Nat) o,H[i]?=some o->o≠.iQ->K[i]?=some o
theorem Kp.rfl {b:Nat} {H:List AO}:Kp b H H:=⟨Eq.refl _,fun _ _=>Eq.refl _,fun _ _ h _=>h⟩
theorem Kp.trans {b:Nat} {H K L:List AO} (h:Kp b H K) (k:Kp b K L):Kp b H L:=
 ⟨k.1.trans h.1,fun i hi=>(k.2.1 i hi).trans (h.2.1 i hi),fun i o ho hr=>k.2.2 i o (h.2.2 i o ho hr) hr⟩
def Fr (b:Nat) (H:List AO) (N:Nat):Prop:=∃F:List Nat,F.Nodup/\F.length=N/\∀i∈F,b<=i/\H[i]?=some .iQ
def Env (b u:Nat) (X:List AO) (ts:List TV) (cs:List AV):Prop:=∃ids,bj X ts cs ids/\ids.Nodup/\ids.length=nC ts/\∀i∈ids,b<=i/\i<u
theorem Env.nil (b u:Nat) (X:List AO):Env b u X [] []:=⟨[],bj.nil X,List.nodup_nil,by rw[nC];rfl,by simp⟩
theorem Env.len {b u:Nat} {X:List AO} {ts:List TV} {cs:List AV} (h:Env b u X ts cs):cs.length=ts.length:=by
 obtain⟨ids,h1,_⟩:=h;exact h1.len
theorem Env.up {b u v:Nat} {X:List AO} {ts:List TV} {cs:List AV} (h:Env b u X ts cs) (hv:u<=v):Env b v X ts cs:=by
 obtain⟨ids,h1,h2,h3,h4⟩:=h;exact⟨ids,h1,h2,h3,fun i hi=>⟨(h4 i hi).1,by have:=(h4 i hi).2;omega⟩⟩
theorem Env.mv {b u:Nat} {X Y:List AO} {ts:List TV} {cs:List AV} (h:Env b u X ts cs) (hk:∀(i sz ver:Nat) rs,b<=i->i<u->X[i]?=some (.rows sz ver rs)->Y[i]?=some (.rows sz ver rs)):Env b u Y ts cs:=by
 obtain⟨ids,h1,h2,h3,h4⟩:=h;refine⟨ids,h1.eF fun i hi o ho=>?_,h2,h3,h4⟩;obtain⟨sz,ver,rs,hr⟩:=h1.rows i hi;rw[hr]at ho;cases ho;exact hk i sz ver rs (h4 i hi).1 (h4 i hi).2 hr
theorem Env.base {b n:Nat} {H A A':List AO} {p:Nat} {c c':AO} {ts:List TV} {cs:List AV} (h:Env b n (H.set p c++A) ts cs) (hn:H.length=n) (hp:p<b):Env b n (H.set p c'++A') ts cs:=
 h.mv fun i sz ver rs h1 h2 h3=>by
  rw[List.getElem?_append_left (by simp;omega),List.getElem?_set_ne (by omega)]at h3⊢;exact h3
theorem Env.q {b u n:Nat} {H A A':List AO} {p:Nat} {c c':AO} {ts:List TV} {cs:List AV} (h:Env b u (H.set p c++A) ts cs) (hn:H.length=n) (hp:p<b)
  (hA:∀(k sz ver:Nat) rs,A[k]?=some (.rows sz ver rs)->A'[k]?=some (.rows sz ver rs)):Env b u (H.set p c'++A') ts cs:=
 h.mv fun i sz ver rs h1 h2 h3=>by
  rcases Nat.lt_or_ge i n with hi|hi
  ·rw[List.getElem?_append_left (by simp;omega),List.getElem?_set_ne (by omega)]at h3⊢
   exact h3
  ·obtain⟨k,rfl⟩:=Nat.le.dest hi
   rw[aj hn]at h3⊢;exact hA k sz ver rs h3
theorem Env.pc {b u:Nat} {X:List AO} {ts:List TV} {cs:List AV} (h:Env b u X ts cs) (x:PV):Env b u X (.p x::ts) (.p x::cs):=by
 obtain⟨ids,h1,h2,h3,h4⟩:=h;exact⟨ids,h1.pc,h2,by rw[h3,nC,nT,Nat.zero_add],h4⟩
theorem iX {X:List AO}:∀{t1 t2:List TV} {cs:List AV} {ids:List Nat},bj X (t1++t2) cs ids→∃c1 c2 i j,cs=c1++c2∧ids=i++j∧bj X t1 c1 i∧bj X t2 c2 j
  |[],t2,cs,ids,h=>⟨[],cs,[],ids,rfl,rfl,bj.nil X,h⟩
  |t::t1,t2,cs,ids,h=>by
   rw[List.cons_append,bj]at h;obtain⟨a,fP,i,js,rfl,rfl,h1,h2⟩:=h;obtain⟨c1,c2,i1,j1,rfl,rfl,h3,h4⟩:=iX h2;exact⟨a::c1,c2,i++i1,j1,rfl,by rw[List.append_assoc],bj.cons h1 h3,h4⟩
theorem vH {X:List AO}:∀{t1 t2:List TV} {c1 c2:List AV} {i j:List Nat},bj X t1 c1 i→bj X t2 c2 j→bj X (t1++t2) (c1++c2) (i++j)
  |[],t2,c1,c2,i,j,h,k=>by rw[bj]at h;obtain⟨rfl,rfl⟩:=h;exact k
  |t::t1,t2,c1,c2,i,j,h,k=>by
   rw[bj]at h;obtain⟨a,fP,i',js,rfl,rfl,h1,h2⟩:=h;rw[List.append_assoc];exact bj.cons h1 (vH h2 k)
theorem nz:∀(a b:List TV),nC (a++b)=nC a+nC b
 |[],b=>by rw[nC];simp
 |t::a,b=>by rw[List.cons_append,nC,nC,nz a b];omega
theorem uS:∀(a:List (List TV)),nC a.flatten=nR a
 |[]=>by rw[nR];simp[nC]
 |t::a=>by rw[List.flatten_cons,nz,nR,uS a]
theorem Gr (l:List (List TV)):nR l<=nK l:=by
 cases l with
 |nil=>rw[nR];omega
 |cons r l=>rw[nR,nK];omega
theorem pP {X:List AO} {sz:Nat}:∀{rows:List (List TV)} {rs:List (List AV)} {ids:List Nat},bj X rows.flatten rs.flatten ids→rs.length=rows.length→(∀r∈rows,r.length=sz)→(∀r∈rs,r.length=sz)→bY X sz rows rs ids
  |[],[],ids,h,_,_,_ =>by simp at h;rw[bj]at h;rw[bY];exact⟨rfl,h.2⟩
  |[],_ ::_,ids,h,hl,_,_ =>by simp at hl
  |_ ::_,[],ids,h,hl,_,_ =>by simp at hl
  |t::rows,c::rs,ids,h,hl,h1,h2=>by
   rw[List.flatten_cons,List.flatten_cons]at h;obtain⟨c1,c2,i,j,e,rfl,h3,h4⟩:=iX h;have e1:=h3.len;have e2:=h1 t (by simp);have e3:=h2 c (by simp);obtain⟨rfl,rfl⟩:=List.append_inj e (by omega);rw[bY];exact⟨c,rs,i,j,rfl,rfl,e3,h3,pP h4 (by simpa using hl) (fun r hr=>h1 r (by simp[hr])) (fun r hr=>h2 r (by simp[hr]))⟩
theorem Env.node {b u id sz ver:Nat} {X:List AO} {rows:List (List TV)} {rs:List (List AV)} (h:Env b u X rows.flatten rs.flatten) (hi:X[id]?=some (.rows sz ver rs)) (hu:u<=id) (hb:b<=id) (hl:rs.length=rows.length) (h1:∀r∈rows,r.length=sz) (h2:∀r∈rs,r.length=sz) (h0:rows≠[]):
  Env b (id+1) X [.s sz rows] [.gs id ver 0 rs.length]:=by
 obtain⟨ids,k1,k2,k3,k4⟩:=h;refine⟨id::ids,bj.one ?_,List.nodup_cons.2 ⟨fun hm=>by have:=(k4 id hm).2;omega,k2⟩,?_,?_⟩
 ·rw[fq]
  exact .inr ⟨id,ver,rs,ids,rfl,rfl,hi,pP k1 hl h1 h2⟩
 ·rw[List.length_cons,k3,uS,nC,nC,nT]
  cases rows with
  |nil=>exact(h0 rfl).elim
  |cons r l=>rw[nK,nR];omega
 ·intro i hm
  rcases List.mem_cons.1 hm with rfl|hm
  ·exact⟨hb,by omega⟩
  ·exact⟨(k4 i hm).1,by have:=(k4 i hm).2;omega⟩
theorem Env.nl {b u sz:Nat} {X:List AO} {ts:List TV} {cs:List AV} (h:Env b u X ts cs):Env b u X (ts++[.s sz []]) (cs++[.p .nl]):=by
 obtain⟨ids,k1,k2,k3,k4⟩:=h;refine⟨ids,?_,k2,by rw[k3,nz,nC,nC,nT,nK];rfl,k4⟩;have:=vH k1 (bj.one (fq.nl X sz));rwa[List.append_nil]at this
theorem Env.nl1 {b u sz:Nat} {X:List AO}:Env b u X [.s sz []] [.p .nl]:=(Env.nil b u X).nl
theorem ri {sz:Nat}:∀{rows:List (List TV)} {rs:List (List AV)},rs.length=rows.length->(∀r∈rows,r.length=sz)->(∀r∈rs,r.length=sz)->rs.flatten.length=rows.flatten.length
 |[],[],_,_,_=>rfl
 |[],_ ::_,h,_,_=>by simp at h
 |_ ::_,[],h,_,_=>by simp at h
 |r::l,c::rs,h,h1,h2=>by rw[List.flatten_cons,List.flatten_cons,List.length_append,List.length_append,ri (by simpa using h) (fun r hr=>h1 r (by simp[hr])) (fun r hr=>h2 r (by simp[hr])),h1 r (by simp),h2 c (by simp)]
theorem Env.node2 {b u id1 id2 sz1 sz2 v1 v2:Nat} {X:List AO} {rows1 rows2:List (List TV)} {Pu Ah:List (List AV)} (h:Env b u X (rows1.flatten++rows2.flatten) (Pu.flatten++Ah.flatten)) (Cy:X[id1]?=some (.rows sz1 v1 Pu)) (TQ:X[id2]?=some (.rows sz2 v2 Ah)) (hu1:u≤id1) (QC:u≤id2) (hb:b≤u) (cK:id1≠id2)
    (tW:Pu.length=rows1.length) (vW:∀r∈rows1,r.length=sz1) (gz:∀r∈Pu,r.length=sz1) (lN:rows1≠[]) (pr:Ah.length=rows2.length) (h21:∀r∈rows2,r.length=sz2) (h22:∀r∈Ah,r.length=sz2) (h20:rows2≠[]):
    Env b (id1+id2+1) X [.s sz1 rows1, .s sz2 rows2] [.gs id1 v1 0 Pu.length, .gs id2 v2 0 Ah.length]:=by
  obtain⟨ids,k1,k2,k3,k4⟩:=h;obtain⟨c1,c2,i,j,e,rfl,h3,h4⟩:=iX k1;have hlen:=ri tW vW gz;obtain⟨rfl,rfl⟩:=List.append_inj e (by rw[h3.len];exact hlen);have n1:id1∉i++j:=fun hm=>by have :=(k4 _ hm).2;omega
  have n2:id2∉i++j:=fun hm=>by have :=(k4 _ hm).2;omega
  rw[List.nodup_append]at k2;refine⟨(id1::i)++(id2::j),bj.cons ?_ (bj.one ?_), ?_, ?_, ?_⟩
  · rw[fq];exact .inr ⟨id1,v1,Pu,i,rfl,rfl,Cy,pP h3 tW vW gz⟩
  · rw[fq];exact .inr ⟨id2,v2,Ah,j,rfl,rfl,TQ,pP h4 pr h21 h22⟩
  · rw[List.nodup_append]
    simp only[List.mem_append,not_or]at n1 n2;refine⟨List.nodup_cons.2 ⟨n1.1,k2.1⟩,List.nodup_cons.2 ⟨n2.2,k2.2.1⟩,fun a ha c hc=> ?_⟩;rcases List.mem_cons.1 ha with rfl|ha<;>rcases List.mem_cons.1 hc with rfl|hc
    · exact cK
    · rintro rfl;exact n1.2 hc
    · rintro rfl;exact n2.1 ha
    · exact k2.2.2 a ha c hc
  · rw[nz,uS,uS]at k3
    simp only[List.length_append,List.length_cons]at k3⊢;rw[nC,nC,nC,nT,nT]
    cases rows1 with
    |nil=>exact(lN rfl).elim
    |cons r l=>cases rows2 with
     |nil=>exact(h20 rfl).elim
     |cons r' l'=>rw[nK,nK];rw[nR,nR]at k3;omega
  · intro x hx
    simp only[List.mem_append,List.mem_cons]at hx;have :x=id1∨x=id2∨x∈i++j:=by rw[List.mem_append];rcases hx with(h|h)|(h|h)<;>simp[h]
    rcases this with rfl|rfl|h
    · exact⟨by omega,by omega⟩
    · exact⟨by omega,by omega⟩
    · have :=k4 x h;exact⟨this.1,by omega⟩
def Res (K:List AO) (b p:Nat) (c':AO) (ts:List TV) (r:AV) (X:List AO):Prop:=∃cs K1 G u,r=.st cs/\X=K1.set p c'++G/\Kp b K K1/\Env b u X ts cs
def PX (pv:PS->AO) (T:List Tok) (e f:Nat) (args:List AV) (B:List AO->Prop) (p:Nat) {α:Type} (m:PM α) (tv:α->List TV):Prop :=
 ∀(H A:List AO) (F:List Nat) (s:PS),p<H.length->Ok T e s->B (H++A)->F.Nodup->F.length=nC (tv (m s).1)->(∀i∈F,i≠p/\H[i]?=some .iQ)->
  al Tryz.prog f args (H.set p (pv s)++A) (aP (.st (dS (tv (m s).1) F).1) ((jr H F (dS (tv (m s).1) F).2).set p (pv (m s).2)++A))
section
variable {pv:PS->AO} {T:List Tok} {e f:Nat} {args:List AV} {B:List AO->Prop} {p:Nat} {α:Type} {m:PM α} {tv:α->List TV}
theorem Ai (hpv:∀s c,rj c (pv s)->Tf c) (hB:∀X Y,B X->(∀(i:Nat) o,X[i]?=some o->Y[i]?=some o)->B Y)
  (h:∀(K:List AO) (b n:Nat) (s:PS),K.length=n->p<b->b<=n->Ok T e s->B K->Fr b K (nC (tv (m s).1))->al Tryz.prog f args (K.set p (pv s)) (Res K b p (pv (m s).2) (tv (m s).1))):PX pv T e f args B p m tv:=by
 intro H A F s hp hs hB' A7 hl hF;generalize XV:tv (m s).1=ts at *;have Lh:∀i∈F,i<H.length:=fun i hi=>aT (hF i hi).2
 have Yz:p∉F:=fun hm=>(hF p hm).1 rfl
 have e2:(jr H F (dS ts F).2).set p (pv (m s).2)++A=jr (H.set p (pv (m s).2)++A) F (dS ts F).2:=by
  rw[Ey _ _ _ _ (by simpa using Lh),Ew _ _ _ _ _ Yz]
 rw[e2];refine JU ?_ (by simp) ?_ A7 hl ?_
 ·refine yd (nC ts) ?_
  have eK:(H.set p (pv s)++A)++List.replicate (nC ts) AO.iQ=((H++A)++List.replicate (nC ts) AO.iQ).set p (pv s):=by
   rw[List.set_append_left _ _ (by simp;omega),List.set_append_left _ _ hp]
  rw[eK]
  have hb:=h ((H++A)++List.replicate (nC ts) AO.iQ) (H++A).length _ s rfl (by simp;omega) (by simp) hs (hB _ _ hB' fun i o ho=>ag ho _)
   ⟨List.range' (H++A).length (nC ts),List.nodup_range',by simp[XV],fun i hi=>?_⟩
  ·rw[XV]at hb
   refine hb.mono ?_;rintro r X ⟨cs,K1,G,u,rfl,rfl,⟨k1,k2,k3⟩,ids,o1,o2,o3,o4⟩;refine⟨cs,ids,K1.drop (H++A).length++G,rfl,?_,o1,o2,o3,fun i hi=>?_⟩
   ·have ht:K1.take (H++A).length=H++A:=by
     apply List.ext_getElem?;intro i;rcases Nat.lt_or_ge i (H++A).length with hi|hi
     ·rw[List.getElem?_take_of_lt hi,k2 i hi,List.getElem?_append_left hi]
     ·rw[List.getElem?_eq_none (by simp at hi⊢;omega),List.getElem?_eq_none hi]
    have e3:K1=(H++A)++K1.drop (H++A).length:=(List.take_append_drop (H++A).length K1).symm.trans (congrArg (·++K1.drop (H++A).length) ht);rw[<-List.append_assoc];congr 1
    conv=>lhs;rw[e3]
    rw[List.set_append_left _ _ (by simp;omega),List.set_append_left _ _ hp]
   ·have:=(o4 i hi).1;simpa using this
  ·simp only[List.mem_range']at hi
   obtain⟨j,hj,rfl⟩:=hi;refine⟨by omega,?_⟩;rw[List.getElem?_append_right (by omega)];simp[hj]
 ·intro id o ho c hc
  by_cases hi:id=p
  ·subst hi
   rw[qp hp]at ho;cases ho;exact .inl (hpv _ _ hc)
  ·refine .inr ⟨id,o,?_,hc⟩
   rcases Nat.lt_or_ge id H.length with h1|h1
   ·rw[List.getElem?_append_left (by simpa using h1),List.getElem?_set_ne (Ne.symm hi)]at ho⊢
    exact ho
   ·rw[List.getElem?_append_right (by simpa using h1)]at ho⊢
    simpa using ho
 ·intro i hi
  obtain⟨h1,h2⟩:=hF i hi;have h3:=Lh i hi;constructor <;>rw[List.getElem?_append_left (by simpa using h3),List.getElem?_set_ne (Ne.symm h1)]<;>exact h2
theorem PX.use (h:PX pv T e f args B p m tv) (wf:∀x,mT (tv x)) {H:List AO} {n b N:Nat} {s s1:PS} {x:α} (hm:m s=(x,s1)) (hn:H.length=n) (hp:p<b) (hb:b<=n) (hs:Ok T e s) (hF:Fr b H N) (hN:nC (tv x)<=N):
  ∃H1 cs,H1.length=n/\Kp b H H1/\Fr b H1 (N-nC (tv x))/\cs.length=(tv x).length/\
   (∀u ts ds A,n<=u->Env b u (H.set p (pv s)++A) ts ds->Env b u (H1.set p (pv s1)++A) (ts++tv x) (ds++cs))/\
   (∀ts ds A A',Env b n (H.set p (pv s)++A) ts ds->Env b n (H1.set p (pv s1)++A') (ts++tv x) (ds++cs))/\
   (∀A,B (H++A)->al Tryz.prog f args (H.set p (pv s)++A) (aP (.st cs) (H1.set p (pv s1)++A))):=by
 obtain⟨F,f1,f2,f3⟩:=hF;have hm1:(m s).1=x:=by rw[hm]
 have O4:(m s).2=s1:=by rw[hm]
 have YA:(F.take (nC (tv x))).length=nC (tv x):=by simp;omega
 have C5:∀i∈F.take (nC (tv x)),i∈F:=fun i hi=>List.mem_of_mem_take hi
 have A7:(F.take (nC (tv x))).Nodup:=f1.sublist (List.take_sublist _ _);have Lh:∀i∈F.take (nC (tv x)),i<H.length:=fun i hi=>aT (f3 i (C5 i hi)).2
 have Yz:p∉F.take (nC (tv x)):=fun hm=>by have:=(f3 p (C5 p hm)).1;omega
 have wJ:=nO (tv x) _ YA
 have lS:∀(c:AO) (A:List AO),bj ((jr H (F.take (nC (tv x))) (dS (tv x) (F.take (nC (tv x)))).2).set p c++A) (tv x) (dS (tv x) (F.take (nC (tv x)))).1 (F.take (nC (tv x))):=fun c A=>
  vw (tv x) _ _ (wf x) YA fun k q o hk ho=>by
   have hq:=List.mem_of_getElem? hk;have aF:=Lh q hq;rw[List.getElem?_append_left (by simp[kB];exact aF),List.getElem?_set_ne (by rintro rfl;exact Yz hq)];exact zH _ _ H k q o A7 Lh hk ho
 have agA:∀i∈F.drop (nC (tv x)),i∉F.take (nC (tv x)):=fun i hi iR=>by
  have:=f1;rw[<-List.take_append_drop (nC (tv x)) F,List.nodup_append]at this;exact this.2.2 i iR i hi rfl
 have key:∀u ts ds A,n<=u->Env b u (H.set p (pv s)++A) ts ds->Env b u ((jr H (F.take (nC (tv x))) (dS (tv x) (F.take (nC (tv x)))).2).set p (pv s1)++A) (ts++tv x) (ds++(dS (tv x) (F.take (nC (tv x)))).1):=by
  rintro u ts ds A hu ⟨ids,o1,o2,o3,o4⟩
  have hd:∀i∈ids,i∉F.take (nC (tv x)):=fun i hi iR=>by
   obtain⟨sz,ver,rs,hr⟩:=o1.rows i hi;have h1:=(f3 i (C5 i iR)).2;have h2:=Lh i iR;have h3:=(o4 i hi).1;rw[List.getElem?_append_left (by simpa using h2),List.getElem?_set_ne (by omega),h1]at hr;cases hr
  refine⟨ids++F.take (nC (tv x)),vH (o1.eF fun i hi o ho=>?_) (lS _ _),List.nodup_append.2 ⟨o2,A7,fun a ha c hc e=>hd a ha (e▸hc)⟩,by rw[List.length_append,o3,YA,nz],fun i hi=>?_⟩
  ·have h3:=(o4 i hi).1
   rcases Nat.lt_or_ge i H.length with hl|hl
   ·rw[List.getElem?_append_left (by simpa using hl),List.getElem?_set_ne (by omega)]at ho
    rw[List.getElem?_append_left (by simp[kB];exact hl),List.getElem?_set_ne (by omega),po _ _ _ _ (hd i hi)];exact ho
   ·rw[List.getElem?_append_right (by simpa using hl)]at ho
    rw[List.getElem?_append_right (by simp[kB];exact hl)];simpa[kB]using ho
  ·rcases List.mem_append.1 hi with hi|hi
   ·exact o4 i hi
   ·exact⟨(f3 i (C5 i hi)).1,by have:=Lh i hi;omega⟩
 refine⟨jr H (F.take (nC (tv x))) (dS (tv x) (F.take (nC (tv x)))).2,(dS (tv x) (F.take (nC (tv x)))).1,by rw[kB];exact hn,⟨kB _ _ _,?_,?_⟩,⟨F.drop (nC (tv x)),f1.sublist (List.drop_sublist _ _),by simp;omega,?_⟩,by rw[vu],key,?_,?_⟩
 ·intro i hi
  exact po _ _ _ _ fun hm=>by have:=(f3 i (C5 i hm)).1;omega
 ·intro i o ho hr
  rw[po _ _ _ _ fun hm=>?_]
  ·exact ho
  ·rw[(f3 i (C5 i hm)).2]at ho
   cases ho;exact hr rfl
 ·intro i hi
  have hiF:=List.mem_of_mem_drop hi;exact⟨(f3 i hiF).1,by rw[po _ _ _ _ (agA i hi)];exact(f3 i hiF).2⟩
 ·intro ts ds A A' hE
  exact(key n ts ds A (Nat.le_refl _) hE).base (by rw[kB];exact hn) hp
 ·intro A hBA
  have:=h H A (F.take (nC (tv x))) s (by omega) hs hBA A7 (by rw[hm1];exact YA) fun i hi=>⟨by rintro rfl;exact Yz hi,(f3 i (C5 i hi)).2⟩
  rwa[hm1,O4]at this
end
end Go.Proofs.YteilijfligofdaaGreatDoor.Qp
set_option linter.all false
set_option maxRecDepth 100000
namespace Go.Proofs.YteilijfligofdaaGreatDoor.Mc
open Go.AM
def TR:bz (Tryz.f16.body.map (compile [0,2,3,4,5,6,7,15,24] Tryz.prog 32)):=⟨_,by conv=>lhs;cbv⟩
def abh:List MR:=[.cell true 8 2,.cell true 2 3]
theorem call16:ax Tryz.prog 16 32 TR.m abh:=TR.call Tryz.func16 (by kernel_rfl)
def TS:bz (Tryz.f30.body.map (compile [0,1,2,3,4,5,6,7,8,9,10,11,15,20,27,34,59,75,105,119,139] Tryz.prog 147)):=⟨_,by conv=>lhs;cbv⟩
def abi:List MR:=[.cell true 7 4]
theorem call30:ax Tryz.prog 30 147 TS.m abi:=TS.call Tryz.func30 (by kernel_rfl)
def TT:bz (Tryz.f31.body.map (compile [0,4] Tryz.prog 7)):=⟨_,by conv=>lhs;cbv⟩
def abj:List MR:=[]
theorem call31:ax Tryz.prog 31 7 TT.m abj:=TT.call Tryz.func31 (by kernel_rfl)
def TU:bz (Tryz.f32.body.map (compile [0,2] Tryz.prog 9)):=⟨_,by conv=>lhs;cbv⟩
def abk:List MR:=[.t 2]
theorem call32:ax Tryz.prog 32 9 TU.m abk:=TU.call Tryz.func32 (by kernel_rfl)
def TW:bz (Tryz.f48.body.map (compile [0,2,3,5] Tryz.prog 19)):=⟨_,by conv=>lhs;cbv⟩
def abl:List MR:=[.cell true 8 2]
theorem call48:ax Tryz.prog 48 19 TW.m abl:=TW.call Tryz.func48 (by kernel_rfl)
def ND:bz (Tryz.f83.body.map (compile [0,1,4,10,15] Tryz.prog 28)):=⟨_,by conv=>lhs;cbv⟩
def TX:List MR:=[.t 4]
theorem call83:ax Tryz.prog 83 28 ND.m TX:=ND.call Tryz.func83 (by kernel_rfl)
def TY:bz (Tryz.f84.body.map (compile [0,2] Tryz.prog 13)):=⟨_,by conv=>lhs;cbv⟩
def abm:List MR:=[.cell true 4 2]
theorem call84:ax Tryz.prog 84 13 TY.m abm:=TY.call Tryz.func84 (by kernel_rfl)
def TZ:bz (Tryz.f85.body.map (compile [0,1,2] Tryz.prog 7)):=⟨_,by conv=>lhs;cbv⟩
def abn:List MR:=[.cell true 7 2]
theorem call85:ax Tryz.prog 85 7 TZ.m abn:=TZ.call Tryz.func85 (by kernel_rfl)
def T0:bz (Tryz.f86.body.map (compile [0,1,4,8] Tryz.prog 16)):=⟨_,by conv=>lhs;cbv⟩
def abo:List MR:=[.t 4]
theorem call86:ax Tryz.prog 86 16 T0.m abo:=T0.call Tryz.func86 (by kernel_rfl)
def T4:bz (Tryz.f87.body.map (compile [0,1,4,8] Tryz.prog 30)):=⟨_,by conv=>lhs;cbv⟩
def abp:List MR:=[.t 4]
theorem call87:ax Tryz.prog 87 30 T4.m abp:=T4.call Tryz.func87 (by kernel_rfl)
def T5:bz (Tryz.f88.body.map (compile [0,1,5,6,7,8,9,15] Tryz.prog 19)):=⟨_,by conv=>lhs;cbv⟩
def abq:List MR:=[]
theorem call88:ax Tryz.prog 88 19 T5.m abq:=T5.call Tryz.func88 (by kernel_rfl)
def T6:bz (Tryz.f89.body.map (compile [0,1,4,5,6,10,16,57] Tryz.prog 64)):=⟨_,by conv=>lhs;cbv⟩
def abr:List MR:=[.cell true 5 4]
theorem call89:ax Tryz.prog 89 64 T6.m abr:=T6.call Tryz.func89 (by kernel_rfl)
def NF:bz (Tryz.f90.body.map (compile [0,1,2,3,5,6,7,8,9,10,12,18,27,28,29,30,35] Tryz.prog 46)):=⟨_,by conv=>lhs;cbv⟩
def T7:List MR:=[.cell true 7 6]
theorem call90:ax Tryz.prog 90 46 NF.m T7:=NF.call Tryz.func90 (by kernel_rfl)
def T8:bz (Tryz.f91.body.map (compile [0,1,4] Tryz.prog 15)):=⟨_,by conv=>lhs;cbv⟩
def abt:List MR:=[.t 4]
theorem call91:ax Tryz.prog 91 15 T8.m abt:=T8.call Tryz.func91 (by kernel_rfl)
def NG:bz (Tryz.f92.body.map (compile [0,1,9] Tryz.prog 18)):=⟨_,by conv=>lhs;cbv⟩
def T9:List MR:=[]
theorem call92:ax Tryz.prog 92 18 NG.m T9:=NG.call Tryz.func92 (by kernel_rfl)
def Li:bz (Tryz.f107.body.map (compile [0,1,4,5] Tryz.prog 27)):=⟨_,by conv=>lhs;cbv⟩
def Ua:List MR:=[.t 4]
theorem call107:ax Tryz.prog 107 27 Li.m Ua:=Li.call Tryz.func107 (by kernel_rfl)
def Lj:bz (Tryz.f108.body.map (compile [0,2,3,4,13,34,47] Tryz.prog 52)):=⟨_,by conv=>lhs;cbv⟩
def Ub:List MR:=[.cell true 4 2]
theorem call108:ax Tryz.prog 108 52 Lj.m Ub:=Lj.call Tryz.func108 (by kernel_rfl)
def Ll:bz (Tryz.f132.body.map (compile [0,1,4,5,6,15,19,26,33,38,42] Tryz.prog 57)):=⟨_,by conv=>lhs;cbv⟩
def Uc:List MR:=[.cell true 5 4]
theorem call132:ax Tryz.prog 132 57 Ll.m Uc:=Ll.call Tryz.func132 (by kernel_rfl)
def Lm:bz (Tryz.f133.body.map (compile [0,1,2] Tryz.prog 6)):=⟨_,by conv=>lhs;cbv⟩
def Ud:List MR:=[.cell true 7 2]
theorem call133:ax Tryz.prog 133 6 Lm.m Ud:=Lm.call Tryz.func133 (by kernel_rfl)
def Gs:bz (Tryz.f134.body.map (compile [0,1,2,3,5,6,7,8,9,10,16,31] Tryz.prog 51)):=⟨_,by conv=>lhs;cbv⟩
def Ln:List MR:=[.cell true 7 6]
theorem call134:ax Tryz.prog 134 51 Gs.m Ln:=Gs.call Tryz.func134 (by kernel_rfl)
def Lo:bz (Tryz.f135.body.map (compile [0,1,2] Tryz.prog 6)):=⟨_,by conv=>lhs;cbv⟩
def Ue:List MR:=[.cell true 7 2]
theorem call135:ax Tryz.prog 135 6 Lo.m Ue:=Lo.call Tryz.func135 (by kernel_rfl)
def Lq:bz (Tryz.f151.body.map (compile [0,1,4,5,6,10,17,29,38] Tryz.prog 49)):=⟨_,by conv=>lhs;cbv⟩
def Uf:List MR:=[.cell true 4 4]
theorem call151:ax Tryz.prog 151 49 Lq.m Uf:=Lq.call Tryz.func151 (by kernel_rfl)
def Lr:bz (Tryz.f165.body.map (compile [0,1,4,5,6,19,27,40] Tryz.prog 48)):=⟨_,by conv=>lhs;cbv⟩
def Ug:List MR:=[.cell true 5 4]
theorem call165:ax Tryz.prog 165 48 Lr.m Ug:=Lr.call Tryz.func165 (by kernel_rfl)
def Ls:bz (Tryz.f166.body.map (compile [0,1,2] Tryz.prog 6)):=⟨_,by conv=>lhs;cbv⟩
def Uh:List MR:=[.cell true 7 2]
theorem call166:ax Tryz.prog 166 6 Ls.m Uh:=Ls.call Tryz.func166 (by kernel_rfl)
def Lu:bz (Tryz.f167.body.map (compile [0,1,4,5,10] Tryz.prog 20)):=⟨_,by conv=>lhs;cbv⟩
def Ui:List MR:=[.cell true 7 4]
theorem call167:ax Tryz.prog 167 20 Lu.m Ui:=Lu.call Tryz.func167 (by kernel_rfl)
def Lv:bz (Tryz.f168.body.map (compile [0,1,2] Tryz.prog 6)):=⟨_,by conv=>lhs;cbv⟩
def Uj:List MR:=[.cell true 7 2]
theorem call168:ax Tryz.prog 168 6 Lv.m Uj:=Lv.call Tryz.func168 (by kernel_rfl)
def Lw:bz (Tryz.f174.body.map (compile [0,1,4,5,6,9,19,43] Tryz.prog 56)):=⟨_,by conv=>lhs;cbv⟩
def Uk:List MR:=[.cell true 4 4]
theorem call174:ax Tryz.prog 174 56 Lw.m Uk:=Lw.call Tryz.func174 (by kernel_rfl)
def Ly:bz (Tryz.f184.body.map (compile [0,1,4,5,7,8,11,12,13,14,19,31,48] Tryz.prog 55)):=⟨_,by conv=>lhs;cbv⟩
def Ul:List MR:=[.cell true 7 4]
theorem call184:ax Tryz.prog 184 55 Ly.m Ul:=Ly.call Tryz.func184 (by kernel_rfl)
def Lz:bz (Tryz.f185.body.map (compile [0,2] Tryz.prog 33)):=⟨_,by conv=>lhs;cbv⟩
def Um:List MR:=[.t 2]
theorem call185:ax Tryz.prog 185 33 Lz.m Um:=Lz.call Tryz.func185 (by kernel_rfl)
def LC:bz (Tryz.f186.body.map (compile [0,1,4,5,6,15,22,29,34,38,45,52] Tryz.prog 67)):=⟨_,by conv=>lhs;cbv⟩
def Un:List MR:=[.cell true 7 4]
theorem call186:ax Tryz.prog 186 67 LC.m Un:=LC.call Tryz.func186 (by kernel_rfl)
def LD:bz (Tryz.f195.body.map (compile [0,1,4,5,6,9,24] Tryz.prog 50)):=⟨_,by conv=>lhs;cbv⟩
def Uo:List MR:=[.cell true 4 4]
theorem call195:ax Tryz.prog 195 50 LD.m Uo:=LD.call Tryz.func195 (by kernel_rfl)
def LF:bz (Tryz.f205.body.map (compile [0,1,4,5,6,19,27,40] Tryz.prog 48)):=⟨_,by conv=>lhs;cbv⟩
def Up:List MR:=[.cell true 7 4]
theorem call205:ax Tryz.prog 205 48 LF.m Up:=LF.call Tryz.func205 (by kernel_rfl)
end Go.Proofs.YteilijfligofdaaGreatDoor.Mc
namespace Go.Proofs.YteilijfligofdaaGreatDoor.Pg
open Go.AM
mutual
def af.tv:af->List TV
 | .mk k n p ks=>[.p (.i .i64 k),.p (.s n),.p (.i .i64 p),.s 4 (af.jT ks)]
def af.jT:List af->List (List TV)
 |[]=>[]
 |t::l=>t.tv::af.jT l
end
mutual
def ae.tv:ae->List TV
 | .mk k n u p ks=>[.p (.i .i64 k),.p (.s n),.p (.i .i64 u),.p (.i .i64 p),.s 5 (ae.jT ks)]
def ae.jT:List ae->List (List TV)
 |[]=>[]
 |t::l=>t.tv::ae.jT l
end
mutual
def aa.tv:aa->List TV
 | .mk k n u t p ks bf=>[.p (.i .i64 k),.p (.s n),.p (.i .i64 u),.p (.s t),.p (.i .i64 p),.s 7 (aa.jT ks),.s 12 (aa.Be bf)]
def aa.jT:List aa->List (List TV)
 |[]=>[]
 |t::l=>t.tv::aa.jT l
def ar.tv:ar->List TV
 | .mk p e=>p.tv++e.tv
def aa.Be:List ar->List (List TV)
 |[]=>[]
 |t::l=>t.tv::aa.Be l
end
theorem af.oU (l:List af):af.jT l=l.map af.tv:=by
 induction l with
 |nil=>rfl
 |cons t l ih=>rw[af.jT,ih];rfl
theorem ae.oU (l:List ae):ae.jT l=l.map ae.tv:=by
 induction l with
 |nil=>rfl
 |cons t l ih=>rw[ae.jT,ih];rfl
theorem aa.oU (l:List aa):aa.jT l=l.map aa.tv:=by
 induction l with
 |nil=>rfl
 |cons t l ih=>rw[aa.jT,ih];rfl
theorem aa.NH (l:List ar):aa.Be l=l.map ar.tv:=by
 induction l with
 |nil=>rfl
 |cons t l ih=>rw[aa.Be,ih];rfl
theorem af.b9 (t:af):t.tv.length=4:=by cases t;rw[af.tv];rfl
theorem ae.b9 (t:ae):t.tv.length=5:=by cases t;rw[ae.tv];rfl
theorem aa.b9 (t:aa):t.tv.length=7:=by cases t;rw[aa.tv];rfl
theorem ar.b9 (t:ar):t.tv.length=12:=by cases t;rw[ar.tv,List.length_append,ae.b9,aa.b9]
theorem yR:∀{a b:List TV},mT a→mT b→mT (a++b)
  |[],b,_,h=>h
  |t::a,b,h,k=>by
   rw[mT]at h;rw[List.cons_append,mT];exact⟨h.1,yR h.2 k⟩
theorem mJ {x:PV} {l:List TV} (h:mT l):mT (.p x::l):=by rw[mT,Rh];exact⟨trivial,h⟩
theorem C6 {sz:Nat} {r:List (List TV)} {l:List TV} (h:pZ sz r) (k:mT l):mT (.s sz r::l):=by rw[mT,Rh];exact⟨h,k⟩
theorem C7:mT []:=by rw[mT];trivial
mutual
theorem af.wf:∀t:af,mT t.tv
 | .mk k n p ks=>by rw[af.tv];exact mJ (mJ (mJ (C6 (af.IJ ks) C7)))
theorem af.IJ:∀l:List af,pZ 4 (af.jT l)
 |[]=>by rw[af.jT,pZ];trivial
 |t::l=>by rw[af.jT,pZ];exact⟨t.b9,t.wf,af.IJ l⟩
end
mutual
theorem ae.wf:∀t:ae,mT t.tv
 | .mk k n u p ks=>by rw[ae.tv];exact mJ (mJ (mJ (mJ (C6 (ae.IJ ks) C7))))
theorem ae.IJ:∀l:List ae,pZ 5 (ae.jT l)
 |[]=>by rw[ae.jT,pZ];trivial
 |t::l=>by rw[ae.jT,pZ];exact⟨t.b9,t.wf,ae.IJ l⟩
end
mutual
theorem aa.wf:∀t:aa,mT t.tv
 | .mk k n u t p ks bf=>by rw[aa.tv];exact mJ (mJ (mJ (mJ (mJ (C6 (aa.IJ ks) (C6 (aa.wfA bf) C7))))))
theorem aa.IJ:∀l:List aa,pZ 7 (aa.jT l)
 |[]=>by rw[aa.jT,pZ];trivial
 |t::l=>by rw[aa.jT,pZ];exact⟨t.b9,t.wf,aa.IJ l⟩
theorem ar.wf:∀t:ar,mT t.tv
 | .mk p e=>by rw[ar.tv];exact yR p.wf e.wf
theorem aa.wfA:∀l:List ar,pZ 12 (aa.Be l)
 |[]=>by rw[aa.Be,pZ];trivial
 |t::l=>by rw[aa.Be,pZ];exact⟨t.b9,t.wf,aa.wfA l⟩
end
end Go.Proofs.YteilijfligofdaaGreatDoor.Pg
namespace Go.Proofs.YteilijfligofdaaGreatDoor.Qp
open Go.AM Mc Pg
def cW (T:List Tok) (most:Nat) (s:PS):AO:=.var [yt T,iV s.i,iV most,iV s.d,iV s.c,iV s.ps]
theorem iD (T most s c) (h:rj c (cW T most s)):Tf c:=by
 simp only[cW,rj,List.mem_cons,List.not_mem_nil,or_false]at h;rcases h with rfl|rfl|rfl|rfl|rfl|rfl<;>exact bw _
section
variable {T:List Tok} {most e:Nat}
theorem lK:PF (cW T most) T e 84 [] (aaU T) tv:=by
 refine dm (iD T most) fun H p s hp hs=>?_
 have aF:decide ((s.i:Int)<(T.length:Int))=true:=by simp;exact hs.1
 have hg:=CE hs.1;refine call84 (by simp) ?_;simp only[go_sem,simprocAttr,TY,abm];refine ba ?_;simp only[go_sem,simprocAttr,qp hp,cW,List.length_map,aF,hg,Tok.cells];exact⟨_,rfl,aZ (dP (aD T s).cells)⟩
theorem jx:PF (cW T most) T e 32 [] (sy fun s=>!decide (s.c=0)) bV:=by
 refine dm (iD T most) fun H p s hp hs=>?_
 refine call32 (by simp) ?_;simp only[go_sem,simprocAttr,TU,abk,kP hp,cW];exact⟨[],by simp,aZ (bw _)⟩
theorem iY (k:Int):PF (cW T most) T e 91 [iV k] (sy (bp T k)) bV:=by
 refine dm (iD T most) fun H p s hp hs=>?_
 refine call91 (by simp) ?_;simp only[go_sem,simprocAttr,T8,abt];refine U (jx.nil hp hs) ?_;have eT:bp T k s=(decide (s.c=0)&&decide ((aD T s).k=k)):=rfl;rw[eT];cases h0:decide (s.c=0)
 ·simp only[go_sem,simprocAttr,h0,Bool.false_and,Bool.not_false,Bool.not_true]
  exact⟨[],by simp,aZ (bw _)⟩
 ·simp only[go_sem,simprocAttr,h0,Bool.true_and,Bool.not_false,Bool.not_true]
  refine U (lK.nil hp hs) ?_;simp only[go_sem,simprocAttr,Tok.cells];exact⟨[],by simp,aZ (bw _)⟩
theorem uT (x:List UInt8):PF (cW T most) T e 107 [sV x] (sy (aH T x)) bV:=by
 refine dm (iD T most) fun H p s hp hs=>?_
 refine call107 (by simp) ?_;simp only[go_sem,simprocAttr,Li,Ua];refine U (lK.nil hp hs) ?_;have eT:aH T x s=(decide (s.c=0)&&(decide ((aD T s).k=6)||decide ((aD T s).k=7))&&decide ((aD T s).t=x)):=rfl;rw[eT];simp only[go_sem,simprocAttr,qp hp,Tok.cells];refine U (jx H _ p s hp hs) ?_;cases h0:decide (s.c=0)
 ·simp only[go_sem,simprocAttr,h0,Bool.false_and,Bool.not_false,Bool.not_true]
  exact⟨_,rfl,aZ (bw _)⟩
 cases h6:decide ((aD T s).k=6)
 ·cases h7:decide ((aD T s).k=7)
  ·simp only[go_sem,simprocAttr,h0,h6,h7,Bool.or_self,Bool.and_false,Bool.false_and,Bool.not_false,Bool.not_true]
   exact⟨_,rfl,aZ (bw _)⟩
  ·simp only[go_sem,simprocAttr,h0,h6,h7,Bool.false_or,Bool.and_true,Bool.true_and,Bool.not_false,Bool.not_true]
   exact⟨_,rfl,aZ (bw _)⟩
 ·simp only[go_sem,simprocAttr,h0,h6,Bool.true_or,Bool.and_true,Bool.true_and,Bool.not_false,Bool.not_true]
  exact⟨_,rfl,aZ (bw _)⟩
theorem ix (aK:T.length<=1073741825) (x:List UInt8):PF (cW T most) T e 86 [sV x] (di T x) bV:=by
 refine dm (iD T most) fun H p s hp hs=>?_
 refine call86 (by simp) ?_;simp only[go_sem,simprocAttr,T0,abo];refine U ((uT x).nil hp hs) ?_;unfold di;cases h:aH T x s
 ·simp only[go_sem,simprocAttr,h,Bool.not_false]
  exact⟨[],by simp,aZ (bw _)⟩
 ·simp only[go_sem,simprocAttr,h,kP hp,cW,qS,ws aK hs,Bool.not_true]
  exact⟨[],by simp[aE],aZ (bw _)⟩
theorem Gt (c:Int):PF (cW T most) T e 92 [iV c] (CD (dI T c)) uV:=by
 refine dm (iD T most) fun H p s hp hs=>?_
 refine call92 (by simp) ?_;cases h0:decide (s.c=0)
 ·simp only[go_sem,simprocAttr,NG,T9,kP hp,cW,h0]
  rw[rq (of_decide_eq_false h0)];exact⟨[],by simp,aZ (mf _ (by simp))⟩
 ·simp only[go_sem,simprocAttr,NG,T9,kP hp,cW,h0]
  refine U (lK.nil hp hs) ?_;rw[iJ (of_decide_eq_true h0)];simp only[go_sem,simprocAttr,kP hp,cW,Tok.cells,qS];exact⟨[],by simp,aZ (mf _ (by simp))⟩
theorem xu (aK:T.length<=1073741825) (k:Int):PF (cW T most) T e 87 [iV k] (cU T k) sV:=by
 refine dm (iD T most) fun H p s hp hs=>?_
 have aF:decide ((s.i:Int)<(T.length:Int))=true:=by simp;exact hs.1
 have hg:=CE hs.1;have w1:wr .i64 (((s.i+1:Nat):Int)-1)=(s.i:Int):=by rw[ea (by omega) (by have:=hs.1;omega)];omega
 refine call87 (by simp) ?_;simp only[go_sem,simprocAttr,T4,abp];refine U ((iY k).nil hp hs) ?_;unfold cU;cases h:bp T k s
 ·simp only[go_sem,simprocAttr,h,Bool.not_false]
  refine U ((Gt 11).nil hp hs) ?_;simp only[go_sem,simprocAttr];exact⟨[],by simp,aZ (bw _)⟩
 ·simp only[go_sem,simprocAttr,h,kP hp,cW,qS,ws aK hs,Bool.not_true]
  refine ba ?_;simp only[go_sem,simprocAttr,kP hp,List.length_map,w1,aF,hg,Tok.cells];exact⟨[],by simp[aE],aZ (bw _)⟩
theorem LH {d:Nat} (h:¬most<d) (s:PS):cM T most d s=if s.c=0 then{s with d:=max s.d d}else s:=by unfold cM;rw[if_neg h]
theorem C8 (d:Nat):PF (cW T most) T e 83 [iV d] (fun s=>(decide ((cM T most d s).c=0),cM T most d s)) bV:=by
 refine dm (iD T most) fun H p s hp hs=>?_
 refine call83 (by simp) ?_;by_cases hd:most<d
 ·have d1:decide ((most:Int)<(d:Int))=true:=by simp;omega
  simp only[go_sem,simprocAttr,ND,TX,kP hp,cW,d1];refine U ((Gt 12).nil hp hs) ?_;have bx:=hs.step (mW T 12)
  have cK:(dI T 12 s).c≠0:=by
   by_cases h0:s.c=0
   ·rw[iJ h0];exact(by decide:(12:Int)≠0)
   ·rw[rq h0];exact h0
  have iN:cM T most d s=dI T 12 s:=by unfold cM;rw[if_pos hd];simp only[if_neg cK]
  rw[iN];simp only[go_sem,simprocAttr];refine U (jx.nil hp bx) ?_;simp only[go_sem,simprocAttr,dF cK,Bool.not_false,Bool.not_true];refine U (jx.nil hp bx) ?_;simp only[go_sem,simprocAttr,dF cK,Bool.not_false,Bool.not_true];exact⟨[],by rw[List.append_nil];rfl,aZ (bw _)⟩
 ·have d1:decide ((most:Int)<(d:Int))=false:=by simp;omega
  simp only[go_sem,simprocAttr,ND,TX,kP hp,cW,d1];refine U (jx.nil hp hs) ?_;rw[LH hd];by_cases h0:s.c=0
  ·rw[if_pos h0]
   simp only[go_sem,simprocAttr,dT h0,Bool.not_false,Bool.not_true,kP hp,cW,qS];have bx:Ok T e {s with d:=max s.d d}:=hs;have eM:(if(d:Int)>(s.d:Int)then(d:Int)else(s.d:Int))=((max s.d d:Nat):Int):=by split <;>omega
   rw[eM];refine U ((jx (most:=most)).nil hp bx) ?_;simp only[go_sem,simprocAttr,dT h0,Bool.not_false,Bool.not_true];exact⟨[],by rw[List.append_nil];rfl,aZ (bw _)⟩
  ·rw[if_neg h0]
   simp only[go_sem,simprocAttr,dF h0,Bool.not_false,Bool.not_true,kP hp,cW,qS];refine U (jx.nil hp hs) ?_;simp only[go_sem,simprocAttr,dF h0,Bool.not_false,Bool.not_true];exact⟨[],by rw[List.append_nil];rfl,aZ (bw _)⟩
def xv (T:List Tok) (ws:List (List UInt8)) (s:PS):PS:=ws.foldl (fun s w=>aS T w s) s
theorem iy (hT:bH T) (aK:T.length<=1073741825) (ws:List (List UInt8)) (hw:ws.length<=100) {H A:List AO} {p id ver:Nat} {s:PS} (hp:p<H.length) (hs:Ok T e s) (hid:id≠p) (hi:∀c,(H.set p c++A)[id]?=some (.rows 1 ver (ws.map fun w=>[sV w]))):
  al Tryz.prog 88 [.ptr p 0,.gs id ver 0 ws.length] (H.set p (cW T most s)++A) (aP (.dK []) (H.set p (cW T most (xv T ws s))++A)):=by
 refine call88 (by simp) ?_;simp only[go_sem,simprocAttr,T5,abq];intro _;refine⟨Nat×PS,[0,6,7,8],fun x st=>(x.1<=ws.length/\Ok T e x.2/\xv T (ws.drop x.1) x.2=xv T ws s)/\st=⟨[(0,.ptr p 0),(6,.gs id ver 0 ws.length),(7,iV ws.length),(8,iV x.1)],[],H.set p (cW T most x.2)++A⟩,fun x=>ws.length-x.1,⟨(0,s),?_⟩,?_⟩
 ·simp only[go_sem,simprocAttr]
  exact⟨Nat.zero_le _,hs⟩
 ·rintro⟨j,s'⟩ _ ⟨⟨hj,lM,he⟩,rfl⟩
  simp only at hj lM he⊢;have IK:wr .i64 ((j:Int)+1)=((j+1:Nat):Int):=cH _ (by omega);by_cases aF:j<ws.length
  ·have d1:decide ((j:Int)<(ws.length:Int))=true:=by simp;omega
   have fZ:(ws.map fun w=>[sV w])[j]?=some [sV ws[j]]:=by simp[aF]
   have d2:0+j=j:=by omega
   simp only[go_sem,simprocAttr,d1,hi,fZ,Option.map_some];refine⟨by omega,?_⟩;refine U (ix aK ws[j] H _ p s' hp lM) ?_;have hdr:ws.drop j=ws[j]::ws.drop (j+1):=List.drop_eq_getElem_cons aF;have YB:xv T (ws.drop (j+1)) (aS T ws[j] s')=xv T ws s:=by rw[<-he,hdr];rfl
   have bt:=lM.step (aG hT ws[j]);unfold di;cases hg:aH T ws[j] s'
   ·simp only[go_sem,simprocAttr,hg,Bool.not_false,Bool.not_true]
    refine U (Gt 11 H _ p s' hp lM) ?_;simp only[go_sem,simprocAttr,IK];have ew:aS T ws[j] s'=dI T 11 s':=by unfold aS;rw[hg];rfl
    rw[ew]at YB bt;exact⟨(j+1,dI T 11 s'),⟨⟨aF,bt,YB⟩,rfl⟩,by simp only;omega⟩
   ·simp only[go_sem,simprocAttr,hg,Bool.not_false,Bool.not_true,IK]
    have ew:aS T ws[j] s'=aE s':=by unfold aS;rw[hg];rfl
    rw[ew]at YB bt;exact⟨(j+1,aE s'),⟨⟨aF,bt,YB⟩,rfl⟩,by simp only;omega⟩
  ·have d1:decide ((j:Int)<(ws.length:Int))=false:=by simp;omega
   simp only[go_sem,simprocAttr,d1];have:ws.drop j=[]:=by simp;omega
   rw[this]at he;rw[<-he];exact⟨rfl,rfl⟩
theorem C9:PF (cW T most) T e 185 [] (sy (dW T)) bV:=by
 refine dm (iD T most) fun H p s hp hs=>?_
 refine call185 (by simp) ?_;simp only[go_sem,simprocAttr,Lz,Um];unfold dW;refine U ((iY 1).nil hp hs) ?_;cases h1:bp T 1 s;rotate_left
 ·simp only[go_sem,simprocAttr,h1,Bool.true_or]
  exact⟨[],by simp,aZ (bw _)⟩
 simp only[go_sem,simprocAttr,h1,Bool.false_or];refine U ((iY 2).nil hp hs) ?_;cases h2:bp T 2 s;rotate_left
 ·simp only[go_sem,simprocAttr,h2,Bool.true_or]
  exact⟨[],by simp,aZ (bw _)⟩
 simp only[go_sem,simprocAttr,h2,Bool.false_or];refine U ((iY 3).nil hp hs) ?_;cases h3:bp T 3 s;rotate_left
 ·simp only[go_sem,simprocAttr,h3,Bool.true_or]
  exact⟨[],by simp,aZ (bw _)⟩
 simp only[go_sem,simprocAttr,h3,Bool.false_or];refine U ((iY 4).nil hp hs) ?_;cases h4:bp T 4 s;rotate_left
 ·simp only[go_sem,simprocAttr,h4,Bool.true_or]
  exact⟨[],by simp,aZ (bw _)⟩
 simp only[go_sem,simprocAttr,h4,Bool.false_or];refine U ((uT [116,114,117,101]).nil hp hs) ?_;cases h5:aH T [116,114,117,101] s;rotate_left
 ·simp only[go_sem,simprocAttr,h5,Bool.true_or]
  exact⟨[],by simp,aZ (bw _)⟩
 simp only[go_sem,simprocAttr,h5,Bool.false_or];refine U ((uT [102,97,108,115,101]).nil hp hs) ?_;cases h6:aH T [102,97,108,115,101] s;rotate_left
 ·simp only[go_sem,simprocAttr,h6,Bool.true_or]
  exact⟨[],by simp,aZ (bw _)⟩
 simp only[go_sem,simprocAttr,h6,Bool.false_or];refine U ((uT [114,101,97,100]).nil hp hs) ?_;cases h7:aH T [114,101,97,100] s;rotate_left
 ·simp only[go_sem,simprocAttr,h7,Bool.true_or]
  exact⟨[],by simp,aZ (bw _)⟩
 simp only[go_sem,simprocAttr,h7,Bool.false_or];refine U ((uT [40]).nil hp hs) ?_;simp only[go_sem,simprocAttr];exact⟨[],by simp,aZ (bw _)⟩
theorem agB:PF (cW T most) T e 31 [] (CD (iU T)) uV:=by
 refine dm (iD T most) fun H p s hp hs=>?_
 refine call31 (by simp) ?_;simp only[go_sem,simprocAttr,TT,abj];refine U ((iY 8).nil hp hs) ?_;unfold iU;cases h:bp T 8 s
 ·simp only[go_sem,simprocAttr,h,Bool.not_false,Bool.not_true]
  refine U ((Gt 11).nil hp hs) ?_;simp only[go_sem,simprocAttr];exact⟨[],by simp,aZ (mf _ (by simp))⟩
 ·simp only[go_sem,simprocAttr,h,Bool.not_false,Bool.not_true]
  exact⟨[],by simp,aZ (mf _ (by simp))⟩
end
end Go.Proofs.YteilijfligofdaaGreatDoor.Qp
namespace Go.Proofs.YteilijfligofdaaGreatDoor.Qp
open Go.AM Mc Pg
theorem Gu {H:List AO} {n:Nat} (hn:H.length=n) (A B:List AO) (p:Nat) (c:AO) (k:Nat):(H.set p c++(A++B))[n+A.length+k]?=B[k]?:=by subst hn;exact pO H A B p c k
theorem wz {H:List AO} {n:Nat} (hn:H.length=n) (A B:List AO) (p:Nat) (c:AO):(H.set p c++(A++B))[n+A.length]?=B[0]?:=Gu hn A B p c 0
theorem gh (T w s):xv T [w] s=aS T w s:=rfl
theorem YC (T w w' s):xv T [w,w'] s=aS T w' (aS T w s):=rfl
structure LG (α:Type)where
 j:Nat
 s:PS
 acc:List α
 rs:List (List AV)
 a:AV
 H:List AO
 A:List AO
structure LO {α:Type} (pv:PS->AO) (T:List Tok) (e b n p:Nat) (K:List AO) (N:List Nat) (sz:Nat) (tv:α->List TV) (g:PS->Bool) (m:PM α) (Rl:List α) (Rs:PS) (x:LG α):Prop where
 ok:Ok T e x.s
 ln:x.acc.length<=x.s.i+1
 fu:x.s.c=0->T.length-x.s.i<=x.j
 rl:x.acc++(many g m x.j x.s).1=Rl
 re:(many g m x.j x.s).2=Rs
 hn:x.H.length=n
 kp:Kp b K x.H
 fr:∃M,Fr b x.H M/\nR ((many g m x.j x.s).1.map tv)<=M
 env:Env b n (x.H.set p (pv x.s)++x.A) (x.acc.map tv).flatten x.rs.flatten
 len:x.rs.length=x.acc.length
 sz1:∀r∈x.rs,r.length=sz
 own:iG (x.H.set p (pv x.s)++x.A) x.a sz x.rs
 ids:∀id v o m,x.a=.gs id v o m->n<=id/\id-n∉N
 nm:∀k∈N,k<x.A.length
section
variable {α:Type} {pv:PS->AO} {T:List Tok} {e b n p sz:Nat} {K:List AO} {N:List Nat} {tv:α->List TV} {g:PS->Bool} {m:PM α} {Rl:List α} {Rs:PS}
theorem LO.start {H A:List AO} {s:PS} {M:Nat} (hs:Ok T e s) (h:many g m T.length s=(Rl,Rs)) (hn:H.length=n) (hk:Kp b K H) (hF:Fr b H M) (hM:nR (Rl.map tv)<=M) (hb:∀k∈N,k<A.length):LO pv T e b n p K N sz tv g m Rl Rs ⟨T.length,s,[],[],.p .nl,H,A⟩:=
 ⟨hs,Nat.zero_le _,fun _=>by simp only;omega,by simp only[h];rfl,by simp only[h],hn,hk,⟨M,hF,by simp only[h];exact hM⟩,Env.nil _ _ _,rfl,by simp,.inl ⟨rfl,rfl⟩,(fun _ _ _ _ e=>by cases e),hb⟩
theorem LO.nx {H A:List AO} {s:PS} {M i ver:Nat} {x:α} {cs:List AV} (hs:Ok T e s) (h:many g m T.length s=(Rl,Rs)) (hn:H.length=n) (hk:Kp b K H) (hF:Fr b H M) (hM:nR (Rl.map tv)<=M) (hE:Env b n (H.set p (pv s)++A) (tv x) cs) (eN:cs.length=sz) (hi:A[i]?=some (.rows sz ver [cs])) (hN:i∉N) (hb:∀k∈N,k<A.length):
  LO pv T e b n p K N sz tv g m (x::Rl) Rs ⟨T.length,s,[x],[cs],.gs (n+i) ver 0 1,H,A⟩:=
 ⟨hs,by simp,fun _=>by simp only;omega,by simp only[h];rfl,by simp only[h],hn,hk,⟨M,hF,by simp only[h];exact hM⟩,by simpa using hE,rfl,by simpa using eN,.inr ⟨_,_,rfl,by simp only;rw[aj hn];exact hi⟩,(fun _ _ _ _ e=>by cases e;exact⟨by omega,by rwa[Nat.add_sub_cancel_left]⟩),hb⟩
theorem LO.stop {x:LG α} (h:LO pv T e b n p K N sz tv g m Rl Rs x) (hg:g x.s=false):x.acc=Rl/\x.s=Rs:=by
 have h1:=h.rl;have h2:=h.re;rw[kC hg]at h1 h2;exact⟨by simpa using h1,h2⟩
theorem LO.succ {x:LG α} (h:LO pv T e b n p K N sz tv g m Rl Rs x) (ho:eI T g) (hg:g x.s=true):∃j',x.j=j'+1:=⟨x.j-1,by have:=h.fu (ho x.s hg).1;have:=h.ok.1;omega⟩
theorem LO.room {x:LG α} (h:LO pv T e b n p K N sz tv g m Rl Rs x) (ho:eI T g) (hg:g x.s=true) {y:α} {s2:PS} (hm:m x.s=(y,s2)):∃M,Fr b x.H M/\nC (tv y)+nR ((many g m (x.j-1) s2).1.map tv)<=M:=by
 obtain⟨j',hj⟩:=h.succ ho hg;obtain⟨M,h1,h2⟩:=h.fr;refine⟨M,h1,?_⟩;rw[hj,many,if_pos hg,hm]at h2;rw[hj,Nat.add_sub_cancel];simpa[nR]using h2
theorem LO.next {x:LG α} (h:LO pv T e b n p K N sz tv g m Rl Rs x) (ho:eI T g) (hg:g x.s=true) {y:α} {s2:PS} (hm:m x.s=(y,s2)) (bt:Ok T e s2) (cG:x.s.i<s2.i) {H1 A' A'':List AO} {M id ver:Nat} {cs:List AV} (ah:H1.length=n) (dL:Kp b x.H H1) (fJ:Fr b H1 M) (hM:nR ((many g m (x.j-1) s2).1.map tv)<=M)
  (cy:Env b n (H1.set p (pv s2)++A'') ((x.acc.map tv).flatten++tv y) (x.rs.flatten++cs)) (gU:cs.length=sz)
  (k1:(H1.set p (pv s2)++A')[id]?=some (.rows sz ver (x.rs++[cs]))) (k2:n<=id/\id-n∉N) (k3:∀(k:Nat) (o:AO),k∉N->A'[k]?=some o->A''[k]?=some o) (k4:∀k∈N,k<A''.length):
  LO pv T e b n p K N sz tv g m Rl Rs ⟨x.j-1,s2,x.acc++[y],x.rs++[cs],.gs id ver 0 (x.rs.length+1),H1,A''⟩:=by
 obtain⟨j',hj⟩:=h.succ ho hg;have h1:=h.rl;have h2:=h.re;rw[hj,many,if_pos hg,hm]at h1 h2;have C1:=h.ln;have hi:=h.ok.1;refine⟨bt,by simp;omega,fun hc=>?_,by rw[hj,Nat.add_sub_cancel];simpa using h1,by rw[hj,Nat.add_sub_cancel];exact h2,ah,h.kp.trans dL,⟨M,fJ,hM⟩,?_,by simp[h.len],?_,.inr ⟨id,ver,by simp,?_⟩,(fun jC v o m' e=>by cases e;exact k2),k4⟩
 ·have:=h.fu (ho x.s hg).1;simp only;omega
 ·simpa using cy
 ·intro r hr
  rcases List.mem_append.1 hr with hr|hr
  ·exact h.sz1 r hr
  ·simp at hr;rw[hr];exact gU
 ·obtain⟨q,hq⟩:=Nat.le.dest k2.1
  subst hq;rw[aj ah]at k1;simp only;rw[aj ah];exact k3 _ _ (by have:=k2.2;rwa[Nat.add_sub_cancel_left]at this) k1
theorem LO.app {x:LG α} {J:St->Prop} {L T':En} {d:MD} {bytes:Nat} {c:AO} {H1 B:List AO} {y:List AV} (h:LO pv T e b n p K N sz tv g m Rl Rs x) (ah:H1.length=n) (hB:∀(k:Nat) (o:AO),x.A[k]?=some o->B[k]?=some o) (aK:T.length<=1073741825) (Gl:bytes<=1000)
  (k:∀id ver A',(H1.set p c++A')[id]?=some (.rows sz ver (x.rs++[y]))->(n<=id/\id-n∉N)->(∀k:Nat,k∈N->A'[k]?=x.A[k]?)->J (St.put ⟨L,T',H1.set p c++A'⟩ d (.gs id ver 0 (x.rs.length+1)))):
  lR sz bytes x.a [y] d J ⟨L,T',H1.set p c++B⟩:=by
 have C1:=h.ln;have hi:=h.ok.1;have hl:=h.len
 have Ld:∀k∈N,k<B.length:=fun k hk=>by
  have yL:=h.nm k hk;exact aT (hB k x.A[k] (by simp[yL]))
 have NI:∀id v o m,x.a=.gs id v o m->H1.length<=id/\id-H1.length∉N:=by rw[ah];exact h.ids
 have lS:iG (H1.set p c++B) x.a sz x.rs:=by
  rcases h.own with h1|⟨id,ver,e1,h1⟩
  ·exact .inl h1
  ·obtain⟨q1,q2⟩:=h.ids _ _ _ _ e1
   obtain⟨q,rfl⟩:=Nat.le.dest q1;rw[aj h.hn]at h1;exact .inr ⟨_,ver,e1,by rw[aj ah];exact hB _ _ h1⟩
 refine C0 (rs:=x.rs) (ys:=[y]) lS Ld NI (by rw[hl];simp;exact Nat.le_trans (Nat.mul_le_mul (show x.acc.length+1<=1073741827 by omega) Gl) (by decide)) (by rw[hl];simp;omega) ?_;intro id ver A' k1 k2 k3;rw[ah]at k2;refine k id ver A' k1 k2 (fun j hj=>?_);rw[k3 j hj];have jE:=h.nm j hj;rw[hB j x.A[j] (by simp[jE])];simp[jE]
theorem LO.fin {x:LG α} (h:LO pv T e b n p K N sz tv g m Rl Rs x) (hp:p<b) (hb:b<=n) (h0:x.acc≠[]) (Uq:∀a,(tv a).length=sz) {c:AO} {B:List AO} (hk:∀(k:Nat) (o:AO),k∉N->x.A[k]?=some o->B[k]?=some o):∃u,Env b u (x.H.set p c++B) [.s sz (x.acc.map tv)] [x.a]:=by
 rcases h.own with⟨h1,h2⟩|⟨id,ver,e1,h1⟩
 ·have:=h.len;rw[h2]at this;exact(h0 (List.length_eq_zero_iff.1 this.symm)).elim
 ·obtain⟨q1,q2⟩:=h.ids _ _ _ _ e1
  obtain⟨q,rfl⟩:=Nat.le.dest q1;rw[Nat.add_sub_cancel_left]at q2;rw[aj h.hn]at h1;rw[e1];exact⟨_,(h.env.base h.hn hp).node (by rw[aj h.hn];exact hk _ _ q2 h1) (by omega) (by omega) (by rw[h.len];simp) (by intro r hr;obtain⟨a,_,rfl⟩:=List.mem_map.1 hr;exact Uq a) h.sz1 (by simpa using h0)⟩
theorem LO.shape {x:LG α} (h:LO pv T e b n p K N sz tv g m Rl Rs x) (h0:x.acc≠[]):∃id ver,x.a=.gs id ver 0 x.rs.length:=by
 rcases h.own with⟨h1,h2⟩|⟨id,ver,e1,h1⟩
 ·have:=h.len;rw[h2]at this;exact(h0 (List.length_eq_zero_iff.1 this.symm)).elim
 ·exact⟨id,ver,e1⟩
theorem LO.one {x:LG α} (h:LO pv T e b n p K N sz tv g m Rl Rs x) {y:α} (h0:x.acc=[y]):∃cs q ver,x.rs=[cs]/\x.a=.gs (n+q) ver 0 1/\q∉N/\x.A[q]?=some (.rows sz ver [cs])/\cs.length=sz/\Env b n (x.H.set p (pv x.s)++x.A) (tv y) cs:=by
 have hl:=h.len;rw[h0]at hl;obtain⟨cs,gU⟩:=List.length_eq_one_iff.1 hl;rcases h.own with⟨h1,h2⟩|⟨id,ver,e1,h1⟩
 ·rw[h2]at hl;cases hl
 ·obtain⟨q1,q2⟩:=h.ids _ _ _ _ e1
  obtain⟨q,rfl⟩:=Nat.le.dest q1;rw[Nat.add_sub_cancel_left]at q2;rw[aj h.hn,gU]at h1;have hE:=h.env;rw[h0,gU]at hE;exact⟨cs,q,ver,gU,by rw[e1,gU];rfl,q2,h1,h.sz1 cs (by rw[gU];simp),by simpa using hE⟩
end
theorem agC {r:List AV} (h:r.length=4):∃a b c d,r=[a,b,c,d]:=by match r,h with|[a,b,c,d],_=>exact⟨_,_,_,_,rfl⟩
theorem agD {r:List AV} (h:r.length=5):∃a b c d e,r=[a,b,c,d,e]:=by match r,h with|[a,b,c,d,e],_=>exact⟨_,_,_,_,_,rfl⟩
theorem Ur {r:List AV} (h:r.length=7):∃a b c d e f g,r=[a,b,c,d,e,f,g]:=by match r,h with|[a,b,c,d,e,f,g],_=>exact⟨_,_,_,_,_,_,_,rfl⟩
def iz (T:List Tok) (most e f:Nat) (xs:List AV) {α:Type} (m:PM α) (tv:α->List TV):Prop:=∀p,PX (cW T most) T e f (.ptr p 0::xs) (fun _=>True) p m tv
theorem iq {T:List Tok} {most e f:Nat} {xs:List AV} {α:Type} {m:PM α} {tv:α->List TV}
  (h:∀(p:Nat) (K:List AO) (b n:Nat) (s:PS),K.length=n->p<b->b<=n->Ok T e s->Fr b K (nC (tv (m s).1))->al Tryz.prog f (.ptr p 0::xs) (K.set p (cW T most s)) (Res K b p (cW T most (m s).2) (tv (m s).1))):iz T most e f xs m tv:=
 fun p=>Ai (iD T most) (fun _ _ _ _=>trivial) fun K b n s hn hp hb hs _ hF=>h p K b n s hn hp hb hs hF
theorem jB (b u:Nat) (X:List AO) (k:Int) (nm:List UInt8) (un q:Int):Env b u X (ae.tv (.mk k nm un q [])) [iV k,sV nm,iV un,iV q,.p .nl]:=by
 rw[ae.tv,ae.jT];exact(((Env.nl1.pc _).pc _).pc _).pc _
theorem lL {b u:Nat} {X:List AO} {k:Int} {nm:List UInt8} {un q:Int} {l:List ae} {a:AV} (h:Env b u X [.s 5 (l.map ae.tv)] [a]):Env b u X (ae.tv (.mk k nm un q l)) [iV k,sV nm,iV un,iV q,a]:=by
 rw[ae.tv,ae.oU];exact(((h.pc _).pc _).pc _).pc _
theorem Env.td {b u:Nat} {X:List AO} {ts:List TV} {ds cs:List AV} {k:Int} {nm:List UInt8} {un q:Int} {l:List ae} (h:Env b u X (ts++ae.tv (.mk k nm un q l)) (ds++cs)) (hl:ds.length=ts.length):∃c,cs=[iV k,sV nm,iV un,iV q,c]:=by
 obtain⟨ids,h1,_⟩:=h;obtain⟨c1,c2,i,j,e1,_,h3,h4⟩:=iX h1;obtain⟨rfl,rfl⟩:=List.append_inj e1 (by rw[h3.len];exact hl);rw[ae.tv]at h4;simp only[bj,fq]at h4;obtain⟨_,_,_,_,rfl,_,⟨rfl,_⟩,_,_,_,_,rfl,_,⟨rfl,_⟩,_,_,_,_,rfl,_,⟨rfl,_⟩,_,_,_,_,rfl,_,⟨rfl,_⟩,c,_,_,_,rfl,_,_,rfl,_⟩:=h4;exact⟨c,rfl⟩
theorem qy (k:Int) (nm:List UInt8) (un q:Int) (l:List ae):nC (ae.tv (.mk k nm un q l))=nK (l.map ae.tv):=by
 rw[ae.tv,ae.oU];simp[nC,nT]
section
variable {T:List Tok} {most e:Nat} (hT:bH T) (aK:T.length<=1073741825)
include hT aK
theorem Us {d:Nat} (hd:d<=1099511627776) {pat:PM ae} (hP:iz T most e 89 [iV (d+1:Nat)] pat ae.tv) (sP:ab T pat):iz T most e 165 [iV d] (oQ T T.length pat) ae.tv:=by
 refine iq fun p K b n s hn hp hb hs hF=>?_
 have bS:p<K.length:=by omega
 have oz:wr .i64 ((d:Int)+1)=((d+1:Nat):Int):=cH _ (by omega);refine call165 (by simp) ?_;simp only[go_sem,simprocAttr,aj hn,aA hn,ay hn,aB hn,hn,hn,Lr,Ug];refine U (lK K _ p s bS hs) ?_;simp only[go_sem,simprocAttr,aj hn,aA hn,ay hn,aB hn,hn,hn,Tok.cells];refine U (iy hT aK [[40]] (by decide) bS hs (by omega) (fun c=>by rw[aj hn];rfl)) ?_;simp only[go_sem,simprocAttr,aj hn,aA hn,ay hn,aB hn,hn,hn,gh];have bx:=hs.step (aG hT [40]);have e0:oQ T T.length pat s=bg (aH T [41]) (aO (.mk 5 [] 0 (aD T s).p [])) (dU (fun s=>!decide (s.c=0)) (aO (.mk 5 [] 0 (aD T s).p [])) (az pat fun a=>az (many (aH T [44]) (bM pat) T.length) fun l=>cg (aS T [41]) (aO (if l=[]then a else .mk 6 [] 0 (aD T s).p (a::l))))) (aS T [40] s):=rfl;rw[e0]at hF⊢;generalize (aD T s).p=tp at *;generalize aS T [40] s=s1 at *;refine U (ix aK [41] K _ p s1 bS bx) ?_;unfold di;cases jR:aH T [41] s1;rotate_left
 ·rw[aQ jR]
  simp only[go_sem,simprocAttr,aj hn,aA hn,ay hn,aB hn,hn,hn,jR];exact⟨_,K,_,0,rfl,rfl,Kp.rfl,jB _ _ _ _ _ _ _⟩
 rw[aU jR]at hF⊢;simp only[go_sem,simprocAttr,aj hn,aA hn,ay hn,aB hn,hn,hn,jR];refine U (jx K _ p s1 bS bx) ?_;cases hc:decide (s1.c=0)
 ·rw[fE (by simp[hc])]
  simp only[go_sem,simprocAttr,aj hn,aA hn,ay hn,aB hn,hn,hn,hc,Bool.not_false,Bool.not_true];exact⟨_,K,_,0,rfl,rfl,Kp.rfl,jB _ _ _ _ _ _ _⟩
 rw[jj (by simp[hc])]at hF⊢;simp only[go_sem,simprocAttr,aj hn,aA hn,ay hn,aB hn,hn,hn,hc,oz,Bool.not_false,Bool.not_true];rcases hq:pat s1 with⟨⟨k1,n1,u1,q1,l1⟩,s2⟩
 have bt:=bx.run sP;rw[hq]at bt;rcases hR:many (aH T [44]) (bM pat) T.length s2 with⟨Rl,Rs⟩
 have e1:(az pat fun a=>az (many (aH T [44]) (bM pat) T.length) fun l=>cg (aS T [41]) (aO (if l=[]then a else .mk 6 [] 0 tp (a::l)))) s1=(if Rl=[]then .mk k1 n1 u1 q1 l1 else .mk 6 [] 0 tp (.mk k1 n1 u1 q1 l1::Rl),aS T [41] Rs):=by rw[aN,hq,aN,hR];rfl
 rw[e1]at hF⊢
 have p6:nC (ae.tv (.mk k1 n1 u1 q1 l1))+nR (Rl.map ae.tv)<=nC (ae.tv (if Rl=[]then .mk k1 n1 u1 q1 l1 else .mk 6 [] 0 tp (.mk k1 n1 u1 q1 l1::Rl))):=by
  split
  ·rename_i h0;subst h0;simp[nR]
  ·rw[qy 6,List.map_cons,nK];omega
 generalize YD:nC (ae.tv (if Rl=[]then .mk k1 n1 u1 q1 l1 else .mk 6 [] 0 tp (.mk k1 n1 u1 q1 l1::Rl)))=NN at hF p6;obtain⟨H1,kj,ah,dL,fJ,lP,_,cy,bZ⟩:=(hP p).use ae.wf hq hn hp hb bx hF (by omega);refine U (bZ _ trivial) ?_;have cN:=fun A A'=>cy [] [] A A' (Env.nil _ _ _)
 obtain⟨c1,rfl⟩:=(cN [] []).td rfl;simp only[go_sem,simprocAttr,aj ah,aA ah,ay ah,aB ah,ah,ah,Nat.add_zero];have fZ:∀(c:AO) (A:List AO),(H1.set p c++A)[n+3]?=A[3]?:=fun c A=>aj ah A p c 3
 refine⟨LG ae,[0,1,4,5,6],fun x st=>(LO (cW T most) T e b n p K [0,1] 5 ae.tv (aH T [44]) (bM pat) (.mk k1 n1 u1 q1 l1::Rl) Rs x/\x.A[0]?=some (.var [iV 0,sV [],iV 0,iV 0,.p .nl])/\x.A[1]?=some (.var [iV 5,sV [],iV 0,iV tp,.p .nl]))/\
   st=⟨[(0,.ptr p 0),(1,iV d),(4,.ptr n 0),(5,.ptr (n+1) 0),(6,x.a)],[],x.H.set p (cW T most x.s)++x.A⟩,fun x=>T.length-x.s.i,
  ⟨⟨T.length,s2,[.mk k1 n1 u1 q1 l1],[[iV k1,sV n1,iV u1,iV q1,c1]],.gs (n+3) 0 0 1,H1,[.var [iV 0,sV [],iV 0,iV 0,.p .nl],.var [iV 5,sV [],iV 0,iV tp,.p .nl],.rows 1 0 [[sV [40]]],.rows 5 0 [[iV k1,sV n1,iV u1,iV q1,c1]]]⟩,?_⟩,?_⟩
 ·refine⟨⟨LO.nx bt hR ah dL fJ (by omega) (cN [] _) rfl rfl (by decide) (by simp),rfl,rfl⟩,?_⟩
  simp only[go_sem,simprocAttr,aj ah,aA ah,ay ah,aB ah,ah,ah]
 ·rintro x _ ⟨⟨hL,i0,i1⟩,rfl⟩
  have km:p<x.H.length:=by rw[hL.hn];omega
  simp only[go_sem,simprocAttr,aj hL.hn,aA hL.hn,ay hL.hn,aB hL.hn,hL.hn,hL.hn];refine U (ix aK [44] x.H _ p x.s km hL.ok) ?_;unfold di;cases hg:aH T [44] x.s
  ·obtain⟨ha,hx⟩:=hL.stop hg
   simp only[go_sem,simprocAttr,aj hL.hn,aA hL.hn,ay hL.hn,aB hL.hn,hL.hn,hL.hn,hg];refine U (iy hT aK [[41]] (by decide) km hL.ok (by omega) (fun c=>by rw[wz hL.hn];rfl)) ?_;simp only[go_sem,simprocAttr,aj hL.hn,aA hL.hn,ay hL.hn,aB hL.hn,hL.hn,hL.hn,gh];subst hx;have nj:∀B,(x.A++B)[0]?=some (.var [iV 0,sV [],iV 0,iV 0,.p .nl]):=fun B=>ag i0 B
   have xw:∀B,(x.A++B)[1]?=some (.var [iV 5,sV [],iV 0,iV tp,.p .nl]):=fun B=>ag i1 B
   have hz:∀B o,((x.A++B).set 0 o)[0]?=some o:=fun B o=>aR (nj B)
   have B2:∀B o,((x.A++B).set 1 o)[1]?=some o:=fun B o=>aR (xw B)
   by_cases tC:Rl=[]
   ·subst tC
    obtain⟨cs,q,ver,r1,r2,r3,r4,r5,r6⟩:=hL.one ha;obtain⟨d1,d2,d3,d4,d5,rfl⟩:=agD r5;have r4':∀B,(x.A++B)[q]?=some (.rows 5 ver [[d1,d2,d3,d4,d5]]):=fun B=>ag r4 B
    rw[r2,if_pos rfl];simp only[go_sem,simprocAttr,aj hL.hn,aA hL.hn,ay hL.hn,aB hL.hn,hL.hn,hL.hn,r4',nj,hz,Nat.add_zero];intro _;exact⟨_,x.H,_,n,rfl,rfl,hL.kp,r6.base hL.hn hp⟩
   ·have LI:∀(o1 o2:AO) (B:List AO) (k:Nat) (o:AO),k∉[0,1]->x.A[k]?=some o->(((x.A++B).set 1 o1).set 0 o2)[k]?=some o:=fun o1 o2 B k o hk ho=>by
     simp at hk;rw[List.getElem?_set_ne (by omega),List.getElem?_set_ne (by omega)];exact ag ho _
    obtain⟨u,hE⟩:=hL.fin hp hb (by rw[ha];simp) ae.b9 (c:=cW T most (aS T [41] x.s)) (LI (.var [iV 6,sV [],iV 0,iV tp,x.a]) (.var [iV 6,sV [],iV 0,iV tp,x.a]) [.rows 1 0 [[sV [41]]]]);obtain⟨id,ver,yS⟩:=hL.shape (by rw[ha];simp);have hlen:x.rs.length=Rl.length+1:=by rw[hL.len,ha];rfl
    have d1:decide (((Rl.length+1:Nat):Int)=1)=false:=by
     have:Rl.length≠0:=fun h=>tC (List.length_eq_zero_iff.1 h)
     simp;omega
    rw[hlen]at yS;rw[if_neg tC];rw[yS]at hE⊢;have h00:∀B o o',(((x.A++B).set 1 o).set 0 o')[0]?=some o':=fun B o o'=>aR (aM (nj B) (by decide))
    have Ut:∀B o,((x.A++B).set 1 o)[0]?=some (.var [iV 0,sV [],iV 0,iV 0,.p .nl]):=fun B o=>aM (nj B) (by decide)
    simp only[go_sem,simprocAttr,aj hL.hn,aA hL.hn,ay hL.hn,aB hL.hn,hL.hn,hL.hn,d1,xw,nj,B2,h00,Ut,List.set_set];intro _;rw[ha]at hE;exact⟨_,x.H,_,u,rfl,rfl,hL.kp,lL hE⟩
  ·obtain⟨j,hj⟩:=hL.succ (aw T _) hg
   have dB:=hL.ok.aE hT (cB hg).2;have eA:=dB.run sP;have cG:=(gR.aE hT sP hL.ok.1 (cB hg).2).1;rcases fD:pat (aE x.s)with⟨⟨k3,n3,u3,q3,l3⟩,s3⟩
   rw[fD]at eA cG;obtain⟨M,oV,hM⟩:=hL.room (aw T _) hg (y:=.mk k3 n3 u3 q3 l3) (s2:=s3) fD;obtain⟨H2,yT,bd,oC,oD,Aj,_,iB,call2⟩:=(hP p).use ae.wf fD hL.hn hp hb dB oV (by omega);have mw:=fun A'=>iB _ _ x.A A' (hL.env.base hL.hn hp)
   obtain⟨c2,rfl⟩:=(mw []).td (hL.env.len);simp only[go_sem,simprocAttr,aj hL.hn,aA hL.hn,ay hL.hn,aB hL.hn,hL.hn,hL.hn,hg,oz];refine U (call2 _ trivial) ?_;simp only[go_sem,simprocAttr,aj bd,aA bd,ay bd,aB bd,bd,bd,Gu bd,wz bd,Nat.add_zero];refine⟨by intro r hr;simp at hr;subst hr;rfl,?_⟩;refine hL.app bd (fun k o h=>ag h _) aK (by decide) ?_;intro id ver A' m1 m2 m3;have j0:=(m3 0 (by decide)).trans i0;have j1:=(m3 1 (by decide)).trans i1;simp only[go_sem,simprocAttr,aj bd,aA bd,ay bd,aB bd,bd,bd];exact⟨⟨x.j-1,s3,x.acc++[.mk k3 n3 u3 q3 l3],x.rs++[[iV k3,sV n3,iV u3,iV q3,c2]],.gs id ver 0 (x.rs.length+1),H2,A'⟩,⟨⟨hL.next (aw T _) hg fD eA cG bd oC oD (by omega) (mw A') rfl m1 m2 (fun k o _ h=>h) (by intro k hk;simp at hk;rcases hk with rfl|rfl;exact aT j0;exact aT j1),j0,j1⟩,rfl⟩,by have h1:x.s.i<s3.i:=cG;have:=hL.ok.1;simp only;omega⟩
end
theorem vX (H:List AO) (a b x:AO):cA (H++[a,b,.dead]) (H++[a,b,x]):=fun id o h hd=>by
 rcases Nat.lt_or_ge id H.length with hi|hi
 ·rw[List.getElem?_append_left hi]at h⊢;exact h
 ·rw[List.getElem?_append_right hi]at h⊢
  match id-H.length,h with
  |0,h=>exact h
  |1,h=>exact h
  |2,h=>simp at h;exact(hd h.symm).elim
  |k+3,h=>simp at h
theorem mA {T:List Tok} {most p:Nat} {H:List AO} (hp:p<H.length) (A:List AO) (s:PS):(H.set p (cW T most s)++A)[p]?=some (.var [yt T,iV s.i,iV most,iV s.d,iV s.c,iV s.ps]):=qp hp A _
theorem df (T:List Tok) (most:Nat) (s:PS):AO.var [yt T,iV ((s.i+1:Nat):Int),iV most,iV s.d,iV s.c,iV s.ps]=cW T most (aE s):=rfl
theorem Env.node1 {b u id sz ver:Nat} {X:List AO} {t:List TV} {cs:List AV} (h:Env b u X t cs) (hi:X[id]?=some (.rows sz ver [cs])) (hu:u<=id) (hb:b<=id) (h1:t.length=sz):Env b (id+1) X [.s sz [t]] [.gs id ver 0 1]:=
 Env.node (rows:=[t]) (rs:=[cs]) (by simpa using h) hi hu hb rfl (by simpa using h1) (by simpa using h.len.trans h1) (by simp)
section
variable {T:List Tok} {most e:Nat} (hT:bH T) (aK:T.length<=1073741825)
include hT aK
theorem YE {d:Nat} (hd:d<=1099511627776) {pat:PM ae} (hP:iz T most e 89 [iV (d+1:Nat)] pat ae.tv) (sP:ab T pat):iz T most e 132 [iV d] (fx T T.length pat) ae.tv:=by
 have hB:=Us hT aK hd hP sP;refine iq fun p K b n s hn hp hb hs hF=>?_
 have bS:p<K.length:=by omega
 have jF:=ws aK hs;refine call132 (by simp) ?_;simp only[go_sem,simprocAttr,aj hn,aA hn,ay hn,aB hn,hn,hn,Ll,Uc];refine U (lK K _ p s bS hs) ?_;simp only[go_sem,simprocAttr,aj hn,aA hn,ay hn,aB hn,hn,hn,Tok.cells];unfold fx at hF⊢;rw[bE]at hF⊢;generalize Da:aD T s=t at *;obtain⟨tk,tt,tn,tp⟩:=t;simp only at hF⊢;refine U (uT [95] K _ p s bS hs) ?_;cases c0:aH T [95] s;rotate_left
 ·rw[aQ c0]
  simp only[go_sem,simprocAttr,aj hn,aA hn,ay hn,aB hn,hn,hn,c0,mA bS,qq bS,jF,df];exact⟨_,K,_,0,rfl,rfl,Kp.rfl,jB _ _ _ _ _ _ _⟩
 rw[aU c0]at hF⊢;simp only[go_sem,simprocAttr,aj hn,aA hn,ay hn,aB hn,hn,hn,c0];refine U (iY 3 K _ p s bS hs) ?_;cases c1:bp T 3 s;rotate_left
 ·rw[aQ c1]
  simp only[go_sem,simprocAttr,aj hn,aA hn,ay hn,aB hn,hn,hn,c1,mA bS,qq bS,jF,df];refine⟨K.set p (cW T most s)++[_,_,.dead],vX _ _ _ _,?_⟩;simp only[go_sem,simprocAttr,aj hn,aA hn,ay hn,aB hn,hn,hn,mA bS,qq bS,jF,df];refine⟨vX _ _ _ _,?_⟩;exact⟨_,K,_,0,rfl,rfl,Kp.rfl,jB _ _ _ _ _ _ _⟩
 rw[aU c1]at hF⊢;simp only[go_sem,simprocAttr,aj hn,aA hn,ay hn,aB hn,hn,hn,c1];refine U (iY 1 K _ p s bS hs) ?_;cases c2:bp T 1 s;rotate_left
 ·rw[aQ c2]
  simp only[go_sem,simprocAttr,aj hn,aA hn,ay hn,aB hn,hn,hn,c2,mA bS,qq bS,jF,df];refine⟨K.set p (cW T most s)++[_,_,.dead],vX _ _ _ _,?_⟩;simp only[go_sem,simprocAttr,aj hn,aA hn,ay hn,aB hn,hn,hn,mA bS,qq bS,jF,df];refine⟨vX _ _ _ _,?_⟩;exact⟨_,K,_,0,rfl,rfl,Kp.rfl,jB _ _ _ _ _ _ _⟩
 rw[aU c2]at hF⊢;simp only[go_sem,simprocAttr,aj hn,aA hn,ay hn,aB hn,hn,hn,c2];refine U (uT [116,114,117,101] K _ p s bS hs) ?_;cases c3:aH T [116,114,117,101] s;rotate_left
 ·rw[aQ c3]
  simp only[go_sem,simprocAttr,aj hn,aA hn,ay hn,aB hn,hn,hn,c3,mA bS,qq bS,jF,df];exact⟨_,K,_,0,rfl,rfl,Kp.rfl,jB _ _ _ _ _ _ _⟩
 rw[aU c3]at hF⊢;simp only[go_sem,simprocAttr,aj hn,aA hn,ay hn,aB hn,hn,hn,c3];refine U (uT [102,97,108,115,101] K _ p s bS hs) ?_;cases c4:aH T [102,97,108,115,101] s;rotate_left
 ·rw[aQ c4]
  simp only[go_sem,simprocAttr,aj hn,aA hn,ay hn,aB hn,hn,hn,c4,mA bS,qq bS,jF,df];exact⟨_,K,_,0,rfl,rfl,Kp.rfl,jB _ _ _ _ _ _ _⟩
 rw[aU c4]at hF⊢;simp only[go_sem,simprocAttr,aj hn,aA hn,ay hn,aB hn,hn,hn,c4];refine U (iY 4 K _ p s bS hs) ?_;cases c5:bp T 4 s;rotate_left
 ·rw[aQ c5]
  simp only[go_sem,simprocAttr,aj hn,aA hn,ay hn,aB hn,hn,hn,c5,mA bS,qq bS,jF,df];refine⟨K.set p (cW T most s)++[_,_,.dead],vX _ _ _ _,?_⟩;simp only[go_sem,simprocAttr,aj hn,aA hn,ay hn,aB hn,hn,hn,mA bS,qq bS,jF,df];refine⟨vX _ _ _ _,?_⟩;exact⟨_,K,_,0,rfl,rfl,Kp.rfl,jB _ _ _ _ _ _ _⟩
 rw[aU c5]at hF⊢;simp only[go_sem,simprocAttr,aj hn,aA hn,ay hn,aB hn,hn,hn,c5];rcases hq:oQ T T.length pat s with⟨⟨k1,n1,u1,q1,l1⟩,s1⟩
 rw[hq]at hF;obtain⟨H1,kj,ah,dL,fJ,lP,_,cy,bZ⟩:=(hB p).use ae.wf hq hn hp hb hs hF (Nat.le_refl _);refine U (bZ _ trivial) ?_;have cN:=fun A A'=>cy [] [] A A' (Env.nil _ _ _)
 obtain⟨c1,rfl⟩:=(cN [] []).td rfl;simp only[go_sem,simprocAttr,aj ah,aA ah,ay ah,aB ah,ah,ah];exact⟨_,H1,_,n,rfl,rfl,dL,cN [] _⟩
theorem lF {pat:PM ae} (sP:ab T pat):ab T (fx T T.length pat):=Pg.lF hT sP
theorem Db {d:Nat} {s:PS} (hs:Ok T e s):Ok T e (cM T most d s):=hs.step (yg T most d)
theorem uU {d:Nat} {s:PS} (h:(cM T most d s).c=0):d<=most:=by
 rcases Nat.lt_or_ge most d with hd|hd
 ·exfalso
  unfold cM at h;simp only[if_pos hd]at h;by_cases h0:s.c=0
  ·rw[iJ h0,if_neg (show ¬((12:Int)=0)by decide)]at h;exact absurd h (show ¬((12:Int)=0)by decide)
  ·rw[rq h0,if_neg h0]at h;exact h0 h
 ·exact hd
theorem ads {d:Nat} (hd:d<=1099511627776) {pat:PM ae} (hP:d<=most->iz T most e 89 [iV (d+1:Nat)] pat ae.tv) (sP:ab T pat):iz T most e 89 [iV d] (zM T T.length most pat d) ae.tv:=by
 have sA:=lF hT aK sP;refine iq fun p K b n s hn hp hb hs hF=>?_
 have bS:p<K.length:=by omega
 refine call89 (by simp) ?_;simp only[go_sem,simprocAttr,aj hn,aA hn,ay hn,aB hn,hn,hn,T6,abr];refine U (C8 d K _ p s bS hs) ?_;have bx:=Db (most:=most) (d:=d) hT aK hs;unfold zM jJ at hF⊢;cases hc:decide ((cM T most d s).c=0)
 ·rw[if_neg (of_decide_eq_false hc)]
  simp only[go_sem,simprocAttr,aj hn,aA hn,ay hn,aB hn,hn,hn,hc,Bool.not_false,Bool.not_true];exact⟨_,K,_,0,rfl,rfl,Kp.rfl,jB _ _ _ _ _ _ _⟩
 have yq:=of_decide_eq_true hc;have hA:=YE hT aK hd (hP (uU hT aK yq)) sP;rw[if_pos yq]at hF⊢;simp only[go_sem,simprocAttr,aj hn,aA hn,ay hn,aB hn,hn,hn,hc,Bool.not_false,Bool.not_true];generalize cM T most d s=s1 at *;refine U (lK K _ p s1 bS bx) ?_;simp only[go_sem,simprocAttr,aj hn,aA hn,ay hn,aB hn,hn,hn,Tok.cells];rw[bE]at hF⊢;have jF:=ws aK bx;refine U (iY 4 K _ p s1 bS bx) ?_;cases c4:bp T 4 s1
 ·rw[aU c4]at hF⊢
  simp only[go_sem,simprocAttr,aj hn,aA hn,ay hn,aB hn,hn,hn,c4,Bool.not_false,Bool.not_true];rcases hq:fx T T.length pat s1 with⟨⟨k1,n1,u1,q1,l1⟩,s2⟩
  rw[hq]at hF;obtain⟨H1,kj,ah,dL,fJ,lP,_,cy,bZ⟩:=(hA p).use ae.wf hq hn hp hb bx hF (Nat.le_refl _);refine U (bZ _ trivial) ?_;have cN:=fun A A'=>cy [] [] A A' (Env.nil _ _ _)
  obtain⟨c1,rfl⟩:=(cN [] []).td rfl;simp only[go_sem,simprocAttr,aj ah,aA ah,ay ah,aB ah,ah,ah];exact⟨_,H1,_,n,rfl,rfl,dL,cN [] _⟩
 rw[aQ c4]at hF⊢;have bt:=bx.aE hT (show(aD T s1).k≠8 by have:=(qR c4).2;omega);generalize (aD T s1).t=tt at *;generalize (aD T s1).p=tp at *;simp only[go_sem,simprocAttr,aj hn,aA hn,ay hn,aB hn,hn,hn,c4,Bool.not_false,Bool.not_true,mA bS,qq bS,jF,df];have yU:dV T (aE s1)=(bp T 3 (aE s1)||bp T 1 (aE s1)||bp T 4 (aE s1)||aH T [95] (aE s1)||aH T [116,114,117,101] (aE s1)||aH T [102,97,108,115,101] (aE s1)||aH T [40] (aE s1)):=rfl;refine U (iY 3 K _ p (aE s1) bS bt) ?_;cases t0:bp T 3 (aE s1);rotate_left
 ·have bc:dV T (aE s1)=true:=by rw[yU];simp[t0]
  rw[fE bc]at hF⊢;rcases hq:fx T T.length pat (aE s1)with⟨⟨k1,n1,u1,q1,l1⟩,s2⟩
  have e1:az (fx T T.length pat) (fun a=>aO (ae.mk 7 tt 0 tp [a])) (aE s1)=(.mk 7 tt 0 tp [.mk k1 n1 u1 q1 l1],s2):=by rw[aN,hq];rfl
  rw[e1]at hF⊢;simp only[go_sem,simprocAttr,aj hn,aA hn,ay hn,aB hn,hn,hn,t0];obtain⟨H1,kj,ah,dL,fJ,lP,_,cy,bZ⟩:=(hA p).use ae.wf hq hn hp hb bt hF (by rw[qy 7,List.map_cons,nK];omega);refine U (bZ _ trivial) ?_;have cN:=fun A A'=>cy [] [] A A' (Env.nil _ _ _)
  obtain⟨c1,rfl⟩:=(cN [] []).td rfl;simp only[go_sem,simprocAttr,aj ah,aA ah,ay ah,aB ah,ah,ah,Nat.add_zero];exact⟨_,H1,_,_,rfl,rfl,dL,lL ((cN [] _).node1 (by rw[aj ah];rfl) (by omega) (by omega) (ae.b9 _))⟩
 simp only[go_sem,simprocAttr,aj hn,aA hn,ay hn,aB hn,hn,hn,t0];refine U (iY 1 K _ p (aE s1) bS bt) ?_;cases t1:bp T 1 (aE s1);rotate_left
 ·have bc:dV T (aE s1)=true:=by rw[yU];simp[t1]
  rw[fE bc]at hF⊢;rcases hq:fx T T.length pat (aE s1)with⟨⟨k1,n1,u1,q1,l1⟩,s2⟩
  have e1:az (fx T T.length pat) (fun a=>aO (ae.mk 7 tt 0 tp [a])) (aE s1)=(.mk 7 tt 0 tp [.mk k1 n1 u1 q1 l1],s2):=by rw[aN,hq];rfl
  rw[e1]at hF⊢;simp only[go_sem,simprocAttr,aj hn,aA hn,ay hn,aB hn,hn,hn,t1];obtain⟨H1,kj,ah,dL,fJ,lP,_,cy,bZ⟩:=(hA p).use ae.wf hq hn hp hb bt hF (by rw[qy 7,List.map_cons,nK];omega);refine U (bZ _ trivial) ?_;have cN:=fun A A'=>cy [] [] A A' (Env.nil _ _ _)
  obtain⟨c1,rfl⟩:=(cN [] []).td rfl;simp only[go_sem,simprocAttr,aj ah,aA ah,ay ah,aB ah,ah,ah,Nat.add_zero];exact⟨_,H1,_,_,rfl,rfl,dL,lL ((cN [] _).node1 (by rw[aj ah];rfl) (by omega) (by omega) (ae.b9 _))⟩
 simp only[go_sem,simprocAttr,aj hn,aA hn,ay hn,aB hn,hn,hn,t1];refine U (iY 4 K _ p (aE s1) bS bt) ?_;cases t2:bp T 4 (aE s1);rotate_left
 ·have bc:dV T (aE s1)=true:=by rw[yU];simp[t2]
  rw[fE bc]at hF⊢;rcases hq:fx T T.length pat (aE s1)with⟨⟨k1,n1,u1,q1,l1⟩,s2⟩
  have e1:az (fx T T.length pat) (fun a=>aO (ae.mk 7 tt 0 tp [a])) (aE s1)=(.mk 7 tt 0 tp [.mk k1 n1 u1 q1 l1],s2):=by rw[aN,hq];rfl
  rw[e1]at hF⊢;simp only[go_sem,simprocAttr,aj hn,aA hn,ay hn,aB hn,hn,hn,t2];obtain⟨H1,kj,ah,dL,fJ,lP,_,cy,bZ⟩:=(hA p).use ae.wf hq hn hp hb bt hF (by rw[qy 7,List.map_cons,nK];omega);refine U (bZ _ trivial) ?_;have cN:=fun A A'=>cy [] [] A A' (Env.nil _ _ _)
  obtain⟨c1,rfl⟩:=(cN [] []).td rfl;simp only[go_sem,simprocAttr,aj ah,aA ah,ay ah,aB ah,ah,ah,Nat.add_zero];exact⟨_,H1,_,_,rfl,rfl,dL,lL ((cN [] _).node1 (by rw[aj ah];rfl) (by omega) (by omega) (ae.b9 _))⟩
 simp only[go_sem,simprocAttr,aj hn,aA hn,ay hn,aB hn,hn,hn,t2];refine U (uT [95] K _ p (aE s1) bS bt) ?_;cases t3:aH T [95] (aE s1);rotate_left
 ·have bc:dV T (aE s1)=true:=by rw[yU];simp[t3]
  rw[fE bc]at hF⊢;rcases hq:fx T T.length pat (aE s1)with⟨⟨k1,n1,u1,q1,l1⟩,s2⟩
  have e1:az (fx T T.length pat) (fun a=>aO (ae.mk 7 tt 0 tp [a])) (aE s1)=(.mk 7 tt 0 tp [.mk k1 n1 u1 q1 l1],s2):=by rw[aN,hq];rfl
  rw[e1]at hF⊢;simp only[go_sem,simprocAttr,aj hn,aA hn,ay hn,aB hn,hn,hn,t3];obtain⟨H1,kj,ah,dL,fJ,lP,_,cy,bZ⟩:=(hA p).use ae.wf hq hn hp hb bt hF (by rw[qy 7,List.map_cons,nK];omega);refine U (bZ _ trivial) ?_;have cN:=fun A A'=>cy [] [] A A' (Env.nil _ _ _)
  obtain⟨c1,rfl⟩:=(cN [] []).td rfl;simp only[go_sem,simprocAttr,aj ah,aA ah,ay ah,aB ah,ah,ah,Nat.add_zero];exact⟨_,H1,_,_,rfl,rfl,dL,lL ((cN [] _).node1 (by rw[aj ah];rfl) (by omega) (by omega) (ae.b9 _))⟩
 simp only[go_sem,simprocAttr,aj hn,aA hn,ay hn,aB hn,hn,hn,t3];refine U (uT [116,114,117,101] K _ p (aE s1) bS bt) ?_;cases t4:aH T [116,114,117,101] (aE s1);rotate_left
 ·have bc:dV T (aE s1)=true:=by rw[yU];simp[t4]
  rw[fE bc]at hF⊢;rcases hq:fx T T.length pat (aE s1)with⟨⟨k1,n1,u1,q1,l1⟩,s2⟩
  have e1:az (fx T T.length pat) (fun a=>aO (ae.mk 7 tt 0 tp [a])) (aE s1)=(.mk 7 tt 0 tp [.mk k1 n1 u1 q1 l1],s2):=by rw[aN,hq];rfl
  rw[e1]at hF⊢;simp only[go_sem,simprocAttr,aj hn,aA hn,ay hn,aB hn,hn,hn,t4];obtain⟨H1,kj,ah,dL,fJ,lP,_,cy,bZ⟩:=(hA p).use ae.wf hq hn hp hb bt hF (by rw[qy 7,List.map_cons,nK];omega);refine U (bZ _ trivial) ?_;have cN:=fun A A'=>cy [] [] A A' (Env.nil _ _ _)
  obtain⟨c1,rfl⟩:=(cN [] []).td rfl;simp only[go_sem,simprocAttr,aj ah,aA ah,ay ah,aB ah,ah,ah,Nat.add_zero];exact⟨_,H1,_,_,rfl,rfl,dL,lL ((cN [] _).node1 (by rw[aj ah];rfl) (by omega) (by omega) (ae.b9 _))⟩
 simp only[go_sem,simprocAttr,aj hn,aA hn,ay hn,aB hn,hn,hn,t4];refine U (uT [102,97,108,115,101] K _ p (aE s1) bS bt) ?_;cases t5:aH T [102,97,108,115,101] (aE s1);rotate_left
 ·have bc:dV T (aE s1)=true:=by rw[yU];simp[t5]
  rw[fE bc]at hF⊢;rcases hq:fx T T.length pat (aE s1)with⟨⟨k1,n1,u1,q1,l1⟩,s2⟩
  have e1:az (fx T T.length pat) (fun a=>aO (ae.mk 7 tt 0 tp [a])) (aE s1)=(.mk 7 tt 0 tp [.mk k1 n1 u1 q1 l1],s2):=by rw[aN,hq];rfl
  rw[e1]at hF⊢;simp only[go_sem,simprocAttr,aj hn,aA hn,ay hn,aB hn,hn,hn,t5];obtain⟨H1,kj,ah,dL,fJ,lP,_,cy,bZ⟩:=(hA p).use ae.wf hq hn hp hb bt hF (by rw[qy 7,List.map_cons,nK];omega);refine U (bZ _ trivial) ?_;have cN:=fun A A'=>cy [] [] A A' (Env.nil _ _ _)
  obtain⟨c1,rfl⟩:=(cN [] []).td rfl;simp only[go_sem,simprocAttr,aj ah,aA ah,ay ah,aB ah,ah,ah,Nat.add_zero];exact⟨_,H1,_,_,rfl,rfl,dL,lL ((cN [] _).node1 (by rw[aj ah];rfl) (by omega) (by omega) (ae.b9 _))⟩
 simp only[go_sem,simprocAttr,aj hn,aA hn,ay hn,aB hn,hn,hn,t5];refine U (uT [40] K _ p (aE s1) bS bt) ?_;cases t6:aH T [40] (aE s1);rotate_left
 ·have bc:dV T (aE s1)=true:=by rw[yU];simp[t6]
  rw[fE bc]at hF⊢;rcases hq:fx T T.length pat (aE s1)with⟨⟨k1,n1,u1,q1,l1⟩,s2⟩
  have e1:az (fx T T.length pat) (fun a=>aO (ae.mk 7 tt 0 tp [a])) (aE s1)=(.mk 7 tt 0 tp [.mk k1 n1 u1 q1 l1],s2):=by rw[aN,hq];rfl
  rw[e1]at hF⊢;simp only[go_sem,simprocAttr,aj hn,aA hn,ay hn,aB hn,hn,hn,t6];obtain⟨H1,kj,ah,dL,fJ,lP,_,cy,bZ⟩:=(hA p).use ae.wf hq hn hp hb bt hF (by rw[qy 7,List.map_cons,nK];omega);refine U (bZ _ trivial) ?_;have cN:=fun A A'=>cy [] [] A A' (Env.nil _ _ _)
  obtain⟨c1,rfl⟩:=(cN [] []).td rfl;simp only[go_sem,simprocAttr,aj ah,aA ah,ay ah,aB ah,ah,ah,Nat.add_zero];exact⟨_,H1,_,_,rfl,rfl,dL,lL ((cN [] _).node1 (by rw[aj ah];rfl) (by omega) (by omega) (ae.b9 _))⟩
 simp only[go_sem,simprocAttr,aj hn,aA hn,ay hn,aB hn,hn,hn,t6];have bc:dV T (aE s1)=false:=by rw[yU];simp[t0,t1,t2,t3,t4,t5,t6]
 rw[jj bc]at hF⊢;exact⟨_,K,_,0,rfl,rfl,Kp.rfl,jB _ _ _ _ _ _ _⟩
theorem Uu:∀k d,d+k=most+2->most<=1099511627774->0<k->iz T most e 89 [iV d] (pA T T.length most k d) ae.tv
 |0,d,_,_,h=>absurd h (by omega)
 |k+1,d,h,hm,_=>ads hT aK (by omega) (fun hle=>Uu k (d+1) (by omega) hm (by omega)) (mY hT most k (d+1))
end
theorem hQ (b u:Nat) (X:List AO) (k:Int) (nm:List UInt8) (un:Int) (t:List UInt8) (q:Int):Env b u X (aa.tv (leaf k nm un t q)) [iV k,sV nm,iV un,sV t,iV q,.p .nl,.p .nl]:=by
 rw[leaf,aa.tv,aa.jT,aa.Be];exact((((Env.nl1.nl.pc _).pc _).pc _).pc _).pc _
theorem iP {b u:Nat} {X:List AO} {k:Int} {nm:List UInt8} {un:Int} {t:List UInt8} {q:Int} {l:List aa} {a:AV} (h:Env b u X [.s 7 (l.map aa.tv)] [a]):Env b u X (aa.tv (.mk k nm un t q l [])) [iV k,sV nm,iV un,sV t,iV q,a,.p .nl]:=by
 rw[aa.tv,aa.oU,aa.Be];exact((((h.nl.pc _).pc _).pc _).pc _).pc _
theorem Env.fK {b u:Nat} {X:List AO} {ts:List TV} {ds cs:List AV} {k:Int} {nm:List UInt8} {un:Int} {t:List UInt8} {q:Int} {l:List aa} {bf:List ar} (h:Env b u X (ts++aa.tv (.mk k nm un t q l bf)) (ds++cs)) (hl:ds.length=ts.length):∃c d,cs=[iV k,sV nm,iV un,sV t,iV q,c,d]:=by
 obtain⟨ids,h1,_⟩:=h;obtain⟨c1,c2,i,j,e1,_,h3,h4⟩:=iX h1;obtain⟨rfl,rfl⟩:=List.append_inj e1 (by rw[h3.len];exact hl);have hlen:=h4.len;rw[aa.b9]at hlen;obtain⟨a0,a1,a2,a3,a4,a5,a6,rfl⟩:=Ur hlen;rw[aa.tv]at h4;simp only[bj,fq]at h4;obtain⟨_,_,_,_,e0,_,⟨f0,_⟩,_,_,_,_,e1,_,⟨f1,_⟩,_,_,_,_,e2,_,⟨f2,_⟩,_,_,_,_,e3,_,⟨f3,_⟩,_,_,_,_,e4,_,⟨f4,_⟩,_⟩:=h4;subst f0 f1 f2 f3 f4;cases e0;cases e1;cases e2;cases e3;cases e4;exact⟨_,_,rfl⟩
theorem nA (k:Int) (nm:List UInt8) (un:Int) (t:List UInt8) (q:Int) (l:List aa) (bf:List ar):nC (aa.tv (.mk k nm un t q l bf))=nK (l.map aa.tv)+nK (bf.map ar.tv):=by
 rw[aa.tv,aa.oU,aa.NH];simp[nC,nT]
section
variable {T:List Tok} {most e:Nat} (hT:bH T) (aK:T.length<=1073741825)
include hT aK
theorem agE {d:Nat} (hd:d<=1099511627776) {ex:PM aa} (hP:iz T most e 30 [iV (d+1:Nat)] ex aa.tv) (sP:ab T ex):iz T most e 205 [iV d] (DP T T.length ex) aa.tv:=by
 refine iq fun p K b n s hn hp hb hs hF=>?_
 have bS:p<K.length:=by omega
 have oz:wr .i64 ((d:Int)+1)=((d+1:Nat):Int):=cH _ (by omega);refine call205 (by simp) ?_;simp only[go_sem,simprocAttr,aj hn,aA hn,ay hn,aB hn,hn,hn,LF,Up];refine U (lK K _ p s bS hs) ?_;simp only[go_sem,simprocAttr,aj hn,aA hn,ay hn,aB hn,hn,hn,Tok.cells];refine U (iy hT aK [[40]] (by decide) bS hs (by omega) (fun c=>by rw[aj hn];rfl)) ?_;simp only[go_sem,simprocAttr,aj hn,aA hn,ay hn,aB hn,hn,hn,gh];have bx:=hs.step (aG hT [40]);have e0:DP T T.length ex s=bg (aH T [41]) (aO (leaf 4 [] 0 [] (aD T s).p)) (dU (fun s=>!decide (s.c=0)) (aO (leaf 4 [] 0 [] (aD T s).p)) (az ex fun a=>az (many (aH T [44]) (bM ex) T.length) fun l=>cg (aS T [41]) (aO (if l=[]then a else .mk 7 [] 0 [] (aD T s).p (a::l) [])))) (aS T [40] s):=rfl;rw[e0]at hF⊢;generalize (aD T s).p=tp at *;generalize aS T [40] s=s1 at *;refine U (ix aK [41] K _ p s1 bS bx) ?_;unfold di;cases jR:aH T [41] s1;rotate_left
 ·rw[aQ jR]
  simp only[go_sem,simprocAttr,aj hn,aA hn,ay hn,aB hn,hn,hn,jR];exact⟨_,K,_,0,rfl,rfl,Kp.rfl,hQ _ _ _ _ _ _ _ _⟩
 rw[aU jR]at hF⊢;simp only[go_sem,simprocAttr,aj hn,aA hn,ay hn,aB hn,hn,hn,jR];refine U (jx K _ p s1 bS bx) ?_;cases hc:decide (s1.c=0)
 ·rw[fE (by simp[hc])]
  simp only[go_sem,simprocAttr,aj hn,aA hn,ay hn,aB hn,hn,hn,hc,Bool.not_false,Bool.not_true];exact⟨_,K,_,0,rfl,rfl,Kp.rfl,hQ _ _ _ _ _ _ _ _⟩
 rw[jj (by simp[hc])]at hF⊢;simp only[go_sem,simprocAttr,aj hn,aA hn,ay hn,aB hn,hn,hn,hc,oz,Bool.not_false,Bool.not_true];rcases hq:ex s1 with⟨⟨k1,n1,u1,t1,q1,l1,m1⟩,s2⟩
 have bt:=bx.run sP;rw[hq]at bt;rcases hR:many (aH T [44]) (bM ex) T.length s2 with⟨Rl,Rs⟩
 have e1:(az ex fun a=>az (many (aH T [44]) (bM ex) T.length) fun l=>cg (aS T [41]) (aO (if l=[]then a else .mk 7 [] 0 [] tp (a::l) []))) s1=(if Rl=[]then .mk k1 n1 u1 t1 q1 l1 m1 else .mk 7 [] 0 [] tp (.mk k1 n1 u1 t1 q1 l1 m1::Rl) [],aS T [41] Rs):=by rw[aN,hq,aN,hR];rfl
 rw[e1]at hF⊢
 have p6:nC (aa.tv (.mk k1 n1 u1 t1 q1 l1 m1))+nR (Rl.map aa.tv)<=nC (aa.tv (if Rl=[]then .mk k1 n1 u1 t1 q1 l1 m1 else .mk 7 [] 0 [] tp (.mk k1 n1 u1 t1 q1 l1 m1::Rl) [])):=by
  split
  ·rename_i h0;subst h0;simp[nR]
  ·rw[nA 7,List.map_cons,nK];omega
 generalize YD:nC (aa.tv (if Rl=[]then .mk k1 n1 u1 t1 q1 l1 m1 else .mk 7 [] 0 [] tp (.mk k1 n1 u1 t1 q1 l1 m1::Rl) []))=NN at hF p6;obtain⟨H1,kj,ah,dL,fJ,lP,_,cy,bZ⟩:=(hP p).use aa.wf hq hn hp hb bx hF (by omega);refine U (bZ _ trivial) ?_;have cN:=fun A A'=>cy [] [] A A' (Env.nil _ _ _)
 obtain⟨c1,b1,rfl⟩:=(cN [] []).fK rfl;simp only[go_sem,simprocAttr,aj ah,aA ah,ay ah,aB ah,ah,ah,Nat.add_zero];have fZ:∀(c:AO) (A:List AO),(H1.set p c++A)[n+3]?=A[3]?:=fun c A=>aj ah A p c 3
 refine⟨LG aa,[0,1,4,5,6],fun x st=>(LO (cW T most) T e b n p K [0,1] 7 aa.tv (aH T [44]) (bM ex) (.mk k1 n1 u1 t1 q1 l1 m1::Rl) Rs x/\x.A[0]?=some (.var [iV 0,sV [],iV 0,sV [],iV 0,.p .nl,.p .nl])/\x.A[1]?=some (.var [iV 4,sV [],iV 0,sV [],iV tp,.p .nl,.p .nl]))/\
   st=⟨[(0,.ptr p 0),(1,iV d),(4,.ptr n 0),(5,.ptr (n+1) 0),(6,x.a)],[],x.H.set p (cW T most x.s)++x.A⟩,fun x=>T.length-x.s.i,
  ⟨⟨T.length,s2,[.mk k1 n1 u1 t1 q1 l1 m1],[[iV k1,sV n1,iV u1,sV t1,iV q1,c1,b1]],.gs (n+3) 0 0 1,H1,[.var [iV 0,sV [],iV 0,sV [],iV 0,.p .nl,.p .nl],.var [iV 4,sV [],iV 0,sV [],iV tp,.p .nl,.p .nl],.rows 1 0 [[sV [40]]],.rows 7 0 [[iV k1,sV n1,iV u1,sV t1,iV q1,c1,b1]]]⟩,?_⟩,?_⟩
 ·refine⟨⟨LO.nx bt hR ah dL fJ (by omega) (cN [] _) rfl rfl (by decide) (by simp),rfl,rfl⟩,?_⟩
  simp only[go_sem,simprocAttr,aj ah,aA ah,ay ah,aB ah,ah,ah]
 ·rintro x _ ⟨⟨hL,i0,i1⟩,rfl⟩
  have km:p<x.H.length:=by rw[hL.hn];omega
  simp only[go_sem,simprocAttr,aj hL.hn,aA hL.hn,ay hL.hn,aB hL.hn,hL.hn,hL.hn];refine U (ix aK [44] x.H _ p x.s km hL.ok) ?_;unfold di;cases hg:aH T [44] x.s
  ·obtain⟨ha,hx⟩:=hL.stop hg
   simp only[go_sem,simprocAttr,aj hL.hn,aA hL.hn,ay hL.hn,aB hL.hn,hL.hn,hL.hn,hg];refine U (iy hT aK [[41]] (by decide) km hL.ok (by omega) (fun c=>by rw[wz hL.hn];rfl)) ?_;simp only[go_sem,simprocAttr,aj hL.hn,aA hL.hn,ay hL.hn,aB hL.hn,hL.hn,hL.hn,gh];subst hx;have nj:∀B,(x.A++B)[0]?=some (.var [iV 0,sV [],iV 0,sV [],iV 0,.p .nl,.p .nl]):=fun B=>ag i0 B
   have xw:∀B,(x.A++B)[1]?=some (.var [iV 4,sV [],iV 0,sV [],iV tp,.p .nl,.p .nl]):=fun B=>ag i1 B
   have hz:∀B o,((x.A++B).set 0 o)[0]?=some o:=fun B o=>aR (nj B)
   have B2:∀B o,((x.A++B).set 1 o)[1]?=some o:=fun B o=>aR (xw B)
   by_cases tC:Rl=[]
   ·subst tC
    obtain⟨cs,q,ver,r1,r2,r3,r4,r5,r6⟩:=hL.one ha;obtain⟨d1,d2,d3,d4,d5,d6,d7,rfl⟩:=Ur r5;have r4':∀B,(x.A++B)[q]?=some (.rows 7 ver [[d1,d2,d3,d4,d5,d6,d7]]):=fun B=>ag r4 B
    rw[r2,if_pos rfl];simp only[go_sem,simprocAttr,aj hL.hn,aA hL.hn,ay hL.hn,aB hL.hn,hL.hn,hL.hn,r4',nj,hz,Nat.add_zero];intro _;exact⟨_,x.H,_,n,rfl,rfl,hL.kp,r6.base hL.hn hp⟩
   ·have LI:∀(o1 o2:AO) (B:List AO) (k:Nat) (o:AO),k∉[0,1]->x.A[k]?=some o->(((x.A++B).set 1 o1).set 0 o2)[k]?=some o:=fun o1 o2 B k o hk ho=>by
     simp at hk;rw[List.getElem?_set_ne (by omega),List.getElem?_set_ne (by omega)];exact ag ho _
    obtain⟨u,hE⟩:=hL.fin hp hb (by rw[ha];simp) aa.b9 (c:=cW T most (aS T [41] x.s)) (LI (.var [iV 7,sV [],iV 0,sV [],iV tp,x.a,.p .nl]) (.var [iV 7,sV [],iV 0,sV [],iV tp,x.a,.p .nl]) [.rows 1 0 [[sV [41]]]]);obtain⟨id,ver,yS⟩:=hL.shape (by rw[ha];simp);have hlen:x.rs.length=Rl.length+1:=by rw[hL.len,ha];rfl
    have d1:decide (((Rl.length+1:Nat):Int)=1)=false:=by
     have:Rl.length≠0:=fun h=>tC (List.length_eq_zero_iff.1 h)
     simp;omega
    rw[hlen]at yS;rw[if_neg tC];rw[yS]at hE⊢;have h00:∀B o o',(((x.A++B).set 1 o).set 0 o')[0]?=some o':=fun B o o'=>aR (aM (nj B) (by decide))
    have Ut:∀B o,((x.A++B).set 1 o)[0]?=some (.var [iV 0,sV [],iV 0,sV [],iV 0,.p .nl,.p .nl]):=fun B o=>aM (nj B) (by decide)
    simp only[go_sem,simprocAttr,aj hL.hn,aA hL.hn,ay hL.hn,aB hL.hn,hL.hn,hL.hn,d1,xw,nj,B2,h00,Ut,List.set_set];intro _;rw[ha]at hE;exact⟨_,x.H,_,u,rfl,rfl,hL.kp,iP hE⟩
  ·obtain⟨j,hj⟩:=hL.succ (aw T _) hg
   have dB:=hL.ok.aE hT (cB hg).2;have eA:=dB.run sP;have cG:=(gR.aE hT sP hL.ok.1 (cB hg).2).1;rcases fD:ex (aE x.s)with⟨⟨k3,n3,u3,t3,q3,l3,m3⟩,s3⟩
   rw[fD]at eA cG;obtain⟨M,oV,hM⟩:=hL.room (aw T _) hg (y:=.mk k3 n3 u3 t3 q3 l3 m3) (s2:=s3) fD;obtain⟨H2,yT,bd,oC,oD,Aj,_,iB,call2⟩:=(hP p).use aa.wf fD hL.hn hp hb dB oV (by omega);have mw:=fun A'=>iB _ _ x.A A' (hL.env.base hL.hn hp)
   obtain⟨c2,b2,rfl⟩:=(mw []).fK (hL.env.len);simp only[go_sem,simprocAttr,aj hL.hn,aA hL.hn,ay hL.hn,aB hL.hn,hL.hn,hL.hn,hg,oz];refine U (call2 _ trivial) ?_;simp only[go_sem,simprocAttr,aj bd,aA bd,ay bd,aB bd,bd,bd,Gu bd,wz bd,Nat.add_zero];refine⟨by intro r hr;simp at hr;subst hr;rfl,?_⟩;refine hL.app bd (fun k o h=>ag h _) aK (by decide) ?_;intro id ver A' w1 w2 w3;have j0:=(w3 0 (by decide)).trans i0;have j1:=(w3 1 (by decide)).trans i1;simp only[go_sem,simprocAttr,aj bd,aA bd,ay bd,aB bd,bd,bd];exact⟨⟨x.j-1,s3,x.acc++[.mk k3 n3 u3 t3 q3 l3 m3],x.rs++[[iV k3,sV n3,iV u3,sV t3,iV q3,c2,b2]],.gs id ver 0 (x.rs.length+1),H2,A'⟩,⟨⟨hL.next (aw T _) hg fD eA cG bd oC oD (by omega) (mw A') rfl w1 w2 (fun k o _ h=>h) (by intro k hk;simp at hk;rcases hk with rfl|rfl;exact aT j0;exact aT j1),j0,j1⟩,rfl⟩,by have h1:x.s.i<s3.i:=cG;have:=hL.ok.1;simp only;omega⟩
theorem NJ {d:Nat} (hd:d<=1099511627776) {ex:PM aa} (hP:iz T most e 30 [iV (d+1:Nat)] ex aa.tv) (sP:ab T ex):iz T most e 186 [iV d] (fy T T.length ex) aa.tv:=by
 have hB:=agE hT aK hd hP sP;refine iq fun p K b n s hn hp hb hs hF=>?_
 have bS:p<K.length:=by omega
 have jF:=ws aK hs;refine call186 (by simp) ?_;simp only[go_sem,simprocAttr,aj hn,aA hn,ay hn,aB hn,hn,hn,LC,Un];refine U (lK K _ p s bS hs) ?_;simp only[go_sem,simprocAttr,aj hn,aA hn,ay hn,aB hn,hn,hn,Tok.cells];unfold fy at hF⊢;rw[bE]at hF⊢;generalize Da:aD T s=t at *;obtain⟨tk,tt,tn,tp⟩:=t;simp only at hF⊢;refine U (iY 1 K _ p s bS hs) ?_;cases c0:bp T 1 s;rotate_left
 ·rw[aQ c0]
  simp only[go_sem,simprocAttr,aj hn,aA hn,ay hn,aB hn,hn,hn,c0,mA bS,qq bS,jF,df];refine⟨K.set p (cW T most s)++[_,_,.dead],vX _ _ _ _,?_⟩;simp only[go_sem,simprocAttr,aj hn,aA hn,ay hn,aB hn,hn,hn,mA bS,qq bS,jF,df];refine⟨vX _ _ _ _,?_⟩;exact⟨_,K,_,0,rfl,rfl,Kp.rfl,hQ _ _ _ _ _ _ _ _⟩
 rw[aU c0]at hF⊢;simp only[go_sem,simprocAttr,aj hn,aA hn,ay hn,aB hn,hn,hn,c0];refine U (iY 2 K _ p s bS hs) ?_;cases c1:bp T 2 s;rotate_left
 ·rw[aQ c1]
  simp only[go_sem,simprocAttr,aj hn,aA hn,ay hn,aB hn,hn,hn,c1,mA bS,qq bS,jF,df];refine⟨K.set p (cW T most s)++[_,_,.dead],vX _ _ _ _,?_⟩;simp only[go_sem,simprocAttr,aj hn,aA hn,ay hn,aB hn,hn,hn,mA bS,qq bS,jF,df];refine⟨vX _ _ _ _,?_⟩;exact⟨_,K,_,0,rfl,rfl,Kp.rfl,hQ _ _ _ _ _ _ _ _⟩
 rw[aU c1]at hF⊢;simp only[go_sem,simprocAttr,aj hn,aA hn,ay hn,aB hn,hn,hn,c1];refine U (uT [116,114,117,101] K _ p s bS hs) ?_;cases c2:aH T [116,114,117,101] s;rotate_left
 ·rw[aQ c2]
  simp only[go_sem,simprocAttr,aj hn,aA hn,ay hn,aB hn,hn,hn,c2,mA bS,qq bS,jF,df];exact⟨_,K,_,0,rfl,rfl,Kp.rfl,hQ _ _ _ _ _ _ _ _⟩
 rw[aU c2]at hF⊢;simp only[go_sem,simprocAttr,aj hn,aA hn,ay hn,aB hn,hn,hn,c2];refine U (uT [102,97,108,115,101] K _ p s bS hs) ?_;cases c3:aH T [102,97,108,115,101] s;rotate_left
 ·rw[aQ c3]
  simp only[go_sem,simprocAttr,aj hn,aA hn,ay hn,aB hn,hn,hn,c3,mA bS,qq bS,jF,df];exact⟨_,K,_,0,rfl,rfl,Kp.rfl,hQ _ _ _ _ _ _ _ _⟩
 rw[aU c3]at hF⊢;simp only[go_sem,simprocAttr,aj hn,aA hn,ay hn,aB hn,hn,hn,c3];refine U (iY 3 K _ p s bS hs) ?_;cases c4:bp T 3 s;rotate_left
 ·rw[aQ c4]
  simp only[go_sem,simprocAttr,aj hn,aA hn,ay hn,aB hn,hn,hn,c4,mA bS,qq bS,jF,df];refine⟨K.set p (cW T most s)++[_,_,.dead],vX _ _ _ _,?_⟩;simp only[go_sem,simprocAttr,aj hn,aA hn,ay hn,aB hn,hn,hn,mA bS,qq bS,jF,df];refine⟨vX _ _ _ _,?_⟩;exact⟨_,K,_,0,rfl,rfl,Kp.rfl,hQ _ _ _ _ _ _ _ _⟩
 rw[aU c4]at hF⊢;simp only[go_sem,simprocAttr,aj hn,aA hn,ay hn,aB hn,hn,hn,c4];refine U (iY 4 K _ p s bS hs) ?_;cases c5:bp T 4 s;rotate_left
 ·rw[aQ c5]
  simp only[go_sem,simprocAttr,aj hn,aA hn,ay hn,aB hn,hn,hn,c5,mA bS,qq bS,jF,df];refine⟨K.set p (cW T most s)++[_,_,.dead],vX _ _ _ _,?_⟩;simp only[go_sem,simprocAttr,aj hn,aA hn,ay hn,aB hn,hn,hn,mA bS,qq bS,jF,df];refine⟨vX _ _ _ _,?_⟩;exact⟨_,K,_,0,rfl,rfl,Kp.rfl,hQ _ _ _ _ _ _ _ _⟩
 rw[aU c5]at hF⊢;simp only[go_sem,simprocAttr,aj hn,aA hn,ay hn,aB hn,hn,hn,c5];refine U (uT [114,101,97,100] K _ p s bS hs) ?_;cases c6:aH T [114,101,97,100] s;rotate_left
 ·rw[aQ c6]
  simp only[go_sem,simprocAttr,aj hn,aA hn,ay hn,aB hn,hn,hn,c6,mA bS,qq bS,jF,df];refine⟨K.set p (cW T most s)++[_,_,.dead],vX _ _ _ _,?_⟩;simp only[go_sem,simprocAttr,aj hn,aA hn,ay hn,aB hn,hn,hn,mA bS,qq bS,jF,df];refine⟨vX _ _ _ _,?_⟩;exact⟨_,K,_,0,rfl,rfl,Kp.rfl,hQ _ _ _ _ _ _ _ _⟩
 rw[aU c6]at hF⊢;simp only[go_sem,simprocAttr,aj hn,aA hn,ay hn,aB hn,hn,hn,c6];rcases hq:DP T T.length ex s with⟨⟨k1,n1,u1,t1,q1,l1,m1⟩,s1⟩
 rw[hq]at hF;obtain⟨H1,kj,ah,dL,fJ,lP,_,cy,bZ⟩:=(hB p).use aa.wf hq hn hp hb hs hF (Nat.le_refl _);refine U (bZ _ trivial) ?_;have cN:=fun A A'=>cy [] [] A A' (Env.nil _ _ _)
 obtain⟨c1,b1,rfl⟩:=(cN [] []).fK rfl;simp only[go_sem,simprocAttr,aj ah,aA ah,ay ah,aB ah,ah,ah];exact⟨_,H1,_,n,rfl,rfl,dL,cN [] _⟩
end
theorem gp {f:Nat} {args:List AV} {B:List AO->Prop} {X Y:List AO} {r:AV} (h:∀A,B A->al Tryz.prog f args (X++A) (aP r (Y++A))) (A:List AO) (hB:∀A',B (A++A')):∀A',al Tryz.prog f args ((X++A)++A') (aP r ((Y++A)++A')):=fun A'=>by
 rw[List.append_assoc,List.append_assoc];exact h _ (hB A')
theorem qU {H K:List AO} {n p:Nat} (hn:H.length=n) (hk:K.length=n) (c d:AO) (A:List AO):(H.set p c++A).length=(K.set p d++A).length:=by simp[hn,hk]
def Uv:List (List UInt8):=[[112,114,105,110,116],[101,120,105,116],[115,105,122,101],[114,101,102],[33]]
section
variable {T:List Tok} {most e:Nat} (hT:bH T) (aK:T.length<=1073741825)
include hT aK
theorem adt {d:Nat} (hd:d<=1099511627776) {ex:PM aa} (hP:iz T most e 30 [iV (d+1:Nat)] ex aa.tv) (sP:ab T ex):iz T most e 184 [iV d] (sZ T T.length ex) aa.tv:=by
 have hA:=NJ hT aK hd hP sP;refine iq fun p K b n s hn hp hb hs hF=>?_
 have bS:p<K.length:=by omega
 have jF:=ws aK hs;refine call184 (by simp) ?_;simp only[go_sem,simprocAttr,aj hn,aA hn,ay hn,aB hn,hn,hn,Ly,Ul];refine U (lK K _ p s bS hs) ?_;simp only[go_sem,simprocAttr,aj hn,aA hn,ay hn,aB hn,hn,hn,Tok.cells];unfold sZ at hF⊢;rw[bE]at hF⊢;intro _
 have hN5:∀j,j<5->(Uv.map fun w=>[sV w])[j]?=some [sV (Uv.getD j [])]:=fun j hj=>by
  match j,hj with
  |0,_=>rfl
  |1,_=>rfl
  |2,_=>rfl
  |3,_=>rfl
  |4,_=>rfl
 have tB:iv T s=(aH T [112,114,105,110,116] s||aH T [101,120,105,116] s||aH T [115,105,122,101] s||aH T [114,101,102] s||aH T [33] s):=rfl;refine⟨Nat,[0,1,4,5,11,12,13],fun j st=>(j<=5/\∀i,i<j->aH T (Uv.getD i []) s=false)/\st=⟨[(0,.ptr p 0),(1,iV d),(4,.ptr n 0),(5,.ptr (n+1) 0),(11,.gs (n+2) 0 0 5),(12,iV 5),(13,iV (j:Nat))],[],K.set p (cW T most s)++[.var [iV 0,sV [],iV 0,sV [],iV 0,.p .nl,.p .nl],.var [iV (aD T s).k,sV (aD T s).t,iV (aD T s).n,iV (aD T s).p],.rows 1 0 (Uv.map fun w=>[sV w])]⟩,fun j=>5-j,⟨0,?_⟩,?_⟩
 ·simp only[go_sem,simprocAttr,aj hn,aA hn,ay hn,aB hn,hn,hn]
  exact⟨fun i hi=>absurd hi (by omega),rfl⟩
 ·rintro j _ ⟨⟨hj,lj⟩,rfl⟩
  have IK:wr .i64 ((j:Int)+1)=((j+1:Nat):Int):=cH _ (by omega);by_cases aF:j<5
  ·have d1:decide ((j:Int)<5)=true:=by simp;omega
   simp only[go_sem,simprocAttr,aj hn,aA hn,ay hn,aB hn,hn,hn,d1,hN5 j aF,Option.map_some];refine⟨by omega,?_⟩;generalize hw:Uv.getD j []=w at *;refine U (ix aK w K _ p s bS hs) ?_;unfold di;cases hg:aH T w s
   ·simp only[go_sem,simprocAttr,aj hn,aA hn,ay hn,aB hn,hn,hn,hg,IK]
    exact⟨j+1,⟨⟨aF,fun i hi=>by
     rcases Nat.lt_or_ge i j with h|h
     ·exact lj i h
     ·obtain rfl:i=j:=by omega
      rw[hw];exact hg⟩,rfl⟩,by omega⟩
   ·have yU:iv T s=true:=by
     rw[tB]
     match j,aF,hw with
     |0,_,hw=>obtain rfl:[112,114,105,110,116]=w:=hw;simp[hg]
     |1,_,hw=>obtain rfl:[101,120,105,116]=w:=hw;simp[hg]
     |2,_,hw=>obtain rfl:[115,105,122,101]=w:=hw;simp[hg]
     |3,_,hw=>obtain rfl:[114,101,102]=w:=hw;simp[hg]
     |4,_,hw=>obtain rfl:[33]=w:=hw;simp[hg]
    have Uw:(aD T s).t=w:=by simp[aH]at hg;exact hg.2
    have bx:=hs.aE hT (cB hg).2;rcases hq:fy T T.length ex (aE s)with⟨⟨k1,n1,u1,t1,q1,l1,m1⟩,s2⟩
    have e1:(az (fy T T.length ex) fun a=>aO (node1 15 (aD T s).t (aD T s).p a)) (aE s)=(aa.mk 15 w 0 [] (aD T s).p [.mk k1 n1 u1 t1 q1 l1 m1] [],s2):=by rw[aN,hq,Uw];rfl
    rw[aQ yU,e1]at hF⊢;generalize (aD T s).p=tp at *;simp only[go_sem,simprocAttr,aj hn,aA hn,ay hn,aB hn,hn,hn,hg];obtain⟨H1,kj,ah,dL,fJ,lP,_,cy,bZ⟩:=(hA p).use aa.wf hq hn hp hb bx hF (by rw[nA 15,List.map_cons,nK];omega);have cN:=fun A A'=>cy [] [] A A' (Env.nil _ _ _)
    obtain⟨c1,b1,rfl⟩:=(cN [] []).fK rfl;refine⟨_,gP hn _ _ _,?_⟩;simp only[go_sem,simprocAttr,aj hn,aA hn,ay hn,aB hn,hn,hn];refine aL _ _ (qU ah hn _ _ _) (gP ah _ _ _) (gp bZ _ fun _=>trivial) ?_;simp only[go_sem,simprocAttr,aj ah,aA ah,ay ah,aB ah,ah,ah,Nat.add_zero];exact⟨_,H1,_,_,rfl,rfl,dL,iP ((cN [] _).node1 (by rw[aj ah];rfl) (by omega) (by omega) (aa.b9 _))⟩
  ·obtain rfl:j=5:=by omega
   have Ux:iv T s=false:=by
    rw[tB,show aH T [112,114,105,110,116] s=false from lj 0 (by omega),show aH T [101,120,105,116] s=false from lj 1 (by omega),show aH T [115,105,122,101] s=false from lj 2 (by omega),show aH T [114,101,102] s=false from lj 3 (by omega),show aH T [33] s=false from lj 4 (by omega)];rfl
   rw[aU Ux]at hF⊢;simp only[go_sem,simprocAttr,aj hn,aA hn,ay hn,aB hn,hn,hn];refine U (iY 4 K _ p s bS hs) ?_;cases c4:bp T 4 s
   ·rw[aU c4]at hF⊢
    simp only[go_sem,simprocAttr,aj hn,aA hn,ay hn,aB hn,hn,hn,c4,Bool.not_false,Bool.not_true];rcases hq:fy T T.length ex s with⟨⟨k1,n1,u1,t1,q1,l1,m1⟩,s2⟩
    rw[hq]at hF;obtain⟨H1,kj,ah,dL,fJ,lP,_,cy,bZ⟩:=(hA p).use aa.wf hq hn hp hb hs hF (Nat.le_refl _);refine U (bZ _ trivial) ?_;have cN:=fun A A'=>cy [] [] A A' (Env.nil _ _ _)
    obtain⟨c1,b1,rfl⟩:=(cN [] []).fK rfl;simp only[go_sem,simprocAttr,aj ah,aA ah,ay ah,aB ah,ah,ah];exact⟨_,H1,_,n,rfl,rfl,dL,cN [] _⟩
   ·rw[aQ c4]at hF⊢
    have bt:=hs.aE hT (show(aD T s).k≠8 by have:=(qR c4).2;omega);generalize (aD T s).t=tt at *;generalize (aD T s).p=tp at *;simp only[go_sem,simprocAttr,aj hn,aA hn,ay hn,aB hn,hn,hn,c4,Bool.not_false,Bool.not_true,mA bS,qq bS,jF,df];refine U (C9 K _ p _ bS bt) ?_;cases bc:dW T (aE s)
    ·rw[jj bc]at hF⊢
     simp only[go_sem,simprocAttr,aj hn,aA hn,ay hn,aB hn,hn,hn,bc];exact⟨_,K,_,0,rfl,rfl,Kp.rfl,hQ _ _ _ _ _ _ _ _⟩
    ·rw[fE bc]at hF⊢
     rcases hq:fy T T.length ex (aE s)with⟨⟨k1,n1,u1,t1,q1,l1,m1⟩,s2⟩
     have e1:(az (fy T T.length ex) fun a=>aO (node1 6 tt tp a)) (aE s)=(aa.mk 6 tt 0 [] tp [.mk k1 n1 u1 t1 q1 l1 m1] [],s2):=by rw[aN,hq];rfl
     rw[e1]at hF⊢;simp only[go_sem,simprocAttr,aj hn,aA hn,ay hn,aB hn,hn,hn,bc];obtain⟨H1,kj,ah,dL,fJ,lP,_,cy,bZ⟩:=(hA p).use aa.wf hq hn hp hb bt hF (by rw[nA 6,List.map_cons,nK];omega);refine U (bZ _ trivial) ?_;have cN:=fun A A'=>cy [] [] A A' (Env.nil _ _ _)
     obtain⟨c1,b1,rfl⟩:=(cN [] []).fK rfl;simp only[go_sem,simprocAttr,aj ah,aA ah,ay ah,aB ah,ah,ah,Nat.add_zero];exact⟨_,H1,_,_,rfl,rfl,dL,iP ((cN [] _).node1 (by rw[aj ah];rfl) (by omega) (by omega) (aa.b9 _))⟩
end
theorem Gv (a:aa):∃k n u t q l m,a=.mk k n u t q l m:=by cases a;exact⟨_,_,_,_,_,_,_,rfl⟩
structure CG where
 j:Nat
 s:PS
 a:aa
 cs:List AV
 H:List AO
 A:List AO
 M:Nat
structure uW (pv:PS->AO) (T:List Tok) (e b n p:Nat) (K:List AO) (v:Nat) (g:PS->Bool) (m:aa->PM aa) (R:aa×PS) (x:CG):Prop where
 ok:Ok T e x.s
 fu:x.s.c=0->T.length-x.s.i<=x.j
 eq:carry g m x.j x.a x.s=R
 hn:x.H.length=n
 kp:Kp b K x.H
 fr:Fr b x.H x.M
 room:nC R.1.tv<=nC x.a.tv+x.M
 env:∃u,n<=u/\u<=n+x.A.length/\Env b u (x.H.set p (pv x.s)++x.A) x.a.tv x.cs
 var:x.A[v]?=some (.var x.cs)
theorem oi {g:PS→Bool} {m:aa→PM aa} (h:∀a s,nC a.tv≤nC (m a s).1.tv):∀n a s,nC a.tv≤nC (carry g m n a s).1.tv
  |0,a,s=>Nat.le_refl _
  |n+1,a,s=>by
   rw[carry];split
   · exact Nat.le_trans (h a s) (oi h n _ _)
   · exact Nat.le_refl _
theorem kE (k:Int) (nm:List UInt8) (q:Int) (a b:aa):nC (aa.tv (node2 k nm q a b))=1+(nC a.tv+nC b.tv):=by
 rw[node2,nA];simp[nK,nR]
section
variable {pv:PS->AO} {T:List Tok} {e b n p v:Nat} {K:List AO} {g:PS->Bool} {m:aa->PM aa} {R:aa×PS}
theorem uW.start {s:PS} {a:aa} {cs:List AV} {H A:List AO} {M:Nat} (hs:Ok T e s) (h:carry g m T.length a s=R) (hn:H.length=n) (hk:Kp b K H) (hF:Fr b H M) (hM:nC R.1.tv<=nC a.tv+M) (hE:Env b n (H.set p (pv s)++A) a.tv cs) (hv:A[v]?=some (.var cs)):uW pv T e b n p K v g m R ⟨T.length,s,a,cs,H,A,M⟩:=
 ⟨hs,fun _=>by simp only;omega,h,hn,hk,hF,hM,⟨n,Nat.le_refl _,Nat.le_add_right _ _,hE⟩,hv⟩
theorem uW.stop {x:CG} (h:uW pv T e b n p K v g m R x) (hg:g x.s=false):R=(x.a,x.s):=by
 have:=h.eq;rw[ru hg]at this;exact this.symm
theorem uW.succ {x:CG} (h:uW pv T e b n p K v g m R x) (ho:eI T g) (hg:g x.s=true):∃j',x.j=j'+1:=⟨x.j-1,by have:=h.fu (ho x.s hg).1;have:=h.ok.1;omega⟩
theorem uW.Gw {x:CG} (h:uW pv T e b n p K v g m R x) (ho:eI T g) (hg:g x.s=true) (xx:∀a s,nC a.tv<=nC (m a s).1.tv) {k:Int} {nm:List UInt8} {q:Int} {y:aa} {s2:PS} (hm:m x.a x.s=(node2 k nm q x.a y,s2)):nC y.tv<=x.M:=by
 obtain⟨j',hj⟩:=h.succ ho hg;have h1:=h.eq;rw[hj,carry,if_pos hg,hm]at h1;have h2:=oi (g:=g) xx j' (node2 k nm q x.a y) s2;rw[h1,kE]at h2;have:=h.room;omega
theorem uW.next {x:CG} (h:uW pv T e b n p K v g m R x) (hp:p<b) (hb:b<=n) (ho:eI T g) (hg:g x.s=true) (xx:∀a s,nC a.tv<=nC (m a s).1.tv) {k:Int} {nm:List UInt8} {q:Int} {y:aa} {s0 s2:PS} (hm:m x.a x.s=(node2 k nm q x.a y,s2)) (bt:Ok T e s2) (cG:x.s.i<s2.i)
  {H1 A':List AO} {kj:List AV} {r:Nat} (ah:H1.length=n) (dL:Kp b x.H H1) (fJ:Fr b H1 (x.M-nC y.tv)) (XM:kj.length=7)
  (cy:∀u ts ds A,n<=u->Env b u (x.H.set p (pv s0)++A) ts ds->Env b u (H1.set p (pv s2)++A) (ts++y.tv) (ds++kj))
  (hk:∀(i:Nat) o,i≠v->x.A[i]?=some o->A'[i]?=some o) (hv:A'[v]?=some (.var [iV k,sV nm,iV 0,sV [],iV q,.gs (n+r) 0 0 2,.p .nl])) (hr:A'[r]?=some (.rows 7 0 [x.cs,kj])) (qL:x.A.length<=r):
  uW pv T e b n p K v g m R ⟨x.j-1,s2,node2 k nm q x.a y,[iV k,sV nm,iV 0,sV [],iV q,.gs (n+r) 0 0 2,.p .nl],H1,A',x.M-nC y.tv⟩:=by
 have hro:=h.Gw ho hg xx hm;obtain⟨j',hj⟩:=h.succ ho hg;have h1:=h.eq;rw[hj,carry,if_pos hg,hm]at h1;obtain⟨u,u1,u2,hE⟩:=h.env;have hl7:x.cs.length=7:=by rw[hE.len,aa.b9]
 refine⟨bt,fun hc=>?_,by rw[hj,Nat.add_sub_cancel];exact h1,ah,h.kp.trans dL,fJ,by simp only;rw[kE];have:=h.room;omega,⟨n+r+1,by omega,by have:=aT hr;simp only;omega,?_⟩,hv⟩
 ·have:=h.fu (ho x.s hg).1;have:=h.ok.1;simp only;omega
 ·have e1:=(cy u _ _ x.A u1 (hE.q h.hn hp fun _ _ _ _ h=>h)).q (A':=A') (c':=pv s2) ah hp fun i sz ver rs hi=>hk i _ (by rintro rfl;rw[h.var]at hi;cases hi) hi
  exact iP (Env.node (rows:=[x.a.tv,y.tv]) (rs:=[x.cs,kj]) (by simpa using e1) (by rw[aj ah];exact hr) (by omega) (by omega) rfl (by intro r hr;simp at hr;rcases hr with rfl|rfl<;>exact aa.b9 _) (by intro r hr;simp at hr;rcases hr with rfl|rfl<;>assumption) (by simp))
end
section
variable {T:List Tok} {most e:Nat} (hT:bH T) (aK:T.length<=1073741825)
include hT aK
theorem Pv {ex:PM aa} (sP:ab T ex) {s:PS} (hi:s.i<T.length) (hg:dW T s=true):s.i<(fy T T.length ex s).2.i:=by
 have ha:s.i<(aE s).i:=by show s.i<s.i+1;omega
 unfold fy;rw[bE];cases c0:bp T 1 s;rotate_left
 ·rw[aQ c0];exact ha
 rw[aU c0];cases c1:bp T 2 s;rotate_left
 ·rw[aQ c1];exact ha
 rw[aU c1];cases c2:aH T [116,114,117,101] s;rotate_left
 ·rw[aQ c2];exact ha
 rw[aU c2];cases c3:aH T [102,97,108,115,101] s;rotate_left
 ·rw[aQ c3];exact ha
 rw[aU c3];cases c4:bp T 3 s;rotate_left
 ·rw[aQ c4];exact ha
 rw[aU c4];cases c5:bp T 4 s;rotate_left
 ·rw[aQ c5];exact ha
 rw[aU c5];cases c6:aH T [114,101,97,100] s;rotate_left
 ·rw[aQ c6];exact ha
 rw[aU c6];have hb:aH T [40] s=true:=by simpa[dW,c0,c1,c2,c3,c4,c5,c6]using hg
 unfold DP;rw[bE,cV];have ew:aS T [40] s=aE s:=by unfold aS;rw[if_pos hb]
 rw[ew];refine(gR.aE hT (f:=fun s'=>(bg (aH T [41]) (aO (leaf 4 [] 0 [] (aD T s).p)) (dU (fun s=>!decide (s.c=0)) (aO (leaf 4 [] 0 [] (aD T s).p)) (az ex fun a=>az (many (aH T [44]) (bM ex) T.length) fun l=>cg (aS T [41]) (aO (if l=[]then a else .mk 7 [] 0 [] (aD T s).p (a::l) [])))) s').2) ?_ hi (cB hb).2).1;exact ab.bg hT (aw T _) (ab.ret _) (ab.dU (ab.ret _) (ab.bind sP fun _=>ab.bind (ab.gj hT (aw T _) sP _) fun _=>ab.step (aG hT _) (ab.ret _)))
theorem adu {d:Nat} (hd:d<=1099511627776) {ex:PM aa} (hP:iz T most e 30 [iV (d+1:Nat)] ex aa.tv) (sP:ab T ex):iz T most e 167 [iV d] (uf T T.length ex) aa.tv:=by
 have hA:=NJ hT aK hd hP sP;have hB:=adt hT aK hd hP sP;have sA:=Pg.jZ (N:=T.length) hT sP;have sB:=Pg.w4 (N:=T.length) hT sP;have oN:eI T (dW T):=only_atNx;refine iq fun p K b n s hn hp hb hs hF=>?_
 have bS:p<K.length:=by omega
 refine call167 (by simp) ?_;simp only[go_sem,simprocAttr,aj hn,aA hn,ay hn,aB hn,hn,hn,Lu,Ui];rcases hq:sZ T T.length ex s with⟨⟨k1,n1,u1,t1,q1,l1,m1⟩,s1⟩
 have bx:=hs.run sB;rw[hq]at bx;have e0:uf T T.length ex s=yi T T.length (fy T T.length ex) (.mk k1 n1 u1 t1 q1 l1 m1) s1:=by unfold uf;rw[aN,hq]
 rw[e0]at hF⊢
 have xx:∀a s,nC a.tv<=nC ((fun a=>az (fy T T.length ex) fun b=>aO (node2 9 [] a.pos a b)) a s).1.tv:=fun a s=>by
  show nC a.tv<=nC (node2 9 [] a.pos a _).tv;rw[kE];omega
 unfold yi at hF⊢;generalize hR:carry (dW T) (fun a=>az (fy T T.length ex) fun b=>aO (node2 9 [] a.pos a b)) T.length (.mk k1 n1 u1 t1 q1 l1 m1) s1=R at *;have ir:nC (aa.tv (.mk k1 n1 u1 t1 q1 l1 m1))<=nC R.1.tv:=by rw[<-hR];exact oi xx _ _ _
 obtain⟨H1,kj,ah,dL,fJ,lP,_,cy,bZ⟩:=(hB p).use aa.wf hq hn hp hb hs hF ir;refine U (bZ _ trivial) ?_;have cN:=fun A A'=>cy [] [] A A' (Env.nil _ _ _)
 obtain⟨c1,b1,rfl⟩:=(cN [] []).fK rfl;simp only[go_sem,simprocAttr,aj ah,aA ah,ay ah,aB ah,ah,ah]
 refine⟨CG,[0,1,4,5],fun x st=>(uW (cW T most) T e b n p K 1 (dW T) (fun a=>az (fy T T.length ex) fun b=>aO (node2 9 [] a.pos a b)) R x/\x.A[0]?=some (.var [iV 0,sV [],iV 0,sV [],iV 0,.p .nl,.p .nl]))/\st=⟨[(0,.ptr p 0),(1,iV d),(4,.ptr n 0),(5,.ptr (n+1) 0)],[],x.H.set p (cW T most x.s)++x.A⟩,fun x=>T.length-x.s.i,
  ⟨⟨T.length,s1,.mk k1 n1 u1 t1 q1 l1 m1,[iV k1,sV n1,iV u1,sV t1,iV q1,c1,b1],H1,[.var [iV 0,sV [],iV 0,sV [],iV 0,.p .nl,.p .nl],.var [iV k1,sV n1,iV u1,sV t1,iV q1,c1,b1]],nC R.1.tv-nC (aa.tv (.mk k1 n1 u1 t1 q1 l1 m1))⟩,?_⟩,?_⟩
 ·exact⟨⟨uW.start bx hR ah dL fJ (by omega) (cN [] _) rfl,rfl⟩,rfl⟩
 ·rintro x _ ⟨⟨hL,i0⟩,rfl⟩
  have km:p<x.H.length:=by rw[hL.hn];omega
  simp only[go_sem,simprocAttr,aj hL.hn,aA hL.hn,ay hL.hn,aB hL.hn,hL.hn,hL.hn];refine U (C9 x.H _ p x.s km hL.ok) ?_;obtain⟨u,Uy,u2',hE⟩:=hL.env;cases hg:dW T x.s
  ·have hx:=hL.stop hg
   rw[hx];obtain⟨d1,d2,d3,d4,d5,d6,d7,gU⟩:=Ur (hE.len.trans (aa.b9 _));have i1:=hL.var;rw[gU]at i1 hE;have hz:∀o,(x.A.set 0 o)[0]?=some o:=fun o=>aR i0
   simp only[go_sem,simprocAttr,aj hL.hn,aA hL.hn,ay hL.hn,aB hL.hn,hL.hn,hL.hn,hg,i1,i0,hz];exact⟨_,x.H,_,u,rfl,rfl,hL.kp,hE.q hL.hn hp fun i sz ver rs hi=>aM hi (by rintro rfl;rw[i0]at hi;cases hi)⟩
  ·rcases dC:fy T T.length ex x.s with⟨⟨k3,n3,u3,t3,q3,l3,m3⟩,s3⟩
   have eA:=hL.ok.run sA;have cG:=Pv hT aK sP hL.ok.1 hg;rw[dC]at eA cG
   have hm:(fun a=>az (fy T T.length ex) fun b=>aO (node2 9 [] a.pos a b)) x.a x.s=(node2 9 [] x.a.pos x.a (.mk k3 n3 u3 t3 q3 l3 m3),s3):=by
    show az _ _ _=_;rw[aN,dC];rfl
   obtain⟨H2,yT,bd,oC,oD,Aj,iB,_,call2⟩:=(hA p).use aa.wf dC hL.hn hp hb hL.ok hL.fr (hL.Gw oN hg xx hm);obtain⟨c2,b2,rfl⟩:=(iB u _ _ _ Uy hE).fK hE.len;obtain⟨k4,n4,u4,t4,q4,l4,m4,yS⟩:=Gv x.a;have wm:x.a.pos=q4:=by rw[yS];rfl
   rw[wm]at hm;have IL:=hE;rw[yS]at IL;obtain⟨c4,b4,gU⟩:=Env.fK (ts:=[]) (ds:=[]) (cs:=x.cs) IL rfl;have i1:=hL.var;rw[gU]at i1;have hz:∀B o,((x.A++B).set 1 o)[1]?=some o:=fun B o=>aR (ag i1 B)
   simp only[go_sem,simprocAttr,aj hL.hn,aA hL.hn,ay hL.hn,aB hL.hn,hL.hn,hL.hn,hg];refine⟨_,gP hL.hn _ _ _,?_⟩;simp only[go_sem,simprocAttr,aj hL.hn,aA hL.hn,ay hL.hn,aB hL.hn,hL.hn,hL.hn,i1];refine aL _ _ (qU bd hL.hn _ _ _) (gP bd _ _ _) (gp call2 _ fun _=>trivial) ?_;simp only[go_sem,simprocAttr,aj bd,aA bd,ay bd,aB bd,bd,bd,Gu bd,wz bd,Nat.add_zero,ag i1 _]
   exact⟨⟨x.j-1,s3,node2 9 [] q4 x.a (.mk k3 n3 u3 t3 q3 l3 m3),[iV 9,sV [],iV 0,sV [],iV q4,.gs (n+x.A.length) 0 0 2,.p .nl],H2,_,x.M-nC (aa.tv (.mk k3 n3 u3 t3 q3 l3 m3))⟩,
    ⟨⟨hL.next (s0:=x.s) hp hb oN hg xx hm eA cG bd oC oD rfl iB (fun i o hi ho=>aM (ag ho _) (by omega)) (hz _ _) (by rw[List.getElem?_set_ne (by have:=aT i1;omega),<-gU,fX];rfl) (Nat.le_refl _),aM (ag i0 _) (by decide)⟩,rfl⟩,by have h1:x.s.i<s3.i:=cG;have:=hL.ok.1;simp only;omega⟩
end
def BX (p q1 q2 d:Nat) (X:List AO):Prop:=q1≠p/\q2≠p/\X[q1]?=some (.var [.ptr p 0])/\X[q2]?=some (.var [iV d])
theorem BX.mono {p q1 q2 d:Nat} (X Y:List AO) (h:BX p q1 q2 d X) (k:∀(i:Nat) o,X[i]?=some o->Y[i]?=some o):BX p q1 q2 d Y:=⟨h.1,h.2.1,k _ _ h.2.2.1,k _ _ h.2.2.2⟩
theorem DX {H:List AO} {p q:Nat} {o:AO} (hq:q≠p) (h:H[q]?=some o) (c:AO) (A:List AO):(H.set p c++A)[q]?=some o:=by
 rw[List.getElem?_append_left (by simpa using aT h),List.getElem?_set_ne (Ne.symm hq)];exact h
abbrev Gx (T:List Tok) (most e d f:Nat) (m:PM aa):Prop:=∀p q1 q2,PX (cW T most) T e f [.ptr q1 0,.ptr q2 0] (BX p q1 q2 d) p m aa.tv
section
variable {T:List Tok} {most e d:Nat}
theorem Pw {m:PM aa} (hG:iz T most e 167 [iV d] m aa.tv):Gx T most e d 166 m:=by
 intro p q1 q2;refine Ai (iD T most) BX.mono fun K b n s hn hp hb hs hB hF=>?_
 obtain⟨b1,b2,b3,b4⟩:=hB;have g1:=DX b1 b3;have g2:=DX b2 b4;refine call166 (by simp) ?_;simp only[go_sem,simprocAttr,aj hn,aA hn,ay hn,aB hn,hn,hn,Ls,Uh,g1,g2];rcases hq:m s with⟨⟨k1,n1,u1,t1,q3,l1,m1⟩,s1⟩
 rw[hq]at hF;obtain⟨H1,kj,ah,dL,fJ,lP,_,cy,bZ⟩:=(hG p).use aa.wf hq hn hp hb hs hF (Nat.le_refl _);refine U (bZ _ trivial) ?_;have cN:=fun A A'=>cy [] [] A A' (Env.nil _ _ _)
 obtain⟨c1,b1,rfl⟩:=(cN [] []).fK rfl;simp only[go_sem,simprocAttr,aj ah,aA ah,ay ah,aB ah,ah,ah];exact⟨_,H1,_,n,rfl,rfl,dL,cN [] _⟩
theorem Px {m:PM aa} (hG:iz T most e 134 [iV 1,iV d] m aa.tv):Gx T most e d 168 m:=by
 intro p q1 q2;refine Ai (iD T most) BX.mono fun K b n s hn hp hb hs hB hF=>?_
 obtain⟨b1,b2,b3,b4⟩:=hB;have g1:=DX b1 b3;have g2:=DX b2 b4;refine call168 (by simp) ?_;simp only[go_sem,simprocAttr,aj hn,aA hn,ay hn,aB hn,hn,hn,Lv,Uj,g1,g2];rcases hq:m s with⟨⟨k1,n1,u1,t1,q3,l1,m1⟩,s1⟩
 rw[hq]at hF;obtain⟨H1,kj,ah,dL,fJ,lP,_,cy,bZ⟩:=(hG p).use aa.wf hq hn hp hb hs hF (Nat.le_refl _);refine U (bZ _ trivial) ?_;have cN:=fun A A'=>cy [] [] A A' (Env.nil _ _ _)
 obtain⟨c1,b1,rfl⟩:=(cN [] []).fK rfl;simp only[go_sem,simprocAttr,aj ah,aA ah,ay ah,aB ah,ah,ah];exact⟨_,H1,_,n,rfl,rfl,dL,cN [] _⟩
theorem LJ {m:PM aa} (hG:iz T most e 134 [iV 0,iV d] m aa.tv):Gx T most e d 133 m:=by
 intro p q1 q2;refine Ai (iD T most) BX.mono fun K b n s hn hp hb hs hB hF=>?_
 obtain⟨b1,b2,b3,b4⟩:=hB;have g1:=DX b1 b3;have g2:=DX b2 b4;refine call133 (by simp) ?_;simp only[go_sem,simprocAttr,aj hn,aA hn,ay hn,aB hn,hn,hn,Lm,Ud,g1,g2];rcases hq:m s with⟨⟨k1,n1,u1,t1,q3,l1,m1⟩,s1⟩
 rw[hq]at hF;obtain⟨H1,kj,ah,dL,fJ,lP,_,cy,bZ⟩:=(hG p).use aa.wf hq hn hp hb hs hF (Nat.le_refl _);refine U (bZ _ trivial) ?_;have cN:=fun A A'=>cy [] [] A A' (Env.nil _ _ _)
 obtain⟨c1,b1,rfl⟩:=(cN [] []).fK rfl;simp only[go_sem,simprocAttr,aj ah,aA ah,ay ah,aB ah,ah,ah];exact⟨_,H1,_,n,rfl,rfl,dL,cN [] _⟩
theorem LK {m:PM aa} (hG:iz T most e 90 [iV 1,iV d] m aa.tv):Gx T most e d 135 m:=by
 intro p q1 q2;refine Ai (iD T most) BX.mono fun K b n s hn hp hb hs hB hF=>?_
 obtain⟨b1,b2,b3,b4⟩:=hB;have g1:=DX b1 b3;have g2:=DX b2 b4;refine call135 (by simp) ?_;simp only[go_sem,simprocAttr,aj hn,aA hn,ay hn,aB hn,hn,hn,Lo,Ue,g1,g2];rcases hq:m s with⟨⟨k1,n1,u1,t1,q3,l1,m1⟩,s1⟩
 rw[hq]at hF;obtain⟨H1,kj,ah,dL,fJ,lP,_,cy,bZ⟩:=(hG p).use aa.wf hq hn hp hb hs hF (Nat.le_refl _);refine U (bZ _ trivial) ?_;have cN:=fun A A'=>cy [] [] A A' (Env.nil _ _ _)
 obtain⟨c1,b1,rfl⟩:=(cN [] []).fK rfl;simp only[go_sem,simprocAttr,aj ah,aA ah,ay ah,aB ah,ah,ah];exact⟨_,H1,_,n,rfl,rfl,dL,cN [] _⟩
theorem LM (hd:d<=1099511627776) {m:PM aa} (hG:iz T most e 30 [iV (d+1:Nat)] m aa.tv):Gx T most e d 85 m:=by
 intro p q1 q2;refine Ai (iD T most) BX.mono fun K b n s hn hp hb hs hB hF=>?_
 obtain⟨b1,b2,b3,b4⟩:=hB;have g1:=DX b1 b3;have g2:=DX b2 b4;have oz:wr .i64 ((d:Int)+1)=((d+1:Nat):Int):=cH _ (by omega);refine call85 (by simp) ?_;simp only[go_sem,simprocAttr,aj hn,aA hn,ay hn,aB hn,hn,hn,TZ,abn,g1,g2,oz];rcases hq:m s with⟨⟨k1,n1,u1,t1,q3,l1,m1⟩,s1⟩
 rw[hq]at hF;obtain⟨H1,kj,ah,dL,fJ,lP,_,cy,bZ⟩:=(hG p).use aa.wf hq hn hp hb hs hF (Nat.le_refl _);refine U (bZ _ trivial) ?_;have cN:=fun A A'=>cy [] [] A A' (Env.nil _ _ _)
 obtain⟨c1,b1,rfl⟩:=(cN [] []).fK rfl;simp only[go_sem,simprocAttr,aj ah,aA ah,ay ah,aB ah,ah,ah];exact⟨_,H1,_,n,rfl,rfl,dL,cN [] _⟩
end
theorem jy {C:iZ} {Hm Hc:List AO} {x:MA} {d:MD} {J:PK} {st:St} {f:Nat} {eL:List AV} (hx:st.get x=.eB f eL) (h:oK C Hm Hc [] f eL d J st):Ea C Hm Hc (.sY x []) d J st:=by
 unfold Ea;simp only[hx];exact h
section
variable {T:List Tok} {most e:Nat} (hT:bH T) (aK:T.length<=1073741825)
include hT aK
theorem YF {d:Nat} {side:PM aa} (hC:Gx T most e d 166 side) (sS:ab T side):iz T most e 134 [iV 1,iV d] (az side (lD T T.length [[42]] side)) aa.tv:=by
 have oN:eI T (iw T [[42]]):=ee _;refine iq fun p K b n s hn hp hb hs hF=>?_
 have bS:p<K.length:=by omega
 refine call134 (by simp) ?_;simp only[go_sem,simprocAttr,aj hn,aA hn,ay hn,aB hn,hn,hn,Gs,Ln];rcases hq:side s with⟨⟨k1,n1,u1,t1,q1,l1,m1⟩,s1⟩
 have bx:=hs.run sS;rw[hq]at bx;have e0:az side (lD T T.length [[42]] side) s=lD T T.length [[42]] side (.mk k1 n1 u1 t1 q1 l1 m1) s1:=by rw[aN,hq]
 rw[e0]at hF⊢
 have xx:∀a s,nC a.tv<=nC ((fun a=>dZ T fun t=>bM (az side fun b=>aO (node2 14 t.t t.p a b))) a s).1.tv:=fun a s=>by
  show nC a.tv<=nC (node2 14 _ _ a _).tv;rw[kE];omega
 unfold lD at hF⊢;generalize hR:carry (iw T [[42]]) (fun a=>dZ T fun t=>bM (az side fun b=>aO (node2 14 t.t t.p a b))) T.length (.mk k1 n1 u1 t1 q1 l1 m1) s1=R at *;have ir:nC (aa.tv (.mk k1 n1 u1 t1 q1 l1 m1))<=nC R.1.tv:=by rw[<-hR];exact oi xx _ _ _
 have p7:n≠p:=by omega
 have kH:n+1≠p:=by omega
 obtain⟨H1,kj,ah,dL,fJ,lP,_,cy,bZ⟩:=(hC p n (n+1)).use aa.wf hq hn hp hb hs hF ir;refine U (bZ _ ⟨p7,kH,by rw[<-hn,fX];rfl,by rw[<-hn,eZ];rfl⟩) ?_;have cN:=fun A A'=>cy [] [] A A' (Env.nil _ _ _)
 obtain⟨c1,b1,rfl⟩:=(cN [] []).fK rfl;simp only[go_sem,simprocAttr,aj ah,aA ah,ay ah,aB ah,ah,ah];generalize xy:([.var [.ptr p 0],.var [iV d],.var [iV 0,sV [],iV 0,sV [],iV 0,.p .nl,.p .nl],.rows 1 0 ([[43],[45],[94]].map fun x=>[.p (.s x)]),.rows 1 0 ([[42]].map fun x=>[.p (.s x)]),.rows 1 0 [[.gs (n+3) 0 0 3],[.gs (n+4) 0 0 1]]]:List AO)=A6;have y0:A6[0]?=some (.var [.ptr p 0]):=by subst xy;rfl
 have y1:A6[1]?=some (.var [iV d]):=by subst xy;rfl
 have y2:A6[2]?=some (.var [iV 0,sV [],iV 0,sV [],iV 0,.p .nl,.p .nl]):=by subst xy;rfl
 have y3:A6[4]?=some (.rows 1 0 ([[42]].map fun x=>[.p (.s x)])):=by subst xy;rfl
 have y5:A6[5]?=some (.rows 1 0 [[.gs (n+3) 0 0 3],[.gs (n+4) 0 0 1]]):=by subst xy;rfl
 have y6:A6.length=6:=by subst xy;rfl
 refine⟨CG,[0,1,3,6,7,8,9],fun x st=>(uW (cW T most) T e b n p K 6 (iw T [[42]]) (fun a=>dZ T fun t=>bM (az side fun b=>aO (node2 14 t.t t.p a b))) R x/\∀(i:Nat) o,i<6->A6[i]?=some o->x.A[i]?=some o)/\st=⟨[(0,.ptr p 0),(1,iV 1),(3,.ptr n 0),(6,.ptr (n+2) 0),(7,.gs (n+5) 0 0 2),(8,.eB 166 [.ptr n 0,.ptr (n+1) 0]),(9,.ptr (n+6) 0)],[],x.H.set p (cW T most x.s)++x.A⟩,fun x=>T.length-x.s.i,
  ⟨⟨T.length,s1,.mk k1 n1 u1 t1 q1 l1 m1,[iV k1,sV n1,iV u1,sV t1,iV q1,c1,b1],H1,A6++[.var [iV k1,sV n1,iV u1,sV t1,iV q1,c1,b1]],nC R.1.tv-nC (aa.tv (.mk k1 n1 u1 t1 q1 l1 m1))⟩,?_⟩,?_⟩
 ·exact⟨⟨uW.start bx hR ah dL fJ (by omega) (cN [] _) (by rw[show(6:Nat)=A6.length from y6.symm,fX];rfl),fun i o hi ho=>ag ho _⟩,by subst xy;rfl⟩
 ·rintro x _ ⟨⟨hL,hI⟩,rfl⟩
  have km:p<x.H.length:=by rw[hL.hn];omega
  have i0:=hI 0 _ (by decide) y0;have i1:=hI 1 _ (by decide) y1;have i2:=hI 2 _ (by decide) y2;have i3:=hI 4 _ (by decide) y3;have i5:=hI 5 _ (by decide) y5;have jF:=ws aK hL.ok;obtain⟨u,Uy,u2',hE⟩:=hL.env;obtain⟨k4,n4,u4,t4,q4,l4,m4,yS⟩:=Gv x.a;have IL:=hE;rw[yS]at IL;obtain⟨c4,b4,gU⟩:=Env.fK (ts:=[]) (ds:=[]) (cs:=x.cs) IL rfl;have i6:=hL.var;rw[gU]at i6;have vY:iw T [[42]] x.s=(bp T 7 x.s&&decide ((aD T x.s).t∈[[42]])):=rfl;simp only[go_sem,simprocAttr,aj hL.hn,aA hL.hn,ay hL.hn,aB hL.hn,hL.hn,hL.hn];refine⟨_,cA.refl _,?_⟩;simp only[go_sem,simprocAttr,aj hL.hn,aA hL.hn,ay hL.hn,aB hL.hn,hL.hn,hL.hn,i0];refine bQ ((iY (most:=most) 7).chain km hL.ok) (cA.refl _) ?_;cases h7:bp T 7 x.s
  ·have hg:iw T [[42]] x.s=false:=by rw[vY,h7];rfl
   have hx:=hL.stop hg;rw[hx];have hz:∀o,(x.A.set 2 o)[2]?=some o:=fun o=>aR i2
   simp only[go_sem,simprocAttr,aj hL.hn,aA hL.hn,ay hL.hn,aB hL.hn,hL.hn,hL.hn,h7,i6,i2,hz];rw[gU]at hE;exact⟨_,x.H,_,u,rfl,rfl,hL.kp,hE.q hL.hn hp fun i sz ver rs hi=>aM hi (by rintro rfl;rw[i2]at hi;cases hi)⟩
  simp only[go_sem,simprocAttr,aj hL.hn,aA hL.hn,ay hL.hn,aB hL.hn,hL.hn,hL.hn,h7,i5,i0];refine bQ ((lK (most:=most)).chain km hL.ok) (cA.refl _) ?_;simp only[go_sem,simprocAttr,aj hL.hn,aA hL.hn,ay hL.hn,aB hL.hn,hL.hn,hL.hn,Tok.cells];refine U (sw (L:=[[42]]) (by rw[aj hL.hn];exact i3) (by decide)) ?_;cases xr:decide ((aD T x.s).t∈[[42]])
  ·have hg:iw T [[42]] x.s=false:=by rw[vY,h7,xr];rfl
   have hx:=hL.stop hg;rw[hx];have hz:∀o,(x.A.set 2 o)[2]?=some o:=fun o=>aR i2
   simp only[go_sem,simprocAttr,aj hL.hn,aA hL.hn,ay hL.hn,aB hL.hn,hL.hn,hL.hn,xr,i6,i2,hz];rw[gU]at hE;exact⟨_,x.H,_,u,rfl,rfl,hL.kp,hE.q hL.hn hp fun i sz ver rs hi=>aM hi (by rintro rfl;rw[i2]at hi;cases hi)⟩
  have hg:iw T [[42]] x.s=true:=by rw[vY,h7,xr];rfl
  have hk7:=(qR h7).2;have dB:=hL.ok.aE hT (show(aD T x.s).k≠8 by omega);rcases dC:side (aE x.s)with⟨⟨k3,n3,u3,t3,q3,l3,m3⟩,s3⟩
  have eA:=dB.run sS;have cG:=(gR.aE hT sS hL.ok.1 (show(aD T x.s).k≠8 by omega)).1;rw[dC]at eA cG
  have hm:(fun a=>dZ T fun t=>bM (az side fun b=>aO (node2 14 t.t t.p a b))) x.a x.s=(node2 14 (aD T x.s).t (aD T x.s).p x.a (.mk k3 n3 u3 t3 q3 l3 m3),s3):=by
   simp only[bE,bM];rw[aN,dC];rfl
  obtain⟨H2,yT,bd,oC,oD,Aj,iB,_,call2⟩:=(hC p n (n+1)).use aa.wf dC hL.hn hp hb dB hL.fr (hL.Gw oN hg xx hm);obtain⟨c2,b2,rfl⟩:=(iB u _ _ x.A Uy (hE.q hL.hn hp fun _ _ _ _ h=>h)).fK hE.len;simp only[go_sem,simprocAttr,aj hL.hn,aA hL.hn,ay hL.hn,aB hL.hn,hL.hn,hL.hn,xr,i0];refine U (lK x.H _ p x.s km hL.ok) ?_;simp only[go_sem,simprocAttr,aj hL.hn,aA hL.hn,ay hL.hn,aB hL.hn,hL.hn,hL.hn,Tok.cells,i0,ag i0 _,Gu hL.hn,wz hL.hn,mA km,qq km,jF,df];refine⟨_,gP hL.hn _ _ _,?_⟩;simp only[go_sem,simprocAttr,aj hL.hn,aA hL.hn,ay hL.hn,aB hL.hn,hL.hn,hL.hn,i6,ag i6 _];refine jy rfl ?_;refine aL _ _ (qU bd hL.hn _ _ _) (gP bd _ _ _) (gp call2 _ fun A'=>⟨p7,kH,by rw[<-hL.hn,fX];exact ag (ag i0 _) _,by rw[<-hL.hn,eZ];exact ag (ag i1 _) _⟩) ?_;have hz:∀B o,((x.A++B).set 6 o)[6]?=some o:=fun B o=>aR (ag i6 B)
  simp only[go_sem,simprocAttr,aj bd,aA bd,ay bd,aB bd,bd,bd,Gu bd,wz bd,Nat.add_zero,ag i6 _]
  exact⟨⟨x.j-1,s3,node2 14 (aD T x.s).t (aD T x.s).p x.a (.mk k3 n3 u3 t3 q3 l3 m3),[iV 14,sV (aD T x.s).t,iV 0,sV [],iV (aD T x.s).p,.gs (n+(x.A.length+1)) 0 0 2,.p .nl],H2,_,x.M-nC (aa.tv (.mk k3 n3 u3 t3 q3 l3 m3))⟩,
   ⟨⟨hL.next (s0:=aE x.s) hp hb oN hg xx hm eA cG bd oC oD rfl iB (fun i o hi ho=>aM (ag ho _) (by omega)) (hz _ _) (by rw[List.getElem?_set_ne (by have:=aT i6;omega),<-gU,eZ];rfl) (Nat.le_add_right _ _),fun i o hi ho=>aM (ag (hI i o hi ho) _) (by omega)⟩,rfl⟩,by have h1:x.s.i<s3.i:=cG;have:=hL.ok.1;simp only;omega⟩
theorem YG {d:Nat} {side:PM aa} (hC:Gx T most e d 168 side) (sS:ab T side):iz T most e 134 [iV 0,iV d] (az side (lD T T.length [[43],[45],[94]] side)) aa.tv:=by
 have oN:eI T (iw T [[43],[45],[94]]):=ee _;refine iq fun p K b n s hn hp hb hs hF=>?_
 have bS:p<K.length:=by omega
 refine call134 (by simp) ?_;simp only[go_sem,simprocAttr,aj hn,aA hn,ay hn,aB hn,hn,hn,Gs,Ln];rcases hq:side s with⟨⟨k1,n1,u1,t1,q1,l1,m1⟩,s1⟩
 have bx:=hs.run sS;rw[hq]at bx;have e0:az side (lD T T.length [[43],[45],[94]] side) s=lD T T.length [[43],[45],[94]] side (.mk k1 n1 u1 t1 q1 l1 m1) s1:=by rw[aN,hq]
 rw[e0]at hF⊢
 have xx:∀a s,nC a.tv<=nC ((fun a=>dZ T fun t=>bM (az side fun b=>aO (node2 14 t.t t.p a b))) a s).1.tv:=fun a s=>by
  show nC a.tv<=nC (node2 14 _ _ a _).tv;rw[kE];omega
 unfold lD at hF⊢;generalize hR:carry (iw T [[43],[45],[94]]) (fun a=>dZ T fun t=>bM (az side fun b=>aO (node2 14 t.t t.p a b))) T.length (.mk k1 n1 u1 t1 q1 l1 m1) s1=R at *;have ir:nC (aa.tv (.mk k1 n1 u1 t1 q1 l1 m1))<=nC R.1.tv:=by rw[<-hR];exact oi xx _ _ _
 have p7:n≠p:=by omega
 have kH:n+1≠p:=by omega
 obtain⟨H1,kj,ah,dL,fJ,lP,_,cy,bZ⟩:=(hC p n (n+1)).use aa.wf hq hn hp hb hs hF ir;refine U (bZ _ ⟨p7,kH,by rw[<-hn,fX];rfl,by rw[<-hn,eZ];rfl⟩) ?_;have cN:=fun A A'=>cy [] [] A A' (Env.nil _ _ _)
 obtain⟨c1,b1,rfl⟩:=(cN [] []).fK rfl;simp only[go_sem,simprocAttr,aj ah,aA ah,ay ah,aB ah,ah,ah];generalize xy:([.var [.ptr p 0],.var [iV d],.var [iV 0,sV [],iV 0,sV [],iV 0,.p .nl,.p .nl],.rows 1 0 ([[43],[45],[94]].map fun x=>[.p (.s x)]),.rows 1 0 ([[42]].map fun x=>[.p (.s x)]),.rows 1 0 [[.gs (n+3) 0 0 3],[.gs (n+4) 0 0 1]]]:List AO)=A6;have y0:A6[0]?=some (.var [.ptr p 0]):=by subst xy;rfl
 have y1:A6[1]?=some (.var [iV d]):=by subst xy;rfl
 have y2:A6[2]?=some (.var [iV 0,sV [],iV 0,sV [],iV 0,.p .nl,.p .nl]):=by subst xy;rfl
 have y3:A6[3]?=some (.rows 1 0 ([[43],[45],[94]].map fun x=>[.p (.s x)])):=by subst xy;rfl
 have y5:A6[5]?=some (.rows 1 0 [[.gs (n+3) 0 0 3],[.gs (n+4) 0 0 1]]):=by subst xy;rfl
 have y6:A6.length=6:=by subst xy;rfl
 refine⟨CG,[0,1,3,6,7,8,9],fun x st=>(uW (cW T most) T e b n p K 6 (iw T [[43],[45],[94]]) (fun a=>dZ T fun t=>bM (az side fun b=>aO (node2 14 t.t t.p a b))) R x/\∀(i:Nat) o,i<6->A6[i]?=some o->x.A[i]?=some o)/\st=⟨[(0,.ptr p 0),(1,iV 0),(3,.ptr n 0),(6,.ptr (n+2) 0),(7,.gs (n+5) 0 0 2),(8,.eB 168 [.ptr n 0,.ptr (n+1) 0]),(9,.ptr (n+6) 0)],[],x.H.set p (cW T most x.s)++x.A⟩,fun x=>T.length-x.s.i,
  ⟨⟨T.length,s1,.mk k1 n1 u1 t1 q1 l1 m1,[iV k1,sV n1,iV u1,sV t1,iV q1,c1,b1],H1,A6++[.var [iV k1,sV n1,iV u1,sV t1,iV q1,c1,b1]],nC R.1.tv-nC (aa.tv (.mk k1 n1 u1 t1 q1 l1 m1))⟩,?_⟩,?_⟩
 ·exact⟨⟨uW.start bx hR ah dL fJ (by omega) (cN [] _) (by rw[show(6:Nat)=A6.length from y6.symm,fX];rfl),fun i o hi ho=>ag ho _⟩,by subst xy;rfl⟩
 ·rintro x _ ⟨⟨hL,hI⟩,rfl⟩
  have km:p<x.H.length:=by rw[hL.hn];omega
  have i0:=hI 0 _ (by decide) y0;have i1:=hI 1 _ (by decide) y1;have i2:=hI 2 _ (by decide) y2;have i3:=hI 3 _ (by decide) y3;have i5:=hI 5 _ (by decide) y5;have jF:=ws aK hL.ok;obtain⟨u,Uy,u2',hE⟩:=hL.env;obtain⟨k4,n4,u4,t4,q4,l4,m4,yS⟩:=Gv x.a;have IL:=hE;rw[yS]at IL;obtain⟨c4,b4,gU⟩:=Env.fK (ts:=[]) (ds:=[]) (cs:=x.cs) IL rfl;have i6:=hL.var;rw[gU]at i6;have vY:iw T [[43],[45],[94]] x.s=(bp T 7 x.s&&decide ((aD T x.s).t∈[[43],[45],[94]])):=rfl;simp only[go_sem,simprocAttr,aj hL.hn,aA hL.hn,ay hL.hn,aB hL.hn,hL.hn,hL.hn];refine⟨_,cA.refl _,?_⟩;simp only[go_sem,simprocAttr,aj hL.hn,aA hL.hn,ay hL.hn,aB hL.hn,hL.hn,hL.hn,i0];refine bQ ((iY (most:=most) 7).chain km hL.ok) (cA.refl _) ?_;cases h7:bp T 7 x.s
  ·have hg:iw T [[43],[45],[94]] x.s=false:=by rw[vY,h7];rfl
   have hx:=hL.stop hg;rw[hx];have hz:∀o,(x.A.set 2 o)[2]?=some o:=fun o=>aR i2
   simp only[go_sem,simprocAttr,aj hL.hn,aA hL.hn,ay hL.hn,aB hL.hn,hL.hn,hL.hn,h7,i6,i2,hz];rw[gU]at hE;exact⟨_,x.H,_,u,rfl,rfl,hL.kp,hE.q hL.hn hp fun i sz ver rs hi=>aM hi (by rintro rfl;rw[i2]at hi;cases hi)⟩
  simp only[go_sem,simprocAttr,aj hL.hn,aA hL.hn,ay hL.hn,aB hL.hn,hL.hn,hL.hn,h7,i5,i0];refine bQ ((lK (most:=most)).chain km hL.ok) (cA.refl _) ?_;simp only[go_sem,simprocAttr,aj hL.hn,aA hL.hn,ay hL.hn,aB hL.hn,hL.hn,hL.hn,Tok.cells];refine U (sw (L:=[[43],[45],[94]]) (by rw[aj hL.hn];exact i3) (by decide)) ?_;cases xr:decide ((aD T x.s).t∈[[43],[45],[94]])
  ·have hg:iw T [[43],[45],[94]] x.s=false:=by rw[vY,h7,xr];rfl
   have hx:=hL.stop hg;rw[hx];have hz:∀o,(x.A.set 2 o)[2]?=some o:=fun o=>aR i2
   simp only[go_sem,simprocAttr,aj hL.hn,aA hL.hn,ay hL.hn,aB hL.hn,hL.hn,hL.hn,xr,i6,i2,hz];rw[gU]at hE;exact⟨_,x.H,_,u,rfl,rfl,hL.kp,hE.q hL.hn hp fun i sz ver rs hi=>aM hi (by rintro rfl;rw[i2]at hi;cases hi)⟩
  have hg:iw T [[43],[45],[94]] x.s=true:=by rw[vY,h7,xr];rfl
  have hk7:=(qR h7).2;have dB:=hL.ok.aE hT (show(aD T x.s).k≠8 by omega);rcases dC:side (aE x.s)with⟨⟨k3,n3,u3,t3,q3,l3,m3⟩,s3⟩
  have eA:=dB.run sS;have cG:=(gR.aE hT sS hL.ok.1 (show(aD T x.s).k≠8 by omega)).1;rw[dC]at eA cG
  have hm:(fun a=>dZ T fun t=>bM (az side fun b=>aO (node2 14 t.t t.p a b))) x.a x.s=(node2 14 (aD T x.s).t (aD T x.s).p x.a (.mk k3 n3 u3 t3 q3 l3 m3),s3):=by
   simp only[bE,bM];rw[aN,dC];rfl
  obtain⟨H2,yT,bd,oC,oD,Aj,iB,_,call2⟩:=(hC p n (n+1)).use aa.wf dC hL.hn hp hb dB hL.fr (hL.Gw oN hg xx hm);obtain⟨c2,b2,rfl⟩:=(iB u _ _ x.A Uy (hE.q hL.hn hp fun _ _ _ _ h=>h)).fK hE.len;simp only[go_sem,simprocAttr,aj hL.hn,aA hL.hn,ay hL.hn,aB hL.hn,hL.hn,hL.hn,xr,i0];refine U (lK x.H _ p x.s km hL.ok) ?_;simp only[go_sem,simprocAttr,aj hL.hn,aA hL.hn,ay hL.hn,aB hL.hn,hL.hn,hL.hn,Tok.cells,i0,ag i0 _,Gu hL.hn,wz hL.hn,mA km,qq km,jF,df];refine⟨_,gP hL.hn _ _ _,?_⟩;simp only[go_sem,simprocAttr,aj hL.hn,aA hL.hn,ay hL.hn,aB hL.hn,hL.hn,hL.hn,i6,ag i6 _];refine jy rfl ?_;refine aL _ _ (qU bd hL.hn _ _ _) (gP bd _ _ _) (gp call2 _ fun A'=>⟨p7,kH,by rw[<-hL.hn,fX];exact ag (ag i0 _) _,by rw[<-hL.hn,eZ];exact ag (ag i1 _) _⟩) ?_;have hz:∀B o,((x.A++B).set 6 o)[6]?=some o:=fun B o=>aR (ag i6 B)
  simp only[go_sem,simprocAttr,aj bd,aA bd,ay bd,aB bd,bd,bd,Gu bd,wz bd,Nat.add_zero,ag i6 _]
  exact⟨⟨x.j-1,s3,node2 14 (aD T x.s).t (aD T x.s).p x.a (.mk k3 n3 u3 t3 q3 l3 m3),[iV 14,sV (aD T x.s).t,iV 0,sV [],iV (aD T x.s).p,.gs (n+(x.A.length+1)) 0 0 2,.p .nl],H2,_,x.M-nC (aa.tv (.mk k3 n3 u3 t3 q3 l3 m3))⟩,
   ⟨⟨hL.next (s0:=aE x.s) hp hb oN hg xx hm eA cG bd oC oD rfl iB (fun i o hi ho=>aM (ag ho _) (by omega)) (hz _ _) (by rw[List.getElem?_set_ne (by have:=aT i6;omega),<-gU,eZ];rfl) (Nat.le_add_right _ _),fun i o hi ho=>aM (ag (hI i o hi ho) _) (by omega)⟩,rfl⟩,by have h1:x.s.i<s3.i:=cG;have:=hL.ok.1;simp only;omega⟩
end
section
variable {T:List Tok} {most e:Nat} (hT:bH T) (aK:T.length<=1073741825)
include hT aK
theorem Uz {d:Nat} {side:PM aa} (hC:Gx T most e d 133 side) (sS:ab T side):iz T most e 90 [iV 1,iV d] (az side (fc T (fun s=>aH T [61] s||aH T [60] s) side)) aa.tv:=by
 refine iq fun p K b n s hn hp hb hs hF=>?_
 have bS:p<K.length:=by omega
 refine call90 (by simp) ?_;simp only[go_sem,simprocAttr,aj hn,aA hn,ay hn,aB hn,hn,hn,NF,T7];rcases hq:side s with⟨⟨k1,n1,u1,t1,q1,l1,m1⟩,s1⟩
 have bx:=hs.run sS;rw[hq]at bx;simp only at bx;have e0:az side (fc T (fun s=>aH T [61] s||aH T [60] s) side) s=fc T (fun s=>aH T [61] s||aH T [60] s) side (.mk k1 n1 u1 t1 q1 l1 m1) s1:=by rw[aN,hq]
 rw[e0]at hF⊢
 have ir:nC (aa.tv (.mk k1 n1 u1 t1 q1 l1 m1))<=nC (fc T (fun s=>aH T [61] s||aH T [60] s) side (.mk k1 n1 u1 t1 q1 l1 m1) s1).1.tv:=by
  unfold fc bg;rw[bE];split
  ·show _<=nC (node2 14 _ _ _ _).tv
   rw[kE];omega
  ·exact Nat.le_refl _
 have p7:n≠p:=by omega
 have kH:n+1≠p:=by omega
 obtain⟨H1,kj,ah,dL,fJ,lP,_,cy,bZ⟩:=(hC p n (n+1)).use aa.wf hq hn hp hb hs hF ir;refine U (bZ _ ⟨p7,kH,by rw[<-hn,fX];rfl,by rw[<-hn,eZ];rfl⟩) ?_;have cN:=fun A A'=>cy [] [] A A' (Env.nil _ _ _)
 obtain⟨c1,b1,rfl⟩:=(cN [] []).fK rfl;have Gy:p<H1.length:=by omega
 simp only[go_sem,simprocAttr,aj ah,aA ah,ay ah,aB ah,ah,ah];refine U (lK H1 _ p s1 Gy bx) ?_;simp only[go_sem,simprocAttr,aj ah,aA ah,ay ah,aB ah,ah,ah,Tok.cells];intro _;generalize Da:aD T s1=t at *;obtain⟨tk,tt,tn,tp⟩:=t
 have hNj:∀j,j<2->([[.p (.s [61])],[.p (.s [60])]]:List (List AV))[j]?=some [sV (([[61],[60]]:List (List UInt8)).getD j [])]:=fun j hj=>by
  match j,hj with
  |0,_=>rfl
  |1,_=>rfl
 refine⟨Nat,[0,1,3,6,8,9,10,27,28,29],fun j st=>(j<=2/\∀i,i<j->aH T (([[61],[60]]:List (List UInt8)).getD i []) s1=false)/\st=⟨[(0,.ptr p 0),(1,iV 1),(3,.ptr n 0),(6,.ptr (n+2) 0),(8,.eB 133 [.ptr n 0,.ptr (n+1) 0]),(9,.ptr (n+6) 0),(10,.ptr (n+7) 0),(27,.gs (n+4) 0 0 2),(28,iV 2),(29,iV (j:Nat))],[],
  H1.set p (cW T most s1)++[.var [.ptr p 0],.var [iV d],.var [iV 0,sV [],iV 0,sV [],iV 0,.p .nl,.p .nl],.rows 1 0 ([[58,61]].map fun x=>[.p (.s x)]),.rows 1 0 ([[61],[60]].map fun x=>[.p (.s x)]),.rows 1 0 [[.gs (n+3) 0 0 1],[.gs (n+4) 0 0 2]],.var [iV k1,sV n1,iV u1,sV t1,iV q1,c1,b1],.var [iV tk,sV tt,iV tn,iV tp]]⟩,fun j=>2-j,⟨0,?_⟩,?_⟩
 ·exact⟨⟨Nat.zero_le _,fun i hi=>absurd hi (by omega)⟩,rfl⟩
 ·rintro j _ ⟨⟨hj,lj⟩,rfl⟩
  have IK:wr .i64 ((j:Int)+1)=((j+1:Nat):Int):=cH _ (by omega);by_cases aF:j<2
  ·have d1:decide ((j:Int)<2)=true:=by simp;omega
   simp only[go_sem,simprocAttr,aj ah,aA ah,ay ah,aB ah,ah,ah,d1,hNj j aF,Option.map_some];refine⟨by omega,?_⟩;generalize hw:([[61],[60]]:List (List UInt8)).getD j []=w at *;refine U (ix aK w H1 _ p s1 Gy bx) ?_;unfold di;cases hg:aH T w s1
   ·simp only[go_sem,simprocAttr,aj ah,aA ah,ay ah,aB ah,ah,ah,hg,IK]
    exact⟨j+1,⟨⟨aF,fun i hi=>by
     rcases Nat.lt_or_ge i j with h|h
     ·exact lj i h
     ·obtain rfl:i=j:=by omega
      rw[hw];exact hg⟩,rfl⟩,by omega⟩
   ·have yU:((fun s=>aH T [61] s||aH T [60] s)) s1=true:=by
     match j,aF,hw with
     |0,_,hw=>obtain rfl:[61]=w:=hw;simp[hg]
     |1,_,hw=>obtain rfl:[60]=w:=hw;simp[hg]
    have Uw:tt=w:=by simp[aH,Da]at hg;exact hg.2
    subst Uw;have dB:=bx.aE hT (cB hg).2;rcases dC:side (aE s1)with⟨⟨k3,n3,u3,t3,q3,l3,m3⟩,s3⟩
    have e1:fc T (fun s=>aH T [61] s||aH T [60] s) side (.mk k1 n1 u1 t1 q1 l1 m1) s1=(node2 14 tt tp (.mk k1 n1 u1 t1 q1 l1 m1) (.mk k3 n3 u3 t3 q3 l3 m3),s3):=by
     unfold fc;rw[bE,aQ yU,aN,dC,Da];rfl
    rw[e1]at fJ⊢;simp only[kE]at fJ;obtain⟨H2,yT,bd,oC,oD,Aj,_,iB,call2⟩:=(hC p n (n+1)).use aa.wf dC ah hp hb dB fJ (by omega);have mw:=fun A'=>iB _ _ [] A' (Env.base (cN [] []) ah hp)
    obtain⟨c2,b2,rfl⟩:=(mw []).fK rfl;simp only[go_sem,simprocAttr,aj ah,aA ah,ay ah,aB ah,ah,ah,hg];refine⟨_,gP ah _ _ _,?_⟩;simp only[go_sem,simprocAttr,aj ah,aA ah,ay ah,aB ah,ah,ah];refine jy rfl ?_;refine aL _ _ (qU bd ah _ _ _) (gP bd _ _ _) (gp call2 _ fun A'=>⟨p7,kH,by rw[<-ah,fX];rfl,by rw[<-ah,eZ];rfl⟩) ?_;simp only[go_sem,simprocAttr,aj bd,aA bd,ay bd,aB bd,bd,bd,Nat.add_zero];exact⟨_,H2,_,_,rfl,rfl,dL.trans oC,iP (Env.node (rows:=[aa.tv (.mk k1 n1 u1 t1 q1 l1 m1),aa.tv (.mk k3 n3 u3 t3 q3 l3 m3)]) (rs:=[[iV k1,sV n1,iV u1,sV t1,iV q1,c1,b1],[iV k3,sV n3,iV u3,sV t3,iV q3,c2,b2]]) (u:=n) (by simpa using mw _) (by rw[aj bd];rfl) (by omega) (by omega) rfl (by intro r hr;simp at hr;rcases hr with rfl|rfl<;>exact aa.b9 _) (by intro r hr;simp at hr;rcases hr with rfl|rfl<;>rfl) (by simp))⟩
  ·obtain rfl:j=2:=by omega
   have Ux:((fun s=>aH T [61] s||aH T [60] s)) s1=false:=by
    simp only[show aH T [61] s1=false from lj 0 (by omega),show aH T [60] s1=false from lj 1 (by omega)];rfl
   have e1:fc T (fun s=>aH T [61] s||aH T [60] s) side (.mk k1 n1 u1 t1 q1 l1 m1) s1=(.mk k1 n1 u1 t1 q1 l1 m1,s1):=by
    unfold fc;rw[bE,aU Ux];rfl
   rw[e1];simp only[go_sem,simprocAttr,aj ah,aA ah,ay ah,aB ah,ah,ah];exact⟨_,H1,_,n,rfl,rfl,dL,cN [] _⟩
theorem UA {d:Nat} {side:PM aa} (hC:Gx T most e d 135 side) (sS:ab T side):iz T most e 90 [iV 0,iV d] (az side (fc T (aH T [58,61]) side)) aa.tv:=by
 refine iq fun p K b n s hn hp hb hs hF=>?_
 have bS:p<K.length:=by omega
 refine call90 (by simp) ?_;simp only[go_sem,simprocAttr,aj hn,aA hn,ay hn,aB hn,hn,hn,NF,T7];rcases hq:side s with⟨⟨k1,n1,u1,t1,q1,l1,m1⟩,s1⟩
 have bx:=hs.run sS;rw[hq]at bx;simp only at bx;have e0:az side (fc T (aH T [58,61]) side) s=fc T (aH T [58,61]) side (.mk k1 n1 u1 t1 q1 l1 m1) s1:=by rw[aN,hq]
 rw[e0]at hF⊢
 have ir:nC (aa.tv (.mk k1 n1 u1 t1 q1 l1 m1))<=nC (fc T (aH T [58,61]) side (.mk k1 n1 u1 t1 q1 l1 m1) s1).1.tv:=by
  unfold fc bg;rw[bE];split
  ·show _<=nC (node2 14 _ _ _ _).tv
   rw[kE];omega
  ·exact Nat.le_refl _
 have p7:n≠p:=by omega
 have kH:n+1≠p:=by omega
 obtain⟨H1,kj,ah,dL,fJ,lP,_,cy,bZ⟩:=(hC p n (n+1)).use aa.wf hq hn hp hb hs hF ir;refine U (bZ _ ⟨p7,kH,by rw[<-hn,fX];rfl,by rw[<-hn,eZ];rfl⟩) ?_;have cN:=fun A A'=>cy [] [] A A' (Env.nil _ _ _)
 obtain⟨c1,b1,rfl⟩:=(cN [] []).fK rfl;have Gy:p<H1.length:=by omega
 simp only[go_sem,simprocAttr,aj ah,aA ah,ay ah,aB ah,ah,ah];refine U (lK H1 _ p s1 Gy bx) ?_;simp only[go_sem,simprocAttr,aj ah,aA ah,ay ah,aB ah,ah,ah,Tok.cells];intro _;generalize Da:aD T s1=t at *;obtain⟨tk,tt,tn,tp⟩:=t
 have hNj:∀j,j<1->([[.p (.s [58,61])]]:List (List AV))[j]?=some [sV (([[58,61]]:List (List UInt8)).getD j [])]:=fun j hj=>by
  match j,hj with
  |0,_=>rfl
 refine⟨Nat,[0,1,3,6,8,9,10,27,28,29],fun j st=>(j<=1/\∀i,i<j->aH T (([[58,61]]:List (List UInt8)).getD i []) s1=false)/\st=⟨[(0,.ptr p 0),(1,iV 0),(3,.ptr n 0),(6,.ptr (n+2) 0),(8,.eB 135 [.ptr n 0,.ptr (n+1) 0]),(9,.ptr (n+6) 0),(10,.ptr (n+7) 0),(27,.gs (n+3) 0 0 1),(28,iV 1),(29,iV (j:Nat))],[],
  H1.set p (cW T most s1)++[.var [.ptr p 0],.var [iV d],.var [iV 0,sV [],iV 0,sV [],iV 0,.p .nl,.p .nl],.rows 1 0 ([[58,61]].map fun x=>[.p (.s x)]),.rows 1 0 ([[61],[60]].map fun x=>[.p (.s x)]),.rows 1 0 [[.gs (n+3) 0 0 1],[.gs (n+4) 0 0 2]],.var [iV k1,sV n1,iV u1,sV t1,iV q1,c1,b1],.var [iV tk,sV tt,iV tn,iV tp]]⟩,fun j=>1-j,⟨0,?_⟩,?_⟩
 ·exact⟨⟨Nat.zero_le _,fun i hi=>absurd hi (by omega)⟩,rfl⟩
 ·rintro j _ ⟨⟨hj,lj⟩,rfl⟩
  have IK:wr .i64 ((j:Int)+1)=((j+1:Nat):Int):=cH _ (by omega);by_cases aF:j<1
  ·have d1:decide ((j:Int)<1)=true:=by simp;omega
   simp only[go_sem,simprocAttr,aj ah,aA ah,ay ah,aB ah,ah,ah,d1,hNj j aF,Option.map_some];refine⟨by omega,?_⟩;generalize hw:([[58,61]]:List (List UInt8)).getD j []=w at *;refine U (ix aK w H1 _ p s1 Gy bx) ?_;unfold di;cases hg:aH T w s1
   ·simp only[go_sem,simprocAttr,aj ah,aA ah,ay ah,aB ah,ah,ah,hg,IK]
    exact⟨j+1,⟨⟨aF,fun i hi=>by
     rcases Nat.lt_or_ge i j with h|h
     ·exact lj i h
     ·obtain rfl:i=j:=by omega
      rw[hw];exact hg⟩,rfl⟩,by omega⟩
   ·have yU:((aH T [58,61])) s1=true:=by
     match j,aF,hw with
     |0,_,hw=>obtain rfl:[58,61]=w:=hw;exact hg
    have Uw:tt=w:=by simp[aH,Da]at hg;exact hg.2
    subst Uw;have dB:=bx.aE hT (cB hg).2;rcases dC:side (aE s1)with⟨⟨k3,n3,u3,t3,q3,l3,m3⟩,s3⟩
    have e1:fc T (aH T [58,61]) side (.mk k1 n1 u1 t1 q1 l1 m1) s1=(node2 14 tt tp (.mk k1 n1 u1 t1 q1 l1 m1) (.mk k3 n3 u3 t3 q3 l3 m3),s3):=by
     unfold fc;rw[bE,aQ yU,aN,dC,Da];rfl
    rw[e1]at fJ⊢;simp only[kE]at fJ;obtain⟨H2,yT,bd,oC,oD,Aj,_,iB,call2⟩:=(hC p n (n+1)).use aa.wf dC ah hp hb dB fJ (by omega);have mw:=fun A'=>iB _ _ [] A' (Env.base (cN [] []) ah hp)
    obtain⟨c2,b2,rfl⟩:=(mw []).fK rfl;simp only[go_sem,simprocAttr,aj ah,aA ah,ay ah,aB ah,ah,ah,hg];refine⟨_,gP ah _ _ _,?_⟩;simp only[go_sem,simprocAttr,aj ah,aA ah,ay ah,aB ah,ah,ah];refine jy rfl ?_;refine aL _ _ (qU bd ah _ _ _) (gP bd _ _ _) (gp call2 _ fun A'=>⟨p7,kH,by rw[<-ah,fX];rfl,by rw[<-ah,eZ];rfl⟩) ?_;simp only[go_sem,simprocAttr,aj bd,aA bd,ay bd,aB bd,bd,bd,Nat.add_zero];exact⟨_,H2,_,_,rfl,rfl,dL.trans oC,iP (Env.node (rows:=[aa.tv (.mk k1 n1 u1 t1 q1 l1 m1),aa.tv (.mk k3 n3 u3 t3 q3 l3 m3)]) (rs:=[[iV k1,sV n1,iV u1,sV t1,iV q1,c1,b1],[iV k3,sV n3,iV u3,sV t3,iV q3,c2,b2]]) (u:=n) (by simpa using mw _) (by rw[aj bd];rfl) (by omega) (by omega) rfl (by intro r hr;simp at hr;rcases hr with rfl|rfl<;>exact aa.b9 _) (by intro r hr;simp at hr;rcases hr with rfl|rfl<;>rfl) (by simp))⟩
  ·obtain rfl:j=1:=by omega
   have Ux:((aH T [58,61])) s1=false:=by
    exact lj 0 (by omega)
   have e1:fc T (aH T [58,61]) side (.mk k1 n1 u1 t1 q1 l1 m1) s1=(.mk k1 n1 u1 t1 q1 l1 m1,s1):=by
    unfold fc;rw[bE,aU Ux];rfl
   rw[e1];simp only[go_sem,simprocAttr,aj ah,aA ah,ay ah,aB ah,ah,ah];exact⟨_,H1,_,n,rfl,rfl,dL,cN [] _⟩
end
end Go.Proofs.YteilijfligofdaaGreatDoor.Qp