/- Texts QcI QcJ QcK QcL QeA QeB QeC QeD QeE QeF, merged. -/
import Derived.Test.YtghcmccjchdgeaaGreatDoorKBC
/- The program's rows of signs. -/
set_option linter.all false
namespace Go.Proofs.YtghcmccjchdgeaaGreatDoor.Qp
open Go.AM Mc Pg
theorem pre_clo {C:CallP} {Hm Hc:List AO} {x:MA} {d:MD} {J:PK} {st:St} {f:Nat} {caps:List AV} (hx:st.get x=.clo f caps) (h:pcallK C Hm Hc [] f caps d J st):preC C Hm Hc (.calv x []) d J st:=by
 unfold preC
 simp only [hx]
 exact h
section
variable {T:List Tok} {most e:Nat} (hT:ToksOk T) (hTl:T.length≤1048577)
include hT hTl
theorem iRowC1 {d:Nat} {side:PM ExpD} (hC:PCl T most e d 167 side) (sS:StayM T side):PFo T most e 111 [iV 1,iV d] (bindP side (rowG T T.length [[42]] side)) ExpD.tv:=by
 have oN:Only T (opT T [[42]]):=only_opT _
 refine pfo_of fun p K b n s hn hp hb hs hF=>?_
 have hpK:p<K.length:=by omega
 refine call111 (by simp) ?_
 simp only [go_sem,reduceIte,↓reduceIte,sevalprocAttr,Z0,Z1,bytesOf,qyk hn,qy0 hn,ryk hn,ry0 hn,qdk,qd0,List.length_replicate,List.length_set,hn,hn,mc111,mr111]
 rcases hq:side s with ⟨⟨k1,n1,u1,t1,q1,l1,m1⟩,s1⟩
 have hs1:=hs.run sS
 rw [hq] at hs1
 have e0:bindP side (rowG T T.length [[42]] side) s=rowG T T.length [[42]] side (.mk k1 n1 u1 t1 q1 l1 m1) s1:=by rw [bindP_e,hq]
 rw [e0] at hF ⊢
 have hmo:∀ a s,nC a.tv≤nC ((fun a=>nowP T fun t=>advP (bindP side fun b=>retP (node2 14 t.t t.p a b))) a s).1.tv:=fun a s=>by
  show nC a.tv≤nC (node2 14 _ _ a _).tv
  rw [node2_nC]; omega
 unfold rowG at hF ⊢
 generalize hR:carry (opT T [[42]]) (fun a=>nowP T fun t=>advP (bindP side fun b=>retP (node2 14 t.t t.p a b))) T.length (.mk k1 n1 u1 t1 q1 l1 m1) s1=R at *
 have hge:nC (ExpD.tv (.mk k1 n1 u1 t1 q1 l1 m1))≤nC R.1.tv:=by rw [← hR]; exact carry_mono hmo _ _ _
 have hnp:n≠p:=by omega
 have hnp1:n+1≠p:=by omega
 obtain ⟨H1,cs1,hn1,kp1,fr1,cl1,_,env1,call1⟩:=(hC p n (n+1)).use ExpD.wf hq hn hp hb hs hF hge
 refine acall_pure (call1 _ ⟨hnp,hnp1,by rw [← hn,gx0]; rfl,by rw [← hn,gxk]; rfl⟩) ?_
 have hE1:=fun A A'=>env1 [] [] A A' (Env.nil _ _ _)
 obtain ⟨c1,b1,rfl⟩:=(hE1 [] []).expC rfl
 simp only [go_sem,reduceIte,↓reduceIte,sevalprocAttr,Z0,Z1,bytesOf,qyk hn1,qy0 hn1,ryk hn1,ry0 hn1,qdk,qd0,List.length_replicate,List.length_set,hn1,hn1]
 generalize hA6:([.var [.ptr p 0],.var [iV d],.var [iV 0,sV [],iV 0,sV [],iV 0,.p .nl,.p .nl],.rows 1 0 ([[43],[45],[94]].map fun x=>[.p (.s x)]),.rows 1 0 ([[42]].map fun x=>[.p (.s x)]),.rows 1 0 [[.gs (n+3) 0 0 3],[.gs (n+4) 0 0 1]]]:List AO)=A6
 have y0:A6[0]?=some (.var [.ptr p 0]):=by subst hA6; rfl
 have y1:A6[1]?=some (.var [iV d]):=by subst hA6; rfl
 have y2:A6[2]?=some (.var [iV 0,sV [],iV 0,sV [],iV 0,.p .nl,.p .nl]):=by subst hA6; rfl
 have y3:A6[4]?=some (.rows 1 0 ([[42]].map fun x=>[.p (.s x)])):=by subst hA6; rfl
 have y5:A6[5]?=some (.rows 1 0 [[.gs (n+3) 0 0 3],[.gs (n+4) 0 0 1]]):=by subst hA6; rfl
 have y6:A6.length=6:=by subst hA6; rfl
 refine ⟨CG,[0,1,3,6,7,8,9],fun x st=>(LCo (pvI T most) T e b n p K 6 (opT T [[42]]) (fun a=>nowP T fun t=>advP (bindP side fun b=>retP (node2 14 t.t t.p a b))) R x∧∀ (i:Nat) o,i<6→A6[i]?=some o→x.A[i]?=some o)∧st=⟨[(0,.ptr p 0),(1,iV 1),(3,.ptr n 0),(6,.ptr (n+2) 0),(7,.gs (n+5) 0 0 2),(8,.clo 167 [.ptr n 0,.ptr (n+1) 0]),(9,.ptr (n+6) 0)],[],x.H.set p (pvI T most x.s)++x.A⟩,fun x=>T.length - x.s.i,
  ⟨⟨T.length,s1,.mk k1 n1 u1 t1 q1 l1 m1,[iV k1,sV n1,iV u1,sV t1,iV q1,c1,b1],H1,A6++[.var [iV k1,sV n1,iV u1,sV t1,iV q1,c1,b1]],nC R.1.tv - nC (ExpD.tv (.mk k1 n1 u1 t1 q1 l1 m1))⟩,?_⟩,?_⟩
 ·exact ⟨⟨LCo.start hs1 hR hn1 kp1 fr1 (by omega) (hE1 [] _) (by rw [show (6:Nat)=A6.length from y6.symm,gx0]; rfl),fun i o hi ho=>get_ext ho _⟩,by subst hA6; rfl⟩
 ·rintro x _ ⟨⟨hL,hI⟩,rfl⟩
  have hpx:p<x.H.length:=by rw [hL.hn]; omega
  have i0:=hI 0 _ (by decide) y0
  have i1:=hI 1 _ (by decide) y1
  have i2:=hI 2 _ (by decide) y2
  have i3:=hI 4 _ (by decide) y3
  have i5:=hI 5 _ (by decide) y5
  have hws:=ws hTl hL.ok
  obtain ⟨u,u1',u2',hE⟩:=hL.env
  obtain ⟨k4,n4,u4,t4,q4,l4,m4,hxa⟩:=exp_mk x.a
  have hE0:=hE
  rw [hxa] at hE0
  obtain ⟨c4,b4,hcs⟩:=Env.expC (ts:=[]) (ds:=[]) (cs:=x.cs) hE0 rfl
  have i6:=hL.var
  rw [hcs] at i6
  have hop:opT T [[42]] x.s=(isK T 7 x.s && decide ((tokA T x.s).t∈[[42]])):=rfl
  simp only [go_sem,reduceIte,↓reduceIte,sevalprocAttr,Z0,Z1,bytesOf,qyk hL.hn,qy0 hL.hn,ryk hL.hn,ry0 hL.hn,qdk,qd0,List.length_replicate,List.length_set,hL.hn,hL.hn]
  refine ⟨_,Hext.refl _,?_⟩
  simp only [go_sem,reduceIte,↓reduceIte,sevalprocAttr,Z0,Z1,bytesOf,qyk hL.hn,qy0 hL.hn,ryk hL.hn,ry0 hL.hn,qdk,qd0,List.length_replicate,List.length_set,hL.hn,hL.hn,i0]
  refine pcall_pure ((iIsK (most:=most) 7).chain hpx hL.ok) (Hext.refl _) ?_
  cases h7:isK T 7 x.s
  ·have hg:opT T [[42]] x.s=false:=by rw [hop,h7]; rfl
   have hx:=hL.stop hg
   rw [hx]
   have hz:∀ o,(x.A.set 2 o)[2]?=some o:=fun o=>set_get i2
   simp only [go_sem,reduceIte,↓reduceIte,sevalprocAttr,Z0,Z1,bytesOf,qyk hL.hn,qy0 hL.hn,ryk hL.hn,ry0 hL.hn,qdk,qd0,List.length_replicate,List.length_set,hL.hn,hL.hn,h7,i6,i2,hz]
   rw [hcs] at hE
   exact ⟨_,x.H,_,u,rfl,rfl,hL.kp,hE.q hL.hn hp fun i sz ver rs hi=>get_set hi (by rintro rfl; rw [i2] at hi; cases hi)⟩
  simp only [go_sem,reduceIte,↓reduceIte,sevalprocAttr,Z0,Z1,bytesOf,qyk hL.hn,qy0 hL.hn,ryk hL.hn,ry0 hL.hn,qdk,qd0,List.length_replicate,List.length_set,hL.hn,hL.hn,h7,i5,i0]
  refine pcall_pure ((iNow (most:=most)).chain hpx hL.ok) (Hext.refl _) ?_
  simp only [go_sem,reduceIte,↓reduceIte,sevalprocAttr,Z0,Z1,bytesOf,qyk hL.hn,qy0 hL.hn,ryk hL.hn,ry0 hL.hn,qdk,qd0,List.length_replicate,List.length_set,hL.hn,hL.hn,Tok.cells]
  refine acall_pure (containsC (L:=[[42]]) (by rw [qyk hL.hn]; exact i3) (by decide)) ?_
  cases hm0:decide ((tokA T x.s).t∈[[42]])
  ·have hg:opT T [[42]] x.s=false:=by rw [hop,h7,hm0]; rfl
   have hx:=hL.stop hg
   rw [hx]
   have hz:∀ o,(x.A.set 2 o)[2]?=some o:=fun o=>set_get i2
   simp only [go_sem,reduceIte,↓reduceIte,sevalprocAttr,Z0,Z1,bytesOf,qyk hL.hn,qy0 hL.hn,ryk hL.hn,ry0 hL.hn,qdk,qd0,List.length_replicate,List.length_set,hL.hn,hL.hn,hm0,i6,i2,hz]
   rw [hcs] at hE
   exact ⟨_,x.H,_,u,rfl,rfl,hL.kp,hE.q hL.hn hp fun i sz ver rs hi=>get_set hi (by rintro rfl; rw [i2] at hi; cases hi)⟩
  have hg:opT T [[42]] x.s=true:=by rw [hop,h7,hm0]; rfl
  have hk7:=(isK_k h7).2
  have hsa:=hL.ok.adv hT (show (tokA T x.s).k≠8 by omega)
  rcases hq2:side (adv x.s) with ⟨⟨k3,n3,u3,t3,q3,l3,m3⟩,s3⟩
  have hs3:=hsa.run sS
  have hgt:=(Stay.adv hT sS hL.ok.1 (show (tokA T x.s).k≠8 by omega)).1
  rw [hq2] at hs3 hgt
  have hm:(fun a=>nowP T fun t=>advP (bindP side fun b=>retP (node2 14 t.t t.p a b))) x.a x.s=(node2 14 (tokA T x.s).t (tokA T x.s).p x.a (.mk k3 n3 u3 t3 q3 l3 m3),s3):=by
   simp only [nowP_e,advP]
   rw [bindP_e,hq2]; rfl
  obtain ⟨H2,cs2,hn2,kp2,fr2,cl2,env2,_,call2⟩:=(hC p n (n+1)).use ExpD.wf hq2 hL.hn hp hb hsa hL.fr (hL.room1 oN hg hmo hm)
  obtain ⟨c2,b2,rfl⟩:=(env2 u _ _ x.A u1' (hE.q hL.hn hp fun _ _ _ _ h=>h)).expC hE.len
  simp only [go_sem,reduceIte,↓reduceIte,sevalprocAttr,Z0,Z1,bytesOf,qyk hL.hn,qy0 hL.hn,ryk hL.hn,ry0 hL.hn,qdk,qd0,List.length_replicate,List.length_set,hL.hn,hL.hn,hm0,i0]
  refine acall_pure (iNow x.H _ p x.s hpx hL.ok) ?_
  simp only [go_sem,reduceIte,↓reduceIte,sevalprocAttr,Z0,Z1,bytesOf,qyk hL.hn,qy0 hL.hn,ryk hL.hn,ry0 hL.hn,qdk,qd0,List.length_replicate,List.length_set,hL.hn,hL.hn,Tok.cells,i0,get_ext i0 _,qya hL.hn,qya0 hL.hn,qpI hpx,qq hpx,hws,pvI_adv]
  refine ⟨_,hxd hL.hn _ _ _,?_⟩
  simp only [go_sem,reduceIte,↓reduceIte,sevalprocAttr,Z0,Z1,bytesOf,qyk hL.hn,qy0 hL.hn,ryk hL.hn,ry0 hL.hn,qdk,qd0,List.length_replicate,List.length_set,hL.hn,hL.hn,i6,get_ext i6 _]
  refine pre_clo rfl ?_
  refine pcall_chain _ _ (chl hn2 hL.hn _ _ _) (hxd hn2 _ _ _) (chn call2 _ fun A'=>⟨hnp,hnp1,by rw [← hL.hn,gx0]; exact get_ext (get_ext i0 _) _,by rw [← hL.hn,gxk]; exact get_ext (get_ext i1 _) _⟩) ?_
  have hz:∀ B o,((x.A++B).set 6 o)[6]?=some o:=fun B o=>set_get (get_ext i6 B)
  simp only [go_sem,reduceIte,↓reduceIte,sevalprocAttr,Z0,Z1,bytesOf,qyk hn2,qy0 hn2,ryk hn2,ry0 hn2,qdk,qd0,List.length_replicate,List.length_set,hn2,hn2,qya hn2,qya0 hn2,Nat.add_zero,get_ext i6 _]
  exact ⟨⟨x.j - 1,s3,node2 14 (tokA T x.s).t (tokA T x.s).p x.a (.mk k3 n3 u3 t3 q3 l3 m3),[iV 14,sV (tokA T x.s).t,iV 0,sV [],iV (tokA T x.s).p,.gs (n+(x.A.length+1)) 0 0 2,.p .nl],H2,_,x.M - nC (ExpD.tv (.mk k3 n3 u3 t3 q3 l3 m3))⟩,
   ⟨⟨hL.next (s0:=adv x.s) hp hb oN hg hmo hm hs3 hgt hn2 kp2 fr2 rfl env2 (fun i o hi ho=>get_set (get_ext ho _) (by omega)) (hz _ _) (by rw [List.getElem?_set_ne (by have:=get_lt i6; omega),← hcs,gxk]; rfl) (Nat.le_add_right _ _),fun i o hi ho=>get_set (get_ext (hI i o hi ho) _) (by omega)⟩,rfl⟩,by have h1:x.s.i<s3.i:=hgt; have:=hL.ok.1; simp only; omega⟩
theorem iRowC0 {d:Nat} {side:PM ExpD} (hC:PCl T most e d 169 side) (sS:StayM T side):PFo T most e 111 [iV 0,iV d] (bindP side (rowG T T.length [[43],[45],[94]] side)) ExpD.tv:=by
 have oN:Only T (opT T [[43],[45],[94]]):=only_opT _
 refine pfo_of fun p K b n s hn hp hb hs hF=>?_
 have hpK:p<K.length:=by omega
 refine call111 (by simp) ?_
 simp only [go_sem,reduceIte,↓reduceIte,sevalprocAttr,Z0,Z1,bytesOf,qyk hn,qy0 hn,ryk hn,ry0 hn,qdk,qd0,List.length_replicate,List.length_set,hn,hn,mc111,mr111]
 rcases hq:side s with ⟨⟨k1,n1,u1,t1,q1,l1,m1⟩,s1⟩
 have hs1:=hs.run sS
 rw [hq] at hs1
 have e0:bindP side (rowG T T.length [[43],[45],[94]] side) s=rowG T T.length [[43],[45],[94]] side (.mk k1 n1 u1 t1 q1 l1 m1) s1:=by rw [bindP_e,hq]
 rw [e0] at hF ⊢
 have hmo:∀ a s,nC a.tv≤nC ((fun a=>nowP T fun t=>advP (bindP side fun b=>retP (node2 14 t.t t.p a b))) a s).1.tv:=fun a s=>by
  show nC a.tv≤nC (node2 14 _ _ a _).tv
  rw [node2_nC]; omega
 unfold rowG at hF ⊢
 generalize hR:carry (opT T [[43],[45],[94]]) (fun a=>nowP T fun t=>advP (bindP side fun b=>retP (node2 14 t.t t.p a b))) T.length (.mk k1 n1 u1 t1 q1 l1 m1) s1=R at *
 have hge:nC (ExpD.tv (.mk k1 n1 u1 t1 q1 l1 m1))≤nC R.1.tv:=by rw [← hR]; exact carry_mono hmo _ _ _
 have hnp:n≠p:=by omega
 have hnp1:n+1≠p:=by omega
 obtain ⟨H1,cs1,hn1,kp1,fr1,cl1,_,env1,call1⟩:=(hC p n (n+1)).use ExpD.wf hq hn hp hb hs hF hge
 refine acall_pure (call1 _ ⟨hnp,hnp1,by rw [← hn,gx0]; rfl,by rw [← hn,gxk]; rfl⟩) ?_
 have hE1:=fun A A'=>env1 [] [] A A' (Env.nil _ _ _)
 obtain ⟨c1,b1,rfl⟩:=(hE1 [] []).expC rfl
 simp only [go_sem,reduceIte,↓reduceIte,sevalprocAttr,Z0,Z1,bytesOf,qyk hn1,qy0 hn1,ryk hn1,ry0 hn1,qdk,qd0,List.length_replicate,List.length_set,hn1,hn1]
 generalize hA6:([.var [.ptr p 0],.var [iV d],.var [iV 0,sV [],iV 0,sV [],iV 0,.p .nl,.p .nl],.rows 1 0 ([[43],[45],[94]].map fun x=>[.p (.s x)]),.rows 1 0 ([[42]].map fun x=>[.p (.s x)]),.rows 1 0 [[.gs (n+3) 0 0 3],[.gs (n+4) 0 0 1]]]:List AO)=A6
 have y0:A6[0]?=some (.var [.ptr p 0]):=by subst hA6; rfl
 have y1:A6[1]?=some (.var [iV d]):=by subst hA6; rfl
 have y2:A6[2]?=some (.var [iV 0,sV [],iV 0,sV [],iV 0,.p .nl,.p .nl]):=by subst hA6; rfl
 have y3:A6[3]?=some (.rows 1 0 ([[43],[45],[94]].map fun x=>[.p (.s x)])):=by subst hA6; rfl
 have y5:A6[5]?=some (.rows 1 0 [[.gs (n+3) 0 0 3],[.gs (n+4) 0 0 1]]):=by subst hA6; rfl
 have y6:A6.length=6:=by subst hA6; rfl
 refine ⟨CG,[0,1,3,6,7,8,9],fun x st=>(LCo (pvI T most) T e b n p K 6 (opT T [[43],[45],[94]]) (fun a=>nowP T fun t=>advP (bindP side fun b=>retP (node2 14 t.t t.p a b))) R x∧∀ (i:Nat) o,i<6→A6[i]?=some o→x.A[i]?=some o)∧st=⟨[(0,.ptr p 0),(1,iV 0),(3,.ptr n 0),(6,.ptr (n+2) 0),(7,.gs (n+5) 0 0 2),(8,.clo 169 [.ptr n 0,.ptr (n+1) 0]),(9,.ptr (n+6) 0)],[],x.H.set p (pvI T most x.s)++x.A⟩,fun x=>T.length - x.s.i,
  ⟨⟨T.length,s1,.mk k1 n1 u1 t1 q1 l1 m1,[iV k1,sV n1,iV u1,sV t1,iV q1,c1,b1],H1,A6++[.var [iV k1,sV n1,iV u1,sV t1,iV q1,c1,b1]],nC R.1.tv - nC (ExpD.tv (.mk k1 n1 u1 t1 q1 l1 m1))⟩,?_⟩,?_⟩
 ·exact ⟨⟨LCo.start hs1 hR hn1 kp1 fr1 (by omega) (hE1 [] _) (by rw [show (6:Nat)=A6.length from y6.symm,gx0]; rfl),fun i o hi ho=>get_ext ho _⟩,by subst hA6; rfl⟩
 ·rintro x _ ⟨⟨hL,hI⟩,rfl⟩
  have hpx:p<x.H.length:=by rw [hL.hn]; omega
  have i0:=hI 0 _ (by decide) y0
  have i1:=hI 1 _ (by decide) y1
  have i2:=hI 2 _ (by decide) y2
  have i3:=hI 3 _ (by decide) y3
  have i5:=hI 5 _ (by decide) y5
  have hws:=ws hTl hL.ok
  obtain ⟨u,u1',u2',hE⟩:=hL.env
  obtain ⟨k4,n4,u4,t4,q4,l4,m4,hxa⟩:=exp_mk x.a
  have hE0:=hE
  rw [hxa] at hE0
  obtain ⟨c4,b4,hcs⟩:=Env.expC (ts:=[]) (ds:=[]) (cs:=x.cs) hE0 rfl
  have i6:=hL.var
  rw [hcs] at i6
  have hop:opT T [[43],[45],[94]] x.s=(isK T 7 x.s && decide ((tokA T x.s).t∈[[43],[45],[94]])):=rfl
  simp only [go_sem,reduceIte,↓reduceIte,sevalprocAttr,Z0,Z1,bytesOf,qyk hL.hn,qy0 hL.hn,ryk hL.hn,ry0 hL.hn,qdk,qd0,List.length_replicate,List.length_set,hL.hn,hL.hn]
  refine ⟨_,Hext.refl _,?_⟩
  simp only [go_sem,reduceIte,↓reduceIte,sevalprocAttr,Z0,Z1,bytesOf,qyk hL.hn,qy0 hL.hn,ryk hL.hn,ry0 hL.hn,qdk,qd0,List.length_replicate,List.length_set,hL.hn,hL.hn,i0]
  refine pcall_pure ((iIsK (most:=most) 7).chain hpx hL.ok) (Hext.refl _) ?_
  cases h7:isK T 7 x.s
  ·have hg:opT T [[43],[45],[94]] x.s=false:=by rw [hop,h7]; rfl
   have hx:=hL.stop hg
   rw [hx]
   have hz:∀ o,(x.A.set 2 o)[2]?=some o:=fun o=>set_get i2
   simp only [go_sem,reduceIte,↓reduceIte,sevalprocAttr,Z0,Z1,bytesOf,qyk hL.hn,qy0 hL.hn,ryk hL.hn,ry0 hL.hn,qdk,qd0,List.length_replicate,List.length_set,hL.hn,hL.hn,h7,i6,i2,hz]
   rw [hcs] at hE
   exact ⟨_,x.H,_,u,rfl,rfl,hL.kp,hE.q hL.hn hp fun i sz ver rs hi=>get_set hi (by rintro rfl; rw [i2] at hi; cases hi)⟩
  simp only [go_sem,reduceIte,↓reduceIte,sevalprocAttr,Z0,Z1,bytesOf,qyk hL.hn,qy0 hL.hn,ryk hL.hn,ry0 hL.hn,qdk,qd0,List.length_replicate,List.length_set,hL.hn,hL.hn,h7,i5,i0]
  refine pcall_pure ((iNow (most:=most)).chain hpx hL.ok) (Hext.refl _) ?_
  simp only [go_sem,reduceIte,↓reduceIte,sevalprocAttr,Z0,Z1,bytesOf,qyk hL.hn,qy0 hL.hn,ryk hL.hn,ry0 hL.hn,qdk,qd0,List.length_replicate,List.length_set,hL.hn,hL.hn,Tok.cells]
  refine acall_pure (containsC (L:=[[43],[45],[94]]) (by rw [qyk hL.hn]; exact i3) (by decide)) ?_
  cases hm0:decide ((tokA T x.s).t∈[[43],[45],[94]])
  ·have hg:opT T [[43],[45],[94]] x.s=false:=by rw [hop,h7,hm0]; rfl
   have hx:=hL.stop hg
   rw [hx]
   have hz:∀ o,(x.A.set 2 o)[2]?=some o:=fun o=>set_get i2
   simp only [go_sem,reduceIte,↓reduceIte,sevalprocAttr,Z0,Z1,bytesOf,qyk hL.hn,qy0 hL.hn,ryk hL.hn,ry0 hL.hn,qdk,qd0,List.length_replicate,List.length_set,hL.hn,hL.hn,hm0,i6,i2,hz]
   rw [hcs] at hE
   exact ⟨_,x.H,_,u,rfl,rfl,hL.kp,hE.q hL.hn hp fun i sz ver rs hi=>get_set hi (by rintro rfl; rw [i2] at hi; cases hi)⟩
  have hg:opT T [[43],[45],[94]] x.s=true:=by rw [hop,h7,hm0]; rfl
  have hk7:=(isK_k h7).2
  have hsa:=hL.ok.adv hT (show (tokA T x.s).k≠8 by omega)
  rcases hq2:side (adv x.s) with ⟨⟨k3,n3,u3,t3,q3,l3,m3⟩,s3⟩
  have hs3:=hsa.run sS
  have hgt:=(Stay.adv hT sS hL.ok.1 (show (tokA T x.s).k≠8 by omega)).1
  rw [hq2] at hs3 hgt
  have hm:(fun a=>nowP T fun t=>advP (bindP side fun b=>retP (node2 14 t.t t.p a b))) x.a x.s=(node2 14 (tokA T x.s).t (tokA T x.s).p x.a (.mk k3 n3 u3 t3 q3 l3 m3),s3):=by
   simp only [nowP_e,advP]
   rw [bindP_e,hq2]; rfl
  obtain ⟨H2,cs2,hn2,kp2,fr2,cl2,env2,_,call2⟩:=(hC p n (n+1)).use ExpD.wf hq2 hL.hn hp hb hsa hL.fr (hL.room1 oN hg hmo hm)
  obtain ⟨c2,b2,rfl⟩:=(env2 u _ _ x.A u1' (hE.q hL.hn hp fun _ _ _ _ h=>h)).expC hE.len
  simp only [go_sem,reduceIte,↓reduceIte,sevalprocAttr,Z0,Z1,bytesOf,qyk hL.hn,qy0 hL.hn,ryk hL.hn,ry0 hL.hn,qdk,qd0,List.length_replicate,List.length_set,hL.hn,hL.hn,hm0,i0]
  refine acall_pure (iNow x.H _ p x.s hpx hL.ok) ?_
  simp only [go_sem,reduceIte,↓reduceIte,sevalprocAttr,Z0,Z1,bytesOf,qyk hL.hn,qy0 hL.hn,ryk hL.hn,ry0 hL.hn,qdk,qd0,List.length_replicate,List.length_set,hL.hn,hL.hn,Tok.cells,i0,get_ext i0 _,qya hL.hn,qya0 hL.hn,qpI hpx,qq hpx,hws,pvI_adv]
  refine ⟨_,hxd hL.hn _ _ _,?_⟩
  simp only [go_sem,reduceIte,↓reduceIte,sevalprocAttr,Z0,Z1,bytesOf,qyk hL.hn,qy0 hL.hn,ryk hL.hn,ry0 hL.hn,qdk,qd0,List.length_replicate,List.length_set,hL.hn,hL.hn,i6,get_ext i6 _]
  refine pre_clo rfl ?_
  refine pcall_chain _ _ (chl hn2 hL.hn _ _ _) (hxd hn2 _ _ _) (chn call2 _ fun A'=>⟨hnp,hnp1,by rw [← hL.hn,gx0]; exact get_ext (get_ext i0 _) _,by rw [← hL.hn,gxk]; exact get_ext (get_ext i1 _) _⟩) ?_
  have hz:∀ B o,((x.A++B).set 6 o)[6]?=some o:=fun B o=>set_get (get_ext i6 B)
  simp only [go_sem,reduceIte,↓reduceIte,sevalprocAttr,Z0,Z1,bytesOf,qyk hn2,qy0 hn2,ryk hn2,ry0 hn2,qdk,qd0,List.length_replicate,List.length_set,hn2,hn2,qya hn2,qya0 hn2,Nat.add_zero,get_ext i6 _]
  exact ⟨⟨x.j - 1,s3,node2 14 (tokA T x.s).t (tokA T x.s).p x.a (.mk k3 n3 u3 t3 q3 l3 m3),[iV 14,sV (tokA T x.s).t,iV 0,sV [],iV (tokA T x.s).p,.gs (n+(x.A.length+1)) 0 0 2,.p .nl],H2,_,x.M - nC (ExpD.tv (.mk k3 n3 u3 t3 q3 l3 m3))⟩,
   ⟨⟨hL.next (s0:=adv x.s) hp hb oN hg hmo hm hs3 hgt hn2 kp2 fr2 rfl env2 (fun i o hi ho=>get_set (get_ext ho _) (by omega)) (hz _ _) (by rw [List.getElem?_set_ne (by have:=get_lt i6; omega),← hcs,gxk]; rfl) (Nat.le_add_right _ _),fun i o hi ho=>get_set (get_ext (hI i o hi ho) _) (by omega)⟩,rfl⟩,by have h1:x.s.i<s3.i:=hgt; have:=hL.ok.1; simp only; omega⟩
end
end Go.Proofs.YtghcmccjchdgeaaGreatDoor.Qp
/- The program's sides with at most one sign between. -/
set_option linter.all false
namespace Go.Proofs.YtghcmccjchdgeaaGreatDoor.Qp
open Go.AM Mc Pg
section
variable {T:List Tok} {most e:Nat} (hT:ToksOk T) (hTl:T.length≤1048577)
include hT hTl
theorem iOnceC1 {d:Nat} {side:PM ExpD} (hC:PCl T most e d 110 side) (sS:StayM T side):PFo T most e 63 [iV 1,iV d] (bindP side (onceG T (fun s=>isT T [61] s || isT T [60] s) side)) ExpD.tv:=by
 refine pfo_of fun p K b n s hn hp hb hs hF=>?_
 have hpK:p<K.length:=by omega
 refine call63 (by simp) ?_
 simp only [go_sem,reduceIte,↓reduceIte,sevalprocAttr,Z0,Z1,bytesOf,qyk hn,qy0 hn,ryk hn,ry0 hn,qdk,qd0,List.length_replicate,List.length_set,hn,hn,mc63,mr63]
 rcases hq:side s with ⟨⟨k1,n1,u1,t1,q1,l1,m1⟩,s1⟩
 have hs1:=hs.run sS
 rw [hq] at hs1
 simp only at hs1
 have e0:bindP side (onceG T (fun s=>isT T [61] s || isT T [60] s) side) s=onceG T (fun s=>isT T [61] s || isT T [60] s) side (.mk k1 n1 u1 t1 q1 l1 m1) s1:=by rw [bindP_e,hq]
 rw [e0] at hF ⊢
 have hge:nC (ExpD.tv (.mk k1 n1 u1 t1 q1 l1 m1))≤nC (onceG T (fun s=>isT T [61] s || isT T [60] s) side (.mk k1 n1 u1 t1 q1 l1 m1) s1).1.tv:=by
  unfold onceG iteG
  rw [nowP_e]
  split
  ·show _≤nC (node2 14 _ _ _ _).tv
   rw [node2_nC]; omega
  ·exact Nat.le_refl _
 have hnp:n≠p:=by omega
 have hnp1:n+1≠p:=by omega
 obtain ⟨H1,cs1,hn1,kp1,fr1,cl1,_,env1,call1⟩:=(hC p n (n+1)).use ExpD.wf hq hn hp hb hs hF hge
 refine acall_pure (call1 _ ⟨hnp,hnp1,by rw [← hn,gx0]; rfl,by rw [← hn,gxk]; rfl⟩) ?_
 have hE1:=fun A A'=>env1 [] [] A A' (Env.nil _ _ _)
 obtain ⟨c1,b1,rfl⟩:=(hE1 [] []).expC rfl
 have hp1:p<H1.length:=by omega
 simp only [go_sem,reduceIte,↓reduceIte,sevalprocAttr,Z0,Z1,bytesOf,qyk hn1,qy0 hn1,ryk hn1,ry0 hn1,qdk,qd0,List.length_replicate,List.length_set,hn1,hn1]
 refine acall_pure (iNow H1 _ p s1 hp1 hs1) ?_
 simp only [go_sem,reduceIte,↓reduceIte,sevalprocAttr,Z0,Z1,bytesOf,qyk hn1,qy0 hn1,ryk hn1,ry0 hn1,qdk,qd0,List.length_replicate,List.length_set,hn1,hn1,Tok.cells]
 intro _
 generalize hte:tokA T s1=t at *
 obtain ⟨tk,tt,tn,tp⟩:=t
 have hNj:∀ j,j<2→([[.p (.s [61])],[.p (.s [60])]]:List (List AV))[j]?=some [sV (([[61],[60]]:List (List UInt8)).getD j [])]:=fun j hj=>by
  match j,hj with
  | 0,_=>rfl
  | 1,_=>rfl
 refine ⟨Nat,[0,1,3,6,8,9,10,27,28,29],fun j st=>(j≤2∧∀ i,i<j→isT T (([[61],[60]]:List (List UInt8)).getD i []) s1=false)∧st=⟨[(0,.ptr p 0),(1,iV 1),(3,.ptr n 0),(6,.ptr (n+2) 0),(8,.clo 110 [.ptr n 0,.ptr (n+1) 0]),(9,.ptr (n+6) 0),(10,.ptr (n+7) 0),(27,.gs (n+4) 0 0 2),(28,iV 2),(29,iV (j:Nat))],[],
  H1.set p (pvI T most s1)++[.var [.ptr p 0],.var [iV d],.var [iV 0,sV [],iV 0,sV [],iV 0,.p .nl,.p .nl],.rows 1 0 ([[58,61]].map fun x=>[.p (.s x)]),.rows 1 0 ([[61],[60]].map fun x=>[.p (.s x)]),.rows 1 0 [[.gs (n+3) 0 0 1],[.gs (n+4) 0 0 2]],.var [iV k1,sV n1,iV u1,sV t1,iV q1,c1,b1],.var [iV tk,sV tt,iV tn,iV tp]]⟩,fun j=>2 - j,⟨0,?_⟩,?_⟩
 ·exact ⟨⟨Nat.zero_le _,fun i hi=>absurd hi (by omega)⟩,rfl⟩
 ·rintro j _ ⟨⟨hj,hno⟩,rfl⟩
  have hw1:wr .i64 ((j:Int)+1)=((j+1:Nat):Int):=wrN _ (by omega)
  by_cases hlt:j<2
  ·have d1:decide ((j:Int)<2)=true:=by simp; omega
   simp only [go_sem,reduceIte,↓reduceIte,sevalprocAttr,Z0,Z1,bytesOf,qyk hn1,qy0 hn1,ryk hn1,ry0 hn1,qdk,qd0,List.length_replicate,List.length_set,hn1,hn1,d1,hNj j hlt,Option.map_some]
   refine ⟨by omega,?_⟩
   generalize hw:([[61],[60]]:List (List UInt8)).getD j []=w at *
   refine acall_pure (iTake hTl w H1 _ p s1 hp1 hs1) ?_
   unfold takeM
   cases hg:isT T w s1
   ·simp only [go_sem,reduceIte,↓reduceIte,sevalprocAttr,Z0,Z1,bytesOf,qyk hn1,qy0 hn1,ryk hn1,ry0 hn1,qdk,qd0,List.length_replicate,List.length_set,hn1,hn1,hg,hw1]
    exact ⟨j+1,⟨⟨hlt,fun i hi=>by
     rcases Nat.lt_or_ge i j with h | h
     ·exact hno i h
     ·obtain rfl:i=j:=by omega
      rw [hw]; exact hg⟩,rfl⟩,by omega⟩
   ·have hpt:((fun s=>isT T [61] s || isT T [60] s)) s1=true:=by
     match j,hlt,hw with
     | 0,_,hw=>obtain rfl:[61]=w:=hw; simp [hg]
     | 1,_,hw=>obtain rfl:[60]=w:=hw; simp [hg]
    have hwt:tt=w:=by simp [isT,hte] at hg; exact hg.2
    subst hwt
    have hsa:=hs1.adv hT (isT_k hg).2
    rcases hq2:side (adv s1) with ⟨⟨k3,n3,u3,t3,q3,l3,m3⟩,s3⟩
    have e1:onceG T (fun s=>isT T [61] s || isT T [60] s) side (.mk k1 n1 u1 t1 q1 l1 m1) s1=(node2 14 tt tp (.mk k1 n1 u1 t1 q1 l1 m1) (.mk k3 n3 u3 t3 q3 l3 m3),s3):=by
     unfold onceG; rw [nowP_e,iteG_t hpt,bindP_e,hq2,hte]; rfl
    rw [e1] at fr1 ⊢
    simp only [node2_nC] at fr1
    obtain ⟨H2,cs2,hn2,kp2,fr2,cl2,_,env2,call2⟩:=(hC p n (n+1)).use ExpD.wf hq2 hn1 hp hb hsa fr1 (by omega)
    have hE2:=fun A'=>env2 _ _ [] A' (Env.base (hE1 [] []) hn1 hp)
    obtain ⟨c2,b2,rfl⟩:=(hE2 []).expC rfl
    simp only [go_sem,reduceIte,↓reduceIte,sevalprocAttr,Z0,Z1,bytesOf,qyk hn1,qy0 hn1,ryk hn1,ry0 hn1,qdk,qd0,List.length_replicate,List.length_set,hn1,hn1,hg]
    refine ⟨_,hxd hn1 _ _ _,?_⟩
    simp only [go_sem,reduceIte,↓reduceIte,sevalprocAttr,Z0,Z1,bytesOf,qyk hn1,qy0 hn1,ryk hn1,ry0 hn1,qdk,qd0,List.length_replicate,List.length_set,hn1,hn1]
    refine pre_clo rfl ?_
    refine pcall_chain _ _ (chl hn2 hn1 _ _ _) (hxd hn2 _ _ _) (chn call2 _ fun A'=>⟨hnp,hnp1,by rw [← hn1,gx0]; rfl,by rw [← hn1,gxk]; rfl⟩) ?_
    simp only [go_sem,reduceIte,↓reduceIte,sevalprocAttr,Z0,Z1,bytesOf,qyk hn2,qy0 hn2,ryk hn2,ry0 hn2,qdk,qd0,List.length_replicate,List.length_set,hn2,hn2,Nat.add_zero]
    exact ⟨_,H2,_,_,rfl,rfl,kp1.trans kp2,exp_node (Env.node (rows:=[ExpD.tv (.mk k1 n1 u1 t1 q1 l1 m1),ExpD.tv (.mk k3 n3 u3 t3 q3 l3 m3)]) (rs:=[[iV k1,sV n1,iV u1,sV t1,iV q1,c1,b1],[iV k3,sV n3,iV u3,sV t3,iV q3,c2,b2]]) (u:=n) (by simpa using hE2 _) (by rw [qyk hn2]; rfl) (by omega) (by omega) rfl (by intro r hr; simp at hr; rcases hr with rfl | rfl <;> exact ExpD.tv_len _) (by intro r hr; simp at hr; rcases hr with rfl | rfl <;> rfl) (by simp))⟩
  ·obtain rfl:j=2:=by omega
   have hpf:((fun s=>isT T [61] s || isT T [60] s)) s1=false:=by
    simp only [show isT T [61] s1=false from hno 0 (by omega),show isT T [60] s1=false from hno 1 (by omega)]; rfl
   have e1:onceG T (fun s=>isT T [61] s || isT T [60] s) side (.mk k1 n1 u1 t1 q1 l1 m1) s1=(.mk k1 n1 u1 t1 q1 l1 m1,s1):=by
    unfold onceG; rw [nowP_e,iteG_f hpf]; rfl
   rw [e1]
   simp only [go_sem,reduceIte,↓reduceIte,sevalprocAttr,Z0,Z1,bytesOf,qyk hn1,qy0 hn1,ryk hn1,ry0 hn1,qdk,qd0,List.length_replicate,List.length_set,hn1,hn1]
   exact ⟨_,H1,_,n,rfl,rfl,kp1,hE1 [] _⟩
theorem iOnceC0 {d:Nat} {side:PM ExpD} (hC:PCl T most e d 112 side) (sS:StayM T side):PFo T most e 63 [iV 0,iV d] (bindP side (onceG T (isT T [58,61]) side)) ExpD.tv:=by
 refine pfo_of fun p K b n s hn hp hb hs hF=>?_
 have hpK:p<K.length:=by omega
 refine call63 (by simp) ?_
 simp only [go_sem,reduceIte,↓reduceIte,sevalprocAttr,Z0,Z1,bytesOf,qyk hn,qy0 hn,ryk hn,ry0 hn,qdk,qd0,List.length_replicate,List.length_set,hn,hn,mc63,mr63]
 rcases hq:side s with ⟨⟨k1,n1,u1,t1,q1,l1,m1⟩,s1⟩
 have hs1:=hs.run sS
 rw [hq] at hs1
 simp only at hs1
 have e0:bindP side (onceG T (isT T [58,61]) side) s=onceG T (isT T [58,61]) side (.mk k1 n1 u1 t1 q1 l1 m1) s1:=by rw [bindP_e,hq]
 rw [e0] at hF ⊢
 have hge:nC (ExpD.tv (.mk k1 n1 u1 t1 q1 l1 m1))≤nC (onceG T (isT T [58,61]) side (.mk k1 n1 u1 t1 q1 l1 m1) s1).1.tv:=by
  unfold onceG iteG
  rw [nowP_e]
  split
  ·show _≤nC (node2 14 _ _ _ _).tv
   rw [node2_nC]; omega
  ·exact Nat.le_refl _
 have hnp:n≠p:=by omega
 have hnp1:n+1≠p:=by omega
 obtain ⟨H1,cs1,hn1,kp1,fr1,cl1,_,env1,call1⟩:=(hC p n (n+1)).use ExpD.wf hq hn hp hb hs hF hge
 refine acall_pure (call1 _ ⟨hnp,hnp1,by rw [← hn,gx0]; rfl,by rw [← hn,gxk]; rfl⟩) ?_
 have hE1:=fun A A'=>env1 [] [] A A' (Env.nil _ _ _)
 obtain ⟨c1,b1,rfl⟩:=(hE1 [] []).expC rfl
 have hp1:p<H1.length:=by omega
 simp only [go_sem,reduceIte,↓reduceIte,sevalprocAttr,Z0,Z1,bytesOf,qyk hn1,qy0 hn1,ryk hn1,ry0 hn1,qdk,qd0,List.length_replicate,List.length_set,hn1,hn1]
 refine acall_pure (iNow H1 _ p s1 hp1 hs1) ?_
 simp only [go_sem,reduceIte,↓reduceIte,sevalprocAttr,Z0,Z1,bytesOf,qyk hn1,qy0 hn1,ryk hn1,ry0 hn1,qdk,qd0,List.length_replicate,List.length_set,hn1,hn1,Tok.cells]
 intro _
 generalize hte:tokA T s1=t at *
 obtain ⟨tk,tt,tn,tp⟩:=t
 have hNj:∀ j,j<1→([[.p (.s [58,61])]]:List (List AV))[j]?=some [sV (([[58,61]]:List (List UInt8)).getD j [])]:=fun j hj=>by
  match j,hj with
  | 0,_=>rfl
 refine ⟨Nat,[0,1,3,6,8,9,10,27,28,29],fun j st=>(j≤1∧∀ i,i<j→isT T (([[58,61]]:List (List UInt8)).getD i []) s1=false)∧st=⟨[(0,.ptr p 0),(1,iV 0),(3,.ptr n 0),(6,.ptr (n+2) 0),(8,.clo 112 [.ptr n 0,.ptr (n+1) 0]),(9,.ptr (n+6) 0),(10,.ptr (n+7) 0),(27,.gs (n+3) 0 0 1),(28,iV 1),(29,iV (j:Nat))],[],
  H1.set p (pvI T most s1)++[.var [.ptr p 0],.var [iV d],.var [iV 0,sV [],iV 0,sV [],iV 0,.p .nl,.p .nl],.rows 1 0 ([[58,61]].map fun x=>[.p (.s x)]),.rows 1 0 ([[61],[60]].map fun x=>[.p (.s x)]),.rows 1 0 [[.gs (n+3) 0 0 1],[.gs (n+4) 0 0 2]],.var [iV k1,sV n1,iV u1,sV t1,iV q1,c1,b1],.var [iV tk,sV tt,iV tn,iV tp]]⟩,fun j=>1 - j,⟨0,?_⟩,?_⟩
 ·exact ⟨⟨Nat.zero_le _,fun i hi=>absurd hi (by omega)⟩,rfl⟩
 ·rintro j _ ⟨⟨hj,hno⟩,rfl⟩
  have hw1:wr .i64 ((j:Int)+1)=((j+1:Nat):Int):=wrN _ (by omega)
  by_cases hlt:j<1
  ·have d1:decide ((j:Int)<1)=true:=by simp; omega
   simp only [go_sem,reduceIte,↓reduceIte,sevalprocAttr,Z0,Z1,bytesOf,qyk hn1,qy0 hn1,ryk hn1,ry0 hn1,qdk,qd0,List.length_replicate,List.length_set,hn1,hn1,d1,hNj j hlt,Option.map_some]
   refine ⟨by omega,?_⟩
   generalize hw:([[58,61]]:List (List UInt8)).getD j []=w at *
   refine acall_pure (iTake hTl w H1 _ p s1 hp1 hs1) ?_
   unfold takeM
   cases hg:isT T w s1
   ·simp only [go_sem,reduceIte,↓reduceIte,sevalprocAttr,Z0,Z1,bytesOf,qyk hn1,qy0 hn1,ryk hn1,ry0 hn1,qdk,qd0,List.length_replicate,List.length_set,hn1,hn1,hg,hw1]
    exact ⟨j+1,⟨⟨hlt,fun i hi=>by
     rcases Nat.lt_or_ge i j with h | h
     ·exact hno i h
     ·obtain rfl:i=j:=by omega
      rw [hw]; exact hg⟩,rfl⟩,by omega⟩
   ·have hpt:((isT T [58,61])) s1=true:=by
     match j,hlt,hw with
     | 0,_,hw=>obtain rfl:[58,61]=w:=hw; exact hg
    have hwt:tt=w:=by simp [isT,hte] at hg; exact hg.2
    subst hwt
    have hsa:=hs1.adv hT (isT_k hg).2
    rcases hq2:side (adv s1) with ⟨⟨k3,n3,u3,t3,q3,l3,m3⟩,s3⟩
    have e1:onceG T (isT T [58,61]) side (.mk k1 n1 u1 t1 q1 l1 m1) s1=(node2 14 tt tp (.mk k1 n1 u1 t1 q1 l1 m1) (.mk k3 n3 u3 t3 q3 l3 m3),s3):=by
     unfold onceG; rw [nowP_e,iteG_t hpt,bindP_e,hq2,hte]; rfl
    rw [e1] at fr1 ⊢
    simp only [node2_nC] at fr1
    obtain ⟨H2,cs2,hn2,kp2,fr2,cl2,_,env2,call2⟩:=(hC p n (n+1)).use ExpD.wf hq2 hn1 hp hb hsa fr1 (by omega)
    have hE2:=fun A'=>env2 _ _ [] A' (Env.base (hE1 [] []) hn1 hp)
    obtain ⟨c2,b2,rfl⟩:=(hE2 []).expC rfl
    simp only [go_sem,reduceIte,↓reduceIte,sevalprocAttr,Z0,Z1,bytesOf,qyk hn1,qy0 hn1,ryk hn1,ry0 hn1,qdk,qd0,List.length_replicate,List.length_set,hn1,hn1,hg]
    refine ⟨_,hxd hn1 _ _ _,?_⟩
    simp only [go_sem,reduceIte,↓reduceIte,sevalprocAttr,Z0,Z1,bytesOf,qyk hn1,qy0 hn1,ryk hn1,ry0 hn1,qdk,qd0,List.length_replicate,List.length_set,hn1,hn1]
    refine pre_clo rfl ?_
    refine pcall_chain _ _ (chl hn2 hn1 _ _ _) (hxd hn2 _ _ _) (chn call2 _ fun A'=>⟨hnp,hnp1,by rw [← hn1,gx0]; rfl,by rw [← hn1,gxk]; rfl⟩) ?_
    simp only [go_sem,reduceIte,↓reduceIte,sevalprocAttr,Z0,Z1,bytesOf,qyk hn2,qy0 hn2,ryk hn2,ry0 hn2,qdk,qd0,List.length_replicate,List.length_set,hn2,hn2,Nat.add_zero]
    exact ⟨_,H2,_,_,rfl,rfl,kp1.trans kp2,exp_node (Env.node (rows:=[ExpD.tv (.mk k1 n1 u1 t1 q1 l1 m1),ExpD.tv (.mk k3 n3 u3 t3 q3 l3 m3)]) (rs:=[[iV k1,sV n1,iV u1,sV t1,iV q1,c1,b1],[iV k3,sV n3,iV u3,sV t3,iV q3,c2,b2]]) (u:=n) (by simpa using hE2 _) (by rw [qyk hn2]; rfl) (by omega) (by omega) rfl (by intro r hr; simp at hr; rcases hr with rfl | rfl <;> exact ExpD.tv_len _) (by intro r hr; simp at hr; rcases hr with rfl | rfl <;> rfl) (by simp))⟩
  ·obtain rfl:j=1:=by omega
   have hpf:((isT T [58,61])) s1=false:=by
    exact hno 0 (by omega)
   have e1:onceG T (isT T [58,61]) side (.mk k1 n1 u1 t1 q1 l1 m1) s1=(.mk k1 n1 u1 t1 q1 l1 m1,s1):=by
    unfold onceG; rw [nowP_e,iteG_f hpf]; rfl
   rw [e1]
   simp only [go_sem,reduceIte,↓reduceIte,sevalprocAttr,Z0,Z1,bytesOf,qyk hn1,qy0 hn1,ryk hn1,ry0 hn1,qdk,qd0,List.length_replicate,List.length_set,hn1,hn1]
   exact ⟨_,H1,_,n,rfl,rfl,kp1,hE1 [] _⟩
end
end Go.Proofs.YtghcmccjchdgeaaGreatDoor.Qp
/- The program's expressions. -/
set_option linter.all false
namespace Go.Proofs.YtghcmccjchdgeaaGreatDoor.Qp
open Go.AM Mc Pg
section
variable {T:List Tok} {most e:Nat} (hT:ToksOk T) (hTl:T.length≤1048577)
include hT hTl
theorem iOnceK {d:Nat} (hd:d≤1099511627776) {ex:PM ExpD} (hP:PFo T most e 29 [iV (d+1:Nat)] ex ExpD.tv) (sP:StayM T ex):PFo T most e 63 [iV 0,iV d] (iOnce0 T T.length ex) ExpD.tv:=by
 have h1:=clo_row1 (iAppC hT hTl hd hP sP)
 have h2:=clo_row2 (iRowC1 hT hTl h1 (Pg.stay_iApp hT sP))
 have h3:=clo_once1 (iRowC0 hT hTl h2 (Pg.stay_iRow1 hT sP))
 have h4:=clo_once2 (iOnceC1 hT hTl h3 (Pg.stay_iRow0 hT sP))
 exact iOnceC0 hT hTl h4 (Pg.stay_iOnce1 hT sP)
end
theorem gxs0 (A:List AO) (i:Nat) (o:AO) (B:List AO):(A.set i o++B)[A.length]?=B[0]?:=by
 have:=gx0 (A.set i o) B
 rwa [List.length_set] at this
theorem app_o {J:St→Prop} {L T':En} {d:MD} {bytes n p sz:Nat} {N:List Nat} {c0 c:AO} {H H1 A B:List AO} {a:AV} {rs:List (List AV)} {y:List AV} (hn:H.length=n) (hn1:H1.length=n) (hown:OwnR (H.set p c0++A) a sz rs) (hids:∀ id v o m,a=.gs id v o m→n≤id∧id - n ∉ N) (hnm:∀ k∈N,k<A.length) (hl:rs.length≤1048578) (hB:∀ (k:Nat) (o:AO),A[k]?=some o→B[k]?=some o) (hby:bytes≤1000)
  (k:∀ id ver A',(H1.set p c++A')[id]?=some (.rows sz ver (rs++[y]))→(n≤id∧id - n ∉ N)→(∀ k:Nat,k∈N→A'[k]?=A[k]?)→J (St.put ⟨L,T',H1.set p c++A'⟩ d (.gs id ver 0 (rs.length+1)))) :
  appX sz bytes a [y] d J ⟨L,T',H1.set p c++B⟩:=by
 have hlB:∀ k∈N,k<B.length:=fun k hk=>by
  have hk2:=hnm k hk
  exact get_lt (hB k A[k] (by simp [hk2]))
 have hids':∀ id v o m,a=.gs id v o m→H1.length≤id∧id - H1.length ∉ N:=by rw [hn1]; exact hids
 have hown':OwnR (H1.set p c++B) a sz rs:=by
  rcases hown with h1 | ⟨id,ver,e1,h1⟩
  ·exact .inl h1
  ·obtain ⟨q1,q2⟩:=hids _ _ _ _ e1
   obtain ⟨q,rfl⟩:=Nat.le.dest q1
   rw [qyk hn] at h1
   exact .inr ⟨_,ver,e1,by rw [qyk hn1]; exact hB _ _ h1⟩
 refine app_q (rs:=rs) (ys:=[y]) hown' hlB hids' (by simp; exact Nat.le_trans (Nat.mul_le_mul (show rs.length+1≤1048579 by omega) hby) (by decide)) (by simp; omega) ?_
 intro id ver A' k1 k2 k3
 rw [hn1] at k2
 refine k id ver A' k1 k2 (fun j hj=>?_)
 rw [k3 j hj]
 have hjl:=hnm j hj
 rw [hB j A[j] (by simp [hjl])]; simp [hjl]
structure LA (pv:PS→AO) (T:List Tok) (e b n p:Nat) (K:List AO) (N:List Nat) (ts0:List TV) (ds0:List AV) (arm:PM ArmD) (Rl:List ArmD) (Rs:PS) (x:LG ArmD):Prop where
 ok:Ok T e x.s
 ln:x.acc.length≤x.s.i
 fu:T.length - x.s.i≤x.j
 c0:x.s.c=0
 rl:x.acc++((arm x.s).1 :: (many (isT T [124]) (advP arm) x.j (arm x.s).2).1)=Rl
 re:(many (isT T [124]) (advP arm) x.j (arm x.s).2).2=Rs
 hn:x.H.length=n
 kp:Kp b K x.H
 fr:∃ M,Fr b x.H M∧nC (arm x.s).1.tv+nR ((many (isT T [124]) (advP arm) x.j (arm x.s).2).1.map ArmD.tv)≤M
 env:Env b n (x.H.set p (pv x.s)++x.A) (ts0++(x.acc.map ArmD.tv).flatten) (ds0++x.rs.flatten)
 len:x.rs.length=x.acc.length
 sz1:∀ r∈x.rs,r.length=12
 own:OwnR (x.H.set p (pv x.s)++x.A) x.a 12 x.rs
 ids:∀ id v o m,x.a=.gs id v o m→n≤id∧id - n ∉ N
 nm:∀ k∈N,k<x.A.length
section
variable {pv:PS→AO} {T:List Tok} {e b n p:Nat} {K:List AO} {N:List Nat} {ts0:List TV} {ds0:List AV} {arm:PM ArmD} {Rl:List ArmD} {Rs:PS}
theorem LA.start {H A:List AO} {s:PS} {M:Nat} (hs:Ok T e s) (h0:s.c=0) (h:armsP T T.length arm s=(Rl,Rs)) (hn:H.length=n) (hk:Kp b K H) (hF:Fr b H M) (hM:nR (Rl.map ArmD.tv)≤M) (hE:Env b n (H.set p (pv s)++A) ts0 ds0) (hb:∀ k∈N,k<A.length):LA pv T e b n p K N ts0 ds0 arm Rl Rs ⟨T.length,s,[],[],.p .nl,H,A⟩:=by
 have h1:(arm s).1 :: (many (isT T [124]) (advP arm) T.length (arm s).2).1=Rl:=by have:=congrArg Prod.fst h; exact this
 have h2:(many (isT T [124]) (advP arm) T.length (arm s).2).2=Rs:=by have:=congrArg Prod.snd h; exact this
 refine ⟨hs,Nat.zero_le _,by simp only; omega,h0,h1,h2,hn,hk,⟨M,hF,?_⟩,by simpa using hE,rfl,by simp,.inl ⟨rfl,rfl⟩,(fun _ _ _ _ e=>by cases e),hb⟩
 rw [← h1] at hM
 simpa [nR] using hM
theorem LA.stop {x:LG ArmD} (h:LA pv T e b n p K N ts0 ds0 arm Rl Rs x) {y:ArmD} {s2:PS} (hm:arm x.s=(y,s2)) (hg:isT T [124] s2=false):x.acc++[y]=Rl∧s2=Rs:=by
 have h1:=h.rl; have h2:=h.re
 rw [hm] at h1 h2
 rw [many_c hg] at h1 h2
 exact ⟨h1,h2⟩
theorem LA.room {x:LG ArmD} (h:LA pv T e b n p K N ts0 ds0 arm Rl Rs x) {y:ArmD} {s2:PS} (hm:arm x.s=(y,s2)):∃ M,Fr b x.H M∧nC y.tv+nR ((many (isT T [124]) (advP arm) x.j s2).1.map ArmD.tv)≤M:=by
 obtain ⟨M,h1,h2⟩:=h.fr
 rw [hm] at h2
 exact ⟨M,h1,h2⟩
theorem LA.own1 {x:LG ArmD} (h:LA pv T e b n p K N ts0 ds0 arm Rl Rs x) {s2:PS} {H1 A' A'':List AO} {id ver:Nat} {cs:List AV} (hn1:H1.length=n) (k1:(H1.set p (pv s2)++A')[id]?=some (.rows 12 ver (x.rs++[cs]))) (k2:n≤id∧id - n ∉ N) (k3:∀ (k:Nat) (o:AO),k ∉ N→A'[k]?=some o→A''[k]?=some o) (c:AO):(H1.set p c++A'')[id]?=some (.rows 12 ver (x.rs++[cs])):=by
 obtain ⟨q,hq⟩:=Nat.le.dest k2.1
 subst hq
 rw [qyk hn1] at k1 ⊢
 exact k3 _ _ (by have:=k2.2; rwa [Nat.add_sub_cancel_left] at this) k1
theorem LA.next (hT:ToksOk T) {x:LG ArmD} (h:LA pv T e b n p K N ts0 ds0 arm Rl Rs x) {y:ArmD} {s2:PS} (hm:arm x.s=(y,s2)) (hs2:Ok T e s2) (hge:x.s.i≤s2.i) (hg:isT T [124] s2=true) {H1 A' A'':List AO} {M id ver:Nat} {cs:List AV} (hn1:H1.length=n) (kp1:Kp b x.H H1) (fr1:Fr b H1 M) (hM:nR ((many (isT T [124]) (advP arm) x.j s2).1.map ArmD.tv)≤M)
  (env1:Env b n (H1.set p (pv (adv s2))++A'') (ts0++(x.acc.map ArmD.tv).flatten++y.tv) (ds0++x.rs.flatten++cs)) (hcs:cs.length=12)
  (k1:(H1.set p (pv s2)++A')[id]?=some (.rows 12 ver (x.rs++[cs]))) (k2:n≤id∧id - n ∉ N) (k3:∀ (k:Nat) (o:AO),k ∉ N→A'[k]?=some o→A''[k]?=some o) (k4:∀ k∈N,k<A''.length) :
  LA pv T e b n p K N ts0 ds0 arm Rl Rs ⟨x.j - 1,adv s2,x.acc++[y],x.rs++[cs],.gs id ver 0 (x.rs.length+1),H1,A''⟩:=by
 have hk:=isT_k hg
 have hfu:=h.fu
 have hix:=h.ok.1
 obtain ⟨j',hj⟩:∃ j',x.j=j'+1:=⟨x.j - 1,by omega⟩
 have h1:=h.rl; have h2:=h.re
 rw [hm] at h1 h2
 simp only [hj,many,if_pos hg] at h1 h2 hM
 have e1:∀ s,advP arm s=arm (adv s):=fun _=>rfl
 simp only [e1] at h1 h2 hM
 have hln:=h.ln
 refine ⟨hs2.adv hT hk.2,by simp [adv]; omega,by simp [adv]; omega,hk.1,by simp only [hj,Nat.add_sub_cancel]; simpa using h1,by simp only [hj,Nat.add_sub_cancel]; exact h2,hn1,h.kp.trans kp1,⟨M,fr1,by simp only [hj,Nat.add_sub_cancel]; simpa [nR] using hM⟩,by simpa using env1,by simp [h.len],?_,.inr ⟨id,ver,by simp,h.own1 hn1 k1 k2 k3 _⟩,(fun id' v o m' e=>by cases e; exact k2),k4⟩
 intro r hr
 rcases List.mem_append.1 hr with hr | hr
 ·exact h.sz1 r hr
 ·simp at hr; rw [hr]; exact hcs
end
theorem exp_nodeA {b u:Nat} {X:List AO} {k:Int} {nm:List UInt8} {un:Int} {t:List UInt8} {q:Int} {l:List ExpD} {as':List ArmD} {a a':AV} (h:Env b u X [.s 7 (l.map ExpD.tv),.s 12 (as'.map ArmD.tv)] [a,a']):Env b u X (ExpD.tv (.mk k nm un t q l as')) [iV k,sV nm,iV un,sV t,iV q,a,a']:=by
 rw [ExpD.tv,ExpD.tvL_eq,ExpD.tvA_eq]
 exact ((((h.pc _).pc _).pc _).pc _).pc _
theorem rows2 {b u n q:Nat} {X:List AO} {x y:ExpD} {c1 c2:List AV} {ver:Nat} (h:Env b u X (x.tv++y.tv) (c1++c2)) (l1:c1.length=7) (l2:c2.length=7) (hi:X[n+q]?=some (.rows 7 ver [c1,c2])) (hu:u≤n) (hb:b≤n):Env b (n+q+1) X [.s 7 ([x,y].map ExpD.tv)] [.gs (n+q) ver 0 2] :=
 Env.node (rows:=[x.tv,y.tv]) (rs:=[c1,c2]) (by simpa using h) hi (by omega) (by omega) rfl (by intro r hr; simp at hr; rcases hr with rfl | rfl <;> exact ExpD.tv_len _) (by intro r hr; simp at hr; rcases hr with rfl | rfl <;> assumption) (by simp)
theorem rows3 {b u n q:Nat} {X:List AO} {x y z:ExpD} {c1 c2 c3:List AV} {ver:Nat} (h:Env b u X (x.tv++y.tv++z.tv) (c1++c2++c3)) (l1:c1.length=7) (l2:c2.length=7) (l3:c3.length=7) (hi:X[n+q]?=some (.rows 7 ver [c1,c2,c3])) (hu:u≤n) (hb:b≤n):Env b (n+q+1) X [.s 7 ([x,y,z].map ExpD.tv)] [.gs (n+q) ver 0 3] :=
 Env.node (rows:=[x.tv,y.tv,z.tv]) (rs:=[c1,c2,c3]) (by simpa [List.append_assoc] using h) hi (by omega) (by omega) rfl (by intro r hr; simp at hr; rcases hr with rfl | rfl | rfl <;> exact ExpD.tv_len _) (by intro r hr; simp at hr; rcases hr with rfl | rfl | rfl <;> assumption) (by simp)
section
variable {T:List Tok} {most e:Nat} (hT:ToksOk T) (hTl:T.length≤1048577)
include hT hTl
theorem iExpC {d:Nat} (hd:d≤1099511627776) {pat:PM PatD} {ex:PM ExpD} (hPat:d≤most→PFo T most e 62 [iV (d+1:Nat)] pat PatD.tv) (sPat:StayM T pat) (hP:d≤most→PFo T most e 29 [iV (d+1:Nat)] ex ExpD.tv) (sP:StayM T ex):PFo T most e 29 [iV d] (iExpB T T.length most pat ex d) ExpD.tv:=by
 refine pfo_of fun p K b n s hn hp hb hs hF=>?_
 have hpK:p<K.length:=by omega
 have hnp:n≠p:=by omega
 have hnp1:n+1≠p:=by omega
 have hd1:wr .i64 ((d:Int)+1)=((d+1:Nat):Int):=wrN _ (by omega)
 refine call29 (by simp) ?_
 simp only [go_sem,reduceIte,↓reduceIte,sevalprocAttr,Z0,Z1,bytesOf,qyk hn,qy0 hn,ryk hn,ry0 hn,qdk,qd0,List.length_replicate,List.length_set,hn,hn,mc29,mr29]
 refine acall_pure (iDeeper d K _ p s hpK hs) ?_
 have hs1:=deep_ok (most:=most) (d:=d) hT hTl hs
 unfold iExpB deepP at hF ⊢
 cases hc:decide ((deeperP T most d s).c=0)
 ·rw [if_neg (of_decide_eq_false hc)]
  simp only [go_sem,reduceIte,↓reduceIte,sevalprocAttr,Z0,Z1,bytesOf,qyk hn,qy0 hn,ryk hn,ry0 hn,qdk,qd0,List.length_replicate,List.length_set,hn,hn,hc,Bool.not_false,Bool.not_true]
  exact ⟨_,K,_,0,rfl,rfl,Kp.rfl,exp_leaf _ _ _ _ _ _ _ _⟩
 have hc0:=of_decide_eq_true hc
 have hO:=iOnceK hT hTl hd (hP (deep_le hT hTl hc0)) sP
 have hC:=clo_expr1 hd (hP (deep_le hT hTl hc0))
 have hPat:=hPat (deep_le hT hTl hc0)
 rw [if_pos hc0] at hF ⊢
 simp only [go_sem,reduceIte,↓reduceIte,sevalprocAttr,Z0,Z1,bytesOf,qyk hn,qy0 hn,ryk hn,ry0 hn,qdk,qd0,List.length_replicate,List.length_set,hn,hn,hc,Bool.not_false,Bool.not_true]
 generalize deeperP T most d s=s1 at *
 refine acall_pure (iNow K _ p s1 hpK hs1) ?_
 simp only [go_sem,reduceIte,↓reduceIte,sevalprocAttr,Z0,Z1,bytesOf,qyk hn,qy0 hn,ryk hn,ry0 hn,qdk,qd0,List.length_replicate,List.length_set,hn,hn,Tok.cells]
 rw [nowP_e] at hF ⊢
 generalize hte:tokA T s1=t at *
 obtain ⟨tk,tt,tn,tp⟩:=t
 simp only at hF ⊢
 refine acall_pure (iTake hTl [108,101,116] K _ p s1 hpK hs1) ?_
 unfold takeM
 cases c1:isT T [108,101,116] s1
 rotate_left
 ·rw [iteG_t c1] at hF ⊢
  have hsa:=hs1.adv hT (isT_k c1).2
  simp only [go_sem,reduceIte,↓reduceIte,sevalprocAttr,Z0,Z1,bytesOf,qyk hn,qy0 hn,ryk hn,ry0 hn,qdk,qd0,List.length_replicate,List.length_set,hn,hn,c1]
  refine acall_pure (iTake hTl [114,101,99] K _ p _ hpK hsa) ?_
  unfold letP at hF ⊢
  unfold takeM
  cases c2:isT T [114,101,99] (adv s1)
  ·rw [iteG_f c2] at hF ⊢
   have hsb:=hsa
   simp only [go_sem,reduceIte,↓reduceIte,sevalprocAttr,Z0,Z1,bytesOf,qyk hn,qy0 hn,ryk hn,ry0 hn,qdk,qd0,List.length_replicate,List.length_set,hn,hn,c2]
   refine acall_pure (iWord hTl 3 K _ p _ hpK hsb) ?_
   have hs2:=hsb.run (StayM.word hT (k:=3) (by decide))
   rcases hq2:wordP T 3 (adv s1) with ⟨w1,s2⟩
   rw [hq2] at hs2
   simp only at hs2
   simp only [go_sem,reduceIte,↓reduceIte,sevalprocAttr,Z0,Z1,bytesOf,qyk hn,qy0 hn,ryk hn,ry0 hn,qdk,qd0,List.length_replicate,List.length_set,hn,hn]
   refine acall_pure (iWant hT hTl [[61]] (by decide) hpK hs2 (by omega) (fun c=>by rw [qyk hn]; rfl)) ?_
   have hs4w:=hs2.step (stay_want hT [61])
   simp only [go_sem,reduceIte,↓reduceIte,sevalprocAttr,Z0,Z1,bytesOf,qyk hn,qy0 hn,ryk hn,ry0 hn,qdk,qd0,List.length_replicate,List.length_set,hn,hn,wants1]
   rcases hq5:ex (wantP T [61] s2) with ⟨⟨k5,n5,u5,t5,q5,l5,m5⟩,s5⟩
   have hs5:=hs4w.run sP
   rw [hq5] at hs5
   simp only at hs5
   rcases hq6:ex (wantP T [105,110] s5) with ⟨⟨k6,n6,u6,t6,q6,l6,m6⟩,s6⟩
   have hs5w:=hs5.step (stay_want hT [105,110])
   simp only [bindP_e,stepP_e,retP_e,hq2,hq5,hq6] at hF ⊢
   have hNN:nC (ExpD.tv (.mk 10 w1 0 [] tp [.mk k5 n5 u5 t5 q5 l5 m5,.mk k6 n6 u6 t6 q6 l6 m6] []))=1+(nC (ExpD.tv (.mk k5 n5 u5 t5 q5 l5 m5))+nC (ExpD.tv (.mk k6 n6 u6 t6 q6 l6 m6))):=by rw [exp_nC]; simp [nK,nR]
   rw [hNN] at hF
   obtain ⟨H5,cs5,hn5,kp5,fr5,cl5,_,env5,call5⟩:=(hC p n (n+1)).use ExpD.wf hq5 hn hp hb hs4w hF (by omega)
   have hE5:=fun A'=>env5 [] [] [] A' (Env.nil _ _ _)
   obtain ⟨c5,b5,rfl⟩:=(hE5 []).expC rfl
   refine ⟨_,hxd hn _ _ _,?_⟩
   simp only [go_sem,reduceIte,↓reduceIte,sevalprocAttr,Z0,Z1,bytesOf,qyk hn,qy0 hn,ryk hn,ry0 hn,qdk,qd0,List.length_replicate,List.length_set,hn,hn]
   refine pre_clo rfl ?_
   refine pcall_chain _ _ (chl hn5 hn _ _ _) (hxd hn5 _ _ _) (chn call5 _ fun A'=>⟨hnp,hnp1,by rw [← hn,gx0]; rfl,by rw [← hn,gxk]; rfl⟩) ?_
   simp only [go_sem,reduceIte,↓reduceIte,sevalprocAttr,Z0,Z1,bytesOf,qyk hn5,qy0 hn5,ryk hn5,ry0 hn5,qdk,qd0,List.length_replicate,List.length_set,hn5,hn5,Nat.add_zero,Nat.add_assoc]
   have hpH5:p<H5.length:=by omega
   refine ⟨by intro r hr; simp at hr; subst hr; rfl,?_⟩
   refine acall_pure (iWant hT hTl [[105,110]] (by decide) hpH5 hs5 (by omega) (fun c=>by rw [qyk hn5]; rfl)) ?_
   simp only [go_sem,reduceIte,↓reduceIte,sevalprocAttr,Z0,Z1,bytesOf,qyk hn5,qy0 hn5,ryk hn5,ry0 hn5,qdk,qd0,List.length_replicate,List.length_set,hn5,hn5,wants1]
   obtain ⟨H6,cs6,hn6,kp6,fr6,cl6,_,env6,call6⟩:=(hC p n (n+1)).use ExpD.wf hq6 hn5 hp hb hs5w fr5 (by omega)
   have hE6:=fun A'=>env6 _ _ [] A' (Env.base (hE5 []) hn5 hp)
   obtain ⟨c6,b6,rfl⟩:=(hE6 []).expC rfl
   refine ⟨_,hxd hn5 _ _ _,?_⟩
   simp only [go_sem,reduceIte,↓reduceIte,sevalprocAttr,Z0,Z1,bytesOf,qyk hn5,qy0 hn5,ryk hn5,ry0 hn5,qdk,qd0,List.length_replicate,List.length_set,hn5,hn5]
   refine pre_clo rfl ?_
   refine pcall_chain _ _ (chl hn6 hn5 _ _ _) (hxd hn6 _ _ _) (chn call6 _ fun A'=>⟨hnp,hnp1,by rw [← hn5,gx0]; rfl,by rw [← hn5,gxk]; rfl⟩) ?_
   simp only [go_sem,reduceIte,↓reduceIte,sevalprocAttr,Z0,Z1,bytesOf,qyk hn6,qy0 hn6,ryk hn6,ry0 hn6,qdk,qd0,List.length_replicate,List.length_set,hn6,hn6,Nat.add_zero,Nat.add_assoc]
   have hpH6:p<H6.length:=by omega
   refine ⟨by intro r hr; simp at hr; subst hr; rfl,?_⟩
   exact ⟨_,H6,_,_,rfl,rfl,kp5.trans kp6,exp_node (rows2 (u:=n) (hE6 _) rfl rfl (by rw [qyk hn6]; rfl) (Nat.le_refl _) hb)⟩
  ·rw [iteG_t c2] at hF ⊢
   have hsb:=hsa.adv hT (isT_k c2).2
   simp only [go_sem,reduceIte,↓reduceIte,sevalprocAttr,Z0,Z1,bytesOf,qyk hn,qy0 hn,ryk hn,ry0 hn,qdk,qd0,List.length_replicate,List.length_set,hn,hn,c2]
   refine acall_pure (iWord hTl 3 K _ p _ hpK hsb) ?_
   have hs2:=hsb.run (StayM.word hT (k:=3) (by decide))
   rcases hq2:wordP T 3 (adv (adv s1)) with ⟨w1,s2⟩
   rw [hq2] at hs2
   simp only at hs2
   simp only [go_sem,reduceIte,↓reduceIte,sevalprocAttr,Z0,Z1,bytesOf,qyk hn,qy0 hn,ryk hn,ry0 hn,qdk,qd0,List.length_replicate,List.length_set,hn,hn]
   refine acall_pure (iWord hTl 3 K _ p _ hpK hs2) ?_
   have hs3:=hs2.run (StayM.word hT (k:=3) (by decide))
   rcases hq3:wordP T 3 s2 with ⟨w2,s3⟩
   rw [hq3] at hs3
   simp only at hs3
   simp only [go_sem,reduceIte,↓reduceIte,sevalprocAttr,Z0,Z1,bytesOf,qyk hn,qy0 hn,ryk hn,ry0 hn,qdk,qd0,List.length_replicate,List.length_set,hn,hn]
   refine acall_pure (iWant hT hTl [[61]] (by decide) hpK hs3 (by omega) (fun c=>by rw [qyk hn]; rfl)) ?_
   have hs4w:=hs3.step (stay_want hT [61])
   simp only [go_sem,reduceIte,↓reduceIte,sevalprocAttr,Z0,Z1,bytesOf,qyk hn,qy0 hn,ryk hn,ry0 hn,qdk,qd0,List.length_replicate,List.length_set,hn,hn,wants1]
   rcases hq5:ex (wantP T [61] s3) with ⟨⟨k5,n5,u5,t5,q5,l5,m5⟩,s5⟩
   have hs5:=hs4w.run sP
   rw [hq5] at hs5
   simp only at hs5
   rcases hq6:ex (wantP T [105,110] s5) with ⟨⟨k6,n6,u6,t6,q6,l6,m6⟩,s6⟩
   have hs5w:=hs5.step (stay_want hT [105,110])
   simp only [bindP_e,stepP_e,retP_e,hq2,hq3,hq5,hq6] at hF ⊢
   have hNN:nC (ExpD.tv (.mk 11 w1 0 w2 tp [.mk k5 n5 u5 t5 q5 l5 m5,.mk k6 n6 u6 t6 q6 l6 m6] []))=1+(nC (ExpD.tv (.mk k5 n5 u5 t5 q5 l5 m5))+nC (ExpD.tv (.mk k6 n6 u6 t6 q6 l6 m6))):=by rw [exp_nC]; simp [nK,nR]
   rw [hNN] at hF
   obtain ⟨H5,cs5,hn5,kp5,fr5,cl5,_,env5,call5⟩:=(hC p n (n+1)).use ExpD.wf hq5 hn hp hb hs4w hF (by omega)
   have hE5:=fun A'=>env5 [] [] [] A' (Env.nil _ _ _)
   obtain ⟨c5,b5,rfl⟩:=(hE5 []).expC rfl
   refine ⟨_,hxd hn _ _ _,?_⟩
   simp only [go_sem,reduceIte,↓reduceIte,sevalprocAttr,Z0,Z1,bytesOf,qyk hn,qy0 hn,ryk hn,ry0 hn,qdk,qd0,List.length_replicate,List.length_set,hn,hn]
   refine pre_clo rfl ?_
   refine pcall_chain _ _ (chl hn5 hn _ _ _) (hxd hn5 _ _ _) (chn call5 _ fun A'=>⟨hnp,hnp1,by rw [← hn,gx0]; rfl,by rw [← hn,gxk]; rfl⟩) ?_
   simp only [go_sem,reduceIte,↓reduceIte,sevalprocAttr,Z0,Z1,bytesOf,qyk hn5,qy0 hn5,ryk hn5,ry0 hn5,qdk,qd0,List.length_replicate,List.length_set,hn5,hn5,Nat.add_zero,Nat.add_assoc]
   have hpH5:p<H5.length:=by omega
   refine ⟨by intro r hr; simp at hr; subst hr; rfl,?_⟩
   refine acall_pure (iWant hT hTl [[105,110]] (by decide) hpH5 hs5 (by omega) (fun c=>by rw [qyk hn5]; rfl)) ?_
   simp only [go_sem,reduceIte,↓reduceIte,sevalprocAttr,Z0,Z1,bytesOf,qyk hn5,qy0 hn5,ryk hn5,ry0 hn5,qdk,qd0,List.length_replicate,List.length_set,hn5,hn5,wants1]
   obtain ⟨H6,cs6,hn6,kp6,fr6,cl6,_,env6,call6⟩:=(hC p n (n+1)).use ExpD.wf hq6 hn5 hp hb hs5w fr5 (by omega)
   have hE6:=fun A'=>env6 _ _ [] A' (Env.base (hE5 []) hn5 hp)
   obtain ⟨c6,b6,rfl⟩:=(hE6 []).expC rfl
   refine ⟨_,hxd hn5 _ _ _,?_⟩
   simp only [go_sem,reduceIte,↓reduceIte,sevalprocAttr,Z0,Z1,bytesOf,qyk hn5,qy0 hn5,ryk hn5,ry0 hn5,qdk,qd0,List.length_replicate,List.length_set,hn5,hn5]
   refine pre_clo rfl ?_
   refine pcall_chain _ _ (chl hn6 hn5 _ _ _) (hxd hn6 _ _ _) (chn call6 _ fun A'=>⟨hnp,hnp1,by rw [← hn5,gx0]; rfl,by rw [← hn5,gxk]; rfl⟩) ?_
   simp only [go_sem,reduceIte,↓reduceIte,sevalprocAttr,Z0,Z1,bytesOf,qyk hn6,qy0 hn6,ryk hn6,ry0 hn6,qdk,qd0,List.length_replicate,List.length_set,hn6,hn6,Nat.add_zero,Nat.add_assoc]
   have hpH6:p<H6.length:=by omega
   refine ⟨by intro r hr; simp at hr; subst hr; rfl,?_⟩
   exact ⟨_,H6,_,_,rfl,rfl,kp5.trans kp6,exp_node (rows2 (u:=n) (hE6 _) rfl rfl (by rw [qyk hn6]; rfl) (Nat.le_refl _) hb)⟩
 rw [iteG_f c1] at hF ⊢
 simp only [go_sem,reduceIte,↓reduceIte,sevalprocAttr,Z0,Z1,bytesOf,qyk hn,qy0 hn,ryk hn,ry0 hn,qdk,qd0,List.length_replicate,List.length_set,hn,hn,c1]
 refine acall_pure (iTake hTl [102,117,110] K _ p s1 hpK hs1) ?_
 unfold takeM
 cases c2:isT T [102,117,110] s1
 rotate_left
 ·rw [iteG_t c2] at hF ⊢
  have hsa:=hs1.adv hT (isT_k c2).2
  unfold funP at hF ⊢
  simp only [go_sem,reduceIte,↓reduceIte,sevalprocAttr,Z0,Z1,bytesOf,qyk hn,qy0 hn,ryk hn,ry0 hn,qdk,qd0,List.length_replicate,List.length_set,hn,hn,c2]
  refine ⟨_,hxd hn _ _ _,?_⟩
  simp only [go_sem,reduceIte,↓reduceIte,sevalprocAttr,Z0,Z1,bytesOf,qyk hn,qy0 hn,ryk hn,ry0 hn,qdk,qd0,List.length_replicate,List.length_set,hn,hn]
  refine pcall_chain _ _ (by simp) (hxd hn _ _ _) ((iWord hTl 3).chain hpK hsa) ?_
  have hs2:=hsa.run (StayM.word hT (k:=3) (by decide))
  rcases hq2:wordP T 3 (adv s1) with ⟨w1,s2⟩
  rw [hq2] at hs2
  simp only at hs2
  simp only [go_sem,reduceIte,↓reduceIte,sevalprocAttr,Z0,Z1,bytesOf,qyk hn,qy0 hn,ryk hn,ry0 hn,qdk,qd0,List.length_replicate,List.length_set,hn,hn,Nat.add_zero,Nat.add_assoc]
  refine acall_pure (iWant hT hTl [[45,62]] (by decide) hpK hs2 (by omega) (fun c=>by rw [qyk hn]; rfl)) ?_
  have hs3w:=hs2.step (stay_want hT [45,62])
  simp only [go_sem,reduceIte,↓reduceIte,sevalprocAttr,Z0,Z1,bytesOf,qyk hn,qy0 hn,ryk hn,ry0 hn,qdk,qd0,List.length_replicate,List.length_set,hn,hn,wants1]
  rcases hq4:ex (wantP T [45,62] s2) with ⟨⟨k4,n4,u4,t4,q4,l4,m4⟩,s4⟩
  simp only [bindP_e,stepP_e,retP_e,hq2,hq4,node1] at hF ⊢
  have hNN:nC (ExpD.tv (.mk 8 w1 0 [] tp [.mk k4 n4 u4 t4 q4 l4 m4] []))=1+nC (ExpD.tv (.mk k4 n4 u4 t4 q4 l4 m4)):=by rw [exp_nC]; simp [nK,nR]
  rw [hNN] at hF
  obtain ⟨H4,cs4,hn4,kp4,fr4,cl4,_,env4,call4⟩:=(hC p n (n+1)).use ExpD.wf hq4 hn hp hb hs3w hF (by omega)
  have hE4:=fun A'=>env4 [] [] [] A' (Env.nil _ _ _)
  obtain ⟨c4,b4,rfl⟩:=(hE4 []).expC rfl
  refine acall_pure (call4 _ ⟨hnp,hnp1,by rw [← hn,gx0]; rfl,by rw [← hn,gxk]; rfl⟩) ?_
  simp only [go_sem,reduceIte,↓reduceIte,sevalprocAttr,Z0,Z1,bytesOf,qyk hn4,qy0 hn4,ryk hn4,ry0 hn4,qdk,qd0,List.length_replicate,List.length_set,hn4,hn4,Nat.add_zero,Nat.add_assoc]
  have hpH4:p<H4.length:=by omega
  exact ⟨_,H4,_,_,rfl,rfl,kp4,exp_node ((hE4 _).node1 (by rw [qyk hn4]; rfl) (by omega) (by omega) (ExpD.tv_len _))⟩
 rw [iteG_f c2] at hF ⊢
 simp only [go_sem,reduceIte,↓reduceIte,sevalprocAttr,Z0,Z1,bytesOf,qyk hn,qy0 hn,ryk hn,ry0 hn,qdk,qd0,List.length_replicate,List.length_set,hn,hn,c2]
 refine acall_pure (iTake hTl [105,102] K _ p s1 hpK hs1) ?_
 unfold takeM
 cases c3:isT T [105,102] s1
 rotate_left
 ·rw [iteG_t c3] at hF ⊢
  have hsa:=hs1.adv hT (isT_k c3).2
  unfold ifP at hF ⊢
  simp only [go_sem,reduceIte,↓reduceIte,sevalprocAttr,Z0,Z1,bytesOf,qyk hn,qy0 hn,ryk hn,ry0 hn,qdk,qd0,List.length_replicate,List.length_set,hn,hn,c3]
  rcases hq2:ex (adv s1) with ⟨⟨k2,n2,u2,t2,q2,l2,m2⟩,s2⟩
  have hs2:=hsa.run sP
  rw [hq2] at hs2
  simp only at hs2
  have hs2w:=hs2.step (stay_want hT [116,104,101,110])
  rcases hq4:ex (wantP T [116,104,101,110] s2) with ⟨⟨k4,n4,u4,t4,q4,l4,m4⟩,s4⟩
  have hs4:=hs2w.run sP
  rw [hq4] at hs4
  simp only at hs4
  have hs4w:=hs4.step (stay_want hT [101,108,115,101])
  rcases hq6:ex (wantP T [101,108,115,101] s4) with ⟨⟨k6,n6,u6,t6,q6,l6,m6⟩,s6⟩
  simp only [bindP_e,stepP_e,retP_e,hq2,hq4,hq6] at hF ⊢
  have hNN:nC (ExpD.tv (.mk 12 [] 0 [] tp [.mk k2 n2 u2 t2 q2 l2 m2,.mk k4 n4 u4 t4 q4 l4 m4,.mk k6 n6 u6 t6 q6 l6 m6] []))=1+(nC (ExpD.tv (.mk k2 n2 u2 t2 q2 l2 m2))+(nC (ExpD.tv (.mk k4 n4 u4 t4 q4 l4 m4))+nC (ExpD.tv (.mk k6 n6 u6 t6 q6 l6 m6)))):=by rw [exp_nC]; simp [nK,nR]
  rw [hNN] at hF
  obtain ⟨H2,cs2,hn2,kp2,fr2,cl2,_,env2,call2⟩:=(hC p n (n+1)).use ExpD.wf hq2 hn hp hb hsa hF (by omega)
  have hE2:=fun A'=>env2 [] [] [] A' (Env.nil _ _ _)
  obtain ⟨c2,b2,rfl⟩:=(hE2 []).expC rfl
  refine ⟨_,hxd hn _ _ _,?_⟩
  simp only [go_sem,reduceIte,↓reduceIte,sevalprocAttr,Z0,Z1,bytesOf,qyk hn,qy0 hn,ryk hn,ry0 hn,qdk,qd0,List.length_replicate,List.length_set,hn,hn]
  refine pre_clo rfl ?_
  refine pcall_chain _ _ (chl hn2 hn _ _ _) (hxd hn2 _ _ _) (chn call2 _ fun A'=>⟨hnp,hnp1,by rw [← hn,gx0]; rfl,by rw [← hn,gxk]; rfl⟩) ?_
  simp only [go_sem,reduceIte,↓reduceIte,sevalprocAttr,Z0,Z1,bytesOf,qyk hn2,qy0 hn2,ryk hn2,ry0 hn2,qdk,qd0,List.length_replicate,List.length_set,hn2,hn2,Nat.add_zero,Nat.add_assoc]
  have hpH2:p<H2.length:=by omega
  refine acall_pure (iWant hT hTl [[116,104,101,110]] (by decide) hpH2 hs2 (by omega) (fun c=>by rw [qyk hn2]; rfl)) ?_
  simp only [go_sem,reduceIte,↓reduceIte,sevalprocAttr,Z0,Z1,bytesOf,qyk hn2,qy0 hn2,ryk hn2,ry0 hn2,qdk,qd0,List.length_replicate,List.length_set,hn2,hn2,wants1]
  obtain ⟨H4,cs4,hn4,kp4,fr4,cl4,_,env4,call4⟩:=(hC p n (n+1)).use ExpD.wf hq4 hn2 hp hb hs2w fr2 (by omega)
  have hE4:=fun A'=>env4 _ _ [] A' (Env.base (hE2 []) hn2 hp)
  obtain ⟨c4,b4,rfl⟩:=(hE4 []).expC rfl
  refine ⟨_,hxd hn2 _ _ _,?_⟩
  simp only [go_sem,reduceIte,↓reduceIte,sevalprocAttr,Z0,Z1,bytesOf,qyk hn2,qy0 hn2,ryk hn2,ry0 hn2,qdk,qd0,List.length_replicate,List.length_set,hn2,hn2]
  refine pre_clo rfl ?_
  refine pcall_chain _ _ (chl hn4 hn2 _ _ _) (hxd hn4 _ _ _) (chn call4 _ fun A'=>⟨hnp,hnp1,by rw [← hn2,gx0]; rfl,by rw [← hn2,gxk]; rfl⟩) ?_
  simp only [go_sem,reduceIte,↓reduceIte,sevalprocAttr,Z0,Z1,bytesOf,qyk hn4,qy0 hn4,ryk hn4,ry0 hn4,qdk,qd0,List.length_replicate,List.length_set,hn4,hn4,Nat.add_zero,Nat.add_assoc]
  have hpH4:p<H4.length:=by omega
  refine ⟨by intro r hr; simp at hr; subst hr; rfl,?_⟩
  refine acall_pure (iWant hT hTl [[101,108,115,101]] (by decide) hpH4 hs4 (by omega) (fun c=>by rw [qyk hn4]; rfl)) ?_
  simp only [go_sem,reduceIte,↓reduceIte,sevalprocAttr,Z0,Z1,bytesOf,qyk hn4,qy0 hn4,ryk hn4,ry0 hn4,qdk,qd0,List.length_replicate,List.length_set,hn4,hn4,wants1]
  obtain ⟨H6,cs6,hn6,kp6,fr6,cl6,_,env6,call6⟩:=(hC p n (n+1)).use ExpD.wf hq6 hn4 hp hb hs4w fr4 (by omega)
  have hE6:=fun A'=>env6 _ _ [] A' (Env.base (hE4 []) hn4 hp)
  obtain ⟨c6,b6,rfl⟩:=(hE6 []).expC rfl
  refine ⟨_,hxd hn4 _ _ _,?_⟩
  simp only [go_sem,reduceIte,↓reduceIte,sevalprocAttr,Z0,Z1,bytesOf,qyk hn4,qy0 hn4,ryk hn4,ry0 hn4,qdk,qd0,List.length_replicate,List.length_set,hn4,hn4]
  refine pre_clo rfl ?_
  refine pcall_chain _ _ (chl hn6 hn4 _ _ _) (hxd hn6 _ _ _) (chn call6 _ fun A'=>⟨hnp,hnp1,by rw [← hn4,gx0]; rfl,by rw [← hn4,gxk]; rfl⟩) ?_
  simp only [go_sem,reduceIte,↓reduceIte,sevalprocAttr,Z0,Z1,bytesOf,qyk hn6,qy0 hn6,ryk hn6,ry0 hn6,qdk,qd0,List.length_replicate,List.length_set,hn6,hn6,Nat.add_zero,Nat.add_assoc]
  have hpH6:p<H6.length:=by omega
  refine ⟨by intro r hr; simp at hr; subst hr; rfl,?_⟩
  exact ⟨_,H6,_,_,rfl,rfl,(kp2.trans kp4).trans kp6,exp_node (rows3 (u:=n) (hE6 _) rfl rfl rfl (by rw [qyk hn6]; rfl) (Nat.le_refl _) hb)⟩
 rw [iteG_f c3] at hF ⊢
 simp only [go_sem,reduceIte,↓reduceIte,sevalprocAttr,Z0,Z1,bytesOf,qyk hn,qy0 hn,ryk hn,ry0 hn,qdk,qd0,List.length_replicate,List.length_set,hn,hn,c3]
 refine acall_pure (iTake hTl [109,97,116,99,104] K _ p s1 hpK hs1) ?_
 unfold takeM
 cases c4:isT T [109,97,116,99,104] s1
 ·rw [iteG_f c4] at hF ⊢
  simp only [go_sem,reduceIte,↓reduceIte,sevalprocAttr,Z0,Z1,bytesOf,qyk hn,qy0 hn,ryk hn,ry0 hn,qdk,qd0,List.length_replicate,List.length_set,hn,hn,c4]
  rcases hq:iOnce0 T T.length ex s1 with ⟨⟨k1,n1,u1,t1,q1,l1,m1⟩,s2⟩
  rw [hq] at hF
  obtain ⟨H1,cs1,hn1,kp1,fr1,cl1,_,env1,call1⟩:=(hO p).use ExpD.wf hq hn hp hb hs1 hF (Nat.le_refl _)
  refine acall_pure (call1 _ trivial) ?_
  have hE1:=fun A A'=>env1 [] [] A A' (Env.nil _ _ _)
  obtain ⟨c1,b1,rfl⟩:=(hE1 [] []).expC rfl
  simp only [go_sem,reduceIte,↓reduceIte,sevalprocAttr,Z0,Z1,bytesOf,qyk hn1,qy0 hn1,ryk hn1,ry0 hn1,qdk,qd0,List.length_replicate,List.length_set,hn1,hn1]
  exact ⟨_,H1,_,n,rfl,rfl,kp1,hE1 [] _⟩
 ·rw [iteG_t c4] at hF ⊢
  have hsa:=hs1.adv hT (isT_k c4).2
  unfold iMatch at hF ⊢
  simp only [go_sem,reduceIte,↓reduceIte,sevalprocAttr,Z0,Z1,bytesOf,qyk hn,qy0 hn,ryk hn,ry0 hn,qdk,qd0,List.length_replicate,List.length_set,hn,hn,c4]
  have sArm:=Pg.stay_armP hT sPat sP
  rcases hq2:ex (adv s1) with ⟨⟨k2,n2,u2,t2,q2,l2,m2⟩,s2⟩
  have hs2:=hsa.run sP
  rw [hq2] at hs2
  simp only at hs2
  have hs4:=(hs2.step (stay_want hT [119,105,116,104])).step (stay_want hT [124])
  simp only [bindP_e,stepP_e,retP_e,hq2] at hF ⊢
  generalize hs4e:wantP T [124] (wantP T [119,105,116,104] s2)=s4 at *
  have hge:nC (ExpD.tv (.mk k2 n2 u2 t2 q2 l2 m2))≤nC (ExpD.tv (.mk 13 [] 0 [] tp [.mk k2 n2 u2 t2 q2 l2 m2] (iteB (fun s=>decide (s.c=0)) (armsP T T.length (armP T pat ex)) (retP []) s4).1)):=by rw [exp_nC 13,List.map_cons,nK]; omega
  obtain ⟨H1,cs1,hn1,kp1,fr1,cl1,_,env1,call1⟩:=(hC p n (n+1)).use ExpD.wf hq2 hn hp hb hsa hF hge
  have hE1:=fun A'=>env1 [] [] [] A' (Env.nil _ _ _)
  obtain ⟨c1,b1,rfl⟩:=(hE1 []).expC rfl
  refine ⟨_,hxd hn _ _ _,?_⟩
  simp only [go_sem,reduceIte,↓reduceIte,sevalprocAttr,Z0,Z1,bytesOf,qyk hn,qy0 hn,ryk hn,ry0 hn,qdk,qd0,List.length_replicate,List.length_set,hn,hn]
  refine pre_clo rfl ?_
  refine pcall_chain _ _ (chl hn1 hn _ _ _) (hxd hn1 _ _ _) (chn call1 _ fun A'=>⟨hnp,hnp1,by rw [← hn,gx0]; rfl,by rw [← hn,gxk]; rfl⟩) ?_
  have hp1:p<H1.length:=by omega
  simp only [go_sem,reduceIte,↓reduceIte,sevalprocAttr,Z0,Z1,bytesOf,qyk hn1,qy0 hn1,ryk hn1,ry0 hn1,qdk,qd0,List.length_replicate,List.length_set,hn1,hn1,Nat.add_zero,Nat.add_assoc]
  refine acall_pure (iWant hT hTl [[119,105,116,104],[124]] (by decide) hp1 hs2 (by omega) (fun c=>by rw [qyk hn1]; rfl)) ?_
  simp only [go_sem,reduceIte,↓reduceIte,sevalprocAttr,Z0,Z1,bytesOf,qyk hn1,qy0 hn1,ryk hn1,ry0 hn1,qdk,qd0,List.length_replicate,List.length_set,hn1,hn1,wants2,hs4e]
  by_cases hc4:s4.c=0
  ·rw [iteB_t (by simp [hc4])] at fr1 ⊢
   rcases hR:armsP T T.length (armP T pat ex) s4 with ⟨Rl,Rs⟩
   have hRl:Rl≠[]:=by have:=congrArg Prod.fst hR; rintro rfl; cases this
   rw [hR] at fr1
   have hNN:nC (ExpD.tv (.mk 13 [] 0 [] tp [.mk k2 n2 u2 t2 q2 l2 m2] Rl)) - nC (ExpD.tv (.mk k2 n2 u2 t2 q2 l2 m2))=1+nK (Rl.map ArmD.tv):=by rw [exp_nC 13,List.map_cons,nK]; simp [nR]; omega
   rw [hNN] at fr1
   generalize hA5:([.var [.ptr p 0],.var [iV d],.var [iV 0,sV [],iV 0,sV [],iV 0,.p .nl,.p .nl],.var [iV tk,sV tt,iV tn,iV tp],.rows 7 0 [[iV k2,sV n2,iV u2,sV t2,iV q2,c1,b1]]]:List AO)=A5
   have y0:A5[0]?=some (.var [.ptr p 0]):=by subst hA5; rfl
   have y1:A5[1]?=some (.var [iV d]):=by subst hA5; rfl
   have y2:A5[2]?=some (.var [iV 0,sV [],iV 0,sV [],iV 0,.p .nl,.p .nl]):=by subst hA5; rfl
   have y4:A5[4]?=some (.rows 7 0 [[iV k2,sV n2,iV u2,sV t2,iV q2,c1,b1]]):=by subst hA5; rfl
   have y5:A5.length=5:=by subst hA5; rfl
   refine ⟨LG ArmD,[2,3,4,6,10],fun x st=>(LA (pvI T most) T e b n p K [0,1,2,3,4,5] (ExpD.tv (.mk k2 n2 u2 t2 q2 l2 m2)) [iV k2,sV n2,iV u2,sV t2,iV q2,c1,b1] (armP T pat ex) Rl Rs x∧(∀ (i:Nat) o,i<5→A5[i]?=some o→x.A[i]?=some o)∧x.A[5]?=some (.var [iV 13,sV [],iV 0,sV [],iV tp,.gs (n+4) 0 0 1,x.a]))∧st=⟨[(2,.ptr n 0),(3,.ptr (n+1) 0),(4,.ptr (n+2) 0),(6,.clo 58 [.ptr n 0,.ptr (n+1) 0]),(10,.ptr (n+5) 0)],[],x.H.set p (pvI T most x.s)++x.A⟩,fun x=>T.length - x.s.i,
    ⟨⟨T.length,s4,[],[],.p .nl,H1,A5++[.var [iV 13,sV [],iV 0,sV [],iV tp,.gs (n+4) 0 0 1,.p .nl],.rows 1 0 [[sV [119,105,116,104]],[sV [124]]]]⟩,?_⟩,?_⟩
   ·exact ⟨⟨LA.start hs4 hc4 hR hn1 kp1 fr1 (by have:=nK_le (Rl.map ArmD.tv); omega) (Env.base (hE1 []) hn1 hp) (by intro k hk; simp at hk ⊢; omega),fun i o hi ho=>get_ext ho _,by rw [show (5:Nat)=A5.length from y5.symm,gx0]; rfl⟩,by subst hA5; rfl⟩
   ·rintro x _ ⟨⟨hL,hI,i5⟩,rfl⟩
    have hpx:p<x.H.length:=by rw [hL.hn]; omega
    have i0:=hI 0 _ (by decide) y0
    have i1:=hI 1 _ (by decide) y1
    have i2:=hI 2 _ (by decide) y2
    have i4:=hI 4 _ (by decide) y4
    simp only [go_sem,reduceIte,↓reduceIte,sevalprocAttr,Z0,Z1,bytesOf,qyk hL.hn,qy0 hL.hn,ryk hL.hn,ry0 hL.hn,qdk,qd0,List.length_replicate,List.length_set,hL.hn,hL.hn,i0]
    refine acall_pure (iFailed x.H _ p x.s hpx hL.ok) ?_
    simp only [go_sem,reduceIte,↓reduceIte,sevalprocAttr,Z0,Z1,bytesOf,qyk hL.hn,qy0 hL.hn,ryk hL.hn,ry0 hL.hn,qdk,qd0,List.length_replicate,List.length_set,hL.hn,hL.hn,i0,i1,hd1,dT hL.c0,Bool.not_true,Bool.not_false]
    rcases hq7:pat x.s with ⟨⟨k7,n7,u7,q7,l7⟩,s7⟩
    have hs7:=hL.ok.run sPat
    rw [hq7] at hs7
    simp only at hs7
    have hs7w:=hs7.step (stay_want hT [45,62])
    rcases hq8:ex (wantP T [45,62] s7) with ⟨⟨k8,n8,u8,t8,q8,l8,m8⟩,s8⟩
    have hs8:=hs7w.run sP
    rw [hq8] at hs8
    simp only at hs8
    have hm:armP T pat ex x.s=(.mk (.mk k7 n7 u7 q7 l7) (.mk k8 n8 u8 t8 q8 l8 m8),s8):=by unfold armP; rw [bindP_e,hq7,stepP_e,bindP_e,hq8]; rfl
    have hge8:x.s.i≤s8.i:=by have:=(sArm x.s hL.ok.1).1; rw [hm] at this; exact this
    obtain ⟨M,frM,hM⟩:=hL.room hm
    have hnA:nC (ArmD.tv (.mk (.mk k7 n7 u7 q7 l7) (.mk k8 n8 u8 t8 q8 l8 m8)))=nC (PatD.tv (.mk k7 n7 u7 q7 l7))+nC (ExpD.tv (.mk k8 n8 u8 t8 q8 l8 m8)):=by rw [ArmD.tv,nC_app]
    rw [hnA] at hM
    obtain ⟨H7,cs7,hn7,kp7,fr7,cl7,_,env7,call7⟩:=(hPat p).use PatD.wf hq7 hL.hn hp hb hL.ok frM (by omega)
    have hE7:=fun A'=>env7 _ _ x.A A' hL.env
    obtain ⟨c7,rfl⟩:=(hE7 []).patC hL.env.len
    refine acall_pure (call7 _ trivial) ?_
    have hp7:p<H7.length:=by omega
    simp only [go_sem,reduceIte,↓reduceIte,sevalprocAttr,Z0,Z1,bytesOf,qyk hn7,qy0 hn7,ryk hn7,ry0 hn7,qdk,qd0,List.length_replicate,List.length_set,hn7,hn7,gx0,gxk,sx0,sxk,Nat.add_zero,get_ext i0 _]
    refine acall_pure (iWant hT hTl [[45,62]] (by decide) hp7 hs7 (by omega) (fun c=>by rw [qyk hn7,gxk]; rfl)) ?_
    simp only [go_sem,reduceIte,↓reduceIte,sevalprocAttr,Z0,Z1,bytesOf,qyk hn7,qy0 hn7,ryk hn7,ry0 hn7,qdk,qd0,List.length_replicate,List.length_set,hn7,hn7,wants1]
    obtain ⟨H8,cs8,hn8,kp8,fr8,cl8,_,env8,call8⟩:=(hC p n (n+1)).use ExpD.wf hq8 hn7 hp hb hs7w fr7 (by omega)
    have hE8:=fun A'=>env8 _ _ [] A' (Env.base (hE7 []) hn7 hp)
    obtain ⟨c8,b8,rfl⟩:=(hE8 []).expC (hE7 []).len
    refine acall_pure (call8 _ ⟨hnp,hnp1,by rw [← hn7,gx0]; exact get_ext i0 _,by rw [← hn7,gxk]; exact get_ext i1 _⟩) ?_
    have hp8:p<H8.length:=by omega
    simp only [go_sem,reduceIte,↓reduceIte,sevalprocAttr,Z0,Z1,bytesOf,qyk hn8,qy0 hn8,ryk hn8,ry0 hn8,qdk,qd0,List.length_replicate,List.length_set,hn8,hn8,gx0,gxk,sx0,sxk,Nat.add_zero,get_ext i5 _]
    refine ⟨by intro r hr; simp at hr; subst hr; rfl,?_⟩
    refine app_o hL.hn hn8 hL.own hL.ids hL.nm (by rw [hL.len]; have:=hL.ln; have:=hL.ok.1; omega) (fun k o h=>get_ext h _) (by decide) ?_
    intro id ver A' w1 w2 w3
    have j0:=(w3 0 (by decide)).trans i0
    have j2:=(w3 2 (by decide)).trans i2
    have j4:=(w3 4 (by decide)).trans i4
    have j5:=(w3 5 (by decide)).trans i5
    have hz:∀ o,(A'.set 5 o)[5]?=some o:=fun o=>set_get j5
    have hz0:∀ o,(A'.set 5 o)[0]?=some (.var [.ptr p 0]):=fun o=>get_set j0 (by decide)
    simp only [go_sem,reduceIte,↓reduceIte,sevalprocAttr,Z0,Z1,bytesOf,qyk hn8,qy0 hn8,ryk hn8,ry0 hn8,qdk,qd0,List.length_replicate,List.length_set,hn8,hn8,j5,hz0]
    have hz2:∀ o,(A'.set 5 o)[2]?=some (.var [iV 0,sV [],iV 0,sV [],iV 0,.p .nl,.p .nl]):=fun o=>get_set j2 (by decide)
    have hz4:∀ o,(A'.set 5 o)[4]?=some (.rows 7 0 [[iV k2,sV n2,iV u2,sV t2,iV q2,c1,b1]]):=fun o=>get_set j4 (by decide)
    refine acall_pure (iTake hTl [124] H8 _ p s8 hp8 hs8) ?_
    unfold takeM
    cases hg:isT T [124] s8
    ·obtain ⟨ha,hx⟩:=hL.stop hm hg
     subst hx
     simp only [go_sem,reduceIte,↓reduceIte,sevalprocAttr,Z0,Z1,bytesOf,qyk hn8,qy0 hn8,ryk hn8,ry0 hn8,qdk,qd0,List.length_replicate,List.length_set,hn8,hn8,hg,hz0,Bool.not_true,Bool.not_false]
     refine acall_pure (iWant hT hTl [[101,110,100]] (by decide) hp8 hs8 (by omega) (fun c=>by rw [qyk hn8,gxs0]; rfl)) ?_
     have hg5:∀ o B,((A'.set 5 o)++B)[5]?=some o:=fun o B=>get_ext (hz o) B
     have hg2:∀ o B,((A'.set 5 o)++B)[2]?=some (.var [iV 0,sV [],iV 0,sV [],iV 0,.p .nl,.p .nl]):=fun o B=>get_ext (hz2 o) B
     have hgs:∀ o B o',(((A'.set 5 o)++B).set 2 o')[2]?=some o':=fun o B o'=>set_get (hg2 o B)
     simp only [go_sem,reduceIte,↓reduceIte,sevalprocAttr,Z0,Z1,bytesOf,qyk hn8,qy0 hn8,ryk hn8,ry0 hn8,qdk,qd0,List.length_replicate,List.length_set,hn8,hn8,wants1,hg5,hg2,hgs]
     have hidn:id≠n+4:=by
      have h1:=w2.1
      rintro rfl
      have h2:=w2.2
      rw [Nat.add_sub_cancel_left] at h2
      exact h2 (by decide)
     have hEE:∀ A',Env b n (H8.set p (pvI T most (wantP T [101,110,100] s8))++A') ([ExpD.tv (.mk k2 n2 u2 t2 q2 l2 m2)].flatten++(Rl.map ArmD.tv).flatten) ([[iV k2,sV n2,iV u2,sV t2,iV q2,c1,b1]].flatten++(x.rs++[[iV k7,sV n7,iV u7,iV q7,c7,iV k8,sV n8,iV u8,sV t8,iV q8,c8,b8]]).flatten):=fun A'=>by
      have:=Env.base (A':=A') (c':=pvI T most (wantP T [101,110,100] s8)) (hE8 []) hn8 hp
      rw [← ha]
      simpa [ArmD.tv,List.append_assoc] using this
     have hfin:=Env.node2 (id1:=n+4) (id2:=id) (sz1:=7) (sz2:=12) (v1:=0) (v2:=ver) (hEE (((A'.set 5 (.var [iV 13,sV [],iV 0,sV [],iV tp,.gs (n+4) 0 0 1,.gs id ver 0 (x.rs.length+1)]))++[AO.rows 1 0 [[sV [101,110,100]]]]).set 2 (.var [iV 13,sV [],iV 0,sV [],iV tp,.gs (n+4) 0 0 1,.gs id ver 0 (x.rs.length+1)])))
      (by rw [qyk hn8,List.getElem?_set_ne (by decide)]; exact get_ext (hz4 _) _)
      (hL.own1 hn8 w1 w2 (fun k o hk ho=>by
       simp at hk
       rw [List.getElem?_set_ne (by omega)]
       exact get_ext (get_set ho (by omega)) _) _) (by omega) w2.1 hb (Ne.symm hidn) rfl (by intro r hr; simp at hr; subst hr; exact ExpD.tv_len _) (by intro r hr; simp at hr; subst hr; rfl) (by simp)
      (by rw [← ha]; simp [hL.len]) (by intro r hr; obtain ⟨a,_,rfl⟩:=List.mem_map.1 hr; exact ArmD.tv_len a) (by intro r hr; rcases List.mem_append.1 hr with hr | hr; exact hL.sz1 r hr; simp at hr; subst hr; rfl) (by rw [← ha]; simp)
     have e9:(x.rs++[[iV k7,sV n7,iV u7,iV q7,c7,iV k8,sV n8,iV u8,sV t8,iV q8,c8,b8]]).length=x.rs.length+1:=by simp
     rw [e9] at hfin
     exact ⟨_,H8,_,_,rfl,rfl,(hL.kp.trans kp7).trans kp8,exp_nodeA (l:=[.mk k2 n2 u2 t2 q2 l2 m2]) hfin⟩
    ·simp only [go_sem,reduceIte,↓reduceIte,sevalprocAttr,Z0,Z1,bytesOf,qyk hn8,qy0 hn8,ryk hn8,ry0 hn8,qdk,qd0,List.length_replicate,List.length_set,hn8,hn8,hg,Bool.not_true,Bool.not_false]
     exact ⟨⟨x.j - 1,adv s8,x.acc++[.mk (.mk k7 n7 u7 q7 l7) (.mk k8 n8 u8 t8 q8 l8 m8)],x.rs++[[iV k7,sV n7,iV u7,iV q7,c7,iV k8,sV n8,iV u8,sV t8,iV q8,c8,b8]],.gs id ver 0 (x.rs.length+1),H8,A'.set 5 (.var [iV 13,sV [],iV 0,sV [],iV tp,.gs (n+4) 0 0 1,.gs id ver 0 (x.rs.length+1)])⟩,
      ⟨⟨hL.next hT hm hs8 hge8 hg hn8 (kp7.trans kp8) fr8 (by omega) (by
       have:=Env.base (A':=A'.set 5 (.var [iV 13,sV [],iV 0,sV [],iV tp,.gs (n+4) 0 0 1,.gs id ver 0 (x.rs.length+1)])) (c':=pvI T most (adv s8)) (hE8 []) hn8 hp
       simpa [ArmD.tv,List.append_assoc] using this) rfl w1 w2 (set_keep (by decide)) (fun k hk=>by
        have h1:=hL.nm k hk
        rw [List.length_set]
        exact get_lt ((w3 k hk).trans (List.getElem?_eq_getElem h1))),fun i o hi ho=>get_set ((w3 i (by simp; omega)).trans (hI i o hi ho)) (by omega),hz _⟩,rfl⟩,by have h1:=isT_k hg; have h2:=hs8.1; have h3:=hL.ok.1; show T.length - (s8.i+1)<T.length - x.s.i; omega⟩
  ·rw [iteB_f (by simp [hc4])] at fr1 ⊢
   refine ⟨Unit,[2,4,10],fun _ st=>st=⟨[(2,.ptr n 0),(4,.ptr (n+2) 0),(10,.ptr (n+5) 0)],[],H1.set p (pvI T most s4)++[.var [.ptr p 0],.var [iV d],.var [iV 0,sV [],iV 0,sV [],iV 0,.p .nl,.p .nl],.var [iV tk,sV tt,iV tn,iV tp],.rows 7 0 [[iV k2,sV n2,iV u2,sV t2,iV q2,c1,b1]],.var [iV 13,sV [],iV 0,sV [],iV tp,.gs (n+4) 0 0 1,.p .nl],.rows 1 0 [[sV [119,105,116,104]],[sV [124]]]]⟩,fun _=>0,⟨(),?_⟩,?_⟩
   ·simp only [go_sem,reduceIte,↓reduceIte,sevalprocAttr,Z0,Z1,bytesOf,qyk hn1,qy0 hn1,ryk hn1,ry0 hn1,qdk,qd0,List.length_replicate,List.length_set,hn1,hn1]
   ·rintro _ _ rfl
    simp only [go_sem,reduceIte,↓reduceIte,sevalprocAttr,Z0,Z1,bytesOf,qyk hn1,qy0 hn1,ryk hn1,ry0 hn1,qdk,qd0,List.length_replicate,List.length_set,hn1,hn1]
    refine acall_pure (iFailed H1 _ p s4 hp1 hs4) ?_
    simp only [go_sem,reduceIte,↓reduceIte,sevalprocAttr,Z0,Z1,bytesOf,qyk hn1,qy0 hn1,ryk hn1,ry0 hn1,qdk,qd0,List.length_replicate,List.length_set,hn1,hn1,dF hc4,Bool.not_true,Bool.not_false]
    refine acall_pure (iWant hT hTl [[101,110,100]] (by decide) hp1 hs4 (by omega) (fun c=>by rw [qyk hn1]; rfl)) ?_
    simp only [go_sem,reduceIte,↓reduceIte,sevalprocAttr,Z0,Z1,bytesOf,qyk hn1,qy0 hn1,ryk hn1,ry0 hn1,qdk,qd0,List.length_replicate,List.length_set,hn1,hn1,wants1]
    exact ⟨_,H1,_,_,rfl,rfl,kp1,exp_node ((Env.base (hE1 []) hn1 hp).node1 (by rw [qyk hn1]; rfl) (by omega) (by omega) (ExpD.tv_len _))⟩
theorem iExpK:∀ k d,d+k=most+2→most≤1099511627774→0<k→PFo T most e 29 [iV d] (iExp T T.length most k d) ExpD.tv
 | 0,d,_,_,h=>absurd h (by omega)
 | k+1,d,h,hm,_=>iExpC hT hTl (by omega) (fun hle=>iPatK hT hTl k (d+1) (by omega) hm (by omega)) (stay_iPat hT most k (d+1)) (fun hle=>iExpK k (d+1) (by omega) hm (by omega)) (stay_iExp hT most k (d+1))
end
end Go.Proofs.YtghcmccjchdgeaaGreatDoor.Qp
/- Both ParseExp. -/
set_option linter.all false
namespace Go.Proofs.YtghcmccjchdgeaaGreatDoor.Qp
open Go.AM Mc Pg
theorem tokD_ne {s:List UInt8} {i:Nat} {c:UInt8} {k:Int} (ht:tokD s i c=.inr k):k≠0:=by
 unfold tokD at ht
 split at ht
 ·simp only [numD] at ht
  split at ht
  ·cases ht; decide
  ·cases ht
 split at ht
 ·unfold wordD wordF at ht
  generalize (if (c.toNat:Int)=39 then i+1 else i)=f at ht
  by_cases h12:12<runAt isNm s f - f
  ·rw [if_pos h12] at ht; cases ht; decide
  ·rw [if_neg h12] at ht; cases ht
 split at ht
 ·simp only [strD] at ht
  split at ht
  ·cases ht
  ·cases ht; decide
 ·simp only [signD] at ht
  split at ht
  ·cases ht; decide
  ·cases ht
theorem lexGo_ne {s : List UInt8} {most : Nat} {c : Int} {q : Nat} : ∀ (n i : Nat) (out : List Tok), s.length - i ≤ n → lexGo s most i out = .inr (c, q) → c ≠ 0 := by
  intro n
  induction n with
  | zero =>
    intro i out hn h
    rw [lexGo_end (by omega)] at h; cases h
  | succ n ih =>
    intro i out hn h
    by_cases hi : i < s.length
    · cases hb : Pg.blank s[i] with
      | true =>
        rw [lexGo_blank hi hb] at h
        exact ih _ _ (by omega) h
      | false =>
        by_cases hc : (s[i].toNat : Int) = 35
        · rw [lexGo_hash hi hb hc] at h
          have hg := nl_hash hi hc
          exact ih _ _ (by omega) h
        · rcases ht : tokD s i s[i] with ⟨t, e⟩ | c'
          · by_cases hm : out.length = most
            · rw [lexGo_most hi hb hc ht hm] at h; cases h; decide
            · rw [lexGo_tok hi hb hc ht hm] at h
              have hg := tokD_gt hi ht
              exact ih _ _ (by omega) h
          · rw [lexGo_err hi hb hc ht] at h; cases h; exact tokD_ne ht
    · rw [lexGo_end hi] at h; cases h
theorem lexD_ne {s:List UInt8} {c:Int} {q:Nat} (h:lexD s=.inr (c,q)):c≠0:=by
 unfold lexD at h
 split at h
 ·cases h; decide
 ·exact lexGo_ne _ _ _ (Nat.le_refl _) h
def parsed1 (s : List UInt8) : ExpD × Int × Int :=
  match lexD s with
  | .inr (c, i) => (exp0, c, i)
  | .inl T => match told (oneP T (iExp T T.length 40 41 1)) with
    | .inl e => (e, 0, 0)
    | .inr (c, q) => (exp0, c, q)
theorem parsed1_s {s:List UInt8} {T:List Tok} (h:lexD s=.inl T):told (oneP T (iExp T T.length 40 41 1))=told (oneP T (sExp T T.length 40 41)) :=
 told_eq (lexD_ok h).1 (s3_one (lexD_ok h).1 (s3_expK (lexD_ok h).1 41 0 fun e' h1 h2=>by omega))
theorem parsed1_T {s:List UInt8} {T:List Tok} (h:lexD s=.inl T):parsed1 s=(match told (oneP T (iExp T T.length 40 41 1)) with | .inl e=>(e,0,0) | .inr (c,q)=>(exp0,c,q)):=by
 unfold parsed1; rw [h]
theorem told_e {α:Type} (m:PM α):told m=if (m ⟨0,0,0,0,0⟩).2.c=0 then .inl (m ⟨0,0,0,0,0⟩).1 else .inr ((m ⟨0,0,0,0,0⟩).2.c,(m ⟨0,0,0,0,0⟩).2.ps):=rfl
theorem set_self {X:List AO} {p:Nat} {o:AO} (h:X[p]?=some o):X.set p o=X:=list_set_same h
theorem PF.at {pv:PS→AO} {T:List Tok} {lim:Nat} {f:Nat} {xs:List AV} {α:Type} {m:PM α} {V:α→AV} (h:PF pv T lim f xs m V) {X:List AO} {p:Nat} {s:PS} (hp:X[p]?=some (pv s)) (hs:Ok T lim s) :
  ACall Tryz.prog f (.ptr p 0 :: xs) X (pureQ (V (m s).1) (X.set p (pv (m s).2))):=by
 have:=h.nil (get_lt hp) hs
 rwa [set_self hp] at this
theorem PX.top {pv:PS→AO} {T:List Tok} {e f:Nat} {args:List AV} {p:Nat} {α:Type} {m:PM α} {tv:α→List TV} (h:PX pv T e f args (fun _=>True) p m tv) (wf:∀ x,WfC (tv x)) {X:List AO} {s s1:PS} {x:α} (hm:m s=(x,s1)) (hp:X[p]?=some (pv s)) (hs:Ok T e s) :
  ACall Tryz.prog f args X (fun r X'=>∃ cs R,r=.st cs∧X'=X.set p (pv s1)++R∧Env X.length X'.length X' (tv x) cs):=by
 refine acall_ghost (nC (tv x)) ?_
 have hpl:=get_lt hp
 have hK:(X++List.replicate (nC (tv x)) AO.rsv)[p]?=some (pv s):=get_ext hp _
 have hF:Fr X.length (X++List.replicate (nC (tv x)) AO.rsv) (nC (tv x)):=⟨List.range' X.length (nC (tv x)),List.nodup_range',by simp,fun i hi=>by
  simp only [List.mem_range'] at hi
  obtain ⟨j,hj,rfl⟩:=hi
  refine ⟨by omega,?_⟩
  rw [List.getElem?_append_right (by omega)]
  simp [hj]⟩
 obtain ⟨H1,cs,hn1,kp1,_,_,_,env1,call1⟩:=h.use wf hm (Eq.refl (X++List.replicate (nC (tv x)) AO.rsv).length) hpl (by simp) hs hF (Nat.le_refl _)
 have hc:=call1 [] trivial
 rw [List.append_nil,List.append_nil,set_self hK] at hc
 refine hc.mono ?_
 rintro r X' ⟨rfl,rfl⟩
 refine ⟨cs,H1.drop X.length,rfl,?_,?_⟩
 ·have ht:H1.take X.length=X:=by
   apply List.ext_getElem?
   intro i
   rcases Nat.lt_or_ge i X.length with hi | hi
   ·rw [List.getElem?_take_of_lt hi,kp1.2.1 i hi,List.getElem?_append_left hi]
   ·rw [List.getElem?_eq_none (by simp; omega),List.getElem?_eq_none hi]
  have e3:H1=X++H1.drop X.length:=(List.take_append_drop X.length H1).symm.trans (congrArg (·++H1.drop X.length) ht)
  conv=>lhs; rw [e3]
  rw [List.set_append_left _ _ hpl]
 ·have:=env1 [] [] [] [] (Env.nil _ _ _)
  rw [List.append_nil] at this
  simpa [hn1] using this
theorem hx1 (H L:List AO) (x:AO):Hext (H++(.dead :: L)) (H++(x :: L)):=fun id o h hd=>by
 rcases Nat.lt_or_ge id H.length with hi | hi
 ·rw [List.getElem?_append_left hi] at h ⊢; exact h
 ·rw [List.getElem?_append_right hi] at h ⊢
  match id - H.length,h with
  | 0,h=>simp at h; exact (hd h.symm).elim
  | k+1,h=>exact h
theorem env4 {H R S:List AO} {a b c d a' b' c' d' e:AO} {v:Nat} {ts:List TV} {cs:List AV} (hv:H.length+4+R.length≤v) (h:Env (H++[a,b,c,d]).length (H++[a,b,c,d].set 3 e++R).length (H++[a,b,c,d].set 3 e++R) ts cs):Env H.length v (H++(a' :: b' :: c' :: d' :: (R++S))) ts cs:=by
 obtain ⟨ids,h1,h2,h3,h4⟩:=h
 have hb:(H++[a,b,c,d]).length=H.length+4:=by simp
 have hu:(H++[a,b,c,d].set 3 e++R).length=H.length+4+R.length:=by simp; omega
 rw [hb,hu] at h4
 refine ⟨ids,h1.keep fun i hi o ho=>?_,h2,h3,fun i hi=>by have:=h4 i hi; exact ⟨by omega,by omega⟩⟩
 obtain ⟨k,rfl⟩:=Nat.le.dest (h4 i hi).1
 rw [List.append_assoc,show H.length+4+k=H.length+(4+k) by omega,gxk] at ho
 rw [show H.length+4+k=H.length+(4+k) by omega,gxk]
 have e1:(([a,b,c,d].set 3 e)++R)[4+k]?=R[k]?:=by rw [List.getElem?_append_right (by simp)]; simp
 have e2:(a' :: b' :: c' :: d' :: (R++S))[4+k]?=(R++S)[k]?:=by rw [show 4+k=k+4 by omega]; rfl
 rw [e1] at ho
 rw [e2]; exact get_ext ho S
theorem Ok0 {T:List Tok} (hT:ToksOk T):Ok T 0 ⟨0,0,0,0,0⟩:=⟨hT.pos,rfl⟩
theorem lex_l {T:List Tok}:lexAV (.inl T)=.tup [ptV T,ftC 0 0]:=rfl
theorem lex_r {c:Int} {i:Nat}:lexAV (.inr (c,i))=.tup [.p (.l []),ftC c i]:=rfl
theorem implParse1 {s:List UInt8} {H:List AO} (hs:s.length≤1048576) (hg:Rg H) :
  ACall Tryz.prog 8 [.p (.s s)] H (fun r H'=>∃ cs G,r=.tup [.st cs,ftC (parsed1 s).2.1 (parsed1 s).2.2]∧H'=H++G∧Env H.length H'.length H' (parsed1 s).1.tv cs):=by
 refine call8 (by simp) ?_
 simp only [go_sem,reduceIte,↓reduceIte,sevalprocAttr,Z0,Z1,bytesOf,gx0,gxk,sx0,sxk,mc8,mr8]
 refine acall_pure (lexC hs (hg.ext _)) ?_
 rcases hl:lexD s with T | ⟨c,i⟩
 rotate_left
 ·have hp:parsed1 s=(exp0,c,(i:Int)):=by unfold parsed1; rw [hl]
  rw [lex_r,hp]
  simp only [go_sem,reduceIte,↓reduceIte,sevalprocAttr,Z0,Z1,bytesOf,gx0,gxk,sx0,sxk,dF (lexD_ne hl),dT (lexD_ne hl),decide_not,Bool.not_true,Bool.not_false]
  refine ⟨H++[.dead,_,_],hx1 _ _ _,?_⟩
  simp only [go_sem,reduceIte,↓reduceIte,sevalprocAttr,Z0,Z1,bytesOf,gx0,gxk,sx0,sxk]
  refine ⟨hx1 _ _ _,?_⟩
  refine ⟨_,_,rfl,rfl,?_⟩
  exact exp_leaf _ _ _ _ _ _ _ _
 ·obtain ⟨hT,hTl⟩:=lexD_ok hl
  have hTl:T.length≤1048577:=by omega
  rw [lex_l,parsed1_T hl,told_e]
  simp only [go_sem,reduceIte,↓reduceIte,sevalprocAttr,Z0,Z1,bytesOf,gx0,gxk,sx0,sxk,List.length_append]
  rcases hq:iExp T T.length 40 41 1 ⟨0,0,0,0,0⟩ with ⟨⟨k1,n1,u1,t1,q1,l1,m1⟩,s1⟩
  have hs1:=(Ok0 hT).run (stay_iExp (N:=T.length) hT 40 41 1)
  rw [hq] at hs1
  simp only at hs1
  have e1:oneP T (iExp T T.length 40 41 1) ⟨0,0,0,0,0⟩=(.mk k1 n1 u1 t1 q1 l1 m1,endP T s1):=by unfold oneP; rw [bindP_e,hq]; rfl
  rw [e1]
  refine (PX.top (iExpK hT hTl 41 1 (by omega) (by omega) (by omega) (H.length+3)) ExpD.wf hq (by rw [gxk]; rfl) (Ok0 hT)).mono ?_
  rintro r X' ⟨cs,R,rfl,rfl,hE⟩
  have hs2:=hs1.step (stay_end T)
  obtain ⟨c1,b1,rfl⟩:=Env.expC (ts:=[]) (ds:=[]) (cs:=cs) hE rfl
  rw [sxk] at hE ⊢
  have hE4:=fun (a' b' c' d':AO) (S:List AO) (v:Nat) (hv:H.length+4+R.length≤v)=>env4 (a':=a') (b':=b') (c':=c') (d':=d') (S:=S) (v:=v) hv hE
  simp only [go_sem,reduceIte,↓reduceIte,sevalprocAttr,Z0,Z1,bytesOf,gx0,gxk,sx0,sxk]
  refine acall_pure (iEnd.at (by rw [gxk]; rfl) hs1) ?_
  simp only [go_sem,reduceIte,↓reduceIte,sevalprocAttr,Z0,Z1,bytesOf,gx0,gxk,sx0,sxk]
  refine acall_pure (iFailed.at (by rw [gxk]; rfl) hs2) ?_
  by_cases hc:(endP T s1).c=0
  ·rw [if_pos hc]
   simp only [go_sem,reduceIte,↓reduceIte,sevalprocAttr,Z0,Z1,bytesOf,gx0,gxk,sx0,sxk,dT hc,Bool.not_true,Bool.not_false]
   exact ⟨_,_,rfl,rfl,hE4 _ _ _ _ _ _ (by omega)⟩
  ·rw [if_neg hc]
   simp only [go_sem,reduceIte,↓reduceIte,sevalprocAttr,Z0,Z1,bytesOf,gx0,gxk,sx0,sxk,dF hc,Bool.not_true,Bool.not_false]
   refine ⟨H++(.dead :: _),hx1 _ _ _,?_⟩
   simp only [go_sem,reduceIte,↓reduceIte,sevalprocAttr,Z0,Z1,bytesOf,gx0,gxk,sx0,sxk,pvI]
   refine ⟨hx1 _ _ _,?_⟩
   refine ⟨_,_,rfl,rfl,?_⟩
   exact exp_leaf _ _ _ _ _ _ _ _
theorem specParse1 {s:List UInt8} {H:List AO} (hs:s.length≤1048576) :
  ACall Tryz.prog 7 [.p (.s s)] H (pureQ (.tup [expV (parsed1 s).1,ftC (parsed1 s).2.1 (parsed1 s).2.2]) H):=by
 refine acall_frz1 ?_
 refine call7 (by simp) ?_
 simp only [go_sem,reduceIte,↓reduceIte,sevalprocAttr,Z0,Z1,bytesOf,gx0,gxk,sx0,sxk,mc7,mr7]
 refine acall_pure (lexIC hs) ?_
 have lz:∀ (X:List AO) (c q:Int),LentN H.length X (.tup [.st [iV 0,sV [],iV 0,sV [],iV 0,.p .nl,.p .nl],ftC c q]) (.tup [expV exp0,ftC c q]):=fun X c q=>by
  refine lent_two ?_ (tf_ft c q)
  exact lent_exp (by rw [ExpD.cellsL]; exact .nl) (by rw [ExpD.cellsA]; exact .nl)
 rcases hl:lexD s with T | ⟨c,i⟩
 rotate_left
 ·have hp:parsed1 s=(exp0,c,(i:Int)):=by unfold parsed1; rw [hl]
  rw [lex_r,hp]
  simp only [go_sem,reduceIte,↓reduceIte,sevalprocAttr,Z0,Z1,bytesOf,gx0,gxk,sx0,sxk,dF (lexD_ne hl),dT (lexD_ne hl),decide_not,Bool.not_true,Bool.not_false]
  refine ⟨H++[.dead,_,_],hx1 _ _ _,?_⟩
  simp only [go_sem,reduceIte,↓reduceIte,sevalprocAttr,Z0,Z1,bytesOf,gx0,gxk,sx0,sxk]
  refine ⟨hx1 _ _ _,?_⟩
  exact ⟨_,rfl,lz _ _ _⟩
 ·obtain ⟨hT,hTl⟩:=lexD_ok hl
  have hTl:T.length≤1048577:=by omega
  rw [lex_l,parsed1_T hl,parsed1_s hl,told_e]
  simp only [go_sem,reduceIte,↓reduceIte,sevalprocAttr,Z0,Z1,bytesOf,gx0,gxk,sx0,sxk,List.length_append]
  rcases hq:sExp T T.length 40 41 ⟨0,0,0,0,0⟩ with ⟨⟨k1,n1,u1,t1,q1,l1,m1⟩,s1⟩
  have hs1:=(Ok0 hT).run (stay_sExp (N:=T.length) hT 40 41)
  rw [hq] at hs1
  simp only at hs1
  have e1:oneP T (sExp T T.length 40 41) ⟨0,0,0,0,0⟩=(.mk k1 n1 u1 t1 q1 l1 m1,endP T s1):=by unfold oneP; rw [bindP_e,hq]; rfl
  rw [e1]
  have hs2:=hs1.step (stay_end T)
  have hcall:=(sExpK hT hTl (lim:=40) (by omega) 41 0 rfl (by omega)).at (X:=H++[.var [iV 0,sV [],iV 0,sV [],iV 0,.p .nl,.p .nl],.var [iV 0,iV 0],.var [iV 0,iV 0],pvS T 40 ⟨0,0,0,0,0⟩]) (p:=H.length+3) (by rw [gxk]; rfl) (Ok0 hT)
  rw [hq] at hcall
  refine acall_pure hcall ?_
  have lt:∀ (X:List AO),LentN H.length X (.tup [.st [iV k1,sV n1,iV u1,sV t1,iV q1,.p (.l (ExpD.cellsL l1)),.p (.l (ExpD.cellsA m1))],ftC 0 0]) (.tup [expV (.mk k1 n1 u1 t1 q1 l1 m1),ftC 0 0]):=fun X=>by
   refine lent_two ?_ (tf_ft 0 0)
   exact lentP (tf_av (ExpD.cells (.mk k1 n1 u1 t1 q1 l1 m1)))
  by_cases hc:s1.c=0
  ·by_cases hk:(tokA T s1).k=8
   ·have hE:endP T s1=s1:=by unfold endP isK; simp [hc,hk]
    rw [hE,if_pos hc]
    simp only [go_sem,reduceIte,↓reduceIte,sevalprocAttr,Z0,Z1,bytesOf,gx0,gxk,sx0,sxk,ExpD.cells,pvS,dT hc]
    refine acall_pure ((sNow (lim:=40)).at (s:=s1) (by rw [gxk]; rfl) hs1) ?_
    simp only [go_sem,reduceIte,↓reduceIte,sevalprocAttr,Z0,Z1,bytesOf,gx0,gxk,sx0,sxk,Tok.cells,dT hk,decide_not,Bool.not_true,Bool.not_false,dT hc,pvS]
    exact ⟨_,rfl,lt _⟩
   ·have hE:endP T s1=failP T 11 s1:=by unfold endP isK; simp [hc,hk]
    have hc2:¬ (failP T 11 s1).c=0:=by rw [failP_0 hc]; exact (by decide:¬ ((11:Int)=0))
    rw [hE,if_neg hc2]
    simp only [go_sem,reduceIte,↓reduceIte,sevalprocAttr,Z0,Z1,bytesOf,gx0,gxk,sx0,sxk,ExpD.cells,pvS,dT hc]
    refine acall_pure ((sNow (lim:=40)).at (s:=s1) (by rw [gxk]; rfl) hs1) ?_
    simp only [go_sem,reduceIte,↓reduceIte,sevalprocAttr,Z0,Z1,bytesOf,gx0,gxk,sx0,sxk,Tok.cells,dF hk,decide_not,Bool.not_true,Bool.not_false,dT hc]
    refine acall_pure ((sFails (lim:=40) 11).at (s:=s1) (by rw [gxk]; rfl) hs1) ?_
    simp only [go_sem,reduceIte,↓reduceIte,sevalprocAttr,Z0,Z1,bytesOf,gx0,gxk,sx0,sxk,pvS,dF hc2,decide_not,Bool.not_true,Bool.not_false]
    refine ⟨H++(.dead :: _),hx1 _ _ _,?_⟩
    simp only [go_sem,reduceIte,↓reduceIte,sevalprocAttr,Z0,Z1,bytesOf,gx0,gxk,sx0,sxk]
    refine ⟨hx1 _ _ _,?_⟩
    exact ⟨_,rfl,lz _ _ _⟩
  ·have hE:endP T s1=s1:=by unfold endP; rw [isK_c hc]; simp [failP_c hc]
   rw [hE,if_neg hc]
   simp only [go_sem,reduceIte,↓reduceIte,sevalprocAttr,Z0,Z1,bytesOf,gx0,gxk,sx0,sxk,ExpD.cells,pvS,dF hc,decide_not,Bool.not_true,Bool.not_false]
   refine ⟨H++(.dead :: _),hx1 _ _ _,?_⟩
   simp only [go_sem,reduceIte,↓reduceIte,sevalprocAttr,Z0,Z1,bytesOf,gx0,gxk,sx0,sxk]
   refine ⟨hx1 _ _ _,?_⟩
   exact ⟨_,rfl,lz _ _ _⟩
end Go.Proofs.YtghcmccjchdgeaaGreatDoor.Qp
/- The program's types. -/
set_option linter.all false
namespace Go.Proofs.YtghcmccjchdgeaaGreatDoor.Qp
open Go.AM Mc Pg
theorem ty_leaf (b u:Nat) (X:List AO) (k:Int) (nm:List UInt8) (q:Int):Env b u X (TyE.tv (.mk k nm q [])) [iV k,sV nm,iV q,.p .nl]:=by
 rw [TyE.tv,TyE.tvL]
 exact ((Env.nl1.pc _).pc _).pc _
theorem ty_node {b u:Nat} {X:List AO} {k:Int} {nm:List UInt8} {q:Int} {l:List TyE} {a:AV} (h:Env b u X [.s 4 (l.map TyE.tv)] [a]):Env b u X (TyE.tv (.mk k nm q l)) [iV k,sV nm,iV q,a]:=by
 rw [TyE.tv,TyE.tvL_eq]
 exact ((h.pc _).pc _).pc _
theorem own_tyC {X:List AO} {cs:List AV} {ids:List Nat} {k:Int} {nm:List UInt8} {q:Int} {l:List TyE} (h4:OwnCs X (TyE.tv (.mk k nm q l)) cs ids):∃ c,cs=[iV k,sV nm,iV q,c]:=by
 rw [TyE.tv] at h4
 simp only [OwnCs,Own] at h4
 obtain ⟨_,_,_,_,rfl,_,⟨rfl,_⟩,_,_,_,_,rfl,_,⟨rfl,_⟩,_,_,_,_,rfl,_,⟨rfl,_⟩,c,_,_,_,rfl,_,_,rfl,_⟩:=h4
 exact ⟨c,rfl⟩
theorem Env.tyC {b u:Nat} {X:List AO} {ts:List TV} {ds cs:List AV} {k:Int} {nm:List UInt8} {q:Int} {l:List TyE} (h:Env b u X (ts++TyE.tv (.mk k nm q l)) (ds++cs)) (hl:ds.length=ts.length):∃ c,cs=[iV k,sV nm,iV q,c]:=by
 obtain ⟨ids,h1,_⟩:=h
 obtain ⟨c1,c2,i,j,e1,_,h3,h4⟩:=ownC_split h1
 obtain ⟨rfl,rfl⟩:=List.append_inj e1 (by rw [h3.len]; exact hl)
 exact own_tyC h4
theorem ty_nC (k:Int) (nm:List UInt8) (q:Int) (l:List TyE):nC (TyE.tv (.mk k nm q l))=nK (l.map TyE.tv):=by
 rw [TyE.tv,TyE.tvL_eq]; simp [nC,nT]
theorem LO.head {α:Type} {pv:PS→AO} {T:List Tok} {e b n p sz:Nat} {K:List AO} {N:List Nat} {tv:α→List TV} {g:PS→Bool} {m:PM α} {Rl:List α} {Rs:PS} {x:LG α} (h:LO pv T e b n p K N sz tv g m Rl Rs x) (htv:∀ a,(tv a).length=sz) {y:α} {l:List α} (h0:x.acc=y :: l):∃ r0 rr q ver ids,x.rs=r0 :: rr∧rr.length=l.length∧x.a=.gs (n+q) ver 0 (rr.length+1)∧q ∉ N∧x.A[q]?=some (.rows sz ver (r0 :: rr))∧OwnCs (x.H.set p (pv x.s)++x.A) (tv y) r0 ids:=by
 have hl:=h.len
 rw [h0] at hl
 rcases hrs:x.rs with _ | ⟨r0,rr⟩
 ·rw [hrs] at hl; simp at hl
 rw [hrs] at hl
 have hr0:r0.length=sz:=h.sz1 r0 (by rw [hrs]; simp)
 rcases h.own with ⟨h1,h2⟩ | ⟨id,ver,e1,h1⟩
 ·rw [h2] at hrs; cases hrs
 ·obtain ⟨q1,q2⟩:=h.ids _ _ _ _ e1
  obtain ⟨q,rfl⟩:=Nat.le.dest q1
  rw [Nat.add_sub_cancel_left] at q2
  rw [qyk h.hn,hrs] at h1
  have hE:=h.env
  rw [h0,hrs,List.map_cons,List.flatten_cons,List.flatten_cons] at hE
  obtain ⟨ids,k1,_⟩:=hE
  obtain ⟨c1,c2,i,j,e2,_,h3,h4⟩:=ownC_split k1
  obtain ⟨rfl,rfl⟩:=List.append_inj e2 (by rw [h3.len,htv,hr0])
  exact ⟨r0,rr,q,ver,i,rfl,by simpa using hl,by rw [e1,hrs]; rfl,q2,h1,h3⟩
section
variable {T:List Tok} {most e:Nat} (hT:ToksOk T) (hTl:T.length≤1048577)
include hT hTl
theorem iTyAtC {d:Nat} (hd:d≤1099511627776) {ty:PM TyE} (hP:PFo T most e 115 [iV (d+1:Nat)] ty TyE.tv) (sP:StayM T ty):PFo T most e 218 [iV d] (tyAt T ty) TyE.tv:=by
 refine pfo_of fun p K b n s hn hp hb hs hF=>?_
 have hpK:p<K.length:=by omega
 have hd1:wr .i64 ((d:Int)+1)=((d+1:Nat):Int):=wrN _ (by omega)
 have hws:=ws hTl hs
 refine call218 (by simp) ?_
 simp only [go_sem,reduceIte,↓reduceIte,sevalprocAttr,Z0,Z1,bytesOf,qyk hn,qy0 hn,ryk hn,ry0 hn,qdk,qd0,List.length_replicate,List.length_set,hn,hn,mc218,mr218]
 refine acall_pure (iNow K _ p s hpK hs) ?_
 simp only [go_sem,reduceIte,↓reduceIte,sevalprocAttr,Z0,Z1,bytesOf,qyk hn,qy0 hn,ryk hn,ry0 hn,qdk,qd0,List.length_replicate,List.length_set,hn,hn,Tok.cells]
 unfold tyAt at hF ⊢
 rw [nowP_e] at hF ⊢
 generalize hte:tokA T s=t at *
 obtain ⟨tk,tt,tn,tp⟩:=t
 simp only at hF ⊢
 refine acall_pure (iIsK 5 K _ p s hpK hs) ?_
 cases c0:isK T 5 s
 rotate_left
 ·rw [iteG_t c0]
  simp only [go_sem,reduceIte,↓reduceIte,sevalprocAttr,Z0,Z1,bytesOf,qyk hn,qy0 hn,ryk hn,ry0 hn,qdk,qd0,List.length_replicate,List.length_set,hn,hn,c0,qpI hpK,qq hpK,hws,pvI_adv]
  exact ⟨_,K,_,0,rfl,rfl,Kp.rfl,ty_leaf _ _ _ _ _ _⟩
 rw [iteG_f c0] at hF ⊢
 simp only [go_sem,reduceIte,↓reduceIte,sevalprocAttr,Z0,Z1,bytesOf,qyk hn,qy0 hn,ryk hn,ry0 hn,qdk,qd0,List.length_replicate,List.length_set,hn,hn,c0]
 refine acall_pure (iIsK 3 K _ p s hpK hs) ?_
 cases c1:isK T 3 s
 rotate_left
 ·rw [iteG_t c1]
  simp only [go_sem,reduceIte,↓reduceIte,sevalprocAttr,Z0,Z1,bytesOf,qyk hn,qy0 hn,ryk hn,ry0 hn,qdk,qd0,List.length_replicate,List.length_set,hn,hn,c1,qpI hpK,qq hpK,hws,pvI_adv]
  exact ⟨_,K,_,0,rfl,rfl,Kp.rfl,ty_leaf _ _ _ _ _ _⟩
 rw [iteG_f c1,stepP_e] at hF ⊢
 simp only [go_sem,reduceIte,↓reduceIte,sevalprocAttr,Z0,Z1,bytesOf,qyk hn,qy0 hn,ryk hn,ry0 hn,qdk,qd0,List.length_replicate,List.length_set,hn,hn,c1]
 refine acall_pure (iWant hT hTl [[40]] (by decide) hpK hs (by omega) (fun c=>by rw [qyk hn]; rfl)) ?_
 simp only [go_sem,reduceIte,↓reduceIte,sevalprocAttr,Z0,Z1,bytesOf,qyk hn,qy0 hn,ryk hn,ry0 hn,qdk,qd0,List.length_replicate,List.length_set,hn,hn,wants1,hd1]
 have hs1:=hs.step (stay_want hT [40])
 generalize wantP T [40] s=s1 at *
 rcases hq:ty s1 with ⟨⟨k1,n1,q1,l1⟩,s2⟩
 have hs2:=hs1.run sP
 rw [hq] at hs2
 simp only at hs2
 simp only [bindP_e,hq,stepP_e,retP_e] at hF ⊢
 obtain ⟨H1,cs1,hn1,kp1,fr1,cl1,_,env1,call1⟩:=(hP p).use TyE.wf hq hn hp hb hs1 hF (Nat.le_refl _)
 refine acall_pure (call1 _ trivial) ?_
 have hE1:=fun A A'=>env1 [] [] A A' (Env.nil _ _ _)
 obtain ⟨v1,rfl⟩:=(hE1 [] []).tyC rfl
 simp only [go_sem,reduceIte,↓reduceIte,sevalprocAttr,Z0,Z1,bytesOf,qyk hn1,qy0 hn1,ryk hn1,ry0 hn1,qdk,qd0,List.length_replicate,List.length_set,hn1,hn1]
 refine acall_pure (iWant hT hTl [[41]] (by decide) (by omega) hs2 (by omega) (fun c=>by rw [qyk hn1]; rfl)) ?_
 simp only [go_sem,reduceIte,↓reduceIte,sevalprocAttr,Z0,Z1,bytesOf,qyk hn1,qy0 hn1,ryk hn1,ry0 hn1,qdk,qd0,List.length_replicate,List.length_set,hn1,hn1,wants1]
 exact ⟨_,H1,_,n,rfl,rfl,kp1,(hE1 [] []).base hn1 hp⟩
theorem tyAt_gtI {ty:PM TyE} (sty:StayM T ty) {s:PS} (hi:s.i<T.length) (hg:tySt T s=true):s.i<(tyAt T ty s).2.i:=tyAt_gt hT hTl sty hi hg
theorem iPostC {d:Nat} (hd:d≤1099511627776) {ty:PM TyE} (hP:PFo T most e 115 [iV (d+1:Nat)] ty TyE.tv) (sP:StayM T ty):PFo T most e 173 [iV d] (tyPost T T.length ty) TyE.tv:=by
 have hA:=iTyAtC hT hTl hd hP sP
 have sA:=Pg.stay_tyAt hT sP
 refine pfo_of fun p K b n s hn hp hb hs hF=>?_
 have hpK:p<K.length:=by omega
 have hws:=ws hTl hs
 refine call173 (by simp) ?_
 simp only [go_sem,reduceIte,↓reduceIte,sevalprocAttr,Z0,Z1,bytesOf,qyk hn,qy0 hn,ryk hn,ry0 hn,qdk,qd0,List.length_replicate,List.length_set,hn,hn,mc173,mr173]
 refine acall_pure (iNow K _ p s hpK hs) ?_
 simp only [go_sem,reduceIte,↓reduceIte,sevalprocAttr,Z0,Z1,bytesOf,qyk hn,qy0 hn,ryk hn,ry0 hn,qdk,qd0,List.length_replicate,List.length_set,hn,hn,Tok.cells]
 unfold tyPost at hF ⊢
 rw [nowP_e] at hF ⊢
 generalize hte:tokA T s=t at *
 obtain ⟨tk,tt,tn,tp⟩:=t
 simp only at hF ⊢
 refine acall_pure (iTake hTl [114,101,102] K _ p s hpK hs) ?_
 unfold takeM
 cases c0:isT T [114,101,102] s
 rotate_left
 ·rw [iteG_t c0] at hF ⊢
  have hs1:=hs.adv hT (isT_k c0).2
  rcases hq:tyAt T ty (adv s) with ⟨⟨k1,n1,q1,l1⟩,s2⟩
  simp only [bindP_e,hq,retP_e] at hF ⊢
  simp only [go_sem,reduceIte,↓reduceIte,sevalprocAttr,Z0,Z1,bytesOf,qyk hn,qy0 hn,ryk hn,ry0 hn,qdk,qd0,List.length_replicate,List.length_set,hn,hn,c0]
  obtain ⟨H1,cs1,hn1,kp1,fr1,cl1,_,env1,call1⟩:=(hA p).use TyE.wf hq hn hp hb hs1 hF (by rw [ty_nC 5,List.map_cons,nK]; omega)
  have hE1:=fun A A'=>env1 [] [] A A' (Env.nil _ _ _)
  obtain ⟨v1,rfl⟩:=(hE1 [] []).tyC rfl
  refine ⟨_,hxd hn _ _ _,?_⟩
  simp only [go_sem,reduceIte,↓reduceIte,sevalprocAttr,Z0,Z1,bytesOf,qyk hn,qy0 hn,ryk hn,ry0 hn,qdk,qd0,List.length_replicate,List.length_set,hn,hn]
  refine pcall_chain _ _ (chl hn1 hn _ _ _) (hxd hn1 _ _ _) (chn call1 _ fun _=>trivial) ?_
  simp only [go_sem,reduceIte,↓reduceIte,sevalprocAttr,Z0,Z1,bytesOf,qyk hn1,qy0 hn1,ryk hn1,ry0 hn1,qdk,qd0,List.length_replicate,List.length_set,hn1,hn1,Nat.add_zero,Nat.add_assoc]
  exact ⟨_,H1,_,_,rfl,rfl,kp1,ty_node ((hE1 [] _).node1 (by rw [qyk hn1]; rfl) (by omega) (by omega) (TyE.tv_len _))⟩
 rw [iteG_f c0] at hF ⊢
 simp only [go_sem,reduceIte,↓reduceIte,sevalprocAttr,Z0,Z1,bytesOf,qyk hn,qy0 hn,ryk hn,ry0 hn,qdk,qd0,List.length_replicate,List.length_set,hn,hn,c0]
 refine acall_pure (iIsK 3 K _ p s hpK hs) ?_
 cases c1:isK T 3 s
 ·rw [iteG_f c1] at hF ⊢
  simp only [go_sem,reduceIte,↓reduceIte,sevalprocAttr,Z0,Z1,bytesOf,qyk hn,qy0 hn,ryk hn,ry0 hn,qdk,qd0,List.length_replicate,List.length_set,hn,hn,c1]
  rcases hq:tyAt T ty s with ⟨⟨k1,n1,q1,l1⟩,s2⟩
  rw [hq] at hF
  obtain ⟨H1,cs1,hn1,kp1,fr1,cl1,_,env1,call1⟩:=(hA p).use TyE.wf hq hn hp hb hs hF (Nat.le_refl _)
  refine acall_pure (call1 _ trivial) ?_
  have hE1:=fun A A'=>env1 [] [] A A' (Env.nil _ _ _)
  obtain ⟨v1,rfl⟩:=(hE1 [] []).tyC rfl
  simp only [go_sem,reduceIte,↓reduceIte,sevalprocAttr,Z0,Z1,bytesOf,qyk hn1,qy0 hn1,ryk hn1,ry0 hn1,qdk,qd0,List.length_replicate,List.length_set,hn1,hn1]
  exact ⟨_,H1,_,n,rfl,rfl,kp1,hE1 [] _⟩
 rw [iteG_t c1] at hF ⊢
 have hs1:=hs.adv hT (show (tokA T s).k≠8 by have:=(isK_k c1).2; rw [hte] at this ⊢; omega)
 simp only [go_sem,reduceIte,↓reduceIte,sevalprocAttr,Z0,Z1,bytesOf,qyk hn,qy0 hn,ryk hn,ry0 hn,qdk,qd0,List.length_replicate,List.length_set,hn,hn,c1,qpI hpK,qq hpK,hws,pvI_adv]
 rcases hR:many (tySt T) (tyAt T ty) T.length (adv s) with ⟨Rl,Rs⟩
 simp only [bindP_e,hR,retP_e] at hF ⊢
 have hNN:nR (Rl.map TyE.tv)≤nC (TyE.tv (.mk 1 tt tp Rl)):=by rw [ty_nC 1]; exact nK_le _
 generalize hNe:nC (TyE.tv (.mk 1 tt tp Rl))=NN at hF hNN
 refine ⟨LG TyE,[0,1,4,6],fun x st=>(LO (pvI T most) T e b n p K [0,2] 4 TyE.tv (tySt T) (tyAt T ty) Rl Rs x∧x.A[0]?=some (.var [iV 0,sV [],iV 0,.p .nl])∧x.A[2]?=some (.var [iV 1,sV tt,iV tp,x.a])∧(x.acc=[]→x.a=.p .nl)) ∧
   st=⟨[(0,.ptr p 0),(1,iV d),(4,.ptr n 0),(6,.ptr (n+2) 0)],[],x.H.set p (pvI T most x.s)++x.A⟩,fun x=>T.length - x.s.i,
  ⟨⟨T.length,adv s,[],[],.p .nl,K,[.var [iV 0,sV [],iV 0,.p .nl],.var [iV tk,sV tt,iV tn,iV tp],.var [iV 1,sV tt,iV tp,.p .nl]]⟩,?_⟩,?_⟩
 ·refine ⟨⟨LO.start hs1 hR hn Kp.rfl hF hNN (by simp),rfl,rfl,fun _=>rfl⟩,?_⟩
  simp only [go_sem,reduceIte,↓reduceIte,sevalprocAttr,Z0,Z1,bytesOf,qyk hn,qy0 hn,ryk hn,ry0 hn,qdk,qd0,List.length_replicate,List.length_set,hn,hn]
 ·rintro x _ ⟨⟨hL,i0,i2,hNil⟩,rfl⟩
  have hpx:p<x.H.length:=by rw [hL.hn]; omega
  have hg0:tySt T x.s=(isK T 5 x.s || isK T 3 x.s || isT T [40] x.s):=rfl
  simp only [go_sem,reduceIte,↓reduceIte,sevalprocAttr,Z0,Z1,bytesOf,qyk hL.hn,qy0 hL.hn,ryk hL.hn,ry0 hL.hn,qdk,qd0,List.length_replicate,List.length_set,hL.hn,hL.hn]
  refine acall_pure (iIsK 5 x.H _ p x.s hpx hL.ok) ?_
  cases t0:isK T 5 x.s
  rotate_left
  ·have hg:tySt T x.s=true:=by rw [hg0]; simp [t0]
   have hgt:=tyAt_gtI hT hTl sP hL.ok.1 hg
   have hs3:=hL.ok.run sA
   rcases hq3:tyAt T ty x.s with ⟨⟨k3,n3,q3,l3⟩,s3⟩
   rw [hq3] at hs3 hgt
   simp only at hs3
   obtain ⟨M,frM,hM⟩:=hL.room only_tySt hg (y:=.mk k3 n3 q3 l3) (s2:=s3) hq3
   obtain ⟨H2,cs2,hn2,kp2,fr2,cl2,_,env2,call2⟩:=(hA p).use TyE.wf hq3 hL.hn hp hb hL.ok frM (by omega)
   have hE2:=fun A'=>env2 _ _ x.A A' hL.env
   obtain ⟨v2,rfl⟩:=(hE2 []).tyC hL.env.len
   simp only [go_sem,reduceIte,↓reduceIte,sevalprocAttr,Z0,Z1,bytesOf,qyk hL.hn,qy0 hL.hn,ryk hL.hn,ry0 hL.hn,qdk,qd0,List.length_replicate,List.length_set,hL.hn,hL.hn,t0]
   refine ⟨_,hxd hL.hn _ _ _,?_⟩
   simp only [go_sem,reduceIte,↓reduceIte,sevalprocAttr,Z0,Z1,bytesOf,qyk hL.hn,qy0 hL.hn,ryk hL.hn,ry0 hL.hn,qdk,qd0,List.length_replicate,List.length_set,hL.hn,hL.hn,i2]
   refine pcall_chain _ _ (chl hn2 hL.hn _ _ _) (hxd hn2 _ _ _) (chn call2 _ fun _=>trivial) ?_
   simp only [go_sem,reduceIte,↓reduceIte,sevalprocAttr,Z0,Z1,bytesOf,qyk hn2,qy0 hn2,ryk hn2,ry0 hn2,qdk,qd0,List.length_replicate,List.length_set,hn2,hn2,gx0,gxk,sx0,sxk,Nat.add_zero]
   refine ⟨by intro r hr; simp at hr; subst hr; rfl,?_⟩
   refine hL.app hn2 (fun k o h=>get_ext h _) hTl (by decide) ?_
   intro id ver A' m1 m2 m3
   have j0:=(m3 0 (by decide)).trans i0
   have j2:=(m3 2 (by decide)).trans i2
   simp only [go_sem,reduceIte,↓reduceIte,sevalprocAttr,Z0,Z1,bytesOf,qyk hn2,qy0 hn2,ryk hn2,ry0 hn2,qdk,qd0,List.length_replicate,List.length_set,hn2,hn2,j2]
   exact ⟨⟨x.j - 1,s3,x.acc++[.mk k3 n3 q3 l3],x.rs++[[iV k3,sV n3,iV q3,v2]],.gs id ver 0 (x.rs.length+1),H2,A'.set 2 (.var [iV 1,sV tt,iV tp,.gs id ver 0 (x.rs.length+1)])⟩,⟨⟨hL.next only_tySt hg hq3 hs3 hgt hn2 kp2 fr2 (by omega) (hE2 _) rfl m1 m2 (set_keep (by decide)) (by intro k hk; rw [List.length_set]; simp at hk; rcases hk with rfl | rfl; exact get_lt j0; exact get_lt j2),get_set j0 (by decide),set_get j2,fun h=>by simp at h⟩,rfl⟩,by have h1:x.s.i<s3.i:=hgt; have:=hL.ok.1; simp only; omega⟩
  simp only [go_sem,reduceIte,↓reduceIte,sevalprocAttr,Z0,Z1,bytesOf,qyk hL.hn,qy0 hL.hn,ryk hL.hn,ry0 hL.hn,qdk,qd0,List.length_replicate,List.length_set,hL.hn,hL.hn,t0]
  refine acall_pure (iIsK 3 x.H _ p x.s hpx hL.ok) ?_
  cases t1:isK T 3 x.s
  rotate_left
  ·have hg:tySt T x.s=true:=by rw [hg0]; simp [t1]
   have hgt:=tyAt_gtI hT hTl sP hL.ok.1 hg
   have hs3:=hL.ok.run sA
   rcases hq3:tyAt T ty x.s with ⟨⟨k3,n3,q3,l3⟩,s3⟩
   rw [hq3] at hs3 hgt
   simp only at hs3
   obtain ⟨M,frM,hM⟩:=hL.room only_tySt hg (y:=.mk k3 n3 q3 l3) (s2:=s3) hq3
   obtain ⟨H2,cs2,hn2,kp2,fr2,cl2,_,env2,call2⟩:=(hA p).use TyE.wf hq3 hL.hn hp hb hL.ok frM (by omega)
   have hE2:=fun A'=>env2 _ _ x.A A' hL.env
   obtain ⟨v2,rfl⟩:=(hE2 []).tyC hL.env.len
   simp only [go_sem,reduceIte,↓reduceIte,sevalprocAttr,Z0,Z1,bytesOf,qyk hL.hn,qy0 hL.hn,ryk hL.hn,ry0 hL.hn,qdk,qd0,List.length_replicate,List.length_set,hL.hn,hL.hn,t1]
   refine ⟨_,hxd hL.hn _ _ _,?_⟩
   simp only [go_sem,reduceIte,↓reduceIte,sevalprocAttr,Z0,Z1,bytesOf,qyk hL.hn,qy0 hL.hn,ryk hL.hn,ry0 hL.hn,qdk,qd0,List.length_replicate,List.length_set,hL.hn,hL.hn,i2]
   refine pcall_chain _ _ (chl hn2 hL.hn _ _ _) (hxd hn2 _ _ _) (chn call2 _ fun _=>trivial) ?_
   simp only [go_sem,reduceIte,↓reduceIte,sevalprocAttr,Z0,Z1,bytesOf,qyk hn2,qy0 hn2,ryk hn2,ry0 hn2,qdk,qd0,List.length_replicate,List.length_set,hn2,hn2,gx0,gxk,sx0,sxk,Nat.add_zero]
   refine ⟨by intro r hr; simp at hr; subst hr; rfl,?_⟩
   refine hL.app hn2 (fun k o h=>get_ext h _) hTl (by decide) ?_
   intro id ver A' m1 m2 m3
   have j0:=(m3 0 (by decide)).trans i0
   have j2:=(m3 2 (by decide)).trans i2
   simp only [go_sem,reduceIte,↓reduceIte,sevalprocAttr,Z0,Z1,bytesOf,qyk hn2,qy0 hn2,ryk hn2,ry0 hn2,qdk,qd0,List.length_replicate,List.length_set,hn2,hn2,j2]
   exact ⟨⟨x.j - 1,s3,x.acc++[.mk k3 n3 q3 l3],x.rs++[[iV k3,sV n3,iV q3,v2]],.gs id ver 0 (x.rs.length+1),H2,A'.set 2 (.var [iV 1,sV tt,iV tp,.gs id ver 0 (x.rs.length+1)])⟩,⟨⟨hL.next only_tySt hg hq3 hs3 hgt hn2 kp2 fr2 (by omega) (hE2 _) rfl m1 m2 (set_keep (by decide)) (by intro k hk; rw [List.length_set]; simp at hk; rcases hk with rfl | rfl; exact get_lt j0; exact get_lt j2),get_set j0 (by decide),set_get j2,fun h=>by simp at h⟩,rfl⟩,by have h1:x.s.i<s3.i:=hgt; have:=hL.ok.1; simp only; omega⟩
  simp only [go_sem,reduceIte,↓reduceIte,sevalprocAttr,Z0,Z1,bytesOf,qyk hL.hn,qy0 hL.hn,ryk hL.hn,ry0 hL.hn,qdk,qd0,List.length_replicate,List.length_set,hL.hn,hL.hn,t1]
  refine acall_pure (iIs [40] x.H _ p x.s hpx hL.ok) ?_
  cases t2:isT T [40] x.s
  rotate_left
  ·have hg:tySt T x.s=true:=by rw [hg0]; simp [t2]
   have hgt:=tyAt_gtI hT hTl sP hL.ok.1 hg
   have hs3:=hL.ok.run sA
   rcases hq3:tyAt T ty x.s with ⟨⟨k3,n3,q3,l3⟩,s3⟩
   rw [hq3] at hs3 hgt
   simp only at hs3
   obtain ⟨M,frM,hM⟩:=hL.room only_tySt hg (y:=.mk k3 n3 q3 l3) (s2:=s3) hq3
   obtain ⟨H2,cs2,hn2,kp2,fr2,cl2,_,env2,call2⟩:=(hA p).use TyE.wf hq3 hL.hn hp hb hL.ok frM (by omega)
   have hE2:=fun A'=>env2 _ _ x.A A' hL.env
   obtain ⟨v2,rfl⟩:=(hE2 []).tyC hL.env.len
   simp only [go_sem,reduceIte,↓reduceIte,sevalprocAttr,Z0,Z1,bytesOf,qyk hL.hn,qy0 hL.hn,ryk hL.hn,ry0 hL.hn,qdk,qd0,List.length_replicate,List.length_set,hL.hn,hL.hn,t2]
   refine ⟨_,hxd hL.hn _ _ _,?_⟩
   simp only [go_sem,reduceIte,↓reduceIte,sevalprocAttr,Z0,Z1,bytesOf,qyk hL.hn,qy0 hL.hn,ryk hL.hn,ry0 hL.hn,qdk,qd0,List.length_replicate,List.length_set,hL.hn,hL.hn,i2]
   refine pcall_chain _ _ (chl hn2 hL.hn _ _ _) (hxd hn2 _ _ _) (chn call2 _ fun _=>trivial) ?_
   simp only [go_sem,reduceIte,↓reduceIte,sevalprocAttr,Z0,Z1,bytesOf,qyk hn2,qy0 hn2,ryk hn2,ry0 hn2,qdk,qd0,List.length_replicate,List.length_set,hn2,hn2,gx0,gxk,sx0,sxk,Nat.add_zero]
   refine ⟨by intro r hr; simp at hr; subst hr; rfl,?_⟩
   refine hL.app hn2 (fun k o h=>get_ext h _) hTl (by decide) ?_
   intro id ver A' m1 m2 m3
   have j0:=(m3 0 (by decide)).trans i0
   have j2:=(m3 2 (by decide)).trans i2
   simp only [go_sem,reduceIte,↓reduceIte,sevalprocAttr,Z0,Z1,bytesOf,qyk hn2,qy0 hn2,ryk hn2,ry0 hn2,qdk,qd0,List.length_replicate,List.length_set,hn2,hn2,j2]
   exact ⟨⟨x.j - 1,s3,x.acc++[.mk k3 n3 q3 l3],x.rs++[[iV k3,sV n3,iV q3,v2]],.gs id ver 0 (x.rs.length+1),H2,A'.set 2 (.var [iV 1,sV tt,iV tp,.gs id ver 0 (x.rs.length+1)])⟩,⟨⟨hL.next only_tySt hg hq3 hs3 hgt hn2 kp2 fr2 (by omega) (hE2 _) rfl m1 m2 (set_keep (by decide)) (by intro k hk; rw [List.length_set]; simp at hk; rcases hk with rfl | rfl; exact get_lt j0; exact get_lt j2),get_set j0 (by decide),set_get j2,fun h=>by simp at h⟩,rfl⟩,by have h1:x.s.i<s3.i:=hgt; have:=hL.ok.1; simp only; omega⟩
  have hg:tySt T x.s=false:=by rw [hg0]; simp [t0,t1,t2]
  obtain ⟨ha,hx⟩:=hL.stop hg
  subst hx
  have hz:∀ o,(x.A.set 0 o)[0]?=some o:=fun o=>set_get i0
  simp only [go_sem,reduceIte,↓reduceIte,sevalprocAttr,Z0,Z1,bytesOf,qyk hL.hn,qy0 hL.hn,ryk hL.hn,ry0 hL.hn,qdk,qd0,List.length_replicate,List.length_set,hL.hn,hL.hn,t2,i2,i0,hz]
  by_cases hR0:Rl=[]
  ·subst hR0
   have hxa:x.a=.p .nl:=hNil ha
   rw [hxa]
   exact ⟨_,x.H,_,0,rfl,rfl,hL.kp,ty_leaf _ _ _ _ _ _⟩
  ·obtain ⟨u,hE⟩:=hL.fin hp hb (by rw [ha]; exact hR0) TyE.tv_len (c:=pvI T most x.s) (set_keep (i:=0) (by decide) (o:=.var [iV 1,sV tt,iV tp,x.a]))
   rw [ha] at hE
   exact ⟨_,x.H,_,u,rfl,rfl,hL.kp,ty_node hE⟩
end
end Go.Proofs.YtghcmccjchdgeaaGreatDoor.Qp
/- The program's types: arrows and products. -/
set_option linter.all false
namespace Go.Proofs.YtghcmccjchdgeaaGreatDoor.Qp
open Go.AM Mc Pg
theorem ty_node2 {b u n q:Nat} {X:List AO} {x y:TyE} {c1 c2:List AV} {ver:Nat} (h:Env b u X (x.tv++y.tv) (c1++c2)) (l1:c1.length=4) (l2:c2.length=4) (hi:X[n+q]?=some (.rows 4 ver [c1,c2])) (hu:u≤n+q) (hb:b≤n):Env b (n+q+1) X [.s 4 ([x,y].map TyE.tv)] [.gs (n+q) ver 0 2] :=
 Env.node (rows:=[x.tv,y.tv]) (rs:=[c1,c2]) (by simpa using h) hi (by omega) (by omega) rfl (by intro r hr; simp at hr; rcases hr with rfl | rfl <;> exact TyE.tv_len _) (by intro r hr; simp at hr; rcases hr with rfl | rfl <;> assumption) (by simp)
theorem LO.finU {α:Type} {pv:PS→AO} {T:List Tok} {e b n p sz:Nat} {K:List AO} {N:List Nat} {tv:α→List TV} {g:PS→Bool} {m:PM α} {Rl:List α} {Rs:PS} {x:LG α} (h:LO pv T e b n p K N sz tv g m Rl Rs x) (hp:p<b) (hb:b≤n) (h0:x.acc≠[]) (htv:∀ a,(tv a).length=sz) {c:AO} {B:List AO} (hk:∀ (k:Nat) (o:AO),k ∉ N→x.A[k]?=some o→B[k]?=some o):Env b (n+x.A.length) (x.H.set p c++B) [.s sz (x.acc.map tv)] [x.a]:=by
 rcases h.own with ⟨h1,h2⟩ | ⟨id,ver,e1,h1⟩
 ·have:=h.len; rw [h2] at this; exact (h0 (List.length_eq_zero_iff.1 this.symm)).elim
 ·obtain ⟨q1,q2⟩:=h.ids _ _ _ _ e1
  obtain ⟨q,rfl⟩:=Nat.le.dest q1
  rw [Nat.add_sub_cancel_left] at q2
  rw [qyk h.hn] at h1
  have hq:=get_lt h1
  rw [e1]
  exact ((h.env.base h.hn hp).node (by rw [qyk h.hn]; exact hk _ _ q2 h1) (by omega) (by omega) (by rw [h.len]; simp) (by intro r hr; obtain ⟨a,_,rfl⟩:=List.mem_map.1 hr; exact htv a) h.sz1 (by simpa using h0)).up (by omega)
theorem tup4_nC (a:TyE) (l:List TyE):nC a.tv+nR (l.map TyE.tv)≤nC (tup4 a l).tv:=by
 unfold tup4
 split
 ·rename_i h; subst h; simp [nR]
 ·rw [ty_nC,List.map_cons,nK]; omega
section
variable {T:List Tok} {most e:Nat} (hT:ToksOk T) (hTl:T.length≤1048577)
include hT hTl
theorem iTyC {d:Nat} (hd:d≤1099511627776) {ty:PM TyE} (hP:d≤most→PFo T most e 115 [iV (d+1:Nat)] ty TyE.tv) (sP:StayM T ty):PFo T most e 115 [iV d] (iTyB T T.length most ty d) TyE.tv:=by
 refine pfo_of fun p K b n s hn hp hb hs hF=>?_
 have hpK:p<K.length:=by omega
 have hd1:wr .i64 ((d:Int)+1)=((d+1:Nat):Int):=wrN _ (by omega)
 refine call115 (by simp) ?_
 simp only [go_sem,reduceIte,↓reduceIte,sevalprocAttr,Z0,Z1,bytesOf,qyk hn,qy0 hn,ryk hn,ry0 hn,qdk,qd0,List.length_replicate,List.length_set,hn,hn,mc115,mr115]
 refine acall_pure (iDeeper d K _ p s hpK hs) ?_
 have hs1:=deep_ok (most:=most) (d:=d) hT hTl hs
 unfold iTyB deepP at hF ⊢
 cases hc:decide ((deeperP T most d s).c=0)
 ·rw [if_neg (of_decide_eq_false hc)]
  simp only [go_sem,reduceIte,↓reduceIte,sevalprocAttr,Z0,Z1,bytesOf,qyk hn,qy0 hn,ryk hn,ry0 hn,qdk,qd0,List.length_replicate,List.length_set,hn,hn,hc,Bool.not_false,Bool.not_true]
  exact ⟨_,K,_,0,rfl,rfl,Kp.rfl,ty_leaf _ _ _ _ _ _⟩
 have hc0:=of_decide_eq_true hc
 have hP:=hP (deep_le hT hTl hc0)
 have hA:=iPostC hT hTl hd hP sP
 have sA:=Pg.stay_tyPost (N:=T.length) hT sP
 rw [if_pos hc0] at hF ⊢
 simp only [go_sem,reduceIte,↓reduceIte,sevalprocAttr,Z0,Z1,bytesOf,qyk hn,qy0 hn,ryk hn,ry0 hn,qdk,qd0,List.length_replicate,List.length_set,hn,hn,hc,Bool.not_false,Bool.not_true]
 generalize deeperP T most d s=s1 at *
 rcases hq:tyPost T T.length ty s1 with ⟨⟨k1,n1,q1,l1⟩,s2⟩
 have hs2:=hs1.run sA
 rw [hq] at hs2
 simp only at hs2
 rcases hR:many (isT T [42]) (advP (tyPost T T.length ty)) T.length s2 with ⟨Rl,Rs⟩
 simp only [bindP_e,hq,hR] at hF ⊢
 have hle:nC (tup4 (.mk k1 n1 q1 l1) Rl).tv≤nC (iteG (isT T [45,62]) (fun s=>retP (.mk 3 [] (tup4 (.mk k1 n1 q1 l1) Rl).pos [tup4 (.mk k1 n1 q1 l1) Rl,(ty s).1]) (ty s).2) (retP (tup4 (.mk k1 n1 q1 l1) Rl)) Rs).1.tv:=by
  unfold iteG
  split
  ·show _≤nC (TyE.tv (.mk 3 _ _ _))
   rw [ty_nC,List.map_cons,nK]; omega
  ·exact Nat.le_refl _
 have hNN:=tup4_nC (.mk k1 n1 q1 l1) Rl
 have hFe:(iteG (isT T [45,62]) (bindP ty fun b=>retP (.mk 3 [] (tup4 (.mk k1 n1 q1 l1) Rl).pos [tup4 (.mk k1 n1 q1 l1) Rl,b])) (retP (tup4 (.mk k1 n1 q1 l1) Rl)) Rs)=(iteG (isT T [45,62]) (fun s=>retP (.mk 3 [] (tup4 (.mk k1 n1 q1 l1) Rl).pos [tup4 (.mk k1 n1 q1 l1) Rl,(ty s).1]) (ty s).2) (retP (tup4 (.mk k1 n1 q1 l1) Rl)) Rs):=rfl
 rw [hFe] at hF ⊢
 generalize hFF:iteG (isT T [45,62]) (fun s=>retP (.mk 3 [] (tup4 (.mk k1 n1 q1 l1) Rl).pos [tup4 (.mk k1 n1 q1 l1) Rl,(ty s).1]) (ty s).2) (retP (tup4 (.mk k1 n1 q1 l1) Rl)) Rs=FF at hF hle ⊢
 obtain ⟨H1,cs1,hn1,kp1,fr1,cl1,_,env1,call1⟩:=(hA p).use TyE.wf hq hn hp hb hs1 hF (by omega)
 refine acall_pure (call1 _ trivial) ?_
 have hE1:=fun A A'=>env1 [] [] A A' (Env.nil _ _ _)
 obtain ⟨c1,rfl⟩:=(hE1 [] []).tyC rfl
 simp only [go_sem,reduceIte,↓reduceIte,sevalprocAttr,Z0,Z1,bytesOf,qyk hn1,qy0 hn1,ryk hn1,ry0 hn1,qdk,qd0,List.length_replicate,List.length_set,hn1,hn1,Nat.add_zero]
 have hT4:tup4 (.mk k1 n1 q1 l1) Rl=(if Rl=[] then .mk k1 n1 q1 l1 else .mk 4 [] q1 (.mk k1 n1 q1 l1 :: Rl)):=rfl
 refine ⟨LG TyE × Nat,[0,1,4,5],fun x st=>(LO (pvI T most) T e b n p K [0] 4 TyE.tv (isT T [42]) (advP (tyPost T T.length ty)) (.mk k1 n1 q1 l1 :: Rl) Rs x.1∧x.1.A[0]?=some (.var [iV 0,sV [],iV 0,.p .nl])∧Fr b x.1.H x.2∧nR ((many (isT T [42]) (advP (tyPost T T.length ty)) x.1.j x.1.s).1.map TyE.tv)+(nC FF.1.tv - nC (tup4 (.mk k1 n1 q1 l1) Rl).tv)≤x.2) ∧
   st=⟨[(0,.ptr p 0),(1,iV d),(4,.ptr n 0),(5,x.1.a)],[],x.1.H.set p (pvI T most x.1.s)++x.1.A⟩,fun x=>T.length - x.1.s.i,
  ⟨(⟨T.length,s2,[.mk k1 n1 q1 l1],[[iV k1,sV n1,iV q1,c1]],.gs (n+1) 0 0 1,H1,[.var [iV 0,sV [],iV 0,.p .nl],.rows 4 0 [[iV k1,sV n1,iV q1,c1]]]⟩,nC FF.1.tv - nC (TyE.tv (.mk k1 n1 q1 l1))),?_⟩,?_⟩
 ·refine ⟨⟨LO.start1 hs2 hR hn1 kp1 fr1 (by omega) (hE1 [] _) rfl rfl (by decide) (by simp),rfl,fr1,by simp only [hR]; omega⟩,?_⟩
  simp only [go_sem,reduceIte,↓reduceIte,sevalprocAttr,Z0,Z1,bytesOf,qyk hn1,qy0 hn1,ryk hn1,ry0 hn1,qdk,qd0,List.length_replicate,List.length_set,hn1,hn1]
 ·rintro ⟨x,M⟩ _ ⟨⟨hL,i0,frM,hM⟩,rfl⟩
  simp only at hL i0 frM hM ⊢
  have hpx:p<x.H.length:=by rw [hL.hn]; omega
  simp only [go_sem,reduceIte,↓reduceIte,sevalprocAttr,Z0,Z1,bytesOf,qyk hL.hn,qy0 hL.hn,ryk hL.hn,ry0 hL.hn,qdk,qd0,List.length_replicate,List.length_set,hL.hn,hL.hn]
  refine acall_pure (iTake hTl [42] x.H _ p x.s hpx hL.ok) ?_
  unfold takeM
  cases hg:isT T [42] x.s
  ·obtain ⟨ha,hx⟩:=hL.stop hg
   subst hx
   rw [many_c hg] at hM
   simp only [List.map_nil,nR,Nat.zero_add] at hM
   obtain ⟨r0,rr,q,ver,ids0,r1,r2,r3,r4,r5,r6⟩:=hL.head TyE.tv_len ha
   obtain ⟨v0,rfl⟩:=own_tyC r6
   have r5':∀ B,(x.A++B)[q]?=some (.rows 4 ver ([iV k1,sV n1,iV q1,v0] :: rr)):=fun B=>get_ext r5 B
   have i0':∀ B,(x.A++B)[0]?=some (.var [iV 0,sV [],iV 0,.p .nl]):=fun B=>get_ext i0 B
   have hz:∀ B o,((x.A++B).set 0 o)[0]?=some o:=fun B o=>set_get (i0' B)
   have h0A:=get_lt i0
   have d0:decide ((0:Int)<((rr.length+1:Nat):Int))=true:=by simp <;> omega
   simp only [go_sem,reduceIte,↓reduceIte,sevalprocAttr,Z0,Z1,bytesOf,qyk hL.hn,qy0 hL.hn,ryk hL.hn,ry0 hL.hn,qdk,qd0,List.length_replicate,List.length_set,hL.hn,hL.hn,hg]
   rw [r3]
   simp only [go_sem,reduceIte,↓reduceIte,sevalprocAttr,Z0,Z1,bytesOf,qyk hL.hn,qy0 hL.hn,ryk hL.hn,ry0 hL.hn,qdk,qd0,List.length_replicate,List.length_set,hL.hn,hL.hn,r5,r5',gx0,gxk,sx0,sxk,Nat.add_zero,d0]
   refine ⟨by omega,fun _=>?_⟩
   by_cases hR0:Rl=[]
   ·have hrr:rr=[]:=List.length_eq_zero_iff.1 (by rw [r2,hR0]; rfl)
    have d1:decide ((1:Int)<((rr.length+1:Nat):Int))=false:=by rw [hrr]; rfl
    have hEL:∀ c B,Env b (n+x.A.length) (x.H.set p c++(x.A++B)) (tup4 (.mk k1 n1 q1 l1) Rl).tv [iV k1,sV n1,iV q1,v0]:=fun c B=>by
     have hE:=hL.env
     rw [ha,r1,hrr,hR0] at hE
     rw [hT4,if_pos hR0]
     exact (Env.base (by simpa using hE) hL.hn hp).up (by omega)
    have hpos:(tup4 (.mk k1 n1 q1 l1) Rl).pos=q1:=by rw [hT4,if_pos hR0]; rfl
    simp only [go_sem,reduceIte,↓reduceIte,sevalprocAttr,Z0,Z1,bytesOf,qyk hL.hn,qy0 hL.hn,ryk hL.hn,ry0 hL.hn,qdk,qd0,List.length_replicate,List.length_set,hL.hn,hL.hn,d1]
    refine acall_pure (iTake hTl [45,62] x.H _ p x.s hpx hL.ok) ?_
    unfold takeM
    cases hg2:isT T [45,62] x.s
    ·have hFv:FF=(tup4 (.mk k1 n1 q1 l1) Rl,x.s):=by rw [← hFF,iteG_f hg2]; rfl
     rw [hFv]
     simp only [go_sem,reduceIte,↓reduceIte,sevalprocAttr,Z0,Z1,bytesOf,qyk hL.hn,qy0 hL.hn,ryk hL.hn,ry0 hL.hn,qdk,qd0,List.length_replicate,List.length_set,hL.hn,hL.hn,hg2,gx0,gxk,sx0,sxk,i0',hz,Bool.not_true,Bool.not_false]
     exact ⟨_,x.H,_,_,rfl,rfl,hL.kp,(hEL (pvI T most x.s) _).q hL.hn hp fun i sz ver rs hi=>get_set hi (by rintro rfl; rw [i0'] at hi; cases hi)⟩
    ·have hsa:=hL.ok.adv hT (isT_k hg2).2
     rcases hq5:ty (adv x.s) with ⟨⟨k5,n5,q5,l5⟩,s5⟩
     have hFv:FF=(.mk 3 [] (tup4 (.mk k1 n1 q1 l1) Rl).pos [tup4 (.mk k1 n1 q1 l1) Rl,.mk k5 n5 q5 l5],s5):=by rw [← hFF,iteG_t hg2]; simp only [hq5]; rfl
     rw [hFv] at hM ⊢
     rw [hpos] at hM ⊢
     simp only [ty_nC 3,List.map_cons,List.map_nil,nK,nR] at hM
     obtain ⟨H5,cs5,hn5,kp5,fr5,cl5,env5,_,call5⟩:=(hP p).use TyE.wf hq5 hL.hn hp hb hsa frM (by omega)
     have hE5:=fun B=>env5 (n+x.A.length) _ _ (x.A++B) (by omega) (hEL (pvI T most (adv x.s)) B)
     obtain ⟨c5,rfl⟩:=(hE5 []).tyC (by rw [TyE.tv_len]; rfl)
     simp only [go_sem,reduceIte,↓reduceIte,sevalprocAttr,Z0,Z1,bytesOf,qyk hL.hn,qy0 hL.hn,ryk hL.hn,ry0 hL.hn,qdk,qd0,List.length_replicate,List.length_set,hL.hn,hL.hn,hg2,hd1,Bool.not_true,Bool.not_false]
     refine ⟨_,hxd hL.hn _ _ _,?_⟩
     simp only [go_sem,reduceIte,↓reduceIte,sevalprocAttr,Z0,Z1,bytesOf,qyk hL.hn,qy0 hL.hn,ryk hL.hn,ry0 hL.hn,qdk,qd0,List.length_replicate,List.length_set,hL.hn,hL.hn,gx0,gxk,sx0,sxk,hd1]
     refine pcall_chain _ _ (chl hn5 hL.hn _ _ _) (hxd hn5 _ _ _) (chn call5 _ fun _=>trivial) ?_
     simp only [go_sem,reduceIte,↓reduceIte,sevalprocAttr,Z0,Z1,bytesOf,qyk hn5,qy0 hn5,ryk hn5,ry0 hn5,qdk,qd0,List.length_replicate,List.length_set,hn5,hn5,gx0,gxk,sx0,sxk,i0',hz,Nat.add_zero]
     refine ⟨_,H5,_,_,rfl,rfl,hL.kp.trans kp5,ty_node (ty_node2 (n:=n) (q:=x.A.length+1) (c1:=[iV k1,sV n1,iV q1,v0]) (c2:=[iV k5,sV n5,iV q5,c5]) (u:=n+x.A.length) ((hE5 [.var [iV k1,sV n1,iV q1,v0],.rows 4 0 [[iV k1,sV n1,iV q1,v0],[iV k5,sV n5,iV q5,c5]]]).q hn5 hp fun i sz ver rs hi=>get_set hi (by rintro rfl; rw [i0'] at hi; cases hi)) rfl rfl ?_ (by omega) hb)⟩
     rw [qyk hn5,List.getElem?_set_ne (by omega),gxk]; rfl
   ·have d1:decide ((1:Int)<((rr.length+1:Nat):Int))=true:=by
     have:Rl.length≠0:=fun h=>hR0 (List.length_eq_zero_iff.1 h)
     simp; omega
    have hEL:∀ c B,Env b (n+x.A.length) (x.H.set p c++(x.A++B)) (tup4 (.mk k1 n1 q1 l1) Rl).tv [iV 4,sV [],iV q1,.gs (n+q) ver 0 (rr.length+1)]:=fun c B=>by
     have hE:=hL.finU hp hb (by rw [ha]; simp) TyE.tv_len (c:=c) (B:=x.A++B) (fun k o _ ho=>get_ext ho B)
     rw [ha,r3] at hE
     rw [hT4,if_neg hR0]
     exact ty_node hE
    have hpos:(tup4 (.mk k1 n1 q1 l1) Rl).pos=q1:=by rw [hT4,if_neg hR0]; rfl
    simp only [go_sem,reduceIte,↓reduceIte,sevalprocAttr,Z0,Z1,bytesOf,qyk hL.hn,qy0 hL.hn,ryk hL.hn,ry0 hL.hn,qdk,qd0,List.length_replicate,List.length_set,hL.hn,hL.hn,d1,r5,r5',gx0,gxk,sx0,sxk,Nat.add_zero,d0]
    refine ⟨by omega,?_⟩
    refine acall_pure (iTake hTl [45,62] x.H _ p x.s hpx hL.ok) ?_
    unfold takeM
    cases hg2:isT T [45,62] x.s
    ·have hFv:FF=(tup4 (.mk k1 n1 q1 l1) Rl,x.s):=by rw [← hFF,iteG_f hg2]; rfl
     rw [hFv]
     simp only [go_sem,reduceIte,↓reduceIte,sevalprocAttr,Z0,Z1,bytesOf,qyk hL.hn,qy0 hL.hn,ryk hL.hn,ry0 hL.hn,qdk,qd0,List.length_replicate,List.length_set,hL.hn,hL.hn,hg2,gx0,gxk,sx0,sxk,i0',hz,Bool.not_true,Bool.not_false]
     exact ⟨_,x.H,_,_,rfl,rfl,hL.kp,(hEL (pvI T most x.s) _).q hL.hn hp fun i sz ver rs hi=>get_set hi (by rintro rfl; rw [i0'] at hi; cases hi)⟩
    ·have hsa:=hL.ok.adv hT (isT_k hg2).2
     rcases hq5:ty (adv x.s) with ⟨⟨k5,n5,q5,l5⟩,s5⟩
     have hFv:FF=(.mk 3 [] (tup4 (.mk k1 n1 q1 l1) Rl).pos [tup4 (.mk k1 n1 q1 l1) Rl,.mk k5 n5 q5 l5],s5):=by rw [← hFF,iteG_t hg2]; simp only [hq5]; rfl
     rw [hFv] at hM ⊢
     rw [hpos] at hM ⊢
     simp only [ty_nC 3,List.map_cons,List.map_nil,nK,nR] at hM
     obtain ⟨H5,cs5,hn5,kp5,fr5,cl5,env5,_,call5⟩:=(hP p).use TyE.wf hq5 hL.hn hp hb hsa frM (by omega)
     have hE5:=fun B=>env5 (n+x.A.length) _ _ (x.A++B) (by omega) (hEL (pvI T most (adv x.s)) B)
     obtain ⟨c5,rfl⟩:=(hE5 []).tyC (by rw [TyE.tv_len]; rfl)
     simp only [go_sem,reduceIte,↓reduceIte,sevalprocAttr,Z0,Z1,bytesOf,qyk hL.hn,qy0 hL.hn,ryk hL.hn,ry0 hL.hn,qdk,qd0,List.length_replicate,List.length_set,hL.hn,hL.hn,hg2,hd1,Bool.not_true,Bool.not_false]
     refine ⟨_,hxd hL.hn _ _ _,?_⟩
     simp only [go_sem,reduceIte,↓reduceIte,sevalprocAttr,Z0,Z1,bytesOf,qyk hL.hn,qy0 hL.hn,ryk hL.hn,ry0 hL.hn,qdk,qd0,List.length_replicate,List.length_set,hL.hn,hL.hn,gx0,gxk,sx0,sxk,hd1]
     refine pcall_chain _ _ (chl hn5 hL.hn _ _ _) (hxd hn5 _ _ _) (chn call5 _ fun _=>trivial) ?_
     simp only [go_sem,reduceIte,↓reduceIte,sevalprocAttr,Z0,Z1,bytesOf,qyk hn5,qy0 hn5,ryk hn5,ry0 hn5,qdk,qd0,List.length_replicate,List.length_set,hn5,hn5,gx0,gxk,sx0,sxk,i0',hz,Nat.add_zero]
     refine ⟨_,H5,_,_,rfl,rfl,hL.kp.trans kp5,ty_node (ty_node2 (n:=n) (q:=x.A.length+1) (c1:=[iV 4,sV [],iV q1,.gs (n+q) ver 0 (rr.length+1)]) (c2:=[iV k5,sV n5,iV q5,c5]) (u:=n+x.A.length) ((hE5 [.var [iV 4,sV [],iV q1,.gs (n+q) ver 0 (rr.length+1)],.rows 4 0 [[iV 4,sV [],iV q1,.gs (n+q) ver 0 (rr.length+1)],[iV k5,sV n5,iV q5,c5]]]).q hn5 hp fun i sz ver rs hi=>get_set hi (by rintro rfl; rw [i0'] at hi; cases hi)) rfl rfl ?_ (by omega) hb)⟩
     rw [qyk hn5,List.getElem?_set_ne (by omega),gxk]; rfl
  ·obtain ⟨j,hj⟩:=hL.succ (only_isT T _) hg
   have hsa:=hL.ok.adv hT (isT_k hg).2
   have hs3:=hsa.run sA
   have hgt:=(Stay.adv hT sA hL.ok.1 (isT_k hg).2).1
   rcases hq3:tyPost T T.length ty (adv x.s) with ⟨⟨k3,n3,q3,l3⟩,s3⟩
   rw [hq3] at hs3 hgt
   simp only at hs3
   have hmm:advP (tyPost T T.length ty) x.s=(.mk k3 n3 q3 l3,s3):=hq3
   rw [hj,many,if_pos hg,hmm] at hM
   simp only [List.map_cons,nR] at hM
   obtain ⟨H2,cs2,hn2,kp2,fr2,cl2,_,env2,call2⟩:=(hA p).use TyE.wf hq3 hL.hn hp hb hsa frM (by omega)
   have hE2:=fun A'=>env2 _ _ x.A A' (hL.env.base hL.hn hp)
   obtain ⟨c2,rfl⟩:=(hE2 []).tyC (hL.env.len)
   simp only [go_sem,reduceIte,↓reduceIte,sevalprocAttr,Z0,Z1,bytesOf,qyk hL.hn,qy0 hL.hn,ryk hL.hn,ry0 hL.hn,qdk,qd0,List.length_replicate,List.length_set,hL.hn,hL.hn,hg]
   refine acall_pure (call2 _ trivial) ?_
   simp only [go_sem,reduceIte,↓reduceIte,sevalprocAttr,Z0,Z1,bytesOf,qyk hn2,qy0 hn2,ryk hn2,ry0 hn2,qdk,qd0,List.length_replicate,List.length_set,hn2,hn2,qya hn2,qya0 hn2,Nat.add_zero]
   refine ⟨by intro r hr; simp at hr; subst hr; rfl,?_⟩
   refine hL.app hn2 (fun k o h=>get_ext h _) hTl (by decide) ?_
   intro id ver A' m1 m2 m3
   have j0:=(m3 0 (by decide)).trans i0
   simp only [go_sem,reduceIte,↓reduceIte,sevalprocAttr,Z0,Z1,bytesOf,qyk hn2,qy0 hn2,ryk hn2,ry0 hn2,qdk,qd0,List.length_replicate,List.length_set,hn2,hn2]
   have hj1:x.j - 1=j:=by omega
   exact ⟨(⟨x.j - 1,s3,x.acc++[.mk k3 n3 q3 l3],x.rs++[[iV k3,sV n3,iV q3,c2]],.gs id ver 0 (x.rs.length+1),H2,A'⟩,_),⟨⟨hL.next (only_isT T _) hg hq3 hs3 hgt hn2 kp2 fr2 (by rw [hj1]; omega) (hE2 A') rfl m1 m2 (fun k o _ h=>h) (by intro k hk; simp at hk; subst hk; exact get_lt j0),j0,fr2,by simp only [hj1]; omega⟩,rfl⟩,by have h1:x.s.i<s3.i:=hgt; have:=hL.ok.1; simp only; omega⟩
theorem iTyK:∀ k d,d+k=most+2→most≤1099511627774→0<k→PFo T most e 115 [iV d] (iTy T T.length most k d) TyE.tv
 | 0,d,_,_,h=>absurd h (by omega)
 | k+1,d,h,hm,_=>iTyC hT hTl (by omega) (fun hle=>iTyK k (d+1) (by omega) hm (by omega)) (stay_iTy hT most k (d+1))
end
end Go.Proofs.YtghcmccjchdgeaaGreatDoor.Qp
/- The program's data. -/
set_option linter.all false
namespace Go.Proofs.YtghcmccjchdgeaaGreatDoor.Pg
open Go.AM
def CtorD.tv (c:CtorD):List TV:=[.p (.s c.name),.p (.b c.has)]++c.arg.tv++[.p (.i .i64 c.pos)]
def namesTV (l:List (List UInt8)):List (List TV):=l.map fun s=>[.p (.s s)]
def DataD.tv (d:DataD):List TV:=[.p (.s d.name),.s 1 (namesTV d.vars),.s 7 (d.ctors.map CtorD.tv),.p (.i .i64 d.pos)]
def ProgD.tv (p:ProgD):List TV:=.s 4 (p.types.map DataD.tv) :: p.body.tv
theorem CtorD.tv_len (t:CtorD):t.tv.length=7:=by simp [CtorD.tv,TyE.tv_len]
theorem DataD.tv_len (t:DataD):t.tv.length=4:=rfl
theorem ProgD.tv_len (t:ProgD):t.tv.length=8:=by simp [ProgD.tv,ExpD.tv_len]
theorem CtorD.wf (t:CtorD):WfC t.tv:=by
 unfold CtorD.tv
 exact wfC_app (wfC_app (wf_p (wf_p wf_n)) t.arg.wf) (wf_p wf_n)
theorem wfR_map {α:Type} {sz:Nat} {f:α→List TV} (h1:∀ a,(f a).length=sz) (h2:∀ a,WfC (f a)):∀ l:List α,WfR sz (l.map f)
 | []=>by rw [List.map_nil,WfR]; trivial
 | a :: l=>by rw [List.map_cons,WfR]; exact ⟨h1 a,h2 a,wfR_map h1 h2 l⟩
theorem DataD.wf (t:DataD):WfC t.tv:=by
 unfold DataD.tv
 exact wf_p (wf_s (wfR_map (f:=fun s:List UInt8=>[TV.p (.s s)]) (fun _=>rfl) (fun _=>wf_p wf_n) t.vars) (wf_s (wfR_map CtorD.tv_len CtorD.wf t.ctors) (wf_p wf_n)))
theorem ProgD.wf (t:ProgD):WfC t.tv:=by
 unfold ProgD.tv
 exact wf_s (wfR_map DataD.tv_len DataD.wf t.types) t.body.wf
end Go.Proofs.YtghcmccjchdgeaaGreatDoor.Pg
namespace Go.Proofs.YtghcmccjchdgeaaGreatDoor.Qp
open Go.AM Mc Pg
theorem Env.snocP {b u:Nat} {X:List AO} {ts:List TV} {cs:List AV} (h:Env b u X ts cs) (x:PV):Env b u X (ts++[.p x]) (cs++[.p x]):=by
 obtain ⟨ids,k1,k2,k3,k4⟩:=h
 refine ⟨ids,?_,k2,by rw [k3,nC_app,nC,nC,nT]; rfl,k4⟩
 have:=ownC_app k1 (OwnCs.one (Own.pv X x))
 rwa [List.append_nil] at this
theorem Env.nlF {b u sz:Nat} {X:List AO} {ts:List TV} {cs:List AV} (h:Env b u X ts cs):Env b u X (.s sz [] :: ts) (.p .nl :: cs):=by
 obtain ⟨ids,k1,k2,k3,k4⟩:=h
 exact ⟨ids,OwnCs.cons (Own.nl X sz) k1,k2,by rw [k3,nC,nT,nK,Nat.zero_add],k4⟩
theorem Env.nodeF {b u id sz ver:Nat} {X:List AO} {rows:List (List TV)} {rs:List (List AV)} {ts:List TV} {cs:List AV} (h:Env b u X (rows.flatten++ts) (rs.flatten++cs)) (hi:X[id]?=some (.rows sz ver rs)) (hu:u≤id) (hb:b≤id) (hl:rs.length=rows.length) (h1:∀ r∈rows,r.length=sz) (h2:∀ r∈rs,r.length=sz) (h0:rows≠[]) :
  Env b (id+1) X (.s sz rows :: ts) (.gs id ver 0 rs.length :: cs):=by
 obtain ⟨ids,k1,k2,k3,k4⟩:=h
 obtain ⟨c1,c2,i,j,e,rfl,h3,h4⟩:=ownC_split k1
 obtain ⟨rfl,rfl⟩:=List.append_inj e (by rw [h3.len]; exact flat_len hl h1 h2)
 refine ⟨(id :: i)++j,OwnCs.cons ?_ h4,?_,?_,?_⟩
 ·rw [Own]; exact .inr ⟨id,ver,rs,i,rfl,rfl,hi,rows_flat h3 hl h1 h2⟩
 ·rw [List.cons_append]; exact List.nodup_cons.2 ⟨fun hm=>by have:=(k4 id hm).2; omega,k2⟩
 ·rw [nC_app,nR_flat] at k3
  simp only [List.length_append,List.length_cons] at k3 ⊢
  rw [nC,nT]
  cases rows with
  | nil=>exact (h0 rfl).elim
  | cons r l=>rw [nK]; rw [nR] at k3; omega
 ·intro x hx
  rw [List.cons_append] at hx
  rcases List.mem_cons.1 hx with rfl | h
  ·exact ⟨hb,by omega⟩
  ·have:=k4 x h; exact ⟨this.1,by omega⟩
theorem names_flat {b u:Nat} {X:List AO} {ts:List TV} {cs:List AV} (h:Env b u X ts cs):∀ l:List (List UInt8),Env b u X ((namesTV l).flatten++ts) ((l.map fun s=>[sV s]).flatten++cs)
 | []=>h
 | s :: l=>(names_flat h l).pc (.s s)
theorem data_node {b n idn idc vn vc:Nat} {X:List AO} {vars:List (List UInt8)} {l:List CtorD} {rs:List (List AV)} {a:AV} {nm:List UInt8} {q:Int} (h:Env b n X (l.map CtorD.tv).flatten rs.flatten) (hc:X[idc]?=some (.rows 7 vc rs)) (hic:n≤idc) (hb:b≤n) (hl:rs.length=l.length) (hz:∀ r∈rs,r.length=7) (h0:l≠[])
  (hv:(vars=[]∧a=.p .nl)∨(vars≠[]∧a=.gs idn vn 0 vars.length∧X[idn]?=some (.rows 1 vn (vars.map fun s=>[sV s]))∧n≤idn∧idn≠idc)) :
  ∃ u,Env b u X (DataD.tv ⟨nm,vars,l,q⟩) [sV nm,a,.gs idc vc 0 rs.length,iV q]:=by
 have hrow:∀ r∈l.map CtorD.tv,r.length=7:=by intro r hr; obtain ⟨c,_,rfl⟩:=List.mem_map.1 hr; exact CtorD.tv_len c
 rcases hv with ⟨rfl,rfl⟩ | ⟨hne,rfl,h1,h2,h3⟩
 ·have h2:=(h.node hc hic (by omega) (by simpa using hl) hrow hz (by simpa using h0)).nlF (sz:=1)
  exact ⟨_,(h2.pc (.s nm)).snocP (.i .i64 q)⟩
 ·have e0:(vars.map fun s=>[sV s]).length=vars.length:=by simp
  have h4:=Env.node2 (rows1:=namesTV vars) (rows2:=l.map CtorD.tv) (names_flat h vars) h1 hc h2 hic hb h3 (by simp [namesTV]) (by intro r hr; unfold namesTV at hr; obtain ⟨s,_,rfl⟩:=List.mem_map.1 hr; rfl) (by intro r hr; obtain ⟨s,_,rfl⟩:=List.mem_map.1 hr; rfl) (by simpa [namesTV] using hne) (by simpa using hl) hrow hz (by simpa using h0)
  rw [e0] at h4
  exact ⟨_,(h4.pc (.s nm)).snocP (.i .i64 q)⟩
theorem data_nC (nm vars l q):nC (DataD.tv ⟨nm,vars,l,q⟩)=nK (namesTV vars)+nK (l.map CtorD.tv):=by simp [DataD.tv,nC,nT]
theorem ctor_nC (nm h a q):nC (CtorD.tv ⟨nm,h,a,q⟩)=nC a.tv:=by
 unfold CtorD.tv
 rw [nC_app,nC_app]; simp [nC,nT]
structure LB {α:Type} (pv:PS→AO) (T:List Tok) (e b n p:Nat) (K:List AO) (N:List Nat) (sz:Nat) (tv:α→List TV) (x':List UInt8) (item:PM α) (Rl:List α) (Rs:PS) (x:LG α):Prop where
 ok:Ok T e x.s
 ln:x.acc.length≤x.s.i
 fu:T.length - x.s.i≤x.j
 rl:x.acc++((item x.s).1 :: (many (isT T x') (advP item) x.j (item x.s).2).1)=Rl
 re:(many (isT T x') (advP item) x.j (item x.s).2).2=Rs
 hn:x.H.length=n
 kp:Kp b K x.H
 fr:∃ M,Fr b x.H M∧nC (tv (item x.s).1)+nR ((many (isT T x') (advP item) x.j (item x.s).2).1.map tv)≤M
 env:Env b n (x.H.set p (pv x.s)++x.A) (x.acc.map tv).flatten x.rs.flatten
 len:x.rs.length=x.acc.length
 sz1:∀ r∈x.rs,r.length=sz
 own:OwnR (x.H.set p (pv x.s)++x.A) x.a sz x.rs
 ids:∀ id v o m,x.a=.gs id v o m→n≤id∧id - n ∉ N
 nm:∀ k∈N,k<x.A.length
section
variable {α:Type} {pv:PS→AO} {T:List Tok} {e b n p sz:Nat} {K:List AO} {N:List Nat} {tv:α→List TV} {x':List UInt8} {item:PM α} {Rl:List α} {Rs:PS}
theorem LB.start {H A:List AO} {s:PS} {M:Nat} (hs:Ok T e s) (h:((item s).1 :: (many (isT T x') (advP item) T.length (item s).2).1,(many (isT T x') (advP item) T.length (item s).2).2)=(Rl,Rs)) (hn:H.length=n) (hk:Kp b K H) (hF:Fr b H M) (hM:nR (Rl.map tv)≤M) (hb:∀ k∈N,k<A.length):LB pv T e b n p K N sz tv x' item Rl Rs ⟨T.length,s,[],[],.p .nl,H,A⟩:=by
 have h1:=congrArg Prod.fst h
 have h2:=congrArg Prod.snd h
 simp only at h1 h2
 refine ⟨hs,Nat.zero_le _,by simp only; omega,h1,h2,hn,hk,⟨M,hF,?_⟩,Env.nil _ _ _,rfl,by simp,.inl ⟨rfl,rfl⟩,(fun _ _ _ _ e=>by cases e),hb⟩
 rw [← h1] at hM
 simpa [nR] using hM
theorem LB.stop {x:LG α} (h:LB pv T e b n p K N sz tv x' item Rl Rs x) {y:α} {s2:PS} (hm:item x.s=(y,s2)) (hg:isT T x' s2=false):x.acc++[y]=Rl∧s2=Rs:=by
 have h1:=h.rl; have h2:=h.re
 rw [hm] at h1 h2
 rw [many_c hg] at h1 h2
 exact ⟨h1,h2⟩
theorem LB.room {x:LG α} (h:LB pv T e b n p K N sz tv x' item Rl Rs x) {y:α} {s2:PS} (hm:item x.s=(y,s2)):∃ M,Fr b x.H M∧nC (tv y)+nR ((many (isT T x') (advP item) x.j s2).1.map tv)≤M:=by
 obtain ⟨M,h1,h2⟩:=h.fr
 rw [hm] at h2
 exact ⟨M,h1,h2⟩
theorem LB.own1 {x:LG α} {s2:PS} {H1 A' A'':List AO} {id ver:Nat} {rs:List (List AV)} (hn1:H1.length=n) (k1:(H1.set p (pv s2)++A')[id]?=some (.rows sz ver rs)) (k2:n≤id∧id - n ∉ N) (k3:∀ (k:Nat) (o:AO),k ∉ N→A'[k]?=some o→A''[k]?=some o) (c:AO):(H1.set p c++A'')[id]?=some (.rows sz ver rs):=by
 obtain ⟨q,hq⟩:=Nat.le.dest k2.1
 subst hq
 rw [qyk hn1] at k1 ⊢
 exact k3 _ _ (by have:=k2.2; rwa [Nat.add_sub_cancel_left] at this) k1
theorem LB.next (hT:ToksOk T) {x:LG α} (h:LB pv T e b n p K N sz tv x' item Rl Rs x) {y:α} {s2:PS} (hm:item x.s=(y,s2)) (hs2:Ok T e s2) (hge:x.s.i≤s2.i) (hg:isT T x' s2=true) {H1 A' A'':List AO} {M id ver:Nat} {cs:List AV} (hn1:H1.length=n) (kp1:Kp b x.H H1) (fr1:Fr b H1 M) (hM:nR ((many (isT T x') (advP item) x.j s2).1.map tv)≤M)
  (env1:Env b n (H1.set p (pv (adv s2))++A'') ((x.acc.map tv).flatten++tv y) (x.rs.flatten++cs)) (hcs:cs.length=sz)
  (k1:(H1.set p (pv s2)++A')[id]?=some (.rows sz ver (x.rs++[cs]))) (k2:n≤id∧id - n ∉ N) (k3:∀ (k:Nat) (o:AO),k ∉ N→A'[k]?=some o→A''[k]?=some o) (k4:∀ k∈N,k<A''.length) :
  LB pv T e b n p K N sz tv x' item Rl Rs ⟨x.j - 1,adv s2,x.acc++[y],x.rs++[cs],.gs id ver 0 (x.rs.length+1),H1,A''⟩:=by
 have hk:=isT_k hg
 have hfu:=h.fu
 have hix:=h.ok.1
 obtain ⟨j',hj⟩:∃ j',x.j=j'+1:=⟨x.j - 1,by omega⟩
 have h1:=h.rl; have h2:=h.re
 rw [hm] at h1 h2
 simp only [hj,many,if_pos hg] at h1 h2 hM
 have e1:∀ s,advP item s=item (adv s):=fun _=>rfl
 simp only [e1] at h1 h2 hM
 have hln:=h.ln
 refine ⟨hs2.adv hT hk.2,by simp [adv]; omega,by simp [adv]; omega,by simp only [hj,Nat.add_sub_cancel]; simpa using h1,by simp only [hj,Nat.add_sub_cancel]; exact h2,hn1,h.kp.trans kp1,⟨M,fr1,by simp only [hj,Nat.add_sub_cancel]; simpa [nR] using hM⟩,by simpa using env1,by simp [h.len],?_,.inr ⟨id,ver,by simp,LB.own1 (x:=x) hn1 k1 k2 k3 _⟩,(fun id' v o m' e=>by cases e; exact k2),k4⟩
 intro r hr
 rcases List.mem_append.1 hr with hr | hr
 ·exact h.sz1 r hr
 ·simp at hr; rw [hr]; exact hcs
end
end Go.Proofs.YtghcmccjchdgeaaGreatDoor.Qp
/- The program's data. -/
set_option linter.all false
namespace Go.Proofs.YtghcmccjchdgeaaGreatDoor.Qp
open Go.AM Mc Pg
def nmTV (s:List UInt8):List TV:=[.p (.s s)]
theorem nm_nR:∀ l:List (List UInt8),nR (l.map nmTV)=0
 | []=>by simp [nR]
 | a :: l=>by rw [List.map_cons,nR,nm_nR l]; simp [nmTV,nC,nT]
section
variable {T:List Tok} {most e:Nat} (hT:ToksOk T) (hTl:T.length≤1048577)
include hT hTl
theorem iDataC {ty:PM TyE} (hP:PFo T most e 115 [iV 1] ty TyE.tv) (sP:StayM T ty):PFo T most e 73 [] (dataP T T.length ty) DataD.tv:=by
 have sC:=Pg.stay_ctorP hT sP
 have h5:(5:Int)≠8:=by decide
 have o5:Only T (isK T 5):=only_isK T h5
 refine pfo_of fun p K b n s hn hp hb hs hF=>?_
 have hpK:p<K.length:=by omega
 refine call73 (by simp) ?_
 simp only [go_sem,reduceIte,↓reduceIte,sevalprocAttr,Z0,Z1,bytesOf,qyk hn,qy0 hn,ryk hn,ry0 hn,qdk,qd0,List.length_replicate,List.length_set,hn,hn,mc73,mr73]
 refine acall_pure (iNow K _ p s hpK hs) ?_
 simp only [go_sem,reduceIte,↓reduceIte,sevalprocAttr,Z0,Z1,bytesOf,qyk hn,qy0 hn,ryk hn,ry0 hn,qdk,qd0,List.length_replicate,List.length_set,hn,hn,Tok.cells]
 unfold dataP at hF ⊢
 rw [nowP_e,stepP_e] at hF ⊢
 generalize (tokA T s).p=tp at *
 refine acall_pure (iWant hT hTl [[116,121,112,101]] (by decide) hpK hs (by omega) (fun c=>by rw [qyk hn]; rfl)) ?_
 simp only [go_sem,reduceIte,↓reduceIte,sevalprocAttr,Z0,Z1,bytesOf,qyk hn,qy0 hn,ryk hn,ry0 hn,qdk,qd0,List.length_replicate,List.length_set,hn,hn,wants1]
 have hs1:=hs.step (stay_want hT [116,121,112,101])
 generalize wantP T [116,121,112,101] s=s1 at *
 rcases hV:many (isK T 5) (wordP T 5) T.length s1 with ⟨vs,s2⟩
 have hs2:=hs1.run (StayM.many o5 (StayM.word hT h5) T.length)
 rw [hV] at hs2
 simp only at hs2
 rcases hq3:wordP T 3 s2 with ⟨nm,s3⟩
 have hs3:=hs2.run (StayM.word hT (k:=3) (by decide))
 rw [hq3] at hs3
 simp only at hs3
 have hs4:=hs3.step (stay_want hT [61])
 rcases hq5:ctorP T ty (wantP T [61] s3) with ⟨c0,s5⟩
 rcases hR:many (isT T [124]) (advP (ctorP T ty)) T.length s5 with ⟨Rl,Rs⟩
 simp only [bindP_e,stepP_e,retP_e,hV,hq3,hq5,hR] at hF ⊢
 have hNN:nR ((c0 :: Rl).map CtorD.tv)≤nC (DataD.tv ⟨nm,vs,c0 :: Rl,tp⟩):=by rw [data_nC]; have:=nK_le ((c0 :: Rl).map CtorD.tv); omega
 generalize hNe:nC (DataD.tv ⟨nm,vs,c0 :: Rl,tp⟩)=NN at hF hNN
 -- the variables
 refine ⟨LG (List UInt8),[0,2,3],fun x st=>(LO (pvI T most) T e b n p K [0,1] 1 nmTV (isK T 5) (wordP T 5) vs s2 x∧x.H=K∧x.rs=(x.acc.map fun s=>[sV s])∧x.A[0]?=some (.var [sV [],.p .nl,.p .nl,iV 0])∧x.A[1]?=some (.var [sV [],x.a,.p .nl,iV tp])∧(x.acc=[]→x.a=.p .nl)) ∧
   st=⟨[(0,.ptr p 0),(2,.ptr n 0),(3,.ptr (n+1) 0)],[],x.H.set p (pvI T most x.s)++x.A⟩,fun x=>T.length - x.s.i,
  ⟨⟨T.length,s1,[],[],.p .nl,K,[.var [sV [],.p .nl,.p .nl,iV 0],.var [sV [],.p .nl,.p .nl,iV tp],.rows 1 0 [[sV [116,121,112,101]]]]⟩,?_⟩,?_⟩
 ·refine ⟨⟨LO.start hs1 hV hn Kp.rfl hF (by rw [nm_nR]; exact Nat.zero_le _) (by simp),rfl,rfl,rfl,rfl,fun _=>rfl⟩,?_⟩
  simp only [go_sem,reduceIte,↓reduceIte,sevalprocAttr,Z0,Z1,bytesOf,qyk hn,qy0 hn,ryk hn,ry0 hn,qdk,qd0,List.length_replicate,List.length_set,hn,hn]
 ·rintro ⟨j,s',acc,rs,a,HH,A⟩ _ ⟨⟨hL,hHK,hrs,i0,i1,hNil⟩,rfl⟩
  simp only at hHK hrs i0 i1 hNil
  subst hHK
  have hok:=hL.ok
  simp only at hok ⊢
  simp only [go_sem,reduceIte,↓reduceIte,sevalprocAttr,Z0,Z1,bytesOf,qyk hn,qy0 hn,ryk hn,ry0 hn,qdk,qd0,List.length_replicate,List.length_set,hn,hn]
  refine acall_pure (iIsK 5 HH _ p s' hpK hok) ?_
  cases hg:isK T 5 s'
  rotate_left
  ·have hsw:=hok.adv hT (show (tokA T s').k≠8 by have:=(isK_k hg).2; omega)
   have hw:wordP T 5 s'=((tokA T s').t,adv s'):=by unfold wordP; rw [if_pos hg]
   obtain ⟨M,frM,hM⟩:=hL.room o5 hg hw
   simp only [go_sem,reduceIte,↓reduceIte,sevalprocAttr,Z0,Z1,bytesOf,qyk hn,qy0 hn,ryk hn,ry0 hn,qdk,qd0,List.length_replicate,List.length_set,hn,hn,hg]
   refine ⟨_,hxd hn _ _ _,?_⟩
   simp only [go_sem,reduceIte,↓reduceIte,sevalprocAttr,Z0,Z1,bytesOf,qyk hn,qy0 hn,ryk hn,ry0 hn,qdk,qd0,List.length_replicate,List.length_set,hn,hn,i1]
   refine pcall_chain _ _ (by simp) (hxd hn _ _ _) ((iWord hTl 5).chain hpK hok) ?_
   rw [hw]
   simp only [go_sem,reduceIte,↓reduceIte,sevalprocAttr,Z0,Z1,bytesOf,qyk hn,qy0 hn,ryk hn,ry0 hn,qdk,qd0,List.length_replicate,List.length_set,hn,hn,gx0,gxk,sx0,sxk,Nat.add_zero]
   refine ⟨by intro r hr; simp at hr; subst hr; rfl,?_⟩
   refine hL.app hn (fun k o h=>get_ext h _) hTl (by decide) ?_
   intro id ver A' m1 m2 m3
   have j0:=(m3 0 (by decide)).trans i0
   have j1:=(m3 1 (by decide)).trans i1
   simp only [go_sem,reduceIte,↓reduceIte,sevalprocAttr,Z0,Z1,bytesOf,qyk hn,qy0 hn,ryk hn,ry0 hn,qdk,qd0,List.length_replicate,List.length_set,hn,hn,j1]
   exact ⟨⟨j - 1,adv s',acc++[(tokA T s').t],rs++[[sV (tokA T s').t]],.gs id ver 0 (rs.length+1),HH,A'.set 1 (.var [sV [],.gs id ver 0 (rs.length+1),.p .nl,iV tp])⟩,⟨⟨hL.next o5 hg hw hsw (by show s'.i<s'.i+1; omega) hn Kp.rfl frM (by have:=hM; omega) ((hL.env.base hn hp).snocP _) rfl m1 m2 (set_keep (by decide)) (by intro k hk; rw [List.length_set]; simp at hk; rcases hk with rfl | rfl; exact get_lt j0; exact get_lt j1),rfl,by rw [hrs]; simp,get_set j0 (by decide),set_get j1,fun h=>by simp at h⟩,rfl⟩,by have:=hok.1; show T.length - (s'.i+1)<T.length - s'.i; omega⟩
  ·obtain ⟨ha,hx⟩:=hL.stop hg
   simp only at ha hx
   subst hx
   simp only [go_sem,reduceIte,↓reduceIte,sevalprocAttr,Z0,Z1,bytesOf,qyk hn,qy0 hn,ryk hn,ry0 hn,qdk,qd0,List.length_replicate,List.length_set,hn,hn,hg]
   refine acall_pure (iWord hTl 3 HH _ p s' hpK hok) ?_
   rw [hq3]
   simp only [go_sem,reduceIte,↓reduceIte,sevalprocAttr,Z0,Z1,bytesOf,qyk hn,qy0 hn,ryk hn,ry0 hn,qdk,qd0,List.length_replicate,List.length_set,hn,hn,i1]
   refine acall_pure (iWant hT hTl [[61]] (by decide) hpK hs3 (by omega) (fun c=>by rw [qyk hn,gxs0]; rfl)) ?_
   simp only [go_sem,reduceIte,↓reduceIte,sevalprocAttr,Z0,Z1,bytesOf,qyk hn,qy0 hn,ryk hn,ry0 hn,qdk,qd0,List.length_replicate,List.length_set,hn,hn,wants1]
   have hvn0:∃ qn vn,qn<A.length∧(vs≠[]→qn ∉ [0,1]∧A[qn]?=some (.rows 1 vn (vs.map fun s=>[sV s])))∧((vs=[]∧a=.p .nl)∨(vs≠[]∧a=.gs (n+qn) vn 0 vs.length)):=by
    rcases Decidable.em (vs=[]) with h0 | h0
    ·exact ⟨0,0,get_lt i0,fun h=>(h h0).elim,.inl ⟨h0,hNil (by rw [ha]; exact h0)⟩⟩
    ·rcases hL.own with ⟨h1,h2⟩ | ⟨id,ver,e1,h1⟩
     ·simp only at h2
      rw [hrs,ha] at h2
      exact (h0 (by simpa using h2)).elim
     ·simp only at e1 h1
      obtain ⟨g1,g2⟩:=hL.ids _ _ _ _ e1
      obtain ⟨q,rfl⟩:=Nat.le.dest g1
      rw [Nat.add_sub_cancel_left] at g2
      rw [qyk hn,hrs,ha] at h1
      rw [hrs,ha,List.length_map] at e1
      exact ⟨q,ver,get_lt h1,fun _=>⟨g2,h1⟩,.inr ⟨h0,e1⟩⟩
   obtain ⟨qn,vn,hql,hqa,hvn⟩:=hvn0
   have hq1:vs≠[]→qn ∉ [0,1]:=fun h=>(hqa h).1
   have i0':∀ o B,((A.set 1 o)++B)[0]?=some (.var [sV [],.p .nl,.p .nl,iV 0]):=fun o B=>get_ext (get_set i0 (by decide)) B
   have i1':∀ o B,((A.set 1 o)++B)[1]?=some o:=fun o B=>get_ext (set_get i1) B
   have iq':∀ o B,vs≠[]→((A.set 1 o)++B)[qn]?=some (.rows 1 vn (vs.map fun s=>[sV s])):=fun o B h=>get_ext (get_set (hqa h).2 (by rintro rfl; exact hq1 h (by simp))) B
   refine ⟨LG CtorD,[0,2,3],fun x st=>(LB (pvI T most) T e b n p HH [0,1,qn] 7 CtorD.tv [124] (ctorP T ty) (c0 :: Rl) Rs x∧x.A[0]?=some (.var [sV [],.p .nl,.p .nl,iV 0])∧x.A[1]?=some (.var [sV nm,a,x.a,iV tp])∧(vs≠[]→x.A[qn]?=some (.rows 1 vn (vs.map fun s=>[sV s])))) ∧
     st=⟨[(0,.ptr p 0),(2,.ptr n 0),(3,.ptr (n+1) 0)],[],x.H.set p (pvI T most x.s)++x.A⟩,fun x=>T.length - x.s.i,
    ⟨⟨T.length,wantP T [61] s3,[],[],.p .nl,HH,(A.set 1 (.var [sV nm,a,.p .nl,iV tp]))++[.rows 1 0 [[sV [61]]]]⟩,?_⟩,?_⟩
   ·exact ⟨⟨LB.start hs4 (by rw [hq5,hR]) hn Kp.rfl hF hNN (by intro k hk; simp at hk ⊢; have:=get_lt i1; rcases hk with rfl | rfl | rfl <;> omega),i0' _ _,i1' _ _,iq' _ _⟩,rfl⟩
   ·rintro x _ ⟨⟨hL,k0,k1,kq⟩,rfl⟩
    have hpx:p<x.H.length:=by rw [hL.hn]; omega
    simp only [go_sem,reduceIte,↓reduceIte,sevalprocAttr,Z0,Z1,bytesOf,qyk hL.hn,qy0 hL.hn,ryk hL.hn,ry0 hL.hn,qdk,qd0,List.length_replicate,List.length_set,hL.hn,hL.hn]
    refine acall_pure (iNow x.H _ p x.s hpx hL.ok) ?_
    simp only [go_sem,reduceIte,↓reduceIte,sevalprocAttr,Z0,Z1,bytesOf,qyk hL.hn,qy0 hL.hn,ryk hL.hn,ry0 hL.hn,qdk,qd0,List.length_replicate,List.length_set,hL.hn,hL.hn,Tok.cells]
    refine acall_pure (iWord hTl 4 x.H _ p x.s hpx hL.ok) ?_
    rcases hw:wordP T 4 x.s with ⟨cn,s6⟩
    have hs6:=hL.ok.run (StayM.word hT (k:=4) (by decide))
    rw [hw] at hs6
    simp only at hs6
    simp only [go_sem,reduceIte,↓reduceIte,sevalprocAttr,Z0,Z1,bytesOf,qyk hL.hn,qy0 hL.hn,ryk hL.hn,ry0 hL.hn,qdk,qd0,List.length_replicate,List.length_set,hL.hn,hL.hn]
    generalize hcp:(tokA T x.s).p=cp
    refine acall_pure (iTake hTl [111,102] x.H _ p s6 hpx hs6) ?_
    unfold takeM
    cases hof:isT T [111,102] s6
    ·have hm:ctorP T ty x.s=(⟨cn,false,ty0,cp⟩,s6):=by unfold ctorP; rw [nowP_e,bindP_e,hw,iteG_f hof,hcp]; rfl
     obtain ⟨M,fr8,hM⟩:=hL.room hm
     obtain ⟨H8,hH8⟩:∃ H8,H8=x.H:=⟨_,rfl⟩
     have hn8:H8.length=n:=by rw [hH8]; exact hL.hn
     have kp8:Kp b x.H H8:=by rw [hH8]; exact Kp.rfl
     have hs8:=hs6
     have hE8:∀ A',Env b n (x.H.set p (pvI T most s6)++A') ((x.acc.map CtorD.tv).flatten++CtorD.tv ⟨cn,false,ty0,cp⟩) (x.rs.flatten++[sV cn,.p (.b false),iV 0,sV [],iV 0,.p .nl,iV cp]):=fun A'=>by
      have h1:=(((((((hL.env.base (c':=pvI T most s6) (A':=A') hL.hn hp).snocP (.s cn)).snocP (.b false)).snocP (.i .i64 0)).snocP (.s [])).snocP (.i .i64 0)).nl (sz:=4)).snocP (.i .i64 cp)
      simpa [CtorD.tv,ty0,TyE.tv,TyE.tvL,List.append_assoc] using h1
     simp only [go_sem,reduceIte,↓reduceIte,sevalprocAttr,Z0,Z1,bytesOf,qyk hL.hn,qy0 hL.hn,ryk hL.hn,ry0 hL.hn,qdk,qd0,List.length_replicate,List.length_set,hL.hn,hL.hn,hof]
     rw [← hH8] at hE8 fr8 ⊢
     generalize hss:s6=s8 at *
     have hge8:x.s.i≤s8.i:=by have:=(sC x.s hL.ok.1).1; rw [hm] at this; exact this
     have hp8:p<H8.length:=by omega
     simp only [go_sem,reduceIte,↓reduceIte,sevalprocAttr,Z0,Z1,bytesOf,qyk hn8,qy0 hn8,ryk hn8,ry0 hn8,qdk,qd0,List.length_replicate,List.length_set,hn8,hn8,gx0,gxk,sx0,sxk,Nat.add_zero,get_ext k1 _]
     refine ⟨by intro r hr; simp at hr; subst hr; rfl,?_⟩
     refine app_o hL.hn hn8 hL.own hL.ids hL.nm (by rw [hL.len]; have:=hL.ln; have:=hL.ok.1; omega) (fun k o h=>get_ext h _) (by decide) ?_
     intro id ver A' w1 w2 w3
     have j0:=(w3 0 (by simp)).trans k0
     have j1:=(w3 1 (by simp)).trans k1
     have hz:∀ o,(A'.set 1 o)[1]?=some o:=fun o=>set_get j1
     have hz0:∀ o,(A'.set 1 o)[0]?=some (.var [sV [],.p .nl,.p .nl,iV 0]):=fun o=>get_set j0 (by decide)
     have jq:vs≠[]→∀ o,(A'.set 1 o)[qn]?=some (.rows 1 vn (vs.map fun s=>[sV s])):=fun h o=>get_set ((w3 qn (by simp)).trans (kq h)) (by rintro rfl; exact hq1 h (by simp))
     simp only [go_sem,reduceIte,↓reduceIte,sevalprocAttr,Z0,Z1,bytesOf,qyk hn8,qy0 hn8,ryk hn8,ry0 hn8,qdk,qd0,List.length_replicate,List.length_set,hn8,hn8,j1]
     refine acall_pure (iTake hTl [124] H8 _ p s8 hp8 hs8) ?_
     unfold takeM
     cases hg:isT T [124] s8
     ·obtain ⟨ha2,hx2⟩:=hL.stop hm hg
      subst hx2
      simp only [go_sem,reduceIte,↓reduceIte,sevalprocAttr,Z0,Z1,bytesOf,qyk hn8,qy0 hn8,ryk hn8,ry0 hn8,qdk,qd0,List.length_replicate,List.length_set,hn8,hn8,hg,Bool.not_true,Bool.not_false]
      refine acall_pure (iWant hT hTl [[59]] (by decide) hp8 hs8 (by omega) (fun c=>by rw [qyk hn8,gxs0]; rfl)) ?_
      have hg1:∀ o B,((A'.set 1 o)++B)[1]?=some o:=fun o B=>get_ext (hz o) B
      have hg0:∀ o B,((A'.set 1 o)++B)[0]?=some (.var [sV [],.p .nl,.p .nl,iV 0]):=fun o B=>get_ext (hz0 o) B
      have hgs:∀ o B o',(((A'.set 1 o)++B).set 0 o')[0]?=some o':=fun o B o'=>set_get (hg0 o B)
      simp only [go_sem,reduceIte,↓reduceIte,sevalprocAttr,Z0,Z1,bytesOf,qyk hn8,qy0 hn8,ryk hn8,ry0 hn8,qdk,qd0,List.length_replicate,List.length_set,hn8,hn8,wants1,hg1,hg0,hgs]
      have hrows:=fun c=>LB.own1 (x:=x) (A'':=((A'.set 1 (.var [sV nm,a,.gs id ver 0 (x.rs.length+1),iV tp]))++[AO.rows 1 0 [[sV [59]]]]).set 0 (.var [sV nm,a,.gs id ver 0 (x.rs.length+1),iV tp])) hn8 w1 w2 (fun k o hk ho=>by
       simp at hk
       rw [List.getElem?_set_ne (by omega)]
       exact get_ext (get_set ho (by omega)) _) c
      have e9:(x.rs++[[sV cn,.p (.b false),iV 0,sV [],iV 0,.p .nl,iV cp]]).length=x.rs.length+1:=by simp
      obtain ⟨u,hfin⟩:=data_node (nm:=nm) (q:=tp) (idn:=n+qn) (vn:=vn) (a:=a) (vars:=vs) (l:=c0 :: Rl) (rs:=x.rs++[[sV cn,.p (.b false),iV 0,sV [],iV 0,.p .nl,iV cp]]) (by
       have:=Env.base (A':=((A'.set 1 (.var [sV nm,a,.gs id ver 0 (x.rs.length+1),iV tp]))++[AO.rows 1 0 [[sV [59]]]]).set 0 (.var [sV nm,a,.gs id ver 0 (x.rs.length+1),iV tp])) (c':=pvI T most (wantP T [59] s8)) (hE8 []) hn8 hp
       rw [← ha2]
       simpa [List.append_assoc] using this) (hrows _) w2.1 hb (by rw [← ha2]; simp [hL.len]) (by intro r hr; rcases List.mem_append.1 hr with hr | hr; exact hL.sz1 r hr; simp at hr; subst hr; rfl) (by simp) (by
       rcases hvn with ⟨h1,h2⟩ | ⟨h1,h2⟩
       ·exact .inl ⟨h1,h2⟩
       ·refine .inr ⟨h1,h2,?_,Nat.le_add_right _ _,?_⟩
        ·rw [qyk hn8,List.getElem?_set_ne (by rintro h; exact hq1 h1 (by simp [← h]))]; exact get_ext (jq h1 _) _
        ·rintro rfl
         have:=w2.2
         rw [Nat.add_sub_cancel_left] at this
         exact this (by simp))
      rw [e9] at hfin
      exact ⟨_,H8,_,_,rfl,rfl,hL.kp.trans kp8,hfin⟩
     ·simp only [go_sem,reduceIte,↓reduceIte,sevalprocAttr,Z0,Z1,bytesOf,qyk hn8,qy0 hn8,ryk hn8,ry0 hn8,qdk,qd0,List.length_replicate,List.length_set,hn8,hn8,hg,Bool.not_true,Bool.not_false]
      exact ⟨⟨x.j - 1,adv s8,x.acc++[⟨cn,false,ty0,cp⟩],x.rs++[[sV cn,.p (.b false),iV 0,sV [],iV 0,.p .nl,iV cp]],.gs id ver 0 (x.rs.length+1),H8,A'.set 1 (.var [sV nm,a,.gs id ver 0 (x.rs.length+1),iV tp])⟩,
       ⟨⟨hL.next hT hm hs8 hge8 hg hn8 kp8 fr8 (by omega) (by
        have:=Env.base (A':=A'.set 1 (.var [sV nm,a,.gs id ver 0 (x.rs.length+1),iV tp])) (c':=pvI T most (adv s8)) (hE8 []) hn8 hp
        exact this) rfl w1 w2 (set_keep (by simp)) (fun k hk=>by
         have h1:=hL.nm k hk
         rw [List.length_set]
         exact get_lt ((w3 k hk).trans (List.getElem?_eq_getElem h1))),hz0 _,hz _,fun h=>jq h _⟩,rfl⟩,by have h1:=isT_k hg; have h2:=hs8.1; have h3:=hL.ok.1; show T.length - (s8.i+1)<T.length - x.s.i; omega⟩
    ·have hsa:=hs6.adv hT (isT_k hof).2
     rcases hq8:ty (adv s6) with ⟨⟨k7,n7,q7,l7⟩,s8⟩
     have hs8:=hsa.run sP
     rw [hq8] at hs8
     simp only at hs8
     have hm:ctorP T ty x.s=(⟨cn,true,.mk k7 n7 q7 l7,cp⟩,s8):=by unfold ctorP; rw [nowP_e,bindP_e,hw,iteG_t hof,bindP_e,hq8,hcp]; rfl
     obtain ⟨M,frM,hM⟩:=hL.room hm
     rw [ctor_nC] at hM
     obtain ⟨H8,cs8,hn8,kp8,fr8,cl8,_,env8,call8⟩:=(hP p).use TyE.wf hq8 hL.hn hp hb hsa frM (by omega)
     have hE7:=fun A'=>env8 _ _ [] A' (((hL.env.base (c':=pvI T most (adv s6)) (A':=[]) hL.hn hp).snocP (.s cn)).snocP (.b true))
     obtain ⟨c8,rfl⟩:=(hE7 []).tyC (by rw [((hL.env.snocP (.s cn)).snocP (.b true)).len])
     have hE8:∀ A',Env b n (H8.set p (pvI T most s8)++A') ((x.acc.map CtorD.tv).flatten++CtorD.tv ⟨cn,true,.mk k7 n7 q7 l7,cp⟩) (x.rs.flatten++[sV cn,.p (.b true),iV k7,sV n7,iV q7,c8,iV cp]):=fun A'=>by
      have h1:=(hE7 A').snocP (.i .i64 cp)
      simpa [CtorD.tv,List.append_assoc] using h1
     simp only [go_sem,reduceIte,↓reduceIte,sevalprocAttr,Z0,Z1,bytesOf,qyk hL.hn,qy0 hL.hn,ryk hL.hn,ry0 hL.hn,qdk,qd0,List.length_replicate,List.length_set,hL.hn,hL.hn,hof]
     refine acall_pure (call8 _ trivial) ?_
     have hge8:x.s.i≤s8.i:=by have:=(sC x.s hL.ok.1).1; rw [hm] at this; exact this
     have hp8:p<H8.length:=by omega
     simp only [go_sem,reduceIte,↓reduceIte,sevalprocAttr,Z0,Z1,bytesOf,qyk hn8,qy0 hn8,ryk hn8,ry0 hn8,qdk,qd0,List.length_replicate,List.length_set,hn8,hn8,gx0,gxk,sx0,sxk,Nat.add_zero,get_ext k1 _]
     refine ⟨by intro r hr; simp at hr; subst hr; rfl,?_⟩
     refine app_o hL.hn hn8 hL.own hL.ids hL.nm (by rw [hL.len]; have:=hL.ln; have:=hL.ok.1; omega) (fun k o h=>get_ext h _) (by decide) ?_
     intro id ver A' w1 w2 w3
     have j0:=(w3 0 (by simp)).trans k0
     have j1:=(w3 1 (by simp)).trans k1
     have hz:∀ o,(A'.set 1 o)[1]?=some o:=fun o=>set_get j1
     have hz0:∀ o,(A'.set 1 o)[0]?=some (.var [sV [],.p .nl,.p .nl,iV 0]):=fun o=>get_set j0 (by decide)
     have jq:vs≠[]→∀ o,(A'.set 1 o)[qn]?=some (.rows 1 vn (vs.map fun s=>[sV s])):=fun h o=>get_set ((w3 qn (by simp)).trans (kq h)) (by rintro rfl; exact hq1 h (by simp))
     simp only [go_sem,reduceIte,↓reduceIte,sevalprocAttr,Z0,Z1,bytesOf,qyk hn8,qy0 hn8,ryk hn8,ry0 hn8,qdk,qd0,List.length_replicate,List.length_set,hn8,hn8,j1]
     refine acall_pure (iTake hTl [124] H8 _ p s8 hp8 hs8) ?_
     unfold takeM
     cases hg:isT T [124] s8
     ·obtain ⟨ha2,hx2⟩:=hL.stop hm hg
      subst hx2
      simp only [go_sem,reduceIte,↓reduceIte,sevalprocAttr,Z0,Z1,bytesOf,qyk hn8,qy0 hn8,ryk hn8,ry0 hn8,qdk,qd0,List.length_replicate,List.length_set,hn8,hn8,hg,Bool.not_true,Bool.not_false]
      refine acall_pure (iWant hT hTl [[59]] (by decide) hp8 hs8 (by omega) (fun c=>by rw [qyk hn8,gxs0]; rfl)) ?_
      have hg1:∀ o B,((A'.set 1 o)++B)[1]?=some o:=fun o B=>get_ext (hz o) B
      have hg0:∀ o B,((A'.set 1 o)++B)[0]?=some (.var [sV [],.p .nl,.p .nl,iV 0]):=fun o B=>get_ext (hz0 o) B
      have hgs:∀ o B o',(((A'.set 1 o)++B).set 0 o')[0]?=some o':=fun o B o'=>set_get (hg0 o B)
      simp only [go_sem,reduceIte,↓reduceIte,sevalprocAttr,Z0,Z1,bytesOf,qyk hn8,qy0 hn8,ryk hn8,ry0 hn8,qdk,qd0,List.length_replicate,List.length_set,hn8,hn8,wants1,hg1,hg0,hgs]
      have hrows:=fun c=>LB.own1 (x:=x) (A'':=((A'.set 1 (.var [sV nm,a,.gs id ver 0 (x.rs.length+1),iV tp]))++[AO.rows 1 0 [[sV [59]]]]).set 0 (.var [sV nm,a,.gs id ver 0 (x.rs.length+1),iV tp])) hn8 w1 w2 (fun k o hk ho=>by
       simp at hk
       rw [List.getElem?_set_ne (by omega)]
       exact get_ext (get_set ho (by omega)) _) c
      have e9:(x.rs++[[sV cn,.p (.b true),iV k7,sV n7,iV q7,c8,iV cp]]).length=x.rs.length+1:=by simp
      obtain ⟨u,hfin⟩:=data_node (nm:=nm) (q:=tp) (idn:=n+qn) (vn:=vn) (a:=a) (vars:=vs) (l:=c0 :: Rl) (rs:=x.rs++[[sV cn,.p (.b true),iV k7,sV n7,iV q7,c8,iV cp]]) (by
       have:=Env.base (A':=((A'.set 1 (.var [sV nm,a,.gs id ver 0 (x.rs.length+1),iV tp]))++[AO.rows 1 0 [[sV [59]]]]).set 0 (.var [sV nm,a,.gs id ver 0 (x.rs.length+1),iV tp])) (c':=pvI T most (wantP T [59] s8)) (hE8 []) hn8 hp
       rw [← ha2]
       simpa [List.append_assoc] using this) (hrows _) w2.1 hb (by rw [← ha2]; simp [hL.len]) (by intro r hr; rcases List.mem_append.1 hr with hr | hr; exact hL.sz1 r hr; simp at hr; subst hr; rfl) (by simp) (by
       rcases hvn with ⟨h1,h2⟩ | ⟨h1,h2⟩
       ·exact .inl ⟨h1,h2⟩
       ·refine .inr ⟨h1,h2,?_,Nat.le_add_right _ _,?_⟩
        ·rw [qyk hn8,List.getElem?_set_ne (by rintro h; exact hq1 h1 (by simp [← h]))]; exact get_ext (jq h1 _) _
        ·rintro rfl
         have:=w2.2
         rw [Nat.add_sub_cancel_left] at this
         exact this (by simp))
      rw [e9] at hfin
      exact ⟨_,H8,_,_,rfl,rfl,hL.kp.trans kp8,hfin⟩
     ·simp only [go_sem,reduceIte,↓reduceIte,sevalprocAttr,Z0,Z1,bytesOf,qyk hn8,qy0 hn8,ryk hn8,ry0 hn8,qdk,qd0,List.length_replicate,List.length_set,hn8,hn8,hg,Bool.not_true,Bool.not_false]
      exact ⟨⟨x.j - 1,adv s8,x.acc++[⟨cn,true,.mk k7 n7 q7 l7,cp⟩],x.rs++[[sV cn,.p (.b true),iV k7,sV n7,iV q7,c8,iV cp]],.gs id ver 0 (x.rs.length+1),H8,A'.set 1 (.var [sV nm,a,.gs id ver 0 (x.rs.length+1),iV tp])⟩,
       ⟨⟨hL.next hT hm hs8 hge8 hg hn8 kp8 fr8 (by omega) (by
        have:=Env.base (A':=A'.set 1 (.var [sV nm,a,.gs id ver 0 (x.rs.length+1),iV tp])) (c':=pvI T most (adv s8)) (hE8 []) hn8 hp
        exact this) rfl w1 w2 (set_keep (by simp)) (fun k hk=>by
         have h1:=hL.nm k hk
         rw [List.length_set]
         exact get_lt ((w3 k hk).trans (List.getElem?_eq_getElem h1))),hz0 _,hz _,fun h=>jq h _⟩,rfl⟩,by have h1:=isT_k hg; have h2:=hs8.1; have h3:=hL.ok.1; show T.length - (s8.i+1)<T.length - x.s.i; omega⟩
end
end Go.Proofs.YtghcmccjchdgeaaGreatDoor.Qp
/- The program's programs. -/
set_option linter.all false
namespace Go.Proofs.YtghcmccjchdgeaaGreatDoor.Qp
open Go.AM Mc Pg
theorem prog_nC (ds:List DataD) (ex:ExpD):nC (ProgD.tv ⟨ds,ex⟩)=nK (ds.map DataD.tv)+nC ex.tv:=by simp [ProgD.tv,nC,nT]
section
variable {T:List Tok} {most e:Nat} (hT:ToksOk T) (hTl:T.length≤1048577)
include hT hTl
theorem data_gt {ty:PM TyE} (sty:StayM T ty) {s:PS} (hi:s.i<T.length) (hg:isT T [116,121,112,101] s=true):s.i<(dataP T T.length ty s).2.i:=by
 unfold dataP
 rw [nowP_e,stepP_e]
 have ew:wantP T [116,121,112,101] s=adv s:=by unfold wantP; rw [if_pos hg]
 rw [ew]
 generalize (tokA T s).p=tp
 refine (Stay.adv hT (f:=fun s'=>((bindP (many (isK T 5) (wordP T 5) T.length) fun vs=>bindP (wordP T 3) fun n=>stepP (wantP T [61]) <|
 bindP (ctorP T ty) fun c=>bindP (many (isT T [124]) (advP (ctorP T ty)) T.length) fun cs=>stepP (wantP T [59]) <| retP (DataD.mk n vs (c :: cs) tp)) s').2) ?_ hi (isT_k hg).2).1
 exact StayM.bind (StayM.many (only_isK T (by decide)) (StayM.word hT (by decide)) _) fun _=>StayM.bind (StayM.word hT (by decide)) fun _=>StayM.step (stay_want hT _) <| StayM.bind (stay_ctorP hT sty) fun _=>StayM.bind (StayM.manyA hT (only_isT T _) (stay_ctorP hT sty) _) fun _=>StayM.step (stay_want hT _) (StayM.ret _)
theorem iProgC {ty:PM TyE} {ex:PM ExpD} (hP:PFo T most e 115 [iV 1] ty TyE.tv) (sP:StayM T ty) (hX:PFo T most e 29 [iV 1] ex ExpD.tv) (sX:StayM T ex):PFo T most e 39 [] (progP T T.length ty ex) ProgD.tv:=by
 have hD:=iDataC hT hTl hP sP
 have sD:=Pg.stay_dataP (N:=T.length) hT sP
 have oT:Only T (isT T [116,121,112,101]):=only_isT T _
 refine pfo_of fun p K b n s hn hp hb hs hF=>?_
 have hpK:p<K.length:=by omega
 refine call39 (by simp) ?_
 simp only [go_sem,reduceIte,↓reduceIte,sevalprocAttr,Z0,Z1,bytesOf,qyk hn,qy0 hn,ryk hn,ry0 hn,qdk,qd0,List.length_replicate,List.length_set,hn,hn,mc39,mr39]
 unfold progP at hF ⊢
 rcases hV:many (isT T [116,121,112,101]) (dataP T T.length ty) T.length s with ⟨ds,s2⟩
 rcases hq5:ex s2 with ⟨⟨k5,n5,u5,t5,q5,l5,m5⟩,s5⟩
 simp only [bindP_e,stepP_e,retP_e,hV,hq5] at hF ⊢
 have hNN:nR (ds.map DataD.tv)+nC (ExpD.tv (.mk k5 n5 u5 t5 q5 l5 m5))≤nC (ProgD.tv ⟨ds,.mk k5 n5 u5 t5 q5 l5 m5⟩):=by rw [prog_nC]; have:=nK_le (ds.map DataD.tv); omega
 generalize hNe:nC (ProgD.tv ⟨ds,.mk k5 n5 u5 t5 q5 l5 m5⟩)=NN at hF hNN
 refine ⟨LG DataD × Nat,[0,2,3],fun x st=>(LO (pvI T most) T e b n p K [0,1] 4 DataD.tv (isT T [116,121,112,101]) (dataP T T.length ty) ds s2 x.1∧x.1.A[0]?=some (.var [.p .nl,iV 0,sV [],iV 0,sV [],iV 0,.p .nl,.p .nl])∧x.1.A[1]?=some (.var [x.1.a,iV 0,sV [],iV 0,sV [],iV 0,.p .nl,.p .nl])∧(x.1.acc=[]→x.1.a=.p .nl)∧Fr b x.1.H x.2∧nR ((many (isT T [116,121,112,101]) (dataP T T.length ty) x.1.j x.1.s).1.map DataD.tv)+nC (ExpD.tv (.mk k5 n5 u5 t5 q5 l5 m5))≤x.2) ∧
   st=⟨[(0,.ptr p 0),(2,.ptr n 0),(3,.ptr (n+1) 0)],[],x.1.H.set p (pvI T most x.1.s)++x.1.A⟩,fun x=>T.length - x.1.s.i,
  ⟨(⟨T.length,s,[],[],.p .nl,K,[.var [.p .nl,iV 0,sV [],iV 0,sV [],iV 0,.p .nl,.p .nl],.var [.p .nl,iV 0,sV [],iV 0,sV [],iV 0,.p .nl,.p .nl]]⟩,NN),?_⟩,?_⟩
 ·refine ⟨⟨LO.start hs hV hn Kp.rfl hF (by omega) (by simp),rfl,rfl,fun _=>rfl,hF,by simp only [hV]; omega⟩,?_⟩
  simp only [go_sem,reduceIte,↓reduceIte,sevalprocAttr,Z0,Z1,bytesOf,qyk hn,qy0 hn,ryk hn,ry0 hn,qdk,qd0,List.length_replicate,List.length_set,hn,hn]
 ·rintro ⟨x,M⟩ _ ⟨⟨hL,i0,i1,hNil,frM,hM⟩,rfl⟩
  simp only at hL i0 i1 hNil frM hM ⊢
  have hpx:p<x.H.length:=by rw [hL.hn]; omega
  simp only [go_sem,reduceIte,↓reduceIte,sevalprocAttr,Z0,Z1,bytesOf,qyk hL.hn,qy0 hL.hn,ryk hL.hn,ry0 hL.hn,qdk,qd0,List.length_replicate,List.length_set,hL.hn,hL.hn]
  refine acall_pure (iIs [116,121,112,101] x.H _ p x.s hpx hL.ok) ?_
  cases hg:isT T [116,121,112,101] x.s
  ·obtain ⟨ha,hx⟩:=hL.stop hg
   subst hx
   rw [many_c hg] at hM
   simp only [List.map_nil,nR,Nat.zero_add] at hM
   simp only [go_sem,reduceIte,↓reduceIte,sevalprocAttr,Z0,Z1,bytesOf,qyk hL.hn,qy0 hL.hn,ryk hL.hn,ry0 hL.hn,qdk,qd0,List.length_replicate,List.length_set,hL.hn,hL.hn,hg]
   obtain ⟨H5,cs5,hn5,kp5,fr5,cl5,_,env5,call5⟩:=(hX p).use ExpD.wf hq5 hL.hn hp hb hL.ok frM hM
   have hE5:=fun A'=>env5 _ _ x.A A' hL.env
   obtain ⟨c5,b5,rfl⟩:=(hE5 []).expC hL.env.len
   refine acall_pure (call5 _ trivial) ?_
   have hp5:p<H5.length:=by omega
   have hs5:=hL.ok.run sX
   rw [hq5] at hs5
   simp only at hs5
   simp only [go_sem,reduceIte,↓reduceIte,sevalprocAttr,Z0,Z1,bytesOf,qyk hn5,qy0 hn5,ryk hn5,ry0 hn5,qdk,qd0,List.length_replicate,List.length_set,hn5,hn5,i1]
   refine acall_pure (iEnd H5 _ p s5 hp5 hs5) ?_
   have hz:∀ o,(x.A.set 1 o)[1]?=some o:=fun o=>set_get i1
   have hz0:∀ o,(x.A.set 1 o)[0]?=some (.var [.p .nl,iV 0,sV [],iV 0,sV [],iV 0,.p .nl,.p .nl]):=fun o=>get_set i0 (by decide)
   have hz2:∀ o o',((x.A.set 1 o).set 0 o')[0]?=some o':=fun o o'=>set_get (hz0 o)
   simp only [go_sem,reduceIte,↓reduceIte,sevalprocAttr,Z0,Z1,bytesOf,qyk hn5,qy0 hn5,ryk hn5,ry0 hn5,qdk,qd0,List.length_replicate,List.length_set,hn5,hn5,hz,hz0,hz2]
   have hfin:∃ u,Env b u (H5.set p (pvI T most (endP T s5))++(x.A.set 1 (.var [x.a,iV k5,sV n5,iV u5,sV t5,iV q5,c5,b5])).set 0 (.var [x.a,iV k5,sV n5,iV u5,sV t5,iV q5,c5,b5])) (ProgD.tv ⟨ds,.mk k5 n5 u5 t5 q5 l5 m5⟩) [x.a,iV k5,sV n5,iV u5,sV t5,iV q5,c5,b5]:=by
    by_cases h0:ds=[]
    ·have hE:=(hE5 []).base (c':=pvI T most (endP T s5)) (A':=(x.A.set 1 (.var [x.a,iV k5,sV n5,iV u5,sV t5,iV q5,c5,b5])).set 0 (.var [x.a,iV k5,sV n5,iV u5,sV t5,iV q5,c5,b5])) hn5 hp
     have hl:=hL.len
     rw [ha,h0] at hl
     rw [ha,h0,List.length_eq_zero_iff.1 hl] at hE
     subst h0
     rw [hNil ha] at hE ⊢
     exact ⟨_,Env.nlF (by simpa using hE)⟩
    ·rcases hL.own with ⟨h1,h2⟩ | ⟨id,ver,e1,h1⟩
     ·have hl:=hL.len; rw [h2,ha] at hl; exact (h0 (List.length_eq_zero_iff.1 hl.symm)).elim
     ·obtain ⟨g1,g2⟩:=hL.ids _ _ _ _ e1
      obtain ⟨q,rfl⟩:=Nat.le.dest g1
      rw [Nat.add_sub_cancel_left] at g2
      rw [qyk hL.hn] at h1
      have hE:=(hE5 []).base (c':=pvI T most (endP T s5)) (A':=(x.A.set 1 (.var [x.a,iV k5,sV n5,iV u5,sV t5,iV q5,c5,b5])).set 0 (.var [x.a,iV k5,sV n5,iV u5,sV t5,iV q5,c5,b5])) hn5 hp
      rw [ha] at hE
      have hfl:=hL.len
      rw [ha] at hfl
      simp at g2
      rw [e1] at hE ⊢
      exact ⟨_,Env.nodeF hE (by rw [qyk hn5,List.getElem?_set_ne (by omega),List.getElem?_set_ne (by omega)]; exact h1) (by omega) (by omega) (by simpa using hfl) (by intro r hr; obtain ⟨d,_,rfl⟩:=List.mem_map.1 hr; exact DataD.tv_len d) hL.sz1 (by simpa using h0)⟩
   obtain ⟨u,hfin⟩:=hfin
   exact ⟨_,H5,_,u,rfl,rfl,hL.kp.trans kp5,hfin⟩
  ·obtain ⟨j,hj⟩:=hL.succ oT hg
   have hs3:=hL.ok.run sD
   have hgt:=data_gt hT hTl sP hL.ok.1 hg
   rcases hq3:dataP T T.length ty x.s with ⟨⟨dn,dv,dc,dq⟩,s3⟩
   rw [hq3] at hs3 hgt
   simp only at hs3
   rw [hj,many,if_pos hg,hq3] at hM
   simp only [List.map_cons,nR] at hM
   obtain ⟨H2,cs2,hn2,kp2,fr2,cl2,_,env2,call2⟩:=(hD p).use DataD.wf hq3 hL.hn hp hb hL.ok frM (by omega)
   have hE2:=fun A'=>env2 _ _ x.A A' hL.env
   have hcl:cs2.length=4:=cl2
   obtain ⟨e0,e1,e2,e3,rfl⟩:=len4 hcl
   simp only [go_sem,reduceIte,↓reduceIte,sevalprocAttr,Z0,Z1,bytesOf,qyk hL.hn,qy0 hL.hn,ryk hL.hn,ry0 hL.hn,qdk,qd0,List.length_replicate,List.length_set,hL.hn,hL.hn,hg]
   refine ⟨_,hxd hL.hn _ _ _,?_⟩
   simp only [go_sem,reduceIte,↓reduceIte,sevalprocAttr,Z0,Z1,bytesOf,qyk hL.hn,qy0 hL.hn,ryk hL.hn,ry0 hL.hn,qdk,qd0,List.length_replicate,List.length_set,hL.hn,hL.hn,i1]
   refine pcall_chain _ _ (chl hn2 hL.hn _ _ _) (hxd hn2 _ _ _) (chn call2 _ fun _=>trivial) ?_
   simp only [go_sem,reduceIte,↓reduceIte,sevalprocAttr,Z0,Z1,bytesOf,qyk hn2,qy0 hn2,ryk hn2,ry0 hn2,qdk,qd0,List.length_replicate,List.length_set,hn2,hn2,gx0,gxk,sx0,sxk,Nat.add_zero]
   refine ⟨by intro r hr; simp at hr; subst hr; rfl,?_⟩
   refine hL.app hn2 (fun k o h=>get_ext h _) hTl (by decide) ?_
   intro id ver A' m1 m2 m3
   have j0:=(m3 0 (by decide)).trans i0
   have j1:=(m3 1 (by decide)).trans i1
   simp only [go_sem,reduceIte,↓reduceIte,sevalprocAttr,Z0,Z1,bytesOf,qyk hn2,qy0 hn2,ryk hn2,ry0 hn2,qdk,qd0,List.length_replicate,List.length_set,hn2,hn2,j1]
   have hj1:x.j - 1=j:=by omega
   exact ⟨(⟨x.j - 1,s3,x.acc++[⟨dn,dv,dc,dq⟩],x.rs++[[e0,e1,e2,e3]],.gs id ver 0 (x.rs.length+1),H2,A'.set 1 (.var [.gs id ver 0 (x.rs.length+1),iV 0,sV [],iV 0,sV [],iV 0,.p .nl,.p .nl])⟩,_),⟨⟨hL.next oT hg hq3 hs3 hgt hn2 kp2 fr2 (by rw [hj1]; omega) (hE2 _) rfl m1 m2 (set_keep (by decide)) (by intro k hk; rw [List.length_set]; simp at hk; rcases hk with rfl | rfl; exact get_lt j0; exact get_lt j1),get_set j0 (by decide),set_get j1,fun h=>by simp at h,fr2,by simp only [hj1]; omega⟩,rfl⟩,by have h1:x.s.i<s3.i:=hgt; have:=hL.ok.1; simp only; omega⟩
end
end Go.Proofs.YtghcmccjchdgeaaGreatDoor.Qp
/- The reference's data and programs. -/
set_option linter.all false
namespace Go.Proofs.YtghcmccjchdgeaaGreatDoor.Qp
open Go.AM Mc Pg
theorem qpS {T:List Tok} {lim p:Nat} {H:List AO} (hp:p<H.length) (A:List AO) (s:PS):(H.set p (pvS T lim s)++A)[p]?=some (.var [ptV T,iV s.i,iV s.nest,iV s.d,iV lim,iV s.c,iV s.ps]):=qp hp A _
abbrev ctorV (c:CtorD):AV:=.st (c.cells.map .p)
abbrev dataV (d:DataD):AV:=.st (d.cells.map .p)
abbrev progV (p:ProgD):AV:=.st (p.cells.map .p)
theorem ctorE (c:CtorD):c.cells.length=7:=by obtain ⟨n,h,⟨k,m,q,l⟩,p⟩:=c; rfl
theorem dataE (d:DataD):d.cells.length=4:=rfl
section
variable {T:List Tok} {lim e:Nat} (hT:ToksOk T) (hTl:T.length≤1048577)
include hT hTl
theorem sCtorC {ty:PM TyE} (hty:PF (pvS T lim) T e 172 [] ty tyV) (sty:StayM T ty):PF (pvS T lim) T e 114 [] (ctorP T ty) ctorV:=by
 refine pf_of (pvS_tf T lim) fun H p s hp hs=>?_
 refine call114 (by simp) ?_
 simp only [go_sem,reduceIte,↓reduceIte,sevalprocAttr,Z0,Z1,bytesOf,qx0,qxk,qs0,qsk,List.length_set,mc114,mr114]
 refine acall_pure (sNow H _ p s hp hs) ?_
 simp only [go_sem,reduceIte,↓reduceIte,sevalprocAttr,Z0,Z1,bytesOf,qx0,qxk,qs0,qsk,List.length_set,Tok.cells]
 unfold ctorP
 rw [nowP_e,bindP_e]
 generalize (tokA T s).p=tp
 refine acall_pure (sWord hTl 4 H _ p s hp hs) ?_
 rcases hw:wordP T 4 s with ⟨cn,s6⟩
 have hs6:=hs.run (StayM.word hT (k:=4) (by decide))
 rw [hw] at hs6
 simp only at hs6
 simp only [go_sem,reduceIte,↓reduceIte,sevalprocAttr,Z0,Z1,bytesOf,qx0,qxk,qs0,qsk,List.length_set]
 refine acall_pure (sHas hTl [111,102] H _ p s6 hp hs6) ?_
 unfold takeM
 cases hof:isT T [111,102] s6
 ·rw [iteG_f hof]
  simp only [go_sem,reduceIte,↓reduceIte,sevalprocAttr,Z0,Z1,bytesOf,qx0,qxk,qs0,qsk,List.length_set,hof]
  exact ⟨_,rfl,LentC.st (.pc (.pc (.pc (.pc (.pc (.cons .nl (.pc .nil)))))))⟩
 ·rw [iteG_t hof]
  have hsa:=hs6.adv hT (isT_k hof).2
  simp only [go_sem,reduceIte,↓reduceIte,sevalprocAttr,Z0,Z1,bytesOf,qx0,qxk,qs0,qsk,List.length_set,hof]
  refine acall_pure (hty H _ p _ hp hsa) ?_
  rcases hq8:ty (adv s6) with ⟨⟨k7,n7,q7,l7⟩,s8⟩
  rw [bindP_e,hq8]
  simp only [go_sem,reduceIte,↓reduceIte,sevalprocAttr,Z0,Z1,bytesOf,qx0,qxk,qs0,qsk,List.length_set,TyE.cells]
  exact ⟨_,rfl,lentP (tf_av (CtorD.cells ⟨cn,true,.mk k7 n7 q7 l7,tp⟩))⟩
theorem sDataC {ty:PM TyE} (hty:PF (pvS T lim) T e 172 [] ty tyV) (sty:StayM T ty):PF (pvS T lim) T e 71 [] (dataP T T.length ty) dataV:=by
 have hC:=sCtorC hT hTl hty sty
 have sC:=Pg.stay_ctorP hT sty
 have h5:(5:Int)≠8:=by decide
 have o5:Only T (isK T 5):=only_isK T h5
 refine pf_of (pvS_tf T lim) fun H p s hp hs=>?_
 refine call71 (by simp) ?_
 simp only [go_sem,reduceIte,↓reduceIte,sevalprocAttr,Z0,Z1,bytesOf,qx0,qxk,qs0,qsk,List.length_set,mc71,mr71]
 refine acall_pure (sNow H _ p s hp hs) ?_
 simp only [go_sem,reduceIte,↓reduceIte,sevalprocAttr,Z0,Z1,bytesOf,qx0,qxk,qs0,qsk,List.length_set,Tok.cells]
 unfold dataP
 rw [nowP_e,stepP_e]
 generalize (tokA T s).p=tp
 refine acall_pure (sWant hTl [116,121,112,101] H _ p s hp hs) ?_
 simp only [go_sem,reduceIte,↓reduceIte,sevalprocAttr,Z0,Z1,bytesOf,qx0,qxk,qs0,qsk,List.length_set]
 have hs1:=hs.step (stay_want hT [116,121,112,101])
 generalize wantP T [116,121,112,101] s=s1 at *
 rcases hV:many (isK T 5) (wordP T 5) T.length s1 with ⟨vs,s2⟩
 have hs2:=hs1.run (StayM.many o5 (StayM.word hT h5) T.length)
 rw [hV] at hs2
 simp only at hs2
 rcases hq3:wordP T 3 s2 with ⟨nm,s3⟩
 have hs3:=hs2.run (StayM.word hT (k:=3) (by decide))
 rw [hq3] at hs3
 simp only at hs3
 have hs4:=hs3.step (stay_want hT [61])
 rcases hq5:ctorP T ty (wantP T [61] s3) with ⟨c0,s5⟩
 have hs5:=hs4.run sC
 rw [hq5] at hs5
 simp only at hs5
 rcases hR:many (isT T [124]) (advP (ctorP T ty)) T.length s5 with ⟨Rl,Rs⟩
 simp only [bindP_e,stepP_e,retP_e,hV,hq3,hq5,hR]
 refine ⟨Nat × PS × List (List UInt8) × AV × List AO,[0,2,3],fun x st=>(Lp (pvS T lim) T e H p [0,1] 1 (fun s=>[PV.s s]) (isK T 5) (wordP T 5) vs s2 x.1 x.2.1 x.2.2.1 x.2.2.2.1 x.2.2.2.2∧x.2.2.2.2[0]?=some (.var [sV [],.p .nl,.p .nl,iV 0])∧x.2.2.2.2[1]?=some (.var [sV [],x.2.2.2.1,.p .nl,iV tp])) ∧
   st=⟨[(0,.ptr p 0),(2,.ptr H.length 0),(3,.ptr (H.length+1) 0)],[],H.set p (pvS T lim x.2.1)++x.2.2.2.2⟩,fun x=>T.length - x.2.1.i,⟨(T.length,s1,[],.p .nl,[.var [sV [],.p .nl,.p .nl,iV 0],.var [sV [],.p .nl,.p .nl,iV tp]]),?_⟩,?_⟩
 ·refine ⟨⟨Lp.start hs1 hV (by simp),rfl,rfl⟩,?_⟩
  simp only [go_sem,reduceIte,↓reduceIte,sevalprocAttr,Z0,Z1,bytesOf,qx0,qxk,qs0,qsk,List.length_set]
 ·rintro ⟨j,s',acc,a,A⟩ _ ⟨⟨hL,i0,i1⟩,rfl⟩
  simp only at hL i0 i1 ⊢
  have hk5:isK T 5 s'=(decide (s'.c=0) && decide ((tokA T s').k=5)):=rfl
  simp only [go_sem,reduceIte,↓reduceIte,sevalprocAttr,Z0,Z1,bytesOf,qx0,qxk,qs0,qsk,List.length_set,qpS hp]
  cases hc:decide (s'.c=0)
  ·have hg:isK T 5 s'=false:=by rw [hk5,hc]; rfl
   simp only [go_sem,reduceIte,↓reduceIte,sevalprocAttr,Z0,Z1,bytesOf,qx0,qxk,qs0,qsk,List.length_set,hc]
   obtain ⟨rfl,rfl⟩:=hL.stop hg
   refine acall_pure (sWord hTl 3 H _ p s' hp hL.ok) ?_
   rw [hq3]
   have hvn0:∃ qn vn,qn<A.length∧(a≠.p .nl→qn ∉ [0,1]∧A[qn]?=some (.rows 1 vn (acc.map fun s=>[sV s])))∧((acc=[]∧a=.p .nl)∨(a≠.p .nl∧a=.gs (H.length+qn) vn 0 acc.length)):=by
    rcases hL.own with ⟨h1,h2⟩ | ⟨id,ver,e1,h1⟩
    ·exact ⟨0,0,get_lt i0,fun h=>(h h1).elim,.inl ⟨by simpa using h2,h1⟩⟩
    ·obtain ⟨g1,g2⟩:=hL.ids _ _ _ _ e1
     obtain ⟨q,rfl⟩:=Nat.le.dest g1
     rw [Nat.add_sub_cancel_left] at g2
     rw [qxk] at h1
     have e2:a=.gs (H.length+q) ver 0 acc.length:=by rw [e1]; simp
     exact ⟨q,ver,get_lt h1,fun _=>⟨g2,by simpa using h1⟩,.inr ⟨(by rw [e2]; intro h; cases h),e2⟩⟩
   obtain ⟨qn,vn,hql,hqa,hvn⟩:=hvn0
   have hq1:a≠.p .nl→qn ∉ [0,1]:=fun h=>(hqa h).1
   have i0':∀ o,(A.set 1 o)[0]?=some (.var [sV [],.p .nl,.p .nl,iV 0]):=fun o=>get_set i0 (by decide)
   have i1':∀ o,(A.set 1 o)[1]?=some o:=fun o=>set_get i1
   have iq':∀ o,a≠.p .nl→(A.set 1 o)[qn]?=some (.rows 1 vn (acc.map fun s=>[sV s])):=fun o h=>get_set (hqa h).2 (by rintro rfl; exact hq1 h (by simp))
   simp only [go_sem,reduceIte,↓reduceIte,sevalprocAttr,Z0,Z1,bytesOf,qx0,qxk,qs0,qsk,List.length_set,hc,i1,i1']
   refine acall_pure (sWant hTl [61] H _ p s3 hp hs3) ?_
   simp only [go_sem,reduceIte,↓reduceIte,sevalprocAttr,Z0,Z1,bytesOf,qx0,qxk,qs0,qsk,List.length_set]
   refine ⟨_,Qp.hx hp _ _,?_⟩
   simp only [go_sem,reduceIte,↓reduceIte,sevalprocAttr,Z0,Z1,bytesOf,qx0,qxk,qs0,qsk,List.length_set,i1']
   refine pcall_chain _ _ (by simp) (Qp.hx hp _ _) (hC.chain hp hs4) ?_
   obtain ⟨cn,ch,⟨k7,n7,q7,l7⟩,cp⟩:=c0
   rw [hq5]
   simp only [go_sem,reduceIte,↓reduceIte,sevalprocAttr,Z0,Z1,bytesOf,qx0,qxk,qs0,qsk,List.length_set,CtorD.cells,TyE.cells,gx0,gxk,Nat.add_zero]
   refine ⟨by intro r hr; simp at hr; subst hr; rfl,?_⟩
   have j0':∀ o B,((A.set 1 o)++B)[0]?=some (.var [sV [],.p .nl,.p .nl,iV 0]):=fun o B=>get_ext (i0' o) B
   have j1':∀ o B,((A.set 1 o)++B)[1]?=some o:=fun o B=>get_ext (i1' o) B
   have jq':∀ o B,a≠.p .nl→((A.set 1 o)++B)[qn]?=some (.rows 1 vn (acc.map fun s=>[sV s])):=fun o B h=>get_ext (iq' o h) B
   simp only [go_sem,reduceIte,↓reduceIte,sevalprocAttr,Z0,Z1,bytesOf,qx0,qxk,qs0,qsk,List.length_set,j1']
   have hA2:2≤A.length:=get_lt i1
   refine ⟨Nat × PS × List CtorD × AV × List AO,[0,2,3],fun x st=>(Lp (pvS T lim) T e H p [0,1,qn] 7 CtorD.cells (isT T [124]) (advP (ctorP T ty)) (⟨cn,ch,.mk k7 n7 q7 l7,cp⟩ :: Rl) Rs x.1 x.2.1 x.2.2.1 x.2.2.2.1 x.2.2.2.2∧x.2.2.2.2[0]?=some (.var [sV [],.p .nl,.p .nl,iV 0])∧x.2.2.2.2[1]?=some (.var [sV nm,a,x.2.2.2.1,iV tp])∧(a≠.p .nl→x.2.2.2.2[qn]?=some (.rows 1 vn (acc.map fun s=>[sV s])))) ∧
     st=⟨[(0,.ptr p 0),(2,.ptr H.length 0),(3,.ptr (H.length+1) 0)],[],H.set p (pvS T lim x.2.1)++x.2.2.2.2⟩,fun x=>T.length - x.2.1.i,⟨(T.length,s5,([⟨cn,ch,.mk k7 n7 q7 l7,cp⟩]:List CtorD),AV.gs (H.length+(A.length+1)) 0 0 1,(((A.set 1 (.var [sV nm,a,.p .nl,iV tp]))++[AO.rows 7 0 [[sV cn,.p (.b ch),iV k7,sV n7,iV q7,.p (.l (TyE.cellsL l7)),iV cp]],AO.rows 7 0 [[sV cn,.p (.b ch),iV k7,sV n7,iV q7,.p (.l (TyE.cellsL l7)),iV cp]]]).set 1 (.var [sV nm,a,.gs (H.length+(A.length+1)) 0 0 1,iV tp]):List AO)),⟨⟨Lp.start1 hs5 hR (by intro k hk; simp at hk ⊢; rcases hk with rfl | rfl | rfl <;> omega) (by rw [List.getElem?_set_ne (by omega)]; have hl1:(A.set 1 (.var [sV nm,a,.p .nl,iV tp])).length=A.length:=List.length_set; rw [List.getElem?_append_right (by omega),hl1,Nat.add_sub_cancel_left]; rfl) (by intro h; rcases List.mem_cons.1 h with h | h; omega; rcases List.mem_cons.1 h with h | h; omega; rcases List.mem_cons.1 h with h | h; omega; cases h),get_set (j0' _ _) (by decide),set_get (j1' _ _),fun h=>get_set (jq' _ _ h) (by rintro rfl; exact hq1 h (by simp))⟩,?_⟩⟩,?_⟩
   ·simp only [List.set_append_left]
    rfl
   rintro ⟨j,s',acc2,a2,A2⟩ _ ⟨⟨hL2,k0,k1,kq⟩,rfl⟩
   simp only at hL2 k0 k1 kq ⊢
   simp only [go_sem,reduceIte,↓reduceIte,sevalprocAttr,Z0,Z1,bytesOf,qx0,qxk,qs0,qsk,List.length_set]
   refine acall_pure (sHas hTl [124] H _ p s' hp hL2.ok) ?_
   unfold takeM
   cases hg2:isT T [124] s'
   ·obtain ⟨rfl,rfl⟩:=hL2.stop hg2
    have hz:∀ o,(A2.set 0 o)[0]?=some o:=fun o=>set_get k0
    simp only [go_sem,reduceIte,↓reduceIte,sevalprocAttr,Z0,Z1,bytesOf,qx0,qxk,qs0,qsk,List.length_set,hg2]
    refine acall_pure (sWant hTl [59] H _ p s' hp hL2.ok) ?_
    simp only [go_sem,reduceIte,↓reduceIte,sevalprocAttr,Z0,Z1,bytesOf,qx0,qxk,qs0,qsk,List.length_set,k1,k0,hz]
    refine ⟨_,rfl,LentC.st (.pc (.cons ?_ (.cons (hL2.lent (set_keep (by simp)) ctorE) (.pc .nil))))⟩
    rcases hvn with ⟨rfl,rfl⟩ | ⟨h1,rfl⟩
    ·exact .nl
    ·have h2:=lent_rows (n:=H.length) (H:=H.set p (pvS T lim (wantP T [59] s'))++A2.set 0 (.var [sV nm,.gs (H.length+qn) vn 0 acc.length,a2,iV tp])) (ys:=namesC acc) (id:=H.length+qn) (ver:=vn) (sz:=1) (by omega) (by rw [qxk,List.getElem?_set_ne (by rintro rfl; exact hq1 h1 (by simp)),kq h1]; simp [namesC]) (by intro y hy; unfold namesC at hy; obtain ⟨t,_,rfl⟩:=List.mem_map.1 hy; rfl)
     have h3:(namesC acc).length=acc.length:=by simp [namesC]
     rw [h3] at h2
     exact h2
   ·obtain ⟨j,rfl⟩:=hL2.succ (only_isT T _) hg2
    have hsa:=hL2.ok.adv hT (isT_k hg2).2
    have hs9:=hsa.run sC
    have hgt:=(Stay.adv hT sC hL2.ok.1 (isT_k hg2).2).1
    simp only [go_sem,reduceIte,↓reduceIte,sevalprocAttr,Z0,Z1,bytesOf,qx0,qxk,qs0,qsk,List.length_set,hg2]
    refine ⟨_,Qp.hx hp _ _,?_⟩
    simp only [go_sem,reduceIte,↓reduceIte,sevalprocAttr,Z0,Z1,bytesOf,qx0,qxk,qs0,qsk,List.length_set,k1]
    refine pcall_chain _ _ (by simp) (Qp.hx hp _ _) (hC.chain hp hsa) ?_
    rcases hq9:ctorP T ty (adv s') with ⟨⟨en,eh,⟨k8,n8,q8,l8⟩,ep⟩,s9⟩
    rw [hq9] at hs9 hgt
    simp only [go_sem,reduceIte,↓reduceIte,sevalprocAttr,Z0,Z1,bytesOf,qx0,qxk,qs0,qsk,List.length_set,CtorD.cells,TyE.cells,qxa]
    refine ⟨by intro r hr; simp at hr; subst hr; rfl,?_⟩
    refine hL2.app (fun k o h=>get_ext h _) hTl (by decide) ?_
    intro id ver A' m1 m2 m3
    have g0:=(m3 0 (by simp)).trans k0
    have g1:=(m3 1 (by simp)).trans k1
    simp only [go_sem,reduceIte,↓reduceIte,sevalprocAttr,Z0,Z1,bytesOf,qx0,qxk,qs0,qsk,List.length_set,g1]
    exact ⟨(j,s9,acc2++[⟨en,eh,.mk k8 n8 q8 l8,ep⟩],.gs id ver 0 (acc2.length+1),A'.set 1 (.var [sV nm,a,.gs id ver 0 (acc2.length+1),iV tp])),⟨⟨hL2.next (only_isT T _) hg2 hq9 hs9 hgt m1 m2 (set_keep (by simp)) (by intro k hk; rw [List.length_set]; have h1:=hL2.len k hk; exact get_lt ((m3 k hk).trans (List.getElem?_eq_getElem h1))),get_set g0 (by decide),set_get g1,fun h=>get_set ((m3 qn (by simp)).trans (kq h)) (by rintro rfl; exact hq1 h (by simp))⟩,rfl⟩,by have h1:s'.i<s9.i:=hgt; have:=hL2.ok.1; simp only; omega⟩
  ·simp only [go_sem,reduceIte,↓reduceIte,sevalprocAttr,Z0,Z1,bytesOf,qx0,qxk,qs0,qsk,List.length_set,hc]
   refine acall_pure (sNow H _ p s' hp hL.ok) ?_
   cases hk:decide ((tokA T s').k=5)
   ·have hg:isK T 5 s'=false:=by rw [hk5,hc,hk]; rfl
    simp only [go_sem,reduceIte,↓reduceIte,sevalprocAttr,Z0,Z1,bytesOf,qx0,qxk,qs0,qsk,List.length_set,Tok.cells,hk]
    obtain ⟨rfl,rfl⟩:=hL.stop hg
    refine acall_pure (sWord hTl 3 H _ p s' hp hL.ok) ?_
    rw [hq3]
    have hvn0:∃ qn vn,qn<A.length∧(a≠.p .nl→qn ∉ [0,1]∧A[qn]?=some (.rows 1 vn (acc.map fun s=>[sV s])))∧((acc=[]∧a=.p .nl)∨(a≠.p .nl∧a=.gs (H.length+qn) vn 0 acc.length)):=by
     rcases hL.own with ⟨h1,h2⟩ | ⟨id,ver,e1,h1⟩
     ·exact ⟨0,0,get_lt i0,fun h=>(h h1).elim,.inl ⟨by simpa using h2,h1⟩⟩
     ·obtain ⟨g1,g2⟩:=hL.ids _ _ _ _ e1
      obtain ⟨q,rfl⟩:=Nat.le.dest g1
      rw [Nat.add_sub_cancel_left] at g2
      rw [qxk] at h1
      have e2:a=.gs (H.length+q) ver 0 acc.length:=by rw [e1]; simp
      exact ⟨q,ver,get_lt h1,fun _=>⟨g2,by simpa using h1⟩,.inr ⟨(by rw [e2]; intro h; cases h),e2⟩⟩
    obtain ⟨qn,vn,hql,hqa,hvn⟩:=hvn0
    have hq1:a≠.p .nl→qn ∉ [0,1]:=fun h=>(hqa h).1
    have i0':∀ o,(A.set 1 o)[0]?=some (.var [sV [],.p .nl,.p .nl,iV 0]):=fun o=>get_set i0 (by decide)
    have i1':∀ o,(A.set 1 o)[1]?=some o:=fun o=>set_get i1
    have iq':∀ o,a≠.p .nl→(A.set 1 o)[qn]?=some (.rows 1 vn (acc.map fun s=>[sV s])):=fun o h=>get_set (hqa h).2 (by rintro rfl; exact hq1 h (by simp))
    simp only [go_sem,reduceIte,↓reduceIte,sevalprocAttr,Z0,Z1,bytesOf,qx0,qxk,qs0,qsk,List.length_set,hk,i1,i1']
    refine acall_pure (sWant hTl [61] H _ p s3 hp hs3) ?_
    simp only [go_sem,reduceIte,↓reduceIte,sevalprocAttr,Z0,Z1,bytesOf,qx0,qxk,qs0,qsk,List.length_set]
    refine ⟨_,Qp.hx hp _ _,?_⟩
    simp only [go_sem,reduceIte,↓reduceIte,sevalprocAttr,Z0,Z1,bytesOf,qx0,qxk,qs0,qsk,List.length_set,i1']
    refine pcall_chain _ _ (by simp) (Qp.hx hp _ _) (hC.chain hp hs4) ?_
    obtain ⟨cn,ch,⟨k7,n7,q7,l7⟩,cp⟩:=c0
    rw [hq5]
    simp only [go_sem,reduceIte,↓reduceIte,sevalprocAttr,Z0,Z1,bytesOf,qx0,qxk,qs0,qsk,List.length_set,CtorD.cells,TyE.cells,gx0,gxk,Nat.add_zero]
    refine ⟨by intro r hr; simp at hr; subst hr; rfl,?_⟩
    have j0':∀ o B,((A.set 1 o)++B)[0]?=some (.var [sV [],.p .nl,.p .nl,iV 0]):=fun o B=>get_ext (i0' o) B
    have j1':∀ o B,((A.set 1 o)++B)[1]?=some o:=fun o B=>get_ext (i1' o) B
    have jq':∀ o B,a≠.p .nl→((A.set 1 o)++B)[qn]?=some (.rows 1 vn (acc.map fun s=>[sV s])):=fun o B h=>get_ext (iq' o h) B
    simp only [go_sem,reduceIte,↓reduceIte,sevalprocAttr,Z0,Z1,bytesOf,qx0,qxk,qs0,qsk,List.length_set,j1']
    have hA2:2≤A.length:=get_lt i1
    refine ⟨Nat × PS × List CtorD × AV × List AO,[0,2,3],fun x st=>(Lp (pvS T lim) T e H p [0,1,qn] 7 CtorD.cells (isT T [124]) (advP (ctorP T ty)) (⟨cn,ch,.mk k7 n7 q7 l7,cp⟩ :: Rl) Rs x.1 x.2.1 x.2.2.1 x.2.2.2.1 x.2.2.2.2∧x.2.2.2.2[0]?=some (.var [sV [],.p .nl,.p .nl,iV 0])∧x.2.2.2.2[1]?=some (.var [sV nm,a,x.2.2.2.1,iV tp])∧(a≠.p .nl→x.2.2.2.2[qn]?=some (.rows 1 vn (acc.map fun s=>[sV s])))) ∧
      st=⟨[(0,.ptr p 0),(2,.ptr H.length 0),(3,.ptr (H.length+1) 0)],[],H.set p (pvS T lim x.2.1)++x.2.2.2.2⟩,fun x=>T.length - x.2.1.i,⟨(T.length,s5,([⟨cn,ch,.mk k7 n7 q7 l7,cp⟩]:List CtorD),AV.gs (H.length+(A.length+1)) 0 0 1,(((A.set 1 (.var [sV nm,a,.p .nl,iV tp]))++[AO.rows 7 0 [[sV cn,.p (.b ch),iV k7,sV n7,iV q7,.p (.l (TyE.cellsL l7)),iV cp]],AO.rows 7 0 [[sV cn,.p (.b ch),iV k7,sV n7,iV q7,.p (.l (TyE.cellsL l7)),iV cp]]]).set 1 (.var [sV nm,a,.gs (H.length+(A.length+1)) 0 0 1,iV tp]):List AO)),⟨⟨Lp.start1 hs5 hR (by intro k hk; simp at hk ⊢; rcases hk with rfl | rfl | rfl <;> omega) (by rw [List.getElem?_set_ne (by omega)]; have hl1:(A.set 1 (.var [sV nm,a,.p .nl,iV tp])).length=A.length:=List.length_set; rw [List.getElem?_append_right (by omega),hl1,Nat.add_sub_cancel_left]; rfl) (by intro h; rcases List.mem_cons.1 h with h | h; omega; rcases List.mem_cons.1 h with h | h; omega; rcases List.mem_cons.1 h with h | h; omega; cases h),get_set (j0' _ _) (by decide),set_get (j1' _ _),fun h=>get_set (jq' _ _ h) (by rintro rfl; exact hq1 h (by simp))⟩,?_⟩⟩,?_⟩
    ·simp only [List.set_append_left]
     rfl
    rintro ⟨j,s',acc2,a2,A2⟩ _ ⟨⟨hL2,k0,k1,kq⟩,rfl⟩
    simp only at hL2 k0 k1 kq ⊢
    simp only [go_sem,reduceIte,↓reduceIte,sevalprocAttr,Z0,Z1,bytesOf,qx0,qxk,qs0,qsk,List.length_set]
    refine acall_pure (sHas hTl [124] H _ p s' hp hL2.ok) ?_
    unfold takeM
    cases hg2:isT T [124] s'
    ·obtain ⟨rfl,rfl⟩:=hL2.stop hg2
     have hz:∀ o,(A2.set 0 o)[0]?=some o:=fun o=>set_get k0
     simp only [go_sem,reduceIte,↓reduceIte,sevalprocAttr,Z0,Z1,bytesOf,qx0,qxk,qs0,qsk,List.length_set,hg2]
     refine acall_pure (sWant hTl [59] H _ p s' hp hL2.ok) ?_
     simp only [go_sem,reduceIte,↓reduceIte,sevalprocAttr,Z0,Z1,bytesOf,qx0,qxk,qs0,qsk,List.length_set,k1,k0,hz]
     refine ⟨_,rfl,LentC.st (.pc (.cons ?_ (.cons (hL2.lent (set_keep (by simp)) ctorE) (.pc .nil))))⟩
     rcases hvn with ⟨rfl,rfl⟩ | ⟨h1,rfl⟩
     ·exact .nl
     ·have h2:=lent_rows (n:=H.length) (H:=H.set p (pvS T lim (wantP T [59] s'))++A2.set 0 (.var [sV nm,.gs (H.length+qn) vn 0 acc.length,a2,iV tp])) (ys:=namesC acc) (id:=H.length+qn) (ver:=vn) (sz:=1) (by omega) (by rw [qxk,List.getElem?_set_ne (by rintro rfl; exact hq1 h1 (by simp)),kq h1]; simp [namesC]) (by intro y hy; unfold namesC at hy; obtain ⟨t,_,rfl⟩:=List.mem_map.1 hy; rfl)
      have h3:(namesC acc).length=acc.length:=by simp [namesC]
      rw [h3] at h2
      exact h2
    ·obtain ⟨j,rfl⟩:=hL2.succ (only_isT T _) hg2
     have hsa:=hL2.ok.adv hT (isT_k hg2).2
     have hs9:=hsa.run sC
     have hgt:=(Stay.adv hT sC hL2.ok.1 (isT_k hg2).2).1
     simp only [go_sem,reduceIte,↓reduceIte,sevalprocAttr,Z0,Z1,bytesOf,qx0,qxk,qs0,qsk,List.length_set,hg2]
     refine ⟨_,Qp.hx hp _ _,?_⟩
     simp only [go_sem,reduceIte,↓reduceIte,sevalprocAttr,Z0,Z1,bytesOf,qx0,qxk,qs0,qsk,List.length_set,k1]
     refine pcall_chain _ _ (by simp) (Qp.hx hp _ _) (hC.chain hp hsa) ?_
     rcases hq9:ctorP T ty (adv s') with ⟨⟨en,eh,⟨k8,n8,q8,l8⟩,ep⟩,s9⟩
     rw [hq9] at hs9 hgt
     simp only [go_sem,reduceIte,↓reduceIte,sevalprocAttr,Z0,Z1,bytesOf,qx0,qxk,qs0,qsk,List.length_set,CtorD.cells,TyE.cells,qxa]
     refine ⟨by intro r hr; simp at hr; subst hr; rfl,?_⟩
     refine hL2.app (fun k o h=>get_ext h _) hTl (by decide) ?_
     intro id ver A' m1 m2 m3
     have g0:=(m3 0 (by simp)).trans k0
     have g1:=(m3 1 (by simp)).trans k1
     simp only [go_sem,reduceIte,↓reduceIte,sevalprocAttr,Z0,Z1,bytesOf,qx0,qxk,qs0,qsk,List.length_set,g1]
     exact ⟨(j,s9,acc2++[⟨en,eh,.mk k8 n8 q8 l8,ep⟩],.gs id ver 0 (acc2.length+1),A'.set 1 (.var [sV nm,a,.gs id ver 0 (acc2.length+1),iV tp])),⟨⟨hL2.next (only_isT T _) hg2 hq9 hs9 hgt m1 m2 (set_keep (by simp)) (by intro k hk; rw [List.length_set]; have h1:=hL2.len k hk; exact get_lt ((m3 k hk).trans (List.getElem?_eq_getElem h1))),get_set g0 (by decide),set_get g1,fun h=>get_set ((m3 qn (by simp)).trans (kq h)) (by rintro rfl; exact hq1 h (by simp))⟩,rfl⟩,by have h1:s'.i<s9.i:=hgt; have:=hL2.ok.1; simp only; omega⟩
   ·have hg:isK T 5 s'=true:=by rw [hk5,hc,hk]; rfl
    simp only [go_sem,reduceIte,↓reduceIte,sevalprocAttr,Z0,Z1,bytesOf,qx0,qxk,qs0,qsk,List.length_set,Tok.cells,hk]
    obtain ⟨j,rfl⟩:=hL.succ o5 hg
    have hsw:=hL.ok.adv hT (show (tokA T s').k≠8 by have:=of_decide_eq_true hk; omega)
    have hw:wordP T 5 s'=((tokA T s').t,adv s'):=by unfold wordP; rw [if_pos hg]
    refine ⟨_,Qp.hx hp _ _,?_⟩
    simp only [go_sem,reduceIte,↓reduceIte,sevalprocAttr,Z0,Z1,bytesOf,qx0,qxk,qs0,qsk,List.length_set,i1]
    refine pcall_chain _ _ (by simp) (Qp.hx hp _ _) ((sWord hTl 5).chain hp hL.ok) ?_
    rw [hw]
    simp only [go_sem,reduceIte,↓reduceIte,sevalprocAttr,Z0,Z1,bytesOf,qx0,qxk,qs0,qsk,List.length_set,qxa]
    refine ⟨by intro r hr; simp at hr; subst hr; rfl,?_⟩
    refine hL.app (fun k o h=>get_ext h _) hTl (by decide) ?_
    intro id ver A' k1 k2 k3
    have j0:=(k3 0 (by decide)).trans i0
    have j1:=(k3 1 (by decide)).trans i1
    simp only [go_sem,reduceIte,↓reduceIte,sevalprocAttr,Z0,Z1,bytesOf,qx0,qxk,qs0,qsk,List.length_set,j1]
    exact ⟨(j,adv s',acc++[(tokA T s').t],.gs id ver 0 (acc.length+1),A'.set 1 (.var [sV [],.gs id ver 0 (acc.length+1),.p .nl,iV tp])),⟨⟨hL.next o5 hg hw hsw (by show s'.i<s'.i+1; omega) k1 k2 (set_keep (by decide)) (by intro k hk; rw [List.length_set]; simp at hk; rcases hk with rfl | rfl; exact get_lt j0; exact get_lt j1),get_set j0 (by decide),set_get j1⟩,rfl⟩,by have:=hL.ok.1; show T.length - (s'.i+1)<T.length - s'.i; omega⟩
end
end Go.Proofs.YtghcmccjchdgeaaGreatDoor.Qp