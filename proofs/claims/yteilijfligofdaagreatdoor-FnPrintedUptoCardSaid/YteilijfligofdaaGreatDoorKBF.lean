/- Texts QeF QeG QeH QjE QfB QfD QfE QfF QjI QjJ, merged. -/
import Derived.Test.YteilijfligofdaaGreatDoorKBE
import Derived.Test.YteilijfligofdaaGreatDoorChecked
import Derived.KernelRfl
set_option linter.all false
namespace Go.Proofs.YteilijfligofdaaGreatDoor.Qp
open Go.AM Mc Pg
theorem qpS {T:List Tok} {lim p:Nat} {H:List AO} (hp:p<H.length) (A:List AO) (s:PS):(H.set p (bG T lim s)++A)[p]?=some (.var [yt T,iV s.i,iV s.nest,iV s.d,iV lim,iV s.c,iV s.ps]):=qp hp A _
abbrev adI (c:ai):AV:=.st (c.cells.map .p)
abbrev adJ (d:ao):AV:=.st (d.cells.map .p)
abbrev GI (p:aI):AV:=.st (p.cells.map .p)
theorem Vl (c:ai):c.cells.length=7:=by obtain⟨n,h,⟨k,m,q,l⟩,p⟩:=c;rfl
theorem adK (d:ao):d.cells.length=4:=rfl
section
variable {T:List Tok} {lim e:Nat} (hT:bH T) (aK:T.length<=1073741825)
include hT aK
theorem Y2 {ty:PM af} (eY:PF (bG T lim) T e 175 [] ty Ac) (kY:ab T ty):PF (bG T lim) T e 152 [] (fL T ty) adI:=by
 refine dm (dt T lim) fun H p s hp hs=>?_
 refine call152 (by simp) ?_;simp only[go_sem,simprocAttr,KK,Ss];refine U (kb H _ p s hp hs) ?_;simp only[go_sem,simprocAttr,Tok.cells];unfold fL;rw[bE,aN];generalize (aD T s).p=tp;refine U (uB aK 4 H _ p s hp hs) ?_;rcases hw:cU T 4 s with⟨cn,s6⟩
 have yP:=hs.run (ab.word hT (k:=4) (by decide));rw[hw]at yP;simp only at yP;simp only[go_sem,simprocAttr];refine U (nZ aK [111,102] H _ p s6 hp yP) ?_;unfold di;cases Dj:aH T [111,102] s6
 ·rw[aU Dj]
  simp only[go_sem,simprocAttr,Dj];exact⟨_,rfl,fp.st (.pc (.pc (.pc (.pc (.pc (.cons .nl (.pc .nil)))))))⟩
 ·rw[aQ Dj]
  have dB:=yP.aE hT (cB Dj).2;simp only[go_sem,simprocAttr,Dj];refine U (eY H _ p _ hp dB) ?_;rcases GB:ty (aE s6)with⟨⟨k7,n7,q7,l7⟩,s8⟩
  rw[aN,GB];simp only[go_sem,simprocAttr,af.cells];exact⟨_,rfl,aZ (dP (ai.cells ⟨cn,true,.mk k7 n7 q7 l7,tp⟩))⟩
theorem Y3 {ty:PM af} (eY:PF (bG T lim) T e 175 [] ty Ac) (kY:ab T ty):PF (bG T lim) T e 110 [] (iK T T.length ty) adJ:=by
 have hC:=Y2 hT aK eY kY;have sC:=Pg.j8 hT kY;have h5:(5:Int)≠8:=by decide
 have o5:eI T (bp T 5):=cr T h5;refine dm (dt T lim) fun H p s hp hs=>?_
 refine call110 (by simp) ?_;simp only[go_sem,simprocAttr,KE,Sn];refine U (kb H _ p s hp hs) ?_;simp only[go_sem,simprocAttr,Tok.cells];unfold iK;rw[bE,cV];generalize (aD T s).p=tp;refine U (gY aK [116,121,112,101] H _ p s hp hs) ?_;simp only[go_sem,simprocAttr];have bx:=hs.step (aG hT [116,121,112,101]);generalize aS T [116,121,112,101] s=s1 at *;rcases hV:many (bp T 5) (cU T 5) T.length s1 with⟨vs,s2⟩
 have bt:=bx.run (ab.many o5 (ab.word hT h5) T.length);rw[hV]at bt;simp only at bt;rcases fD:cU T 3 s2 with⟨nm,s3⟩
 have eA:=bt.run (ab.word hT (k:=3) (by decide));rw[fD]at eA;simp only at eA;have og:=eA.step (aG hT [61]);rcases jS:fL T ty (aS T [61] s3)with⟨c0,s5⟩
 have lO:=og.run sC;rw[jS]at lO;simp only at lO;rcases hR:many (aH T [124]) (bM (fL T ty)) T.length s5 with⟨Rl,Rs⟩
 simp only[aN,cV,il,hV,fD,jS,hR]
 refine⟨Nat×PS×List (List UInt8)×AV×List AO,[0,2,3],fun x st=>(Lp (bG T lim) T e H p [0,1] 1 (fun s=>[PV.s s]) (bp T 5) (cU T 5) vs s2 x.1 x.2.1 x.2.2.1 x.2.2.2.1 x.2.2.2.2/\x.2.2.2.2[0]?=some (.var [sV [],.p .nl,.p .nl,iV 0])/\x.2.2.2.2[1]?=some (.var [sV [],x.2.2.2.1,.p .nl,iV tp]))/\
   st=⟨[(0,.ptr p 0),(2,.ptr H.length 0),(3,.ptr (H.length+1) 0)],[],H.set p (bG T lim x.2.1)++x.2.2.2.2⟩,fun x=>T.length-x.2.1.i,⟨(T.length,s1,[],.p .nl,[.var [sV [],.p .nl,.p .nl,iV 0],.var [sV [],.p .nl,.p .nl,iV tp]]),?_⟩,?_⟩
 ·refine⟨⟨Lp.start bx hV (by simp),rfl,rfl⟩,?_⟩
  simp only[go_sem,simprocAttr]
 ·rintro⟨j,s',acc,a,A⟩ _ ⟨⟨hL,i0,i1⟩,rfl⟩
  simp only at hL i0 i1⊢;have yM:bp T 5 s'=(decide (s'.c=0)&&decide ((aD T s').k=5)):=rfl;simp only[go_sem,simprocAttr,qpS hp];cases hc:decide (s'.c=0)
  ·have hg:bp T 5 s'=false:=by rw[yM,hc];rfl
   simp only[go_sem,simprocAttr,hc];obtain⟨rfl,rfl⟩:=hL.stop hg;refine U (uB aK 3 H _ p s' hp hL.ok) ?_;rw[fD]
   have I0:∃qn vn,qn<A.length/\(a≠.p .nl->qn∉[0,1]/\A[qn]?=some (.rows 1 vn (acc.map fun s=>[sV s])))/\((acc=[]/\a=.p .nl)\/(a≠.p .nl/\a=.gs (H.length+qn) vn 0 acc.length)):=by
    rcases hL.own with⟨h1,h2⟩|⟨id,ver,e1,h1⟩
    ·exact⟨0,0,aT i0,fun h=>(h h1).elim,.inl ⟨by simpa using h2,h1⟩⟩
    ·obtain⟨g1,g2⟩:=hL.ids _ _ _ _ e1
     obtain⟨q,rfl⟩:=Nat.le.dest g1;rw[Nat.add_sub_cancel_left]at g2;rw[lq]at h1;have e2:a=.gs (H.length+q) ver 0 acc.length:=by rw[e1];simp
     exact⟨q,ver,aT h1,fun _=>⟨g2,by simpa using h1⟩,.inr ⟨(by rw[e2];intro h;cases h),e2⟩⟩
   obtain⟨qn,vn,hql,hqa,PL⟩:=I0;have hq1:a≠.p .nl->qn∉[0,1]:=fun h=>(hqa h).1
   have nj:∀o,(A.set 1 o)[0]?=some (.var [sV [],.p .nl,.p .nl,iV 0]):=fun o=>aM i0 (by decide)
   have xw:∀o,(A.set 1 o)[1]?=some o:=fun o=>aR i1
   have Vi:∀o,a≠.p .nl->(A.set 1 o)[qn]?=some (.rows 1 vn (acc.map fun s=>[sV s])):=fun o h=>aM (hqa h).2 (by rintro rfl;exact hq1 h (by simp))
   simp only[go_sem,simprocAttr,hc,i1,xw];refine U (gY aK [61] H _ p s3 hp eA) ?_;simp only[go_sem,simprocAttr];refine⟨_,Qp.hx hp _ _,?_⟩;simp only[go_sem,simprocAttr,xw];refine aL _ _ (by simp) (Qp.hx hp _ _) (hC.chain hp og) ?_;obtain⟨cn,ch,⟨k7,n7,q7,l7⟩,cp⟩:=c0;rw[jS];simp only[go_sem,simprocAttr,ai.cells,af.cells,fX,eZ,Nat.add_zero];refine⟨by intro r hr;simp at hr;subst hr;rfl,?_⟩;have j0':∀o B,((A.set 1 o)++B)[0]?=some (.var [sV [],.p .nl,.p .nl,iV 0]):=fun o B=>ag (nj o) B
   have Vm:∀o B,((A.set 1 o)++B)[1]?=some o:=fun o B=>ag (xw o) B
   have jq':∀o B,a≠.p .nl->((A.set 1 o)++B)[qn]?=some (.rows 1 vn (acc.map fun s=>[sV s])):=fun o B h=>ag (Vi o h) B
   simp only[go_sem,simprocAttr,Vm];have hA2:2<=A.length:=aT i1
   refine⟨Nat×PS×List ai×AV×List AO,[0,2,3],fun x st=>(Lp (bG T lim) T e H p [0,1,qn] 7 ai.cells (aH T [124]) (bM (fL T ty)) (⟨cn,ch,.mk k7 n7 q7 l7,cp⟩::Rl) Rs x.1 x.2.1 x.2.2.1 x.2.2.2.1 x.2.2.2.2/\x.2.2.2.2[0]?=some (.var [sV [],.p .nl,.p .nl,iV 0])/\x.2.2.2.2[1]?=some (.var [sV nm,a,x.2.2.2.1,iV tp])/\(a≠.p .nl->x.2.2.2.2[qn]?=some (.rows 1 vn (acc.map fun s=>[sV s]))))/\
     st=⟨[(0,.ptr p 0),(2,.ptr H.length 0),(3,.ptr (H.length+1) 0)],[],H.set p (bG T lim x.2.1)++x.2.2.2.2⟩,fun x=>T.length-x.2.1.i,⟨(T.length,s5,([⟨cn,ch,.mk k7 n7 q7 l7,cp⟩]:List ai),AV.gs (H.length+(A.length+1)) 0 0 1,(((A.set 1 (.var [sV nm,a,.p .nl,iV tp]))++[AO.rows 7 0 [[sV cn,.p (.b ch),iV k7,sV n7,iV q7,.p (.l (af.aJ l7)),iV cp]],AO.rows 7 0 [[sV cn,.p (.b ch),iV k7,sV n7,iV q7,.p (.l (af.aJ l7)),iV cp]]]).set 1 (.var [sV nm,a,.gs (H.length+(A.length+1)) 0 0 1,iV tp]):List AO)),⟨⟨Lp.nx lO hR (by intro k hk;simp at hk⊢;rcases hk with rfl|rfl|rfl<;>omega) (by rw[List.getElem?_set_ne (by omega)];have tW:(A.set 1 (.var [sV nm,a,.p .nl,iV tp])).length=A.length:=List.length_set;rw[List.getElem?_append_right (by omega),tW,Nat.add_sub_cancel_left];rfl) (by intro h;rcases List.mem_cons.1 h with h|h;omega;rcases List.mem_cons.1 h with h|h;omega;rcases List.mem_cons.1 h with h|h;omega;cases h),aM (j0' _ _) (by decide),aR (Vm _ _),fun h=>aM (jq' _ _ h) (by rintro rfl;exact hq1 h (by simp))⟩,?_⟩⟩,?_⟩
   ·simp only[List.set_append_left]
    rfl
   rintro⟨j,s',wB,a2,A2⟩ _ ⟨⟨jK,k0,k1,kq⟩,rfl⟩;simp only at jK k0 k1 kq⊢;simp only[go_sem,simprocAttr];refine U (nZ aK [124] H _ p s' hp jK.ok) ?_;unfold di;cases kA:aH T [124] s'
   ·obtain⟨rfl,rfl⟩:=jK.stop kA
    have hz:∀o,(A2.set 0 o)[0]?=some o:=fun o=>aR k0
    simp only[go_sem,simprocAttr,kA];refine U (gY aK [59] H _ p s' hp jK.ok) ?_;simp only[go_sem,simprocAttr,k1,k0,hz];refine⟨_,rfl,fp.st (.pc (.cons ?_ (.cons (jK.mI (cD (by simp)) Vl) (.pc .nil))))⟩;rcases PL with⟨rfl,rfl⟩|⟨h1,rfl⟩
    ·exact .nl
    ·have h2:=cS (n:=H.length) (H:=H.set p (bG T lim (aS T [59] s'))++A2.set 0 (.var [sV nm,.gs (H.length+qn) vn 0 acc.length,a2,iV tp])) (ys:=eH acc) (id:=H.length+qn) (ver:=vn) (sz:=1) (by omega) (by rw[lq,List.getElem?_set_ne (by rintro rfl;exact hq1 h1 (by simp)),kq h1];simp[eH]) (by intro y hy;unfold eH at hy;obtain⟨t,_,rfl⟩:=List.mem_map.1 hy;rfl)
     have h3:(eH acc).length=acc.length:=by simp[eH]
     rw[h3]at h2;exact h2
   ·obtain⟨j,rfl⟩:=jK.succ (aw T _) kA
    have dB:=jK.ok.aE hT (cB kA).2;have I2:=dB.run sC;have cG:=(gR.aE hT sC jK.ok.1 (cB kA).2).1;simp only[go_sem,simprocAttr,kA];refine⟨_,Qp.hx hp _ _,?_⟩;simp only[go_sem,simprocAttr,k1];refine aL _ _ (by simp) (Qp.hx hp _ _) (hC.chain hp dB) ?_;rcases C4:fL T ty (aE s')with⟨⟨en,eh,⟨k8,n8,q8,l8⟩,ep⟩,s9⟩
    rw[C4]at I2 cG;simp only[go_sem,simprocAttr,ai.cells,af.cells,pO];refine⟨by intro r hr;simp at hr;subst hr;rfl,?_⟩;refine jK.app (fun k o h=>ag h _) aK (by decide) ?_;intro id ver A' m1 m2 m3;have g0:=(m3 0 (by simp)).trans k0;have g1:=(m3 1 (by simp)).trans k1;simp only[go_sem,simprocAttr,g1];exact⟨(j,s9,wB++[⟨en,eh,.mk k8 n8 q8 l8,ep⟩],.gs id ver 0 (wB.length+1),A'.set 1 (.var [sV nm,a,.gs id ver 0 (wB.length+1),iV tp])),⟨⟨jK.next (aw T _) kA C4 I2 cG m1 m2 (cD (by simp)) (by intro k hk;rw[List.length_set];have h1:=jK.len k hk;exact aT ((m3 k hk).trans (List.getElem?_eq_getElem h1))),aM g0 (by decide),aR g1,fun h=>aM ((m3 qn (by simp)).trans (kq h)) (by rintro rfl;exact hq1 h (by simp))⟩,rfl⟩,by have h1:s'.i<s9.i:=cG;have:=jK.ok.1;simp only;omega⟩
  ·simp only[go_sem,simprocAttr,hc]
   refine U (kb H _ p s' hp hL.ok) ?_;cases hk:decide ((aD T s').k=5)
   ·have hg:bp T 5 s'=false:=by rw[yM,hc,hk];rfl
    simp only[go_sem,simprocAttr,Tok.cells,hk];obtain⟨rfl,rfl⟩:=hL.stop hg;refine U (uB aK 3 H _ p s' hp hL.ok) ?_;rw[fD]
    have I0:∃qn vn,qn<A.length/\(a≠.p .nl->qn∉[0,1]/\A[qn]?=some (.rows 1 vn (acc.map fun s=>[sV s])))/\((acc=[]/\a=.p .nl)\/(a≠.p .nl/\a=.gs (H.length+qn) vn 0 acc.length)):=by
     rcases hL.own with⟨h1,h2⟩|⟨id,ver,e1,h1⟩
     ·exact⟨0,0,aT i0,fun h=>(h h1).elim,.inl ⟨by simpa using h2,h1⟩⟩
     ·obtain⟨g1,g2⟩:=hL.ids _ _ _ _ e1
      obtain⟨q,rfl⟩:=Nat.le.dest g1;rw[Nat.add_sub_cancel_left]at g2;rw[lq]at h1;have e2:a=.gs (H.length+q) ver 0 acc.length:=by rw[e1];simp
      exact⟨q,ver,aT h1,fun _=>⟨g2,by simpa using h1⟩,.inr ⟨(by rw[e2];intro h;cases h),e2⟩⟩
    obtain⟨qn,vn,hql,hqa,PL⟩:=I0;have hq1:a≠.p .nl->qn∉[0,1]:=fun h=>(hqa h).1
    have nj:∀o,(A.set 1 o)[0]?=some (.var [sV [],.p .nl,.p .nl,iV 0]):=fun o=>aM i0 (by decide)
    have xw:∀o,(A.set 1 o)[1]?=some o:=fun o=>aR i1
    have Vi:∀o,a≠.p .nl->(A.set 1 o)[qn]?=some (.rows 1 vn (acc.map fun s=>[sV s])):=fun o h=>aM (hqa h).2 (by rintro rfl;exact hq1 h (by simp))
    simp only[go_sem,simprocAttr,hk,i1,xw];refine U (gY aK [61] H _ p s3 hp eA) ?_;simp only[go_sem,simprocAttr];refine⟨_,Qp.hx hp _ _,?_⟩;simp only[go_sem,simprocAttr,xw];refine aL _ _ (by simp) (Qp.hx hp _ _) (hC.chain hp og) ?_;obtain⟨cn,ch,⟨k7,n7,q7,l7⟩,cp⟩:=c0;rw[jS];simp only[go_sem,simprocAttr,ai.cells,af.cells,fX,eZ,Nat.add_zero];refine⟨by intro r hr;simp at hr;subst hr;rfl,?_⟩;have j0':∀o B,((A.set 1 o)++B)[0]?=some (.var [sV [],.p .nl,.p .nl,iV 0]):=fun o B=>ag (nj o) B
    have Vm:∀o B,((A.set 1 o)++B)[1]?=some o:=fun o B=>ag (xw o) B
    have jq':∀o B,a≠.p .nl->((A.set 1 o)++B)[qn]?=some (.rows 1 vn (acc.map fun s=>[sV s])):=fun o B h=>ag (Vi o h) B
    simp only[go_sem,simprocAttr,Vm];have hA2:2<=A.length:=aT i1
    refine⟨Nat×PS×List ai×AV×List AO,[0,2,3],fun x st=>(Lp (bG T lim) T e H p [0,1,qn] 7 ai.cells (aH T [124]) (bM (fL T ty)) (⟨cn,ch,.mk k7 n7 q7 l7,cp⟩::Rl) Rs x.1 x.2.1 x.2.2.1 x.2.2.2.1 x.2.2.2.2/\x.2.2.2.2[0]?=some (.var [sV [],.p .nl,.p .nl,iV 0])/\x.2.2.2.2[1]?=some (.var [sV nm,a,x.2.2.2.1,iV tp])/\(a≠.p .nl->x.2.2.2.2[qn]?=some (.rows 1 vn (acc.map fun s=>[sV s]))))/\
      st=⟨[(0,.ptr p 0),(2,.ptr H.length 0),(3,.ptr (H.length+1) 0)],[],H.set p (bG T lim x.2.1)++x.2.2.2.2⟩,fun x=>T.length-x.2.1.i,⟨(T.length,s5,([⟨cn,ch,.mk k7 n7 q7 l7,cp⟩]:List ai),AV.gs (H.length+(A.length+1)) 0 0 1,(((A.set 1 (.var [sV nm,a,.p .nl,iV tp]))++[AO.rows 7 0 [[sV cn,.p (.b ch),iV k7,sV n7,iV q7,.p (.l (af.aJ l7)),iV cp]],AO.rows 7 0 [[sV cn,.p (.b ch),iV k7,sV n7,iV q7,.p (.l (af.aJ l7)),iV cp]]]).set 1 (.var [sV nm,a,.gs (H.length+(A.length+1)) 0 0 1,iV tp]):List AO)),⟨⟨Lp.nx lO hR (by intro k hk;simp at hk⊢;rcases hk with rfl|rfl|rfl<;>omega) (by rw[List.getElem?_set_ne (by omega)];have tW:(A.set 1 (.var [sV nm,a,.p .nl,iV tp])).length=A.length:=List.length_set;rw[List.getElem?_append_right (by omega),tW,Nat.add_sub_cancel_left];rfl) (by intro h;rcases List.mem_cons.1 h with h|h;omega;rcases List.mem_cons.1 h with h|h;omega;rcases List.mem_cons.1 h with h|h;omega;cases h),aM (j0' _ _) (by decide),aR (Vm _ _),fun h=>aM (jq' _ _ h) (by rintro rfl;exact hq1 h (by simp))⟩,?_⟩⟩,?_⟩
    ·simp only[List.set_append_left]
     rfl
    rintro⟨j,s',wB,a2,A2⟩ _ ⟨⟨jK,k0,k1,kq⟩,rfl⟩;simp only at jK k0 k1 kq⊢;simp only[go_sem,simprocAttr];refine U (nZ aK [124] H _ p s' hp jK.ok) ?_;unfold di;cases kA:aH T [124] s'
    ·obtain⟨rfl,rfl⟩:=jK.stop kA
     have hz:∀o,(A2.set 0 o)[0]?=some o:=fun o=>aR k0
     simp only[go_sem,simprocAttr,kA];refine U (gY aK [59] H _ p s' hp jK.ok) ?_;simp only[go_sem,simprocAttr,k1,k0,hz];refine⟨_,rfl,fp.st (.pc (.cons ?_ (.cons (jK.mI (cD (by simp)) Vl) (.pc .nil))))⟩;rcases PL with⟨rfl,rfl⟩|⟨h1,rfl⟩
     ·exact .nl
     ·have h2:=cS (n:=H.length) (H:=H.set p (bG T lim (aS T [59] s'))++A2.set 0 (.var [sV nm,.gs (H.length+qn) vn 0 acc.length,a2,iV tp])) (ys:=eH acc) (id:=H.length+qn) (ver:=vn) (sz:=1) (by omega) (by rw[lq,List.getElem?_set_ne (by rintro rfl;exact hq1 h1 (by simp)),kq h1];simp[eH]) (by intro y hy;unfold eH at hy;obtain⟨t,_,rfl⟩:=List.mem_map.1 hy;rfl)
      have h3:(eH acc).length=acc.length:=by simp[eH]
      rw[h3]at h2;exact h2
    ·obtain⟨j,rfl⟩:=jK.succ (aw T _) kA
     have dB:=jK.ok.aE hT (cB kA).2;have I2:=dB.run sC;have cG:=(gR.aE hT sC jK.ok.1 (cB kA).2).1;simp only[go_sem,simprocAttr,kA];refine⟨_,Qp.hx hp _ _,?_⟩;simp only[go_sem,simprocAttr,k1];refine aL _ _ (by simp) (Qp.hx hp _ _) (hC.chain hp dB) ?_;rcases C4:fL T ty (aE s')with⟨⟨en,eh,⟨k8,n8,q8,l8⟩,ep⟩,s9⟩
     rw[C4]at I2 cG;simp only[go_sem,simprocAttr,ai.cells,af.cells,pO];refine⟨by intro r hr;simp at hr;subst hr;rfl,?_⟩;refine jK.app (fun k o h=>ag h _) aK (by decide) ?_;intro id ver A' m1 m2 m3;have g0:=(m3 0 (by simp)).trans k0;have g1:=(m3 1 (by simp)).trans k1;simp only[go_sem,simprocAttr,g1];exact⟨(j,s9,wB++[⟨en,eh,.mk k8 n8 q8 l8,ep⟩],.gs id ver 0 (wB.length+1),A'.set 1 (.var [sV nm,a,.gs id ver 0 (wB.length+1),iV tp])),⟨⟨jK.next (aw T _) kA C4 I2 cG m1 m2 (cD (by simp)) (by intro k hk;rw[List.length_set];have h1:=jK.len k hk;exact aT ((m3 k hk).trans (List.getElem?_eq_getElem h1))),aM g0 (by decide),aR g1,fun h=>aM ((m3 qn (by simp)).trans (kq h)) (by rintro rfl;exact hq1 h (by simp))⟩,rfl⟩,by have h1:s'.i<s9.i:=cG;have:=jK.ok.1;simp only;omega⟩
   ·have hg:bp T 5 s'=true:=by rw[yM,hc,hk];rfl
    simp only[go_sem,simprocAttr,Tok.cells,hk];obtain⟨j,rfl⟩:=hL.succ o5 hg;have hsw:=hL.ok.aE hT (show(aD T s').k≠8 by have:=of_decide_eq_true hk;omega);have hw:cU T 5 s'=((aD T s').t,aE s'):=by unfold cU;rw[if_pos hg]
    refine⟨_,Qp.hx hp _ _,?_⟩;simp only[go_sem,simprocAttr,i1];refine aL _ _ (by simp) (Qp.hx hp _ _) ((uB aK 5).chain hp hL.ok) ?_;rw[hw];simp only[go_sem,simprocAttr,pO];refine⟨by intro r hr;simp at hr;subst hr;rfl,?_⟩;refine hL.app (fun k o h=>ag h _) aK (by decide) ?_;intro id ver A' k1 k2 k3;have j0:=(k3 0 (by decide)).trans i0;have j1:=(k3 1 (by decide)).trans i1;simp only[go_sem,simprocAttr,j1];exact⟨(j,aE s',acc++[(aD T s').t],.gs id ver 0 (acc.length+1),A'.set 1 (.var [sV [],.gs id ver 0 (acc.length+1),.p .nl,iV tp])),⟨⟨hL.next o5 hg hw hsw (by show s'.i<s'.i+1;omega) k1 k2 (cD (by decide)) (by intro k hk;rw[List.length_set];simp at hk;rcases hk with rfl|rfl;exact aT j0;exact aT j1),aM j0 (by decide),aR j1⟩,rfl⟩,by have:=hL.ok.1;show T.length-(s'.i+1)<T.length-s'.i;omega⟩
end
section
variable {T:List Tok} {lim e:Nat} (hT:bH T) (aK:T.length<=1073741825)
include hT aK
theorem Y4 {ty:PM af} {ex:PM aa} (eY:PF (bG T lim) T e 175 [] ty Ac) (kY:ab T ty) (hex:PF (bG T lim) T e 34 [] ex jQ) (sex:ab T ex):PF (bG T lim) T e 49 [] (jh T T.length ty ex) GI:=by
 have hD:=Y3 hT aK eY kY;have sD:=Pg.qi (N:=T.length) hT kY;have oT:eI T (aH T [116,121,112,101]):=aw T _;refine dm (dt T lim) fun H p s hp hs=>?_
 refine call49 (by simp) ?_;simp only[go_sem,simprocAttr,Si,aaO];unfold jh;rcases hV:many (aH T [116,121,112,101]) (iK T T.length ty) T.length s with⟨ds,s2⟩
 rcases jS:ex s2 with⟨⟨k5,n5,u5,t5,q5,l5,m5⟩,s5⟩
 simp only[aN,cV,il,hV,jS]
 refine⟨Nat×PS×List ao×AV×List AO,[0,2,3],fun x st=>(Lp (bG T lim) T e H p [0,1] 4 ao.cells (aH T [116,121,112,101]) (iK T T.length ty) ds s2 x.1 x.2.1 x.2.2.1 x.2.2.2.1 x.2.2.2.2/\x.2.2.2.2[0]?=some (.var [.p .nl,iV 0,sV [],iV 0,sV [],iV 0,.p .nl,.p .nl])/\x.2.2.2.2[1]?=some (.var [x.2.2.2.1,iV 0,sV [],iV 0,sV [],iV 0,.p .nl,.p .nl]))/\
   st=⟨[(0,.ptr p 0),(2,.ptr H.length 0),(3,.ptr (H.length+1) 0)],[],H.set p (bG T lim x.2.1)++x.2.2.2.2⟩,fun x=>T.length-x.2.1.i,⟨(T.length,s,[],.p .nl,[.var [.p .nl,iV 0,sV [],iV 0,sV [],iV 0,.p .nl,.p .nl],.var [.p .nl,iV 0,sV [],iV 0,sV [],iV 0,.p .nl,.p .nl]]),?_⟩,?_⟩
 ·refine⟨⟨Lp.start hs hV (by simp),rfl,rfl⟩,?_⟩
  simp only[go_sem,simprocAttr]
 ·rintro⟨j,s',acc,a,A⟩ _ ⟨⟨hL,i0,i1⟩,rfl⟩
  simp only at hL i0 i1⊢;simp only[go_sem,simprocAttr];refine U (Bb [116,121,112,101] H _ p s' hp hL.ok) ?_;cases hg:aH T [116,121,112,101] s'
  ·obtain⟨rfl,rfl⟩:=hL.stop hg
   simp only[go_sem,simprocAttr,hg];have lO:=hL.ok.run sex;have hc5:=hex H A p s' hp hL.ok;rw[jS]at lO hc5;simp only at lO;refine U hc5 ?_;have hz:∀o,(A.set 1 o)[1]?=some o:=fun o=>aR i1
   have qT:∀o,(A.set 1 o)[0]?=some (.var [.p .nl,iV 0,sV [],iV 0,sV [],iV 0,.p .nl,.p .nl]):=fun o=>aM i0 (by decide)
   have sc:∀o o',((A.set 1 o).set 0 o')[0]?=some o':=fun o o'=>aR (qT o)
   simp only[go_sem,simprocAttr,aa.cells,i1,hz,qT,qpS hp]
   have oJ:∀s9,bI H.length (H.set p (bG T lim s9)++(A.set 1 (.var [a,iV k5,sV n5,iV u5,sV t5,iV q5,.p (.l (aa.aJ l5)),.p (.l (aa.bL m5))])).set 0 (.var [a,iV k5,sV n5,iV u5,sV t5,iV q5,.p (.l (aa.aJ l5)),.p (.l (aa.bL m5))])) (.st [a,iV k5,sV n5,iV u5,sV t5,iV q5,.p (.l (aa.aJ l5)),.p (.l (aa.bL m5))]) (GI ⟨acc,.mk k5 n5 u5 t5 q5 l5 m5⟩):=fun s9=>by
    refine fp.st (.cons (hL.mI (fun k o hk h=>?_) adK) (fp.pure (aa.cells (.mk k5 n5 u5 t5 q5 l5 m5))));rw[List.getElem?_set_ne (by rintro rfl;exact hk (by simp)),List.getElem?_set_ne (by rintro rfl;exact hk (by simp))];exact h
   by_cases hc:s5.c=0
   ·simp only[go_sem,simprocAttr,dT hc]
    refine U (kb H _ p s5 hp lO) ?_;by_cases hk:(aD T s5).k=8
    ·have hE:iU T s5=s5:=by unfold iU bp;simp[hc,hk]
     rw[hE];simp only[go_sem,simprocAttr,Tok.cells,dT hk,decide_not,Bool.not_true,Bool.not_false,hz,qT,sc];exact⟨_,rfl,oJ _⟩
    ·have hE:iU T s5=dI T 11 s5:=by unfold iU bp;simp[hc,hk]
     rw[hE];simp only[go_sem,simprocAttr,Tok.cells,dF hk,decide_not,Bool.not_true,Bool.not_false];refine U (sE 11 H _ p s5 hp lO) ?_;simp only[go_sem,simprocAttr,hz,qT,sc];exact⟨_,rfl,oJ _⟩
   ·have hE:iU T s5=s5:=by unfold iU;rw[wX hc];simp[rq hc]
    rw[hE];simp only[go_sem,simprocAttr,dF hc,hz,qT,sc];exact⟨_,rfl,oJ _⟩
  ·obtain⟨j,rfl⟩:=hL.succ oT hg
   have I2:=hL.ok.run sD;have cG:=I1 hT aK kY hL.ok.1 hg;simp only[go_sem,simprocAttr,hg];refine⟨_,Qp.hx hp _ _,?_⟩;simp only[go_sem,simprocAttr,i1];refine aL _ _ (by simp) (Qp.hx hp _ _) (hD.chain hp hL.ok) ?_;rcases C4:iK T T.length ty s' with⟨⟨dn,dv,dc,dq⟩,s9⟩
   rw[C4]at I2 cG;simp only[go_sem,simprocAttr,ao.cells,pO];refine⟨by intro r hr;simp at hr;subst hr;rfl,?_⟩;refine hL.app (fun k o h=>ag h _) aK (by decide) ?_;intro id ver A' m1 m2 m3;have j0:=(m3 0 (by decide)).trans i0;have j1:=(m3 1 (by decide)).trans i1;simp only[go_sem,simprocAttr,j1];exact⟨(j,s9,acc++[⟨dn,dv,dc,dq⟩],.gs id ver 0 (acc.length+1),A'.set 1 (.var [.gs id ver 0 (acc.length+1),iV 0,sV [],iV 0,sV [],iV 0,.p .nl,.p .nl])),⟨⟨hL.next oT hg C4 I2 cG m1 m2 (cD (by decide)) (by intro k hk;rw[List.length_set];simp at hk;rcases hk with rfl|rfl;exact aT j0;exact aT j1),aM j0 (by decide),aR j1⟩,rfl⟩,by have h1:s'.i<s9.i:=cG;have:=hL.ok.1;simp only;omega⟩
end
def uZ:aI:=⟨[],AN⟩
def dM (s:List UInt8):aI×Int×Int:=
  match kX s with
  | .inr (c,i)=>(uZ,c,i)
  | .inl T=>match told (jh T T.length (l9 T T.length 40 41 1) (fm T T.length 40 41 1))with
    | .inl e=>(e,0,0)
    | .inr (c,q)=>(uZ,c,q)
theorem Md {s:List UInt8} {T:List Tok} (h:kX s=.inl T):told (jh T T.length (l9 T T.length 40 41 1) (fm T T.length 40 41 1))=told (jh T T.length (OK T T.length 40 41) (EJ T T.length 40 41)):=
 Ry (nS h).1 (Rx (nS h).1 (M9 (nS h).1 (nS h).1.pos 41 0 fun e' h1 h2=>by omega) (HW (nS h).1 41 0 fun e' h1 h2=>by omega))
theorem Dk {s:List UInt8} {T:List Tok} (h:kX s=.inl T):dM s=(match told (jh T T.length (l9 T T.length 40 41 1) (fm T T.length 40 41 1))with| .inl e=>(e,0,0)| .inr (c,q)=>(uZ,c,q)):=by
 unfold dM;rw[h]
theorem Dl (b u:Nat) (X:List AO):Env b u X (aI.tv uZ) [.p .nl,iV 0,sV [],iV 0,sV [],iV 0,.p .nl,.p .nl]:=Env.nlF (hQ b u X 0 [] 0 [] 0)
theorem Env.adL {b u:Nat} {X:List AO} {cs:List AV} {l:List ao} {k:Int} {nm:List UInt8} {un:Int} {t:List UInt8} {q:Int} {ks:List aa} {bf:List ar} (h:Env b u X (aI.tv ⟨l,.mk k nm un t q ks bf⟩) cs):∃a c d,cs=[a,iV k,sV nm,iV un,sV t,iV q,c,d]:=by
 have hl:=h.len;rw[aI.b9]at hl
 obtain⟨a,cs,rfl⟩:∃a fP,cs=a::fP:=by
  match cs,hl with
  |a::fP,_=>exact⟨a,fP,rfl⟩
 obtain⟨c,d,rfl⟩:=Env.fK (ts:=[.s 4 (l.map ao.tv)]) (ds:=[a]) (cs:=cs) h rfl;exact⟨a,c,d,rfl⟩
theorem Me {s:List UInt8} {H:List AO} (hs:s.length<=1099511627776) (hg:Rg H):
  al Tryz.prog 16 [.p (.s s)] H (fun r H'=>∃cs G,r=.dK [.st cs,DR (dM s).2.1 (dM s).2.2]/\H'=H++G/\Env H.length H'.length H' (dM s).1.tv cs):=by
 refine call16 (by simp) ?_;simp only[go_sem,simprocAttr,TR,abh];refine U (agd (by omega) (hg.ext _)) ?_;rcases hl:kX s with T|⟨c,i⟩
 rotate_left
 ·have hp:dM s=(uZ,c,(i:Int)):=by unfold dM;rw[hl]
  rw[UI,hp];simp only[go_sem,simprocAttr,dF (yW hl),dT (yW hl),decide_not,Bool.not_true,Bool.not_false];refine⟨H++[.dead,_,_],mP _ _ _,?_⟩;simp only[go_sem,simprocAttr];refine⟨mP _ _ _,?_⟩;refine⟨_,_,rfl,rfl,?_⟩;exact Dl _ _ _
 ·obtain⟨hT,aK⟩:=nS hl
  have aK:T.length<=1073741825:=by omega
  rw[LV,Dk hl,GF];simp only[go_sem,simprocAttr,List.length_append];rcases hq:jh T T.length (l9 T T.length 40 41 1) (fm T T.length 40 41 1) ⟨0,0,0,0,0⟩with⟨⟨ds,k1,n1,u1,t1,q1,l1,m1⟩,s1⟩
  have bx:=(UH hT).run (AS (N:=T.length) hT (gA (N:=T.length) hT 40 41 1) (cE (N:=T.length) hT 40 41 1));rw[hq]at bx;simp only at bx;refine(PX.top (NT hT aK (Vd hT aK 41 1 (by omega) (by omega) (by omega)) (gA hT 40 41 1) (LU hT aK 41 1 (by omega) (by omega) (by omega)) (cE hT 40 41 1) (H.length+3)) aI.wf hq (by rw[eZ];rfl) (UH hT)).mono ?_;rintro r X' ⟨cs,R,rfl,rfl,hE⟩;obtain⟨a1,c1,b1,rfl⟩:=Env.adL hE;rw[p4]at hE⊢;have LQ:=fun(a' b' c' d':AO) (S:List AO) (v:Nat) (hv:H.length+4+R.length<=v)=>IP (a':=a') (b':=b') (c':=c') (d':=d') (S:=S) (v:=v) hv hE
  simp only[go_sem,simprocAttr];refine U (jx.at (by rw[eZ];rfl) bx) ?_;by_cases hc:s1.c=0
  ·rw[if_pos hc]
   simp only[go_sem,simprocAttr,dT hc,Bool.not_true,Bool.not_false];exact⟨_,_,rfl,rfl,LQ _ _ _ _ _ _ (by omega)⟩
  ·rw[if_neg hc]
   simp only[go_sem,simprocAttr,dF hc,Bool.not_true,Bool.not_false];refine⟨H++(.dead::_),mP _ _ _,?_⟩;simp only[go_sem,simprocAttr,cW];refine⟨mP _ _ _,?_⟩;refine⟨_,_,rfl,rfl,?_⟩;exact Dl _ _ _
theorem specParse {s:List UInt8} {H:List AO} (hs:s.length<=1099511627776):
  al Tryz.prog 17 [.p (.s s)] H (aP (.dK [GI (dM s).1,DR (dM s).2.1 (dM s).2.2]) H):=by
 refine nN ?_;refine call17 (by simp) ?_;simp only[go_sem,simprocAttr,Se,aaL];refine U (ac5 (by omega)) ?_
 have lz:∀(X:List AO) (c q:Int),bI H.length X (.dK [.st [.p .nl,iV 0,sV [],iV 0,sV [],iV 0,.p .nl,.p .nl],DR c q]) (.dK [GI uZ,DR c q]):=fun X c q=>by
  refine gZ ?_ (mZ c q);exact fp.st (.cons .nl (.pc (.pc (.pc (.pc (.pc (.cons (by rw[aa.aJ];exact .nl) (.cons (by rw[aa.bL];exact .nl) .nil))))))))
 rcases hl:kX s with T|⟨c,i⟩
 rotate_left
 ·have hp:dM s=(uZ,c,(i:Int)):=by unfold dM;rw[hl]
  rw[UI,hp];simp only[go_sem,simprocAttr,dF (yW hl),dT (yW hl),decide_not,Bool.not_true,Bool.not_false];refine⟨H++[.dead,_,_],mP _ _ _,?_⟩;simp only[go_sem,simprocAttr];refine⟨mP _ _ _,?_⟩;exact⟨_,rfl,lz _ _ _⟩
 ·obtain⟨hT,aK⟩:=nS hl
  have aK:T.length<=1073741825:=by omega
  rw[LV,Dk hl,Md hl,GF];simp only[go_sem,simprocAttr,List.length_append];rcases hq:jh T T.length (OK T T.length 40 41) (EJ T T.length 40 41) ⟨0,0,0,0,0⟩with⟨⟨ds,k1,n1,u1,t1,q1,l1,m1⟩,s1⟩
  have bx:=(UH hT).run (AS (N:=T.length) hT (vy (N:=T.length) hT 40 41) (su (N:=T.length) hT 40 41));rw[hq]at bx;simp only at bx;have Vn:=(Y4 hT aK (abc hT aK (lim:=40) (by omega) 41 0 rfl (by omega)) (vy hT 40 41) (TP hT aK (lim:=40) (by omega) 41 0 rfl (by omega)) (su hT 40 41)).at (X:=H++[.var [.p .nl,iV 0,sV [],iV 0,sV [],iV 0,.p .nl,.p .nl],.var [iV 0,iV 0],.var [iV 0,iV 0],bG T 40 ⟨0,0,0,0,0⟩]) (p:=H.length+3) (by rw[eZ];rfl) (UH hT);rw[hq]at Vn;refine U Vn ?_;by_cases hc:s1.c=0
  ·rw[if_pos hc]
   simp only[go_sem,simprocAttr,aI.cells,aa.cells,bG,dT hc,decide_not,Bool.not_true,Bool.not_false];exact⟨_,rfl,gZ (aZ (dP (aI.cells ⟨ds,.mk k1 n1 u1 t1 q1 l1 m1⟩))) (mZ 0 0)⟩
  ·rw[if_neg hc]
   simp only[go_sem,simprocAttr,aI.cells,aa.cells,bG,dF hc,decide_not,Bool.not_true,Bool.not_false];refine⟨H++(.dead::_),mP _ _ _,?_⟩;simp only[go_sem,simprocAttr];refine⟨mP _ _ _,?_⟩;exact⟨_,rfl,lz _ _ _⟩
end Go.Proofs.YteilijfligofdaaGreatDoor.Qp
namespace Go.Proofs.YteilijfligofdaaGreatDoor.Pg
open Go.AM Mc Qp
mutual
theorem Vo (t:af):TV.kM t.tv=t.cells:=by
 match t with
 | .mk k n p ks=>rw[af.tv,af.cells];simp only[TV.kM,TV.pv,Vp ks]
theorem Vp (l:List af):TV.kL (af.jT l)=af.aJ l:=by
 match l with
 |[]=>rw[af.jT,TV.kL,af.aJ]
 |t::l=>rw[af.jT,TV.kL,af.aJ,Vo t,Vp l]
end
theorem Vq (l:List (List UInt8)):TV.kL (mo l)=eH l:=by
 unfold mo eH
 induction l with
 |nil=>rfl
 |cons s l ih=>rw[List.map_cons,TV.kL,ih];simp only[TV.kM,TV.pv];rfl
theorem Vr (l:List ai):TV.kL (l.map ai.tv)=l.map ai.cells:=by
 induction l with
 |nil=>rfl
 |cons c l ih=>rw[List.map_cons,TV.kL,ih,ai.tv,Dd,Dd,Vo];simp only[TV.kM,TV.pv];rfl
theorem Vs (l:List ao):TV.kL (l.map ao.tv)=l.map ao.cells:=by
 induction l with
 |nil=>rfl
 |cons d l ih=>rw[List.map_cons,TV.kL,ih];simp only[ao.tv,TV.kM,TV.pv,Vq,Vr];rfl
theorem Y5 (g:aI):TV.kM g.tv=g.cells:=by
 rw[aI.tv,TV.kM,TV.pv,Vs,LW];rfl
theorem aI.Mf (g:aI):g.cells.length=8:=by obtain⟨ts,b⟩:=g;cases b;rfl
theorem I3 {s:List UInt8} {H:List AO} (hs:s.length≤1099511627776) (hg:Rg H):
    al Tryz.prog 16 [.p (.s s)] H (aP (.dK [.st ((dM s).1.cells.map .p),DR (dM s).2.1 (dM s).2.2]) H):=by
  refine nN ((Me hs hg).mono ?_);rintro r _ ⟨cs,G,rfl,rfl,ids,o1,o2,o3,o4⟩;refine⟨G,rfl, .dK _ _ rfl fun j a b ha hb=> ?_⟩
  match j,ha,hb with
  |0,ha,hb=>
   cases ha;cases hb;have h1:=GG o1 fun i hi=>(o4 i hi).1
   rw[Y5]at h1;refine .st _ _ (by rw[o1.len,List.length_map,aI.Mf,aI.tv,List.length_cons,LX]) fun j c q hc hq=> ?_
   rw[List.getElem?_map]at hq
   cases hx:(dM s).1.cells[j]?with
   |none =>rw[hx]at hq;cases hq
   |some x=>rw[hx]at hq;cases hq;exact h1 j c x hc hx
  |1,ha,hb=>cases ha;cases hb;exact .tf _ (mZ _ _)
end Go.Proofs.YteilijfligofdaaGreatDoor.Pg
set_option linter.all false
set_option maxRecDepth 100000
namespace Go.Proofs.YteilijfligofdaaGreatDoor.Mc
open Go.AM
def NU:bz (Tryz.f15.body.map (compile [0,1,2,5] Tryz.prog 14)):=⟨_,by conv=>lhs;cbv⟩
def Vt:List MR:=[.t 2]
theorem call15:ax Tryz.prog 15 14 NU.m Vt:=NU.call Tryz.func15 (by kernel_rfl)
def Vu:bz (Tryz.f19.body.map (compile [0,1,2] Tryz.prog 12)):=⟨_,by conv=>lhs;cbv⟩
def abL:List MR:=[.t 2]
theorem call19:ax Tryz.prog 19 12 Vu.m abL:=Vu.call Tryz.func19 (by kernel_rfl)
def Vv:bz (Tryz.f47.body.map (compile [0,2,3,5,7,8,10,11,12,13,14,15,21,22,23,24,34,35,36,37,43] Tryz.prog 67)):=⟨_,by conv=>lhs;cbv⟩
def abM:List MR:=[.t 2]
theorem call47:ax Tryz.prog 47 67 Vv.m abM:=Vv.call Tryz.func47 (by kernel_rfl)
def pQ:bz (Tryz.f24.body.map (compile [0,1,2,4,5,6,7,8,10,11,16,21,26,28,32,39,69,75,89,110] Tryz.prog 128)):=⟨_,by conv=>lhs;cbv⟩
def qB:List MR:=[.t 4]
theorem call24:ax Tryz.prog 24 128 pQ.m qB:=pQ.call Tryz.func24 (by kernel_rfl)
def mc9:bz (Tryz.f9.body.map (compile [0,1,2,4,6,9,11,12,13,14,19,22,23,24,25,37] Tryz.prog 39)):=⟨_,by conv=>lhs;cbv⟩
def mr9:List MR:=[.t 2]
theorem call9:ax Tryz.prog 9 39 mc9.m mr9:=mc9.call Tryz.func9 (by kernel_rfl)
def Vw:bz (Tryz.f51.body.map (compile [0,1,4] Tryz.prog 9)):=⟨_,by conv=>lhs;cbv⟩
def abN:List MR:=[.t 4]
theorem call51:ax Tryz.prog 51 9 Vw.m abN:=Vw.call Tryz.func51 (by kernel_rfl)
def Vx:bz (Tryz.f52.body.map (compile [0,1,2] Tryz.prog 6)):=⟨_,by conv=>lhs;cbv⟩
def abO:List MR:=[.t 2]
theorem call52:ax Tryz.prog 52 6 Vx.m abO:=Vx.call Tryz.func52 (by kernel_rfl)
def Vy:bz (Tryz.f53.body.map (compile [0,1,2,4,6,7,8,9,41] Tryz.prog 63)):=⟨_,by conv=>lhs;cbv⟩
def abP:List MR:=[.t 2]
theorem call53:ax Tryz.prog 53 63 Vy.m abP:=Vy.call Tryz.func53 (by kernel_rfl)
def u9:bz (Tryz.f105.body.map (compile [0,1,2,4,6,7,23,30,40,48] Tryz.prog 60)):=⟨_,by conv=>lhs;cbv⟩
def xA:List MR:=[.t 4]
theorem call105:ax Tryz.prog 105 60 u9.m xA:=u9.call Tryz.func105 (by kernel_rfl)
def Vz:bz (Tryz.f62.body.map (compile [0,2,3,4,9,14,21,26] Tryz.prog 39)):=⟨_,by conv=>lhs;cbv⟩
def abQ:List MR:=[.t 2]
theorem call62:ax Tryz.prog 62 39 Vz.m abQ:=Vz.call Tryz.func62 (by kernel_rfl)
def VA:bz (Tryz.f63.body.map (compile [0,2,4] Tryz.prog 5)):=⟨_,by conv=>lhs;cbv⟩
def abR:List MR:=[.t 2]
theorem call63:ax Tryz.prog 63 5 VA.m abR:=VA.call Tryz.func63 (by kernel_rfl)
def VB:bz (Tryz.f64.body.map (compile [0,1,2,3,8,9,11,12,13,14,15] Tryz.prog 29)):=⟨_,by conv=>lhs;cbv⟩
def abS:List MR:=[.t 8]
theorem call64:ax Tryz.prog 64 29 VB.m abS:=VB.call Tryz.func64 (by kernel_rfl)
def VC:bz (Tryz.f65.body.map (compile [0,2,3,4,5,6,8,11] Tryz.prog 13)):=⟨_,by conv=>lhs;cbv⟩
def abT:List MR:=[.t 2,.t 3,.t 4]
theorem call65:ax Tryz.prog 65 13 VC.m abT:=VC.call Tryz.func65 (by kernel_rfl)
def VD:bz (Tryz.f66.body.map (compile [0,1,2,6,9] Tryz.prog 14)):=⟨_,by conv=>lhs;cbv⟩
def abU:List MR:=[.t 6]
theorem call66:ax Tryz.prog 66 14 VD.m abU:=VD.call Tryz.func66 (by kernel_rfl)
def Dm:bz (Tryz.f67.body.map (compile [0,1,2,3,4,6,9,10,23,40,49,67,68,69,70] Tryz.prog 87)):=⟨_,by conv=>lhs;cbv⟩
def Fc:List MR:=[.t 2]
theorem call67:ax Tryz.prog 67 87 Dm.m Fc:=Dm.call Tryz.func67 (by kernel_rfl)
def VE:bz (Tryz.f27.body.map (compile [0,1,2,3,4,5,6,21,22,27,32,37,39,44,53,59,68,74,83,95,101,107,116] Tryz.prog 150)):=⟨_,by conv=>lhs;cbv⟩
def abV:List MR:=[.t 2]
theorem call27:ax Tryz.prog 27 150 VE.m abV:=VE.call Tryz.func27 (by kernel_rfl)
def VF:bz (Tryz.f28.body.map (compile [0,1,2,3,4,5,17,18,21,26,31,36,42] Tryz.prog 69)):=⟨_,by conv=>lhs;cbv⟩
def abW:List MR:=[.t 2]
theorem call28:ax Tryz.prog 28 69 VF.m abW:=VF.call Tryz.func28 (by kernel_rfl)
def Mg:bz (Tryz.f114.body.map (compile [0,1,4,5,7,8,9,16] Tryz.prog 19)):=⟨_,by conv=>lhs;cbv⟩
def VG:List MR:=[.t 4]
theorem call114:ax Tryz.prog 114 19 Mg.m VG:=Mg.call Tryz.func114 (by kernel_rfl)
def VH:bz (Tryz.f78.body.map (compile [0,2] Tryz.prog 5)):=⟨_,by conv=>lhs;cbv⟩
def abX:List MR:=[.t 2]
theorem call78:ax Tryz.prog 78 5 VH.m abX:=VH.call Tryz.func78 (by kernel_rfl)
def Mh:bz (Tryz.f115.body.map (compile [0,1,2,3,4,9,10,15,24,30,36] Tryz.prog 57)):=⟨_,by conv=>lhs;cbv⟩
def VI:List MR:=[.t 2]
theorem call115:ax Tryz.prog 115 57 Mh.m VI:=Mh.call Tryz.func115 (by kernel_rfl)
def Mi:bz (Tryz.f116.body.map (compile [0,1,2] Tryz.prog 22)):=⟨_,by conv=>lhs;cbv⟩
def VJ:List MR:=[.t 2]
theorem call116:ax Tryz.prog 116 22 Mi.m VJ:=Mi.call Tryz.func116 (by kernel_rfl)
def VK:bz (Tryz.f77.body.map (compile [0,2] Tryz.prog 10)):=⟨_,by conv=>lhs;cbv⟩
def abY:List MR:=[.t 2]
theorem call77:ax Tryz.prog 77 10 VK.m abY:=VK.call Tryz.func77 (by kernel_rfl)
def Mj:bz (Tryz.f117.body.map (compile [0,1,4] Tryz.prog 9)):=⟨_,by conv=>lhs;cbv⟩
def VL:List MR:=[.t 4]
theorem call117:ax Tryz.prog 117 9 Mj.m VL:=Mj.call Tryz.func117 (by kernel_rfl)
def Mk:bz (Tryz.f118.body.map (compile [0,2] Tryz.prog 6)):=⟨_,by conv=>lhs;cbv⟩
def VM:List MR:=[.t 2]
theorem call118:ax Tryz.prog 118 6 Mk.m VM:=Mk.call Tryz.func118 (by kernel_rfl)
def Ml:bz (Tryz.f119.body.map (compile [0,1,4] Tryz.prog 21)):=⟨_,by conv=>lhs;cbv⟩
def VN:List MR:=[.t 4]
theorem call119:ax Tryz.prog 119 21 Ml.m VN:=Ml.call Tryz.func119 (by kernel_rfl)
def Mm:bz (Tryz.f147.body.map (compile [0,1,2,3,8,9,11,12,13,14,15] Tryz.prog 29)):=⟨_,by conv=>lhs;cbv⟩
def VO:List MR:=[.t 8]
theorem call147:ax Tryz.prog 147 29 Mm.m VO:=Mm.call Tryz.func147 (by kernel_rfl)
def Mn:bz (Tryz.f122.body.map (compile [0,1,3] Tryz.prog 10)):=⟨_,by conv=>lhs;cbv⟩
def VP:List MR:=[.t 3]
theorem call122:ax Tryz.prog 122 10 Mn.m VP:=Mn.call Tryz.func122 (by kernel_rfl)
def qV:bz (Tryz.f123.body.map (compile [0,1,2,4,6,7,11,16,21,23,30,35] Tryz.prog 49)):=⟨_,by conv=>lhs;cbv⟩
def sO:List MR:=[.t 4]
theorem call123:ax Tryz.prog 123 49 qV.m sO:=qV.call Tryz.func123 (by kernel_rfl)
def VQ:bz (Tryz.f75.body.map (compile [0,2,3,7,21] Tryz.prog 22)):=⟨_,by conv=>lhs;cbv⟩
def abZ:List MR:=[.t 2]
theorem call75:ax Tryz.prog 75 22 VQ.m abZ:=VQ.call Tryz.func75 (by kernel_rfl)
def VR:bz (Tryz.f79.body.map (compile [0,2] Tryz.prog 6)):=⟨_,by conv=>lhs;cbv⟩
def ab0:List MR:=[.t 2]
theorem call79:ax Tryz.prog 79 6 VR.m ab0:=VR.call Tryz.func79 (by kernel_rfl)
def VS:bz (Tryz.f80.body.map (compile [0,2,3,4,6] Tryz.prog 12)):=⟨_,by conv=>lhs;cbv⟩
def ab1:List MR:=[.t 2]
theorem call80:ax Tryz.prog 80 12 VS.m ab1:=VS.call Tryz.func80 (by kernel_rfl)
def VT:bz (Tryz.f81.body.map (compile [0,1,4] Tryz.prog 9)):=⟨_,by conv=>lhs;cbv⟩
def ab2:List MR:=[.t 4]
theorem call81:ax Tryz.prog 81 9 VT.m ab2:=VT.call Tryz.func81 (by kernel_rfl)
def VU:bz (Tryz.f82.body.map (compile [0,1,2] Tryz.prog 6)):=⟨_,by conv=>lhs;cbv⟩
def ab3:List MR:=[.t 2]
theorem call82:ax Tryz.prog 82 6 VU.m ab3:=VU.call Tryz.func82 (by kernel_rfl)
def Mo:bz (Tryz.f158.body.map (compile [0,1,4] Tryz.prog 9)):=⟨_,by conv=>lhs;cbv⟩
def VV:List MR:=[.t 4]
theorem call158:ax Tryz.prog 158 9 Mo.m VV:=Mo.call Tryz.func158 (by kernel_rfl)
def Mp:bz (Tryz.f159.body.map (compile [0,1,2] Tryz.prog 6)):=⟨_,by conv=>lhs;cbv⟩
def VW:List MR:=[.t 2]
theorem call159:ax Tryz.prog 159 6 Mp.m VW:=Mp.call Tryz.func159 (by kernel_rfl)
def Mq:bz (Tryz.f160.body.map (compile [0,1,4,5,7,8,9,16] Tryz.prog 19)):=⟨_,by conv=>lhs;cbv⟩
def VX:List MR:=[.t 4]
theorem call160:ax Tryz.prog 160 19 Mq.m VX:=Mq.call Tryz.func160 (by kernel_rfl)
def Mr:bz (Tryz.f163.body.map (compile [0,1,2,3,8,9,11,12,13,14,15] Tryz.prog 29)):=⟨_,by conv=>lhs;cbv⟩
def VY:List MR:=[.t 8]
theorem call163:ax Tryz.prog 163 29 Mr.m VY:=Mr.call Tryz.func163 (by kernel_rfl)
def Ms:bz (Tryz.f131.body.map (compile [0,1,4,5,7,8,9,16] Tryz.prog 19)):=⟨_,by conv=>lhs;cbv⟩
def VZ:List MR:=[.t 4]
theorem call131:ax Tryz.prog 131 19 Ms.m VZ:=Ms.call Tryz.func131 (by kernel_rfl)
def Mt:bz (Tryz.f179.body.map (compile [0,1,4,5,7,8,9,16] Tryz.prog 19)):=⟨_,by conv=>lhs;cbv⟩
def V0:List MR:=[.t 4]
theorem call179:ax Tryz.prog 179 19 Mt.m V0:=Mt.call Tryz.func179 (by kernel_rfl)
end Go.Proofs.YteilijfligofdaaGreatDoor.Mc
namespace Go.Proofs.YteilijfligofdaaGreatDoor.Qp
open Go.AM Mc Pg
theorem LL.{u}:(∀(α:Type u) (a b:List α),(a++b).length=a.length+b.length)/\(∀(α:Type u) (a:α) (l:List α),(a::l).length=l.length+1)/\(∀α:Type u,([]:List α).length=0):=⟨fun _ _ _=>List.length_append,fun _ _ _=>rfl,fun _=>rfl⟩
attribute [go_sem] Bool.not_not
abbrev cJ (cs:List PV):AV:=.st (cs.map .p)
theorem Bt {f:Nat} {q:UInt8→Bool} (hf:xa f q) {s:List UInt8} (hs:s.length≤1073741824) (H:List AO):al Tryz.prog 119 [.p (.s s), .eB f []] H (aP (.p (.b (tu q s))) H):=by
  refine call119 (by simp) ?_;simp only[go_sem,simprocAttr,Ml,VN];intro _;refine U (uz _ _ _ _) ?_;generalize hb:(decide ((1:Int)≤_)&&decide (_ ≤(12:Int)))=b;cases b
  · simp only[go_sem,simprocAttr]
    refine⟨?_,rfl⟩
    cases s with
    |nil=>rfl
    |cons c l=>
     have gz:¬(c::l).length≤12:=by simp at hb⊢;omega
     simp only[tu,dF gz,Bool.false_and]
  · simp only[Bool.and_eq_true,decide_eq_true_eq]at hb
    have h0:0<s.length:=by omega
    have hg:s[0]?=some s[0]:=by simp[h0]
    have en:tu q s=(q s[0]&&decide (bo cx s 0=s.length)):=by
      cases s with
      |nil=>simp at h0
      |cons c l=>rw[tu,dT (show(c::l).length≤12 by omega)];rfl
    simp only[go_sem,simprocAttr,hg];refine U (hf s[0] H) ?_;cases hq:q s[0]
    · simp only[go_sem,simprocAttr,hq]
      exact⟨by rw[en,hq];rfl,rfl⟩
    · simp only[go_sem,simprocAttr,hq]
      refine U (EN F1 (by omega) (i:=0) (by omega) _) ?_;simp only[go_sem,simprocAttr];intro _;refine⟨?_,rfl⟩;rw[en,hq];simp;omega
theorem Dn {s:List UInt8} (hs:s.length<=1073741824) (H:List AO):al Tryz.prog 77 [.p (.s s)] H (aP (.p (.b (mE s))) H):=by
 refine call77 (by simp) ?_;simp only[go_sem,simprocAttr,VK,abY];refine U (Bt vA hs _) ?_;cases h:tu gq s
 ·simp only[go_sem,simprocAttr,h]
  exact⟨by simp[mE,h],rfl⟩
 ·simp only[go_sem,simprocAttr,h]
  refine U (aaK _ _) ?_;simp only[go_sem,simprocAttr];exact⟨by simp[mE,h],rfl⟩
theorem upC {s:List UInt8} (hs:s.length<=1073741824) (H:List AO):al Tryz.prog 78 [.p (.s s)] H (aP (.p (.b (K0 s))) H):=by
 refine call78 (by simp) ?_;simp only[go_sem,simprocAttr,VH,abX];refine U (Bt Bm hs _) ?_;simp only[go_sem,simprocAttr];exact⟨rfl,rfl⟩
def oE {α:Type} (f:Nat) (c:α->AV) (q:α->Bool) (l:List α):Prop:=∀x∈l,∀H:List AO,al Tryz.prog f [c x] H (aP (.p (.b (q x))) H)
theorem vJ {α:Type} {q:α->Bool} {l:List α} {x:Nat} (h:x<l.length):(l.drop x).any q=(q l[x]||(l.drop (x+1)).any q):=by rw[List.drop_eq_getElem_cons h,List.any_cons]
theorem Y6 {f:Nat} {q:ae->Bool} {l:List ae} (hf:oE f (fun x=>cJ x.cells) q l) (H:List AO):
  al Tryz.prog 131 [.p (.l (l.map ae.cells)),.eB f []] H (fun r H'=>H'=H/\∃z:Int,r=.p (.i .i64 z)/\decide (0<=z)=l.any q):=by
 refine call131 (by simp) ?_;simp only[go_sem,simprocAttr,Ms,VZ,List.length_map];intro hl;rw[bP]at hl;refine⟨Nat,[0,1,4,7,8],fun x st=>(x<=l.length/\l.any q=(l.drop x).any q)/\st=⟨[(0,.p (.l (l.map ae.cells))),(1,.eB f []),(4,.p (.i .i64 0)),(7,.p (.i .i64 l.length)),(8,.p (.i .i64 x))],[],H⟩,fun x=>l.length-x,⟨0,?_⟩,?_⟩
 ·simp only[go_sem,simprocAttr]
  simp
 rintro x _ ⟨⟨hx,hn⟩,rfl⟩;by_cases aF:x<l.length
 ·have d1:decide ((x:Int)<(l.length:Int))=true:=by simp;omega
  have dr:(x:Int)<(l.length:Int):=by omega
  have hg:(l.map ae.cells)[x]?=some (ae.cells l[x]):=by simp[aF]
  have hc:=hf l[x] (List.getElem_mem aF) H;rw[vJ aF]at hn;generalize l[x]=c at hg hc hn;obtain⟨ck,cn,cu,cp,DW⟩:=c;simp only[ae.cells,cJ,List.map_cons,List.map_nil]at hg hc;simp only[go_sem,simprocAttr,d1,dr,hg,List.length_map];refine U hc ?_;generalize q _=b at hn;cases b
  ·simp only[go_sem,simprocAttr,cH x (by omega)]
   exact⟨x+1,⟨⟨by omega,by simpa using hn⟩,rfl⟩,by omega⟩
  ·simp only[go_sem,simprocAttr]
   exact⟨(x:Int),rfl,by rw[hn,Bool.true_or];exact decide_eq_true (by omega)⟩
 ·have d1:decide ((x:Int)<(l.length:Int))=false:=by simp;omega
  simp only[go_sem,simprocAttr,d1];refine⟨-1,rfl,?_⟩;rw[hn,List.drop_of_length_le (by omega)]
  rfl
theorem V1 {f:Nat} {q:ae->Bool} {l:List ae} (hf:oE f (fun x=>cJ x.cells) q l) (H:List AO):
  al Tryz.prog 81 [.p (.l (l.map ae.cells)),.eB f []] H (aP (.p (.b (l.any q))) H):=by
 refine call81 (by simp) ?_;simp only[go_sem,simprocAttr,VT,ab2];refine(Y6 hf H).mono ?_;rintro r H' ⟨rfl,z,rfl,hz⟩;simp only[go_sem,simprocAttr,hz];exact⟨rfl,rfl⟩
theorem adM {f:Nat} {q:af->Bool} {l:List af} (hf:oE f (fun x=>cJ x.cells) q l) (H:List AO):
  al Tryz.prog 179 [.p (.l (l.map af.cells)),.eB f []] H (fun r H'=>H'=H/\∃z:Int,r=.p (.i .i64 z)/\decide (0<=z)=l.any q):=by
 refine call179 (by simp) ?_;simp only[go_sem,simprocAttr,Mt,V0,List.length_map];intro hl;rw[bP]at hl;refine⟨Nat,[0,1,4,7,8],fun x st=>(x<=l.length/\l.any q=(l.drop x).any q)/\st=⟨[(0,.p (.l (l.map af.cells))),(1,.eB f []),(4,.p (.i .i64 0)),(7,.p (.i .i64 l.length)),(8,.p (.i .i64 x))],[],H⟩,fun x=>l.length-x,⟨0,?_⟩,?_⟩
 ·simp only[go_sem,simprocAttr]
  simp
 rintro x _ ⟨⟨hx,hn⟩,rfl⟩;by_cases aF:x<l.length
 ·have d1:decide ((x:Int)<(l.length:Int))=true:=by simp;omega
  have dr:(x:Int)<(l.length:Int):=by omega
  have hg:(l.map af.cells)[x]?=some (af.cells l[x]):=by simp[aF]
  have hc:=hf l[x] (List.getElem_mem aF) H;rw[vJ aF]at hn;generalize l[x]=c at hg hc hn;obtain⟨ck,cn,cp,DW⟩:=c;simp only[af.cells,cJ,List.map_cons,List.map_nil]at hg hc;simp only[go_sem,simprocAttr,d1,dr,hg,List.length_map];refine U hc ?_;generalize q _=b at hn;cases b
  ·simp only[go_sem,simprocAttr,cH x (by omega)]
   exact⟨x+1,⟨⟨by omega,by simpa using hn⟩,rfl⟩,by omega⟩
  ·simp only[go_sem,simprocAttr]
   exact⟨(x:Int),rfl,by rw[hn,Bool.true_or];exact decide_eq_true (by omega)⟩
 ·have d1:decide ((x:Int)<(l.length:Int))=false:=by simp;omega
  simp only[go_sem,simprocAttr,d1];refine⟨-1,rfl,?_⟩;rw[hn,List.drop_of_length_le (by omega)]
  rfl
theorem Y7 {f:Nat} {q:af->Bool} {l:List af} (hf:oE f (fun x=>cJ x.cells) q l) (H:List AO):
  al Tryz.prog 158 [.p (.l (l.map af.cells)),.eB f []] H (aP (.p (.b (l.any q))) H):=by
 refine call158 (by simp) ?_;simp only[go_sem,simprocAttr,Mo,VV];refine(adM hf H).mono ?_;rintro r H' ⟨rfl,z,rfl,hz⟩;simp only[go_sem,simprocAttr,hz];exact⟨rfl,rfl⟩
theorem V2 {f:Nat} {q:ao->Bool} {l:List ao} (hf:oE f (fun x=>cJ x.cells) q l) (H:List AO):
  al Tryz.prog 114 [.p (.l (l.map ao.cells)),.eB f []] H (fun r H'=>H'=H/\∃z:Int,r=.p (.i .i64 z)/\decide (0<=z)=l.any q):=by
 refine call114 (by simp) ?_;simp only[go_sem,simprocAttr,Mg,VG,List.length_map];intro hl;rw[bP]at hl;refine⟨Nat,[0,1,4,7,8],fun x st=>(x<=l.length/\l.any q=(l.drop x).any q)/\st=⟨[(0,.p (.l (l.map ao.cells))),(1,.eB f []),(4,.p (.i .i64 0)),(7,.p (.i .i64 l.length)),(8,.p (.i .i64 x))],[],H⟩,fun x=>l.length-x,⟨0,?_⟩,?_⟩
 ·simp only[go_sem,simprocAttr]
  simp
 rintro x _ ⟨⟨hx,hn⟩,rfl⟩;by_cases aF:x<l.length
 ·have d1:decide ((x:Int)<(l.length:Int))=true:=by simp;omega
  have dr:(x:Int)<(l.length:Int):=by omega
  have hg:(l.map ao.cells)[x]?=some (ao.cells l[x]):=by simp[aF]
  have hc:=hf l[x] (List.getElem_mem aF) H;rw[vJ aF]at hn;generalize l[x]=c at hg hc hn;obtain⟨cn,cv,cc,cp⟩:=c;simp only[ao.cells,cJ,List.map_cons,List.map_nil]at hg hc;simp only[go_sem,simprocAttr,d1,dr,hg,List.length_map];refine U hc ?_;generalize q _=b at hn;cases b
  ·simp only[go_sem,simprocAttr,cH x (by omega)]
   exact⟨x+1,⟨⟨by omega,by simpa using hn⟩,rfl⟩,by omega⟩
  ·simp only[go_sem,simprocAttr]
   exact⟨(x:Int),rfl,by rw[hn,Bool.true_or];exact decide_eq_true (by omega)⟩
 ·have d1:decide ((x:Int)<(l.length:Int))=false:=by simp;omega
  simp only[go_sem,simprocAttr,d1];refine⟨-1,rfl,?_⟩;rw[hn,List.drop_of_length_le (by omega)]
  rfl
theorem PN {f:Nat} {q:ao->Bool} {l:List ao} (hf:oE f (fun x=>cJ x.cells) q l) (H:List AO):
  al Tryz.prog 51 [.p (.l (l.map ao.cells)),.eB f []] H (aP (.p (.b (l.any q))) H):=by
 refine call51 (by simp) ?_;simp only[go_sem,simprocAttr,Vw,abN];refine(V2 hf H).mono ?_;rintro r H' ⟨rfl,z,rfl,hz⟩;simp only[go_sem,simprocAttr,hz];exact⟨rfl,rfl⟩
theorem Y8 {f:Nat} {q:(List UInt8)->Bool} {l:List (List UInt8)} (hf:oE f (fun x=>.p (.s x)) q l) (H:List AO):
  al Tryz.prog 160 [.p (.l (eH l)),.eB f []] H (fun r H'=>H'=H/\∃z:Int,r=.p (.i .i64 z)/\decide (0<=z)=l.any q):=by
 refine call160 (by simp) ?_;simp only[go_sem,simprocAttr,Mq,VX,eH,List.length_map];intro hl;rw[bP]at hl;refine⟨Nat,[0,1,4,7,8],fun x st=>(x<=l.length/\l.any q=(l.drop x).any q)/\st=⟨[(0,.p (.l (eH l))),(1,.eB f []),(4,.p (.i .i64 0)),(7,.p (.i .i64 l.length)),(8,.p (.i .i64 x))],[],H⟩,fun x=>l.length-x,⟨0,?_⟩,?_⟩
 ·simp only[go_sem,simprocAttr,eH]
  simp
 rintro x _ ⟨⟨hx,hn⟩,rfl⟩;by_cases aF:x<l.length
 ·have d1:decide ((x:Int)<(l.length:Int))=true:=by simp;omega
  have dr:(x:Int)<(l.length:Int):=by omega
  have hg:(l.map fun s=>[PV.s s])[x]?=some [.s l[x]]:=by simp[aF]
  have hc:=hf l[x] (List.getElem_mem aF) H;rw[vJ aF]at hn;generalize l[x]=c at hg hc hn;simp only[go_sem,simprocAttr,d1,dr,hg,List.length_map,eH];refine U hc ?_;generalize q _=b at hn;cases b
  ·simp only[go_sem,simprocAttr,cH x (by omega)]
   exact⟨x+1,⟨⟨by omega,by simpa using hn⟩,rfl⟩,by omega⟩
  ·simp only[go_sem,simprocAttr]
   exact⟨(x:Int),rfl,by rw[hn,Bool.true_or];exact decide_eq_true (by omega)⟩
 ·have d1:decide ((x:Int)<(l.length:Int))=false:=by simp;omega
  simp only[go_sem,simprocAttr,d1];refine⟨-1,rfl,?_⟩;rw[hn,List.drop_of_length_le (by omega)]
  rfl
theorem V3 {f:Nat} {q:(List UInt8)->Bool} {l:List (List UInt8)} (hf:oE f (fun x=>.p (.s x)) q l) (H:List AO):
  al Tryz.prog 117 [.p (.l (eH l)),.eB f []] H (aP (.p (.b (l.any q))) H):=by
 refine call117 (by simp) ?_;simp only[go_sem,simprocAttr,Mj,VL];refine(Y8 hf H).mono ?_;rintro r H' ⟨rfl,z,rfl,hz⟩;simp only[go_sem,simprocAttr,hz];exact⟨rfl,rfl⟩
theorem b2 {a b:Bool} (h:a=b):AV.p (.b a)=AV.p (.b b):=by rw[h]
theorem y8 {α:Type} (q:α->Bool) (l:List α):(l.any fun x=>!q x)=!l.all q:=by
 induction l with
 |nil=>rfl
 |cons a l ih=>rw[List.any_cons,List.all_cons,ih,Bool.not_and]
def oW (x:ae):Prop:=∀H:List AO,al Tryz.prog 28 [cJ x.cells] H (aP (.p (.b x.okB)) H)
theorem V4 {ks:List ae} (hk:∀x∈ks,oW x):oE 82 (fun x:ae=>cJ x.cells) (fun x=>!x.okB) ks:=by
 intro x hx H;refine aV ?_ (bw _);refine call82 (by simp) ?_;have hc:=hk x hx;obtain⟨k,n,u,p,ks⟩:=x;simp only[ae.cells,cJ,List.map_cons,List.map_nil,oW]at hc⊢;simp only[go_sem,simprocAttr,VU,ab3];refine U (hc _) ?_;simp only[go_sem,simprocAttr];exact⟨_,rfl⟩
theorem V5 (k:Int) (n:List UInt8) (u p:Int) (ks:List ae) (hn:n.length<=1073741824) (hk:∀x∈ks,oW x):oW (.mk k n u p ks):=by
 intro H;have hc:=V1 (V4 hk);rw[y8,<-ae.qs]at hc;refine aV ?_ (bw _);refine call28 (by simp) ?_;simp only[go_sem,simprocAttr,VF,abW,ae.cells,ae.bD,cJ,List.length_map]
 repeat' first
  |(with_reducible refine aW _ (fun h=>?_) (fun h=>?_)<;>simp only[go_sem,simprocAttr,h,List.length_map])
  |(with_reducible refine U (Dn hn _) ?_;simp only[go_sem,simprocAttr,List.length_map])
  |(with_reducible refine U (hc _) ?_;simp only[go_sem,simprocAttr,List.length_map])
  |(with_reducible refine U (uz _ _ _ _) ?_;simp only[go_sem,simprocAttr,List.length_map])
  |(with_reducible refine bQ (fun A=>upC hn _) (cA.refl _) ?_;simp only[go_sem,simprocAttr,List.length_map])
  |(refine ba ?_;simp only[go_sem,simprocAttr,List.length_map])
  |(refine And.intro (by(try simp only[bP,LL]);omega) ?_;try simp only[go_sem,simprocAttr,List.length_map])
  |(intro _)
 all_goals refine⟨b2 ?_,_,rfl⟩
 all_goals rw[ae.okB,mF]
 all_goals generalize (ks.length:Int)=m at *
 all_goals simp only[decide_eq_true_eq,decide_eq_false_iff_not,Bool.and_eq_true]at *
 all_goals (simp[*];done)
theorem Y9 (p:ae) (h:p.sz≤1073741824):oW p:=by
  have :∀(m:Nat) (p:ae),p.sz<m→p.sz≤1073741824→oW p:=by
    intro m
    induction m with
    |zero=>intro p h;omega
    |succ m ih=>
     intro p h h2;obtain⟨k,n,u,q,ks⟩:=p;rw[ae.sz,ae.lY]at h h2;exact V5 _ _ _ _ _ (by omega) fun a ha=>ih a (by have :=gF ae.sz ha;omega) (by have :=gF ae.sz ha;omega)
  exact this _ p (Nat.lt_succ_self _) h
def xB (x:af):Prop:=∀H:List AO,al Tryz.prog 115 [cJ x.cells] H (aP (.p (.b x.okB)) H)
theorem Zs {ks:List af} (hk:∀x∈ks,xB x):oE 159 (fun x:af=>cJ x.cells) (fun x=>!x.okB) ks:=by
 intro x hx H;refine aV ?_ (bw _);refine call159 (by simp) ?_;have hc:=hk x hx;obtain⟨k,n,p,ks⟩:=x;simp only[af.cells,cJ,List.map_cons,List.map_nil,xB]at hc⊢;simp only[go_sem,simprocAttr,Mp,VW];refine U (hc _) ?_;simp only[go_sem,simprocAttr];exact⟨_,rfl⟩
theorem Zt (k:Int) (n:List UInt8) (p:Int) (ks:List af) (hn:n.length<=1073741824) (hk:∀x∈ks,xB x):xB (.mk k n p ks):=by
 intro H;have hc:=Y7 (Zs hk);rw[y8,<-af.qs]at hc;refine aV ?_ (bw _);refine call115 (by simp) ?_;simp only[go_sem,simprocAttr,Mh,VI,af.cells,af.bD,cJ,List.length_map]
 repeat' first
  |(with_reducible refine aW _ (fun h=>?_) (fun h=>?_)<;>simp only[go_sem,simprocAttr,h,List.length_map])
  |(with_reducible refine U (Dn hn _) ?_;simp only[go_sem,simprocAttr,List.length_map])
  |(with_reducible refine U (hc _) ?_;simp only[go_sem,simprocAttr,List.length_map])
  |(with_reducible refine bQ (fun A=>Bt vA hn _) (cA.refl _) ?_;simp only[go_sem,simprocAttr,List.length_map])
  |(with_reducible refine bQ (fun A=>Dn hn _) (cA.refl _) ?_;simp only[go_sem,simprocAttr,List.length_map])
  |(refine ba ?_;simp only[go_sem,simprocAttr,List.length_map])
  |(refine And.intro (by(try simp only[bP,LL]);omega) ?_;try simp only[go_sem,simprocAttr,List.length_map])
  |(intro _)
 all_goals refine⟨b2 ?_,_,rfl⟩
 all_goals rw[af.okB,tc]
 all_goals generalize (ks.length:Int)=m at *
 all_goals simp only[decide_eq_true_eq,decide_eq_false_iff_not,Bool.and_eq_true]at *
 all_goals (simp[*];done)
theorem adN (p:af) (h:p.sz≤1073741824):xB p:=by
  have :∀(m:Nat) (p:af),p.sz<m→p.sz≤1073741824→xB p:=by
    intro m
    induction m with
    |zero=>intro p h;omega
    |succ m ih=>
     intro p h h2;obtain⟨k,n,q,ks⟩:=p;rw[af.sz,af.lY]at h h2;exact Zt _ _ _ _ (by omega) fun a ha=>ih a (by have :=gF af.sz ha;omega) (by have :=gF af.sz ha;omega)
  exact this _ p (Nat.lt_succ_self _) h
theorem adO (x:af) (H:List AO):al Tryz.prog 116 [cJ x.cells] H (aP (.p (.b x.Ic)) H):=by
 obtain⟨k,n,p,ks⟩:=x;refine aV ?_ (bw _);refine call116 (by simp) ?_;simp only[go_sem,simprocAttr,Mi,VJ,af.cells,af.bD,cJ,List.length_map]
 repeat' first
  |(with_reducible refine aW _ (fun h=>?_) (fun h=>?_)<;>simp only[go_sem,simprocAttr,h,List.length_map])
  |(refine ba ?_;simp only[go_sem,simprocAttr,List.length_map])
  |(refine And.intro (by(try simp only[bP,LL]);omega) ?_;try simp only[go_sem,simprocAttr,List.length_map])
  |(intro _)
 all_goals refine⟨b2 ?_,_,rfl⟩
 all_goals rw[af.Ic]
 all_goals simp only[decide_eq_true_eq,decide_eq_false_iff_not,Bool.and_eq_true]at *
 all_goals (simp[*];done)
theorem Zu {s:List UInt8} (hs:s.length<=1073741824) (H:List AO):al Tryz.prog 75 [.p (.s s)] H (aP (.p (.b (qo s))) H):=by
 refine call75 (by simp) ?_;simp only[go_sem,simprocAttr,VQ,abZ];refine⟨Nat,[0,2,3],fun x st=>(x<=s.length/\s.all K2=(s.drop x).all K2)/\st=⟨[(0,.p (.s s)),(2,.p (.b false)),(3,.p (.i .i64 x))],[],H⟩,fun x=>s.length-x,⟨0,?_⟩,?_⟩
 ·simp only[go_sem,simprocAttr]
  simp
 rintro x _ ⟨⟨hx,hn⟩,rfl⟩;by_cases aF:x<s.length
 ·have d1:decide ((x:Int)<(s.length:Int))=true:=by simp;omega
  have hg:s[x]?=some s[x]:=by simp[aF]
  rw[vD aF]at hn;generalize s[x]=c at hg hn;simp only[go_sem,simprocAttr,d1,hg];intro _;refine U (uz _ _ _ _) ?_;have ew:wr .i64 (c.toNat:Int)=c.toNat:=ea (by omega) (by have:=c.toNat_lt;omega);simp only[go_sem,simprocAttr,ew];have e1:ub c=(decide ((32:Int)<=(c.toNat:Int))&&decide ((c.toNat:Int)<=126)):=rfl;rw[<-e1];cases h1:ub c
  ·simp only[go_sem,simprocAttr,h1,hg]
   cases h2:decide ((c.toNat:Int)=10)
   ·simp only[go_sem,simprocAttr,h2]
    refine⟨b2 ?_,rfl⟩;rw[qo,hn,K2,h1,h2];rfl
   ·simp only[go_sem,simprocAttr,h2,cH x (by omega)]
    exact⟨x+1,⟨⟨by omega,by rw[hn,K2,h1,h2];rfl⟩,rfl⟩,by omega⟩
  ·simp only[go_sem,simprocAttr,h1,cH x (by omega)]
   exact⟨x+1,⟨⟨by omega,by rw[hn,K2,h1];rfl⟩,rfl⟩,by omega⟩
 ·have d1:decide ((x:Int)<(s.length:Int))=false:=by simp;omega
  simp only[go_sem,simprocAttr,d1];intro _;refine⟨b2 ?_,rfl⟩;rw[qo,hn,List.drop_of_length_le (by omega)];rfl
theorem adP (s:List UInt8) (H:List AO):al Tryz.prog 79 [.p (.s s)] H (aP (.p (.b (CH s))) H):=by
 refine aV ?_ (bw _);refine call79 (by simp) ?_;simp only[go_sem,simprocAttr,VR,ab0];refine U (sw (L:=[[43],[45],[42],[94],[61],[60],[58,61]]) (t:=s) (by rw[fX];rfl) (by decide)) ?_;simp only[go_sem,simprocAttr];exact⟨rfl,_,rfl⟩
theorem Zv (s:List UInt8) (H:List AO):al Tryz.prog 80 [.p (.s s)] H (aP (.p (.i .i64 (arity s))) H):=by
 refine call80 (by simp) ?_;simp only[go_sem,simprocAttr,VS,ab1]
 repeat' first
  |(with_reducible refine aW _ (fun h=>?_) (fun h=>?_)<;>simp only[go_sem,simprocAttr,h])
  |(refine ba ?_;simp only[go_sem,simprocAttr])
  |(refine And.intro (by(try simp only[bP,LL]);omega) ?_;try simp only[go_sem,simprocAttr])
  |(intro _)
 all_goals refine⟨?_,rfl⟩
 all_goals simp only[decide_eq_true_eq,decide_eq_false_iff_not]at *
 all_goals (simp[arity,uC, *];done)
theorem adQ (k:Int) (n:List UInt8) (u:Int) (t:List UInt8) (p:Int) (ks:List aa) (bf:List ar) (hn:n.length<=1073741824) (ht:t.length<=1073741824) (H:List AO):
  al Tryz.prog 27 [cJ (aa.cells (.mk k n u t p ks bf))] H (aP (.p (.b (gS k n u t p ks.length bf.length))) H):=by
 refine aV ?_ (bw _);refine call27 (by simp) ?_;simp only[go_sem,simprocAttr,VE,abV,aa.cells,aa.bD,aa.cd,cJ,List.length_map]
 repeat' first
  |(with_reducible refine aW _ (fun h=>?_) (fun h=>?_)<;>simp only[go_sem,simprocAttr,h,List.length_map])
  |(with_reducible refine U (Dn hn _) ?_;simp only[go_sem,simprocAttr,List.length_map])
  |(with_reducible refine U (uz _ _ _ _) ?_;simp only[go_sem,simprocAttr,List.length_map])
  |(with_reducible refine U (Zu ht _) ?_;simp only[go_sem,simprocAttr,List.length_map])
  |(with_reducible refine bQ (fun A=>upC hn _) (cA.refl _) ?_;simp only[go_sem,simprocAttr,List.length_map])
  |(with_reducible refine bQ (fun A=>Dn hn _) (cA.refl _) ?_;simp only[go_sem,simprocAttr,List.length_map])
  |(with_reducible refine bQ (fun A=>Dn ht _) (cA.refl _) ?_;simp only[go_sem,simprocAttr,List.length_map])
  |(with_reducible refine bQ (fun A=>adP n _) (cA.refl _) ?_;simp only[go_sem,simprocAttr,List.length_map])
  |(with_reducible refine bQ (fun A=>Zv n _) (cA.refl _) ?_;simp only[go_sem,simprocAttr,List.length_map])
  |(refine ba ?_;simp only[go_sem,simprocAttr,List.length_map])
  |(refine And.intro (by(try simp only[bP,LL]);omega) ?_;try simp only[go_sem,simprocAttr,List.length_map])
  |(intro _)
 all_goals refine⟨b2 ?_,_,rfl⟩
 all_goals rw[gS]
 all_goals generalize (ks.length:Int)=m at *
 all_goals generalize (bf.length:Int)=a at *
 all_goals simp only[decide_eq_true_eq,decide_eq_false_iff_not,Bool.and_eq_true]at *
 all_goals (simp[*];done)
def oX (x:aa):Prop:=∀H:List AO,al Tryz.prog 9 [cJ x.cells] H (aP (.p (.b x.okB)) H)
def Bh (H:List AO) (V:AO) (X:List AO):Prop:=∃G,X=H++V::G
theorem Bh.at0 {H X:List AO} {V:AO} (h:Bh H V X):X[H.length]?=some V:=by obtain⟨G,rfl⟩:=h;simp
theorem Bh.ext {H X:List AO} {V:AO} (h:Bh H V X) (A:List AO):Bh H V (X++A):=by obtain⟨G,rfl⟩:=h;exact⟨G++A,by simp⟩
theorem Bh.nil (H:List AO) (V:AO):Bh H V (H++[V]):=⟨[],rfl⟩
theorem Bh.ends {H X:List AO} {V:AO} (h:Bh H V X):∃G,X=H++G:=by obtain⟨G,rfl⟩:=h;exact⟨_,rfl⟩
theorem ab4 (q:ae) (e:aa):ar.cells (.mk q e)=q.cells++e.cells:=by rw[ar.cells]
theorem V6 (k:Int) (n:List UInt8) (u:Int) (t:List UInt8) (p:Int) (ks:List aa) (bf:List ar) (hn:n.length<=1073741824) (ht:t.length<=1073741824) (hk:∀x∈ks,oX x) (ha:∀q e,ar.mk q e∈bf->oW q/\oX e):oX (.mk k n u t p ks bf):=by
 intro H;refine aV ?_ (bw _);refine call9 (by simp) ?_;have hh:=adQ k n u t p ks bf hn ht;simp only[aa.cells,aa.bD,aa.cd,cJ,List.map_cons,List.map_nil]at hh;rw[aa.okB,aa.qs,aa.Ng];simp only[go_sem,simprocAttr,mc9,mr9,aa.cells,aa.bD,aa.cd,cJ,List.length_map];refine U (hh _) ?_;simp only[go_sem,simprocAttr];generalize gS k n u t p ks.length bf.length=b;cases b
 ·simp only[go_sem,simprocAttr]
  exact⟨b2 rfl,_,rfl⟩
 simp only[go_sem,simprocAttr,List.length_map,Bool.true_and];intro hl;rw[bP]at hl;have hB:=Bh.nil H (.var [.p (.i .i64 k),.p (.s n),.p (.i .i64 u),.p (.s t),.p (.i .i64 p),.p (.l (ks.map aa.cells)),.p (.l (bf.map ar.cells))]);generalize hV:AO.var [.p (.i .i64 k),.p (.s n),.p (.i .i64 u),.p (.s t),.p (.i .i64 p),.p (.l (ks.map aa.cells)),.p (.l (bf.map ar.cells))]=V at hB;generalize H++[V]=X at hB;refine⟨Nat×List AO,[1,2,11,12,13],fun x st=>(x.1<=ks.length/\ks.all aa.okB=(ks.drop x.1).all aa.okB/\Bh H V x.2)/\st=⟨[(1,.ptr H.length 0),(2,.p (.b false)),(11,.p (.l (ks.map aa.cells))),(12,.p (.i .i64 ks.length)),(13,.p (.i .i64 x.1))],[],x.2⟩,fun x=>ks.length-x.1,⟨(0,X),?_⟩,?_⟩
 ·simp only[go_sem,simprocAttr]
  exact⟨by simp,hB⟩
 rintro⟨x,Y⟩ _ ⟨⟨hx,hn,hY⟩,rfl⟩;simp only at hx hn hY;by_cases aF:x<ks.length
 ·have d1:decide ((x:Int)<(ks.length:Int))=true:=by simp;omega
  have dr:(x:Int)<(ks.length:Int):=by omega
  have hg:(ks.map aa.cells)[x]?=some (aa.cells ks[x]):=by simp[aF]
  have hc:=fun H=>hk ks[x] (List.getElem_mem aF) H
  rw[vD aF]at hn;generalize ks[x]=c at hg hc hn;obtain⟨ck,cn,cu,ct,cp,DW,Zw⟩:=c;simp only[aa.cells,cJ,List.map_cons,List.map_nil,oX]at hg hc;simp only[go_sem,simprocAttr,d1,dr,hg,List.length_map];refine U (hc _) ?_;generalize aa.okB _=b at hn;cases b
  ·simp only[go_sem,simprocAttr]
   exact⟨b2 (by rw[hn];rfl),(hY.ext _).ends⟩
  ·simp only[go_sem,simprocAttr,cH x (by omega)]
   exact⟨(x+1,_),⟨⟨by omega,by simpa using hn,hY.ext _⟩,rfl⟩,by simp only;omega⟩
 ·have d1:decide ((x:Int)<(ks.length:Int))=false:=by simp;omega
  rw[List.drop_of_length_le (by omega),List.all_nil]at hn;rw[hn,Bool.true_and];have hz:=hY.at0;rw[<-hV]at hz;simp only[go_sem,simprocAttr,d1,hz,List.length_map];intro pr;rw[bP]at pr;refine⟨Nat×List AO,[2,22,23,24],fun x st=>(x.1<=bf.length/\bf.all ar.okB=(bf.drop x.1).all ar.okB/\∃G,x.2=H++G)/\st=⟨[(2,.p (.b false)),(22,.p (.l (bf.map ar.cells))),(23,.p (.i .i64 bf.length)),(24,.p (.i .i64 x.1))],[],x.2⟩,fun x=>bf.length-x.1,⟨(0,Y),?_⟩,?_⟩
  ·simp only[go_sem,simprocAttr]
   exact⟨by simp,hY.ends⟩
  rintro⟨y,Z⟩ _ ⟨⟨hy,hm,hZ⟩,rfl⟩;simp only at hy hm hZ;by_cases aF:y<bf.length
  ·have d2:decide ((y:Int)<(bf.length:Int))=true:=by simp;omega
   have dr:(y:Int)<(bf.length:Int):=by omega
   have hg:(bf.map ar.cells)[y]?=some (ar.cells bf[y]):=by simp[aF]
   have hc:∀q e,bf[y]=ar.mk q e->oW q/\oX e:=fun q e he=>ha q e (by rw[<-he];exact List.getElem_mem aF)
   rw[vD aF]at hm;generalize bf[y]=c at hg hc hm;obtain⟨⟨qk,qn,qu,qp,qks⟩,⟨ck,cn,cu,ct,cp,DW,Zw⟩⟩:=c;obtain⟨h1,h2⟩:=hc _ _ rfl;simp only[ab4,ae.cells,aa.cells,cJ,List.map_cons,List.map_nil,oX,oW,List.cons_append,List.nil_append]at hg h1 h2;have V7:∀A,∃G,Z++A=H++G:=fun A=>by obtain⟨G,rfl⟩:=hZ;exact⟨G++A,by simp⟩
   rw[ar.okB]at hm;generalize ae.okB _=b1 at hm h1;generalize aa.okB _=b2' at hm h2;simp only[go_sem,simprocAttr,d2,dr,hg,List.length_map];refine U (h1 _) ?_;cases b1
   ·simp only[go_sem,simprocAttr]
    exact⟨b2 (by rw[hm];rfl),V7 _⟩
   simp only[go_sem,simprocAttr];refine U (h2 _) ?_;cases b2'
   ·simp only[go_sem,simprocAttr]
    exact⟨b2 (by rw[hm];rfl),V7 _⟩
   simp only[go_sem,simprocAttr,cH y (by omega)];exact⟨(y+1,_),⟨⟨by omega,by simpa using hm,V7 _⟩,rfl⟩,by simp only;omega⟩
  ·have d2:decide ((y:Int)<(bf.length:Int))=false:=by simp;omega
   rw[List.drop_of_length_le (by omega),List.all_nil]at hm;simp only[go_sem,simprocAttr,d2];exact⟨b2 (by rw[hm]),hZ⟩
theorem Zx (p:aa) (h:p.sz≤1073741824):oX p:=by
  have :∀(m:Nat) (p:aa),p.sz<m→p.sz≤1073741824→oX p:=by
    intro m
    induction m with
    |zero=>intro p h;omega
    |succ m ih=>
     intro p h h2;obtain⟨k,n,u,t,q,ks,bf⟩:=p;rw[aa.sz,aa.lY,aa.FQ]at h h2;refine V6 _ _ _ _ _ _ _ (by omega) (by omega) (fun a ha=>ih a (by have :=gF aa.sz ha;omega) (by have :=gF aa.sz ha;omega)) fun q e ha=> ?_
     have :=gF ar.sz ha;rw[ar.sz]at this;exact⟨Y9 q (by omega),ih e (by omega) (by omega)⟩
  exact this _ p (Nat.lt_succ_self _) h
theorem PO {l:List (List UInt8)} (hs:∀s∈l,s.length<=1073741824):oE 118 (fun s:List UInt8=>.p (.s s)) (fun s=>!tu gq s) l:=by
 intro s hx H;refine call118 (by simp) ?_;simp only[go_sem,simprocAttr,Mk,VM];refine U (Bt vA (hs s hx) _) ?_;simp only[go_sem,simprocAttr];exact⟨rfl,rfl⟩
def Dp (x:ao):Prop:=∀H:List AO,al Tryz.prog 53 [cJ x.cells] H (aP (.p (.b x.okB)) H)
theorem V8 (d:ao) (hd:d.sz<=1073741824):Dp d:=by
 obtain⟨n,vs,cs,p⟩:=d;intro H;simp only[ao.sz]at hd
 have xS:=V3 (PO (l:=vs) fun s hs=>by
  have:∀l:List (List UInt8),s∈l->s.length<=lX l:=by
   intro l
   induction l with
   |nil=>intro h;cases h
   |cons a l ih=>intro h;rw[lX];rcases List.mem_cons.1 h with rfl|h;omega;have:=ih h;omega
  have:=this vs hs;omega)
 rw[y8]at xS
 have gU:∀c∈cs,c.sz<=1073741824:=fun c hc=>by
  have:∀l:List ai,c∈l->c.sz<=fI l:=by
   intro l
   induction l with
   |nil=>intro h;cases h
   |cons a l ih=>intro h;rw[fI];rcases List.mem_cons.1 h with rfl|h;omega;have:=ih h;omega
  have:=this cs hc;omega
 refine aV ?_ (bw _);simp only[ao.okB];generalize vs.all (tu gq)=vb at xS⊢;refine call53 (by simp) ?_;simp only[go_sem,simprocAttr,Vy,abP,ao.cells,cJ,List.length_map];intro hl;rw[bP]at hl;have hB:=Bh.nil H (.var [.p (.s n),.p (.l (eH vs)),.p (.l (cs.map ai.cells)),.p (.i .i64 p)]);generalize hV:AO.var [.p (.s n),.p (.l (eH vs)),.p (.l (cs.map ai.cells)),.p (.i .i64 p)]=V at hB;generalize H++[V]=X at hB;refine⟨Nat×List AO,[1,2,6,7,8],fun x st=>(x.1<=cs.length/\cs.all ai.okB=(cs.drop x.1).all ai.okB/\Bh H V x.2)/\st=⟨[(1,.ptr H.length 0),(2,.p (.b false)),(6,.p (.l (cs.map ai.cells))),(7,.p (.i .i64 cs.length)),(8,.p (.i .i64 x.1))],[],x.2⟩,fun x=>cs.length-x.1,⟨(0,X),?_⟩,?_⟩
 ·simp only[go_sem,simprocAttr]
  exact⟨by simp,hB⟩
 rintro⟨x,Y⟩ _ ⟨⟨hx,hn,hY⟩,rfl⟩;simp only at hx hn hY;by_cases aF:x<cs.length
 ·have d1:decide ((x:Int)<(cs.length:Int))=true:=by simp;omega
  have dr:(x:Int)<(cs.length:Int):=by omega
  have hg:(cs.map ai.cells)[x]?=some (ai.cells cs[x]):=by simp[aF]
  have hc:=gU cs[x] (List.getElem_mem aF);rw[vD aF]at hn;generalize cs[x]=c at hg hc hn;obtain⟨cn,ch,ca,cp⟩:=c;simp only[ai.sz]at hc;have t1:=adN ca (by omega);have t2:=adO ca;obtain⟨ak,an,ap,II⟩:=ca;simp only[ai.cells,af.cells,cJ,List.map_cons,List.map_nil,xB,List.cons_append,List.nil_append]at hg t1 t2;simp only[ai.okB]at hn;generalize af.okB _=o1 at hn t1;generalize af.Ic _=o2 at hn t2;generalize hr:(cs.drop (x+1)).all ai.okB=rest at hn;have hz:∀A,∃G,Y++A=H++G:=fun A=>(hY.ext A).ends
  have sc:=fun A=>hY.ext A
  simp only[go_sem,simprocAttr,d1,dr,hg,List.length_map];cases ch
  all_goals
   repeat' first
    |(with_reducible refine aW _ (fun h=>?_) (fun h=>?_)<;>simp only[go_sem,simprocAttr,h,cH x (by omega)])
    |(with_reducible refine U (upC (by omega) _) ?_;simp only[go_sem,simprocAttr,cH x (by omega)])
    |(with_reducible refine U (t1 _) ?_;simp only[go_sem,simprocAttr,cH x (by omega)])
    |(with_reducible refine U (t2 _) ?_;simp only[go_sem,simprocAttr,cH x (by omega)])
    |(refine ba ?_;simp only[go_sem,simprocAttr,cH x (by omega)])
    |(refine And.intro (by(try simp only[bP,LL]);omega) ?_;try simp only[go_sem,simprocAttr,cH x (by omega)])
    |(intro _)
  all_goals first
   |(refine⟨b2 ?_,hz _⟩;rw[hn];clear hr hn hz sc t1 t2 xS gU hd hl hV hB hY hx aF d1 dr hg hc;simp_all;done)
   |(refine⟨(x+1,_),⟨⟨by omega,hn.trans (Eq.trans ?_ hr.symm),sc _⟩,rfl⟩,by simp only;omega⟩;clear hr hn hz sc t1 t2 xS gU hd hl hV hB hY hx aF d1 dr hg hc;simp_all;done)
   |trace_state
 ·have d1:decide ((x:Int)<(cs.length:Int))=false:=by simp;omega
  rw[List.drop_of_length_le (by omega),List.all_nil]at hn;have hz:=hY.at0;rw[<-hV]at hz;simp only[go_sem,simprocAttr,d1,hz]
  repeat' first
   |(with_reducible refine aW _ (fun h=>?_) (fun h=>?_)<;>simp only[go_sem,simprocAttr,h,hz,List.length_map])
   |(with_reducible refine U (Dn (by omega) _) ?_;simp only[go_sem,simprocAttr,hz,List.length_map])
   |(with_reducible refine U (xS _) ?_;simp only[go_sem,simprocAttr,hz,List.length_map])
   |(refine ba ?_;simp only[go_sem,simprocAttr,hz,List.length_map])
   |(refine And.intro (by(try simp only[bP,LL]);omega) ?_;try simp only[go_sem,simprocAttr,hz,List.length_map])
   |(intro _)
  all_goals refine⟨b2 ?_,hY.ends⟩
  all_goals generalize (cs.length:Int)=m at *
  all_goals simp only[decide_eq_true_eq,decide_eq_false_iff_not,Bool.and_eq_true]at *
  all_goals (simp[*];done)
theorem PQ {l:List ao} (hk:∀x∈l,Dp x):oE 52 (fun x:ao=>cJ x.cells) (fun x=>!x.okB) l:=by
 intro x hx H;refine aV ?_ (bw _);refine call52 (by simp) ?_;have hc:=hk x hx;obtain⟨n,vs,cs,p⟩:=x;simp only[ao.cells,cJ,List.map_cons,List.map_nil,Dp]at hc⊢;simp only[go_sem,simprocAttr,Vx,abO];refine U (hc _) ?_;simp only[go_sem,simprocAttr];exact⟨_,rfl⟩
theorem sQ {x:ao}:∀{l:List ao},x∈l→x.sz≤fU l
  |[],h=>by cases h
  |a::l,h=>by
   rw[fU];rcases List.mem_cons.1 h with rfl|h
   · omega
   · have :=sQ h;omega
theorem Dq (g:aI) (hg:g.sz<=1073741824) (H:List AO):al Tryz.prog 19 [cJ g.cells] H (aP (.p (.b g.okB)) H):=by
 obtain⟨ds,b⟩:=g;simp only[aI.sz]at hg;have h1:=Zx b (by omega);have h2:=PN (PQ (l:=ds) fun x hx=>V8 x (by have:=sQ hx;omega));rw[y8]at h2;simp only[aI.okB];generalize ds.all ao.okB=o2 at h2⊢;rw[oX]at h1;generalize b.okB=o1 at h1⊢;obtain⟨k,n,u,t,p,ks,bf⟩:=b;simp only[aa.cells,cJ,List.map_cons,List.map_nil]at h1;refine aV ?_ (bw _);refine call19 (by simp) ?_;simp only[go_sem,simprocAttr,Vu,abL,aI.cells,aa.cells,cJ]
 repeat' first
  |(with_reducible refine aW _ (fun h=>?_) (fun h=>?_)<;>simp only[go_sem,simprocAttr,h])
  |(with_reducible refine U (h1 _) ?_;simp only[go_sem,simprocAttr])
  |(with_reducible refine U (h2 _) ?_;simp only[go_sem,simprocAttr])
  |(refine ba ?_;simp only[go_sem,simprocAttr])
  |(refine And.intro (by(try simp only[bP,LL]);omega) ?_;try simp only[go_sem,simprocAttr])
  |(intro _)
 all_goals first
  |exact⟨_,rfl⟩
  |(refine⟨b2 ?_,_,rfl⟩;simp[*];done)
end Go.Proofs.YteilijfligofdaaGreatDoor.Qp
namespace Go.Proofs.YteilijfligofdaaGreatDoor.Pg
open Go.AM
mutual
theorem af.pR:∀t:af,t.er.kf=t.kf
 | .mk k n p ks=>by rw[af.er,af.kf,af.kf,af.qC ks]
theorem af.qC:∀l:List af,af.dJ (af.cT l)=af.dJ l
 |[]=>by rw[af.cT]
 |t::l=>by rw[af.cT,af.dJ,af.dJ,af.pR t,af.qC l]
end
mutual
theorem ae.pR:∀t:ae,t.er.kf=t.kf
 | .mk k n u p ks=>by rw[ae.er,ae.kf,ae.kf,ae.qC ks]
theorem ae.qC:∀l:List ae,ae.dJ (ae.cT l)=ae.dJ l
 |[]=>by rw[ae.cT]
 |t::l=>by rw[ae.cT,ae.dJ,ae.dJ,ae.pR t,ae.qC l]
end
mutual
theorem aa.pR:∀t:aa,t.er.kf=t.kf
 | .mk k n u t p ks bf=>by rw[aa.er,aa.kf,aa.kf,aa.qC ks,aa.NV bf]
theorem aa.qC:∀l:List aa,aa.dJ (aa.cT l)=aa.dJ l
 |[]=>by rw[aa.cT]
 |t::l=>by rw[aa.cT,aa.dJ,aa.dJ,aa.pR t,aa.qC l]
theorem ar.pR:∀t:ar,t.er.kf=t.kf
 | .mk p e=>by rw[ar.er,ar.kf,ar.kf,ae.pR p,aa.pR e]
theorem aa.NV:∀l:List ar,aa.xe (aa.oA l)=aa.xe l
 |[]=>by rw[aa.oA]
 |t::l=>by rw[aa.oA,aa.xe,aa.xe,ar.pR t,aa.NV l]
end
theorem ai.rQ (c:ai):c.er.form=c.form:=by unfold ai.form ai.er;simp only[af.pR]
theorem ao.rQ (d:ao):d.er.form=d.form:=by
 unfold ao.form ao.er;simp only[List.map_map,show ai.form∘ai.er=ai.form from funext ai.rQ]
theorem aI.rQ (g:aI):g.er.form=g.form:=by
 unfold aI.form aI.er;simp only[List.map_map,aa.pR,show ao.form∘ao.er=ao.form from funext ao.rQ]
mutual
theorem ae.mu:∀t:ae,t.er.sz=t.sz
 | .mk k n u p ks=>by rw[ae.er,ae.sz,ae.sz,ae.qD ks]
theorem ae.qD:∀l:List ae,ae.eO (ae.cT l)=ae.eO l
 |[]=>by rw[ae.cT]
 |t::l=>by rw[ae.cT,ae.eO,ae.eO,ae.mu t,ae.qD l]
end
mutual
theorem af.mu:∀t:af,t.er.sz=t.sz
 | .mk k n p ks=>by rw[af.er,af.sz,af.sz,af.qD ks]
theorem af.qD:∀l:List af,af.eO (af.cT l)=af.eO l
 |[]=>by rw[af.cT]
 |t::l=>by rw[af.cT,af.eO,af.eO,af.mu t,af.qD l]
end
mutual
theorem aa.mu:∀t:aa,t.er.sz=t.sz
 | .mk k n u t p ks bf=>by rw[aa.er,aa.sz,aa.sz,aa.qD ks,aa.NW bf]
theorem aa.qD:∀l:List aa,aa.eO (aa.cT l)=aa.eO l
 |[]=>by rw[aa.cT]
 |t::l=>by rw[aa.cT,aa.eO,aa.eO,aa.mu t,aa.qD l]
theorem ar.mu:∀t:ar,t.er.sz=t.sz
 | .mk p e=>by rw[ar.er,ar.sz,ar.sz,ae.mu p,aa.mu e]
theorem aa.NW:∀l:List ar,aa.nP (aa.oA l)=aa.nP l
 |[]=>by rw[aa.oA]
 |t::l=>by rw[aa.oA,aa.nP,aa.nP,ar.mu t,aa.NW l]
end
mutual
theorem ae.qE:∀t:ae,t.er.fit=t.fit
 | .mk k n u p ks=>by rw[ae.er,ae.fit,ae.fit,ae.vd ks]
theorem ae.vd:∀l:List ae,ae.gI (ae.cT l)=ae.gI l
 |[]=>by rw[ae.cT]
 |t::l=>by rw[ae.cT,ae.gI,ae.gI,ae.qE t,ae.vd l]
end
mutual
theorem aa.qE:∀t:aa,t.er.fit=t.fit
 | .mk k n u t p ks bf=>by rw[aa.er,aa.fit,aa.fit,aa.vd ks,aa.I4 bf]
theorem aa.vd:∀l:List aa,aa.gI (aa.cT l)=aa.gI l
 |[]=>by rw[aa.cT]
 |t::l=>by rw[aa.cT,aa.gI,aa.gI,aa.qE t,aa.vd l]
theorem ar.qE:∀t:ar,t.er.fit=t.fit
 | .mk p e=>by rw[ar.er,ar.fit,ar.fit,ae.qE p,aa.qE e]
theorem aa.I4:∀l:List ar,aa.pG (aa.oA l)=aa.pG l
 |[]=>by rw[aa.oA]
 |t::l=>by rw[aa.oA,aa.pG,aa.pG,ar.qE t,aa.I4 l]
end
mutual
def af.nn:af->Prop
 | .mk _ _ p ks=>0<=p/\af.ve ks
def af.ve:List af->Prop
 |[]=>True
 |t::l=>t.nn/\af.ve l
end
mutual
def ae.nn:ae->Prop
 | .mk _ _ _ p ks=>0<=p/\ae.ve ks
def ae.ve:List ae->Prop
 |[]=>True
 |t::l=>t.nn/\ae.ve l
end
mutual
def aa.nn:aa->Prop
 | .mk _ _ _ _ p ks bf=>0<=p/\aa.ve ks/\aa.V9 bf
def aa.ve:List aa->Prop
 |[]=>True
 |t::l=>t.nn/\aa.ve l
def ar.nn:ar->Prop
 | .mk p e=>p.nn/\e.nn
def aa.V9:List ar->Prop
 |[]=>True
 |t::l=>t.nn/\aa.V9 l
end
theorem NX {k:Int} {n:List UInt8} {p q m:Int} (h:tc k n p m=true) (hq:0<=q):tc k n q m=true:=by
 unfold tc at *;rw[Bool.and_eq_true]at *;exact⟨h.1,decide_eq_true hq⟩
theorem NY {k:Int} {n:List UInt8} {u p q m:Int} (h:mF k n u p m=true) (hq:0<=q):mF k n u q m=true:=by
 unfold mF at *;rw[Bool.and_eq_true]at *;exact⟨h.1,decide_eq_true hq⟩
theorem NZ {k:Int} {n:List UInt8} {u:Int} {t:List UInt8} {p q m a:Int} (h:gS k n u t p m a=true) (hq:0<=q):gS k n u t q m a=true:=by
 unfold gS at *;rw[Bool.and_eq_true,Bool.and_eq_true]at *;exact⟨h.1,decide_eq_true hq,h.2.2⟩
mutual
theorem af.ko:∀t:af,t.okB=true →t.er.okB=true
  | .mk k n p ks,h=>by
    rw[af.okB,Bool.and_eq_true]at h;rw[af.er,af.okB,af.fa,List.length_map,←af.fa,af.qF ks h.2,NX h.1 (Int.le_refl 0)];rfl
theorem af.qF:∀l:List af,af.eC l=true →af.eC (af.cT l)=true
  |[],_ =>by rw[af.cT,af.eC]
  |t::l,h=>by
   rw[af.eC,Bool.and_eq_true]at h;rw[af.cT,af.eC,af.ko t h.1,af.qF l h.2];rfl
end
mutual
theorem af.kr:∀t:af,t.er.okB=true →t.nn→t.okB=true
  | .mk k n p ks,h,hn=>by
    rw[af.er,af.okB,af.fa,List.length_map,←af.fa,Bool.and_eq_true]at h;rw[af.nn]at hn;rw[af.okB,af.qG ks h.2 hn.2,NX h.1 hn.1];rfl
theorem af.qG:∀l:List af,af.eC (af.cT l)=true →af.ve l→af.eC l=true
  |[],_,_ =>by rw[af.eC]
  |t::l,h,hn=>by
   rw[af.cT,af.eC,Bool.and_eq_true]at h;rw[af.ve]at hn;rw[af.eC,af.kr t h.1 hn.1,af.qG l h.2 hn.2];rfl
end
mutual
theorem ae.ko:∀t:ae,t.okB=true →t.er.okB=true
  | .mk k n u p ks,h=>by
    rw[ae.okB,Bool.and_eq_true]at h;rw[ae.er,ae.okB,ae.fa,List.length_map,←ae.fa,ae.qF ks h.2,NY h.1 (Int.le_refl 0)];rfl
theorem ae.qF:∀l:List ae,ae.eC l=true →ae.eC (ae.cT l)=true
  |[],_ =>by rw[ae.cT,ae.eC]
  |t::l,h=>by
   rw[ae.eC,Bool.and_eq_true]at h;rw[ae.cT,ae.eC,ae.ko t h.1,ae.qF l h.2];rfl
end
mutual
theorem ae.kr:∀t:ae,t.er.okB=true →t.nn→t.okB=true
  | .mk k n u p ks,h,hn=>by
    rw[ae.er,ae.okB,ae.fa,List.length_map,←ae.fa,Bool.and_eq_true]at h;rw[ae.nn]at hn;rw[ae.okB,ae.qG ks h.2 hn.2,NY h.1 hn.1];rfl
theorem ae.qG:∀l:List ae,ae.eC (ae.cT l)=true →ae.ve l→ae.eC l=true
  |[],_,_ =>by rw[ae.eC]
  |t::l,h,hn=>by
   rw[ae.cT,ae.eC,Bool.and_eq_true]at h;rw[ae.ve]at hn;rw[ae.eC,ae.kr t h.1 hn.1,ae.qG l h.2 hn.2];rfl
end
mutual
theorem aa.ko:∀t:aa,t.okB=true →t.er.okB=true
  | .mk k n u t p ks bf,h=>by
    rw[aa.okB,Bool.and_eq_true,Bool.and_eq_true]at h;have h1:=aa.qF ks h.2.1;have h2:=aa.N0 bf h.2.2;rw[aa.er,aa.okB,h1,h2,aa.fa,aa.yA,List.length_map,List.length_map,NZ h.1 (Int.le_refl 0)];rfl
theorem aa.qF:∀l:List aa,aa.eC l=true →aa.eC (aa.cT l)=true
  |[],_ =>by rw[aa.cT,aa.eC]
  |t::l,h=>by
   rw[aa.eC,Bool.and_eq_true]at h;rw[aa.cT,aa.eC,aa.ko t h.1,aa.qF l h.2];rfl
theorem ar.ko:∀t:ar,t.okB=true →t.er.okB=true
  | .mk p e,h=>by
    rw[ar.okB,Bool.and_eq_true]at h;rw[ar.er,ar.okB,ae.ko p h.1,aa.ko e h.2];rfl
theorem aa.N0:∀l:List ar,aa.p5 l=true →aa.p5 (aa.oA l)=true
  |[],_ =>by rw[aa.oA,aa.p5]
  |t::l,h=>by
   rw[aa.p5,Bool.and_eq_true]at h;rw[aa.oA,aa.p5,ar.ko t h.1,aa.N0 l h.2];rfl
end
mutual
theorem aa.kr:∀t:aa,t.er.okB=true →t.nn→t.okB=true
  | .mk k n u t p ks bf,h,hn=>by
    rw[aa.er,aa.okB,Bool.and_eq_true,Bool.and_eq_true]at h;rw[aa.nn]at hn;have h1:=aa.qG ks h.2.1 hn.2.1;have h2:=aa.N1 bf h.2.2 hn.2.2;have h3:=h.1;rw[aa.fa,aa.yA,List.length_map,List.length_map]at h3;rw[aa.okB,h1,h2,NZ h3 hn.1];rfl
theorem aa.qG:∀l:List aa,aa.eC (aa.cT l)=true →aa.ve l→aa.eC l=true
  |[],_,_ =>by rw[aa.eC]
  |t::l,h,hn=>by
   rw[aa.cT,aa.eC,Bool.and_eq_true]at h;rw[aa.ve]at hn;rw[aa.eC,aa.kr t h.1 hn.1,aa.qG l h.2 hn.2];rfl
theorem ar.kr:∀t:ar,t.er.okB=true →t.nn→t.okB=true
  | .mk p e,h,hn=>by
    rw[ar.er,ar.okB,Bool.and_eq_true]at h;rw[ar.nn]at hn;rw[ar.okB,ae.kr p h.1 hn.1,aa.kr e h.2 hn.2];rfl
theorem aa.N1:∀l:List ar,aa.p5 (aa.oA l)=true →aa.V9 l→aa.p5 l=true
  |[],_,_ =>by rw[aa.p5]
  |t::l,h,hn=>by
   rw[aa.oA,aa.p5,Bool.and_eq_true]at h;rw[aa.V9]at hn;rw[aa.p5,ar.kr t h.1 hn.1,aa.N1 l h.2 hn.2];rfl
end
def wC (x:Tok):Prop:=0<=x.p
theorem Wa {s:List UInt8} {most:Nat}:∀(n i:Nat) (out l:List Tok),s.length-i≤n→(∀x∈out,wC x)→dE s most i out= .inl l→∀x∈l,wC x:=by
  have fin:∀(out:List Tok),(∀x∈out,wC x)→∀x∈out++[(⟨8,[],0,s.length⟩:Tok)],wC x:=by
    intro out ho x hx;rcases List.mem_append.1 hx with hx|hx
    · exact ho x hx
    · simp at hx;subst hx;exact Int.natCast_nonneg _
  intro n
  induction n with
  |zero=>
   intro i out l hn ho h;rw[jg (by omega)]at h;cases h
   exact fin out ho
  |succ n ih=>
   intro i out l hn ho h;by_cases hi:i<s.length
   · cases hb:blank s[i]with
     |true =>
      rw[ij hi hb]at h
      exact ih _ _ _ (by omega) ho h
     |false =>
      by_cases hc:(s[i].toNat:Int)=35
      · rw[nQ hi hb hc]at h
        have hg:=pt hi hc;exact ih _ _ _ (by omega) ho h
      · rcases ht:iI s i s[i]with⟨t,e⟩|c
        · by_cases hm:out.length=most
          · rw[lC hi hb hc ht hm]at h;cases h
          · rw[mV hi hb hc ht hm]at h
            have hg:=rp hi ht;refine ih _ _ _ (by omega) (fun x hx=> ?_) h;rcases List.mem_append.1 hx with hx|hx
            · exact ho x hx
            · simp at hx;subst hx
              unfold wC;rw[hg.2.2.1];exact Int.natCast_nonneg _
        · rw[pw hi hb hc ht]at h;cases h
   · rw[jg hi]at h
     cases h;exact fin out ho
theorem Zy {s:List UInt8} {l:List Tok} (h:kX s=.inl l):∀x∈l,wC x:=by
 unfold kX at h;split at h
 ·cases h
 ·exact Wa _ _ _ _ (Nat.le_refl _) (by simp) h
def Pn {α:Type} (m:PM α) (R:α->Prop):Prop:=∀s,R (m s).1
section
variable {T:List Tok} (hG:∀x∈T,wC x)
theorem b7 {α:Type} {a:α} {R:α->Prop} (h:R a):Pn (aO a) R:=fun _=>h
theorem bJ {α β:Type} {m:PM α} {k:α->PM β} {R:α->Prop} {S:β->Prop} (h:Pn m R) (hk:∀a,R a->Pn (k a) S):Pn (az m k) S:=fun s=>hk _ (h s) _
theorem eR {α:Type} {f:PS->PS} {m:PM α} {R:α->Prop} (h:Pn m R):Pn (cg f m) R:=fun s=>h _
theorem vK {α:Type} {m:PM α} {R:α->Prop} (h:Pn m R):Pn (bM m) R:=fun s=>h _
include hG in
theorem Zz (s:PS):wC (aD T s):=by
 unfold aD;rcases Nat.lt_or_ge s.i T.length with h|h
 ·rw[List.getD_eq_getElem?_getD,List.getElem?_eq_getElem h];exact hG _ (List.getElem_mem h)
 ·rw[List.getD_eq_getElem?_getD,List.getElem?_eq_none h];exact Int.le_refl 0
include hG in
theorem kF {α:Type} {k:Tok->PM α} {R:α->Prop} (h:∀t,wC t->Pn (k t) R):Pn (dZ T k) R:=fun s=>h _ (Zz hG s) _
theorem cQ {α:Type} {g:PS->Bool} {m1 m2:PM α} {R:α->Prop} (h1:Pn m1 R) (h2:Pn m2 R):Pn (bg g m1 m2) R:=fun s=>by
 unfold bg;split
 ·exact h1 _
 ·exact h2 _
theorem vf {α:Type} {g:PS->Bool} {m1 m2:PM α} {R:α->Prop} (h1:Pn m1 R) (h2:Pn m2 R):Pn (dU g m1 m2) R:=fun s=>by
 unfold dU;split
 ·exact h1 _
 ·exact h2 _
theorem Dr {α:Type} {most d:Nat} {z:α} {m:PM α} {R:α->Prop} (hz:R z) (h:Pn m R):Pn (jJ T most d z m) R:=fun s=>by
 unfold jJ;split
 ·exact h _
 ·exact hz
theorem oj {α:Type} {g:PS→Bool} {m:PM α} {R:α→Prop} (h:Pn m R):∀n,Pn (many g m n) (fun l=>∀x∈l,R x)
  |0=>fun s x hx=>by cases hx
  |n+1=>fun s=>by
   unfold many;split
   · intro x hx
     rcases List.mem_cons.1 hx with rfl|hx
     · exact h s
     · exact oj h n _ x hx
   · intro x hx;cases hx
theorem Aq {α:Type} {g:PS→Bool} {m:α→PM α} {R:α→Prop} (h:∀a,R a→Pn (m a) R):∀n a,R a→Pn (carry g m n a) R
  |0,a,ha=>fun s=>ha
  |n+1,a,ha=>fun s=>by
   unfold carry;split
   · exact Aq h n _ (h a ha s) _
   · exact ha
theorem sR {α:Type} {m:PM α}:Pn m (fun _=>True):=fun _=>trivial
end
theorem N2:∀{l:List af},(∀x∈l,x.nn)->af.ve l
 |[],_=>trivial
 |t::l,h=>⟨h t List.mem_cons_self,N2 fun x hx=>h x (List.mem_cons_of_mem _ hx)⟩
theorem I5:∀{l:List ae},(∀x∈l,x.nn)->ae.ve l
 |[],_=>trivial
 |t::l,h=>⟨h t List.mem_cons_self,I5 fun x hx=>h x (List.mem_cons_of_mem _ hx)⟩
theorem I6:∀{l:List aa},(∀x∈l,x.nn)->aa.ve l
 |[],_=>trivial
 |t::l,h=>⟨h t List.mem_cons_self,I6 fun x hx=>h x (List.mem_cons_of_mem _ hx)⟩
theorem I7:∀{l:List ar},(∀x∈l,x.nn)->aa.V9 l
 |[],_=>trivial
 |t::l,h=>⟨h t List.mem_cons_self,I7 fun x hx=>h x (List.mem_cons_of_mem _ hx)⟩
theorem GJ {k:Int} {n:List UInt8} {p:Int} {l:List af} (hp:0<=p) (h:∀x∈l,x.nn):(af.mk k n p l).nn:=⟨hp,N2 h⟩
theorem Ar {k:Int} {n:List UInt8} {u p:Int} {l:List ae} (hp:0<=p) (h:∀x∈l,x.nn):(ae.mk k n u p l).nn:=⟨hp,I5 h⟩
theorem Ds {k:Int} {n:List UInt8} {u:Int} {t:List UInt8} {p:Int} {l:List aa} {m:List ar} (hp:0<=p) (h:∀x∈l,x.nn) (h2:∀x∈m,x.nn):(aa.mk k n u t p l m).nn:=⟨hp,I6 h,I7 h2⟩
theorem D3 {k:Int} {n:List UInt8} {u:Int} {t:List UInt8} {p:Int} (hp:0<=p):(leaf k n u t p).nn:=Ds hp (by simp) (by simp)
theorem U0 {k:Int} {n:List UInt8} {p:Int} {a:aa} (hp:0<=p) (ha:a.nn):(node1 k n p a).nn:=Ds hp (by simpa using ha) (by simp)
theorem PI {k:Int} {n:List UInt8} {p:Int} {a b:aa} (hp:0<=p) (ha:a.nn) (hb:b.nn):(node2 k n p a b).nn:=Ds hp (by simpa using⟨ha,hb⟩) (by simp)
theorem af.nn.p:∀{a:af},a.nn->0<=a.pos
 | .mk _ _ _ _,h=>h.1
theorem aa.nn.p:∀{a:aa},a.nn->0<=a.pos
 | .mk _ _ _ _ _ _ _,h=>h.1
theorem kt {α:Type} {R:α->Prop} {a:α} {l:List α} (ha:R a) (hl:∀x∈l,R x):∀x∈a::l,R x:=fun x hx=>by
 rcases List.mem_cons.1 hx with rfl|hx
 ·exact ha
 ·exact hl x hx
theorem ku {α:Type} {R:α->Prop}:∀x∈([]:List α),R x:=fun x hx=>by cases hx
def ai.nn (c:ai):Prop:=0<=c.pos/\c.arg.nn/\(c.has=false->c.arg.Ic=true)
def ao.nn (d:ao):Prop:=0<=d.pos/\∀c∈d.ctors,c.nn
def aI.nn (g:aI):Prop:=(∀d∈g.types,d.nn)/\g.body.nn
section
variable {T:List Tok} {N:Nat} (hG:∀x∈T,wC x)
include hG
theorem Dt {ty:PM af} (h:Pn ty af.nn):Pn (dR T ty) af.nn:=
 kF hG fun t ht=>cQ (b7 (GJ ht ku))<|cQ (b7 (GJ ht ku))<|eR<|bJ h fun o ho=>eR (b7 ho)
theorem Du {ty:PM af} (h:Pn ty af.nn):Pn (eU T N ty) af.nn:=
 kF hG fun t ht=>cQ (bJ (Dt hG h) fun x hx=>b7 (GJ ht (kt hx ku)))<|
  cQ (bJ (oj (Dt hG h) N) fun l hl=>b7 (GJ ht hl)) (Dt hG h)
omit hG in
theorem Dv {a:af} {l:List af} (ha:a.nn) (hl:∀x∈l,x.nn):(fk a l).nn:=by
 unfold fk;split
 ·exact ha
 ·exact GJ ha.p (kt ha hl)
theorem Wb {most d:Nat} {ty:PM af} (h:Pn ty af.nn):Pn (EI T N most ty d) af.nn:=
 Dr (GJ (Int.le_refl 0) ku)<|bJ (Du hG h) fun a ha=>bJ (oj (vK (Du hG h)) N) fun l hl=>
  cQ (bJ h fun b hb=>b7 (GJ (Dv ha hl).p (kt (Dv ha hl) (kt hb ku)))) (b7 (Dv ha hl))
theorem N3 {most:Nat}:∀k d,Pn (l9 T N most k d) af.nn
 |0,d=>b7 (GJ (Int.le_refl 0) ku)
 |k+1,d=>Wb hG (N3 k (d+1))
theorem PR {pat:PM ae} (h:Pn pat ae.nn):Pn (oQ T N pat) ae.nn:=
 kF hG fun t ht=>eR<|cQ (b7 (Ar ht ku))<|vf (b7 (Ar ht ku))<|
  bJ h fun a ha=>bJ (oj (vK h) N) fun l hl=>eR<|b7 (by
   split
   ·exact ha
   ·exact Ar ht (kt ha hl))
theorem I8 {pat:PM ae} (h:Pn pat ae.nn):Pn (fx T N pat) ae.nn:=
 kF hG fun t ht=>cQ (b7 (Ar ht ku))<|cQ (b7 (Ar ht ku))<|
  cQ (b7 (Ar ht ku))<|cQ (b7 (Ar ht ku))<|cQ (b7 (Ar ht ku))<|
  cQ (b7 (Ar ht ku)) (PR hG h)
theorem Wc {most d:Nat} {pat:PM ae} (h:Pn pat ae.nn):Pn (zM T N most pat d) ae.nn:=
 Dr (Ar (Int.le_refl 0) ku)<|kF hG fun t ht=>
  cQ (vf (bJ (I8 hG h) fun a ha=>b7 (Ar ht (kt ha ku))) (b7 (Ar ht ku))) (I8 hG h)
theorem I9 {most:Nat}:∀k d,Pn (pA T N most k d) ae.nn
 |0,d=>b7 (Ar (Int.le_refl 0) ku)
 |k+1,d=>Wc hG (I9 k (d+1))
theorem adR {ex:PM aa} (h:Pn ex aa.nn):Pn (DP T N ex) aa.nn:=
 kF hG fun t ht=>eR<|cQ (b7 (D3 ht))<|vf (b7 (D3 ht))<|
  bJ h fun a ha=>bJ (oj (vK h) N) fun l hl=>eR<|b7 (by
   split
   ·exact ha
   ·exact Ds ht (kt ha hl) ku)
theorem y9 {ex:PM aa} (h:Pn ex aa.nn):Pn (fy T N ex) aa.nn:=
 kF hG fun t ht=>cQ (b7 (D3 ht))<|cQ (b7 (D3 ht))<|
  cQ (b7 (D3 ht))<|cQ (b7 (D3 ht))<|
  cQ (b7 (D3 ht))<|cQ (b7 (D3 ht))<|cQ (b7 (D3 ht)) (adR hG h)
theorem ZA {ex:PM aa} (h:Pn ex aa.nn):Pn (sZ T N ex) aa.nn:=
 kF hG fun t ht=>cQ (bJ (y9 hG h) fun a ha=>b7 (U0 ht ha))<|
  cQ (vf (bJ (y9 hG h) fun a ha=>b7 (U0 ht ha)) (b7 (D3 ht))) (y9 hG h)
theorem N4 {ex:PM aa} (h:Pn ex aa.nn):Pn (uf T N ex) aa.nn:=
 bJ (ZA hG h) fun a ha=>Aq (fun a ha=>bJ (y9 hG h) fun b hb=>b7 (PI ha.p ha hb)) N a ha
theorem Ja {L:List (List UInt8)} {side:PM aa} (h:Pn side aa.nn) {a:aa} (ha:a.nn):Pn (lD T N L side a) aa.nn:=
 Aq (fun a ha=>kF hG fun t ht=>vK<|bJ h fun b hb=>b7 (PI ht ha hb)) N a ha
theorem Fe {g:PS->Bool} {side:PM aa} (h:Pn side aa.nn) {a:aa} (ha:a.nn):Pn (fc T g side a) aa.nn:=
 kF hG fun t ht=>cQ (bJ h fun b hb=>b7 (PI ht ha hb)) (b7 ha)
theorem Jb {ex:PM aa} (h:Pn ex aa.nn):Pn (ug T N ex) aa.nn:=bJ (N4 hG h) fun a ha=>Ja hG (N4 hG h) ha
theorem Jc {ex:PM aa} (h:Pn ex aa.nn):Pn (wZ T N ex) aa.nn:=bJ (Jb hG h) fun a ha=>Ja hG (Jb hG h) ha
theorem Ff {ex:PM aa} (h:Pn ex aa.nn):Pn (vx T N ex) aa.nn:=bJ (Jc hG h) fun a ha=>Fe hG (Jc hG h) ha
theorem PT {ex:PM aa} (h:Pn ex aa.nn):Pn (sk T N ex) aa.nn:=bJ (Ff hG h) fun a ha=>Fe hG (Ff hG h) ha
omit hG in
theorem ZB {ex:PM aa} (h:Pn ex aa.nn) {p:Int} (hp:0<=p):Pn (uh T ex p) aa.nn:=
 cQ (bJ sR fun n _=>bJ sR fun f _=>eR<|bJ h fun a ha=>eR<|bJ h fun b hb=>b7 (Ds hp (kt ha (kt hb ku)) ku))
  (bJ sR fun n _=>eR<|bJ h fun a ha=>eR<|bJ h fun b hb=>b7 (Ds hp (kt ha (kt hb ku)) ku))
omit hG in
theorem ZC {ex:PM aa} (h:Pn ex aa.nn) {p:Int} (hp:0<=p):Pn (wu T ex p) aa.nn:=bJ sR fun n _=>eR<|bJ h fun a ha=>b7 (U0 hp ha)
omit hG in
theorem ZD {ex:PM aa} (h:Pn ex aa.nn) {p:Int} (hp:0<=p):Pn (DQ T ex p) aa.nn:=
 bJ h fun a ha=>eR<|bJ h fun b hb=>eR<|bJ h fun c hc=>b7 (Ds hp (kt ha (kt hb (kt hc ku))) ku)
omit hG in
theorem ZF {pat:PM ae} {ex:PM aa} (hp:Pn pat ae.nn) (h:Pn ex aa.nn):Pn (iA T pat ex) ar.nn:=
 bJ hp fun a ha=>eR<|bJ h fun e he=>b7 ⟨ha,he⟩
omit hG in
theorem Wd {arm:PM ar} (h:Pn arm ar.nn):Pn (ow T N arm) (fun l=>∀x∈l,x.nn):=
 bJ h fun a ha=>bJ (oj (vK h) N) fun l hl=>b7 (kt ha hl)
omit hG in
theorem PU {pat:PM ae} {ex:PM aa} (hp:Pn pat ae.nn) (h:Pn ex aa.nn) {p:Int} (hq:0<=p):Pn (yj T N pat ex p) aa.nn:=
 bJ h fun a ha=>eR<|eR<|bJ (vf (Wd (ZF hp h)) (b7 ku)) fun l hl=>eR<|b7 (Ds hq (kt ha ku) hl)
theorem We {most d:Nat} {pat:PM ae} {ex:PM aa} (hp:Pn pat ae.nn) (h:Pn ex aa.nn):Pn (zN T N most pat ex d) aa.nn:=
 Dr (Ds (Int.le_refl 0) ku ku)<|kF hG fun t ht=>cQ (ZB h ht)<|cQ (ZC h ht)<|cQ (ZD h ht)<|cQ (PU hp h ht) (PT hG h)
theorem Jd {most:Nat}:∀k d,Pn (fm T N most k d) aa.nn
 |0,d=>b7 (Ds (Int.le_refl 0) ku ku)
 |k+1,d=>We hG (I9 hG k (d+1)) (Jd k (d+1))
theorem Je {ty:PM af} (h:Pn ty af.nn):Pn (fL T ty) ai.nn:=
 kF hG fun t ht=>bJ sR fun n _=>cQ (bJ h fun a ha=>b7 ⟨ht,ha,fun e=>by cases e⟩) (b7 ⟨ht,GJ (Int.le_refl 0) ku,fun _=>rfl⟩)
theorem Wf {ty:PM af} (h:Pn ty af.nn):Pn (iK T N ty) ao.nn:=
 kF hG fun t ht=>eR<|bJ sR fun vs _=>bJ sR fun n _=>eR<|bJ (Je hG h) fun c hc=>bJ (oj (vK (Je hG h)) N) fun cs gU=>
  eR<|b7 ⟨ht,kt hc gU⟩
theorem Wg {ty:PM af} {ex:PM aa} (h:Pn ty af.nn) (he:Pn ex aa.nn):Pn (jh T N ty ex) aI.nn:=
 bJ (oj (Wf hG h) N) fun ds hd=>bJ he fun e hE=>eR<|b7 ⟨hd,hE⟩
end
open Qp in
theorem Jf (s:List UInt8):(dM s).1.nn:=by
 have h0:uZ.nn:=⟨ku,Ds (Int.le_refl 0) ku ku⟩;unfold dM;rcases hl:kX s with T|⟨c,i⟩
 ·have hG:=Zy hl
  have h:=Wg (N:=T.length) hG (N3 (N:=T.length) (most:=40) hG 41 1) (Jd (N:=T.length) (most:=40) hG 41 1) ⟨0,0,0,0,0⟩;simp only;rw[GF];split
  ·rename_i h1
   split at h1
   ·cases h1;exact h
   ·cases h1
  ·exact h0
 ·exact h0
theorem ai.ko (c:ai) (h:c.okB=true):c.er.okB=true:=by
 obtain⟨n,hs,t,p⟩:=c;unfold ai.okB at *;unfold ai.er;simp only[Bool.and_eq_true]at *;refine⟨h.1,rfl,?_⟩;have h2:=h.2.2;cases hs
 ·obtain⟨k,m,q,ks⟩:=t
  simp only[Bool.false_eq_true,if_false,af.Ic,Bool.and_eq_true,af.er,af.fa,List.length_map]at *;exact⟨h2.1,h2.2.1,rfl,h2.2.2.2⟩
 ·simp only[if_true]at *
  exact af.ko t h2
theorem ai.kr (c:ai) (h:c.er.okB=true) (hn:c.nn):c.okB=true:=by
 obtain⟨n,hs,t,p⟩:=c;obtain⟨h1,h2,h3⟩:=hn;unfold ai.er at h;unfold ai.okB at *;simp only[Bool.and_eq_true]at *;refine⟨h.1,by simpa using h1,?_⟩;cases hs
 ·simp only[Bool.false_eq_true,if_false]at *
  exact h3 trivial
 ·simp only[if_true]at *
  exact af.kr t h.2.2 h2
theorem ao.ko (d:ao) (h:d.okB=true):d.er.okB=true:=by
 unfold ao.okB at *;unfold ao.er;simp only[Bool.and_eq_true,List.length_map,List.all_eq_true,List.all_map]at *;exact⟨h.1,rfl,h.2.2.1,h.2.2.2.1,fun c hc=>ai.ko c (h.2.2.2.2 c hc)⟩
theorem ao.kr (d:ao) (h:d.er.okB=true) (hn:d.nn):d.okB=true:=by
 unfold ao.er at h;unfold ao.okB at *;simp only[Bool.and_eq_true,List.length_map,List.all_eq_true,List.all_map]at *;exact⟨h.1,decide_eq_true hn.1,h.2.2.1,h.2.2.2.1,fun c hc=>ai.kr c (h.2.2.2.2 c hc) (hn.2 c hc)⟩
theorem aI.ko (g:aI) (h:g.okB=true):g.er.okB=true:=by
 unfold aI.okB at *;unfold aI.er;simp only[Bool.and_eq_true,List.all_eq_true,List.all_map]at *;exact⟨aa.ko _ h.1,fun d hd=>ao.ko d (h.2 d hd)⟩
theorem aI.kr (g:aI) (h:g.er.okB=true) (hn:g.nn):g.okB=true:=by
 unfold aI.er at h;unfold aI.okB at *;simp only[Bool.and_eq_true,List.all_eq_true,List.all_map]at *;exact⟨aa.kr _ h.1 hn.2,fun d hd=>ao.kr d (h.2 d hd) (hn.1 d hd)⟩
end Go.Proofs.YteilijfligofdaaGreatDoor.Pg