/- Texts QeB QeC QeD QeE QeF QeG QkA QfA QhA QhB QhC QhD, merged. -/
import Derived.Test.YtjkbbnfdbfcebaaGreatDoorKAC
import Derived.Test.YtjkbbnfdbfcebaaGreatDoorChecked
import Derived.KernelRfl
set_option linter.all false
namespace Go.Proofs.YtjkbbnfdbfcebaaGreatDoor.Qp
open Go.AM Mc Pg
theorem ED {b u n q:Nat} {X:List AO} {x y:af} {c1 c2:List AV} {ver:Nat} (h:Env b u X (x.tv++y.tv) (c1++c2)) (l1:c1.length=4) (l2:c2.length=4) (hi:X[n+q]?=some (.rows 4 ver [c1,c2])) (hu:u<=n+q) (hb:b<=n):Env b (n+q+1) X [.s 4 ([x,y].map af.tv)] [.gs (n+q) ver 0 2]:=
 Env.node (rows:=[x.tv,y.tv]) (rs:=[c1,c2]) (by simpa using h) hi (by omega) (by omega) rfl (by intro r hr;simp at hr;rcases hr with rfl|rfl<;>exact af.cm _) (by intro r hr;simp at hr;rcases hr with rfl|rfl<;>assumption) (by simp)
theorem LO.agI {α:Type} {pv:PS->AO} {T:List Tok} {e b n p sz:Nat} {K:List AO} {N:List Nat} {tv:α->List TV} {g:PS->Bool} {m:PM α} {Rl:List α} {Rs:PS} {x:LG α} (h:LO pv T e b n p K N sz tv g m Rl Rs x) (hp:p<b) (hb:b<=n) (h0:x.acc≠[]) (SF:∀a,(tv a).length=sz) {c:AO} {B:List AO} (hk:∀(k:Nat) (o:AO),k∉N->x.A[k]?=some o->B[k]?=some o):Env b (n+x.A.length) (x.H.set p c++B) [.s sz (x.acc.map tv)] [x.a]:=by
 rcases h.own with⟨h1,h2⟩|⟨id,ver,e1,h1⟩
 ·have:=h.len;rw[h2]at this;exact(h0 (List.length_eq_zero_iff.1 this.symm)).elim
 ·obtain⟨q1,q2⟩:=h.ids _ _ _ _ e1
  obtain⟨q,rfl⟩:=Nat.le.dest q1;rw[Nat.add_sub_cancel_left]at q2;rw[az h.hn]at h1;have hq:=bj h1;rw[e1];exact((h.env.base h.hn hp).node (by rw[az h.hn];exact hk _ _ q2 h1) (by omega) (by omega) (by rw[h.len];simp) (by intro r hr;obtain⟨a,_,rfl⟩:=List.mem_map.1 hr;exact SF a) h.sz1 (by simpa using h0)).up (by omega)
theorem SZ (a:af) (l:List af):nC a.tv+nR (l.map af.tv)<=nC (fA a l).tv:=by
 unfold fA;split
 ·rename_i h;subst h;simp[nR]
 ·rw[zG,List.map_cons,nK];omega
section
variable {T:List Tok} {most e:Nat} (hT:bL T) (aO:T.length<=1073741825)
include hT aO
theorem agJ {d:Nat} (hd:d<=1099511627776) {ty:PM af} (hP:d<=most->iu T most e 116 [iV (d+1:Nat)] ty af.tv) (sP:ab T ty):iu T most e 116 [iV d] (Ho T T.length most ty d) af.tv:=by
 refine ig fun p K b n s hn hp hb hs hF=>?_
 have bW:p<K.length:=by omega
 have od:wr .i64 ((d:Int)+1)=((d+1:Nat):Int):=bp _ (by omega);refine call116 (by simp) ?_;simp only[go_sem,simprocAttr,az hn,aF hn,aE hn,aG hn,hn,hn,Ky,Ss];refine U (Cx d K _ p s bW hs) ?_;have bG:=CA (most:=most) (d:=d) hT aO hs;unfold Ho kO at hF⊢;cases hc:decide ((cT T most d s).c=0)
 ·rw[if_neg (of_decide_eq_false hc)]
  simp only[go_sem,simprocAttr,az hn,aF hn,aE hn,aG hn,hn,hn,hc,Bool.not_false,Bool.not_true];exact⟨_,K,_,0,rfl,rfl,Kp.rfl,yh _ _ _ _ _ _⟩
 have AT:=of_decide_eq_true hc;have hP:=hP (uu hT aO AT);have hA:=X7 hT aO hd hP sP;have sA:=Pg.ic (N:=T.length) hT sP;rw[if_pos AT]at hF⊢;simp only[go_sem,simprocAttr,az hn,aF hn,aE hn,aG hn,hn,hn,hc,Bool.not_false,Bool.not_true];generalize cT T most d s=s1 at *;rcases hq:e7 T T.length ty s1 with⟨⟨k1,n1,q1,l1⟩,s2⟩
 have bD:=bG.run sA;rw[hq]at bD;simp only at bD;rcases hR:many (aL T [42]) (bT (e7 T T.length ty)) T.length s2 with⟨Rl,Rs⟩
 simp only[aP,hq,hR]at hF⊢
 have hle:nC (fA (.mk k1 n1 q1 l1) Rl).tv<=nC (bm (aL T [45,62]) (fun s=>aT (.mk 3 [] (fA (.mk k1 n1 q1 l1) Rl).pos [fA (.mk k1 n1 q1 l1) Rl,(ty s).1]) (ty s).2) (aT (fA (.mk k1 n1 q1 l1) Rl)) Rs).1.tv:=by
  unfold bm;split
  ·show _<=nC (af.tv (.mk 3 _ _ _))
   rw[zG,List.map_cons,nK];omega
  ·exact Nat.le_refl _
 have pV:=SZ (.mk k1 n1 q1 l1) Rl;have hFe:(bm (aL T [45,62]) (aH ty fun b=>aT (.mk 3 [] (fA (.mk k1 n1 q1 l1) Rl).pos [fA (.mk k1 n1 q1 l1) Rl,b])) (aT (fA (.mk k1 n1 q1 l1) Rl)) Rs)=(bm (aL T [45,62]) (fun s=>aT (.mk 3 [] (fA (.mk k1 n1 q1 l1) Rl).pos [fA (.mk k1 n1 q1 l1) Rl,(ty s).1]) (ty s).2) (aT (fA (.mk k1 n1 q1 l1) Rl)) Rs):=rfl;rw[hFe]at hF⊢;generalize X8:bm (aL T [45,62]) (fun s=>aT (.mk 3 [] (fA (.mk k1 n1 q1 l1) Rl).pos [fA (.mk k1 n1 q1 l1) Rl,(ty s).1]) (ty s).2) (aT (fA (.mk k1 n1 q1 l1) Rl)) Rs=FF at hF hle⊢;obtain⟨H1,cs1,ar,dV,fB,lI,_,cE,cb⟩:=(hA p).use af.wf hq hn hp hb bG hF (by omega);refine U (cb _ trivial) ?_;have cV:=fun A A'=>cE [] [] A A' (Env.nil _ _ _)
 obtain⟨c1,rfl⟩:=(cV [] []).CC rfl;simp only[go_sem,simprocAttr,az ar,aF ar,aE ar,aG ar,ar,ar,Nat.add_zero];have X9:fA (.mk k1 n1 q1 l1) Rl=(if Rl=[]then .mk k1 n1 q1 l1 else .mk 4 [] q1 (.mk k1 n1 q1 l1::Rl)):=rfl
 refine⟨LG af×Nat,[0,1,4,5],fun x st=>(LO (db T most) T e b n p K [0] 4 af.tv (aL T [42]) (bT (e7 T T.length ty)) (.mk k1 n1 q1 l1::Rl) Rs x.1/\x.1.A[0]?=some (.var [iV 0,sV [],iV 0,.p .nl])/\Fr b x.1.H x.2/\nR ((many (aL T [42]) (bT (e7 T T.length ty)) x.1.j x.1.s).1.map af.tv)+(nC FF.1.tv-nC (fA (.mk k1 n1 q1 l1) Rl).tv)<=x.2)/\
   st=⟨[(0,.ptr p 0),(1,iV d),(4,.ptr n 0),(5,x.1.a)],[],x.1.H.set p (db T most x.1.s)++x.1.A⟩,fun x=>T.length-x.1.s.i,
  ⟨(⟨T.length,s2,[.mk k1 n1 q1 l1],[[iV k1,sV n1,iV q1,c1]],.gs (n+1) 0 0 1,H1,[.var [iV 0,sV [],iV 0,.p .nl],.rows 4 0 [[iV k1,sV n1,iV q1,c1]]]⟩,nC FF.1.tv-nC (af.tv (.mk k1 n1 q1 l1))),?_⟩,?_⟩
 ·refine⟨⟨LO.nd bD hR ar dV fB (by omega) (cV [] _) rfl rfl (by decide) (by simp),rfl,fB,by simp only[hR];omega⟩,?_⟩
  simp only[go_sem,simprocAttr,az ar,aF ar,aE ar,aG ar,ar,ar]
 ·rintro⟨x,M⟩ _ ⟨⟨hL,i0,oH,hM⟩,rfl⟩
  simp only at hL i0 oH hM⊢;have kh:p<x.H.length:=by rw[hL.hn];omega
  simp only[go_sem,simprocAttr,az hL.hn,aF hL.hn,aE hL.hn,aG hL.hn,hL.hn,hL.hn];refine U (iq aO [42] x.H _ p x.s kh hL.ok) ?_;unfold dm;cases hg:aL T [42] x.s
  ·obtain⟨ha,hx⟩:=hL.stop hg
   subst hx;rw[kD hg]at hM;simp only[List.map_nil,nR,Nat.zero_add]at hM;obtain⟨r0,rr,q,ver,aio,r1,r2,r3,r4,r5,r6⟩:=hL.head af.cm ha;obtain⟨v0,rfl⟩:=H3 r6;have r5':∀B,(x.A++B)[q]?=some (.rows 4 ver ([iV k1,sV n1,iV q1,v0]::rr)):=fun B=>ay r5 B
   have mS:∀B,(x.A++B)[0]?=some (.var [iV 0,sV [],iV 0,.p .nl]):=fun B=>ay i0 B
   have hz:∀B o,((x.A++B).set 0 o)[0]?=some o:=fun B o=>bg (mS B)
   have h0A:=bj i0;have d0:decide ((0:Int)<((rr.length+1:Nat):Int))=true:=by simp <;>omega
   simp only[go_sem,simprocAttr,az hL.hn,aF hL.hn,aE hL.hn,aG hL.hn,hL.hn,hL.hn,hg];rw[r3];simp only[go_sem,simprocAttr,az hL.hn,aF hL.hn,aE hL.hn,aG hL.hn,hL.hn,hL.hn,r5,r5',gq,fU,sU,qG,Nat.add_zero,d0];refine⟨by omega,fun _=>?_⟩;by_cases qI:Rl=[]
   ·have Nl:rr=[]:=List.length_eq_zero_iff.1 (by rw[r2,qI];rfl)
    have d1:decide ((1:Int)<((rr.length+1:Nat):Int))=false:=by rw[Nl];rfl
    have S3:∀c B,Env b (n+x.A.length) (x.H.set p c++(x.A++B)) (fA (.mk k1 n1 q1 l1) Rl).tv [iV k1,sV n1,iV q1,v0]:=fun c B=>by
     have hE:=hL.env;rw[ha,r1,Nl,qI]at hE;rw[X9,if_pos qI];exact(Env.base (by simpa using hE) hL.hn hp).up (by omega)
    have vP:(fA (.mk k1 n1 q1 l1) Rl).pos=q1:=by rw[X9,if_pos qI];rfl
    simp only[go_sem,simprocAttr,az hL.hn,aF hL.hn,aE hL.hn,aG hL.hn,hL.hn,hL.hn,d1];refine U (iq aO [45,62] x.H _ p x.s kh hL.ok) ?_;unfold dm;cases kA:aL T [45,62] x.s
    ·have KT:FF=(fA (.mk k1 n1 q1 l1) Rl,x.s):=by rw[<-X8,aZ kA];rfl
     rw[KT];simp only[go_sem,simprocAttr,az hL.hn,aF hL.hn,aE hL.hn,aG hL.hn,hL.hn,hL.hn,kA,gq,fU,sU,qG,mS,hz,Bool.not_true,Bool.not_false];exact⟨_,x.H,_,_,rfl,rfl,hL.kp,(S3 (db T most x.s) _).q hL.hn hp fun i sz ver rs hi=>aU hi (by rintro rfl;rw[mS]at hi;cases hi)⟩
    ·have dJ:=hL.ok.aI hT (cH kA).2
     rcases kE:ty (aI x.s)with⟨⟨k5,n5,q5,l5⟩,s5⟩
     have KT:FF=(.mk 3 [] (fA (.mk k1 n1 q1 l1) Rl).pos [fA (.mk k1 n1 q1 l1) Rl,.mk k5 n5 q5 l5],s5):=by rw[<-X8,aS kA];simp only[kE];rfl
     rw[KT]at hM⊢;rw[vP]at hM⊢;simp only[zG 3,List.map_cons,List.map_nil,nK,nR]at hM;obtain⟨H5,XW,cM,F0,Ob,XX,yg,_,call5⟩:=(hP p).use af.wf kE hL.hn hp hb dJ oH (by omega);have w6:=fun B=>yg (n+x.A.length) _ _ (x.A++B) (by omega) (S3 (db T most (aI x.s)) B)
     obtain⟨c5,rfl⟩:=(w6 []).CC (by rw[af.cm];rfl);simp only[go_sem,simprocAttr,az hL.hn,aF hL.hn,aE hL.hn,aG hL.hn,hL.hn,hL.hn,kA,od,Bool.not_true,Bool.not_false];refine⟨_,gS hL.hn _ _ _,?_⟩;simp only[go_sem,simprocAttr,az hL.hn,aF hL.hn,aE hL.hn,aG hL.hn,hL.hn,hL.hn,gq,fU,sU,qG,od];refine aR _ _ (qJ cM hL.hn _ _ _) (gS cM _ _ _) (gu call5 _ fun _=>trivial) ?_;simp only[go_sem,simprocAttr,az cM,aF cM,aE cM,aG cM,cM,cM,gq,fU,sU,qG,mS,hz,Nat.add_zero];refine⟨_,H5,_,_,rfl,rfl,hL.kp.trans F0,uy (ED (n:=n) (q:=x.A.length+1) (c1:=[iV k1,sV n1,iV q1,v0]) (c2:=[iV k5,sV n5,iV q5,c5]) (u:=n+x.A.length) ((w6 [.var [iV k1,sV n1,iV q1,v0],.rows 4 0 [[iV k1,sV n1,iV q1,v0],[iV k5,sV n5,iV q5,c5]]]).q cM hp fun i sz ver rs hi=>aU hi (by rintro rfl;rw[mS]at hi;cases hi)) rfl rfl ?_ (by omega) hb)⟩;rw[az cM,List.getElem?_set_ne (by omega),fU];rfl
   ·have d1:decide ((1:Int)<((rr.length+1:Nat):Int))=true:=by
     have:Rl.length≠0:=fun h=>qI (List.length_eq_zero_iff.1 h)
     simp;omega
    have S3:∀c B,Env b (n+x.A.length) (x.H.set p c++(x.A++B)) (fA (.mk k1 n1 q1 l1) Rl).tv [iV 4,sV [],iV q1,.gs (n+q) ver 0 (rr.length+1)]:=fun c B=>by
     have hE:=hL.agI hp hb (by rw[ha];simp) af.cm (c:=c) (B:=x.A++B) (fun k o _ ho=>ay ho B);rw[ha,r3]at hE;rw[X9,if_neg qI];exact uy hE
    have vP:(fA (.mk k1 n1 q1 l1) Rl).pos=q1:=by rw[X9,if_neg qI];rfl
    simp only[go_sem,simprocAttr,az hL.hn,aF hL.hn,aE hL.hn,aG hL.hn,hL.hn,hL.hn,d1,r5,r5',gq,fU,sU,qG,Nat.add_zero,d0];refine⟨by omega,?_⟩;refine U (iq aO [45,62] x.H _ p x.s kh hL.ok) ?_;unfold dm;cases kA:aL T [45,62] x.s
    ·have KT:FF=(fA (.mk k1 n1 q1 l1) Rl,x.s):=by rw[<-X8,aZ kA];rfl
     rw[KT];simp only[go_sem,simprocAttr,az hL.hn,aF hL.hn,aE hL.hn,aG hL.hn,hL.hn,hL.hn,kA,gq,fU,sU,qG,mS,hz,Bool.not_true,Bool.not_false];exact⟨_,x.H,_,_,rfl,rfl,hL.kp,(S3 (db T most x.s) _).q hL.hn hp fun i sz ver rs hi=>aU hi (by rintro rfl;rw[mS]at hi;cases hi)⟩
    ·have dJ:=hL.ok.aI hT (cH kA).2
     rcases kE:ty (aI x.s)with⟨⟨k5,n5,q5,l5⟩,s5⟩
     have KT:FF=(.mk 3 [] (fA (.mk k1 n1 q1 l1) Rl).pos [fA (.mk k1 n1 q1 l1) Rl,.mk k5 n5 q5 l5],s5):=by rw[<-X8,aS kA];simp only[kE];rfl
     rw[KT]at hM⊢;rw[vP]at hM⊢;simp only[zG 3,List.map_cons,List.map_nil,nK,nR]at hM;obtain⟨H5,XW,cM,F0,Ob,XX,yg,_,call5⟩:=(hP p).use af.wf kE hL.hn hp hb dJ oH (by omega);have w6:=fun B=>yg (n+x.A.length) _ _ (x.A++B) (by omega) (S3 (db T most (aI x.s)) B)
     obtain⟨c5,rfl⟩:=(w6 []).CC (by rw[af.cm];rfl);simp only[go_sem,simprocAttr,az hL.hn,aF hL.hn,aE hL.hn,aG hL.hn,hL.hn,hL.hn,kA,od,Bool.not_true,Bool.not_false];refine⟨_,gS hL.hn _ _ _,?_⟩;simp only[go_sem,simprocAttr,az hL.hn,aF hL.hn,aE hL.hn,aG hL.hn,hL.hn,hL.hn,gq,fU,sU,qG,od];refine aR _ _ (qJ cM hL.hn _ _ _) (gS cM _ _ _) (gu call5 _ fun _=>trivial) ?_;simp only[go_sem,simprocAttr,az cM,aF cM,aE cM,aG cM,cM,cM,gq,fU,sU,qG,mS,hz,Nat.add_zero];refine⟨_,H5,_,_,rfl,rfl,hL.kp.trans F0,uy (ED (n:=n) (q:=x.A.length+1) (c1:=[iV 4,sV [],iV q1,.gs (n+q) ver 0 (rr.length+1)]) (c2:=[iV k5,sV n5,iV q5,c5]) (u:=n+x.A.length) ((w6 [.var [iV 4,sV [],iV q1,.gs (n+q) ver 0 (rr.length+1)],.rows 4 0 [[iV 4,sV [],iV q1,.gs (n+q) ver 0 (rr.length+1)],[iV k5,sV n5,iV q5,c5]]]).q cM hp fun i sz ver rs hi=>aU hi (by rintro rfl;rw[mS]at hi;cases hi)) rfl rfl ?_ (by omega) hb)⟩;rw[az cM,List.getElem?_set_ne (by omega),fU];rfl
  ·obtain⟨j,hj⟩:=hL.succ (aB T _) hg
   have dJ:=hL.ok.aI hT (cH hg).2;have eL:=dJ.run sA;have cJ:=(gU.aI hT sA hL.ok.1 (cH hg).2).1;rcases fF:e7 T T.length ty (aI x.s)with⟨⟨k3,n3,q3,l3⟩,s3⟩
   rw[fF]at eL cJ;simp only at eL;have Df:bT (e7 T T.length ty) x.s=(.mk k3 n3 q3 l3,s3):=fF;rw[hj,many,if_pos hg,Df]at hM;simp only[List.map_cons,nR]at hM;obtain⟨H2,cs2,bh,oe,og,zF,_,ix,call2⟩:=(hA p).use af.wf fF hL.hn hp hb dJ oH (by omega);have mm:=fun A'=>ix _ _ x.A A' (hL.env.base hL.hn hp)
   obtain⟨c2,rfl⟩:=(mm []).CC (hL.env.len);simp only[go_sem,simprocAttr,az hL.hn,aF hL.hn,aE hL.hn,aG hL.hn,hL.hn,hL.hn,hg];refine U (call2 _ trivial) ?_;simp only[go_sem,simprocAttr,az bh,aF bh,aE bh,aG bh,bh,bh,FV bh,vW bh,Nat.add_zero];refine⟨by intro r hr;simp at hr;subst hr;rfl,?_⟩;refine hL.app bh (fun k o h=>ay h _) aO (by decide) ?_;intro id ver A' m1 m2 m3;have j0:=(m3 0 (by decide)).trans i0;simp only[go_sem,simprocAttr,az bh,aF bh,aE bh,aG bh,bh,bh];have F2:x.j-1=j:=by omega
   exact⟨(⟨x.j-1,s3,x.acc++[.mk k3 n3 q3 l3],x.rs++[[iV k3,sV n3,iV q3,c2]],.gs id ver 0 (x.rs.length+1),H2,A'⟩,_),⟨⟨hL.next (aB T _) hg fF eL cJ bh oe og (by rw[F2];omega) (mm A') rfl m1 m2 (fun k o _ h=>h) (by intro k hk;simp at hk;subst hk;exact bj j0),j0,og,by simp only[F2];omega⟩,rfl⟩,by have h1:x.s.i<s3.i:=cJ;have:=hL.ok.1;simp only;omega⟩
theorem abl:∀k d,d+k=most+2->most<=1099511627774->0<k->iu T most e 116 [iV d] (pU T T.length most k d) af.tv
 |0,d,_,_,h=>absurd h (by omega)
 |k+1,d,h,hm,_=>agJ hT aO (by omega) (fun hle=>abl k (d+1) (by omega) hm (by omega)) (iJ hT most k (d+1))
end
end Go.Proofs.YtjkbbnfdbfcebaaGreatDoor.Qp
namespace Go.Proofs.YtjkbbnfdbfcebaaGreatDoor.Pg
open Go.AM
def ah.tv (c:ah):List TV:=[.p (.s c.name),.p (.b c.has)]++c.arg.tv++[.p (.i .i64 c.pos)]
def pz (l:List (List UInt8)):List (List TV):=l.map fun s=>[.p (.s s)]
def ai.tv (d:ai):List TV:=[.p (.s d.name),.s 1 (pz d.vars),.s 7 (d.ctors.map ah.tv),.p (.i .i64 d.pos)]
def bb.tv (p:bb):List TV:=.s 4 (p.types.map ai.tv)::p.body.tv
theorem ah.cm (t:ah):t.tv.length=7:=by simp[ah.tv,af.cm]
theorem ai.cm (t:ai):t.tv.length=4:=rfl
theorem ah.wf (t:ah):mM t.tv:=by
 unfold ah.tv;exact yd (yd (mw (mw Cw)) t.arg.wf) (mw Cw)
theorem yi {α:Type} {sz:Nat} {f:α->List TV} (h1:∀a,(f a).length=sz) (h2:∀a,mM (f a)):∀l:List α,pS sz (l.map f)
 |[]=>by rw[List.map_nil,pS];trivial
 |a::l=>by rw[List.map_cons,pS];exact⟨h1 a,h2 a,yi h1 h2 l⟩
theorem ai.wf (t:ai):mM t.tv:=by
 unfold ai.tv;exact mw (Cv (yi (f:=fun s:List UInt8=>[TV.p (.s s)]) (fun _=>rfl) (fun _=>mw Cw) t.vars) (Cv (yi ah.cm ah.wf t.ctors) (mw Cw)))
theorem bb.wf (t:bb):mM t.tv:=by
 unfold bb.tv;exact Cv (yi ai.cm ai.wf t.types) t.body.wf
end Go.Proofs.YtjkbbnfdbfcebaaGreatDoor.Pg
namespace Go.Proofs.YtjkbbnfdbfcebaaGreatDoor.Qp
open Go.AM Mc Pg
theorem Env.lY {b u:Nat} {X:List AO} {ts:List TV} {cs:List AV} (h:Env b u X ts cs) (x:PV):Env b u X (ts++[.p x]) (cs++[.p x]):=by
 obtain⟨ids,k1,k2,k3,k4⟩:=h;refine⟨ids,?_,k2,by rw[k3,ng,nC,nC,nT];rfl,k4⟩;have:=vh k1 (bI.one (ib.pv X x));rwa[List.append_nil]at this
theorem Env.nlF {b u sz:Nat} {X:List AO} {ts:List TV} {cs:List AV} (h:Env b u X ts cs):Env b u X (.s sz []::ts) (.p .nl::cs):=by
 obtain⟨ids,k1,k2,k3,k4⟩:=h;exact⟨ids,bI.cons (ib.nl X sz) k1,k2,by rw[k3,nC,nT,nK,Nat.zero_add],k4⟩
theorem Env.adE {b u id sz ver:Nat} {X:List AO} {rows:List (List TV)} {rs:List (List AV)} {ts:List TV} {cs:List AV} (h:Env b u X (rows.flatten++ts) (rs.flatten++cs)) (hi:X[id]?=some (.rows sz ver rs)) (hu:u<=id) (hb:b<=id) (hl:rs.length=rows.length) (h1:∀r∈rows,r.length=sz) (h2:∀r∈rs,r.length=sz) (h0:rows≠[]):
  Env b (id+1) X (.s sz rows::ts) (.gs id ver 0 rs.length::cs):=by
 obtain⟨ids,k1,k2,k3,k4⟩:=h;obtain⟨c1,c2,i,j,e,rfl,h3,h4⟩:=iX k1;obtain⟨rfl,rfl⟩:=List.append_inj e (by rw[h3.len];exact qX hl h1 h2);refine⟨(id::i)++j,bI.cons ?_ h4,?_,?_,?_⟩
 ·rw[ib];exact .inr ⟨id,ver,rs,i,rfl,rfl,hi,py h3 hl h1 h2⟩
 ·rw[List.cons_append];exact List.nodup_cons.2 ⟨fun hm=>by have:=(k4 id hm).2;omega,k2⟩
 ·rw[ng,uq]at k3
  simp only[List.length_append,List.length_cons]at k3⊢;rw[nC,nT]
  cases rows with
  |nil=>exact(h0 rfl).elim
  |cons r l=>rw[nK];rw[nR]at k3;omega
 ·intro x hx
  rw[List.cons_append]at hx;rcases List.mem_cons.1 hx with rfl|h
  ·exact⟨hb,by omega⟩
  ·have:=k4 x h;exact⟨this.1,by omega⟩
theorem Ay {b u:Nat} {X:List AO} {ts:List TV} {cs:List AV} (h:Env b u X ts cs):∀l:List (List UInt8),Env b u X ((pz l).flatten++ts) ((l.map fun s=>[sV s]).flatten++cs)
 |[]=>h
 |s::l=>(Ay h l).pc (.s s)
theorem CE {b n idn Ya vn vc:Nat} {X:List AO} {vars:List (List UInt8)} {l:List ah} {rs:List (List AV)} {a:AV} {nm:List UInt8} {q:Int} (h:Env b n X (l.map ah.tv).flatten rs.flatten) (hc:X[Ya]?=some (.rows 7 vc rs)) (hic:n<=Ya) (hb:b<=n) (hl:rs.length=l.length) (hz:∀r∈rs,r.length=7) (h0:l≠[])
  (hv:(vars=[]/\a=.p .nl)\/(vars≠[]/\a=.gs idn vn 0 vars.length/\X[idn]?=some (.rows 1 vn (vars.map fun s=>[sV s]))/\n<=idn/\idn≠Ya)):
  ∃u,Env b u X (ai.tv ⟨nm,vars,l,q⟩) [sV nm,a,.gs Ya vc 0 rs.length,iV q]:=by
 have gd:∀r∈l.map ah.tv,r.length=7:=by intro r hr;obtain⟨c,_,rfl⟩:=List.mem_map.1 hr;exact ah.cm c
 rcases hv with⟨rfl,rfl⟩|⟨cX,rfl,h1,h2,h3⟩
 ·have h2:=(h.node hc hic (by omega) (by simpa using hl) gd hz (by simpa using h0)).nlF (sz:=1)
  exact⟨_,(h2.pc (.s nm)).lY (.i .i64 q)⟩
 ·have e0:(vars.map fun s=>[sV s]).length=vars.length:=by simp
  have h4:=Env.node2 (rows1:=pz vars) (rows2:=l.map ah.tv) (Ay h vars) h1 hc h2 hic hb h3 (by simp[pz]) (by intro r hr;unfold pz at hr;obtain⟨s,_,rfl⟩:=List.mem_map.1 hr;rfl) (by intro r hr;obtain⟨s,_,rfl⟩:=List.mem_map.1 hr;rfl) (by simpa[pz]using cX) (by simpa using hl) gd hz (by simpa using h0);rw[e0]at h4;exact⟨_,(h4.pc (.s nm)).lY (.i .i64 q)⟩
theorem S4 (nm vars l q):nC (ai.tv ⟨nm,vars,l,q⟩)=nK (pz vars)+nK (l.map ah.tv):=by simp[ai.tv,nC,nT]
theorem S5 (nm h a q):nC (ah.tv ⟨nm,h,a,q⟩)=nC a.tv:=by
 unfold ah.tv;rw[ng,ng];simp[nC,nT]
structure LB {α:Type} (pv:PS->AO) (T:List Tok) (e b n p:Nat) (K:List AO) (N:List Nat) (sz:Nat) (tv:α->List TV) (x':List UInt8) (item:PM α) (Rl:List α) (Rs:PS) (x:LG α):Prop where
 ok:Ok T e x.s
 ln:x.acc.length<=x.s.i
 fu:T.length-x.s.i<=x.j
 rl:x.acc++((item x.s).1::(many (aL T x') (bT item) x.j (item x.s).2).1)=Rl
 re:(many (aL T x') (bT item) x.j (item x.s).2).2=Rs
 hn:x.H.length=n
 kp:Kp b K x.H
 fr:∃M,Fr b x.H M/\nC (tv (item x.s).1)+nR ((many (aL T x') (bT item) x.j (item x.s).2).1.map tv)<=M
 env:Env b n (x.H.set p (pv x.s)++x.A) (x.acc.map tv).flatten x.rs.flatten
 len:x.rs.length=x.acc.length
 sz1:∀r∈x.rs,r.length=sz
 own:jr (x.H.set p (pv x.s)++x.A) x.a sz x.rs
 ids:∀id v o m,x.a=.gs id v o m->n<=id/\id-n∉N
 nm:∀k∈N,k<x.A.length
section
variable {α:Type} {pv:PS->AO} {T:List Tok} {e b n p sz:Nat} {K:List AO} {N:List Nat} {tv:α->List TV} {x':List UInt8} {item:PM α} {Rl:List α} {Rs:PS}
theorem LB.start {H A:List AO} {s:PS} {M:Nat} (hs:Ok T e s) (h:((item s).1::(many (aL T x') (bT item) T.length (item s).2).1,(many (aL T x') (bT item) T.length (item s).2).2)=(Rl,Rs)) (hn:H.length=n) (hk:Kp b K H) (hF:Fr b H M) (hM:nR (Rl.map tv)<=M) (hb:∀k∈N,k<A.length):LB pv T e b n p K N sz tv x' item Rl Rs ⟨T.length,s,[],[],.p .nl,H,A⟩:=by
 have h1:=congrArg Prod.fst h;have h2:=congrArg Prod.snd h;simp only at h1 h2;refine⟨hs,Nat.zero_le _,by simp only;omega,h1,h2,hn,hk,⟨M,hF,?_⟩,Env.nil _ _ _,rfl,by simp,.inl ⟨rfl,rfl⟩,(fun _ _ _ _ e=>by cases e),hb⟩;rw[<-h1]at hM;simpa[nR]using hM
theorem LB.stop {x:LG α} (h:LB pv T e b n p K N sz tv x' item Rl Rs x) {y:α} {s2:PS} (hm:item x.s=(y,s2)) (hg:aL T x' s2=false):x.acc++[y]=Rl/\s2=Rs:=by
 have h1:=h.rl;have h2:=h.re;rw[hm]at h1 h2;rw[kD hg]at h1 h2;exact⟨h1,h2⟩
theorem LB.room {x:LG α} (h:LB pv T e b n p K N sz tv x' item Rl Rs x) {y:α} {s2:PS} (hm:item x.s=(y,s2)):∃M,Fr b x.H M/\nC (tv y)+nR ((many (aL T x') (bT item) x.j s2).1.map tv)<=M:=by
 obtain⟨M,h1,h2⟩:=h.fr;rw[hm]at h2;exact⟨M,h1,h2⟩
theorem LB.EB {x:LG α} {s2:PS} {H1 A' A'':List AO} {id ver:Nat} {rs:List (List AV)} (ar:H1.length=n) (k1:(H1.set p (pv s2)++A')[id]?=some (.rows sz ver rs)) (k2:n<=id/\id-n∉N) (k3:∀(k:Nat) (o:AO),k∉N->A'[k]?=some o->A''[k]?=some o) (c:AO):(H1.set p c++A'')[id]?=some (.rows sz ver rs):=by
 obtain⟨q,hq⟩:=Nat.le.dest k2.1;subst hq;rw[az ar]at k1⊢;exact k3 _ _ (by have:=k2.2;rwa[Nat.add_sub_cancel_left]at this) k1
theorem LB.next (hT:bL T) {x:LG α} (h:LB pv T e b n p K N sz tv x' item Rl Rs x) {y:α} {s2:PS} (hm:item x.s=(y,s2)) (bD:Ok T e s2) (gH:x.s.i<=s2.i) (hg:aL T x' s2=true) {H1 A' A'':List AO} {M id ver:Nat} {cs:List AV} (ar:H1.length=n) (dV:Kp b x.H H1) (fB:Fr b H1 M) (hM:nR ((many (aL T x') (bT item) x.j s2).1.map tv)<=M)
  (cE:Env b n (H1.set p (pv (aI s2))++A'') ((x.acc.map tv).flatten++tv y) (x.rs.flatten++cs)) (gQ:cs.length=sz)
  (k1:(H1.set p (pv s2)++A')[id]?=some (.rows sz ver (x.rs++[cs]))) (k2:n<=id/\id-n∉N) (k3:∀(k:Nat) (o:AO),k∉N->A'[k]?=some o->A''[k]?=some o) (k4:∀k∈N,k<A''.length):
  LB pv T e b n p K N sz tv x' item Rl Rs ⟨x.j-1,aI s2,x.acc++[y],x.rs++[cs],.gs id ver 0 (x.rs.length+1),H1,A''⟩:=by
 have hk:=cH hg;have hfu:=h.fu;have hix:=h.ok.1;obtain⟨j',hj⟩:∃j',x.j=j'+1:=⟨x.j-1,by omega⟩;have h1:=h.rl;have h2:=h.re;rw[hm]at h1 h2;simp only[hj,many,if_pos hg]at h1 h2 hM;have e1:∀s,bT item s=item (aI s):=fun _=>rfl
 simp only[e1]at h1 h2 hM;have FJ:=h.ln;refine⟨bD.aI hT hk.2,by simp[aI];omega,by simp[aI];omega,by simp only[hj,Nat.add_sub_cancel];simpa using h1,by simp only[hj,Nat.add_sub_cancel];exact h2,ar,h.kp.trans dV,⟨M,fB,by simp only[hj,Nat.add_sub_cancel];simpa[nR]using hM⟩,by simpa using cE,by simp[h.len],?_,.inr ⟨id,ver,by simp,LB.EB (x:=x) ar k1 k2 k3 _⟩,(fun jm v o m' e=>by cases e;exact k2),k4⟩;intro r hr;rcases List.mem_append.1 hr with hr|hr
 ·exact h.sz1 r hr
 ·simp at hr;rw[hr];exact gQ
end
end Go.Proofs.YtjkbbnfdbfcebaaGreatDoor.Qp
namespace Go.Proofs.YtjkbbnfdbfcebaaGreatDoor.Qp
open Go.AM Mc Pg
def S6 (s:List UInt8):List TV:=[.p (.s s)]
theorem S7:∀l:List (List UInt8),nR (l.map S6)=0
 |[]=>by simp[nR]
 |a::l=>by rw[List.map_cons,nR,S7 l];simp[S6,nC,nT]
section
variable {T:List Tok} {most e:Nat} (hT:bL T) (aO:T.length<=1073741825)
include hT aO
theorem Yb {ty:PM af} (hP:iu T most e 116 [iV 1] ty af.tv) (sP:ab T ty):iu T most e 54 [] (jg T T.length ty) ai.tv:=by
 have sC:=Pg.j8 hT sP;have h5:(5:Int)≠8:=by decide
 have o5:eN T (bB T 5):=cC T h5;refine ig fun p K b n s hn hp hb hs hF=>?_
 have bW:p<K.length:=by omega
 refine call54 (by simp) ?_;simp only[go_sem,simprocAttr,az hn,aF hn,aE hn,aG hn,hn,hn,So,abg];refine U (lE K _ p s bW hs) ?_;simp only[go_sem,simprocAttr,az hn,aF hn,aE hn,aG hn,hn,hn,Tok.cells];unfold jg at hF⊢;rw[bN,da]at hF⊢;generalize (aJ T s).p=tp at *;refine U (ir hT aO [[116,121,112,101]] (by decide) bW hs (by omega) (fun c=>by rw[az hn];rfl)) ?_;simp only[go_sem,simprocAttr,az hn,aF hn,aE hn,aG hn,hn,hn,gh];have bG:=hs.step (aK hT [116,121,112,101]);generalize aX T [116,121,112,101] s=s1 at *;rcases hV:many (bB T 5) (cZ T 5) T.length s1 with⟨vs,s2⟩
 have bD:=bG.run (ab.many o5 (ab.word hT h5) T.length);rw[hV]at bD;simp only at bD;rcases fF:cZ T 3 s2 with⟨nm,s3⟩
 have eL:=bD.run (ab.word hT (k:=3) (by decide));rw[fF]at eL;simp only at eL;have nJ:=eL.step (aK hT [61]);rcases kE:fS T ty (aX T [61] s3)with⟨c0,s5⟩
 rcases hR:many (aL T [124]) (bT (fS T ty)) T.length s5 with⟨Rl,Rs⟩
 simp only[aP,da,ie,hV,fF,kE,hR]at hF⊢;have pV:nR ((c0::Rl).map ah.tv)<=nC (ai.tv ⟨nm,vs,c0::Rl,tp⟩):=by rw[S4];have:=FN ((c0::Rl).map ah.tv);omega
 generalize XQ:nC (ai.tv ⟨nm,vs,c0::Rl,tp⟩)=NN at hF pV
 -- the variables
 refine⟨LG (List UInt8),[0,2,3],fun x st=>(LO (db T most) T e b n p K [0,1] 1 S6 (bB T 5) (cZ T 5) vs s2 x/\x.H=K/\x.rs=(x.acc.map fun s=>[sV s])/\x.A[0]?=some (.var [sV [],.p .nl,.p .nl,iV 0])/\x.A[1]?=some (.var [sV [],x.a,.p .nl,iV tp])/\(x.acc=[]->x.a=.p .nl))/\
   st=⟨[(0,.ptr p 0),(2,.ptr n 0),(3,.ptr (n+1) 0)],[],x.H.set p (db T most x.s)++x.A⟩,fun x=>T.length-x.s.i,
  ⟨⟨T.length,s1,[],[],.p .nl,K,[.var [sV [],.p .nl,.p .nl,iV 0],.var [sV [],.p .nl,.p .nl,iV tp],.rows 1 0 [[sV [116,121,112,101]]]]⟩,?_⟩,?_⟩
 ·refine⟨⟨LO.start bG hV hn Kp.rfl hF (by rw[S7];exact Nat.zero_le _) (by simp),rfl,rfl,rfl,rfl,fun _=>rfl⟩,?_⟩
  simp only[go_sem,simprocAttr,az hn,aF hn,aE hn,aG hn,hn,hn]
 ·rintro⟨j,s',acc,rs,a,HH,A⟩ _ ⟨⟨hL,hHK,kN,i0,i1,CD⟩,rfl⟩
  simp only at hHK kN i0 i1 CD;subst hHK;have b9:=hL.ok;simp only at b9⊢;simp only[go_sem,simprocAttr,az hn,aF hn,aE hn,aG hn,hn,hn];refine U (iY 5 HH _ p s' bW b9) ?_;cases hg:bB T 5 s';rotate_left
  ·have hsw:=b9.aI hT (show(aJ T s').k≠8 by have:=(qF hg).2;omega)
   have hw:cZ T 5 s'=((aJ T s').t,aI s'):=by unfold cZ;rw[if_pos hg]
   obtain⟨M,oH,hM⟩:=hL.room o5 hg hw;simp only[go_sem,simprocAttr,az hn,aF hn,aE hn,aG hn,hn,hn,hg];refine⟨_,gS hn _ _ _,?_⟩;simp only[go_sem,simprocAttr,az hn,aF hn,aE hn,aG hn,hn,hn,i1];refine aR _ _ (by simp) (gS hn _ _ _) ((wX aO 5).chain bW b9) ?_;rw[hw];simp only[go_sem,simprocAttr,az hn,aF hn,aE hn,aG hn,hn,hn,gq,fU,sU,qG,Nat.add_zero];refine⟨by intro r hr;simp at hr;subst hr;rfl,?_⟩;refine hL.app hn (fun k o h=>ay h _) aO (by decide) ?_;intro id ver A' m1 m2 m3;have j0:=(m3 0 (by decide)).trans i0;have j1:=(m3 1 (by decide)).trans i1;simp only[go_sem,simprocAttr,az hn,aF hn,aE hn,aG hn,hn,hn,j1];exact⟨⟨j-1,aI s',acc++[(aJ T s').t],rs++[[sV (aJ T s').t]],.gs id ver 0 (rs.length+1),HH,A'.set 1 (.var [sV [],.gs id ver 0 (rs.length+1),.p .nl,iV tp])⟩,⟨⟨hL.next o5 hg hw hsw (by show s'.i<s'.i+1;omega) hn Kp.rfl oH (by have:=hM;omega) ((hL.env.base hn hp).lY _) rfl m1 m2 (dO (by decide)) (by intro k hk;rw[List.length_set];simp at hk;rcases hk with rfl|rfl;exact bj j0;exact bj j1),rfl,by rw[kN];simp,aU j0 (by decide),bg j1,fun h=>by simp at h⟩,rfl⟩,by have:=b9.1;show T.length-(s'.i+1)<T.length-s'.i;omega⟩
  ·obtain⟨ha,hx⟩:=hL.stop hg
   simp only at ha hx;subst hx;simp only[go_sem,simprocAttr,az hn,aF hn,aE hn,aG hn,hn,hn,hg];refine U (wX aO 3 HH _ p s' bW b9) ?_;rw[fF];simp only[go_sem,simprocAttr,az hn,aF hn,aE hn,aG hn,hn,hn,i1];refine U (ir hT aO [[61]] (by decide) bW eL (by omega) (fun c=>by rw[az hn,MN];rfl)) ?_;simp only[go_sem,simprocAttr,az hn,aF hn,aE hn,aG hn,hn,hn,gh]
   have H9:∃qn vn,qn<A.length/\(vs≠[]->qn∉[0,1]/\A[qn]?=some (.rows 1 vn (vs.map fun s=>[sV s])))/\((vs=[]/\a=.p .nl)\/(vs≠[]/\a=.gs (n+qn) vn 0 vs.length)):=by
    rcases Decidable.em (vs=[])with h0|h0
    ·exact⟨0,0,bj i0,fun h=>(h h0).elim,.inl ⟨h0,CD (by rw[ha];exact h0)⟩⟩
    ·rcases hL.own with⟨h1,h2⟩|⟨id,ver,e1,h1⟩
     ·simp only at h2
      rw[kN,ha]at h2;exact(h0 (by simpa using h2)).elim
     ·simp only at e1 h1
      obtain⟨g1,g2⟩:=hL.ids _ _ _ _ e1;obtain⟨q,rfl⟩:=Nat.le.dest g1;rw[Nat.add_sub_cancel_left]at g2;rw[az hn,kN,ha]at h1;rw[kN,ha,List.length_map]at e1;exact⟨q,ver,bj h1,fun _=>⟨g2,h1⟩,.inr ⟨h0,e1⟩⟩
   obtain⟨qn,vn,hql,Ia,Of⟩:=H9;have w7:vs≠[]->qn∉[0,1]:=fun h=>(Ia h).1
   have mS:∀o B,((A.set 1 o)++B)[0]?=some (.var [sV [],.p .nl,.p .nl,iV 0]):=fun o B=>ay (aU i0 (by decide)) B
   have wZ:∀o B,((A.set 1 o)++B)[1]?=some o:=fun o B=>ay (bg i1) B
   have S8:∀o B,vs≠[]->((A.set 1 o)++B)[qn]?=some (.rows 1 vn (vs.map fun s=>[sV s])):=fun o B h=>ay (aU (Ia h).2 (by rintro rfl;exact w7 h (by simp))) B
   refine⟨LG ah,[0,2,3],fun x st=>(LB (db T most) T e b n p HH [0,1,qn] 7 ah.tv [124] (fS T ty) (c0::Rl) Rs x/\x.A[0]?=some (.var [sV [],.p .nl,.p .nl,iV 0])/\x.A[1]?=some (.var [sV nm,a,x.a,iV tp])/\(vs≠[]->x.A[qn]?=some (.rows 1 vn (vs.map fun s=>[sV s]))))/\
     st=⟨[(0,.ptr p 0),(2,.ptr n 0),(3,.ptr (n+1) 0)],[],x.H.set p (db T most x.s)++x.A⟩,fun x=>T.length-x.s.i,
    ⟨⟨T.length,aX T [61] s3,[],[],.p .nl,HH,(A.set 1 (.var [sV nm,a,.p .nl,iV tp]))++[.rows 1 0 [[sV [61]]]]⟩,?_⟩,?_⟩
   ·exact⟨⟨LB.start nJ (by rw[kE,hR]) hn Kp.rfl hF pV (by intro k hk;simp at hk⊢;have:=bj i1;rcases hk with rfl|rfl|rfl<;>omega),mS _ _,wZ _ _,S8 _ _⟩,rfl⟩
   ·rintro x _ ⟨⟨hL,k0,k1,kq⟩,rfl⟩
    have kh:p<x.H.length:=by rw[hL.hn];omega
    simp only[go_sem,simprocAttr,az hL.hn,aF hL.hn,aE hL.hn,aG hL.hn,hL.hn,hL.hn];refine U (lE x.H _ p x.s kh hL.ok) ?_;simp only[go_sem,simprocAttr,az hL.hn,aF hL.hn,aE hL.hn,aG hL.hn,hL.hn,hL.hn,Tok.cells];refine U (wX aO 4 x.H _ p x.s kh hL.ok) ?_;rcases hw:cZ T 4 x.s with⟨cn,s6⟩
    have yb:=hL.ok.run (ab.word hT (k:=4) (by decide));rw[hw]at yb;simp only at yb;simp only[go_sem,simprocAttr,az hL.hn,aF hL.hn,aE hL.hn,aG hL.hn,hL.hn,hL.hn];generalize Ng:(aJ T x.s).p=cp;refine U (iq aO [111,102] x.H _ p s6 kh yb) ?_;unfold dm;cases CF:aL T [111,102] s6
    ·have hm:fS T ty x.s=(⟨cn,false,Du,cp⟩,s6):=by unfold fS;rw[bN,aP,hw,aZ CF,Ng];rfl
     obtain⟨M,Oe,hM⟩:=hL.room hm;obtain⟨H8,hH8⟩:∃H8,H8=x.H:=⟨_,rfl⟩;have cy:H8.length=n:=by rw[hH8];exact hL.hn
     have HX:Kp b x.H H8:=by rw[hH8];exact Kp.rfl
     have sZ:=yb
     have Dx:∀A',Env b n (x.H.set p (db T most s6)++A') ((x.acc.map ah.tv).flatten++ah.tv ⟨cn,false,Du,cp⟩) (x.rs.flatten++[sV cn,.p (.b false),iV 0,sV [],iV 0,.p .nl,iV cp]):=fun A'=>by
      have h1:=(((((((hL.env.base (c':=db T most s6) (A':=A') hL.hn hp).lY (.s cn)).lY (.b false)).lY (.i .i64 0)).lY (.s [])).lY (.i .i64 0)).nl (sz:=4)).lY (.i .i64 cp);simpa[ah.tv,Du,af.tv,af.mR,List.append_assoc]using h1
     simp only[go_sem,simprocAttr,az hL.hn,aF hL.hn,aE hL.hn,aG hL.hn,hL.hn,hL.hn,CF];rw[<-hH8]at Dx Oe⊢;generalize hss:s6=s8 at *;have HW:x.s.i<=s8.i:=by have:=(sC x.s hL.ok.1).1;rw[hm]at this;exact this
     have HY:p<H8.length:=by omega
     simp only[go_sem,simprocAttr,az cy,aF cy,aE cy,aG cy,cy,cy,gq,fU,sU,qG,Nat.add_zero,ay k1 _];refine⟨by intro r hr;simp at hr;subst hr;rfl,?_⟩;refine KQ hL.hn cy hL.own hL.ids hL.nm (by rw[hL.len];have:=hL.ln;have:=hL.ok.1;omega) (fun k o h=>ay h _) (by decide) ?_;intro id ver A' w1 w2 w3;have j0:=(w3 0 (by simp)).trans k0;have j1:=(w3 1 (by simp)).trans k1;have hz:∀o,(A'.set 1 o)[1]?=some o:=fun o=>bg j1
     have jH:∀o,(A'.set 1 o)[0]?=some (.var [sV [],.p .nl,.p .nl,iV 0]):=fun o=>aU j0 (by decide)
     have jq:vs≠[]->∀o,(A'.set 1 o)[qn]?=some (.rows 1 vn (vs.map fun s=>[sV s])):=fun h o=>aU ((w3 qn (by simp)).trans (kq h)) (by rintro rfl;exact w7 h (by simp))
     simp only[go_sem,simprocAttr,az cy,aF cy,aE cy,aG cy,cy,cy,j1];refine U (iq aO [124] H8 _ p s8 HY sZ) ?_;unfold dm;cases hg:aL T [124] s8
     ·obtain⟨S9,mf⟩:=hL.stop hm hg
      subst mf;simp only[go_sem,simprocAttr,az cy,aF cy,aE cy,aG cy,cy,cy,hg,Bool.not_true,Bool.not_false];refine U (ir hT aO [[59]] (by decide) HY sZ (by omega) (fun c=>by rw[az cy,MN];rfl)) ?_;have jQ:∀o B,((A'.set 1 o)++B)[1]?=some o:=fun o B=>ay (hz o) B
      have wQ:∀o B,((A'.set 1 o)++B)[0]?=some (.var [sV [],.p .nl,.p .nl,iV 0]):=fun o B=>ay (jH o) B
      have KS:∀o B o',(((A'.set 1 o)++B).set 0 o')[0]?=some o':=fun o B o'=>bg (wQ o B)
      simp only[go_sem,simprocAttr,az cy,aF cy,aE cy,aG cy,cy,cy,gh,jQ,wQ,KS]
      have KU:=fun c=>LB.EB (x:=x) (A'':=((A'.set 1 (.var [sV nm,a,.gs id ver 0 (x.rs.length+1),iV tp]))++[AO.rows 1 0 [[sV [59]]]]).set 0 (.var [sV nm,a,.gs id ver 0 (x.rs.length+1),iV tp])) cy w1 w2 (fun k o hk ho=>by
       simp at hk;rw[List.getElem?_set_ne (by omega)];exact ay (aU ho (by omega)) _) c
      have e9:(x.rs++[[sV cn,.p (.b false),iV 0,sV [],iV 0,.p .nl,iV cp]]).length=x.rs.length+1:=by simp
      obtain⟨u,ox⟩:=CE (nm:=nm) (q:=tp) (idn:=n+qn) (vn:=vn) (a:=a) (vars:=vs) (l:=c0::Rl) (rs:=x.rs++[[sV cn,.p (.b false),iV 0,sV [],iV 0,.p .nl,iV cp]]) (by
       have:=Env.base (A':=((A'.set 1 (.var [sV nm,a,.gs id ver 0 (x.rs.length+1),iV tp]))++[AO.rows 1 0 [[sV [59]]]]).set 0 (.var [sV nm,a,.gs id ver 0 (x.rs.length+1),iV tp])) (c':=db T most (aX T [59] s8)) (Dx []) cy hp;rw[<-S9]
       simpa[List.append_assoc]using this) (KU _) w2.1 hb (by rw[<-S9];simp[hL.len]) (by intro r hr;rcases List.mem_append.1 hr with hr|hr;exact hL.sz1 r hr;simp at hr;subst hr;rfl) (by simp) (by
       rcases Of with⟨h1,h2⟩|⟨h1,h2⟩
       ·exact .inl ⟨h1,h2⟩
       ·refine .inr ⟨h1,h2,?_,Nat.le_add_right _ _,?_⟩
        ·rw[az cy,List.getElem?_set_ne (by rintro h;exact w7 h1 (by simp[<-h]))];exact ay (jq h1 _) _
        ·rintro rfl
         have:=w2.2;rw[Nat.add_sub_cancel_left]at this;exact this (by simp))
      rw[e9]at ox;exact⟨_,H8,_,_,rfl,rfl,hL.kp.trans HX,ox⟩
     ·simp only[go_sem,simprocAttr,az cy,aF cy,aE cy,aG cy,cy,cy,hg,Bool.not_true,Bool.not_false]
      exact⟨⟨x.j-1,aI s8,x.acc++[⟨cn,false,Du,cp⟩],x.rs++[[sV cn,.p (.b false),iV 0,sV [],iV 0,.p .nl,iV cp]],.gs id ver 0 (x.rs.length+1),H8,A'.set 1 (.var [sV nm,a,.gs id ver 0 (x.rs.length+1),iV tp])⟩,
       ⟨⟨hL.next hT hm sZ HW hg cy HX Oe (by omega) (by
        have:=Env.base (A':=A'.set 1 (.var [sV nm,a,.gs id ver 0 (x.rs.length+1),iV tp])) (c':=db T most (aI s8)) (Dx []) cy hp
        exact this) rfl w1 w2 (dO (by simp)) (fun k hk=>by
         have h1:=hL.nm k hk;rw[List.length_set];exact bj ((w3 k hk).trans (List.getElem?_eq_getElem h1))),jH _,hz _,fun h=>jq h _⟩,rfl⟩,by have h1:=cH hg;have h2:=sZ.1;have h3:=hL.ok.1;show T.length-(s8.i+1)<T.length-x.s.i;omega⟩
    ·have dJ:=yb.aI hT (cH CF).2
     rcases F1:ty (aI s6)with⟨⟨k7,n7,q7,l7⟩,s8⟩
     have sZ:=dJ.run sP;rw[F1]at sZ;simp only at sZ;have hm:fS T ty x.s=(⟨cn,true,.mk k7 n7 q7 l7,cp⟩,s8):=by unfold fS;rw[bN,aP,hw,aS CF,aP,F1,Ng];rfl
     obtain⟨M,oH,hM⟩:=hL.room hm;rw[S5]at hM;obtain⟨H8,cs8,cy,HX,Oe,cl8,_,SX,call8⟩:=(hP p).use af.wf F1 hL.hn hp hb dJ oH (by omega);have Od:=fun A'=>SX _ _ [] A' (((hL.env.base (c':=db T most (aI s6)) (A':=[]) hL.hn hp).lY (.s cn)).lY (.b true))
     obtain⟨c8,rfl⟩:=(Od []).CC (by rw[((hL.env.lY (.s cn)).lY (.b true)).len])
     have Dx:∀A',Env b n (H8.set p (db T most s8)++A') ((x.acc.map ah.tv).flatten++ah.tv ⟨cn,true,.mk k7 n7 q7 l7,cp⟩) (x.rs.flatten++[sV cn,.p (.b true),iV k7,sV n7,iV q7,c8,iV cp]):=fun A'=>by
      have h1:=(Od A').lY (.i .i64 cp);simpa[ah.tv,List.append_assoc]using h1
     simp only[go_sem,simprocAttr,az hL.hn,aF hL.hn,aE hL.hn,aG hL.hn,hL.hn,hL.hn,CF];refine U (call8 _ trivial) ?_;have HW:x.s.i<=s8.i:=by have:=(sC x.s hL.ok.1).1;rw[hm]at this;exact this
     have HY:p<H8.length:=by omega
     simp only[go_sem,simprocAttr,az cy,aF cy,aE cy,aG cy,cy,cy,gq,fU,sU,qG,Nat.add_zero,ay k1 _];refine⟨by intro r hr;simp at hr;subst hr;rfl,?_⟩;refine KQ hL.hn cy hL.own hL.ids hL.nm (by rw[hL.len];have:=hL.ln;have:=hL.ok.1;omega) (fun k o h=>ay h _) (by decide) ?_;intro id ver A' w1 w2 w3;have j0:=(w3 0 (by simp)).trans k0;have j1:=(w3 1 (by simp)).trans k1;have hz:∀o,(A'.set 1 o)[1]?=some o:=fun o=>bg j1
     have jH:∀o,(A'.set 1 o)[0]?=some (.var [sV [],.p .nl,.p .nl,iV 0]):=fun o=>aU j0 (by decide)
     have jq:vs≠[]->∀o,(A'.set 1 o)[qn]?=some (.rows 1 vn (vs.map fun s=>[sV s])):=fun h o=>aU ((w3 qn (by simp)).trans (kq h)) (by rintro rfl;exact w7 h (by simp))
     simp only[go_sem,simprocAttr,az cy,aF cy,aE cy,aG cy,cy,cy,j1];refine U (iq aO [124] H8 _ p s8 HY sZ) ?_;unfold dm;cases hg:aL T [124] s8
     ·obtain⟨S9,mf⟩:=hL.stop hm hg
      subst mf;simp only[go_sem,simprocAttr,az cy,aF cy,aE cy,aG cy,cy,cy,hg,Bool.not_true,Bool.not_false];refine U (ir hT aO [[59]] (by decide) HY sZ (by omega) (fun c=>by rw[az cy,MN];rfl)) ?_;have jQ:∀o B,((A'.set 1 o)++B)[1]?=some o:=fun o B=>ay (hz o) B
      have wQ:∀o B,((A'.set 1 o)++B)[0]?=some (.var [sV [],.p .nl,.p .nl,iV 0]):=fun o B=>ay (jH o) B
      have KS:∀o B o',(((A'.set 1 o)++B).set 0 o')[0]?=some o':=fun o B o'=>bg (wQ o B)
      simp only[go_sem,simprocAttr,az cy,aF cy,aE cy,aG cy,cy,cy,gh,jQ,wQ,KS]
      have KU:=fun c=>LB.EB (x:=x) (A'':=((A'.set 1 (.var [sV nm,a,.gs id ver 0 (x.rs.length+1),iV tp]))++[AO.rows 1 0 [[sV [59]]]]).set 0 (.var [sV nm,a,.gs id ver 0 (x.rs.length+1),iV tp])) cy w1 w2 (fun k o hk ho=>by
       simp at hk;rw[List.getElem?_set_ne (by omega)];exact ay (aU ho (by omega)) _) c
      have e9:(x.rs++[[sV cn,.p (.b true),iV k7,sV n7,iV q7,c8,iV cp]]).length=x.rs.length+1:=by simp
      obtain⟨u,ox⟩:=CE (nm:=nm) (q:=tp) (idn:=n+qn) (vn:=vn) (a:=a) (vars:=vs) (l:=c0::Rl) (rs:=x.rs++[[sV cn,.p (.b true),iV k7,sV n7,iV q7,c8,iV cp]]) (by
       have:=Env.base (A':=((A'.set 1 (.var [sV nm,a,.gs id ver 0 (x.rs.length+1),iV tp]))++[AO.rows 1 0 [[sV [59]]]]).set 0 (.var [sV nm,a,.gs id ver 0 (x.rs.length+1),iV tp])) (c':=db T most (aX T [59] s8)) (Dx []) cy hp;rw[<-S9]
       simpa[List.append_assoc]using this) (KU _) w2.1 hb (by rw[<-S9];simp[hL.len]) (by intro r hr;rcases List.mem_append.1 hr with hr|hr;exact hL.sz1 r hr;simp at hr;subst hr;rfl) (by simp) (by
       rcases Of with⟨h1,h2⟩|⟨h1,h2⟩
       ·exact .inl ⟨h1,h2⟩
       ·refine .inr ⟨h1,h2,?_,Nat.le_add_right _ _,?_⟩
        ·rw[az cy,List.getElem?_set_ne (by rintro h;exact w7 h1 (by simp[<-h]))];exact ay (jq h1 _) _
        ·rintro rfl
         have:=w2.2;rw[Nat.add_sub_cancel_left]at this;exact this (by simp))
      rw[e9]at ox;exact⟨_,H8,_,_,rfl,rfl,hL.kp.trans HX,ox⟩
     ·simp only[go_sem,simprocAttr,az cy,aF cy,aE cy,aG cy,cy,cy,hg,Bool.not_true,Bool.not_false]
      exact⟨⟨x.j-1,aI s8,x.acc++[⟨cn,true,.mk k7 n7 q7 l7,cp⟩],x.rs++[[sV cn,.p (.b true),iV k7,sV n7,iV q7,c8,iV cp]],.gs id ver 0 (x.rs.length+1),H8,A'.set 1 (.var [sV nm,a,.gs id ver 0 (x.rs.length+1),iV tp])⟩,
       ⟨⟨hL.next hT hm sZ HW hg cy HX Oe (by omega) (by
        have:=Env.base (A':=A'.set 1 (.var [sV nm,a,.gs id ver 0 (x.rs.length+1),iV tp])) (c':=db T most (aI s8)) (Dx []) cy hp
        exact this) rfl w1 w2 (dO (by simp)) (fun k hk=>by
         have h1:=hL.nm k hk;rw[List.length_set];exact bj ((w3 k hk).trans (List.getElem?_eq_getElem h1))),jH _,hz _,fun h=>jq h _⟩,rfl⟩,by have h1:=cH hg;have h2:=sZ.1;have h3:=hL.ok.1;show T.length-(s8.i+1)<T.length-x.s.i;omega⟩
end
theorem Ta (ds:List ai) (ex:aa):nC (bb.tv ⟨ds,ex⟩)=nK (ds.map ai.tv)+nC ex.tv:=by simp[bb.tv,nC,nT]
section
variable {T:List Tok} {most e:Nat} (hT:bL T) (aO:T.length<=1073741825)
include hT aO
theorem Ib {ty:PM af} (kX:ab T ty) {s:PS} (hi:s.i<T.length) (hg:aL T [116,121,112,101] s=true):s.i<(jg T T.length ty s).2.i:=by
 unfold jg;rw[bN,da];have ew:aX T [116,121,112,101] s=aI s:=by unfold aX;rw[if_pos hg]
 rw[ew];generalize (aJ T s).p=tp;refine(gU.aI hT (f:=fun s'=>((aH (many (bB T 5) (cZ T 5) T.length) fun vs=>aH (cZ T 3) fun n=>cz (aX T [61])<|
 aH (fS T ty) fun c=>aH (many (aL T [124]) (bT (fS T ty)) T.length) fun cs=>cz (aX T [59])<|aT (ai.mk n vs (c::cs) tp)) s').2) ?_ hi (cH hg).2).1
 exact ab.bind (ab.many (cC T (by decide)) (ab.word hT (by decide)) _) fun _=>ab.bind (ab.word hT (by decide)) fun _=>ab.step (aK hT _)<|ab.bind (j8 hT kX) fun _=>ab.bind (ab.gp hT (aB T _) (j8 hT kX) _) fun _=>ab.step (aK hT _) (ab.ret _)
theorem Yc {ty:PM af} {ex:PM aa} (hP:iu T most e 116 [iV 1] ty af.tv) (sP:ab T ty) (hX:iu T most e 55 [iV 1] ex aa.tv) (sX:ab T ex):iu T most e 20 [] (pj T T.length ty ex) bb.tv:=by
 have hD:=Yb hT aO hP sP;have sD:=Pg.ug (N:=T.length) hT sP;have oT:eN T (aL T [116,121,112,101]):=aB T _;refine ig fun p K b n s hn hp hb hs hF=>?_
 have bW:p<K.length:=by omega
 refine call20 (by simp) ?_;simp only[go_sem,simprocAttr,az hn,aF hn,aE hn,aG hn,hn,hn,Sf,abe];unfold pj at hF⊢;rcases hV:many (aL T [116,121,112,101]) (jg T T.length ty) T.length s with⟨ds,s2⟩
 rcases kE:ex s2 with⟨⟨k5,n5,u5,t5,q5,l5,m5⟩,s5⟩
 simp only[aP,da,ie,hV,kE]at hF⊢;have pV:nR (ds.map ai.tv)+nC (aa.tv (.mk k5 n5 u5 t5 q5 l5 m5))<=nC (bb.tv ⟨ds,.mk k5 n5 u5 t5 q5 l5 m5⟩):=by rw[Ta];have:=FN (ds.map ai.tv);omega
 generalize XQ:nC (bb.tv ⟨ds,.mk k5 n5 u5 t5 q5 l5 m5⟩)=NN at hF pV
 refine⟨LG ai×Nat,[0,2,3],fun x st=>(LO (db T most) T e b n p K [0,1] 4 ai.tv (aL T [116,121,112,101]) (jg T T.length ty) ds s2 x.1/\x.1.A[0]?=some (.var [.p .nl,iV 0,sV [],iV 0,sV [],iV 0,.p .nl,.p .nl])/\x.1.A[1]?=some (.var [x.1.a,iV 0,sV [],iV 0,sV [],iV 0,.p .nl,.p .nl])/\(x.1.acc=[]->x.1.a=.p .nl)/\Fr b x.1.H x.2/\nR ((many (aL T [116,121,112,101]) (jg T T.length ty) x.1.j x.1.s).1.map ai.tv)+nC (aa.tv (.mk k5 n5 u5 t5 q5 l5 m5))<=x.2)/\
   st=⟨[(0,.ptr p 0),(2,.ptr n 0),(3,.ptr (n+1) 0)],[],x.1.H.set p (db T most x.1.s)++x.1.A⟩,fun x=>T.length-x.1.s.i,
  ⟨(⟨T.length,s,[],[],.p .nl,K,[.var [.p .nl,iV 0,sV [],iV 0,sV [],iV 0,.p .nl,.p .nl],.var [.p .nl,iV 0,sV [],iV 0,sV [],iV 0,.p .nl,.p .nl]]⟩,NN),?_⟩,?_⟩
 ·refine⟨⟨LO.start hs hV hn Kp.rfl hF (by omega) (by simp),rfl,rfl,fun _=>rfl,hF,by simp only[hV];omega⟩,?_⟩
  simp only[go_sem,simprocAttr,az hn,aF hn,aE hn,aG hn,hn,hn]
 ·rintro⟨x,M⟩ _ ⟨⟨hL,i0,i1,CD,oH,hM⟩,rfl⟩
  simp only at hL i0 i1 CD oH hM⊢;have kh:p<x.H.length:=by rw[hL.hn];omega
  simp only[go_sem,simprocAttr,az hL.hn,aF hL.hn,aE hL.hn,aG hL.hn,hL.hn,hL.hn];refine U (ur [116,121,112,101] x.H _ p x.s kh hL.ok) ?_;cases hg:aL T [116,121,112,101] x.s
  ·obtain⟨ha,hx⟩:=hL.stop hg
   subst hx;rw[kD hg]at hM;simp only[List.map_nil,nR,Nat.zero_add]at hM;simp only[go_sem,simprocAttr,az hL.hn,aF hL.hn,aE hL.hn,aG hL.hn,hL.hn,hL.hn,hg];obtain⟨H5,XW,cM,F0,Ob,XX,_,yg,call5⟩:=(hX p).use aa.wf kE hL.hn hp hb hL.ok oH hM;have w6:=fun A'=>yg _ _ x.A A' hL.env
   obtain⟨c5,b5,rfl⟩:=(w6 []).fH hL.env.len;refine U (call5 _ trivial) ?_;have hp5:p<H5.length:=by omega
   have kR:=hL.ok.run sX;rw[kE]at kR;simp only at kR;simp only[go_sem,simprocAttr,az cM,aF cM,aE cM,aG cM,cM,cM,i1];refine U (agA H5 _ p s5 hp5 kR) ?_;have hz:∀o,(x.A.set 1 o)[1]?=some o:=fun o=>bg i1
   have jH:∀o,(x.A.set 1 o)[0]?=some (.var [.p .nl,iV 0,sV [],iV 0,sV [],iV 0,.p .nl,.p .nl]):=fun o=>aU i0 (by decide)
   have rQ:∀o o',((x.A.set 1 o).set 0 o')[0]?=some o':=fun o o'=>bg (jH o)
   simp only[go_sem,simprocAttr,az cM,aF cM,aE cM,aG cM,cM,cM,hz,jH,rQ]
   have ox:∃u,Env b u (H5.set p (db T most (iU T s5))++(x.A.set 1 (.var [x.a,iV k5,sV n5,iV u5,sV t5,iV q5,c5,b5])).set 0 (.var [x.a,iV k5,sV n5,iV u5,sV t5,iV q5,c5,b5])) (bb.tv ⟨ds,.mk k5 n5 u5 t5 q5 l5 m5⟩) [x.a,iV k5,sV n5,iV u5,sV t5,iV q5,c5,b5]:=by
    by_cases h0:ds=[]
    ·have hE:=(w6 []).base (c':=db T most (iU T s5)) (A':=(x.A.set 1 (.var [x.a,iV k5,sV n5,iV u5,sV t5,iV q5,c5,b5])).set 0 (.var [x.a,iV k5,sV n5,iV u5,sV t5,iV q5,c5,b5])) cM hp
     have hl:=hL.len;rw[ha,h0]at hl;rw[ha,h0,List.length_eq_zero_iff.1 hl]at hE;subst h0;rw[CD ha]at hE⊢;exact⟨_,Env.nlF (by simpa using hE)⟩
    ·rcases hL.own with⟨h1,h2⟩|⟨id,ver,e1,h1⟩
     ·have hl:=hL.len;rw[h2,ha]at hl;exact(h0 (List.length_eq_zero_iff.1 hl.symm)).elim
     ·obtain⟨g1,g2⟩:=hL.ids _ _ _ _ e1
      obtain⟨q,rfl⟩:=Nat.le.dest g1;rw[Nat.add_sub_cancel_left]at g2;rw[az hL.hn]at h1;have hE:=(w6 []).base (c':=db T most (iU T s5)) (A':=(x.A.set 1 (.var [x.a,iV k5,sV n5,iV u5,sV t5,iV q5,c5,b5])).set 0 (.var [x.a,iV k5,sV n5,iV u5,sV t5,iV q5,c5,b5])) cM hp;rw[ha]at hE;have mg:=hL.len;rw[ha]at mg;simp at g2;rw[e1]at hE⊢;exact⟨_,Env.adE hE (by rw[az cM,List.getElem?_set_ne (by omega),List.getElem?_set_ne (by omega)];exact h1) (by omega) (by omega) (by simpa using mg) (by intro r hr;obtain⟨d,_,rfl⟩:=List.mem_map.1 hr;exact ai.cm d) hL.sz1 (by simpa using h0)⟩
   obtain⟨u,ox⟩:=ox;exact⟨_,H5,_,u,rfl,rfl,hL.kp.trans F0,ox⟩
  ·obtain⟨j,hj⟩:=hL.succ oT hg
   have eL:=hL.ok.run sD;have cJ:=Ib hT aO sP hL.ok.1 hg;rcases fF:jg T T.length ty x.s with⟨⟨dn,dv,dc,dq⟩,s3⟩
   rw[fF]at eL cJ;simp only at eL;rw[hj,many,if_pos hg,fF]at hM;simp only[List.map_cons,nR]at hM;obtain⟨H2,cs2,bh,oe,og,zF,_,ix,call2⟩:=(hD p).use ai.wf fF hL.hn hp hb hL.ok oH (by omega);have mm:=fun A'=>ix _ _ x.A A' hL.env
   have P8:cs2.length=4:=zF;obtain⟨e0,e1,e2,e3,rfl⟩:=agB P8;simp only[go_sem,simprocAttr,az hL.hn,aF hL.hn,aE hL.hn,aG hL.hn,hL.hn,hL.hn,hg];refine⟨_,gS hL.hn _ _ _,?_⟩;simp only[go_sem,simprocAttr,az hL.hn,aF hL.hn,aE hL.hn,aG hL.hn,hL.hn,hL.hn,i1];refine aR _ _ (qJ bh hL.hn _ _ _) (gS bh _ _ _) (gu call2 _ fun _=>trivial) ?_;simp only[go_sem,simprocAttr,az bh,aF bh,aE bh,aG bh,bh,bh,gq,fU,sU,qG,Nat.add_zero];refine⟨by intro r hr;simp at hr;subst hr;rfl,?_⟩;refine hL.app bh (fun k o h=>ay h _) aO (by decide) ?_;intro id ver A' m1 m2 m3;have j0:=(m3 0 (by decide)).trans i0;have j1:=(m3 1 (by decide)).trans i1;simp only[go_sem,simprocAttr,az bh,aF bh,aE bh,aG bh,bh,bh,j1];have F2:x.j-1=j:=by omega
   exact⟨(⟨x.j-1,s3,x.acc++[⟨dn,dv,dc,dq⟩],x.rs++[[e0,e1,e2,e3]],.gs id ver 0 (x.rs.length+1),H2,A'.set 1 (.var [.gs id ver 0 (x.rs.length+1),iV 0,sV [],iV 0,sV [],iV 0,.p .nl,.p .nl])⟩,_),⟨⟨hL.next oT hg fF eL cJ bh oe og (by rw[F2];omega) (mm _) rfl m1 m2 (dO (by decide)) (by intro k hk;rw[List.length_set];simp at hk;rcases hk with rfl|rfl;exact bj j0;exact bj j1),aU j0 (by decide),bg j1,fun h=>by simp at h,og,by simp only[F2];omega⟩,rfl⟩,by have h1:x.s.i<s3.i:=cJ;have:=hL.ok.1;simp only;omega⟩
end
theorem qpS {T:List Tok} {lim p:Nat} {H:List AO} (hp:p<H.length) (A:List AO) (s:PS):(H.set p (bO T lim s)++A)[p]?=some (.var [sY T,iV s.i,iV s.nest,iV s.d,iV lim,iV s.c,iV s.ps]):=qp hp A _
abbrev adF (c:ah):AV:=.st (c.cells.map .p)
abbrev adG (d:ai):AV:=.st (d.cells.map .p)
abbrev Tc (p:bb):AV:=.st (p.cells.map .p)
theorem Td (c:ah):c.cells.length=7:=by obtain⟨n,h,⟨k,m,q,l⟩,p⟩:=c;rfl
theorem adH (d:ai):d.cells.length=4:=rfl
section
variable {T:List Tok} {lim e:Nat} (hT:bL T) (aO:T.length<=1073741825)
include hT aO
theorem Yd {ty:PM af} (e8:PF (bO T lim) T e 134 [] ty zz) (kX:ab T ty):PF (bO T lim) T e 76 [] (fS T ty) adF:=by
 refine dy (dA T lim) fun H p s hp hs=>?_
 refine call76 (by simp) ?_;simp only[go_sem,simprocAttr,RA,aa4];refine U (kb H _ p s hp hs) ?_;simp only[go_sem,simprocAttr,Tok.cells];unfold fS;rw[bN,aP];generalize (aJ T s).p=tp;refine U (um aO 4 H _ p s hp hs) ?_;rcases hw:cZ T 4 s with⟨cn,s6⟩
 have yb:=hs.run (ab.word hT (k:=4) (by decide));rw[hw]at yb;simp only at yb;simp only[go_sem,simprocAttr];refine U (nI aO [111,102] H _ p s6 hp yb) ?_;unfold dm;cases CF:aL T [111,102] s6
 ·rw[aZ CF]
  simp only[go_sem,simprocAttr,CF];exact⟨_,rfl,gz.st (.pc (.pc (.pc (.pc (.pc (.cons .nl (.pc .nil)))))))⟩
 ·rw[aS CF]
  have dJ:=yb.aI hT (cH CF).2;simp only[go_sem,simprocAttr,CF];refine U (e8 H _ p _ hp dJ) ?_;rcases F1:ty (aI s6)with⟨⟨k7,n7,q7,l7⟩,s8⟩
  rw[aP,F1];simp only[go_sem,simprocAttr,af.cells];exact⟨_,rfl,bt (dK (ah.cells ⟨cn,true,.mk k7 n7 q7 l7,tp⟩))⟩
theorem Ye {ty:PM af} (e8:PF (bO T lim) T e 134 [] ty zz) (kX:ab T ty):PF (bO T lim) T e 37 [] (jg T T.length ty) adG:=by
 have hC:=Yd hT aO e8 kX;have sC:=Pg.j8 hT kX;have h5:(5:Int)≠8:=by decide
 have o5:eN T (bB T 5):=cC T h5;refine dy (dA T lim) fun H p s hp hs=>?_
 refine call37 (by simp) ?_;simp only[go_sem,simprocAttr,Rv,aa0];refine U (kb H _ p s hp hs) ?_;simp only[go_sem,simprocAttr,Tok.cells];unfold jg;rw[bN,da];generalize (aJ T s).p=tp;refine U (gZ aO [116,121,112,101] H _ p s hp hs) ?_;simp only[go_sem,simprocAttr];have bG:=hs.step (aK hT [116,121,112,101]);generalize aX T [116,121,112,101] s=s1 at *;rcases hV:many (bB T 5) (cZ T 5) T.length s1 with⟨vs,s2⟩
 have bD:=bG.run (ab.many o5 (ab.word hT h5) T.length);rw[hV]at bD;simp only at bD;rcases fF:cZ T 3 s2 with⟨nm,s3⟩
 have eL:=bD.run (ab.word hT (k:=3) (by decide));rw[fF]at eL;simp only at eL;have nJ:=eL.step (aK hT [61]);rcases kE:fS T ty (aX T [61] s3)with⟨c0,s5⟩
 have kR:=nJ.run sC;rw[kE]at kR;simp only at kR;rcases hR:many (aL T [124]) (bT (fS T ty)) T.length s5 with⟨Rl,Rs⟩
 simp only[aP,da,ie,hV,fF,kE,hR]
 refine⟨Nat×PS×List (List UInt8)×AV×List AO,[0,2,3],fun x st=>(Lp (bO T lim) T e H p [0,1] 1 (fun s=>[PV.s s]) (bB T 5) (cZ T 5) vs s2 x.1 x.2.1 x.2.2.1 x.2.2.2.1 x.2.2.2.2/\x.2.2.2.2[0]?=some (.var [sV [],.p .nl,.p .nl,iV 0])/\x.2.2.2.2[1]?=some (.var [sV [],x.2.2.2.1,.p .nl,iV tp]))/\
   st=⟨[(0,.ptr p 0),(2,.ptr H.length 0),(3,.ptr (H.length+1) 0)],[],H.set p (bO T lim x.2.1)++x.2.2.2.2⟩,fun x=>T.length-x.2.1.i,⟨(T.length,s1,[],.p .nl,[.var [sV [],.p .nl,.p .nl,iV 0],.var [sV [],.p .nl,.p .nl,iV tp]]),?_⟩,?_⟩
 ·refine⟨⟨Lp.start bG hV (by simp),rfl,rfl⟩,?_⟩
  simp only[go_sem,simprocAttr]
 ·rintro⟨j,s',acc,a,A⟩ _ ⟨⟨hL,i0,i1⟩,rfl⟩
  simp only at hL i0 i1⊢;have Cr:bB T 5 s'=(decide (s'.c=0)&&decide ((aJ T s').k=5)):=rfl;simp only[go_sem,simprocAttr,qpS hp];cases hc:decide (s'.c=0)
  ·have hg:bB T 5 s'=false:=by rw[Cr,hc];rfl
   simp only[go_sem,simprocAttr,hc];obtain⟨rfl,rfl⟩:=hL.stop hg;refine U (um aO 3 H _ p s' hp hL.ok) ?_;rw[fF]
   have H9:∃qn vn,qn<A.length/\(a≠.p .nl->qn∉[0,1]/\A[qn]?=some (.rows 1 vn (acc.map fun s=>[sV s])))/\((acc=[]/\a=.p .nl)\/(a≠.p .nl/\a=.gs (H.length+qn) vn 0 acc.length)):=by
    rcases hL.own with⟨h1,h2⟩|⟨id,ver,e1,h1⟩
    ·exact⟨0,0,bj i0,fun h=>(h h1).elim,.inl ⟨by simpa using h2,h1⟩⟩
    ·obtain⟨g1,g2⟩:=hL.ids _ _ _ _ e1
     obtain⟨q,rfl⟩:=Nat.le.dest g1;rw[Nat.add_sub_cancel_left]at g2;rw[lV]at h1;have e2:a=.gs (H.length+q) ver 0 acc.length:=by rw[e1];simp
     exact⟨q,ver,bj h1,fun _=>⟨g2,by simpa using h1⟩,.inr ⟨(by rw[e2];intro h;cases h),e2⟩⟩
   obtain⟨qn,vn,hql,Ia,Of⟩:=H9;have w7:a≠.p .nl->qn∉[0,1]:=fun h=>(Ia h).1
   have mS:∀o,(A.set 1 o)[0]?=some (.var [sV [],.p .nl,.p .nl,iV 0]):=fun o=>aU i0 (by decide)
   have wZ:∀o,(A.set 1 o)[1]?=some o:=fun o=>bg i1
   have S8:∀o,a≠.p .nl->(A.set 1 o)[qn]?=some (.rows 1 vn (acc.map fun s=>[sV s])):=fun o h=>aU (Ia h).2 (by rintro rfl;exact w7 h (by simp))
   simp only[go_sem,simprocAttr,hc,i1,wZ];refine U (gZ aO [61] H _ p s3 hp eL) ?_;simp only[go_sem,simprocAttr];refine⟨_,Qp.hx hp _ _,?_⟩;simp only[go_sem,simprocAttr,wZ];refine aR _ _ (by simp) (Qp.hx hp _ _) (hC.chain hp nJ) ?_;obtain⟨cn,ch,⟨k7,n7,q7,l7⟩,cp⟩:=c0;rw[kE];simp only[go_sem,simprocAttr,ah.cells,af.cells,gq,fU,Nat.add_zero];refine⟨by intro r hr;simp at hr;subst hr;rfl,?_⟩;have j0':∀o B,((A.set 1 o)++B)[0]?=some (.var [sV [],.p .nl,.p .nl,iV 0]):=fun o B=>ay (mS o) B
   have Te:∀o B,((A.set 1 o)++B)[1]?=some o:=fun o B=>ay (wZ o) B
   have jq':∀o B,a≠.p .nl->((A.set 1 o)++B)[qn]?=some (.rows 1 vn (acc.map fun s=>[sV s])):=fun o B h=>ay (S8 o h) B
   simp only[go_sem,simprocAttr,Te];have hA2:2<=A.length:=bj i1
   refine⟨Nat×PS×List ah×AV×List AO,[0,2,3],fun x st=>(Lp (bO T lim) T e H p [0,1,qn] 7 ah.cells (aL T [124]) (bT (fS T ty)) (⟨cn,ch,.mk k7 n7 q7 l7,cp⟩::Rl) Rs x.1 x.2.1 x.2.2.1 x.2.2.2.1 x.2.2.2.2/\x.2.2.2.2[0]?=some (.var [sV [],.p .nl,.p .nl,iV 0])/\x.2.2.2.2[1]?=some (.var [sV nm,a,x.2.2.2.1,iV tp])/\(a≠.p .nl->x.2.2.2.2[qn]?=some (.rows 1 vn (acc.map fun s=>[sV s]))))/\
     st=⟨[(0,.ptr p 0),(2,.ptr H.length 0),(3,.ptr (H.length+1) 0)],[],H.set p (bO T lim x.2.1)++x.2.2.2.2⟩,fun x=>T.length-x.2.1.i,⟨(T.length,s5,([⟨cn,ch,.mk k7 n7 q7 l7,cp⟩]:List ah),AV.gs (H.length+(A.length+1)) 0 0 1,(((A.set 1 (.var [sV nm,a,.p .nl,iV tp]))++[AO.rows 7 0 [[sV cn,.p (.b ch),iV k7,sV n7,iV q7,.p (.l (af.aV l7)),iV cp]],AO.rows 7 0 [[sV cn,.p (.b ch),iV k7,sV n7,iV q7,.p (.l (af.aV l7)),iV cp]]]).set 1 (.var [sV nm,a,.gs (H.length+(A.length+1)) 0 0 1,iV tp]):List AO)),⟨⟨Lp.nd kR hR (by intro k hk;simp at hk⊢;rcases hk with rfl|rfl|rfl<;>omega) (by rw[List.getElem?_set_ne (by omega)];have tM:(A.set 1 (.var [sV nm,a,.p .nl,iV tp])).length=A.length:=List.length_set;rw[List.getElem?_append_right (by omega),tM,Nat.add_sub_cancel_left];rfl) (by intro h;rcases List.mem_cons.1 h with h|h;omega;rcases List.mem_cons.1 h with h|h;omega;rcases List.mem_cons.1 h with h|h;omega;cases h),aU (j0' _ _) (by decide),bg (Te _ _),fun h=>aU (jq' _ _ h) (by rintro rfl;exact w7 h (by simp))⟩,?_⟩⟩,?_⟩
   ·simp only[List.set_append_left]
    rfl
   rintro⟨j,s',CH,a2,A2⟩ _ ⟨⟨oh,k0,k1,kq⟩,rfl⟩;simp only at oh k0 k1 kq⊢;simp only[go_sem,simprocAttr];refine U (nI aO [124] H _ p s' hp oh.ok) ?_;unfold dm;cases kA:aL T [124] s'
   ·obtain⟨rfl,rfl⟩:=oh.stop kA
    have hz:∀o,(A2.set 0 o)[0]?=some o:=fun o=>bg k0
    simp only[go_sem,simprocAttr,kA];refine U (gZ aO [59] H _ p s' hp oh.ok) ?_;simp only[go_sem,simprocAttr,k1,k0,hz];refine⟨_,rfl,gz.st (.pc (.cons ?_ (.cons (oh.vV (dO (by simp)) Td) (.pc .nil))))⟩;rcases Of with⟨rfl,rfl⟩|⟨h1,rfl⟩
    ·exact .nl
    ·have h2:=dx (n:=H.length) (H:=H.set p (bO T lim (aX T [59] s'))++A2.set 0 (.var [sV nm,.gs (H.length+qn) vn 0 acc.length,a2,iV tp])) (ys:=cg acc) (id:=H.length+qn) (ver:=vn) (sz:=1) (by omega) (by rw[lV,List.getElem?_set_ne (by rintro rfl;exact w7 h1 (by simp)),kq h1];simp[cg]) (by intro y hy;unfold cg at hy;obtain⟨t,_,rfl⟩:=List.mem_map.1 hy;rfl)
     have h3:(cg acc).length=acc.length:=by simp[cg]
     rw[h3]at h2;exact h2
   ·obtain⟨j,rfl⟩:=oh.succ (aB T _) kA
    have dJ:=oh.ok.aI hT (cH kA).2;have Ic:=dJ.run sC;have cJ:=(gU.aI hT sC oh.ok.1 (cH kA).2).1;simp only[go_sem,simprocAttr,kA];refine⟨_,Qp.hx hp _ _,?_⟩;simp only[go_sem,simprocAttr,k1];refine aR _ _ (by simp) (Qp.hx hp _ _) (hC.chain hp dJ) ?_;rcases Ct:fS T ty (aI s')with⟨⟨en,eh,⟨k8,n8,q8,l8⟩,ep⟩,s9⟩
    rw[Ct]at Ic cJ;simp only[go_sem,simprocAttr,ah.cells,af.cells,zA];refine⟨by intro r hr;simp at hr;subst hr;rfl,?_⟩;refine oh.app (fun k o h=>ay h _) aO (by decide) ?_;intro id ver A' m1 m2 m3;have g0:=(m3 0 (by simp)).trans k0;have g1:=(m3 1 (by simp)).trans k1;simp only[go_sem,simprocAttr,g1];exact⟨(j,s9,CH++[⟨en,eh,.mk k8 n8 q8 l8,ep⟩],.gs id ver 0 (CH.length+1),A'.set 1 (.var [sV nm,a,.gs id ver 0 (CH.length+1),iV tp])),⟨⟨oh.next (aB T _) kA Ct Ic cJ m1 m2 (dO (by simp)) (by intro k hk;rw[List.length_set];have h1:=oh.len k hk;exact bj ((m3 k hk).trans (List.getElem?_eq_getElem h1))),aU g0 (by decide),bg g1,fun h=>aU ((m3 qn (by simp)).trans (kq h)) (by rintro rfl;exact w7 h (by simp))⟩,rfl⟩,by have h1:s'.i<s9.i:=cJ;have:=oh.ok.1;simp only;omega⟩
  ·simp only[go_sem,simprocAttr,hc]
   refine U (kb H _ p s' hp hL.ok) ?_;cases hk:decide ((aJ T s').k=5)
   ·have hg:bB T 5 s'=false:=by rw[Cr,hc,hk];rfl
    simp only[go_sem,simprocAttr,Tok.cells,hk];obtain⟨rfl,rfl⟩:=hL.stop hg;refine U (um aO 3 H _ p s' hp hL.ok) ?_;rw[fF]
    have H9:∃qn vn,qn<A.length/\(a≠.p .nl->qn∉[0,1]/\A[qn]?=some (.rows 1 vn (acc.map fun s=>[sV s])))/\((acc=[]/\a=.p .nl)\/(a≠.p .nl/\a=.gs (H.length+qn) vn 0 acc.length)):=by
     rcases hL.own with⟨h1,h2⟩|⟨id,ver,e1,h1⟩
     ·exact⟨0,0,bj i0,fun h=>(h h1).elim,.inl ⟨by simpa using h2,h1⟩⟩
     ·obtain⟨g1,g2⟩:=hL.ids _ _ _ _ e1
      obtain⟨q,rfl⟩:=Nat.le.dest g1;rw[Nat.add_sub_cancel_left]at g2;rw[lV]at h1;have e2:a=.gs (H.length+q) ver 0 acc.length:=by rw[e1];simp
      exact⟨q,ver,bj h1,fun _=>⟨g2,by simpa using h1⟩,.inr ⟨(by rw[e2];intro h;cases h),e2⟩⟩
    obtain⟨qn,vn,hql,Ia,Of⟩:=H9;have w7:a≠.p .nl->qn∉[0,1]:=fun h=>(Ia h).1
    have mS:∀o,(A.set 1 o)[0]?=some (.var [sV [],.p .nl,.p .nl,iV 0]):=fun o=>aU i0 (by decide)
    have wZ:∀o,(A.set 1 o)[1]?=some o:=fun o=>bg i1
    have S8:∀o,a≠.p .nl->(A.set 1 o)[qn]?=some (.rows 1 vn (acc.map fun s=>[sV s])):=fun o h=>aU (Ia h).2 (by rintro rfl;exact w7 h (by simp))
    simp only[go_sem,simprocAttr,hk,i1,wZ];refine U (gZ aO [61] H _ p s3 hp eL) ?_;simp only[go_sem,simprocAttr];refine⟨_,Qp.hx hp _ _,?_⟩;simp only[go_sem,simprocAttr,wZ];refine aR _ _ (by simp) (Qp.hx hp _ _) (hC.chain hp nJ) ?_;obtain⟨cn,ch,⟨k7,n7,q7,l7⟩,cp⟩:=c0;rw[kE];simp only[go_sem,simprocAttr,ah.cells,af.cells,gq,fU,Nat.add_zero];refine⟨by intro r hr;simp at hr;subst hr;rfl,?_⟩;have j0':∀o B,((A.set 1 o)++B)[0]?=some (.var [sV [],.p .nl,.p .nl,iV 0]):=fun o B=>ay (mS o) B
    have Te:∀o B,((A.set 1 o)++B)[1]?=some o:=fun o B=>ay (wZ o) B
    have jq':∀o B,a≠.p .nl->((A.set 1 o)++B)[qn]?=some (.rows 1 vn (acc.map fun s=>[sV s])):=fun o B h=>ay (S8 o h) B
    simp only[go_sem,simprocAttr,Te];have hA2:2<=A.length:=bj i1
    refine⟨Nat×PS×List ah×AV×List AO,[0,2,3],fun x st=>(Lp (bO T lim) T e H p [0,1,qn] 7 ah.cells (aL T [124]) (bT (fS T ty)) (⟨cn,ch,.mk k7 n7 q7 l7,cp⟩::Rl) Rs x.1 x.2.1 x.2.2.1 x.2.2.2.1 x.2.2.2.2/\x.2.2.2.2[0]?=some (.var [sV [],.p .nl,.p .nl,iV 0])/\x.2.2.2.2[1]?=some (.var [sV nm,a,x.2.2.2.1,iV tp])/\(a≠.p .nl->x.2.2.2.2[qn]?=some (.rows 1 vn (acc.map fun s=>[sV s]))))/\
      st=⟨[(0,.ptr p 0),(2,.ptr H.length 0),(3,.ptr (H.length+1) 0)],[],H.set p (bO T lim x.2.1)++x.2.2.2.2⟩,fun x=>T.length-x.2.1.i,⟨(T.length,s5,([⟨cn,ch,.mk k7 n7 q7 l7,cp⟩]:List ah),AV.gs (H.length+(A.length+1)) 0 0 1,(((A.set 1 (.var [sV nm,a,.p .nl,iV tp]))++[AO.rows 7 0 [[sV cn,.p (.b ch),iV k7,sV n7,iV q7,.p (.l (af.aV l7)),iV cp]],AO.rows 7 0 [[sV cn,.p (.b ch),iV k7,sV n7,iV q7,.p (.l (af.aV l7)),iV cp]]]).set 1 (.var [sV nm,a,.gs (H.length+(A.length+1)) 0 0 1,iV tp]):List AO)),⟨⟨Lp.nd kR hR (by intro k hk;simp at hk⊢;rcases hk with rfl|rfl|rfl<;>omega) (by rw[List.getElem?_set_ne (by omega)];have tM:(A.set 1 (.var [sV nm,a,.p .nl,iV tp])).length=A.length:=List.length_set;rw[List.getElem?_append_right (by omega),tM,Nat.add_sub_cancel_left];rfl) (by intro h;rcases List.mem_cons.1 h with h|h;omega;rcases List.mem_cons.1 h with h|h;omega;rcases List.mem_cons.1 h with h|h;omega;cases h),aU (j0' _ _) (by decide),bg (Te _ _),fun h=>aU (jq' _ _ h) (by rintro rfl;exact w7 h (by simp))⟩,?_⟩⟩,?_⟩
    ·simp only[List.set_append_left]
     rfl
    rintro⟨j,s',CH,a2,A2⟩ _ ⟨⟨oh,k0,k1,kq⟩,rfl⟩;simp only at oh k0 k1 kq⊢;simp only[go_sem,simprocAttr];refine U (nI aO [124] H _ p s' hp oh.ok) ?_;unfold dm;cases kA:aL T [124] s'
    ·obtain⟨rfl,rfl⟩:=oh.stop kA
     have hz:∀o,(A2.set 0 o)[0]?=some o:=fun o=>bg k0
     simp only[go_sem,simprocAttr,kA];refine U (gZ aO [59] H _ p s' hp oh.ok) ?_;simp only[go_sem,simprocAttr,k1,k0,hz];refine⟨_,rfl,gz.st (.pc (.cons ?_ (.cons (oh.vV (dO (by simp)) Td) (.pc .nil))))⟩;rcases Of with⟨rfl,rfl⟩|⟨h1,rfl⟩
     ·exact .nl
     ·have h2:=dx (n:=H.length) (H:=H.set p (bO T lim (aX T [59] s'))++A2.set 0 (.var [sV nm,.gs (H.length+qn) vn 0 acc.length,a2,iV tp])) (ys:=cg acc) (id:=H.length+qn) (ver:=vn) (sz:=1) (by omega) (by rw[lV,List.getElem?_set_ne (by rintro rfl;exact w7 h1 (by simp)),kq h1];simp[cg]) (by intro y hy;unfold cg at hy;obtain⟨t,_,rfl⟩:=List.mem_map.1 hy;rfl)
      have h3:(cg acc).length=acc.length:=by simp[cg]
      rw[h3]at h2;exact h2
    ·obtain⟨j,rfl⟩:=oh.succ (aB T _) kA
     have dJ:=oh.ok.aI hT (cH kA).2;have Ic:=dJ.run sC;have cJ:=(gU.aI hT sC oh.ok.1 (cH kA).2).1;simp only[go_sem,simprocAttr,kA];refine⟨_,Qp.hx hp _ _,?_⟩;simp only[go_sem,simprocAttr,k1];refine aR _ _ (by simp) (Qp.hx hp _ _) (hC.chain hp dJ) ?_;rcases Ct:fS T ty (aI s')with⟨⟨en,eh,⟨k8,n8,q8,l8⟩,ep⟩,s9⟩
     rw[Ct]at Ic cJ;simp only[go_sem,simprocAttr,ah.cells,af.cells,zA];refine⟨by intro r hr;simp at hr;subst hr;rfl,?_⟩;refine oh.app (fun k o h=>ay h _) aO (by decide) ?_;intro id ver A' m1 m2 m3;have g0:=(m3 0 (by simp)).trans k0;have g1:=(m3 1 (by simp)).trans k1;simp only[go_sem,simprocAttr,g1];exact⟨(j,s9,CH++[⟨en,eh,.mk k8 n8 q8 l8,ep⟩],.gs id ver 0 (CH.length+1),A'.set 1 (.var [sV nm,a,.gs id ver 0 (CH.length+1),iV tp])),⟨⟨oh.next (aB T _) kA Ct Ic cJ m1 m2 (dO (by simp)) (by intro k hk;rw[List.length_set];have h1:=oh.len k hk;exact bj ((m3 k hk).trans (List.getElem?_eq_getElem h1))),aU g0 (by decide),bg g1,fun h=>aU ((m3 qn (by simp)).trans (kq h)) (by rintro rfl;exact w7 h (by simp))⟩,rfl⟩,by have h1:s'.i<s9.i:=cJ;have:=oh.ok.1;simp only;omega⟩
   ·have hg:bB T 5 s'=true:=by rw[Cr,hc,hk];rfl
    simp only[go_sem,simprocAttr,Tok.cells,hk];obtain⟨j,rfl⟩:=hL.succ o5 hg;have hsw:=hL.ok.aI hT (show(aJ T s').k≠8 by have:=of_decide_eq_true hk;omega);have hw:cZ T 5 s'=((aJ T s').t,aI s'):=by unfold cZ;rw[if_pos hg]
    refine⟨_,Qp.hx hp _ _,?_⟩;simp only[go_sem,simprocAttr,i1];refine aR _ _ (by simp) (Qp.hx hp _ _) ((um aO 5).chain hp hL.ok) ?_;rw[hw];simp only[go_sem,simprocAttr,zA];refine⟨by intro r hr;simp at hr;subst hr;rfl,?_⟩;refine hL.app (fun k o h=>ay h _) aO (by decide) ?_;intro id ver A' k1 k2 k3;have j0:=(k3 0 (by decide)).trans i0;have j1:=(k3 1 (by decide)).trans i1;simp only[go_sem,simprocAttr,j1];exact⟨(j,aI s',acc++[(aJ T s').t],.gs id ver 0 (acc.length+1),A'.set 1 (.var [sV [],.gs id ver 0 (acc.length+1),.p .nl,iV tp])),⟨⟨hL.next o5 hg hw hsw (by show s'.i<s'.i+1;omega) k1 k2 (dO (by decide)) (by intro k hk;rw[List.length_set];simp at hk;rcases hk with rfl|rfl;exact bj j0;exact bj j1),aU j0 (by decide),bg j1⟩,rfl⟩,by have:=hL.ok.1;show T.length-(s'.i+1)<T.length-s'.i;omega⟩
end
section
variable {T:List Tok} {lim e:Nat} (hT:bL T) (aO:T.length<=1073741825)
include hT aO
theorem Yf {ty:PM af} {ex:PM aa} (e8:PF (bO T lim) T e 134 [] ty zz) (kX:ab T ty) (hex:PF (bO T lim) T e 38 [] ex jM) (sex:ab T ex):PF (bO T lim) T e 14 [] (pj T T.length ty ex) Tc:=by
 have hD:=Ye hT aO e8 kX;have sD:=Pg.ug (N:=T.length) hT kX;have oT:eN T (aL T [116,121,112,101]):=aB T _;refine dy (dA T lim) fun H p s hp hs=>?_
 refine call14 (by simp) ?_;simp only[go_sem,simprocAttr,Rp,aaV];unfold pj;rcases hV:many (aL T [116,121,112,101]) (jg T T.length ty) T.length s with⟨ds,s2⟩
 rcases kE:ex s2 with⟨⟨k5,n5,u5,t5,q5,l5,m5⟩,s5⟩
 simp only[aP,da,ie,hV,kE]
 refine⟨Nat×PS×List ai×AV×List AO,[0,2,3],fun x st=>(Lp (bO T lim) T e H p [0,1] 4 ai.cells (aL T [116,121,112,101]) (jg T T.length ty) ds s2 x.1 x.2.1 x.2.2.1 x.2.2.2.1 x.2.2.2.2/\x.2.2.2.2[0]?=some (.var [.p .nl,iV 0,sV [],iV 0,sV [],iV 0,.p .nl,.p .nl])/\x.2.2.2.2[1]?=some (.var [x.2.2.2.1,iV 0,sV [],iV 0,sV [],iV 0,.p .nl,.p .nl]))/\
   st=⟨[(0,.ptr p 0),(2,.ptr H.length 0),(3,.ptr (H.length+1) 0)],[],H.set p (bO T lim x.2.1)++x.2.2.2.2⟩,fun x=>T.length-x.2.1.i,⟨(T.length,s,[],.p .nl,[.var [.p .nl,iV 0,sV [],iV 0,sV [],iV 0,.p .nl,.p .nl],.var [.p .nl,iV 0,sV [],iV 0,sV [],iV 0,.p .nl,.p .nl]]),?_⟩,?_⟩
 ·refine⟨⟨Lp.start hs hV (by simp),rfl,rfl⟩,?_⟩
  simp only[go_sem,simprocAttr]
 ·rintro⟨j,s',acc,a,A⟩ _ ⟨⟨hL,i0,i1⟩,rfl⟩
  simp only at hL i0 i1⊢;simp only[go_sem,simprocAttr];refine U (AU [116,121,112,101] H _ p s' hp hL.ok) ?_;cases hg:aL T [116,121,112,101] s'
  ·obtain⟨rfl,rfl⟩:=hL.stop hg
   simp only[go_sem,simprocAttr,hg];have kR:=hL.ok.run sex;have KV:=hex H A p s' hp hL.ok;rw[kE]at kR KV;simp only at kR;refine U KV ?_;have hz:∀o,(A.set 1 o)[1]?=some o:=fun o=>bg i1
   have jH:∀o,(A.set 1 o)[0]?=some (.var [.p .nl,iV 0,sV [],iV 0,sV [],iV 0,.p .nl,.p .nl]):=fun o=>aU i0 (by decide)
   have rQ:∀o o',((A.set 1 o).set 0 o')[0]?=some o':=fun o o'=>bg (jH o)
   simp only[go_sem,simprocAttr,aa.cells,i1,hz,jH,qpS hp]
   have ox:∀s9,cG H.length (H.set p (bO T lim s9)++(A.set 1 (.var [a,iV k5,sV n5,iV u5,sV t5,iV q5,.p (.l (aa.aV l5)),.p (.l (aa.bR m5))])).set 0 (.var [a,iV k5,sV n5,iV u5,sV t5,iV q5,.p (.l (aa.aV l5)),.p (.l (aa.bR m5))])) (.st [a,iV k5,sV n5,iV u5,sV t5,iV q5,.p (.l (aa.aV l5)),.p (.l (aa.bR m5))]) (Tc ⟨acc,.mk k5 n5 u5 t5 q5 l5 m5⟩):=fun s9=>by
    refine gz.st (.cons (hL.vV (fun k o hk h=>?_) adH) (gz.pure (aa.cells (.mk k5 n5 u5 t5 q5 l5 m5))));rw[List.getElem?_set_ne (by rintro rfl;exact hk (by simp)),List.getElem?_set_ne (by rintro rfl;exact hk (by simp))];exact h
   by_cases hc:s5.c=0
   ·simp only[go_sem,simprocAttr,dT hc]
    refine U (kb H _ p s5 hp kR) ?_;by_cases hk:(aJ T s5).k=8
    ·have hE:iU T s5=s5:=by unfold iU bB;simp[hc,hk]
     rw[hE];simp only[go_sem,simprocAttr,Tok.cells,dT hk,decide_not,Bool.not_true,Bool.not_false,hz,jH,rQ];exact⟨_,rfl,ox _⟩
    ·have hE:iU T s5=dQ T 11 s5:=by unfold iU bB;simp[hc,hk]
     rw[hE];simp only[go_sem,simprocAttr,Tok.cells,dF hk,decide_not,Bool.not_true,Bool.not_false];refine U (r9 11 H _ p s5 hp kR) ?_;simp only[go_sem,simprocAttr,hz,jH,rQ];exact⟨_,rfl,ox _⟩
   ·have hE:iU T s5=s5:=by unfold iU;rw[wC hc];simp[rb hc]
    rw[hE];simp only[go_sem,simprocAttr,dF hc,hz,jH,rQ];exact⟨_,rfl,ox _⟩
  ·obtain⟨j,rfl⟩:=hL.succ oT hg
   have Ic:=hL.ok.run sD;have cJ:=Ib hT aO kX hL.ok.1 hg;simp only[go_sem,simprocAttr,hg];refine⟨_,Qp.hx hp _ _,?_⟩;simp only[go_sem,simprocAttr,i1];refine aR _ _ (by simp) (Qp.hx hp _ _) (hD.chain hp hL.ok) ?_;rcases Ct:jg T T.length ty s' with⟨⟨dn,dv,dc,dq⟩,s9⟩
   rw[Ct]at Ic cJ;simp only[go_sem,simprocAttr,ai.cells,zA];refine⟨by intro r hr;simp at hr;subst hr;rfl,?_⟩;refine hL.app (fun k o h=>ay h _) aO (by decide) ?_;intro id ver A' m1 m2 m3;have j0:=(m3 0 (by decide)).trans i0;have j1:=(m3 1 (by decide)).trans i1;simp only[go_sem,simprocAttr,j1];exact⟨(j,s9,acc++[⟨dn,dv,dc,dq⟩],.gs id ver 0 (acc.length+1),A'.set 1 (.var [.gs id ver 0 (acc.length+1),iV 0,sV [],iV 0,sV [],iV 0,.p .nl,.p .nl])),⟨⟨hL.next oT hg Ct Ic cJ m1 m2 (dO (by decide)) (by intro k hk;rw[List.length_set];simp at hk;rcases hk with rfl|rfl;exact bj j0;exact bj j1),aU j0 (by decide),bg j1⟩,rfl⟩,by have h1:s'.i<s9.i:=cJ;have:=hL.ok.1;simp only;omega⟩
end
end Go.Proofs.YtjkbbnfdbfcebaaGreatDoor.Qp
set_option linter.all false
set_option maxRecDepth 100000
namespace Go.Proofs.YtjkbbnfdbfcebaaGreatDoor.Mc
open Go.AM
def mc3:bl (Tryz.f3.body.map (compile [0,1,2,3,4,5,6,11,21,26] Tryz.prog 27)):=⟨_,by conv=>lhs;cbv⟩
def mr3:List MR:=[.t 2]
theorem call3:ax Tryz.prog 3 27 mc3.m mr3:=mc3.call Tryz.func3 (by kernel_rfl)
def mc5:bl (Tryz.f5.body.map (compile [0,1,2,3,4,5,6,7,9,13,20] Tryz.prog 48)):=⟨_,by conv=>lhs;cbv⟩
def mr5:List MR:=[.t 2]
theorem call5:ax Tryz.prog 5 48 mc5.m mr5:=mc5.call Tryz.func5 (by kernel_rfl)
def Tg:bl (Tryz.f62.body.map (compile [0,1,2,4,10,16] Tryz.prog 18)):=⟨_,by conv=>lhs;cbv⟩
def abm:List MR:=[.t 4]
theorem call62:ax Tryz.prog 62 18 Tg.m abm:=Tg.call Tryz.func62 (by kernel_rfl)
def Ti:bl (Tryz.f25.body.map (compile [0,1,4,5,11,15,25] Tryz.prog 27)):=⟨_,by conv=>lhs;cbv⟩
def abn:List MR:=[.t 4]
theorem call25:ax Tryz.prog 25 27 Ti.m abn:=Ti.call Tryz.func25 (by kernel_rfl)
def KW:bl (Tryz.f125.body.map (compile [0,1,2,4,11,17] Tryz.prog 19)):=⟨_,by conv=>lhs;cbv⟩
def Tj:List MR:=[.t 4]
theorem call125:ax Tryz.prog 125 19 KW.m Tj:=KW.call Tryz.func125 (by kernel_rfl)
def Tk:bl (Tryz.f61.body.map (compile [0,1,4,5,11,15,25] Tryz.prog 27)):=⟨_,by conv=>lhs;cbv⟩
def abo:List MR:=[.t 4]
theorem call61:ax Tryz.prog 61 27 Tk.m abo:=Tk.call Tryz.func61 (by kernel_rfl)
def Tl:bl (Tryz.f23.body.map (compile [0,1,2,4,11,17,23] Tryz.prog 25)):=⟨_,by conv=>lhs;cbv⟩
def abp:List MR:=[.t 4]
theorem call23:ax Tryz.prog 23 25 Tl.m abp:=Tl.call Tryz.func23 (by kernel_rfl)
def mc9:bl (Tryz.f9.body.map (compile [0,1,4,5,11,15,25] Tryz.prog 27)):=⟨_,by conv=>lhs;cbv⟩
def mr9:List MR:=[.t 4]
theorem call9:ax Tryz.prog 9 27 mc9.m mr9:=mc9.call Tryz.func9 (by kernel_rfl)
def Tm:bl (Tryz.f10.body.map (compile [0,1,2,4,11,18,24,30] Tryz.prog 32)):=⟨_,by conv=>lhs;cbv⟩
def abq:List MR:=[.t 4]
theorem call10:ax Tryz.prog 10 32 Tm.m abq:=Tm.call Tryz.func10 (by kernel_rfl)
def Tn:bl (Tryz.f24.body.map (compile [0,1,4,5,11,15,25] Tryz.prog 27)):=⟨_,by conv=>lhs;cbv⟩
def abr:List MR:=[.t 4]
theorem call24:ax Tryz.prog 24 27 Tn.m abr:=Tn.call Tryz.func24 (by kernel_rfl)
def KX:bl (Tryz.f126.body.map (compile [0,1,2,4,11,17] Tryz.prog 19)):=⟨_,by conv=>lhs;cbv⟩
def To:List MR:=[.t 4]
theorem call126:ax Tryz.prog 126 19 KX.m To:=KX.call Tryz.func126 (by kernel_rfl)
def KY:bl (Tryz.f168.body.map (compile [0,1,4,5,11,15,25] Tryz.prog 27)):=⟨_,by conv=>lhs;cbv⟩
def Tp:List MR:=[.t 4]
theorem call168:ax Tryz.prog 168 27 KY.m Tp:=KY.call Tryz.func168 (by kernel_rfl)
def mc4:bl (Tryz.f4.body.map (compile [0,1,2,4,10,16] Tryz.prog 18)):=⟨_,by conv=>lhs;cbv⟩
def mr4:List MR:=[.t 4]
theorem call4:ax Tryz.prog 4 18 mc4.m mr4:=mc4.call Tryz.func4 (by kernel_rfl)
def Tq:bl (Tryz.f60.body.map (compile [0,1,4,5,11,15,26] Tryz.prog 28)):=⟨_,by conv=>lhs;cbv⟩
def abt:List MR:=[.t 4]
theorem call60:ax Tryz.prog 60 28 Tq.m abt:=Tq.call Tryz.func60 (by kernel_rfl)
def KZ:bl (Tryz.f167.body.map (compile [0,1,2,4,11,17] Tryz.prog 19)):=⟨_,by conv=>lhs;cbv⟩
def Tr:List MR:=[.t 4]
theorem call167:ax Tryz.prog 167 19 KZ.m Tr:=KZ.call Tryz.func167 (by kernel_rfl)
def K0:bl (Tryz.f198.body.map (compile [0,1,4,5,11,15,25] Tryz.prog 27)):=⟨_,by conv=>lhs;cbv⟩
def Ts:List MR:=[.t 4]
theorem call198:ax Tryz.prog 198 27 K0.m Ts:=K0.call Tryz.func198 (by kernel_rfl)
def Tt:bl (Tryz.f83.body.map (compile [0,1,2,3] Tryz.prog 13)):=⟨_,by conv=>lhs;cbv⟩
def abu:List MR:=[.cell true 12 2]
theorem call83:ax Tryz.prog 83 13 Tt.m abu:=Tt.call Tryz.func83 (by kernel_rfl)
def Tu:bl (Tryz.f43.body.map (compile [0,2,3,4,11] Tryz.prog 23)):=⟨_,by conv=>lhs;cbv⟩
def abv:List MR:=[.t 2]
theorem call43:ax Tryz.prog 43 23 Tu.m abv:=Tu.call Tryz.func43 (by kernel_rfl)
def K2:bl (Tryz.f137.body.map (compile [0,1,2,3] Tryz.prog 18)):=⟨_,by conv=>lhs;cbv⟩
def Tv:List MR:=[.cell true 7 2]
theorem call137:ax Tryz.prog 137 18 K2.m Tv:=K2.call Tryz.func137 (by kernel_rfl)
def Tw:bl (Tryz.f82.body.map (compile [0,2,3,4,11] Tryz.prog 23)):=⟨_,by conv=>lhs;cbv⟩
def abw:List MR:=[.t 2]
theorem call82:ax Tryz.prog 82 23 Tw.m abw:=Tw.call Tryz.func82 (by kernel_rfl)
def Tx:bl (Tryz.f41.body.map (compile [0,1,2,3] Tryz.prog 19)):=⟨_,by conv=>lhs;cbv⟩
def abx:List MR:=[.cell true 4 2]
theorem call41:ax Tryz.prog 41 19 Tx.m abx:=Tx.call Tryz.func41 (by kernel_rfl)
def Ty:bl (Tryz.f15.body.map (compile [0,2,3,4,11] Tryz.prog 23)):=⟨_,by conv=>lhs;cbv⟩
def aby:List MR:=[.t 2]
theorem call15:ax Tryz.prog 15 23 Ty.m aby:=Ty.call Tryz.func15 (by kernel_rfl)
def Tz:bl (Tryz.f16.body.map (compile [0,1,2,3] Tryz.prog 28)):=⟨_,by conv=>lhs;cbv⟩
def abz:List MR:=[.cell true 7 2]
theorem call16:ax Tryz.prog 16 28 Tz.m abz:=Tz.call Tryz.func16 (by kernel_rfl)
def TA:bl (Tryz.f42.body.map (compile [0,2,3,4,11] Tryz.prog 23)):=⟨_,by conv=>lhs;cbv⟩
def abA:List MR:=[.t 2]
theorem call42:ax Tryz.prog 42 23 TA.m abA:=TA.call Tryz.func42 (by kernel_rfl)
def K3:bl (Tryz.f138.body.map (compile [0,1,2,3] Tryz.prog 21)):=⟨_,by conv=>lhs;cbv⟩
def TB:List MR:=[.cell true 5 2]
theorem call138:ax Tryz.prog 138 21 K3.m TB:=K3.call Tryz.func138 (by kernel_rfl)
def K4:bl (Tryz.f180.body.map (compile [0,2,3,4,11] Tryz.prog 23)):=⟨_,by conv=>lhs;cbv⟩
def TC:List MR:=[.t 2]
theorem call180:ax Tryz.prog 180 23 K4.m TC:=K4.call Tryz.func180 (by kernel_rfl)
def mc6:bl (Tryz.f6.body.map (compile [0,1,2,3] Tryz.prog 13)):=⟨_,by conv=>lhs;cbv⟩
def mr6:List MR:=[.cell true 8 2]
theorem call6:ax Tryz.prog 6 13 mc6.m mr6:=mc6.call Tryz.func6 (by kernel_rfl)
def TD:bl (Tryz.f81.body.map (compile [0,2,3,4,11] Tryz.prog 22)):=⟨_,by conv=>lhs;cbv⟩
def abB:List MR:=[.t 2]
theorem call81:ax Tryz.prog 81 22 TD.m abB:=TD.call Tryz.func81 (by kernel_rfl)
def K5:bl (Tryz.f179.body.map (compile [0,1,2,3] Tryz.prog 18)):=⟨_,by conv=>lhs;cbv⟩
def TG:List MR:=[.cell true 4 2]
theorem call179:ax Tryz.prog 179 18 K5.m TG:=K5.call Tryz.func179 (by kernel_rfl)
def K6:bl (Tryz.f205.body.map (compile [0,2,3,4,11] Tryz.prog 23)):=⟨_,by conv=>lhs;cbv⟩
def TH:List MR:=[.t 2]
theorem call205:ax Tryz.prog 205 23 K6.m TH:=K6.call Tryz.func205 (by kernel_rfl)
end Go.Proofs.YtjkbbnfdbfcebaaGreatDoor.Mc
namespace Go.Proofs.YtjkbbnfdbfcebaaGreatDoor.Pg
open Go.AM
def nM (q:UInt8->Bool) (s:List UInt8):Bool:=match s with
 |[]=>false
 |c::_=>decide (s.length<=12)&&(q c&&decide (bz cx s 0=s.length))
def nN (s:List UInt8):Bool:=nM eP s&& !isKey s
def F3 (s:List UInt8):Bool:=nM fG s
def AY (c:UInt8):Bool:=qZ c||decide ((c.toNat:Int)=10)
def nj (s:List UInt8):Bool:=s.all AY
def Az (s:List UInt8):Bool:=decide (s∈[[43],[45],[42],[94],[61],[60],[58,61]])
def pA (s:List UInt8):Bool:=decide (s∈[[112,114,105,110,116],[101,120,105,116],[115,105,122,101],[114,101,102],[33]])
def arity (s:List UInt8):Int:=if s=[114,101,97,100]then 0 else if pA s then 1 else -1
def AA (k:Int) (n:List UInt8) (u p m:Int):Bool:=
  (if k=1∨k=5 then decide (m=0)&&(decide (n=[])&&decide (u=0))
   else if k=2 then decide (m=0)&&(nN n&&decide (u=0))
   else if k=3 then decide (m=0)&&(decide (n=[])&&decide (0≤u))
   else if k=4 then decide (m=0)&&(decide (n=[])&&(decide (0≤u)&&decide (u≤1)))
   else if k=6 then decide (2≤m)&&(decide (n=[])&&decide (u=0))
   else if k=7 then decide (m≤1)&&(F3 n&&decide (u=0))
   else false)&&decide (0≤p)
mutual
def ae.okB:ae->Bool
 | .mk k n u p ks=>AA k n u p ks.length&&ae.nO ks
def ae.nO:List ae->Bool
 |[]=>true
 |t::l=>t.okB&&ae.nO l
end
def AB (k:Int) (n:List UInt8) (p m:Int):Bool:=
  (if k=1 then nN n
   else if k=2 then decide (m=0)&&nM eP n
   else if k=3 then decide (m=2)&&decide (n=[])
   else if k=4 then decide (2≤m)&&decide (n=[])
   else if k=5 then decide (m=1)&&decide (n=[])
   else false)&&decide (0≤p)
mutual
def af.okB:af->Bool
 | .mk k n p ks=>AB k n p ks.length&&af.nO ks
def af.nO:List af->Bool
 |[]=>true
 |t::l=>t.okB&&af.nO l
end
def pB (k:Int) (n:List UInt8) (u:Int) (t:List UInt8) (p m a:Int):Bool:=
  (if k=1 then decide (m=0)&&(decide (n=[])&&(decide (0≤u)&&decide (t=[])))
   else if k=2 then decide (m=0)&&(decide (n=[])&&(decide (u=0)&&nj t))
   else if k=3 then decide (m=0)&&(decide (n=[])&&((decide (0≤u)&&decide (u≤1))&&decide (t=[])))
   else if k=4 then decide (m=0)&&(decide (n=[])&&(decide (u=0)&&decide (t=[])))
   else if k=5 then decide (m=0)&&(nN n&&(decide (u=0)&&decide (t=[])))
   else if k=6 then decide (m≤1)&&(F3 n&&(decide (u=0)&&decide (t=[])))
   else if k=7 then decide (2≤m)&&(decide (n=[])&&(decide (u=0)&&decide (t=[])))
   else if k=8 then decide (m=1)&&(nN n&&(decide (u=0)&&decide (t=[])))
   else if k=9 then decide (m=2)&&(decide (n=[])&&(decide (u=0)&&decide (t=[])))
   else if k=10 then decide (m=2)&&(nN n&&(decide (u=0)&&decide (t=[])))
   else if k=11 then decide (m=2)&&(nN n&&(decide (u=0)&&nN t))
   else if k=12 then decide (m=3)&&(decide (n=[])&&(decide (u=0)&&decide (t=[])))
   else if k=13 then decide (m=1)&&(decide (n=[])&&(decide (u=0)&&decide (t=[])))
   else if k=14 then decide (m=2)&&(Az n&&(decide (u=0)&&decide (t=[])))
   else if k=15 then decide (m=arity n)&&(decide (u=0)&&decide (t=[]))
   else false)&&(decide (0≤p)&&(decide (k=13)==decide (0<a)))
mutual
def aa.okB:aa->Bool
 | .mk k n u t p ks aM=>pB k n u t p ks.length aM.length&&(aa.nO ks&&aa.Ie aM)
def aa.nO:List aa->Bool
 |[]=>true
 |t::l=>t.okB&&aa.nO l
def al.okB:al->Bool
 | .mk p e=>p.okB&&e.okB
def aa.Ie:List al->Bool
 |[]=>true
 |t::l=>t.okB&&aa.Ie l
end
def af.Ig:af->Bool
 | .mk k n p ks=>decide (k=0)&&(decide (n=[])&&(decide (p=0)&&decide (ks.length=0)))
def ah.okB (c:ah):Bool:=F3 c.name&&(!decide (c.pos<0)&&(if c.has then c.arg.okB else c.arg.Ig))
def ai.okB (d:ai):Bool:=nN d.name&&(decide (0<=d.pos)&&(decide (0<(d.ctors.length:Int))&&(d.vars.all (nM eP)&&d.ctors.all ah.okB)))
def bb.okB (g:bb):Bool:=g.body.okB&&g.types.all ai.okB
theorem gJ {α:Type} {q:α->Bool} {l:List α} {x:Nat} (h:x<l.length):(l.drop x).all q=(q l[x]&&(l.drop (x+1)).all q):=by rw[List.drop_eq_getElem_cons h,List.all_cons]
theorem ae.jN (l:List ae):ae.nO l=l.all ae.okB:=by
 induction l with
 |nil=>rfl
 |cons t l ih=>rw[ae.nO,ih];rfl
theorem af.jN (l:List af):af.nO l=l.all af.okB:=by
 induction l with
 |nil=>rfl
 |cons t l ih=>rw[af.nO,ih];rfl
theorem aa.jN (l:List aa):aa.nO l=l.all aa.okB:=by
 induction l with
 |nil=>rfl
 |cons t l ih=>rw[aa.nO,ih];rfl
theorem aa.Bc (l:List al):aa.Ie l=l.all al.okB:=by
 induction l with
 |nil=>rfl
 |cons t l ih=>rw[aa.Ie,ih];rfl
def jO (n:Nat):List UInt8:=if h:n<10 then[UInt8.ofNat (48+n)]else jO (n/10)++[UInt8.ofNat (48+n % 10)]
termination_by n
def qf (u:Int):List UInt8:=jO u.toNat
def cS (c:UInt8):List UInt8:=if(c.toNat:Int)=10 then[92,110]else if(c.toNat:Int)=34\/(c.toNat:Int)=92 then[92,c]else[c]
def pC (s:List UInt8):List UInt8:=34::((s.map cS).flatten++[34])
def kS (u:Int):List UInt8:=if u=1 then[116,114,117,101]else[102,97,108,115,101]
def gx (s:List UInt8) (level least:Int):List UInt8:=if level<least then 40::(s++[41])else s
def bF (sep:List UInt8):List (List UInt8)->List UInt8
 |[]=>[]
 |[a]=>a
 |a::l=>a++(sep++bF sep l)
structure KF where
 f:List UInt8
 l:Int
 b:Bool
def KF.at (x:KF) (a:Int):List UInt8:=gx x.f x.l a
def KF.no:KF:=⟨[],0,false⟩
def vD (k:Int) (n:List UInt8) (ks:List KF):KF:=
 if k=3 then⟨(ks.getD 0 .no).at 1++([32,45,62,32]++(ks.getD 1 .no).at 0),0,false⟩
 else if k=4 then⟨bF [32,42,32] (ks.map (·.at 2)),1,false⟩
 else if k=5 then⟨[114,101,102,32]++(ks.getD 0 .no).at 3,2,false⟩
 else if k=2 then⟨39::n,3,false⟩
 else⟨n++(ks.map fun x=>32::x.at 3).flatten,if ks.length=0 then 3 else 2,false⟩
mutual
def af.kf:af->KF
 | .mk k n p ks=>vD k n (af.cW ks)
def af.cW:List af->List KF
 |[]=>[]
 |t::l=>t.kf::af.cW l
end
def kZ (k:Int) (n:List UInt8) (u:Int) (ks:List KF):KF:=
 if k=2 then⟨n,1,false⟩
 else if k=3 then⟨qf u,1,false⟩
 else if k=4 then⟨kS u,1,false⟩
 else if k=5 then⟨[40,41],1,false⟩
 else if k=6 then⟨40::(bF [44,32] (ks.map (·.at 0))++[41]),1,false⟩
 else if k=7 then(if ks.length=0 then⟨n,1,false⟩else⟨n++(32::(ks.getD 0 .no).at 1),0,false⟩)
 else⟨[95],1,false⟩
mutual
def ae.kf:ae->KF
 | .mk k n u p ks=>kZ k n u (ae.cW ks)
def ae.cW:List ae->List KF
 |[]=>[]
 |t::l=>t.kf::ae.cW l
end
def iR (s:List UInt8):Int×Int×Int:=if s=[58,61]then(1,2,2)else if s=[61]\/s=[60]then(2,3,3)else if s=[42]then(4,4,5)else(3,3,4)
def iZ (a:List UInt8×KF):List UInt8:=[32,124,32]++(a.1++([32,45,62,32]++a.2.at 0))
def dP (k:Int) (n:List UInt8) (u:Int) (t:List UInt8) (ks:List KF) (aM:List (List UInt8×KF)):KF:=
 if k=1 then⟨qf u,6,false⟩
 else if k=2 then⟨pC t,6,false⟩
 else if k=3 then⟨kS u,6,false⟩
 else if k=4 then⟨[40,41],6,false⟩
 else if k=5 then⟨n,6,false⟩
 else if k=7 then⟨40::(bF [44,32] (ks.map (·.at 0))++[41]),6,false⟩
 else if k=14 then⟨(ks.getD 0 .no).at (iR n).2.1++(32::(n++(32::(ks.getD 1 .no).at (iR n).2.2))),(iR n).1,false⟩
 else if k=6\/k=15 then(if ks.length=0 then⟨n,6,decide (k=6)⟩else⟨n++(32::(ks.getD 0 .no).at 6),5,false⟩)
 else if k=9 then⟨(ks.getD 0 .no).at (if(ks.getD 0 .no).b then 7 else 5)++(32::(ks.getD 1 .no).at 6),5,false⟩
 else if k=10 then⟨[108,101,116,32]++(n++([32,61,32]++((ks.getD 0 .no).at 0++([32,105,110,32]++(ks.getD 1 .no).at 0)))),0,false⟩
 else if k=11 then⟨[108,101,116,32,114,101,99,32]++(n++(32::(t++([32,61,32]++((ks.getD 0 .no).at 0++([32,105,110,32]++(ks.getD 1 .no).at 0)))))),0,false⟩
 else if k=8 then⟨[102,117,110,32]++(n++([32,45,62,32]++(ks.getD 0 .no).at 0)),0,false⟩
 else if k=12 then⟨[105,102,32]++((ks.getD 0 .no).at 0++([32,116,104,101,110,32]++((ks.getD 1 .no).at 0++([32,101,108,115,101,32]++(ks.getD 2 .no).at 0)))),0,false⟩
 else⟨[109,97,116,99,104,32]++((ks.getD 0 .no).at 0++([32,119,105,116,104]++((aM.map iZ).flatten++[32,101,110,100]))),0,false⟩
mutual
def aa.kf:aa->KF
 | .mk k n u t p ks aM=>dP k n u t (aa.cW ks) (aa.zI aM)
def aa.cW:List aa->List KF
 |[]=>[]
 |t::l=>t.kf::aa.cW l
def al.kf:al->List UInt8×KF
 | .mk p e=>(p.kf.at 0,e.kf)
def aa.zI:List al->List (List UInt8×KF)
 |[]=>[]
 |t::l=>t.kf::aa.zI l
end
def ah.form (c:ah):List UInt8:=c.name++(if c.has then[32,111,102,32]++c.arg.kf.at 0 else[])
def ai.form (d:ai):List UInt8:=[116,121,112,101,32]++((d.vars.map fun v=>39::(v++[32])).flatten++(d.name++([32,61,32]++(bF [32,124,32] (d.ctors.map ah.form)++[59,10]))))
def bb.form (g:bb):List UInt8:=(g.types.map ai.form).flatten++(g.body.kf.at 0++[10])
def bb.print (g:bb):List UInt8:=if g.okB then g.form else[]
theorem af.cY (l:List af):af.cW l=l.map af.kf:=by
 induction l with
 |nil=>rfl
 |cons t l ih=>rw[af.cW,ih];rfl
theorem ae.cY (l:List ae):ae.cW l=l.map ae.kf:=by
 induction l with
 |nil=>rfl
 |cons t l ih=>rw[ae.cW,ih];rfl
theorem aa.cY (l:List aa):aa.cW l=l.map aa.kf:=by
 induction l with
 |nil=>rfl
 |cons t l ih=>rw[aa.cW,ih];rfl
theorem aa.vi (l:List al):aa.zI l=l.map al.kf:=by
 induction l with
 |nil=>rfl
 |cons t l ih=>rw[aa.zI,ih];rfl
theorem vj:∀(d n:Nat),n<10^(d+1)→(jO n).length≤d+1
  |0,n,h=>by rw[jO,dif_pos (by simpa using h)];simp
  |d+1,n,h=>by
   rw[jO];split
   · simp
   · have :=vj d (n/10) (by rw[Nat.pow_succ]at h;omega)
     simp;omega
theorem uz (s:List UInt8):(pC s).length≤2*s.length+2:=by
  have :((s.map cS).flatten).length≤2*s.length:=by
    induction s with
    |nil=>simp
    |cons c s ih=>
     rw[List.map_cons,List.flatten_cons,List.length_append,List.length_cons];have :(cS c).length≤2:=by unfold cS;(repeat' split)<;>simp
     omega
  unfold pC;rw[List.length_cons,List.length_append,List.length_singleton];omega
theorem zJ (u:Int):(kS u).length<=5:=by unfold kS;split <;>simp
theorem TI (s:List UInt8) (l a:Int):(gx s l a).length<=s.length+2/\s.length<=(gx s l a).length:=by unfold gx;split <;>simp <;>omega
theorem cK (x:KF) (a:Int):(x.at a).length<=x.f.length+2/\x.f.length<=(x.at a).length:=TI _ _ _
mutual
def ae.fit:ae->Prop
 | .mk k n u p ks=>u<=9223372036854775807/\ae.jz ks
def ae.jz:List ae->Prop
 |[]=>True
 |t::l=>t.fit/\ae.jz l
end
mutual
def aa.fit:aa->Prop
 | .mk k n u t p ks aM=>u<=9223372036854775807/\aa.jz ks/\aa.sM aM
def aa.jz:List aa->Prop
 |[]=>True
 |t::l=>t.fit/\aa.jz l
def al.fit:al->Prop
 | .mk p e=>p.fit/\e.fit
def aa.sM:List al->Prop
 |[]=>True
 |t::l=>t.fit/\aa.sM l
end
theorem ae.mT {x:ae}:∀{l:List ae},ae.jz l→x∈l→x.fit
  |[],_,h=>by cases h
  |a::l,hf,h=>by
   rw[ae.jz]at hf;rcases List.mem_cons.1 h with rfl|h
   · exact hf.1
   · exact ae.mT hf.2 h
theorem aa.mT {x:aa}:∀{l:List aa},aa.jz l→x∈l→x.fit
  |[],_,h=>by cases h
  |a::l,hf,h=>by
   rw[aa.jz]at hf;rcases List.mem_cons.1 h with rfl|h
   · exact hf.1
   · exact aa.mT hf.2 h
theorem aa.zK {x:al}:∀{l:List al},aa.sM l→x∈l→x.fit
  |[],_,h=>by cases h
  |a::l,hf,h=>by
   rw[aa.sM]at hf;rcases List.mem_cons.1 h with rfl|h
   · exact hf.1
   · exact aa.zK hf.2 h
def wK:List KF->Nat
 |[]=>0
 |a::l=>a.f.length+20+wK l
theorem wK3 (l:List KF):(l.getD 0 .no).f.length+(l.getD 1 .no).f.length+(l.getD 2 .no).f.length<=wK l:=by
 rcases l with _|⟨a,_|⟨b,_|⟨c,l⟩⟩⟩<;>simp[wK,KF.no]<;>omega
theorem TJ {x:KF}:∀{l:List KF},x∈l→x.f.length≤wK l
  |[],h=>by cases h
  |a::l,h=>by
   rw[wK];rcases List.mem_cons.1 h with rfl|h
   · omega
   · have :=TJ h;omega
theorem iv (sep:List UInt8) (hs:sep.length≤10) (a:Int):∀l:List KF,(bF sep (l.map (·.at a))).length≤wK l
  |[]=>by simp[bF]
  |[x]=>by have :=(cK x a).1;simp only[List.map_cons,List.map_nil,bF,wK];omega
  |x::y::l=>by
   have h1:=(cK x a).1;have h2:=iv sep hs a (y::l);show(x.at a++(sep++bF sep ((y::l).map (·.at a)))).length≤_;rw[wK];simp only[List.length_append];omega
theorem w8 (a:Int):∀l:List KF,((l.map fun x=>32::x.at a).flatten).length≤wK l
  |[]=>by simp
  |x::l=>by
   have h1:=(cK x a).1;have h2:=w8 a l;rw[List.map_cons,List.flatten_cons,wK,List.length_append,List.length_cons];omega
theorem CI {u:Int} (h:u<=9223372036854775807):(qf u).length<=20:=vj 19 _ (by omega)
theorem TL (k:Int) (n:List UInt8) (ks:List KF):(vD k n ks).f.length<=n.length+wK ks+30:=by
 have h3:=wK3 ks;have a0:=fun a=>(cK (ks.getD 0 .no) a).1
 have a1:=fun a=>(cK (ks.getD 1 .no) a).1
 have hj:=iv [32,42,32] (by decide) 2 ks;have hf:=w8 3 ks;have:=a0 1;have:=a0 3;have:=a1 0;unfold vD
 repeat' split
 all_goals (try simp only[List.length_append,List.length_cons,List.length_nil]at *)
 all_goals omega
mutual
theorem af.jj:∀t:af,t.kf.f.length≤100*t.sz+30
  | .mk k n p ks=>by
    have :=af.gy ks;have :=TL k n (af.cW ks);rw[af.kf,af.sz];omega
theorem af.gy:∀l:List af,wK (af.cW l)≤100*af.fh l
  |[]=>by simp[af.cW,wK]
  |t::l=>by
   have :=af.jj t;have :=af.gy l;rw[af.cW,wK,af.fh];omega
end
theorem Og (k:Int) (n:List UInt8) {u:Int} (hu:u<=9223372036854775807) (ks:List KF):(kZ k n u ks).f.length<=n.length+wK ks+30:=by
 have h3:=wK3 ks;have a0:=fun a=>(cK (ks.getD 0 .no) a).1
 have hj:=iv [44,32] (by decide) 0 ks;have:=CI hu;have:=zJ u;have:=a0 1;unfold kZ
 repeat' split
 all_goals (try simp only[List.length_append,List.length_cons,List.length_nil]at *)
 all_goals omega
mutual
theorem ae.jj:∀t:ae,t.fit→t.kf.f.length≤100*t.sz+30
  | .mk k n u p ks,h=>by
    rw[ae.fit]at h;have :=ae.gy ks h.2;have :=Og k n h.1 (ae.cW ks);rw[ae.kf,ae.sz];omega
theorem ae.gy:∀l:List ae,ae.jz l→wK (ae.cW l)≤100*ae.fh l
  |[],_ =>by simp[ae.cW,wK]
  |t::l,h=>by
   rw[ae.jz]at h;have :=ae.jj t h.1;have :=ae.gy l h.2;rw[ae.cW,wK,ae.fh];omega
end
def wA:List (List UInt8×KF)->Nat
 |[]=>0
 |a::l=>a.1.length+a.2.f.length+20+wA l
theorem vk:∀l:List (List UInt8×KF),((l.map iZ).flatten).length≤wA l
  |[]=>by simp
  |x::l=>by
   have h1:=(cK x.2 0).1;have h2:=vk l;rw[List.map_cons,List.flatten_cons,wA,List.length_append,iZ];simp only[List.length_append,List.length_cons,List.length_nil];omega
theorem adI {c:Prop} [Decidable c] {a b:KF} {B:Nat} (h1:a.f.length<=B) (h2:b.f.length<=B):(if c then a else b).f.length<=B:=by split <;>assumption
theorem Oh (k:Int) (n:List UInt8) {u:Int} (hu:u<=9223372036854775807) (t:List UInt8) (ks:List KF) (aM:List (List UInt8×KF)):(dP k n u t ks aM).f.length<=n.length+2*t.length+wK ks+wA aM+30:=by
 have h3:=wK3 ks;have a0:=fun a=>(cK (ks.getD 0 .no) a).1
 have a1:=fun a=>(cK (ks.getD 1 .no) a).1
 have a2:=fun a=>(cK (ks.getD 2 .no) a).1
 have hj:=iv [44,32] (by decide) 0 ks;have hA:=vk aM;have:=CI hu;have:=zJ u;have:=uz t;have:=a0 0;have:=a1 0;have:=a2 0;have:=a0 6;have:=a1 6;have:=a0 7;have:=a0 5;have:=a0 (iR n).2.1;have:=a1 (iR n).2.2;unfold dP
 repeat' refine adI ?_ ?_
 all_goals (try split)
 all_goals (try simp only[List.length_append,List.length_cons,List.length_nil]at *)
 all_goals omega
mutual
theorem aa.jj:∀t:aa,t.fit→t.kf.f.length≤100*t.sz+30
  | .mk k n u t p ks aM,h=>by
    rw[aa.fit]at h;have :=aa.gy ks h.2.1;have :=aa.uA aM h.2.2;have :=Oh k n h.1 t (aa.cW ks) (aa.zI aM);rw[aa.kf,aa.sz];omega
theorem aa.gy:∀l:List aa,aa.jz l→wK (aa.cW l)≤100*aa.fh l
  |[],_ =>by simp[aa.cW,wK]
  |t::l,h=>by
   rw[aa.jz]at h;have :=aa.jj t h.1;have :=aa.gy l h.2;rw[aa.cW,wK,aa.fh];omega
theorem aa.uA:∀l:List al,aa.sM l→wA (aa.zI l)≤100*aa.Dt l
  |[],_ =>by simp[aa.zI,wA]
  | .mk p e::l,h=>by
    rw[aa.sM,al.fit]at h;have :=ae.jj p h.1.1;have :=(cK p.kf 0).1;have :=aa.jj e h.1.2;have :=aa.uA l h.2;rw[aa.zI,wA,aa.Dt,al.kf,al.sz];simp only;omega
end
abbrev TK:=Int×List UInt8×Int
def Tok.b (x:Tok):TK:=(x.k,x.t,x.n)
def fK (s:List UInt8):TK:=(6,s,0)
def cf (s:List UInt8):TK:=(7,s,0)
def w9 (s:List UInt8):TK:=(3,s,0)
def zL (s:List UInt8):TK:=(4,s,0)
def Dz (s:List UInt8):TK:=(5,s,0)
def tkN (u:Int):TK:=(1,[],u)
def tkT (s:List UInt8):TK:=(2,s,0)
def xa:List UInt8->Bool
 |[]=>true
 |c::_=>!cx c&&(decide (c≠61)&&decide (c≠62))
def TM (s:List UInt8) (most i n:Nat) (ts:List TK) (out:List Tok):Prop :=
 (out.length+ts.length<=most/\∃L:List Tok,L.map Tok.b=ts/\eB s most i out=eB s most (i+n) (out++L))\/(most<out.length+ts.length/\∃p,eB s most i out=.inr (5,p))
def xb (g:List UInt8->Bool) (a:List UInt8) (ts:List TK):Prop :=
 ∀(s:List UInt8) (i:Nat) (b:List UInt8) (out:List Tok) (most:Nat),s.drop i=a++b->g b=true->out.length<=most->TM s most i a.length ts out
def agK (_:List UInt8):Bool:=true
abbrev Lx:=xb xa
abbrev pD:=xb agK
theorem TM.cat {s:List UInt8} {most i n m:Nat} {ts us:List TK} {out:List Tok} (h:TM s most i n ts out) (k:∀L:List Tok,L.map Tok.b=ts->out.length+ts.length<=most->TM s most (i+n) m us (out++L)):TM s most i (n+m) (ts++us) out:=by
 rcases h with⟨h1,L,h2,h3⟩|⟨h1,p,h2⟩
 ·have hl:L.length=ts.length:=by rw[<-h2];simp
  rcases k L h2 h1 with⟨k1,M,k2,k3⟩|⟨k1,p,k2⟩
  ·refine .inl ⟨by simp at k1⊢;omega,L++M,by simp[h2,k2],?_⟩
   rw[h3,k3,Nat.add_assoc,List.append_assoc]
  ·exact .inr ⟨by simp at k1⊢;omega,p,by rw[h3,k2]⟩
 ·exact .inr ⟨by simp;omega,p,h2⟩
theorem jB {s:List UInt8} {i:Nat} {a b:List UInt8} (h:s.drop i=a++b):s.drop (i+a.length)=b:=by
 rw[<-List.drop_drop,h,List.drop_left]
theorem TN {b c:List UInt8} (hb:xa b=true) (hc:xa c=true):xa (b++c)=true:=by
 cases b with
 |nil=>exact hc
 |cons x b=>exact hb
theorem jP {a b:List UInt8} {ts us:List TK} (h:Lx a ts) (hb:xa b=true) (k:Lx b us):Lx (a++b) (ts++us):=fun s i c out most hd hg hl=>by
 rw[List.append_assoc]at hd;rw[List.length_append];refine(h s i _ out most hd (TN hb hg) hl).cat fun L h1 h2=>k s _ c _ most (jB hd) hg ?_
 rw[List.length_append,show L.length=ts.length by rw[<-h1];simp];exact h2
theorem pE {g} {a b:List UInt8} {ts us:List TK} (h:pD a ts) (k:xb g b us):xb g (a++b) (ts++us):=fun s i c out most hd hg hl=>by
 rw[List.append_assoc]at hd;rw[List.length_append];refine(h s i _ out most hd rfl hl).cat fun L h1 h2=>k s _ c _ most (jB hd) hg ?_
 rw[List.length_append,show L.length=ts.length by rw[<-h1];simp];exact h2
theorem yj {a b:List UInt8} {ts us:List TK} (h:Lx a ts) (hb:∀c,xa (b++c)=true) (k:pD b us):pD (a++b) (ts++us):=fun s i c out most hd _ hl=>by
 rw[List.append_assoc]at hd;rw[List.length_append];refine(h s i _ out most hd (hb c) hl).cat fun L h1 h2=>k s _ c _ most (jB hd) rfl ?_
 rw[List.length_append,show L.length=ts.length by rw[<-h1];simp];exact h2
theorem xb.qg {a:List UInt8} {ts:List TK} (h:pD a ts) {g}:xb g a ts:=fun s i b out most hd _ hl=>h s i b out most hd rfl hl
theorem sg {g}:xb g [] []:=fun s i b out most hd hg hl=>.inl ⟨by simpa using hl,[],rfl,by simp⟩
theorem jk {s:List UInt8} {i:Nat} {c:UInt8} {a:List UInt8} (h:s.drop i=c::a):∃hi:i<s.length,s[i]=c:=by
 have hi:i<s.length:=by
  have:=congrArg List.length h;simp at this;omega
 rw[B9 hi]at h;exact⟨hi,(List.cons.inj h).1⟩
theorem vl {c:UInt8} (hc:blank c=true):pD [c] []:=fun s i b out most hd hg hl=>by
 obtain⟨hi,rfl⟩:=jk hd;exact .inl ⟨by simpa using hl,[],rfl,by rw[kC hi hc,List.append_nil];rfl⟩
theorem yk {g} {a:List UInt8} {t:TK} {c:UInt8} {a':List UInt8} (ha:a=c::a') (hb:blank c=false) (hh:¬(c.toNat:Int)=35)
  (ht:∀(s:List UInt8) (i:Nat) (b:List UInt8),s.drop i=a++b->g b=true->∃x:Tok,x.b=t/\jY s i c=.inl (x,i+a.length)):xb g a [t]:=fun s i b out most hd hg hl=>by
 obtain⟨x,h1,h2⟩:=ht s i b hd hg;have kz:=hd;rw[ha]at kz;obtain⟨hi,rfl⟩:=jk kz;rcases Nat.lt_or_ge out.length most with h|h
 ·exact .inl ⟨h,[x],by simp[h1],by rw[rU hi hb hh h2 (by omega)]⟩
 ·exact .inr ⟨by simp;omega,i,tW hi hb hh h2 (by omega)⟩
theorem EE {q:UInt8→Bool} {b:List UInt8} (hb:∀c b',b=c::b'→q c=false):∀a:List UInt8,a.all q=true →ow q (a++b)=a.length
  |[],_ =>by
   cases b with
   |nil=>rfl
   |cons c b=>simp[ow,hb c b rfl]
  |x::a,h=>by
   rw[List.all_cons,Bool.and_eq_true]at h;rw[List.cons_append,ow,if_pos h.1,EE hb a h.2];rfl
theorem rk {q:UInt8→Bool}:∀{a:List UInt8},ow q a=a.length→a.all q=true
  |[],_ =>rfl
  |x::a,h=>by
   rw[ow]at h;split at h
   · rename_i hx
     rw[List.all_cons,hx,rk (by simpa using h)];rfl
   · simp at h
theorem CJ {q:UInt8->Bool} {s:List UInt8} {i:Nat} {a b:List UInt8} (hd:s.drop i=a++b) (ha:a.all q=true) (hb:∀c b',b=c::b'->q c=false):bz q s i=i+a.length:=by
 unfold bz;rw[hd,EE hb a ha]
theorem MP {b:List UInt8} (h:xa b=true):∀c b',b=c::b'->cx c=false:=by
 rintro c b' rfl;simp only[xa,Bool.and_eq_true,Bool.not_eq_true']at h;exact h.1
theorem adJ {c:UInt8} (h:cx c=false):eH c=false:=by
 simp only[cx,Bool.or_eq_false_iff]at h;exact h.1.2
theorem uB {q:UInt8→Bool} {s:List UInt8} (h:nM q s=true):∃c s',s=c::s'∧q c=true ∧s.all cx=true ∧s.length≤12:=by
  cases s with
  |nil=>cases h
  |cons c s=>
   simp only[nM,Bool.and_eq_true,decide_eq_true_eq]at h;refine⟨c,s,rfl,h.2.1,rk ?_,h.1⟩;have :=h.2.2;simpa[bz]using this
theorem CK {s:List UInt8} {i f:Nat} {c:UInt8} {a b:List UInt8} (hd:s.drop f=a++b) (ha:a.all cx=true) (hl:a.length<=12) (hb:xa b=true):
  jG s i c f=.inl (⟨if(c.toNat:Int)=39 then 5 else if fG c then 4 else if isKey a then 6 else 3,a,0,i⟩,f+a.length):=by
 unfold jG;rw[CJ hd ha (MP hb),Nat.add_sub_cancel_left,if_neg (by omega),hd,List.take_left]
theorem zM {a:List UInt8} {q:UInt8->Bool} (hq:∀c,q c=true->eP c=true\/fG c=true) (h:nM q a=true):Lx a [(if q (a.headD 0)&&fG (a.headD 0)then 4 else if isKey a then 6 else 3,a,0)]:=by
 obtain⟨c,a',rfl,h1,h2,h3⟩:=uB h;have hc:eP c=true\/fG c=true:=hq c h1
 have hcn:65<=c.toNat/\c.toNat<=90\/97<=c.toNat/\c.toNat<=122:=by
  simp only[eP,fG,Bool.and_eq_true,decide_eq_true_eq]at hc;omega
 refine yk rfl (by simp only[blank,Bool.or_eq_false_iff,decide_eq_false_iff_not];omega) (by omega) fun s i b hd hb=>?_
 refine⟨⟨if(c.toNat:Int)=39 then 5 else if fG c then 4 else if isKey (c::a')then 6 else 3,c::a',0,i⟩,?_,?_⟩;rotate_left
 ·have e1:eH c=false:=by simp only[eH,Bool.and_eq_false_iff,decide_eq_false_iff_not];omega
  have e2:(eP c||fG c||tick s i c)=true:=by rcases hc with h|h<;>simp[h]
  unfold jY fi;rw[e1,if_neg (by simp),if_pos e2,if_neg (by omega)];exact CK hd h2 h3 hb
 ·simp only[Tok.b,List.headD_cons,h1,Bool.true_and]
  rw[if_neg (by omega)]
theorem qh {a:List UInt8} (h:nN a=true):Lx a [w9 a]:=by
 simp only[nN,Bool.and_eq_true,Bool.not_eq_true']at h;have:=zM (q:=eP) (fun c hc=>.inl hc) h.1;obtain⟨c,a',rfl,h1,-,-⟩:=uB h.1;have e:fG c=false:=by simp only[eP,fG,Bool.and_eq_true,Bool.and_eq_false_iff,decide_eq_true_eq,decide_eq_false_iff_not]at h1⊢;omega
 simpa[e,h.2,w9]using this
theorem CL {a:List UInt8} (h:F3 a=true):Lx a [zL a]:=by
 have:=zM (q:=fG) (fun c hc=>.inr hc) h;obtain⟨c,a',rfl,h1,-,-⟩:=uB h;simpa[h1,zL]using this
theorem Yg {a:List UInt8} (h:isKey a=true):nM eP a=true:=by
 simp only[isKey,decide_eq_true_eq,keys,List.mem_cons,List.not_mem_nil,or_false]at h;rcases h with rfl|rfl|rfl|rfl|rfl|rfl|rfl|rfl|rfl|rfl|rfl|rfl|rfl|rfl|rfl|rfl|rfl|rfl|rfl<;>decide
theorem nk {a:List UInt8} (h:isKey a=true):Lx a [fK a]:=by
 have h0:=Yg h;have:=zM (q:=eP) (fun c hc=>.inl hc) h0;obtain⟨c,a',rfl,h1,-,-⟩:=uB h0;have e:fG c=false:=by simp only[eP,fG,Bool.and_eq_true,Bool.and_eq_false_iff,decide_eq_true_eq,decide_eq_false_iff_not]at h1⊢;omega
 simpa[e,h,fK]using this
theorem MQ {a:List UInt8} (h:nM eP a=true):Lx (39::a) [Dz a]:=by
 obtain⟨c,a',rfl,h1,h2,h3⟩:=uB h;refine yk rfl (by decide) (by decide) fun s i b hd hb=>?_
 refine⟨⟨5,c::a',0,i⟩,rfl,?_⟩;have od:s.drop (i+1)=(c::a')++b:=jB (a:=[39]) hd
 have e2:(eP 39||fG 39||tick s i 39)=true:=by
  obtain⟨hi,hc⟩:=jk od
  have:tick s i 39=true:=by
   simp only[tick,Bool.and_eq_true,decide_eq_true_eq];exact⟨by decide,hi,by rw[List.getD_eq_getElem?_getD,List.getElem?_eq_getElem hi,hc];exact h1⟩
  simp[this]
 unfold jY fi;rw[if_neg (by decide),if_pos e2,if_pos (by decide),CK od h2 h3 hb];simp only[List.length_cons];refine congrArg Sum.inl (Prod.ext ?_ (by simp only[];omega));simp
theorem sh {d:Nat} (h:d<10):(UInt8.ofNat (48+d)).toNat=48+d:=by
 simp[UInt8.toNat_ofNat'];omega
theorem MS {d:Nat} (h:d<10):eH (UInt8.ofNat (48+d))=true:=by
 simp only[eH,sh h,Bool.and_eq_true,decide_eq_true_eq];omega
theorem TO:∀n:Nat,(jO n).all eH=true :=by
  intro n
  induction n using Nat.strongRecOn with
  |ind n ih=>
   rw[jO];split
   · rename_i h;rw[List.all_cons,List.all_nil,MS h];rfl
   · rw[List.all_append,ih _ (by omega),List.all_cons,List.all_nil,MS (show n % 10<10 by omega)];rfl
theorem rm:∀(a b:List UInt8) (n:Nat),fo (a++b) n=fo b (fo a n)
 |[],b,n=>rfl
 |c::a,b,n=>by rw[List.cons_append,fo,rm a b];rfl
theorem Oi:∀n:Nat,fo (jO n) 0=n:=by
  intro n
  induction n using Nat.strongRecOn with
  |ind n ih=>
   rw[jO];split
   · rename_i h;simp only[fo,sh h];omega
   · rw[rm,ih _ (by omega)]
     simp only[fo,sh (show n % 10<10 by omega)];omega
theorem K7:∀n:Nat,0<n→∃c l,jO n=c::l∧c.toNat≠48:=by
  intro n
  induction n using Nat.strongRecOn with
  |ind n ih=>
   intro h0;rw[jO];split
   · rename_i h;exact⟨_,_,rfl,by rw[sh h];omega⟩
   · obtain⟨c,l,h1,h2⟩:=ih (n/10) (by omega) (by omega)
     exact⟨c,l++_,by rw[h1];rfl,h2⟩
theorem MT {u:Int} (h0:0<=u) (h:u<=9223372036854775807):Lx (qf u) [tkN u]:=by
 unfold qf;have hd:=TO u.toNat;have hv:=Oi u.toNat;rcases hf:jO u.toNat with _|⟨c,l⟩
 ·rw[hf]at hv
  rw[jO]at hf;split at hf<;>simp at hf
 rw[hf]at hd hv;have hc:eH c=true:=by simp at hd;exact hd.1
 have hcn:48<=c.toNat/\c.toNat<=57:=by
  simp only[eH,Bool.and_eq_true,decide_eq_true_eq]at hc;omega
 refine yk rfl (by simp only[blank,Bool.or_eq_false_iff,decide_eq_false_iff_not];omega) (by omega) fun s i b hs hb=>?_
 refine⟨⟨1,[],u,i⟩,rfl,?_⟩;unfold jY sJ;rw[if_pos hc];simp only[CJ hs hd (fun c b' hc=>adJ (MP hb c b' hc)),Nat.add_sub_cancel_left,hs,List.take_left,hv];rw[if_neg]
 ·refine congrArg Sum.inl (Prod.ext ?_ rfl)
  simp only[Int.toNat_of_nonneg h0]
 ·rintro(h1|⟨h1,h2⟩)
  ·unfold gT at h1;omega
  ·rcases Nat.eq_zero_or_pos u.toNat with h3|h3
   ·rw[h3]at hf
    have:jO 0=[48]:=by rw[jO];rfl
    rw[this]at hf;cases hf;simp at h1
   ·obtain⟨c',l',h4,h5⟩:=K7 _ h3
    rw[hf]at h4;cases h4;exact h5 (by omega)
theorem CM:∀(t:List UInt8) (s:List UInt8) (j:Nat) (b out:List UInt8),nj t=true →s.drop j=(t.map cS).flatten++(34::b)→gn s j out=some (out++t,j+(t.map cS).flatten.length+1)
  |[],s,j,b,out,_,hd=>by
   obtain⟨hj,hc⟩:=jk hd
   rw[gn,dif_pos hj,hc,if_pos (by decide)];simp
  |c::t,s,j,b,out,hp,hd=>by
   simp only[nj,List.all_cons,Bool.and_eq_true]at hp;have ih:=fun j' agL kz=>CM t s j' b agL hp.2 kz
   rw[List.map_cons,List.flatten_cons,List.append_assoc]at hd;rw[List.map_cons,List.flatten_cons,List.length_append];by_cases h1:(c.toNat:Int)=10
   · have eq:cS c=[92,110]:=by unfold cS;rw[if_pos h1]
     rw[eq]at hd⊢;obtain⟨hj,hc⟩:=jk hd;have od:s.drop (j+1)=[110]++((t.map cS).flatten++(34::b)):=jB (a:=[92]) hd;obtain⟨F2,XS⟩:=jk od;rw[gn,dif_pos hj,hc,if_neg (by decide),if_pos (by decide),dif_pos F2,XS,if_pos (by decide),ih (j+2) _ (jB (a:=[92,110]) hd)];have :c=10:=by apply UInt8.toNat_inj.1;simpa using Int.ofNat.inj h1
     subst this;simp only[List.append_assoc,List.singleton_append,List.length_cons,List.length_nil];congr 2;omega
   by_cases h2:(c.toNat:Int)=34∨(c.toNat:Int)=92
   · have eq:cS c=[92,c]:=by unfold cS;rw[if_neg h1,if_pos h2]
     rw[eq]at hd⊢;obtain⟨hj,hc⟩:=jk hd;have od:s.drop (j+1)=[c]++((t.map cS).flatten++(34::b)):=jB (a:=[92]) hd;obtain⟨F2,XS⟩:=jk od;rw[gn,dif_pos hj,hc,if_neg (by decide),if_pos (by decide),dif_pos F2,XS,if_neg (by omega),if_pos h2,ih (j+2) _ (jB (a:=[92,c]) hd)];simp only[List.append_assoc,List.singleton_append,List.length_cons,List.length_nil];congr 2;omega
   have eq:cS c=[c]:=by unfold cS;rw[if_neg h1,if_neg h2]
   rw[eq]at hd⊢;obtain⟨hj,hc⟩:=jk hd
   have qz:qZ c=true :=by
     have :=hp.1;simp only[AY,Bool.or_eq_true,decide_eq_true_eq]at this;rcases this with h|h
     · exact h
     · exact(h1 h).elim
   rw[gn,dif_pos hj,hc,if_neg (by omega),if_neg (by omega),if_pos qz,ih (j+1) _ (jB (a:=[c]) hd)];simp only[List.append_assoc,List.singleton_append,List.length_cons,List.length_nil];congr 2;omega
theorem Yh {t:List UInt8} (h:nj t=true):pD (pC t) [tkT t]:=by
 refine yk rfl (by decide) (by decide) fun s i b hd _=>?_
 refine⟨⟨2,t,0,i⟩,rfl,?_⟩
 have od:s.drop (i+1)=(t.map cS).flatten++(34::b):=by
  have:=jB (a:=[34]) (b:=((t.map cS).flatten++[34])++b) hd;rw[List.append_assoc]at this;exact this
 have e2:tick s i 34=false:=by simp[tick]
 unfold jY q9;rw[if_neg (by decide),e2,if_neg (by decide),if_pos (by decide),CM t s _ b [] h od];simp only[List.nil_append,pC,List.length_cons,List.length_append,List.length_nil];congr 2;omega
theorem Bd {g} {a:List UInt8} {c:UInt8} {a':List UInt8} (ha:a=c::a') (hb:blank c=false) (hh:¬(c.toNat:Int)=35) (hd:eH c=false) (hs:eP c=false) (hg:fG c=false) (ht:¬(c.toNat:Int)=39) (hq:¬(c.toNat:Int)=34)
  (hl:∀b:List UInt8,g b=true->eQ (a++b) bE=a):xb g a [cf a]:=by
 refine yk ha hb hh fun s i b kz IV=>?_
 refine⟨⟨7,a,0,i⟩,rfl,?_⟩;have e2:tick s i c=false:=by simp[tick,ht]
 unfold jY o9;simp only[hd,hs,hg,e2,Bool.or_false,if_neg hq,kz,hl b IV,Bool.false_eq_true,if_false];rw[if_neg (by rw[ha];simp)]
theorem zN:pD [45,62] [cf [45,62]]:=Bd rfl (by decide) (by decide) (by decide) (by decide) (by decide) (by decide) (by decide) fun b _=>by simp[eQ,bE,preB]
theorem Yi:pD [58,61] [cf [58,61]]:=Bd rfl (by decide) (by decide) (by decide) (by decide) (by decide) (by decide) (by decide) fun b _=>by simp[eQ,bE,preB]
theorem Oj:Lx [45] [cf [45]]:=Bd rfl (by decide) (by decide) (by decide) (by decide) (by decide) (by decide) (by decide) fun b hb=>by
 have:∀c b',b=c::b'->¬c=62:=by
  rintro c b' rfl;simp only[xa,Bool.and_eq_true,decide_eq_true_eq]at hb;exact hb.2.2
 cases b with
 |nil=>decide
 |cons c b=>simp[eQ,bE,preB,this c b rfl]
theorem gP {c:UInt8} (h:c∈([61,60,43,42,94,59,124,40,41,44,95,33]:List UInt8)):pD [c] [cf [c]]:=by
 simp only[List.mem_cons,List.not_mem_nil,or_false]at h
 rcases h with rfl|rfl|rfl|rfl|rfl|rfl|rfl|rfl|rfl|rfl|rfl|rfl<;>
  exact Bd rfl (by decide) (by decide) (by decide) (by decide) (by decide) (by decide) (by decide) fun b _=>by simp[eQ,bE,preB]
theorem pF {g} {b:List UInt8} {us:List TK} (h:xb g b us):xb g (32::b) us:=pE (a:=[32]) (ts:=[]) (vl (by decide)) h
theorem Be {a:List UInt8} {ts:List TK} (h:Lx a ts):pD (a++[32]) ts:=by
 have:=yj (b:=[32]) (us:=[]) h (fun c=>by rfl) (vl (by decide));simpa using this
theorem Yj {n:List UInt8} (h:Az n=true):Lx n [cf n]:=by
 simp only[Az,decide_eq_true_eq,List.mem_cons,List.not_mem_nil,or_false]at h;rcases h with rfl|rfl|rfl|rfl|rfl|rfl|rfl
 ·exact(gP (by decide)).qg
 ·exact Oj
 ·exact(gP (by decide)).qg
 ·exact(gP (by decide)).qg
 ·exact(gP (by decide)).qg
 ·exact(gP (by decide)).qg
 ·exact Yi.qg
structure TF where
 f:List TK
 l:Int
 b:Bool
 q:Nat
def TF.at (y:TF) (a:Int):List TK:=if y.l<a then cf [40]::(y.f++[cf [41]])else y.f
def TF.qa (y:TF) (a:Int):Nat:=if y.l<a then y.q+1 else y.q
def TF.no:TF:=⟨[],0,false,0⟩
def kT (sep:TK):List (List TK)->List TK
 |[]=>[]
 |[a]=>a
 |a::l=>a++(sep::kT sep l)
def fV {α:Type} (f:α->Nat):List α->Nat
 |[]=>0
 |a::l=>max (f a) (fV f l)
def uC (k:Int) (n:List UInt8) (ks:List TF):TF:=
 if k=3 then⟨(ks.getD 0 .no).at 1++(cf [45,62]::(ks.getD 1 .no).at 0),0,false,max ((ks.getD 0 .no).qa 1) ((ks.getD 1 .no).qa 0+1)⟩
 else if k=4 then⟨kT (cf [42]) (ks.map (·.at 2)),1,false,fV (·.qa 2) ks⟩
 else if k=5 then⟨fK [114,101,102]::(ks.getD 0 .no).at 3,2,false,(ks.getD 0 .no).qa 3⟩
 else if k=2 then⟨[Dz n],3,false,0⟩
 else⟨w9 n::(ks.map (·.at 3)).flatten,if ks.length=0 then 3 else 2,false,fV (·.qa 3) ks⟩
mutual
def af.tf:af->TF
 | .mk k n p ks=>uC k n (af.lp ks)
def af.lp:List af->List TF
 |[]=>[]
 |t::l=>t.tf::af.lp l
end
def nP (k:Int) (n:List UInt8) (u:Int) (ks:List TF):TF:=
 if k=2 then⟨[w9 n],1,false,0⟩
 else if k=3 then⟨[tkN u],1,false,0⟩
 else if k=4 then⟨[fK (kS u)],1,false,0⟩
 else if k=5 then⟨[cf [40],cf [41]],1,false,0⟩
 else if k=6 then⟨cf [40]::(kT (cf [44]) (ks.map (·.at 0))++[cf [41]]),1,false,fV (·.qa 0+1) ks⟩
 else if k=7 then(if ks.length=0 then⟨[zL n],1,false,0⟩else⟨zL n::(ks.getD 0 .no).at 1,0,false,(ks.getD 0 .no).qa 1⟩)
 else⟨[cf [95]],1,false,0⟩
mutual
def ae.tf:ae->TF
 | .mk k n u p ks=>nP k n u (ae.lp ks)
def ae.lp:List ae->List TF
 |[]=>[]
 |t::l=>t.tf::ae.lp l
end
def AD (a:TF×TF):List TK:=cf [124]::(a.1.at 0++(cf [45,62]::a.2.at 0))
def F4 (n:List UInt8):TK:=if n=[33]then cf n else fK n
def gi (k:Int) (n:List UInt8) (u:Int) (t:List UInt8) (ks:List TF) (aM:List (TF×TF)):TF:=
 if k=1 then⟨[tkN u],6,false,0⟩
 else if k=2 then⟨[tkT t],6,false,0⟩
 else if k=3 then⟨[fK (kS u)],6,false,0⟩
 else if k=4 then⟨[cf [40],cf [41]],6,false,0⟩
 else if k=5 then⟨[w9 n],6,false,0⟩
 else if k=7 then⟨cf [40]::(kT (cf [44]) (ks.map (·.at 0))++[cf [41]]),6,false,fV (·.qa 0+1) ks⟩
 else if k=14 then⟨(ks.getD 0 .no).at (iR n).2.1++(cf n::(ks.getD 1 .no).at (iR n).2.2),(iR n).1,false,max ((ks.getD 0 .no).qa (iR n).2.1) ((ks.getD 1 .no).qa (iR n).2.2)⟩
 else if k=6\/k=15 then(if ks.length=0 then⟨[if k=6 then zL n else F4 n],6,decide (k=6),0⟩else⟨(if k=6 then zL n else F4 n)::(ks.getD 0 .no).at 6,5,false,(ks.getD 0 .no).qa 6⟩)
 else if k=9 then⟨(ks.getD 0 .no).at (if(ks.getD 0 .no).b then 7 else 5)++(ks.getD 1 .no).at 6,5,false,max ((ks.getD 0 .no).qa (if(ks.getD 0 .no).b then 7 else 5)) ((ks.getD 1 .no).qa 6)⟩
 else if k=10 then⟨fK [108,101,116]::w9 n::cf [61]::((ks.getD 0 .no).at 0++(fK [105,110]::(ks.getD 1 .no).at 0)),0,false,max ((ks.getD 0 .no).qa 0+1) ((ks.getD 1 .no).qa 0+1)⟩
 else if k=11 then⟨fK [108,101,116]::fK [114,101,99]::w9 n::w9 t::cf [61]::((ks.getD 0 .no).at 0++(fK [105,110]::(ks.getD 1 .no).at 0)),0,false,max ((ks.getD 0 .no).qa 0+1) ((ks.getD 1 .no).qa 0+1)⟩
 else if k=8 then⟨fK [102,117,110]::w9 n::cf [45,62]::(ks.getD 0 .no).at 0,0,false,(ks.getD 0 .no).qa 0+1⟩
 else if k=12 then⟨fK [105,102]::((ks.getD 0 .no).at 0++(fK [116,104,101,110]::((ks.getD 1 .no).at 0++(fK [101,108,115,101]::(ks.getD 2 .no).at 0)))),0,false,max ((ks.getD 0 .no).qa 0+1) (max ((ks.getD 1 .no).qa 0+1) ((ks.getD 2 .no).qa 0+1))⟩
 else⟨fK [109,97,116,99,104]::((ks.getD 0 .no).at 0++(fK [119,105,116,104]::((aM.map AD).flatten++[fK [101,110,100]]))),0,false,max ((ks.getD 0 .no).qa 0+1) (fV (fun a=>max (a.1.qa 0+1) (a.2.qa 0+1)) aM)⟩
mutual
def aa.tf:aa->TF
 | .mk k n u t p ks aM=>gi k n u t (aa.lp ks) (aa.yl aM)
def aa.lp:List aa->List TF
 |[]=>[]
 |t::l=>t.tf::aa.lp l
def al.tf:al->TF×TF
 | .mk p e=>(p.tf,e.tf)
def aa.yl:List al->List (TF×TF)
 |[]=>[]
 |t::l=>t.tf::aa.yl l
end
def ah.eY (c:ah):List TK:=zL c.name::(if c.has then fK [111,102]::c.arg.tf.at 0 else[])
def ai.eY (d:ai):List TK:=fK [116,121,112,101]::(d.vars.map Dz++(w9 d.name::cf [61]::(kT (cf [124]) (d.ctors.map ah.eY)++[cf [59]])))
def bb.eY (g:bb):List TK:=(g.types.map ai.eY).flatten++g.body.tf.at 0
structure LR (x:KF) (y:TF):Prop where
 lx:Lx x.f y.f
 l:x.l=y.l
 b:x.b=y.b
theorem adK:LR .no .no:=⟨sg,rfl,rfl⟩
theorem TP {a:List UInt8} {ts:List TK} (h:Lx a ts):pD (40::(a++[41])) (cf [40]::(ts++[cf [41]])):=
 pE (a:=[40]) (ts:=[cf [40]]) (gP (by decide)) (yj h (fun c=>rfl) (gP (by decide)))
theorem LR.at {x:KF} {y:TF} (h:LR x y) (a:Int):Lx (x.at a) (y.at a):=by
 unfold KF.at TF.at gx;rw[h.l];split
 ·exact(TP h.lx).qg
 ·exact h.lx
inductive ta:List KF->List TF->Prop
 |nil:ta [] []
 |cons {x y l m}:LR x y->ta l m->ta (x::l) (y::m)
theorem ta.get {l:List KF} {m:List TF} (h:ta l m):∀i,LR (l.getD i .no) (m.getD i .no):=by
  induction h with
  |nil=>intro i;simpa using adK
  |cons h1 h2 ih=>
   intro i
   cases i with
   |zero=>simpa using h1
   |succ i=>simpa using ih i
theorem ta.len {l:List KF} {m:List TF} (h:ta l m):l.length=m.length:=by
 induction h with
 |nil=>rfl
 |cons h1 h2 ih=>simp[ih]
theorem ym (sep:List UInt8) (a b:List UInt8) (l):bF sep (a::b::l)=a++(sep++bF sep (b::l)):=rfl
theorem lZ (sep:TK) (a b:List TK) (l):kT sep (a::b::l)=a++(sep::kT sep (b::l)):=rfl
theorem ta.join {sep:List UInt8} {st:TK} (hs:pD sep [st]) (hg:∀b,xa (sep++b)=true) (a:Int) {l:List KF} {m:List TF} (h:ta l m):Lx (bF sep (l.map (·.at a))) (kT st (m.map (·.at a))):=by
  induction h with
  |nil=>exact sg
  |@cons x y l m h1 h2 ih=>
   cases h2 with
   |nil=>exact h1.at a
   |cons k1 k2=>
    simp only[List.map_cons,ym,lZ]at ih⊢;exact jP (h1.at a) (hg _) (pE (ts:=[st]) hs ih)
theorem ta.flat (a:Int) {l:List KF} {m:List TF} (h:ta l m):Lx ((l.map fun x=>32::x.at a).flatten) ((m.map (·.at a)).flatten)∧xa ((l.map fun x=>32::x.at a).flatten)=true :=by
  induction h with
  |nil=>exact⟨sg,rfl⟩
  |@cons x y l m h1 h2 ih=>
   simp only[List.map_cons,List.flatten_cons];exact⟨jP (pF (h1.at a)) ih.2 ih.1,rfl⟩
theorem pG {a b:List UInt8} {t:TK} {us:List TK} (h:Lx a [t]) (hb:xa b=true) (k:Lx b us):Lx (a++b) (t::us):=jP (ts:=[t]) h hb k
theorem gA {g} {a b:List UInt8} {t:TK} {us:List TK} (h:pD a [t]) (k:xb g b us):xb g (a++b) (t::us):=pE (ts:=[t]) h k
theorem oI {w:List UInt8} (h:isKey w=true):pD (w++[32]) [fK w]:=Be (nk h)
theorem yn {w:List UInt8} (h:isKey w=true):pD (32::(w++[32])) [fK w]:=pF (oI h)
theorem nQ {w:List UInt8} (h:pD w [cf w]):pD (32::(w++[32])) [cf w]:=pF (Be h.qg)
theorem adL {k:Int} {n:List UInt8} {p m:Int} {ks:List KF} {ts:List TF} (hk:AB k n p m=true) (hm:m=ks.length) (h:ta ks ts):LR (vD k n ks) (uC k n ts):=by
 have g:=h.get;have hl:=h.len;unfold AB at hk;unfold vD uC;by_cases h3:k=3
 ·rw[if_pos h3,if_pos h3]
  exact⟨jP ((g 0).at 1) rfl (gA (nQ (w:=[45,62]) zN) ((g 1).at 0)),rfl,rfl⟩
 rw[if_neg h3,if_neg h3];by_cases h4:k=4
 ·rw[if_pos h4,if_pos h4]
  exact⟨h.join (nQ (w:=[42]) (gP (by decide))) (fun b=>rfl) 2,rfl,rfl⟩
 rw[if_neg h4,if_neg h4];by_cases h5:k=5
 ·rw[if_pos h5,if_pos h5]
  exact⟨gA (oI (w:=[114,101,102]) (by decide)) ((g 0).at 3),rfl,rfl⟩
 rw[if_neg h5,if_neg h5];by_cases h2:k=2
 ·rw[if_pos h2,if_pos h2]
  subst h2;simp at hk;exact⟨MQ hk.1.2,rfl,rfl⟩
 rw[if_neg h2,if_neg h2]
 have h1:k=1:=by
  by_cases h1:k=1
  ·exact h1
  ·simp[h1,h2,h3,h4,h5]at hk
 subst h1;simp at hk;exact⟨pG (qh hk.1) (h.flat 3).2 (h.flat 3).1,by simp only[hl],rfl⟩
mutual
theorem af.lx:∀t:af,t.okB=true →LR t.kf t.tf
  | .mk k n p ks,h=>by
    rw[af.okB,Bool.and_eq_true]at h;rw[af.kf,af.tf];exact adL h.1 (by rw[af.cY,List.length_map]) (af.Ih ks h.2)
theorem af.Ih:∀l:List af,af.nO l=true →ta (af.cW l) (af.lp l)
  |[],_ => .nil
  |t::l,h=>by
   rw[af.nO,Bool.and_eq_true]at h;exact .cons (af.lx t h.1) (af.Ih l h.2)
end
theorem CN (u:Int):isKey (kS u)=true:=by unfold kS;split <;>decide
theorem Ii {g}:xb g [40,41] [cf [40],cf [41]]:=gA (a:=[40]) (gP (by decide)) ((gP (by decide)).qg)
theorem MU {l:List KF} {m:List TF} (h:ta l m):Lx (40::(bF [44,32] (l.map (·.at 0))++[41])) (cf [40]::(kT (cf [44]) (m.map (·.at 0))++[cf [41]])):=
 (TP (h.join (Be (a:=[44]) (ts:=[cf [44]]) (gP (by decide)).qg) (fun b=>rfl) 0)).qg
theorem Yk {k:Int} {n:List UInt8} {u p m:Int} {ks:List KF} {ts:List TF} (hk:AA k n u p m=true) (hu:u<=9223372036854775807) (hm:m=ks.length) (h:ta ks ts):LR (kZ k n u ks) (nP k n u ts):=by
 have g:=h.get;have hl:=h.len;unfold AA at hk;unfold kZ nP;by_cases h2:k=2
 ·rw[if_pos h2,if_pos h2];subst h2;simp at hk
  exact⟨qh hk.1.2.1,rfl,rfl⟩
 rw[if_neg h2,if_neg h2];by_cases h3:k=3
 ·rw[if_pos h3,if_pos h3];subst h3;simp at hk
  exact⟨MT hk.1.2.2 hu,rfl,rfl⟩
 rw[if_neg h3,if_neg h3];by_cases h4:k=4
 ·rw[if_pos h4,if_pos h4]
  exact⟨nk (CN u),rfl,rfl⟩
 rw[if_neg h4,if_neg h4];by_cases h5:k=5
 ·rw[if_pos h5,if_pos h5]
  exact⟨Ii,rfl,rfl⟩
 rw[if_neg h5,if_neg h5];by_cases h6:k=6
 ·rw[if_pos h6,if_pos h6]
  exact⟨MU h,rfl,rfl⟩
 rw[if_neg h6,if_neg h6];by_cases h7:k=7
 ·rw[if_pos h7,if_pos h7];subst h7;simp at hk
  rw[hl];split
  ·exact⟨CL hk.1.2.1,rfl,rfl⟩
  ·exact⟨pG (CL hk.1.2.1) rfl (pF ((g 0).at 1)),rfl,rfl⟩
 rw[if_neg h7,if_neg h7];exact⟨(gP (by decide)).qg,rfl,rfl⟩
mutual
theorem ae.lx:∀t:ae,t.okB=true →t.fit→LR t.kf t.tf
  | .mk k n u p ks,h,hf=>by
    rw[ae.okB,Bool.and_eq_true]at h;rw[ae.fit]at hf;rw[ae.kf,ae.tf];exact Yk h.1 hf.1 (by rw[ae.cY,List.length_map]) (ae.Ih ks h.2 hf.2)
theorem ae.Ih:∀l:List ae,ae.nO l=true →ae.jz l→ta (ae.cW l) (ae.lp l)
  |[],_,_ => .nil
  |t::l,h,hf=>by
   rw[ae.nO,Bool.and_eq_true]at h;rw[ae.jz]at hf;exact .cons (ae.lx t h.1 hf.1) (ae.Ih l h.2 hf.2)
end
inductive K8:List (List UInt8×KF)->List (TF×TF)->Prop
 |nil:K8 [] []
 |cons {x y z w l m}:Lx x (z.at 0)->LR y w->K8 l m->K8 ((x,y)::l) ((z,w)::m)
theorem K8.flat {l:List (List UInt8×KF)} {m:List (TF×TF)} (h:K8 l m) {b:List UInt8} {us:List TK} (hb:xa b=true) (k:Lx b us):Lx ((l.map iZ).flatten++b) ((m.map AD).flatten++us)∧xa ((l.map iZ).flatten++b)=true :=by
  induction h with
  |nil=>exact⟨k,hb⟩
  |@cons x y z w l m h1 h2 h3 ih=>
   simp only[List.map_cons,List.flatten_cons,iZ,AD,List.append_assoc,List.cons_append];refine⟨gA (nQ (w:=[124]) (gP (by decide))) (jP h1 rfl (gA (nQ (w:=[45,62]) zN) (jP (h2.at 0) ih.2 ih.1))),rfl⟩
theorem Ol {n:List UInt8} (h:pA n=true):Lx n [F4 n]:=by
 simp only[pA,decide_eq_true_eq,List.mem_cons,List.not_mem_nil,or_false]at h;unfold F4;rcases h with rfl|rfl|rfl|rfl|rfl
 ·exact nk (by decide)
 ·exact nk (by decide)
 ·exact nk (by decide)
 ·exact nk (by decide)
 ·exact(gP (by decide)).qg
theorem kG {n:List UInt8} {m:Int} (h:m=arity n) (hm:0<=m):(n=[114,101,97,100]/\m=0)\/(pA n=true/\m=1):=by
 unfold arity at h;split at h
 ·rename_i hn;exact .inl ⟨hn,h⟩
 ·split at h
  ·rename_i hp;exact .inr ⟨hp,h⟩
  ·omega
theorem Yl {k:Int} {n:List UInt8} {u:Int} {t:List UInt8} {p m a:Int} {ks:List KF} {ts:List TF} {aM:List (List UInt8×KF)} {as2:List (TF×TF)} (hk:pB k n u t p m a=true) (hu:u<=9223372036854775807) (hm:m=ks.length) (h:ta ks ts) (hA:K8 aM as2):LR (dP k n u t ks aM) (gi k n u t ts as2):=by
 have g:=h.get;have hl:=h.len;have hb:=(g 0).b;unfold pB at hk;unfold dP gi;by_cases h1:k=1
 ·rw[if_pos h1,if_pos h1];subst h1;simp at hk
  exact⟨MT hk.1.2.2.1 hu,rfl,rfl⟩
 rw[if_neg h1,if_neg h1];by_cases h2:k=2
 ·rw[if_pos h2,if_pos h2];subst h2;simp at hk
  exact⟨(Yh hk.1.2.2.2).qg,rfl,rfl⟩
 rw[if_neg h2,if_neg h2];by_cases h3:k=3
 ·rw[if_pos h3,if_pos h3]
  exact⟨nk (CN u),rfl,rfl⟩
 rw[if_neg h3,if_neg h3];by_cases h4:k=4
 ·rw[if_pos h4,if_pos h4]
  exact⟨Ii,rfl,rfl⟩
 rw[if_neg h4,if_neg h4];by_cases h5:k=5
 ·rw[if_pos h5,if_pos h5];subst h5;simp at hk
  exact⟨qh hk.1.2.1,rfl,rfl⟩
 rw[if_neg h5,if_neg h5];by_cases h7:k=7
 ·rw[if_pos h7,if_pos h7]
  exact⟨MU h,rfl,rfl⟩
 rw[if_neg h7,if_neg h7];by_cases si:k=14
 ·rw[if_pos si,if_pos si];subst si;simp at hk
  exact⟨jP ((g 0).at _) rfl (pF (pG (Yj hk.1.2.1) rfl (pF ((g 1).at _)))),rfl,rfl⟩
 rw[if_neg si,if_neg si];by_cases h6:k=6\/k=15
 ·rw[if_pos h6,if_pos h6,hl]
  have hn:Lx n [if k=6 then zL n else F4 n]:=by
   rcases h6 with rfl|rfl
   ·simp at hk
    exact CL hk.1.2.1
   ·simp at hk
    rcases kG hk.1.1 (by omega)with⟨rfl,-⟩|⟨hp,-⟩
    ·exact nk (a:=[114,101,97,100]) (by decide)
    ·exact Ol hp
  split
  ·exact⟨hn,rfl,rfl⟩
  ·exact⟨pG hn rfl (pF ((g 0).at 6)),rfl,rfl⟩
 rw[if_neg h6,if_neg h6];by_cases h9:k=9
 ·rw[if_pos h9,if_pos h9,hb]
  exact⟨jP ((g 0).at _) rfl (pF ((g 1).at 6)),rfl,rfl⟩
 rw[if_neg h9,if_neg h9];have eqs:pD [32,61,32] [cf [61]]:=nQ (w:=[61]) (gP (by decide));have ins:pD [32,105,110,32] [fK [105,110]]:=yn (w:=[105,110]) (by decide);by_cases jt:k=10
 ·rw[if_pos jt,if_pos jt];subst jt;simp at hk
  exact⟨gA (oI (w:=[108,101,116]) (by decide)) (pG (qh hk.1.2.1) rfl (gA eqs (jP ((g 0).at 0) rfl (gA ins ((g 1).at 0))))),rfl,rfl⟩
 rw[if_neg jt,if_neg jt];by_cases sf:k=11
 ·rw[if_pos sf,if_pos sf];subst sf;simp at hk
  exact⟨gA (a:=[108,101,116,32]) (oI (w:=[108,101,116]) (by decide)) (gA (a:=[114,101,99,32]) (oI (w:=[114,101,99]) (by decide)) (pG (qh hk.1.2.1) rfl (pF (pG (qh hk.1.2.2.2) rfl (gA eqs (jP ((g 0).at 0) rfl (gA ins ((g 1).at 0)))))))),rfl,rfl⟩
 rw[if_neg sf,if_neg sf];by_cases h8:k=8
 ·rw[if_pos h8,if_pos h8];subst h8;simp at hk
  exact⟨gA (oI (w:=[102,117,110]) (by decide)) (pG (qh hk.1.2.1) rfl (gA (nQ (w:=[45,62]) zN) ((g 0).at 0))),rfl,rfl⟩
 rw[if_neg h8,if_neg h8];by_cases gv:k=12
 ·rw[if_pos gv,if_pos gv]
  exact⟨gA (oI (w:=[105,102]) (by decide)) (jP ((g 0).at 0) rfl (gA (yn (w:=[116,104,101,110]) (by decide)) (jP ((g 1).at 0) rfl (gA (yn (w:=[101,108,115,101]) (by decide)) ((g 2).at 0))))),rfl,rfl⟩
 rw[if_neg gv,if_neg gv];have he:=hA.flat (b:=[32,101,110,100]) (us:=[fK [101,110,100]]) rfl (pF (nk (a:=[101,110,100]) (by decide)));exact⟨gA (oI (w:=[109,97,116,99,104]) (by decide)) (jP ((g 0).at 0) rfl (pF (pG (nk (a:=[119,105,116,104]) (by decide)) he.2 he.1))),rfl,rfl⟩
mutual
theorem aa.lx:∀t:aa,t.okB=true →t.fit→LR t.kf t.tf
  | .mk k n u t p ks aM,h,hf=>by
    rw[aa.okB,Bool.and_eq_true,Bool.and_eq_true]at h;rw[aa.fit]at hf;rw[aa.kf,aa.tf];exact Yl h.1 hf.1 (by rw[aa.cY,List.length_map]) (aa.Ih ks h.2.1 hf.2.1) (aa.lxA aM h.2.2 hf.2.2)
theorem aa.Ih:∀l:List aa,aa.nO l=true →aa.jz l→ta (aa.cW l) (aa.lp l)
  |[],_,_ => .nil
  |t::l,h,hf=>by
   rw[aa.nO,Bool.and_eq_true]at h;rw[aa.jz]at hf;exact .cons (aa.lx t h.1 hf.1) (aa.Ih l h.2 hf.2)
theorem aa.lxA:∀l:List al,aa.Ie l=true →aa.sM l→K8 (aa.zI l) (aa.yl l)
  |[],_,_ => .nil
  | .mk p e::l,h,hf=>by
    rw[aa.Ie,al.okB,Bool.and_eq_true,Bool.and_eq_true]at h;rw[aa.sM,al.fit]at hf;rw[aa.zI,aa.yl,al.kf,al.tf];exact .cons ((ae.lx p h.1.1 hf.1.1).at 0) (aa.lx e h.1.2 hf.1.2) (aa.lxA l h.2 hf.2)
end
theorem ah.lx {c:ah} (h:c.okB=true):Lx c.form c.eY:=by
 simp only[ah.okB,Bool.and_eq_true]at h;unfold ah.form ah.eY;by_cases hh:c.has=true
 ·rw[if_pos hh,if_pos hh]
  rw[if_pos hh]at h;exact pG (CL h.1) rfl (gA (yn (w:=[111,102]) (by decide)) ((af.lx _ h.2.2).at 0))
 ·rw[if_neg hh,if_neg hh]
  exact pG (CL h.1) rfl sg
theorem EF:∀{l:List ah},l.all ah.okB=true →Lx (bF [32,124,32] (l.map ah.form)) (kT (cf [124]) (l.map ah.eY))
  |[],_ =>sg
  |[c],h=>ah.lx (by simpa using h)
  |c::d::l,h=>by
   rw[List.all_cons,Bool.and_eq_true]at h;have ih:=EF h.2;simp only[List.map_cons,ym,lZ]at ih⊢;exact jP (ah.lx h.1) rfl (gA (nQ (w:=[124]) (gP (by decide))) ih)
theorem Ij:∀{l:List (List UInt8)},l.all (nM eP)=true →pD ((l.map fun v=>39::(v++[32])).flatten) (l.map Dz)
  |[],_ =>sg
  |v::l,h=>by
   rw[List.all_cons,Bool.and_eq_true]at h;simp only[List.map_cons,List.flatten_cons];exact gA (Be (a:=39::v) (MQ h.1)) (Ij h.2)
theorem ai.lx {d:ai} (h:d.okB=true):pD d.form d.eY:=by
 simp only[ai.okB,Bool.and_eq_true]at h;unfold ai.form ai.eY;refine gA (oI (w:=[116,121,112,101]) (by decide)) (pE (Ij h.2.2.2.1) ?_);refine yj (ts:=[w9 d.name]) (qh h.1) (fun c=>rfl) (gA (nQ (w:=[61]) (gP (by decide))) ?_);refine yj (EF h.2.2.2.2) (fun c=>rfl) (gA (a:=[59]) (b:=[10]) (us:=[]) (gP (by decide)) (vl (by decide)))
theorem EG:∀{l:List ai},l.all ai.okB=true →pD ((l.map ai.form).flatten) ((l.map ai.eY).flatten)
  |[],_ =>sg
  |v::l,h=>by
   rw[List.all_cons,Bool.and_eq_true]at h;simp only[List.map_cons,List.flatten_cons];exact pE (ai.lx h.1) (EG h.2)
theorem bb.lx {g:bb} (h:g.okB=true) (hf:g.body.fit):pD g.form g.eY:=by
 simp only[bb.okB,Bool.and_eq_true]at h;unfold bb.form bb.eY;have:=pE (EG h.2) (yj ((aa.lx _ h.1 hf).at 0) (fun c=>rfl) (vl (c:=10) (by decide)));simpa using this
theorem zO {g} {s:List UInt8} {ts:List TK} (h:xb g s ts) (hg:g []=true) (most:Nat):
  (ts.length<=most/\∃T:List Tok,T.map Tok.b=ts++[(8,[],0)]/\eB s most 0 []=.inl T)\/(most<ts.length/\∃p,eB s most 0 []=.inr (5,p)):=by
 rcases h s 0 [] [] most (by simp) hg (Nat.zero_le _)with⟨h1,L,h2,h3⟩|⟨h1,p,h2⟩
 ·refine .inl ⟨by simpa using h1,L++[⟨8,[],0,s.length⟩],by simp[h2,Tok.b],?_⟩
  rw[h3,pb (by omega),List.nil_append]
 ·exact .inr ⟨by simpa using h1,p,h2⟩
mutual
def af.er:af->af
 | .mk k n p ks=>.mk k n 0 (af.fW ks)
def af.fW:List af->List af
 |[]=>[]
 |t::l=>t.er::af.fW l
end
mutual
def ae.er:ae->ae
 | .mk k n u p ks=>.mk k n u 0 (ae.fW ks)
def ae.fW:List ae->List ae
 |[]=>[]
 |t::l=>t.er::ae.fW l
end
mutual
def aa.er:aa->aa
 | .mk k n u t p ks aM=>.mk k n u t 0 (aa.fW ks) (aa.CO aM)
def aa.fW:List aa->List aa
 |[]=>[]
 |t::l=>t.er::aa.fW l
def al.er:al->al
 | .mk p e=>.mk p.er e.er
def aa.CO:List al->List al
 |[]=>[]
 |t::l=>t.er::aa.CO l
end
def ah.er (c:ah):ah:=⟨c.name,c.has,c.arg.er,0⟩
def ai.er (d:ai):ai:=⟨d.name,d.vars,d.ctors.map ah.er,0⟩
def bb.er (g:bb):bb:=⟨g.types.map ai.er,g.body.er⟩
theorem af.nn (l:List af):af.fW l=l.map af.er:=by
 induction l with
 |nil=>rfl
 |cons t l ih=>rw[af.fW,ih];rfl
theorem ae.nn (l:List ae):ae.fW l=l.map ae.er:=by
 induction l with
 |nil=>rfl
 |cons t l ih=>rw[ae.fW,ih];rfl
theorem aa.nn (l:List aa):aa.fW l=l.map aa.er:=by
 induction l with
 |nil=>rfl
 |cons t l ih=>rw[aa.fW,ih];rfl
theorem aa.MV (l:List al):aa.CO l=l.map al.er:=by
 induction l with
 |nil=>rfl
 |cons t l ih=>rw[aa.CO,ih];rfl
def tT (x:List UInt8) (g:TK):Bool:=(decide (g.1=6)||decide (g.1=7))&&decide (g.2.1=x)
def tK (k:Int) (g:TK):Bool:=decide (g.1=k)
def Rest (T:List Tok) (s:PS) (r:List TK):Prop:=(T.drop s.i).map Tok.b=r
def mv (s:PS) (n D:Nat):PS:={s with i:=s.i+n,d:=max s.d D}
def Gd (T:List Tok) (g:PS->Bool) (p:TK->Bool):Prop:=∀s h r,s.c=0->Rest T s (h::r)->g s=p h
def Fl (T:List Tok) (s:PS):Prop:=s.c=12/\s.i<T.length
section
variable {T:List Tok}
theorem oR {s:PS} {g:TK} {r:List TK} (h:Rest T s (g::r)):(aJ T s).b=g/\s.i<T.length:=by
 unfold Rest at h
 have hi:s.i<T.length:=by
  have:=congrArg List.length h;simp at this;omega
 rw[List.drop_eq_getElem_cons hi,List.map_cons]at h;refine⟨?_,hi⟩;rw[<-(List.cons.inj h).1];simp[aJ,hi]
theorem yo {s:PS} {ts r:List TK} (D:Nat) (h:Rest T s (ts++r)):Rest T (mv s ts.length D) r:=by
 unfold Rest at h⊢;show(T.drop (s.i+ts.length)).map Tok.b=r;rw[<-List.drop_drop,List.map_drop,h,List.drop_left]
theorem lG {s:PS} {ts r:List TK} (h:Rest T s (ts++r)):ts.length+r.length<=T.length:=by
 have:=congrArg List.length h;simp at this;omega
theorem TQ (s:PS) (n m D E:Nat):mv (mv s n D) m E=mv s (n+m) (max D E):=by
 simp[mv,Nat.add_assoc,Nat.max_assoc]
theorem F5 (s:PS) (n D:Nat):mv (aI s) n D=mv s (n+1) D:=by
 simp[mv,aI];omega
theorem TR {s:PS} {D:Nat} (h:D<=s.d):mv s 0 D=s:=by
 simp[mv,Nat.max_eq_left h]
theorem zP {s:PS} {g:TK} {r:List TK} (h:Rest T s (g::r)):Rest T (aI s) r:=by
 have:=yo (ts:=[g]) 0 h;exact this
theorem bX (x):Gd T (aL T x) (tT x):=fun s h r hc hr=>by
 have:=(oR hr).1;subst this;simp only[aL,tT,hc,Tok.b,decide_true,Bool.true_and];rfl
theorem cI (k):Gd T (bB T k) (tK k):=fun s h r hc hr=>by
 have:=(oR hr).1;subst this;simp only[bB,tK,hc,Tok.b,decide_true,Bool.true_and];rfl
theorem Gd.or {f g p q} (hf:Gd T f p) (hg:Gd T g q):Gd T (fun s=>f s||g s) (fun h=>p h||q h):=fun s h r hc hr=>by
 simp only[hf s h r hc hr,hg s h r hc hr]
def Om (h:TK):Bool:=tK 5 h||tK 3 h||tT [40] h
def Ik (h:TK):Bool:=tK 3 h||tK 1 h||tK 4 h||tT [95] h||tT [116,114,117,101] h||tT [102,97,108,115,101] h||tT [40] h
def xc (h:TK):Bool:=tK 1 h||tK 2 h||tK 3 h||tK 4 h||tT [116,114,117,101] h||tT [102,97,108,115,101] h||tT [114,101,97,100] h||tT [40] h
def K9 (h:TK):Bool:=tT [112,114,105,110,116] h||tT [101,120,105,116] h||tT [115,105,122,101] h||tT [114,101,102] h||tT [33] h
def La (L:List (List UInt8)) (h:TK):Bool:=tK 7 h&&decide (h.2.1∈L)
theorem adM:Gd T (iT T) Om:=((cI 5).or (cI 3)).or (bX _)
theorem MW:Gd T (eg T) Ik:=((((((cI 3).or (cI 1)).or (cI 4)).or (bX _)).or (bX _)).or (bX _)).or (bX _)
theorem F6:Gd T (ei T) xc:=(((((((cI 1).or (cI 2)).or (cI 3)).or (cI 4)).or (bX _)).or (bX _)).or (bX _)).or (bX _)
theorem yp:Gd T (il T) K9:=((((bX _).or (bX _)).or (bX _)).or (bX _)).or (bX _)
theorem F7 (L):Gd T (im T L) (La L):=fun s h r hc hr=>by
 have e:=(oR hr).1;have:=cI 7 s h r hc hr;subst e;simp only[im,La,this];rfl
theorem abC:Gd T (fun s=>!decide (s.c=0)) (fun _=>false):=fun s h r hc _=>by simp[hc]
theorem adN:Gd T (fun s=>decide (s.c=0)) (fun _=>true):=fun s h r hc _=>by simp[hc]
def Rd (T:List Tok) (most lo:Nat) {α β:Type} (er:α->β) (m:PM α) (ts:List TK) (x:β) (D:Nat) (ok:TK->Bool):Prop :=
 ∀s h r,s.c=0->lo<=s.d->s.d<=most->Rest T s (ts++h::r)->ok h=true ->
  (D<=most/\∃y,er y=x/\m s=(y,mv s ts.length D))\/(most<D/\Fl T (m s).2)
def Nx (p:TK->Bool) (ts:List TK) (ok:TK->Bool):Prop:=∀h,ok h=true->p ((ts++[h]).headD h)=true
theorem yq {p ok:TK->Bool} (h:∀x,ok x=true->p x=true):Nx p [] ok:=fun x hx=>h x hx
theorem dE {p ok:TK->Bool} {g:TK} {ts:List TK} (h:p g=true):Nx p (g::ts) ok:=fun x hx=>h
theorem Ym {ok:TK->Bool} {ts:List TK}:Nx (fun _=>true) ts ok:=fun x hx=>rfl
variable {most lo:Nat} {α β γ δ:Type} {er:α->β} {er2:γ->δ} {ok ok1:TK->Bool}
theorem dB {a:α} {x:β} (h:er a=x):Rd T most lo er (aT a) [] x lo ok:=fun s g r hc dN hd hr hk=>
 .inl ⟨by omega,a,h,by rw[List.length_nil,TR dN];rfl⟩
theorem Rd.cast {m:PM α} {ts TS:List TK} {x:β} {D D':Nat} (h:Rd T most lo er m ts x D ok) (ht:ts=TS) (hD:D=D'):Rd T most lo er m TS x D' ok:=by
 subst ht;subst hD;exact h
theorem Rd.low {m:PM α} {ts:List TK} {x:β} {D Pu:Nat} (h:Rd T most lo er m ts x D ok) (hl:lo<=Pu):Rd T most Pu er m ts x D ok:=
 fun s g r hc dN hd hr hk=>h s g r hc (by omega) hd hr hk
theorem Rd.Yn {m:PM α} {ts:List TK} {x:β} {D:Nat} (h:Rd T most lo er m ts x D ok) (hl:∀g,ok1 g=true->ok g=true):Rd T most lo er m ts x D ok1:=
 fun s g r hc dN hd hr hk=>h s g r hc dN hd hr (hl g hk)
theorem vm {p ok:TK->Bool} {ts:List TK} (h:Nx p ts ok) {g:TK} {r:List TK} (hg:ok g=true):∃g' r',ts++g::r=g'::r'/\p g'=true:=by
 have:=h g hg
 cases ts with
 |nil=>exact⟨g,r,rfl,this⟩
 |cons t ts=>exact⟨t,ts++g::r,rfl,this⟩
theorem yr {m:PM γ} {k:γ->PM α} {yt CP:List TK} {x1:δ} {x:β} {D1 D2:Nat} (h1:Rd T most lo er2 m yt x1 D1 ok1) (ba:∀a,ab T (k a)) (h2:∀y,er2 y=x1->Rd T most lo er (k y) CP x D2 ok) (b9:Nx ok1 CP ok):
  Rd T most lo er (aH m k) (yt++CP) x (max D1 D2) ok:=fun s g r hc dN hd hr hk=>by
 obtain⟨g',r',e1,e2⟩:=vm b9 (r:=r) hk;rw[List.append_assoc]at hr;have r7:=hr;rw[e1]at r7;unfold aH;rcases h1 s g' r' hc dN hd r7 e2 with⟨k1,y,k2,k3⟩|⟨k1,k2,k3⟩
 ·rw[k3]
  rcases h2 y k2 (mv s yt.length D1) g r hc (Nat.le_trans dN (Nat.le_max_left _ _)) (Nat.max_le.2 ⟨hd,k1⟩) (yo D1 hr) hk with⟨j1,z,j2,j3⟩|⟨j1,j2⟩
  ·refine .inl ⟨Nat.max_le.2 ⟨k1,j1⟩,z,j2,?_⟩
   rw[j3,TQ,List.length_append]
  ·exact .inr ⟨by omega,j2⟩
 ·have:=(ba (m s).1 _ k3).2.2.1 (by rw[k2];decide)
  refine .inr ⟨by omega,?_⟩;rw[this];exact⟨k2,k3⟩
theorem gj {m:PM γ} {k:γ->PM α} {yt CP ts:List TK} {x1:δ} {x:β} {D D1 D2:Nat} (h1:Rd T most lo er2 m yt x1 D1 ok1) (ba:∀a,ab T (k a)) (h2:∀y,er2 y=x1->Rd T most lo er (k y) CP x D2 ok) (b9:Nx ok1 CP ok) (XL:yt++CP=ts) (hD:max D1 D2=D):
  Rd T most lo er (aH m k) ts x D ok:=(yr h1 ba h2 b9).cast XL hD
theorem ru {m:PM γ} {k:γ->PM α} {ts:List TK} {x1:δ} {x:β} {D:Nat} (h1:Rd T most lo er2 m ts x1 D ok1) (ba:∀a,ab T (k a)) (h2:∀y,er2 y=x1->Rd T most lo er (k y) [] x lo ok) (b9:∀g,ok g=true->ok1 g=true) (hD:lo<=D):
  Rd T most lo er (aH m k) ts x D ok:=(yr h1 ba h2 (yq b9)).cast (List.append_nil _) (Nat.max_eq_left hD)
theorem gB {m:PM γ} {f:γ->α} {ts:List TK} {x1:δ} {x:β} {D:Nat} (h1:Rd T most lo er2 m ts x1 D ok1) (hf:∀y,er2 y=x1->er (f y)=x) (b9:∀g,ok g=true->ok1 g=true) (hD:lo<=D):
  Rd T most lo er (aH m fun y=>aT (f y)) ts x D ok:=ru h1 (fun _=>ab.ret _) (fun y hy=>dB (hf y hy)) b9 hD
theorem On {m:PM α} {f:PS->PS} {g:TK} {ts:List TK} {x:β} {D:Nat} (hf:∀s r,s.c=0->Rest T s (g::r)->f s=aI s) (h:Rd T most lo er m ts x D ok):Rd T most lo er (cz f m) (g::ts) x D ok:=fun s h' r hc dN hd hr hk=>by
 have:=h (aI s) h' r hc dN hd (zP hr) hk;rw[F5]at this;unfold cz;rw[hf s _ hc hr];exact this
theorem eR {m:PM α} {g:TK} {x0:List UInt8} {ts:List TK} {x:β} {D:Nat} (hp:tT x0 g=true) (h:Rd T most lo er m ts x D ok):Rd T most lo er (cz (aX T x0) m) (g::ts) x D ok:=
 On (fun s r hc hr=>by unfold aX;rw[bX x0 s g r hc hr,hp];rfl) h
theorem nS {m:List UInt8->PM α} {k:Int} {n:List UInt8} {u:Int} {ts:List TK} {x:β} {D:Nat} (h:Rd T most lo er (m n) ts x D ok):Rd T most lo er (aH (cZ T k) m) ((k,n,u)::ts) x D ok:=fun s h' r hc dN hd hr hk=>by
 have:=h (aI s) h' r hc dN hd (zP hr) hk;rw[F5]at this;unfold aH cZ;have e:(aJ T s).t=n:=by have:=(oR hr).1;exact congrArg (fun g:TK=>g.2.1) this
 rw[cI k s _ _ hc hr,show tK k (k,n,u)=true by simp[tK],if_pos rfl];simp only[e];exact this
theorem cj {k:Tok->PM α} {g:TK} {ts:List TK} {x:β} {D:Nat} (h:∀w:Tok,w.b=g->Rd T most lo er (k w) (g::ts) x D ok):Rd T most lo er (eI T k) (g::ts) x D ok:=fun s h' r hc dN hd hr hk=>
 h _ (oR hr).1 s h' r hc dN hd hr hk
theorem Il {k:Tok->PM α} {x:β} {D:Nat} (h:∀w:Tok,Rd T most lo er (k w) [] x D ok):Rd T most lo er (eI T k) [] x D ok:=fun s h' r hc dN hd hr hk=>
 h _ s h' r hc dN hd hr hk
theorem sk {m:PM α} {g:TK} {ts:List TK} {x:β} {D:Nat} (h:Rd T most lo er m ts x D ok):Rd T most lo er (bT m) (g::ts) x D ok:=fun s h' r hc dN hd hr hk=>by
 have:=h (aI s) h' r hc dN hd (zP hr) hk;rw[F5]at this;exact this
theorem gk {f:PS->Bool} {p:TK->Bool} {m1 m2:PM α} {g:TK} {ts:List TK} {x:β} {D:Nat} (hf:Gd T f p) (hp:p g=true) (h:Rd T most lo er m1 ts x D ok):Rd T most lo er (bm f m1 m2) (g::ts) x D ok:=fun s h' r hc dN hd hr hk=>by
 rw[aS ((hf s g _ hc hr).trans hp)];exact sk h s h' r hc dN hd hr hk
theorem b7 {f:PS->Bool} {p:TK->Bool} {m1 m2:PM α} {g:TK} {ts:List TK} {x:β} {D:Nat} (hf:Gd T f p) (hp:p g=false) (h:Rd T most lo er m2 (g::ts) x D ok):Rd T most lo er (bm f m1 m2) (g::ts) x D ok:=fun s h' r hc dN hd hr hk=>by
 rw[aZ ((hf s g _ hc hr).trans hp)];exact h s h' r hc dN hd hr hk
theorem F8 {f:PS->Bool} {p:TK->Bool} {m1 m2:PM α} {x:β} {D:Nat} (hf:Gd T f p) (hp:∀g,ok g=true->p g=false) (h:Rd T most lo er m2 [] x D ok):Rd T most lo er (bm f m1 m2) [] x D ok:=fun s h' r hc dN hd hr hk=>by
 rw[aZ ((hf s h' _ hc hr).trans (hp h' hk))];exact h s h' r hc dN hd hr hk
theorem Lb {f:PS->Bool} {p:TK->Bool} {m1 m2:PM α} {ts:List TK} {x:β} {D:Nat} (hf:Gd T f p) (hp:Nx p ts ok) (h:Rd T most lo er m1 ts x D ok):Rd T most lo er (eJ f m1 m2) ts x D ok:=fun s h' r hc dN hd hr hk=>by
 obtain⟨g',r',e1,e2⟩:=vm hp (r:=r) hk;have r7:=hr;rw[e1]at r7;rw[fv ((hf s g' _ hc r7).trans e2)];exact h s h' r hc dN hd hr hk
theorem F9 {f:PS->Bool} {p:TK->Bool} {m1 m2:PM α} {ts:List TK} {x:β} {D:Nat} (hf:Gd T f p) (hp:Nx (fun g=>!p g) ts ok) (h:Rd T most lo er m2 ts x D ok):Rd T most lo er (eJ f m1 m2) ts x D ok:=fun s h' r hc dN hd hr hk=>by
 obtain⟨g',r',e1,e2⟩:=vm hp (r:=r) hk;have r7:=hr;rw[e1]at r7;rw[ji ((hf s g' _ hc r7).trans (by simpa using e2))];exact h s h' r hc dN hd hr hk
theorem km {m:PM α} {z:α} {ts:List TK} {x:β} {d D:Nat} (hD:d<=D) (h:d<=most->Rd T most d er m ts x D ok):Rd T most lo er (kO T most d z m) ts x D ok:=fun s h' r hc dN hd hr hk=>by
 by_cases hm:most<d
 ·have e1:cT T most d s=dQ T 12 s:=by
   unfold cT;rw[if_pos hm,iG hc];simp
  refine .inr ⟨by omega,?_⟩;unfold kO;rw[e1,iG hc];refine⟨rfl,?_⟩;obtain⟨g',r',e1,-⟩:=vm (p:=fun _=>true) (ts:=ts) Ym (r:=r) hk;rw[e1]at hr;exact(oR hr).2
 ·have e1:cT T most d s={s with d:=max s.d d}:=by
   unfold cT;rw[if_neg hm];simp only[hc,if_true]
  have:=h (by omega) {s with d:=max s.d d} h' r hc (Nat.le_max_right _ _) (Nat.max_le.2 ⟨hd,by omega⟩) hr hk;unfold kO;rw[e1,if_pos (show({s with d:=max s.d d}:PS).c=0 from hc)]
  have e2:mv {s with d:=max s.d d} ts.length D=mv s ts.length D:=by
   simp only[mv,Nat.max_assoc,Nat.max_eq_right hD]
  rw[<-e2];exact this
inductive DA (T:List Tok) (most lo:Nat) (er:α->β) (m:PM α) (ok:TK->Bool) (D:γ->Nat) (f:γ->List TK) (e:γ->β):List γ->Prop
 |nil:DA T most lo er m ok D f e []
 |cons {a l}:Rd T most lo er m (f a) (e a) (D a) ok->DA T most lo er m ok D f e l->DA T most lo er m ok D f e (a::l)
def uD (lo:Nat) (D:γ->Nat):List γ->Nat
 |[]=>lo
 |a::l=>max (D a) (uD lo D l)
theorem nU {g:PS→Bool} {p:TK→Bool} {m:PM α} (hp:Gd T g p) (hm:∀n,ab T (many g m n)) {D:γ→Nat} {f:γ→List TK} {e:γ→β} {ok0:TK→Bool} (h0:∀h,ok h=true →p h=false) (b9:∀h,ok h=true →ok0 h=true):
    ∀(l:List γ) (n:Nat),DA T most lo er m ok0 D f e l→l.length≤n→(∀a∈l,∃h r,f a=h::r∧p h=true ∧ok0 h=true)→Rd T most lo (fun y=>y.map er) (many g m n) ((l.map f).flatten) (l.map e) (uD lo D l) ok
  |[],n,_,_,_ =>fun s h r hc dN hd hr hk=>by
   rw[kD ((hp s h r hc hr).trans (h0 h hk))]
   exact .inl ⟨by show lo≤most;omega,[],rfl,by rw[show(([]:List γ).map f).flatten.length=0 from rfl,show uD lo D ([]:List γ)=lo from rfl,TR dN]⟩
  |a::l,n+1, .cons h1 h2,hn,hh=>by
   obtain⟨g0,r0,e1,e2,e3⟩:=hh a (by simp);have ih:=nU hp hm h0 b9 l n h2 (by simpa using hn) (fun b hb=>hh b (by simp[hb]))
   have hx:Nx ok0 ((l.map f).flatten) ok:=by
     cases l with
     |nil=>exact yq b9
     |cons b l=>
      obtain⟨g1,r1,k1,k2,k3⟩:=hh b (by simp);rw[List.map_cons,List.flatten_cons,k1];exact dE k3
   have :=yr (er:=fun y:List α=>y.map er) (k:=fun y=>aH (many g m n) fun ys=>aT (y::ys)) (x:=(a::l).map e) h1 (fun y=>ab.bind (hm n) fun _ =>ab.ret _) (fun y hy=>(yr ih (fun _ =>ab.ret _) (fun ys gI=>dB (by simp only[List.map_cons,hy,gI])) (yq (fun x hx=>hx))).cast (List.append_nil _) rfl) hx
   have dN:∀l:List γ,lo≤uD lo D l:=by
     intro l
     induction l with
     |nil=>exact Nat.le_refl _
     |cons b l ih=>exact Nat.le_trans ih (Nat.le_max_right _ _)
   refine fun s h r hc agM hd hr hk=> ?_
   have r7:=hr;rw[List.map_cons,List.flatten_cons,e1]at r7
   have eb:many g m (n+1) s=aH m (fun y=>aH (many g m n) fun ys=>aT (y::ys)) s:=by
     rw[many,if_pos ((hp s g0 _ hc r7).trans e2)];rfl
   rw[eb];have :=this.cast (show _ =((a::l).map f).flatten by rw[List.map_cons,List.flatten_cons]) (show _ =uD lo D (a::l)by rw[uD,Nat.max_eq_left (dN l)])
   exact this s h r hc agM hd hr hk
  |a::l,0,_,hn,_ =>by simp at hn
def Qd (T:List Tok) (N most lo:Nat) (m:PM aa) (g:PS->Bool) (st:aa->PM aa) (ts:List TK) (x:aa) (D:Nat) (ok:TK->Bool):Prop :=
 ∀s h r,s.c=0->lo<=s.d->s.d<=most->Rest T s (ts++h::r)->ok h=true ->
  (D<=most/\∃y j,y.er=x/\j<=ts.length/\m s=carry g st (N-j) y (mv s ts.length D))\/(most<D/\Fl T (m s).2)
variable {N:Nat}
theorem Qd.cast {m:PM aa} {g st} {ts TS:List TK} {x:aa} {D D':Nat} (h:Qd T N most lo m g st ts x D ok) (ht:ts=TS) (hD:D=D'):Qd T N most lo m g st TS x D' ok:=by
 subst ht;subst hD;exact h
theorem Qd.Yn {m:PM aa} {g st} {ts:List TK} {x:aa} {D:Nat} (h:Qd T N most lo m g st ts x D ok) (hl:∀g,ok1 g=true->ok g=true):Qd T N most lo m g st ts x D ok1:=
 fun s g r hc dN hd hr hk=>h s g r hc dN hd hr (hl g hk)
theorem Ga {m:PM aa} {g st} {p:TK->Bool} {ts:List TK} {x:aa} {D:Nat} (h:Qd T N most lo m g st ts x D ok) (hg:Gd T g p) (b9:∀h,ok1 h=true->ok h=true/\p h=false):Rd T most lo aa.er m ts x D ok1:=fun s h' r hc dN hd hr hk=>by
 obtain⟨h1,h2⟩:=b9 h' hk;rcases h s h' r hc dN hd hr h1 with⟨k1,y,j,k2,k3,k4⟩|k
 ·refine .inl ⟨k1,y,k2,?_⟩
  rw[k4,rf ((hg (mv s ts.length D) h' r hc (yo D hr)).trans h2)]
 ·exact .inr k
theorem EH {m:PM aa} {g:PS->Bool} {st:aa->PM aa} {ts:List TK} {x:aa} {D:Nat} (h:Rd T most lo aa.er m ts x D ok) (ba:∀a,ab T (carry g st N a)):Qd T N most lo (aH m (carry g st N)) g st ts x D ok:=fun s h' r hc dN hd hr hk=>by
 unfold aH;rcases h s h' r hc dN hd hr hk with⟨k1,y,k2,k3⟩|⟨k1,k2,k3⟩
 ·exact .inl ⟨k1,y,0,k2,Nat.zero_le _,by rw[k3];rfl⟩
 ·have:=(ba (m s).1 _ k3).2.2.1 (by rw[k2];decide)
  exact .inr ⟨k1,by rw[this];exact⟨k2,k3⟩⟩
theorem Gb {m:PM aa} {g:PS->Bool} {st:aa->PM aa} {p:TK->Bool} {yt CP:List TK} {x1 x:aa} {D1 D2:Nat} {g0:TK} (hN:T.length<=N) (hg:Gd T g p) (h:Qd T N most lo m g st yt x1 D1 ok1) (ba:∀n a,ab T (carry g st n a))
  (h2:∀y,y.er=x1->Rd T most lo aa.er (st y) (g0::CP) x D2 ok) (h0:p g0=true) (h1:ok1 g0=true):Qd T N most lo m g st (yt++g0::CP) x (max D1 D2) ok:=fun s h' r hc dN hd hr hk=>by
 rw[List.append_assoc]at hr;have hl:=lG hr;rcases h s g0 (CP++h'::r) hc dN hd hr h1 with⟨k1,y,j,k2,k3,k4⟩|⟨k1,k2⟩
 ·have oB:=yo D1 hr
  have e1:N-j=(N-(j+1))+1:=by simp at hl;omega
  have e2:m s=carry g st (N-(j+1)) (st y (mv s yt.length D1)).1 (st y (mv s yt.length D1)).2:=by
   rw[k4,e1,carry,if_pos ((hg (mv s yt.length D1) g0 _ hc oB).trans h0)]
  rcases h2 y k2 (mv s yt.length D1) h' r hc (Nat.le_trans dN (Nat.le_max_left _ _)) (Nat.max_le.2 ⟨hd,k1⟩) oB hk with⟨j1,z,j2,j3⟩|⟨j1,j2,j3⟩
  ·refine .inl ⟨Nat.max_le.2 ⟨k1,j1⟩,z,j+1,j2,by simp;omega,?_⟩
   rw[e2,j3,TQ,List.length_append]
  ·refine .inr ⟨by omega,?_⟩
   have:=(ba (N-(j+1)) (st y (mv s yt.length D1)).1 _ j3).2.2.1 (by rw[j2];decide);rw[e2,this];exact⟨j2,j3⟩
 ·exact .inr ⟨by omega,k2⟩
end
theorem af.qi (l:List af):af.lp l=l.map af.tf:=by
 induction l with
 |nil=>rfl
 |cons t l ih=>rw[af.lp,ih];rfl
theorem ae.qi (l:List ae):ae.lp l=l.map ae.tf:=by
 induction l with
 |nil=>rfl
 |cons t l ih=>rw[ae.lp,ih];rfl
theorem aa.qi (l:List aa):aa.lp l=l.map aa.tf:=by
 induction l with
 |nil=>rfl
 |cons t l ih=>rw[aa.lp,ih];rfl
theorem aa.MX (l:List al):aa.yl l=l.map al.tf:=by
 induction l with
 |nil=>rfl
 |cons t l ih=>rw[aa.yl,ih];rfl
theorem uE {α β:Type} (f:β->Nat) (g:α->β) (l:List α):fV f (l.map g)=fV (fun a=>f (g a)) l:=by
 induction l with
 |nil=>rfl
 |cons a l ih=>simp only[List.map_cons,fV,ih]
theorem sn {α:Type} (lo:Nat) (f:α->Nat) (l:List α):uD lo (fun a=>lo+f a) l=lo+fV f l:=by
 induction l with
 |nil=>rfl
 |cons a l ih=>simp only[uD,fV,ih];omega
theorem ry (sep:TK) (a:List TK):∀l:List (List TK),kT sep (a::l)=a++(l.map (sep:: ·)).flatten
  |[]=>by simp[kT]
  |b::l=>by
   rw[lZ,ry sep b l];simp
theorem qj {T:List Tok} {most lo:Nat} {α β γ:Type} {er:α->β} {m:PM α} {ok:TK->Bool} {D:γ->Nat} {f:γ->List TK} {e:γ->β}:∀{l:List γ},(∀a∈l,Rd T most lo er m (f a) (e a) (D a) ok)->DA T most lo er m ok D f e l
 |[],_=>.nil
 |a::l,h=>.cons (h a (by simp)) (qj fun b hb=>h b (by simp[hb]))
theorem nV {α:Type} {l:List α} (h:(l.length:Int)=1):∃a,l=[a]:=by
 rcases l with _|⟨a,_|⟨b,l⟩⟩
 ·simp at h
 ·exact⟨a,rfl⟩
 ·simp at h;omega
theorem l9 {α:Type} {l:List α} (h:(l.length:Int)=2):∃a b,l=[a,b]:=by
 rcases l with _|⟨a,_|⟨b,_|⟨c,l⟩⟩⟩
 ·simp at h
 ·simp at h
 ·exact⟨a,b,rfl⟩
 ·simp at h;omega
theorem uF {α:Type} {l:List α} (h:(l.length:Int)=0):l=[]:=by
 cases l with
 |nil=>rfl
 |cons a l=>simp at h;omega
theorem CQ {α:Type} {l:List α} (h:2<=(l.length:Int)):∃a b m,l=a::b::m:=by
 rcases l with _|⟨a,_|⟨b,l⟩⟩
 ·simp at h
 ·simp at h
 ·exact⟨a,b,l,rfl⟩
def CR (h:TK):Bool:=!Om h
def yu (h:TK):Bool:=!Om h&& !tT [42] h
def MY (h:TK):Bool:=!Om h&&(!tT [42] h&& !tT [45,62] h)
def agN (T:List Tok) (N:Nat) (ty:PM af):PM af:=aH (e7 T N ty) fun a=>aH (many (aL T [42]) (bT (e7 T N ty)) N) fun l=>aT (fA a l)
section
variable (T:List Tok) (N most:Nat)
def TE (f:List TK) (z:af) (q:Nat):Prop:=∀K d,most+2<=K+d->d<=most+1->Rd T most 0 af.er (pU T N most K d) f z (d+q) MY
def T1 (f:List TK) (z:af) (q:Nat):Prop:=∀K d,most+2<=K+(d+1)->d<=most->Rd T most d af.er (agN T N (pU T N most K (d+1))) f z (d+q) yu
def T2 (f:List TK) (z:af) (q:Nat):Prop:=∀K d,most+2<=K+(d+1)->d<=most->Rd T most d af.er (e7 T N (pU T N most K (d+1))) f z (d+q) CR
def T3 (f:List TK) (z:af) (q:Nat):Prop:=∀K d,most+2<=K+(d+1)->d<=most->Rd T most d af.er (ee T (pU T N most K (d+1))) f z (d+q) (fun _=>true)
structure yw (y:TF) (z:af):Prop where
 e:TE T N most (y.at 0) z (y.qa 0)
 t1:T1 T N most (y.at 1) z (y.qa 1)
 t2:T2 T N most (y.at 2) z (y.qa 2)
 t3:T3 T N most (y.at 3) z (y.qa 3)
 hd:∃h r,y.at 3=h::r/\Om h=true
end
section
variable {T:List Tok} {N most:Nat} (hT:bL T) (hN:T.length<=N)
include hT hN
theorem MZ {f z q} (h:T2 T N most f z q):T1 T N most f z q:=fun K d hK hd=>by
 have hs:=iJ (N:=N) hT most K (d+1);refine ru (h K d hK hd) (fun _=>ab.bind (ab.gp hT (aB T _) (ic hT hs) _) fun _=>ab.ret _) (fun y hy=>?_) (fun g hg=>by simp only[yu,CR,Bool.and_eq_true]at hg⊢;exact hg.1) (by omega);refine ru (er2:=fun l:List af=>l.map af.er) (x1:=[]) (ok1:=yu) (fun s g r hc dN hd hr hk=>?_) (fun _=>ab.ret _) (fun l hl=>?_) (fun g hg=>hg) (Nat.le_refl d)
 ·have hf:aL T [42] s=false:=by
   rw[bX _ s g r hc hr];simp only[yu,Bool.and_eq_true,Bool.not_eq_true']at hk;exact hk.2
  rw[kD hf];exact .inl ⟨by omega,[],rfl,by rw[List.length_nil,TR dN]⟩
 ·have:l=[]:=by simpa using hl
  subst this;exact dB (by rw[show fA y []=y by simp[fA]];exact hy)
theorem M0 {f z q} (h:T1 T N most f z q):TE T N most f z q:=fun K d hK hd=>by
  cases K with
  |zero=>omega
  |succ K=>
   have hs:=iJ (N:=N) hT most K (d+1);refine km (Nat.le_add_right _ _) fun nW=> ?_
   exact ru (ok:=MY) (h K d (by omega) nW) (k:=fun x=>bm (aL T [45,62]) (aH (pU T N most K (d+1)) fun b=>aT (af.mk 3 [] x.pos [x,b])) (aT x)) (fun _ =>ab.bm hT (aB T _) (ab.bind hs fun _ =>ab.ret _) (ab.ret _))
     (fun y hy=>F8 (bX _) (fun g hg=>by simp only[MY,Bool.and_eq_true,Bool.not_eq_true']at hg;exact hg.2.2) (dB hy)) (fun g hg=>by simp only[MY,yu,Bool.and_eq_true]at hg⊢;exact⟨hg.1,hg.2.1⟩) (by omega)
theorem adO {f z q} (h:TE T N most f z q):T3 T N most (cf [40]::(f++[cf [41]])) z (q+1):=fun K d hK hd=>by
 unfold ee;refine cj fun w hw=>b7 (cI _) rfl<|b7 (cI _) rfl<|eR rfl ?_
 exact gj ((h K (d+1) hK (by omega)).low (Nat.zero_le d)) (fun _=>ab.step (aK hT _) (ab.ret _)) (fun y hy=>eR (g:=cf [41]) rfl (dB hy)) (dE rfl) rfl (by omega)
theorem abD {f z q} (h:T3 T N most f z q) {g r} (hf:f=g::r) (h1:tT [114,101,102] g=false) (h2:tK 3 g=false):T2 T N most f z q:=fun K d hK hd=>by
 subst hf;unfold e7;exact cj fun w hw=>b7 (bX _) h1<|b7 (cI _) h2<|(h K d hK hd).Yn fun _ _=>rfl
theorem Yo {f z q} (h:TE T N most f z q):T1 T N most (cf [40]::(f++[cf [41]])) z (q+1)/\T2 T N most (cf [40]::(f++[cf [41]])) z (q+1)/\T3 T N most (cf [40]::(f++[cf [41]])) z (q+1):=by
 have h3:=adO hT hN h;have h2:=abD hT hN h3 rfl rfl rfl;exact⟨MZ hT hN h2,h2,h3⟩
theorem yx {y:TF} {z:af} (lv:Int) (hl:y.l=lv) (hE:TE T N most y.f z y.q) (h0:0<=lv) (h1:1<=lv->T1 T N most y.f z y.q) (h2:2<=lv->T2 T N most y.f z y.q) (h3:3<=lv->T3 T N most y.f z y.q/\∃h r,y.f=h::r/\Om h=true):yw T N most y z:=by
 subst hl;obtain⟨b1,b2,b3⟩:=Yo hT hN hE;refine⟨?_,?_,?_,?_,?_⟩<;>unfold TF.at<;>try unfold TF.qa
 ·rw[if_neg (by omega),if_neg (by omega)];exact hE
 ·by_cases h:y.l<1
  ·rw[if_pos h,if_pos h];exact b1
  ·rw[if_neg h,if_neg h];exact h1 (by omega)
 ·by_cases h:y.l<2
  ·rw[if_pos h,if_pos h];exact b2
  ·rw[if_neg h,if_neg h];exact h2 (by omega)
 ·by_cases h:y.l<3
  ·rw[if_pos h,if_pos h];exact b3
  ·rw[if_neg h,if_neg h];exact(h3 (by omega)).1
 ·by_cases h:y.l<3
  ·rw[if_pos h];exact⟨_,_,rfl,rfl⟩
  ·rw[if_neg h];exact(h3 (by omega)).2
omit hT hN in
theorem EI {f:af→List TK} {l:List af} (h:∀x∈l,∃h r,f x=h::r):l.length≤((l.map f).flatten).length:=by
  induction l with
  |nil=>simp
  |cons a l ih=>
   obtain⟨g,r,e⟩:=h a (by simp);have :=ih fun x hx=>h x (by simp[hx])
   simp only[List.map_cons,List.flatten_cons,List.length_append,List.length_cons,e];omega
theorem Oo {n:List UInt8} {ks:List af} (hk:∀x∈ks,yw T N most x.tf x.er):yw T N most (uC 1 n (af.lp ks)) (.mk 1 n 0 (af.fW ks)):=by
 have h2:T2 T N most (w9 n::(ks.map fun x=>x.tf.at 3).flatten) (.mk 1 n 0 (af.fW ks)) (fV (fun x=>x.tf.qa 3) ks):=fun K d hK hd=>by
  have hs:=iJ (N:=N) hT most K (d+1);unfold e7;refine cj fun w hw=>b7 (bX _) rfl<|gk (cI _) rfl ?_
  have hl:DA T most d af.er (ee T (pU T N most K (d+1))) (fun _=>true) (fun x=>d+x.tf.qa 3) (fun x=>x.tf.at 3) af.er ks:=qj fun x hx=>(hk x hx).t3 K d hK hd
  have xd:w.t=n:=congrArg (fun g:TK=>g.2.1) hw;refine fun s g r hc dN kz hr ia=>?_
  have hlen:ks.length<=N:=by
   have:=lG hr;have h3:=EI (f:=fun x=>x.tf.at 3) (l:=ks) fun x hx=>by obtain⟨h,r,e,-⟩:=(hk x hx).hd;exact⟨h,r,e⟩
   omega
  have hm:=nU (ok:=CR) adM (fun n=>ab.many only_tySt (jh hT hs) n) (fun h hh=>by simpa[CR]using hh) (fun _ _=>rfl) ks N hl hlen (fun a ha=>by obtain⟨h,r,e,e2⟩:=(hk a ha).hd;exact⟨h,r,e,e2,rfl⟩);have e0:uD d (fun x=>d+x.tf.qa 3) ks=d+fV (fun x=>x.tf.qa 3) ks:=sn _ _ _;rw[e0]at hm;exact gB (ok:=CR) (er:=af.er) hm (fun l hl=>by rw[af.er,af.nn,af.nn,hl,xd]) (fun h hh=>hh) (by omega) s g r hc dN kz hr ia
 have e1:(af.lp ks).map (·.at 3)=ks.map fun x=>x.tf.at 3:=by rw[af.qi,List.map_map];rfl
 have e2:fV (·.qa 3) (af.lp ks)=fV (fun x=>x.tf.qa 3) ks:=by rw[af.qi,uE]
 have e3:(af.lp ks).length=ks.length:=by rw[af.qi,List.length_map]
 have et:uC 1 n (af.lp ks)=⟨w9 n::(ks.map fun x=>x.tf.at 3).flatten,if ks.length=0 then 3 else 2,false,fV (fun x=>x.tf.qa 3) ks⟩:=by
  unfold uC;rw[if_neg (by decide),if_neg (by decide),if_neg (by decide),if_neg (by decide),e1,e2,e3]
 rw[et];have h1:=MZ hT hN h2;refine yx hT hN (if ks.length=0 then 3 else 2) rfl (M0 hT hN h1) (by split <;>omega) (fun _=>h1) (fun _=>h2) (fun h=>?_)
 have:ks=[]:=by
  cases ks with
  |nil=>rfl
  |cons a l=>simp at h
 subst this;refine⟨fun K d hK hd=>?_,_,_,rfl,rfl⟩;unfold ee;refine cj fun w hw=>b7 (cI _) rfl<|gk (cI _) rfl<|dB ?_
 have xd:w.t=n:=congrArg (fun g:TK=>g.2.1) hw;rw[af.er,xd]
theorem TT {n:List UInt8}:yw T N most (uC 2 n []) (.mk 2 n 0 []):=by
 have h3:T3 T N most [Dz n] (.mk 2 n 0 []) 0:=fun K d hK hd=>by
  unfold ee;refine cj fun w hw=>gk (cI _) rfl<|dB ?_
  have xd:w.t=n:=congrArg (fun g:TK=>g.2.1) hw;rw[af.er,xd];rfl
 have h2:=abD hT hN h3 rfl rfl rfl;have h1:=MZ hT hN h2;exact yx (y:=uC 2 n []) hT hN 3 rfl (M0 hT hN h1) (by decide) (fun _=>h1) (fun _=>h2) (fun h=>⟨h3,_,_,rfl,rfl⟩)
theorem TU {y:TF} {z:af} (h:yw T N most y z):yw T N most (uC 5 [] [y]) (.mk 5 [] 0 [z]):=by
 have h2:T2 T N most (fK [114,101,102]::y.at 3) (.mk 5 [] 0 [z]) (y.qa 3):=fun K d hK hd=>by
  unfold e7;refine cj fun w hw=>gk (bX _) rfl ?_
  exact gB (h.t3 K d hK hd) (fun x hx=>by rw[af.er,af.fW,af.fW,hx]) (fun _ _=>rfl) (by omega)
 have h1:=MZ hT hN h2;exact yx (y:=uC 5 [] [y]) hT hN 2 rfl (M0 hT hN h1) (by decide) (fun _=>h1) (fun _=>h2) (fun h=>absurd h (by decide))
theorem TW {a:af} {l:List af} (Dr:l≠[]) (ha:yw T N most a.tf a.er) (hk:∀x∈l,yw T N most x.tf x.er):yw T N most (uC 4 [] (af.lp (a::l))) (.mk 4 [] 0 (af.fW (a::l))):=by
 have h1:T1 T N most (a.tf.at 2++(l.map fun x=>cf [42]::x.tf.at 2).flatten) (.mk 4 [] 0 (af.fW (a::l))) (fV (fun x=>x.tf.qa 2) (a::l)):=fun K d hK hd=>by
  have hs:=iJ (N:=N) hT most K (d+1);have hl:DA T most d af.er (bT (e7 T N (pU T N most K (d+1)))) CR (fun x=>d+x.tf.qa 2) (fun x=>cf [42]::x.tf.at 2) af.er l:=qj fun x hx=>sk ((hk x hx).t2 K d hK hd)
  refine fun s g r hc dN kz hr ia=>?_
  have hlen:l.length<=N:=by
   have:=lG hr;have h3:=EI (f:=fun x=>cf [42]::x.tf.at 2) (l:=l) fun x hx=>⟨_,_,rfl⟩
   rw[List.length_append]at this;omega
  have hm:=nU (ok:=yu) (bX [42]) (m:=bT (e7 T N (pU T N most K (d+1)))) (fun n=>ab.gp hT (aB T [42]) (ic hT hs) n) (fun h hh=>by simp only[yu,Bool.and_eq_true,Bool.not_eq_true']at hh;exact hh.2) (fun h hh=>by simp only[yu,CR,Bool.and_eq_true]at hh⊢;exact hh.1) l N hl hlen (fun a ha=>⟨_,_,rfl,rfl,rfl⟩);have e0:uD d (fun x=>d+x.tf.qa 2) l=d+fV (fun x=>x.tf.qa 2) l:=sn _ _ _;rw[e0]at hm;refine gj (ok:=yu) (er:=af.er) (ha.t2 K d hK hd) (fun _=>ab.bind (ab.gp hT (aB T _) (ic hT hs) _) fun _=>ab.ret _) (fun x hx=>gB hm (fun l' iy=>?_) (fun h hh=>hh) (by omega)) ?_ rfl ?_ s g r hc dN kz hr ia
  ·have:l'≠[]:=by rintro rfl;simp at iy;exact Dr iy
   rw[fA,if_neg this,af.er,af.fW,af.fW,af.nn,af.nn,iy,hx]
  ·cases l with
   |nil=>exact(Dr rfl).elim
   |cons b l=>exact dE rfl
  ·rw[fV];omega
 have et:uC 4 [] (af.lp (a::l))=⟨a.tf.at 2++(l.map fun x=>cf [42]::x.tf.at 2).flatten,1,false,fV (fun x=>x.tf.qa 2) (a::l)⟩:=by
  unfold uC;rw[if_neg (by decide),if_pos rfl,af.qi,List.map_map,List.map_cons,ry,List.map_map,uE];rfl
 rw[et];exact yx hT hN 1 rfl (M0 hT hN h1) (by decide) (fun _=>h1) (fun h=>absurd h (by decide)) (fun h=>absurd h (by decide))
theorem TX {y1 y2:TF} {z1 z2:af} (h1:yw T N most y1 z1) (h2:yw T N most y2 z2):yw T N most (uC 3 [] [y1,y2]) (.mk 3 [] 0 [z1,z2]):=by
  have hE:TE T N most (y1.at 1++(cf [45,62]::y2.at 0)) (.mk 3 [] 0 [z1,z2]) (max (y1.qa 1) (y2.qa 0+1)):=fun K d hK hd=>by
    cases K with
    |zero=>omega
    |succ K=>
     have hs:=iJ (N:=N) hT most K (d+1);refine km (Nat.le_add_right _ _) fun nW=> ?_
     exact gj (h1.t1 K d (by omega) nW) (k:=fun x=>bm (aL T [45,62]) (aH (pU T N most K (d+1)) fun b=>aT (af.mk 3 [] x.pos [x,b])) (aT x)) (fun _ =>ab.bm hT (aB T _) (ab.bind hs fun _ =>ab.ret _) (ab.ret _))
       (fun y hy=>gk (bX _) (g:=cf [45,62]) rfl (gB ((h2.e K (d+1) (by omega) (by omega)).low (Nat.zero_le d)) (fun b hb=>by rw[af.er,af.fW,af.fW,af.fW,hy,hb]) (fun h hh=>hh) (by omega))) (dE rfl) rfl (by omega)
  exact yx (y:=uC 3 [] [y1,y2]) hT hN 0 rfl hE (by decide) (fun h=>absurd h (by decide)) (fun h=>absurd h (by decide)) (fun h=>absurd h (by decide))
mutual
theorem af.rt:∀t:af,t.okB=true →yw T N most t.tf t.er
  | .mk k n p ks,h=>by
    rw[af.okB,Bool.and_eq_true]at h;have ih:=af.Io ks h.2;have hk:=h.1;unfold AB at hk;rw[af.tf,af.er];by_cases h1:k=1
    · subst h1;exact Oo hT hN ih
    by_cases h2:k=2
    · subst h2;simp at hk
      have :=uF (l:=ks) (by simp[hk.1.1]);subst this;exact TT hT hN
    by_cases h3:k=3
    · subst h3;simp at hk
      obtain⟨a,b,rfl⟩:=l9 hk.1.1;obtain⟨⟨-,rfl⟩,-⟩:=hk;exact TX hT hN (ih a (by simp)) (ih b (by simp))
    by_cases h4:k=4
    · subst h4;simp at hk
      obtain⟨a,b,l,rfl⟩:=CQ (l:=ks) (by have :=hk.1.1;omega);obtain⟨⟨-,rfl⟩,-⟩:=hk;exact TW hT hN (by simp) (ih a (by simp)) (fun x hx=>ih x (by simp[hx]))
    by_cases h5:k=5
    · subst h5;simp at hk
      obtain⟨a,rfl⟩:=nV hk.1.1;obtain⟨⟨-,rfl⟩,-⟩:=hk;exact TU hT hN (ih a (by simp))
    simp[h1,h2,h3,h4,h5]at hk
theorem af.Io:∀l:List af,af.nO l=true →∀x∈l,yw T N most x.tf x.er
  |[],_ =>fun x hx=>by cases hx
  |t::l,h=>fun x hx=>by
   rw[af.nO,Bool.and_eq_true]at h;rcases List.mem_cons.1 hx with e|hx
   · exact e▸af.rt t h.1
   · exact af.Io l h.2 x hx
end
end
end Go.Proofs.YtjkbbnfdbfcebaaGreatDoor.Pg