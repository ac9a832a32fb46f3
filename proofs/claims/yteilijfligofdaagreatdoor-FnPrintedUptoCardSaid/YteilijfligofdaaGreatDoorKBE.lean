/- Texts QcK QcL QiJ QiK QiC QiD QjA QjB QjC QjD QiP QiQ QjF QjG QeA QeB QeC QeD QeE, merged. -/
import Derived.Test.YteilijfligofdaaGreatDoorKBD
import Derived.Test.YteilijfligofdaaGreatDoorChecked
import Derived.KernelRfl
set_option linter.all false
namespace Go.Proofs.YteilijfligofdaaGreatDoor.Qp
open Go.AM Mc Pg
section
variable {T:List Tok} {most e:Nat} (hT:bH T) (aK:T.length<=1073741825)
include hT aK
theorem YH {d:Nat} (hd:d<=1099511627776) {ex:PM aa} (hP:iz T most e 30 [iV (d+1:Nat)] ex aa.tv) (sP:ab T ex):iz T most e 90 [iV 0,iV d] (sk T T.length ex) aa.tv:=by
 have h1:=Pw (adu hT aK hd hP sP);have h2:=Px (YF hT aK h1 (Pg.pD hT sP));have h3:=LJ (YG hT aK h2 (Pg.nV hT sP));have h4:=LK (Uz hT aK h3 (Pg.nW hT sP));exact UA hT aK h4 (Pg.ma hT sP)
end
theorem NK (A:List AO) (i:Nat) (o:AO) (B:List AO):(A.set i o++B)[A.length]?=B[0]?:=by
 have:=fX (A.set i o) B;rwa[List.length_set]at this
theorem LN {J:St->Prop} {L T':En} {d:MD} {bytes n p sz:Nat} {N:List Nat} {c0 c:AO} {H H1 A B:List AO} {a:AV} {rs:List (List AV)} {y:List AV} (hn:H.length=n) (ah:H1.length=n) (lS:iG (H.set p c0++A) a sz rs) (NI:∀id v o m,a=.gs id v o m->n<=id/\id-n∉N) (xS:∀k∈N,k<A.length) (hl:rs.length<=1073741826) (hB:∀(k:Nat) (o:AO),A[k]?=some o->B[k]?=some o) (Gl:bytes<=1000)
  (k:∀id ver A',(H1.set p c++A')[id]?=some (.rows sz ver (rs++[y]))->(n<=id/\id-n∉N)->(∀k:Nat,k∈N->A'[k]?=A[k]?)->J (St.put ⟨L,T',H1.set p c++A'⟩ d (.gs id ver 0 (rs.length+1)))):
  lR sz bytes a [y] d J ⟨L,T',H1.set p c++B⟩:=by
 have Ld:∀k∈N,k<B.length:=fun k hk=>by
  have yL:=xS k hk;exact aT (hB k A[k] (by simp[yL]))
 have adw:∀id v o m,a=.gs id v o m->H1.length<=id/\id-H1.length∉N:=by rw[ah];exact NI
 have adx:iG (H1.set p c++B) a sz rs:=by
  rcases lS with h1|⟨id,ver,e1,h1⟩
  ·exact .inl h1
  ·obtain⟨q1,q2⟩:=NI _ _ _ _ e1
   obtain⟨q,rfl⟩:=Nat.le.dest q1;rw[aj hn]at h1;exact .inr ⟨_,ver,e1,by rw[aj ah];exact hB _ _ h1⟩
 refine C0 (rs:=rs) (ys:=[y]) adx Ld adw (by simp;exact Nat.le_trans (Nat.mul_le_mul (show rs.length+1<=1073741827 by omega) Gl) (by decide)) (by simp;omega) ?_;intro id ver A' k1 k2 k3;rw[ah]at k2;refine k id ver A' k1 k2 (fun j hj=>?_);rw[k3 j hj];have jE:=xS j hj;rw[hB j A[j] (by simp[jE])];simp[jE]
structure LA (pv:PS->AO) (T:List Tok) (e b n p:Nat) (K:List AO) (N:List Nat) (DY:List TV) (Dc:List AV) (arm:PM ar) (Rl:List ar) (Rs:PS) (x:LG ar):Prop where
 ok:Ok T e x.s
 ln:x.acc.length<=x.s.i
 fu:T.length-x.s.i<=x.j
 c0:x.s.c=0
 rl:x.acc++((arm x.s).1::(many (aH T [124]) (bM arm) x.j (arm x.s).2).1)=Rl
 re:(many (aH T [124]) (bM arm) x.j (arm x.s).2).2=Rs
 hn:x.H.length=n
 kp:Kp b K x.H
 fr:∃M,Fr b x.H M/\nC (arm x.s).1.tv+nR ((many (aH T [124]) (bM arm) x.j (arm x.s).2).1.map ar.tv)<=M
 env:Env b n (x.H.set p (pv x.s)++x.A) (DY++(x.acc.map ar.tv).flatten) (Dc++x.rs.flatten)
 len:x.rs.length=x.acc.length
 sz1:∀r∈x.rs,r.length=12
 own:iG (x.H.set p (pv x.s)++x.A) x.a 12 x.rs
 ids:∀id v o m,x.a=.gs id v o m->n<=id/\id-n∉N
 nm:∀k∈N,k<x.A.length
section
variable {pv:PS->AO} {T:List Tok} {e b n p:Nat} {K:List AO} {N:List Nat} {DY:List TV} {Dc:List AV} {arm:PM ar} {Rl:List ar} {Rs:PS}
theorem LA.start {H A:List AO} {s:PS} {M:Nat} (hs:Ok T e s) (h0:s.c=0) (h:ow T T.length arm s=(Rl,Rs)) (hn:H.length=n) (hk:Kp b K H) (hF:Fr b H M) (hM:nR (Rl.map ar.tv)<=M) (hE:Env b n (H.set p (pv s)++A) DY Dc) (hb:∀k∈N,k<A.length):LA pv T e b n p K N DY Dc arm Rl Rs ⟨T.length,s,[],[],.p .nl,H,A⟩:=by
 have h1:(arm s).1::(many (aH T [124]) (bM arm) T.length (arm s).2).1=Rl:=by have:=congrArg Prod.fst h;exact this
 have h2:(many (aH T [124]) (bM arm) T.length (arm s).2).2=Rs:=by have:=congrArg Prod.snd h;exact this
 refine⟨hs,Nat.zero_le _,by simp only;omega,h0,h1,h2,hn,hk,⟨M,hF,?_⟩,by simpa using hE,rfl,by simp,.inl ⟨rfl,rfl⟩,(fun _ _ _ _ e=>by cases e),hb⟩;rw[<-h1]at hM;simpa[nR]using hM
theorem LA.stop {x:LG ar} (h:LA pv T e b n p K N DY Dc arm Rl Rs x) {y:ar} {s2:PS} (hm:arm x.s=(y,s2)) (hg:aH T [124] s2=false):x.acc++[y]=Rl/\s2=Rs:=by
 have h1:=h.rl;have h2:=h.re;rw[hm]at h1 h2;rw[kC hg]at h1 h2;exact⟨h1,h2⟩
theorem LA.room {x:LG ar} (h:LA pv T e b n p K N DY Dc arm Rl Rs x) {y:ar} {s2:PS} (hm:arm x.s=(y,s2)):∃M,Fr b x.H M/\nC y.tv+nR ((many (aH T [124]) (bM arm) x.j s2).1.map ar.tv)<=M:=by
 obtain⟨M,h1,h2⟩:=h.fr;rw[hm]at h2;exact⟨M,h1,h2⟩
theorem LA.E4 {x:LG ar} (h:LA pv T e b n p K N DY Dc arm Rl Rs x) {s2:PS} {H1 A' A'':List AO} {id ver:Nat} {cs:List AV} (ah:H1.length=n) (k1:(H1.set p (pv s2)++A')[id]?=some (.rows 12 ver (x.rs++[cs]))) (k2:n<=id/\id-n∉N) (k3:∀(k:Nat) (o:AO),k∉N->A'[k]?=some o->A''[k]?=some o) (c:AO):(H1.set p c++A'')[id]?=some (.rows 12 ver (x.rs++[cs])):=by
 obtain⟨q,hq⟩:=Nat.le.dest k2.1;subst hq;rw[aj ah]at k1⊢;exact k3 _ _ (by have:=k2.2;rwa[Nat.add_sub_cancel_left]at this) k1
theorem LA.next (hT:bH T) {x:LG ar} (h:LA pv T e b n p K N DY Dc arm Rl Rs x) {y:ar} {s2:PS} (hm:arm x.s=(y,s2)) (bt:Ok T e s2) (ir:x.s.i<=s2.i) (hg:aH T [124] s2=true) {H1 A' A'':List AO} {M id ver:Nat} {cs:List AV} (ah:H1.length=n) (dL:Kp b x.H H1) (fJ:Fr b H1 M) (hM:nR ((many (aH T [124]) (bM arm) x.j s2).1.map ar.tv)<=M)
  (cy:Env b n (H1.set p (pv (aE s2))++A'') (DY++(x.acc.map ar.tv).flatten++y.tv) (Dc++x.rs.flatten++cs)) (gU:cs.length=12)
  (k1:(H1.set p (pv s2)++A')[id]?=some (.rows 12 ver (x.rs++[cs]))) (k2:n<=id/\id-n∉N) (k3:∀(k:Nat) (o:AO),k∉N->A'[k]?=some o->A''[k]?=some o) (k4:∀k∈N,k<A''.length):
  LA pv T e b n p K N DY Dc arm Rl Rs ⟨x.j-1,aE s2,x.acc++[y],x.rs++[cs],.gs id ver 0 (x.rs.length+1),H1,A''⟩:=by
 have hk:=cB hg;have hfu:=h.fu;have hix:=h.ok.1;obtain⟨j',hj⟩:∃j',x.j=j'+1:=⟨x.j-1,by omega⟩;have h1:=h.rl;have h2:=h.re;rw[hm]at h1 h2;simp only[hj,many,if_pos hg]at h1 h2 hM;have e1:∀s,bM arm s=arm (aE s):=fun _=>rfl
 simp only[e1]at h1 h2 hM;have C1:=h.ln;refine⟨bt.aE hT hk.2,by simp[aE];omega,by simp[aE];omega,hk.1,by simp only[hj,Nat.add_sub_cancel];simpa using h1,by simp only[hj,Nat.add_sub_cancel];exact h2,ah,h.kp.trans dL,⟨M,fJ,by simp only[hj,Nat.add_sub_cancel];simpa[nR]using hM⟩,by simpa using cy,by simp[h.len],?_,.inr ⟨id,ver,by simp,h.E4 ah k1 k2 k3 _⟩,(fun jC v o m' e=>by cases e;exact k2),k4⟩;intro r hr;rcases List.mem_append.1 hr with hr|hr
 ·exact h.sz1 r hr
 ·simp at hr;rw[hr];exact gU
end
theorem LP {b u:Nat} {X:List AO} {k:Int} {nm:List UInt8} {un:Int} {t:List UInt8} {q:Int} {l:List aa} {bf:List ar} {a a':AV} (h:Env b u X [.s 7 (l.map aa.tv),.s 12 (bf.map ar.tv)] [a,a']):Env b u X (aa.tv (.mk k nm un t q l bf)) [iV k,sV nm,iV un,sV t,iV q,a,a']:=by
 rw[aa.tv,aa.oU,aa.NH];exact((((h.pc _).pc _).pc _).pc _).pc _
theorem rows2 {b u n q:Nat} {X:List AO} {x y:aa} {c1 c2:List AV} {ver:Nat} (h:Env b u X (x.tv++y.tv) (c1++c2)) (l1:c1.length=7) (l2:c2.length=7) (hi:X[n+q]?=some (.rows 7 ver [c1,c2])) (hu:u<=n) (hb:b<=n):Env b (n+q+1) X [.s 7 ([x,y].map aa.tv)] [.gs (n+q) ver 0 2]:=
 Env.node (rows:=[x.tv,y.tv]) (rs:=[c1,c2]) (by simpa using h) hi (by omega) (by omega) rfl (by intro r hr;simp at hr;rcases hr with rfl|rfl<;>exact aa.b9 _) (by intro r hr;simp at hr;rcases hr with rfl|rfl<;>assumption) (by simp)
theorem ady {b u n q:Nat} {X:List AO} {x y z:aa} {c1 c2 c3:List AV} {ver:Nat} (h:Env b u X (x.tv++y.tv++z.tv) (c1++c2++c3)) (l1:c1.length=7) (l2:c2.length=7) (l3:c3.length=7) (hi:X[n+q]?=some (.rows 7 ver [c1,c2,c3])) (hu:u<=n) (hb:b<=n):Env b (n+q+1) X [.s 7 ([x,y,z].map aa.tv)] [.gs (n+q) ver 0 3]:=
 Env.node (rows:=[x.tv,y.tv,z.tv]) (rs:=[c1,c2,c3]) (by simpa[List.append_assoc]using h) hi (by omega) (by omega) rfl (by intro r hr;simp at hr;rcases hr with rfl|rfl|rfl<;>exact aa.b9 _) (by intro r hr;simp at hr;rcases hr with rfl|rfl|rfl<;>assumption) (by simp)
section
variable {T:List Tok} {most e:Nat} (hT:bH T) (aK:T.length<=1073741825)
include hT aK
theorem adz {d:Nat} (hd:d<=1099511627776) {pat:PM ae} {ex:PM aa} (UB:d<=most->iz T most e 89 [iV (d+1:Nat)] pat ae.tv) (AP:ab T pat) (hP:d<=most->iz T most e 30 [iV (d+1:Nat)] ex aa.tv) (sP:ab T ex):iz T most e 30 [iV d] (zN T T.length most pat ex d) aa.tv:=by
 refine iq fun p K b n s hn hp hb hs hF=>?_
 have bS:p<K.length:=by omega
 have p7:n≠p:=by omega
 have kH:n+1≠p:=by omega
 have oz:wr .i64 ((d:Int)+1)=((d+1:Nat):Int):=cH _ (by omega);refine call30 (by simp) ?_;simp only[go_sem,simprocAttr,aj hn,aA hn,ay hn,aB hn,hn,hn,TS,abi];refine U (C8 d K _ p s bS hs) ?_;have bx:=Db (most:=most) (d:=d) hT aK hs;unfold zN jJ at hF⊢;cases hc:decide ((cM T most d s).c=0)
 ·rw[if_neg (of_decide_eq_false hc)]
  simp only[go_sem,simprocAttr,aj hn,aA hn,ay hn,aB hn,hn,hn,hc,Bool.not_false,Bool.not_true];exact⟨_,K,_,0,rfl,rfl,Kp.rfl,hQ _ _ _ _ _ _ _ _⟩
 have yq:=of_decide_eq_true hc;have hO:=YH hT aK hd (hP (uU hT aK yq)) sP;have hC:=LM hd (hP (uU hT aK yq));have UB:=UB (uU hT aK yq);rw[if_pos yq]at hF⊢;simp only[go_sem,simprocAttr,aj hn,aA hn,ay hn,aB hn,hn,hn,hc,Bool.not_false,Bool.not_true];generalize cM T most d s=s1 at *;refine U (lK K _ p s1 bS bx) ?_;simp only[go_sem,simprocAttr,aj hn,aA hn,ay hn,aB hn,hn,hn,Tok.cells];rw[bE]at hF⊢;generalize Da:aD T s1=t at *;obtain⟨tk,tt,tn,tp⟩:=t;simp only at hF⊢;refine U (ix aK [108,101,116] K _ p s1 bS bx) ?_;unfold di;cases c1:aH T [108,101,116] s1;rotate_left
 ·rw[aQ c1]at hF⊢
  have dB:=bx.aE hT (cB c1).2;simp only[go_sem,simprocAttr,aj hn,aA hn,ay hn,aB hn,hn,hn,c1];refine U (ix aK [114,101,99] K _ p _ bS dB) ?_;unfold uh at hF⊢;unfold di;cases c2:aH T [114,101,99] (aE s1)
  ·rw[aU c2]at hF⊢
   have UC:=dB;simp only[go_sem,simprocAttr,aj hn,aA hn,ay hn,aB hn,hn,hn,c2];refine U (xu aK 3 K _ p _ bS UC) ?_;have bt:=UC.run (ab.word hT (k:=3) (by decide));rcases dC:cU T 3 (aE s1)with⟨w1,s2⟩
   rw[dC]at bt;simp only at bt;simp only[go_sem,simprocAttr,aj hn,aA hn,ay hn,aB hn,hn,hn];refine U (iy hT aK [[61]] (by decide) bS bt (by omega) (fun c=>by rw[aj hn];rfl)) ?_;have rP:=bt.step (aG hT [61]);simp only[go_sem,simprocAttr,aj hn,aA hn,ay hn,aB hn,hn,hn,gh];rcases jS:ex (aS T [61] s2)with⟨⟨k5,n5,u5,t5,q5,l5,m5⟩,s5⟩
   have lO:=rP.run sP;rw[jS]at lO;simp only at lO;rcases yQ:ex (aS T [105,110] s5)with⟨⟨k6,n6,u6,t6,q6,l6,m6⟩,s6⟩
   have yO:=lO.step (aG hT [105,110]);simp only[aN,cV,il,dC,jS,yQ]at hF⊢;have p6:nC (aa.tv (.mk 10 w1 0 [] tp [.mk k5 n5 u5 t5 q5 l5 m5,.mk k6 n6 u6 t6 q6 l6 m6] []))=1+(nC (aa.tv (.mk k5 n5 u5 t5 q5 l5 m5))+nC (aa.tv (.mk k6 n6 u6 t6 q6 l6 m6))):=by rw[nA];simp[nK,nR]
   rw[p6]at hF;obtain⟨H5,YI,cP,Gz,Py,YJ,_,yV,call5⟩:=(hC p n (n+1)).use aa.wf jS hn hp hb rP hF (by omega);have xz:=fun A'=>yV [] [] [] A' (Env.nil _ _ _)
   obtain⟨c5,b5,rfl⟩:=(xz []).fK rfl;refine⟨_,gP hn _ _ _,?_⟩;simp only[go_sem,simprocAttr,aj hn,aA hn,ay hn,aB hn,hn,hn];refine jy rfl ?_;refine aL _ _ (qU cP hn _ _ _) (gP cP _ _ _) (gp call5 _ fun A'=>⟨p7,kH,by rw[<-hn,fX];rfl,by rw[<-hn,eZ];rfl⟩) ?_;simp only[go_sem,simprocAttr,aj cP,aA cP,ay cP,aB cP,cP,cP,Nat.add_zero,Nat.add_assoc];have UD:p<H5.length:=by omega
   refine⟨by intro r hr;simp at hr;subst hr;rfl,?_⟩;refine U (iy hT aK [[105,110]] (by decide) UD lO (by omega) (fun c=>by rw[aj cP];rfl)) ?_;simp only[go_sem,simprocAttr,aj cP,aA cP,ay cP,aB cP,cP,cP,gh];obtain⟨H6,cs6,mn,UE,fr6,cl6,_,IM,call6⟩:=(hC p n (n+1)).use aa.wf yQ cP hp hb yO Py (by omega);have IN:=fun A'=>IM _ _ [] A' (Env.base (xz []) cP hp)
   obtain⟨c6,b6,rfl⟩:=(IN []).fK rfl;refine⟨_,gP cP _ _ _,?_⟩;simp only[go_sem,simprocAttr,aj cP,aA cP,ay cP,aB cP,cP,cP];refine jy rfl ?_;refine aL _ _ (qU mn cP _ _ _) (gP mn _ _ _) (gp call6 _ fun A'=>⟨p7,kH,by rw[<-cP,fX];rfl,by rw[<-cP,eZ];rfl⟩) ?_;simp only[go_sem,simprocAttr,aj mn,aA mn,ay mn,aB mn,mn,mn,Nat.add_zero,Nat.add_assoc];have abu:p<H6.length:=by omega
   refine⟨by intro r hr;simp at hr;subst hr;rfl,?_⟩;exact⟨_,H6,_,_,rfl,rfl,Gz.trans UE,iP (rows2 (u:=n) (IN _) rfl rfl (by rw[aj mn];rfl) (Nat.le_refl _) hb)⟩
  ·rw[aQ c2]at hF⊢
   have UC:=dB.aE hT (cB c2).2;simp only[go_sem,simprocAttr,aj hn,aA hn,ay hn,aB hn,hn,hn,c2];refine U (xu aK 3 K _ p _ bS UC) ?_;have bt:=UC.run (ab.word hT (k:=3) (by decide));rcases dC:cU T 3 (aE (aE s1))with⟨w1,s2⟩
   rw[dC]at bt;simp only at bt;simp only[go_sem,simprocAttr,aj hn,aA hn,ay hn,aB hn,hn,hn];refine U (xu aK 3 K _ p _ bS bt) ?_;have eA:=bt.run (ab.word hT (k:=3) (by decide));rcases fD:cU T 3 s2 with⟨w2,s3⟩
   rw[fD]at eA;simp only at eA;simp only[go_sem,simprocAttr,aj hn,aA hn,ay hn,aB hn,hn,hn];refine U (iy hT aK [[61]] (by decide) bS eA (by omega) (fun c=>by rw[aj hn];rfl)) ?_;have rP:=eA.step (aG hT [61]);simp only[go_sem,simprocAttr,aj hn,aA hn,ay hn,aB hn,hn,hn,gh];rcases jS:ex (aS T [61] s3)with⟨⟨k5,n5,u5,t5,q5,l5,m5⟩,s5⟩
   have lO:=rP.run sP;rw[jS]at lO;simp only at lO;rcases yQ:ex (aS T [105,110] s5)with⟨⟨k6,n6,u6,t6,q6,l6,m6⟩,s6⟩
   have yO:=lO.step (aG hT [105,110]);simp only[aN,cV,il,dC,fD,jS,yQ]at hF⊢;have p6:nC (aa.tv (.mk 11 w1 0 w2 tp [.mk k5 n5 u5 t5 q5 l5 m5,.mk k6 n6 u6 t6 q6 l6 m6] []))=1+(nC (aa.tv (.mk k5 n5 u5 t5 q5 l5 m5))+nC (aa.tv (.mk k6 n6 u6 t6 q6 l6 m6))):=by rw[nA];simp[nK,nR]
   rw[p6]at hF;obtain⟨H5,YI,cP,Gz,Py,YJ,_,yV,call5⟩:=(hC p n (n+1)).use aa.wf jS hn hp hb rP hF (by omega);have xz:=fun A'=>yV [] [] [] A' (Env.nil _ _ _)
   obtain⟨c5,b5,rfl⟩:=(xz []).fK rfl;refine⟨_,gP hn _ _ _,?_⟩;simp only[go_sem,simprocAttr,aj hn,aA hn,ay hn,aB hn,hn,hn];refine jy rfl ?_;refine aL _ _ (qU cP hn _ _ _) (gP cP _ _ _) (gp call5 _ fun A'=>⟨p7,kH,by rw[<-hn,fX];rfl,by rw[<-hn,eZ];rfl⟩) ?_;simp only[go_sem,simprocAttr,aj cP,aA cP,ay cP,aB cP,cP,cP,Nat.add_zero,Nat.add_assoc];have UD:p<H5.length:=by omega
   refine⟨by intro r hr;simp at hr;subst hr;rfl,?_⟩;refine U (iy hT aK [[105,110]] (by decide) UD lO (by omega) (fun c=>by rw[aj cP];rfl)) ?_;simp only[go_sem,simprocAttr,aj cP,aA cP,ay cP,aB cP,cP,cP,gh];obtain⟨H6,cs6,mn,UE,fr6,cl6,_,IM,call6⟩:=(hC p n (n+1)).use aa.wf yQ cP hp hb yO Py (by omega);have IN:=fun A'=>IM _ _ [] A' (Env.base (xz []) cP hp)
   obtain⟨c6,b6,rfl⟩:=(IN []).fK rfl;refine⟨_,gP cP _ _ _,?_⟩;simp only[go_sem,simprocAttr,aj cP,aA cP,ay cP,aB cP,cP,cP];refine jy rfl ?_;refine aL _ _ (qU mn cP _ _ _) (gP mn _ _ _) (gp call6 _ fun A'=>⟨p7,kH,by rw[<-cP,fX];rfl,by rw[<-cP,eZ];rfl⟩) ?_;simp only[go_sem,simprocAttr,aj mn,aA mn,ay mn,aB mn,mn,mn,Nat.add_zero,Nat.add_assoc];have abu:p<H6.length:=by omega
   refine⟨by intro r hr;simp at hr;subst hr;rfl,?_⟩;exact⟨_,H6,_,_,rfl,rfl,Gz.trans UE,iP (rows2 (u:=n) (IN _) rfl rfl (by rw[aj mn];rfl) (Nat.le_refl _) hb)⟩
 rw[aU c1]at hF⊢;simp only[go_sem,simprocAttr,aj hn,aA hn,ay hn,aB hn,hn,hn,c1];refine U (ix aK [102,117,110] K _ p s1 bS bx) ?_;unfold di;cases c2:aH T [102,117,110] s1;rotate_left
 ·rw[aQ c2]at hF⊢
  have dB:=bx.aE hT (cB c2).2;unfold wu at hF⊢;simp only[go_sem,simprocAttr,aj hn,aA hn,ay hn,aB hn,hn,hn,c2];refine⟨_,gP hn _ _ _,?_⟩;simp only[go_sem,simprocAttr,aj hn,aA hn,ay hn,aB hn,hn,hn];refine aL _ _ (by simp) (gP hn _ _ _) ((xu aK 3).chain bS dB) ?_;have bt:=dB.run (ab.word hT (k:=3) (by decide));rcases dC:cU T 3 (aE s1)with⟨w1,s2⟩
  rw[dC]at bt;simp only at bt;simp only[go_sem,simprocAttr,aj hn,aA hn,ay hn,aB hn,hn,hn,Nat.add_zero,Nat.add_assoc];refine U (iy hT aK [[45,62]] (by decide) bS bt (by omega) (fun c=>by rw[aj hn];rfl)) ?_;have rO:=bt.step (aG hT [45,62]);simp only[go_sem,simprocAttr,aj hn,aA hn,ay hn,aB hn,hn,hn,gh];rcases xt:ex (aS T [45,62] s2)with⟨⟨k4,n4,u4,t4,q4,l4,m4⟩,s4⟩
  simp only[aN,cV,il,dC,xt,node1]at hF⊢;have p6:nC (aa.tv (.mk 8 w1 0 [] tp [.mk k4 n4 u4 t4 q4 l4 m4] []))=1+nC (aa.tv (.mk k4 n4 u4 t4 q4 l4 m4)):=by rw[nA];simp[nK,nR]
  rw[p6]at hF;obtain⟨H4,cs4,kn,kp4,fr4,cl4,_,IP,call4⟩:=(hC p n (n+1)).use aa.wf xt hn hp hb rO hF (by omega);have LQ:=fun A'=>IP [] [] [] A' (Env.nil _ _ _)
  obtain⟨c4,b4,rfl⟩:=(LQ []).fK rfl;refine U (call4 _ ⟨p7,kH,by rw[<-hn,fX];rfl,by rw[<-hn,eZ];rfl⟩) ?_;simp only[go_sem,simprocAttr,aj kn,aA kn,ay kn,aB kn,kn,kn,Nat.add_zero,Nat.add_assoc];have abv:p<H4.length:=by omega
  exact⟨_,H4,_,_,rfl,rfl,kp4,iP ((LQ _).node1 (by rw[aj kn];rfl) (by omega) (by omega) (aa.b9 _))⟩
 rw[aU c2]at hF⊢;simp only[go_sem,simprocAttr,aj hn,aA hn,ay hn,aB hn,hn,hn,c2];refine U (ix aK [105,102] K _ p s1 bS bx) ?_;unfold di;cases c3:aH T [105,102] s1;rotate_left
 ·rw[aQ c3]at hF⊢
  have dB:=bx.aE hT (cB c3).2;unfold DQ at hF⊢;simp only[go_sem,simprocAttr,aj hn,aA hn,ay hn,aB hn,hn,hn,c3];rcases dC:ex (aE s1)with⟨⟨k2,n2,u2,t2,q2,l2,m2⟩,s2⟩
  have bt:=dB.run sP;rw[dC]at bt;simp only at bt;have abw:=bt.step (aG hT [116,104,101,110]);rcases xt:ex (aS T [116,104,101,110] s2)with⟨⟨k4,n4,u4,t4,q4,l4,m4⟩,s4⟩
  have og:=abw.run sP;rw[xt]at og;simp only at og;have rP:=og.step (aG hT [101,108,115,101]);rcases yQ:ex (aS T [101,108,115,101] s4)with⟨⟨k6,n6,u6,t6,q6,l6,m6⟩,s6⟩
  simp only[aN,cV,il,dC,xt,yQ]at hF⊢;have p6:nC (aa.tv (.mk 12 [] 0 [] tp [.mk k2 n2 u2 t2 q2 l2 m2,.mk k4 n4 u4 t4 q4 l4 m4,.mk k6 n6 u6 t6 q6 l6 m6] []))=1+(nC (aa.tv (.mk k2 n2 u2 t2 q2 l2 m2))+(nC (aa.tv (.mk k4 n4 u4 t4 q4 l4 m4))+nC (aa.tv (.mk k6 n6 u6 t6 q6 l6 m6)))):=by rw[nA];simp[nK,nR]
  rw[p6]at hF;obtain⟨H2,yT,bd,oC,oD,Aj,_,iB,call2⟩:=(hC p n (n+1)).use aa.wf dC hn hp hb dB hF (by omega);have mw:=fun A'=>iB [] [] [] A' (Env.nil _ _ _)
  obtain⟨c2,b2,rfl⟩:=(mw []).fK rfl;refine⟨_,gP hn _ _ _,?_⟩;simp only[go_sem,simprocAttr,aj hn,aA hn,ay hn,aB hn,hn,hn];refine jy rfl ?_;refine aL _ _ (qU bd hn _ _ _) (gP bd _ _ _) (gp call2 _ fun A'=>⟨p7,kH,by rw[<-hn,fX];rfl,by rw[<-hn,eZ];rfl⟩) ?_;simp only[go_sem,simprocAttr,aj bd,aA bd,ay bd,aB bd,bd,bd,Nat.add_zero,Nat.add_assoc];have agF:p<H2.length:=by omega
  refine U (iy hT aK [[116,104,101,110]] (by decide) agF bt (by omega) (fun c=>by rw[aj bd];rfl)) ?_;simp only[go_sem,simprocAttr,aj bd,aA bd,ay bd,aB bd,bd,bd,gh];obtain⟨H4,cs4,kn,kp4,fr4,cl4,_,IP,call4⟩:=(hC p n (n+1)).use aa.wf xt bd hp hb abw oD (by omega);have LQ:=fun A'=>IP _ _ [] A' (Env.base (mw []) bd hp)
  obtain⟨c4,b4,rfl⟩:=(LQ []).fK rfl;refine⟨_,gP bd _ _ _,?_⟩;simp only[go_sem,simprocAttr,aj bd,aA bd,ay bd,aB bd,bd,bd];refine jy rfl ?_;refine aL _ _ (qU kn bd _ _ _) (gP kn _ _ _) (gp call4 _ fun A'=>⟨p7,kH,by rw[<-bd,fX];rfl,by rw[<-bd,eZ];rfl⟩) ?_;simp only[go_sem,simprocAttr,aj kn,aA kn,ay kn,aB kn,kn,kn,Nat.add_zero,Nat.add_assoc];have abv:p<H4.length:=by omega
  refine⟨by intro r hr;simp at hr;subst hr;rfl,?_⟩;refine U (iy hT aK [[101,108,115,101]] (by decide) abv og (by omega) (fun c=>by rw[aj kn];rfl)) ?_;simp only[go_sem,simprocAttr,aj kn,aA kn,ay kn,aB kn,kn,kn,gh];obtain⟨H6,cs6,mn,UE,fr6,cl6,_,IM,call6⟩:=(hC p n (n+1)).use aa.wf yQ kn hp hb rP fr4 (by omega);have IN:=fun A'=>IM _ _ [] A' (Env.base (LQ []) kn hp)
  obtain⟨c6,b6,rfl⟩:=(IN []).fK rfl;refine⟨_,gP kn _ _ _,?_⟩;simp only[go_sem,simprocAttr,aj kn,aA kn,ay kn,aB kn,kn,kn];refine jy rfl ?_;refine aL _ _ (qU mn kn _ _ _) (gP mn _ _ _) (gp call6 _ fun A'=>⟨p7,kH,by rw[<-kn,fX];rfl,by rw[<-kn,eZ];rfl⟩) ?_;simp only[go_sem,simprocAttr,aj mn,aA mn,ay mn,aB mn,mn,mn,Nat.add_zero,Nat.add_assoc];have abu:p<H6.length:=by omega
  refine⟨by intro r hr;simp at hr;subst hr;rfl,?_⟩;exact⟨_,H6,_,_,rfl,rfl,(oC.trans kp4).trans UE,iP (ady (u:=n) (IN _) rfl rfl rfl (by rw[aj mn];rfl) (Nat.le_refl _) hb)⟩
 rw[aU c3]at hF⊢;simp only[go_sem,simprocAttr,aj hn,aA hn,ay hn,aB hn,hn,hn,c3];refine U (ix aK [109,97,116,99,104] K _ p s1 bS bx) ?_;unfold di;cases c4:aH T [109,97,116,99,104] s1
 ·rw[aU c4]at hF⊢
  simp only[go_sem,simprocAttr,aj hn,aA hn,ay hn,aB hn,hn,hn,c4];rcases hq:sk T T.length ex s1 with⟨⟨k1,n1,u1,t1,q1,l1,m1⟩,s2⟩
  rw[hq]at hF;obtain⟨H1,kj,ah,dL,fJ,lP,_,cy,bZ⟩:=(hO p).use aa.wf hq hn hp hb bx hF (Nat.le_refl _);refine U (bZ _ trivial) ?_;have cN:=fun A A'=>cy [] [] A A' (Env.nil _ _ _)
  obtain⟨c1,b1,rfl⟩:=(cN [] []).fK rfl;simp only[go_sem,simprocAttr,aj ah,aA ah,ay ah,aB ah,ah,ah];exact⟨_,H1,_,n,rfl,rfl,dL,cN [] _⟩
 ·rw[aQ c4]at hF⊢
  have dB:=bx.aE hT (cB c4).2;unfold yj at hF⊢;simp only[go_sem,simprocAttr,aj hn,aA hn,ay hn,aB hn,hn,hn,c4];have IH:=Pg.pE hT AP sP;rcases dC:ex (aE s1)with⟨⟨k2,n2,u2,t2,q2,l2,m2⟩,s2⟩
  have bt:=dB.run sP;rw[dC]at bt;simp only at bt;have og:=(bt.step (aG hT [119,105,116,104])).step (aG hT [124]);simp only[aN,cV,il,dC]at hF⊢;generalize agG:aS T [124] (aS T [119,105,116,104] s2)=s4 at *;have ir:nC (aa.tv (.mk k2 n2 u2 t2 q2 l2 m2))<=nC (aa.tv (.mk 13 [] 0 [] tp [.mk k2 n2 u2 t2 q2 l2 m2] (dU (fun s=>decide (s.c=0)) (ow T T.length (iA T pat ex)) (aO []) s4).1)):=by rw[nA 13,List.map_cons,nK];omega
  obtain⟨H1,kj,ah,dL,fJ,lP,_,cy,bZ⟩:=(hC p n (n+1)).use aa.wf dC hn hp hb dB hF ir;have cN:=fun A'=>cy [] [] [] A' (Env.nil _ _ _)
  obtain⟨c1,b1,rfl⟩:=(cN []).fK rfl;refine⟨_,gP hn _ _ _,?_⟩;simp only[go_sem,simprocAttr,aj hn,aA hn,ay hn,aB hn,hn,hn];refine jy rfl ?_;refine aL _ _ (qU ah hn _ _ _) (gP ah _ _ _) (gp bZ _ fun A'=>⟨p7,kH,by rw[<-hn,fX];rfl,by rw[<-hn,eZ];rfl⟩) ?_;have Gy:p<H1.length:=by omega
  simp only[go_sem,simprocAttr,aj ah,aA ah,ay ah,aB ah,ah,ah,Nat.add_zero,Nat.add_assoc];refine U (iy hT aK [[119,105,116,104],[124]] (by decide) Gy bt (by omega) (fun c=>by rw[aj ah];rfl)) ?_;simp only[go_sem,simprocAttr,aj ah,aA ah,ay ah,aB ah,ah,ah,YC,agG];by_cases YK:s4.c=0
  ·rw[fE (by simp[YK])]at fJ⊢
   rcases hR:ow T T.length (iA T pat ex) s4 with⟨Rl,Rs⟩
   have IE:Rl≠[]:=by have:=congrArg Prod.fst hR;rintro rfl;cases this
   rw[hR]at fJ;have p6:nC (aa.tv (.mk 13 [] 0 [] tp [.mk k2 n2 u2 t2 q2 l2 m2] Rl))-nC (aa.tv (.mk k2 n2 u2 t2 q2 l2 m2))=1+nK (Rl.map ar.tv):=by rw[nA 13,List.map_cons,nK];simp[nR];omega
   rw[p6]at fJ;generalize Pz:([.var [.ptr p 0],.var [iV d],.var [iV 0,sV [],iV 0,sV [],iV 0,.p .nl,.p .nl],.var [iV tk,sV tt,iV tn,iV tp],.rows 7 0 [[iV k2,sV n2,iV u2,sV t2,iV q2,c1,b1]]]:List AO)=A5;have y0:A5[0]?=some (.var [.ptr p 0]):=by subst Pz;rfl
   have y1:A5[1]?=some (.var [iV d]):=by subst Pz;rfl
   have y2:A5[2]?=some (.var [iV 0,sV [],iV 0,sV [],iV 0,.p .nl,.p .nl]):=by subst Pz;rfl
   have y4:A5[4]?=some (.rows 7 0 [[iV k2,sV n2,iV u2,sV t2,iV q2,c1,b1]]):=by subst Pz;rfl
   have y5:A5.length=5:=by subst Pz;rfl
   refine⟨LG ar,[2,3,4,6,10],fun x st=>(LA (cW T most) T e b n p K [0,1,2,3,4,5] (aa.tv (.mk k2 n2 u2 t2 q2 l2 m2)) [iV k2,sV n2,iV u2,sV t2,iV q2,c1,b1] (iA T pat ex) Rl Rs x/\(∀(i:Nat) o,i<5->A5[i]?=some o->x.A[i]?=some o)/\x.A[5]?=some (.var [iV 13,sV [],iV 0,sV [],iV tp,.gs (n+4) 0 0 1,x.a]))/\st=⟨[(2,.ptr n 0),(3,.ptr (n+1) 0),(4,.ptr (n+2) 0),(6,.eB 85 [.ptr n 0,.ptr (n+1) 0]),(10,.ptr (n+5) 0)],[],x.H.set p (cW T most x.s)++x.A⟩,fun x=>T.length-x.s.i,
    ⟨⟨T.length,s4,[],[],.p .nl,H1,A5++[.var [iV 13,sV [],iV 0,sV [],iV tp,.gs (n+4) 0 0 1,.p .nl],.rows 1 0 [[sV [119,105,116,104]],[sV [124]]]]⟩,?_⟩,?_⟩
   ·exact⟨⟨LA.start og YK hR ah dL fJ (by have:=Gr (Rl.map ar.tv);omega) (Env.base (cN []) ah hp) (by intro k hk;simp at hk⊢;omega),fun i o hi ho=>ag ho _,by rw[show(5:Nat)=A5.length from y5.symm,fX];rfl⟩,by subst Pz;rfl⟩
   ·rintro x _ ⟨⟨hL,hI,i5⟩,rfl⟩
    have km:p<x.H.length:=by rw[hL.hn];omega
    have i0:=hI 0 _ (by decide) y0;have i1:=hI 1 _ (by decide) y1;have i2:=hI 2 _ (by decide) y2;have i4:=hI 4 _ (by decide) y4;simp only[go_sem,simprocAttr,aj hL.hn,aA hL.hn,ay hL.hn,aB hL.hn,hL.hn,hL.hn,i0];refine U (jx x.H _ p x.s km hL.ok) ?_;simp only[go_sem,simprocAttr,aj hL.hn,aA hL.hn,ay hL.hn,aB hL.hn,hL.hn,hL.hn,i0,i1,oz,dT hL.c0,Bool.not_true,Bool.not_false];rcases Pt:pat x.s with⟨⟨k7,n7,u7,q7,l7⟩,s7⟩
    have Ps:=hL.ok.run AP;rw[Pt]at Ps;simp only at Ps;have abx:=Ps.step (aG hT [45,62]);rcases GB:ex (aS T [45,62] s7)with⟨⟨k8,n8,u8,t8,q8,l8,m8⟩,s8⟩
    have tD:=abx.run sP;rw[GB]at tD;simp only at tD;have hm:iA T pat ex x.s=(.mk (.mk k7 n7 u7 q7 l7) (.mk k8 n8 u8 t8 q8 l8 m8),s8):=by unfold iA;rw[aN,Pt,cV,aN,GB];rfl
    have IQ:x.s.i<=s8.i:=by have:=(IH x.s hL.ok.1).1;rw[hm]at this;exact this
    obtain⟨M,oV,hM⟩:=hL.room hm;have hnA:nC (ar.tv (.mk (.mk k7 n7 u7 q7 l7) (.mk k8 n8 u8 t8 q8 l8 m8)))=nC (ae.tv (.mk k7 n7 u7 q7 l7))+nC (aa.tv (.mk k8 n8 u8 t8 q8 l8 m8)):=by rw[ar.tv,nz]
    rw[hnA]at hM;obtain⟨H7,cs7,uX,kp7,fr7,cl7,_,agH,call7⟩:=(UB p).use ae.wf Pt hL.hn hp hb hL.ok oV (by omega);have PB:=fun A'=>agH _ _ x.A A' hL.env
    obtain⟨c7,rfl⟩:=(PB []).td hL.env.len;refine U (call7 _ trivial) ?_;have hp7:p<H7.length:=by omega
    simp only[go_sem,simprocAttr,aj uX,aA uX,ay uX,aB uX,uX,uX,fX,eZ,tm,p4,Nat.add_zero,ag i0 _];refine U (iy hT aK [[45,62]] (by decide) hp7 Ps (by omega) (fun c=>by rw[aj uX,eZ];rfl)) ?_;simp only[go_sem,simprocAttr,aj uX,aA uX,ay uX,aB uX,uX,uX,gh];obtain⟨H8,cs8,cj,IS,PC,cl8,_,UF,call8⟩:=(hC p n (n+1)).use aa.wf GB uX hp hb abx fr7 (by omega);have DZ:=fun A'=>UF _ _ [] A' (Env.base (PB []) uX hp)
    obtain⟨c8,b8,rfl⟩:=(DZ []).fK (PB []).len;refine U (call8 _ ⟨p7,kH,by rw[<-uX,fX];exact ag i0 _,by rw[<-uX,eZ];exact ag i1 _⟩) ?_;have IT:p<H8.length:=by omega
    simp only[go_sem,simprocAttr,aj cj,aA cj,ay cj,aB cj,cj,cj,fX,eZ,tm,p4,Nat.add_zero,ag i5 _];refine⟨by intro r hr;simp at hr;subst hr;rfl,?_⟩;refine LN hL.hn cj hL.own hL.ids hL.nm (by rw[hL.len];have:=hL.ln;have:=hL.ok.1;omega) (fun k o h=>ag h _) (by decide) ?_;intro id ver A' w1 w2 w3;have j0:=(w3 0 (by decide)).trans i0;have j2:=(w3 2 (by decide)).trans i2;have j4:=(w3 4 (by decide)).trans i4;have j5:=(w3 5 (by decide)).trans i5;have hz:∀o,(A'.set 5 o)[5]?=some o:=fun o=>aR j5
    have qT:∀o,(A'.set 5 o)[0]?=some (.var [.ptr p 0]):=fun o=>aM j0 (by decide)
    simp only[go_sem,simprocAttr,aj cj,aA cj,ay cj,aB cj,cj,cj,j5,qT];have sc:∀o,(A'.set 5 o)[2]?=some (.var [iV 0,sV [],iV 0,sV [],iV 0,.p .nl,.p .nl]):=fun o=>aM j2 (by decide)
    have hz4:∀o,(A'.set 5 o)[4]?=some (.rows 7 0 [[iV k2,sV n2,iV u2,sV t2,iV q2,c1,b1]]):=fun o=>aM j4 (by decide)
    refine U (ix aK [124] H8 _ p s8 IT tD) ?_;unfold di;cases hg:aH T [124] s8
    ·obtain⟨ha,hx⟩:=hL.stop hm hg
     subst hx;simp only[go_sem,simprocAttr,aj cj,aA cj,ay cj,aB cj,cj,cj,hg,qT,Bool.not_true,Bool.not_false];refine U (iy hT aK [[101,110,100]] (by decide) IT tD (by omega) (fun c=>by rw[aj cj,NK];rfl)) ?_;have hg5:∀o B,((A'.set 5 o)++B)[5]?=some o:=fun o B=>ag (hz o) B
     have kA:∀o B,((A'.set 5 o)++B)[2]?=some (.var [iV 0,sV [],iV 0,sV [],iV 0,.p .nl,.p .nl]):=fun o B=>ag (sc o) B
     have LS:∀o B o',(((A'.set 5 o)++B).set 2 o')[2]?=some o':=fun o B o'=>aR (kA o B)
     simp only[go_sem,simprocAttr,aj cj,aA cj,ay cj,aB cj,cj,cj,gh,hg5,kA,LS]
     have agI:id≠n+4:=by
      have h1:=w2.1;rintro rfl;have h2:=w2.2;rw[Nat.add_sub_cancel_left]at h2;exact h2 (by decide)
     have hEE:∀A',Env b n (H8.set p (cW T most (aS T [101,110,100] s8))++A') ([aa.tv (.mk k2 n2 u2 t2 q2 l2 m2)].flatten++(Rl.map ar.tv).flatten) ([[iV k2,sV n2,iV u2,sV t2,iV q2,c1,b1]].flatten++(x.rs++[[iV k7,sV n7,iV u7,iV q7,c7,iV k8,sV n8,iV u8,sV t8,iV q8,c8,b8]]).flatten):=fun A'=>by
      have:=Env.base (A':=A') (c':=cW T most (aS T [101,110,100] s8)) (DZ []) cj hp;rw[<-ha];simpa[ar.tv,List.append_assoc]using this
     have oJ:=Env.node2 (id1:=n+4) (id2:=id) (sz1:=7) (sz2:=12) (v1:=0) (v2:=ver) (hEE (((A'.set 5 (.var [iV 13,sV [],iV 0,sV [],iV tp,.gs (n+4) 0 0 1,.gs id ver 0 (x.rs.length+1)]))++[AO.rows 1 0 [[sV [101,110,100]]]]).set 2 (.var [iV 13,sV [],iV 0,sV [],iV tp,.gs (n+4) 0 0 1,.gs id ver 0 (x.rs.length+1)])))
      (by rw[aj cj,List.getElem?_set_ne (by decide)];exact ag (hz4 _) _)
      (hL.E4 cj w1 w2 (fun k o hk ho=>by
       simp at hk;rw[List.getElem?_set_ne (by omega)];exact ag (aM ho (by omega)) _) _) (by omega) w2.1 hb (Ne.symm agI) rfl (by intro r hr;simp at hr;subst hr;exact aa.b9 _) (by intro r hr;simp at hr;subst hr;rfl) (by simp)
      (by rw[<-ha];simp[hL.len]) (by intro r hr;obtain⟨a,_,rfl⟩:=List.mem_map.1 hr;exact ar.b9 a) (by intro r hr;rcases List.mem_append.1 hr with hr|hr;exact hL.sz1 r hr;simp at hr;subst hr;rfl) (by rw[<-ha];simp)
     have e9:(x.rs++[[iV k7,sV n7,iV u7,iV q7,c7,iV k8,sV n8,iV u8,sV t8,iV q8,c8,b8]]).length=x.rs.length+1:=by simp
     rw[e9]at oJ;exact⟨_,H8,_,_,rfl,rfl,(hL.kp.trans kp7).trans IS,LP (l:=[.mk k2 n2 u2 t2 q2 l2 m2]) oJ⟩
    ·simp only[go_sem,simprocAttr,aj cj,aA cj,ay cj,aB cj,cj,cj,hg,Bool.not_true,Bool.not_false]
     exact⟨⟨x.j-1,aE s8,x.acc++[.mk (.mk k7 n7 u7 q7 l7) (.mk k8 n8 u8 t8 q8 l8 m8)],x.rs++[[iV k7,sV n7,iV u7,iV q7,c7,iV k8,sV n8,iV u8,sV t8,iV q8,c8,b8]],.gs id ver 0 (x.rs.length+1),H8,A'.set 5 (.var [iV 13,sV [],iV 0,sV [],iV tp,.gs (n+4) 0 0 1,.gs id ver 0 (x.rs.length+1)])⟩,
      ⟨⟨hL.next hT hm tD IQ hg cj (kp7.trans IS) PC (by omega) (by
       have:=Env.base (A':=A'.set 5 (.var [iV 13,sV [],iV 0,sV [],iV tp,.gs (n+4) 0 0 1,.gs id ver 0 (x.rs.length+1)])) (c':=cW T most (aE s8)) (DZ []) cj hp
       simpa[ar.tv,List.append_assoc]using this) rfl w1 w2 (cD (by decide)) (fun k hk=>by
        have h1:=hL.nm k hk;rw[List.length_set];exact aT ((w3 k hk).trans (List.getElem?_eq_getElem h1))),fun i o hi ho=>aM ((w3 i (by simp;omega)).trans (hI i o hi ho)) (by omega),hz _⟩,rfl⟩,by have h1:=cB hg;have h2:=tD.1;have h3:=hL.ok.1;show T.length-(s8.i+1)<T.length-x.s.i;omega⟩
  ·rw[jj (by simp[YK])]at fJ⊢
   refine⟨Unit,[2,4,10],fun _ st=>st=⟨[(2,.ptr n 0),(4,.ptr (n+2) 0),(10,.ptr (n+5) 0)],[],H1.set p (cW T most s4)++[.var [.ptr p 0],.var [iV d],.var [iV 0,sV [],iV 0,sV [],iV 0,.p .nl,.p .nl],.var [iV tk,sV tt,iV tn,iV tp],.rows 7 0 [[iV k2,sV n2,iV u2,sV t2,iV q2,c1,b1]],.var [iV 13,sV [],iV 0,sV [],iV tp,.gs (n+4) 0 0 1,.p .nl],.rows 1 0 [[sV [119,105,116,104]],[sV [124]]]]⟩,fun _=>0,⟨(),?_⟩,?_⟩
   ·simp only[go_sem,simprocAttr,aj ah,aA ah,ay ah,aB ah,ah,ah]
   ·rintro _ _ rfl
    simp only[go_sem,simprocAttr,aj ah,aA ah,ay ah,aB ah,ah,ah];refine U (jx H1 _ p s4 Gy og) ?_;simp only[go_sem,simprocAttr,aj ah,aA ah,ay ah,aB ah,ah,ah,dF YK,Bool.not_true,Bool.not_false];refine U (iy hT aK [[101,110,100]] (by decide) Gy og (by omega) (fun c=>by rw[aj ah];rfl)) ?_;simp only[go_sem,simprocAttr,aj ah,aA ah,ay ah,aB ah,ah,ah,gh];exact⟨_,H1,_,_,rfl,rfl,dL,iP ((Env.base (cN []) ah hp).node1 (by rw[aj ah];rfl) (by omega) (by omega) (aa.b9 _))⟩
theorem LU:∀k d,d+k=most+2->most<=1099511627774->0<k->iz T most e 30 [iV d] (fm T T.length most k d) aa.tv
 |0,d,_,_,h=>absurd h (by omega)
 |k+1,d,h,hm,_=>adz hT aK (by omega) (fun hle=>Uu hT aK k (d+1) (by omega) hm (by omega)) (mY hT most k (d+1)) (fun hle=>LU k (d+1) (by omega) hm (by omega)) (cE hT most k (d+1))
end
theorem UG {s:List UInt8} {i:Nat} {c:UInt8} {k:Int} (ht:iI s i c=.inr k):k≠0:=by
 unfold iI at ht;split at ht
 ·simp only[rm]at ht
  split at ht
  ·cases ht;decide
  ·cases ht
 split at ht
 ·unfold fb jf at ht
  generalize (if(c.toNat:Int)=39 then i+1 else i)=f at ht;by_cases gz:12<bo cx s f-f
  ·rw[if_pos gz]at ht;cases ht;decide
  ·rw[if_neg gz]at ht;cases ht
 split at ht
 ·simp only[qe]at ht
  split at ht
  ·cases ht
  ·cases ht;decide
 ·simp only[ov]at ht
  split at ht
  ·cases ht;decide
  ·cases ht
theorem PD {s:List UInt8} {most:Nat} {c:Int} {q:Nat}:∀(n i:Nat) (out:List Tok),s.length-i≤n→dE s most i out= .inr (c,q)→c≠0:=by
  intro n
  induction n with
  |zero=>
   intro i out hn h
   rw[jg (by omega)]at h;cases h
  |succ n ih=>
   intro i out hn h;by_cases hi:i<s.length
   · cases hb:Pg.blank s[i]with
     |true =>
      rw[ij hi hb]at h
      exact ih _ _ (by omega) h
     |false =>
      by_cases hc:(s[i].toNat:Int)=35
      · rw[nQ hi hb hc]at h
        have hg:=pt hi hc;exact ih _ _ (by omega) h
      · rcases ht:iI s i s[i]with⟨t,e⟩|c'
        · by_cases hm:out.length=most
          · rw[lC hi hb hc ht hm]at h;cases h;decide
          · rw[mV hi hb hc ht hm]at h
            have hg:=rp hi ht;exact ih _ _ (by omega) h
        · rw[pw hi hb hc ht]at h;cases h;exact UG ht
   · rw[jg hi]at h;cases h
theorem yW {s:List UInt8} {c:Int} {q:Nat} (h:kX s=.inr (c,q)):c≠0:=by
 unfold kX at h;split at h
 ·cases h;decide
 ·exact PD _ _ _ (Nat.le_refl _) h
theorem GF {α:Type} (m:PM α):told m=if(m ⟨0,0,0,0,0⟩).2.c=0 then .inl (m ⟨0,0,0,0,0⟩).1 else .inr ((m ⟨0,0,0,0,0⟩).2.c,(m ⟨0,0,0,0,0⟩).2.ps):=rfl
theorem E5 {X:List AO} {p:Nat} {o:AO} (h:X[p]?=some o):X.set p o=X:=Cj h
theorem PF.at {pv:PS->AO} {T:List Tok} {lim:Nat} {f:Nat} {xs:List AV} {α:Type} {m:PM α} {V:α->AV} (h:PF pv T lim f xs m V) {X:List AO} {p:Nat} {s:PS} (hp:X[p]?=some (pv s)) (hs:Ok T lim s):
  al Tryz.prog f (.ptr p 0::xs) X (aP (V (m s).1) (X.set p (pv (m s).2))):=by
 have:=h.nil (aT hp) hs;rwa[E5 hp]at this
theorem PX.top {pv:PS->AO} {T:List Tok} {e f:Nat} {args:List AV} {p:Nat} {α:Type} {m:PM α} {tv:α->List TV} (h:PX pv T e f args (fun _=>True) p m tv) (wf:∀x,mT (tv x)) {X:List AO} {s s1:PS} {x:α} (hm:m s=(x,s1)) (hp:X[p]?=some (pv s)) (hs:Ok T e s):
  al Tryz.prog f args X (fun r X'=>∃cs R,r=.st cs/\X'=X.set p (pv s1)++R/\Env X.length X'.length X' (tv x) cs):=by
 refine yd (nC (tv x)) ?_;have qK:=aT hp;have hK:(X++List.replicate (nC (tv x)) AO.iQ)[p]?=some (pv s):=ag hp _
 have hF:Fr X.length (X++List.replicate (nC (tv x)) AO.iQ) (nC (tv x)):=⟨List.range' X.length (nC (tv x)),List.nodup_range',by simp,fun i hi=>by
  simp only[List.mem_range']at hi;obtain⟨j,hj,rfl⟩:=hi;refine⟨by omega,?_⟩;rw[List.getElem?_append_right (by omega)];simp[hj]⟩
 obtain⟨H1,cs,ah,dL,_,_,_,cy,bZ⟩:=h.use wf hm (Eq.refl (X++List.replicate (nC (tv x)) AO.iQ).length) qK (by simp) hs hF (Nat.le_refl _);have hc:=bZ [] trivial;rw[List.append_nil,List.append_nil,E5 hK]at hc;refine hc.mono ?_;rintro r X' ⟨rfl,rfl⟩;refine⟨cs,H1.drop X.length,rfl,?_,?_⟩
 ·have ht:H1.take X.length=X:=by
   apply List.ext_getElem?;intro i;rcases Nat.lt_or_ge i X.length with hi|hi
   ·rw[List.getElem?_take_of_lt hi,dL.2.1 i hi,List.getElem?_append_left hi]
   ·rw[List.getElem?_eq_none (by simp;omega),List.getElem?_eq_none hi]
  have e3:H1=X++H1.drop X.length:=(List.take_append_drop X.length H1).symm.trans (congrArg (·++H1.drop X.length) ht)
  conv=>lhs;rw[e3]
  rw[List.set_append_left _ _ qK]
 ·have:=cy [] [] [] [] (Env.nil _ _ _)
  rw[List.append_nil]at this;simpa[ah]using this
theorem mP (H L:List AO) (x:AO):cA (H++(.dead::L)) (H++(x::L)):=fun id o h hd=>by
 rcases Nat.lt_or_ge id H.length with hi|hi
 ·rw[List.getElem?_append_left hi]at h⊢;exact h
 ·rw[List.getElem?_append_right hi]at h⊢
  match id-H.length,h with
  |0,h=>simp at h;exact(hd h.symm).elim
  |k+1,h=>exact h
theorem IP {H R S:List AO} {a b c d a' b' c' d' e:AO} {v:Nat} {ts:List TV} {cs:List AV} (hv:H.length+4+R.length<=v) (h:Env (H++[a,b,c,d]).length (H++[a,b,c,d].set 3 e++R).length (H++[a,b,c,d].set 3 e++R) ts cs):Env H.length v (H++(a'::b'::c'::d'::(R++S))) ts cs:=by
 obtain⟨ids,h1,h2,h3,h4⟩:=h;have hb:(H++[a,b,c,d]).length=H.length+4:=by simp
 have hu:(H++[a,b,c,d].set 3 e++R).length=H.length+4+R.length:=by simp;omega
 rw[hb,hu]at h4;refine⟨ids,h1.eF fun i hi o ho=>?_,h2,h3,fun i hi=>by have:=h4 i hi;exact⟨by omega,by omega⟩⟩;obtain⟨k,rfl⟩:=Nat.le.dest (h4 i hi).1;rw[List.append_assoc,show H.length+4+k=H.length+(4+k)by omega,eZ]at ho;rw[show H.length+4+k=H.length+(4+k)by omega,eZ];have e1:(([a,b,c,d].set 3 e)++R)[4+k]?=R[k]?:=by rw[List.getElem?_append_right (by simp)];simp
 have e2:(a'::b'::c'::d'::(R++S))[4+k]?=(R++S)[k]?:=by rw[show 4+k=k+4 by omega];rfl
 rw[e1]at ho;rw[e2];exact ag ho S
theorem UH {T:List Tok} (hT:bH T):Ok T 0 ⟨0,0,0,0,0⟩:=⟨hT.pos,rfl⟩
theorem LV {T:List Tok}:xc (.inl T)=.dK [yt T,DR 0 0]:=rfl
theorem UI {c:Int} {i:Nat}:xc (.inr (c,i))=.dK [.p (.l []),DR c i]:=rfl
end Go.Proofs.YteilijfligofdaaGreatDoor.Qp
namespace Go.Proofs.YteilijfligofdaaGreatDoor.Pg
open Go.AM Mc Qp
mutual
theorem UJ (t:ae):TV.kM t.tv=t.cells:=by
 match t with
 | .mk k n u p ks=>rw[ae.tv,ae.cells];simp only[TV.kM,TV.pv,NL ks]
theorem NL (l:List ae):TV.kL (ae.jT l)=ae.aJ l:=by
 match l with
 |[]=>rw[ae.jT,TV.kL,ae.aJ]
 |t::l=>rw[ae.jT,TV.kL,ae.aJ,UJ t,NL l]
end
theorem Dd (a b:List TV):TV.kM (a++b)=TV.kM a++TV.kM b:=by
 induction a with
 |nil=>rw[TV.kM];rfl
 |cons t a ih=>rw[List.cons_append,TV.kM,TV.kM,ih];rfl
mutual
theorem LW (t:aa):TV.kM t.tv=t.cells:=by
 match t with
 | .mk k n u x p ks bf=>rw[aa.tv,aa.cells];simp only[TV.kM,TV.pv,NO ks,NP bf]
theorem NO (l:List aa):TV.kL (aa.jT l)=aa.aJ l:=by
 match l with
 |[]=>rw[aa.jT,TV.kL,aa.aJ]
 |t::l=>rw[aa.jT,TV.kL,aa.aJ,LW t,NO l]
theorem adA (t:ar):TV.kM t.tv=t.cells:=by
 match t with
 | .mk p e=>rw[ar.tv,ar.cells,Dd,UJ,LW e]
theorem NP (l:List ar):TV.kL (aa.Be l)=aa.bL l:=by
 match l with
 |[]=>rw[aa.Be,TV.kL,aa.bL]
 |t::l=>rw[aa.Be,TV.kL,aa.bL,adA t,NP l]
end
mutual
theorem NQ {n:Nat} {H:List AO}:∀{t:TV} {a:AV} {ids:List Nat},fq H t a ids→(∀i∈ids,n≤i)→bI n H a (.p t.pv)
  | .p x,a,ids,h,hn=>by rw[fq]at h;rw[h.1,TV.pv];exact .p _
  | .s sz rows,a,ids,h,hn=>by
    rw[fq]at h;rcases h with⟨rfl,rfl,_⟩|⟨id,ver,rs,js,rfl,rfl,h1,h2⟩
    · rw[TV.pv,TV.kL];exact .nl
    · rw[TV.pv]
      have hl:=h2.len;obtain⟨h3,h4⟩:=NR h2 fun i hi=>hn i (List.mem_cons_of_mem _ hi)
      exact .gs id ver 0 rs.length sz rs _ (hn id List.mem_cons_self) h1 (by omega) (by rw[Re,hl]) h3 (fun i r y j c q hr hy=>by rw[Nat.zero_add]at hr;exact h4 i r y hr hy j c q)
theorem GG {n:Nat} {H:List AO}:∀{ts:List TV} {cs:List AV} {ids:List Nat},bj H ts cs ids→(∀i∈ids,n≤i)→∀(j:Nat) c q,cs[j]?=some c→(TV.kM ts)[j]?=some q→bI n H c (.p q)
  |[],cs,ids,h,_,j,c,q,hc,hq=>by rw[TV.kM]at hq;simp at hq
  |t::ts,cs,ids,h,hn,j,c,q,hc,hq=>by
   rw[bj]at h;obtain⟨a,fP,i',js,rfl,rfl,h1,h2⟩:=h;rw[TV.kM]at hq
   cases j with
   |zero=>simp at hc hq;subst hc hq;exact NQ h1 fun i hi=>hn i (List.mem_append_left _ hi)
   |succ j=>exact GG h2 (fun i hi=>hn i (List.mem_append_right _ hi)) j c q (by simpa using hc) (by simpa using hq)
theorem NR {n:Nat} {H:List AO} {sz:Nat}:∀{rows:List (List TV)} {rs:List (List AV)} {ids:List Nat},bY H sz rows rs ids→(∀i∈ids,n≤i)→(∀y∈TV.kL rows,y.length=sz)∧∀(i:Nat) r y,rs[i]?=some r→(TV.kL rows)[i]?=some y→∀(j:Nat) c q,r[j]?=some c→y[j]?=some q→bI n H c (.p q)
  |[],rs,ids,h,_ =>by rw[TV.kL];exact⟨fun y hy=>by(cases hy),fun i r y hr hy=>by simp at hy⟩
  |row::rows,rs,ids,h,hn=>by
   rw[bY]at h;obtain⟨r,pW,i',js,rfl,rfl,h0,h1,h2⟩:=h;obtain⟨h3,h4⟩:=NR h2 fun i hi=>hn i (List.mem_append_right _ hi)
   rw[TV.kL];refine⟨fun y hy=> ?_,fun i r' y hr hy=> ?_⟩
   · rcases List.mem_cons.1 hy with rfl|hy
     · rw[Rc,←h1.len,h0]
     · exact h3 y hy
   · cases i with
     |zero=>simp at hr hy;subst hr hy;exact GG h1 fun i hi=>hn i (List.mem_append_left _ hi)
     |succ i=>exact h4 i r' y (by simpa using hr) (by simpa using hy)
end
theorem LX (t:aa):t.tv.length=7:=by cases t;rw[aa.tv];rfl
end Go.Proofs.YteilijfligofdaaGreatDoor.Pg
namespace Go.Proofs.YteilijfligofdaaGreatDoor.Qp
open Go.AM Mc Pg
theorem CF.at1 {b:List Int} {f:Nat} {xs:List AV} {α:Type} {m:CM α} {V:α->AV} (h:CF b f xs m V) (H A:List AO) (x:AO) (c:gO):
  al Tryz.prog f (.ptr (H.length+1) 0::xs) (H++x::jm b c::A) (aP (V (m c).1) (H++x::jm b (m c).2::A)):=by
 have:=h (H++[x,.dead]) A (H.length+1) c (by simp);have e:∀d,(H++[x,.dead]).set (H.length+1) d++A=H++x::d::A:=fun d=>by simp[List.set_append]
 rwa[e,e]at this
theorem aby (b:List Int) (H:List AO):al Tryz.prog 5 [.p (.l (rL b))] H (aP (.p (.b (decide (1048576<(b.length:Int))))) H):=by
 refine aV ?_ (bw _);refine call5 (by simp) ?_;simp only[go_sem,simprocAttr,mc5,mr5,jA];exact fun _=>⟨[],by simp⟩
end Go.Proofs.YteilijfligofdaaGreatDoor.Qp
namespace Go.Proofs.YteilijfligofdaaGreatDoor.Pg
open Go.AM
def QL (y:TF):Prop:=y.q<=y.f.length
theorem QL.at {y:TF} (h:QL y) (a:Int):y.qa a<=(y.at a).length:=by
 unfold QL at h;unfold TF.qa TF.at;split
 ·simp;omega
 ·exact h
theorem adB:QL .no:=Nat.le_refl _
theorem De {l:List TF} (h:∀x∈l,QL x) (i:Nat):QL (l.getD i .no):=by
 rw[List.getD_eq_getElem?_getD];rcases hi:l[i]?with _|x
 ·exact adB
 ·exact h x (List.mem_of_getElem? hi)
theorem yX {sep:TK} {a:Int}:∀{l:List TF},(∀x∈l,QL x)→fW (·.qa a) l≤(kR sep (l.map (·.at a))).length
  |[],_ =>Nat.zero_le _
  |[x],h=>by
   have :=(h x (by simp)).at a;show max _ 0≤_
   simp only[List.map_cons,List.map_nil,kR];omega
  |x::y::l,h=>by
   have h1:=(h x (by simp)).at a;have h2:=yX (sep:=sep) (a:=a) (l:=y::l) fun z hz=>h z (by simp at hz⊢;right;exact hz)
   rw[fW];simp only[List.map_cons,mj]at h2⊢;rw[List.length_append,List.length_cons];omega
theorem IU {a:Int}:∀{l:List TF},(∀x∈l,QL x)→fW (·.qa a) l≤((l.map (·.at a)).flatten).length
  |[],_ =>Nat.zero_le _
  |x::l,h=>by
   have h1:=(h x (by simp)).at a;have h2:=IU (a:=a) (l:=l) fun z hz=>h z (by simp[hz])
   rw[fW,List.map_cons,List.flatten_cons,List.length_append];omega
theorem Ak {α:Type} (f:α->Nat):∀l:List α,fW (fun x=>f x+1) l<=fW f l+1
 |[]=>Nat.zero_le _
 |a::l=>by have:=Ak f l;simp only[fW];omega
theorem adC {k:Int} {n:List UInt8} {ks:List TF} (h:∀x∈ks,QL x):QL (uF k n ks):=by
 have g:=fun i a=>(De h i).at a
 have hj:=yX (sep:=cb [42]) (a:=2) h;have hf:=IU (a:=3) h;have:=g 0 1;have:=g 1 0;have:=g 0 3;unfold QL uF
 repeat' split
 all_goals simp only[List.length_append,List.length_cons,List.length_nil]
 all_goals omega
mutual
theorem af.ql:∀t:af,QL t.tf
 | .mk k n p ks=>by rw[af.tf];exact adC (af.IV ks)
theorem af.IV:∀l:List af,∀x∈af.lu l,QL x
  |[]=>fun x hx=>by cases hx
  |t::l=>fun x hx=>by
   rcases List.mem_cons.1 hx with e|hx
   · exact e▸af.ql t
   · exact af.IV l x hx
end
theorem YL {k:Int} {n:List UInt8} {u:Int} {ks:List TF} (h:∀x∈ks,QL x):QL (n9 k n u ks):=by
 have g:=fun i a=>(De h i).at a
 have hj:=yX (sep:=cb [44]) (a:=0) h;have hs:=Ak (·.qa 0) ks;have:=g 0 1;unfold QL n9
 repeat' split
 all_goals simp only[List.length_append,List.length_cons,List.length_nil]
 all_goals omega
mutual
theorem ae.ql:∀t:ae,QL t.tf
 | .mk k n u p ks=>by rw[ae.tf];exact YL (ae.IV ks)
theorem ae.IV:∀l:List ae,∀x∈ae.lu l,QL x
  |[]=>fun x hx=>by cases hx
  |t::l=>fun x hx=>by
   rcases List.mem_cons.1 hx with e|hx
   · exact e▸ae.ql t
   · exact ae.IV l x hx
end
theorem IW:∀{l:List (TF×TF)},(∀x∈l,QL x.1∧QL x.2)→fW (fun a=>max (a.1.qa 0+1) (a.2.qa 0+1)) l≤((l.map AU).flatten).length
  |[],_ =>Nat.zero_le _
  |x::l,h=>by
   have h1:=(h x (by simp)).1.at 0;have h3:=(h x (by simp)).2.at 0;have h2:=IW (l:=l) fun z hz=>h z (by simp[hz])
   rw[fW,List.map_cons,List.flatten_cons,List.length_append,AU];simp only[List.length_cons,List.length_append];omega
theorem YM {c:Prop} [Decidable c] {a b:TF} (h1:QL a) (h2:QL b):QL (if c then a else b):=by split <;>assumption
theorem YN {k:Int} {n:List UInt8} {u:Int} {t:List UInt8} {ks:List TF} {bf:List (TF×TF)} (h:∀x∈ks,QL x) (hA:∀x∈bf,QL x.1/\QL x.2):QL (gd k n u t ks bf):=by
 have g:=fun i a=>(De h i).at a
 have hj:=yX (sep:=cb [44]) (a:=0) h;have hs:=Ak (·.qa 0) ks;have ha:=IW hA;have:=g 0 0;have:=g 1 0;have:=g 2 0;have:=g 0 6;have:=g 1 6;have:=g 0 (if(ks.getD 0 .no).b then 7 else 5);have:=g 0 (kQ n).2.1;have:=g 1 (kQ n).2.2;unfold gd
 repeat' refine YM ?_ ?_
 all_goals (unfold QL;try simp only[List.length_append,List.length_cons,List.length_nil])
 all_goals omega
mutual
theorem aa.ql:∀t:aa,QL t.tf
 | .mk k n u t p ks bf=>by rw[aa.tf];exact YN (aa.IV ks) (aa.qlA bf)
theorem aa.IV:∀l:List aa,∀x∈aa.lu l,QL x
  |[]=>fun x hx=>by cases hx
  |t::l=>fun x hx=>by
   rcases List.mem_cons.1 hx with e|hx
   · exact e▸aa.ql t
   · exact aa.IV l x hx
theorem aa.qlA:∀l:List ar,∀x∈aa.yx l,QL x.1∧QL x.2
  |[]=>fun x hx=>by cases hx
  | .mk p e::l=>fun x hx=>by
    rcases List.mem_cons.1 hx with e2|hx
    · rw[e2,ar.tf];exact⟨ae.ql p,aa.ql e⟩
    · exact aa.qlA l x hx
end
theorem ai.ql (c:ai):c.q<=c.fw.length:=by
 have:=(af.ql c.arg).at 0;unfold ai.q ai.fw;split
 ·simp only[List.length_cons];omega
 ·exact Nat.zero_le _
theorem E6:∀l:List ai,fW ai.q l≤(kR (cb [124]) (l.map ai.fw)).length
  |[]=>Nat.zero_le _
  |[x]=>by have :=ai.ql x;show max _ 0≤_;simp only[List.map_cons,List.map_nil,kR];omega
  |x::y::l=>by
   have h1:=ai.ql x;have h2:=E6 (y::l);rw[fW];simp only[List.map_cons,mj]at h2⊢;rw[List.length_append,List.length_cons];omega
theorem E7:∀l:List ao,fW ao.q l≤((l.map ao.fw).flatten).length
  |[]=>Nat.zero_le _
  |d::l=>by
   have h1:=E6 d.ctors;have h2:=E7 l;rw[fW,List.map_cons,List.flatten_cons,List.length_append,ao.q,ao.fw];simp only[List.length_cons,List.length_append];omega
theorem aI.ql (g:aI):g.q<=g.fw.length+1:=by
 have h1:=E7 g.types;have h2:=(aa.ql g.body).at 0;unfold aI.q aI.fw;rw[List.length_append];omega
def aI.nest (g:aI):Nat:=if g.okB then g.q else 0
theorem UK {g:aI} (h:g.okB=true) (hf:g.body.fit):∃T,dE g.form (g.form.length+1) 0 []=.inl T/\bH T/\T.length<=g.form.length+1/\
  (jh T T.length (l9 T T.length (T.length+1) (T.length+2) 1) (fm T T.length (T.length+1) (T.length+2) 1) ⟨0,0,0,0,0⟩).2.d=g.q:=by
 have hlx:=aI.lx h hf
 have hl:g.fw.length<=g.form.length:=by
  rcases z6 hlx rfl g.fw.length with⟨-,T,h1,h2⟩|⟨h1,-⟩
  ·have:=(zK _ _ _ _ (Nat.le_refl _) (by simp) h2).2
   have e:T.length=g.fw.length+1:=by have:=congrArg List.length h1;simpa using this
   simp at this;omega
  ·omega
 rcases z6 hlx rfl (g.form.length+1)with⟨-,T,h1,h2⟩|⟨h1,-⟩
 ·obtain⟨hT,hlT⟩:=zK _ _ _ _ (Nat.le_refl _) (by simp) h2
  have e:T.length=g.fw.length+1:=by have:=congrArg List.length h1;simpa using this
  have hq:=aI.ql g;refine⟨T,h2,hT,by simpa using hlT,?_⟩;rcases Is (Ir (most:=T.length+1) (K:=T.length+2) hT (Nat.le_refl _) (by omega) h) h1 with⟨-,y,-,-,k,-⟩|⟨k,-⟩
  ·exact k
  ·omega
 ·omega
section
variable (b:List Int)
def Bf:CM (List UInt8):=jP b [[105,110,116],[98,111,111,108],[117,110,105,116],[115,116,114],[116]]
def sN:CM af:=fun c=>if(fC b 3 (Bf b c).2).1 then(.mk 2 [97] 0 [],(fC b 3 (Bf b c).2).2)else(.mk 1 (Bf b c).1 0 [],(fC b 3 (Bf b c).2).2)
def UL (rec:CM af) (r:Int):CM af:=fun c=>
 if r=0 then(.mk 3 [] 0 (dD rec 2 c).1,(dD rec 2 c).2)
 else if r=1 then(.mk 4 [] 0 (dD rec (2+(aC b 2 c).1).toNat (aC b 2 c).2).1,(dD rec (2+(aC b 2 c).1).toNat (aC b 2 c).2).2)
 else if r=2 then(.mk 5 [] 0 (dD rec 1 c).1,(dD rec 1 c).2)
 else if r=3 then(.mk 1 [116] 0 (dD rec 1 c).1,(dD rec 1 c).2)
 else sN b c
def AY:Nat->CM af
 |0=>sN b
 |d+1=>fun c=>UL b (AY d) (aC b 6 (Bf b c).2).1 (aC b 6 (Bf b c).2).2
def jn:CM ai:=fun c=>
 if(fC b 2 (kD b c).2).1 then(⟨(kD b c).1,true,(AY b 2 (fC b 2 (kD b c).2).2).1,0⟩,(AY b 2 (fC b 2 (kD b c).2).2).2)
 else(⟨(kD b c).1,false,vS,0⟩,(fC b 2 (kD b c).2).2)
def lb:CM ao:=fun c=>
 let n:=jP b [[116],[117],[108,105,115,116]] c;let o:=fC b 2 n.2;let m:=aC b 3 o.2;let l:=dD (jn b) (1+m.1).toNat m.2
 (⟨n.1,if o.1 then[[97]]else[],l.1,0⟩,l.2)
def qz (d:Nat):CM aI:=fun c=>
 let m:=aC b 3 c;let l:=dD (lb b) m.1.toNat m.2
 (⟨l.1,(uO b d l.2).1⟩,(uO b d l.2).2)
def Al:aI:=(qz b (2+(aC b 4 (AX b)).1).toNat (aC b 4 (AX b)).2).1
end
def GT (B:Nat) (t:af):Prop:=t.okB=true/\t.sz<=B
theorem GTs {B:Nat}:∀{l:List af},(∀x∈l,GT B x)→af.eC l=true ∧af.eO l≤l.length*(B+1)
  |[],_ =>⟨rfl,Nat.zero_le _⟩
  |t::l,h=>by
   obtain⟨h1,h3⟩:=h t (by simp);obtain⟨k1,k3⟩:=GTs (l:=l) fun x hx=>h x (by simp[hx])
   refine⟨by rw[af.eC,h1,k1];rfl, ?_⟩;rw[af.eO,List.length_cons,Nat.add_mul];omega
section
variable {b:List Int}
theorem YO (c:gO):mE (Bf b c).1=true/\(Bf b c).1.length<=5:=nb (P:=fun x=>mE x=true/\x.length<=5) (by simp) (by decide) c
theorem Df:lH (GT 10) (sN b):=fun c=>by
 have h:=YO (b:=b) c;unfold sN;split
 ·exact⟨(by decide:(af.mk 2 [97] 0 []).okB=true),(by decide:(af.mk 2 [97] 0 []).sz<=10)⟩
 ·refine⟨by rw[af.okB,af.eC];simp[tc,h.1],by rw[af.sz,af.eO];omega⟩
theorem NS {rec:CM af} {B:Nat} (hr:lH (GT B) rec) (r:Int):lH (GT (3*B+20)) (UL b rec r):=fun c=>by
 have kids:=fun(m:Nat) (c:gO)=>GTs (nd hr m c)
 have Ix:=fun(m:Nat) (c:gO)=>lI (m:=rec) m c
 have h2:=bO (b:=b) (n:=2) (by decide) c
 have fin:∀(k:Int) (n:List UInt8) (m:Nat) (c2:gO),tc k n 0 m=true->m<=3->n.length<=5->GT (3*B+20) (.mk k n 0 (dD rec m c2).1):=by
  intro k n m c2 h1 h2 h3;obtain⟨r1,r3⟩:=kids m c2;rw[Ix]at r3;have:m*(B+1)<=3*(B+1):=Nat.mul_le_mul_right _ h2;exact⟨by rw[af.okB,r1,Ix,h1];rfl,by rw[af.sz];omega⟩
 unfold UL;by_cases r0:r=0
 ·rw[if_pos r0];exact fin 3 [] 2 c (by decide) (by decide) (by decide)
 rw[if_neg r0];by_cases r1:r=1
 ·rw[if_pos r1];exact fin 4 [] _ _ (by simp[tc];omega) (by omega) (by decide)
 rw[if_neg r1];by_cases r2:r=2
 ·rw[if_pos r2];exact fin 5 [] 1 c (by decide) (by decide) (by decide)
 rw[if_neg r2];by_cases r3:r=3
 ·rw[if_pos r3];exact fin 1 [116] 1 c (by decide) (by decide) (by decide)
 rw[if_neg r3];obtain⟨h1,h2⟩:=Df (b:=b) c;exact⟨h1,by omega⟩
theorem UM:lH (GT 200) (AY b 2):=fun c=>by
 have h0:lH (GT 10) (AY b 0):=Df;have h1:lH (GT 50) (AY b 1):=fun c=>NS h0 _ _
 exact(NS h1 _ _:GT 170 _).imp id fun h=>Nat.le_trans h (by decide)
def GC (c:ai):Prop:=c.okB=true/\c.arg.sz<=200/\c.name.length<=5
theorem LY:lH GC (jn b):=fun c=>by
 have hu:=Br (b:=b) c;unfold jn;split
 ·obtain⟨h1,h2⟩:=UM (b:=b) (fC b 2 (kD b c).2).2
  exact⟨by simp[ai.okB,hu.1,h1],h2,hu.2⟩
 ·exact⟨by simp[ai.okB,hu.1,vS,af.Ic],(by decide:vS.sz<=200),hu.2⟩
end
theorem Am {α:Type} {f:α→Nat} {B:Nat}:∀{l:List α},(∀x∈l,f x≤B)→ll f l≤l.length*(B+1)
  |[],_ =>Nat.zero_le _
  |t::l,h=>by
   have h1:=h t (by simp);have h2:=Am (l:=l) fun x hx=>h x (by simp[hx])
   rw[ll,List.length_cons,Nat.add_mul];omega
section
variable {b:List Int}
def GD (d:ao):Prop:=d.okB=true/\d.sz<=1000
theorem LZ:lH GD (lb b):=fun c=>by
 have hn:=nb (b:=b) (l:=[[116],[117],[108,105,115,116]]) (P:=fun x=>mE x=true/\x.length<=5) (by simp) (by decide) c;unfold lb;simp only[];generalize (fC b 2 (jP b [[116],[117],[108,105,115,116]] c).2)=o;have h3:=bO (b:=b) (n:=3) (by decide) o.2;generalize aC b 3 o.2=m at h3⊢;have hl:=lI (m:=jn b) (1+m.1).toNat m.2;have hc:=nd (LY (b:=b)) (1+m.1).toNat m.2;generalize (dD (jn b) (1+m.1).toNat m.2).1=l at hl hc⊢
 have hs:ll ai.sz l<=l.length*(205+1):=Am fun x hx=>by
  obtain⟨h1,h2,h3⟩:=hc x hx;unfold ai.sz;omega
 have hm:l.length*(205+1)<=3*(205+1):=Nat.mul_le_mul_right _ (by omega);refine⟨?_,?_⟩
 ·have h1:l.all ai.okB=true:=List.all_eq_true.2 fun x hx=>(hc x hx).1
  have h2:(if o.1=true then[[97]]else[]).all (tu gq)=true:=by split <;>decide
  simp only[ao.okB,hn.1,h1,h2,Bool.true_and,Bool.and_true,Bool.and_eq_true,decide_eq_true_eq];omega
 ·have h2:lX (if o.1=true then[[97]]else[])<=5:=by split <;>decide
  unfold ao.sz;simp only[HF];omega
theorem L0 {d:Nat} (hd:d<=5) (c:gO):(qz b d c).1.okB=true/\(qz b d c).1.body.fit/\(qz b d c).1.sz<=1000000:=by
 unfold qz;simp only[];have h3:=bO (b:=b) (n:=3) (by decide) c;generalize aC b 3 c=m at h3⊢;have hl:=lI (m:=lb b) m.1.toNat m.2;have hc:=nd (LZ (b:=b)) m.1.toNat m.2;obtain⟨e1,e2,e3⟩:=E3 (b:=b) d (dD (lb b) m.1.toNat m.2).2;generalize (dD (lb b) m.1.toNat m.2)=l at hl hc e1 e2 e3⊢;have hs:ll ao.sz l.1<=l.1.length*(1000+1):=Am fun x hx=>(hc x hx).2
 have hm:l.1.length*(1000+1)<=3*(1000+1):=Nat.mul_le_mul_right _ (by omega)
 have hb:Iz d<=500000:=by
  have:d=0\/d=1\/d=2\/d=3\/d=4\/d=5:=by omega
  rcases this with rfl|rfl|rfl|rfl|rfl|rfl<;>decide
 refine⟨?_,e2,?_⟩
 ·have h1:l.1.all ao.okB=true:=List.all_eq_true.2 fun x hx=>(hc x hx).1
  simp only[aI.okB,e1,h1,Bool.and_self]
 ·unfold aI.sz
  simp only[HG];omega
theorem PG (b:List Int):(Al b).okB=true/\(Al b).body.fit/\(Al b).sz<=1000000:=by
 have h4:=bO (b:=b) (n:=4) (by decide) (AX b);exact L0 (by omega) _
end
end Go.Proofs.YteilijfligofdaaGreatDoor.Pg
namespace Go.Proofs.YteilijfligofdaaGreatDoor.Qp
open Go.AM Mc Pg
abbrev E8 (t:af):AV:=.st (t.cells.map .p)
theorem PH (t:af):t.cells.length=4:=by cases t;rfl
theorem E9 {n:Nat} {H:List AO} {k q:Int} {nm:List UInt8} {a:AV} {l:List af} (h:bI n H a (.p (.l (af.aJ l)))):bI n H (.st [iV k,sV nm,iV q,a]) (E8 (.mk k nm q l)):=
 fp.st (.pc (.pc (.pc (.cons h .nil))))
theorem UN {n:Nat} {H:List AO}:bI n H (.p .nl) (.p (.l (af.aJ []))):=by rw[af.aJ];exact .nl
section
variable {b:List Int} (hb:b.length<=1048576)
include hb
theorem UO:CF b 103 [iV 0] (sN b) E8:=by
 refine ng fun H p c hp=>?_
 refine call103 (by simp) ?_;unfold sN Bf;simp only[go_sem,simprocAttr,oB,Ab];refine U (uQ hb (L:=[[105,110,116],[98,111,111,108],[117,110,105,116],[115,116,114],[116]]) (by simp) (k:=1) hp (by rfl)) ?_;simp only[go_sem,simprocAttr];refine U (nw hb 3 H _ p _ hp) ?_;split <;>rename_i h<;>try rw[Bool.not_eq_true]at h
 all_goals (simp only[go_sem,simprocAttr,h];exact⟨_,rfl,E9 UN⟩)
theorem adD {dep:Int} {rec:CM af} (hd:0<dep∧dep≤100) (lJ:CF b 103 [iV (dep-1)] rec E8):CF b 103 [iV dep] (fun c=>UL b rec (aC b 6 (Bf b c).2).1 (aC b 6 (Bf b c).2).2) E8:=by
  refine ng fun H p c hp=> ?_
  refine call103 (by simp) ?_;unfold Bf;have d0:decide (dep≤0)=false :=decide_eq_false (by omega);have e1:wr .i64 (dep-1)=dep-1:=ea (by omega) (by omega);obtain⟨T,hT,hm⟩:∃T,T=oB.m.b.b.b.b.b∧oB.m= .seq oB.m.a (.seq oB.m.b.a (.seq oB.m.b.b.a (.seq oB.m.b.b.b.a (.seq oB.m.b.b.b.b.a T)))):=⟨_,rfl,rfl⟩;rw[hm];clear hm
  have main:∀(K:Int) (NM:List UInt8) (M:Nat) (c:gO) (N:AO) (W:List (Nat×AV)),M≤3→lQ [0,1,4,5,6,7] (v8 W 7 (iV 0))=[(7,iV 0)]→mK (al Tryz.prog) T (BK Ab (fun r H'=>∃G,H'=H.set p (jm b (dD rec M c).2)++G∧bI H.length H' r (E8 (.mk K NM 0 (dD rec M c).1)))) ⟨(0, .ptr p 0)::(1,iV dep)::(4, .ptr H.length 0)::(5, .ptr (H.length+2) 0)::(13, .p (.b false))::(6,iV M)::W,[],H.set p (jm b c)++[.var [iV 0,sV [],iV 0, .p .nl],N, .var [iV K,sV NM,iV 0, .p .nl]]⟩:=by
    intro K NM M c N W hM hW;subst hT;generalize hR:dD rec M c=R;simp only[go_sem,simprocAttr,oB,Ab,hW]
    refine⟨Nat×gO×List af×AV×List AO,[0,1,4,5,6,7],fun x st=>(Lk b H p [0,2] 4 af.cells rec R x.1 x.2.1 x.2.2.1 x.2.2.2.1 x.2.2.2.2∧x.2.2.1.length+x.1=M∧x.2.2.2.2[0]?=some (.var [iV 0,sV [],iV 0, .p .nl])∧x.2.2.2.2[2]?=some (.var [iV K,sV NM,iV 0,x.2.2.2.1]))∧
      st=⟨[(0, .ptr p 0),(1,iV dep),(4, .ptr H.length 0),(5, .ptr (H.length+2) 0),(6,iV M),(7,iV x.2.2.1.length)],[],H.set p (jm b x.2.1)++x.2.2.2.2⟩,fun x=>x.1,⟨(M,c,[], .p .nl,[.var [iV 0,sV [],iV 0, .p .nl],N, .var [iV K,sV NM,iV 0, .p .nl]]), ?_⟩, ?_⟩
    · simp only[go_sem,simprocAttr,hW]
      exact⟨by rw[hR];rfl,by rw[hR],by simp;omega, .inl ⟨rfl,rfl⟩,(fun _ _ _ _ e=>by cases e),by simp⟩
    · rintro⟨j,c,acc,a,A⟩ _ ⟨⟨hL,hj,i8,i9⟩,rfl⟩
      simp only at hL hj i8 i9⊢
      cases j with
      |zero=>
       obtain⟨rfl,rfl⟩:=hL.stop;have d1:decide ((R.1.length:Int)<(M:Int))=false :=by simp;omega
       have hz:∀o,(A.set 0 o)[0]?=some o:=fun o=>aR i8
       simp only[go_sem,simprocAttr,d1,i9,i8,hz]
       exact⟨_,rfl,E9 (by rw[af.bD];exact hL.mI (cD (by decide)) PH)⟩
      |succ j=>
       have d1:decide ((acc.length:Int)<(M:Int))=true :=by simp;omega
       have ej:wr .i64 ((acc.length:Int)+1)=((acc.length+1:Nat):Int):=cH _ (by omega);simp only[go_sem,simprocAttr,d1];refine⟨_,hx hp _ _, ?_⟩;simp only[go_sem,simprocAttr,i9,e1];refine aL _ _ (by simp) (hx hp _ _) (lJ.chain hp) ?_;rcases hq1:rec c with⟨⟨k',n',q',fY⟩,c5⟩
       simp only[go_sem,simprocAttr,af.cells,pO];refine⟨by intro r hr;simp at hr;subst hr;rfl, ?_⟩;refine hL.app (bytes:=56) (fun k o h=>ag h _) (by decide) (by omega) ?_;intro id ver A' k1 k2 k3;have j0:=(k3 0 (by decide)).trans i8;have j1:=(k3 2 (by decide)).trans i9;have abd:=aT j1;have hz:∀o,(A'.set 2 o)[2]?=some o:=fun o=>aR j1
       simp only[go_sem,simprocAttr,j1,ej];exact⟨(j,c5,acc++[.mk k' n' q' fY], .gs id ver 0 (acc.length+1),A'.set 2 (.var [iV K,sV NM,iV 0, .gs id ver 0 (acc.length+1)])),⟨⟨hL.next hq1 k1 k2 (cD (by decide)) (by simp;omega),by simp;omega,aM j0 (by decide),hz _⟩,by simp⟩,by simp only;omega⟩
  clear hT;simp only[Ab]at main;simp only[go_sem,simprocAttr,oB,Ab,d0];refine U (uQ hb (L:=[[105,110,116],[98,111,111,108],[117,110,105,116],[115,116,114],[116]]) (by simp) (k:=1) hp (by rfl)) ?_;generalize jP b [[105,110,116],[98,111,111,108],[117,110,105,116],[115,116,114],[116]] c=S;obtain⟨nm,c1⟩:=S;simp only[go_sem,simprocAttr,d0];refine U (dX hb 6 H _ p _ hp) ?_;generalize aC b 6 c1=S;obtain⟨r,c2⟩:=S;unfold UL;simp only[];simp only[go_sem,simprocAttr];by_cases r0:r=0
  · rw[if_pos r0]
    simp only[go_sem,simprocAttr,dT r0];refine main 3 [] 2 _ _ _ (by decide) ?_
    rfl
  rw[if_neg r0];simp only[go_sem,simprocAttr,dF r0];by_cases r1:r=1
  · rw[if_pos r1]
    simp only[go_sem,simprocAttr,dT r1];refine U (dX hb 2 H _ p _ hp) ?_;have h2:=bO (b:=b) (n:=2) (by decide) c2;generalize aC b 2 c2=S at h2;obtain⟨m,c3⟩:=S;simp only at h2;obtain⟨M,hM⟩:∃M:Nat,2+m=M:=⟨(2+m).toNat,by omega⟩;have eM:wr .i64 (2+m)=(M:Int):=by rw[ea (by omega) (by omega),hM]
    rw[hM,Int.toNat_natCast];simp only[go_sem,simprocAttr,eM];refine main 4 [] M _ _ _ (by omega) ?_
    rfl
  rw[if_neg r1];simp only[go_sem,simprocAttr,dF r1];by_cases r2:r=2
  · rw[if_pos r2]
    simp only[go_sem,simprocAttr,dT r2];refine main 5 [] 1 _ _ _ (by decide) ?_
    rfl
  rw[if_neg r2];simp only[go_sem,simprocAttr,dF r2];by_cases r3:r=3
  · rw[if_pos r3]
    simp only[go_sem,simprocAttr,dT r3];refine main 1 [116] 1 _ _ _ (by decide) ?_
    rfl
  rw[if_neg r3];simp only[go_sem,simprocAttr,dF r3];refine U (UO hb H _ p _ hp) ?_;rcases hq:sN b c2 with⟨⟨k',n',q',fY⟩,c4⟩
  simp only[go_sem,simprocAttr,af.cells];exact⟨_,rfl,aZ (dP (af.cells (.mk k' n' q' fY)))⟩
theorem abz:∀d:Nat,d≤50→CF b 103 [iV d] (AY b d) E8
  |0,_ =>UO hb
  |d+1,h=>adD hb (dep:=((d+1:Nat):Int)) (by omega) (by
   have :=abz d (by omega);rwa[show((d+1:Nat):Int)-1=(d:Int)by omega])
end
structure Lt {α:Type} (b:List Int) (H:List AO) (p:Nat) (N:List Nat) (sz:Nat) (tv:α->List TV) (m:CM α) (R:List α×gO) (j:Nat) (c:gO) (acc:List α) (a:AV) (rs:List (List AV)) (ids:List Nat) (A:List AO):Prop where
 rl:acc++(dD m j c).1=R.1
 rc:(dD m j c).2=R.2
 ln:acc.length+j<=1000
 own:iG (H.set p (jm b c)++A) a sz rs
 rows:bY (H.set p (jm b c)++A) sz (acc.map tv) rs ids
 idn:∀id v o m,a=.gs id v o m->H.length<=id/\id-H.length∉N/\id∉ids
 low:∀i∈ids,H.length<=i/\i-H.length∉N
 len:∀k∈N,k<A.length
theorem qA {X:List AO} {t:TV} {ts:List TV} {a:AV} {cs:List AV} {i js:List Nat} (h:fq X t a i) (k:bj X ts cs js):bj X (t::ts) (a::cs) (i++js):=by
 rw[bj];exact⟨_,_,_,_,rfl,rfl,h,k⟩
theorem gL {X:List AO} {x:PV} {ts:List TV} {cs:List AV} {js:List Nat} (k:bj X ts cs js):bj X (.p x::ts) (.p x::cs) js:=qA (i:=[]) (by rw[fq];exact⟨rfl,rfl⟩) k
theorem bY.mem {X:List AO} {sz:Nat} {rows:List (List TV)} {rs:List (List AV)} {ids:List Nat} (h:bY X sz rows rs ids) {i:Nat} (hi:i∈ids):i<X.length:=by
 obtain⟨_,_,_,h⟩:=h.rows i hi;exact aT h
section
variable {α:Type} {b:List Int} {H:List AO} {p sz:Nat} {N:List Nat} {tv:α->List TV} {m:CM α} {R:List α×gO} {j:Nat} {c:gO} {acc:List α} {a:AV} {rs:List (List AV)} {ids:List Nat} {A:List AO}
theorem Lt.stop (h:Lt b H p N sz tv m R 0 c acc a rs ids A):acc=R.1/\c=R.2:=by
 have h1:=h.rl;have h2:=h.rc;exact⟨by simpa[dD]using h1,h2⟩
theorem Lt.whole (h:Lt b H p N sz tv m R j c acc a rs ids A) {d0:AO} {B:List AO} (hk:∀(k:Nat) (o:AO),k∉N->A[k]?=some o->B[k]?=some o):∃js,fq (H.set p d0++B) (.s sz (acc.map tv)) a js/\∀i∈js,H.length<=i/\i-H.length∉N:=by
 have hr:=h.rows
 have eF:∀i,H.length<=i->i-H.length∉N->∀o,(H.set p (jm b c)++A)[i]?=some o->(H.set p d0++B)[i]?=some o:=fun i h1 h2 o ho=>by
  rw[rM h1]at ho⊢;exact hk _ _ h2 ho
 rcases h.own with⟨rfl,rfl⟩|⟨id,ver,rfl,ho⟩
 ·have:=bY.len hr
  have e:acc.map tv=[]:=List.length_eq_zero_iff.1 (by simpa using this.symm);exact⟨[],by rw[e,fq];exact .inl ⟨rfl,rfl,rfl⟩,by simp⟩
 ·obtain⟨g1,g2,g3⟩:=h.idn _ _ _ _ rfl
  refine⟨id::ids,?_,?_⟩
  ·rw[fq]
   exact .inr ⟨id,ver,rs,ids,rfl,rfl,eF id g1 g2 _ ho,hr.eF fun i hi o ho=>eF i (h.low i hi).1 (h.low i hi).2 o ho⟩
  ·intro i hi
   rcases List.mem_cons.1 hi with rfl|hi
   ·exact⟨g1,g2⟩
   ·exact h.low i hi
theorem Lt.mI (h:Lt b H p N sz tv m R j c acc a rs ids A) {d0:AO} {B:List AO} (hk:∀(k:Nat) (o:AO),k∉N->A[k]?=some o->B[k]?=some o):bI H.length (H.set p d0++B) a (.p (.l (TV.kL (acc.map tv)))):=by
 obtain⟨js,h1,h2⟩:=h.whole (d0:=d0) hk;have:=NQ h1 fun i hi=>(h2 i hi).1
 rwa[TV.pv]at this
theorem Lt.app {K:St->Prop} {L T':En} {d:MD} {bytes:Nat} {B:List AO} {x:α} {c2:gO} {y:List AV} {js:List Nat} (h:Lt b H p N sz tv m R (j+1) c acc a rs ids A) (hm:m c=(x,c2))
  (hB:∀(k:Nat) (o:AO),k∉N->A[k]?=some o->B[k]?=some o) (hBN:∀k∈N,k<B.length) (Gl:bytes<=1000)
  (hy:bj (H.set p (jm b c2)++B) (tv x) y js) (Xt:y.length=sz) (Hu:∀i∈js,H.length+A.length<=i/\i-H.length∉N)
  (k:∀id ver A',(∀C,(∀(k:Nat) (o:AO),k∉N->A'[k]?=some o->C[k]?=some o)->(∀k∈N,k<C.length)->Lt b H p N sz tv m R j c2 (acc++[x]) (.gs id ver 0 (rs.length+1)) (rs++[y]) (ids++js) C)->(∀k∈N,A'[k]?=B[k]?)->H.length<=id->K (St.put ⟨L,T',H.set p (jm b c2)++A'⟩ d (.gs id ver 0 (rs.length+1)))):
  lR sz bytes a [y] d K ⟨L,T',H.set p (jm b c2)++B⟩:=by
 have h1:=h.rl;have h2:=h.rc;have C1:=h.ln;rw[dD,hm]at h1 h2;have qL:rs.length=acc.length:=by rw[bY.len h.rows,List.length_map]
 have Oe:∀i∈ids,i-H.length<A.length:=fun i hi=>by
  have:=bY.mem h.rows hi;have:=(h.low i hi).1;simp at *;omega
 have eF:∀i∈ids,∀o,(H.set p (jm b c)++A)[i]?=some o->B[i-H.length]?=some o:=fun i hi o ho=>by
  rw[rM (h.low i hi).1]at ho;exact hB _ _ (h.low i hi).2 ho
 have jE:∀i∈js,i<H.length+B.length:=fun i hi=>by
  obtain⟨_,_,_,ho⟩:=hy.rows i hi;simpa using aT ho
 have lA:∀i∈ids++js,H.length<=i/\i-H.length∉N/\i-H.length<B.length:=fun i hi=>by
  rcases List.mem_append.1 hi with hi|hi
  ·obtain⟨_,_,_,ho⟩:=h.rows.rows i hi
   exact⟨(h.low i hi).1,(h.low i hi).2,aT (eF i hi _ ho)⟩
  ·have:=Hu i hi
   have:=jE i hi;exact⟨by omega,(Hu i hi).2,by omega⟩
 refine C0 (N:=N++(ids++js).map (· -H.length)) (rs:=rs) (ys:=[y]) (c:=jm b c2) (CZ h.own (fun id v o m e=>⟨(h.idn id v o m e).1,(h.idn id v o m e).2.1⟩) hB) ?_ ?_ ?_ ?_ ?_
 ·intro k hk
  rcases List.mem_append.1 hk with hk|hk
  ·exact hBN k hk
  ·obtain⟨i,hi,rfl⟩:=List.mem_map.1 hk
   exact(lA i hi).2.2
 ·intro id v o m e
  obtain⟨g1,g2,g3⟩:=h.idn id v o m e;refine⟨g1,fun hk=>?_⟩;rcases List.mem_append.1 hk with hk|hk
  ·exact g2 hk
  ·obtain⟨i,hi,hie⟩:=List.mem_map.1 hk
   have:=(lA i hi).1;obtain rfl:i=id:=by omega
   rcases List.mem_append.1 hi with hi|hi
   ·exact g3 hi
   ·have:=(Hu i hi).1
    rcases h.own with⟨e2,_⟩|⟨id2,QR,e2,ho⟩
    ·rw[e2]at e;cases e
    ·rw[e2]at e;cases e
     have:=aT ho;simp at this;omega
 ·simp only[List.length_singleton]
  exact Nat.le_trans (Nat.mul_le_mul (show rs.length+1<=1001 by omega) Gl) (by decide)
 ·simp only[List.length_singleton];omega
 ·intro id ver A' k1 k2 k3
  rw[List.length_singleton]at *;have kN:∀k∈N,A'[k]?=B[k]?:=fun k hk=>k3 k (List.mem_append_left _ hk)
  have kI:∀i∈ids++js,A'[i-H.length]?=B[i-H.length]?:=fun i hi=>k3 _ (List.mem_append_right _ (List.mem_map.2 ⟨i,hi,rfl⟩))
  have hid:id-H.length∉N:=fun hm=>k2.2 (List.mem_append_left _ hm)
  refine k id ver A' (fun C hC hCN=>?_) kN k2.1
  have UP:∀i∈ids++js,∀o,B[i-H.length]?=some o->(H.set p (jm b c2)++C)[i]?=some o:=fun i hi o ho=>by
   rw[rM (lA i hi).1];exact hC _ _ (lA i hi).2.1 (by rw[kI i hi];exact ho)
  refine⟨by simpa using h1,h2,by simp;omega,.inr ⟨id,ver,by simp,?_⟩,?_,?_,fun i hi=>⟨(lA i hi).1,(lA i hi).2.1⟩,hCN⟩
  ·rw[rM k2.1]at k1⊢
   exact hC _ _ hid k1
  ·rw[List.map_append]
   refine bY.snoc (h.rows.eF fun i hi o ho=>UP i (List.mem_append_left _ hi) o (eF i hi o ho)) Xt (hy.eF fun i hi o ho=>?_);refine UP i (List.mem_append_right _ hi) o ?_;rwa[rM (lA i (List.mem_append_right _ hi)).1]at ho
  ·intro jC v o m e
   cases e;refine⟨k2.1,hid,fun hm=>k2.2 (List.mem_append_right _ (List.mem_map.2 ⟨id,hm,rfl⟩))⟩
end
def IX (c:ai):List TV:=match c with
 |⟨n,h,.mk k t q ks,p⟩=>[.p (.s n),.p (.b h),.p (.i .i64 k),.p (.s t),.p (.i .i64 q),if h=false/\ks=[]then .s 4 []else .p (.l (af.aJ ks)),.p (.i .i64 p)]
theorem adE (n p):IX ⟨n,false,vS,p⟩=[.p (.s n),.p (.b false),.p (.i .i64 0),.p (.s []),.p (.i .i64 0),.s 4 [],.p (.i .i64 p)]:=by simp[IX,vS]
theorem adF (n k t q ks p):IX ⟨n,true,.mk k t q ks,p⟩=[.p (.s n),.p (.b true),.p (.i .i64 k),.p (.s t),.p (.i .i64 q),.p (.l (af.aJ ks)),.p (.i .i64 p)]:=by simp[IX]
def dtv (d:ao):List TV:=[.p (.s d.name),.s 1 (d.vars.map fun v=>[.p (.s v)]),.s 7 (d.ctors.map IX),.p (.i .i64 d.pos)]
theorem YP (c:ai):TV.kM (IX c)=c.cells:=by
 obtain⟨n,h,⟨k,t,q,ks⟩,p⟩:=c;unfold IX ai.cells;simp only[af.cells];split
 ·rename_i e
  rw[e.2,af.aJ];simp only[TV.kM,TV.pv,TV.kL];rfl
 ·simp only[TV.kM,TV.pv];rfl
theorem yY {α:Type} {f:α->List TV} {g:α->List PV} (h:∀x,TV.kM (f x)=g x):∀l:List α,TV.kL (l.map f)=l.map g
 |[]=>by rw[List.map_nil,TV.kL];rfl
 |x::l=>by rw[List.map_cons,TV.kL,h,yY h l];rfl
theorem YQ (d:ao):TV.kM (dtv d)=d.cells:=by
 unfold dtv ao.cells eH;simp only[TV.kM,TV.pv,yY YP,yY (g:=fun v=>[PV.s v]) (f:=fun v=>[TV.p (.s v)]) (fun x=>by simp only[TV.kM,TV.pv])]
abbrev GH (g:aI):AV:=.st (g.cells.map .p)
section
variable {b:List Int} (hb:b.length<=1048576)
include hb
theorem YR {d:Nat} (hd:d≤50):CF b 45 [iV d] (qz b d) GH:=by
  refine ng fun H p c hp=> ?_
  refine call45 (by simp) ?_;unfold qz;simp only[];simp only[go_sem,simprocAttr,Tu,aba];refine U (dX hb 3 H _ p _ hp) ?_;have h3:=bO (b:=b) (n:=3) (by decide) c;rcases hm:aC b 3 c with⟨m,c0⟩
  rw[hm]at h3;simp only at h3⊢;obtain⟨M,rfl⟩:∃M:Nat,m=M:=⟨m.toNat,by omega⟩;rw[Int.toNat_natCast];generalize hR:dD (lb b) M c0=R;simp only[go_sem,simprocAttr]
  refine⟨Nat×gO×List ao×AV×List (List AV)×List Nat×List AO,[0,1,4,5,6],fun x st=>(Lt b H p [0,1] 4 dtv (lb b) R x.1 x.2.1 x.2.2.1 x.2.2.2.1 x.2.2.2.2.1 x.2.2.2.2.2.1 x.2.2.2.2.2.2∧x.2.2.2.2.2.2[0]?=some (.var [.p .nl,iV 0,sV [],iV 0,sV [],iV 0, .p .nl, .p .nl])∧x.2.2.2.2.2.2[1]?=some (.var [x.2.2.2.1,iV 0,sV [],iV 0,sV [],iV 0, .p .nl, .p .nl]))∧
      st=⟨[(0, .ptr p 0),(1,iV d),(4, .ptr H.length 0),(5, .ptr (H.length+1) 0),(6,iV x.1)],[],H.set p (jm b x.2.1)++x.2.2.2.2.2.2⟩,fun x=>x.1,⟨(M,c0,[], .p .nl,[],[],[.var [.p .nl,iV 0,sV [],iV 0,sV [],iV 0, .p .nl, .p .nl], .var [.p .nl,iV 0,sV [],iV 0,sV [],iV 0, .p .nl, .p .nl]]), ?_⟩, ?_⟩
  · simp only[go_sem,simprocAttr]
    exact⟨by rw[hR];rfl,by rw[hR],by simp;omega, .inl ⟨rfl,rfl⟩,by rw[List.map_nil,bY];exact⟨rfl,rfl⟩,(fun _ _ _ _ e=>by cases e),by simp,by simp⟩
  rintro⟨j,c,acc,a,rs,ids,A⟩ _ ⟨⟨hL,i0,i1⟩,rfl⟩;simp only at hL i0 i1⊢;have C1:=hL.ln;have hA2:=aT i1
  cases j with
  |zero=>
   obtain⟨rfl,rfl⟩:=hL.stop;simp only[go_sem,simprocAttr];refine U (Tz hb d hd H _ p _ hp) ?_;rcases hq:uO b d R.2 with⟨⟨k',n',u',t',q',fY,bf⟩,c4⟩
   have hz:∀o,(A.set 1 o)[1]?=some o:=fun o=>aR i1
   have i80:∀o,(A.set 1 o)[0]?=A[0]?:=fun o=>by rw[List.getElem?_set_ne (by decide)]
   have qT:∀o o2,((A.set 1 o).set 0 o2)[0]?=some o2:=fun o o2=>aR ((i80 o).trans i0)
   simp only[go_sem,simprocAttr,aa.cells,i1,i80,i0,hz,qT];refine⟨_,rfl,fp.st (.cons ?_ (.pc (.pc (.pc (.pc (.pc (.pc (.pc .nil))))))))⟩;rw[←yY YQ]
   exact hL.mI fun k o hk h=>by rw[List.getElem?_set_ne (by rintro rfl;exact hk (by decide)),List.getElem?_set_ne (by rintro rfl;exact hk (by decide))];exact h
  |succ j=>
   have d1:decide (0<((j+1:Nat):Int))=true :=by simp <;>omega
   have ej:wr .i64 (((j+1:Nat):Int)-1)=(j:Int):=by rw[ea (by omega) (by omega)];omega
   simp only[go_sem,simprocAttr,d1];refine U (uQ hb (L:=[[116],[117],[108,105,115,116]]) (by simp) (k:=A.length) hp (by simp)) ?_;simp only[go_sem,simprocAttr,pO];refine U (nw hb 2 H _ p _ hp) ?_;rcases hq1:jP b [[116],[117],[108,105,115,116]] c with⟨nm,c1⟩
   rcases dC:fC b 2 c1 with⟨o,c2⟩
   cases o
   case' false =>
     simp only[go_sem,simprocAttr,dC,pO,Bool.false_eq_true];have L1:lb b c=(⟨nm,[],(dD (jn b) (1+(aC b 3 c2).1).toNat (aC b 3 c2).2).1,0⟩,(dD (jn b) (1+(aC b 3 c2).1).toNat (aC b 3 c2).2).2):=by unfold lb;simp only[hq1,dC];rfl
     obtain⟨A1,hA1,vs,vc,jv,G8,fA,fl,fd,fo,fj⟩:∃A1,A++[AO.rows 1 0 [[sV [116]],[sV [117]],[sV [108,105,115,116]]], .var [sV nm, .p .nl, .p .nl,iV 0]]=A1∧∃vs vc jv,([]:List (List UInt8))=vs∧(∀(k:Nat) o,A[k]?=some o→A1[k]?=some o)∧A.length+1<A1.length∧A1[A.length+1]?=some (.var [sV nm,vc, .p .nl,iV 0])∧(∀c,fq (H.set p c++A1) (.s 1 (vs.map fun v=>[.p (.s v)])) vc jv)∧∀i∈jv,H.length+A.length+2≤i:=
       ⟨_,rfl,[], .p .nl,[],rfl,fun k o h=>ag h _,by simp,by simp,fun c=>by rw[List.map_nil,fq];exact .inl ⟨rfl,rfl,rfl⟩,by simp⟩
   case' true =>
     simp only[go_sem,simprocAttr,dC,pO];have L1:lb b c=(⟨nm,[[97]],(dD (jn b) (1+(aC b 3 c2).1).toNat (aC b 3 c2).2).1,0⟩,(dD (jn b) (1+(aC b 3 c2).1).toNat (aC b 3 c2).2).2):=by unfold lb;simp only[hq1,dC];rfl
     obtain⟨A1,hA1,vs,vc,jv,G8,fA,fl,fd,fo,fj⟩:∃A1,A++[AO.rows 1 0 [[sV [116]],[sV [117]],[sV [108,105,115,116]]], .var [sV nm, .gs (H.length+(A.length+2)) 0 0 1, .p .nl,iV 0], .rows 1 0 [[sV [97]]]]=A1∧∃vs vc jv,[[97]]=vs∧(∀(k:Nat) o,A[k]?=some o→A1[k]?=some o)∧A.length+1<A1.length∧A1[A.length+1]?=some (.var [sV nm,vc, .p .nl,iV 0])∧(∀c,fq (H.set p c++A1) (.s 1 (vs.map fun v=>[.p (.s v)])) vc jv)∧∀i∈jv,H.length+A.length+2≤i:=
       ⟨_,rfl,[[97]], .gs (H.length+(A.length+2)) 0 0 1,[H.length+(A.length+2)],rfl,fun k o h=>ag h _,by simp,by simp,fun c=>by
         rw[fq];refine .inr ⟨_,0,[[sV [97]]],[],rfl,rfl,by rw[lq];simp, ?_⟩;simp only[List.map_cons,List.map_nil,bY,bj,fq];exact⟨_,_,[],[],rfl,rfl,rfl,⟨_,_,[],[],rfl,rfl,⟨rfl,rfl⟩,rfl,rfl⟩,rfl,rfl⟩,by simp;omega⟩
   all_goals rw[hA1]
   all_goals rw[G8]at L1
   all_goals clear hA1 G8
   all_goals refine U (dX hb 3 H _ p _ hp) ?_
   all_goals have h3:=bO (b:=b) (n:=3) (by decide) c2
   all_goals rcases fD:aC b 3 c2 with⟨m,c3⟩
   all_goals rw[fD]at h3 L1
   all_goals simp only at h3 L1
   all_goals obtain⟨J,hJ⟩:∃J:Nat,1+m=J:=⟨(1+m).toNat,by omega⟩
   all_goals have eJ:wr .i64 (1+m)=(J:Int):=by rw[ea (by omega) (by omega),hJ]
   all_goals rw[hJ,Int.toNat_natCast]at L1
   all_goals generalize Hi:dD (jn b) J c3=R2 at L1
   all_goals simp only[go_sem,simprocAttr,eJ]
   all_goals refine⟨Nat×gO×List ai×AV×List (List AV)×List AO,[0,1,4,5,6,7,8],fun x st=>(Lt b H p (List.range A1.length) 7 IX (jn b) R2 x.1 x.2.1 x.2.2.1 x.2.2.2.1 x.2.2.2.2.1 [] x.2.2.2.2.2∧(∀k,k<A1.length→k≠A.length+1→x.2.2.2.2.2[k]?=A1[k]?)∧x.2.2.2.2.2[A.length+1]?=some (.var [sV nm,vc,x.2.2.2.1,iV 0]))∧
     st=⟨[(0, .ptr p 0),(1,iV d),(4, .ptr H.length 0),(5, .ptr (H.length+1) 0),(6,iV ((j+1:Nat):Int)),(7, .ptr (H.length+(A.length+1)) 0),(8,iV x.1)],[],H.set p (jm b x.2.1)++x.2.2.2.2.2⟩,fun x=>x.1,⟨(J,c3,[], .p .nl,[],A1), ?_⟩, ?_⟩
   all_goals first
     |rintro⟨j2,c4,wB,a2,Ah,A2⟩ _ ⟨⟨jK,yL,i2⟩,rfl⟩
     |(simp only[go_sem,simprocAttr]
       exact⟨⟨by rw[Hi];rfl,by rw[Hi],by simp;omega, .inl ⟨rfl,rfl⟩,by rw[List.map_nil,bY];exact⟨rfl,rfl⟩,(fun _ _ _ _ e=>by cases e),by simp,fun k hk=>List.mem_range.1 hk⟩,fun _ _ _ =>trivial,fd⟩)
   all_goals simp only at jK yL i2⊢
   all_goals have tW:=jK.len (A1.length-1) (List.mem_range.2 (by omega))
   all_goals
     cases j2 with
     |zero=>
      obtain⟨rfl,rfl⟩:=jK.stop;have i2':=(yL 1 (by omega) (by omega)).trans (fA 1 _ i1);simp only[go_sem,simprocAttr,i2,i2']
      have fB:∀(C:List AO) (k:Nat) o,A[k]?=some o→(A2++C)[k]?=some o:=fun C k o h=>by
        have :=aT h;exact ag ((yL k (by omega) (by omega)).trans (fA k o h)) C
      obtain⟨js2,g1,g2⟩:=jK.whole (d0:=jm b R2.2) (B:=A2++[.rows 4 0 [[sV nm,vc,a2,iV 0]]]) fun k o _ h=>ag h _
      refine⟨by intro r hr;simp at hr;subst hr;rfl, ?_⟩;refine hL.app (bytes:=72) (js:=jv++(js2++[])) L1 (fun k o _ h=>fB _ k o h) (by intro k hk;simp at hk⊢;omega) (by decide) (gL (qA ((fo (jm b R2.2)).eF fun i hi o ho=> ?_) (qA g1 (gL (bj.nil _))))) rfl (fun i hi=> ?_) ?_
      · have :=fj i hi
        rw[rM (by omega)]at ho⊢;have :=aT ho;exact ag ((yL _ (by omega) (by omega)).trans ho) _
      · rw[List.append_nil]at hi
        rcases List.mem_append.1 hi with hi|hi
        · have :=fj i hi
          exact⟨by omega,by simp;omega⟩
        · obtain⟨g3,g4⟩:=g2 i hi
          rw[List.mem_range]at g4;exact⟨by omega,by simp;omega⟩
      intro id ver A' k1 k2 k3;have j0:=(k2 0 (by decide)).trans (fB _ 0 _ i0);have j1:=(k2 1 (by decide)).trans (fB _ 1 _ i1);simp only[go_sem,simprocAttr,j1,ej]
      exact⟨(j,R2.2,acc++[⟨nm,vs,R2.1,0⟩], .gs id ver 0 (rs.length+1),rs++[[sV nm,vc,a2,iV 0]],_,A'.set 1 (.var [.gs id ver 0 (rs.length+1),iV 0,sV [],iV 0,sV [],iV 0, .p .nl, .p .nl])),⟨⟨k1 _ (cD (by decide)) (by have :=aT j1;intro k hk;simp at hk⊢;omega),aM j0 (by decide),aR j1⟩,rfl⟩,by simp only;omega⟩
     |succ j2=>
      have ah7:=jK.ln;have d2:decide (0<((j2+1:Nat):Int))=true :=by simp <;>omega
      have ej2:wr .i64 (((j2+1:Nat):Int)-1)=(j2:Int):=by rw[ea (by omega) (by omega)];omega
      simp only[go_sem,simprocAttr,d2];refine U (IB hb H _ p _ hp) ?_;simp only[go_sem,simprocAttr];refine U (nw hb 2 H _ p _ hp) ?_;rcases hu:kD b c4 with⟨un,c5⟩
      rcases ou:fC b 2 c5 with⟨oh,c6⟩
      have i2x:∀C,(A2++C)[A.length+1]?=_ :=fun C=>ag i2 C
      cases oh
      · simp only[go_sem,simprocAttr,ou,pO,Bool.false_eq_true,i2x]
        have hqc:jn b c4=(⟨un,false,vS,0⟩,c6):=by unfold jn;simp only[hu,ou];rfl
        refine⟨by intro r hr;simp at hr;subst hr;rfl, ?_⟩;refine jK.app (bytes:=88) (js:=[]) hqc (fun k o _ h=>ag h _) (fun k hk=>by have :=jK.len k hk;simp;omega) (by decide) (by rw[adE];exact gL (gL (gL (gL (gL (qA (i:=[]) (by rw[fq];exact .inl ⟨rfl,rfl,rfl⟩) (gL (bj.nil _)))))))) rfl (by simp) ?_;intro id ver A' k1 k2 k3;have UQ:=List.mem_range.2 fl;have j7:=(k2 _ UQ).trans (ag i2 _);simp only[go_sem,simprocAttr,j7,ej2]
        exact⟨(j2,_,wB++[_], .gs id ver 0 (Ah.length+1),Ah++[_],A'.set (A.length+1) (.var [sV nm,vc, .gs id ver 0 (Ah.length+1),iV 0])),⟨⟨k1 _ (cD UQ) (fun k hk=>by have :=(k2 k hk);have h5:=jK.len k hk;rw[List.length_set];rw[List.getElem?_append_left h5]at this;exact aT (this.trans (List.getElem?_eq_getElem h5))),fun k hk cK=>by
          rw[List.getElem?_set_ne (Ne.symm cK),k2 k (List.mem_range.2 hk),List.getElem?_append_left (by omega)];exact yL k hk cK,aR j7⟩,rfl⟩,by simp only;omega⟩
      · simp only[go_sem,simprocAttr,ou,pO]
        refine U (abz hb 2 (by decide) H _ p _ hp) ?_;rcases jS:AY b 2 c6 with⟨⟨k',n',q',fY⟩,c7⟩
        simp only[go_sem,simprocAttr,af.cells,pO,i2x];have hqc:jn b c4=(⟨un,true, .mk k' n' q' fY,0⟩,c7):=by unfold jn;simp only[hu,ou,if_true,jS]
        refine⟨by intro r hr;simp at hr;subst hr;rfl, ?_⟩;refine jK.app (bytes:=88) (js:=[]) hqc (fun k o _ h=>ag h _) (fun k hk=>by have :=jK.len k hk;simp;omega) (by decide) (by rw[adF];exact gL (gL (gL (gL (gL (gL (gL (bj.nil _)))))))) rfl (by simp) ?_;intro id ver A' k1 k2 k3;have UQ:=List.mem_range.2 fl;have j7:=(k2 _ UQ).trans (ag i2 _);simp only[go_sem,simprocAttr,j7,ej2]
        exact⟨(j2,_,wB++[_], .gs id ver 0 (Ah.length+1),Ah++[_],A'.set (A.length+1) (.var [sV nm,vc, .gs id ver 0 (Ah.length+1),iV 0])),⟨⟨k1 _ (cD UQ) (fun k hk=>by have :=(k2 k hk);have h5:=jK.len k hk;rw[List.length_set];rw[List.getElem?_append_left h5]at this;exact aT (this.trans (List.getElem?_eq_getElem h5))),fun k hk cK=>by
          rw[List.getElem?_set_ne (Ne.symm cK),k2 k (List.mem_range.2 hk),List.getElem?_append_left (by omega)];exact yL k hk cK,aR j7⟩,rfl⟩,by simp only;omega⟩
end
theorem L2 (t:aI):Tf (GH t):=dP _
theorem YS {b:List Int} (hb:b.length<=1048576) (H:List AO):al Tryz.prog 14 [.p (.l (rL b))] H (aP (GH (Al b)) H):=by
 refine aV ?_ (L2 _);refine call14 (by simp) ?_;simp only[go_sem,simprocAttr,Ti,aa0];refine(adk hb _).mono ?_;rintro _ _ ⟨rfl,rfl⟩;simp only[go_sem,simprocAttr,List.length_append,List.length_cons,List.length_nil];refine U ((dX hb 4).at1 H [] _ (AX b)) ?_;unfold Al;have h4:=bO (b:=b) (n:=4) (by decide) (AX b);rcases hq:aC b 4 (AX b)with⟨m,c⟩
 rw[hq]at h4;simp only at h4⊢;obtain⟨D,hD⟩:∃D:Nat,2+m=D:=⟨(2+m).toNat,by omega⟩;have e:wr .i64 (2+m)=(D:Int):=by rw[ea (by omega) (by omega),hD]
 rw[hD,Int.toNat_natCast];simp only[go_sem,simprocAttr,e];refine U ((YR hb (d:=D) (by omega)).at1 H [] _ c) ?_;rcases dC:qz b D c with⟨⟨ts,⟨k,n,u,t,q,ks,bf⟩⟩,c2⟩
 simp only[go_sem,simprocAttr,aI.cells,aa.cells];exact⟨rfl,_,rfl⟩
end Go.Proofs.YteilijfligofdaaGreatDoor.Qp
set_option linter.all false
set_option maxRecDepth 100000
namespace Go.Proofs.YteilijfligofdaaGreatDoor.Mc
open Go.AM
def UR:bz (Tryz.f12.body.map (compile [0,1,2,3,4,5,6] Tryz.prog 21)):=⟨_,by conv=>lhs;cbv⟩
def abA:List MR:=[.t 4]
theorem call12:ax Tryz.prog 12 21 UR.m abA:=UR.call Tryz.func12 (by kernel_rfl)
def US:bz (Tryz.f43.body.map (compile [0,1,2,3,4,5] Tryz.prog 47)):=⟨_,by conv=>lhs;cbv⟩
def abB:List MR:=[.t 4]
theorem call43:ax Tryz.prog 43 47 US.m abB:=US.call Tryz.func43 (by kernel_rfl)
def UT:bz (Tryz.f99.body.map (compile [0,1,2,3,4] Tryz.prog 17)):=⟨_,by conv=>lhs;cbv⟩
def abC:List MR:=[.t 4]
theorem call99:ax Tryz.prog 99 17 UT.m abC:=UT.call Tryz.func99 (by kernel_rfl)
def L3:bz (Tryz.f100.body.map (compile [0,1,2,3,4] Tryz.prog 31)):=⟨_,by conv=>lhs;cbv⟩
def UU:List MR:=[.t 4]
theorem call100:ax Tryz.prog 100 31 L3.m UU:=L3.call Tryz.func100 (by kernel_rfl)
def L4:bz (Tryz.f146.body.map (compile [0,1,2,6,7,8,9,14,15,16,17,18,30] Tryz.prog 32)):=⟨_,by conv=>lhs;cbv⟩
def UW:List MR:=[.t 6]
theorem call146:ax Tryz.prog 146 32 L4.m UW:=L4.call Tryz.func146 (by kernel_rfl)
def L5:bz (Tryz.f101.body.map (compile [0,1,2,6,7,8,9,14,15,16,17,18,30] Tryz.prog 32)):=⟨_,by conv=>lhs;cbv⟩
def UX:List MR:=[.t 6]
theorem call101:ax Tryz.prog 101 32 L5.m UX:=L5.call Tryz.func101 (by kernel_rfl)
def L6:bz (Tryz.f102.body.map (compile [0,1,2,6,7,8,9,14,15,16,17,18,30] Tryz.prog 32)):=⟨_,by conv=>lhs;cbv⟩
def UY:List MR:=[.t 6]
theorem call102:ax Tryz.prog 102 32 L6.m UY:=L6.call Tryz.func102 (by kernel_rfl)
def UZ:bz (Tryz.f42.body.map (compile [0,1,2,6,7,8,9,14,15,16,17,18,30] Tryz.prog 32)):=⟨_,by conv=>lhs;cbv⟩
def abD:List MR:=[.t 6]
theorem call42:ax Tryz.prog 42 32 UZ.m abD:=UZ.call Tryz.func42 (by kernel_rfl)
end Go.Proofs.YteilijfligofdaaGreatDoor.Mc
namespace Go.Proofs.YteilijfligofdaaGreatDoor.Pg
open Go.AM Mc Qp
theorem YT {f:Nat} {l m:List ae} (hlen:l.length=m.length) (hf:∀(i:Nat) x y,l[i]?=some x->m[i]?=some y->∀H,al Tryz.prog f [.st (x.cells.map .p),.st (y.cells.map .p)] H (aP (.p (.b true)) H)) (H:List AO):
  al Tryz.prog 146 [.p (.l (l.map ae.cells)),.p (.l (m.map ae.cells)),.eB f []] H (aP (.p (.b true)) H):=by
 refine aV ?_ (bw _);refine call146 (by simp) ?_;simp only[go_sem,simprocAttr,L4,UW,List.length_map,hlen];intro hl _ _;rw[bP]at hl;refine⟨Nat×List AO,[0,1,2,6,15,16,17],fun x st=>x.1<=m.length/\st=⟨[(0,.p (.l (l.map ae.cells))),(1,.p (.l (m.map ae.cells))),(2,.eB f []),(6,.p (.b false)),(15,.p (.l (l.map ae.cells))),(16,.p (.i .i64 m.length)),(17,.p (.i .i64 x.1))],[],H++x.2⟩,fun x=>m.length-x.1,⟨(0,[]),?_⟩,?_⟩
 ·simp only[go_sem,simprocAttr]
  exact Nat.zero_le _
 rintro⟨x,A⟩ _ ⟨hx,rfl⟩;simp only at hx;by_cases aF:x<m.length
 ·have d1:decide ((x:Int)<(m.length:Int))=true:=by simp;omega
  have d2:(x:Int)<(m.length:Int):=by omega
  have g1:(l.map ae.cells)[x]?=some (ae.cells l[x]):=by simp[show x<l.length by omega]
  have g2:(m.map ae.cells)[x]?=some (ae.cells m[x]):=by simp[aF]
  have hc:=hf x l[x] m[x] (by simp) (by simp);generalize l[x]=c at g1 hc;generalize m[x]=d at g2 hc;obtain⟨k1,n1,u1,p1,s1⟩:=c;obtain⟨k2,n2,u2,p2,s2⟩:=d;simp only[go_sem,simprocAttr,d1,d2,g1,g2,List.length_map,hlen,ae.cells];refine U (hc _) ?_;simp only[go_sem,simprocAttr,cH x (by omega),Bool.not_true];exact⟨(x+1,_),⟨by simp only;omega,rfl⟩,by simp only;omega⟩
 ·have d1:decide ((x:Int)<(m.length:Int))=false:=by simp;omega
  simp only[go_sem,simprocAttr,d1];exact⟨_,rfl⟩
theorem YU {f:Nat} {l m:List aa} (hlen:l.length=m.length) (hf:∀(i:Nat) x y,l[i]?=some x->m[i]?=some y->∀H,al Tryz.prog f [.st (x.cells.map .p),.st (y.cells.map .p)] H (aP (.p (.b true)) H)) (H:List AO):
  al Tryz.prog 101 [.p (.l (l.map aa.cells)),.p (.l (m.map aa.cells)),.eB f []] H (aP (.p (.b true)) H):=by
 refine aV ?_ (bw _);refine call101 (by simp) ?_;simp only[go_sem,simprocAttr,L5,UX,List.length_map,hlen];intro hl _ _;rw[bP]at hl;refine⟨Nat×List AO,[0,1,2,6,15,16,17],fun x st=>x.1<=m.length/\st=⟨[(0,.p (.l (l.map aa.cells))),(1,.p (.l (m.map aa.cells))),(2,.eB f []),(6,.p (.b false)),(15,.p (.l (l.map aa.cells))),(16,.p (.i .i64 m.length)),(17,.p (.i .i64 x.1))],[],H++x.2⟩,fun x=>m.length-x.1,⟨(0,[]),?_⟩,?_⟩
 ·simp only[go_sem,simprocAttr]
  exact Nat.zero_le _
 rintro⟨x,A⟩ _ ⟨hx,rfl⟩;simp only at hx;by_cases aF:x<m.length
 ·have d1:decide ((x:Int)<(m.length:Int))=true:=by simp;omega
  have d2:(x:Int)<(m.length:Int):=by omega
  have g1:(l.map aa.cells)[x]?=some (aa.cells l[x]):=by simp[show x<l.length by omega]
  have g2:(m.map aa.cells)[x]?=some (aa.cells m[x]):=by simp[aF]
  have hc:=hf x l[x] m[x] (by simp) (by simp);generalize l[x]=c at g1 hc;generalize m[x]=d at g2 hc;obtain⟨k1,n1,u1,t1,p1,s1,a1⟩:=c;obtain⟨k2,n2,u2,t2,p2,s2,a2⟩:=d;simp only[go_sem,simprocAttr,d1,d2,g1,g2,List.length_map,hlen,aa.cells];refine U (hc _) ?_;simp only[go_sem,simprocAttr,cH x (by omega),Bool.not_true];exact⟨(x+1,_),⟨by simp only;omega,rfl⟩,by simp only;omega⟩
 ·have d1:decide ((x:Int)<(m.length:Int))=false:=by simp;omega
  simp only[go_sem,simprocAttr,d1];exact⟨_,rfl⟩
theorem YV {f:Nat} {l m:List ar} (hlen:l.length=m.length) (hf:∀(i:Nat) x y,l[i]?=some x->m[i]?=some y->∀H,al Tryz.prog f [.st (x.cells.map .p),.st (y.cells.map .p)] H (aP (.p (.b true)) H)) (H:List AO):
  al Tryz.prog 102 [.p (.l (l.map ar.cells)),.p (.l (m.map ar.cells)),.eB f []] H (aP (.p (.b true)) H):=by
 refine aV ?_ (bw _);refine call102 (by simp) ?_;simp only[go_sem,simprocAttr,L6,UY,List.length_map,hlen];intro hl _ _;rw[bP]at hl;refine⟨Nat×List AO,[0,1,2,6,15,16,17],fun x st=>x.1<=m.length/\st=⟨[(0,.p (.l (l.map ar.cells))),(1,.p (.l (m.map ar.cells))),(2,.eB f []),(6,.p (.b false)),(15,.p (.l (l.map ar.cells))),(16,.p (.i .i64 m.length)),(17,.p (.i .i64 x.1))],[],H++x.2⟩,fun x=>m.length-x.1,⟨(0,[]),?_⟩,?_⟩
 ·simp only[go_sem,simprocAttr]
  exact Nat.zero_le _
 rintro⟨x,A⟩ _ ⟨hx,rfl⟩;simp only at hx;by_cases aF:x<m.length
 ·have d1:decide ((x:Int)<(m.length:Int))=true:=by simp;omega
  have d2:(x:Int)<(m.length:Int):=by omega
  have g1:(l.map ar.cells)[x]?=some (ar.cells l[x]):=by simp[show x<l.length by omega]
  have g2:(m.map ar.cells)[x]?=some (ar.cells m[x]):=by simp[aF]
  have hc:=hf x l[x] m[x] (by simp) (by simp);generalize l[x]=c at g1 hc;generalize m[x]=d at g2 hc;obtain⟨⟨kk1,U0,uu1,pp1,ss1⟩,⟨k1,n1,u1,t1,p1,s1,a1⟩⟩:=c;obtain⟨⟨kk2,PI,uu2,pp2,ss2⟩,⟨k2,n2,u2,t2,p2,s2,a2⟩⟩:=d;simp only[go_sem,simprocAttr,d1,d2,g1,g2,List.length_map,hlen,ar.cells,aa.cells,ae.cells];refine U (hc _) ?_;simp only[go_sem,simprocAttr,cH x (by omega),Bool.not_true];exact⟨(x+1,_),⟨by simp only;omega,rfl⟩,by simp only;omega⟩
 ·have d1:decide ((x:Int)<(m.length:Int))=false:=by simp;omega
  simp only[go_sem,simprocAttr,d1];exact⟨_,rfl⟩
theorem vI {α β:Type} {f:α->β} {l m:List α} (h:l.map f=m.map f):l.length=m.length/\∀(i:Nat) x y,l[i]?=some x->m[i]?=some y->x∈l/\f x=f y:=by
 refine⟨by simpa using congrArg List.length h,fun i x y hx hy=>⟨List.mem_of_getElem? hx,?_⟩⟩;have:=congrArg (fun z=>z[i]?) h;simpa[List.getElem?_map,hx,hy]using this
theorem Fa:∀(a b:ae) (h:a.er=b.er) (H:List AO),al Tryz.prog 100 [.st (a.cells.map .p), .st (b.cells.map .p)] H (aP (.p (.b true)) H)
  | .mk k n u p ks, .mk k2 n2 u2 p2 ms,h,H=>by
    simp only[ae.er,ae.mk.injEq,true_and,ae.fa]at h;obtain⟨rfl,rfl,rfl,h⟩:=h;obtain⟨hl,hi⟩:=vI h;refine aV ?_ (bw _);refine call100 (by simp) ?_;simp only[go_sem,simprocAttr,L3,UU,ae.cells,decide_true,ae.bD];refine U (YT hl (fun i x y hx hy H=>Fa x y (hi i x y hx hy).2 H) _) ?_;simp only[go_sem,simprocAttr];exact⟨_,rfl⟩
termination_by a=>SizeOf.sizeOf a
decreasing_by
 have:=List.sizeOf_lt_of_mem (hi i x y hx hy).1;simp;omega
theorem PJ {p q:ae} {a b:aa} (hp:p.er=q.er) (he:∀H,al Tryz.prog 43 [.st (a.cells.map .p),.st (b.cells.map .p)] H (aP (.p (.b true)) H)) (H:List AO):al Tryz.prog 99 [.st ((ar.cells (.mk p a)).map .p),.st ((ar.cells (.mk q b)).map .p)] H (aP (.p (.b true)) H):=by
 have hpc:=Fa p q hp;obtain⟨kk,nn,uu,pp,ss⟩:=p;obtain⟨kk2,PI,uu2,pp2,ss2⟩:=q;obtain⟨k,n,u,t,p,ks,bf⟩:=a;obtain⟨k2,n2,u2,t2,p2,Lg,XS⟩:=b;refine aV ?_ (bw _);refine call99 (by simp) ?_;simp only[go_sem,simprocAttr,UT,abC,ar.cells,ae.cells,aa.cells];refine U (hpc _) ?_;simp only[go_sem,simprocAttr];refine U (he _) ?_;simp only[go_sem,simprocAttr];exact⟨_,rfl⟩
theorem An:∀(a b:aa) (h:a.er=b.er) (H:List AO),al Tryz.prog 43 [.st (a.cells.map .p), .st (b.cells.map .p)] H (aP (.p (.b true)) H)
  | .mk k n u t p ks bf, .mk k2 n2 u2 t2 p2 ms bs,h,H=>by
    simp only[aa.er,aa.mk.injEq,true_and,aa.fa,aa.yA]at h;obtain⟨rfl,rfl,rfl,rfl,h,h2⟩:=h;obtain⟨hl,hi⟩:=vI h;obtain⟨pr,TQ⟩:=vI h2;refine aV ?_ (bw _);refine call43 (by simp) ?_;simp only[go_sem,simprocAttr,US,abB,aa.cells,decide_true,aa.bD,aa.cd];refine U (YU hl (fun i x y hx hy H=>An x y (hi i x y hx hy).2 H) _) ?_;simp only[go_sem,simprocAttr]
    refine U (YV pr (fun i x y hx hy H=>by
      obtain⟨h3,h4⟩:=TQ i x y hx hy;obtain⟨px,ex⟩:=x;obtain⟨py,ey⟩:=y;simp only[ar.er,ar.mk.injEq]at h4;exact PJ h4.1 (fun H=>An ex ey h4.2 H) H) _) ?_
    simp only[go_sem,simprocAttr];exact⟨_,rfl⟩
termination_by a=>SizeOf.sizeOf a
decreasing_by
 ·have:=List.sizeOf_lt_of_mem (hi i x y hx hy).1
  simp;omega
 ·have:=List.sizeOf_lt_of_mem h3
  simp at this⊢;omega
end Go.Proofs.YteilijfligofdaaGreatDoor.Pg
set_option linter.all false
set_option maxRecDepth 100000
namespace Go.Proofs.YteilijfligofdaaGreatDoor.Mc
open Go.AM
def U1:bz (Tryz.f37.body.map (compile [0,1,2,3,4] Tryz.prog 24)):=⟨_,by conv=>lhs;cbv⟩
def abE:List MR:=[.t 4]
theorem call37:ax Tryz.prog 37 24 U1.m abE:=U1.call Tryz.func37 (by kernel_rfl)
def U2:bz (Tryz.f39.body.map (compile [0,1,2,3,4,5] Tryz.prog 26)):=⟨_,by conv=>lhs;cbv⟩
def abF:List MR:=[.t 5]
theorem call39:ax Tryz.prog 39 26 U2.m abF:=U2.call Tryz.func39 (by kernel_rfl)
def U3:bz (Tryz.f38.body.map (compile [0,1,2,3,4] Tryz.prog 24)):=⟨_,by conv=>lhs;cbv⟩
def abG:List MR:=[.t 4]
theorem call38:ax Tryz.prog 38 24 U3.m abG:=U3.call Tryz.func38 (by kernel_rfl)
def U4:bz (Tryz.f40.body.map (compile [0,1,4,5,10,12,13,14,24] Tryz.prog 26)):=⟨_,by conv=>lhs;cbv⟩
def abH:List MR:=[.t 4]
theorem call40:ax Tryz.prog 40 26 U4.m abH:=U4.call Tryz.func40 (by kernel_rfl)
def U5:bz (Tryz.f41.body.map (compile [0,1,2,6,7,8,9,14,15,16,17,18,30] Tryz.prog 32)):=⟨_,by conv=>lhs;cbv⟩
def abI:List MR:=[.t 6]
theorem call41:ax Tryz.prog 41 32 U5.m abI:=U5.call Tryz.func41 (by kernel_rfl)
def U6:bz (Tryz.f98.body.map (compile [0,1,2,6,7,8,9,14,15,16,17,18,30] Tryz.prog 32)):=⟨_,by conv=>lhs;cbv⟩
def abJ:List MR:=[.t 6]
theorem call98:ax Tryz.prog 98 32 U6.m abJ:=U6.call Tryz.func98 (by kernel_rfl)
def U7:bz (Tryz.f18.body.map (compile [0,1,2,3,4,6,9] Tryz.prog 32)):=⟨_,by conv=>lhs;cbv⟩
def abK:List MR:=[.t 2]
theorem call18:ax Tryz.prog 18 32 U7.m abK:=U7.call Tryz.func18 (by kernel_rfl)
end Go.Proofs.YteilijfligofdaaGreatDoor.Mc
namespace Go.Proofs.YteilijfligofdaaGreatDoor.Pg
open Go.AM Mc Qp
theorem adG {f:Nat} {l m:List af} (hlen:l.length=m.length) (hf:∀(i:Nat) x y,l[i]?=some x->m[i]?=some y->∀H,al Tryz.prog f [.st (x.cells.map .p),.st (y.cells.map .p)] H (aP (.p (.b true)) H)) (H:List AO):
  al Tryz.prog 98 [.p (.l (l.map af.cells)),.p (.l (m.map af.cells)),.eB f []] H (aP (.p (.b true)) H):=by
 refine aV ?_ (bw _);refine call98 (by simp) ?_;simp only[go_sem,simprocAttr,U6,abJ,List.length_map,hlen];intro hl _ _;rw[bP]at hl;refine⟨Nat×List AO,[0,1,2,6,15,16,17],fun x st=>x.1<=m.length/\st=⟨[(0,.p (.l (l.map af.cells))),(1,.p (.l (m.map af.cells))),(2,.eB f []),(6,.p (.b false)),(15,.p (.l (l.map af.cells))),(16,.p (.i .i64 m.length)),(17,.p (.i .i64 x.1))],[],H++x.2⟩,fun x=>m.length-x.1,⟨(0,[]),?_⟩,?_⟩
 ·simp only[go_sem,simprocAttr]
  exact Nat.zero_le _
 rintro⟨x,A⟩ _ ⟨hx,rfl⟩;simp only at hx;by_cases aF:x<m.length
 ·have d1:decide ((x:Int)<(m.length:Int))=true:=by simp;omega
  have d2:(x:Int)<(m.length:Int):=by omega
  have g1:(l.map af.cells)[x]?=some (af.cells l[x]):=by simp[show x<l.length by omega]
  have g2:(m.map af.cells)[x]?=some (af.cells m[x]):=by simp[aF]
  have hc:=hf x l[x] m[x] (by simp) (by simp);generalize l[x]=c at g1 hc;generalize m[x]=d at g2 hc;obtain⟨k1,n1,p1,s1⟩:=c;obtain⟨k2,n2,p2,s2⟩:=d;simp only[go_sem,simprocAttr,d1,d2,g1,g2,List.length_map,hlen,af.cells];refine U (hc _) ?_;simp only[go_sem,simprocAttr,cH x (by omega),Bool.not_true];exact⟨(x+1,_),⟨by simp only;omega,rfl⟩,by simp only;omega⟩
 ·have d1:decide ((x:Int)<(m.length:Int))=false:=by simp;omega
  simp only[go_sem,simprocAttr,d1];exact⟨_,rfl⟩
theorem U8 {f:Nat} {l m:List ai} (hlen:l.length=m.length) (hf:∀(i:Nat) x y,l[i]?=some x->m[i]?=some y->∀H,al Tryz.prog f [.st (x.cells.map .p),.st (y.cells.map .p)] H (aP (.p (.b true)) H)) (H:List AO):
  al Tryz.prog 41 [.p (.l (l.map ai.cells)),.p (.l (m.map ai.cells)),.eB f []] H (aP (.p (.b true)) H):=by
 refine aV ?_ (bw _);refine call41 (by simp) ?_;simp only[go_sem,simprocAttr,U5,abI,List.length_map,hlen];intro hl _ _;rw[bP]at hl;refine⟨Nat×List AO,[0,1,2,6,15,16,17],fun x st=>x.1<=m.length/\st=⟨[(0,.p (.l (l.map ai.cells))),(1,.p (.l (m.map ai.cells))),(2,.eB f []),(6,.p (.b false)),(15,.p (.l (l.map ai.cells))),(16,.p (.i .i64 m.length)),(17,.p (.i .i64 x.1))],[],H++x.2⟩,fun x=>m.length-x.1,⟨(0,[]),?_⟩,?_⟩
 ·simp only[go_sem,simprocAttr]
  exact Nat.zero_le _
 rintro⟨x,A⟩ _ ⟨hx,rfl⟩;simp only at hx;by_cases aF:x<m.length
 ·have d1:decide ((x:Int)<(m.length:Int))=true:=by simp;omega
  have d2:(x:Int)<(m.length:Int):=by omega
  have g1:(l.map ai.cells)[x]?=some (ai.cells l[x]):=by simp[show x<l.length by omega]
  have g2:(m.map ai.cells)[x]?=some (ai.cells m[x]):=by simp[aF]
  have hc:=hf x l[x] m[x] (by simp) (by simp);generalize l[x]=c at g1 hc;generalize m[x]=d at g2 hc;obtain⟨U0,hh1,⟨k1,n1,p1,s1⟩,pp1⟩:=c;obtain⟨PI,hh2,⟨k2,n2,p2,s2⟩,pp2⟩:=d;simp only[go_sem,simprocAttr,d1,d2,g1,g2,List.length_map,hlen,ai.cells,af.cells];refine U (hc _) ?_;simp only[go_sem,simprocAttr,cH x (by omega),Bool.not_true];exact⟨(x+1,_),⟨by simp only;omega,rfl⟩,by simp only;omega⟩
 ·have d1:decide ((x:Int)<(m.length:Int))=false:=by simp;omega
  simp only[go_sem,simprocAttr,d1];exact⟨_,rfl⟩
theorem U9 {f:Nat} {v:AV} (H:List AO) {l m:List ao} (hlen:l.length=m.length) (hf:∀(i:Nat) x y,l[i]?=some x->m[i]?=some y->∀A,al Tryz.prog f [.st (x.cells.map .p),.st (y.cells.map .p),v] (H++A) (aP (.p (.b true)) (H++A))):
  al Tryz.prog 42 [.p (.l (l.map ao.cells)),.p (.l (m.map ao.cells)),.eB f [v]] H (aP (.p (.b true)) H):=by
 refine aV ?_ (bw _);refine call42 (by simp) ?_;simp only[go_sem,simprocAttr,UZ,abD,List.length_map,hlen];intro hl _ _;rw[bP]at hl;refine⟨Nat×List AO,[0,1,2,6,15,16,17],fun x st=>x.1<=m.length/\st=⟨[(0,.p (.l (l.map ao.cells))),(1,.p (.l (m.map ao.cells))),(2,.eB f [v]),(6,.p (.b false)),(15,.p (.l (l.map ao.cells))),(16,.p (.i .i64 m.length)),(17,.p (.i .i64 x.1))],[],H++x.2⟩,fun x=>m.length-x.1,⟨(0,[]),?_⟩,?_⟩
 ·simp only[go_sem,simprocAttr]
  exact Nat.zero_le _
 rintro⟨x,A⟩ _ ⟨hx,rfl⟩;simp only at hx;by_cases aF:x<m.length
 ·have d1:decide ((x:Int)<(m.length:Int))=true:=by simp;omega
  have d2:(x:Int)<(m.length:Int):=by omega
  have g1:(l.map ao.cells)[x]?=some (ao.cells l[x]):=by simp[show x<l.length by omega]
  have g2:(m.map ao.cells)[x]?=some (ao.cells m[x]):=by simp[aF]
  have hc:=hf x l[x] m[x] (by simp) (by simp);generalize l[x]=c at g1 hc;generalize m[x]=d at g2 hc;obtain⟨n1,v1,c1,p1⟩:=c;obtain⟨n2,v2,c2,p2⟩:=d;simp only[go_sem,simprocAttr,d1,d2,g1,g2,List.length_map,hlen,ao.cells];refine U (hc _) ?_;simp only[go_sem,simprocAttr,cH x (by omega),Bool.not_true];exact⟨(x+1,_),⟨by simp only;omega,rfl⟩,by simp only;omega⟩
 ·have d1:decide ((x:Int)<(m.length:Int))=false:=by simp;omega
  simp only[go_sem,simprocAttr,d1];exact⟨_,rfl⟩
theorem Va (l:List (List UInt8)) (H:List AO):al Tryz.prog 40 [.p (.l (eH l)),.p (.l (eH l))] H (aP (.p (.b true)) H):=by
 unfold eH;refine aV ?_ (bw _);refine call40 (by simp) ?_;simp only[go_sem,simprocAttr,U4,abH,List.length_map];intro hl _ _;rw[bP]at hl;refine⟨Nat,[0,1,4,12,13],fun x st=>x<=l.length/\st=⟨[(0,.p (.l (l.map fun s=>[.s s]))),(1,.p (.l (l.map fun s=>[.s s]))),(4,.p (.b false)),(12,.p (.i .i64 l.length)),(13,.p (.i .i64 x))],[],H⟩,fun x=>l.length-x,⟨0,?_⟩,?_⟩
 ·simp only[go_sem,simprocAttr]
  exact Nat.zero_le _
 rintro x _ ⟨hx,rfl⟩;by_cases aF:x<l.length
 ·have d1:decide ((x:Int)<(l.length:Int))=true:=by simp;omega
  have d2:(x:Int)<(l.length:Int):=by omega
  have g1:(l.map fun s=>[PV.s s])[x]?=some [.s l[x]]:=by simp[aF]
  simp only[go_sem,simprocAttr,d1];refine ba ?_;simp only[go_sem,simprocAttr,d2,g1,List.length_map,decide_true,Bool.not_true,cH x (by omega)];exact⟨x+1,⟨by omega,rfl⟩,by omega⟩
 ·have d1:decide ((x:Int)<(l.length:Int))=false:=by simp;omega
  simp only[go_sem,simprocAttr,d1];exact⟨[],by simp⟩
theorem IY:∀(a b:af) (h:a.er=b.er) (H:List AO),al Tryz.prog 38 [.st (a.cells.map .p), .st (b.cells.map .p)] H (aP (.p (.b true)) H)
  | .mk k n p ks, .mk k2 n2 p2 ms,h,H=>by
    simp only[af.er,af.mk.injEq,true_and,af.fa]at h;obtain⟨rfl,rfl,h⟩:=h;obtain⟨hl,hi⟩:=vI h;refine aV ?_ (bw _);refine call38 (by simp) ?_;simp only[go_sem,simprocAttr,U3,abG,af.cells,decide_true,af.bD];refine U (adG hl (fun i x y hx hy H=>IY x y (hi i x y hx hy).2 H) _) ?_;simp only[go_sem,simprocAttr];exact⟨_,rfl⟩
termination_by a=>SizeOf.sizeOf a
decreasing_by
 have:=List.sizeOf_lt_of_mem (hi i x y hx hy).1;simp;omega
theorem L7 (a b:ai) (h:a.er=b.er) (H:List AO):al Tryz.prog 37 [.st (a.cells.map .p),.st (b.cells.map .p)] H (aP (.p (.b true)) H):=by
 obtain⟨n,hs,t,p⟩:=a;obtain⟨n2,bt,t2,p2⟩:=b;simp only[ai.er,ai.mk.injEq]at h;obtain⟨rfl,rfl,h,-⟩:=h;have ht:=IY t t2 h;obtain⟨k1,m1,q1,s1⟩:=t;obtain⟨k2,m2,q2,s2⟩:=t2;refine aV ?_ (bw _);refine call37 (by simp) ?_;simp only[go_sem,simprocAttr,U1,abE,ai.cells,af.cells,decide_true,beq_self_eq_true];refine U (ht _) ?_;simp only[go_sem,simprocAttr];exact⟨_,rfl⟩
theorem L8 (a b:ao) (h:a.er=b.er) {H:List AO} {i:Nat} (hi:H[i]?=some (.var [.eB 37 []])):al Tryz.prog 39 [.st (a.cells.map .p),.st (b.cells.map .p),.ptr i 0] H (aP (.p (.b true)) H):=by
 obtain⟨n,vs,cs,p⟩:=a;obtain⟨n2,vs2,yT,p2⟩:=b;simp only[ao.er,ao.mk.injEq]at h;obtain⟨rfl,rfl,h,-⟩:=h;obtain⟨hl,hm⟩:=vI h;have TQ:∀A,(H++A)[i]?=_:=fun A=>ag hi A
 refine aV ?_ (bw _);refine call39 (by simp) ?_;simp only[go_sem,simprocAttr,U2,abF,ao.cells,decide_true];refine U (Va vs _) ?_;simp only[go_sem,simprocAttr,TQ];refine U (U8 hl (fun i x y hx hy H=>L7 x y (hm i x y hx hy).2 H) _) ?_;simp only[go_sem,simprocAttr];exact⟨_,rfl⟩
theorem L9 (a b:aI) (h:a.er=b.er) (H:List AO):al Tryz.prog 12 [.st (a.cells.map .p),.st (b.cells.map .p)] H (aP (.p (.b true)) H):=by
 obtain⟨ts,e⟩:=a;obtain⟨z8,e2⟩:=b;simp only[aI.er,aI.mk.injEq]at h;obtain⟨h,he⟩:=h;obtain⟨hl,hm⟩:=vI h;have hs:=An e e2 he;obtain⟨k,n,u,t,p,ks,bf⟩:=e;obtain⟨k2,n2,u2,t2,p2,ms,bs⟩:=e2;refine aV ?_ (bw _);refine call12 (by simp) ?_;simp only[go_sem,simprocAttr,UR,abA,aI.cells,aa.cells];refine U (U9 _ hl (fun i x y hx hy A=>L8 x y (hm i x y hx hy).2 (ag (by rw[eZ];rfl) A))) ?_;simp only[go_sem,simprocAttr];refine U (hs _) ?_;simp only[go_sem,simprocAttr];exact⟨_,rfl⟩
end Go.Proofs.YteilijfligofdaaGreatDoor.Pg
namespace Go.Proofs.YteilijfligofdaaGreatDoor.Qp
open Go.AM Mc Pg
theorem yZ (b u:Nat) (X:List AO) (k:Int) (nm:List UInt8) (q:Int):Env b u X (af.tv (.mk k nm q [])) [iV k,sV nm,iV q,.p .nl]:=by
 rw[af.tv,af.jT];exact((Env.nl1.pc _).pc _).pc _
theorem uY {b u:Nat} {X:List AO} {k:Int} {nm:List UInt8} {q:Int} {l:List af} {a:AV} (h:Env b u X [.s 4 (l.map af.tv)] [a]):Env b u X (af.tv (.mk k nm q l)) [iV k,sV nm,iV q,a]:=by
 rw[af.tv,af.oU];exact((h.pc _).pc _).pc _
theorem IZ {X:List AO} {cs:List AV} {ids:List Nat} {k:Int} {nm:List UInt8} {q:Int} {l:List af} (h4:bj X (af.tv (.mk k nm q l)) cs ids):∃c,cs=[iV k,sV nm,iV q,c]:=by
 rw[af.tv]at h4;simp only[bj,fq]at h4;obtain⟨_,_,_,_,rfl,_,⟨rfl,_⟩,_,_,_,_,rfl,_,⟨rfl,_⟩,_,_,_,_,rfl,_,⟨rfl,_⟩,c,_,_,_,rfl,_,_,rfl,_⟩:=h4;exact⟨c,rfl⟩
theorem Env.Dg {b u:Nat} {X:List AO} {ts:List TV} {ds cs:List AV} {k:Int} {nm:List UInt8} {q:Int} {l:List af} (h:Env b u X (ts++af.tv (.mk k nm q l)) (ds++cs)) (hl:ds.length=ts.length):∃c,cs=[iV k,sV nm,iV q,c]:=by
 obtain⟨ids,h1,_⟩:=h;obtain⟨c1,c2,i,j,e1,_,h3,h4⟩:=iX h1;obtain⟨rfl,rfl⟩:=List.append_inj e1 (by rw[h3.len];exact hl);exact IZ h4
theorem Ao (k:Int) (nm:List UInt8) (q:Int) (l:List af):nC (af.tv (.mk k nm q l))=nK (l.map af.tv):=by
 rw[af.tv,af.oU];simp[nC,nT]
theorem LO.head {α:Type} {pv:PS->AO} {T:List Tok} {e b n p sz:Nat} {K:List AO} {N:List Nat} {tv:α->List TV} {g:PS->Bool} {m:PM α} {Rl:List α} {Rs:PS} {x:LG α} (h:LO pv T e b n p K N sz tv g m Rl Rs x) (Uq:∀a,(tv a).length=sz) {y:α} {l:List α} (h0:x.acc=y::l):∃r0 rr q ver ids,x.rs=r0::rr/\rr.length=l.length/\x.a=.gs (n+q) ver 0 (rr.length+1)/\q∉N/\x.A[q]?=some (.rows sz ver (r0::rr))/\bj (x.H.set p (pv x.s)++x.A) (tv y) r0 ids:=by
 have hl:=h.len;rw[h0]at hl;rcases kK:x.rs with _|⟨r0,rr⟩
 ·rw[kK]at hl;simp at hl
 rw[kK]at hl;have Q5:r0.length=sz:=h.sz1 r0 (by rw[kK];simp);rcases h.own with⟨h1,h2⟩|⟨id,ver,e1,h1⟩
 ·rw[h2]at kK;cases kK
 ·obtain⟨q1,q2⟩:=h.ids _ _ _ _ e1
  obtain⟨q,rfl⟩:=Nat.le.dest q1;rw[Nat.add_sub_cancel_left]at q2;rw[aj h.hn,kK]at h1;have hE:=h.env;rw[h0,kK,List.map_cons,List.flatten_cons,List.flatten_cons]at hE;obtain⟨ids,k1,_⟩:=hE;obtain⟨c1,c2,i,j,e2,_,h3,h4⟩:=iX k1;obtain⟨rfl,rfl⟩:=List.append_inj e2 (by rw[h3.len,Uq,Q5]);exact⟨r0,rr,q,ver,i,rfl,by simpa using hl,by rw[e1,kK];rfl,q2,h1,h3⟩
section
variable {T:List Tok} {most e:Nat} (hT:bH T) (aK:T.length<=1073741825)
include hT aK
theorem YW {d:Nat} (hd:d<=1099511627776) {ty:PM af} (hP:iz T most e 151 [iV (d+1:Nat)] ty af.tv) (sP:ab T ty):iz T most e 195 [iV d] (dR T ty) af.tv:=by
 refine iq fun p K b n s hn hp hb hs hF=>?_
 have bS:p<K.length:=by omega
 have oz:wr .i64 ((d:Int)+1)=((d+1:Nat):Int):=cH _ (by omega);have jF:=ws aK hs;refine call195 (by simp) ?_;simp only[go_sem,simprocAttr,aj hn,aA hn,ay hn,aB hn,hn,hn,LD,Uo];refine U (lK K _ p s bS hs) ?_;simp only[go_sem,simprocAttr,aj hn,aA hn,ay hn,aB hn,hn,hn,Tok.cells];unfold dR at hF⊢;rw[bE]at hF⊢;generalize Da:aD T s=t at *;obtain⟨tk,tt,tn,tp⟩:=t;simp only at hF⊢;refine U (iY 5 K _ p s bS hs) ?_;cases c0:bp T 5 s;rotate_left
 ·rw[aQ c0]
  simp only[go_sem,simprocAttr,aj hn,aA hn,ay hn,aB hn,hn,hn,c0,mA bS,qq bS,jF,df];exact⟨_,K,_,0,rfl,rfl,Kp.rfl,yZ _ _ _ _ _ _⟩
 rw[aU c0]at hF⊢;simp only[go_sem,simprocAttr,aj hn,aA hn,ay hn,aB hn,hn,hn,c0];refine U (iY 3 K _ p s bS hs) ?_;cases c1:bp T 3 s;rotate_left
 ·rw[aQ c1]
  simp only[go_sem,simprocAttr,aj hn,aA hn,ay hn,aB hn,hn,hn,c1,mA bS,qq bS,jF,df];exact⟨_,K,_,0,rfl,rfl,Kp.rfl,yZ _ _ _ _ _ _⟩
 rw[aU c1,cV]at hF⊢;simp only[go_sem,simprocAttr,aj hn,aA hn,ay hn,aB hn,hn,hn,c1];refine U (iy hT aK [[40]] (by decide) bS hs (by omega) (fun c=>by rw[aj hn];rfl)) ?_;simp only[go_sem,simprocAttr,aj hn,aA hn,ay hn,aB hn,hn,hn,gh,oz];have bx:=hs.step (aG hT [40]);generalize aS T [40] s=s1 at *;rcases hq:ty s1 with⟨⟨k1,n1,q1,l1⟩,s2⟩
 have bt:=bx.run sP;rw[hq]at bt;simp only at bt;simp only[aN,hq,cV,il]at hF⊢;obtain⟨H1,kj,ah,dL,fJ,lP,_,cy,bZ⟩:=(hP p).use af.wf hq hn hp hb bx hF (Nat.le_refl _);refine U (bZ _ trivial) ?_;have cN:=fun A A'=>cy [] [] A A' (Env.nil _ _ _)
 obtain⟨v1,rfl⟩:=(cN [] []).Dg rfl;simp only[go_sem,simprocAttr,aj ah,aA ah,ay ah,aB ah,ah,ah];refine U (iy hT aK [[41]] (by decide) (by omega) bt (by omega) (fun c=>by rw[aj ah];rfl)) ?_;simp only[go_sem,simprocAttr,aj ah,aA ah,ay ah,aB ah,ah,ah,gh];exact⟨_,H1,_,n,rfl,rfl,dL,(cN [] []).base ah hp⟩
theorem Ap {ty:PM af} (kY:ab T ty) {s:PS} (hi:s.i<T.length) (hg:iT T s=true):s.i<(dR T ty s).2.i:=IC hT aK kY hi hg
theorem YX {d:Nat} (hd:d<=1099511627776) {ty:PM af} (hP:iz T most e 151 [iV (d+1:Nat)] ty af.tv) (sP:ab T ty):iz T most e 174 [iV d] (eU T T.length ty) af.tv:=by
 have hA:=YW hT aK hd hP sP;have sA:=Pg.ji hT sP;refine iq fun p K b n s hn hp hb hs hF=>?_
 have bS:p<K.length:=by omega
 have jF:=ws aK hs;refine call174 (by simp) ?_;simp only[go_sem,simprocAttr,aj hn,aA hn,ay hn,aB hn,hn,hn,Lw,Uk];refine U (lK K _ p s bS hs) ?_;simp only[go_sem,simprocAttr,aj hn,aA hn,ay hn,aB hn,hn,hn,Tok.cells];unfold eU at hF⊢;rw[bE]at hF⊢;generalize Da:aD T s=t at *;obtain⟨tk,tt,tn,tp⟩:=t;simp only at hF⊢;refine U (ix aK [114,101,102] K _ p s bS hs) ?_;unfold di;cases c0:aH T [114,101,102] s;rotate_left
 ·rw[aQ c0]at hF⊢
  have bx:=hs.aE hT (cB c0).2;rcases hq:dR T ty (aE s)with⟨⟨k1,n1,q1,l1⟩,s2⟩
  simp only[aN,hq,il]at hF⊢;simp only[go_sem,simprocAttr,aj hn,aA hn,ay hn,aB hn,hn,hn,c0];obtain⟨H1,kj,ah,dL,fJ,lP,_,cy,bZ⟩:=(hA p).use af.wf hq hn hp hb bx hF (by rw[Ao 5,List.map_cons,nK];omega);have cN:=fun A A'=>cy [] [] A A' (Env.nil _ _ _)
  obtain⟨v1,rfl⟩:=(cN [] []).Dg rfl;refine⟨_,gP hn _ _ _,?_⟩;simp only[go_sem,simprocAttr,aj hn,aA hn,ay hn,aB hn,hn,hn];refine aL _ _ (qU ah hn _ _ _) (gP ah _ _ _) (gp bZ _ fun _=>trivial) ?_;simp only[go_sem,simprocAttr,aj ah,aA ah,ay ah,aB ah,ah,ah,Nat.add_zero,Nat.add_assoc];exact⟨_,H1,_,_,rfl,rfl,dL,uY ((cN [] _).node1 (by rw[aj ah];rfl) (by omega) (by omega) (af.b9 _))⟩
 rw[aU c0]at hF⊢;simp only[go_sem,simprocAttr,aj hn,aA hn,ay hn,aB hn,hn,hn,c0];refine U (iY 3 K _ p s bS hs) ?_;cases c1:bp T 3 s
 ·rw[aU c1]at hF⊢
  simp only[go_sem,simprocAttr,aj hn,aA hn,ay hn,aB hn,hn,hn,c1];rcases hq:dR T ty s with⟨⟨k1,n1,q1,l1⟩,s2⟩
  rw[hq]at hF;obtain⟨H1,kj,ah,dL,fJ,lP,_,cy,bZ⟩:=(hA p).use af.wf hq hn hp hb hs hF (Nat.le_refl _);refine U (bZ _ trivial) ?_;have cN:=fun A A'=>cy [] [] A A' (Env.nil _ _ _)
  obtain⟨v1,rfl⟩:=(cN [] []).Dg rfl;simp only[go_sem,simprocAttr,aj ah,aA ah,ay ah,aB ah,ah,ah];exact⟨_,H1,_,n,rfl,rfl,dL,cN [] _⟩
 rw[aQ c1]at hF⊢;have bx:=hs.aE hT (show(aD T s).k≠8 by have:=(qR c1).2;rw[Da]at this⊢;omega);simp only[go_sem,simprocAttr,aj hn,aA hn,ay hn,aB hn,hn,hn,c1,mA bS,qq bS,jF,df];rcases hR:many (iT T) (dR T ty) T.length (aE s)with⟨Rl,Rs⟩
 simp only[aN,hR,il]at hF⊢;have p6:nR (Rl.map af.tv)<=nC (af.tv (.mk 1 tt tp Rl)):=by rw[Ao 1];exact Gr _
 generalize YD:nC (af.tv (.mk 1 tt tp Rl))=NN at hF p6
 refine⟨LG af,[0,1,4,6],fun x st=>(LO (cW T most) T e b n p K [0,2] 4 af.tv (iT T) (dR T ty) Rl Rs x/\x.A[0]?=some (.var [iV 0,sV [],iV 0,.p .nl])/\x.A[2]?=some (.var [iV 1,sV tt,iV tp,x.a])/\(x.acc=[]->x.a=.p .nl))/\
   st=⟨[(0,.ptr p 0),(1,iV d),(4,.ptr n 0),(6,.ptr (n+2) 0)],[],x.H.set p (cW T most x.s)++x.A⟩,fun x=>T.length-x.s.i,
  ⟨⟨T.length,aE s,[],[],.p .nl,K,[.var [iV 0,sV [],iV 0,.p .nl],.var [iV tk,sV tt,iV tn,iV tp],.var [iV 1,sV tt,iV tp,.p .nl]]⟩,?_⟩,?_⟩
 ·refine⟨⟨LO.start bx hR hn Kp.rfl hF p6 (by simp),rfl,rfl,fun _=>rfl⟩,?_⟩
  simp only[go_sem,simprocAttr,aj hn,aA hn,ay hn,aB hn,hn,hn]
 ·rintro x _ ⟨⟨hL,i0,i2,Dh⟩,rfl⟩
  have km:p<x.H.length:=by rw[hL.hn];omega
  have xo:iT T x.s=(bp T 5 x.s||bp T 3 x.s||aH T [40] x.s):=rfl;simp only[go_sem,simprocAttr,aj hL.hn,aA hL.hn,ay hL.hn,aB hL.hn,hL.hn,hL.hn];refine U (iY 5 x.H _ p x.s km hL.ok) ?_;cases t0:bp T 5 x.s;rotate_left
  ·have hg:iT T x.s=true:=by rw[xo];simp[t0]
   have cG:=Ap hT aK sP hL.ok.1 hg;have eA:=hL.ok.run sA;rcases fD:dR T ty x.s with⟨⟨k3,n3,q3,l3⟩,s3⟩
   rw[fD]at eA cG;simp only at eA;obtain⟨M,oV,hM⟩:=hL.room only_tySt hg (y:=.mk k3 n3 q3 l3) (s2:=s3) fD;obtain⟨H2,yT,bd,oC,oD,Aj,_,iB,call2⟩:=(hA p).use af.wf fD hL.hn hp hb hL.ok oV (by omega);have mw:=fun A'=>iB _ _ x.A A' hL.env
   obtain⟨v2,rfl⟩:=(mw []).Dg hL.env.len;simp only[go_sem,simprocAttr,aj hL.hn,aA hL.hn,ay hL.hn,aB hL.hn,hL.hn,hL.hn,t0];refine⟨_,gP hL.hn _ _ _,?_⟩;simp only[go_sem,simprocAttr,aj hL.hn,aA hL.hn,ay hL.hn,aB hL.hn,hL.hn,hL.hn,i2];refine aL _ _ (qU bd hL.hn _ _ _) (gP bd _ _ _) (gp call2 _ fun _=>trivial) ?_;simp only[go_sem,simprocAttr,aj bd,aA bd,ay bd,aB bd,bd,bd,fX,eZ,tm,p4,Nat.add_zero];refine⟨by intro r hr;simp at hr;subst hr;rfl,?_⟩;refine hL.app bd (fun k o h=>ag h _) aK (by decide) ?_;intro id ver A' m1 m2 m3;have j0:=(m3 0 (by decide)).trans i0;have j2:=(m3 2 (by decide)).trans i2;simp only[go_sem,simprocAttr,aj bd,aA bd,ay bd,aB bd,bd,bd,j2];exact⟨⟨x.j-1,s3,x.acc++[.mk k3 n3 q3 l3],x.rs++[[iV k3,sV n3,iV q3,v2]],.gs id ver 0 (x.rs.length+1),H2,A'.set 2 (.var [iV 1,sV tt,iV tp,.gs id ver 0 (x.rs.length+1)])⟩,⟨⟨hL.next only_tySt hg fD eA cG bd oC oD (by omega) (mw _) rfl m1 m2 (cD (by decide)) (by intro k hk;rw[List.length_set];simp at hk;rcases hk with rfl|rfl;exact aT j0;exact aT j2),aM j0 (by decide),aR j2,fun h=>by simp at h⟩,rfl⟩,by have h1:x.s.i<s3.i:=cG;have:=hL.ok.1;simp only;omega⟩
  simp only[go_sem,simprocAttr,aj hL.hn,aA hL.hn,ay hL.hn,aB hL.hn,hL.hn,hL.hn,t0];refine U (iY 3 x.H _ p x.s km hL.ok) ?_;cases t1:bp T 3 x.s;rotate_left
  ·have hg:iT T x.s=true:=by rw[xo];simp[t1]
   have cG:=Ap hT aK sP hL.ok.1 hg;have eA:=hL.ok.run sA;rcases fD:dR T ty x.s with⟨⟨k3,n3,q3,l3⟩,s3⟩
   rw[fD]at eA cG;simp only at eA;obtain⟨M,oV,hM⟩:=hL.room only_tySt hg (y:=.mk k3 n3 q3 l3) (s2:=s3) fD;obtain⟨H2,yT,bd,oC,oD,Aj,_,iB,call2⟩:=(hA p).use af.wf fD hL.hn hp hb hL.ok oV (by omega);have mw:=fun A'=>iB _ _ x.A A' hL.env
   obtain⟨v2,rfl⟩:=(mw []).Dg hL.env.len;simp only[go_sem,simprocAttr,aj hL.hn,aA hL.hn,ay hL.hn,aB hL.hn,hL.hn,hL.hn,t1];refine⟨_,gP hL.hn _ _ _,?_⟩;simp only[go_sem,simprocAttr,aj hL.hn,aA hL.hn,ay hL.hn,aB hL.hn,hL.hn,hL.hn,i2];refine aL _ _ (qU bd hL.hn _ _ _) (gP bd _ _ _) (gp call2 _ fun _=>trivial) ?_;simp only[go_sem,simprocAttr,aj bd,aA bd,ay bd,aB bd,bd,bd,fX,eZ,tm,p4,Nat.add_zero];refine⟨by intro r hr;simp at hr;subst hr;rfl,?_⟩;refine hL.app bd (fun k o h=>ag h _) aK (by decide) ?_;intro id ver A' m1 m2 m3;have j0:=(m3 0 (by decide)).trans i0;have j2:=(m3 2 (by decide)).trans i2;simp only[go_sem,simprocAttr,aj bd,aA bd,ay bd,aB bd,bd,bd,j2];exact⟨⟨x.j-1,s3,x.acc++[.mk k3 n3 q3 l3],x.rs++[[iV k3,sV n3,iV q3,v2]],.gs id ver 0 (x.rs.length+1),H2,A'.set 2 (.var [iV 1,sV tt,iV tp,.gs id ver 0 (x.rs.length+1)])⟩,⟨⟨hL.next only_tySt hg fD eA cG bd oC oD (by omega) (mw _) rfl m1 m2 (cD (by decide)) (by intro k hk;rw[List.length_set];simp at hk;rcases hk with rfl|rfl;exact aT j0;exact aT j2),aM j0 (by decide),aR j2,fun h=>by simp at h⟩,rfl⟩,by have h1:x.s.i<s3.i:=cG;have:=hL.ok.1;simp only;omega⟩
  simp only[go_sem,simprocAttr,aj hL.hn,aA hL.hn,ay hL.hn,aB hL.hn,hL.hn,hL.hn,t1];refine U (uT [40] x.H _ p x.s km hL.ok) ?_;cases t2:aH T [40] x.s;rotate_left
  ·have hg:iT T x.s=true:=by rw[xo];simp[t2]
   have cG:=Ap hT aK sP hL.ok.1 hg;have eA:=hL.ok.run sA;rcases fD:dR T ty x.s with⟨⟨k3,n3,q3,l3⟩,s3⟩
   rw[fD]at eA cG;simp only at eA;obtain⟨M,oV,hM⟩:=hL.room only_tySt hg (y:=.mk k3 n3 q3 l3) (s2:=s3) fD;obtain⟨H2,yT,bd,oC,oD,Aj,_,iB,call2⟩:=(hA p).use af.wf fD hL.hn hp hb hL.ok oV (by omega);have mw:=fun A'=>iB _ _ x.A A' hL.env
   obtain⟨v2,rfl⟩:=(mw []).Dg hL.env.len;simp only[go_sem,simprocAttr,aj hL.hn,aA hL.hn,ay hL.hn,aB hL.hn,hL.hn,hL.hn,t2];refine⟨_,gP hL.hn _ _ _,?_⟩;simp only[go_sem,simprocAttr,aj hL.hn,aA hL.hn,ay hL.hn,aB hL.hn,hL.hn,hL.hn,i2];refine aL _ _ (qU bd hL.hn _ _ _) (gP bd _ _ _) (gp call2 _ fun _=>trivial) ?_;simp only[go_sem,simprocAttr,aj bd,aA bd,ay bd,aB bd,bd,bd,fX,eZ,tm,p4,Nat.add_zero];refine⟨by intro r hr;simp at hr;subst hr;rfl,?_⟩;refine hL.app bd (fun k o h=>ag h _) aK (by decide) ?_;intro id ver A' m1 m2 m3;have j0:=(m3 0 (by decide)).trans i0;have j2:=(m3 2 (by decide)).trans i2;simp only[go_sem,simprocAttr,aj bd,aA bd,ay bd,aB bd,bd,bd,j2];exact⟨⟨x.j-1,s3,x.acc++[.mk k3 n3 q3 l3],x.rs++[[iV k3,sV n3,iV q3,v2]],.gs id ver 0 (x.rs.length+1),H2,A'.set 2 (.var [iV 1,sV tt,iV tp,.gs id ver 0 (x.rs.length+1)])⟩,⟨⟨hL.next only_tySt hg fD eA cG bd oC oD (by omega) (mw _) rfl m1 m2 (cD (by decide)) (by intro k hk;rw[List.length_set];simp at hk;rcases hk with rfl|rfl;exact aT j0;exact aT j2),aM j0 (by decide),aR j2,fun h=>by simp at h⟩,rfl⟩,by have h1:x.s.i<s3.i:=cG;have:=hL.ok.1;simp only;omega⟩
  have hg:iT T x.s=false:=by rw[xo];simp[t0,t1,t2]
  obtain⟨ha,hx⟩:=hL.stop hg;subst hx;have hz:∀o,(x.A.set 0 o)[0]?=some o:=fun o=>aR i0
  simp only[go_sem,simprocAttr,aj hL.hn,aA hL.hn,ay hL.hn,aB hL.hn,hL.hn,hL.hn,t2,i2,i0,hz];by_cases tC:Rl=[]
  ·subst tC
   have yS:x.a=.p .nl:=Dh ha;rw[yS];exact⟨_,x.H,_,0,rfl,rfl,hL.kp,yZ _ _ _ _ _ _⟩
  ·obtain⟨u,hE⟩:=hL.fin hp hb (by rw[ha];exact tC) af.b9 (c:=cW T most x.s) (cD (i:=0) (by decide) (o:=.var [iV 1,sV tt,iV tp,x.a]))
   rw[ha]at hE;exact⟨_,x.H,_,u,rfl,rfl,hL.kp,uY hE⟩
end
theorem Fb {b u n q:Nat} {X:List AO} {x y:af} {c1 c2:List AV} {ver:Nat} (h:Env b u X (x.tv++y.tv) (c1++c2)) (l1:c1.length=4) (l2:c2.length=4) (hi:X[n+q]?=some (.rows 4 ver [c1,c2])) (hu:u<=n+q) (hb:b<=n):Env b (n+q+1) X [.s 4 ([x,y].map af.tv)] [.gs (n+q) ver 0 2]:=
 Env.node (rows:=[x.tv,y.tv]) (rs:=[c1,c2]) (by simpa using h) hi (by omega) (by omega) rfl (by intro r hr;simp at hr;rcases hr with rfl|rfl<;>exact af.b9 _) (by intro r hr;simp at hr;rcases hr with rfl|rfl<;>assumption) (by simp)
theorem LO.agJ {α:Type} {pv:PS->AO} {T:List Tok} {e b n p sz:Nat} {K:List AO} {N:List Nat} {tv:α->List TV} {g:PS->Bool} {m:PM α} {Rl:List α} {Rs:PS} {x:LG α} (h:LO pv T e b n p K N sz tv g m Rl Rs x) (hp:p<b) (hb:b<=n) (h0:x.acc≠[]) (Uq:∀a,(tv a).length=sz) {c:AO} {B:List AO} (hk:∀(k:Nat) (o:AO),k∉N->x.A[k]?=some o->B[k]?=some o):Env b (n+x.A.length) (x.H.set p c++B) [.s sz (x.acc.map tv)] [x.a]:=by
 rcases h.own with⟨h1,h2⟩|⟨id,ver,e1,h1⟩
 ·have:=h.len;rw[h2]at this;exact(h0 (List.length_eq_zero_iff.1 this.symm)).elim
 ·obtain⟨q1,q2⟩:=h.ids _ _ _ _ e1
  obtain⟨q,rfl⟩:=Nat.le.dest q1;rw[Nat.add_sub_cancel_left]at q2;rw[aj h.hn]at h1;have hq:=aT h1;rw[e1];exact((h.env.base h.hn hp).node (by rw[aj h.hn];exact hk _ _ q2 h1) (by omega) (by omega) (by rw[h.len];simp) (by intro r hr;obtain⟨a,_,rfl⟩:=List.mem_map.1 hr;exact Uq a) h.sz1 (by simpa using h0)).up (by omega)
theorem Vb (a:af) (l:List af):nC a.tv+nR (l.map af.tv)<=nC (fk a l).tv:=by
 unfold fk;split
 ·rename_i h;subst h;simp[nR]
 ·rw[Ao,List.map_cons,nK];omega
section
variable {T:List Tok} {most e:Nat} (hT:bH T) (aK:T.length<=1073741825)
include hT aK
theorem agK {d:Nat} (hd:d<=1099511627776) {ty:PM af} (hP:d<=most->iz T most e 151 [iV (d+1:Nat)] ty af.tv) (sP:ab T ty):iz T most e 151 [iV d] (EI T T.length most ty d) af.tv:=by
 refine iq fun p K b n s hn hp hb hs hF=>?_
 have bS:p<K.length:=by omega
 have oz:wr .i64 ((d:Int)+1)=((d+1:Nat):Int):=cH _ (by omega);refine call151 (by simp) ?_;simp only[go_sem,simprocAttr,aj hn,aA hn,ay hn,aB hn,hn,hn,Lq,Uf];refine U (C8 d K _ p s bS hs) ?_;have bx:=Db (most:=most) (d:=d) hT aK hs;unfold EI jJ at hF⊢;cases hc:decide ((cM T most d s).c=0)
 ·rw[if_neg (of_decide_eq_false hc)]
  simp only[go_sem,simprocAttr,aj hn,aA hn,ay hn,aB hn,hn,hn,hc,Bool.not_false,Bool.not_true];exact⟨_,K,_,0,rfl,rfl,Kp.rfl,yZ _ _ _ _ _ _⟩
 have yq:=of_decide_eq_true hc;have hP:=hP (uU hT aK yq);have hA:=YX hT aK hd hP sP;have sA:=Pg.ik (N:=T.length) hT sP;rw[if_pos yq]at hF⊢;simp only[go_sem,simprocAttr,aj hn,aA hn,ay hn,aB hn,hn,hn,hc,Bool.not_false,Bool.not_true];generalize cM T most d s=s1 at *;rcases hq:eU T T.length ty s1 with⟨⟨k1,n1,q1,l1⟩,s2⟩
 have bt:=bx.run sA;rw[hq]at bt;simp only at bt;rcases hR:many (aH T [42]) (bM (eU T T.length ty)) T.length s2 with⟨Rl,Rs⟩
 simp only[aN,hq,hR]at hF⊢
 have hle:nC (fk (.mk k1 n1 q1 l1) Rl).tv<=nC (bg (aH T [45,62]) (fun s=>aO (.mk 3 [] (fk (.mk k1 n1 q1 l1) Rl).pos [fk (.mk k1 n1 q1 l1) Rl,(ty s).1]) (ty s).2) (aO (fk (.mk k1 n1 q1 l1) Rl)) Rs).1.tv:=by
  unfold bg;split
  ·show _<=nC (af.tv (.mk 3 _ _ _))
   rw[Ao,List.map_cons,nK];omega
  ·exact Nat.le_refl _
 have p6:=Vb (.mk k1 n1 q1 l1) Rl;have hFe:(bg (aH T [45,62]) (az ty fun b=>aO (.mk 3 [] (fk (.mk k1 n1 q1 l1) Rl).pos [fk (.mk k1 n1 q1 l1) Rl,b])) (aO (fk (.mk k1 n1 q1 l1) Rl)) Rs)=(bg (aH T [45,62]) (fun s=>aO (.mk 3 [] (fk (.mk k1 n1 q1 l1) Rl).pos [fk (.mk k1 n1 q1 l1) Rl,(ty s).1]) (ty s).2) (aO (fk (.mk k1 n1 q1 l1) Rl)) Rs):=rfl;rw[hFe]at hF⊢;generalize YY:bg (aH T [45,62]) (fun s=>aO (.mk 3 [] (fk (.mk k1 n1 q1 l1) Rl).pos [fk (.mk k1 n1 q1 l1) Rl,(ty s).1]) (ty s).2) (aO (fk (.mk k1 n1 q1 l1) Rl)) Rs=FF at hF hle⊢;obtain⟨H1,kj,ah,dL,fJ,lP,_,cy,bZ⟩:=(hA p).use af.wf hq hn hp hb bx hF (by omega);refine U (bZ _ trivial) ?_;have cN:=fun A A'=>cy [] [] A A' (Env.nil _ _ _)
 obtain⟨c1,rfl⟩:=(cN [] []).Dg rfl;simp only[go_sem,simprocAttr,aj ah,aA ah,ay ah,aB ah,ah,ah,Nat.add_zero];have YZ:fk (.mk k1 n1 q1 l1) Rl=(if Rl=[]then .mk k1 n1 q1 l1 else .mk 4 [] q1 (.mk k1 n1 q1 l1::Rl)):=rfl
 refine⟨LG af×Nat,[0,1,4,5],fun x st=>(LO (cW T most) T e b n p K [0] 4 af.tv (aH T [42]) (bM (eU T T.length ty)) (.mk k1 n1 q1 l1::Rl) Rs x.1/\x.1.A[0]?=some (.var [iV 0,sV [],iV 0,.p .nl])/\Fr b x.1.H x.2/\nR ((many (aH T [42]) (bM (eU T T.length ty)) x.1.j x.1.s).1.map af.tv)+(nC FF.1.tv-nC (fk (.mk k1 n1 q1 l1) Rl).tv)<=x.2)/\
   st=⟨[(0,.ptr p 0),(1,iV d),(4,.ptr n 0),(5,x.1.a)],[],x.1.H.set p (cW T most x.1.s)++x.1.A⟩,fun x=>T.length-x.1.s.i,
  ⟨(⟨T.length,s2,[.mk k1 n1 q1 l1],[[iV k1,sV n1,iV q1,c1]],.gs (n+1) 0 0 1,H1,[.var [iV 0,sV [],iV 0,.p .nl],.rows 4 0 [[iV k1,sV n1,iV q1,c1]]]⟩,nC FF.1.tv-nC (af.tv (.mk k1 n1 q1 l1))),?_⟩,?_⟩
 ·refine⟨⟨LO.nx bt hR ah dL fJ (by omega) (cN [] _) rfl rfl (by decide) (by simp),rfl,fJ,by simp only[hR];omega⟩,?_⟩
  simp only[go_sem,simprocAttr,aj ah,aA ah,ay ah,aB ah,ah,ah]
 ·rintro⟨x,M⟩ _ ⟨⟨hL,i0,oV,hM⟩,rfl⟩
  simp only at hL i0 oV hM⊢;have km:p<x.H.length:=by rw[hL.hn];omega
  simp only[go_sem,simprocAttr,aj hL.hn,aA hL.hn,ay hL.hn,aB hL.hn,hL.hn,hL.hn];refine U (ix aK [42] x.H _ p x.s km hL.ok) ?_;unfold di;cases hg:aH T [42] x.s
  ·obtain⟨ha,hx⟩:=hL.stop hg
   subst hx;rw[kC hg]at hM;simp only[List.map_nil,nR,Nat.zero_add]at hM;obtain⟨r0,rr,q,ver,ah8,r1,r2,r3,r4,r5,r6⟩:=hL.head af.b9 ha;obtain⟨v0,rfl⟩:=IZ r6;have r5':∀B,(x.A++B)[q]?=some (.rows 4 ver ([iV k1,sV n1,iV q1,v0]::rr)):=fun B=>ag r5 B
   have nj:∀B,(x.A++B)[0]?=some (.var [iV 0,sV [],iV 0,.p .nl]):=fun B=>ag i0 B
   have hz:∀B o,((x.A++B).set 0 o)[0]?=some o:=fun B o=>aR (nj B)
   have h0A:=aT i0;have d0:decide ((0:Int)<((rr.length+1:Nat):Int))=true:=by simp <;>omega
   simp only[go_sem,simprocAttr,aj hL.hn,aA hL.hn,ay hL.hn,aB hL.hn,hL.hn,hL.hn,hg];rw[r3];simp only[go_sem,simprocAttr,aj hL.hn,aA hL.hn,ay hL.hn,aB hL.hn,hL.hn,hL.hn,r5,r5',fX,eZ,tm,p4,Nat.add_zero,d0];refine⟨by omega,fun _=>?_⟩;by_cases tC:Rl=[]
   ·have Oi:rr=[]:=List.length_eq_zero_iff.1 (by rw[r2,tC];rfl)
    have d1:decide ((1:Int)<((rr.length+1:Nat):Int))=false:=by rw[Oi];rfl
    have Vc:∀c B,Env b (n+x.A.length) (x.H.set p c++(x.A++B)) (fk (.mk k1 n1 q1 l1) Rl).tv [iV k1,sV n1,iV q1,v0]:=fun c B=>by
     have hE:=hL.env;rw[ha,r1,Oi,tC]at hE;rw[YZ,if_pos tC];exact(Env.base (by simpa using hE) hL.hn hp).up (by omega)
    have wm:(fk (.mk k1 n1 q1 l1) Rl).pos=q1:=by rw[YZ,if_pos tC];rfl
    simp only[go_sem,simprocAttr,aj hL.hn,aA hL.hn,ay hL.hn,aB hL.hn,hL.hn,hL.hn,d1];refine U (ix aK [45,62] x.H _ p x.s km hL.ok) ?_;unfold di;cases kA:aH T [45,62] x.s
    ·have Ma:FF=(fk (.mk k1 n1 q1 l1) Rl,x.s):=by rw[<-YY,aU kA];rfl
     rw[Ma];simp only[go_sem,simprocAttr,aj hL.hn,aA hL.hn,ay hL.hn,aB hL.hn,hL.hn,hL.hn,kA,fX,eZ,tm,p4,nj,hz,Bool.not_true,Bool.not_false];exact⟨_,x.H,_,_,rfl,rfl,hL.kp,(Vc (cW T most x.s) _).q hL.hn hp fun i sz ver rs hi=>aM hi (by rintro rfl;rw[nj]at hi;cases hi)⟩
    ·have dB:=hL.ok.aE hT (cB kA).2
     rcases jS:ty (aE x.s)with⟨⟨k5,n5,q5,l5⟩,s5⟩
     have Ma:FF=(.mk 3 [] (fk (.mk k1 n1 q1 l1) Rl).pos [fk (.mk k1 n1 q1 l1) Rl,.mk k5 n5 q5 l5],s5):=by rw[<-YY,aQ kA];simp only[jS];rfl
     rw[Ma]at hM⊢;rw[wm]at hM⊢;simp only[Ao 3,List.map_cons,List.map_nil,nK,nR]at hM;obtain⟨H5,YI,cP,Gz,Py,YJ,yV,_,call5⟩:=(hP p).use af.wf jS hL.hn hp hb dB oV (by omega);have xz:=fun B=>yV (n+x.A.length) _ _ (x.A++B) (by omega) (Vc (cW T most (aE x.s)) B)
     obtain⟨c5,rfl⟩:=(xz []).Dg (by rw[af.b9];rfl);simp only[go_sem,simprocAttr,aj hL.hn,aA hL.hn,ay hL.hn,aB hL.hn,hL.hn,hL.hn,kA,oz,Bool.not_true,Bool.not_false];refine⟨_,gP hL.hn _ _ _,?_⟩;simp only[go_sem,simprocAttr,aj hL.hn,aA hL.hn,ay hL.hn,aB hL.hn,hL.hn,hL.hn,fX,eZ,tm,p4,oz];refine aL _ _ (qU cP hL.hn _ _ _) (gP cP _ _ _) (gp call5 _ fun _=>trivial) ?_;simp only[go_sem,simprocAttr,aj cP,aA cP,ay cP,aB cP,cP,cP,fX,eZ,tm,p4,nj,hz,Nat.add_zero];refine⟨_,H5,_,_,rfl,rfl,hL.kp.trans Gz,uY (Fb (n:=n) (q:=x.A.length+1) (c1:=[iV k1,sV n1,iV q1,v0]) (c2:=[iV k5,sV n5,iV q5,c5]) (u:=n+x.A.length) ((xz [.var [iV k1,sV n1,iV q1,v0],.rows 4 0 [[iV k1,sV n1,iV q1,v0],[iV k5,sV n5,iV q5,c5]]]).q cP hp fun i sz ver rs hi=>aM hi (by rintro rfl;rw[nj]at hi;cases hi)) rfl rfl ?_ (by omega) hb)⟩;rw[aj cP,List.getElem?_set_ne (by omega),eZ];rfl
   ·have d1:decide ((1:Int)<((rr.length+1:Nat):Int))=true:=by
     have:Rl.length≠0:=fun h=>tC (List.length_eq_zero_iff.1 h)
     simp;omega
    have Vc:∀c B,Env b (n+x.A.length) (x.H.set p c++(x.A++B)) (fk (.mk k1 n1 q1 l1) Rl).tv [iV 4,sV [],iV q1,.gs (n+q) ver 0 (rr.length+1)]:=fun c B=>by
     have hE:=hL.agJ hp hb (by rw[ha];simp) af.b9 (c:=c) (B:=x.A++B) (fun k o _ ho=>ag ho B);rw[ha,r3]at hE;rw[YZ,if_neg tC];exact uY hE
    have wm:(fk (.mk k1 n1 q1 l1) Rl).pos=q1:=by rw[YZ,if_neg tC];rfl
    simp only[go_sem,simprocAttr,aj hL.hn,aA hL.hn,ay hL.hn,aB hL.hn,hL.hn,hL.hn,d1,r5,r5',fX,eZ,tm,p4,Nat.add_zero,d0];refine⟨by omega,?_⟩;refine U (ix aK [45,62] x.H _ p x.s km hL.ok) ?_;unfold di;cases kA:aH T [45,62] x.s
    ·have Ma:FF=(fk (.mk k1 n1 q1 l1) Rl,x.s):=by rw[<-YY,aU kA];rfl
     rw[Ma];simp only[go_sem,simprocAttr,aj hL.hn,aA hL.hn,ay hL.hn,aB hL.hn,hL.hn,hL.hn,kA,fX,eZ,tm,p4,nj,hz,Bool.not_true,Bool.not_false];exact⟨_,x.H,_,_,rfl,rfl,hL.kp,(Vc (cW T most x.s) _).q hL.hn hp fun i sz ver rs hi=>aM hi (by rintro rfl;rw[nj]at hi;cases hi)⟩
    ·have dB:=hL.ok.aE hT (cB kA).2
     rcases jS:ty (aE x.s)with⟨⟨k5,n5,q5,l5⟩,s5⟩
     have Ma:FF=(.mk 3 [] (fk (.mk k1 n1 q1 l1) Rl).pos [fk (.mk k1 n1 q1 l1) Rl,.mk k5 n5 q5 l5],s5):=by rw[<-YY,aQ kA];simp only[jS];rfl
     rw[Ma]at hM⊢;rw[wm]at hM⊢;simp only[Ao 3,List.map_cons,List.map_nil,nK,nR]at hM;obtain⟨H5,YI,cP,Gz,Py,YJ,yV,_,call5⟩:=(hP p).use af.wf jS hL.hn hp hb dB oV (by omega);have xz:=fun B=>yV (n+x.A.length) _ _ (x.A++B) (by omega) (Vc (cW T most (aE x.s)) B)
     obtain⟨c5,rfl⟩:=(xz []).Dg (by rw[af.b9];rfl);simp only[go_sem,simprocAttr,aj hL.hn,aA hL.hn,ay hL.hn,aB hL.hn,hL.hn,hL.hn,kA,oz,Bool.not_true,Bool.not_false];refine⟨_,gP hL.hn _ _ _,?_⟩;simp only[go_sem,simprocAttr,aj hL.hn,aA hL.hn,ay hL.hn,aB hL.hn,hL.hn,hL.hn,fX,eZ,tm,p4,oz];refine aL _ _ (qU cP hL.hn _ _ _) (gP cP _ _ _) (gp call5 _ fun _=>trivial) ?_;simp only[go_sem,simprocAttr,aj cP,aA cP,ay cP,aB cP,cP,cP,fX,eZ,tm,p4,nj,hz,Nat.add_zero];refine⟨_,H5,_,_,rfl,rfl,hL.kp.trans Gz,uY (Fb (n:=n) (q:=x.A.length+1) (c1:=[iV 4,sV [],iV q1,.gs (n+q) ver 0 (rr.length+1)]) (c2:=[iV k5,sV n5,iV q5,c5]) (u:=n+x.A.length) ((xz [.var [iV 4,sV [],iV q1,.gs (n+q) ver 0 (rr.length+1)],.rows 4 0 [[iV 4,sV [],iV q1,.gs (n+q) ver 0 (rr.length+1)],[iV k5,sV n5,iV q5,c5]]]).q cP hp fun i sz ver rs hi=>aM hi (by rintro rfl;rw[nj]at hi;cases hi)) rfl rfl ?_ (by omega) hb)⟩;rw[aj cP,List.getElem?_set_ne (by omega),eZ];rfl
  ·obtain⟨j,hj⟩:=hL.succ (aw T _) hg
   have dB:=hL.ok.aE hT (cB hg).2;have eA:=dB.run sA;have cG:=(gR.aE hT sA hL.ok.1 (cB hg).2).1;rcases fD:eU T T.length ty (aE x.s)with⟨⟨k3,n3,q3,l3⟩,s3⟩
   rw[fD]at eA cG;simp only at eA;have zo:bM (eU T T.length ty) x.s=(.mk k3 n3 q3 l3,s3):=fD;rw[hj,many,if_pos hg,zo]at hM;simp only[List.map_cons,nR]at hM;obtain⟨H2,yT,bd,oC,oD,Aj,_,iB,call2⟩:=(hA p).use af.wf fD hL.hn hp hb dB oV (by omega);have mw:=fun A'=>iB _ _ x.A A' (hL.env.base hL.hn hp)
   obtain⟨c2,rfl⟩:=(mw []).Dg (hL.env.len);simp only[go_sem,simprocAttr,aj hL.hn,aA hL.hn,ay hL.hn,aB hL.hn,hL.hn,hL.hn,hg];refine U (call2 _ trivial) ?_;simp only[go_sem,simprocAttr,aj bd,aA bd,ay bd,aB bd,bd,bd,Gu bd,wz bd,Nat.add_zero];refine⟨by intro r hr;simp at hr;subst hr;rfl,?_⟩;refine hL.app bd (fun k o h=>ag h _) aK (by decide) ?_;intro id ver A' m1 m2 m3;have j0:=(m3 0 (by decide)).trans i0;simp only[go_sem,simprocAttr,aj bd,aA bd,ay bd,aB bd,bd,bd];have F8:x.j-1=j:=by omega
   exact⟨(⟨x.j-1,s3,x.acc++[.mk k3 n3 q3 l3],x.rs++[[iV k3,sV n3,iV q3,c2]],.gs id ver 0 (x.rs.length+1),H2,A'⟩,_),⟨⟨hL.next (aw T _) hg fD eA cG bd oC oD (by rw[F8];omega) (mw A') rfl m1 m2 (fun k o _ h=>h) (by intro k hk;simp at hk;subst hk;exact aT j0),j0,oD,by simp only[F8];omega⟩,rfl⟩,by have h1:x.s.i<s3.i:=cG;have:=hL.ok.1;simp only;omega⟩
theorem Vd:∀k d,d+k=most+2->most<=1099511627774->0<k->iz T most e 151 [iV d] (l9 T T.length most k d) af.tv
 |0,d,_,_,h=>absurd h (by omega)
 |k+1,d,h,hm,_=>agK hT aK (by omega) (fun hle=>Vd k (d+1) (by omega) hm (by omega)) (gA hT most k (d+1))
end
end Go.Proofs.YteilijfligofdaaGreatDoor.Qp
namespace Go.Proofs.YteilijfligofdaaGreatDoor.Pg
open Go.AM
def ai.tv (c:ai):List TV:=[.p (.s c.name),.p (.b c.has)]++c.arg.tv++[.p (.i .i64 c.pos)]
def mo (l:List (List UInt8)):List (List TV):=l.map fun s=>[.p (.s s)]
def ao.tv (d:ao):List TV:=[.p (.s d.name),.s 1 (mo d.vars),.s 7 (d.ctors.map ai.tv),.p (.i .i64 d.pos)]
def aI.tv (p:aI):List TV:=.s 4 (p.types.map ao.tv)::p.body.tv
theorem ai.b9 (t:ai):t.tv.length=7:=by simp[ai.tv,af.b9]
theorem ao.b9 (t:ao):t.tv.length=4:=rfl
theorem aI.b9 (t:aI):t.tv.length=8:=by simp[aI.tv,aa.b9]
theorem ai.wf (t:ai):mT t.tv:=by
 unfold ai.tv;exact yR (yR (mJ (mJ C7)) t.arg.wf) (mJ C7)
theorem y7 {α:Type} {sz:Nat} {f:α->List TV} (h1:∀a,(f a).length=sz) (h2:∀a,mT (f a)):∀l:List α,pZ sz (l.map f)
 |[]=>by rw[List.map_nil,pZ];trivial
 |a::l=>by rw[List.map_cons,pZ];exact⟨h1 a,h2 a,y7 h1 h2 l⟩
theorem ao.wf (t:ao):mT t.tv:=by
 unfold ao.tv;exact mJ (C6 (y7 (f:=fun s:List UInt8=>[TV.p (.s s)]) (fun _=>rfl) (fun _=>mJ C7) t.vars) (C6 (y7 ai.b9 ai.wf t.ctors) (mJ C7)))
theorem aI.wf (t:aI):mT t.tv:=by
 unfold aI.tv;exact C6 (y7 ao.b9 ao.wf t.types) t.body.wf
end Go.Proofs.YteilijfligofdaaGreatDoor.Pg
namespace Go.Proofs.YteilijfligofdaaGreatDoor.Qp
open Go.AM Mc Pg
theorem Env.mq {b u:Nat} {X:List AO} {ts:List TV} {cs:List AV} (h:Env b u X ts cs) (x:PV):Env b u X (ts++[.p x]) (cs++[.p x]):=by
 obtain⟨ids,k1,k2,k3,k4⟩:=h;refine⟨ids,?_,k2,by rw[k3,nz,nC,nC,nT];rfl,k4⟩;have:=vH k1 (bj.one (fq.pv X x));rwa[List.append_nil]at this
theorem Env.nlF {b u sz:Nat} {X:List AO} {ts:List TV} {cs:List AV} (h:Env b u X ts cs):Env b u X (.s sz []::ts) (.p .nl::cs):=by
 obtain⟨ids,k1,k2,k3,k4⟩:=h;exact⟨ids,bj.cons (fq.nl X sz) k1,k2,by rw[k3,nC,nT,nK,Nat.zero_add],k4⟩
theorem Env.adH {b u id sz ver:Nat} {X:List AO} {rows:List (List TV)} {rs:List (List AV)} {ts:List TV} {cs:List AV} (h:Env b u X (rows.flatten++ts) (rs.flatten++cs)) (hi:X[id]?=some (.rows sz ver rs)) (hu:u<=id) (hb:b<=id) (hl:rs.length=rows.length) (h1:∀r∈rows,r.length=sz) (h2:∀r∈rs,r.length=sz) (h0:rows≠[]):
  Env b (id+1) X (.s sz rows::ts) (.gs id ver 0 rs.length::cs):=by
 obtain⟨ids,k1,k2,k3,k4⟩:=h;obtain⟨c1,c2,i,j,e,rfl,h3,h4⟩:=iX k1;obtain⟨rfl,rfl⟩:=List.append_inj e (by rw[h3.len];exact ri hl h1 h2);refine⟨(id::i)++j,bj.cons ?_ h4,?_,?_,?_⟩
 ·rw[fq];exact .inr ⟨id,ver,rs,i,rfl,rfl,hi,pP h3 hl h1 h2⟩
 ·rw[List.cons_append];exact List.nodup_cons.2 ⟨fun hm=>by have:=(k4 id hm).2;omega,k2⟩
 ·rw[nz,uS]at k3
  simp only[List.length_append,List.length_cons]at k3⊢;rw[nC,nT]
  cases rows with
  |nil=>exact(h0 rfl).elim
  |cons r l=>rw[nK];rw[nR]at k3;omega
 ·intro x hx
  rw[List.cons_append]at hx;rcases List.mem_cons.1 hx with rfl|h
  ·exact⟨hb,by omega⟩
  ·have:=k4 x h;exact⟨this.1,by omega⟩
theorem AZ {b u:Nat} {X:List AO} {ts:List TV} {cs:List AV} (h:Env b u X ts cs):∀l:List (List UInt8),Env b u X ((mo l).flatten++ts) ((l.map fun s=>[sV s]).flatten++cs)
 |[]=>h
 |s::l=>(AZ h l).pc (.s s)
theorem Di {b n idn Y0 vn vc:Nat} {X:List AO} {vars:List (List UInt8)} {l:List ai} {rs:List (List AV)} {a:AV} {nm:List UInt8} {q:Int} (h:Env b n X (l.map ai.tv).flatten rs.flatten) (hc:X[Y0]?=some (.rows 7 vc rs)) (hic:n<=Y0) (hb:b<=n) (hl:rs.length=l.length) (hz:∀r∈rs,r.length=7) (h0:l≠[])
  (hv:(vars=[]/\a=.p .nl)\/(vars≠[]/\a=.gs idn vn 0 vars.length/\X[idn]?=some (.rows 1 vn (vars.map fun s=>[sV s]))/\n<=idn/\idn≠Y0)):
  ∃u,Env b u X (ao.tv ⟨nm,vars,l,q⟩) [sV nm,a,.gs Y0 vc 0 rs.length,iV q]:=by
 have fZ:∀r∈l.map ai.tv,r.length=7:=by intro r hr;obtain⟨c,_,rfl⟩:=List.mem_map.1 hr;exact ai.b9 c
 rcases hv with⟨rfl,rfl⟩|⟨cK,rfl,h1,h2,h3⟩
 ·have h2:=(h.node hc hic (by omega) (by simpa using hl) fZ hz (by simpa using h0)).nlF (sz:=1)
  exact⟨_,(h2.pc (.s nm)).mq (.i .i64 q)⟩
 ·have e0:(vars.map fun s=>[sV s]).length=vars.length:=by simp
  have h4:=Env.node2 (rows1:=mo vars) (rows2:=l.map ai.tv) (AZ h vars) h1 hc h2 hic hb h3 (by simp[mo]) (by intro r hr;unfold mo at hr;obtain⟨s,_,rfl⟩:=List.mem_map.1 hr;rfl) (by intro r hr;obtain⟨s,_,rfl⟩:=List.mem_map.1 hr;rfl) (by simpa[mo]using cK) (by simpa using hl) fZ hz (by simpa using h0);rw[e0]at h4;exact⟨_,(h4.pc (.s nm)).mq (.i .i64 q)⟩
theorem Ve (nm vars l q):nC (ao.tv ⟨nm,vars,l,q⟩)=nK (mo vars)+nK (l.map ai.tv):=by simp[ao.tv,nC,nT]
theorem Vf (nm h a q):nC (ai.tv ⟨nm,h,a,q⟩)=nC a.tv:=by
 unfold ai.tv;rw[nz,nz];simp[nC,nT]
structure LB {α:Type} (pv:PS->AO) (T:List Tok) (e b n p:Nat) (K:List AO) (N:List Nat) (sz:Nat) (tv:α->List TV) (x':List UInt8) (item:PM α) (Rl:List α) (Rs:PS) (x:LG α):Prop where
 ok:Ok T e x.s
 ln:x.acc.length<=x.s.i
 fu:T.length-x.s.i<=x.j
 rl:x.acc++((item x.s).1::(many (aH T x') (bM item) x.j (item x.s).2).1)=Rl
 re:(many (aH T x') (bM item) x.j (item x.s).2).2=Rs
 hn:x.H.length=n
 kp:Kp b K x.H
 fr:∃M,Fr b x.H M/\nC (tv (item x.s).1)+nR ((many (aH T x') (bM item) x.j (item x.s).2).1.map tv)<=M
 env:Env b n (x.H.set p (pv x.s)++x.A) (x.acc.map tv).flatten x.rs.flatten
 len:x.rs.length=x.acc.length
 sz1:∀r∈x.rs,r.length=sz
 own:iG (x.H.set p (pv x.s)++x.A) x.a sz x.rs
 ids:∀id v o m,x.a=.gs id v o m->n<=id/\id-n∉N
 nm:∀k∈N,k<x.A.length
section
variable {α:Type} {pv:PS->AO} {T:List Tok} {e b n p sz:Nat} {K:List AO} {N:List Nat} {tv:α->List TV} {x':List UInt8} {item:PM α} {Rl:List α} {Rs:PS}
theorem LB.start {H A:List AO} {s:PS} {M:Nat} (hs:Ok T e s) (h:((item s).1::(many (aH T x') (bM item) T.length (item s).2).1,(many (aH T x') (bM item) T.length (item s).2).2)=(Rl,Rs)) (hn:H.length=n) (hk:Kp b K H) (hF:Fr b H M) (hM:nR (Rl.map tv)<=M) (hb:∀k∈N,k<A.length):LB pv T e b n p K N sz tv x' item Rl Rs ⟨T.length,s,[],[],.p .nl,H,A⟩:=by
 have h1:=congrArg Prod.fst h;have h2:=congrArg Prod.snd h;simp only at h1 h2;refine⟨hs,Nat.zero_le _,by simp only;omega,h1,h2,hn,hk,⟨M,hF,?_⟩,Env.nil _ _ _,rfl,by simp,.inl ⟨rfl,rfl⟩,(fun _ _ _ _ e=>by cases e),hb⟩;rw[<-h1]at hM;simpa[nR]using hM
theorem LB.stop {x:LG α} (h:LB pv T e b n p K N sz tv x' item Rl Rs x) {y:α} {s2:PS} (hm:item x.s=(y,s2)) (hg:aH T x' s2=false):x.acc++[y]=Rl/\s2=Rs:=by
 have h1:=h.rl;have h2:=h.re;rw[hm]at h1 h2;rw[kC hg]at h1 h2;exact⟨h1,h2⟩
theorem LB.room {x:LG α} (h:LB pv T e b n p K N sz tv x' item Rl Rs x) {y:α} {s2:PS} (hm:item x.s=(y,s2)):∃M,Fr b x.H M/\nC (tv y)+nR ((many (aH T x') (bM item) x.j s2).1.map tv)<=M:=by
 obtain⟨M,h1,h2⟩:=h.fr;rw[hm]at h2;exact⟨M,h1,h2⟩
theorem LB.E4 {x:LG α} {s2:PS} {H1 A' A'':List AO} {id ver:Nat} {rs:List (List AV)} (ah:H1.length=n) (k1:(H1.set p (pv s2)++A')[id]?=some (.rows sz ver rs)) (k2:n<=id/\id-n∉N) (k3:∀(k:Nat) (o:AO),k∉N->A'[k]?=some o->A''[k]?=some o) (c:AO):(H1.set p c++A'')[id]?=some (.rows sz ver rs):=by
 obtain⟨q,hq⟩:=Nat.le.dest k2.1;subst hq;rw[aj ah]at k1⊢;exact k3 _ _ (by have:=k2.2;rwa[Nat.add_sub_cancel_left]at this) k1
theorem LB.next (hT:bH T) {x:LG α} (h:LB pv T e b n p K N sz tv x' item Rl Rs x) {y:α} {s2:PS} (hm:item x.s=(y,s2)) (bt:Ok T e s2) (ir:x.s.i<=s2.i) (hg:aH T x' s2=true) {H1 A' A'':List AO} {M id ver:Nat} {cs:List AV} (ah:H1.length=n) (dL:Kp b x.H H1) (fJ:Fr b H1 M) (hM:nR ((many (aH T x') (bM item) x.j s2).1.map tv)<=M)
  (cy:Env b n (H1.set p (pv (aE s2))++A'') ((x.acc.map tv).flatten++tv y) (x.rs.flatten++cs)) (gU:cs.length=sz)
  (k1:(H1.set p (pv s2)++A')[id]?=some (.rows sz ver (x.rs++[cs]))) (k2:n<=id/\id-n∉N) (k3:∀(k:Nat) (o:AO),k∉N->A'[k]?=some o->A''[k]?=some o) (k4:∀k∈N,k<A''.length):
  LB pv T e b n p K N sz tv x' item Rl Rs ⟨x.j-1,aE s2,x.acc++[y],x.rs++[cs],.gs id ver 0 (x.rs.length+1),H1,A''⟩:=by
 have hk:=cB hg;have hfu:=h.fu;have hix:=h.ok.1;obtain⟨j',hj⟩:∃j',x.j=j'+1:=⟨x.j-1,by omega⟩;have h1:=h.rl;have h2:=h.re;rw[hm]at h1 h2;simp only[hj,many,if_pos hg]at h1 h2 hM;have e1:∀s,bM item s=item (aE s):=fun _=>rfl
 simp only[e1]at h1 h2 hM;have C1:=h.ln;refine⟨bt.aE hT hk.2,by simp[aE];omega,by simp[aE];omega,by simp only[hj,Nat.add_sub_cancel];simpa using h1,by simp only[hj,Nat.add_sub_cancel];exact h2,ah,h.kp.trans dL,⟨M,fJ,by simp only[hj,Nat.add_sub_cancel];simpa[nR]using hM⟩,by simpa using cy,by simp[h.len],?_,.inr ⟨id,ver,by simp,LB.E4 (x:=x) ah k1 k2 k3 _⟩,(fun jC v o m' e=>by cases e;exact k2),k4⟩;intro r hr;rcases List.mem_append.1 hr with hr|hr
 ·exact h.sz1 r hr
 ·simp at hr;rw[hr];exact gU
end
end Go.Proofs.YteilijfligofdaaGreatDoor.Qp
namespace Go.Proofs.YteilijfligofdaaGreatDoor.Qp
open Go.AM Mc Pg
def Vg (s:List UInt8):List TV:=[.p (.s s)]
theorem Vh:∀l:List (List UInt8),nR (l.map Vg)=0
 |[]=>by simp[nR]
 |a::l=>by rw[List.map_cons,nR,Vh l];simp[Vg,nC,nT]
section
variable {T:List Tok} {most e:Nat} (hT:bH T) (aK:T.length<=1073741825)
include hT aK
theorem Y1 {ty:PM af} (hP:iz T most e 151 [iV 1] ty af.tv) (sP:ab T ty):iz T most e 108 [] (iK T T.length ty) ao.tv:=by
 have sC:=Pg.j8 hT sP;have h5:(5:Int)≠8:=by decide
 have o5:eI T (bp T 5):=cr T h5;refine iq fun p K b n s hn hp hb hs hF=>?_
 have bS:p<K.length:=by omega
 refine call108 (by simp) ?_;simp only[go_sem,simprocAttr,aj hn,aA hn,ay hn,aB hn,hn,hn,Lj,Ub];refine U (lK K _ p s bS hs) ?_;simp only[go_sem,simprocAttr,aj hn,aA hn,ay hn,aB hn,hn,hn,Tok.cells];unfold iK at hF⊢;rw[bE,cV]at hF⊢;generalize (aD T s).p=tp at *;refine U (iy hT aK [[116,121,112,101]] (by decide) bS hs (by omega) (fun c=>by rw[aj hn];rfl)) ?_;simp only[go_sem,simprocAttr,aj hn,aA hn,ay hn,aB hn,hn,hn,gh];have bx:=hs.step (aG hT [116,121,112,101]);generalize aS T [116,121,112,101] s=s1 at *;rcases hV:many (bp T 5) (cU T 5) T.length s1 with⟨vs,s2⟩
 have bt:=bx.run (ab.many o5 (ab.word hT h5) T.length);rw[hV]at bt;simp only at bt;rcases fD:cU T 3 s2 with⟨nm,s3⟩
 have eA:=bt.run (ab.word hT (k:=3) (by decide));rw[fD]at eA;simp only at eA;have og:=eA.step (aG hT [61]);rcases jS:fL T ty (aS T [61] s3)with⟨c0,s5⟩
 rcases hR:many (aH T [124]) (bM (fL T ty)) T.length s5 with⟨Rl,Rs⟩
 simp only[aN,cV,il,hV,fD,jS,hR]at hF⊢;have p6:nR ((c0::Rl).map ai.tv)<=nC (ao.tv ⟨nm,vs,c0::Rl,tp⟩):=by rw[Ve];have:=Gr ((c0::Rl).map ai.tv);omega
 generalize YD:nC (ao.tv ⟨nm,vs,c0::Rl,tp⟩)=NN at hF p6
 -- the variables
 refine⟨LG (List UInt8),[0,2,3],fun x st=>(LO (cW T most) T e b n p K [0,1] 1 Vg (bp T 5) (cU T 5) vs s2 x/\x.H=K/\x.rs=(x.acc.map fun s=>[sV s])/\x.A[0]?=some (.var [sV [],.p .nl,.p .nl,iV 0])/\x.A[1]?=some (.var [sV [],x.a,.p .nl,iV tp])/\(x.acc=[]->x.a=.p .nl))/\
   st=⟨[(0,.ptr p 0),(2,.ptr n 0),(3,.ptr (n+1) 0)],[],x.H.set p (cW T most x.s)++x.A⟩,fun x=>T.length-x.s.i,
  ⟨⟨T.length,s1,[],[],.p .nl,K,[.var [sV [],.p .nl,.p .nl,iV 0],.var [sV [],.p .nl,.p .nl,iV tp],.rows 1 0 [[sV [116,121,112,101]]]]⟩,?_⟩,?_⟩
 ·refine⟨⟨LO.start bx hV hn Kp.rfl hF (by rw[Vh];exact Nat.zero_le _) (by simp),rfl,rfl,rfl,rfl,fun _=>rfl⟩,?_⟩
  simp only[go_sem,simprocAttr,aj hn,aA hn,ay hn,aB hn,hn,hn]
 ·rintro⟨j,s',acc,rs,a,HH,A⟩ _ ⟨⟨hL,hHK,kK,i0,i1,Dh⟩,rfl⟩
  simp only at hHK kK i0 i1 Dh;subst hHK;have dO:=hL.ok;simp only at dO⊢;simp only[go_sem,simprocAttr,aj hn,aA hn,ay hn,aB hn,hn,hn];refine U (iY 5 HH _ p s' bS dO) ?_;cases hg:bp T 5 s';rotate_left
  ·have hsw:=dO.aE hT (show(aD T s').k≠8 by have:=(qR hg).2;omega)
   have hw:cU T 5 s'=((aD T s').t,aE s'):=by unfold cU;rw[if_pos hg]
   obtain⟨M,oV,hM⟩:=hL.room o5 hg hw;simp only[go_sem,simprocAttr,aj hn,aA hn,ay hn,aB hn,hn,hn,hg];refine⟨_,gP hn _ _ _,?_⟩;simp only[go_sem,simprocAttr,aj hn,aA hn,ay hn,aB hn,hn,hn,i1];refine aL _ _ (by simp) (gP hn _ _ _) ((xu aK 5).chain bS dO) ?_;rw[hw];simp only[go_sem,simprocAttr,aj hn,aA hn,ay hn,aB hn,hn,hn,fX,eZ,tm,p4,Nat.add_zero];refine⟨by intro r hr;simp at hr;subst hr;rfl,?_⟩;refine hL.app hn (fun k o h=>ag h _) aK (by decide) ?_;intro id ver A' m1 m2 m3;have j0:=(m3 0 (by decide)).trans i0;have j1:=(m3 1 (by decide)).trans i1;simp only[go_sem,simprocAttr,aj hn,aA hn,ay hn,aB hn,hn,hn,j1];exact⟨⟨j-1,aE s',acc++[(aD T s').t],rs++[[sV (aD T s').t]],.gs id ver 0 (rs.length+1),HH,A'.set 1 (.var [sV [],.gs id ver 0 (rs.length+1),.p .nl,iV tp])⟩,⟨⟨hL.next o5 hg hw hsw (by show s'.i<s'.i+1;omega) hn Kp.rfl oV (by have:=hM;omega) ((hL.env.base hn hp).mq _) rfl m1 m2 (cD (by decide)) (by intro k hk;rw[List.length_set];simp at hk;rcases hk with rfl|rfl;exact aT j0;exact aT j1),rfl,by rw[kK];simp,aM j0 (by decide),aR j1,fun h=>by simp at h⟩,rfl⟩,by have:=dO.1;show T.length-(s'.i+1)<T.length-s'.i;omega⟩
  ·obtain⟨ha,hx⟩:=hL.stop hg
   simp only at ha hx;subst hx;simp only[go_sem,simprocAttr,aj hn,aA hn,ay hn,aB hn,hn,hn,hg];refine U (xu aK 3 HH _ p s' bS dO) ?_;rw[fD];simp only[go_sem,simprocAttr,aj hn,aA hn,ay hn,aB hn,hn,hn,i1];refine U (iy hT aK [[61]] (by decide) bS eA (by omega) (fun c=>by rw[aj hn,NK];rfl)) ?_;simp only[go_sem,simprocAttr,aj hn,aA hn,ay hn,aB hn,hn,hn,gh]
   have I0:∃qn vn,qn<A.length/\(vs≠[]->qn∉[0,1]/\A[qn]?=some (.rows 1 vn (vs.map fun s=>[sV s])))/\((vs=[]/\a=.p .nl)\/(vs≠[]/\a=.gs (n+qn) vn 0 vs.length)):=by
    rcases Decidable.em (vs=[])with h0|h0
    ·exact⟨0,0,aT i0,fun h=>(h h0).elim,.inl ⟨h0,Dh (by rw[ha];exact h0)⟩⟩
    ·rcases hL.own with⟨h1,h2⟩|⟨id,ver,e1,h1⟩
     ·simp only at h2
      rw[kK,ha]at h2;exact(h0 (by simpa using h2)).elim
     ·simp only at e1 h1
      obtain⟨g1,g2⟩:=hL.ids _ _ _ _ e1;obtain⟨q,rfl⟩:=Nat.le.dest g1;rw[Nat.add_sub_cancel_left]at g2;rw[aj hn,kK,ha]at h1;rw[kK,ha,List.length_map]at e1;exact⟨q,ver,aT h1,fun _=>⟨g2,h1⟩,.inr ⟨h0,e1⟩⟩
   obtain⟨qn,vn,hql,hqa,PL⟩:=I0;have hq1:vs≠[]->qn∉[0,1]:=fun h=>(hqa h).1
   have nj:∀o B,((A.set 1 o)++B)[0]?=some (.var [sV [],.p .nl,.p .nl,iV 0]):=fun o B=>ag (aM i0 (by decide)) B
   have xw:∀o B,((A.set 1 o)++B)[1]?=some o:=fun o B=>ag (aR i1) B
   have Vi:∀o B,vs≠[]->((A.set 1 o)++B)[qn]?=some (.rows 1 vn (vs.map fun s=>[sV s])):=fun o B h=>ag (aM (hqa h).2 (by rintro rfl;exact hq1 h (by simp))) B
   refine⟨LG ai,[0,2,3],fun x st=>(LB (cW T most) T e b n p HH [0,1,qn] 7 ai.tv [124] (fL T ty) (c0::Rl) Rs x/\x.A[0]?=some (.var [sV [],.p .nl,.p .nl,iV 0])/\x.A[1]?=some (.var [sV nm,a,x.a,iV tp])/\(vs≠[]->x.A[qn]?=some (.rows 1 vn (vs.map fun s=>[sV s]))))/\
     st=⟨[(0,.ptr p 0),(2,.ptr n 0),(3,.ptr (n+1) 0)],[],x.H.set p (cW T most x.s)++x.A⟩,fun x=>T.length-x.s.i,
    ⟨⟨T.length,aS T [61] s3,[],[],.p .nl,HH,(A.set 1 (.var [sV nm,a,.p .nl,iV tp]))++[.rows 1 0 [[sV [61]]]]⟩,?_⟩,?_⟩
   ·exact⟨⟨LB.start og (by rw[jS,hR]) hn Kp.rfl hF p6 (by intro k hk;simp at hk⊢;have:=aT i1;rcases hk with rfl|rfl|rfl<;>omega),nj _ _,xw _ _,Vi _ _⟩,rfl⟩
   ·rintro x _ ⟨⟨hL,k0,k1,kq⟩,rfl⟩
    have km:p<x.H.length:=by rw[hL.hn];omega
    simp only[go_sem,simprocAttr,aj hL.hn,aA hL.hn,ay hL.hn,aB hL.hn,hL.hn,hL.hn];refine U (lK x.H _ p x.s km hL.ok) ?_;simp only[go_sem,simprocAttr,aj hL.hn,aA hL.hn,ay hL.hn,aB hL.hn,hL.hn,hL.hn,Tok.cells];refine U (xu aK 4 x.H _ p x.s km hL.ok) ?_;rcases hw:cU T 4 x.s with⟨cn,s6⟩
    have yP:=hL.ok.run (ab.word hT (k:=4) (by decide));rw[hw]at yP;simp only at yP;simp only[go_sem,simprocAttr,aj hL.hn,aA hL.hn,ay hL.hn,aB hL.hn,hL.hn,hL.hn];generalize Od:(aD T x.s).p=cp;refine U (ix aK [111,102] x.H _ p s6 km yP) ?_;unfold di;cases Dj:aH T [111,102] s6
    ·have hm:fL T ty x.s=(⟨cn,false,vS,cp⟩,s6):=by unfold fL;rw[bE,aN,hw,aU Dj,Od];rfl
     obtain⟨M,PC,hM⟩:=hL.room hm;obtain⟨H8,hH8⟩:∃H8,H8=x.H:=⟨_,rfl⟩;have cj:H8.length=n:=by rw[hH8];exact hL.hn
     have IS:Kp b x.H H8:=by rw[hH8];exact Kp.rfl
     have tD:=yP
     have DZ:∀A',Env b n (x.H.set p (cW T most s6)++A') ((x.acc.map ai.tv).flatten++ai.tv ⟨cn,false,vS,cp⟩) (x.rs.flatten++[sV cn,.p (.b false),iV 0,sV [],iV 0,.p .nl,iV cp]):=fun A'=>by
      have h1:=(((((((hL.env.base (c':=cW T most s6) (A':=A') hL.hn hp).mq (.s cn)).mq (.b false)).mq (.i .i64 0)).mq (.s [])).mq (.i .i64 0)).nl (sz:=4)).mq (.i .i64 cp);simpa[ai.tv,vS,af.tv,af.jT,List.append_assoc]using h1
     simp only[go_sem,simprocAttr,aj hL.hn,aA hL.hn,ay hL.hn,aB hL.hn,hL.hn,hL.hn,Dj];rw[<-hH8]at DZ PC⊢;generalize hss:s6=s8 at *;have IQ:x.s.i<=s8.i:=by have:=(sC x.s hL.ok.1).1;rw[hm]at this;exact this
     have IT:p<H8.length:=by omega
     simp only[go_sem,simprocAttr,aj cj,aA cj,ay cj,aB cj,cj,cj,fX,eZ,tm,p4,Nat.add_zero,ag k1 _];refine⟨by intro r hr;simp at hr;subst hr;rfl,?_⟩;refine LN hL.hn cj hL.own hL.ids hL.nm (by rw[hL.len];have:=hL.ln;have:=hL.ok.1;omega) (fun k o h=>ag h _) (by decide) ?_;intro id ver A' w1 w2 w3;have j0:=(w3 0 (by simp)).trans k0;have j1:=(w3 1 (by simp)).trans k1;have hz:∀o,(A'.set 1 o)[1]?=some o:=fun o=>aR j1
     have qT:∀o,(A'.set 1 o)[0]?=some (.var [sV [],.p .nl,.p .nl,iV 0]):=fun o=>aM j0 (by decide)
     have jq:vs≠[]->∀o,(A'.set 1 o)[qn]?=some (.rows 1 vn (vs.map fun s=>[sV s])):=fun h o=>aM ((w3 qn (by simp)).trans (kq h)) (by rintro rfl;exact hq1 h (by simp))
     simp only[go_sem,simprocAttr,aj cj,aA cj,ay cj,aB cj,cj,cj,j1];refine U (ix aK [124] H8 _ p s8 IT tD) ?_;unfold di;cases hg:aH T [124] s8
     ·obtain⟨Vj,xT⟩:=hL.stop hm hg
      subst xT;simp only[go_sem,simprocAttr,aj cj,aA cj,ay cj,aB cj,cj,cj,hg,Bool.not_true,Bool.not_false];refine U (iy hT aK [[59]] (by decide) IT tD (by omega) (fun c=>by rw[aj cj,NK];rfl)) ?_;have jR:∀o B,((A'.set 1 o)++B)[1]?=some o:=fun o B=>ag (hz o) B
      have xo:∀o B,((A'.set 1 o)++B)[0]?=some (.var [sV [],.p .nl,.p .nl,iV 0]):=fun o B=>ag (qT o) B
      have LS:∀o B o',(((A'.set 1 o)++B).set 0 o')[0]?=some o':=fun o B o'=>aR (xo o B)
      simp only[go_sem,simprocAttr,aj cj,aA cj,ay cj,aB cj,cj,cj,gh,jR,xo,LS]
      have Mb:=fun c=>LB.E4 (x:=x) (A'':=((A'.set 1 (.var [sV nm,a,.gs id ver 0 (x.rs.length+1),iV tp]))++[AO.rows 1 0 [[sV [59]]]]).set 0 (.var [sV nm,a,.gs id ver 0 (x.rs.length+1),iV tp])) cj w1 w2 (fun k o hk ho=>by
       simp at hk;rw[List.getElem?_set_ne (by omega)];exact ag (aM ho (by omega)) _) c
      have e9:(x.rs++[[sV cn,.p (.b false),iV 0,sV [],iV 0,.p .nl,iV cp]]).length=x.rs.length+1:=by simp
      obtain⟨u,oJ⟩:=Di (nm:=nm) (q:=tp) (idn:=n+qn) (vn:=vn) (a:=a) (vars:=vs) (l:=c0::Rl) (rs:=x.rs++[[sV cn,.p (.b false),iV 0,sV [],iV 0,.p .nl,iV cp]]) (by
       have:=Env.base (A':=((A'.set 1 (.var [sV nm,a,.gs id ver 0 (x.rs.length+1),iV tp]))++[AO.rows 1 0 [[sV [59]]]]).set 0 (.var [sV nm,a,.gs id ver 0 (x.rs.length+1),iV tp])) (c':=cW T most (aS T [59] s8)) (DZ []) cj hp;rw[<-Vj]
       simpa[List.append_assoc]using this) (Mb _) w2.1 hb (by rw[<-Vj];simp[hL.len]) (by intro r hr;rcases List.mem_append.1 hr with hr|hr;exact hL.sz1 r hr;simp at hr;subst hr;rfl) (by simp) (by
       rcases PL with⟨h1,h2⟩|⟨h1,h2⟩
       ·exact .inl ⟨h1,h2⟩
       ·refine .inr ⟨h1,h2,?_,Nat.le_add_right _ _,?_⟩
        ·rw[aj cj,List.getElem?_set_ne (by rintro h;exact hq1 h1 (by simp[<-h]))];exact ag (jq h1 _) _
        ·rintro rfl
         have:=w2.2;rw[Nat.add_sub_cancel_left]at this;exact this (by simp))
      rw[e9]at oJ;exact⟨_,H8,_,_,rfl,rfl,hL.kp.trans IS,oJ⟩
     ·simp only[go_sem,simprocAttr,aj cj,aA cj,ay cj,aB cj,cj,cj,hg,Bool.not_true,Bool.not_false]
      exact⟨⟨x.j-1,aE s8,x.acc++[⟨cn,false,vS,cp⟩],x.rs++[[sV cn,.p (.b false),iV 0,sV [],iV 0,.p .nl,iV cp]],.gs id ver 0 (x.rs.length+1),H8,A'.set 1 (.var [sV nm,a,.gs id ver 0 (x.rs.length+1),iV tp])⟩,
       ⟨⟨hL.next hT hm tD IQ hg cj IS PC (by omega) (by
        have:=Env.base (A':=A'.set 1 (.var [sV nm,a,.gs id ver 0 (x.rs.length+1),iV tp])) (c':=cW T most (aE s8)) (DZ []) cj hp
        exact this) rfl w1 w2 (cD (by simp)) (fun k hk=>by
         have h1:=hL.nm k hk;rw[List.length_set];exact aT ((w3 k hk).trans (List.getElem?_eq_getElem h1))),qT _,hz _,fun h=>jq h _⟩,rfl⟩,by have h1:=cB hg;have h2:=tD.1;have h3:=hL.ok.1;show T.length-(s8.i+1)<T.length-x.s.i;omega⟩
    ·have dB:=yP.aE hT (cB Dj).2
     rcases GB:ty (aE s6)with⟨⟨k7,n7,q7,l7⟩,s8⟩
     have tD:=dB.run sP;rw[GB]at tD;simp only at tD;have hm:fL T ty x.s=(⟨cn,true,.mk k7 n7 q7 l7,cp⟩,s8):=by unfold fL;rw[bE,aN,hw,aQ Dj,aN,GB,Od];rfl
     obtain⟨M,oV,hM⟩:=hL.room hm;rw[Vf]at hM;obtain⟨H8,cs8,cj,IS,PC,cl8,_,UF,call8⟩:=(hP p).use af.wf GB hL.hn hp hb dB oV (by omega);have PB:=fun A'=>UF _ _ [] A' (((hL.env.base (c':=cW T most (aE s6)) (A':=[]) hL.hn hp).mq (.s cn)).mq (.b true))
     obtain⟨c8,rfl⟩:=(PB []).Dg (by rw[((hL.env.mq (.s cn)).mq (.b true)).len])
     have DZ:∀A',Env b n (H8.set p (cW T most s8)++A') ((x.acc.map ai.tv).flatten++ai.tv ⟨cn,true,.mk k7 n7 q7 l7,cp⟩) (x.rs.flatten++[sV cn,.p (.b true),iV k7,sV n7,iV q7,c8,iV cp]):=fun A'=>by
      have h1:=(PB A').mq (.i .i64 cp);simpa[ai.tv,List.append_assoc]using h1
     simp only[go_sem,simprocAttr,aj hL.hn,aA hL.hn,ay hL.hn,aB hL.hn,hL.hn,hL.hn,Dj];refine U (call8 _ trivial) ?_;have IQ:x.s.i<=s8.i:=by have:=(sC x.s hL.ok.1).1;rw[hm]at this;exact this
     have IT:p<H8.length:=by omega
     simp only[go_sem,simprocAttr,aj cj,aA cj,ay cj,aB cj,cj,cj,fX,eZ,tm,p4,Nat.add_zero,ag k1 _];refine⟨by intro r hr;simp at hr;subst hr;rfl,?_⟩;refine LN hL.hn cj hL.own hL.ids hL.nm (by rw[hL.len];have:=hL.ln;have:=hL.ok.1;omega) (fun k o h=>ag h _) (by decide) ?_;intro id ver A' w1 w2 w3;have j0:=(w3 0 (by simp)).trans k0;have j1:=(w3 1 (by simp)).trans k1;have hz:∀o,(A'.set 1 o)[1]?=some o:=fun o=>aR j1
     have qT:∀o,(A'.set 1 o)[0]?=some (.var [sV [],.p .nl,.p .nl,iV 0]):=fun o=>aM j0 (by decide)
     have jq:vs≠[]->∀o,(A'.set 1 o)[qn]?=some (.rows 1 vn (vs.map fun s=>[sV s])):=fun h o=>aM ((w3 qn (by simp)).trans (kq h)) (by rintro rfl;exact hq1 h (by simp))
     simp only[go_sem,simprocAttr,aj cj,aA cj,ay cj,aB cj,cj,cj,j1];refine U (ix aK [124] H8 _ p s8 IT tD) ?_;unfold di;cases hg:aH T [124] s8
     ·obtain⟨Vj,xT⟩:=hL.stop hm hg
      subst xT;simp only[go_sem,simprocAttr,aj cj,aA cj,ay cj,aB cj,cj,cj,hg,Bool.not_true,Bool.not_false];refine U (iy hT aK [[59]] (by decide) IT tD (by omega) (fun c=>by rw[aj cj,NK];rfl)) ?_;have jR:∀o B,((A'.set 1 o)++B)[1]?=some o:=fun o B=>ag (hz o) B
      have xo:∀o B,((A'.set 1 o)++B)[0]?=some (.var [sV [],.p .nl,.p .nl,iV 0]):=fun o B=>ag (qT o) B
      have LS:∀o B o',(((A'.set 1 o)++B).set 0 o')[0]?=some o':=fun o B o'=>aR (xo o B)
      simp only[go_sem,simprocAttr,aj cj,aA cj,ay cj,aB cj,cj,cj,gh,jR,xo,LS]
      have Mb:=fun c=>LB.E4 (x:=x) (A'':=((A'.set 1 (.var [sV nm,a,.gs id ver 0 (x.rs.length+1),iV tp]))++[AO.rows 1 0 [[sV [59]]]]).set 0 (.var [sV nm,a,.gs id ver 0 (x.rs.length+1),iV tp])) cj w1 w2 (fun k o hk ho=>by
       simp at hk;rw[List.getElem?_set_ne (by omega)];exact ag (aM ho (by omega)) _) c
      have e9:(x.rs++[[sV cn,.p (.b true),iV k7,sV n7,iV q7,c8,iV cp]]).length=x.rs.length+1:=by simp
      obtain⟨u,oJ⟩:=Di (nm:=nm) (q:=tp) (idn:=n+qn) (vn:=vn) (a:=a) (vars:=vs) (l:=c0::Rl) (rs:=x.rs++[[sV cn,.p (.b true),iV k7,sV n7,iV q7,c8,iV cp]]) (by
       have:=Env.base (A':=((A'.set 1 (.var [sV nm,a,.gs id ver 0 (x.rs.length+1),iV tp]))++[AO.rows 1 0 [[sV [59]]]]).set 0 (.var [sV nm,a,.gs id ver 0 (x.rs.length+1),iV tp])) (c':=cW T most (aS T [59] s8)) (DZ []) cj hp;rw[<-Vj]
       simpa[List.append_assoc]using this) (Mb _) w2.1 hb (by rw[<-Vj];simp[hL.len]) (by intro r hr;rcases List.mem_append.1 hr with hr|hr;exact hL.sz1 r hr;simp at hr;subst hr;rfl) (by simp) (by
       rcases PL with⟨h1,h2⟩|⟨h1,h2⟩
       ·exact .inl ⟨h1,h2⟩
       ·refine .inr ⟨h1,h2,?_,Nat.le_add_right _ _,?_⟩
        ·rw[aj cj,List.getElem?_set_ne (by rintro h;exact hq1 h1 (by simp[<-h]))];exact ag (jq h1 _) _
        ·rintro rfl
         have:=w2.2;rw[Nat.add_sub_cancel_left]at this;exact this (by simp))
      rw[e9]at oJ;exact⟨_,H8,_,_,rfl,rfl,hL.kp.trans IS,oJ⟩
     ·simp only[go_sem,simprocAttr,aj cj,aA cj,ay cj,aB cj,cj,cj,hg,Bool.not_true,Bool.not_false]
      exact⟨⟨x.j-1,aE s8,x.acc++[⟨cn,true,.mk k7 n7 q7 l7,cp⟩],x.rs++[[sV cn,.p (.b true),iV k7,sV n7,iV q7,c8,iV cp]],.gs id ver 0 (x.rs.length+1),H8,A'.set 1 (.var [sV nm,a,.gs id ver 0 (x.rs.length+1),iV tp])⟩,
       ⟨⟨hL.next hT hm tD IQ hg cj IS PC (by omega) (by
        have:=Env.base (A':=A'.set 1 (.var [sV nm,a,.gs id ver 0 (x.rs.length+1),iV tp])) (c':=cW T most (aE s8)) (DZ []) cj hp
        exact this) rfl w1 w2 (cD (by simp)) (fun k hk=>by
         have h1:=hL.nm k hk;rw[List.length_set];exact aT ((w3 k hk).trans (List.getElem?_eq_getElem h1))),qT _,hz _,fun h=>jq h _⟩,rfl⟩,by have h1:=cB hg;have h2:=tD.1;have h3:=hL.ok.1;show T.length-(s8.i+1)<T.length-x.s.i;omega⟩
end
theorem Vk (ds:List ao) (ex:aa):nC (aI.tv ⟨ds,ex⟩)=nK (ds.map ao.tv)+nC ex.tv:=by simp[aI.tv,nC,nT]
section
variable {T:List Tok} {most e:Nat} (hT:bH T) (aK:T.length<=1073741825)
include hT aK
theorem I1 {ty:PM af} (kY:ab T ty) {s:PS} (hi:s.i<T.length) (hg:aH T [116,121,112,101] s=true):s.i<(iK T T.length ty s).2.i:=by
 unfold iK;rw[bE,cV];have ew:aS T [116,121,112,101] s=aE s:=by unfold aS;rw[if_pos hg]
 rw[ew];generalize (aD T s).p=tp;refine(gR.aE hT (f:=fun s'=>((az (many (bp T 5) (cU T 5) T.length) fun vs=>az (cU T 3) fun n=>cg (aS T [61])<|
 az (fL T ty) fun c=>az (many (aH T [124]) (bM (fL T ty)) T.length) fun cs=>cg (aS T [59])<|aO (ao.mk n vs (c::cs) tp)) s').2) ?_ hi (cB hg).2).1
 exact ab.bind (ab.many (cr T (by decide)) (ab.word hT (by decide)) _) fun _=>ab.bind (ab.word hT (by decide)) fun _=>ab.step (aG hT _)<|ab.bind (j8 hT kY) fun _=>ab.bind (ab.gj hT (aw T _) (j8 hT kY) _) fun _=>ab.step (aG hT _) (ab.ret _)
theorem NT {ty:PM af} {ex:PM aa} (hP:iz T most e 151 [iV 1] ty af.tv) (sP:ab T ty) (hX:iz T most e 30 [iV 1] ex aa.tv) (sX:ab T ex):iz T most e 48 [] (jh T T.length ty ex) aI.tv:=by
 have hD:=Y1 hT aK hP sP;have sD:=Pg.qi (N:=T.length) hT sP;have oT:eI T (aH T [116,121,112,101]):=aw T _;refine iq fun p K b n s hn hp hb hs hF=>?_
 have bS:p<K.length:=by omega
 refine call48 (by simp) ?_;simp only[go_sem,simprocAttr,aj hn,aA hn,ay hn,aB hn,hn,hn,TW,abl];unfold jh at hF⊢;rcases hV:many (aH T [116,121,112,101]) (iK T T.length ty) T.length s with⟨ds,s2⟩
 rcases jS:ex s2 with⟨⟨k5,n5,u5,t5,q5,l5,m5⟩,s5⟩
 simp only[aN,cV,il,hV,jS]at hF⊢;have p6:nR (ds.map ao.tv)+nC (aa.tv (.mk k5 n5 u5 t5 q5 l5 m5))<=nC (aI.tv ⟨ds,.mk k5 n5 u5 t5 q5 l5 m5⟩):=by rw[Vk];have:=Gr (ds.map ao.tv);omega
 generalize YD:nC (aI.tv ⟨ds,.mk k5 n5 u5 t5 q5 l5 m5⟩)=NN at hF p6
 refine⟨LG ao×Nat,[0,2,3],fun x st=>(LO (cW T most) T e b n p K [0,1] 4 ao.tv (aH T [116,121,112,101]) (iK T T.length ty) ds s2 x.1/\x.1.A[0]?=some (.var [.p .nl,iV 0,sV [],iV 0,sV [],iV 0,.p .nl,.p .nl])/\x.1.A[1]?=some (.var [x.1.a,iV 0,sV [],iV 0,sV [],iV 0,.p .nl,.p .nl])/\(x.1.acc=[]->x.1.a=.p .nl)/\Fr b x.1.H x.2/\nR ((many (aH T [116,121,112,101]) (iK T T.length ty) x.1.j x.1.s).1.map ao.tv)+nC (aa.tv (.mk k5 n5 u5 t5 q5 l5 m5))<=x.2)/\
   st=⟨[(0,.ptr p 0),(2,.ptr n 0),(3,.ptr (n+1) 0)],[],x.1.H.set p (cW T most x.1.s)++x.1.A⟩,fun x=>T.length-x.1.s.i,
  ⟨(⟨T.length,s,[],[],.p .nl,K,[.var [.p .nl,iV 0,sV [],iV 0,sV [],iV 0,.p .nl,.p .nl],.var [.p .nl,iV 0,sV [],iV 0,sV [],iV 0,.p .nl,.p .nl]]⟩,NN),?_⟩,?_⟩
 ·refine⟨⟨LO.start hs hV hn Kp.rfl hF (by omega) (by simp),rfl,rfl,fun _=>rfl,hF,by simp only[hV];omega⟩,?_⟩
  simp only[go_sem,simprocAttr,aj hn,aA hn,ay hn,aB hn,hn,hn]
 ·rintro⟨x,M⟩ _ ⟨⟨hL,i0,i1,Dh,oV,hM⟩,rfl⟩
  simp only at hL i0 i1 Dh oV hM⊢;have km:p<x.H.length:=by rw[hL.hn];omega
  simp only[go_sem,simprocAttr,aj hL.hn,aA hL.hn,ay hL.hn,aB hL.hn,hL.hn,hL.hn];refine U (uT [116,121,112,101] x.H _ p x.s km hL.ok) ?_;cases hg:aH T [116,121,112,101] x.s
  ·obtain⟨ha,hx⟩:=hL.stop hg
   subst hx;rw[kC hg]at hM;simp only[List.map_nil,nR,Nat.zero_add]at hM;simp only[go_sem,simprocAttr,aj hL.hn,aA hL.hn,ay hL.hn,aB hL.hn,hL.hn,hL.hn,hg];obtain⟨H5,YI,cP,Gz,Py,YJ,_,yV,call5⟩:=(hX p).use aa.wf jS hL.hn hp hb hL.ok oV hM;have xz:=fun A'=>yV _ _ x.A A' hL.env
   obtain⟨c5,b5,rfl⟩:=(xz []).fK hL.env.len;refine U (call5 _ trivial) ?_;have hp5:p<H5.length:=by omega
   have lO:=hL.ok.run sX;rw[jS]at lO;simp only at lO;simp only[go_sem,simprocAttr,aj cP,aA cP,ay cP,aB cP,cP,cP,i1];refine U (agB H5 _ p s5 hp5 lO) ?_;have hz:∀o,(x.A.set 1 o)[1]?=some o:=fun o=>aR i1
   have qT:∀o,(x.A.set 1 o)[0]?=some (.var [.p .nl,iV 0,sV [],iV 0,sV [],iV 0,.p .nl,.p .nl]):=fun o=>aM i0 (by decide)
   have sc:∀o o',((x.A.set 1 o).set 0 o')[0]?=some o':=fun o o'=>aR (qT o)
   simp only[go_sem,simprocAttr,aj cP,aA cP,ay cP,aB cP,cP,cP,hz,qT,sc]
   have oJ:∃u,Env b u (H5.set p (cW T most (iU T s5))++(x.A.set 1 (.var [x.a,iV k5,sV n5,iV u5,sV t5,iV q5,c5,b5])).set 0 (.var [x.a,iV k5,sV n5,iV u5,sV t5,iV q5,c5,b5])) (aI.tv ⟨ds,.mk k5 n5 u5 t5 q5 l5 m5⟩) [x.a,iV k5,sV n5,iV u5,sV t5,iV q5,c5,b5]:=by
    by_cases h0:ds=[]
    ·have hE:=(xz []).base (c':=cW T most (iU T s5)) (A':=(x.A.set 1 (.var [x.a,iV k5,sV n5,iV u5,sV t5,iV q5,c5,b5])).set 0 (.var [x.a,iV k5,sV n5,iV u5,sV t5,iV q5,c5,b5])) cP hp
     have hl:=hL.len;rw[ha,h0]at hl;rw[ha,h0,List.length_eq_zero_iff.1 hl]at hE;subst h0;rw[Dh ha]at hE⊢;exact⟨_,Env.nlF (by simpa using hE)⟩
    ·rcases hL.own with⟨h1,h2⟩|⟨id,ver,e1,h1⟩
     ·have hl:=hL.len;rw[h2,ha]at hl;exact(h0 (List.length_eq_zero_iff.1 hl.symm)).elim
     ·obtain⟨g1,g2⟩:=hL.ids _ _ _ _ e1
      obtain⟨q,rfl⟩:=Nat.le.dest g1;rw[Nat.add_sub_cancel_left]at g2;rw[aj hL.hn]at h1;have hE:=(xz []).base (c':=cW T most (iU T s5)) (A':=(x.A.set 1 (.var [x.a,iV k5,sV n5,iV u5,sV t5,iV q5,c5,b5])).set 0 (.var [x.a,iV k5,sV n5,iV u5,sV t5,iV q5,c5,b5])) cP hp;rw[ha]at hE;have yr:=hL.len;rw[ha]at yr;simp at g2;rw[e1]at hE⊢;exact⟨_,Env.adH hE (by rw[aj cP,List.getElem?_set_ne (by omega),List.getElem?_set_ne (by omega)];exact h1) (by omega) (by omega) (by simpa using yr) (by intro r hr;obtain⟨d,_,rfl⟩:=List.mem_map.1 hr;exact ao.b9 d) hL.sz1 (by simpa using h0)⟩
   obtain⟨u,oJ⟩:=oJ;exact⟨_,H5,_,u,rfl,rfl,hL.kp.trans Gz,oJ⟩
  ·obtain⟨j,hj⟩:=hL.succ oT hg
   have eA:=hL.ok.run sD;have cG:=I1 hT aK sP hL.ok.1 hg;rcases fD:iK T T.length ty x.s with⟨⟨dn,dv,dc,dq⟩,s3⟩
   rw[fD]at eA cG;simp only at eA;rw[hj,many,if_pos hg,fD]at hM;simp only[List.map_cons,nR]at hM;obtain⟨H2,yT,bd,oC,oD,Aj,_,iB,call2⟩:=(hD p).use ao.wf fD hL.hn hp hb hL.ok oV (by omega);have mw:=fun A'=>iB _ _ x.A A' hL.env
   have Q3:yT.length=4:=Aj;obtain⟨e0,e1,e2,e3,rfl⟩:=agC Q3;simp only[go_sem,simprocAttr,aj hL.hn,aA hL.hn,ay hL.hn,aB hL.hn,hL.hn,hL.hn,hg];refine⟨_,gP hL.hn _ _ _,?_⟩;simp only[go_sem,simprocAttr,aj hL.hn,aA hL.hn,ay hL.hn,aB hL.hn,hL.hn,hL.hn,i1];refine aL _ _ (qU bd hL.hn _ _ _) (gP bd _ _ _) (gp call2 _ fun _=>trivial) ?_;simp only[go_sem,simprocAttr,aj bd,aA bd,ay bd,aB bd,bd,bd,fX,eZ,tm,p4,Nat.add_zero];refine⟨by intro r hr;simp at hr;subst hr;rfl,?_⟩;refine hL.app bd (fun k o h=>ag h _) aK (by decide) ?_;intro id ver A' m1 m2 m3;have j0:=(m3 0 (by decide)).trans i0;have j1:=(m3 1 (by decide)).trans i1;simp only[go_sem,simprocAttr,aj bd,aA bd,ay bd,aB bd,bd,bd,j1];have F8:x.j-1=j:=by omega
   exact⟨(⟨x.j-1,s3,x.acc++[⟨dn,dv,dc,dq⟩],x.rs++[[e0,e1,e2,e3]],.gs id ver 0 (x.rs.length+1),H2,A'.set 1 (.var [.gs id ver 0 (x.rs.length+1),iV 0,sV [],iV 0,sV [],iV 0,.p .nl,.p .nl])⟩,_),⟨⟨hL.next oT hg fD eA cG bd oC oD (by rw[F8];omega) (mw _) rfl m1 m2 (cD (by decide)) (by intro k hk;rw[List.length_set];simp at hk;rcases hk with rfl|rfl;exact aT j0;exact aT j1),aM j0 (by decide),aR j1,fun h=>by simp at h,oD,by simp only[F8];omega⟩,rfl⟩,by have h1:x.s.i<s3.i:=cG;have:=hL.ok.1;simp only;omega⟩
end
end Go.Proofs.YteilijfligofdaaGreatDoor.Qp