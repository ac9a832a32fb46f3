/- Texts QfZ QjH QkC QkF, merged. -/
import Derived.Test.YtjkbbnfdbfcebaaGreatDoorKAG
set_option linter.all false
namespace Go.Proofs.YtjkbbnfdbfcebaaGreatDoor.Qp
open Go.AM Go.Shelf Mc Pg
theorem IL (l:List ah) (x:Nat):(bF [32,124,32] ((l.take x).map ah.form)).length≤100*eG l:=by
  have h:∀(l:List ah) (x:Nat),eG (l.take x)≤eG l:=by
    intro l
    induction l with
    |nil=>intro x;simp
    |cons a l ih=>
     intro x
     cases x with
     |zero=>simp[eG]
     |succ x=>have :=ih x;rw[List.take_succ_cons,eG,eG];omega
  have h1:=sy (l.take x);have h2:=h l x;omega
theorem Wk {g:bb} (hg:g.sz<=1073741824) (hf:g.body.fit) (H:List AO):aA Tryz.prog 11 [br g.cells] H (aW (.p (.s g.print)) H):=by
 obtain⟨ds,b⟩:=g;have z6:=OG ⟨ds,b⟩ hg;simp only[bb.sz]at hg;simp only at hf;refine aD ?_ (bw _);refine call11 (by simp) ?_;unfold bb.print;cases b9:bb.okB ⟨ds,b⟩
 ·rw[b9]at z6
  obtain⟨k,n,u,t,p,ks,aM⟩:=b;simp only[bb.cells,aa.cells,br,List.map_cons,List.map_nil]at z6;simp only[go_sem,simprocAttr,M4,U0,bb.cells,aa.cells,br];refine U (z6 _) ?_;simp only[go_sem,simprocAttr];exact⟨_,rfl⟩
 rw[b9]at z6;simp only[bb.okB,Bool.and_eq_true,List.all_eq_true]at b9;have h2:=ZK b (by omega) b9.1 hf 0;have l1:=pN ds;have l2:=aa.jj b hf;have l3:=(cK b.kf 0).1;have e:bb.form ⟨ds,b⟩=(ds.map ai.form).flatten++(b.kf.at 0++[10]):=rfl;rw[e];clear e;have Ck:∀d∈ds,d.sz<=1073741824/\d.okB=true:=fun d hd=>⟨by have:=ma hd;omega,b9.2 d hd⟩
 clear b9;generalize b.kf.at 0=s2 at *;have mE:s2.length<=200000000000:=by omega
 clear l2 l3;obtain⟨k,n,u,t,p,ks,aM⟩:=b;simp only[bb.cells,aa.cells,br,List.map_cons,List.map_nil]at z6 h2;simp only[go_sem,simprocAttr,M4,U0,bb.cells,aa.cells,br];refine U (z6 _) ?_;simp only[go_sem,simprocAttr];have hB:=Bh.nil H (.var [.p (.l (ds.map ai.cells)),.p (.i .i64 k),.p (.s n),.p (.i .i64 u),.p (.s t),.p (.i .i64 p),.p (.l (aa.aV ks)),.p (.l (aa.bR aM))]);generalize hV:AO.var [.p (.l (ds.map ai.cells)),.p (.i .i64 k),.p (.s n),.p (.i .i64 u),.p (.s t),.p (.i .i64 p),.p (.l (aa.aV ks)),.p (.l (aa.bR aM))]=V at hB;generalize H++[V]=X at hB;refine⟨Nat×List AO,[1,2,3,4],fun x st=>(x.1<=ds.length/\Bh H V x.2)/\st=⟨[(1,.ptr H.length 0),(2,.p (.s [])),(3,.p (.s ((ds.take x.1).map ai.form).flatten)),(4,.p (.i .i64 x.1))],[],x.2⟩,fun x=>ds.length-x.1,⟨(0,X),?_⟩,?_⟩
 ·simp only[go_sem,simprocAttr]
  exact⟨⟨Nat.zero_le _,hB⟩,rfl⟩
 rintro⟨x,Y⟩ _ ⟨⟨hx,hY⟩,rfl⟩;simp only at hx hY;have jH:=hY.UW;rw[<-hV]at jH;have b1:=pM ai.form ds x;by_cases aj:x<ds.length
 ·have d1:decide ((x:Int)<(ds.length:Int))=true:=by simp;omega
  have bC:(x:Int)<(ds.length:Int):=by omega
  have hg:(ds.map ai.cells)[x]?=some (ai.cells ds[x]):=by simp[aj]
  have hc:=Ck ds[x] (List.getElem_mem aj);have hj:=yD ai.form aj;generalize ((ds.take x).map ai.form).flatten=S0 at b1 hj⊢;generalize ds[x]=d at hg hc hj;obtain⟨dn,dv,dc,dp⟩:=d;simp only[ai.sz,ai.okB,Bool.and_eq_true]at hc;obtain⟨hc,_,_,_,_,gQ⟩:=hc;rw[List.all_eq_true]at gQ;have eF:ai.form ⟨dn,dv,dc,dp⟩=[116,121,112,101,32]++((dv.map mB).flatten++(dn++([32,61,32]++(bF [32,124,32] (dc.map ah.form)++[59,10])))):=rfl;rw[eF]at hj;simp only[ai.cells]at hg;simp only[go_sem,simprocAttr,d1,bC,hg,jH,List.length_map];intro hl;rw[aC]at hl;have DE:=hY.ext [.var [.p (.s dn),.p (.l (cg dv)),.p (.l (dc.map ah.cells)),.p (.i .i64 dp)]];have HZ:=(Bh.nil Y (.var [.p (.s dn),.p (.l (cg dv)),.p (.l (dc.map ah.cells)),.p (.i .i64 dp)])).at;have Vl:=fun A=>DE.ext A
  have kH:=HZ [];rw[List.append_nil]at kH;generalize hY2:Y++[AO.var [.p (.s dn),.p (.l (cg dv)),.p (.l (dc.map ah.cells)),.p (.i .i64 dp)]]=Y2 at DE HZ Vl kH;have q1:=vt dv;have qn:=xl dv;have qc:=xm dc
  repeat' first
   |(with_reducible refine ag _ (fun h=>?_) (fun h=>?_)<;>simp only[go_sem,simprocAttr,h,List.length_map])
   |(refine ao ?_;simp only[go_sem,simprocAttr,List.length_map])
   |(refine And.intro (by(try simp only[aC,LL]);omega) ?_;try simp only[go_sem,simprocAttr,List.length_map])
   |(intro _)
  refine⟨Nat,[1,2,3,4,5,6],fun z st=>z<=dv.length/\st=⟨[(1,.ptr H.length 0),(2,.p (.s [])),(3,.p (.s (S0++([116,121,112,101,32]++((dv.take z).map mB).flatten)))),(4,.p (.i .i64 x)),(5,.ptr Y.length 0),(6,.p (.i .i64 z))],[],Y2⟩,fun z=>dv.length-z,⟨0,?_⟩,?_⟩
  ·simp only[go_sem,simprocAttr]
   exact⟨Nat.zero_le _,by simp⟩
  rintro z _ ⟨hx5,rfl⟩;have q2:=pM mB dv z;have AZ:(cg dv).length=dv.length:=by simp[cg]
  by_cases C4:z<dv.length
  ·have d5:decide ((z:Int)<(dv.length:Int))=true:=by simp;omega
   have zW:(z:Int)<(dv.length:Int):=by omega
   have Dy:(cg dv)[z]?=some [.s dv[z]]:=by simp[cg,C4]
   have KV:dv[z].length<=1073741824:=by have:=sv (List.getElem_mem C4);omega
   have hj5:=yD mB C4;generalize ((dv.take z).map mB).flatten=S1 at q2 hj5⊢;generalize dv[z]=w at Dy KV hj5;simp only[go_sem,simprocAttr,d5,zW,Dy,kH,AZ]
   repeat' first
    |(with_reducible refine ag _ (fun h=>?_) (fun h=>?_)<;>simp only[go_sem,simprocAttr,h,zW,Dy,kH,AZ,bp z (by omega)])
    |(refine ao ?_;simp only[go_sem,simprocAttr,zW,Dy,kH,AZ,bp z (by omega)])
    |(refine And.intro (by(try simp only[aC,LL]);omega) ?_;try simp only[go_sem,simprocAttr,zW,Dy,kH,AZ,bp z (by omega)])
    |(intro _)
   all_goals exact⟨z+1,⟨by omega,by rw[hj5,mB]<;>simp[bp z (by omega)]⟩,by omega⟩
  have d5:decide ((z:Int)<(dv.length:Int))=false:=by simp;omega
  rw[List.take_of_length_le (by omega)]at q2⊢;generalize (dv.map mB).flatten=S1 at q1 q2 hj⊢;simp only[go_sem,simprocAttr,d5,kH,AZ]
  repeat' first
   |(with_reducible refine ag _ (fun h=>?_) (fun h=>?_)<;>simp only[go_sem,simprocAttr,h,kH,AZ])
   |(refine ao ?_;simp only[go_sem,simprocAttr,kH,AZ])
   |(refine And.intro (by(try simp only[aC,LL]);omega) ?_;try simp only[go_sem,simprocAttr,kH,AZ])
   |(intro _)
  refine⟨Nat,[1,2,3,4,5,7],fun z st=>z<=dc.length/\st=⟨[(1,.ptr H.length 0),(2,.p (.s [])),(3,.p (.s (S0++([116,121,112,101,32]++(S1++(dn++([32,61,32]++bF [32,124,32] ((dc.take z).map ah.form)))))))),(4,.p (.i .i64 x)),(5,.ptr Y.length 0),(7,.p (.i .i64 z))],[],Y2⟩,fun z=>dc.length-z,⟨0,?_⟩,?_⟩
  ·simp only[go_sem,simprocAttr]
   exact⟨Nat.zero_le _,by simp[bF]⟩
  rintro y _ ⟨hy,rfl⟩;have q3:=IL dc y;by_cases AG:y<dc.length
  ·have d7:decide ((y:Int)<(dc.length:Int))=true:=by simp;omega
   have jI:(y:Int)<(dc.length:Int):=by omega
   have pX:(dc.map ah.cells)[y]?=some (ah.cells dc[y]):=by simp[AG]
   have Vm:dc[y].sz<=1073741824:=by have:=sw (List.getElem_mem AG);omega
   have ho7:=gQ dc[y] (List.getElem_mem AG);have DH:=qv [32,124,32] ah.form AG;have sF:y=0->bF [32,124,32] ((dc.take y).map ah.form)=[]:=by rintro rfl;rfl
   generalize bF [32,124,32] ((dc.take y).map ah.form)=S2 at q3 DH sF⊢;generalize dc[y]=w at pX Vm ho7 DH;obtain⟨cn,ch,ca,cp⟩:=w;simp only[ah.sz]at Vm;simp only[ah.okB,Bool.and_eq_true]at ho7;simp only[ah.form]at DH;have q4:=af.jj ca;have q5:=(cK ca.kf 0).1;have t1:ch=true->IJ ca:=fun h=>ag7 ca (by omega) (by have:=ho7.2.2;rwa[if_pos h]at this)
   generalize kR:ca.kf.at 0=s5 at DH q5;have t1:ch=true->∀H,aA Tryz.prog 27 [br ca.cells,.p (.i .i64 0)] H (aW (.p (.s s5)) H):=fun h H=>by rw[<-kR];exact t1 h 0 H
   clear kR;have hb5:s5.length<=200000000000:=by omega
   clear q4 q5;obtain⟨ak,an,ap,wV⟩:=ca;simp only[ah.cells,af.cells,br,List.map_cons,List.map_nil,List.cons_append,List.nil_append]at pX t1;by_cases ND:y=0
   ·rw[if_pos ND]at DH
    have sF:=sF ND;subst sF;have d0:decide ((0:Int)<(y:Int))=false:=by simp;omega
    simp only[go_sem,simprocAttr,d7,d0,jI,pX,kH,List.length_map];cases ch
    ·skip
     repeat' first
      |(with_reducible refine ag _ (fun h=>?_) (fun h=>?_)<;>simp only[go_sem,simprocAttr,h,d7,d0,jI,pX,kH,List.length_map,bp y (by omega)])
      |(refine ao ?_;simp only[go_sem,simprocAttr,d7,d0,jI,pX,kH,List.length_map,bp y (by omega)])
      |(refine And.intro (by(try simp only[aC,LL]);omega) ?_;try simp only[go_sem,simprocAttr,d7,d0,jI,pX,kH,List.length_map,bp y (by omega)])
      |(intro _)
     all_goals exact⟨y+1,⟨by omega,by rw[DH]<;>simp[bp y (by omega)]⟩,by omega⟩
    ·have t1:=t1 rfl
     repeat' first
      |(with_reducible refine ag _ (fun h=>?_) (fun h=>?_)<;>simp only[go_sem,simprocAttr,h,d7,d0,jI,pX,kH,List.length_map,bp y (by omega)])
      |(with_reducible refine U (t1 _) ?_;simp only[go_sem,simprocAttr,d7,d0,jI,pX,kH,List.length_map,bp y (by omega)])
      |(refine ao ?_;simp only[go_sem,simprocAttr,d7,d0,jI,pX,kH,List.length_map,bp y (by omega)])
      |(refine And.intro (by(try simp only[aC,LL]);omega) ?_;try simp only[go_sem,simprocAttr,d7,d0,jI,pX,kH,List.length_map,bp y (by omega)])
      |(intro _)
     all_goals exact⟨y+1,⟨by omega,by rw[DH]<;>simp[bp y (by omega)]⟩,by omega⟩
   rw[if_neg ND]at DH;have d0:decide ((0:Int)<(y:Int))=true:=by simp;omega
   simp only[go_sem,simprocAttr,d7,d0,jI,pX,kH,List.length_map];cases ch
   ·skip
    repeat' first
     |(with_reducible refine ag _ (fun h=>?_) (fun h=>?_)<;>simp only[go_sem,simprocAttr,h,d7,d0,jI,pX,kH,List.length_map,bp y (by omega)])
     |(refine ao ?_;simp only[go_sem,simprocAttr,d7,d0,jI,pX,kH,List.length_map,bp y (by omega)])
     |(refine And.intro (by(try simp only[aC,LL]);omega) ?_;try simp only[go_sem,simprocAttr,d7,d0,jI,pX,kH,List.length_map,bp y (by omega)])
     |(intro _)
    all_goals exact⟨y+1,⟨by omega,by rw[DH]<;>simp[bp y (by omega)]⟩,by omega⟩
   ·have t1:=t1 rfl
    repeat' first
     |(with_reducible refine ag _ (fun h=>?_) (fun h=>?_)<;>simp only[go_sem,simprocAttr,h,d7,d0,jI,pX,kH,List.length_map,bp y (by omega)])
     |(with_reducible refine U (t1 _) ?_;simp only[go_sem,simprocAttr,d7,d0,jI,pX,kH,List.length_map,bp y (by omega)])
     |(refine ao ?_;simp only[go_sem,simprocAttr,d7,d0,jI,pX,kH,List.length_map,bp y (by omega)])
     |(refine And.intro (by(try simp only[aC,LL]);omega) ?_;try simp only[go_sem,simprocAttr,d7,d0,jI,pX,kH,List.length_map,bp y (by omega)])
     |(intro _)
    all_goals exact⟨y+1,⟨by omega,by rw[DH]<;>simp[bp y (by omega)]⟩,by omega⟩
  have d7:decide ((y:Int)<(dc.length:Int))=false:=by simp;omega
  rw[List.take_of_length_le (by omega)]at q3⊢;generalize bF [32,124,32] (dc.map ah.form)=S2 at q3 hj⊢;simp only[go_sem,simprocAttr,d7,kH,List.length_map,bp x (by omega)]
  repeat' first
   |(with_reducible refine ag _ (fun h=>?_) (fun h=>?_)<;>simp only[go_sem,simprocAttr,h,d7,kH,List.length_map,bp x (by omega)])
   |(refine ao ?_;simp only[go_sem,simprocAttr,d7,kH,List.length_map,bp x (by omega)])
   |(refine And.intro (by(try simp only[aC,LL]);omega) ?_;try simp only[go_sem,simprocAttr,d7,kH,List.length_map,bp x (by omega)])
   |(intro _)
  all_goals exact⟨(x+1,_),⟨⟨by omega,DE⟩,by rw[hj]<;>simp[bp x (by omega)]⟩,by simp only;omega⟩
 ·have d1:decide ((x:Int)<(ds.length:Int))=false:=by simp;omega
  rw[List.take_of_length_le (by omega)]at b1⊢;generalize (ds.map ai.form).flatten=S0 at *;simp only[go_sem,simprocAttr,d1,jH,List.length_map]
  repeat' first
   |(with_reducible refine ag _ (fun h=>?_) (fun h=>?_)<;>simp only[go_sem,simprocAttr,h,jH,List.length_map])
   |(with_reducible refine U (h2 _) ?_;simp only[go_sem,simprocAttr,jH,List.length_map])
   |(refine ao ?_;simp only[go_sem,simprocAttr,jH,List.length_map])
   |(refine And.intro (by(try simp only[aC,LL]);omega) ?_;try simp only[go_sem,simprocAttr,jH,List.length_map])
   |(intro _)
  all_goals first|exact⟨Qp.s2 (by simp),hY.ends⟩|exact hY.ends
end Go.Proofs.YtjkbbnfdbfcebaaGreatDoor.Qp
namespace Go.Proofs.YtjkbbnfdbfcebaaGreatDoor.Pg
open Go.AM Mc Qp
theorem ad9 {g:bb} (hz:g.sz<=1100000) (hf:g.body.fit) (hl:g.form.length<=1073741824) {H:List AO} (hg:Rg H) (hT:Tb H):aA Tryz.prog 7 [.st (g.cells.map .p)] H (aW (iV g.nest) H):=by
 have b9:=Ix g (by omega);have qH:=fun{H:List AO} (hT:Tb H)=>ZF (g:=g) (by omega) hf hT
 have IM:=Iw (g:=g) (hf:=hf);refine aD ?_ (bw _);refine call7 (by simp) ?_;unfold bb.print at qH;unfold bb.nest;generalize hb:g.okB=ob at *;generalize g.q=q at *;generalize g.form=s at *;obtain⟨ts,⟨k,n,u,t,p,ks,aM⟩⟩:=g;simp only[go_sem,simprocAttr,mc7,mr7,bb.cells,aa.cells];refine U (b9 _) ?_;cases ob
 ·simp only[go_sem,simprocAttr,Bool.false_eq_true]
  exact⟨_,rfl⟩
 simp only[go_sem,simprocAttr];refine U (qH (hT.ext _)) ?_;obtain⟨T,h1,h2,h3,h4⟩:=IM rfl;have e1:wr .i64 ((s.length:Int)+1)=((s.length+1:Nat):Int):=bp _ (by omega);have e2:wr .i64 ((T.length:Int)+1)=((T.length+1:Nat):Int):=bp _ (by omega);simp only[go_sem,simprocAttr,e1];intro _;refine U (Rh (s:=s) (most:=s.length+1) (by omega) (by omega) (hg.ext _)) ?_;rw[h1,adD];simp only[go_sem,simprocAttr,List.length_map,e2];intro _;have aO:T.length<=1073741825:=by omega
 rcases hq:pj T T.length (pU T T.length (T.length+1) (T.length+2) 1) (gE T T.length (T.length+1) (T.length+2) 1) ⟨0,0,0,0,0⟩with⟨⟨ds,k1,n1,u1,t1,q1,l1,m1⟩,s1⟩
 rw[hq]at h4;simp only at h4;refine(PX.top (Yc h2 aO (abl h2 aO (T.length+2) 1 (by omega) (by omega) (by omega)) (iJ h2 (T.length+1) (T.length+2) 1) (SY h2 aO (T.length+2) 1 (by omega) (by omega) (by omega)) (cU h2 (T.length+1) (T.length+2) 1) (H.length+2)) bb.wf hq (by rw[fU];rfl) (Ok0 h2)).mono ?_;rintro r X' ⟨cs,R,rfl,rfl,hE⟩;rw[qG];simp only[go_sem,simprocAttr,db];rw[h4];exact⟨rfl,_,rfl⟩
end Go.Proofs.YtjkbbnfdbfcebaaGreatDoor.Pg
namespace Go.Proofs.YtjkbbnfdbfcebaaGreatDoor.Qp
open Go.AM Mc Pg
structure IN (H0:List AO) (out:List Tok) (a:AV) (H:List AO):Prop where
 fr:∀(j:Nat) o,H0[j]?=some o->H[j]?=some o
 len:H0.length<H.length
 out:jr H a 4 (ll out)
 new:∀id v o m,a=.gs id v o m->H0.length<=id
theorem IN.ext {H0 out a H} (h:IN H0 out a H) (A:List AO):IN H0 out a (H++A):=
 ⟨fun j o hj=>ay (h.fr j o hj) A,by have:=h.len;simp;omega,h.out.ext,h.new⟩
theorem IN.app {H0 out a H} (h:IN H0 out a H) {t:Tok} {id ver:Nat} {H4:List AO} (k1:H4[id]?=some (.rows 4 ver (ll out++[t.cells.map .p]))) (k2:(∃v o n,a=.gs id v o n)\/H.length<=id) (k3:∀(j:Nat) o,H[j]?=some o->(∀v o' n,a≠.gs j v o' n)->H4[j]?=some o) (k4:H.length<=H4.length):IN H0 (out++[t]) (.gs id ver 0 (out.length+1)) H4:=by
 have hl:=h.len;refine⟨?_,by omega,?_,?_⟩
 ·intro j o hj
  refine k3 j o (h.fr j o hj) (fun v o' n' e=>?_);have:=h.new _ _ _ _ e;have:=bj hj;omega
 ·exact .inr ⟨id,ver,by simp[eW],by rw[wO];exact k1⟩
 ·intro jm v o m' e
  cases e;rcases k2 with⟨v,o,n',e⟩|h2
  ·exact h.new _ _ _ _ e
  ·omega
theorem L2 {g:bb} (hz:g.sz<=1100000) (hf:g.body.fit) (hl:g.form.length<=1073741824) {H0:List AO}:aA Tryz.prog 5 [.st (g.cells.map .p)] H0 (aW (iV g.nest) H0):=by
 have qH:=fun H=>Wk (g:=g) (by omega) hf H
 have IM:=fun(out:List Tok) (n:Int) h tM (T:List Tok) (hT:T=out++[⟨8,[],0,0⟩])=>OA (g:=g) (out:=out) (n:=n) h hf tM hl hT
 have Oz:=Iw (g:=g) (hf:=hf);have h0:0<g.form.length:=by unfold bb.form;simp;omega
 refine aD ?_ (bw _);refine call5 (by simp) ?_;unfold bb.print at qH;unfold bb.nest;generalize hb:g.okB=ob at *;generalize g.q=q at *;generalize g.form=s at *;obtain⟨ts,⟨k,n,u,t,p,ks,aM⟩⟩:=g;simp only[go_sem,simprocAttr,mc5,mr5,bb.cells,aa.cells];refine U (qH _) ?_;cases ob
 ·simp only[go_sem,simprocAttr,Bool.false_eq_true]
  exact⟨_,rfl⟩
 obtain⟨T0,hR,-,-,-⟩:=Oz rfl;have IM:=fun out n=>IM out n rfl
 have e0:decide (s=[])=false:=by cases s with
  |nil=>simp at h0
  |cons a l=>rfl
 simp only[go_sem,simprocAttr,e0];have hs:s.length<=1099511627776:=by omega
 refine U (Ri hs (i:=0) (Nat.zero_le _) _) ?_;obtain⟨g1,g2,g3,g4⟩:=Ez (s:=s) (most:=s.length+1) (out:=[]) s.length 0 (by omega) (Nat.zero_le _);have qI:=hR;rw[g1]at hR;have rest:∀j,j<=s.length->∀out,eB s (s.length+1) j out=eB s (s.length+1) (dL s j) out/\j<=dL s j/\dL s j<=s.length/\∀(h:dL s j<s.length),Pg.blank s[dL s j]=false/\¬(s[dL s j].toNat:Int)=35:=fun j hj out=>Ez s.length j (by omega) hj
 generalize dL s 0=i0 at hR g3 g4
 have hIs:∀o,IN (H0++[o]) [] (.gs (H0.length+1) 0 0 0) (H0++[o,.rows 4 0 []]):=fun o=>⟨fun j o' hj=>by
  have:=ay hj [.rows 4 0 []];rwa[List.append_assoc]at this,by simp,.inr ⟨_,0,rfl,by rw[fU];rfl⟩,by intro id v o m e;cases e;simp⟩
 simp only[go_sem,simprocAttr];generalize ho:AO.var _=ob at hIs⊢;refine⟨Nat×List Tok×AV×List AO,[0,1,2,3,4,5],fun x st=>((x.1<=s.length/\x.2.1.length<=x.1/\eB s (s.length+1) x.1 x.2.1=.inl T0/\IN (H0++[ob]) x.2.1 x.2.2.1 x.2.2.2)/\∀(h:x.1<s.length),Pg.blank s[x.1]=false/\¬(s[x.1].toNat:Int)=35)/\st=⟨[(0,_),(1,.ptr H0.length 0),(2,.p (.i .i64 0)),(3,.p (.s s)),(4,x.2.2.1),(5,.p (.i .i64 x.1))],[],x.2.2.2⟩,fun x=>s.length-x.1,⟨(i0,[],.gs (H0.length+1) 0 0 0,H0++[ob,.rows 4 0 []]),⟨⟨g3,Nat.zero_le _,hR,hIs ob⟩,g4⟩,rfl⟩,?_⟩;rintro⟨i,out,a,H⟩ _ ⟨⟨⟨h1,h2,h3,hI⟩,hbb⟩,rfl⟩;simp only at h1 h2 h3 hI hbb⊢;by_cases aj:i<s.length
 ·have d1:decide ((i:Int)<(s.length:Int))=true:=by simp;omega
  obtain⟨hb,hc⟩:=hbb aj;simp only[go_sem,simprocAttr,d1];intro _;refine(adm hs aj H).mono ?_;rintro r H2 ⟨⟨e',rfl⟩,G,rfl⟩;rcases ht:jY s i s[i]with⟨t,e⟩|c
  ·obtain⟨k1,k2,_⟩:=xP aj ht
   simp only[go_sem,simprocAttr,iz,Tok.cells];rw[rU aj hb hc ht (by omega)]at h3;refine⟨by intro r hr;simp at hr;subst hr;rfl,?_⟩;refine fq (rs:=ll out) (ys:=[t.cells.map .p]) (hI.ext _).out (by rw[eW];simp;omega) (by rw[eW];simp;omega) ?_;intro id ver H4 k1' k2' Sa k4';rw[eW];have hJ:=(hI.ext _).app k1' k2' Sa k4';simp only[go_sem,simprocAttr];refine U (Ri hs k2 _) ?_;obtain⟨q1,q2,q3,q4⟩:=rest e k2 (out++[t]);simp only[go_sem,simprocAttr];exact⟨(dL s e,out++[t],.gs id ver 0 (out.length+1),H4),⟨⟨⟨q3,by simp;omega,by rw[<-q1];exact h3,hJ⟩,q4⟩,rfl⟩,by simp only;omega⟩
  ·rw[wB aj hb hc ht]at h3
   cases h3
 ·have d1:decide ((i:Int)<(s.length:Int))=false:=by simp;omega
  rw[pb aj]at h3;have h3:=Sum.inl.inj h3;rw[<-h3]at qI;obtain⟨hT,hd⟩:=IM out s.length qI (out++[⟨8,[],0,0⟩]) rfl;have hlen:(out++[(⟨8,[],0,0⟩:Tok)]).length=out.length+1:=by simp
  generalize hT0:out++[(⟨8,[],0,0⟩:Tok)]=T at hT hd hlen;have aO:T.length<=1073741825:=by omega
  simp only[go_sem,simprocAttr,d1];intro _;refine⟨by intro r hr;simp at hr;subst hr;rfl,?_⟩;refine fq (rs:=ll out) (ys:=[Tok.cells ⟨8,[],0,0⟩|>.map .p]) (hI.ext _).out (by rw[eW];simp;omega) (by rw[eW];simp;omega) ?_;intro id ver H4 k1 k2 k3 k4;rw[eW];have hJ:=(hI.ext _).app k1 k2 k3 k4;have hid:H4[id]?=some (.rows 4 ver ((T.map Tok.cells).map fun y=>y.map .p)):=by rw[<-hT0];rw[k1];simp[ll]
  have gH:=hJ.new _ _ _ _ rfl;have aiu:=bj hid;simp only[go_sem,simprocAttr];refine Ds (p:=H4.length) (id:=id) (sz:=4) (ver:=ver) (rs:=T.map Tok.cells) (cs2:=[.gs id ver 0 (out.length+1),iV 0,iV 0,iV 0,iV 1099511627776,iV 0,iV 0]) (cs1:=[sY T,iV 0,iV 0,iV 0,iV 1099511627776,iV 0,iV 0]) (by rw[gq];rfl) (ay hid _) (by omega) rfl ?_ ?_
  ·intro j a b ha hb
   match j with
   |0=>cases ha;cases hb;exact .inr ⟨by rw[List.length_map,hlen],rfl⟩
   |1=>cases ha;cases hb;exact .inl rfl
   |2=>cases ha;cases hb;exact .inl rfl
   |3=>cases ha;cases hb;exact .inl rfl
   |4=>cases ha;cases hb;exact .inl rfl
   |5=>cases ha;cases hb;exact .inl rfl
   |6=>cases ha;cases hb;exact .inl rfl
   |j+7=>simp at ha
  have hp:(((H4++[AO.var [.gs id ver 0 (out.length+1),iV 0,iV 0,iV 0,iV 1099511627776,iV 0,iV 0]]).set id .dead).set H4.length (AO.var [sY T,iV 0,iV 0,iV 0,iV 1099511627776,iV 0,iV 0]))[H4.length]?=some (bO T 1099511627776 ⟨0,0,0,0,0⟩):=by
   rw[List.getElem?_set_self (by simp)];rfl
  have hfr:∀(j:Nat) o,H0[j]?=some o->(((H4++[AO.var [.gs id ver 0 (out.length+1),iV 0,iV 0,iV 0,iV 1099511627776,iV 0,iV 0]]).set id .dead).set H4.length (AO.var [sY T,iV 0,iV 0,iV 0,iV 1099511627776,iV 0,iV 0]))[j]?=some o:=fun j o hj=>by
   have me:=bj hj;have aiv:H0.length<id:=by simp at gH;omega
   exact aU (aU (ay (hJ.fr j o (ay hj _)) _) (by omega)) (by omega)
  generalize ((H4++[AO.var [.gs id ver 0 (out.length+1),iV 0,iV 0,iV 0,iV 1099511627776,iV 0,iV 0]]).set id .dead).set H4.length (AO.var [sY T,iV 0,iV 0,iV 0,iV 1099511627776,iV 0,iV 0])=X at hp hfr⊢;have L3:=(Yf hT aO (aa7 hT aO (lim:=1099511627776) (by omega) 1099511627777 0 rfl (by omega)) (zo hT 1099511627776 1099511627777) (Sb hT aO (lim:=1099511627776) (by omega) 1099511627777 0 rfl (by omega)) (wJ hT 1099511627776 1099511627777)).at (X:=X) (p:=H4.length) hp (Ok0 hT);have hle:H0.length<H4.length:=by have:=hJ.len;simp at this;omega
  generalize H4.length=b at hp L3 hle⊢;rcases hq:pj T T.length (NO T T.length 1099511627776 1099511627777) (Es T T.length 1099511627776 1099511627777) ⟨0,0,0,0,0⟩with⟨⟨ds,k1,n1,u1,t1,q1,l1,m1⟩,s1⟩
  rw[hq]at L3 hd;simp only at hd;refine U L3 ?_;have hz:∀o,(X.set b o)[b]?=some o:=fun o=>bg hp
  simp only[go_sem,simprocAttr,hz,bO];obtain⟨G,hG⟩:=iK (H:=H0) (H':=X.set b (bO T 1099511627776 s1)) fun j o hj=>aU (hfr j o hj) (by have:=bj hj;omega)
  exact⟨by rw[hd],G,hG⟩
end Go.Proofs.YtjkbbnfdbfcebaaGreatDoor.Qp
namespace Go.Proofs.YtjkbbnfdbfcebaaGreatDoor.Pg
open Go.AM Mc Qp
theorem OV {g:bb} (hf:g.body.fit) (hz:g.sz<=1048576):g.form.length<=1073741824:=by
 have l1:=pN g.types;have l2:=aa.jj g.body hf;have l3:=(cK g.body.kf 0).1;unfold bb.sz at hz;unfold bb.form;simp only[List.length_append,List.length_singleton];omega
theorem Wl (g:bb) (hf:g.body.fit) {H:List AO} (hg:Rg H) (hT:Tb H):aA Tryz.prog 3 [av g.cells] H (fun r _=>r=.p (.b true)):=by
 have cL:=VP g;have ZL:=VW g;have heq:=VG g;have hl:=OV (g:=g) hf;have hS:=fun(hz:g.sz<=1048576) (X:List AO)=>L2 (g:=g) (by omega) hf (hl hz) (H0:=X)
 have hI:=fun(hz:g.sz<=1048576) (X:List AO) (h1:Rg X) (h2:Tb X)=>ad9 (g:=g) (by omega) hf (hl hz) h1 h2
 have hgc:∃c0 c1 c2 c3 c4 c5 c6 c7,g.cells=[c0,c1,c2,c3,c4,c5,c6,c7]:=by
  obtain⟨ts,⟨k,n,u,t,p,ks,aM⟩⟩:=g;exact⟨_,_,_,_,_,_,_,_,rfl⟩
 obtain⟨c0,c1,c2,c3,c4,c5,c6,c7,hgc⟩:=hgc;rw[hgc]at cL ZL heq hS hI⊢;refine call3 (by simp) ?_;simp only[go_sem,simprocAttr,mc3,mr3];refine U (cL 1048576 (by decide) (by decide) _) ?_;by_cases hb:((g.sz:Nat):Int)<=1048576
 ·have hle:g.sz<=1048576:=by omega
  have h0:decide ((1048576:Int)-(g.sz:Int)<0)=false:=decide_eq_false (by omega);rw[dC hb];simp only[go_sem,simprocAttr,h0];refine U (ZL hle _) ?_;simp only[go_sem,simprocAttr];refine U (hS hle _) ?_;simp only[go_sem,simprocAttr];refine U (ZL hle _) ?_;simp only[go_sem,simprocAttr];refine U (hI hle _ (hg.ext _) (hT.ext _)) ?_;simp only[go_sem,simprocAttr,decide_true,Bool.not_true];refine ao ?_;simp only[go_sem,simprocAttr];refine aQ (fun A=>ZL hle _) (bP.refl _) ?_;simp only[go_sem,simprocAttr];refine U (heq _) ?_;simp only[go_sem,simprocAttr,Bool.not_true]
 ·rw[cd hb]
  simp only[go_sem,simprocAttr]
end Go.Proofs.YtjkbbnfdbfcebaaGreatDoor.Pg