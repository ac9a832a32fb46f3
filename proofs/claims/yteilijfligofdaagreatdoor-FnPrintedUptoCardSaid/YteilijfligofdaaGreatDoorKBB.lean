/- Texts QbJ QbK QbL QbC QbM QfA QhA QhB QhC QhD QhE QhF, merged. -/
import Derived.Test.YteilijfligofdaaGreatDoorKBA
import Derived.Test.YteilijfligofdaaGreatDoorChecked
import Derived.KernelRfl
set_option linter.all false
namespace Go.Proofs.YteilijfligofdaaGreatDoor.Qp
open Go.AM Mc Pg
theorem F5 {s:List UInt8} (hs:s.length<=1099511627776) {i:Nat} (hi:i<s.length):Nd 138 s i (fb s i s[i]):=by
 intro H;have tr:s[i]?=some s[i]:=by simp[hi]
 obtain⟨f,hf⟩:∃f,f=(if(s[i].toNat:Int)=39 then i+1 else i):=⟨_,rfl⟩;have yr:i<=f/\f<=s.length:=by rw[hf];split <;>omega
 have hwd:fb s i s[i]=jf s i s[i] f:=by rw[hf];rfl
 rw[hwd];refine call138 (by simp) ?_;cases lZ:decide ((s[i].toNat:Int)=39)
 ·have ef:f=i:=by rw[hf,if_neg (of_decide_eq_false lZ)]
  clear hf hwd;simp only[go_sem,simprocAttr,FZ,J8,tr,lZ];subst f;refine⟨Nat,[0,1,4,5,6,7,8],fun x st=>(i<=x/\x<=s.length/\bo cx s x=bo cx s i)/\st=⟨[(0,.p (.s s)),(1,.p (.i .i64 i)),(4,.ptr H.length 0),(5,.p (.i .i64 0)),(6,.p (.i .i64 0)),(7,.p (.i .i64 i)),(8,.p (.i .i64 x))],[],H++[.var [.p (.i .i64 0),.p (.s []),.p (.i .i64 0),.p (.i .i64 0)]]⟩,fun x=>s.length-x,⟨i,?_⟩,?_⟩
  ·simp only[go_sem,simprocAttr]
   exact⟨Nat.le_refl _,yr.2⟩
  ·rintro x _ ⟨⟨h1,h2,h3⟩,rfl⟩
   by_cases aF:x<s.length
   ·have d1:decide ((x:Int)<(s.length:Int))=true:=by simp;omega
    have hg:s[x]?=some s[x]:=by simp[aF]
    simp only[go_sem,simprocAttr,d1,hg,F2];intro _;refine U (Nc s[x] _) ?_;cases hd:cx s[x]
    ·have ex:x=bo cx s i:=by rw[<-h3,uc aF hd]
     have ew:wr .i64 ((x:Int)-(i:Int))=((x-i:Nat):Int):=by rw[ea (by omega) (by omega)];omega
     unfold jf;rw[<-ex];by_cases gz:12<x-i
     ·have d2:decide ((12:Int)<((x-i:Nat):Int))=true:=by simp;omega
      simp only[go_sem,simprocAttr,hd,ew,d2];refine⟨by omega,by omega,?_⟩;rw[if_pos gz];exact⟨⟨(x:Int),rfl⟩,_,rfl⟩
     ·have d2:decide ((12:Int)<((x-i:Nat):Int))=false:=by simp;omega
      rw[if_neg gz];have d3:decide ((i:Int)<(i:Int))=false:=by simp
      have hgf:s[i]?=some s[i]:=tr;simp only[go_sem,simprocAttr,hd,ew,d2,d3,hgf,F2];refine⟨by omega,by omega,?_⟩;refine U (Bn s[i] _) ?_;rw[if_neg (of_decide_eq_false lZ)];cases ux:ig s[i]
      ·simp only[go_sem,simprocAttr,ux]
       refine U (Sa _ _) ?_;cases hk:isKey ((s.drop i).take (x-i))
       ·simp only[go_sem,simprocAttr,hk]
        exact⟨⟨0,rfl⟩,_,rfl⟩
       ·simp only[go_sem,simprocAttr,hk]
        exact⟨⟨0,rfl⟩,_,rfl⟩
      ·simp only[go_sem,simprocAttr,ux]
       exact⟨⟨0,rfl⟩,_,rfl⟩
    ·simp only[go_sem,simprocAttr,hd,cH x (by omega)]
     exact⟨x+1,⟨⟨by omega,by omega,by rw[<-h3,kW aF hd]⟩,rfl⟩,by omega⟩
   ·have d1:decide ((x:Int)<(s.length:Int))=false:=by simp;omega
    have ex:x=bo cx s i:=by rw[<-h3,ud _ (by omega)]
    have ew:wr .i64 ((x:Int)-(i:Int))=((x-i:Nat):Int):=by rw[ea (by omega) (by omega)];omega
    unfold jf;rw[<-ex];by_cases gz:12<x-i
    ·have d2:decide ((12:Int)<((x-i:Nat):Int))=true:=by simp;omega
     simp only[go_sem,simprocAttr,d1,ew,d2];intro _;refine⟨by omega,by omega,?_⟩;rw[if_pos gz];exact⟨⟨(x:Int),rfl⟩,_,rfl⟩
    ·have d2:decide ((12:Int)<((x-i:Nat):Int))=false:=by simp;omega
     rw[if_neg gz];have d3:decide ((i:Int)<(i:Int))=false:=by simp
     have hgf:s[i]?=some s[i]:=tr;simp only[go_sem,simprocAttr,d1,ew,d2,d3,hgf,F2];intro _;refine⟨by omega,by omega,?_⟩;refine U (Bn s[i] _) ?_;rw[if_neg (of_decide_eq_false lZ)];cases ux:ig s[i]
     ·simp only[go_sem,simprocAttr,ux]
      refine U (Sa _ _) ?_;cases hk:isKey ((s.drop i).take (x-i))
      ·simp only[go_sem,simprocAttr,hk]
       exact⟨⟨0,rfl⟩,_,rfl⟩
      ·simp only[go_sem,simprocAttr,hk]
       exact⟨⟨0,rfl⟩,_,rfl⟩
     ·simp only[go_sem,simprocAttr,ux]
      exact⟨⟨0,rfl⟩,_,rfl⟩
 ·have ef:f=i+1:=by rw[hf,if_pos (of_decide_eq_true lZ)]
  clear hf hwd;simp only[go_sem,simprocAttr,FZ,J8,tr,lZ,cH i (by omega)];rw[<-ef];refine⟨Nat,[0,1,4,5,6,7,8],fun x st=>(f<=x/\x<=s.length/\bo cx s x=bo cx s f)/\st=⟨[(0,.p (.s s)),(1,.p (.i .i64 i)),(4,.ptr H.length 0),(5,.p (.i .i64 0)),(6,.p (.i .i64 0)),(7,.p (.i .i64 f)),(8,.p (.i .i64 x))],[],H++[.var [.p (.i .i64 0),.p (.s []),.p (.i .i64 0),.p (.i .i64 0)]]⟩,fun x=>s.length-x,⟨f,?_⟩,?_⟩
  ·simp only[go_sem,simprocAttr]
   exact⟨Nat.le_refl _,yr.2⟩
  ·rintro x _ ⟨⟨h1,h2,h3⟩,rfl⟩
   by_cases aF:x<s.length
   ·have d1:decide ((x:Int)<(s.length:Int))=true:=by simp;omega
    have hg:s[x]?=some s[x]:=by simp[aF]
    simp only[go_sem,simprocAttr,d1,hg,F2];intro _;refine U (Nc s[x] _) ?_;cases hd:cx s[x]
    ·have ex:x=bo cx s f:=by rw[<-h3,uc aF hd]
     have ew:wr .i64 ((x:Int)-(f:Int))=((x-f:Nat):Int):=by rw[ea (by omega) (by omega)];omega
     unfold jf;rw[<-ex];by_cases gz:12<x-f
     ·have d2:decide ((12:Int)<((x-f:Nat):Int))=true:=by simp;omega
      simp only[go_sem,simprocAttr,hd,ew,d2];refine⟨by omega,by omega,?_⟩;rw[if_pos gz];exact⟨⟨(x:Int),rfl⟩,_,rfl⟩
     ·have d2:decide ((12:Int)<((x-f:Nat):Int))=false:=by simp;omega
      rw[if_neg gz];have d3:decide ((i:Int)<(f:Int))=true:=by simp;omega
      simp only[go_sem,simprocAttr,hd,ew,d2,d3];refine⟨by omega,by omega,?_⟩;rw[if_pos (of_decide_eq_true lZ)];exact⟨⟨0,rfl⟩,_,rfl⟩
    ·simp only[go_sem,simprocAttr,hd,cH x (by omega)]
     exact⟨x+1,⟨⟨by omega,by omega,by rw[<-h3,kW aF hd]⟩,rfl⟩,by omega⟩
   ·have d1:decide ((x:Int)<(s.length:Int))=false:=by simp;omega
    have ex:x=bo cx s f:=by rw[<-h3,ud _ (by omega)]
    have ew:wr .i64 ((x:Int)-(f:Int))=((x-f:Nat):Int):=by rw[ea (by omega) (by omega)];omega
    unfold jf;rw[<-ex];by_cases gz:12<x-f
    ·have d2:decide ((12:Int)<((x-f:Nat):Int))=true:=by simp;omega
     simp only[go_sem,simprocAttr,d1,ew,d2];intro _;refine⟨by omega,by omega,?_⟩;rw[if_pos gz];exact⟨⟨(x:Int),rfl⟩,_,rfl⟩
    ·have d2:decide ((12:Int)<((x-f:Nat):Int))=false:=by simp;omega
     rw[if_neg gz];have d3:decide ((i:Int)<(f:Int))=true:=by simp;omega
     simp only[go_sem,simprocAttr,d1,ew,d2,d3];intro _;refine⟨by omega,by omega,?_⟩;rw[if_pos (of_decide_eq_true lZ)];exact⟨⟨0,rfl⟩,_,rfl⟩
theorem KC {s:List UInt8} (hs:s.length<=1099511627776) {i:Nat} (hi:i<s.length):Nd 139 s i (qe s i):=by
 intro H;unfold qe;generalize hR:gi s (i+1) []=R;refine call139 (by simp) ?_;simp only[go_sem,simprocAttr,J9,RI,cH i (by omega)];refine⟨Nat×List UInt8×AV×List AO,[0,1,4,5,6,7,8],fun x st=>(x.1<=s.length/\x.2.1.length<=x.1/\gi s x.1 x.2.1=R/\iG x.2.2.2 x.2.2.1 1 (cR x.2.1)/\(∀id v o m,x.2.2.1=.gs id v o m->H.length<id)/\x.2.2.2[H.length]?=some (.var [.p (.i .i64 0),.p (.s []),.p (.i .i64 0),.p (.i .i64 0)])/\∀(j:Nat) o,H[j]?=some o->x.2.2.2[j]?=some o)/\st=⟨[(0,.p (.s s)),(1,.p (.i .i64 i)),(4,.ptr H.length 0),(5,.p (.i .i64 0)),(6,.p (.i .i64 0)),(7,x.2.2.1),(8,.p (.i .i64 x.1))],[],x.2.2.2⟩,fun x=>s.length-x.1,⟨(i+1,[],.gs (H.length+1) 0 0 0,H++[.var [.p (.i .i64 0),.p (.s []),.p (.i .i64 0),.p (.i .i64 0)],.rows 1 0 []]),?_⟩,?_⟩
 ·simp only[go_sem,simprocAttr]
  refine⟨hi,hR,.inr ⟨_,0,rfl,by rw[eZ];rfl⟩,?_,fun _ _ h=>ag h _⟩;intro id v o m e;cases e;omega
 ·rintro⟨x,out,a,H1⟩ _ ⟨⟨h1,h2,h3,h4,h5,h7,h6⟩,rfl⟩
  simp only at h1 h2 h3 h4 h5 h6 h7⊢;by_cases aF:x<s.length
  ·have d1:decide ((x:Int)<(s.length:Int))=true:=by simp;omega
   have hg:s[x]?=some s[x]:=by simp[aF]
   rw[gi,dif_pos aF]at h3;simp only[go_sem,simprocAttr,d1,hg];intro _;cases gk:decide ((s[x].toNat:Int)=34)
   ·have n34:=of_decide_eq_false gk
    rw[if_neg n34]at h3;cases tq:decide ((s[x].toNat:Int)=92)
    ·have Kz:=of_decide_eq_false tq
     rw[if_neg Kz]at h3;simp only[go_sem,simprocAttr,gk,tq,F2];refine U (XK _ _ _ _) ?_;cases hp:ub s[x]
     ·have pd:=hp
      unfold ub at pd;rw[hp]at h3;have hz:∀o,(H1.set H.length o)[H.length]?=some o:=fun o=>aR h7
      simp only[go_sem,simprocAttr,pd,h7,hz];rw[<-h3];exact⟨⟨(x:Int),rfl⟩,gH fun j o hj=>aM (h6 j o hj) (by have:=aT hj;omega)⟩
     ·have pd:=hp
      unfold ub at pd;rw[if_pos hp]at h3;simp only[go_sem,simprocAttr,pd];refine⟨by intro r hr;simp at hr;subst hr;rfl,?_⟩;refine gb (rs:=cR out) (ys:=[[Cv s[x]]]) h4.ext (by rw[bF];simp;omega) (by rw[bF];simp;omega) ?_;intro id ver H4 k1 k2 k3 k4;rw[bF];simp only[go_sem,simprocAttr,cH x (by omega)];refine⟨(x+1,out++[s[x]],.gs id ver 0 (out.length+1),H4),⟨⟨by simp only;omega,by simp;omega,h3,.inr ⟨id,ver,by simp[bF],by rw[ka];exact k1⟩,?_,?_,?_⟩,rfl⟩,by simp only;omega⟩
      ·intro jC v o m' e
       cases e;rcases k2 with⟨v,o,n',e⟩|h
       ·exact h5 _ _ _ _ e
       ·have:=aT h7;simp at h;omega
      ·refine k3 _ _ (ag h7 _) (fun v o' n' e=>?_)
       have:=h5 _ _ _ _ e;omega
      ·intro j o hj
       refine k3 j o (ag (h6 j o hj) _) (fun v o' n' e=>?_);have:=h5 _ _ _ _ e;have:=aT hj;omega
    ·have Kz:=of_decide_eq_true tq
     rw[if_pos Kz]at h3;by_cases mP:x+1<s.length
     ·have jR:s[x+1]?=some s[x+1]:=by simp[mP]
      have d2:decide (((x+1:Nat):Int)<(s.length:Int))=true:=by simp;omega
      rw[dif_pos mP]at h3;cases rB:decide ((s[x+1].toNat:Int)=110)
      ·rw[if_neg (of_decide_eq_false rB)]at h3
       cases hq:decide ((s[x+1].toNat:Int)=34)
       ·cases hw:decide ((s[x+1].toNat:Int)=92)
        ·rw[if_neg (by rw[not_or];exact⟨of_decide_eq_false hq,of_decide_eq_false hw⟩)]at h3
         have hz:∀o,(H1.set H.length o)[H.length]?=some o:=fun o=>aR h7
         simp only[go_sem,simprocAttr,gk,tq,cH x (by omega),d2,jR,rB,hq,hw,h7,hz];intro _;rw[<-h3];exact⟨⟨(x:Int),rfl⟩,gH fun j o hj=>aM (h6 j o hj) (by have:=aT hj;omega)⟩
        ·rw[if_pos (.inr (of_decide_eq_true hw))]at h3
         simp only[go_sem,simprocAttr,gk,tq,cH x (by omega),d2,jR,rB,hq,hw];intro _;refine⟨by intro r hr;simp at hr;subst hr;rfl,?_⟩;refine gb (rs:=cR out) (ys:=[[Cv s[x+1]]]) h4.ext (by rw[bF];simp;omega) (by rw[bF];simp;omega) ?_;intro id ver H4 k1 k2 k3 k4;rw[bF];simp only[go_sem,simprocAttr,cH (x+1) (by omega)];refine⟨(x+2,out++[s[x+1]],.gs id ver 0 (out.length+1),H4),⟨⟨by simp only;omega,by simp;omega,h3,.inr ⟨id,ver,by simp[bF],by rw[ka];exact k1⟩,?_,?_,?_⟩,rfl⟩,by simp only;omega⟩
         ·intro jC v o m' e
          cases e;rcases k2 with⟨v,o,n',e⟩|h
          ·exact h5 _ _ _ _ e
          ·have:=aT h7;simp at h;omega
         ·refine k3 _ _ (ag h7 _) (fun v o' n' e=>?_)
          have:=h5 _ _ _ _ e;omega
         ·intro j o hj
          refine k3 j o (ag (h6 j o hj) _) (fun v o' n' e=>?_);have:=h5 _ _ _ _ e;have:=aT hj;omega
       ·rw[if_pos (.inl (of_decide_eq_true hq))]at h3
        simp only[go_sem,simprocAttr,gk,tq,cH x (by omega),d2,jR,rB,hq];intro _;refine⟨by intro r hr;simp at hr;subst hr;rfl,?_⟩;refine gb (rs:=cR out) (ys:=[[Cv s[x+1]]]) h4.ext (by rw[bF];simp;omega) (by rw[bF];simp;omega) ?_;intro id ver H4 k1 k2 k3 k4;rw[bF];simp only[go_sem,simprocAttr,cH (x+1) (by omega)];refine⟨(x+2,out++[s[x+1]],.gs id ver 0 (out.length+1),H4),⟨⟨by simp only;omega,by simp;omega,h3,.inr ⟨id,ver,by simp[bF],by rw[ka];exact k1⟩,?_,?_,?_⟩,rfl⟩,by simp only;omega⟩
        ·intro jC v o m' e
         cases e;rcases k2 with⟨v,o,n',e⟩|h
         ·exact h5 _ _ _ _ e
         ·have:=aT h7;simp at h;omega
        ·refine k3 _ _ (ag h7 _) (fun v o' n' e=>?_)
         have:=h5 _ _ _ _ e;omega
        ·intro j o hj
         refine k3 j o (ag (h6 j o hj) _) (fun v o' n' e=>?_);have:=h5 _ _ _ _ e;have:=aT hj;omega
      ·rw[if_pos (of_decide_eq_true rB)]at h3
       simp only[go_sem,simprocAttr,gk,tq,cH x (by omega),d2,jR,rB];intro _;refine⟨by intro r hr;simp at hr;subst hr;rfl,?_⟩;refine gb (rs:=cR out) (ys:=[[Cv 10]]) h4.ext (by rw[bF];simp;omega) (by rw[bF];simp;omega) ?_;intro id ver H4 k1 k2 k3 k4;rw[bF];simp only[go_sem,simprocAttr,cH (x+1) (by omega)];refine⟨(x+2,out++[10],.gs id ver 0 (out.length+1),H4),⟨⟨by simp only;omega,by simp;omega,h3,.inr ⟨id,ver,by simp[bF],by rw[ka];exact k1⟩,?_,?_,?_⟩,rfl⟩,by simp only;omega⟩
       ·intro jC v o m' e
        cases e;rcases k2 with⟨v,o,n',e⟩|h
        ·exact h5 _ _ _ _ e
        ·have:=aT h7;simp at h;omega
       ·refine k3 _ _ (ag h7 _) (fun v o' n' e=>?_)
        have:=h5 _ _ _ _ e;omega
       ·intro j o hj
        refine k3 j o (ag (h6 j o hj) _) (fun v o' n' e=>?_);have:=h5 _ _ _ _ e;have:=aT hj;omega
     ·have d2:decide (((x+1:Nat):Int)<(s.length:Int))=false:=by simp;omega
      rw[dif_neg mP]at h3;have hz:∀o,(H1.set H.length o)[H.length]?=some o:=fun o=>aR h7
      simp only[go_sem,simprocAttr,gk,tq,cH x (by omega),d2,h7,hz];intro _;rw[<-h3];exact⟨⟨(x:Int),rfl⟩,gH fun j o hj=>aM (h6 j o hj) (by have:=aT hj;omega)⟩
   ·rw[if_pos (of_decide_eq_true gk)]at h3
    have hb:=yo h4 (by omega);have hz:∀o,(H1.set H.length o)[H.length]?=some o:=fun o=>aR h7
    simp only[go_sem,simprocAttr,gk,hb,cH x (by omega),h7,hz];rw[<-h3];exact⟨⟨0,rfl⟩,gH fun j o hj=>aM (h6 j o hj) (by have:=aT hj;omega)⟩
  ·have d1:decide ((x:Int)<(s.length:Int))=false:=by simp;omega
   rw[gi,dif_neg aF]at h3;have hz:∀o,(H1.set H.length o)[H.length]?=some o:=fun o=>aR h7
   simp only[go_sem,simprocAttr,d1,h7,hz];intro _;rw[<-h3];exact⟨⟨(i:Int),rfl⟩,gH fun j o hj=>aM (h6 j o hj) (by have:=aT hj;omega)⟩
theorem CB (H:List AO):al Tryz.prog 140 [] H (fun r H'=>r=.gs H.length 0 0 15/\H'=H++[.rows 1 0 (gr bA)]):=by
 refine call140 (by simp) ?_;simp only[go_sem,simprocAttr,Ka,RJ]
 rfl
theorem CC {x:Nat} (h:x<bA.length):bA[x]≠[]:=by
 have:∀g∈bA,g≠[]:=by decide
 exact this _ (List.getElem_mem h)
theorem ac4 {s:List UInt8} (hs:s.length<=1099511627776) {i:Nat} (hi:i<s.length):Nd 94 s i (iI s i s[i]):=by
 intro H;have tr:s[i]?=some s[i]:=by simp[hi]
 refine call94 (by simp) ?_;simp only[go_sem,simprocAttr,RC,aaG,tr,F2];refine U (KB s[i] _) ?_;unfold iI;cases hd:ez s[i]
 ·rw[if_neg (by simp)]
  simp only[go_sem,simprocAttr,hd];refine U (F4 s[i] _) ?_;cases Cx:gq s[i]
  ·simp only[go_sem,simprocAttr,Cx]
   refine U (Bn s[i] _) ?_;cases ux:ig s[i]
   ·simp only[go_sem,simprocAttr,ux]
    cases lZ:decide ((s[i].toNat:Int)=39)
    ·rw[if_neg (by simp[tick,lZ])]
     cases gk:decide ((s[i].toNat:Int)=34)
     ·rw[if_neg (of_decide_eq_false gk)]
      simp only[go_sem,simprocAttr,lZ,gk];refine(CB _).mono ?_;rintro r H2 ⟨rfl,rfl⟩;simp only[go_sem,simprocAttr];refine⟨Nat,[0,1,4,5,6,7,8,9],fun x st=>(x<=15/\eP (s.drop i) (bA.drop x)=eP (s.drop i) bA)/\st=⟨[(0,.p (.s s)),(1,.p (.i .i64 i)),(4,.ptr H.length 0),(5,.p (.i .i64 0)),(6,.p (.i .i64 0)),(7,.p (.i .i64 (s[i].toNat:Int))),(8,.gs (H.length+1) 0 0 15),(9,.p (.i .i64 x))],[],H++[.var [.p (.i .i64 0),.p (.s []),.p (.i .i64 0),.p (.i .i64 0)],.rows 1 0 (gr bA)]⟩,fun x=>15-x,⟨0,?_⟩,?_⟩
      ·simp only[go_sem,simprocAttr]
      ·rintro x _ ⟨⟨hx,hn⟩,rfl⟩
       unfold ov;by_cases aF:x<15
       ·have dr:x<bA.length:=aF
        have d1:decide ((x:Int)<15)=true:=by simp;omega
        have Cx:=qm dr;rw[qj dr]at hn;have ew:wr .i64 ((i:Int)+(bA[x].length:Int))=((i+bA[x].length:Nat):Int):=by rw[ea (by omega) (by omega)];omega
        simp only[go_sem,simprocAttr,d1,j9 dr];intro _;refine⟨by omega,fun _=>?_⟩;refine ba ?_;by_cases jL:i+bA[x].length<=s.length
        ·have d2:decide (((i+bA[x].length:Nat):Int)<=(s.length:Int))=true:=by simp;omega
         have et:(s.drop i).take (i+bA[x].length-i)=(s.drop i).take bA[x].length:=by congr 1;omega
         have ep:decide ((s.drop i).take bA[x].length=bA[x])=preB bA[x] (s.drop i):=rfl;cases hp:preB bA[x] (s.drop i)
         ·rw[hp]at hn
          simp only[go_sem,simprocAttr,ew,d2,j9 dr,et,ep,hp,cH x (by omega)];refine⟨by omega,by omega,by omega,x+1,⟨⟨by omega,by simpa using hn⟩,rfl⟩,by omega⟩
         ·rw[hp,if_pos rfl]at hn
          simp only[go_sem,simprocAttr,ew,d2,j9 dr,et,ep,hp];rw[<-hn,if_neg (CC dr)];exact⟨by omega,by omega,by omega,by omega,⟨0,rfl⟩,_,rfl⟩
        ·have d2:decide (((i+bA[x].length:Nat):Int)<=(s.length:Int))=false:=by simp;omega
         have hp:preB bA[x] (s.drop i)=false:=by
          unfold preB;refine decide_eq_false fun h=>?_
          have:=congrArg List.length h;rw[List.length_take,List.length_drop]at this;omega
         rw[hp]at hn;simp only[go_sem,simprocAttr,ew,d2,cH x (by omega)];exact⟨x+1,⟨⟨by omega,by simpa using hn⟩,rfl⟩,by omega⟩
       ·have d1:decide ((x:Int)<15)=false:=by simp;omega
        have:bA.drop x=[]:=List.drop_of_length_le (by have:bA.length=15:=rfl;omega);rw[this,eP]at hn;simp only[go_sem,simprocAttr,d1];intro _;simp only[<-hn,if_pos];exact⟨⟨(i:Int),rfl⟩,_,rfl⟩
     ·rw[if_pos (of_decide_eq_true gk)]
      simp only[go_sem,simprocAttr,lZ,gk];refine(KC hs hi _).mono ?_;rintro r H2 ⟨⟨e',rfl⟩,G,rfl⟩;rcases qe s i with⟨t,e⟩|c
      ·simp only[go_sem,simprocAttr,im,Tok.cells]
       exact⟨⟨0,rfl⟩,_,rfl⟩
      ·simp only[go_sem,simprocAttr,im]
       exact⟨⟨e',rfl⟩,_,rfl⟩
    ·by_cases Cy:i+1<s.length
     ·have d1:decide (((i+1:Nat):Int)<(s.length:Int))=true:=by simp;omega
      have jR:s[i+1]?=some s[i+1]:=by simp[Cy]
      have oo:s.getD (i+1) 0=s[i+1]:=by simp[Cy]
      simp only[go_sem,simprocAttr,lZ,cH i (by omega),d1,jR,F2];intro _;refine U (F4 s[i+1] _) ?_;cases bx:gq s[i+1]
      ·rw[if_neg (by simp only[tick,oo,bx];simp)]
       simp only[go_sem,simprocAttr,bx];cases gk:decide ((s[i].toNat:Int)=34)
       ·rw[if_neg (of_decide_eq_false gk)]
        simp only[go_sem,simprocAttr,gk];refine(CB _).mono ?_;rintro r H2 ⟨rfl,rfl⟩;simp only[go_sem,simprocAttr];refine⟨Nat,[0,1,4,5,6,7,8,9],fun x st=>(x<=15/\eP (s.drop i) (bA.drop x)=eP (s.drop i) bA)/\st=⟨[(0,.p (.s s)),(1,.p (.i .i64 i)),(4,.ptr H.length 0),(5,.p (.i .i64 0)),(6,.p (.i .i64 0)),(7,.p (.i .i64 (s[i].toNat:Int))),(8,.gs (H.length+1) 0 0 15),(9,.p (.i .i64 x))],[],H++[.var [.p (.i .i64 0),.p (.s []),.p (.i .i64 0),.p (.i .i64 0)],.rows 1 0 (gr bA)]⟩,fun x=>15-x,⟨0,?_⟩,?_⟩
        ·simp only[go_sem,simprocAttr]
        ·rintro x _ ⟨⟨hx,hn⟩,rfl⟩
         unfold ov;by_cases aF:x<15
         ·have dr:x<bA.length:=aF
          have d1:decide ((x:Int)<15)=true:=by simp;omega
          have Cx:=qm dr;rw[qj dr]at hn;have ew:wr .i64 ((i:Int)+(bA[x].length:Int))=((i+bA[x].length:Nat):Int):=by rw[ea (by omega) (by omega)];omega
          simp only[go_sem,simprocAttr,d1,j9 dr];intro _;refine⟨by omega,fun _=>?_⟩;refine ba ?_;by_cases jL:i+bA[x].length<=s.length
          ·have d2:decide (((i+bA[x].length:Nat):Int)<=(s.length:Int))=true:=by simp;omega
           have et:(s.drop i).take (i+bA[x].length-i)=(s.drop i).take bA[x].length:=by congr 1;omega
           have ep:decide ((s.drop i).take bA[x].length=bA[x])=preB bA[x] (s.drop i):=rfl;cases hp:preB bA[x] (s.drop i)
           ·rw[hp]at hn
            simp only[go_sem,simprocAttr,ew,d2,j9 dr,et,ep,hp,cH x (by omega)];refine⟨by omega,by omega,by omega,x+1,⟨⟨by omega,by simpa using hn⟩,rfl⟩,by omega⟩
           ·rw[hp,if_pos rfl]at hn
            simp only[go_sem,simprocAttr,ew,d2,j9 dr,et,ep,hp];rw[<-hn,if_neg (CC dr)];exact⟨by omega,by omega,by omega,by omega,⟨0,rfl⟩,_,rfl⟩
          ·have d2:decide (((i+bA[x].length:Nat):Int)<=(s.length:Int))=false:=by simp;omega
           have hp:preB bA[x] (s.drop i)=false:=by
            unfold preB;refine decide_eq_false fun h=>?_
            have:=congrArg List.length h;rw[List.length_take,List.length_drop]at this;omega
           rw[hp]at hn;simp only[go_sem,simprocAttr,ew,d2,cH x (by omega)];exact⟨x+1,⟨⟨by omega,by simpa using hn⟩,rfl⟩,by omega⟩
         ·have d1:decide ((x:Int)<15)=false:=by simp;omega
          have:bA.drop x=[]:=List.drop_of_length_le (by have:bA.length=15:=rfl;omega);rw[this,eP]at hn;simp only[go_sem,simprocAttr,d1];intro _;simp only[<-hn,if_pos];exact⟨⟨(i:Int),rfl⟩,_,rfl⟩
       ·rw[if_pos (of_decide_eq_true gk)]
        simp only[go_sem,simprocAttr,gk];refine(KC hs hi _).mono ?_;rintro r H2 ⟨⟨e',rfl⟩,G,rfl⟩;rcases qe s i with⟨t,e⟩|c
        ·simp only[go_sem,simprocAttr,im,Tok.cells]
         exact⟨⟨0,rfl⟩,_,rfl⟩
        ·simp only[go_sem,simprocAttr,im]
         exact⟨⟨e',rfl⟩,_,rfl⟩
      ·rw[if_pos (by simp only[tick,oo,bx];simp[lZ,Cy])]
       simp only[go_sem,simprocAttr,bx];refine(F5 hs hi _).mono ?_;rintro r H2 ⟨⟨e',rfl⟩,G,rfl⟩;rcases fb s i s[i]with⟨t,e⟩|c
       ·simp only[go_sem,simprocAttr,im,Tok.cells]
        exact⟨⟨0,rfl⟩,_,rfl⟩
       ·simp only[go_sem,simprocAttr,im]
        exact⟨⟨e',rfl⟩,_,rfl⟩
     ·have d1:decide (((i+1:Nat):Int)<(s.length:Int))=false:=by simp;omega
      rw[if_neg (by simp[tick,Cy])];simp only[go_sem,simprocAttr,lZ,cH i (by omega),d1];intro _;cases gk:decide ((s[i].toNat:Int)=34)
      ·rw[if_neg (of_decide_eq_false gk)]
       simp only[go_sem,simprocAttr,gk];refine(CB _).mono ?_;rintro r H2 ⟨rfl,rfl⟩;simp only[go_sem,simprocAttr];refine⟨Nat,[0,1,4,5,6,7,8,9],fun x st=>(x<=15/\eP (s.drop i) (bA.drop x)=eP (s.drop i) bA)/\st=⟨[(0,.p (.s s)),(1,.p (.i .i64 i)),(4,.ptr H.length 0),(5,.p (.i .i64 0)),(6,.p (.i .i64 0)),(7,.p (.i .i64 (s[i].toNat:Int))),(8,.gs (H.length+1) 0 0 15),(9,.p (.i .i64 x))],[],H++[.var [.p (.i .i64 0),.p (.s []),.p (.i .i64 0),.p (.i .i64 0)],.rows 1 0 (gr bA)]⟩,fun x=>15-x,⟨0,?_⟩,?_⟩
       ·simp only[go_sem,simprocAttr]
       ·rintro x _ ⟨⟨hx,hn⟩,rfl⟩
        unfold ov;by_cases aF:x<15
        ·have dr:x<bA.length:=aF
         have d1:decide ((x:Int)<15)=true:=by simp;omega
         have Cx:=qm dr;rw[qj dr]at hn;have ew:wr .i64 ((i:Int)+(bA[x].length:Int))=((i+bA[x].length:Nat):Int):=by rw[ea (by omega) (by omega)];omega
         simp only[go_sem,simprocAttr,d1,j9 dr];intro _;refine⟨by omega,fun _=>?_⟩;refine ba ?_;by_cases jL:i+bA[x].length<=s.length
         ·have d2:decide (((i+bA[x].length:Nat):Int)<=(s.length:Int))=true:=by simp;omega
          have et:(s.drop i).take (i+bA[x].length-i)=(s.drop i).take bA[x].length:=by congr 1;omega
          have ep:decide ((s.drop i).take bA[x].length=bA[x])=preB bA[x] (s.drop i):=rfl;cases hp:preB bA[x] (s.drop i)
          ·rw[hp]at hn
           simp only[go_sem,simprocAttr,ew,d2,j9 dr,et,ep,hp,cH x (by omega)];refine⟨by omega,by omega,by omega,x+1,⟨⟨by omega,by simpa using hn⟩,rfl⟩,by omega⟩
          ·rw[hp,if_pos rfl]at hn
           simp only[go_sem,simprocAttr,ew,d2,j9 dr,et,ep,hp];rw[<-hn,if_neg (CC dr)];exact⟨by omega,by omega,by omega,by omega,⟨0,rfl⟩,_,rfl⟩
         ·have d2:decide (((i+bA[x].length:Nat):Int)<=(s.length:Int))=false:=by simp;omega
          have hp:preB bA[x] (s.drop i)=false:=by
           unfold preB;refine decide_eq_false fun h=>?_
           have:=congrArg List.length h;rw[List.length_take,List.length_drop]at this;omega
          rw[hp]at hn;simp only[go_sem,simprocAttr,ew,d2,cH x (by omega)];exact⟨x+1,⟨⟨by omega,by simpa using hn⟩,rfl⟩,by omega⟩
        ·have d1:decide ((x:Int)<15)=false:=by simp;omega
         have:bA.drop x=[]:=List.drop_of_length_le (by have:bA.length=15:=rfl;omega);rw[this,eP]at hn;simp only[go_sem,simprocAttr,d1];intro _;simp only[<-hn,if_pos];exact⟨⟨(i:Int),rfl⟩,_,rfl⟩
      ·rw[if_pos (of_decide_eq_true gk)]
       simp only[go_sem,simprocAttr,gk];refine(KC hs hi _).mono ?_;rintro r H2 ⟨⟨e',rfl⟩,G,rfl⟩;rcases qe s i with⟨t,e⟩|c
       ·simp only[go_sem,simprocAttr,im,Tok.cells]
        exact⟨⟨0,rfl⟩,_,rfl⟩
       ·simp only[go_sem,simprocAttr,im]
        exact⟨⟨e',rfl⟩,_,rfl⟩
   ·simp only[go_sem,simprocAttr,ux]
    rw[if_pos (by simp)];refine(F5 hs hi _).mono ?_;rintro r H2 ⟨⟨e',rfl⟩,G,rfl⟩;rcases fb s i s[i]with⟨t,e⟩|c
    ·simp only[go_sem,simprocAttr,im,Tok.cells]
     exact⟨⟨0,rfl⟩,_,rfl⟩
    ·simp only[go_sem,simprocAttr,im]
     exact⟨⟨e',rfl⟩,_,rfl⟩
  ·simp only[go_sem,simprocAttr,Cx]
   rw[if_pos (by simp)];refine(F5 hs hi _).mono ?_;rintro r H2 ⟨⟨e',rfl⟩,G,rfl⟩;rcases fb s i s[i]with⟨t,e⟩|c
   ·simp only[go_sem,simprocAttr,im,Tok.cells]
    exact⟨⟨0,rfl⟩,_,rfl⟩
   ·simp only[go_sem,simprocAttr,im]
    exact⟨⟨e',rfl⟩,_,rfl⟩
 ·rw[if_pos rfl]
  simp only[go_sem,simprocAttr,hd];refine(Sd hs hi _).mono ?_;rintro r H2 ⟨⟨e',rfl⟩,G,rfl⟩;rcases rm s i s[i]with⟨t,e⟩|c
  ·simp only[go_sem,simprocAttr,im,Tok.cells]
   exact⟨⟨0,rfl⟩,_,rfl⟩
  ·simp only[go_sem,simprocAttr,im]
   exact⟨⟨e',rfl⟩,_,rfl⟩
theorem uA {n id ver sz:Nat} {H:List AO} (hn:n<=id) (h:H[id]?=some (.rows sz ver [])):bI n H (.gs id ver 0 0) (.p (.l [])):=by
 have:=cS (ys:=[]) hn h (by simp);exact this
theorem ac5 {s:List UInt8} {H0:List AO} (hs:s.length<=1099511627776):al Tryz.prog 33 [.p (.s s)] H0 (aP (xc (kX s)) H0):=by
 refine nN ?_;refine call33 (by simp) ?_;unfold kX;by_cases hl:4000<s.length
 ·have d1:decide ((4000:Int)<(s.length:Int))=true:=by simp;omega
  simp only[go_sem,simprocAttr,Na,Rz,d1];intro _;rw[if_pos hl];exact⟨_,rfl,gZ (uA (by omega) (by rw[eZ];rfl)) (mZ _ _)⟩
 ·have d1:decide ((4000:Int)<(s.length:Int))=false:=by simp;omega
  simp only[go_sem,simprocAttr,Na,Rz,d1];intro _;rw[if_neg hl];generalize hR:dE s 1200 0 []=R;refine U (Sb hs (i:=0) (Nat.zero_le _) _) ?_;obtain⟨g1,g2,g3,g4⟩:=ER (s:=s) (most:=1200) (out:=[]) s.length 0 (by omega) (Nat.zero_le _);rw[g1]at hR;have rest:∀j,j<=s.length->∀out,dE s 1200 j out=dE s 1200 (dG s j) out/\j<=dG s j/\dG s j<=s.length/\∀(h:dG s j<s.length),Pg.blank s[dG s j]=false/\¬(s[dG s j].toNat:Int)=35:=fun j hj out=>ER s.length j (by omega) hj
  generalize dG s 0=i0 at hR g3 g4;simp only[go_sem,simprocAttr];refine⟨Nat×List Tok×AV×List AO,[0,2,3,4,5],fun x st=>((x.1<=s.length/\x.2.1.length<=x.1/\dE s 1200 x.1 x.2.1=R/\Ia H0 x.2.1 x.2.2.1 x.2.2.2)/\∀(h:x.1<s.length),Pg.blank s[x.1]=false/\¬(s[x.1].toNat:Int)=35)/\st=⟨[(0,.p (.s s)),(2,.p .nl),(3,.ptr H0.length 0),(4,x.2.2.1),(5,.p (.i .i64 x.1))],[],x.2.2.2⟩,fun x=>s.length-x.1,⟨(i0,[],.gs (H0.length+1) 0 0 0,H0++[.var [.p (.i .i64 0),.p (.i .i64 0)],.rows 4 0 []]),?_⟩,?_⟩
  ·simp only[go_sem,simprocAttr]
   refine⟨⟨g3,Nat.zero_le _,hR,⟨fun j o hj=>ag hj _,by rw[fX];rfl,.inr ⟨_,0,rfl,by rw[eZ];rfl⟩,?_⟩⟩,g4⟩;intro id v o m e;cases e;omega
  ·rintro⟨i,out,a,H⟩ _ ⟨⟨⟨h1,h2,h3,hI⟩,hbb⟩,rfl⟩
   simp only at h1 h2 h3 hI hbb⊢;by_cases aF:i<s.length
   ·have d1:decide ((i:Int)<(s.length:Int))=true:=by simp;omega
    obtain⟨hb,hc⟩:=hbb aF;simp only[go_sem,simprocAttr,d1];intro _;refine(ac4 hs aF H).mono ?_;rintro r H2 ⟨⟨e',rfl⟩,G,rfl⟩;rcases ht:iI s i s[i]with⟨t,e⟩|c
    ·obtain⟨k1,k2,_⟩:=rp aF ht
     simp only[go_sem,simprocAttr,im,Tok.cells];have vU:=hI.ext (G++[.var [.p (.i .i64 t.k),.p (.s t.t),.p (.i .i64 t.n),.p (.i .i64 t.p)]]);have zv:(H++(G++[.var [.p (.i .i64 t.k),.p (.s t.t),.p (.i .i64 t.n),.p (.i .i64 t.p)]]))[H.length+G.length]?=some (.var [.p (.i .i64 t.k),.p (.s t.t),.p (.i .i64 t.n),.p (.i .i64 t.p)]):=by rw[eZ];exact fX G _
     generalize H++(G++[.var [.p (.i .i64 t.k),.p (.s t.t),.p (.i .i64 t.n),.p (.i .i64 t.p)]])=H3 at vU zv⊢;generalize H.length+G.length=b at zv⊢;refine EP vU.out ?_;rw[e7];have z5:=vU.z5;have fr:=vU.fr;by_cases zo:out.length=1200
     ·have d2:decide ((out.length:Int)=1200)=true:=by simp;omega
      rw[lC aF hb hc ht zo]at h3;have z5':=ag z5 [AO.rows 4 0 []];have hz:∀o,((H3++[AO.rows 4 0 []]).set H0.length o)[H0.length]?=some o:=fun o=>aR z5'
      simp only[go_sem,simprocAttr,d2,z5',hz];rw[<-h3];obtain⟨G2,hG2⟩:=gH (H:=H0) (H':=(H3++[AO.rows 4 0 []]).set H0.length (.var [.p (.i .i64 5),.p (.i .i64 i)])) fun j o hj=>aM (ag (fr j o hj) _) (by have:=aT hj;omega)
      refine⟨G2,hG2,gZ (uA (ver:=0) (sz:=4) (by have:=aT z5;omega) (aM (by rw[fX];rfl) (by have:=aT z5;omega))) (mZ _ _)⟩
     ·have d2:decide ((out.length:Int)=1200)=false:=by simp;omega
      rw[mV aF hb hc ht zo]at h3;simp only[go_sem,simprocAttr,d2,zv];refine⟨by intro r hr;simp at hr;subst hr;rfl,?_⟩;refine gb (rs:=ox out) (ys:=[t.cells.map .p]) (vU.ext _).out (by rw[e7];simp;omega) (by rw[e7];simp;omega) ?_;intro id ver H4 k1 k2' k3 k4;rw[e7];have hJ:=(vU.ext _).app k1 k2' k3;simp only[go_sem,simprocAttr];refine U (Sb hs k2 _) ?_;obtain⟨q1,q2,q3,q4⟩:=rest e k2 (out++[t]);simp only[go_sem,simprocAttr];exact⟨(dG s e,out++[t],.gs id ver 0 (out.length+1),H4),⟨⟨⟨q3,by simp;omega,by rw[<-q1];exact h3,hJ⟩,q4⟩,rfl⟩,by simp only;omega⟩
    ·have yq:=Cz ht
     rw[pw aF hb hc ht]at h3;have vU:=hI.ext (G++[.var [.p (.i .i64 0),.p (.s []),.p (.i .i64 0),.p (.i .i64 0)],.rows 4 0 []]);simp only[go_sem,simprocAttr,im,yq];have z5:=vU.z5;have fr:=vU.fr;have zr:(H++(G++[.var [.p (.i .i64 0),.p (.s []),.p (.i .i64 0),.p (.i .i64 0)],.rows 4 0 []]))[H.length+(G.length+1)]?=some (.rows 4 0 []):=by rw[eZ,eZ];rfl
     have cG:H0.length<H.length:=aT hI.z5;generalize H++(G++[.var [.p (.i .i64 0),.p (.s []),.p (.i .i64 0),.p (.i .i64 0)],.rows 4 0 []])=H3 at z5 fr zr⊢;have hz:∀o,(H3.set H0.length o)[H0.length]?=some o:=fun o=>aR z5
     simp only[go_sem,simprocAttr,z5,hz];rw[<-h3];obtain⟨G2,hG2⟩:=gH (H:=H0) (H':=H3.set H0.length (.var [.p (.i .i64 c),.p (.i .i64 i)])) fun j o hj=>aM (fr j o hj) (by have:=aT hj;omega)
     exact⟨G2,hG2,gZ (uA (ver:=0) (sz:=4) (by omega) (aM zr (by omega))) (mZ _ _)⟩
   ·have d1:decide ((i:Int)<(s.length:Int))=false:=by simp;omega
    rw[jg aF]at h3;simp only[go_sem,simprocAttr,d1];intro _ _;refine⟨by intro r hr;simp at hr;subst hr;rfl,?_⟩;refine gb (rs:=ox out) (ys:=[Tok.cells ⟨8,[],0,s.length⟩|>.map .p]) (hI.ext _).out (by rw[e7];simp;omega) (by rw[e7];simp;omega) ?_;intro id ver H4 k1 k2 k3 k4;rw[e7];have hJ:=(hI.ext _).app k1 k2 k3;have z5:=hJ.z5;have hz:∀o,(H4.set H0.length o)[H0.length]?=some o:=fun o=>aR z5
    simp only[go_sem,simprocAttr,z5,hz];obtain⟨G,hG⟩:=gH (H:=H0) (H':=H4.set H0.length (.var [.p (.i .i64 0),.p (.i .i64 0)])) fun j o hj=>aM (hJ.fr j o hj) (by have:=aT hj;omega)
    rw[<-h3];refine⟨G,hG,gZ ?_ (mZ _ _)⟩;have hn:=hJ.new _ _ _ _ rfl;have:=CA (n:=H0.length) (l:=out++[⟨8,[],0,s.length⟩]) (Nat.le_of_lt hn) (H:=H4.set H0.length (.var [.p (.i .i64 0),.p (.i .i64 0)])) (id:=id) (ver:=ver) (aM (by rw[xb];exact k1) (by omega));simpa using this
end Go.Proofs.YteilijfligofdaaGreatDoor.Qp
set_option linter.all false
set_option maxRecDepth 100000
namespace Go.Proofs.YteilijfligofdaaGreatDoor.Mc
open Go.AM
def Se:bz (Tryz.f17.body.map (compile [0,2,3,4,5,6,7,15,28] Tryz.prog 36)):=⟨_,by conv=>lhs;cbv⟩
def aaL:List MR:=[.cell true 8 2,.cell true 2 3]
theorem call17:ax Tryz.prog 17 36 Se.m aaL:=Se.call Tryz.func17 (by kernel_rfl)
def Sf:bz (Tryz.f34.body.map (compile [0,2,3,6] Tryz.prog 12)):=⟨_,by conv=>lhs;cbv⟩
def aaM:List MR:=[.cell true 7 2]
theorem call34:ax Tryz.prog 34 12 Sf.m aaM:=Sf.call Tryz.func34 (by kernel_rfl)
def Sg:bz (Tryz.f35.body.map (compile [0,2] Tryz.prog 13)):=⟨_,by conv=>lhs;cbv⟩
def aaN:List MR:=[.cell true 4 2]
theorem call35:ax Tryz.prog 35 13 Sg.m aaN:=Sg.call Tryz.func35 (by kernel_rfl)
def Nf:bz (Tryz.f36.body.map (compile [0,1,9] Tryz.prog 18)):=⟨_,by conv=>lhs;cbv⟩
def Sh:List MR:=[]
theorem call36:ax Tryz.prog 36 18 Nf.m Sh:=Nf.call Tryz.func36 (by kernel_rfl)
def Si:bz (Tryz.f49.body.map (compile [0,2,3,6,28] Tryz.prog 32)):=⟨_,by conv=>lhs;cbv⟩
def aaO:List MR:=[.cell true 8 2]
theorem call49:ax Tryz.prog 49 32 Si.m aaO:=Si.call Tryz.func49 (by kernel_rfl)
def Sj:bz (Tryz.f95.body.map (compile [0,2,19,46] Tryz.prog 60)):=⟨_,by conv=>lhs;cbv⟩
def aaP:List MR:=[.t 2]
theorem call95:ax Tryz.prog 95 60 Sj.m aaP:=Sj.call Tryz.func95 (by kernel_rfl)
def Sk:bz (Tryz.f96.body.map (compile [0,2,3,10,15,22,44,60,89,112] Tryz.prog 123)):=⟨_,by conv=>lhs;cbv⟩
def aaQ:List MR:=[.cell true 7 2]
theorem call96:ax Tryz.prog 96 123 Sk.m aaQ:=Sk.call Tryz.func96 (by kernel_rfl)
def Sl:bz (Tryz.f97.body.map (compile [0] Tryz.prog 10)):=⟨_,by conv=>lhs;cbv⟩
def aaR:List MR:=[]
theorem call97:ax Tryz.prog 97 10 Sl.m aaR:=Sl.call Tryz.func97 (by kernel_rfl)
def KD:bz (Tryz.f109.body.map (compile [0,1,4,5] Tryz.prog 30)):=⟨_,by conv=>lhs;cbv⟩
def Sm:List MR:=[.t 4]
theorem call109:ax Tryz.prog 109 30 KD.m Sm:=KD.call Tryz.func109 (by kernel_rfl)
def KE:bz (Tryz.f110.body.map (compile [0,2,3,21,42] Tryz.prog 53)):=⟨_,by conv=>lhs;cbv⟩
def Sn:List MR:=[.cell true 4 2]
theorem call110:ax Tryz.prog 110 53 KE.m Sn:=KE.call Tryz.func110 (by kernel_rfl)
def KG:bz (Tryz.f141.body.map (compile [0,1,4,7] Tryz.prog 16)):=⟨_,by conv=>lhs;cbv⟩
def So:List MR:=[.t 4]
theorem call141:ax Tryz.prog 141 16 KG.m So:=KG.call Tryz.func141 (by kernel_rfl)
def KH:bz (Tryz.f142.body.map (compile [0,1,4,5,19] Tryz.prog 32)):=⟨_,by conv=>lhs;cbv⟩
def Sp:List MR:=[.t 4]
theorem call142:ax Tryz.prog 142 32 KH.m Sp:=KH.call Tryz.func142 (by kernel_rfl)
def KI:bz (Tryz.f143.body.map (compile [0,1,7] Tryz.prog 10)):=⟨_,by conv=>lhs;cbv⟩
def Sq:List MR:=[]
theorem call143:ax Tryz.prog 143 10 KI.m Sq:=KI.call Tryz.func143 (by kernel_rfl)
def KJ:bz (Tryz.f144.body.map (compile [0,2,3] Tryz.prog 13)):=⟨_,by conv=>lhs;cbv⟩
def Sr:List MR:=[.cell true 12 2]
theorem call144:ax Tryz.prog 144 13 KJ.m Sr:=KJ.call Tryz.func144 (by kernel_rfl)
def xd:bz (Tryz.f145.body.map (compile [0,1,4,5,6,8,17,40] Tryz.prog 42)):=⟨_,by conv=>lhs;cbv⟩
def zU:List MR:=[.cell true 7 4]
theorem call145:ax Tryz.prog 145 42 xd.m zU:=xd.call Tryz.func145 (by kernel_rfl)
def KK:bz (Tryz.f152.body.map (compile [0,2,3,11] Tryz.prog 17)):=⟨_,by conv=>lhs;cbv⟩
def Ss:List MR:=[.cell true 7 2]
theorem call152:ax Tryz.prog 152 17 KK.m Ss:=KK.call Tryz.func152 (by kernel_rfl)
def KL:bz (Tryz.f169.body.map (compile [0,2,3,4,7,18] Tryz.prog 26)):=⟨_,by conv=>lhs;cbv⟩
def Su:List MR:=[.cell true 5 2]
theorem call169:ax Tryz.prog 169 26 KL.m Su:=KL.call Tryz.func169 (by kernel_rfl)
def KM:bz (Tryz.f170.body.map (compile [0,2,3,7] Tryz.prog 16)):=⟨_,by conv=>lhs;cbv⟩
def Sv:List MR:=[.cell true 7 2]
theorem call170:ax Tryz.prog 170 16 KM.m Sv:=KM.call Tryz.func170 (by kernel_rfl)
def KN:bz (Tryz.f171.body.map (compile [0,1,4,5] Tryz.prog 31)):=⟨_,by conv=>lhs;cbv⟩
def Sw:List MR:=[.t 4]
theorem call171:ax Tryz.prog 171 31 KN.m Sw:=KN.call Tryz.func171 (by kernel_rfl)
def KO:bz (Tryz.f175.body.map (compile [0,2,3,6,10] Tryz.prog 21)):=⟨_,by conv=>lhs;cbv⟩
def Sx:List MR:=[.cell true 4 2]
theorem call175:ax Tryz.prog 175 21 KO.m Sx:=KO.call Tryz.func175 (by kernel_rfl)
def KP:bz (Tryz.f192.body.map (compile [0,2,3,4,6,9] Tryz.prog 11)):=⟨_,by conv=>lhs;cbv⟩
def Sy:List MR:=[.t 2]
theorem call192:ax Tryz.prog 192 11 KP.m Sy:=KP.call Tryz.func192 (by kernel_rfl)
def KQ:bz (Tryz.f187.body.map (compile [0,2,3,4,5,10,29,39,46,54,62,70,75,87,89] Tryz.prog 94)):=⟨_,by conv=>lhs;cbv⟩
def Sz:List MR:=[.cell true 5 2]
theorem call187:ax Tryz.prog 187 94 KQ.m Sz:=KQ.call Tryz.func187 (by kernel_rfl)
def KR:bz (Tryz.f188.body.map (compile [0,2,3] Tryz.prog 41)):=⟨_,by conv=>lhs;cbv⟩
def SA:List MR:=[.t 2]
theorem call188:ax Tryz.prog 188 41 KR.m SA:=KR.call Tryz.func188 (by kernel_rfl)
def KS:bz (Tryz.f189.body.map (compile [0,2,3,4,27,52] Tryz.prog 58)):=⟨_,by conv=>lhs;cbv⟩
def SB:List MR:=[.cell true 7 2]
theorem call189:ax Tryz.prog 189 58 KS.m SB:=KS.call Tryz.func189 (by kernel_rfl)
def KT:bz (Tryz.f190.body.map (compile [0,2,3] Tryz.prog 45)):=⟨_,by conv=>lhs;cbv⟩
def SC:List MR:=[.t 2]
theorem call190:ax Tryz.prog 190 45 KT.m SC:=KT.call Tryz.func190 (by kernel_rfl)
def KU:bz (Tryz.f191.body.map (compile [0,2,3,4,5,10,29,39,46,54,62,70,78,86,98,100] Tryz.prog 105)):=⟨_,by conv=>lhs;cbv⟩
def SE:List MR:=[.cell true 7 2]
theorem call191:ax Tryz.prog 191 105 KU.m SE:=KU.call Tryz.func191 (by kernel_rfl)
def SF:bz (Tryz.f73.body.map (compile [0,2] Tryz.prog 29)):=⟨_,by conv=>lhs;cbv⟩
def aaS:List MR:=[.t 2]
theorem call73:ax Tryz.prog 73 29 SF.m aaS:=SF.call Tryz.func73 (by kernel_rfl)
def KV:bz (Tryz.f196.body.map (compile [0,2,3,4,9,17] Tryz.prog 26)):=⟨_,by conv=>lhs;cbv⟩
def SG:List MR:=[.cell true 4 2]
theorem call196:ax Tryz.prog 196 26 KV.m SG:=KV.call Tryz.func196 (by kernel_rfl)
def SH:bz (Tryz.f74.body.map (compile [0,2] Tryz.prog 21)):=⟨_,by conv=>lhs;cbv⟩
def aaT:List MR:=[.t 2]
theorem call74:ax Tryz.prog 74 21 SH.m aaT:=SH.call Tryz.func74 (by kernel_rfl)
def KW:bz (Tryz.f206.body.map (compile [0,2,3,4,8,19,21] Tryz.prog 30)):=⟨_,by conv=>lhs;cbv⟩
def SI:List MR:=[.cell true 4 2]
theorem call206:ax Tryz.prog 206 30 KW.m SI:=KW.call Tryz.func206 (by kernel_rfl)
def F6:bz (Tryz.f214.body.map (compile [0,2,3,4,7,32] Tryz.prog 64)):=⟨_,by conv=>lhs;cbv⟩
def KX:List MR:=[.cell true 4 2]
theorem call214:ax Tryz.prog 214 64 F6.m KX:=F6.call Tryz.func214 (by kernel_rfl)
def KY:bz (Tryz.f215.body.map (compile [0,2,3] Tryz.prog 25)):=⟨_,by conv=>lhs;cbv⟩
def SJ:List MR:=[.t 2]
theorem call215:ax Tryz.prog 215 25 KY.m SJ:=KY.call Tryz.func215 (by kernel_rfl)
end Go.Proofs.YteilijfligofdaaGreatDoor.Mc
namespace Go.Proofs.YteilijfligofdaaGreatDoor.Qp
open Go.AM Mc Pg
theorem lq (H A:List AO) (p:Nat) (c:AO) (k:Nat):(H.set p c++A)[H.length+k]?=A[k]?:=by
 have:=eZ (H.set p c) A k;rwa[List.length_set]at this
theorem qx0 (H A:List AO) (p:Nat) (c:AO):(H.set p c++A)[H.length]?=A[0]?:=lq H A p c 0
theorem qsk (H A:List AO) (p:Nat) (c:AO) (k:Nat) (o:AO):(H.set p c++A).set (H.length+k) o=H.set p c++A.set k o:=by
 have:=p4 (H.set p c) A k o;rwa[List.length_set]at this
theorem qs0 (H A:List AO) (p:Nat) (c:AO) (o:AO):(H.set p c++A).set H.length o=H.set p c++A.set 0 o:=qsk H A p c 0 o
attribute [go_sem] lq qx0 qsk qs0 List.length_set
theorem qp {H:List AO} {p:Nat} (hp:p<H.length) (A:List AO) (c:AO):(H.set p c++A)[p]?=some c:=by
 rw[List.getElem?_append_left (by simpa using hp)];simp[hp]
theorem kP {H:List AO} {p:Nat} (hp:p<H.length) (c:AO):(H.set p c)[p]?=some c:=by simp[hp]
theorem qq {H:List AO} {p:Nat} (hp:p<H.length) (A:List AO) (c d:AO):(H.set p c++A).set p d=H.set p d++A:=by
 rw[List.set_append_left _ _ (by simpa using hp),List.set_set]
theorem qS (H:List AO) (p:Nat) (c d:AO):(H.set p c).set p d=H.set p d:=by simp
def Ok (T:List Tok) (e:Nat) (s:PS):Prop:=s.i<T.length/\s.nest=e
theorem Ok.of {T:List Tok} {lim:Nat} {s t:PS} (h:Ok T lim s) (k:zL T s t):Ok T lim t:=⟨k.2.1,by rw[k.2.2.2];exact h.2⟩
theorem Ok.step {T:List Tok} {lim:Nat} {s:PS} {f:PS->PS} (h:Ok T lim s) (k:gR T f):Ok T lim (f s):=h.of (k s h.1)
theorem Ok.run {T:List Tok} {lim:Nat} {s:PS} {α:Type} {m:PM α} (h:Ok T lim s) (k:ab T m):Ok T lim (m s).2:=h.of (k s h.1)
theorem Ok.aE {T:List Tok} {lim:Nat} {s:PS} (hT:bH T) (h:Ok T lim s) (hk:(aD T s).k≠8):Ok T lim (Pg.aE s):=⟨si hT h.1 hk,h.2⟩
def PF (pv:PS->AO) (T:List Tok) (lim:Nat) (f:Nat) (xs:List AV) {α:Type} (m:PM α) (V:α->AV):Prop :=
 ∀(H A:List AO) (p:Nat) (s:PS),p<H.length->Ok T lim s->al Tryz.prog f (.ptr p 0::xs) (H.set p (pv s)++A) (aP (V (m s).1) (H.set p (pv (m s).2)++A))
theorem PF.nil {pv:PS->AO} {T:List Tok} {lim:Nat} {f:Nat} {xs:List AV} {α:Type} {m:PM α} {V:α->AV} (h:PF pv T lim f xs m V) {H:List AO} {p:Nat} {s:PS} (hp:p<H.length) (hs:Ok T lim s):
  al Tryz.prog f (.ptr p 0::xs) (H.set p (pv s)) (aP (V (m s).1) (H.set p (pv (m s).2))):=by
 have:=h H [] p s hp hs;rwa[List.append_nil,List.append_nil]at this
theorem KZ {f:Nat} {xs:List AV} {c c':AO} {x:AV} (hc:∀q,rj q c'->Tf q)
  (h:∀(H:List AO) (p:Nat),p<H.length->al Tryz.prog f (.ptr p 0::xs) (H.set p c) (fun r H'=>∃G,H'=H.set p c'++G/\bI H.length H' r x)):
  ∀(H A:List AO) (p:Nat),p<H.length->al Tryz.prog f (.ptr p 0::xs) (H.set p c++A) (aP x (H.set p c'++A)):=by
 intro H A p hp;have e:∀c,H.set p c++A=(H++A).set p c:=fun c=>by rw[List.set_append_left _ _ hp]
 rw[e,e];have h1:=h (H++A) p (by simp;omega)
 have h2:=Cl (i:=p) (o:=c) (o':=c') (x:=x) (H:=(H++A).set p c) (f:=f) (args:=.ptr p 0::xs) (P:=Tryz.prog)
  (h1.mono (by rintro r H' ⟨G,rfl,hl⟩;exact⟨G,by rw[qS],by rw[List.length_set];exact hl⟩)) (kP (by rw[List.length_append];omega) _) (fun q hq=>.inl (hc q hq))
 rwa[qS]at h2
theorem dm {pv:PS->AO} (hpv:∀s c,rj c (pv s)->Tf c) {T:List Tok} {lim:Nat} {f:Nat} {xs:List AV} {α:Type} {m:PM α} {V:α->AV}
  (h:∀(H:List AO) (p:Nat) (s:PS),p<H.length->Ok T lim s->al Tryz.prog f (.ptr p 0::xs) (H.set p (pv s)) (fun r H'=>∃G,H'=H.set p (pv (m s).2)++G/\bI H.length H' r (V (m s).1))):PF pv T lim f xs m V:=
 fun H A p s hp hs=>KZ (hpv _) (fun H p hp=>h H p s hp hs) H A p hp
abbrev yt (T:List Tok):AV:=.p (.l (T.map Tok.cells))
abbrev iV (n:Int):AV:=.p (.i .i64 n)
def bG (T:List Tok) (lim:Nat) (s:PS):AO:=.var [yt T,iV s.i,iV s.nest,iV s.d,iV lim,iV s.c,iV s.ps]
theorem dt (T lim s c) (h:rj c (bG T lim s)):Tf c:=by
 simp only[bG,rj,List.mem_cons,List.not_mem_nil,or_false]at h;rcases h with rfl|rfl|rfl|rfl|rfl|rfl|rfl<;>exact bw _
abbrev bV (b:Bool):AV:=.p (.b b)
abbrev uV (_:Unit):AV:=.dK []
abbrev sV (s:List UInt8):AV:=.p (.s s)
abbrev sy (g:PS->Bool):PM Bool:=fun s=>(g s,s)
abbrev CD (f:PS->PS):PM Unit:=fun s=>((),f s)
abbrev aaU (T:List Tok):PM Tok:=fun s=>(aD T s,s)
abbrev di (T:List Tok) (x:List UInt8):PM Bool:=fun s=>if aH T x s then(true,aE s)else(false,s)
section
variable {T:List Tok} {lim e:Nat}
theorem CE {s:PS} (h:s.i<T.length):(T.map Tok.cells)[s.i]?=some (aD T s).cells:=by
 simp[aD,h]
theorem aZ {n:Nat} {H:List AO} {x:AV} (h:Tf x):bI n H x x:=.tf _ h
theorem kb:PF (bG T lim) T e 35 [] (aaU T) tv:=by
 refine dm (dt T lim) fun H p s hp hs=>?_
 have aF:decide ((s.i:Int)<(T.length:Int))=true:=by simp;exact hs.1
 have hg:=CE hs.1;refine call35 (by simp) ?_;simp only[go_sem,simprocAttr,Sg,aaN];refine ba ?_;simp only[go_sem,simprocAttr,qp hp,bG,List.length_map,aF,hg,Tok.cells];exact⟨_,rfl,aZ (dP (aD T s).cells)⟩
theorem ws {s:PS} (hT:T.length<=1073741825) (hs:Ok T e s):wr .i64 ((s.i:Int)+1)=((s.i+1:Nat):Int):=cH _ (by have:=hs.1;omega)
theorem Bb (x:List UInt8):PF (bG T lim) T e 109 [sV x] (sy (aH T x)) bV:=by
 refine dm (dt T lim) fun H p s hp hs=>?_
 refine call109 (by simp) ?_;simp only[go_sem,simprocAttr,KD,Sm];refine U (kb.nil hp hs) ?_;have eT:aH T x s=(decide (s.c=0)&&(decide ((aD T s).k=6)||decide ((aD T s).k=7))&&decide ((aD T s).t=x)):=rfl;rw[eT];simp only[go_sem,simprocAttr,qp hp,bG,Tok.cells];cases h0:decide (s.c=0)
 ·simp only[go_sem,simprocAttr,h0,Bool.false_and]
  exact⟨_,rfl,aZ (bw _)⟩
 cases h6:decide ((aD T s).k=6)
 ·cases h7:decide ((aD T s).k=7)
  ·simp only[go_sem,simprocAttr,h0,h6,h7,Bool.or_self,Bool.and_false,Bool.false_and]
   exact⟨_,rfl,aZ (bw _)⟩
  ·simp only[go_sem,simprocAttr,h0,h6,h7,Bool.false_or,Bool.and_true,Bool.true_and]
   exact⟨_,rfl,aZ (bw _)⟩
 ·simp only[go_sem,simprocAttr,h0,h6,Bool.true_or,Bool.and_true,Bool.true_and]
  exact⟨_,rfl,aZ (bw _)⟩
theorem sE (c:Int):PF (bG T lim) T e 36 [iV c] (CD (dI T c)) uV:=by
 refine dm (dt T lim) fun H p s hp hs=>?_
 refine call36 (by simp) ?_;cases h0:decide (s.c=0)
 ·simp only[go_sem,simprocAttr,Nf,Sh,kP hp,bG,h0]
  rw[rq (of_decide_eq_false h0)];exact⟨[],by simp,aZ (mf _ (by simp))⟩
 ·simp only[go_sem,simprocAttr,Nf,Sh,kP hp,bG,h0]
  refine U (kb.nil hp hs) ?_;rw[iJ (of_decide_eq_true h0)];simp only[go_sem,simprocAttr,kP hp,bG,Tok.cells,qS];exact⟨[],by simp,aZ (mf _ (by simp))⟩
theorem nZ (aK:T.length<=1073741825) (x:List UInt8):PF (bG T lim) T e 141 [sV x] (di T x) bV:=by
 refine dm (dt T lim) fun H p s hp hs=>?_
 refine call141 (by simp) ?_;simp only[go_sem,simprocAttr,KG,So];refine U ((Bb x).nil hp hs) ?_;unfold di;cases h:aH T x s
 ·simp only[go_sem,simprocAttr,h]
  exact⟨[],by simp,aZ (bw _)⟩
 ·simp only[go_sem,simprocAttr,h,kP hp,bG,qS,ws aK hs]
  exact⟨[],by simp[aE],aZ (bw _)⟩
theorem gY (aK:T.length<=1073741825) (x:List UInt8):PF (bG T lim) T e 143 [sV x] (CD (aS T x)) uV:=by
 refine dm (dt T lim) fun H p s hp hs=>?_
 refine call143 (by simp) ?_;simp only[go_sem,simprocAttr,KI,Sq];refine U ((nZ aK x).nil hp hs) ?_;unfold di aS;cases h:aH T x s
 ·simp only[go_sem,simprocAttr,h]
  refine U ((sE 11).nil hp hs) ?_;simp only[go_sem,simprocAttr];exact⟨[],by simp,aZ (mf _ (by simp))⟩
 ·simp only[go_sem,simprocAttr,h]
  exact⟨[],by simp,aZ (mf _ (by simp))⟩
theorem uB (aK:T.length<=1073741825) (k:Int):PF (bG T lim) T e 142 [iV k] (cU T k) sV:=by
 refine dm (dt T lim) fun H p s hp hs=>?_
 refine call142 (by simp) ?_;simp only[go_sem,simprocAttr,KH,Sp];refine U (kb.nil hp hs) ?_;unfold cU bp;simp only[go_sem,simprocAttr,qp hp,bG,Tok.cells];cases h0:decide (s.c=0)
 ·simp only[go_sem,simprocAttr,h0,Bool.false_and]
  refine U (sE 11 H _ p s hp hs) ?_;simp only[go_sem,simprocAttr];exact⟨_,rfl,aZ (bw _)⟩
 cases h6:decide ((aD T s).k=k)
 ·simp only[go_sem,simprocAttr,h0,h6,Bool.and_false]
  refine U (sE 11 H _ p s hp hs) ?_;simp only[go_sem,simprocAttr];exact⟨_,rfl,aZ (bw _)⟩
 ·simp only[go_sem,simprocAttr,h0,h6,Bool.and_true,qp hp,qq hp,bG,ws aK hs]
  exact⟨_,rfl,aZ (bw _)⟩
theorem vC {s s1:PS} (h:(if s.c=0/\s.nest=lim then dI T 12 s else s)=s1):cz T lim s=if s1.c=0/\s1.d<s1.nest+1 then{s1 with nest:=s1.nest+1,d:=s1.nest+1}else{s1 with nest:=s1.nest+1}:=by subst h;rfl
theorem F7 (hl:lim<=1099511627776) (he:e<=lim):∀(H A:List AO) (p:Nat) (s:PS),p<H.length->Ok T e s->al Tryz.prog 95 [.ptr p 0] (H.set p (bG T lim s)++A) (aP (.p (.b (decide ((cz T lim s).c=0)))) (H.set p (bG T lim (cz T lim s))++A)):=by
 have key:PF (bG T lim) T e 95 [] (fun s=>(decide ((cz T lim s).c=0),cz T lim s)) bV:=by
  refine dm (dt T lim) fun H p s hp hs=>?_
  have hn:=hs.2;have en:wr .i64 ((s.nest:Int)+1)=((s.nest+1:Nat):Int):=cH _ (by omega);refine call95 (by simp) ?_;simp only[go_sem,simprocAttr,Sj,aaP];refine ba ?_;simp only[go_sem,simprocAttr,kP hp,bG];cases h0:decide (s.c=0)
  ·have zp:=of_decide_eq_false h0
   rw[yh zp];simp only[go_sem,simprocAttr,h0,kP hp,qS,en];refine ba ?_;simp only[go_sem,simprocAttr,h0,kP hp,qS];exact⟨[],by simp,aZ (bw _)⟩
  ·have zp:=of_decide_eq_true h0
   by_cases hd:s.nest=lim
   ·have d1:decide ((s.nest:Int)=(lim:Int))=true:=by simp;omega
    simp only[go_sem,simprocAttr,h0,d1,kP hp];refine U ((sE 12).nil hp hs) ?_
    have e1:cz T lim s={dI T 12 s with nest:=s.nest+1}:=by
     rw[vC (if_pos ⟨zp,hd⟩),iJ zp,if_neg (fun h=>absurd h.1 (show ¬((12:Int)=0)by decide))]
    have hf:=iJ (T:=T) (c:=12) zp;have e2:cz T lim s={s with c:=12,ps:=(aD T s).p,nest:=s.nest+1}:=by rw[e1,hf]
    rw[e2];simp only[CD,hf];simp only[go_sem,simprocAttr,kP hp,bG,qS,en];refine ba ?_;simp only[go_sem,simprocAttr,kP hp,qS];exact⟨[],by simp,aZ (bw _)⟩
   ·have d1:decide ((s.nest:Int)=(lim:Int))=false:=by simp;omega
    have e1:cz T lim s=if s.d<s.nest+1 then{s with nest:=s.nest+1,d:=s.nest+1}else{s with nest:=s.nest+1}:=by
     rw[vC (if_neg fun h=>hd h.2)];simp only[zp,true_and]
    rw[e1];simp only[go_sem,simprocAttr,h0,d1,kP hp,qS,en];refine ba ?_;by_cases hdd:s.d<s.nest+1
    ·have d2:decide ((s.d:Int)<((s.nest+1:Nat):Int))=true:=by simp;omega
     rw[if_pos hdd];simp only[go_sem,simprocAttr,h0,d2,kP hp,qS];exact⟨[],by simp,aZ (bw _)⟩
    ·have d2:decide ((s.d:Int)<((s.nest+1:Nat):Int))=false:=by simp;omega
     rw[if_neg hdd];simp only[go_sem,simprocAttr,h0,d2,kP hp,qS];exact⟨[],by simp,aZ (bw _)⟩
 exact key
theorem sF (hl:lim<=1099511627776):∀(H A:List AO) (p:Nat) (s:PS),p<H.length->s.i<T.length->0<s.nest->s.nest<=lim+1->al Tryz.prog 97 [.ptr p 0] (H.set p (bG T lim s)++A) (aP (.dK []) (H.set p (bG T lim (shut s))++A)):=by
 intro H A p s hp hi h1 h2;have en:wr .i64 ((s.nest:Int)-1)=((s.nest-1:Nat):Int):=by rw[ea (by omega) (by omega)];omega
 refine call97 (by simp) ?_;simp only[go_sem,simprocAttr,Sl,aaR,qp hp,qq hp,bG,en];exact⟨rfl,rfl⟩
end
end Go.Proofs.YteilijfligofdaaGreatDoor.Qp
namespace Go.Proofs.YteilijfligofdaaGreatDoor.Pg
open Go.AM
def tu (q:UInt8->Bool) (s:List UInt8):Bool:=match s with
 |[]=>false
 |c::_=>decide (s.length<=12)&&(q c&&decide (bo cx s 0=s.length))
def mE (s:List UInt8):Bool:=tu gq s&& !isKey s
def K0 (s:List UInt8):Bool:=tu ig s
def K2 (c:UInt8):Bool:=ub c||decide ((c.toNat:Int)=10)
def qo (s:List UInt8):Bool:=s.all K2
def CH (s:List UInt8):Bool:=decide (s∈[[43],[45],[42],[94],[61],[60],[58,61]])
def uC (s:List UInt8):Bool:=decide (s∈[[112,114,105,110,116],[101,120,105,116],[115,105,122,101],[114,101,102],[33]])
def arity (s:List UInt8):Int:=if s=[114,101,97,100]then 0 else if uC s then 1 else -1
def mF (k:Int) (n:List UInt8) (u p m:Int):Bool:=
  (if k=1∨k=5 then decide (m=0)&&(decide (n=[])&&decide (u=0))
   else if k=2 then decide (m=0)&&(mE n&&decide (u=0))
   else if k=3 then decide (m=0)&&(decide (n=[])&&decide (0≤u))
   else if k=4 then decide (m=0)&&(decide (n=[])&&(decide (0≤u)&&decide (u≤1)))
   else if k=6 then decide (2≤m)&&(decide (n=[])&&decide (u=0))
   else if k=7 then decide (m≤1)&&(K0 n&&decide (u=0))
   else false)&&decide (0≤p)
mutual
def ae.okB:ae->Bool
 | .mk k n u p ks=>mF k n u p ks.length&&ae.eC ks
def ae.eC:List ae->Bool
 |[]=>true
 |t::l=>t.okB&&ae.eC l
end
def tc (k:Int) (n:List UInt8) (p m:Int):Bool:=
  (if k=1 then mE n
   else if k=2 then decide (m=0)&&tu gq n
   else if k=3 then decide (m=2)&&decide (n=[])
   else if k=4 then decide (2≤m)&&decide (n=[])
   else if k=5 then decide (m=1)&&decide (n=[])
   else false)&&decide (0≤p)
mutual
def af.okB:af->Bool
 | .mk k n p ks=>tc k n p ks.length&&af.eC ks
def af.eC:List af->Bool
 |[]=>true
 |t::l=>t.okB&&af.eC l
end
def gS (k:Int) (n:List UInt8) (u:Int) (t:List UInt8) (p m a:Int):Bool:=
  (if k=1 then decide (m=0)&&(decide (n=[])&&(decide (0≤u)&&decide (t=[])))
   else if k=2 then decide (m=0)&&(decide (n=[])&&(decide (u=0)&&qo t))
   else if k=3 then decide (m=0)&&(decide (n=[])&&((decide (0≤u)&&decide (u≤1))&&decide (t=[])))
   else if k=4 then decide (m=0)&&(decide (n=[])&&(decide (u=0)&&decide (t=[])))
   else if k=5 then decide (m=0)&&(mE n&&(decide (u=0)&&decide (t=[])))
   else if k=6 then decide (m≤1)&&(K0 n&&(decide (u=0)&&decide (t=[])))
   else if k=7 then decide (2≤m)&&(decide (n=[])&&(decide (u=0)&&decide (t=[])))
   else if k=8 then decide (m=1)&&(mE n&&(decide (u=0)&&decide (t=[])))
   else if k=9 then decide (m=2)&&(decide (n=[])&&(decide (u=0)&&decide (t=[])))
   else if k=10 then decide (m=2)&&(mE n&&(decide (u=0)&&decide (t=[])))
   else if k=11 then decide (m=2)&&(mE n&&(decide (u=0)&&mE t))
   else if k=12 then decide (m=3)&&(decide (n=[])&&(decide (u=0)&&decide (t=[])))
   else if k=13 then decide (m=1)&&(decide (n=[])&&(decide (u=0)&&decide (t=[])))
   else if k=14 then decide (m=2)&&(CH n&&(decide (u=0)&&decide (t=[])))
   else if k=15 then decide (m=arity n)&&(decide (u=0)&&decide (t=[]))
   else false)&&(decide (0≤p)&&(decide (k=13)==decide (0<a)))
mutual
def aa.okB:aa->Bool
 | .mk k n u t p ks bf=>gS k n u t p ks.length bf.length&&(aa.eC ks&&aa.p5 bf)
def aa.eC:List aa->Bool
 |[]=>true
 |t::l=>t.okB&&aa.eC l
def ar.okB:ar->Bool
 | .mk p e=>p.okB&&e.okB
def aa.p5:List ar->Bool
 |[]=>true
 |t::l=>t.okB&&aa.p5 l
end
def af.Ic:af->Bool
 | .mk k n p ks=>decide (k=0)&&(decide (n=[])&&(decide (p=0)&&decide (ks.length=0)))
def ai.okB (c:ai):Bool:=K0 c.name&&(!decide (c.pos<0)&&(if c.has then c.arg.okB else c.arg.Ic))
def ao.okB (d:ao):Bool:=mE d.name&&(decide (0<=d.pos)&&(decide (0<(d.ctors.length:Int))&&(d.vars.all (tu gq)&&d.ctors.all ai.okB)))
def aI.okB (g:aI):Bool:=g.body.okB&&g.types.all ao.okB
theorem vD {α:Type} {q:α->Bool} {l:List α} {x:Nat} (h:x<l.length):(l.drop x).all q=(q l[x]&&(l.drop (x+1)).all q):=by rw[List.drop_eq_getElem_cons h,List.all_cons]
theorem ae.qs (l:List ae):ae.eC l=l.all ae.okB:=by
 induction l with
 |nil=>rfl
 |cons t l ih=>rw[ae.eC,ih];rfl
theorem af.qs (l:List af):af.eC l=l.all af.okB:=by
 induction l with
 |nil=>rfl
 |cons t l ih=>rw[af.eC,ih];rfl
theorem aa.qs (l:List aa):aa.eC l=l.all aa.okB:=by
 induction l with
 |nil=>rfl
 |cons t l ih=>rw[aa.eC,ih];rfl
theorem aa.Ng (l:List ar):aa.p5 l=l.all ar.okB:=by
 induction l with
 |nil=>rfl
 |cons t l ih=>rw[aa.p5,ih];rfl
def mG (n:Nat):List UInt8:=if h:n<10 then[UInt8.ofNat (48+n)]else mG (n/10)++[UInt8.ofNat (48+n % 10)]
termination_by n
def uD (u:Int):List UInt8:=mG u.toNat
def ff (c:UInt8):List UInt8:=if(c.toNat:Int)=10 then[92,110]else if(c.toNat:Int)=34\/(c.toNat:Int)=92 then[92,c]else[c]
def wx (s:List UInt8):List UInt8:=34::((s.map ff).flatten++[34])
def oy (u:Int):List UInt8:=if u=1 then[116,114,117,101]else[102,97,108,115,101]
def kc (s:List UInt8) (level least:Int):List UInt8:=if level<least then 40::(s++[41])else s
def cC (sep:List UInt8):List (List UInt8)->List UInt8
 |[]=>[]
 |[a]=>a
 |a::l=>a++(sep++cC sep l)
structure KF where
 f:List UInt8
 l:Int
 b:Bool
def KF.at (x:KF) (a:Int):List UInt8:=kc x.f x.l a
def KF.no:KF:=⟨[],0,false⟩
def CI (k:Int) (n:List UInt8) (ks:List KF):KF:=
 if k=3 then⟨(ks.getD 0 .no).at 1++([32,45,62,32]++(ks.getD 1 .no).at 0),0,false⟩
 else if k=4 then⟨cC [32,42,32] (ks.map (·.at 2)),1,false⟩
 else if k=5 then⟨[114,101,102,32]++(ks.getD 0 .no).at 3,2,false⟩
 else if k=2 then⟨39::n,3,false⟩
 else⟨n++(ks.map fun x=>32::x.at 3).flatten,if ks.length=0 then 3 else 2,false⟩
mutual
def af.kf:af->KF
 | .mk k n p ks=>CI k n (af.dJ ks)
def af.dJ:List af->List KF
 |[]=>[]
 |t::l=>t.kf::af.dJ l
end
def rE (k:Int) (n:List UInt8) (u:Int) (ks:List KF):KF:=
 if k=2 then⟨n,1,false⟩
 else if k=3 then⟨uD u,1,false⟩
 else if k=4 then⟨oy u,1,false⟩
 else if k=5 then⟨[40,41],1,false⟩
 else if k=6 then⟨40::(cC [44,32] (ks.map (·.at 0))++[41]),1,false⟩
 else if k=7 then(if ks.length=0 then⟨n,1,false⟩else⟨n++(32::(ks.getD 0 .no).at 1),0,false⟩)
 else⟨[95],1,false⟩
mutual
def ae.kf:ae->KF
 | .mk k n u p ks=>rE k n u (ae.dJ ks)
def ae.dJ:List ae->List KF
 |[]=>[]
 |t::l=>t.kf::ae.dJ l
end
def kQ (s:List UInt8):Int×Int×Int:=if s=[58,61]then(1,2,2)else if s=[61]\/s=[60]then(2,3,3)else if s=[42]then(4,4,5)else(3,3,4)
def mH (a:List UInt8×KF):List UInt8:=[32,124,32]++(a.1++([32,45,62,32]++a.2.at 0))
def iM (k:Int) (n:List UInt8) (u:Int) (t:List UInt8) (ks:List KF) (bf:List (List UInt8×KF)):KF:=
 if k=1 then⟨uD u,6,false⟩
 else if k=2 then⟨wx t,6,false⟩
 else if k=3 then⟨oy u,6,false⟩
 else if k=4 then⟨[40,41],6,false⟩
 else if k=5 then⟨n,6,false⟩
 else if k=7 then⟨40::(cC [44,32] (ks.map (·.at 0))++[41]),6,false⟩
 else if k=14 then⟨(ks.getD 0 .no).at (kQ n).2.1++(32::(n++(32::(ks.getD 1 .no).at (kQ n).2.2))),(kQ n).1,false⟩
 else if k=6\/k=15 then(if ks.length=0 then⟨n,6,decide (k=6)⟩else⟨n++(32::(ks.getD 0 .no).at 6),5,false⟩)
 else if k=9 then⟨(ks.getD 0 .no).at (if(ks.getD 0 .no).b then 7 else 5)++(32::(ks.getD 1 .no).at 6),5,false⟩
 else if k=10 then⟨[108,101,116,32]++(n++([32,61,32]++((ks.getD 0 .no).at 0++([32,105,110,32]++(ks.getD 1 .no).at 0)))),0,false⟩
 else if k=11 then⟨[108,101,116,32,114,101,99,32]++(n++(32::(t++([32,61,32]++((ks.getD 0 .no).at 0++([32,105,110,32]++(ks.getD 1 .no).at 0)))))),0,false⟩
 else if k=8 then⟨[102,117,110,32]++(n++([32,45,62,32]++(ks.getD 0 .no).at 0)),0,false⟩
 else if k=12 then⟨[105,102,32]++((ks.getD 0 .no).at 0++([32,116,104,101,110,32]++((ks.getD 1 .no).at 0++([32,101,108,115,101,32]++(ks.getD 2 .no).at 0)))),0,false⟩
 else⟨[109,97,116,99,104,32]++((ks.getD 0 .no).at 0++([32,119,105,116,104]++((bf.map mH).flatten++[32,101,110,100]))),0,false⟩
mutual
def aa.kf:aa->KF
 | .mk k n u t p ks bf=>iM k n u t (aa.dJ ks) (aa.xe bf)
def aa.dJ:List aa->List KF
 |[]=>[]
 |t::l=>t.kf::aa.dJ l
def ar.kf:ar->List UInt8×KF
 | .mk p e=>(p.kf.at 0,e.kf)
def aa.xe:List ar->List (List UInt8×KF)
 |[]=>[]
 |t::l=>t.kf::aa.xe l
end
def ai.form (c:ai):List UInt8:=c.name++(if c.has then[32,111,102,32]++c.arg.kf.at 0 else[])
def ao.form (d:ao):List UInt8:=[116,121,112,101,32]++((d.vars.map fun v=>39::(v++[32])).flatten++(d.name++([32,61,32]++(cC [32,124,32] (d.ctors.map ai.form)++[59,10]))))
def aI.form (g:aI):List UInt8:=(g.types.map ao.form).flatten++(g.body.kf.at 0++[10])
def aI.print (g:aI):List UInt8:=if g.okB then g.form else[]
theorem af.gu (l:List af):af.dJ l=l.map af.kf:=by
 induction l with
 |nil=>rfl
 |cons t l ih=>rw[af.dJ,ih];rfl
theorem ae.gu (l:List ae):ae.dJ l=l.map ae.kf:=by
 induction l with
 |nil=>rfl
 |cons t l ih=>rw[ae.dJ,ih];rfl
theorem aa.gu (l:List aa):aa.dJ l=l.map aa.kf:=by
 induction l with
 |nil=>rfl
 |cons t l ih=>rw[aa.dJ,ih];rfl
theorem aa.Nh (l:List ar):aa.xe l=l.map ar.kf:=by
 induction l with
 |nil=>rfl
 |cons t l ih=>rw[aa.xe,ih];rfl
theorem zV:∀(d n:Nat),n<10^(d+1)→(mG n).length≤d+1
  |0,n,h=>by rw[mG,dif_pos (by simpa using h)];simp
  |d+1,n,h=>by
   rw[mG];split
   · simp
   · have :=zV d (n/10) (by rw[Nat.pow_succ]at h;omega)
     simp;omega
theorem CJ (s:List UInt8):(wx s).length≤2*s.length+2:=by
  have :((s.map ff).flatten).length≤2*s.length:=by
    induction s with
    |nil=>simp
    |cons c s ih=>
     rw[List.map_cons,List.flatten_cons,List.length_append,List.length_cons];have :(ff c).length≤2:=by unfold ff;(repeat' split)<;>simp
     omega
  unfold wx;rw[List.length_cons,List.length_append,List.length_singleton];omega
theorem ES (u:Int):(oy u).length<=5:=by unfold oy;split <;>simp
theorem SK (s:List UInt8) (l a:Int):(kc s l a).length<=s.length+2/\s.length<=(kc s l a).length:=by unfold kc;split <;>simp <;>omega
theorem db (x:KF) (a:Int):(x.at a).length<=x.f.length+2/\x.f.length<=(x.at a).length:=SK _ _ _
mutual
def ae.fit:ae->Prop
 | .mk k n u p ks=>u<=9223372036854775807/\ae.gI ks
def ae.gI:List ae->Prop
 |[]=>True
 |t::l=>t.fit/\ae.gI l
end
mutual
def aa.fit:aa->Prop
 | .mk k n u t p ks bf=>u<=9223372036854775807/\aa.gI ks/\aa.pG bf
def aa.gI:List aa->Prop
 |[]=>True
 |t::l=>t.fit/\aa.gI l
def ar.fit:ar->Prop
 | .mk p e=>p.fit/\e.fit
def aa.pG:List ar->Prop
 |[]=>True
 |t::l=>t.fit/\aa.pG l
end
theorem ae.rF {x:ae}:∀{l:List ae},ae.gI l→x∈l→x.fit
  |[],_,h=>by cases h
  |a::l,hf,h=>by
   rw[ae.gI]at hf;rcases List.mem_cons.1 h with rfl|h
   · exact hf.1
   · exact ae.rF hf.2 h
theorem aa.rF {x:aa}:∀{l:List aa},aa.gI l→x∈l→x.fit
  |[],_,h=>by cases h
  |a::l,hf,h=>by
   rw[aa.gI]at hf;rcases List.mem_cons.1 h with rfl|h
   · exact hf.1
   · exact aa.rF hf.2 h
theorem aa.ET {x:ar}:∀{l:List ar},aa.pG l→x∈l→x.fit
  |[],_,h=>by cases h
  |a::l,hf,h=>by
   rw[aa.pG]at hf;rcases List.mem_cons.1 h with rfl|h
   · exact hf.1
   · exact aa.ET hf.2 h
def wK:List KF->Nat
 |[]=>0
 |a::l=>a.f.length+20+wK l
theorem wK3 (l:List KF):(l.getD 0 .no).f.length+(l.getD 1 .no).f.length+(l.getD 2 .no).f.length<=wK l:=by
 rcases l with _|⟨a,_|⟨b,_|⟨c,l⟩⟩⟩<;>simp[wK,KF.no]<;>omega
theorem lr (sep:List UInt8) (hs:sep.length≤10) (a:Int):∀l:List KF,(cC sep (l.map (·.at a))).length≤wK l
  |[]=>by simp[cC]
  |[x]=>by have :=(db x a).1;simp only[List.map_cons,List.map_nil,cC,wK];omega
  |x::y::l=>by
   have h1:=(db x a).1;have h2:=lr sep hs a (y::l);show(x.at a++(sep++cC sep ((y::l).map (·.at a)))).length≤_;rw[wK];simp only[List.length_append];omega
theorem CK (a:Int):∀l:List KF,((l.map fun x=>32::x.at a).flatten).length≤wK l
  |[]=>by simp
  |x::l=>by
   have h1:=(db x a).1;have h2:=CK a l;rw[List.map_cons,List.flatten_cons,wK,List.length_append,List.length_cons];omega
theorem Ie {u:Int} (h:u<=9223372036854775807):(uD u).length<=20:=zV 19 _ (by omega)
theorem SL (k:Int) (n:List UInt8) (ks:List KF):(CI k n ks).f.length<=n.length+wK ks+30:=by
 have h3:=wK3 ks;have a0:=fun a=>(db (ks.getD 0 .no) a).1
 have a1:=fun a=>(db (ks.getD 1 .no) a).1
 have hj:=lr [32,42,32] (by decide) 2 ks;have hf:=CK 3 ks;have:=a0 1;have:=a0 3;have:=a1 0;unfold CI
 repeat' split
 all_goals (try simp only[List.length_append,List.length_cons,List.length_nil]at *)
 all_goals omega
mutual
theorem af.la:∀t:af,t.kf.f.length≤100*t.sz+30
  | .mk k n p ks=>by
    have :=af.ju ks;have :=SL k n (af.dJ ks);rw[af.kf,af.sz];omega
theorem af.ju:∀l:List af,wK (af.dJ l)≤100*af.eO l
  |[]=>by simp[af.dJ,wK]
  |t::l=>by
   have :=af.la t;have :=af.ju l;rw[af.dJ,wK,af.eO];omega
end
theorem OW (k:Int) (n:List UInt8) {u:Int} (hu:u<=9223372036854775807) (ks:List KF):(rE k n u ks).f.length<=n.length+wK ks+30:=by
 have h3:=wK3 ks;have a0:=fun a=>(db (ks.getD 0 .no) a).1
 have hj:=lr [44,32] (by decide) 0 ks;have:=Ie hu;have:=ES u;have:=a0 1;unfold rE
 repeat' split
 all_goals (try simp only[List.length_append,List.length_cons,List.length_nil]at *)
 all_goals omega
mutual
theorem ae.la:∀t:ae,t.fit→t.kf.f.length≤100*t.sz+30
  | .mk k n u p ks,h=>by
    rw[ae.fit]at h;have :=ae.ju ks h.2;have :=OW k n h.1 (ae.dJ ks);rw[ae.kf,ae.sz];omega
theorem ae.ju:∀l:List ae,ae.gI l→wK (ae.dJ l)≤100*ae.eO l
  |[],_ =>by simp[ae.dJ,wK]
  |t::l,h=>by
   rw[ae.gI]at h;have :=ae.la t h.1;have :=ae.ju l h.2;rw[ae.dJ,wK,ae.eO];omega
end
def wA:List (List UInt8×KF)->Nat
 |[]=>0
 |a::l=>a.1.length+a.2.f.length+20+wA l
theorem zW:∀l:List (List UInt8×KF),((l.map mH).flatten).length≤wA l
  |[]=>by simp
  |x::l=>by
   have h1:=(db x.2 0).1;have h2:=zW l;rw[List.map_cons,List.flatten_cons,wA,List.length_append,mH];simp only[List.length_append,List.length_cons,List.length_nil];omega
theorem ac6 {c:Prop} [Decidable c] {a b:KF} {B:Nat} (h1:a.f.length<=B) (h2:b.f.length<=B):(if c then a else b).f.length<=B:=by split <;>assumption
theorem OX (k:Int) (n:List UInt8) {u:Int} (hu:u<=9223372036854775807) (t:List UInt8) (ks:List KF) (bf:List (List UInt8×KF)):(iM k n u t ks bf).f.length<=n.length+2*t.length+wK ks+wA bf+30:=by
 have h3:=wK3 ks;have a0:=fun a=>(db (ks.getD 0 .no) a).1
 have a1:=fun a=>(db (ks.getD 1 .no) a).1
 have a2:=fun a=>(db (ks.getD 2 .no) a).1
 have hj:=lr [44,32] (by decide) 0 ks;have hA:=zW bf;have:=Ie hu;have:=ES u;have:=CJ t;have:=a0 0;have:=a1 0;have:=a2 0;have:=a0 6;have:=a1 6;have:=a0 7;have:=a0 5;have:=a0 (kQ n).2.1;have:=a1 (kQ n).2.2;unfold iM
 repeat' refine ac6 ?_ ?_
 all_goals (try split)
 all_goals (try simp only[List.length_append,List.length_cons,List.length_nil]at *)
 all_goals omega
mutual
theorem aa.la:∀t:aa,t.fit→t.kf.f.length≤100*t.sz+30
  | .mk k n u t p ks bf,h=>by
    rw[aa.fit]at h;have :=aa.ju ks h.2.1;have :=aa.CL bf h.2.2;have :=OX k n h.1 t (aa.dJ ks) (aa.xe bf);rw[aa.kf,aa.sz];omega
theorem aa.ju:∀l:List aa,aa.gI l→wK (aa.dJ l)≤100*aa.eO l
  |[],_ =>by simp[aa.dJ,wK]
  |t::l,h=>by
   rw[aa.gI]at h;have :=aa.la t h.1;have :=aa.ju l h.2;rw[aa.dJ,wK,aa.eO];omega
theorem aa.CL:∀l:List ar,aa.pG l→wA (aa.xe l)≤100*aa.nP l
  |[],_ =>by simp[aa.xe,wA]
  | .mk p e::l,h=>by
    rw[aa.pG,ar.fit]at h;have :=ae.la p h.1.1;have :=(db p.kf 0).1;have :=aa.la e h.1.2;have :=aa.CL l h.2;rw[aa.xe,wA,aa.nP,ar.kf,ar.sz];simp only;omega
end
abbrev TK:=Int×List UInt8×Int
def Tok.b (x:Tok):TK:=(x.k,x.t,x.n)
def fN (s:List UInt8):TK:=(6,s,0)
def cb (s:List UInt8):TK:=(7,s,0)
def xf (s:List UInt8):TK:=(3,s,0)
def zX (s:List UInt8):TK:=(4,s,0)
def DS (s:List UInt8):TK:=(5,s,0)
def tkN (u:Int):TK:=(1,[],u)
def tkT (s:List UInt8):TK:=(2,s,0)
def xg:List UInt8->Bool
 |[]=>true
 |c::_=>!cx c&&(decide (c≠61)&&decide (c≠62))
def SM (s:List UInt8) (most i n:Nat) (ts:List TK) (out:List Tok):Prop :=
 (out.length+ts.length<=most/\∃L:List Tok,L.map Tok.b=ts/\dE s most i out=dE s most (i+n) (out++L))\/(most<out.length+ts.length/\∃p,dE s most i out=.inr (5,p))
def vV (g:List UInt8->Bool) (a:List UInt8) (ts:List TK):Prop :=
 ∀(s:List UInt8) (i:Nat) (b:List UInt8) (out:List Tok) (most:Nat),s.drop i=a++b->g b=true->out.length<=most->SM s most i a.length ts out
def agh (_:List UInt8):Bool:=true
abbrev Lx:=vV xg
abbrev pH:=vV agh
theorem SM.cat {s:List UInt8} {most i n m:Nat} {ts us:List TK} {out:List Tok} (h:SM s most i n ts out) (k:∀L:List Tok,L.map Tok.b=ts->out.length+ts.length<=most->SM s most (i+n) m us (out++L)):SM s most i (n+m) (ts++us) out:=by
 rcases h with⟨h1,L,h2,h3⟩|⟨h1,p,h2⟩
 ·have hl:L.length=ts.length:=by rw[<-h2];simp
  rcases k L h2 h1 with⟨k1,M,k2,k3⟩|⟨k1,p,k2⟩
  ·refine .inl ⟨by simp at k1⊢;omega,L++M,by simp[h2,k2],?_⟩
   rw[h3,k3,Nat.add_assoc,List.append_assoc]
  ·exact .inr ⟨by simp at k1⊢;omega,p,by rw[h3,k2]⟩
 ·exact .inr ⟨by simp;omega,p,h2⟩
theorem jz {s:List UInt8} {i:Nat} {a b:List UInt8} (h:s.drop i=a++b):s.drop (i+a.length)=b:=by
 rw[<-List.drop_drop,h,List.drop_left]
theorem SN {b c:List UInt8} (hb:xg b=true) (hc:xg c=true):xg (b++c)=true:=by
 cases b with
 |nil=>exact hc
 |cons x b=>exact hb
theorem jO {a b:List UInt8} {ts us:List TK} (h:Lx a ts) (hb:xg b=true) (k:Lx b us):Lx (a++b) (ts++us):=fun s i c out most hd hg hl=>by
 rw[List.append_assoc]at hd;rw[List.length_append];refine(h s i _ out most hd (SN hb hg) hl).cat fun L h1 h2=>k s _ c _ most (jz hd) hg ?_
 rw[List.length_append,show L.length=ts.length by rw[<-h1];simp];exact h2
theorem pI {g} {a b:List UInt8} {ts us:List TK} (h:pH a ts) (k:vV g b us):vV g (a++b) (ts++us):=fun s i c out most hd hg hl=>by
 rw[List.append_assoc]at hd;rw[List.length_append];refine(h s i _ out most hd rfl hl).cat fun L h1 h2=>k s _ c _ most (jz hd) hg ?_
 rw[List.length_append,show L.length=ts.length by rw[<-h1];simp];exact h2
theorem yu {a b:List UInt8} {ts us:List TK} (h:Lx a ts) (hb:∀c,xg (b++c)=true) (k:pH b us):pH (a++b) (ts++us):=fun s i c out most hd _ hl=>by
 rw[List.append_assoc]at hd;rw[List.length_append];refine(h s i _ out most hd (hb c) hl).cat fun L h1 h2=>k s _ c _ most (jz hd) rfl ?_
 rw[List.length_append,show L.length=ts.length by rw[<-h1];simp];exact h2
theorem vV.qt {a:List UInt8} {ts:List TK} (h:pH a ts) {g}:vV g a ts:=fun s i b out most hd _ hl=>h s i b out most hd rfl hl
theorem sG {g}:vV g [] []:=fun s i b out most hd hg hl=>.inl ⟨by simpa using hl,[],rfl,by simp⟩
theorem jk {s:List UInt8} {i:Nat} {c:UInt8} {a:List UInt8} (h:s.drop i=c::a):∃hi:i<s.length,s[i]=c:=by
 have hi:i<s.length:=by
  have:=congrArg List.length h;simp at this;omega
 rw[Cn hi]at h;exact⟨hi,(List.cons.inj h).1⟩
theorem vE {c:UInt8} (hc:blank c=true):pH [c] []:=fun s i b out most hd hg hl=>by
 obtain⟨hi,rfl⟩:=jk hd;exact .inl ⟨by simpa using hl,[],rfl,by rw[ij hi hc,List.append_nil];rfl⟩
theorem yw {g} {a:List UInt8} {t:TK} {c:UInt8} {a':List UInt8} (ha:a=c::a') (hb:blank c=false) (hh:¬(c.toNat:Int)=35)
  (ht:∀(s:List UInt8) (i:Nat) (b:List UInt8),s.drop i=a++b->g b=true->∃x:Tok,x.b=t/\iI s i c=.inl (x,i+a.length)):vV g a [t]:=fun s i b out most hd hg hl=>by
 obtain⟨x,h1,h2⟩:=ht s i b hd hg;have kz:=hd;rw[ha]at kz;obtain⟨hi,rfl⟩:=jk kz;rcases Nat.lt_or_ge out.length most with h|h
 ·exact .inl ⟨h,[x],by simp[h1],by rw[mV hi hb hh h2 (by omega)]⟩
 ·exact .inr ⟨by simp;omega,i,lC hi hb hh h2 (by omega)⟩
theorem EU {q:UInt8→Bool} {b:List UInt8} (hb:∀c b',b=c::b'→q c=false):∀a:List UInt8,a.all q=true →qd q (a++b)=a.length
  |[],_ =>by
   cases b with
   |nil=>rfl
   |cons c b=>simp[qd,hb c b rfl]
  |x::a,h=>by
   rw[List.all_cons,Bool.and_eq_true]at h;rw[List.cons_append,qd,if_pos h.1,EU hb a h.2];rfl
theorem rC {q:UInt8→Bool}:∀{a:List UInt8},qd q a=a.length→a.all q=true
  |[],_ =>rfl
  |x::a,h=>by
   rw[qd]at h;split at h
   · rename_i hx
     rw[List.all_cons,hx,rC (by simpa using h)];rfl
   · simp at h
theorem CN {q:UInt8->Bool} {s:List UInt8} {i:Nat} {a b:List UInt8} (hd:s.drop i=a++b) (ha:a.all q=true) (hb:∀c b',b=c::b'->q c=false):bo q s i=i+a.length:=by
 unfold bo;rw[hd,EU hb a ha]
theorem Ni {b:List UInt8} (h:xg b=true):∀c b',b=c::b'->cx c=false:=by
 rintro c b' rfl;simp only[xg,Bool.and_eq_true,Bool.not_eq_true']at h;exact h.1
theorem ac7 {c:UInt8} (h:cx c=false):ez c=false:=by
 simp only[cx,Bool.or_eq_false_iff]at h;exact h.1.2
theorem uE {q:UInt8→Bool} {s:List UInt8} (h:tu q s=true):∃c s',s=c::s'∧q c=true ∧s.all cx=true ∧s.length≤12:=by
  cases s with
  |nil=>cases h
  |cons c s=>
   simp only[tu,Bool.and_eq_true,decide_eq_true_eq]at h;refine⟨c,s,rfl,h.2.1,rC ?_,h.1⟩;have :=h.2.2;simpa[bo]using this
theorem CO {s:List UInt8} {i f:Nat} {c:UInt8} {a b:List UInt8} (hd:s.drop f=a++b) (ha:a.all cx=true) (hl:a.length<=12) (hb:xg b=true):
  jf s i c f=.inl (⟨if(c.toNat:Int)=39 then 5 else if ig c then 4 else if isKey a then 6 else 3,a,0,i⟩,f+a.length):=by
 unfold jf;rw[CN hd ha (Ni hb),Nat.add_sub_cancel_left,if_neg (by omega),hd,List.take_left]
theorem zY {a:List UInt8} {q:UInt8->Bool} (hq:∀c,q c=true->gq c=true\/ig c=true) (h:tu q a=true):Lx a [(if q (a.headD 0)&&ig (a.headD 0)then 4 else if isKey a then 6 else 3,a,0)]:=by
 obtain⟨c,a',rfl,h1,h2,h3⟩:=uE h;have hc:gq c=true\/ig c=true:=hq c h1
 have hcn:65<=c.toNat/\c.toNat<=90\/97<=c.toNat/\c.toNat<=122:=by
  simp only[gq,ig,Bool.and_eq_true,decide_eq_true_eq]at hc;omega
 refine yw rfl (by simp only[blank,Bool.or_eq_false_iff,decide_eq_false_iff_not];omega) (by omega) fun s i b hd hb=>?_
 refine⟨⟨if(c.toNat:Int)=39 then 5 else if ig c then 4 else if isKey (c::a')then 6 else 3,c::a',0,i⟩,?_,?_⟩;rotate_left
 ·have e1:ez c=false:=by simp only[ez,Bool.and_eq_false_iff,decide_eq_false_iff_not];omega
  have e2:(gq c||ig c||tick s i c)=true:=by rcases hc with h|h<;>simp[h]
  unfold iI fb;rw[e1,if_neg (by simp),if_pos e2,if_neg (by omega)];exact CO hd h2 h3 hb
 ·simp only[Tok.b,List.headD_cons,h1,Bool.true_and]
  rw[if_neg (by omega)]
theorem qv {a:List UInt8} (h:mE a=true):Lx a [xf a]:=by
 simp only[mE,Bool.and_eq_true,Bool.not_eq_true']at h;have:=zY (q:=gq) (fun c hc=>.inl hc) h.1;obtain⟨c,a',rfl,h1,-,-⟩:=uE h.1;have e:ig c=false:=by simp only[gq,ig,Bool.and_eq_true,Bool.and_eq_false_iff,decide_eq_true_eq,decide_eq_false_iff_not]at h1⊢;omega
 simpa[e,h.2,xf]using this
theorem CP {a:List UInt8} (h:K0 a=true):Lx a [zX a]:=by
 have:=zY (q:=ig) (fun c hc=>.inr hc) h;obtain⟨c,a',rfl,h1,-,-⟩:=uE h;simpa[h1,zX]using this
theorem XL {a:List UInt8} (h:isKey a=true):tu gq a=true:=by
 simp only[isKey,decide_eq_true_eq,keys,List.mem_cons,List.not_mem_nil,or_false]at h;rcases h with rfl|rfl|rfl|rfl|rfl|rfl|rfl|rfl|rfl|rfl|rfl|rfl|rfl|rfl|rfl|rfl|rfl|rfl|rfl<;>decide
theorem nu {a:List UInt8} (h:isKey a=true):Lx a [fN a]:=by
 have h0:=XL h;have:=zY (q:=gq) (fun c hc=>.inl hc) h0;obtain⟨c,a',rfl,h1,-,-⟩:=uE h0;have e:ig c=false:=by simp only[gq,ig,Bool.and_eq_true,Bool.and_eq_false_iff,decide_eq_true_eq,decide_eq_false_iff_not]at h1⊢;omega
 simpa[e,h,fN]using this
theorem Nj {a:List UInt8} (h:tu gq a=true):Lx (39::a) [DS a]:=by
 obtain⟨c,a',rfl,h1,h2,h3⟩:=uE h;refine yw rfl (by decide) (by decide) fun s i b hd hb=>?_
 refine⟨⟨5,c::a',0,i⟩,rfl,?_⟩;have oz:s.drop (i+1)=(c::a')++b:=jz (a:=[39]) hd
 have e2:(gq 39||ig 39||tick s i 39)=true:=by
  obtain⟨hi,hc⟩:=jk oz
  have:tick s i 39=true:=by
   simp only[tick,Bool.and_eq_true,decide_eq_true_eq];exact⟨by decide,hi,by rw[List.getD_eq_getElem?_getD,List.getElem?_eq_getElem hi,hc];exact h1⟩
  simp[this]
 unfold iI fb;rw[if_neg (by decide),if_pos e2,if_pos (by decide),CO oz h2 h3 hb];simp only[List.length_cons];refine congrArg Sum.inl (Prod.ext ?_ (by simp only[];omega));simp
theorem sH {d:Nat} (h:d<10):(UInt8.ofNat (48+d)).toNat=48+d:=by
 simp[UInt8.toNat_ofNat'];omega
theorem Nk {d:Nat} (h:d<10):ez (UInt8.ofNat (48+d))=true:=by
 simp only[ez,sH h,Bool.and_eq_true,decide_eq_true_eq];omega
theorem SO:∀n:Nat,(mG n).all ez=true :=by
  intro n
  induction n using Nat.strongRecOn with
  |ind n ih=>
   rw[mG];split
   · rename_i h;rw[List.all_cons,List.all_nil,Nk h];rfl
   · rw[List.all_append,ih _ (by omega),List.all_cons,List.all_nil,Nk (show n % 10<10 by omega)];rfl
theorem rD:∀(a b:List UInt8) (n:Nat),fv (a++b) n=fv b (fv a n)
 |[],b,n=>rfl
 |c::a,b,n=>by rw[List.cons_append,fv,rD a b];rfl
theorem OY:∀n:Nat,fv (mG n) 0=n:=by
  intro n
  induction n using Nat.strongRecOn with
  |ind n ih=>
   rw[mG];split
   · rename_i h;simp only[fv,sH h];omega
   · rw[rD,ih _ (by omega)]
     simp only[fv,sH (show n % 10<10 by omega)];omega
theorem K3:∀n:Nat,0<n→∃c l,mG n=c::l∧c.toNat≠48:=by
  intro n
  induction n using Nat.strongRecOn with
  |ind n ih=>
   intro h0;rw[mG];split
   · rename_i h;exact⟨_,_,rfl,by rw[sH h];omega⟩
   · obtain⟨c,l,h1,h2⟩:=ih (n/10) (by omega) (by omega)
     exact⟨c,l++_,by rw[h1];rfl,h2⟩
theorem Nl {u:Int} (h0:0<=u) (h:u<=9223372036854775807):Lx (uD u) [tkN u]:=by
 unfold uD;have hd:=SO u.toNat;have hv:=OY u.toNat;rcases hf:mG u.toNat with _|⟨c,l⟩
 ·rw[hf]at hv
  rw[mG]at hf;split at hf<;>simp at hf
 rw[hf]at hd hv;have hc:ez c=true:=by simp at hd;exact hd.1
 have hcn:48<=c.toNat/\c.toNat<=57:=by
  simp only[ez,Bool.and_eq_true,decide_eq_true_eq]at hc;omega
 refine yw rfl (by simp only[blank,Bool.or_eq_false_iff,decide_eq_false_iff_not];omega) (by omega) fun s i b hs hb=>?_
 refine⟨⟨1,[],u,i⟩,rfl,?_⟩;unfold iI rm;rw[if_pos hc];simp only[CN hs hd (fun c b' hc=>ac7 (Ni hb c b' hc)),Nat.add_sub_cancel_left,hs,List.take_left,hv];rw[if_neg]
 ·refine congrArg Sum.inl (Prod.ext ?_ rfl)
  simp only[Int.toNat_of_nonneg h0]
 ·rintro(h1|⟨h1,h2⟩)
  ·unfold gQ at h1;omega
  ·rcases Nat.eq_zero_or_pos u.toNat with h3|h3
   ·rw[h3]at hf
    have:mG 0=[48]:=by rw[mG];rfl
    rw[this]at hf;cases hf;simp at h1
   ·obtain⟨c',l',h4,h5⟩:=K3 _ h3
    rw[hf]at h4;cases h4;exact h5 (by omega)
theorem CQ:∀(t:List UInt8) (s:List UInt8) (j:Nat) (b out:List UInt8),qo t=true →s.drop j=(t.map ff).flatten++(34::b)→gi s j out=some (out++t,j+(t.map ff).flatten.length+1)
  |[],s,j,b,out,_,hd=>by
   obtain⟨hj,hc⟩:=jk hd
   rw[gi,dif_pos hj,hc,if_pos (by decide)];simp
  |c::t,s,j,b,out,hp,hd=>by
   simp only[qo,List.all_cons,Bool.and_eq_true]at hp;have ih:=fun j' agi kz=>CQ t s j' b agi hp.2 kz
   rw[List.map_cons,List.flatten_cons,List.append_assoc]at hd;rw[List.map_cons,List.flatten_cons,List.length_append];by_cases h1:(c.toNat:Int)=10
   · have eq:ff c=[92,110]:=by unfold ff;rw[if_pos h1]
     rw[eq]at hd⊢;obtain⟨hj,hc⟩:=jk hd;have oz:s.drop (j+1)=[110]++((t.map ff).flatten++(34::b)):=jz (a:=[92]) hd;obtain⟨F8,XM⟩:=jk oz;rw[gi,dif_pos hj,hc,if_neg (by decide),if_pos (by decide),dif_pos F8,XM,if_pos (by decide),ih (j+2) _ (jz (a:=[92,110]) hd)];have :c=10:=by apply UInt8.toNat_inj.1;simpa using Int.ofNat.inj h1
     subst this;simp only[List.append_assoc,List.singleton_append,List.length_cons,List.length_nil];congr 2;omega
   by_cases h2:(c.toNat:Int)=34∨(c.toNat:Int)=92
   · have eq:ff c=[92,c]:=by unfold ff;rw[if_neg h1,if_pos h2]
     rw[eq]at hd⊢;obtain⟨hj,hc⟩:=jk hd;have oz:s.drop (j+1)=[c]++((t.map ff).flatten++(34::b)):=jz (a:=[92]) hd;obtain⟨F8,XM⟩:=jk oz;rw[gi,dif_pos hj,hc,if_neg (by decide),if_pos (by decide),dif_pos F8,XM,if_neg (by omega),if_pos h2,ih (j+2) _ (jz (a:=[92,c]) hd)];simp only[List.append_assoc,List.singleton_append,List.length_cons,List.length_nil];congr 2;omega
   have eq:ff c=[c]:=by unfold ff;rw[if_neg h1,if_neg h2]
   rw[eq]at hd⊢;obtain⟨hj,hc⟩:=jk hd
   have qK:ub c=true :=by
     have :=hp.1;simp only[K2,Bool.or_eq_true,decide_eq_true_eq]at this;rcases this with h|h
     · exact h
     · exact(h1 h).elim
   rw[gi,dif_pos hj,hc,if_neg (by omega),if_neg (by omega),if_pos qK,ih (j+1) _ (jz (a:=[c]) hd)];simp only[List.append_assoc,List.singleton_append,List.length_cons,List.length_nil];congr 2;omega
theorem XN {t:List UInt8} (h:qo t=true):pH (wx t) [tkT t]:=by
 refine yw rfl (by decide) (by decide) fun s i b hd _=>?_
 refine⟨⟨2,t,0,i⟩,rfl,?_⟩
 have oz:s.drop (i+1)=(t.map ff).flatten++(34::b):=by
  have:=jz (a:=[34]) (b:=((t.map ff).flatten++[34])++b) hd;rw[List.append_assoc]at this;exact this
 have e2:tick s i 34=false:=by simp[tick]
 unfold iI qe;rw[if_neg (by decide),e2,if_neg (by decide),if_pos (by decide),CQ t s _ b [] h oz];simp only[List.nil_append,wx,List.length_cons,List.length_append,List.length_nil];congr 2;omega
theorem Bo {g} {a:List UInt8} {c:UInt8} {a':List UInt8} (ha:a=c::a') (hb:blank c=false) (hh:¬(c.toNat:Int)=35) (hd:ez c=false) (hs:gq c=false) (hg:ig c=false) (ht:¬(c.toNat:Int)=39) (hq:¬(c.toNat:Int)=34)
  (hl:∀b:List UInt8,g b=true->eP (a++b) bA=a):vV g a [cb a]:=by
 refine yw ha hb hh fun s i b kz Jt=>?_
 refine⟨⟨7,a,0,i⟩,rfl,?_⟩;have e2:tick s i c=false:=by simp[tick,ht]
 unfold iI ov;simp only[hd,hs,hg,e2,Bool.or_false,if_neg hq,kz,hl b Jt,Bool.false_eq_true,if_false];rw[if_neg (by rw[ha];simp)]
theorem zZ:pH [45,62] [cb [45,62]]:=Bo rfl (by decide) (by decide) (by decide) (by decide) (by decide) (by decide) (by decide) fun b _=>by simp[eP,bA,preB]
theorem XO:pH [58,61] [cb [58,61]]:=Bo rfl (by decide) (by decide) (by decide) (by decide) (by decide) (by decide) (by decide) fun b _=>by simp[eP,bA,preB]
theorem OZ:Lx [45] [cb [45]]:=Bo rfl (by decide) (by decide) (by decide) (by decide) (by decide) (by decide) (by decide) fun b hb=>by
 have:∀c b',b=c::b'->¬c=62:=by
  rintro c b' rfl;simp only[xg,Bool.and_eq_true,decide_eq_true_eq]at hb;exact hb.2.2
 cases b with
 |nil=>decide
 |cons c b=>simp[eP,bA,preB,this c b rfl]
theorem gM {c:UInt8} (h:c∈([61,60,43,42,94,59,124,40,41,44,95,33]:List UInt8)):pH [c] [cb [c]]:=by
 simp only[List.mem_cons,List.not_mem_nil,or_false]at h
 rcases h with rfl|rfl|rfl|rfl|rfl|rfl|rfl|rfl|rfl|rfl|rfl|rfl<;>
  exact Bo rfl (by decide) (by decide) (by decide) (by decide) (by decide) (by decide) (by decide) fun b _=>by simp[eP,bA,preB]
theorem pJ {g} {b:List UInt8} {us:List TK} (h:vV g b us):vV g (32::b) us:=pI (a:=[32]) (ts:=[]) (vE (by decide)) h
theorem Bp {a:List UInt8} {ts:List TK} (h:Lx a ts):pH (a++[32]) ts:=by
 have:=yu (b:=[32]) (us:=[]) h (fun c=>by rfl) (vE (by decide));simpa using this
theorem XP {n:List UInt8} (h:CH n=true):Lx n [cb n]:=by
 simp only[CH,decide_eq_true_eq,List.mem_cons,List.not_mem_nil,or_false]at h;rcases h with rfl|rfl|rfl|rfl|rfl|rfl|rfl
 ·exact(gM (by decide)).qt
 ·exact OZ
 ·exact(gM (by decide)).qt
 ·exact(gM (by decide)).qt
 ·exact(gM (by decide)).qt
 ·exact(gM (by decide)).qt
 ·exact XO.qt
structure TF where
 f:List TK
 l:Int
 b:Bool
 q:Nat
def TF.at (y:TF) (a:Int):List TK:=if y.l<a then cb [40]::(y.f++[cb [41]])else y.f
def TF.qa (y:TF) (a:Int):Nat:=if y.l<a then y.q+1 else y.q
def TF.no:TF:=⟨[],0,false,0⟩
def kR (sep:TK):List (List TK)->List TK
 |[]=>[]
 |[a]=>a
 |a::l=>a++(sep::kR sep l)
def fW {α:Type} (f:α->Nat):List α->Nat
 |[]=>0
 |a::l=>max (f a) (fW f l)
def uF (k:Int) (n:List UInt8) (ks:List TF):TF:=
 if k=3 then⟨(ks.getD 0 .no).at 1++(cb [45,62]::(ks.getD 1 .no).at 0),0,false,max ((ks.getD 0 .no).qa 1) ((ks.getD 1 .no).qa 0+1)⟩
 else if k=4 then⟨kR (cb [42]) (ks.map (·.at 2)),1,false,fW (·.qa 2) ks⟩
 else if k=5 then⟨fN [114,101,102]::(ks.getD 0 .no).at 3,2,false,(ks.getD 0 .no).qa 3⟩
 else if k=2 then⟨[DS n],3,false,0⟩
 else⟨xf n::(ks.map (·.at 3)).flatten,if ks.length=0 then 3 else 2,false,fW (·.qa 3) ks⟩
mutual
def af.tf:af->TF
 | .mk k n p ks=>uF k n (af.lu ks)
def af.lu:List af->List TF
 |[]=>[]
 |t::l=>t.tf::af.lu l
end
def n9 (k:Int) (n:List UInt8) (u:Int) (ks:List TF):TF:=
 if k=2 then⟨[xf n],1,false,0⟩
 else if k=3 then⟨[tkN u],1,false,0⟩
 else if k=4 then⟨[fN (oy u)],1,false,0⟩
 else if k=5 then⟨[cb [40],cb [41]],1,false,0⟩
 else if k=6 then⟨cb [40]::(kR (cb [44]) (ks.map (·.at 0))++[cb [41]]),1,false,fW (·.qa 0+1) ks⟩
 else if k=7 then(if ks.length=0 then⟨[zX n],1,false,0⟩else⟨zX n::(ks.getD 0 .no).at 1,0,false,(ks.getD 0 .no).qa 1⟩)
 else⟨[cb [95]],1,false,0⟩
mutual
def ae.tf:ae->TF
 | .mk k n u p ks=>n9 k n u (ae.lu ks)
def ae.lu:List ae->List TF
 |[]=>[]
 |t::l=>t.tf::ae.lu l
end
def AU (a:TF×TF):List TK:=cb [124]::(a.1.at 0++(cb [45,62]::a.2.at 0))
def F9 (n:List UInt8):TK:=if n=[33]then cb n else fN n
def gd (k:Int) (n:List UInt8) (u:Int) (t:List UInt8) (ks:List TF) (bf:List (TF×TF)):TF:=
 if k=1 then⟨[tkN u],6,false,0⟩
 else if k=2 then⟨[tkT t],6,false,0⟩
 else if k=3 then⟨[fN (oy u)],6,false,0⟩
 else if k=4 then⟨[cb [40],cb [41]],6,false,0⟩
 else if k=5 then⟨[xf n],6,false,0⟩
 else if k=7 then⟨cb [40]::(kR (cb [44]) (ks.map (·.at 0))++[cb [41]]),6,false,fW (·.qa 0+1) ks⟩
 else if k=14 then⟨(ks.getD 0 .no).at (kQ n).2.1++(cb n::(ks.getD 1 .no).at (kQ n).2.2),(kQ n).1,false,max ((ks.getD 0 .no).qa (kQ n).2.1) ((ks.getD 1 .no).qa (kQ n).2.2)⟩
 else if k=6\/k=15 then(if ks.length=0 then⟨[if k=6 then zX n else F9 n],6,decide (k=6),0⟩else⟨(if k=6 then zX n else F9 n)::(ks.getD 0 .no).at 6,5,false,(ks.getD 0 .no).qa 6⟩)
 else if k=9 then⟨(ks.getD 0 .no).at (if(ks.getD 0 .no).b then 7 else 5)++(ks.getD 1 .no).at 6,5,false,max ((ks.getD 0 .no).qa (if(ks.getD 0 .no).b then 7 else 5)) ((ks.getD 1 .no).qa 6)⟩
 else if k=10 then⟨fN [108,101,116]::xf n::cb [61]::((ks.getD 0 .no).at 0++(fN [105,110]::(ks.getD 1 .no).at 0)),0,false,max ((ks.getD 0 .no).qa 0+1) ((ks.getD 1 .no).qa 0+1)⟩
 else if k=11 then⟨fN [108,101,116]::fN [114,101,99]::xf n::xf t::cb [61]::((ks.getD 0 .no).at 0++(fN [105,110]::(ks.getD 1 .no).at 0)),0,false,max ((ks.getD 0 .no).qa 0+1) ((ks.getD 1 .no).qa 0+1)⟩
 else if k=8 then⟨fN [102,117,110]::xf n::cb [45,62]::(ks.getD 0 .no).at 0,0,false,(ks.getD 0 .no).qa 0+1⟩
 else if k=12 then⟨fN [105,102]::((ks.getD 0 .no).at 0++(fN [116,104,101,110]::((ks.getD 1 .no).at 0++(fN [101,108,115,101]::(ks.getD 2 .no).at 0)))),0,false,max ((ks.getD 0 .no).qa 0+1) (max ((ks.getD 1 .no).qa 0+1) ((ks.getD 2 .no).qa 0+1))⟩
 else⟨fN [109,97,116,99,104]::((ks.getD 0 .no).at 0++(fN [119,105,116,104]::((bf.map AU).flatten++[fN [101,110,100]]))),0,false,max ((ks.getD 0 .no).qa 0+1) (fW (fun a=>max (a.1.qa 0+1) (a.2.qa 0+1)) bf)⟩
mutual
def aa.tf:aa->TF
 | .mk k n u t p ks bf=>gd k n u t (aa.lu ks) (aa.yx bf)
def aa.lu:List aa->List TF
 |[]=>[]
 |t::l=>t.tf::aa.lu l
def ar.tf:ar->TF×TF
 | .mk p e=>(p.tf,e.tf)
def aa.yx:List ar->List (TF×TF)
 |[]=>[]
 |t::l=>t.tf::aa.yx l
end
def ai.fw (c:ai):List TK:=zX c.name::(if c.has then fN [111,102]::c.arg.tf.at 0 else[])
def ao.fw (d:ao):List TK:=fN [116,121,112,101]::(d.vars.map DS++(xf d.name::cb [61]::(kR (cb [124]) (d.ctors.map ai.fw)++[cb [59]])))
def aI.fw (g:aI):List TK:=(g.types.map ao.fw).flatten++g.body.tf.at 0
structure LR (x:KF) (y:TF):Prop where
 lx:Lx x.f y.f
 l:x.l=y.l
 b:x.b=y.b
theorem ac8:LR .no .no:=⟨sG,rfl,rfl⟩
theorem SP {a:List UInt8} {ts:List TK} (h:Lx a ts):pH (40::(a++[41])) (cb [40]::(ts++[cb [41]])):=
 pI (a:=[40]) (ts:=[cb [40]]) (gM (by decide)) (yu h (fun c=>rfl) (gM (by decide)))
theorem LR.at {x:KF} {y:TF} (h:LR x y) (a:Int):Lx (x.at a) (y.at a):=by
 unfold KF.at TF.at kc;rw[h.l];split
 ·exact(SP h.lx).qt
 ·exact h.lx
inductive tz:List KF->List TF->Prop
 |nil:tz [] []
 |cons {x y l m}:LR x y->tz l m->tz (x::l) (y::m)
theorem tz.get {l:List KF} {m:List TF} (h:tz l m):∀i,LR (l.getD i .no) (m.getD i .no):=by
  induction h with
  |nil=>intro i;simpa using ac8
  |cons h1 h2 ih=>
   intro i
   cases i with
   |zero=>simpa using h1
   |succ i=>simpa using ih i
theorem tz.len {l:List KF} {m:List TF} (h:tz l m):l.length=m.length:=by
 induction h with
 |nil=>rfl
 |cons h1 h2 ih=>simp[ih]
theorem yy (sep:List UInt8) (a b:List UInt8) (l):cC sep (a::b::l)=a++(sep++cC sep (b::l)):=rfl
theorem mj (sep:TK) (a b:List TK) (l):kR sep (a::b::l)=a++(sep::kR sep (b::l)):=rfl
theorem tz.join {sep:List UInt8} {st:TK} (hs:pH sep [st]) (hg:∀b,xg (sep++b)=true) (a:Int) {l:List KF} {m:List TF} (h:tz l m):Lx (cC sep (l.map (·.at a))) (kR st (m.map (·.at a))):=by
  induction h with
  |nil=>exact sG
  |@cons x y l m h1 h2 ih=>
   cases h2 with
   |nil=>exact h1.at a
   |cons k1 k2=>
    simp only[List.map_cons,yy,mj]at ih⊢;exact jO (h1.at a) (hg _) (pI (ts:=[st]) hs ih)
theorem tz.flat (a:Int) {l:List KF} {m:List TF} (h:tz l m):Lx ((l.map fun x=>32::x.at a).flatten) ((m.map (·.at a)).flatten)∧xg ((l.map fun x=>32::x.at a).flatten)=true :=by
  induction h with
  |nil=>exact⟨sG,rfl⟩
  |@cons x y l m h1 h2 ih=>
   simp only[List.map_cons,List.flatten_cons];exact⟨jO (pJ (h1.at a)) ih.2 ih.1,rfl⟩
theorem pK {a b:List UInt8} {t:TK} {us:List TK} (h:Lx a [t]) (hb:xg b=true) (k:Lx b us):Lx (a++b) (t::us):=jO (ts:=[t]) h hb k
theorem gv {g} {a b:List UInt8} {t:TK} {us:List TK} (h:pH a [t]) (k:vV g b us):vV g (a++b) (t::us):=pI (ts:=[t]) h k
theorem oR {w:List UInt8} (h:isKey w=true):pH (w++[32]) [fN w]:=Bp (nu h)
theorem yz {w:List UInt8} (h:isKey w=true):pH (32::(w++[32])) [fN w]:=pJ (oR h)
theorem oa {w:List UInt8} (h:pH w [cb w]):pH (32::(w++[32])) [cb w]:=pJ (Bp h.qt)
theorem ac9 {k:Int} {n:List UInt8} {p m:Int} {ks:List KF} {ts:List TF} (hk:tc k n p m=true) (hm:m=ks.length) (h:tz ks ts):LR (CI k n ks) (uF k n ts):=by
 have g:=h.get;have hl:=h.len;unfold tc at hk;unfold CI uF;by_cases h3:k=3
 ·rw[if_pos h3,if_pos h3]
  exact⟨jO ((g 0).at 1) rfl (gv (oa (w:=[45,62]) zZ) ((g 1).at 0)),rfl,rfl⟩
 rw[if_neg h3,if_neg h3];by_cases h4:k=4
 ·rw[if_pos h4,if_pos h4]
  exact⟨h.join (oa (w:=[42]) (gM (by decide))) (fun b=>rfl) 2,rfl,rfl⟩
 rw[if_neg h4,if_neg h4];by_cases h5:k=5
 ·rw[if_pos h5,if_pos h5]
  exact⟨gv (oR (w:=[114,101,102]) (by decide)) ((g 0).at 3),rfl,rfl⟩
 rw[if_neg h5,if_neg h5];by_cases h2:k=2
 ·rw[if_pos h2,if_pos h2]
  subst h2;simp at hk;exact⟨Nj hk.1.2,rfl,rfl⟩
 rw[if_neg h2,if_neg h2]
 have h1:k=1:=by
  by_cases h1:k=1
  ·exact h1
  ·simp[h1,h2,h3,h4,h5]at hk
 subst h1;simp at hk;exact⟨pK (qv hk.1) (h.flat 3).2 (h.flat 3).1,by simp only[hl],rfl⟩
mutual
theorem af.lx:∀t:af,t.okB=true →LR t.kf t.tf
  | .mk k n p ks,h=>by
    rw[af.okB,Bool.and_eq_true]at h;rw[af.kf,af.tf];exact ac9 h.1 (by rw[af.gu,List.length_map]) (af.Ig ks h.2)
theorem af.Ig:∀l:List af,af.eC l=true →tz (af.dJ l) (af.lu l)
  |[],_ => .nil
  |t::l,h=>by
   rw[af.eC,Bool.and_eq_true]at h;exact .cons (af.lx t h.1) (af.Ig l h.2)
end
theorem CR (u:Int):isKey (oy u)=true:=by unfold oy;split <;>decide
theorem Ih {g}:vV g [40,41] [cb [40],cb [41]]:=gv (a:=[40]) (gM (by decide)) ((gM (by decide)).qt)
theorem Nn {l:List KF} {m:List TF} (h:tz l m):Lx (40::(cC [44,32] (l.map (·.at 0))++[41])) (cb [40]::(kR (cb [44]) (m.map (·.at 0))++[cb [41]])):=
 (SP (h.join (Bp (a:=[44]) (ts:=[cb [44]]) (gM (by decide)).qt) (fun b=>rfl) 0)).qt
theorem XQ {k:Int} {n:List UInt8} {u p m:Int} {ks:List KF} {ts:List TF} (hk:mF k n u p m=true) (hu:u<=9223372036854775807) (hm:m=ks.length) (h:tz ks ts):LR (rE k n u ks) (n9 k n u ts):=by
 have g:=h.get;have hl:=h.len;unfold mF at hk;unfold rE n9;by_cases h2:k=2
 ·rw[if_pos h2,if_pos h2];subst h2;simp at hk
  exact⟨qv hk.1.2.1,rfl,rfl⟩
 rw[if_neg h2,if_neg h2];by_cases h3:k=3
 ·rw[if_pos h3,if_pos h3];subst h3;simp at hk
  exact⟨Nl hk.1.2.2 hu,rfl,rfl⟩
 rw[if_neg h3,if_neg h3];by_cases h4:k=4
 ·rw[if_pos h4,if_pos h4]
  exact⟨nu (CR u),rfl,rfl⟩
 rw[if_neg h4,if_neg h4];by_cases h5:k=5
 ·rw[if_pos h5,if_pos h5]
  exact⟨Ih,rfl,rfl⟩
 rw[if_neg h5,if_neg h5];by_cases h6:k=6
 ·rw[if_pos h6,if_pos h6]
  exact⟨Nn h,rfl,rfl⟩
 rw[if_neg h6,if_neg h6];by_cases h7:k=7
 ·rw[if_pos h7,if_pos h7];subst h7;simp at hk
  rw[hl];split
  ·exact⟨CP hk.1.2.1,rfl,rfl⟩
  ·exact⟨pK (CP hk.1.2.1) rfl (pJ ((g 0).at 1)),rfl,rfl⟩
 rw[if_neg h7,if_neg h7];exact⟨(gM (by decide)).qt,rfl,rfl⟩
mutual
theorem ae.lx:∀t:ae,t.okB=true →t.fit→LR t.kf t.tf
  | .mk k n u p ks,h,hf=>by
    rw[ae.okB,Bool.and_eq_true]at h;rw[ae.fit]at hf;rw[ae.kf,ae.tf];exact XQ h.1 hf.1 (by rw[ae.gu,List.length_map]) (ae.Ig ks h.2 hf.2)
theorem ae.Ig:∀l:List ae,ae.eC l=true →ae.gI l→tz (ae.dJ l) (ae.lu l)
  |[],_,_ => .nil
  |t::l,h,hf=>by
   rw[ae.eC,Bool.and_eq_true]at h;rw[ae.gI]at hf;exact .cons (ae.lx t h.1 hf.1) (ae.Ig l h.2 hf.2)
end
inductive K4:List (List UInt8×KF)->List (TF×TF)->Prop
 |nil:K4 [] []
 |cons {x y z w l m}:Lx x (z.at 0)->LR y w->K4 l m->K4 ((x,y)::l) ((z,w)::m)
theorem K4.flat {l:List (List UInt8×KF)} {m:List (TF×TF)} (h:K4 l m) {b:List UInt8} {us:List TK} (hb:xg b=true) (k:Lx b us):Lx ((l.map mH).flatten++b) ((m.map AU).flatten++us)∧xg ((l.map mH).flatten++b)=true :=by
  induction h with
  |nil=>exact⟨k,hb⟩
  |@cons x y z w l m h1 h2 h3 ih=>
   simp only[List.map_cons,List.flatten_cons,mH,AU,List.append_assoc,List.cons_append];refine⟨gv (oa (w:=[124]) (gM (by decide))) (jO h1 rfl (gv (oa (w:=[45,62]) zZ) (jO (h2.at 0) ih.2 ih.1))),rfl⟩
theorem O0 {n:List UInt8} (h:uC n=true):Lx n [F9 n]:=by
 simp only[uC,decide_eq_true_eq,List.mem_cons,List.not_mem_nil,or_false]at h;unfold F9;rcases h with rfl|rfl|rfl|rfl|rfl
 ·exact nu (by decide)
 ·exact nu (by decide)
 ·exact nu (by decide)
 ·exact nu (by decide)
 ·exact(gM (by decide)).qt
theorem oS {n:List UInt8} {m:Int} (h:m=arity n) (hm:0<=m):(n=[114,101,97,100]/\m=0)\/(uC n=true/\m=1):=by
 unfold arity at h;split at h
 ·rename_i hn;exact .inl ⟨hn,h⟩
 ·split at h
  ·rename_i hp;exact .inr ⟨hp,h⟩
  ·omega
theorem XR {k:Int} {n:List UInt8} {u:Int} {t:List UInt8} {p m a:Int} {ks:List KF} {ts:List TF} {bf:List (List UInt8×KF)} {XS:List (TF×TF)} (hk:gS k n u t p m a=true) (hu:u<=9223372036854775807) (hm:m=ks.length) (h:tz ks ts) (hA:K4 bf XS):LR (iM k n u t ks bf) (gd k n u t ts XS):=by
 have g:=h.get;have hl:=h.len;have hb:=(g 0).b;unfold gS at hk;unfold iM gd;by_cases h1:k=1
 ·rw[if_pos h1,if_pos h1];subst h1;simp at hk
  exact⟨Nl hk.1.2.2.1 hu,rfl,rfl⟩
 rw[if_neg h1,if_neg h1];by_cases h2:k=2
 ·rw[if_pos h2,if_pos h2];subst h2;simp at hk
  exact⟨(XN hk.1.2.2.2).qt,rfl,rfl⟩
 rw[if_neg h2,if_neg h2];by_cases h3:k=3
 ·rw[if_pos h3,if_pos h3]
  exact⟨nu (CR u),rfl,rfl⟩
 rw[if_neg h3,if_neg h3];by_cases h4:k=4
 ·rw[if_pos h4,if_pos h4]
  exact⟨Ih,rfl,rfl⟩
 rw[if_neg h4,if_neg h4];by_cases h5:k=5
 ·rw[if_pos h5,if_pos h5];subst h5;simp at hk
  exact⟨qv hk.1.2.1,rfl,rfl⟩
 rw[if_neg h5,if_neg h5];by_cases h7:k=7
 ·rw[if_pos h7,if_pos h7]
  exact⟨Nn h,rfl,rfl⟩
 rw[if_neg h7,if_neg h7];by_cases xh:k=14
 ·rw[if_pos xh,if_pos xh];subst xh;simp at hk
  exact⟨jO ((g 0).at _) rfl (pJ (pK (XP hk.1.2.1) rfl (pJ ((g 1).at _)))),rfl,rfl⟩
 rw[if_neg xh,if_neg xh];by_cases h6:k=6\/k=15
 ·rw[if_pos h6,if_pos h6,hl]
  have hn:Lx n [if k=6 then zX n else F9 n]:=by
   rcases h6 with rfl|rfl
   ·simp at hk
    exact CP hk.1.2.1
   ·simp at hk
    rcases oS hk.1.1 (by omega)with⟨rfl,-⟩|⟨hp,-⟩
    ·exact nu (a:=[114,101,97,100]) (by decide)
    ·exact O0 hp
  split
  ·exact⟨hn,rfl,rfl⟩
  ·exact⟨pK hn rfl (pJ ((g 0).at 6)),rfl,rfl⟩
 rw[if_neg h6,if_neg h6];by_cases h9:k=9
 ·rw[if_pos h9,if_pos h9,hb]
  exact⟨jO ((g 0).at _) rfl (pJ ((g 1).at 6)),rfl,rfl⟩
 rw[if_neg h9,if_neg h9];have eqs:pH [32,61,32] [cb [61]]:=oa (w:=[61]) (gM (by decide));have ins:pH [32,105,110,32] [fN [105,110]]:=yz (w:=[105,110]) (by decide);by_cases lN:k=10
 ·rw[if_pos lN,if_pos lN];subst lN;simp at hk
  exact⟨gv (oR (w:=[108,101,116]) (by decide)) (pK (qv hk.1.2.1) rfl (gv eqs (jO ((g 0).at 0) rfl (gv ins ((g 1).at 0))))),rfl,rfl⟩
 rw[if_neg lN,if_neg lN];by_cases vW:k=11
 ·rw[if_pos vW,if_pos vW];subst vW;simp at hk
  exact⟨gv (a:=[108,101,116,32]) (oR (w:=[108,101,116]) (by decide)) (gv (a:=[114,101,99,32]) (oR (w:=[114,101,99]) (by decide)) (pK (qv hk.1.2.1) rfl (pJ (pK (qv hk.1.2.2.2) rfl (gv eqs (jO ((g 0).at 0) rfl (gv ins ((g 1).at 0)))))))),rfl,rfl⟩
 rw[if_neg vW,if_neg vW];by_cases h8:k=8
 ·rw[if_pos h8,if_pos h8];subst h8;simp at hk
  exact⟨gv (oR (w:=[102,117,110]) (by decide)) (pK (qv hk.1.2.1) rfl (gv (oa (w:=[45,62]) zZ) ((g 0).at 0))),rfl,rfl⟩
 rw[if_neg h8,if_neg h8];by_cases gz:k=12
 ·rw[if_pos gz,if_pos gz]
  exact⟨gv (oR (w:=[105,102]) (by decide)) (jO ((g 0).at 0) rfl (gv (yz (w:=[116,104,101,110]) (by decide)) (jO ((g 1).at 0) rfl (gv (yz (w:=[101,108,115,101]) (by decide)) ((g 2).at 0))))),rfl,rfl⟩
 rw[if_neg gz,if_neg gz];have he:=hA.flat (b:=[32,101,110,100]) (us:=[fN [101,110,100]]) rfl (pJ (nu (a:=[101,110,100]) (by decide)));exact⟨gv (oR (w:=[109,97,116,99,104]) (by decide)) (jO ((g 0).at 0) rfl (pJ (pK (nu (a:=[119,105,116,104]) (by decide)) he.2 he.1))),rfl,rfl⟩
mutual
theorem aa.lx:∀t:aa,t.okB=true →t.fit→LR t.kf t.tf
  | .mk k n u t p ks bf,h,hf=>by
    rw[aa.okB,Bool.and_eq_true,Bool.and_eq_true]at h;rw[aa.fit]at hf;rw[aa.kf,aa.tf];exact XR h.1 hf.1 (by rw[aa.gu,List.length_map]) (aa.Ig ks h.2.1 hf.2.1) (aa.lxA bf h.2.2 hf.2.2)
theorem aa.Ig:∀l:List aa,aa.eC l=true →aa.gI l→tz (aa.dJ l) (aa.lu l)
  |[],_,_ => .nil
  |t::l,h,hf=>by
   rw[aa.eC,Bool.and_eq_true]at h;rw[aa.gI]at hf;exact .cons (aa.lx t h.1 hf.1) (aa.Ig l h.2 hf.2)
theorem aa.lxA:∀l:List ar,aa.p5 l=true →aa.pG l→K4 (aa.xe l) (aa.yx l)
  |[],_,_ => .nil
  | .mk p e::l,h,hf=>by
    rw[aa.p5,ar.okB,Bool.and_eq_true,Bool.and_eq_true]at h;rw[aa.pG,ar.fit]at hf;rw[aa.xe,aa.yx,ar.kf,ar.tf];exact .cons ((ae.lx p h.1.1 hf.1.1).at 0) (aa.lx e h.1.2 hf.1.2) (aa.lxA l h.2 hf.2)
end
theorem ai.lx {c:ai} (h:c.okB=true):Lx c.form c.fw:=by
 simp only[ai.okB,Bool.and_eq_true]at h;unfold ai.form ai.fw;by_cases hh:c.has=true
 ·rw[if_pos hh,if_pos hh]
  rw[if_pos hh]at h;exact pK (CP h.1) rfl (gv (yz (w:=[111,102]) (by decide)) ((af.lx _ h.2.2).at 0))
 ·rw[if_neg hh,if_neg hh]
  exact pK (CP h.1) rfl sG
theorem EV:∀{l:List ai},l.all ai.okB=true →Lx (cC [32,124,32] (l.map ai.form)) (kR (cb [124]) (l.map ai.fw))
  |[],_ =>sG
  |[c],h=>ai.lx (by simpa using h)
  |c::d::l,h=>by
   rw[List.all_cons,Bool.and_eq_true]at h;have ih:=EV h.2;simp only[List.map_cons,yy,mj]at ih⊢;exact jO (ai.lx h.1) rfl (gv (oa (w:=[124]) (gM (by decide))) ih)
theorem Ii:∀{l:List (List UInt8)},l.all (tu gq)=true →pH ((l.map fun v=>39::(v++[32])).flatten) (l.map DS)
  |[],_ =>sG
  |v::l,h=>by
   rw[List.all_cons,Bool.and_eq_true]at h;simp only[List.map_cons,List.flatten_cons];exact gv (Bp (a:=39::v) (Nj h.1)) (Ii h.2)
theorem ao.lx {d:ao} (h:d.okB=true):pH d.form d.fw:=by
 simp only[ao.okB,Bool.and_eq_true]at h;unfold ao.form ao.fw;refine gv (oR (w:=[116,121,112,101]) (by decide)) (pI (Ii h.2.2.2.1) ?_);refine yu (ts:=[xf d.name]) (qv h.1) (fun c=>rfl) (gv (oa (w:=[61]) (gM (by decide))) ?_);refine yu (EV h.2.2.2.2) (fun c=>rfl) (gv (a:=[59]) (b:=[10]) (us:=[]) (gM (by decide)) (vE (by decide)))
theorem EW:∀{l:List ao},l.all ao.okB=true →pH ((l.map ao.form).flatten) ((l.map ao.fw).flatten)
  |[],_ =>sG
  |v::l,h=>by
   rw[List.all_cons,Bool.and_eq_true]at h;simp only[List.map_cons,List.flatten_cons];exact pI (ao.lx h.1) (EW h.2)
theorem aI.lx {g:aI} (h:g.okB=true) (hf:g.body.fit):pH g.form g.fw:=by
 simp only[aI.okB,Bool.and_eq_true]at h;unfold aI.form aI.fw;have:=pI (EW h.2) (yu ((aa.lx _ h.1 hf).at 0) (fun c=>rfl) (vE (c:=10) (by decide)));simpa using this
theorem z6 {g} {s:List UInt8} {ts:List TK} (h:vV g s ts) (hg:g []=true) (most:Nat):
  (ts.length<=most/\∃T:List Tok,T.map Tok.b=ts++[(8,[],0)]/\dE s most 0 []=.inl T)\/(most<ts.length/\∃p,dE s most 0 []=.inr (5,p)):=by
 rcases h s 0 [] [] most (by simp) hg (Nat.zero_le _)with⟨h1,L,h2,h3⟩|⟨h1,p,h2⟩
 ·refine .inl ⟨by simpa using h1,L++[⟨8,[],0,s.length⟩],by simp[h2,Tok.b],?_⟩
  rw[h3,jg (by omega),List.nil_append]
 ·exact .inr ⟨by simpa using h1,p,h2⟩
mutual
def af.er:af->af
 | .mk k n p ks=>.mk k n 0 (af.cT ks)
def af.cT:List af->List af
 |[]=>[]
 |t::l=>t.er::af.cT l
end
mutual
def ae.er:ae->ae
 | .mk k n u p ks=>.mk k n u 0 (ae.cT ks)
def ae.cT:List ae->List ae
 |[]=>[]
 |t::l=>t.er::ae.cT l
end
mutual
def aa.er:aa->aa
 | .mk k n u t p ks bf=>.mk k n u t 0 (aa.cT ks) (aa.oA bf)
def aa.cT:List aa->List aa
 |[]=>[]
 |t::l=>t.er::aa.cT l
def ar.er:ar->ar
 | .mk p e=>.mk p.er e.er
def aa.oA:List ar->List ar
 |[]=>[]
 |t::l=>t.er::aa.oA l
end
def ai.er (c:ai):ai:=⟨c.name,c.has,c.arg.er,0⟩
def ao.er (d:ao):ao:=⟨d.name,d.vars,d.ctors.map ai.er,0⟩
def aI.er (g:aI):aI:=⟨g.types.map ao.er,g.body.er⟩
theorem af.fa (l:List af):af.cT l=l.map af.er:=by
 induction l with
 |nil=>rfl
 |cons t l ih=>rw[af.cT,ih];rfl
theorem ae.fa (l:List ae):ae.cT l=l.map ae.er:=by
 induction l with
 |nil=>rfl
 |cons t l ih=>rw[ae.cT,ih];rfl
theorem aa.fa (l:List aa):aa.cT l=l.map aa.er:=by
 induction l with
 |nil=>rfl
 |cons t l ih=>rw[aa.cT,ih];rfl
theorem aa.yA (l:List ar):aa.oA l=l.map ar.er:=by
 induction l with
 |nil=>rfl
 |cons t l ih=>rw[aa.oA,ih];rfl
def tT (x:List UInt8) (g:TK):Bool:=(decide (g.1=6)||decide (g.1=7))&&decide (g.2.1=x)
def tK (k:Int) (g:TK):Bool:=decide (g.1=k)
def Rest (T:List Tok) (s:PS) (r:List TK):Prop:=(T.drop s.i).map Tok.b=r
def mv (s:PS) (n D:Nat):PS:={s with i:=s.i+n,d:=max s.d D}
def Gd (T:List Tok) (g:PS->Bool) (p:TK->Bool):Prop:=∀s h r,s.c=0->Rest T s (h::r)->g s=p h
def Fl (T:List Tok) (s:PS):Prop:=s.c=12/\s.i<T.length
section
variable {T:List Tok}
theorem o7 {s:PS} {g:TK} {r:List TK} (h:Rest T s (g::r)):(aD T s).b=g/\s.i<T.length:=by
 unfold Rest at h
 have hi:s.i<T.length:=by
  have:=congrArg List.length h;simp at this;omega
 rw[List.drop_eq_getElem_cons hi,List.map_cons]at h;refine⟨?_,hi⟩;rw[<-(List.cons.inj h).1];simp[aD,hi]
theorem yB {s:PS} {ts r:List TK} (D:Nat) (h:Rest T s (ts++r)):Rest T (mv s ts.length D) r:=by
 unfold Rest at h⊢;show(T.drop (s.i+ts.length)).map Tok.b=r;rw[<-List.drop_drop,List.map_drop,h,List.drop_left]
theorem lG {s:PS} {ts r:List TK} (h:Rest T s (ts++r)):ts.length+r.length<=T.length:=by
 have:=congrArg List.length h;simp at this;omega
theorem SQ (s:PS) (n m D E:Nat):mv (mv s n D) m E=mv s (n+m) (max D E):=by
 simp[mv,Nat.add_assoc,Nat.max_assoc]
theorem Ga (s:PS) (n D:Nat):mv (aE s) n D=mv s (n+1) D:=by
 simp[mv,aE];omega
theorem SS {s:PS} {D:Nat} (h:D<=s.d):mv s 0 D=s:=by
 simp[mv,Nat.max_eq_left h]
theorem z7 {s:PS} {g:TK} {r:List TK} (h:Rest T s (g::r)):Rest T (aE s) r:=by
 have:=yB (ts:=[g]) 0 h;exact this
theorem bU (x):Gd T (aH T x) (tT x):=fun s h r hc hr=>by
 have:=(o7 hr).1;subst this;simp only[aH,tT,hc,Tok.b,decide_true,Bool.true_and];rfl
theorem cF (k):Gd T (bp T k) (tK k):=fun s h r hc hr=>by
 have:=(o7 hr).1;subst this;simp only[bp,tK,hc,Tok.b,decide_true,Bool.true_and];rfl
theorem Gd.or {f g p q} (hf:Gd T f p) (hg:Gd T g q):Gd T (fun s=>f s||g s) (fun h=>p h||q h):=fun s h r hc hr=>by
 simp only[hf s h r hc hr,hg s h r hc hr]
def O1 (h:TK):Bool:=tK 5 h||tK 3 h||tT [40] h
def Ij (h:TK):Bool:=tK 3 h||tK 1 h||tK 4 h||tT [95] h||tT [116,114,117,101] h||tT [102,97,108,115,101] h||tT [40] h
def xi (h:TK):Bool:=tK 1 h||tK 2 h||tK 3 h||tK 4 h||tT [116,114,117,101] h||tT [102,97,108,115,101] h||tT [114,101,97,100] h||tT [40] h
def K5 (h:TK):Bool:=tT [112,114,105,110,116] h||tT [101,120,105,116] h||tT [115,105,122,101] h||tT [114,101,102] h||tT [33] h
def K6 (L:List (List UInt8)) (h:TK):Bool:=tK 7 h&&decide (h.2.1∈L)
theorem ada:Gd T (iT T) O1:=((cF 5).or (cF 3)).or (bU _)
theorem No:Gd T (dV T) Ij:=((((((cF 3).or (cF 1)).or (cF 4)).or (bU _)).or (bU _)).or (bU _)).or (bU _)
theorem Gb:Gd T (dW T) xi:=(((((((cF 1).or (cF 2)).or (cF 3)).or (cF 4)).or (bU _)).or (bU _)).or (bU _)).or (bU _)
theorem yC:Gd T (iv T) K5:=((((bU _).or (bU _)).or (bU _)).or (bU _)).or (bU _)
theorem Gc (L):Gd T (iw T L) (K6 L):=fun s h r hc hr=>by
 have e:=(o7 hr).1;have:=cF 7 s h r hc hr;subst e;simp only[iw,K6,this];rfl
theorem aaV:Gd T (fun s=>!decide (s.c=0)) (fun _=>false):=fun s h r hc _=>by simp[hc]
theorem adb:Gd T (fun s=>decide (s.c=0)) (fun _=>true):=fun s h r hc _=>by simp[hc]
def Rd (T:List Tok) (most lo:Nat) {α β:Type} (er:α->β) (m:PM α) (ts:List TK) (x:β) (D:Nat) (ok:TK->Bool):Prop :=
 ∀s h r,s.c=0->lo<=s.d->s.d<=most->Rest T s (ts++h::r)->ok h=true ->
  (D<=most/\∃y,er y=x/\m s=(y,mv s ts.length D))\/(most<D/\Fl T (m s).2)
def Nx (p:TK->Bool) (ts:List TK) (ok:TK->Bool):Prop:=∀h,ok h=true->p ((ts++[h]).headD h)=true
theorem yD {p ok:TK->Bool} (h:∀x,ok x=true->p x=true):Nx p [] ok:=fun x hx=>h x hx
theorem dy {p ok:TK->Bool} {g:TK} {ts:List TK} (h:p g=true):Nx p (g::ts) ok:=fun x hx=>h
theorem XT {ok:TK->Bool} {ts:List TK}:Nx (fun _=>true) ts ok:=fun x hx=>rfl
variable {most lo:Nat} {α β γ δ:Type} {er:α->β} {er2:γ->δ} {ok ok1:TK->Bool}
theorem dw {a:α} {x:β} (h:er a=x):Rd T most lo er (aO a) [] x lo ok:=fun s g r hc eg hd hr hk=>
 .inl ⟨by omega,a,h,by rw[List.length_nil,SS eg];rfl⟩
theorem Rd.cast {m:PM α} {ts SU:List TK} {x:β} {D D':Nat} (h:Rd T most lo er m ts x D ok) (ht:ts=SU) (hD:D=D'):Rd T most lo er m SU x D' ok:=by
 subst ht;subst hD;exact h
theorem Rd.low {m:PM α} {ts:List TK} {x:β} {D Qz:Nat} (h:Rd T most lo er m ts x D ok) (hl:lo<=Qz):Rd T most Qz er m ts x D ok:=
 fun s g r hc eg hd hr hk=>h s g r hc (by omega) hd hr hk
theorem Rd.XU {m:PM α} {ts:List TK} {x:β} {D:Nat} (h:Rd T most lo er m ts x D ok) (hl:∀g,ok1 g=true->ok g=true):Rd T most lo er m ts x D ok1:=
 fun s g r hc eg hd hr hk=>h s g r hc eg hd hr (hl g hk)
theorem vF {p ok:TK->Bool} {ts:List TK} (h:Nx p ts ok) {g:TK} {r:List TK} (hg:ok g=true):∃g' r',ts++g::r=g'::r'/\p g'=true:=by
 have:=h g hg
 cases ts with
 |nil=>exact⟨g,r,rfl,this⟩
 |cons t ts=>exact⟨t,ts++g::r,rfl,this⟩
theorem yE {m:PM γ} {k:γ->PM α} {yF z8:List TK} {x1:δ} {x:β} {D1 D2:Nat} (h1:Rd T most lo er2 m yF x1 D1 ok1) (bc:∀a,ab T (k a)) (h2:∀y,er2 y=x1->Rd T most lo er (k y) z8 x D2 ok) (dO:Nx ok1 z8 ok):
  Rd T most lo er (az m k) (yF++z8) x (max D1 D2) ok:=fun s g r hc eg hd hr hk=>by
 obtain⟨g',r',e1,e2⟩:=vF dO (r:=r) hk;rw[List.append_assoc]at hr;have sx:=hr;rw[e1]at sx;unfold az;rcases h1 s g' r' hc eg hd sx e2 with⟨k1,y,k2,k3⟩|⟨k1,k2,k3⟩
 ·rw[k3]
  rcases h2 y k2 (mv s yF.length D1) g r hc (Nat.le_trans eg (Nat.le_max_left _ _)) (Nat.max_le.2 ⟨hd,k1⟩) (yB D1 hr) hk with⟨j1,z,j2,j3⟩|⟨j1,j2⟩
  ·refine .inl ⟨Nat.max_le.2 ⟨k1,j1⟩,z,j2,?_⟩
   rw[j3,SQ,List.length_append]
  ·exact .inr ⟨by omega,j2⟩
 ·have:=(bc (m s).1 _ k3).2.2.1 (by rw[k2];decide)
  refine .inr ⟨by omega,?_⟩;rw[this];exact⟨k2,k3⟩
theorem gf {m:PM γ} {k:γ->PM α} {yF z8 ts:List TK} {x1:δ} {x:β} {D D1 D2:Nat} (h1:Rd T most lo er2 m yF x1 D1 ok1) (bc:∀a,ab T (k a)) (h2:∀y,er2 y=x1->Rd T most lo er (k y) z8 x D2 ok) (dO:Nx ok1 z8 ok) (XV:yF++z8=ts) (hD:max D1 D2=D):
  Rd T most lo er (az m k) ts x D ok:=(yE h1 bc h2 dO).cast XV hD
theorem rG {m:PM γ} {k:γ->PM α} {ts:List TK} {x1:δ} {x:β} {D:Nat} (h1:Rd T most lo er2 m ts x1 D ok1) (bc:∀a,ab T (k a)) (h2:∀y,er2 y=x1->Rd T most lo er (k y) [] x lo ok) (dO:∀g,ok g=true->ok1 g=true) (hD:lo<=D):
  Rd T most lo er (az m k) ts x D ok:=(yE h1 bc h2 (yD dO)).cast (List.append_nil _) (Nat.max_eq_left hD)
theorem gw {m:PM γ} {f:γ->α} {ts:List TK} {x1:δ} {x:β} {D:Nat} (h1:Rd T most lo er2 m ts x1 D ok1) (hf:∀y,er2 y=x1->er (f y)=x) (dO:∀g,ok g=true->ok1 g=true) (hD:lo<=D):
  Rd T most lo er (az m fun y=>aO (f y)) ts x D ok:=rG h1 (fun _=>ab.ret _) (fun y hy=>dw (hf y hy)) dO hD
theorem O2 {m:PM α} {f:PS->PS} {g:TK} {ts:List TK} {x:β} {D:Nat} (hf:∀s r,s.c=0->Rest T s (g::r)->f s=aE s) (h:Rd T most lo er m ts x D ok):Rd T most lo er (cg f m) (g::ts) x D ok:=fun s h' r hc eg hd hr hk=>by
 have:=h (aE s) h' r hc eg hd (z7 hr) hk;rw[Ga]at this;unfold cg;rw[hf s _ hc hr];exact this
theorem eQ {m:PM α} {g:TK} {x0:List UInt8} {ts:List TK} {x:β} {D:Nat} (hp:tT x0 g=true) (h:Rd T most lo er m ts x D ok):Rd T most lo er (cg (aS T x0) m) (g::ts) x D ok:=
 O2 (fun s r hc hr=>by unfold aS;rw[bU x0 s g r hc hr,hp];rfl) h
theorem oc {m:List UInt8->PM α} {k:Int} {n:List UInt8} {u:Int} {ts:List TK} {x:β} {D:Nat} (h:Rd T most lo er (m n) ts x D ok):Rd T most lo er (az (cU T k) m) ((k,n,u)::ts) x D ok:=fun s h' r hc eg hd hr hk=>by
 have:=h (aE s) h' r hc eg hd (z7 hr) hk;rw[Ga]at this;unfold az cU;have e:(aD T s).t=n:=by have:=(o7 hr).1;exact congrArg (fun g:TK=>g.2.1) this
 rw[cF k s _ _ hc hr,show tK k (k,n,u)=true by simp[tK],if_pos rfl];simp only[e];exact this
theorem cf {k:Tok->PM α} {g:TK} {ts:List TK} {x:β} {D:Nat} (h:∀w:Tok,w.b=g->Rd T most lo er (k w) (g::ts) x D ok):Rd T most lo er (dZ T k) (g::ts) x D ok:=fun s h' r hc eg hd hr hk=>
 h _ (o7 hr).1 s h' r hc eg hd hr hk
theorem Ik {k:Tok->PM α} {x:β} {D:Nat} (h:∀w:Tok,Rd T most lo er (k w) [] x D ok):Rd T most lo er (dZ T k) [] x D ok:=fun s h' r hc eg hd hr hk=>
 h _ s h' r hc eg hd hr hk
theorem sI {m:PM α} {g:TK} {ts:List TK} {x:β} {D:Nat} (h:Rd T most lo er m ts x D ok):Rd T most lo er (bM m) (g::ts) x D ok:=fun s h' r hc eg hd hr hk=>by
 have:=h (aE s) h' r hc eg hd (z7 hr) hk;rw[Ga]at this;exact this
theorem gg {f:PS->Bool} {p:TK->Bool} {m1 m2:PM α} {g:TK} {ts:List TK} {x:β} {D:Nat} (hf:Gd T f p) (hp:p g=true) (h:Rd T most lo er m1 ts x D ok):Rd T most lo er (bg f m1 m2) (g::ts) x D ok:=fun s h' r hc eg hd hr hk=>by
 rw[aQ ((hf s g _ hc hr).trans hp)];exact sI h s h' r hc eg hd hr hk
theorem bX {f:PS->Bool} {p:TK->Bool} {m1 m2:PM α} {g:TK} {ts:List TK} {x:β} {D:Nat} (hf:Gd T f p) (hp:p g=false) (h:Rd T most lo er m2 (g::ts) x D ok):Rd T most lo er (bg f m1 m2) (g::ts) x D ok:=fun s h' r hc eg hd hr hk=>by
 rw[aU ((hf s g _ hc hr).trans hp)];exact h s h' r hc eg hd hr hk
theorem Ge {f:PS->Bool} {p:TK->Bool} {m1 m2:PM α} {x:β} {D:Nat} (hf:Gd T f p) (hp:∀g,ok g=true->p g=false) (h:Rd T most lo er m2 [] x D ok):Rd T most lo er (bg f m1 m2) [] x D ok:=fun s h' r hc eg hd hr hk=>by
 rw[aU ((hf s h' _ hc hr).trans (hp h' hk))];exact h s h' r hc eg hd hr hk
theorem K7 {f:PS->Bool} {p:TK->Bool} {m1 m2:PM α} {ts:List TK} {x:β} {D:Nat} (hf:Gd T f p) (hp:Nx p ts ok) (h:Rd T most lo er m1 ts x D ok):Rd T most lo er (dU f m1 m2) ts x D ok:=fun s h' r hc eg hd hr hk=>by
 obtain⟨g',r',e1,e2⟩:=vF hp (r:=r) hk;have sx:=hr;rw[e1]at sx;rw[fE ((hf s g' _ hc sx).trans e2)];exact h s h' r hc eg hd hr hk
theorem Gf {f:PS->Bool} {p:TK->Bool} {m1 m2:PM α} {ts:List TK} {x:β} {D:Nat} (hf:Gd T f p) (hp:Nx (fun g=>!p g) ts ok) (h:Rd T most lo er m2 ts x D ok):Rd T most lo er (dU f m1 m2) ts x D ok:=fun s h' r hc eg hd hr hk=>by
 obtain⟨g',r',e1,e2⟩:=vF hp (r:=r) hk;have sx:=hr;rw[e1]at sx;rw[jj ((hf s g' _ hc sx).trans (by simpa using e2))];exact h s h' r hc eg hd hr hk
theorem kd {m:PM α} {z:α} {ts:List TK} {x:β} {d D:Nat} (hD:d<=D) (h:d<=most->Rd T most d er m ts x D ok):Rd T most lo er (jJ T most d z m) ts x D ok:=fun s h' r hc eg hd hr hk=>by
 by_cases hm:most<d
 ·have e1:cM T most d s=dI T 12 s:=by
   unfold cM;rw[if_pos hm,iJ hc];simp
  refine .inr ⟨by omega,?_⟩;unfold jJ;rw[e1,iJ hc];refine⟨rfl,?_⟩;obtain⟨g',r',e1,-⟩:=vF (p:=fun _=>true) (ts:=ts) XT (r:=r) hk;rw[e1]at hr;exact(o7 hr).2
 ·have e1:cM T most d s={s with d:=max s.d d}:=by
   unfold cM;rw[if_neg hm];simp only[hc,if_true]
  have:=h (by omega) {s with d:=max s.d d} h' r hc (Nat.le_max_right _ _) (Nat.max_le.2 ⟨hd,by omega⟩) hr hk;unfold jJ;rw[e1,if_pos (show({s with d:=max s.d d}:PS).c=0 from hc)]
  have e2:mv {s with d:=max s.d d} ts.length D=mv s ts.length D:=by
   simp only[mv,Nat.max_assoc,Nat.max_eq_right hD]
  rw[<-e2];exact this
inductive DT (T:List Tok) (most lo:Nat) (er:α->β) (m:PM α) (ok:TK->Bool) (D:γ->Nat) (f:γ->List TK) (e:γ->β):List γ->Prop
 |nil:DT T most lo er m ok D f e []
 |cons {a l}:Rd T most lo er m (f a) (e a) (D a) ok->DT T most lo er m ok D f e l->DT T most lo er m ok D f e (a::l)
def uG (lo:Nat) (D:γ->Nat):List γ->Nat
 |[]=>lo
 |a::l=>max (D a) (uG lo D l)
theorem od {g:PS→Bool} {p:TK→Bool} {m:PM α} (hp:Gd T g p) (hm:∀n,ab T (many g m n)) {D:γ→Nat} {f:γ→List TK} {e:γ→β} {ok0:TK→Bool} (h0:∀h,ok h=true →p h=false) (dO:∀h,ok h=true →ok0 h=true):
    ∀(l:List γ) (n:Nat),DT T most lo er m ok0 D f e l→l.length≤n→(∀a∈l,∃h r,f a=h::r∧p h=true ∧ok0 h=true)→Rd T most lo (fun y=>y.map er) (many g m n) ((l.map f).flatten) (l.map e) (uG lo D l) ok
  |[],n,_,_,_ =>fun s h r hc eg hd hr hk=>by
   rw[kC ((hp s h r hc hr).trans (h0 h hk))]
   exact .inl ⟨by show lo≤most;omega,[],rfl,by rw[show(([]:List γ).map f).flatten.length=0 from rfl,show uG lo D ([]:List γ)=lo from rfl,SS eg]⟩
  |a::l,n+1, .cons h1 h2,hn,hh=>by
   obtain⟨g0,r0,e1,e2,e3⟩:=hh a (by simp);have ih:=od hp hm h0 dO l n h2 (by simpa using hn) (fun b hb=>hh b (by simp[hb]))
   have hx:Nx ok0 ((l.map f).flatten) ok:=by
     cases l with
     |nil=>exact yD dO
     |cons b l=>
      obtain⟨g1,r1,k1,k2,k3⟩:=hh b (by simp);rw[List.map_cons,List.flatten_cons,k1];exact dy k3
   have :=yE (er:=fun y:List α=>y.map er) (k:=fun y=>az (many g m n) fun ys=>aO (y::ys)) (x:=(a::l).map e) h1 (fun y=>ab.bind (hm n) fun _ =>ab.ret _) (fun y hy=>(yE ih (fun _ =>ab.ret _) (fun ys ie=>dw (by simp only[List.map_cons,hy,ie])) (yD (fun x hx=>hx))).cast (List.append_nil _) rfl) hx
   have eg:∀l:List γ,lo≤uG lo D l:=by
     intro l
     induction l with
     |nil=>exact Nat.le_refl _
     |cons b l ih=>exact Nat.le_trans ih (Nat.le_max_right _ _)
   refine fun s h r hc agj hd hr hk=> ?_
   have sx:=hr;rw[List.map_cons,List.flatten_cons,e1]at sx
   have eb:many g m (n+1) s=az m (fun y=>az (many g m n) fun ys=>aO (y::ys)) s:=by
     rw[many,if_pos ((hp s g0 _ hc sx).trans e2)];rfl
   rw[eb];have :=this.cast (show _ =((a::l).map f).flatten by rw[List.map_cons,List.flatten_cons]) (show _ =uG lo D (a::l)by rw[uG,Nat.max_eq_left (eg l)])
   exact this s h r hc agj hd hr hk
  |a::l,0,_,hn,_ =>by simp at hn
def Qd (T:List Tok) (N most lo:Nat) (m:PM aa) (g:PS->Bool) (st:aa->PM aa) (ts:List TK) (x:aa) (D:Nat) (ok:TK->Bool):Prop :=
 ∀s h r,s.c=0->lo<=s.d->s.d<=most->Rest T s (ts++h::r)->ok h=true ->
  (D<=most/\∃y j,y.er=x/\j<=ts.length/\m s=carry g st (N-j) y (mv s ts.length D))\/(most<D/\Fl T (m s).2)
variable {N:Nat}
theorem Qd.cast {m:PM aa} {g st} {ts SU:List TK} {x:aa} {D D':Nat} (h:Qd T N most lo m g st ts x D ok) (ht:ts=SU) (hD:D=D'):Qd T N most lo m g st SU x D' ok:=by
 subst ht;subst hD;exact h
theorem Qd.XU {m:PM aa} {g st} {ts:List TK} {x:aa} {D:Nat} (h:Qd T N most lo m g st ts x D ok) (hl:∀g,ok1 g=true->ok g=true):Qd T N most lo m g st ts x D ok1:=
 fun s g r hc eg hd hr hk=>h s g r hc eg hd hr (hl g hk)
theorem Gg {m:PM aa} {g st} {p:TK->Bool} {ts:List TK} {x:aa} {D:Nat} (h:Qd T N most lo m g st ts x D ok) (hg:Gd T g p) (dO:∀h,ok1 h=true->ok h=true/\p h=false):Rd T most lo aa.er m ts x D ok1:=fun s h' r hc eg hd hr hk=>by
 obtain⟨h1,h2⟩:=dO h' hk;rcases h s h' r hc eg hd hr h1 with⟨k1,y,j,k2,k3,k4⟩|k
 ·refine .inl ⟨k1,y,k2,?_⟩
  rw[k4,ru ((hg (mv s ts.length D) h' r hc (yB D hr)).trans h2)]
 ·exact .inr k
theorem EX {m:PM aa} {g:PS->Bool} {st:aa->PM aa} {ts:List TK} {x:aa} {D:Nat} (h:Rd T most lo aa.er m ts x D ok) (bc:∀a,ab T (carry g st N a)):Qd T N most lo (az m (carry g st N)) g st ts x D ok:=fun s h' r hc eg hd hr hk=>by
 unfold az;rcases h s h' r hc eg hd hr hk with⟨k1,y,k2,k3⟩|⟨k1,k2,k3⟩
 ·exact .inl ⟨k1,y,0,k2,Nat.zero_le _,by rw[k3];rfl⟩
 ·have:=(bc (m s).1 _ k3).2.2.1 (by rw[k2];decide)
  exact .inr ⟨k1,by rw[this];exact⟨k2,k3⟩⟩
theorem Gh {m:PM aa} {g:PS->Bool} {st:aa->PM aa} {p:TK->Bool} {yF z8:List TK} {x1 x:aa} {D1 D2:Nat} {g0:TK} (hN:T.length<=N) (hg:Gd T g p) (h:Qd T N most lo m g st yF x1 D1 ok1) (bc:∀n a,ab T (carry g st n a))
  (h2:∀y,y.er=x1->Rd T most lo aa.er (st y) (g0::z8) x D2 ok) (h0:p g0=true) (h1:ok1 g0=true):Qd T N most lo m g st (yF++g0::z8) x (max D1 D2) ok:=fun s h' r hc eg hd hr hk=>by
 rw[List.append_assoc]at hr;have hl:=lG hr;rcases h s g0 (z8++h'::r) hc eg hd hr h1 with⟨k1,y,j,k2,k3,k4⟩|⟨k1,k2⟩
 ·have oO:=yB D1 hr
  have e1:N-j=(N-(j+1))+1:=by simp at hl;omega
  have e2:m s=carry g st (N-(j+1)) (st y (mv s yF.length D1)).1 (st y (mv s yF.length D1)).2:=by
   rw[k4,e1,carry,if_pos ((hg (mv s yF.length D1) g0 _ hc oO).trans h0)]
  rcases h2 y k2 (mv s yF.length D1) h' r hc (Nat.le_trans eg (Nat.le_max_left _ _)) (Nat.max_le.2 ⟨hd,k1⟩) oO hk with⟨j1,z,j2,j3⟩|⟨j1,j2,j3⟩
  ·refine .inl ⟨Nat.max_le.2 ⟨k1,j1⟩,z,j+1,j2,by simp;omega,?_⟩
   rw[e2,j3,SQ,List.length_append]
  ·refine .inr ⟨by omega,?_⟩
   have:=(bc (N-(j+1)) (st y (mv s yF.length D1)).1 _ j3).2.2.1 (by rw[j2];decide);rw[e2,this];exact⟨j2,j3⟩
 ·exact .inr ⟨by omega,k2⟩
end
theorem af.qw (l:List af):af.lu l=l.map af.tf:=by
 induction l with
 |nil=>rfl
 |cons t l ih=>rw[af.lu,ih];rfl
theorem ae.qw (l:List ae):ae.lu l=l.map ae.tf:=by
 induction l with
 |nil=>rfl
 |cons t l ih=>rw[ae.lu,ih];rfl
theorem aa.qw (l:List aa):aa.lu l=l.map aa.tf:=by
 induction l with
 |nil=>rfl
 |cons t l ih=>rw[aa.lu,ih];rfl
theorem aa.Np (l:List ar):aa.yx l=l.map ar.tf:=by
 induction l with
 |nil=>rfl
 |cons t l ih=>rw[aa.yx,ih];rfl
theorem uH {α β:Type} (f:β->Nat) (g:α->β) (l:List α):fW f (l.map g)=fW (fun a=>f (g a)) l:=by
 induction l with
 |nil=>rfl
 |cons a l ih=>simp only[List.map_cons,fW,ih]
theorem sJ {α:Type} (lo:Nat) (f:α->Nat) (l:List α):uG lo (fun a=>lo+f a) l=lo+fW f l:=by
 induction l with
 |nil=>rfl
 |cons a l ih=>simp only[uG,fW,ih];omega
theorem rH (sep:TK) (a:List TK):∀l:List (List TK),kR sep (a::l)=a++(l.map (sep:: ·)).flatten
  |[]=>by simp[kR]
  |b::l=>by
   rw[mj,rH sep b l];simp
theorem qx {T:List Tok} {most lo:Nat} {α β γ:Type} {er:α->β} {m:PM α} {ok:TK->Bool} {D:γ->Nat} {f:γ->List TK} {e:γ->β}:∀{l:List γ},(∀a∈l,Rd T most lo er m (f a) (e a) (D a) ok)->DT T most lo er m ok D f e l
 |[],_=>.nil
 |a::l,h=>.cons (h a (by simp)) (qx fun b hb=>h b (by simp[hb]))
theorem uI {α:Type} {l:List α} (h:(l.length:Int)=1):∃a,l=[a]:=by
 rcases l with _|⟨a,_|⟨b,l⟩⟩
 ·simp at h
 ·exact⟨a,rfl⟩
 ·simp at h;omega
theorem uJ {α:Type} {l:List α} (h:(l.length:Int)=2):∃a b,l=[a,b]:=by
 rcases l with _|⟨a,_|⟨b,_|⟨c,l⟩⟩⟩
 ·simp at h
 ·simp at h
 ·exact⟨a,b,rfl⟩
 ·simp at h;omega
theorem AW {α:Type} {l:List α} (h:(l.length:Int)=0):l=[]:=by
 cases l with
 |nil=>rfl
 |cons a l=>simp at h;omega
theorem CS {α:Type} {l:List α} (h:2<=(l.length:Int)):∃a b m,l=a::b::m:=by
 rcases l with _|⟨a,_|⟨b,l⟩⟩
 ·simp at h
 ·simp at h
 ·exact⟨a,b,l,rfl⟩
def CT (h:TK):Bool:=!O1 h
def yG (h:TK):Bool:=!O1 h&& !tT [42] h
def Nq (h:TK):Bool:=!O1 h&&(!tT [42] h&& !tT [45,62] h)
def agk (T:List Tok) (N:Nat) (ty:PM af):PM af:=az (eU T N ty) fun a=>az (many (aH T [42]) (bM (eU T N ty)) N) fun l=>aO (fk a l)
section
variable (T:List Tok) (N most:Nat)
def TE (f:List TK) (z:af) (q:Nat):Prop:=∀K d,most+2<=K+d->d<=most+1->Rd T most 0 af.er (l9 T N most K d) f z (d+q) Nq
def T1 (f:List TK) (z:af) (q:Nat):Prop:=∀K d,most+2<=K+(d+1)->d<=most->Rd T most d af.er (agk T N (l9 T N most K (d+1))) f z (d+q) yG
def T2 (f:List TK) (z:af) (q:Nat):Prop:=∀K d,most+2<=K+(d+1)->d<=most->Rd T most d af.er (eU T N (l9 T N most K (d+1))) f z (d+q) CT
def T3 (f:List TK) (z:af) (q:Nat):Prop:=∀K d,most+2<=K+(d+1)->d<=most->Rd T most d af.er (dR T (l9 T N most K (d+1))) f z (d+q) (fun _=>true)
structure yH (y:TF) (z:af):Prop where
 e:TE T N most (y.at 0) z (y.qa 0)
 t1:T1 T N most (y.at 1) z (y.qa 1)
 t2:T2 T N most (y.at 2) z (y.qa 2)
 t3:T3 T N most (y.at 3) z (y.qa 3)
 hd:∃h r,y.at 3=h::r/\O1 h=true
end
section
variable {T:List Tok} {N most:Nat} (hT:bH T) (hN:T.length<=N)
include hT hN
theorem Nr {f z q} (h:T2 T N most f z q):T1 T N most f z q:=fun K d hK hd=>by
 have hs:=gA (N:=N) hT most K (d+1);refine rG (h K d hK hd) (fun _=>ab.bind (ab.gj hT (aw T _) (ik hT hs) _) fun _=>ab.ret _) (fun y hy=>?_) (fun g hg=>by simp only[yG,CT,Bool.and_eq_true]at hg⊢;exact hg.1) (by omega);refine rG (er2:=fun l:List af=>l.map af.er) (x1:=[]) (ok1:=yG) (fun s g r hc eg hd hr hk=>?_) (fun _=>ab.ret _) (fun l hl=>?_) (fun g hg=>hg) (Nat.le_refl d)
 ·have hf:aH T [42] s=false:=by
   rw[bU _ s g r hc hr];simp only[yG,Bool.and_eq_true,Bool.not_eq_true']at hk;exact hk.2
  rw[kC hf];exact .inl ⟨by omega,[],rfl,by rw[List.length_nil,SS eg]⟩
 ·have:l=[]:=by simpa using hl
  subst this;exact dw (by rw[show fk y []=y by simp[fk]];exact hy)
theorem Ns {f z q} (h:T1 T N most f z q):TE T N most f z q:=fun K d hK hd=>by
  cases K with
  |zero=>omega
  |succ K=>
   have hs:=gA (N:=N) hT most K (d+1);refine kd (Nat.le_add_right _ _) fun oe=> ?_
   exact rG (ok:=Nq) (h K d (by omega) oe) (k:=fun x=>bg (aH T [45,62]) (az (l9 T N most K (d+1)) fun b=>aO (af.mk 3 [] x.pos [x,b])) (aO x)) (fun _ =>ab.bg hT (aw T _) (ab.bind hs fun _ =>ab.ret _) (ab.ret _))
     (fun y hy=>Ge (bU _) (fun g hg=>by simp only[Nq,Bool.and_eq_true,Bool.not_eq_true']at hg;exact hg.2.2) (dw hy)) (fun g hg=>by simp only[Nq,yG,Bool.and_eq_true]at hg⊢;exact⟨hg.1,hg.2.1⟩) (by omega)
theorem ade {f z q} (h:TE T N most f z q):T3 T N most (cb [40]::(f++[cb [41]])) z (q+1):=fun K d hK hd=>by
 unfold dR;refine cf fun w hw=>bX (cF _) rfl<|bX (cF _) rfl<|eQ rfl ?_
 exact gf ((h K (d+1) hK (by omega)).low (Nat.zero_le d)) (fun _=>ab.step (aG hT _) (ab.ret _)) (fun y hy=>eQ (g:=cb [41]) rfl (dw hy)) (dy rfl) rfl (by omega)
theorem aaW {f z q} (h:T3 T N most f z q) {g r} (hf:f=g::r) (h1:tT [114,101,102] g=false) (h2:tK 3 g=false):T2 T N most f z q:=fun K d hK hd=>by
 subst hf;unfold eU;exact cf fun w hw=>bX (bU _) h1<|bX (cF _) h2<|(h K d hK hd).XU fun _ _=>rfl
theorem XW {f z q} (h:TE T N most f z q):T1 T N most (cb [40]::(f++[cb [41]])) z (q+1)/\T2 T N most (cb [40]::(f++[cb [41]])) z (q+1)/\T3 T N most (cb [40]::(f++[cb [41]])) z (q+1):=by
 have h3:=ade hT hN h;have h2:=aaW hT hN h3 rfl rfl rfl;exact⟨Nr hT hN h2,h2,h3⟩
theorem yI {y:TF} {z:af} (lv:Int) (hl:y.l=lv) (hE:TE T N most y.f z y.q) (h0:0<=lv) (h1:1<=lv->T1 T N most y.f z y.q) (h2:2<=lv->T2 T N most y.f z y.q) (h3:3<=lv->T3 T N most y.f z y.q/\∃h r,y.f=h::r/\O1 h=true):yH T N most y z:=by
 subst hl;obtain⟨b1,b2,b3⟩:=XW hT hN hE;refine⟨?_,?_,?_,?_,?_⟩<;>unfold TF.at<;>try unfold TF.qa
 ·rw[if_neg (by omega),if_neg (by omega)];exact hE
 ·by_cases h:y.l<1
  ·rw[if_pos h,if_pos h];exact b1
  ·rw[if_neg h,if_neg h];exact h1 (by omega)
 ·by_cases h:y.l<2
  ·rw[if_pos h,if_pos h];exact b2
  ·rw[if_neg h,if_neg h];exact h2 (by omega)
 ·by_cases h:y.l<3
  ·rw[if_pos h,if_pos h];exact b3
  ·rw[if_neg h,if_neg h];exact(h3 (by omega)).1
 ·by_cases h:y.l<3
  ·rw[if_pos h];exact⟨_,_,rfl,rfl⟩
  ·rw[if_neg h];exact(h3 (by omega)).2
omit hT hN in
theorem EY {f:af→List TK} {l:List af} (h:∀x∈l,∃h r,f x=h::r):l.length≤((l.map f).flatten).length:=by
  induction l with
  |nil=>simp
  |cons a l ih=>
   obtain⟨g,r,e⟩:=h a (by simp);have :=ih fun x hx=>h x (by simp[hx])
   simp only[List.map_cons,List.flatten_cons,List.length_append,List.length_cons,e];omega
theorem O3 {n:List UInt8} {ks:List af} (hk:∀x∈ks,yH T N most x.tf x.er):yH T N most (uF 1 n (af.lu ks)) (.mk 1 n 0 (af.cT ks)):=by
 have h2:T2 T N most (xf n::(ks.map fun x=>x.tf.at 3).flatten) (.mk 1 n 0 (af.cT ks)) (fW (fun x=>x.tf.qa 3) ks):=fun K d hK hd=>by
  have hs:=gA (N:=N) hT most K (d+1);unfold eU;refine cf fun w hw=>bX (bU _) rfl<|gg (cF _) rfl ?_
  have hl:DT T most d af.er (dR T (l9 T N most K (d+1))) (fun _=>true) (fun x=>d+x.tf.qa 3) (fun x=>x.tf.at 3) af.er ks:=qx fun x hx=>(hk x hx).t3 K d hK hd
  have xj:w.t=n:=congrArg (fun g:TK=>g.2.1) hw;refine fun s g r hc eg kz hr ic=>?_
  have hlen:ks.length<=N:=by
   have:=lG hr;have h3:=EY (f:=fun x=>x.tf.at 3) (l:=ks) fun x hx=>by obtain⟨h,r,e,-⟩:=(hk x hx).hd;exact⟨h,r,e⟩
   omega
  have hm:=od (ok:=CT) ada (fun n=>ab.many only_tySt (ji hT hs) n) (fun h hh=>by simpa[CT]using hh) (fun _ _=>rfl) ks N hl hlen (fun a ha=>by obtain⟨h,r,e,e2⟩:=(hk a ha).hd;exact⟨h,r,e,e2,rfl⟩);have e0:uG d (fun x=>d+x.tf.qa 3) ks=d+fW (fun x=>x.tf.qa 3) ks:=sJ _ _ _;rw[e0]at hm;exact gw (ok:=CT) (er:=af.er) hm (fun l hl=>by rw[af.er,af.fa,af.fa,hl,xj]) (fun h hh=>hh) (by omega) s g r hc eg kz hr ic
 have e1:(af.lu ks).map (·.at 3)=ks.map fun x=>x.tf.at 3:=by rw[af.qw,List.map_map];rfl
 have e2:fW (·.qa 3) (af.lu ks)=fW (fun x=>x.tf.qa 3) ks:=by rw[af.qw,uH]
 have e3:(af.lu ks).length=ks.length:=by rw[af.qw,List.length_map]
 have et:uF 1 n (af.lu ks)=⟨xf n::(ks.map fun x=>x.tf.at 3).flatten,if ks.length=0 then 3 else 2,false,fW (fun x=>x.tf.qa 3) ks⟩:=by
  unfold uF;rw[if_neg (by decide),if_neg (by decide),if_neg (by decide),if_neg (by decide),e1,e2,e3]
 rw[et];have h1:=Nr hT hN h2;refine yI hT hN (if ks.length=0 then 3 else 2) rfl (Ns hT hN h1) (by split <;>omega) (fun _=>h1) (fun _=>h2) (fun h=>?_)
 have:ks=[]:=by
  cases ks with
  |nil=>rfl
  |cons a l=>simp at h
 subst this;refine⟨fun K d hK hd=>?_,_,_,rfl,rfl⟩;unfold dR;refine cf fun w hw=>bX (cF _) rfl<|gg (cF _) rfl<|dw ?_
 have xj:w.t=n:=congrArg (fun g:TK=>g.2.1) hw;rw[af.er,xj]
theorem SV {n:List UInt8}:yH T N most (uF 2 n []) (.mk 2 n 0 []):=by
 have h3:T3 T N most [DS n] (.mk 2 n 0 []) 0:=fun K d hK hd=>by
  unfold dR;refine cf fun w hw=>gg (cF _) rfl<|dw ?_
  have xj:w.t=n:=congrArg (fun g:TK=>g.2.1) hw;rw[af.er,xj];rfl
 have h2:=aaW hT hN h3 rfl rfl rfl;have h1:=Nr hT hN h2;exact yI (y:=uF 2 n []) hT hN 3 rfl (Ns hT hN h1) (by decide) (fun _=>h1) (fun _=>h2) (fun h=>⟨h3,_,_,rfl,rfl⟩)
theorem SW {y:TF} {z:af} (h:yH T N most y z):yH T N most (uF 5 [] [y]) (.mk 5 [] 0 [z]):=by
 have h2:T2 T N most (fN [114,101,102]::y.at 3) (.mk 5 [] 0 [z]) (y.qa 3):=fun K d hK hd=>by
  unfold eU;refine cf fun w hw=>gg (bU _) rfl ?_
  exact gw (h.t3 K d hK hd) (fun x hx=>by rw[af.er,af.cT,af.cT,hx]) (fun _ _=>rfl) (by omega)
 have h1:=Nr hT hN h2;exact yI (y:=uF 5 [] [y]) hT hN 2 rfl (Ns hT hN h1) (by decide) (fun _=>h1) (fun _=>h2) (fun h=>absurd h (by decide))
theorem SX {a:af} {l:List af} (Cg:l≠[]) (ha:yH T N most a.tf a.er) (hk:∀x∈l,yH T N most x.tf x.er):yH T N most (uF 4 [] (af.lu (a::l))) (.mk 4 [] 0 (af.cT (a::l))):=by
 have h1:T1 T N most (a.tf.at 2++(l.map fun x=>cb [42]::x.tf.at 2).flatten) (.mk 4 [] 0 (af.cT (a::l))) (fW (fun x=>x.tf.qa 2) (a::l)):=fun K d hK hd=>by
  have hs:=gA (N:=N) hT most K (d+1);have hl:DT T most d af.er (bM (eU T N (l9 T N most K (d+1)))) CT (fun x=>d+x.tf.qa 2) (fun x=>cb [42]::x.tf.at 2) af.er l:=qx fun x hx=>sI ((hk x hx).t2 K d hK hd)
  refine fun s g r hc eg kz hr ic=>?_
  have hlen:l.length<=N:=by
   have:=lG hr;have h3:=EY (f:=fun x=>cb [42]::x.tf.at 2) (l:=l) fun x hx=>⟨_,_,rfl⟩
   rw[List.length_append]at this;omega
  have hm:=od (ok:=yG) (bU [42]) (m:=bM (eU T N (l9 T N most K (d+1)))) (fun n=>ab.gj hT (aw T [42]) (ik hT hs) n) (fun h hh=>by simp only[yG,Bool.and_eq_true,Bool.not_eq_true']at hh;exact hh.2) (fun h hh=>by simp only[yG,CT,Bool.and_eq_true]at hh⊢;exact hh.1) l N hl hlen (fun a ha=>⟨_,_,rfl,rfl,rfl⟩);have e0:uG d (fun x=>d+x.tf.qa 2) l=d+fW (fun x=>x.tf.qa 2) l:=sJ _ _ _;rw[e0]at hm;refine gf (ok:=yG) (er:=af.er) (ha.t2 K d hK hd) (fun _=>ab.bind (ab.gj hT (aw T _) (ik hT hs) _) fun _=>ab.ret _) (fun x hx=>gw hm (fun l' iC=>?_) (fun h hh=>hh) (by omega)) ?_ rfl ?_ s g r hc eg kz hr ic
  ·have:l'≠[]:=by rintro rfl;simp at iC;exact Cg iC
   rw[fk,if_neg this,af.er,af.cT,af.cT,af.fa,af.fa,iC,hx]
  ·cases l with
   |nil=>exact(Cg rfl).elim
   |cons b l=>exact dy rfl
  ·rw[fW];omega
 have et:uF 4 [] (af.lu (a::l))=⟨a.tf.at 2++(l.map fun x=>cb [42]::x.tf.at 2).flatten,1,false,fW (fun x=>x.tf.qa 2) (a::l)⟩:=by
  unfold uF;rw[if_neg (by decide),if_pos rfl,af.qw,List.map_map,List.map_cons,rH,List.map_map,uH];rfl
 rw[et];exact yI hT hN 1 rfl (Ns hT hN h1) (by decide) (fun _=>h1) (fun h=>absurd h (by decide)) (fun h=>absurd h (by decide))
theorem SY {y1 y2:TF} {z1 z2:af} (h1:yH T N most y1 z1) (h2:yH T N most y2 z2):yH T N most (uF 3 [] [y1,y2]) (.mk 3 [] 0 [z1,z2]):=by
  have hE:TE T N most (y1.at 1++(cb [45,62]::y2.at 0)) (.mk 3 [] 0 [z1,z2]) (max (y1.qa 1) (y2.qa 0+1)):=fun K d hK hd=>by
    cases K with
    |zero=>omega
    |succ K=>
     have hs:=gA (N:=N) hT most K (d+1);refine kd (Nat.le_add_right _ _) fun oe=> ?_
     exact gf (h1.t1 K d (by omega) oe) (k:=fun x=>bg (aH T [45,62]) (az (l9 T N most K (d+1)) fun b=>aO (af.mk 3 [] x.pos [x,b])) (aO x)) (fun _ =>ab.bg hT (aw T _) (ab.bind hs fun _ =>ab.ret _) (ab.ret _))
       (fun y hy=>gg (bU _) (g:=cb [45,62]) rfl (gw ((h2.e K (d+1) (by omega) (by omega)).low (Nat.zero_le d)) (fun b hb=>by rw[af.er,af.cT,af.cT,af.cT,hy,hb]) (fun h hh=>hh) (by omega))) (dy rfl) rfl (by omega)
  exact yI (y:=uF 3 [] [y1,y2]) hT hN 0 rfl hE (by decide) (fun h=>absurd h (by decide)) (fun h=>absurd h (by decide)) (fun h=>absurd h (by decide))
mutual
theorem af.rt:∀t:af,t.okB=true →yH T N most t.tf t.er
  | .mk k n p ks,h=>by
    rw[af.okB,Bool.and_eq_true]at h;have ih:=af.Il ks h.2;have hk:=h.1;unfold tc at hk;rw[af.tf,af.er];by_cases h1:k=1
    · subst h1;exact O3 hT hN ih
    by_cases h2:k=2
    · subst h2;simp at hk
      have :=AW (l:=ks) (by simp[hk.1.1]);subst this;exact SV hT hN
    by_cases h3:k=3
    · subst h3;simp at hk
      obtain⟨a,b,rfl⟩:=uJ hk.1.1;obtain⟨⟨-,rfl⟩,-⟩:=hk;exact SY hT hN (ih a (by simp)) (ih b (by simp))
    by_cases h4:k=4
    · subst h4;simp at hk
      obtain⟨a,b,l,rfl⟩:=CS (l:=ks) (by have :=hk.1.1;omega);obtain⟨⟨-,rfl⟩,-⟩:=hk;exact SX hT hN (by simp) (ih a (by simp)) (fun x hx=>ih x (by simp[hx]))
    by_cases h5:k=5
    · subst h5;simp at hk
      obtain⟨a,rfl⟩:=uI hk.1.1;obtain⟨⟨-,rfl⟩,-⟩:=hk;exact SW hT hN (ih a (by simp))
    simp[h1,h2,h3,h4,h5]at hk
theorem af.Il:∀l:List af,af.eC l=true →∀x∈l,yH T N most x.tf x.er
  |[],_ =>fun x hx=>by cases hx
  |t::l,h=>fun x hx=>by
   rw[af.eC,Bool.and_eq_true]at h;rcases List.mem_cons.1 hx with e|hx
   · exact e▸af.rt t h.1
   · exact af.Il l h.2 x hx
end
end
theorem pL {γ:Type} {f:γ→List TK} {l:List γ} (h:∀x∈l,∃h r,f x=h::r):l.length≤((l.map f).flatten).length:=by
  induction l with
  |nil=>simp
  |cons a l ih=>
   obtain⟨g,r,e⟩:=h a (by simp);have :=ih fun x hx=>h x (by simp[hx])
   simp only[List.map_cons,List.flatten_cons,List.length_append,List.length_cons,e];omega
section
variable {T:List Tok} {N most lo:Nat} (hT:bH T) (hN:T.length<=N)
include hT hN
theorem EZ {α β γ:Type} {er:α->β} {m:PM α} (hm:ab T m) {f0:List TK} {z0 z:β} {D0:Nat} {sp ok:TK->Bool} (h0:Rd T most lo er m f0 z0 D0 sp) {D:γ->Nat} {f:γ->List TK} {e:γ->β} {l:List γ}
  (hl:∀a∈l,Rd T most lo er m (f a) (e a) (D a) sp) (mk:α->List α->α) (hz:∀a l',er a=z0->l'.map er=l.map e->er (mk a l')=z) (s1:sp (cb [44])=true) (s2:sp (cb [41])=true):
  Rd T most lo er (az m fun a=>az (many (aH T [44]) (bM m) N) fun l=>cg (aS T [41]) (aO (mk a l))) (f0++((l.map fun a=>cb [44]::f a).flatten++[cb [41]])) z (max D0 (uG lo D l)) ok:=fun s g r hc eg hd hr hk=>by
 have hlen:l.length<=N:=by
  have:=lG hr;have h3:=pL (f:=fun x=>cb [44]::f x) (l:=l) fun x hx=>⟨_,_,rfl⟩
  simp only[List.length_append]at this;omega
 have bc:∀n,ab T (many (aH T [44]) (bM m) n):=fun n=>ab.gj hT (aw T [44]) hm n
 have O4:=od (ok:=fun h=>decide (h=cb [41])) (bU [44]) bc (fun h hh=>by rw[decide_eq_true_eq]at hh;subst hh;rfl) (fun h hh=>by rw[decide_eq_true_eq]at hh;subst hh;exact s2) l N (qx (f:=fun x=>cb [44]::f x) (D:=D) (e:=e) fun a ha=>sI (hl a ha)) hlen (fun a ha=>⟨_,_,rfl,rfl,s1⟩)
 have agl:lo<=uG lo D l:=by
  clear O4 hl hz hlen hr
  induction l with
  |nil=>exact Nat.le_refl _
  |cons b l ih=>exact Nat.le_trans ih (Nat.le_max_right _ _)
 refine gf (ok:=ok) h0 (fun _=>ab.bind (bc N) fun _=>ab.step (aG hT _) (ab.ret _)) (fun a ha=>gf O4 (fun _=>ab.step (aG hT _) (ab.ret _)) (fun l' iC=>eQ (g:=cb [41]) rfl (dw (hz a l' ha iC))) (dy rfl) rfl (Nat.max_eq_left agl)) ?_ rfl rfl s g r hc eg hd hr hk
 cases l with
 |nil=>exact dy s2
 |cons b l=>exact dy s1
end
def spP (h:TK):Bool:=!Ij h
section
variable (T:List Tok) (N most:Nat)
def PE (f:List TK) (z:ae) (q:Nat):Prop:=∀K d,most+2<=K+d->d<=most+1->Rd T most 0 ae.er (pA T N most K d) f z (d+q) spP
def PA (f:List TK) (z:ae) (q:Nat):Prop:=∀K d,most+2<=K+(d+1)->d<=most->Rd T most d ae.er (fx T N (pA T N most K (d+1))) f z (d+q) (fun _=>true)
structure tA (y:TF) (z:ae):Prop where
 e:PE T N most (y.at 0) z (y.qa 0)
 a:PA T N most (y.at 1) z (y.qa 1)
 h0:∃h r,y.at 0=h::r/\tT [41] h=false
 h1:∃h r,y.at 1=h::r/\Ij h=true
end
section
variable {T:List Tok} {N most:Nat} (hT:bH T) (hN:T.length<=N)
include hT hN
theorem XX {f z q} (h:PA T N most f z q) {g r} (hf:f=g::r) (h4:tK 4 g=false):PE T N most f z q:=fun K d hK hd=>by
  subst hf
  cases K with
  |zero=>omega
  |succ K=>
   exact kd (Nat.le_add_right _ _) fun oe=>cf fun w hw=>bX (cF _) h4 ((h K d (by omega) oe).XU fun _ _ =>rfl)
theorem CU {f0:List TK} {z0 z:ae} {q0:Nat} (h0:PE T N most f0 z0 q0) {l:List ae} (hl:∀a∈l,PE T N most (a.tf.at 0) a.er (a.tf.qa 0)) (hd0:∃h r,f0=h::r/\tT [41] h=false)
  (hz:∀(p:Int) (a:ae) (l':List ae),a.er=z0->l'.map ae.er=l.map ae.er->(if l'=[]then a else ae.mk 6 [] 0 p (a::l')).er=z) {q:Nat} (hq:max (q0+1) (fW (fun a=>a.tf.qa 0+1) l)=q):
  PA T N most (cb [40]::(f0++((l.map fun a=>cb [44]::a.tf.at 0).flatten++[cb [41]]))) z q:=fun K d hK hd=>by
 obtain⟨g,r,hf,hg⟩:=hd0;have hs:=mY (N:=N) hT most K (d+1)
 have:=EZ (lo:=d) (ok:=fun _=>true) hT hN hs ((h0 K (d+1) hK (by omega)).low (Nat.zero_le d)) (l:=l) (D:=fun a=>d+(a.tf.qa 0+1)) (f:=fun a=>a.tf.at 0) (e:=ae.er) (z:=z)
  (fun a ha=>((hl a ha K (d+1) hK (by omega)).low (Nat.zero_le d)).cast rfl (by omega))
 rw[sJ]at this;unfold fx;refine cf fun w hw=>bX (bU _) rfl<|bX (cF _) rfl<|bX (cF _) rfl<|bX (bU _) rfl<|bX (bU _) rfl<|bX (cF _) rfl ?_
 unfold oQ;refine cf fun w hw=>eQ rfl ?_
 rw[hf]at this⊢;refine bX (bU _) hg (Gf aaV (dy rfl) ?_);exact(this (fun a l'=>if l'=[]then a else ae.mk 6 [] 0 w.p (a::l')) (fun a l' ha iC=>hz _ a l' ha iC) rfl rfl).cast rfl (by omega)
theorem Gi {y:TF} {z:ae} (lv:Int) (hl:y.l=lv) (hE:PE T N most y.f z y.q) (h0:0<=lv) (hd:∃h r,y.f=h::r/\tT [41] h=false) (h1:1<=lv->PA T N most y.f z y.q/\∃h r,y.f=h::r/\Ij h=true):tA T N most y z:=by
 subst hl
 have hb:PA T N most (cb [40]::(y.f++[cb [41]])) z (y.q+1):=by
  have:=CU hT hN hE (l:=[]) (by simp) hd (z:=z) (fun p a l' ha iC=>by
   have:l'=[]:=by simpa using iC
   rw[if_pos this];exact ha) (q:=y.q+1) (by simp[fW])
  simpa using this
 refine⟨?_,?_,?_,?_⟩<;>unfold TF.at<;>try unfold TF.qa
 ·rw[if_neg (by omega),if_neg (by omega)];exact hE
 ·by_cases h:y.l<1
  ·rw[if_pos h,if_pos h];exact hb
  ·rw[if_neg h,if_neg h];exact(h1 (by omega)).1
 ·rw[if_neg (by omega)];exact hd
 ·by_cases h:y.l<1
  ·rw[if_pos h];exact⟨_,_,rfl,rfl⟩
  ·rw[if_neg h];exact(h1 (by omega)).2
theorem sK {g:TK} {r:List TK} {b:Bool} {q:Nat} {z:ae} (h:PA T N most (g::r) z q) (h4:tK 4 g=false) (hb:tT [41] g=false) (hs:Ij g=true):tA T N most ⟨g::r,1,b,q⟩ z:=
 Gi hT hN 1 rfl (XX hT hN h rfl h4) (by decide) ⟨_,_,rfl,hb⟩ fun _=>⟨h,_,_,rfl,hs⟩
theorem SZ:tA T N most (n9 1 [] 0 []) (.mk 1 [] 0 0 []):=sK hT hN (fun K d hK hd=>cf fun w hw=>gg (bU _) rfl (dw rfl)) rfl rfl rfl
theorem S0 {n:List UInt8}:tA T N most (n9 2 n 0 []) (.mk 2 n 0 0 []):=sK hT hN (fun K d hK hd=>cf fun w hw=>bX (bU _) rfl<|gg (cF _) rfl (dw (by
 have xj:w.t=n:=congrArg (fun g:TK=>g.2.1) hw;rw[ae.er,xj];rfl))) rfl rfl rfl
theorem S1 {u:Int}:tA T N most (n9 3 [] u []) (.mk 3 [] u 0 []):=sK hT hN (fun K d hK hd=>cf fun w hw=>bX (bU _) rfl<|bX (cF _) rfl<|gg (cF _) rfl (dw (by
 have xj:w.n=u:=congrArg (fun g:TK=>g.2.2) hw;rw[ae.er,xj];rfl))) rfl rfl rfl
theorem O5 {u:Int} (h0:0<=u) (h1:u<=1):tA T N most (n9 4 [] u []) (.mk 4 [] u 0 []):=by
 have:u=0\/u=1:=by omega
 rcases this with rfl|rfl
 ·exact sK hT hN (g:=fN [102,97,108,115,101]) (fun K d hK hd=>cf fun w hw=>bX (bU _) rfl<|bX (cF _) rfl<|bX (cF _) rfl<|bX (bU _) rfl<|gg (bU _) rfl (dw rfl)) rfl rfl rfl
 ·exact sK hT hN (g:=fN [116,114,117,101]) (fun K d hK hd=>cf fun w hw=>bX (bU _) rfl<|bX (cF _) rfl<|bX (cF _) rfl<|gg (bU _) rfl (dw rfl)) rfl rfl rfl
theorem O6:tA T N most (n9 5 [] 0 []) (.mk 5 [] 0 0 []):=sK hT hN (fun K d hK hd=>by
 unfold fx;refine cf fun w hw=>bX (bU _) rfl<|bX (cF _) rfl<|bX (cF _) rfl<|bX (bU _) rfl<|bX (bU _) rfl<|bX (cF _) rfl ?_
 unfold oQ;exact cf fun w hw=>eQ rfl<|gg (bU _) rfl (dw rfl)) rfl rfl rfl
theorem S2 {a:ae} {l:List ae} (Cg:l≠[]) (ha:tA T N most a.tf a.er) (hk:∀x∈l,tA T N most x.tf x.er):tA T N most (n9 6 [] 0 (ae.lu (a::l))) (.mk 6 [] 0 0 (ae.cT (a::l))):=by
 have h:=CU hT hN ha.e (fun x hx=>(hk x hx).e) ha.h0 (z:=.mk 6 [] 0 0 (ae.cT (a::l))) (fun p b l' hb iC=>by
  have:l'≠[]:=by rintro rfl;simp at iC;exact Cg iC
  rw[if_neg this,ae.er,ae.cT,ae.cT,ae.fa,ae.fa,iC,hb]) (q:=fW (fun a=>a.tf.qa 0+1) (a::l)) rfl
 have et:n9 6 [] 0 (ae.lu (a::l))=⟨cb [40]::(a.tf.at 0++((l.map fun a=>cb [44]::a.tf.at 0).flatten++[cb [41]])),1,false,fW (fun a=>a.tf.qa 0+1) (a::l)⟩:=by
  unfold n9;rw[if_neg (by decide),if_neg (by decide),if_neg (by decide),if_neg (by decide),if_pos rfl,ae.qw,List.map_map,List.map_cons,rH,List.map_map,uH,List.append_assoc];rfl
 rw[et];exact sK hT hN h rfl rfl rfl
theorem K8 {n:List UInt8}:tA T N most (n9 7 n 0 []) (.mk 7 n 0 0 []):=by
  have hE:PE T N most [zX n] (.mk 7 n 0 0 []) 0:=fun K d hK hd=>by
    cases K with
    |zero=>omega
    |succ K=>
     refine kd (Nat.le_add_right _ _) fun oe=>cf fun w hw=>gg (cF _) rfl (Gf No (fun h hh=>hh) (dw ?_))
     have xj:w.t=n:=congrArg (fun g:TK=>g.2.1) hw;rw[ae.er,xj];rfl
  refine Gi (y:=n9 7 n 0 []) hT hN 1 rfl hE (by decide) ⟨_,_,rfl,rfl⟩ fun _ =>⟨fun K d hK hd=> ?_,_,_,rfl,rfl⟩
  refine cf fun w hw=>bX (bU _) rfl<|bX (cF _) rfl<|bX (cF _) rfl<|bX (bU _) rfl<|bX (bU _) rfl<|gg (cF _) rfl (dw ?_)
  have xj:w.t=n:=congrArg (fun g:TK=>g.2.1) hw;rw[ae.er,xj];rfl
theorem K9 {n:List UInt8} {y:TF} {z:ae} (h:tA T N most y z):tA T N most (n9 7 n 0 [y]) (.mk 7 n 0 0 [z]):=by
  have hE:PE T N most (zX n::y.at 1) (.mk 7 n 0 0 [z]) (y.qa 1):=fun K d hK hd=>by
    cases K with
    |zero=>omega
    |succ K=>
     obtain⟨g,r,h1,h2⟩:=h.h1;refine kd (Nat.le_add_right _ _) fun oe=>cf fun w hw=>gg (cF _) rfl (K7 No (by rw[h1];exact dy h2) ?_)
     have xj:w.t=n:=congrArg (fun g:TK=>g.2.1) hw;exact gw (h.a K d (by omega) oe) (fun x hx=>by rw[ae.er,xj,ae.cT,ae.cT,hx]) (fun _ _ =>rfl) (by omega)
  exact Gi (y:=n9 7 n 0 [y]) hT hN 0 rfl hE (by decide) ⟨_,_,rfl,rfl⟩ fun h=>absurd h (by decide)
mutual
theorem ae.rt:∀t:ae,t.okB=true →tA T N most t.tf t.er
  | .mk k n u p ks,h=>by
    rw[ae.okB,Bool.and_eq_true]at h;have ih:=ae.Il ks h.2;have hk:=h.1;unfold mF at hk;rw[ae.tf,ae.er];by_cases h1:k=1
    · subst h1;simp at hk
      obtain⟨⟨rfl,rfl,rfl⟩,-⟩:=hk;exact SZ hT hN
    by_cases h2:k=2
    · subst h2;simp at hk
      obtain⟨⟨rfl,-,rfl⟩,-⟩:=hk;exact S0 hT hN
    by_cases h3:k=3
    · subst h3;simp at hk
      obtain⟨⟨rfl,rfl,-⟩,-⟩:=hk;exact S1 hT hN
    by_cases h4:k=4
    · subst h4;simp at hk
      obtain⟨⟨rfl,rfl,h5,h6⟩,-⟩:=hk;exact O5 hT hN h5 h6
    by_cases h5:k=5
    · subst h5;simp at hk
      obtain⟨⟨rfl,rfl,rfl⟩,-⟩:=hk;exact O6 hT hN
    by_cases h6:k=6
    · subst h6;simp at hk
      obtain⟨a,b,l,rfl⟩:=CS (l:=ks) (by have :=hk.1.1;omega);obtain⟨⟨-,rfl,rfl⟩,-⟩:=hk;exact S2 hT hN (by simp) (ih a (by simp)) (fun x hx=>ih x (by simp[hx]))
    by_cases h7:k=7
    · subst h7;simp at hk
      obtain⟨⟨hm,-,rfl⟩,-⟩:=hk;rcases ks with _|⟨a,_|⟨b,l⟩⟩
      · exact K8 hT hN
      · exact K9 hT hN (ih a (by simp))
      · simp at hm;omega
    simp[h1,h2,h3,h4,h5,h6,h7]at hk
theorem ae.Il:∀l:List ae,ae.eC l=true →∀x∈l,tA T N most x.tf x.er
  |[],_ =>fun x hx=>by cases hx
  |t::l,h=>fun x hx=>by
   rw[ae.eC,Bool.and_eq_true]at h;rcases List.mem_cons.1 hx with e|hx
   · exact e▸ae.rt t h.1
   · exact ae.Il l h.2 x hx
end
end
def O7 (h:TK):Bool:=!xi h
def DU (h:TK):Bool:=!xi h&& !K6 [[42]] h
def Io (h:TK):Bool:=DU h&& !K6 [[43],[45],[94]] h
def Gj (h:TK):Bool:=Io h&& !(tT [61] h||tT [60] h)
def xk (h:TK):Bool:=Gj h&& !tT [58,61] h
def xl (h:TK):Bool:=xi h||K5 h
theorem aaX {h} (k:xk h=true):Gj h=true:=by simp only[xk,Bool.and_eq_true]at k;exact k.1
theorem aaY {h} (k:Gj h=true):Io h=true:=by simp only[Gj,Bool.and_eq_true]at k;exact k.1
theorem agm {h} (k:Io h=true):DU h=true:=by simp only[Io,Bool.and_eq_true]at k;exact k.1
theorem agn {h} (k:DU h=true):O7 h=true:=by simp only[DU,Bool.and_eq_true]at k;exact k.1
theorem ago {h} (k:xk h=true):tT [58,61] h=false:=by simp only[xk,Bool.and_eq_true,Bool.not_eq_true']at k;exact k.2
theorem agp {h} (k:Gj h=true):(tT [61] h||tT [60] h)=false:=by simp only[Gj,Bool.and_eq_true,Bool.not_eq_true']at k;exact k.2
theorem agq {h} (k:Io h=true):K6 [[43],[45],[94]] h=false:=by simp only[Io,Bool.and_eq_true,Bool.not_eq_true']at k;exact k.2
theorem agr {h} (k:DU h=true):K6 [[42]] h=false:=by simp only[DU,Bool.and_eq_true,Bool.not_eq_true']at k;exact k.2
theorem aaZ {h} (k:O7 h=true):xi h=false:=by simpa[O7]using k
def apS (T:List Tok) (N:Nat) (ex:PM aa):aa->PM aa:=fun a=>az (fy T N ex) fun b=>aO (node2 9 [] a.pos a b)
def rwS (T:List Tok) (side:PM aa):aa->PM aa:=fun a=>dZ T fun t=>bM (az side fun b=>aO (node2 14 t.t t.p a b))
section
variable (T:List Tok) (N most:Nat)
def XE (f:List TK) (z:aa) (q:Nat):Prop:=∀K d,most+2<=K+d->d<=most+1->Rd T most 0 aa.er (fm T N most K d) f z (d+q) xk
def X1 (f:List TK) (z:aa) (q:Nat):Prop:=∀K d,most+2<=K+(d+1)->d<=most->Rd T most d aa.er (sk T N (fm T N most K (d+1))) f z (d+q) xk
def X2 (f:List TK) (z:aa) (q:Nat):Prop:=∀K d,most+2<=K+(d+1)->d<=most->Rd T most d aa.er (vx T N (fm T N most K (d+1))) f z (d+q) Gj
def X3 (f:List TK) (z:aa) (q:Nat):Prop:=∀K d,most+2<=K+(d+1)->d<=most->Qd T N most d (wZ T N (fm T N most K (d+1))) (iw T [[43],[45],[94]]) (rwS T (ug T N (fm T N most K (d+1)))) f z (d+q) DU
def X4 (f:List TK) (z:aa) (q:Nat):Prop:=∀K d,most+2<=K+(d+1)->d<=most->Qd T N most d (ug T N (fm T N most K (d+1))) (iw T [[42]]) (rwS T (uf T N (fm T N most K (d+1)))) f z (d+q) O7
def X5 (b:Bool) (f:List TK) (z:aa) (q:Nat):Prop:=∀K d,most+2<=K+(d+1)->d<=most->Qd T N most d (uf T N (fm T N most K (d+1))) (dW T) (apS T N (fm T N most K (d+1))) f z (d+q) (fun h=>!(b&&xi h))
def X6 (f:List TK) (z:aa) (q:Nat):Prop:=∀K d,most+2<=K+(d+1)->d<=most->Rd T most d aa.er (fy T N (fm T N most K (d+1))) f z (d+q) (fun _=>true)
structure RX (y:TF) (z:aa):Prop where
 e:XE T N most (y.at 0) z (y.qa 0)
 x1:X1 T N most (y.at 1) z (y.qa 1)
 x2:X2 T N most (y.at 2) z (y.qa 2)
 x3:X3 T N most (y.at 3) z (y.qa 3)
 x4:X4 T N most (y.at 4) z (y.qa 4)
 x5:X5 T N most y.b (y.at 5) z (y.qa 5)
 x6:X6 T N most (y.at 6) z (y.qa 6)
 x57:X5 T N most false (y.at 7) z (y.qa 7)
 h0:∃h r,y.at 0=h::r/\tT [41] h=false
 h1:∀a,1<=a->∃h r,y.at a=h::r/\xl h=true
 h6:∃h r,y.at 6=h::r/\xi h=true
end
theorem xm {g:TK} (h:xl g=true):tT [41] g=false/\tT [108,101,116] g=false/\tT [102,117,110] g=false/\tT [105,102] g=false/\tT [109,97,116,99,104] g=false:=by
 obtain⟨k,t,n⟩:=g
 refine⟨?_,?_,?_,?_,?_⟩<;>
 ·rw[Bool.eq_false_iff]
  intro ht;simp only[tT,Bool.and_eq_true,Bool.or_eq_true,decide_eq_true_eq]at ht;obtain⟨hk,rfl⟩:=ht;rcases hk with rfl|rfl<;>simp[xl,xi,K5,tT,tK]at h
section
variable {T:List Tok} {N most:Nat} (hT:bH T) (hN:T.length<=N)
include hT hN
theorem uK (n:Nat) (a:aa) {ex:PM aa} (h:ab T ex):ab T (carry (dW T) (apS T N ex) n a):=ab.carry only_atNx (fun a=>ab.bind (jZ hT h) fun _=>ab.ret _) n a
theorem yJ {L} (n:Nat) (a:aa) {side:PM aa} (h:ab T side):ab T (carry (iw T L) (rwS T side) n a):=ab.Bl hT (ee _) (fun t a=>ab.bind h fun _=>ab.ret _) n a
theorem XY {f z q} (b:Bool) (h:X6 T N most f z q) {g r} (hf:f=g::r) (hp:K5 g=false) (h4:tK 4 g=false):X5 T N most b f z q:=fun K d hK hd=>by
 subst hf;have hs:=cE (N:=N) hT most K (d+1);exact(EX (m:=sZ T N (fm T N most K (d+1))) (cf fun w hw=>bX yC hp<|bX (cF _) h4 (h K d hK hd)) (fun a=>uK hT hN N a hs)).XU fun _ _=>rfl
theorem r5 {b f z q} (h:X5 T N most b f z q) (K d) (hK:most+2<=K+(d+1)) (hd:d<=most):Rd T most d aa.er (uf T N (fm T N most K (d+1))) f z (d+q) O7:=
 Gg (h K d hK hd) Gb fun g hg=>⟨by rw[aaZ hg];simp,aaZ hg⟩
theorem l54 {b f z q} (h:X5 T N most b f z q):X4 T N most f z q:=fun K d hK hd=>
 EX (r5 hT hN h K d hK hd) fun a=>yJ hT hN N a (pD hT (cE hT most K (d+1)))
theorem r4 {f z q} (h:X4 T N most f z q) (K d) (hK:most+2<=K+(d+1)) (hd:d<=most):Rd T most d aa.er (ug T N (fm T N most K (d+1))) f z (d+q) DU:=
 Gg (h K d hK hd) (Gc _) fun g hg=>⟨agn hg,agr hg⟩
theorem XZ {f z q} (h:X4 T N most f z q):X3 T N most f z q:=fun K d hK hd=>
 EX (r4 hT hN h K d hK hd) fun a=>yJ hT hN N a (nV hT (cE hT most K (d+1)))
theorem r3 {f z q} (h:X3 T N most f z q) (K d) (hK:most+2<=K+(d+1)) (hd:d<=most):Rd T most d aa.er (wZ T N (fm T N most K (d+1))) f z (d+q) Io:=
 Gg (h K d hK hd) (Gc _) fun g hg=>⟨agm hg,agq hg⟩
theorem S3 {f z q} (h:X3 T N most f z q):X2 T N most f z q:=fun K d hK hd=>
 rG (ok:=Gj) (r3 hT hN h K d hK hd) (fun _=>iW hT ((aw T _).or (aw T _)) (nW hT (cE hT most K (d+1))))
  (fun y hy=>Ik fun w=>Ge ((bU _).or (bU _)) (fun g hg=>agp hg) (dw hy)) (fun _ hg=>aaY hg) (by omega)
theorem O8 {f z q} (h:X2 T N most f z q):X1 T N most f z q:=fun K d hK hd=>
 rG (ok:=xk) (h K d hK hd) (fun _=>iW hT (aw T _) (ma hT (cE hT most K (d+1))))
  (fun y hy=>Ik fun w=>Ge (bU _) (fun g hg=>ago hg) (dw hy)) (fun _ hg=>aaX hg) (by omega)
theorem l10 {f z q} (h:X1 T N most f z q) {g r} (hf:f=g::r) (hg:xl g=true):XE T N most f z q:=fun K d hK hd=>by
  subst hf;obtain⟨-,h1,h2,h3,h4⟩:=xm hg
  cases K with
  |zero=>omega
  |succ K=>
   exact kd (Nat.le_add_right _ _) fun oe=>cf fun w hw=>bX (bU _) h1<|bX (bU _) h2<|bX (bU _) h3<|bX (bU _) h4 (h K d (by omega) oe)
theorem CV {f0:List TK} {z0 z:aa} {q0:Nat} (h0:XE T N most f0 z0 q0) {l:List aa} (hl:∀a∈l,XE T N most (a.tf.at 0) a.er (a.tf.qa 0)) (hd0:∃h r,f0=h::r/\tT [41] h=false)
  (hz:∀(p:Int) (a:aa) (l':List aa),a.er=z0->l'.map aa.er=l.map aa.er->(if l'=[]then a else aa.mk 7 [] 0 [] p (a::l') []).er=z) {q:Nat} (hq:max (q0+1) (fW (fun a=>a.tf.qa 0+1) l)=q):
  X6 T N most (cb [40]::(f0++((l.map fun a=>cb [44]::a.tf.at 0).flatten++[cb [41]]))) z q:=fun K d hK hd=>by
 obtain⟨g,r,hf,hg⟩:=hd0;have hs:=cE (N:=N) hT most K (d+1)
 have:=EZ (lo:=d) (ok:=fun _=>true) hT hN hs ((h0 K (d+1) hK (by omega)).low (Nat.zero_le d)) (l:=l) (D:=fun a=>d+(a.tf.qa 0+1)) (f:=fun a=>a.tf.at 0) (e:=aa.er) (z:=z)
  (fun a ha=>((hl a ha K (d+1) hK (by omega)).low (Nat.zero_le d)).cast rfl (by omega))
 rw[sJ]at this;unfold fy;refine cf fun w hw=>bX (cF _) rfl<|bX (cF _) rfl<|bX (bU _) rfl<|bX (bU _) rfl<|bX (cF _) rfl<|bX (cF _) rfl<|bX (bU _) rfl ?_
 unfold DP;refine cf fun w hw=>eQ rfl ?_
 rw[hf]at this⊢;refine bX (bU _) hg (Gf aaV (dy rfl) ?_);exact(this (fun a l'=>if l'=[]then a else aa.mk 7 [] 0 [] w.p (a::l') []) (fun a l' ha iC=>hz _ a l' ha iC) rfl rfl).cast rfl (by omega)
theorem xn {y:TF} {z:aa} (lv:Int) (hl:y.l=lv) (hE:XE T N most y.f z y.q) (h0:0<=lv) (hh:∃h r,y.f=h::r/\tT [41] h=false/\(1<=lv->xl h=true)/\(6<=lv->xi h=true)) (X7:lv<=6)
  (o1:1<=lv->X1 T N most y.f z y.q) (o2:2<=lv->X2 T N most y.f z y.q) (o3:3<=lv->X3 T N most y.f z y.q) (o4:4<=lv->X4 T N most y.f z y.q) (o5:5<=lv->X5 T N most y.b y.f z y.q) (o6:6<=lv->X6 T N most y.f z y.q):RX T N most y z:=by
 subst hl;obtain⟨g,r,hf,hh1,hh2,hh3⟩:=hh
 have b6:X6 T N most (cb [40]::(y.f++[cb [41]])) z (y.q+1):=by
  have:=CV hT hN hE (l:=[]) (by simp) ⟨g,r,hf,hh1⟩ (z:=z) (fun p a l' ha iC=>by
   have:l'=[]:=by simpa using iC
   rw[if_pos this];exact ha) (q:=y.q+1) (by simp[fW])
  simpa using this
 have b5:=fun b=>XY hT hN b b6 rfl rfl rfl
 have b4:=l54 hT hN (b5 false);have b3:=XZ hT hN b4;have b2:=S3 hT hN b3;have b1:=O8 hT hN b2;refine⟨?_,?_,?_,?_,?_,?_,?_,?_,?_,?_,?_⟩<;>unfold TF.at<;>try unfold TF.qa
 ·rw[if_neg (by omega),if_neg (by omega)];exact hE
 ·by_cases h:y.l<1
  ·rw[if_pos h,if_pos h];exact b1
  ·rw[if_neg h,if_neg h];exact o1 (by omega)
 ·by_cases h:y.l<2
  ·rw[if_pos h,if_pos h];exact b2
  ·rw[if_neg h,if_neg h];exact o2 (by omega)
 ·by_cases h:y.l<3
  ·rw[if_pos h,if_pos h];exact b3
  ·rw[if_neg h,if_neg h];exact o3 (by omega)
 ·by_cases h:y.l<4
  ·rw[if_pos h,if_pos h];exact b4
  ·rw[if_neg h,if_neg h];exact o4 (by omega)
 ·by_cases h:y.l<5
  ·rw[if_pos h,if_pos h];exact b5 _
  ·rw[if_neg h,if_neg h];exact o5 (by omega)
 ·by_cases h:y.l<6
  ·rw[if_pos h,if_pos h];exact b6
  ·rw[if_neg h,if_neg h];exact o6 (by omega)
 ·rw[if_pos (by omega),if_pos (by omega)];exact b5 _
 ·rw[if_neg (by omega)];exact⟨g,r,hf,hh1⟩
 ·intro a ha
  by_cases h:y.l<a
  ·rw[if_pos h];exact⟨_,_,rfl,rfl⟩
  ·rw[if_neg h];exact⟨g,r,hf,hh2 (by omega)⟩
 ·by_cases h:y.l<6
  ·rw[if_pos h];exact⟨_,_,rfl,rfl⟩
  ·rw[if_neg h];exact⟨g,r,hf,hh3 (by omega)⟩
theorem X8 {g:TK} {r:List TK} {b:Bool} {q:Nat} {z:aa} (h:X6 T N most (g::r) z q) (h5:X5 T N most b (g::r) z q) (hs:xi g=true):RX T N most ⟨g::r,6,b,q⟩ z:=by
 have h1:xl g=true:=by simp[xl,hs]
 have x4:=l54 hT hN h5;have x3:=XZ hT hN x4;have x2:=S3 hT hN x3;have x1:=O8 hT hN x2;exact xn hT hN 6 rfl (l10 hT hN x1 rfl h1) (by decide) ⟨g,r,rfl,(xm h1).1,fun _=>h1,fun _=>hs⟩ (by decide) (fun _=>x1) (fun _=>x2) (fun _=>x3) (fun _=>x4) (fun _=>h5) (fun _=>h)
theorem rx5 {g:TK} {r:List TK} {q:Nat} {z:aa} (h5:X5 T N most false (g::r) z q) (h1:xl g=true):RX T N most ⟨g::r,5,false,q⟩ z:=by
 have x4:=l54 hT hN h5;have x3:=XZ hT hN x4;have x2:=S3 hT hN x3;have x1:=O8 hT hN x2;exact xn hT hN 5 rfl (l10 hT hN x1 rfl h1) (by decide) ⟨g,r,rfl,(xm h1).1,fun _=>h1,fun h=>absurd h (by decide)⟩ (by decide) (fun _=>x1) (fun _=>x2) (fun _=>x3) (fun _=>x4) (fun _=>h5) (fun h=>absurd h (by decide))
theorem rx4 {f:List TK} {q:Nat} {z:aa} (x4:X4 T N most f z q) (hh:∃h r,f=h::r/\xl h=true):RX T N most ⟨f,4,false,q⟩ z:=by
 obtain⟨g,r,rfl,h1⟩:=hh;have x3:=XZ hT hN x4;have x2:=S3 hT hN x3;have x1:=O8 hT hN x2;exact xn hT hN 4 rfl (l10 hT hN x1 rfl h1) (by decide) ⟨g,r,rfl,(xm h1).1,fun _=>h1,fun h=>absurd h (by decide)⟩ (by decide) (fun _=>x1) (fun _=>x2) (fun _=>x3) (fun _=>x4) (fun h=>absurd h (by decide)) (fun h=>absurd h (by decide))
theorem rx3 {f:List TK} {q:Nat} {z:aa} (x3:X3 T N most f z q) (hh:∃h r,f=h::r/\xl h=true):RX T N most ⟨f,3,false,q⟩ z:=by
 obtain⟨g,r,rfl,h1⟩:=hh;have x2:=S3 hT hN x3;have x1:=O8 hT hN x2;exact xn hT hN 3 rfl (l10 hT hN x1 rfl h1) (by decide) ⟨g,r,rfl,(xm h1).1,fun _=>h1,fun h=>absurd h (by decide)⟩ (by decide) (fun _=>x1) (fun _=>x2) (fun _=>x3) (fun h=>absurd h (by decide)) (fun h=>absurd h (by decide)) (fun h=>absurd h (by decide))
theorem rx2 {f:List TK} {q:Nat} {z:aa} (x2:X2 T N most f z q) (hh:∃h r,f=h::r/\xl h=true):RX T N most ⟨f,2,false,q⟩ z:=by
 obtain⟨g,r,rfl,h1⟩:=hh;have x1:=O8 hT hN x2;exact xn hT hN 2 rfl (l10 hT hN x1 rfl h1) (by decide) ⟨g,r,rfl,(xm h1).1,fun _=>h1,fun h=>absurd h (by decide)⟩ (by decide) (fun _=>x1) (fun _=>x2) (fun h=>absurd h (by decide)) (fun h=>absurd h (by decide)) (fun h=>absurd h (by decide)) (fun h=>absurd h (by decide))
theorem rx1 {f:List TK} {q:Nat} {z:aa} (x1:X1 T N most f z q) (hh:∃h r,f=h::r/\xl h=true):RX T N most ⟨f,1,false,q⟩ z:=by
 obtain⟨g,r,rfl,h1⟩:=hh;exact xn hT hN 1 rfl (l10 hT hN x1 rfl h1) (by decide) ⟨g,r,rfl,(xm h1).1,fun _=>h1,fun h=>absurd h (by decide)⟩ (by decide) (fun _=>x1) (fun h=>absurd h (by decide)) (fun h=>absurd h (by decide)) (fun h=>absurd h (by decide)) (fun h=>absurd h (by decide)) (fun h=>absurd h (by decide))
theorem S4 {g:TK} {r:List TK} {q:Nat} {z:aa} (h:XE T N most (g::r) z q) (hg:tT [41] g=false):RX T N most ⟨g::r,0,false,q⟩ z:=
 xn hT hN 0 rfl h (by decide) ⟨g,r,rfl,hg,fun h=>absurd h (by decide),fun h=>absurd h (by decide)⟩ (by decide) (fun h=>absurd h (by decide)) (fun h=>absurd h (by decide)) (fun h=>absurd h (by decide)) (fun h=>absurd h (by decide)) (fun h=>absurd h (by decide)) (fun h=>absurd h (by decide))
end
end Go.Proofs.YteilijfligofdaaGreatDoor.Pg