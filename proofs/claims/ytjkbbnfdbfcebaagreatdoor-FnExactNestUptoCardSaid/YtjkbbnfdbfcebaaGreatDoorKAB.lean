/- Texts QbJ QbK QbL QbC QbM QbO QbP QbQ QbR QbS QbT QcA, merged. -/
import Derived.Test.YtjkbbnfdbfcebaaGreatDoorKAA
import Derived.Test.YtjkbbnfdbfcebaaGreatDoorChecked
import Derived.KernelRfl
set_option linter.all false
namespace Go.Proofs.YtjkbbnfdbfcebaaGreatDoor.Qp
open Go.AM Mc Pg
theorem FE {s:List UInt8} (hs:s.length<=1099511627776) {i:Nat} (hi:i<s.length):MG 33 s i (fi s i s[i]):=by
 intro H;have sW:s[i]?=some s[i]:=by simp[hi]
 obtain⟨f,hf⟩:∃f,f=(if(s[i].toNat:Int)=39 then i+1 else i):=⟨_,rfl⟩;have mg:i<=f/\f<=s.length:=by rw[hf];split <;>omega
 have hwd:fi s i s[i]=jG s i s[i] f:=by rw[hf];rfl
 rw[hwd];refine call33 (by simp) ?_;cases lO:decide ((s[i].toNat:Int)=39)
 ·have ef:f=i:=by rw[hf,if_neg (of_decide_eq_false lO)]
  clear hf hwd;simp only[go_sem,simprocAttr,MF,QN,sW,lO];subst f;refine⟨Nat,[0,1,4,5,6,7,8],fun x st=>(i<=x/\x<=s.length/\bz cx s x=bz cx s i)/\st=⟨[(0,.p (.s s)),(1,.p (.i .i64 i)),(4,.ptr H.length 0),(5,.p (.i .i64 0)),(6,.p (.i .i64 0)),(7,.p (.i .i64 i)),(8,.p (.i .i64 x))],[],H++[.var [.p (.i .i64 0),.p (.s []),.p (.i .i64 0),.p (.i .i64 0)]]⟩,fun x=>s.length-x,⟨i,?_⟩,?_⟩
  ·simp only[go_sem,simprocAttr]
   exact⟨Nat.le_refl _,mg.2⟩
  ·rintro x _ ⟨⟨h1,h2,h3⟩,rfl⟩
   by_cases aj:x<s.length
   ·have d1:decide ((x:Int)<(s.length:Int))=true:=by simp;omega
    have hg:s[x]?=some s[x]:=by simp[aj]
    simp only[go_sem,simprocAttr,d1,hg,zu];intro _;refine U (FD s[x] _) ?_;cases hd:cx s[x]
    ·have ex:x=bz cx s i:=by rw[<-h3,tR aj hd]
     have ew:wr .i64 ((x:Int)-(i:Int))=((x-i:Nat):Int):=by rw[fk (by omega) (by omega)];omega
     unfold jG;rw[<-ex];by_cases gv:12<x-i
     ·have d2:decide ((12:Int)<((x-i:Nat):Int))=true:=by simp;omega
      simp only[go_sem,simprocAttr,hd,ew,d2];refine⟨by omega,by omega,?_⟩;rw[if_pos gv];exact⟨⟨(x:Int),rfl⟩,_,rfl⟩
     ·have d2:decide ((12:Int)<((x-i:Nat):Int))=false:=by simp;omega
      rw[if_neg gv];have d3:decide ((i:Int)<(i:Int))=false:=by simp
      have hgf:s[i]?=some s[i]:=sW;simp only[go_sem,simprocAttr,hd,ew,d2,d3,hgf,zu];refine⟨by omega,by omega,?_⟩;refine U (x8 s[i] _) ?_;rw[if_neg (of_decide_eq_false lO)];cases kQ:fG s[i]
      ·simp only[go_sem,simprocAttr,kQ]
       refine U (JU _ _) ?_;cases hk:isKey ((s.drop i).take (x-i))
       ·simp only[go_sem,simprocAttr,hk]
        exact⟨⟨0,rfl⟩,_,rfl⟩
       ·simp only[go_sem,simprocAttr,hk]
        exact⟨⟨0,rfl⟩,_,rfl⟩
      ·simp only[go_sem,simprocAttr,kQ]
       exact⟨⟨0,rfl⟩,_,rfl⟩
    ·simp only[go_sem,simprocAttr,hd,bp x (by omega)]
     exact⟨x+1,⟨⟨by omega,by omega,by rw[<-h3,kW aj hd]⟩,rfl⟩,by omega⟩
   ·have d1:decide ((x:Int)<(s.length:Int))=false:=by simp;omega
    have ex:x=bz cx s i:=by rw[<-h3,tS _ (by omega)]
    have ew:wr .i64 ((x:Int)-(i:Int))=((x-i:Nat):Int):=by rw[fk (by omega) (by omega)];omega
    unfold jG;rw[<-ex];by_cases gv:12<x-i
    ·have d2:decide ((12:Int)<((x-i:Nat):Int))=true:=by simp;omega
     simp only[go_sem,simprocAttr,d1,ew,d2];intro _;refine⟨by omega,by omega,?_⟩;rw[if_pos gv];exact⟨⟨(x:Int),rfl⟩,_,rfl⟩
    ·have d2:decide ((12:Int)<((x-i:Nat):Int))=false:=by simp;omega
     rw[if_neg gv];have d3:decide ((i:Int)<(i:Int))=false:=by simp
     have hgf:s[i]?=some s[i]:=sW;simp only[go_sem,simprocAttr,d1,ew,d2,d3,hgf,zu];intro _;refine⟨by omega,by omega,?_⟩;refine U (x8 s[i] _) ?_;rw[if_neg (of_decide_eq_false lO)];cases kQ:fG s[i]
     ·simp only[go_sem,simprocAttr,kQ]
      refine U (JU _ _) ?_;cases hk:isKey ((s.drop i).take (x-i))
      ·simp only[go_sem,simprocAttr,hk]
       exact⟨⟨0,rfl⟩,_,rfl⟩
      ·simp only[go_sem,simprocAttr,hk]
       exact⟨⟨0,rfl⟩,_,rfl⟩
     ·simp only[go_sem,simprocAttr,kQ]
      exact⟨⟨0,rfl⟩,_,rfl⟩
 ·have ef:f=i+1:=by rw[hf,if_pos (of_decide_eq_true lO)]
  clear hf hwd;simp only[go_sem,simprocAttr,MF,QN,sW,lO,bp i (by omega)];rw[<-ef];refine⟨Nat,[0,1,4,5,6,7,8],fun x st=>(f<=x/\x<=s.length/\bz cx s x=bz cx s f)/\st=⟨[(0,.p (.s s)),(1,.p (.i .i64 i)),(4,.ptr H.length 0),(5,.p (.i .i64 0)),(6,.p (.i .i64 0)),(7,.p (.i .i64 f)),(8,.p (.i .i64 x))],[],H++[.var [.p (.i .i64 0),.p (.s []),.p (.i .i64 0),.p (.i .i64 0)]]⟩,fun x=>s.length-x,⟨f,?_⟩,?_⟩
  ·simp only[go_sem,simprocAttr]
   exact⟨Nat.le_refl _,mg.2⟩
  ·rintro x _ ⟨⟨h1,h2,h3⟩,rfl⟩
   by_cases aj:x<s.length
   ·have d1:decide ((x:Int)<(s.length:Int))=true:=by simp;omega
    have hg:s[x]?=some s[x]:=by simp[aj]
    simp only[go_sem,simprocAttr,d1,hg,zu];intro _;refine U (FD s[x] _) ?_;cases hd:cx s[x]
    ·have ex:x=bz cx s f:=by rw[<-h3,tR aj hd]
     have ew:wr .i64 ((x:Int)-(f:Int))=((x-f:Nat):Int):=by rw[fk (by omega) (by omega)];omega
     unfold jG;rw[<-ex];by_cases gv:12<x-f
     ·have d2:decide ((12:Int)<((x-f:Nat):Int))=true:=by simp;omega
      simp only[go_sem,simprocAttr,hd,ew,d2];refine⟨by omega,by omega,?_⟩;rw[if_pos gv];exact⟨⟨(x:Int),rfl⟩,_,rfl⟩
     ·have d2:decide ((12:Int)<((x-f:Nat):Int))=false:=by simp;omega
      rw[if_neg gv];have d3:decide ((i:Int)<(f:Int))=true:=by simp;omega
      simp only[go_sem,simprocAttr,hd,ew,d2,d3];refine⟨by omega,by omega,?_⟩;rw[if_pos (of_decide_eq_true lO)];exact⟨⟨0,rfl⟩,_,rfl⟩
    ·simp only[go_sem,simprocAttr,hd,bp x (by omega)]
     exact⟨x+1,⟨⟨by omega,by omega,by rw[<-h3,kW aj hd]⟩,rfl⟩,by omega⟩
   ·have d1:decide ((x:Int)<(s.length:Int))=false:=by simp;omega
    have ex:x=bz cx s f:=by rw[<-h3,tS _ (by omega)]
    have ew:wr .i64 ((x:Int)-(f:Int))=((x-f:Nat):Int):=by rw[fk (by omega) (by omega)];omega
    unfold jG;rw[<-ex];by_cases gv:12<x-f
    ·have d2:decide ((12:Int)<((x-f:Nat):Int))=true:=by simp;omega
     simp only[go_sem,simprocAttr,d1,ew,d2];intro _;refine⟨by omega,by omega,?_⟩;rw[if_pos gv];exact⟨⟨(x:Int),rfl⟩,_,rfl⟩
    ·have d2:decide ((12:Int)<((x-f:Nat):Int))=false:=by simp;omega
     rw[if_neg gv];have d3:decide ((i:Int)<(f:Int))=true:=by simp;omega
     simp only[go_sem,simprocAttr,d1,ew,d2,d3];intro _;refine⟨by omega,by omega,?_⟩;rw[if_pos (of_decide_eq_true lO)];exact⟨⟨0,rfl⟩,_,rfl⟩
theorem JV {s:List UInt8} (hs:s.length<=1099511627776) {i:Nat} (hi:i<s.length):MG 34 s i (q9 s i):=by
 intro H;unfold q9;generalize hR:gn s (i+1) []=R;refine call34 (by simp) ?_;simp only[go_sem,simprocAttr,QO,aaJ,bp i (by omega)];refine⟨Nat×List UInt8×AV×List AO,[0,1,4,5,6,7,8],fun x st=>(x.1<=s.length/\x.2.1.length<=x.1/\gn s x.1 x.2.1=R/\jr x.2.2.2 x.2.2.1 1 (cr x.2.1)/\(∀id v o m,x.2.2.1=.gs id v o m->H.length<id)/\x.2.2.2[H.length]?=some (.var [.p (.i .i64 0),.p (.s []),.p (.i .i64 0),.p (.i .i64 0)])/\∀(j:Nat) o,H[j]?=some o->x.2.2.2[j]?=some o)/\st=⟨[(0,.p (.s s)),(1,.p (.i .i64 i)),(4,.ptr H.length 0),(5,.p (.i .i64 0)),(6,.p (.i .i64 0)),(7,x.2.2.1),(8,.p (.i .i64 x.1))],[],x.2.2.2⟩,fun x=>s.length-x.1,⟨(i+1,[],.gs (H.length+1) 0 0 0,H++[.var [.p (.i .i64 0),.p (.s []),.p (.i .i64 0),.p (.i .i64 0)],.rows 1 0 []]),?_⟩,?_⟩
 ·simp only[go_sem,simprocAttr]
  refine⟨hi,hR,.inr ⟨_,0,rfl,by rw[fU];rfl⟩,?_,fun _ _ h=>ay h _⟩;intro id v o m e;cases e;omega
 ·rintro⟨x,out,a,H1⟩ _ ⟨⟨h1,h2,h3,h4,h5,h7,h6⟩,rfl⟩
  simp only at h1 h2 h3 h4 h5 h6 h7⊢;by_cases aj:x<s.length
  ·have d1:decide ((x:Int)<(s.length:Int))=true:=by simp;omega
   have hg:s[x]?=some s[x]:=by simp[aj]
   rw[gn,dif_pos aj]at h3;simp only[go_sem,simprocAttr,d1,hg];intro _;cases fp:decide ((s[x].toNat:Int)=34)
   ·have n34:=of_decide_eq_false fp
    rw[if_neg n34]at h3;cases pw:decide ((s[x].toNat:Int)=92)
    ·have JO:=of_decide_eq_false pw
     rw[if_neg JO]at h3;simp only[go_sem,simprocAttr,fp,pw,zu];refine U (HK _ _ _ _) ?_;cases hp:qZ s[x]
     ·have oV:=hp
      unfold qZ at oV;rw[hp]at h3;have hz:∀o,(H1.set H.length o)[H.length]?=some o:=fun o=>bg h7
      simp only[go_sem,simprocAttr,oV,h7,hz];rw[<-h3];exact⟨⟨(x:Int),rfl⟩,iK fun j o hj=>aU (h6 j o hj) (by have:=bj hj;omega)⟩
     ·have oV:=hp
      unfold qZ at oV;rw[if_pos hp]at h3;simp only[go_sem,simprocAttr,oV];refine⟨by intro r hr;simp at hr;subst hr;rfl,?_⟩;refine fq (rs:=cr out) (ys:=[[Ci s[x]]]) h4.ext (by rw[bJ];simp;omega) (by rw[bJ];simp;omega) ?_;intro id ver H4 k1 k2 k3 k4;rw[bJ];simp only[go_sem,simprocAttr,bp x (by omega)];refine⟨(x+1,out++[s[x]],.gs id ver 0 (out.length+1),H4),⟨⟨by simp only;omega,by simp;omega,h3,.inr ⟨id,ver,by simp[bJ],by rw[ka];exact k1⟩,?_,?_,?_⟩,rfl⟩,by simp only;omega⟩
      ·intro jm v o m' e
       cases e;rcases k2 with⟨v,o,n',e⟩|h
       ·exact h5 _ _ _ _ e
       ·have:=bj h7;simp at h;omega
      ·refine k3 _ _ (ay h7 _) (fun v o' n' e=>?_)
       have:=h5 _ _ _ _ e;omega
      ·intro j o hj
       refine k3 j o (ay (h6 j o hj) _) (fun v o' n' e=>?_);have:=h5 _ _ _ _ e;have:=bj hj;omega
    ·have JO:=of_decide_eq_true pw
     rw[if_pos JO]at h3;by_cases sR:x+1<s.length
     ·have jQ:s[x+1]?=some s[x+1]:=by simp[sR]
      have d2:decide (((x+1:Nat):Int)<(s.length:Int))=true:=by simp;omega
      rw[dif_pos sR]at h3;cases rj:decide ((s[x+1].toNat:Int)=110)
      ·rw[if_neg (of_decide_eq_false rj)]at h3
       cases hq:decide ((s[x+1].toNat:Int)=34)
       ·cases hw:decide ((s[x+1].toNat:Int)=92)
        ·rw[if_neg (by rw[not_or];exact⟨of_decide_eq_false hq,of_decide_eq_false hw⟩)]at h3
         have hz:∀o,(H1.set H.length o)[H.length]?=some o:=fun o=>bg h7
         simp only[go_sem,simprocAttr,fp,pw,bp x (by omega),d2,jQ,rj,hq,hw,h7,hz];intro _;rw[<-h3];exact⟨⟨(x:Int),rfl⟩,iK fun j o hj=>aU (h6 j o hj) (by have:=bj hj;omega)⟩
        ·rw[if_pos (.inr (of_decide_eq_true hw))]at h3
         simp only[go_sem,simprocAttr,fp,pw,bp x (by omega),d2,jQ,rj,hq,hw];intro _;refine⟨by intro r hr;simp at hr;subst hr;rfl,?_⟩;refine fq (rs:=cr out) (ys:=[[Ci s[x+1]]]) h4.ext (by rw[bJ];simp;omega) (by rw[bJ];simp;omega) ?_;intro id ver H4 k1 k2 k3 k4;rw[bJ];simp only[go_sem,simprocAttr,bp (x+1) (by omega)];refine⟨(x+2,out++[s[x+1]],.gs id ver 0 (out.length+1),H4),⟨⟨by simp only;omega,by simp;omega,h3,.inr ⟨id,ver,by simp[bJ],by rw[ka];exact k1⟩,?_,?_,?_⟩,rfl⟩,by simp only;omega⟩
         ·intro jm v o m' e
          cases e;rcases k2 with⟨v,o,n',e⟩|h
          ·exact h5 _ _ _ _ e
          ·have:=bj h7;simp at h;omega
         ·refine k3 _ _ (ay h7 _) (fun v o' n' e=>?_)
          have:=h5 _ _ _ _ e;omega
         ·intro j o hj
          refine k3 j o (ay (h6 j o hj) _) (fun v o' n' e=>?_);have:=h5 _ _ _ _ e;have:=bj hj;omega
       ·rw[if_pos (.inl (of_decide_eq_true hq))]at h3
        simp only[go_sem,simprocAttr,fp,pw,bp x (by omega),d2,jQ,rj,hq];intro _;refine⟨by intro r hr;simp at hr;subst hr;rfl,?_⟩;refine fq (rs:=cr out) (ys:=[[Ci s[x+1]]]) h4.ext (by rw[bJ];simp;omega) (by rw[bJ];simp;omega) ?_;intro id ver H4 k1 k2 k3 k4;rw[bJ];simp only[go_sem,simprocAttr,bp (x+1) (by omega)];refine⟨(x+2,out++[s[x+1]],.gs id ver 0 (out.length+1),H4),⟨⟨by simp only;omega,by simp;omega,h3,.inr ⟨id,ver,by simp[bJ],by rw[ka];exact k1⟩,?_,?_,?_⟩,rfl⟩,by simp only;omega⟩
        ·intro jm v o m' e
         cases e;rcases k2 with⟨v,o,n',e⟩|h
         ·exact h5 _ _ _ _ e
         ·have:=bj h7;simp at h;omega
        ·refine k3 _ _ (ay h7 _) (fun v o' n' e=>?_)
         have:=h5 _ _ _ _ e;omega
        ·intro j o hj
         refine k3 j o (ay (h6 j o hj) _) (fun v o' n' e=>?_);have:=h5 _ _ _ _ e;have:=bj hj;omega
      ·rw[if_pos (of_decide_eq_true rj)]at h3
       simp only[go_sem,simprocAttr,fp,pw,bp x (by omega),d2,jQ,rj];intro _;refine⟨by intro r hr;simp at hr;subst hr;rfl,?_⟩;refine fq (rs:=cr out) (ys:=[[Ci 10]]) h4.ext (by rw[bJ];simp;omega) (by rw[bJ];simp;omega) ?_;intro id ver H4 k1 k2 k3 k4;rw[bJ];simp only[go_sem,simprocAttr,bp (x+1) (by omega)];refine⟨(x+2,out++[10],.gs id ver 0 (out.length+1),H4),⟨⟨by simp only;omega,by simp;omega,h3,.inr ⟨id,ver,by simp[bJ],by rw[ka];exact k1⟩,?_,?_,?_⟩,rfl⟩,by simp only;omega⟩
       ·intro jm v o m' e
        cases e;rcases k2 with⟨v,o,n',e⟩|h
        ·exact h5 _ _ _ _ e
        ·have:=bj h7;simp at h;omega
       ·refine k3 _ _ (ay h7 _) (fun v o' n' e=>?_)
        have:=h5 _ _ _ _ e;omega
       ·intro j o hj
        refine k3 j o (ay (h6 j o hj) _) (fun v o' n' e=>?_);have:=h5 _ _ _ _ e;have:=bj hj;omega
     ·have d2:decide (((x+1:Nat):Int)<(s.length:Int))=false:=by simp;omega
      rw[dif_neg sR]at h3;have hz:∀o,(H1.set H.length o)[H.length]?=some o:=fun o=>bg h7
      simp only[go_sem,simprocAttr,fp,pw,bp x (by omega),d2,h7,hz];intro _;rw[<-h3];exact⟨⟨(x:Int),rfl⟩,iK fun j o hj=>aU (h6 j o hj) (by have:=bj hj;omega)⟩
   ·rw[if_pos (of_decide_eq_true fp)]at h3
    have hb:=ui h4 (by omega);have hz:∀o,(H1.set H.length o)[H.length]?=some o:=fun o=>bg h7
    simp only[go_sem,simprocAttr,fp,hb,bp x (by omega),h7,hz];rw[<-h3];exact⟨⟨0,rfl⟩,iK fun j o hj=>aU (h6 j o hj) (by have:=bj hj;omega)⟩
  ·have d1:decide ((x:Int)<(s.length:Int))=false:=by simp;omega
   rw[gn,dif_neg aj]at h3;have hz:∀o,(H1.set H.length o)[H.length]?=some o:=fun o=>bg h7
   simp only[go_sem,simprocAttr,d1,h7,hz];intro _;rw[<-h3];exact⟨⟨(i:Int),rfl⟩,iK fun j o hj=>aU (h6 j o hj) (by have:=bj hj;omega)⟩
theorem Cm (H:List AO):aA Tryz.prog 35 [] H (fun r H'=>r=.gs H.length 0 0 15/\H'=H++[.rows 1 0 (gw bE)]):=by
 refine call35 (by simp) ?_;simp only[go_sem,simprocAttr,QP,aaK]
 rfl
theorem Cn {x:Nat} (h:x<bE.length):bE[x]≠[]:=by
 have:∀g∈bE,g≠[]:=by decide
 exact this _ (List.getElem_mem h)
theorem adm {s:List UInt8} (hs:s.length<=1099511627776) {i:Nat} (hi:i<s.length):MG 13 s i (jY s i s[i]):=by
 intro H;have sW:s[i]?=some s[i]:=by simp[hi]
 refine call13 (by simp) ?_;simp only[go_sem,simprocAttr,QG,aaD,sW,zu];refine U (JT s[i] _) ?_;unfold jY;cases hd:eH s[i]
 ·rw[if_neg (by simp)]
  simp only[go_sem,simprocAttr,hd];refine U (Bb s[i] _) ?_;cases HJ:eP s[i]
  ·simp only[go_sem,simprocAttr,HJ]
   refine U (x8 s[i] _) ?_;cases kQ:fG s[i]
   ·simp only[go_sem,simprocAttr,kQ]
    cases lO:decide ((s[i].toNat:Int)=39)
    ·rw[if_neg (by simp[tick,lO])]
     cases fp:decide ((s[i].toNat:Int)=34)
     ·rw[if_neg (of_decide_eq_false fp)]
      simp only[go_sem,simprocAttr,lO,fp];refine(Cm _).mono ?_;rintro r H2 ⟨rfl,rfl⟩;simp only[go_sem,simprocAttr];refine⟨Nat,[0,1,4,5,6,7,8,9],fun x st=>(x<=15/\eQ (s.drop i) (bE.drop x)=eQ (s.drop i) bE)/\st=⟨[(0,.p (.s s)),(1,.p (.i .i64 i)),(4,.ptr H.length 0),(5,.p (.i .i64 0)),(6,.p (.i .i64 0)),(7,.p (.i .i64 (s[i].toNat:Int))),(8,.gs (H.length+1) 0 0 15),(9,.p (.i .i64 x))],[],H++[.var [.p (.i .i64 0),.p (.s []),.p (.i .i64 0),.p (.i .i64 0)],.rows 1 0 (gw bE)]⟩,fun x=>15-x,⟨0,?_⟩,?_⟩
      ·simp only[go_sem,simprocAttr]
      ·rintro x _ ⟨⟨hx,hn⟩,rfl⟩
       unfold o9;by_cases aj:x<15
       ·have bC:x<bE.length:=aj
        have d1:decide ((x:Int)<15)=true:=by simp;omega
        have HJ:=qd bC;rw[qb bC]at hn;have ew:wr .i64 ((i:Int)+(bE[x].length:Int))=((i+bE[x].length:Nat):Int):=by rw[fk (by omega) (by omega)];omega
        simp only[go_sem,simprocAttr,d1,j9 bC];intro _;refine⟨by omega,fun _=>?_⟩;refine ao ?_;by_cases eX:i+bE[x].length<=s.length
        ·have d2:decide (((i+bE[x].length:Nat):Int)<=(s.length:Int))=true:=by simp;omega
         have et:(s.drop i).take (i+bE[x].length-i)=(s.drop i).take bE[x].length:=by congr 1;omega
         have ep:decide ((s.drop i).take bE[x].length=bE[x])=preB bE[x] (s.drop i):=rfl;cases hp:preB bE[x] (s.drop i)
         ·rw[hp]at hn
          simp only[go_sem,simprocAttr,ew,d2,j9 bC,et,ep,hp,bp x (by omega)];refine⟨by omega,by omega,by omega,x+1,⟨⟨by omega,by simpa using hn⟩,rfl⟩,by omega⟩
         ·rw[hp,if_pos rfl]at hn
          simp only[go_sem,simprocAttr,ew,d2,j9 bC,et,ep,hp];rw[<-hn,if_neg (Cn bC)];exact⟨by omega,by omega,by omega,by omega,⟨0,rfl⟩,_,rfl⟩
        ·have d2:decide (((i+bE[x].length:Nat):Int)<=(s.length:Int))=false:=by simp;omega
         have hp:preB bE[x] (s.drop i)=false:=by
          unfold preB;refine decide_eq_false fun h=>?_
          have:=congrArg List.length h;rw[List.length_take,List.length_drop]at this;omega
         rw[hp]at hn;simp only[go_sem,simprocAttr,ew,d2,bp x (by omega)];exact⟨x+1,⟨⟨by omega,by simpa using hn⟩,rfl⟩,by omega⟩
       ·have d1:decide ((x:Int)<15)=false:=by simp;omega
        have:bE.drop x=[]:=List.drop_of_length_le (by have:bE.length=15:=rfl;omega);rw[this,eQ]at hn;simp only[go_sem,simprocAttr,d1];intro _;simp only[<-hn,if_pos];exact⟨⟨(i:Int),rfl⟩,_,rfl⟩
     ·rw[if_pos (of_decide_eq_true fp)]
      simp only[go_sem,simprocAttr,lO,fp];refine(JV hs hi _).mono ?_;rintro r H2 ⟨⟨e',rfl⟩,G,rfl⟩;rcases q9 s i with⟨t,e⟩|c
      ·simp only[go_sem,simprocAttr,iz,Tok.cells]
       exact⟨⟨0,rfl⟩,_,rfl⟩
      ·simp only[go_sem,simprocAttr,iz]
       exact⟨⟨e',rfl⟩,_,rfl⟩
    ·by_cases Cl:i+1<s.length
     ·have d1:decide (((i+1:Nat):Int)<(s.length:Int))=true:=by simp;omega
      have jQ:s[i+1]?=some s[i+1]:=by simp[Cl]
      have nZ:s.getD (i+1) 0=s[i+1]:=by simp[Cl]
      simp only[go_sem,simprocAttr,lO,bp i (by omega),d1,jQ,zu];intro _;refine U (Bb s[i+1] _) ?_;cases bG:eP s[i+1]
      ·rw[if_neg (by simp only[tick,nZ,bG];simp)]
       simp only[go_sem,simprocAttr,bG];cases fp:decide ((s[i].toNat:Int)=34)
       ·rw[if_neg (of_decide_eq_false fp)]
        simp only[go_sem,simprocAttr,fp];refine(Cm _).mono ?_;rintro r H2 ⟨rfl,rfl⟩;simp only[go_sem,simprocAttr];refine⟨Nat,[0,1,4,5,6,7,8,9],fun x st=>(x<=15/\eQ (s.drop i) (bE.drop x)=eQ (s.drop i) bE)/\st=⟨[(0,.p (.s s)),(1,.p (.i .i64 i)),(4,.ptr H.length 0),(5,.p (.i .i64 0)),(6,.p (.i .i64 0)),(7,.p (.i .i64 (s[i].toNat:Int))),(8,.gs (H.length+1) 0 0 15),(9,.p (.i .i64 x))],[],H++[.var [.p (.i .i64 0),.p (.s []),.p (.i .i64 0),.p (.i .i64 0)],.rows 1 0 (gw bE)]⟩,fun x=>15-x,⟨0,?_⟩,?_⟩
        ·simp only[go_sem,simprocAttr]
        ·rintro x _ ⟨⟨hx,hn⟩,rfl⟩
         unfold o9;by_cases aj:x<15
         ·have bC:x<bE.length:=aj
          have d1:decide ((x:Int)<15)=true:=by simp;omega
          have HJ:=qd bC;rw[qb bC]at hn;have ew:wr .i64 ((i:Int)+(bE[x].length:Int))=((i+bE[x].length:Nat):Int):=by rw[fk (by omega) (by omega)];omega
          simp only[go_sem,simprocAttr,d1,j9 bC];intro _;refine⟨by omega,fun _=>?_⟩;refine ao ?_;by_cases eX:i+bE[x].length<=s.length
          ·have d2:decide (((i+bE[x].length:Nat):Int)<=(s.length:Int))=true:=by simp;omega
           have et:(s.drop i).take (i+bE[x].length-i)=(s.drop i).take bE[x].length:=by congr 1;omega
           have ep:decide ((s.drop i).take bE[x].length=bE[x])=preB bE[x] (s.drop i):=rfl;cases hp:preB bE[x] (s.drop i)
           ·rw[hp]at hn
            simp only[go_sem,simprocAttr,ew,d2,j9 bC,et,ep,hp,bp x (by omega)];refine⟨by omega,by omega,by omega,x+1,⟨⟨by omega,by simpa using hn⟩,rfl⟩,by omega⟩
           ·rw[hp,if_pos rfl]at hn
            simp only[go_sem,simprocAttr,ew,d2,j9 bC,et,ep,hp];rw[<-hn,if_neg (Cn bC)];exact⟨by omega,by omega,by omega,by omega,⟨0,rfl⟩,_,rfl⟩
          ·have d2:decide (((i+bE[x].length:Nat):Int)<=(s.length:Int))=false:=by simp;omega
           have hp:preB bE[x] (s.drop i)=false:=by
            unfold preB;refine decide_eq_false fun h=>?_
            have:=congrArg List.length h;rw[List.length_take,List.length_drop]at this;omega
           rw[hp]at hn;simp only[go_sem,simprocAttr,ew,d2,bp x (by omega)];exact⟨x+1,⟨⟨by omega,by simpa using hn⟩,rfl⟩,by omega⟩
         ·have d1:decide ((x:Int)<15)=false:=by simp;omega
          have:bE.drop x=[]:=List.drop_of_length_le (by have:bE.length=15:=rfl;omega);rw[this,eQ]at hn;simp only[go_sem,simprocAttr,d1];intro _;simp only[<-hn,if_pos];exact⟨⟨(i:Int),rfl⟩,_,rfl⟩
       ·rw[if_pos (of_decide_eq_true fp)]
        simp only[go_sem,simprocAttr,fp];refine(JV hs hi _).mono ?_;rintro r H2 ⟨⟨e',rfl⟩,G,rfl⟩;rcases q9 s i with⟨t,e⟩|c
        ·simp only[go_sem,simprocAttr,iz,Tok.cells]
         exact⟨⟨0,rfl⟩,_,rfl⟩
        ·simp only[go_sem,simprocAttr,iz]
         exact⟨⟨e',rfl⟩,_,rfl⟩
      ·rw[if_pos (by simp only[tick,nZ,bG];simp[lO,Cl])]
       simp only[go_sem,simprocAttr,bG];refine(FE hs hi _).mono ?_;rintro r H2 ⟨⟨e',rfl⟩,G,rfl⟩;rcases fi s i s[i]with⟨t,e⟩|c
       ·simp only[go_sem,simprocAttr,iz,Tok.cells]
        exact⟨⟨0,rfl⟩,_,rfl⟩
       ·simp only[go_sem,simprocAttr,iz]
        exact⟨⟨e',rfl⟩,_,rfl⟩
     ·have d1:decide (((i+1:Nat):Int)<(s.length:Int))=false:=by simp;omega
      rw[if_neg (by simp[tick,Cl])];simp only[go_sem,simprocAttr,lO,bp i (by omega),d1];intro _;cases fp:decide ((s[i].toNat:Int)=34)
      ·rw[if_neg (of_decide_eq_false fp)]
       simp only[go_sem,simprocAttr,fp];refine(Cm _).mono ?_;rintro r H2 ⟨rfl,rfl⟩;simp only[go_sem,simprocAttr];refine⟨Nat,[0,1,4,5,6,7,8,9],fun x st=>(x<=15/\eQ (s.drop i) (bE.drop x)=eQ (s.drop i) bE)/\st=⟨[(0,.p (.s s)),(1,.p (.i .i64 i)),(4,.ptr H.length 0),(5,.p (.i .i64 0)),(6,.p (.i .i64 0)),(7,.p (.i .i64 (s[i].toNat:Int))),(8,.gs (H.length+1) 0 0 15),(9,.p (.i .i64 x))],[],H++[.var [.p (.i .i64 0),.p (.s []),.p (.i .i64 0),.p (.i .i64 0)],.rows 1 0 (gw bE)]⟩,fun x=>15-x,⟨0,?_⟩,?_⟩
       ·simp only[go_sem,simprocAttr]
       ·rintro x _ ⟨⟨hx,hn⟩,rfl⟩
        unfold o9;by_cases aj:x<15
        ·have bC:x<bE.length:=aj
         have d1:decide ((x:Int)<15)=true:=by simp;omega
         have HJ:=qd bC;rw[qb bC]at hn;have ew:wr .i64 ((i:Int)+(bE[x].length:Int))=((i+bE[x].length:Nat):Int):=by rw[fk (by omega) (by omega)];omega
         simp only[go_sem,simprocAttr,d1,j9 bC];intro _;refine⟨by omega,fun _=>?_⟩;refine ao ?_;by_cases eX:i+bE[x].length<=s.length
         ·have d2:decide (((i+bE[x].length:Nat):Int)<=(s.length:Int))=true:=by simp;omega
          have et:(s.drop i).take (i+bE[x].length-i)=(s.drop i).take bE[x].length:=by congr 1;omega
          have ep:decide ((s.drop i).take bE[x].length=bE[x])=preB bE[x] (s.drop i):=rfl;cases hp:preB bE[x] (s.drop i)
          ·rw[hp]at hn
           simp only[go_sem,simprocAttr,ew,d2,j9 bC,et,ep,hp,bp x (by omega)];refine⟨by omega,by omega,by omega,x+1,⟨⟨by omega,by simpa using hn⟩,rfl⟩,by omega⟩
          ·rw[hp,if_pos rfl]at hn
           simp only[go_sem,simprocAttr,ew,d2,j9 bC,et,ep,hp];rw[<-hn,if_neg (Cn bC)];exact⟨by omega,by omega,by omega,by omega,⟨0,rfl⟩,_,rfl⟩
         ·have d2:decide (((i+bE[x].length:Nat):Int)<=(s.length:Int))=false:=by simp;omega
          have hp:preB bE[x] (s.drop i)=false:=by
           unfold preB;refine decide_eq_false fun h=>?_
           have:=congrArg List.length h;rw[List.length_take,List.length_drop]at this;omega
          rw[hp]at hn;simp only[go_sem,simprocAttr,ew,d2,bp x (by omega)];exact⟨x+1,⟨⟨by omega,by simpa using hn⟩,rfl⟩,by omega⟩
        ·have d1:decide ((x:Int)<15)=false:=by simp;omega
         have:bE.drop x=[]:=List.drop_of_length_le (by have:bE.length=15:=rfl;omega);rw[this,eQ]at hn;simp only[go_sem,simprocAttr,d1];intro _;simp only[<-hn,if_pos];exact⟨⟨(i:Int),rfl⟩,_,rfl⟩
      ·rw[if_pos (of_decide_eq_true fp)]
       simp only[go_sem,simprocAttr,fp];refine(JV hs hi _).mono ?_;rintro r H2 ⟨⟨e',rfl⟩,G,rfl⟩;rcases q9 s i with⟨t,e⟩|c
       ·simp only[go_sem,simprocAttr,iz,Tok.cells]
        exact⟨⟨0,rfl⟩,_,rfl⟩
       ·simp only[go_sem,simprocAttr,iz]
        exact⟨⟨e',rfl⟩,_,rfl⟩
   ·simp only[go_sem,simprocAttr,kQ]
    rw[if_pos (by simp)];refine(FE hs hi _).mono ?_;rintro r H2 ⟨⟨e',rfl⟩,G,rfl⟩;rcases fi s i s[i]with⟨t,e⟩|c
    ·simp only[go_sem,simprocAttr,iz,Tok.cells]
     exact⟨⟨0,rfl⟩,_,rfl⟩
    ·simp only[go_sem,simprocAttr,iz]
     exact⟨⟨e',rfl⟩,_,rfl⟩
  ·simp only[go_sem,simprocAttr,HJ]
   rw[if_pos (by simp)];refine(FE hs hi _).mono ?_;rintro r H2 ⟨⟨e',rfl⟩,G,rfl⟩;rcases fi s i s[i]with⟨t,e⟩|c
   ·simp only[go_sem,simprocAttr,iz,Tok.cells]
    exact⟨⟨0,rfl⟩,_,rfl⟩
   ·simp only[go_sem,simprocAttr,iz]
    exact⟨⟨e',rfl⟩,_,rfl⟩
 ·rw[if_pos rfl]
  simp only[go_sem,simprocAttr,hd];refine(Rk hs hi _).mono ?_;rintro r H2 ⟨⟨e',rfl⟩,G,rfl⟩;rcases sJ s i s[i]with⟨t,e⟩|c
  ·simp only[go_sem,simprocAttr,iz,Tok.cells]
   exact⟨⟨0,rfl⟩,_,rfl⟩
  ·simp only[go_sem,simprocAttr,iz]
   exact⟨⟨e',rfl⟩,_,rfl⟩
end Go.Proofs.YtjkbbnfdbfcebaaGreatDoor.Qp
set_option linter.all false
set_option maxRecDepth 100000
namespace Go.Proofs.YtjkbbnfdbfcebaaGreatDoor.Mc
open Go.AM
def Rm:bl (Tryz.f38.body.map (compile [0,2,3,6] Tryz.prog 12)):=⟨_,by conv=>lhs;cbv⟩
def aaT:List MR:=[.cell true 7 2]
theorem call38:ax Tryz.prog 38 12 Rm.m aaT:=Rm.call Tryz.func38 (by kernel_rfl)
def Rn:bl (Tryz.f39.body.map (compile [0,2] Tryz.prog 13)):=⟨_,by conv=>lhs;cbv⟩
def aaU:List MR:=[.cell true 4 2]
theorem call39:ax Tryz.prog 39 13 Rn.m aaU:=Rn.call Tryz.func39 (by kernel_rfl)
def MH:bl (Tryz.f40.body.map (compile [0,1,9] Tryz.prog 18)):=⟨_,by conv=>lhs;cbv⟩
def Ro:List MR:=[]
theorem call40:ax Tryz.prog 40 18 MH.m Ro:=MH.call Tryz.func40 (by kernel_rfl)
def Rp:bl (Tryz.f14.body.map (compile [0,2,3,6,28] Tryz.prog 32)):=⟨_,by conv=>lhs;cbv⟩
def aaV:List MR:=[.cell true 8 2]
theorem call14:ax Tryz.prog 14 32 Rp.m aaV:=Rp.call Tryz.func14 (by kernel_rfl)
def Rq:bl (Tryz.f78.body.map (compile [0,2,19,46] Tryz.prog 60)):=⟨_,by conv=>lhs;cbv⟩
def aaW:List MR:=[.t 2]
theorem call78:ax Tryz.prog 78 60 Rq.m aaW:=Rq.call Tryz.func78 (by kernel_rfl)
def Rr:bl (Tryz.f79.body.map (compile [0,2,3,10,15,22,44,60,89,112] Tryz.prog 123)):=⟨_,by conv=>lhs;cbv⟩
def aaX:List MR:=[.cell true 7 2]
theorem call79:ax Tryz.prog 79 123 Rr.m aaX:=Rr.call Tryz.func79 (by kernel_rfl)
def Rt:bl (Tryz.f80.body.map (compile [0] Tryz.prog 10)):=⟨_,by conv=>lhs;cbv⟩
def aaY:List MR:=[]
theorem call80:ax Tryz.prog 80 10 Rt.m aaY:=Rt.call Tryz.func80 (by kernel_rfl)
def Ru:bl (Tryz.f36.body.map (compile [0,1,4,5] Tryz.prog 30)):=⟨_,by conv=>lhs;cbv⟩
def aaZ:List MR:=[.t 4]
theorem call36:ax Tryz.prog 36 30 Ru.m aaZ:=Ru.call Tryz.func36 (by kernel_rfl)
def Rv:bl (Tryz.f37.body.map (compile [0,2,3,21,42] Tryz.prog 53)):=⟨_,by conv=>lhs;cbv⟩
def aa0:List MR:=[.cell true 4 2]
theorem call37:ax Tryz.prog 37 53 Rv.m aa0:=Rv.call Tryz.func37 (by kernel_rfl)
def Rw:bl (Tryz.f77.body.map (compile [0,1,4,7] Tryz.prog 16)):=⟨_,by conv=>lhs;cbv⟩
def aa1:List MR:=[.t 4]
theorem call77:ax Tryz.prog 77 16 Rw.m aa1:=Rw.call Tryz.func77 (by kernel_rfl)
def Rx:bl (Tryz.f75.body.map (compile [0,1,4,5,19] Tryz.prog 32)):=⟨_,by conv=>lhs;cbv⟩
def aa2:List MR:=[.t 4]
theorem call75:ax Tryz.prog 75 32 Rx.m aa2:=Rx.call Tryz.func75 (by kernel_rfl)
def Ry:bl (Tryz.f74.body.map (compile [0,1,7] Tryz.prog 10)):=⟨_,by conv=>lhs;cbv⟩
def aa3:List MR:=[]
theorem call74:ax Tryz.prog 74 10 Ry.m aa3:=Ry.call Tryz.func74 (by kernel_rfl)
def JW:bl (Tryz.f135.body.map (compile [0,2,3] Tryz.prog 13)):=⟨_,by conv=>lhs;cbv⟩
def Rz:List MR:=[.cell true 12 2]
theorem call135:ax Tryz.prog 135 13 JW.m Rz:=JW.call Tryz.func135 (by kernel_rfl)
def wP:bl (Tryz.f136.body.map (compile [0,1,4,5,6,8,17,40] Tryz.prog 42)):=⟨_,by conv=>lhs;cbv⟩
def zy:List MR:=[.cell true 7 4]
theorem call136:ax Tryz.prog 136 42 wP.m zy:=wP.call Tryz.func136 (by kernel_rfl)
def RA:bl (Tryz.f76.body.map (compile [0,2,3,11] Tryz.prog 17)):=⟨_,by conv=>lhs;cbv⟩
def aa4:List MR:=[.cell true 7 2]
theorem call76:ax Tryz.prog 76 17 RA.m aa4:=RA.call Tryz.func76 (by kernel_rfl)
def JX:bl (Tryz.f176.body.map (compile [0,2,3,4,7,18] Tryz.prog 26)):=⟨_,by conv=>lhs;cbv⟩
def RB:List MR:=[.cell true 5 2]
theorem call176:ax Tryz.prog 176 26 JX.m RB:=JX.call Tryz.func176 (by kernel_rfl)
def JY:bl (Tryz.f177.body.map (compile [0,2,3,7] Tryz.prog 16)):=⟨_,by conv=>lhs;cbv⟩
def RC:List MR:=[.cell true 7 2]
theorem call177:ax Tryz.prog 177 16 JY.m RC:=JY.call Tryz.func177 (by kernel_rfl)
def JZ:bl (Tryz.f178.body.map (compile [0,1,4,5] Tryz.prog 31)):=⟨_,by conv=>lhs;cbv⟩
def RD:List MR:=[.t 4]
theorem call178:ax Tryz.prog 178 31 JZ.m RD:=JZ.call Tryz.func178 (by kernel_rfl)
def J0:bl (Tryz.f134.body.map (compile [0,2,3,6,10] Tryz.prog 21)):=⟨_,by conv=>lhs;cbv⟩
def RE:List MR:=[.cell true 4 2]
theorem call134:ax Tryz.prog 134 21 J0.m RE:=J0.call Tryz.func134 (by kernel_rfl)
def FG:bl (Tryz.f132.body.map (compile [0,2,3,4,6,9] Tryz.prog 11)):=⟨_,by conv=>lhs;cbv⟩
def J1:List MR:=[.t 2]
theorem call132:ax Tryz.prog 132 11 FG.m J1:=FG.call Tryz.func132 (by kernel_rfl)
def J2:bl (Tryz.f200.body.map (compile [0,2,3,4,5,10,29,39,46,54,62,70,75,87,89] Tryz.prog 94)):=⟨_,by conv=>lhs;cbv⟩
def RF:List MR:=[.cell true 5 2]
theorem call200:ax Tryz.prog 200 94 J2.m RF:=J2.call Tryz.func200 (by kernel_rfl)
def J3:bl (Tryz.f201.body.map (compile [0,2,3] Tryz.prog 41)):=⟨_,by conv=>lhs;cbv⟩
def RG:List MR:=[.t 2]
theorem call201:ax Tryz.prog 201 41 J3.m RG:=J3.call Tryz.func201 (by kernel_rfl)
def J4:bl (Tryz.f202.body.map (compile [0,2,3,4,27,52] Tryz.prog 58)):=⟨_,by conv=>lhs;cbv⟩
def RH:List MR:=[.cell true 7 2]
theorem call202:ax Tryz.prog 202 58 J4.m RH:=J4.call Tryz.func202 (by kernel_rfl)
def J5:bl (Tryz.f203.body.map (compile [0,2,3] Tryz.prog 45)):=⟨_,by conv=>lhs;cbv⟩
def RI:List MR:=[.t 2]
theorem call203:ax Tryz.prog 203 45 J5.m RI:=J5.call Tryz.func203 (by kernel_rfl)
def J6:bl (Tryz.f204.body.map (compile [0,2,3,4,5,10,29,39,46,54,62,70,78,86,98,100] Tryz.prog 105)):=⟨_,by conv=>lhs;cbv⟩
def RJ:List MR:=[.cell true 7 2]
theorem call204:ax Tryz.prog 204 105 J6.m RJ:=J6.call Tryz.func204 (by kernel_rfl)
def J7:bl (Tryz.f171.body.map (compile [0,2] Tryz.prog 29)):=⟨_,by conv=>lhs;cbv⟩
def RK:List MR:=[.t 2]
theorem call171:ax Tryz.prog 171 29 J7.m RK:=J7.call Tryz.func171 (by kernel_rfl)
def J8:bl (Tryz.f175.body.map (compile [0,2,3,4,9,17] Tryz.prog 26)):=⟨_,by conv=>lhs;cbv⟩
def RL:List MR:=[.cell true 4 2]
theorem call175:ax Tryz.prog 175 26 J8.m RL:=J8.call Tryz.func175 (by kernel_rfl)
def J9:bl (Tryz.f172.body.map (compile [0,2] Tryz.prog 21)):=⟨_,by conv=>lhs;cbv⟩
def RM:List MR:=[.t 2]
theorem call172:ax Tryz.prog 172 21 J9.m RM:=J9.call Tryz.func172 (by kernel_rfl)
def Ka:bl (Tryz.f199.body.map (compile [0,2,3,4,8,19,21] Tryz.prog 30)):=⟨_,by conv=>lhs;cbv⟩
def RN:List MR:=[.cell true 4 2]
theorem call199:ax Tryz.prog 199 30 Ka.m RN:=Ka.call Tryz.func199 (by kernel_rfl)
def FH:bl (Tryz.f222.body.map (compile [0,2,3,4,7,32] Tryz.prog 64)):=⟨_,by conv=>lhs;cbv⟩
def Kb:List MR:=[.cell true 4 2]
theorem call222:ax Tryz.prog 222 64 FH.m Kb:=FH.call Tryz.func222 (by kernel_rfl)
def Kc:bl (Tryz.f223.body.map (compile [0,2,3] Tryz.prog 25)):=⟨_,by conv=>lhs;cbv⟩
def RO:List MR:=[.t 2]
theorem call223:ax Tryz.prog 223 25 Kc.m RO:=Kc.call Tryz.func223 (by kernel_rfl)
end Go.Proofs.YtjkbbnfdbfcebaaGreatDoor.Mc
namespace Go.Proofs.YtjkbbnfdbfcebaaGreatDoor.Qp
open Go.AM Mc Pg
theorem lV (H A:List AO) (p:Nat) (c:AO) (k:Nat):(H.set p c++A)[H.length+k]?=A[k]?:=by
 have:=fU (H.set p c) A k;rwa[List.length_set]at this
theorem qx0 (H A:List AO) (p:Nat) (c:AO):(H.set p c++A)[H.length]?=A[0]?:=lV H A p c 0
theorem qsk (H A:List AO) (p:Nat) (c:AO) (k:Nat) (o:AO):(H.set p c++A).set (H.length+k) o=H.set p c++A.set k o:=by
 have:=qG (H.set p c) A k o;rwa[List.length_set]at this
theorem qs0 (H A:List AO) (p:Nat) (c:AO) (o:AO):(H.set p c++A).set H.length o=H.set p c++A.set 0 o:=qsk H A p c 0 o
attribute [go_sem] lV qx0 qsk qs0 List.length_set
theorem qp {H:List AO} {p:Nat} (hp:p<H.length) (A:List AO) (c:AO):(H.set p c++A)[p]?=some c:=by
 rw[List.getElem?_append_left (by simpa using hp)];simp[hp]
theorem mj {H:List AO} {p:Nat} (hp:p<H.length) (c:AO):(H.set p c)[p]?=some c:=by simp[hp]
theorem qq {H:List AO} {p:Nat} (hp:p<H.length) (A:List AO) (c d:AO):(H.set p c++A).set p d=H.set p d++A:=by
 rw[List.set_append_left _ _ (by simpa using hp),List.set_set]
theorem vB (H:List AO) (p:Nat) (c d:AO):(H.set p c).set p d=H.set p d:=by simp
def Ok (T:List Tok) (e:Nat) (s:PS):Prop:=s.i<T.length/\s.nest=e
theorem Ok.of {T:List Tok} {lim:Nat} {s t:PS} (h:Ok T lim s) (k:zk T s t):Ok T lim t:=⟨k.2.1,by rw[k.2.2.2];exact h.2⟩
theorem Ok.step {T:List Tok} {lim:Nat} {s:PS} {f:PS->PS} (h:Ok T lim s) (k:gU T f):Ok T lim (f s):=h.of (k s h.1)
theorem Ok.run {T:List Tok} {lim:Nat} {s:PS} {α:Type} {m:PM α} (h:Ok T lim s) (k:ab T m):Ok T lim (m s).2:=h.of (k s h.1)
theorem Ok.aI {T:List Tok} {lim:Nat} {s:PS} (hT:bL T) (h:Ok T lim s) (hk:(aJ T s).k≠8):Ok T lim (Pg.aI s):=⟨rV hT h.1 hk,h.2⟩
def PF (pv:PS->AO) (T:List Tok) (lim:Nat) (f:Nat) (xs:List AV) {α:Type} (m:PM α) (V:α->AV):Prop :=
 ∀(H A:List AO) (p:Nat) (s:PS),p<H.length->Ok T lim s->aA Tryz.prog f (.ptr p 0::xs) (H.set p (pv s)++A) (aW (V (m s).1) (H.set p (pv (m s).2)++A))
theorem PF.nil {pv:PS->AO} {T:List Tok} {lim:Nat} {f:Nat} {xs:List AV} {α:Type} {m:PM α} {V:α->AV} (h:PF pv T lim f xs m V) {H:List AO} {p:Nat} {s:PS} (hp:p<H.length) (hs:Ok T lim s):
  aA Tryz.prog f (.ptr p 0::xs) (H.set p (pv s)) (aW (V (m s).1) (H.set p (pv (m s).2))):=by
 have:=h H [] p s hp hs;rwa[List.append_nil,List.append_nil]at this
theorem RP {f:Nat} {xs:List AV} {c c':AO} {x:AV} (hc:∀q,sT q c'->Tf q)
  (h:∀(H:List AO) (p:Nat),p<H.length->aA Tryz.prog f (.ptr p 0::xs) (H.set p c) (fun r H'=>∃G,H'=H.set p c'++G/\cG H.length H' r x)):
  ∀(H A:List AO) (p:Nat),p<H.length->aA Tryz.prog f (.ptr p 0::xs) (H.set p c++A) (aW x (H.set p c'++A)):=by
 intro H A p hp;have e:∀c,H.set p c++A=(H++A).set p c:=fun c=>by rw[List.set_append_left _ _ hp]
 rw[e,e];have h1:=h (H++A) p (by simp;omega)
 have h2:=B6 (i:=p) (o:=c) (o':=c') (x:=x) (H:=(H++A).set p c) (f:=f) (args:=.ptr p 0::xs) (P:=Tryz.prog)
  (h1.mono (by rintro r H' ⟨G,rfl,hl⟩;exact⟨G,by rw[vB],by rw[List.length_set];exact hl⟩)) (mj (by rw[List.length_append];omega) _) (fun q hq=>.inl (hc q hq))
 rwa[vB]at h2
theorem dy {pv:PS->AO} (hpv:∀s c,sT c (pv s)->Tf c) {T:List Tok} {lim:Nat} {f:Nat} {xs:List AV} {α:Type} {m:PM α} {V:α->AV}
  (h:∀(H:List AO) (p:Nat) (s:PS),p<H.length->Ok T lim s->aA Tryz.prog f (.ptr p 0::xs) (H.set p (pv s)) (fun r H'=>∃G,H'=H.set p (pv (m s).2)++G/\cG H.length H' r (V (m s).1))):PF pv T lim f xs m V:=
 fun H A p s hp hs=>RP (hpv _) (fun H p hp=>h H p s hp hs) H A p hp
abbrev sY (T:List Tok):AV:=.p (.l (T.map Tok.cells))
abbrev iV (n:Int):AV:=.p (.i .i64 n)
def bO (T:List Tok) (lim:Nat) (s:PS):AO:=.var [sY T,iV s.i,iV s.nest,iV s.d,iV lim,iV s.c,iV s.ps]
theorem dA (T lim s c) (h:sT c (bO T lim s)):Tf c:=by
 simp only[bO,sT,List.mem_cons,List.not_mem_nil,or_false]at h;rcases h with rfl|rfl|rfl|rfl|rfl|rfl|rfl<;>exact bw _
abbrev bV (b:Bool):AV:=.p (.b b)
abbrev uV (_:Unit):AV:=.dX []
abbrev sV (s:List UInt8):AV:=.p (.s s)
abbrev r8 (g:PS->Bool):PM Bool:=fun s=>(g s,s)
abbrev Co (f:PS->PS):PM Unit:=fun s=>((),f s)
abbrev aa5 (T:List Tok):PM Tok:=fun s=>(aJ T s,s)
abbrev dm (T:List Tok) (x:List UInt8):PM Bool:=fun s=>if aL T x s then(true,aI s)else(false,s)
section
variable {T:List Tok} {lim e:Nat}
theorem Cp {s:PS} (h:s.i<T.length):(T.map Tok.cells)[s.i]?=some (aJ T s).cells:=by
 simp[aJ,h]
theorem bt {n:Nat} {H:List AO} {x:AV} (h:Tf x):cG n H x x:=.tf _ h
theorem kb:PF (bO T lim) T e 39 [] (aa5 T) tv:=by
 refine dy (dA T lim) fun H p s hp hs=>?_
 have aj:decide ((s.i:Int)<(T.length:Int))=true:=by simp;exact hs.1
 have hg:=Cp hs.1;refine call39 (by simp) ?_;simp only[go_sem,simprocAttr,Rn,aaU];refine ao ?_;simp only[go_sem,simprocAttr,qp hp,bO,List.length_map,aj,hg,Tok.cells];exact⟨_,rfl,bt (dK (aJ T s).cells)⟩
theorem ws {s:PS} (hT:T.length<=1073741825) (hs:Ok T e s):wr .i64 ((s.i:Int)+1)=((s.i+1:Nat):Int):=bp _ (by have:=hs.1;omega)
theorem AU (x:List UInt8):PF (bO T lim) T e 36 [sV x] (r8 (aL T x)) bV:=by
 refine dy (dA T lim) fun H p s hp hs=>?_
 refine call36 (by simp) ?_;simp only[go_sem,simprocAttr,Ru,aaZ];refine U (kb.nil hp hs) ?_;have eT:aL T x s=(decide (s.c=0)&&(decide ((aJ T s).k=6)||decide ((aJ T s).k=7))&&decide ((aJ T s).t=x)):=rfl;rw[eT];simp only[go_sem,simprocAttr,qp hp,bO,Tok.cells];cases h0:decide (s.c=0)
 ·simp only[go_sem,simprocAttr,h0,Bool.false_and]
  exact⟨_,rfl,bt (bw _)⟩
 cases h6:decide ((aJ T s).k=6)
 ·cases h7:decide ((aJ T s).k=7)
  ·simp only[go_sem,simprocAttr,h0,h6,h7,Bool.or_self,Bool.and_false,Bool.false_and]
   exact⟨_,rfl,bt (bw _)⟩
  ·simp only[go_sem,simprocAttr,h0,h6,h7,Bool.false_or,Bool.and_true,Bool.true_and]
   exact⟨_,rfl,bt (bw _)⟩
 ·simp only[go_sem,simprocAttr,h0,h6,Bool.true_or,Bool.and_true,Bool.true_and]
  exact⟨_,rfl,bt (bw _)⟩
theorem r9 (c:Int):PF (bO T lim) T e 40 [iV c] (Co (dQ T c)) uV:=by
 refine dy (dA T lim) fun H p s hp hs=>?_
 refine call40 (by simp) ?_;cases h0:decide (s.c=0)
 ·simp only[go_sem,simprocAttr,MH,Ro,mj hp,bO,h0]
  rw[rb (of_decide_eq_false h0)];exact⟨[],by simp,bt (lT _ (by simp))⟩
 ·simp only[go_sem,simprocAttr,MH,Ro,mj hp,bO,h0]
  refine U (kb.nil hp hs) ?_;rw[iG (of_decide_eq_true h0)];simp only[go_sem,simprocAttr,mj hp,bO,Tok.cells,vB];exact⟨[],by simp,bt (lT _ (by simp))⟩
theorem nI (aO:T.length<=1073741825) (x:List UInt8):PF (bO T lim) T e 77 [sV x] (dm T x) bV:=by
 refine dy (dA T lim) fun H p s hp hs=>?_
 refine call77 (by simp) ?_;simp only[go_sem,simprocAttr,Rw,aa1];refine U ((AU x).nil hp hs) ?_;unfold dm;cases h:aL T x s
 ·simp only[go_sem,simprocAttr,h]
  exact⟨[],by simp,bt (bw _)⟩
 ·simp only[go_sem,simprocAttr,h,mj hp,bO,vB,ws aO hs]
  exact⟨[],by simp[aI],bt (bw _)⟩
theorem gZ (aO:T.length<=1073741825) (x:List UInt8):PF (bO T lim) T e 74 [sV x] (Co (aX T x)) uV:=by
 refine dy (dA T lim) fun H p s hp hs=>?_
 refine call74 (by simp) ?_;simp only[go_sem,simprocAttr,Ry,aa3];refine U ((nI aO x).nil hp hs) ?_;unfold dm aX;cases h:aL T x s
 ·simp only[go_sem,simprocAttr,h]
  refine U ((r9 11).nil hp hs) ?_;simp only[go_sem,simprocAttr];exact⟨[],by simp,bt (lT _ (by simp))⟩
 ·simp only[go_sem,simprocAttr,h]
  exact⟨[],by simp,bt (lT _ (by simp))⟩
theorem um (aO:T.length<=1073741825) (k:Int):PF (bO T lim) T e 75 [iV k] (cZ T k) sV:=by
 refine dy (dA T lim) fun H p s hp hs=>?_
 refine call75 (by simp) ?_;simp only[go_sem,simprocAttr,Rx,aa2];refine U (kb.nil hp hs) ?_;unfold cZ bB;simp only[go_sem,simprocAttr,qp hp,bO,Tok.cells];cases h0:decide (s.c=0)
 ·simp only[go_sem,simprocAttr,h0,Bool.false_and]
  refine U (r9 11 H _ p s hp hs) ?_;simp only[go_sem,simprocAttr];exact⟨_,rfl,bt (bw _)⟩
 cases h6:decide ((aJ T s).k=k)
 ·simp only[go_sem,simprocAttr,h0,h6,Bool.and_false]
  refine U (r9 11 H _ p s hp hs) ?_;simp only[go_sem,simprocAttr];exact⟨_,rfl,bt (bw _)⟩
 ·simp only[go_sem,simprocAttr,h0,h6,Bool.and_true,qp hp,qq hp,bO,ws aO hs]
  exact⟨_,rfl,bt (bw _)⟩
theorem vg {s s1:PS} (h:(if s.c=0/\s.nest=lim then dQ T 12 s else s)=s1):cF T lim s=if s1.c=0/\s1.d<s1.nest+1 then{s1 with nest:=s1.nest+1,d:=s1.nest+1}else{s1 with nest:=s1.nest+1}:=by subst h;rfl
theorem FI (hl:lim<=1099511627776) (he:e<=lim):∀(H A:List AO) (p:Nat) (s:PS),p<H.length->Ok T e s->aA Tryz.prog 78 [.ptr p 0] (H.set p (bO T lim s)++A) (aW (.p (.b (decide ((cF T lim s).c=0)))) (H.set p (bO T lim (cF T lim s))++A)):=by
 have key:PF (bO T lim) T e 78 [] (fun s=>(decide ((cF T lim s).c=0),cF T lim s)) bV:=by
  refine dy (dA T lim) fun H p s hp hs=>?_
  have hn:=hs.2;have en:wr .i64 ((s.nest:Int)+1)=((s.nest+1:Nat):Int):=bp _ (by omega);refine call78 (by simp) ?_;simp only[go_sem,simprocAttr,Rq,aaW];refine ao ?_;simp only[go_sem,simprocAttr,mj hp,bO];cases h0:decide (s.c=0)
  ·have yR:=of_decide_eq_false h0
   rw[xS yR];simp only[go_sem,simprocAttr,h0,mj hp,vB,en];refine ao ?_;simp only[go_sem,simprocAttr,h0,mj hp,vB];exact⟨[],by simp,bt (bw _)⟩
  ·have yR:=of_decide_eq_true h0
   by_cases hd:s.nest=lim
   ·have d1:decide ((s.nest:Int)=(lim:Int))=true:=by simp;omega
    simp only[go_sem,simprocAttr,h0,d1,mj hp];refine U ((r9 12).nil hp hs) ?_
    have e1:cF T lim s={dQ T 12 s with nest:=s.nest+1}:=by
     rw[vg (if_pos ⟨yR,hd⟩),iG yR,if_neg (fun h=>absurd h.1 (show ¬((12:Int)=0)by decide))]
    have hf:=iG (T:=T) (c:=12) yR;have e2:cF T lim s={s with c:=12,ps:=(aJ T s).p,nest:=s.nest+1}:=by rw[e1,hf]
    rw[e2];simp only[Co,hf];simp only[go_sem,simprocAttr,mj hp,bO,vB,en];refine ao ?_;simp only[go_sem,simprocAttr,mj hp,vB];exact⟨[],by simp,bt (bw _)⟩
   ·have d1:decide ((s.nest:Int)=(lim:Int))=false:=by simp;omega
    have e1:cF T lim s=if s.d<s.nest+1 then{s with nest:=s.nest+1,d:=s.nest+1}else{s with nest:=s.nest+1}:=by
     rw[vg (if_neg fun h=>hd h.2)];simp only[yR,true_and]
    rw[e1];simp only[go_sem,simprocAttr,h0,d1,mj hp,vB,en];refine ao ?_;by_cases hdd:s.d<s.nest+1
    ·have d2:decide ((s.d:Int)<((s.nest+1:Nat):Int))=true:=by simp;omega
     rw[if_pos hdd];simp only[go_sem,simprocAttr,h0,d2,mj hp,vB];exact⟨[],by simp,bt (bw _)⟩
    ·have d2:decide ((s.d:Int)<((s.nest+1:Nat):Int))=false:=by simp;omega
     rw[if_neg hdd];simp only[go_sem,simprocAttr,h0,d2,mj hp,vB];exact⟨[],by simp,bt (bw _)⟩
 exact key
theorem sb (hl:lim<=1099511627776):∀(H A:List AO) (p:Nat) (s:PS),p<H.length->s.i<T.length->0<s.nest->s.nest<=lim+1->aA Tryz.prog 80 [.ptr p 0] (H.set p (bO T lim s)++A) (aW (.dX []) (H.set p (bO T lim (shut s))++A)):=by
 intro H A p s hp hi h1 h2;have en:wr .i64 ((s.nest:Int)-1)=((s.nest-1:Nat):Int):=by rw[fk (by omega) (by omega)];omega
 refine call80 (by simp) ?_;simp only[go_sem,simprocAttr,Rt,aaY,qp hp,qq hp,bO,en];exact⟨rfl,rfl⟩
end
theorem hx {H:List AO} {p:Nat} (hp:p<H.length) (A:List AO) (c:AO):bP (H.set p .dead++A) (H.set p c++A):=fun id o h hd=>by
 rcases Nat.lt_or_ge id H.length with hi|hi
 ·rw[List.getElem?_append_left (by simpa using hi)]at h⊢
  by_cases e:p=id
  ·subst e
   simp[hp]at h;exact(hd h.symm).elim
  ·rw[List.getElem?_set_ne e]at h⊢;exact h
 ·rw[List.getElem?_append_right (by simpa using hi)]at h⊢
  simpa using h
theorem PF.chain {pv:PS->AO} {T:List Tok} {lim:Nat} {f:Nat} {xs:List AV} {α:Type} {m:PM α} {V:α->AV} (h:PF pv T lim f xs m V) {H A:List AO} {p:Nat} {s:PS} (hp:p<H.length) (hs:Ok T lim s):
  ∀A',aA Tryz.prog f (.ptr p 0::xs) ((H.set p (pv s)++A)++A') (aW (V (m s).1) ((H.set p (pv (m s).2)++A)++A')):=fun A'=>by
 have:=h H (A++A') p s hp hs;rwa[<-List.append_assoc,<-List.append_assoc]at this
theorem EA {H A:List AO} {p:Nat} {c:AO} {id:Nat} (h:H.length<=id):(H.set p c++A)[id]?=A[id-H.length]?:=by
 have:=lV H A p c (id-H.length);rwa[show H.length+(id-H.length)=id by omega]at this
theorem RQ {H A B:List AO} {p:Nat} {N:List Nat} {c d:AO} {a:AV} {sz:Nat} {rs:List (List AV)} (h:jr (H.set p c++A) a sz rs) (ha:∀id v o m,a=.gs id v o m->H.length<=id/\id-H.length∉N) (hk:∀(k:Nat) (o:AO),k∉N->A[k]?=some o->B[k]?=some o):jr (H.set p d++B) a sz rs:=by
 rcases h with h|⟨id,ver,rfl,h⟩
 ·exact .inl h
 ·obtain⟨h1,h2⟩:=ha _ _ _ _ rfl
  rw[EA h1]at h;exact .inr ⟨id,ver,rfl,by rw[EA h1];exact hk _ _ h2 h⟩
theorem Ke {K:St->Prop} {L T':En} {H A:List AO} {p:Nat} {c:AO} {d:MD} {sz bytes:Nat} {N:List Nat} {a:AV} {rs ys:List (List AV)} (h:jr (H.set p c++A) a sz rs) (hN:∀k∈N,k<A.length) (ha:∀id v o m,a=.gs id v o m->H.length<=id/\id-H.length∉N)
  (h1:(rs.length+ys.length)*bytes<=140737488355328) (h2:rs.length+ys.length<=140737488355328)
  (k:∀id ver A',(H.set p c++A')[id]?=some (.rows sz ver (rs++ys))->(H.length<=id/\id-H.length∉N)->(∀(k:Nat),k∈N->A'[k]?=A[k]?)->K (St.put ⟨L,T',H.set p c++A'⟩ d (.gs id ver 0 (rs.length+ys.length)))):
  mu sz bytes a ys d K ⟨L,T',H.set p c++A⟩:=by
 refine fq h h1 h2 ?_;intro id ver H4 k1 k2 k3 k4
 have hid:H.length<=id/\id-H.length∉N:=by
  rcases k2 with⟨v,o,n,e⟩|h
  ·exact ha _ _ _ _ e
  ·simp at h
   exact⟨by omega,fun hm=>by have:=hN _ hm;omega⟩
 obtain⟨A',rfl⟩:=iK (H:=H.set p c) (H':=H4) fun j o hj=>k3 j o (ay hj A) fun v o' n e=>by
  have:=(ha _ _ _ _ e).1;have:=bj hj;simp at this;omega
 refine k id ver A' k1 hid (fun j hj=>?_);have hjA:=hN j hj
 have:=k3 (H.length+j) A[j] (by rw[lV];simp[hjA]) fun v o' n e=>by
  have:=(ha _ _ _ _ e).2;rw[Nat.add_sub_cancel_left]at this;exact this hj
 rw[lV]at this;rw[this];simp[hjA]
inductive gz (n:Nat) (H:List AO):List AV->List AV->Prop
 |nil:gz n H [] []
 |cons {a b:AV} {l m:List AV} (h:cG n H a b) (k:gz n H l m):gz n H (a::l) (b::m)
theorem gz.pc {n:Nat} {H:List AO} {x:PV} {l m:List AV} (k:gz n H l m):gz n H (.p x::l) (.p x::m):=.cons (.p x) k
theorem gz.pure {n:Nat} {H:List AO}:∀l:List PV,gz n H (l.map .p) (l.map .p)
 |[]=>.nil
 |x::l=>.pc (gz.pure l)
theorem gz.st {n:Nat} {H:List AO} {l m:List AV} (h:gz n H l m):cG n H (.st l) (.st m):=by
  have hl:l.length=m.length∧∀(j:Nat) a b,l[j]?=some a→m[j]?=some b→cG n H a b:=by
    induction h with
    |nil=>exact⟨rfl,fun j a b h=>by simp at h⟩
    |cons h _ ih=>
     refine⟨by simp[ih.1],fun j a b ha hb=> ?_⟩
     cases j with
     |zero=>simp at ha hb;subst ha;subst hb;exact h
     |succ j=>exact ih.2 j a b (by simpa using ha) (by simpa using hb)
  exact .st _ _ hl.1 hl.2
theorem jr.vV {n sz:Nat} {H:List AO} {a:AV} {ys:List (List PV)} (h:jr H a sz (ys.map fun y=>y.map .p)) (hn:∀id v o m,a=.gs id v o m->n<=id) (hs:∀y∈ys,y.length=sz):cG n H a (.p (.l ys)):=by
 rcases h with⟨rfl,h⟩|⟨id,ver,rfl,h⟩
 ·have:ys=[]:=by simpa using h
  rw[this];exact .nl
 ·have:=dx (hn _ _ _ _ rfl) h hs
  simpa using this
abbrev zz (t:af):AV:=.st (t.cells.map .p)
theorem aa6 (t:af):t.cells.length=4:=by cases t;rfl
theorem px {n:Nat} {H:List AO} {k q:Int} {nm:List UInt8} {a:AV} {l:List af} (h:cG n H a (.p (.l (af.aV l)))):cG n H (.st [iV k,sV nm,iV q,a]) (zz (.mk k nm q l)):=
 gz.st (.pc (.pc (.pc (.cons h .nil))))
structure Lp {α:Type} (pv:PS->AO) (T:List Tok) (lim:Nat) (H:List AO) (p:Nat) (N:List Nat) (sz:Nat) (cell:α->List PV) (g:PS->Bool) (m:PM α) (Rl:List α) (Rs:PS) (j:Nat) (s:PS) (acc:List α) (a:AV) (A:List AO):Prop where
 ok:Ok T lim s
 ln:acc.length<=s.i+1
 fu:s.c=0->T.length-s.i<=j
 rl:acc++(many g m j s).1=Rl
 rs:(many g m j s).2=Rs
 own:jr (H.set p (pv s)++A) a sz (acc.map fun t=>(cell t).map .p)
 ids:∀id v o m,a=.gs id v o m->H.length<=id/\id-H.length∉N
 len:∀k∈N,k<A.length
section
variable {α:Type} {pv:PS->AO} {T:List Tok} {lim:Nat} {H:List AO} {p sz:Nat} {N:List Nat} {cell:α->List PV} {g:PS->Bool} {m:PM α} {Rl:List α} {Rs:PS} {j:Nat} {s:PS} {acc:List α} {a:AV} {A:List AO}
theorem Lp.start (hs:Ok T lim s) (h:many g m T.length s=(Rl,Rs)) (hb:∀k∈N,k<A.length):Lp pv T lim H p N sz cell g m Rl Rs T.length s [] (.p .nl) A:=
 ⟨hs,Nat.zero_le _,fun _=>by omega,by rw[h];rfl,by rw[h],.inl ⟨rfl,rfl⟩,(fun _ _ _ _ e=>by cases e),hb⟩
theorem Lp.nd {x:α} {i ver:Nat} (hs:Ok T lim s) (h:many g m T.length s=(Rl,Rs)) (hb:∀k∈N,k<A.length) (hi:A[i]?=some (.rows sz ver [(cell x).map .p])) (hN:i∉N):Lp pv T lim H p N sz cell g m (x::Rl) Rs T.length s [x] (.gs (H.length+i) ver 0 1) A:=
 ⟨hs,by simp,fun _=>by omega,by rw[h];rfl,by rw[h],.inr ⟨_,_,rfl,by rw[lV];exact hi⟩,(fun _ _ _ _ e=>by cases e;exact⟨by omega,by rwa[Nat.add_sub_cancel_left]⟩),hb⟩
theorem Lp.stop (h:Lp pv T lim H p N sz cell g m Rl Rs j s acc a A) (hg:g s=false):acc=Rl/\s=Rs:=by
 have h1:=h.rl;have h2:=h.rs;rw[kD hg]at h1 h2;exact⟨by simpa using h1,h2⟩
theorem Lp.succ (h:Lp pv T lim H p N sz cell g m Rl Rs j s acc a A) (ho:eN T g) (hg:g s=true):∃j',j=j'+1:=⟨j-1,by have:=h.fu (ho s hg).1;have:=h.ok.1;omega⟩
theorem Lp.next (h:Lp pv T lim H p N sz cell g m Rl Rs (j+1) s acc a A) (ho:eN T g) (hg:g s=true) {x:α} {s2:PS} (hm:m s=(x,s2)) (bD:Ok T lim s2) (cJ:s.i<s2.i) {id ver:Nat} {A' A'':List AO}
  (k1:(H.set p (pv s2)++A')[id]?=some (.rows sz ver (acc.map (fun t=>(cell t).map .p)++[(cell x).map .p]))) (k2:H.length<=id/\id-H.length∉N) (k3:∀(k:Nat) (o:AO),k∉N->A'[k]?=some o->A''[k]?=some o) (k4:∀k∈N,k<A''.length):
  Lp pv T lim H p N sz cell g m Rl Rs j s2 (acc++[x]) (.gs id ver 0 (acc.length+1)) A'':=by
 have h1:=h.rl;have h2:=h.rs;rw[many,if_pos hg,hm]at h1 h2;have FJ:=h.ln;have hi:=h.ok.1;refine⟨bD,by simp;omega,fun hc=>?_,by simpa using h1,h2,.inr ⟨id,ver,by simp,?_⟩,(fun jm v o m' e=>by cases e;exact k2),k4⟩
 ·have:=h.fu (ho s hg).1;omega
 ·rw[EA k2.1]at k1⊢
  rw[List.map_append];exact k3 _ _ k2.2 k1
theorem Lp.vV (h:Lp pv T lim H p N sz cell g m Rl Rs j s acc a A) {c:AO} {B:List AO} (hk:∀(k:Nat) (o:AO),k∉N->A[k]?=some o->B[k]?=some o) (hs:∀t,(cell t).length=sz):cG H.length (H.set p c++B) a (.p (.l (acc.map cell))):=by
 refine jr.vV (ys:=acc.map cell) (sz:=sz) ?_ (fun id v o m e=>(h.ids _ _ _ _ e).1) (by intro y hy;obtain⟨t,_,rfl⟩:=List.mem_map.1 hy;exact hs t);rw[List.map_map];exact RQ h.own h.ids hk
theorem Lp.app {K:St->Prop} {L T':En} {d:MD} {bytes:Nat} {c:AO} {B:List AO} {y:List AV} (h:Lp pv T lim H p N sz cell g m Rl Rs j s acc a A) (hB:∀(k:Nat) (o:AO),A[k]?=some o->B[k]?=some o) (aO:T.length<=1073741825) (RR:bytes<=1000)
  (k:∀id ver A',(H.set p c++A')[id]?=some (.rows sz ver (acc.map (fun t=>(cell t).map .p)++[y]))->(H.length<=id/\id-H.length∉N)->(∀k:Nat,k∈N->A'[k]?=A[k]?)->K (St.put ⟨L,T',H.set p c++A'⟩ d (.gs id ver 0 (acc.length+1)))):
  mu sz bytes a [y] d K ⟨L,T',H.set p c++B⟩:=by
 have FJ:=h.ln;have hi:=h.ok.1
 have RS:∀k∈N,k<B.length:=fun k hk=>by
  have RT:=h.len k hk;exact bj (hB k A[k] (by simp[RT]))
 have hl:(acc.map fun t=>(cell t).map AV.p).length=acc.length:=by simp
 refine Ke (rs:=acc.map fun t=>(cell t).map .p) (ys:=[y]) (RQ h.own h.ids fun k o _ hk=>hB k o hk) RS h.ids (by rw[hl];simp;exact Nat.le_trans (Nat.mul_le_mul (show acc.length+1<=1073741827 by omega) RR) (by decide)) (by rw[hl];simp;omega) ?_;intro id ver A' k1 k2 k3;rw[hl];refine k id ver A' k1 k2 (fun j hj=>?_);rw[k3 j hj];have me:=h.len j hj;rw[hB j A[j] (by simp[me])];simp[me]
end
theorem zA (H A B:List AO) (p:Nat) (c:AO) (k:Nat):(H.set p c++(A++B))[H.length+A.length+k]?=B[k]?:=by
 rw[show H.length+A.length+k=H.length+(A.length+k)by omega,lV,fU]
theorem dO {A:List AO} {N:List Nat} {i:Nat} (hi:i∈N) {o:AO}:∀(k:Nat) (o':AO),k∉N->A[k]?=some o'->(A.set i o)[k]?=some o':=fun k o' hk h=>by rw[List.getElem?_set_ne (by rintro rfl;exact hk hi)];exact h
section
variable {T:List Tok} {lim e:Nat} (hT:bL T) (aO:T.length<=1073741825)
include hT aO
theorem RU:PF (bO T lim) T e 223 [] (r8 (iT T)) bV:=by
 refine dy (dA T lim) fun H p s hp hs=>?_
 refine call223 (by simp) ?_;simp only[go_sem,simprocAttr,Kc,RO];refine U (kb.nil hp hs) ?_;unfold iT bB;simp only[go_sem,simprocAttr,mj hp,bO,Tok.cells];cases h0:decide (s.c=0)
 ·have hi:aL T [40] s=false:=pd (of_decide_eq_false h0)
  simp only[go_sem,simprocAttr,h0,hi,Bool.false_and,Bool.or_self];exact⟨[],by simp,bt (bw _)⟩
 cases h5:decide ((aJ T s).k=5)
 ·cases h3:decide ((aJ T s).k=3)
  ·simp only[go_sem,simprocAttr,h0,h5,h3]
   refine U ((AU [40]).nil hp hs) ?_;simp only[go_sem,simprocAttr,Bool.true_and,Bool.false_or];exact⟨[],by simp[bO],bt (bw _)⟩
  ·simp only[go_sem,simprocAttr,h0,h5,h3,Bool.true_and,Bool.or_true,Bool.true_or]
   exact⟨[],by simp,bt (bw _)⟩
 ·simp only[go_sem,simprocAttr,h0,h5,Bool.true_and,Bool.true_or]
  exact⟨[],by simp,bt (bw _)⟩
theorem XC {ty:PM af} (e8:PF (bO T lim) T e 134 [] ty zz) (kX:ab T ty):PF (bO T lim) T e 222 [] (ee T ty) zz:=by
 refine dy (dA T lim) fun H p s hp hs=>?_
 refine call222 (by simp) ?_;simp only[go_sem,simprocAttr,FH,Kb];refine U (kb H _ p s hp hs) ?_;by_cases h0:s.c=0
 ·by_cases Cr:(aJ T s).k=5
  ·have h5:bB T 5 s=true:=by simp[bB,h0,Cr]
   simp only[go_sem,simprocAttr,qp hp,qq hp,bO,Tok.cells,dT h0,dT Cr,ws aO hs];have iL:ee T ty s=(.mk 2 (aJ T s).t (aJ T s).p [],aI s):=by unfold ee;rw[bN,aS h5];rfl
   rw[iL];exact⟨_,rfl,px (by rw[af.aV];exact .nl)⟩
  have h5:bB T 5 s=false:=by simp[bB,Cr]
  by_cases sd:(aJ T s).k=3
  ·have h3:bB T 3 s=true:=by simp[bB,h0,sd]
   simp only[go_sem,simprocAttr,qp hp,qq hp,bO,Tok.cells,dT h0,dF Cr,dT sd,ws aO hs];have iL:ee T ty s=(.mk 1 (aJ T s).t (aJ T s).p [],aI s):=by unfold ee;rw[bN,aZ h5,aS h3];rfl
   rw[iL];exact⟨_,rfl,px (by rw[af.aV];exact .nl)⟩
  have h3:bB T 3 s=false:=by simp[bB,sd]
  have e0:∀r,ty (aX T [40] s)=r->ee T ty s=(r.1,aX T [41] r.2):=fun r hr=>by
   unfold ee;rw[bN,aZ h5,aZ h3,da,aP,hr];rfl
  simp only[go_sem,simprocAttr,qp hp,qq hp,bO,Tok.cells,dT h0,dF Cr,dF sd];refine U (gZ aO [40] H _ p s hp hs) ?_;have bG:=hs.step (aK hT [40]);simp only[go_sem,simprocAttr];refine U (e8 H _ p _ hp bG) ?_;have bD:=bG.run kX;rcases hr:ty (aX T [40] s)with⟨⟨k,n,q,ks⟩,s2⟩
  rw[hr]at bD;rw[e0 _ hr];simp only[go_sem,simprocAttr,af.cells];refine U (gZ aO [41] H _ p s2 hp bD) ?_;simp only[go_sem,simprocAttr];exact⟨_,rfl,bt (dK (af.cells (.mk k n q ks)))⟩
 ·have h5:bB T 5 s=false:=wC h0
  have h3:bB T 3 s=false:=wC h0
  have e0:∀r,ty (aX T [40] s)=r->ee T ty s=(r.1,aX T [41] r.2):=fun r hr=>by
   unfold ee;rw[bN,aZ h5,aZ h3,da,aP,hr];rfl
  simp only[go_sem,simprocAttr,qp hp,qq hp,bO,Tok.cells,dF h0];refine U (gZ aO [40] H _ p s hp hs) ?_;have bG:=hs.step (aK hT [40]);simp only[go_sem,simprocAttr];refine U (e8 H _ p _ hp bG) ?_;have bD:=bG.run kX;rcases hr:ty (aX T [40] s)with⟨⟨k,n,q,ks⟩,s2⟩
  rw[hr]at bD;rw[e0 _ hr];simp only[go_sem,simprocAttr,af.cells];refine U (gZ aO [41] H _ p s2 hp bD) ?_;simp only[go_sem,simprocAttr];exact⟨_,rfl,bt (dK (af.cells (.mk k n q ks)))⟩
theorem HL {ty:PM af} (kX:ab T ty) {s:PS} (hi:s.i<T.length) (hg:iT T s=true):s.i<(ee T ty s).2.i:=by
 unfold ee;rw[bN]
 cases h5:bB T 5 s with
 |true=>rw[aS h5];simp[aT,aI]
 |false =>
 rw[aZ h5]
 cases h3:bB T 3 s with
 |true=>rw[aS h3];simp[aT,aI]
 |false =>
 rw[aZ h3,da];have hb:aL T [40] s=true:=by simpa[iT,h5,h3]using hg
 have iL:aX T [40] s=aI s:=by unfold aX;rw[if_pos hb]
 have ha:=rV hT hi (cH hb).2;rw[iL];have:=(ab.bind kX fun o=>ab.step (aK hT [41]) (ab.ret o)) (aI s) (by simpa[aI]using ha);have h1:=this.1;simp only[aI]at h1⊢;omega
theorem RV {ty:PM af} {s:PS} (h0:s.c=0) (hs:Ok T e s) (sd:(aJ T s).k=3):∀(H A:List AO) (p:Nat),p<H.length->aA Tryz.prog 222 [.ptr p 0] (H.set p (bO T lim s)++A) (aW (.st [iV 1,sV (aJ T s).t,iV (aJ T s).p,.p .nl]) (H.set p (bO T lim (aI s))++A)):=by
 refine RP (dA T lim _) fun H p hp=>?_
 have Cr:¬(aJ T s).k=5:=by omega
 refine call222 (by simp) ?_;simp only[go_sem,simprocAttr,FH,Kb];refine U (kb H _ p s hp hs) ?_;simp only[go_sem,simprocAttr,qp hp,qq hp,bO,Tok.cells,dT h0,dF Cr,dT sd,ws aO hs];exact⟨_,rfl,.tf _ (Ji _ (by intro q hq;simp only[List.mem_cons,List.not_mem_nil,or_false]at hq;rcases hq with rfl|rfl|rfl|rfl<;>exact bw _))⟩
theorem N1 {ty:PM af} (e8:PF (bO T lim) T e 134 [] ty zz) (kX:ab T ty):PF (bO T lim) T e 199 [] (ik T T.length ty) zz:=by
 have hA:=XC hT aO e8 kX;have sA:=jh hT kX;refine dy (dA T lim) fun H p s hp hs=>?_
 refine call199 (by simp) ?_;simp only[go_sem,simprocAttr,Ka,RN];refine U (kb H _ p s hp hs) ?_;simp only[go_sem,simprocAttr,Tok.cells];refine U (nI aO [114,101,102] H _ p s hp hs) ?_;unfold dm;cases hr:aL T [114,101,102] s
 ·simp only[go_sem,simprocAttr,hr]
  by_cases hk:s.c=0/\(aJ T s).k=3
  ·obtain⟨h0,sd⟩:=hk
   have bG:=hs.aI hT (show(aJ T s).k≠8 by omega);have h5:bB T 5 s=false:=by simp[bB,sd]
   have h3:bB T 3 s=true:=by simp[bB,h0,sd]
   have e1:ee T ty s=(.mk 1 (aJ T s).t (aJ T s).p [],aI s):=by unfold ee;rw[bN,aZ h5,aS h3];rfl
   have iL:ik T T.length ty s=(.mk 1 (aJ T s).t (aJ T s).p (many (iT T) (ee T ty) T.length (aI s)).1,(many (iT T) (ee T ty) T.length (aI s)).2):=by
    unfold ik;rw[bN,aZ hr,aP,e1];simp only[if_pos sd];rfl
   rw[iL];refine U (RV hT aO (ty:=ty) h0 hs sd H _ p hp) ?_;simp only[go_sem,simprocAttr,dT sd];generalize hR:many (iT T) (ee T ty) T.length (aI s)=R;generalize (aJ T s).t=tt at *;generalize (aJ T s).p=tp at *;obtain⟨Rl,Rs⟩:=R
   refine⟨Nat×PS×List af×AV×List AO,[0,2,4],fun x st=>(Lp (bO T lim) T e H p [0,2] 4 af.cells (iT T) (ee T ty) Rl Rs x.1 x.2.1 x.2.2.1 x.2.2.2.1 x.2.2.2.2/\x.2.2.2.2[0]?=some (.var [iV 0,sV [],iV 0,.p .nl])/\x.2.2.2.2[2]?=some (.var [iV 1,sV tt,iV tp,x.2.2.2.1]))/\
     st=⟨[(0,.ptr p 0),(2,.ptr H.length 0),(4,.ptr (H.length+2) 0)],[],H.set p (bO T lim x.2.1)++x.2.2.2.2⟩,fun x=>T.length-x.2.1.i,⟨(T.length,aI s,[],.p .nl,[.var [iV 0,sV [],iV 0,.p .nl],.var [iV (aJ T s).k,sV tt,iV (aJ T s).n,iV tp],.var [iV 1,sV tt,iV tp,.p .nl]]),?_⟩,?_⟩
   ·simp only[go_sem,simprocAttr]
    exact Lp.start bG hR (by simp)
   ·rintro⟨j,s',acc,a,A⟩ _ ⟨⟨hL,i8,i9⟩,rfl⟩
    simp only at hL i8 i9⊢;simp only[go_sem,simprocAttr];refine U (RU hT aO H _ p s' hp hL.ok) ?_;cases hg:iT T s'
    ·obtain⟨rfl,rfl⟩:=hL.stop hg
     have hz:∀o,(A.set 0 o)[0]?=some o:=fun o=>bg i8
     simp only[go_sem,simprocAttr,hg,i9,i8,hz];exact⟨_,rfl,px (by rw[af.aw];exact hL.vV (dO (by decide)) aa6)⟩
    ·obtain⟨j,rfl⟩:=hL.succ only_tySt hg
     have cJ:=HL hT aO kX hL.ok.1 hg;have bD:=hL.ok.run sA;simp only[go_sem,simprocAttr,hg];refine⟨_,hx hp _ _,?_⟩;simp only[go_sem,simprocAttr,i9];refine aR _ _ (by simp) (hx hp _ _) (hA.chain hp hL.ok) ?_;rcases hq:ee T ty s' with⟨⟨k,n,q,ks⟩,s2⟩
     rw[hq]at cJ bD;simp only[go_sem,simprocAttr,af.cells,zA];refine⟨by intro r hr;simp at hr;subst hr;rfl,?_⟩;refine hL.app (fun k o h=>ay h _) aO (by decide) ?_;intro id ver A' k1 k2 k3;have j0:=(k3 0 (by decide)).trans i8;have j2:=(k3 2 (by decide)).trans i9;have gD:=bj j2;have hz:∀o,(A'.set 2 o)[2]?=some o:=fun o=>bg j2
     simp only[go_sem,simprocAttr,j2];exact⟨(j,s2,acc++[.mk k n q ks],.gs id ver 0 (acc.length+1),A'.set 2 (.var [iV 1,sV tt,iV tp,.gs id ver 0 (acc.length+1)])),⟨⟨hL.next only_tySt hg hq bD cJ k1 k2 (dO (by decide)) (by simp;omega),aU j0 (by decide),hz _⟩,rfl⟩,by have h1:s'.i<s2.i:=cJ;have:=hL.ok.1;simp only;omega⟩
  ·refine U (hA H _ p s hp hs) ?_
   have bG:=hs.run sA;have ba:=(sA s hs.1).2.2.1;rcases hq:ee T ty s with⟨⟨k,n,q,ks⟩,s1⟩
   rw[hq]at bG ba;by_cases sd:(aJ T s).k=3
   ·have hc:s.c≠0:=fun h=>hk ⟨h,sd⟩
    obtain rfl:s1=s:=ba hc;have hg:iT T s1=false:=by unfold iT;rw[wC hc,wC hc,pd hc];rfl
    have iL:ik T T.length ty s1=(.mk k n q ks,s1):=by
     unfold ik;rw[bN,aZ hr,aP,hq];simp only[if_pos sd];rw[aP,kD hg];simp[aT,af.put]
    rw[iL];simp only[go_sem,simprocAttr,af.cells,dT sd];refine⟨Unit,[0,2,4],fun _ st=>st=⟨[(0,.ptr p 0),(2,.ptr H.length 0),(4,.ptr (H.length+2) 0)],[],H.set p (bO T lim s1)++[.var [iV 0,sV [],iV 0,.p .nl],.var [iV (aJ T s1).k,sV (aJ T s1).t,iV (aJ T s1).n,iV (aJ T s1).p],.var [iV k,sV n,iV q,.p (.l (af.aV ks))]]⟩,fun _=>0,⟨(),?_⟩,?_⟩
    ·simp only[go_sem,simprocAttr,sd]
    ·rintro _ _ rfl
     simp only[go_sem,simprocAttr];refine U (RU hT aO H _ p s1 hp bG) ?_;simp only[go_sem,simprocAttr,hg];exact⟨_,rfl,bt (dK (af.cells (.mk k n q ks)))⟩
   ·have iL:ik T T.length ty s=(.mk k n q ks,s1):=by
     unfold ik;rw[bN,aZ hr,aP,hq];simp only[if_neg sd];rfl
    rw[iL];simp only[go_sem,simprocAttr,af.cells,dF sd];exact⟨_,rfl,bt (dK (af.cells (.mk k n q ks)))⟩
 ·simp only[go_sem,simprocAttr,hr]
  have ht:=cH hr;have bG:=hs.aI hT ht.2;refine⟨_,hx hp _ _,?_⟩;simp only[go_sem,simprocAttr];refine aR _ _ (by simp) (hx hp _ _) (hA.chain hp bG) ?_;rcases hq:ee T ty (aI s)with⟨⟨k,n,q,ks⟩,s1⟩
  have iL:ik T T.length ty s=(.mk 5 [] (aJ T s).p [.mk k n q ks],s1):=by
   unfold ik;rw[bN,aS hr,aP,hq];rfl
  rw[iL];simp only[go_sem,simprocAttr,af.cells];exact⟨_,rfl,px (dx (n:=H.length) (ys:=[af.cells (.mk k n q ks)]) (by omega) (by rw[Nat.add_zero,lV];rfl) (by intro y hy;simp at hy;subst hy;rfl))⟩
theorem N2 {ty:PM af} (kX:ab T ty) {s:PS} (hi:s.i<T.length) (hg:aL T [42] s=true):s.i<(bT (ik T T.length ty) s).2.i:=
 (gU.aI hT (lC hT kX) hi (cH hg).2).1
theorem adn {ty:PM af} (e8:PF (bO T lim) T e 134 [] ty zz) (kX:ab T ty):PF (bO T lim) T e 175 [] (vR T T.length ty) zz:=by
 have hA:=N1 hT aO e8 kX;have sA:=lC (N:=T.length) hT kX;refine dy (dA T lim) fun H p s hp hs=>?_
 refine call175 (by simp) ?_;simp only[go_sem,simprocAttr,J8,RL];refine U (hA H _ p s hp hs) ?_;have bG:=hs.run sA;rcases hq:ik T T.length ty s with⟨⟨k,n,q,ks⟩,s1⟩
 rw[hq]at bG;simp only[go_sem,simprocAttr,af.cells];refine U (AU [42] H _ p s1 hp bG) ?_;cases wQ:aL T [42] s1
 ·have iL:vR T T.length ty s=(.mk k n q ks,s1):=by unfold vR;rw[aP,hq,ji wQ];rfl
  rw[iL];simp only[go_sem,simprocAttr,wQ];exact⟨_,rfl,bt (dK (af.cells (.mk k n q ks)))⟩
 ·rcases hR:many (aL T [42]) (bT (ik T T.length ty)) T.length s1 with⟨Rl,Rs⟩
  have iL:vR T T.length ty s=(.mk 4 [] q (.mk k n q ks::Rl),Rs):=by unfold vR;rw[aP,hq,fv wQ,aP,hR];rfl
  rw[iL];simp only[go_sem,simprocAttr,wQ]
  refine⟨Nat×PS×List af×AV×List AO,[0,2,4],fun x st=>(Lp (bO T lim) T e H p [0,3] 4 af.cells (aL T [42]) (bT (ik T T.length ty)) (.mk k n q ks::Rl) Rs x.1 x.2.1 x.2.2.1 x.2.2.2.1 x.2.2.2.2/\x.2.2.2.2[0]?=some (.var [iV 0,sV [],iV 0,.p .nl])/\x.2.2.2.2[3]?=some (.var [iV 4,sV [],iV q,x.2.2.2.1]))/\
    st=⟨[(0,.ptr p 0),(2,.ptr H.length 0),(4,.ptr (H.length+3) 0)],[],H.set p (bO T lim x.2.1)++x.2.2.2.2⟩,fun x=>T.length-x.2.1.i,⟨(T.length,s1,[.mk k n q ks],.gs (H.length+2) 0 0 1,[.var [iV 0,sV [],iV 0,.p .nl],.var [iV k,sV n,iV q,.p (.l (af.aV ks))],.rows 4 0 [[iV k,sV n,iV q,.p (.l (af.aV ks))]],.var [iV 4,sV [],iV q,.gs (H.length+2) 0 0 1]]),?_⟩,?_⟩
  ·simp only[go_sem,simprocAttr,Nat.add_zero]
   exact Lp.nd bG hR (by simp) rfl (by decide)
  ·rintro⟨j,s',acc,a,A⟩ _ ⟨⟨hL,i8,i9⟩,rfl⟩
   simp only at hL i8 i9⊢;simp only[go_sem,simprocAttr];refine U (nI aO [42] H _ p s' hp hL.ok) ?_;unfold dm;cases hg:aL T [42] s'
   ·obtain⟨rfl,rfl⟩:=hL.stop hg
    have hz:∀o,(A.set 0 o)[0]?=some o:=fun o=>bg i8
    simp only[go_sem,simprocAttr,hg,i9,i8,hz];exact⟨_,rfl,px (by rw[af.aw];exact hL.vV (dO (by decide)) aa6)⟩
   ·obtain⟨j,rfl⟩:=hL.succ (aB T _) hg
    have cJ:=N2 hT aO kX hL.ok.1 hg;have dJ:=hL.ok.aI hT (cH hg).2;have bD:=dJ.run sA;simp only[go_sem,simprocAttr,hg];refine⟨_,hx hp _ _,?_⟩;simp only[go_sem,simprocAttr,i9];refine aR _ _ (by simp) (hx hp _ _) (hA.chain hp dJ) ?_;have hqq:bT (ik T T.length ty) s'=ik T T.length ty (aI s'):=rfl;rcases hq:ik T T.length ty (aI s')with⟨⟨k,n,q,ks⟩,s2⟩
    rw[hqq,hq]at cJ;rw[hq]at bD;simp only[go_sem,simprocAttr,af.cells,zA];refine⟨by intro r hr;simp at hr;subst hr;rfl,?_⟩;refine hL.app (fun k o h=>ay h _) aO (by decide) ?_;intro id ver A' k1 k2 k3;have j0:=(k3 0 (by decide)).trans i8;have j2:=(k3 3 (by decide)).trans i9;have gD:=bj j2;have hz:∀o,(A'.set 3 o)[3]?=some o:=fun o=>bg j2
    simp only[go_sem,simprocAttr,j2];refine⟨(j,s2,acc++[.mk k n q ks],.gs id ver 0 (acc.length+1),A'.set 3 (.var [iV 4,sV [],_,.gs id ver 0 (acc.length+1)])),⟨⟨hL.next (aB T _) hg (hqq.trans hq) bD cJ k1 k2 (dO (by decide)) (by simp;omega),aU j0 (by decide),hz _⟩,rfl⟩,by have h1:s'.i<s2.i:=cJ;have:=hL.ok.1;simp only;omega⟩
theorem zB {s:PS} (hs:Ok T e s):(cF T lim s).i=s.i/\(cF T lim s).nest=s.nest+1/\((cF T lim s).c=0->Ok T (e+1) (cF T lim s)/\e≠lim):=by
 have h1:=hs.1;have h2:=hs.2;by_cases h0:s.c=0
 ·by_cases hn:s.nest=lim
  ·have iL:cF T lim s={dQ T 12 s with nest:=s.nest+1}:=by
    rw[vg (if_pos ⟨h0,hn⟩),iG h0,if_neg (fun h=>absurd h.1 (show ¬((12:Int)=0)by decide))]
   rw[iL,iG h0];exact⟨rfl,rfl,fun h=>absurd h (show ¬((12:Int)=0)by decide)⟩
  ·rw[vg (if_neg fun h=>hn h.2)]
   split
   ·exact⟨rfl,rfl,fun _=>⟨⟨h1,by simp only;omega⟩,by omega⟩⟩
   ·exact⟨rfl,rfl,fun _=>⟨⟨h1,by simp only;omega⟩,by omega⟩⟩
 ·rw[xS h0]
  exact⟨rfl,rfl,fun h=>absurd h h0⟩
theorem agv (hl:lim<=1099511627776) (he:e<=lim) {ty:PM af} (e8:e<lim->PF (bO T lim) T (e+1) 134 [] ty zz) (kX:ab T ty):PF (bO T lim) T e 134 [] (Hp T T.length lim ty) zz:=by
 have sA:=Cf (N:=T.length) hT kX;refine dy (dA T lim) fun H p s hp hs=>?_
 obtain⟨o1,o2,o3⟩:=zB (lim:=lim) hT aO hs;have hi:=hs.1;have hn:=hs.2;refine call134 (by simp) ?_;simp only[go_sem,simprocAttr,J0,RE];refine U (FI hl he H _ p s hp hs) ?_;unfold Hp p5;cases hc:decide ((cF T lim s).c=0)
 ·rw[if_neg (of_decide_eq_false hc)]
  simp only[go_sem,simprocAttr,hc];refine U (sb hl H _ p (cF T lim s) hp (by omega) (by omega) (by omega)) ?_;simp only[go_sem,simprocAttr];exact⟨_,rfl,px (by rw[af.aV];exact .nl)⟩
 ·obtain⟨bG,cX⟩:=o3 (of_decide_eq_true hc)
  have e8:=e8 (by omega);have hA:=adn hT aO e8 kX;rw[if_pos (of_decide_eq_true hc)];simp only[go_sem,simprocAttr,hc];refine U (hA H _ p _ hp bG) ?_;have bD:=bG.run sA;have wo:=sA _ bG.1;rcases hq:vR T T.length ty (cF T lim s)with⟨⟨k,n,q,ks⟩,s2⟩
  rw[hq]at bD wo;have e1:∀K:af->PM af,aH (vR T T.length ty) K (cF T lim s)=K (.mk k n q ks) s2:=fun K=>by rw[aP,hq]
  rw[e1];simp only[go_sem,simprocAttr,af.cells];refine U (nI aO [45,62] H _ p s2 hp bD) ?_;unfold dm;cases hg:aL T [45,62] s2
  ·rw[aZ hg]
   have bh:s2.nest=s.nest+1:=wo.2.2.2.trans o2;simp only[go_sem,simprocAttr,hg];refine U (sb hl H _ p s2 hp bD.1 (by omega) (by omega)) ?_;simp only[go_sem,simprocAttr];exact⟨_,rfl,bt (dK (af.cells (.mk k n q ks)))⟩
  ·rw[aS hg]
   have dJ:=bD.aI hT (cH hg).2;have eL:=dJ.run kX;have RW:=kX _ dJ.1;simp only[go_sem,simprocAttr,hg];refine⟨_,hx hp _ _,?_⟩;simp only[go_sem,simprocAttr];refine aR _ _ (by simp) (hx hp _ _) (e8.chain hp dJ) ?_;rcases ez:ty (aI s2)with⟨⟨k',n',q',kY⟩,s3⟩
   rw[ez]at eL RW;have e2:∀K:af->PM af,aH ty K (aI s2)=K (.mk k' n' q' kY) s3:=fun K=>by rw[aP,ez]
   rw[e2];have hn3:s3.nest=s.nest+1:=RW.2.2.2.trans (wo.2.2.2.trans o2);simp only[go_sem,simprocAttr,af.cells];refine U (sb hl H _ p s3 hp eL.1 (by omega) (by omega)) ?_;simp only[go_sem,simprocAttr,Nat.add_zero];exact⟨_,rfl,px (dx (n:=H.length) (ys:=[af.cells (.mk k n q ks),af.cells (.mk k' n' q' kY)]) (by omega) (by rw[lV];rfl) (by intro y hy;simp at hy;rcases hy with rfl|rfl<;>rfl))⟩
theorem aa7 (hl:lim<=1099511627776):∀k e,e+k=lim+1->0<k->PF (bO T lim) T e 134 [] (NO T T.length lim k) zz
 |0,e,_,h=>absurd h (by omega)
 |k+1,e,h,_=>agv hT aO hl (by omega) (fun aj=>aa7 hl k (e+1) (by omega) (by omega)) (zo hT lim k)
end
abbrev x9 (t:ae):AV:=.st (t.cells.map .p)
abbrev jM (t:aa):AV:=.st (t.cells.map .p)
theorem RY (t:ae):t.cells.length=5:=by cases t;rfl
theorem FK (t:aa):t.cells.length=7:=by cases t;rfl
theorem iM {n:Nat} {H:List AO} {k u q:Int} {nm:List UInt8} {a:AV} {l:List ae} (h:cG n H a (.p (.l (ae.aV l)))):cG n H (.st [iV k,sV nm,iV u,iV q,a]) (x9 (.mk k nm u q l)):=
 gz.st (.pc (.pc (.pc (.pc (.cons h .nil)))))
theorem cQ {n:Nat} {H:List AO} {k u q:Int} {nm tx:List UInt8} {a b:AV} {l:List aa} {m:List al} (h:cG n H a (.p (.l (aa.aV l)))) (h2:cG n H b (.p (.l (aa.bR m)))):cG n H (.st [iV k,sV nm,iV u,sV tx,iV q,a,b]) (jM (.mk k nm u tx q l m)):=
 gz.st (.pc (.pc (.pc (.pc (.pc (.cons h (.cons h2 .nil)))))))
section
variable {T:List Tok} {lim e:Nat} (hT:bL T) (aO:T.length<=1073741825)
include hT aO
theorem MJ:PF (bO T lim) T e 201 [] (r8 (eg T)) bV:=by
 refine dy (dA T lim) fun H p s hp hs=>?_
 refine call201 (by simp) ?_;simp only[go_sem,simprocAttr,J3,RG];refine U (kb.nil hp hs) ?_;unfold eg;simp only[go_sem,simprocAttr,mj hp,bO,Tok.cells];cases h0:decide (s.c=0)
 ·have hc:=of_decide_eq_false h0
  simp only[wC hc,pd hc,Bool.or_self];simp only[go_sem,simprocAttr,h0];exact⟨[],by simp[bO],bt (bw _)⟩
 have hc:=of_decide_eq_true h0;cases k3:decide ((aJ T s).k=3);rotate_left
 ·have e3:bB T 3 s=true:=by unfold bB;rw[h0,k3];rfl
  simp only[e3,Bool.or_true,Bool.true_or,Bool.false_or];simp only[go_sem,simprocAttr,h0,k3];exact⟨[],by simp[bO],bt (bw _)⟩
 have e3:bB T 3 s=false:=by unfold bB;rw[h0,k3];rfl
 cases k1:decide ((aJ T s).k=1);rotate_left
 ·have e1:bB T 1 s=true:=by unfold bB;rw[h0,k1];rfl
  simp only[e1,e3,Bool.or_true,Bool.true_or,Bool.false_or];simp only[go_sem,simprocAttr,h0,k3,k1];exact⟨[],by simp[bO],bt (bw _)⟩
 have e1:bB T 1 s=false:=by unfold bB;rw[h0,k1];rfl
 cases k4:decide ((aJ T s).k=4);rotate_left
 ·have e4:bB T 4 s=true:=by unfold bB;rw[h0,k4];rfl
  simp only[e4,e3,e1,Bool.or_true,Bool.true_or,Bool.false_or];simp only[go_sem,simprocAttr,h0,k3,k1,k4];exact⟨[],by simp[bO],bt (bw _)⟩
 have e4:bB T 4 s=false:=by unfold bB;rw[h0,k4];rfl
 simp only[e3,e1,e4,Bool.false_or];simp only[go_sem,simprocAttr,h0,k3,k1,k4];refine U ((AU [95]).nil hp hs) ?_;cases w0:aL T [95] s;rotate_left
 ·simp only[go_sem,simprocAttr,w0,Bool.true_or,Bool.or_true,Bool.false_or]
  exact⟨[],by simp[bO],bt (bw _)⟩
 simp only[go_sem,simprocAttr,w0,Bool.false_or];refine U ((AU [116,114,117,101]).nil hp hs) ?_;cases w1:aL T [116,114,117,101] s;rotate_left
 ·simp only[go_sem,simprocAttr,w1,Bool.true_or,Bool.or_true,Bool.false_or]
  exact⟨[],by simp[bO],bt (bw _)⟩
 simp only[go_sem,simprocAttr,w1,Bool.false_or];refine U ((AU [102,97,108,115,101]).nil hp hs) ?_;cases w2:aL T [102,97,108,115,101] s;rotate_left
 ·simp only[go_sem,simprocAttr,w2,Bool.true_or,Bool.or_true,Bool.false_or]
  exact⟨[],by simp[bO],bt (bw _)⟩
 simp only[go_sem,simprocAttr,w2,Bool.false_or];refine U ((AU [40]).nil hp hs) ?_;simp only[go_sem,simprocAttr,Bool.false_or];exact⟨[],by simp[bO],bt (bw _)⟩
theorem XD {pat:PM ae} (hr:PF (bO T lim) T e 176 [] pat x9) (sr:ab T pat):PF (bO T lim) T e 200 [] (kP T T.length pat) x9:=by
 refine dy (dA T lim) fun H p s hp hs=>?_
 refine call200 (by simp) ?_;simp only[go_sem,simprocAttr,J2,RF];refine U (kb H _ p s hp hs) ?_;simp only[go_sem,simprocAttr,Tok.cells];refine U (MJ hT aO H _ p s hp hs) ?_;cases hg:eg T s
 ·have iL:kP T T.length pat s=(Er,dQ T 11 s):=by unfold kP;rw[bN,aZ hg];rfl
  rw[iL];simp only[go_sem,simprocAttr,hg];refine U (r9 11 H _ p s hp hs) ?_;simp only[go_sem,simprocAttr];exact⟨_,rfl,iM (by rw[ae.aV];exact .nl)⟩
 have iL:kP T T.length pat s=eC T T.length (aJ T s) pat (aI s):=by unfold kP;rw[bN,aS hg]
 have bG:=hs.aI hT (ua s hg).2;rw[iL];generalize hx:aJ T s=x;obtain⟨tk,tt,tn,tp⟩:=x;simp only[go_sem,simprocAttr,hg,qp hp,qq hp,bO,ws aO hs];have fold:AO.var [sY T,iV (s.i+1:Nat),iV s.nest,iV s.d,iV lim,iV s.c,iV s.ps]=bO T lim (aI s):=rfl;rw[fold];by_cases h0:tk=3
 ·have kd:eC T T.length ⟨tk,tt,tn,tp⟩ pat (aI s)=((ae.mk 2 tt 0 tp []),aI s):=by unfold eC;rw[if_pos h0];rfl
  rw[kd];simp only[go_sem,simprocAttr,dT h0];exact⟨_,rfl,iM (by rw[ae.aV];exact .nl)⟩
 by_cases h1:tk=4
 ·have kd:eC T T.length ⟨tk,tt,tn,tp⟩ pat (aI s)=((ae.mk 7 tt 0 tp []),aI s):=by unfold eC;rw[if_neg h0,if_pos h1];rfl
  rw[kd];simp only[go_sem,simprocAttr,dF h0,dT h1];exact⟨_,rfl,iM (by rw[ae.aV];exact .nl)⟩
 by_cases h2:tk=1
 ·have kd:eC T T.length ⟨tk,tt,tn,tp⟩ pat (aI s)=((ae.mk 3 [] tn tp []),aI s):=by unfold eC;rw[if_neg h0,if_neg h1,if_pos h2];rfl
  rw[kd];simp only[go_sem,simprocAttr,dF h0,dF h1,dT h2];exact⟨_,rfl,iM (by rw[ae.aV];exact .nl)⟩
 by_cases h3:tt=[95]
 ·have kd:eC T T.length ⟨tk,tt,tn,tp⟩ pat (aI s)=((ae.mk 1 [] 0 tp []),aI s):=by unfold eC;rw[if_neg h0,if_neg h1,if_neg h2,if_pos h3];rfl
  rw[kd];simp only[go_sem,simprocAttr,dF h0,dF h1,dF h2,dT h3];exact⟨_,rfl,iM (by rw[ae.aV];exact .nl)⟩
 by_cases h4:tt=[116,114,117,101]
 ·have kd:eC T T.length ⟨tk,tt,tn,tp⟩ pat (aI s)=((ae.mk 4 [] 1 tp []),aI s):=by unfold eC;rw[if_neg h0,if_neg h1,if_neg h2,if_neg h3,if_pos h4];rfl
  rw[kd];simp only[go_sem,simprocAttr,dF h0,dF h1,dF h2,dF h3,dT h4];exact⟨_,rfl,iM (by rw[ae.aV];exact .nl)⟩
 by_cases h5:tt=[102,97,108,115,101]
 ·have kd:eC T T.length ⟨tk,tt,tn,tp⟩ pat (aI s)=((ae.mk 4 [] 0 tp []),aI s):=by unfold eC;rw[if_neg h0,if_neg h1,if_neg h2,if_neg h3,if_neg h4,if_pos h5];rfl
  rw[kd];simp only[go_sem,simprocAttr,dF h0,dF h1,dF h2,dF h3,dF h4,dT h5];exact⟨_,rfl,iM (by rw[ae.aV];exact .nl)⟩
 simp only[go_sem,simprocAttr,dF h0,dF h1,dF h2,dF h3,dF h4,dF h5];refine U (nI aO [41] H _ p (aI s) hp bG) ?_;unfold dm;cases hc:aL T [41] (aI s);rotate_left
 ·have kd:eC T T.length ⟨tk,tt,tn,tp⟩ pat (aI s)=((ae.mk 5 [] 0 tp []),aI (aI s)):=by unfold eC;rw[if_neg h0,if_neg h1,if_neg h2,if_neg h3,if_neg h4,if_neg h5,aS hc];rfl
  rw[kd];simp only[go_sem,simprocAttr,hc];exact⟨_,rfl,iM (by rw[ae.aV];exact .nl)⟩
 simp only[go_sem,simprocAttr,hc];refine U (hr H _ p (aI s) hp bG) ?_;have bD:=bG.run sr;rcases hq:pat (aI s)with⟨⟨k,n,u,q,ks⟩,s2⟩
 rw[hq]at bD;rcases hR:many (aL T [44]) (bT pat) T.length s2 with⟨Rl,Rs⟩
 have kd:eC T T.length ⟨tk,tt,tn,tp⟩ pat (aI s)=(if Rl=[]then .mk k n u q ks else(ae.mk 6 [] 0 tp ((.mk k n u q ks)::Rl)),aX T [41] Rs):=by unfold eC;rw[if_neg h0,if_neg h1,if_neg h2,if_neg h3,if_neg h4,if_neg h5,aZ hc,aP,hq,aP,hR];rfl
 rw[kd];clear kd iL;simp only[go_sem,simprocAttr,ae.cells,Nat.add_zero]
 refine⟨Nat×PS×List ae×AV×List AO,[0,2,4,5],fun x st=>(Lp (bO T lim) T e H p [0,2] 5 ae.cells (aL T [44]) (bT pat) ((.mk k n u q ks)::Rl) Rs x.1 x.2.1 x.2.2.1 x.2.2.2.1 x.2.2.2.2/\x.2.2.2.2[0]?=some (.var [iV 0,sV [],iV 0,iV 0,.p .nl])/\x.2.2.2.2[2]?=some (.var [iV 0,sV [],iV 0,iV tp,.p .nl]))/\
   st=⟨[(0,.ptr p 0),(2,.ptr H.length 0),(4,.ptr (H.length+2) 0),(5,x.2.2.2.1)],[],H.set p (bO T lim x.2.1)++x.2.2.2.2⟩,fun x=>T.length-x.2.1.i,⟨(T.length,s2,[.mk k n u q ks],.gs (H.length+3) 0 0 1,[.var [iV 0,sV [],iV 0,iV 0,.p .nl],.var [iV tk,sV tt,iV tn,iV tp],.var [iV 0,sV [],iV 0,iV tp,.p .nl],.rows 5 0 [[iV k,sV n,iV u,iV q,.p (.l (ae.aV ks))]]]),?_⟩,?_⟩
 ·simp only[go_sem,simprocAttr]
  exact Lp.nd bD hR (by simp) rfl (by decide)
 ·rintro⟨j,s',acc,a,A⟩ _ ⟨⟨hL,i8,i9⟩,rfl⟩
  simp only at hL i8 i9⊢;simp only[go_sem,simprocAttr];refine U (nI aO [44] H _ p s' hp hL.ok) ?_;unfold dm;cases hg:aL T [44] s'
  ·obtain⟨rfl,rfl⟩:=hL.stop hg
   have hz:∀o,(A.set 0 o)[0]?=some o:=fun o=>bg i8
   have rQ:∀o,(A.set 2 o)[2]?=some o:=fun o=>bg i9
   simp only[go_sem,simprocAttr,hg];refine U (gZ aO [41] H _ p s' hp hL.ok) ?_;simp only[go_sem,simprocAttr]
   obtain⟨id,ver,rfl,hid⟩:∃id ver,a=.gs id ver 0 (Rl.length+1)/\(H.set p (bO T lim (aX T [41] s'))++A)[id]?=some (.rows 5 ver ((((.mk k n u q ks)::Rl:List ae)).map fun t=>(ae.cells t).map .p)):=by
    rcases hL.own with⟨_,h⟩|⟨id,ver,rfl,h⟩
    ·simp at h
    ·exact⟨id,ver,by simp,by rw[EA (hL.ids _ _ _ _ rfl).1]at h⊢;exact h⟩
   by_cases HM:Rl=[]
   ·subst HM
    rw[if_pos rfl];simp only[go_sem,simprocAttr,hid,i8,hz,ae.cells];intro _;exact⟨_,rfl,bt (dK (ae.cells (.mk k n u q ks)))⟩
   ·have d1:decide (((Rl.length+1:Nat):Int)=1)=false:=by
     have:=List.length_pos_iff.2 HM;simp;omega
    rw[if_neg HM];have RZ:∀o,(A.set 2 o)[0]?=some _:=fun o=>aU i8 (by decide)
    have R0:∀o o',((A.set 2 o).set 0 o')[0]?=some o':=fun o o'=>bg (RZ o)
    simp only[go_sem,simprocAttr,d1,i9,i8,rQ,RZ,R0,List.set_set];intro _;exact⟨_,rfl,iM (by rw[ae.aw];exact hL.vV (fun k o hk h=>aU (aU h (by rintro rfl;exact hk (by decide))) (by rintro rfl;exact hk (by decide))) RY)⟩
  ·obtain⟨j,rfl⟩:=hL.succ (aB T _) hg
   have dJ:=hL.ok.aI hT (cH hg).2;have eL:=dJ.run sr;have cJ:=(gU.aI hT sr hL.ok.1 (cH hg).2).1;simp only[go_sem,simprocAttr,hg];refine U (hr H _ p (aI s') hp dJ) ?_;rcases fF:pat (aI s')with⟨⟨k,n,u,q,ks⟩,s3⟩
   rw[fF]at eL cJ;simp only[go_sem,simprocAttr,ae.cells,zA];refine⟨by intro r hr;simp at hr;subst hr;rfl,?_⟩;refine hL.app (fun k o h=>ay h _) aO (by decide) ?_;intro id ver A' k1 k2 k3;have j0:=(k3 0 (by decide)).trans i8;have j2:=(k3 2 (by decide)).trans i9;have gD:=bj j2;simp only[go_sem,simprocAttr];exact⟨(j,s3,acc++[.mk k n u q ks],.gs id ver 0 (acc.length+1),A'),⟨⟨hL.next (aB T _) hg fF eL cJ k1 k2 (fun _ _ _ h=>h) (by simp;omega),j0,j2⟩,rfl⟩,by have h1:s'.i<s3.i:=cJ;have:=hL.ok.1;simp only;omega⟩
end
section
variable {T:List Tok} {lim e:Nat} (hT:bL T) (aO:T.length<=1073741825)
include hT aO
theorem ado (hl:lim<=1099511627776) (he:e<=lim) {pat:PM ae} (hr:e<lim->PF (bO T lim) T (e+1) 176 [] pat x9) (sr:ab T pat):PF (bO T lim) T e 176 [] (Cc T T.length lim pat) x9:=by
 have sA:=p9 (N:=T.length) hT sr;refine dy (dA T lim) fun H p s hp hs=>?_
 obtain⟨o1,o2,o3⟩:=zB (lim:=lim) hT aO hs;have hi:=hs.1;have hn:=hs.2;refine call176 (by simp) ?_;simp only[go_sem,simprocAttr,JX,RB];refine U (FI hl he H _ p s hp hs) ?_;unfold Cc p5;cases hc:decide ((cF T lim s).c=0)
 ·rw[if_neg (of_decide_eq_false hc)]
  simp only[go_sem,simprocAttr,hc];refine U (sb hl H _ p (cF T lim s) hp (by omega) (by omega) (by omega)) ?_;simp only[go_sem,simprocAttr];exact⟨_,rfl,iM (by rw[ae.aV];exact .nl)⟩
 ·obtain⟨bG,cX⟩:=o3 (of_decide_eq_true hc)
  have hr:=hr (by omega);have hA:=XD hT aO hr sr;rw[if_pos (of_decide_eq_true hc)];simp only[go_sem,simprocAttr,hc];refine U (kb H _ p _ hp bG) ?_;rw[bN,aP];simp only[go_sem,simprocAttr,Tok.cells];generalize hx:aJ T (cF T lim s)=x;obtain⟨tk,tt,tn,tp⟩:=x;simp only;refine U (hA H _ p _ hp bG) ?_;have bD:=bG.run sA;have wo:=sA _ bG.1;rcases hq:kP T T.length pat (cF T lim s)with⟨⟨k,n,u,q,ks⟩,s2⟩
  rw[hq]at bD wo;have bh:s2.nest=s.nest+1:=wo.2.2.2.trans o2;simp only[go_sem,simprocAttr,ae.cells];by_cases h4:tk=4
  ·rw[if_pos h4]
   simp only[go_sem,simprocAttr,dT h4];refine U (MJ hT aO H _ p s2 hp bD) ?_;cases hg:eg T s2
   ·rw[ji hg]
    simp only[go_sem,simprocAttr,hg];refine U (sb hl H _ p s2 hp bD.1 (by omega) (by omega)) ?_;simp only[go_sem,simprocAttr];exact⟨_,rfl,bt (dK (ae.cells (.mk k n u q ks)))⟩
   ·rw[fv hg,aP]
    simp only[go_sem,simprocAttr,hg];refine U (hA H _ p s2 hp bD) ?_;have eL:=bD.run sA;have RW:=sA _ bD.1;rcases ez:kP T T.length pat s2 with⟨⟨k',n',u',q',kY⟩,s3⟩
    rw[ez]at eL RW;have hn3:s3.nest=s.nest+1:=RW.2.2.2.trans bh;simp only[go_sem,simprocAttr,ae.cells];refine U (sb hl H _ p s3 hp eL.1 (by omega) (by omega)) ?_;simp only[go_sem,simprocAttr,Nat.add_zero];exact⟨_,rfl,iM (dx (n:=H.length) (ys:=[ae.cells (.mk k' n' u' q' kY)]) (by omega) (by rw[lV];rfl) (by intro y hy;simp at hy;subst hy;rfl))⟩
  ·rw[if_neg h4]
   simp only[go_sem,simprocAttr,dF h4];refine U (sb hl H _ p s2 hp bD.1 (by omega) (by omega)) ?_;simp only[go_sem,simprocAttr];exact⟨_,rfl,bt (dK (ae.cells (.mk k n u q ks)))⟩
theorem R1 (hl:lim<=1099511627776):∀k e,e+k=lim+1->0<k->PF (bO T lim) T e 176 [] (Au T T.length lim k) x9
 |0,e,_,h=>absurd h (by omega)
 |k+1,e,h,_=>ado hT aO hl (by omega) (fun aj=>R1 hl k (e+1) (by omega) (by omega)) (rX hT lim k)
theorem zC:PF (bO T lim) T e 203 [] (r8 (ei T)) bV:=by
 refine dy (dA T lim) fun H p s hp hs=>?_
 refine call203 (by simp) ?_;simp only[go_sem,simprocAttr,J5,RI];refine U (kb.nil hp hs) ?_;unfold ei;simp only[go_sem,simprocAttr,mj hp,bO,Tok.cells];cases h0:decide (s.c=0)
 ·have hc:=of_decide_eq_false h0
  simp only[wC hc,pd hc,Bool.or_self];simp only[go_sem,simprocAttr,h0];exact⟨[],by simp[bO],bt (bw _)⟩
 have hc:=of_decide_eq_true h0;cases k1:decide ((aJ T s).k=1);rotate_left
 ·have e1:bB T 1 s=true:=by unfold bB;rw[h0,k1];rfl
  simp only[e1,Bool.or_true,Bool.true_or,Bool.false_or];simp only[go_sem,simprocAttr,h0,k1];exact⟨[],by simp[bO],bt (bw _)⟩
 have e1:bB T 1 s=false:=by unfold bB;rw[h0,k1];rfl
 cases k2:decide ((aJ T s).k=2);rotate_left
 ·have e2:bB T 2 s=true:=by unfold bB;rw[h0,k2];rfl
  simp only[e2,e1,Bool.or_true,Bool.true_or,Bool.false_or];simp only[go_sem,simprocAttr,h0,k1,k2];exact⟨[],by simp[bO],bt (bw _)⟩
 have e2:bB T 2 s=false:=by unfold bB;rw[h0,k2];rfl
 cases k3:decide ((aJ T s).k=3);rotate_left
 ·have e3:bB T 3 s=true:=by unfold bB;rw[h0,k3];rfl
  simp only[e3,e1,e2,Bool.or_true,Bool.true_or,Bool.false_or];simp only[go_sem,simprocAttr,h0,k1,k2,k3];exact⟨[],by simp[bO],bt (bw _)⟩
 have e3:bB T 3 s=false:=by unfold bB;rw[h0,k3];rfl
 cases k4:decide ((aJ T s).k=4);rotate_left
 ·have e4:bB T 4 s=true:=by unfold bB;rw[h0,k4];rfl
  simp only[e4,e1,e2,e3,Bool.or_true,Bool.true_or,Bool.false_or];simp only[go_sem,simprocAttr,h0,k1,k2,k3,k4];exact⟨[],by simp[bO],bt (bw _)⟩
 have e4:bB T 4 s=false:=by unfold bB;rw[h0,k4];rfl
 simp only[e1,e2,e3,e4,Bool.false_or];simp only[go_sem,simprocAttr,h0,k1,k2,k3,k4];refine U ((AU [116,114,117,101]).nil hp hs) ?_;cases w0:aL T [116,114,117,101] s;rotate_left
 ·simp only[go_sem,simprocAttr,w0,Bool.true_or,Bool.or_true,Bool.false_or]
  exact⟨[],by simp[bO],bt (bw _)⟩
 simp only[go_sem,simprocAttr,w0,Bool.false_or];refine U ((AU [102,97,108,115,101]).nil hp hs) ?_;cases w1:aL T [102,97,108,115,101] s;rotate_left
 ·simp only[go_sem,simprocAttr,w1,Bool.true_or,Bool.or_true,Bool.false_or]
  exact⟨[],by simp[bO],bt (bw _)⟩
 simp only[go_sem,simprocAttr,w1,Bool.false_or];refine U ((AU [114,101,97,100]).nil hp hs) ?_;cases w2:aL T [114,101,97,100] s;rotate_left
 ·simp only[go_sem,simprocAttr,w2,Bool.true_or,Bool.or_true,Bool.false_or]
  exact⟨[],by simp[bO],bt (bw _)⟩
 simp only[go_sem,simprocAttr,w2,Bool.false_or];refine U ((AU [40]).nil hp hs) ?_;simp only[go_sem,simprocAttr,Bool.false_or];exact⟨[],by simp[bO],bt (bw _)⟩
theorem MK {ex:PM aa} (hr:PF (bO T lim) T e 38 [] ex jM) (sr:ab T ex):PF (bO T lim) T e 204 [] (dD T T.length ex) jM:=by
 refine dy (dA T lim) fun H p s hp hs=>?_
 refine call204 (by simp) ?_;simp only[go_sem,simprocAttr,J6,RJ];refine U (kb H _ p s hp hs) ?_;simp only[go_sem,simprocAttr,Tok.cells];refine U (zC hT aO H _ p s hp hs) ?_;cases hg:ei T s
 ·have iL:dD T T.length ex s=(Ca,dQ T 11 s):=by unfold dD;rw[bN,aZ hg];rfl
  rw[iL];simp only[go_sem,simprocAttr,hg];refine U (r9 11 H _ p s hp hs) ?_;simp only[go_sem,simprocAttr];exact⟨_,rfl,cQ (by rw[aa.aV];exact .nl) (by rw[aa.bR];exact .nl)⟩
 have iL:dD T T.length ex s=fa T T.length (aJ T s) ex (aI s):=by unfold dD;rw[bN,aS hg]
 have bG:=hs.aI hT (only_atNx s hg).2;rw[iL];generalize hx:aJ T s=x;obtain⟨tk,tt,tn,tp⟩:=x;simp only[go_sem,simprocAttr,hg,qp hp,qq hp,bO,ws aO hs];have fold:AO.var [sY T,iV (s.i+1:Nat),iV s.nest,iV s.d,iV lim,iV s.c,iV s.ps]=bO T lim (aI s):=rfl;rw[fold];by_cases h0:tk=1
 ·have kd:fa T T.length ⟨tk,tt,tn,tp⟩ ex (aI s)=((aa.mk 1 [] tn [] tp [] []),aI s):=by unfold fa;rw[if_pos h0];rfl
  rw[kd];simp only[go_sem,simprocAttr,dT h0];exact⟨_,rfl,cQ (by rw[aa.aV];exact .nl) (by rw[aa.bR];exact .nl)⟩
 by_cases h1:tk=2
 ·have kd:fa T T.length ⟨tk,tt,tn,tp⟩ ex (aI s)=((aa.mk 2 [] 0 tt tp [] []),aI s):=by unfold fa;rw[if_neg h0,if_pos h1];rfl
  rw[kd];simp only[go_sem,simprocAttr,dF h0,dT h1];exact⟨_,rfl,cQ (by rw[aa.aV];exact .nl) (by rw[aa.bR];exact .nl)⟩
 by_cases h2:tk=3
 ·have kd:fa T T.length ⟨tk,tt,tn,tp⟩ ex (aI s)=((aa.mk 5 tt 0 [] tp [] []),aI s):=by unfold fa;rw[if_neg h0,if_neg h1,if_pos h2];rfl
  rw[kd];simp only[go_sem,simprocAttr,dF h0,dF h1,dT h2];exact⟨_,rfl,cQ (by rw[aa.aV];exact .nl) (by rw[aa.bR];exact .nl)⟩
 by_cases h3:tk=4
 ·have kd:fa T T.length ⟨tk,tt,tn,tp⟩ ex (aI s)=((aa.mk 6 tt 0 [] tp [] []),aI s):=by unfold fa;rw[if_neg h0,if_neg h1,if_neg h2,if_pos h3];rfl
  rw[kd];simp only[go_sem,simprocAttr,dF h0,dF h1,dF h2,dT h3];exact⟨_,rfl,cQ (by rw[aa.aV];exact .nl) (by rw[aa.bR];exact .nl)⟩
 by_cases h4:tt=[114,101,97,100]
 ·have kd:fa T T.length ⟨tk,tt,tn,tp⟩ ex (aI s)=((aa.mk 15 tt 0 [] tp [] []),aI s):=by unfold fa;rw[if_neg h0,if_neg h1,if_neg h2,if_neg h3,if_pos h4];rfl
  rw[kd];simp only[go_sem,simprocAttr,dF h0,dF h1,dF h2,dF h3,dT h4];exact⟨_,rfl,cQ (by rw[aa.aV];exact .nl) (by rw[aa.bR];exact .nl)⟩
 by_cases h5:tt=[116,114,117,101]
 ·have kd:fa T T.length ⟨tk,tt,tn,tp⟩ ex (aI s)=((aa.mk 3 [] 1 [] tp [] []),aI s):=by unfold fa;rw[if_neg h0,if_neg h1,if_neg h2,if_neg h3,if_neg h4,if_pos h5];rfl
  rw[kd];simp only[go_sem,simprocAttr,dF h0,dF h1,dF h2,dF h3,dF h4,dT h5];exact⟨_,rfl,cQ (by rw[aa.aV];exact .nl) (by rw[aa.bR];exact .nl)⟩
 by_cases h6:tt=[102,97,108,115,101]
 ·have kd:fa T T.length ⟨tk,tt,tn,tp⟩ ex (aI s)=((aa.mk 3 [] 0 [] tp [] []),aI s):=by unfold fa;rw[if_neg h0,if_neg h1,if_neg h2,if_neg h3,if_neg h4,if_neg h5,if_pos h6];rfl
  rw[kd];simp only[go_sem,simprocAttr,dF h0,dF h1,dF h2,dF h3,dF h4,dF h5,dT h6];exact⟨_,rfl,cQ (by rw[aa.aV];exact .nl) (by rw[aa.bR];exact .nl)⟩
 simp only[go_sem,simprocAttr,dF h0,dF h1,dF h2,dF h3,dF h4,dF h5,dF h6];refine U (nI aO [41] H _ p (aI s) hp bG) ?_;unfold dm;cases hc:aL T [41] (aI s);rotate_left
 ·have kd:fa T T.length ⟨tk,tt,tn,tp⟩ ex (aI s)=((aa.mk 4 [] 0 [] tp [] []),aI (aI s)):=by unfold fa;rw[if_neg h0,if_neg h1,if_neg h2,if_neg h3,if_neg h4,if_neg h5,if_neg h6,aS hc];rfl
  rw[kd];simp only[go_sem,simprocAttr,hc];exact⟨_,rfl,cQ (by rw[aa.aV];exact .nl) (by rw[aa.bR];exact .nl)⟩
 simp only[go_sem,simprocAttr,hc];refine U (hr H _ p (aI s) hp bG) ?_;have bD:=bG.run sr;rcases hq:ex (aI s)with⟨⟨k,n,u,t,q,ks,ms⟩,s2⟩
 rw[hq]at bD;rcases hR:many (aL T [44]) (bT ex) T.length s2 with⟨Rl,Rs⟩
 have kd:fa T T.length ⟨tk,tt,tn,tp⟩ ex (aI s)=(if Rl=[]then .mk k n u t q ks ms else(aa.mk 7 [] 0 [] tp ((.mk k n u t q ks ms)::Rl) []),aX T [41] Rs):=by unfold fa;rw[if_neg h0,if_neg h1,if_neg h2,if_neg h3,if_neg h4,if_neg h5,if_neg h6,aZ hc,aP,hq,aP,hR];rfl
 rw[kd];clear kd iL;simp only[go_sem,simprocAttr,aa.cells,Nat.add_zero]
 refine⟨Nat×PS×List aa×AV×List AO,[0,2,4,5],fun x st=>(Lp (bO T lim) T e H p [0,2] 7 aa.cells (aL T [44]) (bT ex) ((.mk k n u t q ks ms)::Rl) Rs x.1 x.2.1 x.2.2.1 x.2.2.2.1 x.2.2.2.2/\x.2.2.2.2[0]?=some (.var [iV 0,sV [],iV 0,sV [],iV 0,.p .nl,.p .nl])/\x.2.2.2.2[2]?=some (.var [iV 0,sV [],iV 0,sV [],iV tp,.p .nl,.p .nl]))/\
   st=⟨[(0,.ptr p 0),(2,.ptr H.length 0),(4,.ptr (H.length+2) 0),(5,x.2.2.2.1)],[],H.set p (bO T lim x.2.1)++x.2.2.2.2⟩,fun x=>T.length-x.2.1.i,⟨(T.length,s2,[.mk k n u t q ks ms],.gs (H.length+3) 0 0 1,[.var [iV 0,sV [],iV 0,sV [],iV 0,.p .nl,.p .nl],.var [iV tk,sV tt,iV tn,iV tp],.var [iV 0,sV [],iV 0,sV [],iV tp,.p .nl,.p .nl],.rows 7 0 [[iV k,sV n,iV u,sV t,iV q,.p (.l (aa.aV ks)),.p (.l (aa.bR ms))]]]),?_⟩,?_⟩
 ·simp only[go_sem,simprocAttr]
  exact Lp.nd bD hR (by simp) rfl (by decide)
 ·rintro⟨j,s',acc,a,A⟩ _ ⟨⟨hL,i8,i9⟩,rfl⟩
  simp only at hL i8 i9⊢;simp only[go_sem,simprocAttr];refine U (nI aO [44] H _ p s' hp hL.ok) ?_;unfold dm;cases hg:aL T [44] s'
  ·obtain⟨rfl,rfl⟩:=hL.stop hg
   have hz:∀o,(A.set 0 o)[0]?=some o:=fun o=>bg i8
   have rQ:∀o,(A.set 2 o)[2]?=some o:=fun o=>bg i9
   simp only[go_sem,simprocAttr,hg];refine U (gZ aO [41] H _ p s' hp hL.ok) ?_;simp only[go_sem,simprocAttr]
   obtain⟨id,ver,rfl,hid⟩:∃id ver,a=.gs id ver 0 (Rl.length+1)/\(H.set p (bO T lim (aX T [41] s'))++A)[id]?=some (.rows 7 ver ((((.mk k n u t q ks ms)::Rl:List aa)).map fun t=>(aa.cells t).map .p)):=by
    rcases hL.own with⟨_,h⟩|⟨id,ver,rfl,h⟩
    ·simp at h
    ·exact⟨id,ver,by simp,by rw[EA (hL.ids _ _ _ _ rfl).1]at h⊢;exact h⟩
   by_cases HM:Rl=[]
   ·subst HM
    rw[if_pos rfl];simp only[go_sem,simprocAttr,hid,i8,hz,aa.cells];intro _;exact⟨_,rfl,bt (dK (aa.cells (.mk k n u t q ks ms)))⟩
   ·have d1:decide (((Rl.length+1:Nat):Int)=1)=false:=by
     have:=List.length_pos_iff.2 HM;simp;omega
    rw[if_neg HM];have RZ:∀o,(A.set 2 o)[0]?=some _:=fun o=>aU i8 (by decide)
    have R0:∀o o',((A.set 2 o).set 0 o')[0]?=some o':=fun o o'=>bg (RZ o)
    simp only[go_sem,simprocAttr,d1,i9,i8,rQ,RZ,R0,List.set_set];intro _;exact⟨_,rfl,cQ (by rw[aa.aw];exact hL.vV (fun k o hk h=>aU (aU h (by rintro rfl;exact hk (by decide))) (by rintro rfl;exact hk (by decide))) FK) .nl⟩
  ·obtain⟨j,rfl⟩:=hL.succ (aB T _) hg
   have dJ:=hL.ok.aI hT (cH hg).2;have eL:=dJ.run sr;have cJ:=(gU.aI hT sr hL.ok.1 (cH hg).2).1;simp only[go_sem,simprocAttr,hg];refine U (hr H _ p (aI s') hp dJ) ?_;rcases fF:ex (aI s')with⟨⟨k,n,u,t,q,ks,ms⟩,s3⟩
   rw[fF]at eL cJ;simp only[go_sem,simprocAttr,aa.cells,zA];refine⟨by intro r hr;simp at hr;subst hr;rfl,?_⟩;refine hL.app (fun k o h=>ay h _) aO (by decide) ?_;intro id ver A' k1 k2 k3;have j0:=(k3 0 (by decide)).trans i8;have j2:=(k3 2 (by decide)).trans i9;have gD:=bj j2;simp only[go_sem,simprocAttr];exact⟨(j,s3,acc++[.mk k n u t q ks ms],.gs id ver 0 (acc.length+1),A'),⟨⟨hL.next (aB T _) hg fF eL cJ k1 k2 (fun _ _ _ h=>h) (by simp;omega),j0,j2⟩,rfl⟩,by have h1:s'.i<s3.i:=cJ;have:=hL.ok.1;simp only;omega⟩
theorem Kf (s:List UInt8) (H:List AO):aA Tryz.prog 172 [sV s] H (aW (bV (decide (s=[112,114,105,110,116])||decide (s=[101,120,105,116])||decide (s=[115,105,122,101])||decide (s=[114,101,102])||decide (s=[33]))) H):=by
 refine call172 (by simp) ?_;simp only[go_sem,simprocAttr,J9,RM];cases h1:decide (s=[112,114,105,110,116]);rotate_left
 ·simp only[go_sem,simprocAttr,h1,Bool.true_or]
  exact⟨rfl,rfl⟩
 cases h2:decide (s=[101,120,105,116]);rotate_left
 ·simp only[go_sem,simprocAttr,h1,h2,Bool.true_or,Bool.false_or]
  exact⟨rfl,rfl⟩
 cases h3:decide (s=[115,105,122,101]);rotate_left
 ·simp only[go_sem,simprocAttr,h1,h2,h3,Bool.true_or,Bool.false_or]
  exact⟨rfl,rfl⟩
 cases h4:decide (s=[114,101,102]);rotate_left
 ·simp only[go_sem,simprocAttr,h1,h2,h3,h4,Bool.true_or,Bool.false_or]
  exact⟨rfl,rfl⟩
 simp only[go_sem,simprocAttr,h1,h2,h3,h4,Bool.false_or];exact⟨rfl,rfl⟩
theorem R2 {s:PS} (hc:s.c=0):il T s=((decide ((aJ T s).k=6)||decide ((aJ T s).k=7))&&(decide ((aJ T s).t=[112,114,105,110,116])||decide ((aJ T s).t=[101,120,105,116])||decide ((aJ T s).t=[115,105,122,101])||decide ((aJ T s).t=[114,101,102])||decide ((aJ T s).t=[33]))):=by
 unfold il aL;rw[dT hc,Bool.true_and];cases(decide ((aJ T s).k=6)||decide ((aJ T s).k=7))
 ·simp
 ·simp
theorem adp {ex:PM aa} (hr:PF (bO T lim) T e 38 [] ex jM) (sr:ab T ex):PF (bO T lim) T e 202 [] (vU T T.length ex) jM:=by
 have hA:=MK hT aO hr sr;have sA:=j7 (N:=T.length) hT sr;refine dy (dA T lim) fun H p s hp hs=>?_
 refine call202 (by simp) ?_;simp only[go_sem,simprocAttr,J4,RH];refine U (kb H _ p s hp hs) ?_
 have rest:il T s=false->vU T T.length ex s=(if(aJ T s).k=4 then eJ (ei T) (aH (dD T T.length ex) fun a=>aT ((dD T T.length ex s).1.Xn [a])) (aT (dD T T.length ex s).1)else aT (dD T T.length ex s).1) (dD T T.length ex s).2:=fun h=>by
  unfold vU;rw[bN,aZ h,aP]
 have yes:il T s=true->vU T T.length ex s=(node1 15 (aJ T s).t (aJ T s).p (dD T T.length ex (aI s)).1,(dD T T.length ex (aI s)).2):=fun h=>by
  unfold vU;rw[bN,aS h];rfl
 have qH:=fun hc:s.c=0=>R2 hT aO hc
 have hpc:=fun hc:s.c≠0=>show il T s=false by unfold il;rw[pd hc,pd hc,pd hc,pd hc,pd hc];rfl
 have h8:il T s=true->(aJ T s).k≠8:=fun h=>(p8 s h).2
 simp only[go_sem,simprocAttr,qp hp,bO,Tok.cells];generalize hx:aJ T s=x at rest yes qH h8⊢;obtain⟨tk,tt,tn,tp⟩:=x;simp only at rest yes qH h8⊢;cases h0:decide (s.c=0)
 ·have hf:=hpc (of_decide_eq_false h0)
  simp only[go_sem,simprocAttr,h0];refine U (hA H _ p s hp hs) ?_;have bD:=hs.run sA;rw[rest hf];clear rest yes;rcases hq:dD T T.length ex s with⟨⟨k,n,u,t,q,ks,ms⟩,s2⟩
  rw[hq]at bD;simp only[go_sem,simprocAttr,aa.cells];by_cases h4:tk=4
  ·rw[if_pos h4]
   simp only[go_sem,simprocAttr,dT h4];refine U (zC hT aO H _ p s2 hp bD) ?_;cases hg:ei T s2
   ·rw[ji hg]
    simp only[go_sem,simprocAttr,hg];exact⟨_,rfl,bt (dK (aa.cells (.mk k n u t q ks ms)))⟩
   ·rw[fv hg,aP]
    simp only[go_sem,simprocAttr,hg];refine U (hA H _ p s2 hp bD) ?_;rcases ez:dD T T.length ex s2 with⟨⟨k',n',u',t',q',kY,mQ⟩,s3⟩
    simp only[go_sem,simprocAttr,aa.cells,Nat.add_zero];exact⟨_,rfl,cQ (dx (n:=H.length) (ys:=[aa.cells (.mk k' n' u' t' q' kY mQ)]) (by omega) (by rw[lV];rfl) (by intro y hy;simp at hy;subst hy;rfl)) (.p _)⟩
  ·rw[if_neg h4]
   simp only[go_sem,simprocAttr,dF h4];exact⟨_,rfl,bt (dK (aa.cells (.mk k n u t q ks ms)))⟩
 ·have qH:=qH (of_decide_eq_true h0)
  cases R3:(decide (tk=6)||decide (tk=7))
  ·have hf:il T s=false:=by rw[qH,R3];rfl
   have h6:decide (tk=6)=false:=by cases h:decide (tk=6)<;>simp[h]at R3⊢
   have h7:decide (tk=7)=false:=by cases h:decide (tk=7)<;>simp[h]at R3⊢
   simp only[go_sem,simprocAttr,h0,h6,h7];refine U (hA H _ p s hp hs) ?_;have bD:=hs.run sA;rw[rest hf];clear rest yes;rcases hq:dD T T.length ex s with⟨⟨k,n,u,t,q,ks,ms⟩,s2⟩
   rw[hq]at bD;simp only[go_sem,simprocAttr,aa.cells];by_cases h4:tk=4
   ·rw[if_pos h4]
    simp only[go_sem,simprocAttr,dT h4];refine U (zC hT aO H _ p s2 hp bD) ?_;cases hg:ei T s2
    ·rw[ji hg]
     simp only[go_sem,simprocAttr,hg];exact⟨_,rfl,bt (dK (aa.cells (.mk k n u t q ks ms)))⟩
    ·rw[fv hg,aP]
     simp only[go_sem,simprocAttr,hg];refine U (hA H _ p s2 hp bD) ?_;rcases ez:dD T T.length ex s2 with⟨⟨k',n',u',t',q',kY,mQ⟩,s3⟩
     simp only[go_sem,simprocAttr,aa.cells,Nat.add_zero];exact⟨_,rfl,cQ (dx (n:=H.length) (ys:=[aa.cells (.mk k' n' u' t' q' kY mQ)]) (by omega) (by rw[lV];rfl) (by intro y hy;simp at hy;subst hy;rfl)) (.p _)⟩
   ·rw[if_neg h4]
    simp only[go_sem,simprocAttr,dF h4];exact⟨_,rfl,bt (dK (aa.cells (.mk k n u t q ks ms)))⟩
  ·rw[R3,Bool.true_and]at qH
   cases h6:decide (tk=6)
   ·have h7:decide (tk=7)=true:=by simpa[h6]using R3
    simp only[go_sem,simprocAttr,h0,h6,h7];refine U (Kf hT aO tt _) ?_;rw[<-qH];cases hf:il T s
    ·simp only[go_sem,simprocAttr,hf]
     refine U (hA H _ p s hp hs) ?_;have bD:=hs.run sA;rw[rest hf];clear rest yes;rcases hq:dD T T.length ex s with⟨⟨k,n,u,t,q,ks,ms⟩,s2⟩
     rw[hq]at bD;simp only[go_sem,simprocAttr,aa.cells];by_cases h4:tk=4
     ·rw[if_pos h4]
      simp only[go_sem,simprocAttr,dT h4];refine U (zC hT aO H _ p s2 hp bD) ?_;cases hg:ei T s2
      ·rw[ji hg]
       simp only[go_sem,simprocAttr,hg];exact⟨_,rfl,bt (dK (aa.cells (.mk k n u t q ks ms)))⟩
      ·rw[fv hg,aP]
       simp only[go_sem,simprocAttr,hg];refine U (hA H _ p s2 hp bD) ?_;rcases ez:dD T T.length ex s2 with⟨⟨k',n',u',t',q',kY,mQ⟩,s3⟩
       simp only[go_sem,simprocAttr,aa.cells,Nat.add_zero];exact⟨_,rfl,cQ (dx (n:=H.length) (ys:=[aa.cells (.mk k' n' u' t' q' kY mQ)]) (by omega) (by rw[lV];rfl) (by intro y hy;simp at hy;subst hy;rfl)) (.p _)⟩
     ·rw[if_neg h4]
      simp only[go_sem,simprocAttr,dF h4];exact⟨_,rfl,bt (dK (aa.cells (.mk k n u t q ks ms)))⟩
    ·have dJ:=hs.aI hT (by rw[hx];exact h8 hf)
     have fold:AO.var [sY T,iV (s.i+1:Nat),iV s.nest,iV s.d,iV lim,iV s.c,iV s.ps]=bO T lim (aI s):=rfl;rw[yes hf];clear rest yes;simp only[go_sem,simprocAttr,hf,qp hp,qq hp,ws aO hs];rw[fold];refine⟨_,Qp.hx hp _ _,?_⟩;simp only[go_sem,simprocAttr];refine aR _ _ (by simp) (Qp.hx hp _ _) (hA.chain hp dJ) ?_;rcases hq:dD T T.length ex (aI s)with⟨⟨k,n,u,t,q,ks,ms⟩,s2⟩
     simp only[go_sem,simprocAttr,aa.cells,Nat.add_zero];exact⟨_,rfl,cQ (dx (n:=H.length) (ys:=[aa.cells (.mk k n u t q ks ms)]) (by omega) (by rw[lV];rfl) (by intro y hy;simp at hy;subst hy;rfl)) (by rw[aa.bR];exact .nl)⟩
   ·simp only[go_sem,simprocAttr,h0,h6]
    refine U (Kf hT aO tt _) ?_;rw[<-qH];cases hf:il T s
    ·simp only[go_sem,simprocAttr,hf]
     refine U (hA H _ p s hp hs) ?_;have bD:=hs.run sA;rw[rest hf];clear rest yes;rcases hq:dD T T.length ex s with⟨⟨k,n,u,t,q,ks,ms⟩,s2⟩
     rw[hq]at bD;simp only[go_sem,simprocAttr,aa.cells];by_cases h4:tk=4
     ·rw[if_pos h4]
      simp only[go_sem,simprocAttr,dT h4];refine U (zC hT aO H _ p s2 hp bD) ?_;cases hg:ei T s2
      ·rw[ji hg]
       simp only[go_sem,simprocAttr,hg];exact⟨_,rfl,bt (dK (aa.cells (.mk k n u t q ks ms)))⟩
      ·rw[fv hg,aP]
       simp only[go_sem,simprocAttr,hg];refine U (hA H _ p s2 hp bD) ?_;rcases ez:dD T T.length ex s2 with⟨⟨k',n',u',t',q',kY,mQ⟩,s3⟩
       simp only[go_sem,simprocAttr,aa.cells,Nat.add_zero];exact⟨_,rfl,cQ (dx (n:=H.length) (ys:=[aa.cells (.mk k' n' u' t' q' kY mQ)]) (by omega) (by rw[lV];rfl) (by intro y hy;simp at hy;subst hy;rfl)) (.p _)⟩
     ·rw[if_neg h4]
      simp only[go_sem,simprocAttr,dF h4];exact⟨_,rfl,bt (dK (aa.cells (.mk k n u t q ks ms)))⟩
    ·have dJ:=hs.aI hT (by rw[hx];exact h8 hf)
     have fold:AO.var [sY T,iV (s.i+1:Nat),iV s.nest,iV s.d,iV lim,iV s.c,iV s.ps]=bO T lim (aI s):=rfl;rw[yes hf];clear rest yes;simp only[go_sem,simprocAttr,hf,qp hp,qq hp,ws aO hs];rw[fold];refine⟨_,Qp.hx hp _ _,?_⟩;simp only[go_sem,simprocAttr];refine aR _ _ (by simp) (Qp.hx hp _ _) (hA.chain hp dJ) ?_;rcases hq:dD T T.length ex (aI s)with⟨⟨k,n,u,t,q,ks,ms⟩,s2⟩
     simp only[go_sem,simprocAttr,aa.cells,Nat.add_zero];exact⟨_,rfl,cQ (dx (n:=H.length) (ys:=[aa.cells (.mk k n u t q ks ms)]) (by omega) (by rw[lV];rfl) (by intro y hy;simp at hy;subst hy;rfl)) (by rw[aa.bR];exact .nl)⟩
theorem R4 {ex:PM aa} (sr:ab T ex) {s:PS} (hi:s.i<T.length) (hg:ei T s=true):s.i<(dD T T.length ex s).2.i:=by
 unfold dD;rw[bN,aS hg];have ha:=rV hT hi (only_atNx s hg).2;have:=(Av (N:=T.length) (t:=aJ T s) hT sr) (aI s) (by simpa[aI]using ha);have h1:=this.1;simp only[aI]at h1⊢;omega
end
theorem cG.uo {n:Nat} {H H':List AO} (he:∀(id sz ver:Nat) (rs:List (List AV)),n<=id->H[id]?=some (.rows sz ver rs)->H'[id]?=some (.rows sz ver rs)) {a b:AV} (h:cG n H a b):cG n H' a b:=by
 induction h with
 |tf a h=>exact .tf a h
 |nl=>exact .nl
 |gs id ver off k sz rs ys hn hid hlen gI cL hc ih=>exact .gs id ver off k sz rs ys hn (he _ _ _ _ hn hid) hlen gI cL ih
 |st l m hlen hc ih=>exact .st l m hlen ih
 |dX l m hlen hc ih=>exact .dX l m hlen ih
theorem gz.get {n:Nat} {H:List AO} {l m:List AV} (h:gz n H l m):l.length=m.length∧∀(j:Nat) a b,l[j]?=some a→m[j]?=some b→cG n H a b:=by
  induction h with
  |nil=>exact⟨rfl,fun j a b h=>by simp at h⟩
  |cons h _ ih=>
   refine⟨by simp[ih.1],fun j a b ha hb=> ?_⟩
   cases j with
   |zero=>simp at ha hb;subst ha;subst hb;exact h
   |succ j=>exact ih.2 j a b (by simpa using ha) (by simpa using hb)
theorem HN {n id ver sz:Nat} {H:List AO} {r1 r2:List AV} {y1 y2:List PV} (hn:n<=id) (h:H[id]?=some (.rows sz ver [r1,r2])) (h1:gz n H r1 (y1.map .p)) (h2:gz n H r2 (y2.map .p)) (l1:y1.length=sz) (l2:y2.length=sz):cG n H (.gs id ver 0 2) (.p (.l [y1,y2])):=by
 refine .gs id ver 0 2 sz _ [y1,y2] hn h (by simp) rfl (by intro y hy;simp at hy;rcases hy with rfl|rfl<;>assumption) ?_;intro i r y j c q hr hy hc hq;rw[Nat.zero_add]at hr
 match i with
 |0=>cases hr;cases hy;exact h1.get.2 j c _ hc (by simp[hq])
 |1=>cases hr;cases hy;exact h2.get.2 j c _ hc (by simp[hq])
 |i+2=>simp at hr
theorem aa8 (H A B:List AO) (p:Nat) (c:AO):(H.set p c++(A++B))[H.length+A.length]?=B[0]?:=zA H A B p c 0
structure Lc {α:Type} (T:List Tok) (e:Nat) (g:PS->Bool) (m:α->PM α) (R:α×PS) (j:Nat) (s:PS) (a:α):Prop where
 ok:Ok T e s
 fu:s.c=0->T.length-s.i<=j
 eq:carry g m j a s=R
section
variable {α:Type} {T:List Tok} {e:Nat} {g:PS->Bool} {m:α->PM α} {R:α×PS} {j:Nat} {s:PS} {a:α}
theorem Lc.start (hs:Ok T e s) (h:carry g m T.length a s=R):Lc T e g m R T.length s a:=⟨hs,fun _=>by omega,h⟩
theorem Lc.stop (h:Lc T e g m R j s a) (hg:g s=false):R=(a,s):=by rw[<-h.eq,rf hg]
theorem Lc.succ (h:Lc T e g m R j s a) (ho:eN T g) (hg:g s=true):∃j',j=j'+1:=⟨j-1,by have:=h.fu (ho s hg).1;have:=h.ok.1;omega⟩
theorem Lc.next (h:Lc T e g m R (j+1) s a) (ho:eN T g) (hg:g s=true) {a2:α} {s2:PS} (hm:m a s=(a2,s2)) (bD:Ok T e s2) (cJ:s.i<s2.i):Lc T e g m R j s2 a2:=
 ⟨bD,fun _=>by have:=h.fu (ho s hg).1;omega,by have:=h.eq;rw[carry,if_pos hg,hm]at this;exact this⟩
end
def EvA (H:List AO) (p:Nat) (c:AO) (A:List AO) (i:Nat) (x:aa):Prop:=∃k n u t q ks ms a b,x=.mk k n u t q ks ms/\cG H.length (H.set p c++A) a (.p (.l (aa.aV ks)))/\cG H.length (H.set p c++A) b (.p (.l (aa.bR ms)))/\A[i]?=some (.var [iV k,sV n,iV u,sV t,iV q,a,b])
abbrev ZE:AO:=.var [iV 0,sV [],iV 0,sV [],iV 0,.p .nl,.p .nl]
theorem ke {H A B:List AO} {p:Nat} {c d:AO} (h:∀(k sz ver:Nat) (rs:List (List AV)),A[k]?=some (.rows sz ver rs)->B[k]?=some (.rows sz ver rs)):∀(id sz ver:Nat) (rs:List (List AV)),H.length<=id->(H.set p c++A)[id]?=some (.rows sz ver rs)->(H.set p d++B)[id]?=some (.rows sz ver rs):=fun id sz ver rs hid hr=>by
 rw[EA hid]at hr⊢;exact h _ _ _ _ hr
theorem lW {A:List AO} {i:Nat} {o:AO} {cs:List AV} (hi:A[i]?=some (.var cs)):∀(k sz ver:Nat) (rs:List (List AV)),A[k]?=some (.rows sz ver rs)->(A.set i o)[k]?=some (.rows sz ver rs):=fun k sz ver rs h=>aU h (by rintro rfl;rw[hi]at h;cases h)
theorem zD {H A B:List AO} {p:Nat} {c d:AO} {k u q:Int} {n t:List UInt8} {ks:List aa} {ms:List al} {a b:AV} {y:aa} (ha:cG H.length (H.set p c++A) a (.p (.l (aa.aV ks)))) (hb:cG H.length (H.set p c++A) b (.p (.l (aa.bR ms))))
  (hk:∀(k sz ver:Nat) (rs:List (List AV)),A[k]?=some (.rows sz ver rs)->B[k]?=some (.rows sz ver rs)) {i:Nat} (hi:B[i]?=some (.rows 7 0 [[iV k,sV n,iV u,sV t,iV q,a,b],y.cells.map .p])):
  cG H.length (H.set p d++B) (.gs (H.length+i) 0 0 2) (.p (.l (aa.aV [.mk k n u t q ks ms,y]))):=
 HN (by omega) (by rw[lV];exact hi) (.pc (.pc (.pc (.pc (.pc (.cons (cG.uo (ke hk) ha) (.cons (cG.uo (ke hk) hb) .nil))))))) (gz.pure _) (FK (.mk k n u t q ks ms)) (FK y)
section
variable {T:List Tok} {lim e:Nat} (hT:bL T) (aO:T.length<=1073741825)
include hT aO
theorem adq {ex:PM aa} (hr:PF (bO T lim) T e 38 [] ex jM) (sr:ab T ex):PF (bO T lim) T e 177 [] (jZ T T.length ex) jM:=by
 have hP:=adp hT aO hr sr;have sP:=wI (N:=T.length) hT sr;have hA:=MK hT aO hr sr;have sA:=j7 (N:=T.length) hT sr;refine dy (dA T lim) fun H p s hp hs=>?_
 refine call177 (by simp) ?_;simp only[go_sem,simprocAttr,JY,RC];refine U (hP H _ p s hp hs) ?_;have bG:=hs.run sP;rcases hq:vU T T.length ex s with⟨⟨k,n,u,t,q,ks,ms⟩,s1⟩
 rw[hq]at bG;have iL:jZ T T.length ex s=xT T T.length (dD T T.length ex) (.mk k n u t q ks ms) s1:=by unfold jZ;rw[aP,hq]
 rw[iL];unfold xT;generalize hR:carry (ei T) (fun a=>aH (dD T T.length ex) fun b=>aT (node2 9 [] a.pos a b)) T.length (.mk k n u t q ks ms) s1=R;simp only[go_sem,simprocAttr,aa.cells]
 refine⟨Nat×PS×aa×List AO,[0,2,3],fun x st=>(Lc T e (ei T) (fun a=>aH (dD T T.length ex) fun b=>aT (node2 9 [] a.pos a b)) R x.1 x.2.1 x.2.2.1/\EvA H p (bO T lim x.2.1) x.2.2.2 1 x.2.2.1/\x.2.2.2[0]?=some ZE)/\
   st=⟨[(0,.ptr p 0),(2,.ptr H.length 0),(3,.ptr (H.length+1) 0)],[],H.set p (bO T lim x.2.1)++x.2.2.2⟩,fun x=>T.length-x.2.1.i,⟨(T.length,s1,.mk k n u t q ks ms,[ZE,.var [iV k,sV n,iV u,sV t,iV q,.p (.l (aa.aV ks)),.p (.l (aa.bR ms))]]),?_⟩,?_⟩
 ·simp only[go_sem,simprocAttr]
  exact⟨Lc.start bG hR,_,_,_,_,_,_,_,_,_,rfl,.p _,.p _,rfl⟩
 ·rintro⟨j,s',x,A⟩ _ ⟨⟨hL,⟨k,n,u,t,q,ks,ms,a,b,HO,ha,hb,i9⟩,i8⟩,rfl⟩
  simp only at hL HO ha hb i8 i9⊢;subst HO;simp only[go_sem,simprocAttr];refine U (zC hT aO H _ p s' hp hL.ok) ?_;cases hg:ei T s'
  ·have R5:=hL.stop hg
   subst R5;have hz:∀o,(A.set 0 o)[0]?=some o:=fun o=>bg i8
   simp only[go_sem,simprocAttr,hg,i9,i8,hz];exact⟨_,rfl,cQ (cG.uo (ke (lW i8)) ha) (cG.uo (ke (lW i8)) hb)⟩
  ·obtain⟨j,rfl⟩:=hL.succ only_atNx hg
   have cJ:=R4 hT aO sr hL.ok.1 hg;have bD:=hL.ok.run sA;simp only[go_sem,simprocAttr,hg];refine⟨_,Qp.hx hp _ _,?_⟩;simp only[go_sem,simprocAttr,i9];refine aR _ _ (by simp) (Qp.hx hp _ _) (hA.chain hp hL.ok) ?_;rcases ez:dD T T.length ex s' with⟨y,s2⟩
   rw[ez]at cJ bD;obtain⟨k',n',u',t',q',kY,mQ⟩:=y;have Kg:=ay i8 [AO.rows 7 0 [[iV k,sV n,iV u,sV t,iV q,a,b],[iV k',sV n',iV u',sV t',iV q',.p (.l (aa.aV kY)),.p (.l (aa.bR mQ))]]];have wR:=ay i9 [AO.rows 7 0 [[iV k,sV n,iV u,sV t,iV q,a,b],[iV k',sV n',iV u',sV t',iV q',.p (.l (aa.aV kY)),.p (.l (aa.bR mQ))]]];simp only[go_sem,simprocAttr,aa.cells,wR,Nat.add_zero];have cX:1≠A.length:=by intro h;rw[h]at i9;simp at i9
   have hm:(fun a=>aH (dD T T.length ex) fun b=>aT (node2 9 [] a.pos a b)) (aa.mk k n u t q ks ms) s'=(node2 9 [] q (.mk k n u t q ks ms) (.mk k' n' u' t' q' kY mQ),s2):=by simp only[aP,ez];rfl
   refine⟨(j,s2,node2 9 [] q (.mk k n u t q ks ms) (.mk k' n' u' t' q' kY mQ),_),⟨⟨hL.next only_atNx hg hm bD cJ,⟨9,[],0,[],q,_,[],_,.p .nl,rfl,?_,by rw[aa.bR];exact .nl,bg wR⟩,aU Kg (by decide)⟩,rfl⟩,by have h1:s'.i<s2.i:=cJ;have:=hL.ok.1;simp only;omega⟩;exact zD ha hb (fun k sz ver rs h=>lW wR k sz ver rs (ay h _)) (aU (by rw[gq];rfl) cX)
end
def HP (s:List UInt8):Bool:=decide (s=[43])||decide (s=[45])||decide (s=[42])||decide (s=[94])||decide (s=[61])||decide (s=[60])||decide (s=[58,61])
def R6 (s:List UInt8):Int:=if s=[58,61]then 1 else if s=[61]\/s=[60]then 2 else if s=[42]then 4 else 3
def wS:Nat->List (List UInt8)
 |1=>[[58,61]]
 |2=>[[61],[60]]
 |3=>[[43],[45],[94]]
 |_=>[[42]]
theorem adr {L:Nat} (h1:1<=L) (h4:L<=4) (s:List UInt8):(HP s&&decide (R6 s=(L:Int)))=decide (s∈wS L):=by
 have:L=1\/L=2\/L=3\/L=4:=by omega
 by_cases e0:s=[43]
 ·subst e0
  rcases this with rfl|rfl|rfl|rfl<;>decide
 by_cases e1:s=[45]
 ·subst e1
  rcases this with rfl|rfl|rfl|rfl<;>decide
 by_cases e2:s=[42]
 ·subst e2
  rcases this with rfl|rfl|rfl|rfl<;>decide
 by_cases e3:s=[94]
 ·subst e3
  rcases this with rfl|rfl|rfl|rfl<;>decide
 by_cases e4:s=[61]
 ·subst e4
  rcases this with rfl|rfl|rfl|rfl<;>decide
 by_cases e5:s=[60]
 ·subst e5
  rcases this with rfl|rfl|rfl|rfl<;>decide
 by_cases e6:s=[58,61]
 ·subst e6
  rcases this with rfl|rfl|rfl|rfl<;>decide
 have hb:HP s=false:=by simp[HP,e0,e1,e2,e3,e4,e5,e6]
 rw[hb,Bool.false_and];symm;refine decide_eq_false ?_;rcases this with rfl|rfl|rfl|rfl<;>simp[wS,e0,e1,e2,e3,e4,e5,e6]
theorem aa9 (s:List UInt8) (H:List AO):aA Tryz.prog 171 [sV s] H (aW (bV (HP s)) H):=by
 refine call171 (by simp) ?_;unfold HP;simp only[go_sem,simprocAttr,J7,RK];cases h0:decide (s=[43]);rotate_left
 ·simp only[go_sem,simprocAttr,h0,Bool.true_or,Bool.false_or]
  exact⟨rfl,rfl⟩
 cases h1:decide (s=[45]);rotate_left
 ·simp only[go_sem,simprocAttr,h0,h1,Bool.true_or,Bool.false_or]
  exact⟨rfl,rfl⟩
 cases h2:decide (s=[42]);rotate_left
 ·simp only[go_sem,simprocAttr,h0,h1,h2,Bool.true_or,Bool.false_or]
  exact⟨rfl,rfl⟩
 cases h3:decide (s=[94]);rotate_left
 ·simp only[go_sem,simprocAttr,h0,h1,h2,h3,Bool.true_or,Bool.false_or]
  exact⟨rfl,rfl⟩
 cases h4:decide (s=[61]);rotate_left
 ·simp only[go_sem,simprocAttr,h0,h1,h2,h3,h4,Bool.true_or,Bool.false_or]
  exact⟨rfl,rfl⟩
 cases h5:decide (s=[60]);rotate_left
 ·simp only[go_sem,simprocAttr,h0,h1,h2,h3,h4,h5,Bool.true_or,Bool.false_or]
  exact⟨rfl,rfl⟩
 simp only[go_sem,simprocAttr,h0,h1,h2,h3,h4,h5,Bool.false_or];exact⟨rfl,rfl⟩
theorem ads (s:List UInt8) (H:List AO):aA Tryz.prog 132 [sV s] H (aW (iV (R6 s)) H):=by
 refine call132 (by simp) ?_;unfold R6;simp only[go_sem,simprocAttr,FG,J1];cases h0:decide (s=[58,61]);rotate_left
 ·rw[if_pos (of_decide_eq_true h0)]
  simp only[go_sem,simprocAttr,h0];exact⟨rfl,rfl⟩
 rw[if_neg (of_decide_eq_false h0)];cases h1:decide (s=[61]);rotate_left
 ·rw[if_pos (.inl (of_decide_eq_true h1))]
  simp only[go_sem,simprocAttr,h0,h1];exact⟨rfl,rfl⟩
 cases h2:decide (s=[60]);rotate_left
 ·rw[if_pos (.inr (of_decide_eq_true h2))]
  simp only[go_sem,simprocAttr,h0,h1,h2];exact⟨rfl,rfl⟩
 rw[if_neg (by rw[not_or];exact⟨of_decide_eq_false h1,of_decide_eq_false h2⟩)];cases h3:decide (s=[42]);rotate_left
 ·rw[if_pos (of_decide_eq_true h3)]
  simp only[go_sem,simprocAttr,h0,h1,h2,h3];exact⟨rfl,rfl⟩
 rw[if_neg (of_decide_eq_false h3)];simp only[go_sem,simprocAttr,h0,h1,h2,h3];exact⟨rfl,rfl⟩
section
variable {T:List Tok} {lim e:Nat} (hT:bL T) (aO:T.length<=1073741825)
include hT aO
theorem FL {L:Nat} (h1:1<=L) (h4:L<=4):PF (bO T lim) T e 178 [iV L] (r8 (im T (wS L))) bV:=by
 refine dy (dA T lim) fun H p s hp hs=>?_
 refine call178 (by simp) ?_;simp only[go_sem,simprocAttr,JZ,RD];refine U (kb.nil hp hs) ?_;unfold im bB;rw[<-adr h1 h4];simp only[go_sem,simprocAttr,qp hp,bO,Tok.cells];cases h0:decide (s.c=0)
 ·simp only[go_sem,simprocAttr,h0,Bool.false_and]
  exact⟨_,rfl,bt (bw _)⟩
 cases h7:decide ((aJ T s).k=7)
 ·simp only[go_sem,simprocAttr,h0,h7,Bool.false_and,Bool.and_false]
  exact⟨_,rfl,bt (bw _)⟩
 simp only[go_sem,simprocAttr,h0,h7];refine U (aa9 _ _) ?_;cases hb:HP (aJ T s).t
 ·simp only[go_sem,simprocAttr,hb,Bool.false_and,Bool.and_false]
  exact⟨_,rfl,bt (bw _)⟩
 simp only[go_sem,simprocAttr,hb];refine U (ads _ _) ?_;simp only[go_sem,simprocAttr,Bool.true_and];exact⟨_,rfl,bt (bw _)⟩
theorem XF {ex:PM aa} (hr:PF (bO T lim) T e 38 [] ex jM) (sr:ab T ex):PF (bO T lim) T e 136 [iV 5] (jZ T T.length ex) jM:=by
 have hA:=adq hT aO hr sr;refine dy (dA T lim) fun H p s hp hs=>?_
 refine call136 (by simp) ?_;simp only[go_sem,simprocAttr,wP,zy];refine U (hA H _ p s hp hs) ?_;rcases hq:jZ T T.length ex s with⟨⟨k,n,u,t,q,ks,ms⟩,s1⟩
 simp only[go_sem,simprocAttr,aa.cells];exact⟨_,rfl,bt (dK (aa.cells (.mk k n u t q ks ms)))⟩
theorem XG {ex:PM aa} (hr:PF (bO T lim) T e 136 [iV 5] (jZ T T.length ex) jM) (sr:ab T ex):PF (bO T lim) T e 136 [iV 4] (lk T T.length ex) jM:=by
  have sA:=uc (N:=T.length) hT sr;refine dy (dA T lim) fun H p s hp hs=> ?_
  have ew:wr .i64 (4+1)=5:=by decide
  refine call136 (by simp) ?_;simp only[go_sem,simprocAttr,wP,zy,ew];refine U (hr H _ p s hp hs) ?_;have bG:=hs.run sA;rcases hq:jZ T T.length ex s with⟨⟨k,n,u,t,q,ks,ms⟩,s1⟩
  rw[hq]at bG;have iL:lk T T.length ex s=lP T T.length (wS 4) (jZ T T.length ex) (.mk k n u t q ks ms) s1:=by unfold lk;rw[aP,hq];rfl
  rw[iL];unfold lP;generalize hR:carry (im T (wS 4)) (fun a=>eI T fun t=>bT (aH (jZ T T.length ex) fun b=>aT (node2 14 t.t t.p a b))) T.length (.mk k n u t q ks ms) s1=R;simp only[go_sem,simprocAttr,aa.cells]
  refine⟨Nat×PS×aa×List AO,[0,1,4,5],fun x st=>(Lc T e (im T (wS 4)) (fun a=>eI T fun t=>bT (aH (jZ T T.length ex) fun b=>aT (node2 14 t.t t.p a b))) R x.1 x.2.1 x.2.2.1∧EvA H p (bO T lim x.2.1) x.2.2.2 1 x.2.2.1∧x.2.2.2[0]?=some ZE)∧
      st=⟨[(0, .ptr p 0),(1,iV 4),(4, .ptr H.length 0),(5, .ptr (H.length+1) 0)],[],H.set p (bO T lim x.2.1)++x.2.2.2⟩,fun x=>T.length-x.2.1.i,⟨(T.length,s1, .mk k n u t q ks ms,[ZE, .var [iV k,sV n,iV u,sV t,iV q, .p (.l (aa.aV ks)), .p (.l (aa.bR ms))]]), ?_⟩, ?_⟩
  · simp only[go_sem,simprocAttr]
    exact⟨Lc.start bG hR,_,_,_,_,_,_,_,_,_,rfl, .p _, .p _,rfl⟩
  · rintro⟨j,s',x,A⟩ _ ⟨⟨hL,⟨k,n,u,t,q,ks,ms,a,b,HO,ha,hb,i9⟩,i8⟩,rfl⟩
    simp only at hL HO ha hb i8 i9⊢;subst HO;simp only[go_sem,simprocAttr];refine U (FL hT aO (L:=4) (by decide) (by decide) H _ p s' hp hL.ok) ?_;cases hg:im T (wS 4) s'
    · have R5:=hL.stop hg
      subst R5;have hz:∀o,(A.set 0 o)[0]?=some o:=fun o=>bg i8
      simp only[go_sem,simprocAttr,hg,i9,i8,hz];exact⟨_,rfl,cQ (cG.uo (ke (lW i8)) ha) (cG.uo (ke (lW i8)) hb)⟩
    · obtain⟨j,rfl⟩:=hL.succ (eE _) hg
      have FM:=(eE _ s' hg).2;have dJ:=hL.ok.aI hT FM;have bD:=dJ.run sA;have cJ:=(gU.aI hT sA hL.ok.1 FM).1;simp only[go_sem,simprocAttr,hg];refine U (kb H _ p s' hp hL.ok) ?_;have wT:∀r,jZ T T.length ex (aI s')=r→(fun a=>eI T fun t=>bT (aH (jZ T T.length ex) fun b=>aT (node2 14 t.t t.p a b))) (aa.mk k n u t q ks ms) s'=(node2 14 (aJ T s').t (aJ T s').p (.mk k n u t q ks ms) r.1,r.2):=fun r h=>by simp only[bN,bT,aP,h];rfl
      simp only[go_sem,simprocAttr,Tok.cells,qp hp,bO,qq hp,ws aO hL.ok];generalize hx:aJ T s'=x at wT⊢;obtain⟨tk,tt,tn,tp⟩:=x;have fold:AO.var [sY T,iV (s'.i+1:Nat),iV s'.nest,iV s'.d,iV lim,iV s'.c,iV s'.ps]=bO T lim (aI s'):=rfl;rw[fold];have Kg:=ay i8 [AO.var [iV tk,sV tt,iV tn,iV tp]];have wR:=ay i9 [AO.var [iV tk,sV tt,iV tn,iV tp]];refine⟨_,Qp.hx hp _ _, ?_⟩;simp only[go_sem,simprocAttr,wR,zA,aa8,ew];refine aR _ _ (by simp) (Qp.hx hp _ _) (hr.chain hp dJ) ?_;rcases ez:jZ T T.length ex (aI s')with⟨y,s2⟩
      rw[ez]at cJ bD;have hm:=wT _ ez;obtain⟨k',n',u',t',q',kY,mQ⟩:=y;have Kg:=ay i8 [AO.var [iV tk,sV tt,iV tn,iV tp],AO.rows 7 0 [[iV k,sV n,iV u,sV t,iV q,a,b],[iV k',sV n',iV u',sV t',iV q', .p (.l (aa.aV kY)), .p (.l (aa.bR mQ))]]];have wR:=ay i9 [AO.var [iV tk,sV tt,iV tn,iV tp],AO.rows 7 0 [[iV k,sV n,iV u,sV t,iV q,a,b],[iV k',sV n',iV u',sV t',iV q', .p (.l (aa.aV kY)), .p (.l (aa.bR mQ))]]];simp only[go_sem,simprocAttr,aa.cells,wR,Nat.add_zero]
      have cX:1≠A.length+1:=by intro h;have :A.length=0:=by omega
                               rw[List.length_eq_zero_iff.1 this]at i9;simp at i9
      refine⟨(j,s2,node2 14 tt tp (.mk k n u t q ks ms) (.mk k' n' u' t' q' kY mQ),_),⟨⟨hL.next (eE _) hg hm bD cJ,⟨14,tt,0,[],tp,_,[],_, .p .nl,rfl, ?_,by rw[aa.bR];exact .nl,bg wR⟩,aU Kg (by decide)⟩,rfl⟩,by have h1:s'.i<s2.i:=cJ;have :=hL.ok.1;simp only;omega⟩;exact zD ha hb (fun k sz ver rs h=>lW wR k sz ver rs (ay h _)) (aU (by rw[fU];rfl) cX)
theorem XH {ex:PM aa} (hr:PF (bO T lim) T e 136 [iV 4] (lk T T.length ex) jM) (sr:ab T ex):PF (bO T lim) T e 136 [iV 3] (pg T T.length ex) jM:=by
  have sA:=ud (N:=T.length) hT sr;refine dy (dA T lim) fun H p s hp hs=> ?_
  have ew:wr .i64 (3+1)=4:=by decide
  refine call136 (by simp) ?_;simp only[go_sem,simprocAttr,wP,zy,ew];refine U (hr H _ p s hp hs) ?_;have bG:=hs.run sA;rcases hq:lk T T.length ex s with⟨⟨k,n,u,t,q,ks,ms⟩,s1⟩
  rw[hq]at bG;have iL:pg T T.length ex s=lP T T.length (wS 3) (lk T T.length ex) (.mk k n u t q ks ms) s1:=by unfold pg;rw[aP,hq];rfl
  rw[iL];unfold lP;generalize hR:carry (im T (wS 3)) (fun a=>eI T fun t=>bT (aH (lk T T.length ex) fun b=>aT (node2 14 t.t t.p a b))) T.length (.mk k n u t q ks ms) s1=R;simp only[go_sem,simprocAttr,aa.cells]
  refine⟨Nat×PS×aa×List AO,[0,1,4,5],fun x st=>(Lc T e (im T (wS 3)) (fun a=>eI T fun t=>bT (aH (lk T T.length ex) fun b=>aT (node2 14 t.t t.p a b))) R x.1 x.2.1 x.2.2.1∧EvA H p (bO T lim x.2.1) x.2.2.2 1 x.2.2.1∧x.2.2.2[0]?=some ZE)∧
      st=⟨[(0, .ptr p 0),(1,iV 3),(4, .ptr H.length 0),(5, .ptr (H.length+1) 0)],[],H.set p (bO T lim x.2.1)++x.2.2.2⟩,fun x=>T.length-x.2.1.i,⟨(T.length,s1, .mk k n u t q ks ms,[ZE, .var [iV k,sV n,iV u,sV t,iV q, .p (.l (aa.aV ks)), .p (.l (aa.bR ms))]]), ?_⟩, ?_⟩
  · simp only[go_sem,simprocAttr]
    exact⟨Lc.start bG hR,_,_,_,_,_,_,_,_,_,rfl, .p _, .p _,rfl⟩
  · rintro⟨j,s',x,A⟩ _ ⟨⟨hL,⟨k,n,u,t,q,ks,ms,a,b,HO,ha,hb,i9⟩,i8⟩,rfl⟩
    simp only at hL HO ha hb i8 i9⊢;subst HO;simp only[go_sem,simprocAttr];refine U (FL hT aO (L:=3) (by decide) (by decide) H _ p s' hp hL.ok) ?_;cases hg:im T (wS 3) s'
    · have R5:=hL.stop hg
      subst R5;have hz:∀o,(A.set 0 o)[0]?=some o:=fun o=>bg i8
      simp only[go_sem,simprocAttr,hg,i9,i8,hz];exact⟨_,rfl,cQ (cG.uo (ke (lW i8)) ha) (cG.uo (ke (lW i8)) hb)⟩
    · obtain⟨j,rfl⟩:=hL.succ (eE _) hg
      have FM:=(eE _ s' hg).2;have dJ:=hL.ok.aI hT FM;have bD:=dJ.run sA;have cJ:=(gU.aI hT sA hL.ok.1 FM).1;simp only[go_sem,simprocAttr,hg];refine U (kb H _ p s' hp hL.ok) ?_;have wT:∀r,lk T T.length ex (aI s')=r→(fun a=>eI T fun t=>bT (aH (lk T T.length ex) fun b=>aT (node2 14 t.t t.p a b))) (aa.mk k n u t q ks ms) s'=(node2 14 (aJ T s').t (aJ T s').p (.mk k n u t q ks ms) r.1,r.2):=fun r h=>by simp only[bN,bT,aP,h];rfl
      simp only[go_sem,simprocAttr,Tok.cells,qp hp,bO,qq hp,ws aO hL.ok];generalize hx:aJ T s'=x at wT⊢;obtain⟨tk,tt,tn,tp⟩:=x;have fold:AO.var [sY T,iV (s'.i+1:Nat),iV s'.nest,iV s'.d,iV lim,iV s'.c,iV s'.ps]=bO T lim (aI s'):=rfl;rw[fold];have Kg:=ay i8 [AO.var [iV tk,sV tt,iV tn,iV tp]];have wR:=ay i9 [AO.var [iV tk,sV tt,iV tn,iV tp]];refine⟨_,Qp.hx hp _ _, ?_⟩;simp only[go_sem,simprocAttr,wR,zA,aa8,ew];refine aR _ _ (by simp) (Qp.hx hp _ _) (hr.chain hp dJ) ?_;rcases ez:lk T T.length ex (aI s')with⟨y,s2⟩
      rw[ez]at cJ bD;have hm:=wT _ ez;obtain⟨k',n',u',t',q',kY,mQ⟩:=y;have Kg:=ay i8 [AO.var [iV tk,sV tt,iV tn,iV tp],AO.rows 7 0 [[iV k,sV n,iV u,sV t,iV q,a,b],[iV k',sV n',iV u',sV t',iV q', .p (.l (aa.aV kY)), .p (.l (aa.bR mQ))]]];have wR:=ay i9 [AO.var [iV tk,sV tt,iV tn,iV tp],AO.rows 7 0 [[iV k,sV n,iV u,sV t,iV q,a,b],[iV k',sV n',iV u',sV t',iV q', .p (.l (aa.aV kY)), .p (.l (aa.bR mQ))]]];simp only[go_sem,simprocAttr,aa.cells,wR,Nat.add_zero]
      have cX:1≠A.length+1:=by intro h;have :A.length=0:=by omega
                               rw[List.length_eq_zero_iff.1 this]at i9;simp at i9
      refine⟨(j,s2,node2 14 tt tp (.mk k n u t q ks ms) (.mk k' n' u' t' q' kY mQ),_),⟨⟨hL.next (eE _) hg hm bD cJ,⟨14,tt,0,[],tp,_,[],_, .p .nl,rfl, ?_,by rw[aa.bR];exact .nl,bg wR⟩,aU Kg (by decide)⟩,rfl⟩,by have h1:s'.i<s2.i:=cJ;have :=hL.ok.1;simp only;omega⟩;exact zD ha hb (fun k sz ver rs h=>lW wR k sz ver rs (ay h _)) (aU (by rw[fU];rfl) cX)
theorem XI {ex:PM aa} (hr:PF (bO T lim) T e 136 [iV 3] (pg T T.length ex) jM) (sr:ab T ex):PF (bO T lim) T e 136 [iV 2] (ph T T.length ex) jM:=by
 have sA:=ue (N:=T.length) hT sr;refine dy (dA T lim) fun H p s hp hs=>?_
 have ew:wr .i64 (2+1)=3:=by decide
 refine call136 (by simp) ?_;simp only[go_sem,simprocAttr,wP,zy,ew];refine U (hr H _ p s hp hs) ?_;have bG:=hs.run sA;rcases hq:pg T T.length ex s with⟨⟨k,n,u,t,q,ks,ms⟩,s1⟩
 rw[hq]at bG;rw[show ph T T.length ex s=fj T (im T (wS 2)) (pg T T.length ex) (.mk k n u t q ks ms) s1 by unfold ph;rw[aP,hq];rfl];unfold fj;rw[bN];simp only[go_sem,simprocAttr,aa.cells];refine⟨Unit,[0,1,4,5],fun _ st=>st=⟨[(0,.ptr p 0),(1,iV 2),(4,.ptr H.length 0),(5,.ptr (H.length+1) 0)],[],H.set p (bO T lim s1)++[ZE,.var [iV k,sV n,iV u,sV t,iV q,.p (.l (aa.aV ks)),.p (.l (aa.bR ms))]]⟩,fun _=>0,⟨(),?_⟩,?_⟩
 ·simp only[go_sem,simprocAttr]
 ·rintro _ _ rfl
  simp only[go_sem,simprocAttr];refine U (FL hT aO (L:=2) (by decide) (by decide) H _ p s1 hp bG) ?_;cases hg:im T (wS 2) s1
  ·rw[aZ hg]
   simp only[go_sem,simprocAttr,hg];exact⟨_,rfl,bt (dK (aa.cells (.mk k n u t q ks ms)))⟩
  ·have FM:=(eE _ s1 hg).2
   have dJ:=bG.aI hT FM;rw[aS hg];simp only[go_sem,simprocAttr,hg];refine U (kb H _ p s1 hp bG) ?_;simp only[go_sem,simprocAttr,Tok.cells,qp hp,bO,qq hp,ws aO bG];generalize hx:aJ T s1=x;obtain⟨tk,tt,tn,tp⟩:=x;have fold:AO.var [sY T,iV (s1.i+1:Nat),iV s1.nest,iV s1.d,iV lim,iV s1.c,iV s1.ps]=bO T lim (aI s1):=rfl;rw[fold];refine⟨_,Qp.hx hp _ _,?_⟩;simp only[go_sem,simprocAttr,ew];refine aR _ _ (by simp) (Qp.hx hp _ _) (hr.chain hp dJ) ?_;rw[aP];rcases ez:pg T T.length ex (aI s1)with⟨⟨k',n',u',t',q',kY,mQ⟩,s2⟩
   simp only[go_sem,simprocAttr,aa.cells,Nat.add_zero];exact⟨_,rfl,cQ (dx (n:=H.length) (ys:=[aa.cells (.mk k n u t q ks ms),aa.cells (.mk k' n' u' t' q' kY mQ)]) (by omega) (by rw[lV];rfl) (by intro y hy;simp at hy;rcases hy with rfl|rfl<;>rfl)) (by rw[aa.bR];exact .nl)⟩
theorem XJ {ex:PM aa} (hr:PF (bO T lim) T e 136 [iV 2] (ph T T.length ex) jM) (sr:ab T ex):PF (bO T lim) T e 136 [iV 1] (tZ T T.length ex) jM:=by
 have sA:=uf (N:=T.length) hT sr;refine dy (dA T lim) fun H p s hp hs=>?_
 have ew:wr .i64 (1+1)=2:=by decide
 refine call136 (by simp) ?_;simp only[go_sem,simprocAttr,wP,zy,ew];refine U (hr H _ p s hp hs) ?_;have bG:=hs.run sA;rcases hq:ph T T.length ex s with⟨⟨k,n,u,t,q,ks,ms⟩,s1⟩
 rw[hq]at bG;rw[show tZ T T.length ex s=fj T (im T (wS 1)) (ph T T.length ex) (.mk k n u t q ks ms) s1 by unfold tZ;rw[aP,hq];rfl];unfold fj;rw[bN];simp only[go_sem,simprocAttr,aa.cells];refine⟨Unit,[0,1,4,5],fun _ st=>st=⟨[(0,.ptr p 0),(1,iV 1),(4,.ptr H.length 0),(5,.ptr (H.length+1) 0)],[],H.set p (bO T lim s1)++[ZE,.var [iV k,sV n,iV u,sV t,iV q,.p (.l (aa.aV ks)),.p (.l (aa.bR ms))]]⟩,fun _=>0,⟨(),?_⟩,?_⟩
 ·simp only[go_sem,simprocAttr]
 ·rintro _ _ rfl
  simp only[go_sem,simprocAttr];refine U (FL hT aO (L:=1) (by decide) (by decide) H _ p s1 hp bG) ?_;cases hg:im T (wS 1) s1
  ·rw[aZ hg]
   simp only[go_sem,simprocAttr,hg];exact⟨_,rfl,bt (dK (aa.cells (.mk k n u t q ks ms)))⟩
  ·have FM:=(eE _ s1 hg).2
   have dJ:=bG.aI hT FM;rw[aS hg];simp only[go_sem,simprocAttr,hg];refine U (kb H _ p s1 hp bG) ?_;simp only[go_sem,simprocAttr,Tok.cells,qp hp,bO,qq hp,ws aO bG];generalize hx:aJ T s1=x;obtain⟨tk,tt,tn,tp⟩:=x;have fold:AO.var [sY T,iV (s1.i+1:Nat),iV s1.nest,iV s1.d,iV lim,iV s1.c,iV s1.ps]=bO T lim (aI s1):=rfl;rw[fold];refine⟨_,Qp.hx hp _ _,?_⟩;simp only[go_sem,simprocAttr,ew];refine aR _ _ (by simp) (Qp.hx hp _ _) (hr.chain hp dJ) ?_;rw[aP];rcases ez:ph T T.length ex (aI s1)with⟨⟨k',n',u',t',q',kY,mQ⟩,s2⟩
   simp only[go_sem,simprocAttr,aa.cells,Nat.add_zero];exact⟨_,rfl,cQ (dx (n:=H.length) (ys:=[aa.cells (.mk k n u t q ks ms),aa.cells (.mk k' n' u' t' q' kY mQ)]) (by omega) (by rw[lV];rfl) (by intro y hy;simp at hy;rcases hy with rfl|rfl<;>rfl)) (by rw[aa.bR];exact .nl)⟩
end
abbrev agw (t:al):AV:=.st (t.cells.map .p)
theorem agx (t:al):t.cells.length=12:=by
 obtain⟨p,x⟩:=t;rw[al.cells,List.length_append,RY,FK]
def R7 (T:List Tok) (N:Nat) (pat:PM ae) (ex:PM aa):PM aa:=eI T fun t=>
 bm (aL T [108,101,116]) (vT T ex t.p)<|bm (aL T [102,117,110]) (xV T ex t.p)<|bm (aL T [105,102]) (Fs T ex t.p)<|
 bm (aL T [109,97,116,99,104]) (xW T N pat ex t.p) (tZ T N ex)
section
variable {T:List Tok} {lim e:Nat} (hT:bL T) (aO:T.length<=1073741825)
include hT aO
theorem N3 {pat:PM ae} {ex:PM aa} (iI:ab T pat) (hex:ab T ex):ab T (R7 T T.length pat ex):=
 (ab.now fun _=>(ab.bm hT (aB T _) (wG hT hex) (ab.bm hT (aB T _) (wH hT hex) (ab.bm hT (aB T _) (zn hT hex) (ab.bm hT (aB T _) (xX hT iI hex) (Aw hT hex))))))
theorem adt {pat:PM ae} {ex:PM aa} (hP:PF (bO T lim) T e 176 [] pat x9) (sP:ab T pat) (hr:PF (bO T lim) T e 38 [] ex jM) (sr:ab T ex):PF (bO T lim) T e 135 [] (iH T pat ex) agw:=by
 refine dy (dA T lim) fun H p s hp hs=>?_
 refine call135 (by simp) ?_;simp only[go_sem,simprocAttr,JW,Rz];refine U (hP H _ p s hp hs) ?_;have bG:=hs.run sP;rcases hq:pat s with⟨⟨k,n,u,q,ks⟩,s1⟩
 rw[hq]at bG;simp only[go_sem,simprocAttr,ae.cells];refine U (gZ aO [45,62] H _ p s1 hp bG) ?_;have bD:=bG.step (aK hT [45,62]);simp only[go_sem,simprocAttr];refine U (hr H _ p _ hp bD) ?_;rcases ez:ex (aX T [45,62] s1)with⟨⟨k',n',u',t',q',kY,mQ⟩,s3⟩
 have iL:iH T pat ex s=(.mk (.mk k n u q ks) (.mk k' n' u' t' q' kY mQ),s3):=by unfold iH;rw[aP,hq,da,aP,ez];rfl
 rw[iL];simp only[go_sem,simprocAttr,aa.cells];exact⟨_,rfl,bt (dK (al.cells (.mk (.mk k n u q ks) (.mk k' n' u' t' q' kY mQ))))⟩
theorem agy {pat:PM ae} {ex:PM aa} (hP:PF (bO T lim) T e 176 [] pat x9) (sP:ab T pat) (hr:PF (bO T lim) T e 38 [] ex jM) (sr:ab T ex):PF (bO T lim) T e 79 [] (R7 T T.length pat ex) jM:=by
 have hO:=XJ hT aO (XI hT aO (XH hT aO (XG hT aO (XF hT aO hr sr) sr) sr) sr) sr;have aba:=adt hT aO hP sP hr sr;have HQ:=pr hT sP sr;refine dy (dA T lim) fun H p s hp hs=>?_
 refine call79 (by simp) ?_;simp only[go_sem,simprocAttr,Rr,aaX];refine U (kb H _ p s hp hs) ?_;unfold R7;rw[bN];simp only[go_sem,simprocAttr,Tok.cells];generalize (aJ T s).p=tp;refine U (nI aO [108,101,116] H _ p s hp hs) ?_;unfold dm;cases c1:aL T [108,101,116] s;rotate_left
 ·rw[aS c1]
  have bG:=hs.aI hT (cH c1).2;simp only[go_sem,simprocAttr,c1];refine U (nI aO [114,101,99] H _ p _ hp bG) ?_;unfold vT dm;cases c2:aL T [114,101,99] (aI s)
  ·rw[aZ c2]
   simp only[go_sem,simprocAttr,c2];refine U (um aO 3 H _ p _ hp bG) ?_;have bD:=bG.run (ab.word hT (k:=3) (by decide));rcases ez:cZ T 3 (aI s)with⟨w1,s2⟩
   rw[ez]at bD;simp only[go_sem,simprocAttr];refine U (gZ aO [61] H _ p _ hp bD) ?_;have rn:=bD.step (aK hT [61]);simp only[go_sem,simprocAttr];refine⟨_,Qp.hx hp _ _,?_⟩;simp only[go_sem,simprocAttr];refine aR _ _ (by simp) (Qp.hx hp _ _) (hr.chain hp rn) ?_;have nJ:=rn.run sr;rcases wU:ex (aX T [61] s2)with⟨⟨k1,n1,u1,t1,q1,AW,AX⟩,s4⟩
   rw[wU]at nJ;simp only[go_sem,simprocAttr,aa.cells,Nat.add_zero];refine⟨by intro r hr;simp at hr;subst hr;rfl,?_⟩;refine U (gZ aO [105,110] H _ p _ hp nJ) ?_;have ya:=nJ.step (aK hT [105,110]);simp only[go_sem,simprocAttr];refine⟨_,Qp.hx hp _ _,?_⟩;simp only[go_sem,simprocAttr];refine aR _ _ (by simp) (Qp.hx hp _ _) (hr.chain hp ya) ?_;have yb:=ya.run sr;rcases yc:ex (aX T [105,110] s4)with⟨⟨k2,n2,u2,t2,q2,R8,R9⟩,s6⟩
   rw[yc]at yb;simp only[go_sem,simprocAttr,aa.cells,Nat.add_zero];refine⟨by intro r hr;simp at hr;subst hr;rfl,?_⟩;simp only[aP,da,ie,ez,wU,yc];exact⟨_,rfl,cQ (dx (n:=H.length) (ys:=[aa.cells (.mk k1 n1 u1 t1 q1 AW AX),aa.cells (.mk k2 n2 u2 t2 q2 R8 R9)]) (by omega) (by rw[lV];rfl) (by intro y hy;simp at hy;rcases hy with rfl|rfl<;>rfl)) (by rw[aa.bR];exact .nl)⟩
  ·rw[aS c2]
   have bG:=bG.aI hT (cH c2).2;simp only[go_sem,simprocAttr,c2];refine U (um aO 3 H _ p _ hp bG) ?_;have bD:=bG.run (ab.word hT (k:=3) (by decide));rcases ez:cZ T 3 (aI (aI s))with⟨w1,s2⟩
   rw[ez]at bD;simp only[go_sem,simprocAttr];refine U (um aO 3 H _ p _ hp bD) ?_;have eL:=bD.run (ab.word hT (k:=3) (by decide));rcases fF:cZ T 3 s2 with⟨w2,s3⟩
   rw[fF]at eL;simp only[go_sem,simprocAttr];refine U (gZ aO [61] H _ p _ hp eL) ?_;have rp:=eL.step (aK hT [61]);simp only[go_sem,simprocAttr];refine⟨_,Qp.hx hp _ _,?_⟩;simp only[go_sem,simprocAttr];refine aR _ _ (by simp) (Qp.hx hp _ _) (hr.chain hp rp) ?_;have kR:=rp.run sr;rcases kE:ex (aX T [61] s3)with⟨⟨k1,n1,u1,t1,q1,AW,AX⟩,s5⟩
   rw[kE]at kR;simp only[go_sem,simprocAttr,aa.cells,Nat.add_zero];refine⟨by intro r hr;simp at hr;subst hr;rfl,?_⟩;refine U (gZ aO [105,110] H _ p _ hp kR) ?_;have abb:=kR.step (aK hT [105,110]);simp only[go_sem,simprocAttr];refine⟨_,Qp.hx hp _ _,?_⟩;simp only[go_sem,simprocAttr];refine aR _ _ (by simp) (Qp.hx hp _ _) (hr.chain hp abb) ?_;have N4:=abb.run sr;rcases N5:ex (aX T [105,110] s5)with⟨⟨k2,n2,u2,t2,q2,R8,R9⟩,s7⟩
   rw[N5]at N4;simp only[go_sem,simprocAttr,aa.cells,Nat.add_zero];refine⟨by intro r hr;simp at hr;subst hr;rfl,?_⟩;simp only[aP,da,ie,ez,fF,kE,N5];exact⟨_,rfl,cQ (dx (n:=H.length) (ys:=[aa.cells (.mk k1 n1 u1 t1 q1 AW AX),aa.cells (.mk k2 n2 u2 t2 q2 R8 R9)]) (by omega) (by rw[lV];rfl) (by intro y hy;simp at hy;rcases hy with rfl|rfl<;>rfl)) (by rw[aa.bR];exact .nl)⟩
 rw[aZ c1];simp only[go_sem,simprocAttr,c1];refine U (nI aO [102,117,110] H _ p s hp hs) ?_;unfold dm;cases c2:aL T [102,117,110] s;rotate_left
 ·rw[aS c2]
  have bG:=hs.aI hT (cH c2).2;unfold xV;simp only[go_sem,simprocAttr,c2];refine U (um aO 3 H _ p _ hp bG) ?_;have bD:=bG.run (ab.word hT (k:=3) (by decide));rcases ez:cZ T 3 (aI s)with⟨w1,s2⟩
  rw[ez]at bD;simp only[go_sem,simprocAttr];refine U (gZ aO [45,62] H _ p _ hp bD) ?_;have rn:=bD.step (aK hT [45,62]);simp only[go_sem,simprocAttr];refine⟨_,Qp.hx hp _ _,?_⟩;simp only[go_sem,simprocAttr];refine aR _ _ (by simp) (Qp.hx hp _ _) (hr.chain hp rn) ?_;have nJ:=rn.run sr;rcases wU:ex (aX T [45,62] s2)with⟨⟨k1,n1,u1,t1,q1,AW,AX⟩,s4⟩
  rw[wU]at nJ;simp only[go_sem,simprocAttr,aa.cells,Nat.add_zero];refine⟨by intro r hr;simp at hr;subst hr;rfl,?_⟩;simp only[aP,da,ie,ez,wU];exact⟨_,rfl,cQ (dx (n:=H.length) (ys:=[aa.cells (.mk k1 n1 u1 t1 q1 AW AX)]) (by omega) (by rw[lV];rfl) (by intro y hy;simp at hy;subst hy;rfl)) (by rw[aa.bR];exact .nl)⟩
 rw[aZ c2];simp only[go_sem,simprocAttr,c2];refine U (nI aO [105,102] H _ p s hp hs) ?_;unfold dm;cases c3:aL T [105,102] s;rotate_left
 ·rw[aS c3]
  have bG:=hs.aI hT (cH c3).2;unfold Fs;simp only[go_sem,simprocAttr,c3];refine⟨_,Qp.hx hp _ _,?_⟩;simp only[go_sem,simprocAttr];refine aR _ _ (by simp) (Qp.hx hp _ _) (hr.chain hp bG) ?_;have bD:=bG.run sr;rcases ez:ex (aI s)with⟨⟨k1,n1,u1,t1,q1,AW,AX⟩,s2⟩
  rw[ez]at bD;simp only[go_sem,simprocAttr,aa.cells,Nat.add_zero];refine⟨by intro r hr;simp at hr;subst hr;rfl,?_⟩;refine U (gZ aO [116,104,101,110] H _ p _ hp bD) ?_;have rn:=bD.step (aK hT [116,104,101,110]);simp only[go_sem,simprocAttr];refine⟨_,Qp.hx hp _ _,?_⟩;simp only[go_sem,simprocAttr];refine aR _ _ (by simp) (Qp.hx hp _ _) (hr.chain hp rn) ?_;have nJ:=rn.run sr;rcases wU:ex (aX T [116,104,101,110] s2)with⟨⟨k2,n2,u2,t2,q2,R8,R9⟩,s4⟩
  rw[wU]at nJ;simp only[go_sem,simprocAttr,aa.cells,Nat.add_zero];refine⟨by intro r hr;simp at hr;subst hr;rfl,?_⟩;refine U (gZ aO [101,108,115,101] H _ p _ hp nJ) ?_;have ya:=nJ.step (aK hT [101,108,115,101]);simp only[go_sem,simprocAttr];refine⟨_,Qp.hx hp _ _,?_⟩;simp only[go_sem,simprocAttr];refine aR _ _ (by simp) (Qp.hx hp _ _) (hr.chain hp ya) ?_;have yb:=ya.run sr;rcases yc:ex (aX T [101,108,115,101] s4)with⟨⟨k3,n3,u3,t3,q3,ks3,ms3⟩,s6⟩
  rw[yc]at yb;simp only[go_sem,simprocAttr,aa.cells,Nat.add_zero];refine⟨by intro r hr;simp at hr;subst hr;rfl,?_⟩;simp only[aP,da,ie,ez,wU,yc];exact⟨_,rfl,cQ (dx (n:=H.length) (ys:=[aa.cells (.mk k1 n1 u1 t1 q1 AW AX),aa.cells (.mk k2 n2 u2 t2 q2 R8 R9),aa.cells (.mk k3 n3 u3 t3 q3 ks3 ms3)]) (by omega) (by rw[lV];rfl) (by intro y hy;simp at hy;rcases hy with rfl|rfl|rfl<;>rfl)) (by rw[aa.bR];exact .nl)⟩
 rw[aZ c3];simp only[go_sem,simprocAttr,c3];refine U (nI aO [109,97,116,99,104] H _ p s hp hs) ?_;unfold dm;cases c4:aL T [109,97,116,99,104] s
 ·rw[aZ c4]
  simp only[go_sem,simprocAttr,c4];refine U (hO H _ p s hp hs) ?_;rcases hq:tZ T T.length ex s with⟨⟨k,n,u,t,q,ks,ms⟩,s1⟩
  simp only[go_sem,simprocAttr,aa.cells];exact⟨_,rfl,bt (dK (aa.cells (.mk k n u t q ks ms)))⟩
 ·rw[aS c4]
  have bG:=hs.aI hT (cH c4).2;unfold xW;simp only[go_sem,simprocAttr,c4];refine⟨_,Qp.hx hp _ _,?_⟩;simp only[go_sem,simprocAttr];refine aR _ _ (by simp) (Qp.hx hp _ _) (hr.chain hp bG) ?_;have bD:=bG.run sr;rcases ez:ex (aI s)with⟨⟨k1,n1,u1,t1,q1,AW,AX⟩,s2⟩
  rw[ez]at bD;simp only[go_sem,simprocAttr,aa.cells,Nat.add_zero];refine⟨by intro r hr;simp at hr;subst hr;rfl,?_⟩;refine U (gZ aO [119,105,116,104] H _ p _ hp bD) ?_;have rn:=bD.step (aK hT [119,105,116,104]);simp only[go_sem,simprocAttr];refine U (gZ aO [124] H _ p _ hp rn) ?_;have rp:=rn.step (aK hT [124]);simp only[go_sem,simprocAttr];refine⟨_,Qp.hx hp _ _,?_⟩;simp only[go_sem,simprocAttr];refine aR _ _ (by simp) (Qp.hx hp _ _) (aba.chain hp rp) ?_;have kR:=rp.run HQ;rcases kE:iH T pat ex (aX T [124] (aX T [119,105,116,104] s2))with⟨⟨⟨pk,pn,pu,pq,Cs⟩,⟨ak,an,au,at',aq,wV,XK⟩⟩,s5⟩
  rw[kE]at kR;simp only[go_sem,simprocAttr,al.cells,ae.cells,aa.cells,Nat.add_zero];refine⟨by intro r hr;simp at hr;subst hr;rfl,?_⟩;rcases hR:many (aL T [124]) (bT (iH T pat ex)) T.length s5 with⟨Rl,Rs⟩
  simp only[aP,da,ie,pf,ez,kE,hR]
  refine⟨Nat×PS×List al×AV×List AO,[0,2,3],fun x st=>(Lp (bO T lim) T e H p [0,1,3] 12 al.cells (aL T [124]) (bT (iH T pat ex)) ((.mk (.mk pk pn pu pq Cs) (.mk ak an au at' aq wV XK))::Rl) Rs x.1 x.2.1 x.2.2.1 x.2.2.2.1 x.2.2.2.2/\x.2.2.2.2[0]?=some ZE/\x.2.2.2.2[1]?=some (.var [iV 13,sV [],iV 0,sV [],iV tp,.gs (H.length+3) 0 0 1,x.2.2.2.1])/\x.2.2.2.2[3]?=some (.rows 7 0 [[iV k1,sV n1,iV u1,sV t1,iV q1,.p (.l (aa.aV AW)),.p (.l (aa.bR AX))]]))/\
    st=⟨[(0,.ptr p 0),(2,.ptr H.length 0),(3,.ptr (H.length+1) 0)],[],H.set p (bO T lim x.2.1)++x.2.2.2.2⟩,fun x=>T.length-x.2.1.i,⟨(T.length,s5,[(.mk (.mk pk pn pu pq Cs) (.mk ak an au at' aq wV XK))],.gs (H.length+5) 0 0 1,[ZE,.var [iV 13,sV [],iV 0,sV [],iV tp,.gs (H.length+3) 0 0 1,.gs (H.length+5) 0 0 1],.rows 7 0 [[iV k1,sV n1,iV u1,sV t1,iV q1,.p (.l (aa.aV AW)),.p (.l (aa.bR AX))]],.rows 7 0 [[iV k1,sV n1,iV u1,sV t1,iV q1,.p (.l (aa.aV AW)),.p (.l (aa.bR AX))]],.rows 12 0 [[iV pk,sV pn,iV pu,iV pq,.p (.l (ae.aV Cs)),iV ak,sV an,iV au,sV at',iV aq,.p (.l (aa.aV wV)),.p (.l (aa.bR XK))]],.rows 12 0 [[iV pk,sV pn,iV pu,iV pq,.p (.l (ae.aV Cs)),iV ak,sV an,iV au,sV at',iV aq,.p (.l (aa.aV wV)),.p (.l (aa.bR XK))]]]),?_⟩,?_⟩
  ·simp only[go_sem,simprocAttr]
   exact Lp.nd kR hR (by simp) rfl (by decide)
  ·rintro⟨j,s',acc,a,A⟩ _ ⟨⟨hL,i8,i9,i10⟩,rfl⟩
   simp only at hL i8 i9 i10⊢;simp only[go_sem,simprocAttr];refine U (nI aO [124] H _ p s' hp hL.ok) ?_;unfold dm;cases hg:aL T [124] s'
   ·obtain⟨rfl,rfl⟩:=hL.stop hg
    have hz:∀o,(A.set 0 o)[0]?=some o:=fun o=>bg i8
    simp only[go_sem,simprocAttr,hg];refine U (gZ aO [101,110,100] H _ p s' hp hL.ok) ?_;simp only[go_sem,simprocAttr,i9,i8,hz];exact⟨_,rfl,cQ (dx (n:=H.length) (ys:=[aa.cells (.mk k1 n1 u1 t1 q1 AW AX)]) (by omega) (by rw[lV];exact aU i10 (by decide)) (by intro y hy;simp at hy;subst hy;rfl)) (by rw[aa.aN];exact hL.vV (dO (by decide)) agx)⟩
   ·obtain⟨j,rfl⟩:=hL.succ (aB T _) hg
    have dJ:=hL.ok.aI hT (cH hg).2;have bD:=dJ.run HQ;have cJ:=(gU.aI hT HQ hL.ok.1 (cH hg).2).1;simp only[go_sem,simprocAttr,hg];refine⟨_,Qp.hx hp _ _,?_⟩;simp only[go_sem,simprocAttr,i9];refine aR _ _ (by simp) (Qp.hx hp _ _) (aba.chain hp dJ) ?_;rcases Ct:iH T pat ex (aI s')with⟨⟨⟨bk,bn,bu,bq,bks⟩,⟨ck,cn,cu,ct,cq,oF,cms⟩⟩,s9⟩
    rw[Ct]at bD cJ;simp only[go_sem,simprocAttr,al.cells,ae.cells,aa.cells,zA];refine⟨by intro r hr;simp at hr;subst hr;rfl,?_⟩;refine hL.app (fun k o h=>ay h _) aO (by decide) ?_;intro id ver A' k1' k2' Sa;have j0:=(Sa 0 (by decide)).trans i8;have j1:=(Sa 1 (by decide)).trans i9;have j3:=(Sa 3 (by decide)).trans i10;have ain:=bj j3;have hz:∀o,(A'.set 1 o)[1]?=some o:=fun o=>bg j1
    simp only[go_sem,simprocAttr,j1];exact⟨(j,s9,acc++[.mk (.mk bk bn bu bq bks) (.mk ck cn cu ct cq oF cms)],.gs id ver 0 (acc.length+1),A'.set 1 (.var [iV 13,sV [],iV 0,sV [],iV tp,.gs (H.length+3) 0 0 1,.gs id ver 0 (acc.length+1)])),⟨⟨hL.next (aB T _) hg Ct bD cJ k1' k2' (dO (by decide)) (by simp;omega),aU j0 (by decide),hz _,aU j3 (by decide)⟩,rfl⟩,by have h1:s'.i<s9.i:=cJ;have:=hL.ok.1;simp only;omega⟩
theorem adu (hl:lim<=1099511627776) (he:e<=lim) {pat:PM ae} {ex:PM aa} (hP:e<lim->PF (bO T lim) T (e+1) 176 [] pat x9) (sP:ab T pat) (hr:e<lim->PF (bO T lim) T (e+1) 38 [] ex jM) (sr:ab T ex):PF (bO T lim) T e 38 [] (Ce T T.length lim pat ex) jM:=by
 have sA:=N3 hT aO sP sr;refine dy (dA T lim) fun H p s hp hs=>?_
 obtain⟨o1,o2,o3⟩:=zB (lim:=lim) hT aO hs;have hi:=hs.1;have hn:=hs.2;refine call38 (by simp) ?_;simp only[go_sem,simprocAttr,Rm,aaT];refine U (FI hl he H _ p s hp hs) ?_;have iL:Ce T T.length lim pat ex s=p5 T lim Ca (R7 T T.length pat ex) s:=rfl;rw[iL];unfold p5;cases hc:decide ((cF T lim s).c=0)
 ·rw[if_neg (of_decide_eq_false hc)]
  simp only[go_sem,simprocAttr,hc];refine U (sb hl H _ p (cF T lim s) hp (by omega) (by omega) (by omega)) ?_;simp only[go_sem,simprocAttr];exact⟨_,rfl,cQ (by rw[aa.aV];exact .nl) (by rw[aa.bR];exact .nl)⟩
 ·obtain⟨bG,cX⟩:=o3 (of_decide_eq_true hc)
  have hA:=agy hT aO (hP (by omega)) sP (hr (by omega)) sr;rw[if_pos (of_decide_eq_true hc)];simp only[go_sem,simprocAttr,hc];refine U (hA H _ p _ hp bG) ?_;have bD:=bG.run sA;have wo:=sA _ bG.1;rcases hq:R7 T T.length pat ex (cF T lim s)with⟨⟨k,n,u,t,q,ks,ms⟩,s2⟩
  rw[hq]at bD wo;have bh:s2.nest=s.nest+1:=wo.2.2.2.trans o2;simp only[go_sem,simprocAttr,aa.cells];refine U (sb hl H _ p s2 hp bD.1 (by omega) (by omega)) ?_;simp only[go_sem,simprocAttr];exact⟨_,rfl,bt (dK (aa.cells (.mk k n u t q ks ms)))⟩
theorem Sb (hl:lim<=1099511627776):∀k e,e+k=lim+1->0<k->PF (bO T lim) T e 38 [] (Es T T.length lim k) jM
 |0,e,_,h=>absurd h (by omega)
 |k+1,e,h,_=>adu hT aO hl (by omega) (fun aj=>R1 hT aO hl k (e+1) (by omega) (by omega)) (rX hT lim k) (fun aj=>Sb hl k (e+1) (by omega) (by omega)) (wJ hT lim k)
end
theorem az {H:List AO} {n:Nat} (hn:H.length=n) (A:List AO) (p:Nat) (c:AO) (k:Nat):(H.set p c++A)[n+k]?=A[k]?:=by subst hn;exact lV H A p c k
theorem aF {H:List AO} {n:Nat} (hn:H.length=n) (A:List AO) (p:Nat) (c:AO):(H.set p c++A)[n]?=A[0]?:=az hn A p c 0
theorem aE {H:List AO} {n:Nat} (hn:H.length=n) (A:List AO) (p:Nat) (c:AO) (k:Nat) (o:AO):(H.set p c++A).set (n+k) o=H.set p c++A.set k o:=by subst hn;exact qsk H A p c k o
theorem aG {H:List AO} {n:Nat} (hn:H.length=n) (A:List AO) (p:Nat) (c:AO) (o:AO):(H.set p c++A).set n o=H.set p c++A.set 0 o:=aE hn A p c 0 o
theorem qdk (n:Nat) (A:List AO) (k:Nat):(List.replicate n AO.dead++A)[n+k]?=A[k]?:=by
 have:=fU (List.replicate n AO.dead) A k;rwa[List.length_replicate]at this
theorem qd0 (n:Nat) (A:List AO):(List.replicate n AO.dead++A)[n]?=A[0]?:=qdk n A 0
attribute [go_sem] qdk qd0 List.length_replicate
theorem gS {H:List AO} {n:Nat} (hn:H.length=n) (p:Nat) (c:AO) (A:List AO):bP (List.replicate n .dead++A) (H.set p c++A):=fun id o h hd=>by
 rcases Nat.lt_or_ge id n with hi|hi
 ·rw[List.getElem?_append_left (by simpa using hi)]at h
  simp[hi]at h;exact(hd h.symm).elim
 ·obtain⟨k,rfl⟩:=Nat.le.dest hi
  rw[qdk]at h;rw[az hn];exact h
def Kp (b:Nat) (H K:List AO):Prop:=K.length=H.length/\(∀i,i<b->K[i]?=H[i]?)/\∀(i:Nat) o,H[i]?=some o->o≠.iP->K[i]?=some o
theorem Kp.rfl {b:Nat} {H:List AO}:Kp b H H:=⟨Eq.refl _,fun _ _=>Eq.refl _,fun _ _ h _=>h⟩
theorem Kp.trans {b:Nat} {H K L:List AO} (h:Kp b H K) (k:Kp b K L):Kp b H L:=
 ⟨k.1.trans h.1,fun i hi=>(k.2.1 i hi).trans (h.2.1 i hi),fun i o ho hr=>k.2.2 i o (h.2.2 i o ho hr) hr⟩
def Fr (b:Nat) (H:List AO) (N:Nat):Prop:=∃F:List Nat,F.Nodup/\F.length=N/\∀i∈F,b<=i/\H[i]?=some .iP
def Env (b u:Nat) (X:List AO) (ts:List TV) (cs:List AV):Prop:=∃ids,bI X ts cs ids/\ids.Nodup/\ids.length=nC ts/\∀i∈ids,b<=i/\i<u
theorem Env.nil (b u:Nat) (X:List AO):Env b u X [] []:=⟨[],bI.nil X,List.nodup_nil,by rw[nC];rfl,by simp⟩
theorem Env.len {b u:Nat} {X:List AO} {ts:List TV} {cs:List AV} (h:Env b u X ts cs):cs.length=ts.length:=by
 obtain⟨ids,h1,_⟩:=h;exact h1.len
theorem Env.up {b u v:Nat} {X:List AO} {ts:List TV} {cs:List AV} (h:Env b u X ts cs) (hv:u<=v):Env b v X ts cs:=by
 obtain⟨ids,h1,h2,h3,h4⟩:=h;exact⟨ids,h1,h2,h3,fun i hi=>⟨(h4 i hi).1,by have:=(h4 i hi).2;omega⟩⟩
theorem Env.mv {b u:Nat} {X Y:List AO} {ts:List TV} {cs:List AV} (h:Env b u X ts cs) (hk:∀(i sz ver:Nat) rs,b<=i->i<u->X[i]?=some (.rows sz ver rs)->Y[i]?=some (.rows sz ver rs)):Env b u Y ts cs:=by
 obtain⟨ids,h1,h2,h3,h4⟩:=h;refine⟨ids,h1.gf fun i hi o ho=>?_,h2,h3,h4⟩;obtain⟨sz,ver,rs,hr⟩:=h1.rows i hi;rw[hr]at ho;cases ho;exact hk i sz ver rs (h4 i hi).1 (h4 i hi).2 hr
theorem Env.base {b n:Nat} {H A A':List AO} {p:Nat} {c c':AO} {ts:List TV} {cs:List AV} (h:Env b n (H.set p c++A) ts cs) (hn:H.length=n) (hp:p<b):Env b n (H.set p c'++A') ts cs:=
 h.mv fun i sz ver rs h1 h2 h3=>by
  rw[List.getElem?_append_left (by simp;omega),List.getElem?_set_ne (by omega)]at h3⊢;exact h3
theorem Env.q {b u n:Nat} {H A A':List AO} {p:Nat} {c c':AO} {ts:List TV} {cs:List AV} (h:Env b u (H.set p c++A) ts cs) (hn:H.length=n) (hp:p<b)
  (hA:∀(k sz ver:Nat) rs,A[k]?=some (.rows sz ver rs)->A'[k]?=some (.rows sz ver rs)):Env b u (H.set p c'++A') ts cs:=
 h.mv fun i sz ver rs h1 h2 h3=>by
  rcases Nat.lt_or_ge i n with hi|hi
  ·rw[List.getElem?_append_left (by simp;omega),List.getElem?_set_ne (by omega)]at h3⊢
   exact h3
  ·obtain⟨k,rfl⟩:=Nat.le.dest hi
   rw[az hn]at h3⊢;exact hA k sz ver rs h3
theorem Env.pc {b u:Nat} {X:List AO} {ts:List TV} {cs:List AV} (h:Env b u X ts cs) (x:PV):Env b u X (.p x::ts) (.p x::cs):=by
 obtain⟨ids,h1,h2,h3,h4⟩:=h;exact⟨ids,h1.pc,h2,by rw[h3,nC,nT,Nat.zero_add],h4⟩
theorem iX {X:List AO}:∀{t1 t2:List TV} {cs:List AV} {ids:List Nat},bI X (t1++t2) cs ids→∃c1 c2 i j,cs=c1++c2∧ids=i++j∧bI X t1 c1 i∧bI X t2 c2 j
  |[],t2,cs,ids,h=>⟨[],cs,[],ids,rfl,rfl,bI.nil X,h⟩
  |t::t1,t2,cs,ids,h=>by
   rw[List.cons_append,bI]at h;obtain⟨a,gG,i,js,rfl,rfl,h1,h2⟩:=h;obtain⟨c1,c2,i1,j1,rfl,rfl,h3,h4⟩:=iX h2;exact⟨a::c1,c2,i++i1,j1,rfl,by rw[List.append_assoc],bI.cons h1 h3,h4⟩
theorem vh {X:List AO}:∀{t1 t2:List TV} {c1 c2:List AV} {i j:List Nat},bI X t1 c1 i→bI X t2 c2 j→bI X (t1++t2) (c1++c2) (i++j)
  |[],t2,c1,c2,i,j,h,k=>by rw[bI]at h;obtain⟨rfl,rfl⟩:=h;exact k
  |t::t1,t2,c1,c2,i,j,h,k=>by
   rw[bI]at h;obtain⟨a,gG,i',js,rfl,rfl,h1,h2⟩:=h;rw[List.append_assoc];exact bI.cons h1 (vh h2 k)
theorem ng:∀(a b:List TV),nC (a++b)=nC a+nC b
 |[],b=>by rw[nC];simp
 |t::a,b=>by rw[List.cons_append,nC,nC,ng a b];omega
theorem uq:∀(a:List (List TV)),nC a.flatten=nR a
 |[]=>by rw[nR];simp[nC]
 |t::a=>by rw[List.flatten_cons,ng,nR,uq a]
theorem FN (l:List (List TV)):nR l<=nK l:=by
 cases l with
 |nil=>rw[nR];omega
 |cons r l=>rw[nR,nK];omega
theorem py {X:List AO} {sz:Nat}:∀{rows:List (List TV)} {rs:List (List AV)} {ids:List Nat},bI X rows.flatten rs.flatten ids→rs.length=rows.length→(∀r∈rows,r.length=sz)→(∀r∈rs,r.length=sz)→dk X sz rows rs ids
  |[],[],ids,h,_,_,_ =>by simp at h;rw[bI]at h;rw[dk];exact⟨rfl,h.2⟩
  |[],_ ::_,ids,h,hl,_,_ =>by simp at hl
  |_ ::_,[],ids,h,hl,_,_ =>by simp at hl
  |t::rows,c::rs,ids,h,hl,h1,h2=>by
   rw[List.flatten_cons,List.flatten_cons]at h;obtain⟨c1,c2,i,j,e,rfl,h3,h4⟩:=iX h;have e1:=h3.len;have e2:=h1 t (by simp);have e3:=h2 c (by simp);obtain⟨rfl,rfl⟩:=List.append_inj e (by omega);rw[dk];exact⟨c,rs,i,j,rfl,rfl,e3,h3,py h4 (by simpa using hl) (fun r hr=>h1 r (by simp[hr])) (fun r hr=>h2 r (by simp[hr]))⟩
theorem Env.node {b u id sz ver:Nat} {X:List AO} {rows:List (List TV)} {rs:List (List AV)} (h:Env b u X rows.flatten rs.flatten) (hi:X[id]?=some (.rows sz ver rs)) (hu:u<=id) (hb:b<=id) (hl:rs.length=rows.length) (h1:∀r∈rows,r.length=sz) (h2:∀r∈rs,r.length=sz) (h0:rows≠[]):
  Env b (id+1) X [.s sz rows] [.gs id ver 0 rs.length]:=by
 obtain⟨ids,k1,k2,k3,k4⟩:=h;refine⟨id::ids,bI.one ?_,List.nodup_cons.2 ⟨fun hm=>by have:=(k4 id hm).2;omega,k2⟩,?_,?_⟩
 ·rw[ib]
  exact .inr ⟨id,ver,rs,ids,rfl,rfl,hi,py k1 hl h1 h2⟩
 ·rw[List.length_cons,k3,uq,nC,nC,nT]
  cases rows with
  |nil=>exact(h0 rfl).elim
  |cons r l=>rw[nK,nR];omega
 ·intro i hm
  rcases List.mem_cons.1 hm with rfl|hm
  ·exact⟨hb,by omega⟩
  ·exact⟨(k4 i hm).1,by have:=(k4 i hm).2;omega⟩
theorem Env.nl {b u sz:Nat} {X:List AO} {ts:List TV} {cs:List AV} (h:Env b u X ts cs):Env b u X (ts++[.s sz []]) (cs++[.p .nl]):=by
 obtain⟨ids,k1,k2,k3,k4⟩:=h;refine⟨ids,?_,k2,by rw[k3,ng,nC,nC,nT,nK];rfl,k4⟩;have:=vh k1 (bI.one (ib.nl X sz));rwa[List.append_nil]at this
theorem Env.nl1 {b u sz:Nat} {X:List AO}:Env b u X [.s sz []] [.p .nl]:=(Env.nil b u X).nl
theorem qX {sz:Nat}:∀{rows:List (List TV)} {rs:List (List AV)},rs.length=rows.length->(∀r∈rows,r.length=sz)->(∀r∈rs,r.length=sz)->rs.flatten.length=rows.flatten.length
 |[],[],_,_,_=>rfl
 |[],_ ::_,h,_,_=>by simp at h
 |_ ::_,[],h,_,_=>by simp at h
 |r::l,c::rs,h,h1,h2=>by rw[List.flatten_cons,List.flatten_cons,List.length_append,List.length_append,qX (by simpa using h) (fun r hr=>h1 r (by simp[hr])) (fun r hr=>h2 r (by simp[hr])),h1 r (by simp),h2 c (by simp)]
theorem Env.node2 {b u id1 id2 sz1 sz2 v1 v2:Nat} {X:List AO} {rows1 rows2:List (List TV)} {N6 N7:List (List AV)} (h:Env b u X (rows1.flatten++rows2.flatten) (N6.flatten++N7.flatten)) (Cl:X[id1]?=some (.rows sz1 v1 N6)) (hi2:X[id2]?=some (.rows sz2 v2 N7)) (hu1:u≤id1) (Px:u≤id2) (hb:b≤u) (cX:id1≠id2)
    (tM:N6.length=rows1.length) (sf:∀r∈rows1,r.length=sz1) (gv:∀r∈N6,r.length=sz1) (jt:rows1≠[]) (jF:N7.length=rows2.length) (h21:∀r∈rows2,r.length=sz2) (h22:∀r∈N7,r.length=sz2) (h20:rows2≠[]):
    Env b (id1+id2+1) X [.s sz1 rows1, .s sz2 rows2] [.gs id1 v1 0 N6.length, .gs id2 v2 0 N7.length]:=by
  obtain⟨ids,k1,k2,k3,k4⟩:=h;obtain⟨c1,c2,i,j,e,rfl,h3,h4⟩:=iX k1;have hlen:=qX tM sf gv;obtain⟨rfl,rfl⟩:=List.append_inj e (by rw[h3.len];exact hlen);have n1:id1∉i++j:=fun hm=>by have :=(k4 _ hm).2;omega
  have n2:id2∉i++j:=fun hm=>by have :=(k4 _ hm).2;omega
  rw[List.nodup_append]at k2;refine⟨(id1::i)++(id2::j),bI.cons ?_ (bI.one ?_), ?_, ?_, ?_⟩
  · rw[ib];exact .inr ⟨id1,v1,N6,i,rfl,rfl,Cl,py h3 tM sf gv⟩
  · rw[ib];exact .inr ⟨id2,v2,N7,j,rfl,rfl,hi2,py h4 jF h21 h22⟩
  · rw[List.nodup_append]
    simp only[List.mem_append,not_or]at n1 n2;refine⟨List.nodup_cons.2 ⟨n1.1,k2.1⟩,List.nodup_cons.2 ⟨n2.2,k2.2.1⟩,fun a ha c hc=> ?_⟩;rcases List.mem_cons.1 ha with rfl|ha<;>rcases List.mem_cons.1 hc with rfl|hc
    · exact cX
    · rintro rfl;exact n1.2 hc
    · rintro rfl;exact n2.1 ha
    · exact k2.2.2 a ha c hc
  · rw[ng,uq,uq]at k3
    simp only[List.length_append,List.length_cons]at k3⊢;rw[nC,nC,nC,nT,nT]
    cases rows1 with
    |nil=>exact(jt rfl).elim
    |cons r l=>cases rows2 with
     |nil=>exact(h20 rfl).elim
     |cons r' l'=>rw[nK,nK];rw[nR,nR]at k3;omega
  · intro x hx
    simp only[List.mem_append,List.mem_cons]at hx;have :x=id1∨x=id2∨x∈i++j:=by rw[List.mem_append];rcases hx with(h|h)|(h|h)<;>simp[h]
    rcases this with rfl|rfl|h
    · exact⟨by omega,by omega⟩
    · exact⟨by omega,by omega⟩
    · have :=k4 x h;exact⟨this.1,by omega⟩
def Res (K:List AO) (b p:Nat) (c':AO) (ts:List TV) (r:AV) (X:List AO):Prop:=∃cs K1 G u,r=.st cs/\X=K1.set p c'++G/\Kp b K K1/\Env b u X ts cs
def PX (pv:PS->AO) (T:List Tok) (e f:Nat) (args:List AV) (B:List AO->Prop) (p:Nat) {α:Type} (m:PM α) (tv:α->List TV):Prop :=
 ∀(H A:List AO) (F:List Nat) (s:PS),p<H.length->Ok T e s->B (H++A)->F.Nodup->F.length=nC (tv (m s).1)->(∀i∈F,i≠p/\H[i]?=some .iP)->
  aA Tryz.prog f args (H.set p (pv s)++A) (aW (.st (ed (tv (m s).1) F).1) ((ju H F (ed (tv (m s).1) F).2).set p (pv (m s).2)++A))
section
variable {pv:PS->AO} {T:List Tok} {e f:Nat} {args:List AV} {B:List AO->Prop} {p:Nat} {α:Type} {m:PM α} {tv:α->List TV}
theorem zE (hpv:∀s c,sT c (pv s)->Tf c) (hB:∀X Y,B X->(∀(i:Nat) o,X[i]?=some o->Y[i]?=some o)->B Y)
  (h:∀(K:List AO) (b n:Nat) (s:PS),K.length=n->p<b->b<=n->Ok T e s->B K->Fr b K (nC (tv (m s).1))->aA Tryz.prog f args (K.set p (pv s)) (Res K b p (pv (m s).2) (tv (m s).1))):PX pv T e f args B p m tv:=by
 intro H A F s hp hs hB' AP hl hF;generalize XL:tv (m s).1=ts at *;have Kh:∀i∈F,i<H.length:=fun i hi=>bj (hF i hi).2
 have XM:p∉F:=fun hm=>(hF p hm).1 rfl
 have e2:(ju H F (ed ts F).2).set p (pv (m s).2)++A=ju (H.set p (pv (m s).2)++A) F (ed ts F).2:=by
  rw[Ee _ _ _ _ (by simpa using Kh),Ed _ _ _ _ _ XM]
 rw[e2];refine Jn ?_ (by simp) ?_ AP hl ?_
 ·refine xN (nC ts) ?_
  have eK:(H.set p (pv s)++A)++List.replicate (nC ts) AO.iP=((H++A)++List.replicate (nC ts) AO.iP).set p (pv s):=by
   rw[List.set_append_left _ _ (by simp;omega),List.set_append_left _ _ hp]
  rw[eK]
  have hb:=h ((H++A)++List.replicate (nC ts) AO.iP) (H++A).length _ s rfl (by simp;omega) (by simp) hs (hB _ _ hB' fun i o ho=>ay ho _)
   ⟨List.range' (H++A).length (nC ts),List.nodup_range',by simp[XL],fun i hi=>?_⟩
  ·rw[XL]at hb
   refine hb.mono ?_;rintro r X ⟨cs,K1,G,u,rfl,rfl,⟨k1,k2,k3⟩,ids,o1,o2,o3,o4⟩;refine⟨cs,ids,K1.drop (H++A).length++G,rfl,?_,o1,o2,o3,fun i hi=>?_⟩
   ·have ht:K1.take (H++A).length=H++A:=by
     apply List.ext_getElem?;intro i;rcases Nat.lt_or_ge i (H++A).length with hi|hi
     ·rw[List.getElem?_take_of_lt hi,k2 i hi,List.getElem?_append_left hi]
     ·rw[List.getElem?_eq_none (by simp at hi⊢;omega),List.getElem?_eq_none hi]
    have e3:K1=(H++A)++K1.drop (H++A).length:=(List.take_append_drop (H++A).length K1).symm.trans (congrArg (·++K1.drop (H++A).length) ht);rw[<-List.append_assoc];congr 1
    conv=>lhs;rw[e3]
    rw[List.set_append_left _ _ (by simp;omega),List.set_append_left _ _ hp]
   ·have:=(o4 i hi).1;simpa using this
  ·simp only[List.mem_range']at hi
   obtain⟨j,hj,rfl⟩:=hi;refine⟨by omega,?_⟩;rw[List.getElem?_append_right (by omega)];simp[hj]
 ·intro id o ho c hc
  by_cases hi:id=p
  ·subst hi
   rw[qp hp]at ho;cases ho;exact .inl (hpv _ _ hc)
  ·refine .inr ⟨id,o,?_,hc⟩
   rcases Nat.lt_or_ge id H.length with h1|h1
   ·rw[List.getElem?_append_left (by simpa using h1),List.getElem?_set_ne (Ne.symm hi)]at ho⊢
    exact ho
   ·rw[List.getElem?_append_right (by simpa using h1)]at ho⊢
    simpa using ho
 ·intro i hi
  obtain⟨h1,h2⟩:=hF i hi;have h3:=Kh i hi;constructor <;>rw[List.getElem?_append_left (by simpa using h3),List.getElem?_set_ne (Ne.symm h1)]<;>exact h2
theorem PX.use (h:PX pv T e f args B p m tv) (wf:∀x,mM (tv x)) {H:List AO} {n b N:Nat} {s s1:PS} {x:α} (hm:m s=(x,s1)) (hn:H.length=n) (hp:p<b) (hb:b<=n) (hs:Ok T e s) (hF:Fr b H N) (hN:nC (tv x)<=N):
  ∃H1 cs,H1.length=n/\Kp b H H1/\Fr b H1 (N-nC (tv x))/\cs.length=(tv x).length/\
   (∀u ts ds A,n<=u->Env b u (H.set p (pv s)++A) ts ds->Env b u (H1.set p (pv s1)++A) (ts++tv x) (ds++cs))/\
   (∀ts ds A A',Env b n (H.set p (pv s)++A) ts ds->Env b n (H1.set p (pv s1)++A') (ts++tv x) (ds++cs))/\
   (∀A,B (H++A)->aA Tryz.prog f args (H.set p (pv s)++A) (aW (.st cs) (H1.set p (pv s1)++A))):=by
 obtain⟨F,f1,f2,f3⟩:=hF;have hm1:(m s).1=x:=by rw[hm]
 have wW:(m s).2=s1:=by rw[hm]
 have XN:(F.take (nC (tv x))).length=nC (tv x):=by simp;omega
 have Cu:∀i∈F.take (nC (tv x)),i∈F:=fun i hi=>List.mem_of_mem_take hi
 have AP:(F.take (nC (tv x))).Nodup:=f1.sublist (List.take_sublist _ _);have Kh:∀i∈F.take (nC (tv x)),i<H.length:=fun i hi=>bj (f3 i (Cu i hi)).2
 have XM:p∉F.take (nC (tv x)):=fun hm=>by have:=(f3 p (Cu p hm)).1;omega
 have we:=nA (tv x) _ XN
 have kU:∀(c:AO) (A:List AO),bI ((ju H (F.take (nC (tv x))) (ed (tv x) (F.take (nC (tv x)))).2).set p c++A) (tv x) (ed (tv x) (F.take (nC (tv x)))).1 (F.take (nC (tv x))):=fun c A=>
  uY (tv x) _ _ (wf x) XN fun k q o hk ho=>by
   have hq:=List.mem_of_getElem? hk;have aj:=Kh q hq;rw[List.getElem?_append_left (by simp[kB];exact aj),List.getElem?_set_ne (by rintro rfl;exact XM hq)];exact zg _ _ H k q o AP Kh hk ho
 have agz:∀i∈F.drop (nC (tv x)),i∉F.take (nC (tv x)):=fun i hi iQ=>by
  have:=f1;rw[<-List.take_append_drop (nC (tv x)) F,List.nodup_append]at this;exact this.2.2 i iQ i hi rfl
 have key:∀u ts ds A,n<=u->Env b u (H.set p (pv s)++A) ts ds->Env b u ((ju H (F.take (nC (tv x))) (ed (tv x) (F.take (nC (tv x)))).2).set p (pv s1)++A) (ts++tv x) (ds++(ed (tv x) (F.take (nC (tv x)))).1):=by
  rintro u ts ds A hu ⟨ids,o1,o2,o3,o4⟩
  have hd:∀i∈ids,i∉F.take (nC (tv x)):=fun i hi iQ=>by
   obtain⟨sz,ver,rs,hr⟩:=o1.rows i hi;have h1:=(f3 i (Cu i iQ)).2;have h2:=Kh i iQ;have h3:=(o4 i hi).1;rw[List.getElem?_append_left (by simpa using h2),List.getElem?_set_ne (by omega),h1]at hr;cases hr
  refine⟨ids++F.take (nC (tv x)),vh (o1.gf fun i hi o ho=>?_) (kU _ _),List.nodup_append.2 ⟨o2,AP,fun a ha c hc e=>hd a ha (e▸hc)⟩,by rw[List.length_append,o3,XN,ng],fun i hi=>?_⟩
  ·have h3:=(o4 i hi).1
   rcases Nat.lt_or_ge i H.length with hl|hl
   ·rw[List.getElem?_append_left (by simpa using hl),List.getElem?_set_ne (by omega)]at ho
    rw[List.getElem?_append_left (by simp[kB];exact hl),List.getElem?_set_ne (by omega),o8 _ _ _ _ (hd i hi)];exact ho
   ·rw[List.getElem?_append_right (by simpa using hl)]at ho
    rw[List.getElem?_append_right (by simp[kB];exact hl)];simpa[kB]using ho
  ·rcases List.mem_append.1 hi with hi|hi
   ·exact o4 i hi
   ·exact⟨(f3 i (Cu i hi)).1,by have:=Kh i hi;omega⟩
 refine⟨ju H (F.take (nC (tv x))) (ed (tv x) (F.take (nC (tv x)))).2,(ed (tv x) (F.take (nC (tv x)))).1,by rw[kB];exact hn,⟨kB _ _ _,?_,?_⟩,⟨F.drop (nC (tv x)),f1.sublist (List.drop_sublist _ _),by simp;omega,?_⟩,by rw[uX],key,?_,?_⟩
 ·intro i hi
  exact o8 _ _ _ _ fun hm=>by have:=(f3 i (Cu i hm)).1;omega
 ·intro i o ho hr
  rw[o8 _ _ _ _ fun hm=>?_]
  ·exact ho
  ·rw[(f3 i (Cu i hm)).2]at ho
   cases ho;exact hr rfl
 ·intro i hi
  have hiF:=List.mem_of_mem_drop hi;exact⟨(f3 i hiF).1,by rw[o8 _ _ _ _ (agz i hi)];exact(f3 i hiF).2⟩
 ·intro ts ds A A' hE
  exact(key n ts ds A (Nat.le_refl _) hE).base (by rw[kB];exact hn) hp
 ·intro A hBA
  have:=h H A (F.take (nC (tv x))) s (by omega) hs hBA AP (by rw[hm1];exact XN) fun i hi=>⟨by rintro rfl;exact XM hi,(f3 i (Cu i hi)).2⟩
  rwa[hm1,wW]at this
end
end Go.Proofs.YtjkbbnfdbfcebaaGreatDoor.Qp