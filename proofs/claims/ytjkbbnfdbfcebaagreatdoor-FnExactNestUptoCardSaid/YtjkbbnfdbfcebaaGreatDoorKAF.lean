/- Texts QkD QkE, merged. -/
import Derived.Test.YtjkbbnfdbfcebaaGreatDoorKAE
set_option linter.all false
namespace Go.Proofs.YtjkbbnfdbfcebaaGreatDoor.Pg
open Go.AM Mc Qp
def VH (left:Int) (k:Nat):Int:=if(k:Int)<=left then left -k else -1
theorem dC {left:Int} {k:Nat} (h:(k:Int)<=left):VH left k=left -k:=by simp[VH,h]
theorem cd {left:Int} {k:Nat} (h:¬(k:Int)<=left):VH left k=-1:=by simp[VH,h]
def dW {α:Type} (f:α->Nat):List α->Nat
 |[]=>0
 |a::l=>f a+dW f l
theorem lq {α:Type} (f:α→Nat) {l:List α} {i:Nat} (h:i<l.length):dW f (l.take (i+1))=dW f (l.take i)+f l[i]:=by
  induction l generalizing i with
  |nil=>simp at h
  |cons a l ih=>
   cases i with
   |zero=>simp[dW]
   |succ i=>simp[dW]at h⊢;rw[ih h];omega
theorem pJ {α:Type} (f:α→Nat) (l:List α) (i:Nat):dW f (l.take i)≤dW f l:=by
  induction l generalizing i with
  |nil=>simp
  |cons a l ih=>
   cases i with
   |zero=>simp[dW]
   |succ i=>simp[dW];exact ih i
theorem pK {α:Type} (f:α->Nat) (l:List α):cw f l=l.length+dW f l:=by
 induction l with
 |nil=>rfl
 |cons a l ih=>simp[cw,dW,ih];omega
def ko (f:Nat) (x:AV) (k:Nat):Prop:=∀(left:Int),0<=left->left<=1048576->∀H,aA Tryz.prog f [x,.p (.i .i64 left)] H (aW (.p (.i .i64 (VH left k))) H)
theorem Gm {l:List af} (he:∀a∈l,ko 167 (av (af.cells a)) (af.sz a)):ko 198 (.p (.l (l.map af.cells))) (cw af.sz l):=by
 intro left h0 h1 H;have cL:=pK af.sz l;refine call198 (by simp) ?_;simp only[go_sem,simprocAttr,K0,Ts,List.length_map];intro hlen;rw[aC]at hlen;have ew:wr .i64 (left -(l.length:Int))=left -(l.length:Int):=fk (by omega) (by omega);by_cases hl:(l.length:Int)<=left
 ·have d1:decide (left -(l.length:Int)<0)=false:=by simp;omega
  simp only[go_sem,simprocAttr,ew,d1];refine⟨Nat,[0,1,5],fun x st=>(x<=l.length/\(l.length+dW af.sz (l.take x):Int)<=left)/\st=⟨[(0,.p (.l (l.map af.cells))),(1,.p (.i .i64 (left -(l.length+dW af.sz (l.take x))))),(5,.p (.i .i64 x))],[],H⟩,fun x=>l.length-x,⟨0,?_⟩,?_⟩
  ·simp only[go_sem,simprocAttr,List.take_zero,dW]
   exact⟨⟨by omega,by omega⟩,by simp⟩
  ·rintro x _ ⟨⟨hx,hs⟩,rfl⟩
   by_cases aj:x<l.length
   ·have d2:decide ((x:Int)<(l.length:Int))=true:=by simp;omega
    have hg:(l.map af.cells)[x]?=some (af.cells l[x]):=by simp[aj]
    have ht:=lq af.sz aj;have hle:=pJ af.sz l (x+1);have et:takeN 4 (List.map AV.p (af.cells l[x]))=some (List.map AV.p (af.cells l[x])):=dR (by rw[List.length_map,af.aY]);have ex:=bp x (by omega);simp only[go_sem,simprocAttr,List.length_map,d2,hg,et,af.aY];intro _;refine U (he l[x] (List.getElem_mem aj) _ (by omega) (by omega) _) ?_;by_cases hk:((af.sz l[x]:Nat):Int)<=left -(l.length+dW af.sz (l.take x))
    ·have d3:decide (left -(l.length+dW af.sz (l.take x))-(af.sz l[x]:Nat)<0)=false:=by simp;omega
     simp only[go_sem,simprocAttr,dC hk,d3,ex];exact⟨x+1,⟨⟨by omega,by rw[ht];omega⟩,by rw[ht];simp;omega⟩,by omega⟩
    ·simp only[go_sem,simprocAttr,cd hk]
     rw[cd (by omega)];exact⟨rfl,rfl⟩
   ·have mf:x=l.length:=by omega
    subst mf;have d2:decide ((l.length:Int)<(l.length:Int))=false:=by simp
    simp only[go_sem,simprocAttr,List.length_map,d2];rw[List.take_length]at hs⊢;intro _;rw[dC (by omega)];refine⟨?_,rfl⟩;congr 2;omega
 ·have d1:decide (left -(l.length:Int)<0)=true:=by simp;omega
  simp only[go_sem,simprocAttr,ew,d1];rw[cd (by omega)];exact⟨rfl,rfl⟩
theorem VI {l:List ae} (he:∀a∈l,ko 126 (av (ae.cells a)) (ae.sz a)):ko 168 (.p (.l (l.map ae.cells))) (cw ae.sz l):=by
 intro left h0 h1 H;have cL:=pK ae.sz l;refine call168 (by simp) ?_;simp only[go_sem,simprocAttr,KY,Tp,List.length_map];intro hlen;rw[aC]at hlen;have ew:wr .i64 (left -(l.length:Int))=left -(l.length:Int):=fk (by omega) (by omega);by_cases hl:(l.length:Int)<=left
 ·have d1:decide (left -(l.length:Int)<0)=false:=by simp;omega
  simp only[go_sem,simprocAttr,ew,d1];refine⟨Nat,[0,1,5],fun x st=>(x<=l.length/\(l.length+dW ae.sz (l.take x):Int)<=left)/\st=⟨[(0,.p (.l (l.map ae.cells))),(1,.p (.i .i64 (left -(l.length+dW ae.sz (l.take x))))),(5,.p (.i .i64 x))],[],H⟩,fun x=>l.length-x,⟨0,?_⟩,?_⟩
  ·simp only[go_sem,simprocAttr,List.take_zero,dW]
   exact⟨⟨by omega,by omega⟩,by simp⟩
  ·rintro x _ ⟨⟨hx,hs⟩,rfl⟩
   by_cases aj:x<l.length
   ·have d2:decide ((x:Int)<(l.length:Int))=true:=by simp;omega
    have hg:(l.map ae.cells)[x]?=some (ae.cells l[x]):=by simp[aj]
    have ht:=lq ae.sz aj;have hle:=pJ ae.sz l (x+1);have et:takeN 5 (List.map AV.p (ae.cells l[x]))=some (List.map AV.p (ae.cells l[x])):=dR (by rw[List.length_map,ae.aY]);have ex:=bp x (by omega);simp only[go_sem,simprocAttr,List.length_map,d2,hg,et,ae.aY];intro _;refine U (he l[x] (List.getElem_mem aj) _ (by omega) (by omega) _) ?_;by_cases hk:((ae.sz l[x]:Nat):Int)<=left -(l.length+dW ae.sz (l.take x))
    ·have d3:decide (left -(l.length+dW ae.sz (l.take x))-(ae.sz l[x]:Nat)<0)=false:=by simp;omega
     simp only[go_sem,simprocAttr,dC hk,d3,ex];exact⟨x+1,⟨⟨by omega,by rw[ht];omega⟩,by rw[ht];simp;omega⟩,by omega⟩
    ·simp only[go_sem,simprocAttr,cd hk]
     rw[cd (by omega)];exact⟨rfl,rfl⟩
   ·have mf:x=l.length:=by omega
    subst mf;have d2:decide ((l.length:Int)<(l.length:Int))=false:=by simp
    simp only[go_sem,simprocAttr,List.length_map,d2];rw[List.take_length]at hs⊢;intro _;rw[dC (by omega)];refine⟨?_,rfl⟩;congr 2;omega
 ·have d1:decide (left -(l.length:Int)<0)=true:=by simp;omega
  simp only[go_sem,simprocAttr,ew,d1];rw[cd (by omega)];exact⟨rfl,rfl⟩
theorem VJ {l:List aa} (he:∀a∈l,ko 10 (av (aa.cells a)) (aa.sz a)):ko 24 (.p (.l (l.map aa.cells))) (cw aa.sz l):=by
 intro left h0 h1 H;have cL:=pK aa.sz l;refine call24 (by simp) ?_;simp only[go_sem,simprocAttr,Tn,abr,List.length_map];intro hlen;rw[aC]at hlen;have ew:wr .i64 (left -(l.length:Int))=left -(l.length:Int):=fk (by omega) (by omega);by_cases hl:(l.length:Int)<=left
 ·have d1:decide (left -(l.length:Int)<0)=false:=by simp;omega
  simp only[go_sem,simprocAttr,ew,d1];refine⟨Nat,[0,1,5],fun x st=>(x<=l.length/\(l.length+dW aa.sz (l.take x):Int)<=left)/\st=⟨[(0,.p (.l (l.map aa.cells))),(1,.p (.i .i64 (left -(l.length+dW aa.sz (l.take x))))),(5,.p (.i .i64 x))],[],H⟩,fun x=>l.length-x,⟨0,?_⟩,?_⟩
  ·simp only[go_sem,simprocAttr,List.take_zero,dW]
   exact⟨⟨by omega,by omega⟩,by simp⟩
  ·rintro x _ ⟨⟨hx,hs⟩,rfl⟩
   by_cases aj:x<l.length
   ·have d2:decide ((x:Int)<(l.length:Int))=true:=by simp;omega
    have hg:(l.map aa.cells)[x]?=some (aa.cells l[x]):=by simp[aj]
    have ht:=lq aa.sz aj;have hle:=pJ aa.sz l (x+1);have et:takeN 7 (List.map AV.p (aa.cells l[x]))=some (List.map AV.p (aa.cells l[x])):=dR (by rw[List.length_map,aa.aY]);have ex:=bp x (by omega);simp only[go_sem,simprocAttr,List.length_map,d2,hg,et,aa.aY];intro _;refine U (he l[x] (List.getElem_mem aj) _ (by omega) (by omega) _) ?_;by_cases hk:((aa.sz l[x]:Nat):Int)<=left -(l.length+dW aa.sz (l.take x))
    ·have d3:decide (left -(l.length+dW aa.sz (l.take x))-(aa.sz l[x]:Nat)<0)=false:=by simp;omega
     simp only[go_sem,simprocAttr,dC hk,d3,ex];exact⟨x+1,⟨⟨by omega,by rw[ht];omega⟩,by rw[ht];simp;omega⟩,by omega⟩
    ·simp only[go_sem,simprocAttr,cd hk]
     rw[cd (by omega)];exact⟨rfl,rfl⟩
   ·have mf:x=l.length:=by omega
    subst mf;have d2:decide ((l.length:Int)<(l.length:Int))=false:=by simp
    simp only[go_sem,simprocAttr,List.length_map,d2];rw[List.take_length]at hs⊢;intro _;rw[dC (by omega)];refine⟨?_,rfl⟩;congr 2;omega
 ·have d1:decide (left -(l.length:Int)<0)=true:=by simp;omega
  simp only[go_sem,simprocAttr,ew,d1];rw[cd (by omega)];exact⟨rfl,rfl⟩
theorem VK {l:List al} (he:∀a∈l,ko 62 (av (al.cells a)) (al.sz a)):ko 25 (.p (.l (l.map al.cells))) (cw al.sz l):=by
 intro left h0 h1 H;have cL:=pK al.sz l;refine call25 (by simp) ?_;simp only[go_sem,simprocAttr,Ti,abn,List.length_map];intro hlen;rw[aC]at hlen;have ew:wr .i64 (left -(l.length:Int))=left -(l.length:Int):=fk (by omega) (by omega);by_cases hl:(l.length:Int)<=left
 ·have d1:decide (left -(l.length:Int)<0)=false:=by simp;omega
  simp only[go_sem,simprocAttr,ew,d1];refine⟨Nat,[0,1,5],fun x st=>(x<=l.length/\(l.length+dW al.sz (l.take x):Int)<=left)/\st=⟨[(0,.p (.l (l.map al.cells))),(1,.p (.i .i64 (left -(l.length+dW al.sz (l.take x))))),(5,.p (.i .i64 x))],[],H⟩,fun x=>l.length-x,⟨0,?_⟩,?_⟩
  ·simp only[go_sem,simprocAttr,List.take_zero,dW]
   exact⟨⟨by omega,by omega⟩,by simp⟩
  ·rintro x _ ⟨⟨hx,hs⟩,rfl⟩
   by_cases aj:x<l.length
   ·have d2:decide ((x:Int)<(l.length:Int))=true:=by simp;omega
    have hg:(l.map al.cells)[x]?=some (al.cells l[x]):=by simp[aj]
    have ht:=lq al.sz aj;have hle:=pJ al.sz l (x+1);have et:takeN 12 (List.map AV.p (al.cells l[x]))=some (List.map AV.p (al.cells l[x])):=dR (by rw[List.length_map,al.aY]);have ex:=bp x (by omega);simp only[go_sem,simprocAttr,List.length_map,d2,hg,et,al.aY];intro _;refine U (he l[x] (List.getElem_mem aj) _ (by omega) (by omega) _) ?_;by_cases hk:((al.sz l[x]:Nat):Int)<=left -(l.length+dW al.sz (l.take x))
    ·have d3:decide (left -(l.length+dW al.sz (l.take x))-(al.sz l[x]:Nat)<0)=false:=by simp;omega
     simp only[go_sem,simprocAttr,dC hk,d3,ex];exact⟨x+1,⟨⟨by omega,by rw[ht];omega⟩,by rw[ht];simp;omega⟩,by omega⟩
    ·simp only[go_sem,simprocAttr,cd hk]
     rw[cd (by omega)];exact⟨rfl,rfl⟩
   ·have mf:x=l.length:=by omega
    subst mf;have d2:decide ((l.length:Int)<(l.length:Int))=false:=by simp
    simp only[go_sem,simprocAttr,List.length_map,d2];rw[List.take_length]at hs⊢;intro _;rw[dC (by omega)];refine⟨?_,rfl⟩;congr 2;omega
 ·have d1:decide (left -(l.length:Int)<0)=true:=by simp;omega
  simp only[go_sem,simprocAttr,ew,d1];rw[cd (by omega)];exact⟨rfl,rfl⟩
theorem OJ {l:List ah} (he:∀a∈l,ko 125 (av (ah.cells a)) (ah.sz a)):ko 61 (.p (.l (l.map ah.cells))) (cw ah.sz l):=by
 intro left h0 h1 H;have cL:=pK ah.sz l;refine call61 (by simp) ?_;simp only[go_sem,simprocAttr,Tk,abo,List.length_map];intro hlen;rw[aC]at hlen;have ew:wr .i64 (left -(l.length:Int))=left -(l.length:Int):=fk (by omega) (by omega);by_cases hl:(l.length:Int)<=left
 ·have d1:decide (left -(l.length:Int)<0)=false:=by simp;omega
  simp only[go_sem,simprocAttr,ew,d1];refine⟨Nat,[0,1,5],fun x st=>(x<=l.length/\(l.length+dW ah.sz (l.take x):Int)<=left)/\st=⟨[(0,.p (.l (l.map ah.cells))),(1,.p (.i .i64 (left -(l.length+dW ah.sz (l.take x))))),(5,.p (.i .i64 x))],[],H⟩,fun x=>l.length-x,⟨0,?_⟩,?_⟩
  ·simp only[go_sem,simprocAttr,List.take_zero,dW]
   exact⟨⟨by omega,by omega⟩,by simp⟩
  ·rintro x _ ⟨⟨hx,hs⟩,rfl⟩
   by_cases aj:x<l.length
   ·have d2:decide ((x:Int)<(l.length:Int))=true:=by simp;omega
    have hg:(l.map ah.cells)[x]?=some (ah.cells l[x]):=by simp[aj]
    have ht:=lq ah.sz aj;have hle:=pJ ah.sz l (x+1);have et:takeN 7 (List.map AV.p (ah.cells l[x]))=some (List.map AV.p (ah.cells l[x])):=dR (by rw[List.length_map,ah.aY]);have ex:=bp x (by omega);simp only[go_sem,simprocAttr,List.length_map,d2,hg,et,ah.aY];intro _;refine U (he l[x] (List.getElem_mem aj) _ (by omega) (by omega) _) ?_;by_cases hk:((ah.sz l[x]:Nat):Int)<=left -(l.length+dW ah.sz (l.take x))
    ·have d3:decide (left -(l.length+dW ah.sz (l.take x))-(ah.sz l[x]:Nat)<0)=false:=by simp;omega
     simp only[go_sem,simprocAttr,dC hk,d3,ex];exact⟨x+1,⟨⟨by omega,by rw[ht];omega⟩,by rw[ht];simp;omega⟩,by omega⟩
    ·simp only[go_sem,simprocAttr,cd hk]
     rw[cd (by omega)];exact⟨rfl,rfl⟩
   ·have mf:x=l.length:=by omega
    subst mf;have d2:decide ((l.length:Int)<(l.length:Int))=false:=by simp
    simp only[go_sem,simprocAttr,List.length_map,d2];rw[List.take_length]at hs⊢;intro _;rw[dC (by omega)];refine⟨?_,rfl⟩;congr 2;omega
 ·have d1:decide (left -(l.length:Int)<0)=true:=by simp;omega
  simp only[go_sem,simprocAttr,ew,d1];rw[cd (by omega)];exact⟨rfl,rfl⟩
theorem OK {l:List ai} (he:∀a∈l,ko 23 (av (ai.cells a)) (ai.sz a)):ko 9 (.p (.l (l.map ai.cells))) (cw ai.sz l):=by
 intro left h0 h1 H;have cL:=pK ai.sz l;refine call9 (by simp) ?_;simp only[go_sem,simprocAttr,mc9,mr9,List.length_map];intro hlen;rw[aC]at hlen;have ew:wr .i64 (left -(l.length:Int))=left -(l.length:Int):=fk (by omega) (by omega);by_cases hl:(l.length:Int)<=left
 ·have d1:decide (left -(l.length:Int)<0)=false:=by simp;omega
  simp only[go_sem,simprocAttr,ew,d1];refine⟨Nat,[0,1,5],fun x st=>(x<=l.length/\(l.length+dW ai.sz (l.take x):Int)<=left)/\st=⟨[(0,.p (.l (l.map ai.cells))),(1,.p (.i .i64 (left -(l.length+dW ai.sz (l.take x))))),(5,.p (.i .i64 x))],[],H⟩,fun x=>l.length-x,⟨0,?_⟩,?_⟩
  ·simp only[go_sem,simprocAttr,List.take_zero,dW]
   exact⟨⟨by omega,by omega⟩,by simp⟩
  ·rintro x _ ⟨⟨hx,hs⟩,rfl⟩
   by_cases aj:x<l.length
   ·have d2:decide ((x:Int)<(l.length:Int))=true:=by simp;omega
    have hg:(l.map ai.cells)[x]?=some (ai.cells l[x]):=by simp[aj]
    have ht:=lq ai.sz aj;have hle:=pJ ai.sz l (x+1);have et:takeN 4 (List.map AV.p (ai.cells l[x]))=some (List.map AV.p (ai.cells l[x])):=dR (by rw[List.length_map,ai.aY]);have ex:=bp x (by omega);simp only[go_sem,simprocAttr,List.length_map,d2,hg,et,ai.aY];intro _;refine U (he l[x] (List.getElem_mem aj) _ (by omega) (by omega) _) ?_;by_cases hk:((ai.sz l[x]:Nat):Int)<=left -(l.length+dW ai.sz (l.take x))
    ·have d3:decide (left -(l.length+dW ai.sz (l.take x))-(ai.sz l[x]:Nat)<0)=false:=by simp;omega
     simp only[go_sem,simprocAttr,dC hk,d3,ex];exact⟨x+1,⟨⟨by omega,by rw[ht];omega⟩,by rw[ht];simp;omega⟩,by omega⟩
    ·simp only[go_sem,simprocAttr,cd hk]
     rw[cd (by omega)];exact⟨rfl,rfl⟩
   ·have mf:x=l.length:=by omega
    subst mf;have d2:decide ((l.length:Int)<(l.length:Int))=false:=by simp
    simp only[go_sem,simprocAttr,List.length_map,d2];rw[List.take_length]at hs⊢;intro _;rw[dC (by omega)];refine⟨?_,rfl⟩;congr 2;omega
 ·have d1:decide (left -(l.length:Int)<0)=true:=by simp;omega
  simp only[go_sem,simprocAttr,ew,d1];rw[cd (by omega)];exact⟨rfl,rfl⟩
theorem IB {l:List (List UInt8)}:ko 60 (.p (.l (cg l))) (cw List.length l):=by
 intro left h0 h1 H;have cL:=pK List.length l;refine call60 (by simp) ?_;simp only[go_sem,simprocAttr,Tq,abt,cg,List.length_map];intro hlen;rw[aC]at hlen;have ew:wr .i64 (left -(l.length:Int))=left -(l.length:Int):=fk (by omega) (by omega);by_cases hl:(l.length:Int)<=left
 ·have d1:decide (left -(l.length:Int)<0)=false:=by simp;omega
  simp only[go_sem,simprocAttr,ew,d1];refine⟨Nat,[0,1,5],fun x st=>(x<=l.length/\(l.length+dW List.length (l.take x):Int)<=left)/\st=⟨[(0,.p (.l (l.map fun s=>[.s s]))),(1,.p (.i .i64 (left -(l.length+dW List.length (l.take x))))),(5,.p (.i .i64 x))],[],H⟩,fun x=>l.length-x,⟨0,?_⟩,?_⟩
  ·simp only[go_sem,simprocAttr,List.take_zero,dW]
   exact⟨⟨by omega,by omega⟩,by simp⟩
  ·rintro x _ ⟨⟨hx,hs⟩,rfl⟩
   by_cases aj:x<l.length
   ·have d2:decide ((x:Int)<(l.length:Int))=true:=by simp;omega
    have hg:(l.map fun s=>[PV.s s])[x]?=some [.s l[x]]:=by simp[aj]
    have ht:=lq List.length aj;have hle:=pJ List.length l (x+1);have ex:=bp x (by omega);simp only[go_sem,simprocAttr,List.length_map,d2,hg];intro hn bh;rw[aC]at hn bh;have ew2:wr .i64 (left -(l.length+dW List.length (l.take x))-(l[x].length:Int))=left -(l.length+dW List.length (l.take x))-(l[x].length:Int):=fk (by omega) (by omega);by_cases hk:(l[x].length:Int)<=left -(l.length+dW List.length (l.take x))
    ·have d3:decide (left -(l.length+dW List.length (l.take x))-(l[x].length:Int)<0)=false:=by simp;omega
     simp only[go_sem,simprocAttr,ew2,d3,ex];exact⟨x+1,⟨⟨by omega,by rw[ht];omega⟩,by rw[ht];simp;omega⟩,by omega⟩
    ·have d3:decide (left -(l.length+dW List.length (l.take x))-(l[x].length:Int)<0)=true:=by simp;omega
     simp only[go_sem,simprocAttr,ew2,d3];rw[cd (by omega)];exact⟨rfl,rfl⟩
   ·have mf:x=l.length:=by omega
    subst mf;have d2:decide ((l.length:Int)<(l.length:Int))=false:=by simp
    simp only[go_sem,simprocAttr,List.length_map,d2];rw[List.take_length]at hs⊢;intro _;rw[dC (by omega)];refine⟨?_,rfl⟩;congr 2;omega
 ·have d1:decide (left -(l.length:Int)<0)=true:=by simp;omega
  simp only[go_sem,simprocAttr,ew,d1];rw[cd (by omega)];exact⟨rfl,rfl⟩
theorem IC (k:Int) (n:List UInt8) (p:Int) (ks:List af) (hk:ko 198 (.p (.l (ks.map af.cells))) (cw af.sz ks)):ko 167 (av (af.cells (af.mk k n p ks))) (af.sz (af.mk k n p ks)):=by
 intro left h0 h1 H;have hz:af.sz (af.mk k n p ks)=n.length+cw af.sz ks:=by rw[af.sz,af.dr]
 rw[hz];refine aD ?_ (bw _);refine call167 (by simp) ?_;simp only[go_sem,simprocAttr,KZ,Tr,af.cells,af.aw];intro VL;rw[aC]at VL;have ID:wr .i64 (left -(n.length:Int))=left -(n.length:Int):=fk (by omega) (by omega);by_cases FJ:(n.length:Int)<=left
 ·have d1:decide (left -(n.length:Int)<0)=false:=by simp;omega
  simp only[go_sem,simprocAttr,ID,d1];refine U (hk _ (by omega) (by omega) _) ?_;by_cases AH:((cw af.sz ks:Nat):Int)<=left -(n.length:Int)
  ·have d1:decide (left -(n.length:Int)-((cw af.sz ks:Nat):Int)<0)=false:=by simp;omega
   simp only[go_sem,simprocAttr,dC AH,d1];rw[dC (by omega)];refine⟨?_,_,rfl⟩;congr 2;omega
  ·simp only[go_sem,simprocAttr,cd AH]
   rw[cd (by omega)];exact⟨rfl,_,rfl⟩
 ·have d1:decide (left -(n.length:Int)<0)=true:=by simp;omega
  simp only[go_sem,simprocAttr,ID,d1];rw[cd (by omega)];exact⟨rfl,_,rfl⟩
theorem Y3 (k:Int) (n:List UInt8) (u p:Int) (ks:List ae) (hk:ko 168 (.p (.l (ks.map ae.cells))) (cw ae.sz ks)):ko 126 (av (ae.cells (ae.mk k n u p ks))) (ae.sz (ae.mk k n u p ks)):=by
 intro left h0 h1 H;have hz:ae.sz (ae.mk k n u p ks)=n.length+cw ae.sz ks:=by rw[ae.sz,ae.dr]
 rw[hz];refine aD ?_ (bw _);refine call126 (by simp) ?_;simp only[go_sem,simprocAttr,KX,To,ae.cells,ae.aw];intro VL;rw[aC]at VL;have ID:wr .i64 (left -(n.length:Int))=left -(n.length:Int):=fk (by omega) (by omega);by_cases FJ:(n.length:Int)<=left
 ·have d1:decide (left -(n.length:Int)<0)=false:=by simp;omega
  simp only[go_sem,simprocAttr,ID,d1];refine U (hk _ (by omega) (by omega) _) ?_;by_cases AH:((cw ae.sz ks:Nat):Int)<=left -(n.length:Int)
  ·have d1:decide (left -(n.length:Int)-((cw ae.sz ks:Nat):Int)<0)=false:=by simp;omega
   simp only[go_sem,simprocAttr,dC AH,d1];rw[dC (by omega)];refine⟨?_,_,rfl⟩;congr 2;omega
  ·simp only[go_sem,simprocAttr,cd AH]
   rw[cd (by omega)];exact⟨rfl,_,rfl⟩
 ·have d1:decide (left -(n.length:Int)<0)=true:=by simp;omega
  simp only[go_sem,simprocAttr,ID,d1];rw[cd (by omega)];exact⟨rfl,_,rfl⟩
theorem Y4 (k:Int) (n:List UInt8) (u:Int) (t:List UInt8) (p:Int) (ks:List aa) (aM:List al) (hk:ko 24 (.p (.l (ks.map aa.cells))) (cw aa.sz ks)) (ha:ko 25 (.p (.l (aM.map al.cells))) (cw al.sz aM)):ko 10 (av (aa.cells (aa.mk k n u t p ks aM))) (aa.sz (aa.mk k n u t p ks aM)):=by
 intro left h0 h1 H;have hz:aa.sz (aa.mk k n u t p ks aM)=n.length+t.length+cw aa.sz ks+cw al.sz aM:=by rw[aa.sz,aa.dr,aa.lN]
 rw[hz];refine aD ?_ (bw _);refine call10 (by simp) ?_;simp only[go_sem,simprocAttr,Tm,abq,aa.cells,aa.aw,aa.aN];intro VL;rw[aC]at VL;have ID:wr .i64 (left -(n.length:Int))=left -(n.length:Int):=fk (by omega) (by omega);by_cases FJ:(n.length:Int)<=left
 ·have d1:decide (left -(n.length:Int)<0)=false:=by simp;omega
  simp only[go_sem,simprocAttr,ID,d1];intro hqt;rw[aC]at hqt;have ewt:wr .i64 (left -(n.length:Int)-(t.length:Int))=left -(n.length:Int)-(t.length:Int):=fk (by omega) (by omega);by_cases aj:(t.length:Int)<=left -(n.length:Int)
  ·have d1:decide (left -(n.length:Int)-(t.length:Int)<0)=false:=by simp;omega
   simp only[go_sem,simprocAttr,ewt,d1];refine U (hk _ (by omega) (by omega) _) ?_;by_cases AH:((cw aa.sz ks:Nat):Int)<=left -(n.length:Int)-(t.length:Int)
   ·have d1:decide (left -(n.length:Int)-(t.length:Int)-((cw aa.sz ks:Nat):Int)<0)=false:=by simp;omega
    simp only[go_sem,simprocAttr,dC AH,d1];refine U (ha _ (by omega) (by omega) _) ?_;by_cases acd:((cw al.sz aM:Nat):Int)<=left -(n.length:Int)-(t.length:Int)-((cw aa.sz ks:Nat):Int)
    ·have d1:decide (left -(n.length:Int)-(t.length:Int)-((cw aa.sz ks:Nat):Int)-((cw al.sz aM:Nat):Int)<0)=false:=by simp;omega
     simp only[go_sem,simprocAttr,dC acd,d1];rw[dC (by omega)];refine⟨?_,_,rfl⟩;congr 2;omega
    ·simp only[go_sem,simprocAttr,cd acd]
     rw[cd (by omega)];exact⟨rfl,_,rfl⟩
   ·simp only[go_sem,simprocAttr,cd AH]
    rw[cd (by omega)];exact⟨rfl,_,rfl⟩
  ·have d1:decide (left -(n.length:Int)-(t.length:Int)<0)=true:=by simp;omega
   simp only[go_sem,simprocAttr,ewt,d1];rw[cd (by omega)];exact⟨rfl,_,rfl⟩
 ·have d1:decide (left -(n.length:Int)<0)=true:=by simp;omega
  simp only[go_sem,simprocAttr,ID,d1];rw[cd (by omega)];exact⟨rfl,_,rfl⟩
theorem Y5 {p:ae} {e:aa} (hp:ko 126 (av p.cells) p.sz) (he:ko 10 (av e.cells) e.sz):ko 62 (av (al.cells (al.mk p e))) (al.sz (al.mk p e)):=by
 intro left h0 h1 H;have hz:al.sz (al.mk p e)=p.sz+e.sz:=by rw[al.sz]
 rw[hz];obtain⟨pk,pn,pu,pp,Cs⟩:=p;obtain⟨ek,en,eu,et,ep,Gj,Gk⟩:=e;refine aD ?_ (bw _);refine call62 (by simp) ?_;simp only[go_sem,simprocAttr,Tg,abm,al.cells,ae.cells,aa.cells];refine U (hp _ (by omega) (by omega) _) ?_;by_cases ace:((ae.sz (ae.mk pk pn pu pp Cs):Nat):Int)<=left
 ·have d1:decide (left -((ae.sz (ae.mk pk pn pu pp Cs):Nat):Int)<0)=false:=by simp;omega
  simp only[go_sem,simprocAttr,dC ace,d1];refine U (he _ (by omega) (by omega) _) ?_;by_cases IE:((aa.sz (aa.mk ek en eu et ep Gj Gk):Nat):Int)<=left -((ae.sz (ae.mk pk pn pu pp Cs):Nat):Int)
  ·have d1:decide (left -((ae.sz (ae.mk pk pn pu pp Cs):Nat):Int)-((aa.sz (aa.mk ek en eu et ep Gj Gk):Nat):Int)<0)=false:=by simp;omega
   simp only[go_sem,simprocAttr,dC IE,d1];rw[dC (by omega)];refine⟨?_,_,rfl⟩;congr 2;omega
  ·simp only[go_sem,simprocAttr,cd IE]
   rw[cd (by omega)];exact⟨rfl,_,rfl⟩
 ·simp only[go_sem,simprocAttr,cd ace]
  rw[cd (by omega)];exact⟨rfl,_,rfl⟩
theorem VM {c:ah} (ht:ko 167 (av c.arg.cells) c.arg.sz):ko 125 (av (ah.cells (c))) (ah.sz (c)):=by
 intro left h0 h1 H;have hz:ah.sz (c)=c.name.length+c.arg.sz:=rfl;rw[hz];obtain⟨cn,ch,⟨ak,an,ap,wV⟩,cp⟩:=c;refine aD ?_ (bw _);refine call125 (by simp) ?_;simp only[go_sem,simprocAttr,KW,Tj,ah.cells,af.cells];intro ag0;rw[aC]at ag0;have acf:wr .i64 (left -(cn.length:Int))=left -(cn.length:Int):=fk (by omega) (by omega);by_cases aip:(cn.length:Int)<=left
 ·have d1:decide (left -(cn.length:Int)<0)=false:=by simp;omega
  simp only[go_sem,simprocAttr,acf,d1];refine U (ht _ (by omega) (by omega) _) ?_;by_cases acg:((af.sz (af.mk ak an ap wV):Nat):Int)<=left -(cn.length:Int)
  ·have d1:decide (left -(cn.length:Int)-((af.sz (af.mk ak an ap wV):Nat):Int)<0)=false:=by simp;omega
   simp only[go_sem,simprocAttr,dC acg,d1];rw[dC (by omega)];refine⟨?_,_,rfl⟩;congr 2;omega
  ·simp only[go_sem,simprocAttr,cd acg]
   rw[cd (by omega)];exact⟨rfl,_,rfl⟩
 ·have d1:decide (left -(cn.length:Int)<0)=true:=by simp;omega
  simp only[go_sem,simprocAttr,acf,d1];rw[cd (by omega)];exact⟨rfl,_,rfl⟩
theorem VN {d:ai} (hv:ko 60 (.p (.l (cg d.vars))) (cw List.length d.vars)) (hc:ko 61 (.p (.l (d.ctors.map ah.cells))) (cw ah.sz d.ctors)):ko 23 (av (ai.cells (d))) (ai.sz (d)):=by
 intro left h0 h1 H;have hz:ai.sz (d)=d.name.length+cw List.length d.vars+cw ah.sz d.ctors:=by rw[ai.sz,Aq,Ar]
 rw[hz];obtain⟨dn,dv,dc,dp⟩:=d;refine aD ?_ (bw _);refine call23 (by simp) ?_;simp only[go_sem,simprocAttr,Tl,abp,ai.cells];intro ag1;rw[aC]at ag1;have ach:wr .i64 (left -(dn.length:Int))=left -(dn.length:Int):=fk (by omega) (by omega);by_cases aiq:(dn.length:Int)<=left
 ·have d1:decide (left -(dn.length:Int)<0)=false:=by simp;omega
  simp only[go_sem,simprocAttr,ach,d1];refine U (hv _ (by omega) (by omega) _) ?_;by_cases aci:((cw List.length dv:Nat):Int)<=left -(dn.length:Int)
  ·have d1:decide (left -(dn.length:Int)-((cw List.length dv:Nat):Int)<0)=false:=by simp;omega
   simp only[go_sem,simprocAttr,dC aci,d1];refine U (hc _ (by omega) (by omega) _) ?_;by_cases acj:((cw ah.sz dc:Nat):Int)<=left -(dn.length:Int)-((cw List.length dv:Nat):Int)
   ·have d1:decide (left -(dn.length:Int)-((cw List.length dv:Nat):Int)-((cw ah.sz dc:Nat):Int)<0)=false:=by simp;omega
    simp only[go_sem,simprocAttr,dC acj,d1];rw[dC (by omega)];refine⟨?_,_,rfl⟩;congr 2;omega
   ·simp only[go_sem,simprocAttr,cd acj]
    rw[cd (by omega)];exact⟨rfl,_,rfl⟩
  ·simp only[go_sem,simprocAttr,cd aci]
   rw[cd (by omega)];exact⟨rfl,_,rfl⟩
 ·have d1:decide (left -(dn.length:Int)<0)=true:=by simp;omega
  simp only[go_sem,simprocAttr,ach,d1];rw[cd (by omega)];exact⟨rfl,_,rfl⟩
theorem VO {g:bb} (hd:ko 9 (.p (.l (g.types.map ai.cells))) (cw ai.sz g.types)) (he:ko 10 (av g.body.cells) g.body.sz):ko 4 (av (bb.cells (g))) (bb.sz (g)):=by
 intro left h0 h1 H;have hz:bb.sz (g)=cw ai.sz g.types+g.body.sz:=by rw[bb.sz,As]
 rw[hz];obtain⟨gt,⟨ek,en,eu,et,ep,Gj,Gk⟩⟩:=g;refine aD ?_ (bw _);refine call4 (by simp) ?_;simp only[go_sem,simprocAttr,mc4,mr4,bb.cells,aa.cells];refine U (hd _ (by omega) (by omega) _) ?_;by_cases ack:((cw ai.sz gt:Nat):Int)<=left
 ·have d1:decide (left -((cw ai.sz gt:Nat):Int)<0)=false:=by simp;omega
  simp only[go_sem,simprocAttr,dC ack,d1];refine U (he _ (by omega) (by omega) _) ?_;by_cases IE:((aa.sz (aa.mk ek en eu et ep Gj Gk):Nat):Int)<=left -((cw ai.sz gt:Nat):Int)
  ·have d1:decide (left -((cw ai.sz gt:Nat):Int)-((aa.sz (aa.mk ek en eu et ep Gj Gk):Nat):Int)<0)=false:=by simp;omega
   simp only[go_sem,simprocAttr,dC IE,d1];rw[dC (by omega)];refine⟨?_,_,rfl⟩;congr 2;omega
  ·simp only[go_sem,simprocAttr,cd IE]
   rw[cd (by omega)];exact⟨rfl,_,rfl⟩
 ·simp only[go_sem,simprocAttr,cd ack]
  rw[cd (by omega)];exact⟨rfl,_,rfl⟩
theorem ag2:∀(m:Nat) (t:af),t.sz<m→ko 167 (av t.cells) t.sz:=by
  intro m
  induction m with
  |zero=>intro t h;omega
  |succ m ih=>
   intro t h;obtain⟨k,n,p,ks⟩:=t;rw[af.sz,af.dr]at h;exact IC _ _ _ _ (Gm fun a ha=>ih a (by have :=bM af.sz ha;omega))
theorem Y6:∀(m:Nat) (t:ae),t.sz<m→ko 126 (av t.cells) t.sz:=by
  intro m
  induction m with
  |zero=>intro t h;omega
  |succ m ih=>
   intro t h;obtain⟨k,n,u,p,ks⟩:=t;rw[ae.sz,ae.dr]at h;exact Y3 _ _ _ _ _ (VI fun a ha=>ih a (by have :=bM ae.sz ha;omega))
theorem Y7:∀(m:Nat) (t:aa),t.sz<m→ko 10 (av t.cells) t.sz:=by
  intro m
  induction m with
  |zero=>intro t h;omega
  |succ m ih=>
   intro t h;obtain⟨k,n,u,x,p,ks,aM⟩:=t;rw[aa.sz,aa.dr,aa.lN]at h;refine Y4 _ _ _ _ _ _ _ (VJ fun a ha=>ih a (by have :=bM aa.sz ha;omega)) (VK fun a ha=> ?_);have hm:=bM al.sz ha;obtain⟨q,e⟩:=a;rw[al.sz]at hm;exact Y5 (Y6 _ q (Nat.lt_succ_self _)) (ih e (by omega))
theorem VP (g:bb):ko 4 (av g.cells) g.sz:=
 VO (OK fun d _=>VN IB (OJ fun c _=>VM (ag2 _ _ (Nat.lt_succ_self _)))) (Y7 _ _ (Nat.lt_succ_self _))
def fill {α:Type} (f:α->List AV) (z:List AV) (zs:List α) (i:Nat):List (List AV):=(zs.take i).map f++List.replicate (zs.length-i) z
theorem lr {α:Type} (f:α->List AV) (z:List AV) (zs:List α):fill f z zs 0=List.replicate zs.length z:=by simp[fill]
theorem mU {α:Type} (f:α->List AV) (z:List AV) (zs:List α):fill f z zs zs.length=zs.map f:=by simp[fill]
theorem mV {α:Type} (f:α->List AV) (z:List AV) (zs:List α) {i:Nat} (h:i<=zs.length):(fill f z zs i).length=zs.length:=by simp[fill];omega
theorem mW {α:Type} (f:α->List AV) (z:List AV) (zs:List α) {i:Nat} (h:i<zs.length):(fill f z zs i)[i]?=some z:=by
 unfold fill;rw[List.getElem?_append_right (by simp;omega),List.getElem?_replicate];simp;omega
theorem mX {α:Type} (f:α->List AV) (z:List AV) (zs:List α) {i:Nat} (h:i<zs.length):(fill f z zs i).set i (f zs[i])=fill f z zs (i+1):=by
 unfold fill;rw[List.set_append_right _ _ (by simp;omega),List.take_succ,List.getElem?_eq_getElem h];have h1:zs.length-i=(zs.length-(i+1))+1:=by omega
 have h2:i-((zs.take i).map f).length=0:=by simp;omega
 rw[h1,h2,List.replicate_succ];simp only[List.set_cons_zero,List.map_append,List.append_assoc,Option.toList_some,List.map_cons,List.map_nil,List.cons_append,List.nil_append]
theorem LX {l:List (List PV)} {H:List AO} {id ver sz:Nat} (hid:H[id]?=some (.rows sz ver (l.map fun y=>y.map .p))) (hl:∀y∈l,y.length=sz):qV H (.gs id ver 0 l.length) (.p (.l l)):=by
 refine .gs _ _ _ _ sz _ _ hid (by simp) rfl hl ?_;intro i r y j c q hr hy hc hq;rw[Nat.zero_add,List.getElem?_map,hy]at hr;cases hr;rw[List.getElem?_map,hq]at hc;cases hc;exact .pure q
def kr (f:Nat) (x:AV):Prop:=∀H,aA Tryz.prog f [x] H (aW x H)
theorem kt {f sz:Nat} {x:PV} {rows:List (List PV)} (h:aA Tryz.prog f [.p x] [] (fun r H'=>∃id ver,r=.gs id ver 0 rows.length/\H'[id]?=some (.rows sz ver (rows.map fun y=>y.map .p)))) (cL:∀y∈rows,y.length=sz):
  ∀H,aA Tryz.prog f [.p x] H (aW (.p (.l rows)) H):=by
 intro H;refine(Fi (R:=fun r=>r=.p (.l rows)) h (by intro b hb;simp at hb;subst hb;exact Xj _) ?_).mono (fun r H' ⟨h1,h2⟩=>⟨h2,h1⟩);rintro r H' ⟨id,ver,rfl,hid⟩;exact⟨_,LX hid cL,rfl⟩
theorem Gn {l:List af} (hl:l.length<=1048576) (he:∀a∈l,kr 179 (av (af.cells a))):kr 205 (.p (.l (l.map af.cells))):=by
 refine kt (sz:=4) ?_ (by intro y hy;obtain⟨a,_,rfl⟩:=List.mem_map.1 hy;exact af.aY a);refine call205 (by simp) ?_;have hm:l.length<=fb:=by rw[aC];omega
 simp only[go_sem,simprocAttr,K6,TH,List.length_map];intro _;refine⟨by omega,by omega,by omega,?_⟩;refine⟨Nat,[0,2,3,4],fun i st=>i<=l.length/\st=⟨[(0,.p (.l (l.map af.cells))),(2,.p .nl),(3,.gs 0 0 0 l.length),(4,.p (.i .i64 i))],[],[.rows 4 0 (fill (fun a=>(af.cells a).map .p) [.p (.i .i64 0),.p (.s []),.p (.i .i64 0),.p .nl] l i)]⟩,fun i=>l.length-i,⟨0,?_⟩,?_⟩
 ·simp only[go_sem,simprocAttr]
  exact⟨Nat.zero_le _,by rw[lr]⟩
 ·rintro i st ⟨hi,rfl⟩
  by_cases aj:i<l.length
  ·have d1:decide ((i:Int)<(l.length:Int))=true:=by simp;omega
   have hg:(l.map af.cells)[i]?=some (af.cells l[i]):=by simp[aj]
   have et:takeN 4 (List.map AV.p (af.cells l[i]))=some (List.map AV.p (af.cells l[i])):=dR (by rw[List.length_map,af.aY]);have ex:=bp i (by rw[aC]at hm;omega);simp only[go_sem,simprocAttr,List.length_map,d1,hg,et,af.aY];intro _;refine U (he l[i] (List.getElem_mem aj) _) ?_;have hf:=mW (fun a=>(af.cells a).map AV.p) [.p (.i .i64 0),.p (.s []),.p (.i .i64 0),.p .nl] l aj;have mg:=mV (fun a=>(af.cells a).map AV.p) [.p (.i .i64 0),.p (.s []),.p (.i .i64 0),.p .nl] l hi;have hs:=jf [.p (.i .i64 0),.p (.s []),.p (.i .i64 0),.p .nl] (List.map AV.p (af.cells l[i])) [] (by rw[List.length_map,af.aY];rfl);simp only[List.append_nil]at hs;simp only[go_sem,simprocAttr,hf,hs,mg,List.length_map,af.aY];refine⟨by omega,?_⟩;rw[o7 hf hs];have ba:=mX (fun a=>(af.cells a).map AV.p) [.p (.i .i64 0),.p (.s []),.p (.i .i64 0),.p .nl] l aj;simp only[go_sem,simprocAttr,ex];refine⟨i+1,⟨by omega,?_⟩,by omega⟩;rw[<-ba]
  ·have:i=l.length:=by omega
   subst this;have d1:decide ((l.length:Int)<(l.length:Int))=false:=by simp
   simp only[go_sem,simprocAttr,List.length_map,d1];intro _;refine⟨0,0,rfl,?_⟩;rw[mU,List.map_map]
   rfl
theorem VQ {l:List ae} (hl:l.length<=1048576) (he:∀a∈l,kr 138 (av (ae.cells a))):kr 180 (.p (.l (l.map ae.cells))):=by
 refine kt (sz:=5) ?_ (by intro y hy;obtain⟨a,_,rfl⟩:=List.mem_map.1 hy;exact ae.aY a);refine call180 (by simp) ?_;have hm:l.length<=fb:=by rw[aC];omega
 simp only[go_sem,simprocAttr,K4,TC,List.length_map];intro _;refine⟨by omega,by omega,by omega,?_⟩;refine⟨Nat,[0,2,3,4],fun i st=>i<=l.length/\st=⟨[(0,.p (.l (l.map ae.cells))),(2,.p .nl),(3,.gs 0 0 0 l.length),(4,.p (.i .i64 i))],[],[.rows 5 0 (fill (fun a=>(ae.cells a).map .p) [.p (.i .i64 0),.p (.s []),.p (.i .i64 0),.p (.i .i64 0),.p .nl] l i)]⟩,fun i=>l.length-i,⟨0,?_⟩,?_⟩
 ·simp only[go_sem,simprocAttr]
  exact⟨Nat.zero_le _,by rw[lr]⟩
 ·rintro i st ⟨hi,rfl⟩
  by_cases aj:i<l.length
  ·have d1:decide ((i:Int)<(l.length:Int))=true:=by simp;omega
   have hg:(l.map ae.cells)[i]?=some (ae.cells l[i]):=by simp[aj]
   have et:takeN 5 (List.map AV.p (ae.cells l[i]))=some (List.map AV.p (ae.cells l[i])):=dR (by rw[List.length_map,ae.aY]);have ex:=bp i (by rw[aC]at hm;omega);simp only[go_sem,simprocAttr,List.length_map,d1,hg,et,ae.aY];intro _;refine U (he l[i] (List.getElem_mem aj) _) ?_;have hf:=mW (fun a=>(ae.cells a).map AV.p) [.p (.i .i64 0),.p (.s []),.p (.i .i64 0),.p (.i .i64 0),.p .nl] l aj;have mg:=mV (fun a=>(ae.cells a).map AV.p) [.p (.i .i64 0),.p (.s []),.p (.i .i64 0),.p (.i .i64 0),.p .nl] l hi;have hs:=jf [.p (.i .i64 0),.p (.s []),.p (.i .i64 0),.p (.i .i64 0),.p .nl] (List.map AV.p (ae.cells l[i])) [] (by rw[List.length_map,ae.aY];rfl);simp only[List.append_nil]at hs;simp only[go_sem,simprocAttr,hf,hs,mg,List.length_map,ae.aY];refine⟨by omega,?_⟩;rw[o7 hf hs];have ba:=mX (fun a=>(ae.cells a).map AV.p) [.p (.i .i64 0),.p (.s []),.p (.i .i64 0),.p (.i .i64 0),.p .nl] l aj;simp only[go_sem,simprocAttr,ex];refine⟨i+1,⟨by omega,?_⟩,by omega⟩;rw[<-ba]
  ·have:i=l.length:=by omega
   subst this;have d1:decide ((l.length:Int)<(l.length:Int))=false:=by simp
   simp only[go_sem,simprocAttr,List.length_map,d1];intro _;refine⟨0,0,rfl,?_⟩;rw[mU,List.map_map]
   rfl
theorem VR {l:List aa} (hl:l.length<=1048576) (he:∀a∈l,kr 16 (av (aa.cells a))):kr 42 (.p (.l (l.map aa.cells))):=by
 refine kt (sz:=7) ?_ (by intro y hy;obtain⟨a,_,rfl⟩:=List.mem_map.1 hy;exact aa.aY a);refine call42 (by simp) ?_;have hm:l.length<=fb:=by rw[aC];omega
 simp only[go_sem,simprocAttr,TA,abA,List.length_map];intro _;refine⟨by omega,by omega,by omega,?_⟩;refine⟨Nat,[0,2,3,4],fun i st=>i<=l.length/\st=⟨[(0,.p (.l (l.map aa.cells))),(2,.p .nl),(3,.gs 0 0 0 l.length),(4,.p (.i .i64 i))],[],[.rows 7 0 (fill (fun a=>(aa.cells a).map .p) [.p (.i .i64 0),.p (.s []),.p (.i .i64 0),.p (.s []),.p (.i .i64 0),.p .nl,.p .nl] l i)]⟩,fun i=>l.length-i,⟨0,?_⟩,?_⟩
 ·simp only[go_sem,simprocAttr]
  exact⟨Nat.zero_le _,by rw[lr]⟩
 ·rintro i st ⟨hi,rfl⟩
  by_cases aj:i<l.length
  ·have d1:decide ((i:Int)<(l.length:Int))=true:=by simp;omega
   have hg:(l.map aa.cells)[i]?=some (aa.cells l[i]):=by simp[aj]
   have et:takeN 7 (List.map AV.p (aa.cells l[i]))=some (List.map AV.p (aa.cells l[i])):=dR (by rw[List.length_map,aa.aY]);have ex:=bp i (by rw[aC]at hm;omega);simp only[go_sem,simprocAttr,List.length_map,d1,hg,et,aa.aY];intro _;refine U (he l[i] (List.getElem_mem aj) _) ?_;have hf:=mW (fun a=>(aa.cells a).map AV.p) [.p (.i .i64 0),.p (.s []),.p (.i .i64 0),.p (.s []),.p (.i .i64 0),.p .nl,.p .nl] l aj;have mg:=mV (fun a=>(aa.cells a).map AV.p) [.p (.i .i64 0),.p (.s []),.p (.i .i64 0),.p (.s []),.p (.i .i64 0),.p .nl,.p .nl] l hi;have hs:=jf [.p (.i .i64 0),.p (.s []),.p (.i .i64 0),.p (.s []),.p (.i .i64 0),.p .nl,.p .nl] (List.map AV.p (aa.cells l[i])) [] (by rw[List.length_map,aa.aY];rfl);simp only[List.append_nil]at hs;simp only[go_sem,simprocAttr,hf,hs,mg,List.length_map,aa.aY];refine⟨by omega,?_⟩;rw[o7 hf hs];have ba:=mX (fun a=>(aa.cells a).map AV.p) [.p (.i .i64 0),.p (.s []),.p (.i .i64 0),.p (.s []),.p (.i .i64 0),.p .nl,.p .nl] l aj;simp only[go_sem,simprocAttr,ex];refine⟨i+1,⟨by omega,?_⟩,by omega⟩;rw[<-ba]
  ·have:i=l.length:=by omega
   subst this;have d1:decide ((l.length:Int)<(l.length:Int))=false:=by simp
   simp only[go_sem,simprocAttr,List.length_map,d1];intro _;refine⟨0,0,rfl,?_⟩;rw[mU,List.map_map]
   rfl
theorem VS {l:List al} (hl:l.length<=1048576) (he:∀a∈l,kr 83 (av (al.cells a))):kr 43 (.p (.l (l.map al.cells))):=by
 refine kt (sz:=12) ?_ (by intro y hy;obtain⟨a,_,rfl⟩:=List.mem_map.1 hy;exact al.aY a);refine call43 (by simp) ?_;have hm:l.length<=fb:=by rw[aC];omega
 simp only[go_sem,simprocAttr,Tu,abv,List.length_map];intro _;refine⟨by omega,by omega,by omega,?_⟩;refine⟨Nat,[0,2,3,4],fun i st=>i<=l.length/\st=⟨[(0,.p (.l (l.map al.cells))),(2,.p .nl),(3,.gs 0 0 0 l.length),(4,.p (.i .i64 i))],[],[.rows 12 0 (fill (fun a=>(al.cells a).map .p) [.p (.i .i64 0),.p (.s []),.p (.i .i64 0),.p (.i .i64 0),.p .nl,.p (.i .i64 0),.p (.s []),.p (.i .i64 0),.p (.s []),.p (.i .i64 0),.p .nl,.p .nl] l i)]⟩,fun i=>l.length-i,⟨0,?_⟩,?_⟩
 ·simp only[go_sem,simprocAttr]
  exact⟨Nat.zero_le _,by rw[lr]⟩
 ·rintro i st ⟨hi,rfl⟩
  by_cases aj:i<l.length
  ·have d1:decide ((i:Int)<(l.length:Int))=true:=by simp;omega
   have hg:(l.map al.cells)[i]?=some (al.cells l[i]):=by simp[aj]
   have et:takeN 12 (List.map AV.p (al.cells l[i]))=some (List.map AV.p (al.cells l[i])):=dR (by rw[List.length_map,al.aY]);have ex:=bp i (by rw[aC]at hm;omega);simp only[go_sem,simprocAttr,List.length_map,d1,hg,et,al.aY];intro _;refine U (he l[i] (List.getElem_mem aj) _) ?_;have hf:=mW (fun a=>(al.cells a).map AV.p) [.p (.i .i64 0),.p (.s []),.p (.i .i64 0),.p (.i .i64 0),.p .nl,.p (.i .i64 0),.p (.s []),.p (.i .i64 0),.p (.s []),.p (.i .i64 0),.p .nl,.p .nl] l aj;have mg:=mV (fun a=>(al.cells a).map AV.p) [.p (.i .i64 0),.p (.s []),.p (.i .i64 0),.p (.i .i64 0),.p .nl,.p (.i .i64 0),.p (.s []),.p (.i .i64 0),.p (.s []),.p (.i .i64 0),.p .nl,.p .nl] l hi;have hs:=jf [.p (.i .i64 0),.p (.s []),.p (.i .i64 0),.p (.i .i64 0),.p .nl,.p (.i .i64 0),.p (.s []),.p (.i .i64 0),.p (.s []),.p (.i .i64 0),.p .nl,.p .nl] (List.map AV.p (al.cells l[i])) [] (by rw[List.length_map,al.aY];rfl);simp only[List.append_nil]at hs;simp only[go_sem,simprocAttr,hf,hs,mg,List.length_map,al.aY];refine⟨by omega,?_⟩;rw[o7 hf hs];have ba:=mX (fun a=>(al.cells a).map AV.p) [.p (.i .i64 0),.p (.s []),.p (.i .i64 0),.p (.i .i64 0),.p .nl,.p (.i .i64 0),.p (.s []),.p (.i .i64 0),.p (.s []),.p (.i .i64 0),.p .nl,.p .nl] l aj;simp only[go_sem,simprocAttr,ex];refine⟨i+1,⟨by omega,?_⟩,by omega⟩;rw[<-ba]
  ·have:i=l.length:=by omega
   subst this;have d1:decide ((l.length:Int)<(l.length:Int))=false:=by simp
   simp only[go_sem,simprocAttr,List.length_map,d1];intro _;refine⟨0,0,rfl,?_⟩;rw[mU,List.map_map]
   rfl
theorem OL {l:List ah} (hl:l.length<=1048576) (he:∀a∈l,kr 137 (av (ah.cells a))):kr 82 (.p (.l (l.map ah.cells))):=by
 refine kt (sz:=7) ?_ (by intro y hy;obtain⟨a,_,rfl⟩:=List.mem_map.1 hy;exact ah.aY a);refine call82 (by simp) ?_;have hm:l.length<=fb:=by rw[aC];omega
 simp only[go_sem,simprocAttr,Tw,abw,List.length_map];intro _;refine⟨by omega,by omega,by omega,?_⟩;refine⟨Nat,[0,2,3,4],fun i st=>i<=l.length/\st=⟨[(0,.p (.l (l.map ah.cells))),(2,.p .nl),(3,.gs 0 0 0 l.length),(4,.p (.i .i64 i))],[],[.rows 7 0 (fill (fun a=>(ah.cells a).map .p) [.p (.s []),.p (.b false),.p (.i .i64 0),.p (.s []),.p (.i .i64 0),.p .nl,.p (.i .i64 0)] l i)]⟩,fun i=>l.length-i,⟨0,?_⟩,?_⟩
 ·simp only[go_sem,simprocAttr]
  exact⟨Nat.zero_le _,by rw[lr]⟩
 ·rintro i st ⟨hi,rfl⟩
  by_cases aj:i<l.length
  ·have d1:decide ((i:Int)<(l.length:Int))=true:=by simp;omega
   have hg:(l.map ah.cells)[i]?=some (ah.cells l[i]):=by simp[aj]
   have et:takeN 7 (List.map AV.p (ah.cells l[i]))=some (List.map AV.p (ah.cells l[i])):=dR (by rw[List.length_map,ah.aY]);have ex:=bp i (by rw[aC]at hm;omega);simp only[go_sem,simprocAttr,List.length_map,d1,hg,et,ah.aY];intro _;refine U (he l[i] (List.getElem_mem aj) _) ?_;have hf:=mW (fun a=>(ah.cells a).map AV.p) [.p (.s []),.p (.b false),.p (.i .i64 0),.p (.s []),.p (.i .i64 0),.p .nl,.p (.i .i64 0)] l aj;have mg:=mV (fun a=>(ah.cells a).map AV.p) [.p (.s []),.p (.b false),.p (.i .i64 0),.p (.s []),.p (.i .i64 0),.p .nl,.p (.i .i64 0)] l hi;have hs:=jf [.p (.s []),.p (.b false),.p (.i .i64 0),.p (.s []),.p (.i .i64 0),.p .nl,.p (.i .i64 0)] (List.map AV.p (ah.cells l[i])) [] (by rw[List.length_map,ah.aY];rfl);simp only[List.append_nil]at hs;simp only[go_sem,simprocAttr,hf,hs,mg,List.length_map,ah.aY];refine⟨by omega,?_⟩;rw[o7 hf hs];have ba:=mX (fun a=>(ah.cells a).map AV.p) [.p (.s []),.p (.b false),.p (.i .i64 0),.p (.s []),.p (.i .i64 0),.p .nl,.p (.i .i64 0)] l aj;simp only[go_sem,simprocAttr,ex];refine⟨i+1,⟨by omega,?_⟩,by omega⟩;rw[<-ba]
  ·have:i=l.length:=by omega
   subst this;have d1:decide ((l.length:Int)<(l.length:Int))=false:=by simp
   simp only[go_sem,simprocAttr,List.length_map,d1];intro _;refine⟨0,0,rfl,?_⟩;rw[mU,List.map_map]
   rfl
theorem OM {l:List ai} (hl:l.length<=1048576) (he:∀a∈l,kr 41 (av (ai.cells a))):kr 15 (.p (.l (l.map ai.cells))):=by
 refine kt (sz:=4) ?_ (by intro y hy;obtain⟨a,_,rfl⟩:=List.mem_map.1 hy;exact ai.aY a);refine call15 (by simp) ?_;have hm:l.length<=fb:=by rw[aC];omega
 simp only[go_sem,simprocAttr,Ty,aby,List.length_map];intro _;refine⟨by omega,by omega,by omega,?_⟩;refine⟨Nat,[0,2,3,4],fun i st=>i<=l.length/\st=⟨[(0,.p (.l (l.map ai.cells))),(2,.p .nl),(3,.gs 0 0 0 l.length),(4,.p (.i .i64 i))],[],[.rows 4 0 (fill (fun a=>(ai.cells a).map .p) [.p (.s []),.p .nl,.p .nl,.p (.i .i64 0)] l i)]⟩,fun i=>l.length-i,⟨0,?_⟩,?_⟩
 ·simp only[go_sem,simprocAttr]
  exact⟨Nat.zero_le _,by rw[lr]⟩
 ·rintro i st ⟨hi,rfl⟩
  by_cases aj:i<l.length
  ·have d1:decide ((i:Int)<(l.length:Int))=true:=by simp;omega
   have hg:(l.map ai.cells)[i]?=some (ai.cells l[i]):=by simp[aj]
   have et:takeN 4 (List.map AV.p (ai.cells l[i]))=some (List.map AV.p (ai.cells l[i])):=dR (by rw[List.length_map,ai.aY]);have ex:=bp i (by rw[aC]at hm;omega);simp only[go_sem,simprocAttr,List.length_map,d1,hg,et,ai.aY];intro _;refine U (he l[i] (List.getElem_mem aj) _) ?_;have hf:=mW (fun a=>(ai.cells a).map AV.p) [.p (.s []),.p .nl,.p .nl,.p (.i .i64 0)] l aj;have mg:=mV (fun a=>(ai.cells a).map AV.p) [.p (.s []),.p .nl,.p .nl,.p (.i .i64 0)] l hi;have hs:=jf [.p (.s []),.p .nl,.p .nl,.p (.i .i64 0)] (List.map AV.p (ai.cells l[i])) [] (by rw[List.length_map,ai.aY];rfl);simp only[List.append_nil]at hs;simp only[go_sem,simprocAttr,hf,hs,mg,List.length_map,ai.aY];refine⟨by omega,?_⟩;rw[o7 hf hs];have ba:=mX (fun a=>(ai.cells a).map AV.p) [.p (.s []),.p .nl,.p .nl,.p (.i .i64 0)] l aj;simp only[go_sem,simprocAttr,ex];refine⟨i+1,⟨by omega,?_⟩,by omega⟩;rw[<-ba]
  ·have:i=l.length:=by omega
   subst this;have d1:decide ((l.length:Int)<(l.length:Int))=false:=by simp
   simp only[go_sem,simprocAttr,List.length_map,d1];intro _;refine⟨0,0,rfl,?_⟩;rw[mU,List.map_map]
   rfl
theorem IF {l:List (List UInt8)} (hl:l.length<=1048576):kr 81 (.p (.l (cg l))):=by
 refine kt (sz:=1) ?_ (by intro y hy;obtain⟨a,_,rfl⟩:=List.mem_map.1 hy;rfl);refine call81 (by simp) ?_;have hm:l.length<=fb:=by rw[aC];omega
 simp only[go_sem,simprocAttr,TD,abB,cg,List.length_map];intro _;refine⟨by omega,by omega,by omega,?_⟩;refine⟨Nat,[0,2,3,4],fun i st=>i<=l.length/\st=⟨[(0,.p (.l (l.map fun s=>[.s s]))),(2,.p .nl),(3,.gs 0 0 0 l.length),(4,.p (.i .i64 i))],[],[.rows 1 0 (fill (fun s=>[.p (.s s)]) [.p (.s [])] l i)]⟩,fun i=>l.length-i,⟨0,?_⟩,?_⟩
 ·simp only[go_sem,simprocAttr]
  exact⟨Nat.zero_le _,by rw[lr]⟩
 ·rintro i st ⟨hi,rfl⟩
  by_cases aj:i<l.length
  ·have d1:decide ((i:Int)<(l.length:Int))=true:=by simp;omega
   have hg:(l.map fun s=>[PV.s s])[i]?=some [.s l[i]]:=by simp[aj]
   have ex:=bp i (by rw[aC]at hm;omega);have hf:=mW (fun s=>[AV.p (.s s)]) [.p (.s [])] l aj;have mg:=mV (fun s=>[AV.p (.s s)]) [.p (.s [])] l hi;simp only[go_sem,simprocAttr,List.length_map,d1,hg,hf,mg]
   intros
   refine⟨by omega,?_⟩;rw[o7 hf rfl];have ba:=mX (fun s=>[AV.p (.s s)]) [.p (.s [])] l aj;simp only[go_sem,simprocAttr,ex];refine⟨i+1,⟨by omega,?_⟩,by omega⟩;rw[<-ba]
  ·have:i=l.length:=by omega
   subst this;have d1:decide ((l.length:Int)<(l.length:Int))=false:=by simp
   simp only[go_sem,simprocAttr,List.length_map,d1];intro _;refine⟨0,0,rfl,?_⟩;rw[mU,List.map_map]
   rfl
theorem IG (k:Int) (n:List UInt8) (p:Int) (ks:List af) (hk:kr 205 (.p (.l (af.aV ks)))):kr 179 (av (af.cells (af.mk k n p ks))):=by
 intro H;refine aD ?_ (dK _);refine call179 (by simp) ?_;simp only[go_sem,simprocAttr,K5,TG,af.cells];refine U (hk _) ?_;simp only[go_sem,simprocAttr];exact⟨rfl,_,rfl⟩
theorem Y8 (k:Int) (n:List UInt8) (u p:Int) (ks:List ae) (hk:kr 180 (.p (.l (ae.aV ks)))):kr 138 (av (ae.cells (ae.mk k n u p ks))):=by
 intro H;refine aD ?_ (dK _);refine call138 (by simp) ?_;simp only[go_sem,simprocAttr,K3,TB,ae.cells];refine U (hk _) ?_;simp only[go_sem,simprocAttr];exact⟨rfl,_,rfl⟩
theorem Y9 (k:Int) (n:List UInt8) (u:Int) (t:List UInt8) (p:Int) (ks:List aa) (aM:List al) (hk:kr 42 (.p (.l (aa.aV ks)))) (ha:kr 43 (.p (.l (aa.bR aM)))):kr 16 (av (aa.cells (aa.mk k n u t p ks aM))):=by
 intro H;refine aD ?_ (dK _);refine call16 (by simp) ?_;simp only[go_sem,simprocAttr,Tz,abz,aa.cells];refine U (hk _) ?_;simp only[go_sem,simprocAttr];refine U (ha _) ?_;simp only[go_sem,simprocAttr];exact⟨rfl,_,rfl⟩
theorem Zs {p:ae} {e:aa} (hp:kr 138 (av p.cells)) (he:kr 16 (av e.cells)):kr 83 (av (al.cells (al.mk p e))):=by
 intro H;obtain⟨pk,pn,pu,pp,Cs⟩:=p;obtain⟨ek,en,eu,et,ep,Gj,Gk⟩:=e;rw[av,ae.cells]at hp;rw[av,aa.cells]at he;simp only[List.map_cons,List.map_nil]at hp he;refine aD ?_ (dK _);refine call83 (by simp) ?_;simp only[go_sem,simprocAttr,Tt,abu,al.cells,ae.cells,aa.cells];refine U (hp _) ?_;simp only[go_sem,simprocAttr];refine U (he _) ?_;simp only[go_sem,simprocAttr];exact⟨rfl,_,rfl⟩
theorem VT {c:ah} (ht:kr 179 (av c.arg.cells)):kr 137 (av (ah.cells (c))):=by
 intro H;obtain⟨cn,ch,⟨ak,an,ap,wV⟩,cp⟩:=c;rw[av,af.cells]at ht;simp only[List.map_cons,List.map_nil]at ht;refine aD ?_ (dK _);refine call137 (by simp) ?_;simp only[go_sem,simprocAttr,K2,Tv,ah.cells,af.cells];refine U (ht _) ?_;simp only[go_sem,simprocAttr];exact⟨rfl,_,rfl⟩
theorem VU {d:ai} (hv:kr 81 (.p (.l (cg d.vars)))) (hc:kr 82 (.p (.l (d.ctors.map ah.cells)))):kr 41 (av (ai.cells (d))):=by
 intro H;refine aD ?_ (dK _);refine call41 (by simp) ?_;simp only[go_sem,simprocAttr,Tx,abx,ai.cells];refine U (hv _) ?_;simp only[go_sem,simprocAttr];refine U (hc _) ?_;simp only[go_sem,simprocAttr];exact⟨rfl,_,rfl⟩
theorem VV {g:bb} (hd:kr 15 (.p (.l (g.types.map ai.cells)))) (he:kr 16 (av g.body.cells)):kr 6 (av (bb.cells (g))):=by
 intro H;obtain⟨gt,⟨ek,en,eu,et,ep,Gj,Gk⟩⟩:=g;rw[av,aa.cells]at he;simp only[List.map_cons,List.map_nil]at he;refine aD ?_ (dK _);refine call6 (by simp) ?_;simp only[go_sem,simprocAttr,mc6,mr6,bb.cells,aa.cells];refine U (hd _) ?_;simp only[go_sem,simprocAttr];refine U (he _) ?_;simp only[go_sem,simprocAttr];exact⟨rfl,_,rfl⟩
theorem jl {α:Type} {f:α->Nat} {l:List α} {m:Nat} (h:cw f l<=m):l.length<=m:=Nat.le_trans (gM f l) h
theorem ag3:∀(m:Nat) (t:af),t.sz<m→t.sz≤1048576→kr 179 (av t.cells):=by
  intro m
  induction m with
  |zero=>intro t h;omega
  |succ m ih=>
   intro t h hb;obtain⟨k,n,p,ks⟩:=t;rw[af.sz,af.dr]at h hb;have :=IG k n p ks;rw[af.aw]at this;exact this (Gn (jl (f:=af.sz) (by omega)) fun a ha=>ih a (by have :=bM af.sz ha;omega) (by have :=bM af.sz ha;omega))
theorem Zt:∀(m:Nat) (t:ae),t.sz<m→t.sz≤1048576→kr 138 (av t.cells):=by
  intro m
  induction m with
  |zero=>intro t h;omega
  |succ m ih=>
   intro t h hb;obtain⟨k,n,u,p,ks⟩:=t;rw[ae.sz,ae.dr]at h hb;have :=Y8 k n u p ks;rw[ae.aw]at this;exact this (VQ (jl (f:=ae.sz) (by omega)) fun a ha=>ih a (by have :=bM ae.sz ha;omega) (by have :=bM ae.sz ha;omega))
theorem Zu:∀(m:Nat) (t:aa),t.sz<m→t.sz≤1048576→kr 16 (av t.cells):=by
  intro m
  induction m with
  |zero=>intro t h;omega
  |succ m ih=>
   intro t h hb;obtain⟨k,n,u,x,p,ks,aM⟩:=t;rw[aa.sz,aa.dr,aa.lN]at h hb;have :=Y9 k n u x p ks aM;rw[aa.aw,aa.aN]at this;refine this (VR (jl (f:=aa.sz) (by omega)) fun a ha=>ih a (by have :=bM aa.sz ha;omega) (by have :=bM aa.sz ha;omega)) (VS (jl (f:=al.sz) (by omega)) fun a ha=> ?_);have hm:=bM al.sz ha;obtain⟨q,e⟩:=a;rw[al.sz]at hm;exact Zs (Zt _ q (Nat.lt_succ_self _) (by omega)) (ih e (by omega) (by omega))
theorem VW (g:bb) (hb:g.sz<=1048576):kr 6 (av g.cells):=by
 rw[bb.sz,As]at hb;refine VV (OM (jl (f:=ai.sz) (by omega)) fun d hd=>?_) (Zu _ _ (Nat.lt_succ_self _) (by omega));have hm:=bM ai.sz hd;rw[ai.sz,Aq,Ar]at hm;refine VU (IF (jl (f:=List.length) (by omega))) (OL (jl (f:=ah.sz) (by omega)) fun c hc=>?_);have wW:=bM ah.sz hc;rw[ah.sz]at wW;exact VT (ag3 _ _ (Nat.lt_succ_self _) (by omega))
end Go.Proofs.YtjkbbnfdbfcebaaGreatDoor.Pg