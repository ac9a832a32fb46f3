/- What a call makes, laid at places that are kept for it. -/
import Derived.Test.YtjkbbnfdbfcebaaGreatDoorAm34
set_option linter.all false
namespace Go.AM
variable {P:Program}
theorem xN {f:Nat} {args:List AV} {H:List AO} {Q:AV->List AO->Prop} (n:Nat) (h:aA P f args (H++List.replicate n .iP) Q):aA P f args H Q:=
 ⟨h.1,fun w θ W vs gm cR=>h.2 w θ W vs (gm.GZ n) cR⟩
def ju (H:List AO):List Nat->List AO->List AO
 |p::ps,o::os=>ju (H.set p o) ps os
 |_,_=>H
theorem uW (H:List AO) (os:List AO):ju H [] os=H:=by cases os<;>rfl
theorem kB:∀(ps:List Nat) (os:List AO) (H:List AO),(ju H ps os).length=H.length
 |[],os,H=>by rw[uW]
 |p::ps,[],H=>rfl
 |p::ps,o::os,H=>by rw[ju,kB ps os];simp
theorem o8:∀(ps:List Nat) (os:List AO) (H:List AO) (i:Nat),i∉ps→(ju H ps os)[i]?=H[i]?
  |[],os,H,i,_ =>by rw[uW]
  |p::ps,[],H,i,_ =>rfl
  |p::ps,o::os,H,i,h=>by
   simp at h;rw[ju,o8 ps os _ i h.2,List.getElem?_set_ne (fun e=>h.1 e.symm)]
theorem Ed:∀(ps:List Nat) (os:List AO) (H:List AO) (i:Nat) (o:AO),i∉ps→(ju H ps os).set i o=ju (H.set i o) ps os
  |[],os,H,i,o,_ =>by rw[uW,uW]
  |p::ps,[],H,i,o,_ =>rfl
  |p::ps,o'::os,H,i,o,h=>by
   simp at h;rw[ju,ju,Ed ps os _ i o h.2,List.set_comm _ _ (fun e=>h.1 e.symm)]
theorem Ee:∀(ps:List Nat) (os:List AO) (H A:List AO),(∀p∈ps,p<H.length)→ju (H++A) ps os=ju H ps os++A
  |[],os,H,A,_ =>by rw[uW,uW]
  |p::ps,[],H,A,_ =>rfl
  |p::ps,o::os,H,A,h=>by
   rw[ju,ju,List.set_append_left _ _ (h p (by simp)),Ee ps os _ A (fun q hq=>by simpa using h q (by simp[hq]))]
theorem zg:∀(ps:List Nat) (os:List AO) (H:List AO) (k p:Nat) (o:AO),ps.Nodup→(∀p∈ps,p<H.length)→ps[k]?=some p→os[k]?=some o→(ju H ps os)[p]?=some o
  |[],os,H,k,p,o,_,_,h,_ =>by simp at h
  |q::ps,[],H,k,p,o,_,_,_,h=>by simp at h
  |q::ps,o'::os,H,0,p,o,hn,hl,h1,h2=>by
   simp at h1 h2;subst h1 h2
   rw[ju,o8 ps os _ _ (List.nodup_cons.1 hn).1,List.getElem?_set_self (hl _ (by simp))]
  |q::ps,o'::os,H,k+1,p,o,hn,hl,h1,h2=>by
   rw[ju];exact zg ps os _ k p o (List.nodup_cons.1 hn).2 (fun q hq=>by simpa using hl q (by simp[hq])) (by simpa using h1) (by simpa using h2)
end Go.AM
