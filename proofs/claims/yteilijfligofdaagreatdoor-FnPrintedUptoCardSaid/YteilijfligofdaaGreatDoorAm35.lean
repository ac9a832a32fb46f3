/- What a call makes, laid at places that are kept for it. -/
import Derived.Test.YteilijfligofdaaGreatDoorAm34
set_option linter.all false
namespace Go.AM
variable {P:Program}
theorem yd {f:Nat} {args:List AV} {H:List AO} {Q:AV->List AO->Prop} (n:Nat) (h:al P f args (H++List.replicate n .iQ) Q):al P f args H Q:=
 ⟨h.1,fun w θ W vs jI cY=>h.2 w θ W vs (jI.Hl n) cY⟩
def jr (H:List AO):List Nat->List AO->List AO
 |p::ps,o::os=>jr (H.set p o) ps os
 |_,_=>H
theorem vt (H:List AO) (os:List AO):jr H [] os=H:=by cases os<;>rfl
theorem kB:∀(ps:List Nat) (os:List AO) (H:List AO),(jr H ps os).length=H.length
 |[],os,H=>by rw[vt]
 |p::ps,[],H=>rfl
 |p::ps,o::os,H=>by rw[jr,kB ps os];simp
theorem po:∀(ps:List Nat) (os:List AO) (H:List AO) (i:Nat),i∉ps→(jr H ps os)[i]?=H[i]?
  |[],os,H,i,_ =>by rw[vt]
  |p::ps,[],H,i,_ =>rfl
  |p::ps,o::os,H,i,h=>by
   simp at h;rw[jr,po ps os _ i h.2,List.getElem?_set_ne (fun e=>h.1 e.symm)]
theorem Ew:∀(ps:List Nat) (os:List AO) (H:List AO) (i:Nat) (o:AO),i∉ps→(jr H ps os).set i o=jr (H.set i o) ps os
  |[],os,H,i,o,_ =>by rw[vt,vt]
  |p::ps,[],H,i,o,_ =>rfl
  |p::ps,o'::os,H,i,o,h=>by
   simp at h;rw[jr,jr,Ew ps os _ i o h.2,List.set_comm _ _ (fun e=>h.1 e.symm)]
theorem Ey:∀(ps:List Nat) (os:List AO) (H A:List AO),(∀p∈ps,p<H.length)→jr (H++A) ps os=jr H ps os++A
  |[],os,H,A,_ =>by rw[vt,vt]
  |p::ps,[],H,A,_ =>rfl
  |p::ps,o::os,H,A,h=>by
   rw[jr,jr,List.set_append_left _ _ (h p (by simp)),Ey ps os _ A (fun q hq=>by simpa using h q (by simp[hq]))]
theorem zH:∀(ps:List Nat) (os:List AO) (H:List AO) (k p:Nat) (o:AO),ps.Nodup→(∀p∈ps,p<H.length)→ps[k]?=some p→os[k]?=some o→(jr H ps os)[p]?=some o
  |[],os,H,k,p,o,_,_,h,_ =>by simp at h
  |q::ps,[],H,k,p,o,_,_,_,h=>by simp at h
  |q::ps,o'::os,H,0,p,o,hn,hl,h1,h2=>by
   simp at h1 h2;subst h1 h2
   rw[jr,po ps os _ _ (List.nodup_cons.1 hn).1,List.getElem?_set_self (hl _ (by simp))]
  |q::ps,o'::os,H,k+1,p,o,hn,hl,h1,h2=>by
   rw[jr];exact zH ps os _ k p o (List.nodup_cons.1 hn).2 (fun q hq=>by simpa using hl q (by simp[hq])) (by simpa using h1) (by simpa using h2)
end Go.AM
