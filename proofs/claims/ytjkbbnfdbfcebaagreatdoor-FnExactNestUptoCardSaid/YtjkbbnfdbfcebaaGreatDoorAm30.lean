/- A call with effects whose own objects are dropped behind it. -/
import Derived.Test.YtjkbbnfdbfcebaaGreatDoorAm29
set_option linter.all false
namespace Go.AM
variable {P:Program}
def Tf (a:AV):Prop:=∀(θ bd:Th) (W:Im) (v:Value),bc θ W a v->bc bd W a v
theorem bw (x:PV):Tf (.p x):=fun _ _ _ _ h=>by cases h with|p _ _ h=>exact .p _ _ h
theorem Ji (cs:List AV) (h:∀c∈cs,Tf c):Tf (.st cs):=fun θ bd W v hv=>by
 cases hv with
 |st _ vs hs hc h1=>exact .st cs vs hs (fun j c v hj hv=>h c (List.mem_of_getElem? hj) _ _ _ _ (hc j c v hj hv)) h1
def TfO:AO->Prop
 | .var cs=>∀c∈cs,Tf c
 | .rows _ _ rs=>∀r∈rs,∀c∈r,Tf c
 |_=>True
def gY (θ:Th) (n:Nat):Th:=fun id ver=>if id<n then θ id ver else .no
theorem oP {θ:Th} {n id ver:Nat} (h:id<n):gY θ n id ver=θ id ver:=by simp[gY,h]
theorem qW {θ bd:Th} {W W':Im} {n:Nat} (hn:∀id ver,n≤id→θ id ver= .no) {c:AV} {v0:Value} (h:bc θ W c v0):∀{v:Value},bc bd W' c v→bc (gY bd n) W' c v:=by
  have lt:∀{id ver:Nat} {p:Pl},θ id ver=p→p≠ .no→id<n:=fun{id ver p} e hp=>by
    rcases Nat.lt_or_ge id n with h|h
    · exact h
    · exact(hp (by rw[←e,hn id ver h])).elim
  have key:∀{id ver:Nat},id<n→gY bd n id ver=bd id ver:=fun h=>oP h
  induction h with
  |any v=>intro v _;exact .any v
  |p x v h=>intro v hv;cases hv with|p _ _ h=>exact .p _ _ h
  |st cs vs hs hc h1 ih=>
   intro v hv
   cases hv with
   |st _ us lH kM h1'=>
    refine .st cs us lH (fun j c u hj hu=> ?_) h1';have tF:j<vs.size:=by rw[hs];exact(List.getElem?_eq_some_iff.1 hj).1
    exact ih j c vs[j] hj (Array.getElem?_eq_getElem tF) (kM j c u hj hu)
  |ptr id off b sz tot h=>
   have hl:=lt h (by simp);intro v hv
   cases hv with
   |ptr _ _ b' cP fc h'=>exact .ptr id off b' cP fc (by rw[key hl];exact h')
   |fM _ _ a h'=>exact .fM id off a (by rw[key hl];exact h')
  |fM id off a h=>
   have hl:=lt h (by simp);intro v hv
   cases hv with
   |ptr _ _ b' cP fc h'=>exact .ptr id off b' cP fc (by rw[key hl];exact h')
   |fM _ _ a h'=>exact .fM id off a (by rw[key hl];exact h')
  |ea id ver off m a cap h vy hm=>
   have hl:=lt h (by simp);intro v hv
   cases hv with
   |ea _ _ _ _ a' tO h' q1 q2=>exact .ea id ver off m a' tO (by rw[key hl];exact h') q1 q2
   |fN _ _ h'=>exact .fN id ver (by rw[key hl];exact h')
   |gs _ _ _ _ b sz tot o tO h' q1 q2 q3 q4 q5=>exact .gs id ver off m b sz tot o tO (by rw[key hl];exact h') q1 q2 q3 q4 q5
  |fN id ver h=>
   have hl:=lt h (by simp);intro v hv
   cases hv with
   |ea _ _ _ _ a' tO h' q1 q2=>exact .ea id ver 0 0 a' tO (by rw[key hl];exact h') q1 q2
   |fN _ _ h'=>exact .fN id ver (by rw[key hl];exact h')
   |gs _ _ _ _ b sz tot o tO h' q1 q2 q3 q4 q5=>exact .gs id ver 0 0 b sz tot o tO (by rw[key hl];exact h') q1 q2 q3 q4 q5
  |gs id ver off m b sz tot o cap h q1 q2 q3 q4 q5=>
   have hl:=lt h (by simp);intro v hv
   cases hv with
   |ea _ _ _ _ a' tO h' q1 q2=>exact .ea id ver off m a' tO (by rw[key hl];exact h') q1 q2
   |fN _ _ h'=>exact .fN id ver (by rw[key hl];exact h')
   |gs _ _ _ _ b sz tot o tO h' q1 q2 q3 q4 q5=>exact .gs id ver off m b sz tot o tO (by rw[key hl];exact h') q1 q2 q3 q4 q5
  |ep id ver row fL b sz tot h=>
   have hl:=lt h (by simp);intro v hv
   cases hv with
   |ep _ _ _ _ b' cP fc h'=>exact .ep id ver row fL b' cP fc (by rw[key hl];exact h')
   |kx _ _ _ _ a h'=>exact .kx id ver row fL a (by rw[key hl];exact h')
  |kx id ver row fL a h=>
   have hl:=lt h (by simp);intro v hv
   cases hv with
   |ep _ _ _ _ b' cP fc h'=>exact .ep id ver row fL b' cP fc (by rw[key hl];exact h')
   |kx _ _ _ _ a h'=>exact .kx id ver row fL a (by rw[key hl];exact h')
  |ip row b o f eS cR=>intro v hv;cases hv with|ip _ b o f q1 q2=>exact .ip row b o f q1 q2
  |fI f eO vs hs hc ih=>
   intro v hv
   cases hv with
   |fI _ _ us lH kM=>
    refine .fI f eO us lH (fun j c u hj hu=> ?_);have tF:j<vs.size:=by rw[hs];exact(List.getElem?_eq_some_iff.1 hj).1
    exact ih j c vs[j] hj (Array.getElem?_eq_getElem tF) (kM j c u hj hu)
  |dX cs vs hs hc ih=>
   intro v hv
   cases hv with
   |dX _ us lH kM=>
    refine .dX cs us lH (fun j c u hj hu=> ?_);have tF:j<vs.size:=by rw[hs];exact(List.getElem?_eq_some_iff.1 hj).1
    exact ih j c vs[j] hj (Array.getElem?_eq_getElem tF) (kM j c u hj hu)
theorem OR.cells {θ Mx:Th} {W:Im} {w:World} {id:Nat} {o:AO} (h:OR θ W w id o) (e:∀ver,Mx id ver=θ id ver)
    (hv:∀cs,o= .var cs→∀c∈cs,∀v,bc θ W c v→bc Mx W c v) (hr:∀sz ver rs,o= .rows sz ver rs→∀r∈rs,∀c∈r,∀v,bc θ W c v→bc Mx W c v):OR Mx W w id o:=by
  cases o with
  |dead=>intro ver;rw[e];exact h ver
  |iP=>intro ver;rw[e];exact h ver
  |td b v=>exact⟨h.1,fun ver=>by rw[e];exact h.2 ver⟩
  |ES b v o=>exact⟨h.1,h.2.1,fun ver=>by rw[e];exact h.2.2 ver⟩
  |var cs=>
   obtain⟨⟨b,sz,tot,ty,vs,h1,h2,h3,h4,h5⟩,h6⟩:=h
   exact⟨⟨b,sz,tot,ty,vs,by rw[e];exact h1,h2,h3,fun j c v hj hjv=>hv cs rfl c (List.mem_of_getElem? hj) v (h4 j c v hj hjv),h5⟩,fun ver agn=>by rw[e];exact h6 ver agn⟩
  |rows sz ver rs=>
   obtain⟨h0,h8,h9⟩:=h;refine⟨?_,fun v' yV=>by rw[e];exact h8 v' yV,fun v' yV=>by rw[e];exact h9 v' yV⟩;rcases h0 with⟨h1,h2⟩|⟨b,tot,ty,vs,h1,h2,h3,h4,h5,h6,h7⟩
   · exact .inl ⟨by rw[e];exact h1,h2⟩
   · exact .inr ⟨b,tot,ty,vs,by rw[e];exact h1,h2,h3,h4,h5,fun i r j c v hi hj hjv=>hr sz ver rs rfl r (List.mem_of_getElem? hi) c (List.mem_of_getElem? hj) v (h6 i r j c v hi hj hjv),h7⟩
theorem OR.val {θ:Th} {W:Im} {w:World} {id:Nat} {o:AO} (h:OR θ W w id o):
  (∀cs,o=.var cs->∀c∈cs,∃v,bc θ W c v)/\∀sz ver rs,o=.rows sz ver rs->∀r∈rs,∀c∈r,∃v,bc θ W c v:=by
 constructor
 ·rintro cs rfl c hc
  obtain⟨⟨b,sz,tot,ty,vs,h1,h2,h3,h4,h5⟩,h6⟩:=h;obtain⟨j,hj⟩:=List.getElem?_of_mem hc;have tF:j<vs.size:=by rw[h3];exact(List.getElem?_eq_some_iff.1 hj).1
  exact⟨_,h4 j c vs[j] hj (Array.getElem?_eq_getElem tF)⟩
 ·rintro sz ver rs rfl r hr c hc
  obtain⟨h0,h8,h9⟩:=h;rcases h0 with⟨h1,rfl⟩|⟨b,tot,ty,vs,h1,h2,h3,h4,h5,h6,h7⟩
  ·cases hr
  ·obtain⟨i,hi⟩:=List.getElem?_of_mem hr
   obtain⟨j,hj⟩:=List.getElem?_of_mem hc;have Nh:=(List.getElem?_eq_some_iff.1 hi).1;have me:=(List.getElem?_eq_some_iff.1 hj).1;have hlen:=h5 r hr
   have aj:i*sz+j<vs.size:=by
    rw[h3];have jt:(i+1)*sz<=tot*sz:=Nat.mul_le_mul_right sz (by omega);rw[Nat.add_mul,Nat.one_mul]at jt;omega
   exact⟨_,h6 i r j c vs[i*sz+j] hi hj (Array.getElem?_eq_getElem aj)⟩
end Go.AM
