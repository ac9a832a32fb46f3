/- A call with effects whose own objects are dropped behind it. -/
import Derived.Test.YteilijfligofdaaGreatDoorAm29
set_option linter.all false
namespace Go.AM
variable {P:Program}
def Tf (a:AV):Prop:=∀(θ aX:Th) (W:Im) (v:Value),bb θ W a v->bb aX W a v
theorem bw (x:PV):Tf (.p x):=fun _ _ _ _ h=>by cases h with|p _ _ h=>exact .p _ _ h
theorem JP (cs:List AV) (h:∀c∈cs,Tf c):Tf (.st cs):=fun θ aX W v hv=>by
 cases hv with
 |st _ vs hs hc h1=>exact .st cs vs hs (fun j c v hj hv=>h c (List.mem_of_getElem? hj) _ _ _ _ (hc j c v hj hv)) h1
def gX (θ:Th) (n:Nat):Th:=fun id ver=>if id<n then θ id ver else .no
theorem oZ {θ:Th} {n id ver:Nat} (h:id<n):gX θ n id ver=θ id ver:=by simp[gX,h]
theorem rh {θ aX:Th} {W W':Im} {n:Nat} (hn:∀id ver,n≤id→θ id ver= .no) {c:AV} {v0:Value} (h:bb θ W c v0):∀{v:Value},bb aX W' c v→bb (gX aX n) W' c v:=by
  have lt:∀{id ver:Nat} {p:Pl},θ id ver=p→p≠ .no→id<n:=fun{id ver p} e hp=>by
    rcases Nat.lt_or_ge id n with h|h
    · exact h
    · exact(hp (by rw[←e,hn id ver h])).elim
  have key:∀{id ver:Nat},id<n→gX aX n id ver=aX id ver:=fun h=>oZ h
  induction h with
  |any v=>intro v _;exact .any v
  |p x v h=>intro v hv;cases hv with|p _ _ h=>exact .p _ _ h
  |st cs vs hs hc h1 ih=>
   intro v hv
   cases hv with
   |st _ us lM lT h1'=>
    refine .st cs us lM (fun j c u hj hu=> ?_) h1';have tQ:j<vs.size:=by rw[hs];exact(List.getElem?_eq_some_iff.1 hj).1
    exact ih j c vs[j] hj (Array.getElem?_eq_getElem tQ) (lT j c u hj hu)
  |ptr id off b sz br h=>
   have hl:=lt h (by simp);intro v hv
   cases hv with
   |ptr _ _ b' cX gn h'=>exact .ptr id off b' cX gn (by rw[key hl];exact h')
   |fO _ _ a h'=>exact .fO id off a (by rw[key hl];exact h')
  |fO id off a h=>
   have hl:=lt h (by simp);intro v hv
   cases hv with
   |ptr _ _ b' cX gn h'=>exact .ptr id off b' cX gn (by rw[key hl];exact h')
   |fO _ _ a h'=>exact .fO id off a (by rw[key hl];exact h')
  |eS id ver off m a cap h vQ hm=>
   have hl:=lt h (by simp);intro v hv
   cases hv with
   |eS _ _ _ _ a' tY h' q1 q2=>exact .eS id ver off m a' tY (by rw[key hl];exact h') q1 q2
   |gC _ _ h'=>exact .gC id ver (by rw[key hl];exact h')
   |gs _ _ _ _ b sz br o tY h' q1 q2 q3 q4 q5=>exact .gs id ver off m b sz br o tY (by rw[key hl];exact h') q1 q2 q3 q4 q5
  |gC id ver h=>
   have hl:=lt h (by simp);intro v hv
   cases hv with
   |eS _ _ _ _ a' tY h' q1 q2=>exact .eS id ver 0 0 a' tY (by rw[key hl];exact h') q1 q2
   |gC _ _ h'=>exact .gC id ver (by rw[key hl];exact h')
   |gs _ _ _ _ b sz br o tY h' q1 q2 q3 q4 q5=>exact .gs id ver 0 0 b sz br o tY (by rw[key hl];exact h') q1 q2 q3 q4 q5
  |gs id ver off m b sz br o cap h q1 q2 q3 q4 q5=>
   have hl:=lt h (by simp);intro v hv
   cases hv with
   |eS _ _ _ _ a' tY h' q1 q2=>exact .eS id ver off m a' tY (by rw[key hl];exact h') q1 q2
   |gC _ _ h'=>exact .gC id ver (by rw[key hl];exact h')
   |gs _ _ _ _ b sz br o tY h' q1 q2 q3 q4 q5=>exact .gs id ver off m b sz br o tY (by rw[key hl];exact h') q1 q2 q3 q4 q5
  |ep id ver row gl b sz br h=>
   have hl:=lt h (by simp);intro v hv
   cases hv with
   |ep _ _ _ _ b' cX gn h'=>exact .ep id ver row gl b' cX gn (by rw[key hl];exact h')
   |kx _ _ _ _ a h'=>exact .kx id ver row gl a (by rw[key hl];exact h')
  |kx id ver row gl a h=>
   have hl:=lt h (by simp);intro v hv
   cases hv with
   |ep _ _ _ _ b' cX gn h'=>exact .ep id ver row gl b' cX gn (by rw[key hl];exact h')
   |kx _ _ _ _ a h'=>exact .kx id ver row gl a (by rw[key hl];exact h')
  |ip row b o f eV cY=>intro v hv;cases hv with|ip _ b o f q1 q2=>exact .ip row b o f q1 q2
  |eB f eL vs hs hc ih=>
   intro v hv
   cases hv with
   |eB _ _ us lM lT=>
    refine .eB f eL us lM (fun j c u hj hu=> ?_);have tQ:j<vs.size:=by rw[hs];exact(List.getElem?_eq_some_iff.1 hj).1
    exact ih j c vs[j] hj (Array.getElem?_eq_getElem tQ) (lT j c u hj hu)
  |dK cs vs hs hc ih=>
   intro v hv
   cases hv with
   |dK _ us lM lT=>
    refine .dK cs us lM (fun j c u hj hu=> ?_);have tQ:j<vs.size:=by rw[hs];exact(List.getElem?_eq_some_iff.1 hj).1
    exact ih j c vs[j] hj (Array.getElem?_eq_getElem tQ) (lT j c u hj hu)
theorem OR.cells {θ M6:Th} {W:Im} {w:World} {id:Nat} {o:AO} (h:OR θ W w id o) (e:∀ver,M6 id ver=θ id ver)
    (hv:∀cs,o= .var cs→∀c∈cs,∀v,bb θ W c v→bb M6 W c v) (hr:∀sz ver rs,o= .rows sz ver rs→∀r∈rs,∀c∈r,∀v,bb θ W c v→bb M6 W c v):OR M6 W w id o:=by
  cases o with
  |dead=>intro ver;rw[e];exact h ver
  |iQ=>intro ver;rw[e];exact h ver
  |tE b v=>exact⟨h.1,fun ver=>by rw[e];exact h.2 ver⟩
  |Fj b v o=>exact⟨h.1,h.2.1,fun ver=>by rw[e];exact h.2.2 ver⟩
  |var cs=>
   obtain⟨⟨b,sz,br,ty,vs,h1,h2,h3,h4,h5⟩,h6⟩:=h
   exact⟨⟨b,sz,br,ty,vs,by rw[e];exact h1,h2,h3,fun j c v hj hjv=>hv cs rfl c (List.mem_of_getElem? hj) v (h4 j c v hj hjv),h5⟩,fun ver af7=>by rw[e];exact h6 ver af7⟩
  |rows sz ver rs=>
   obtain⟨h0,h8,h9⟩:=h;refine⟨?_,fun v' zw=>by rw[e];exact h8 v' zw,fun v' zw=>by rw[e];exact h9 v' zw⟩;rcases h0 with⟨h1,h2⟩|⟨b,br,ty,vs,h1,h2,h3,h4,h5,h6,h7⟩
   · exact .inl ⟨by rw[e];exact h1,h2⟩
   · exact .inr ⟨b,br,ty,vs,by rw[e];exact h1,h2,h3,h4,h5,fun i r j c v hi hj hjv=>hr sz ver rs rfl r (List.mem_of_getElem? hi) c (List.mem_of_getElem? hj) v (h6 i r j c v hi hj hjv),h7⟩
theorem OR.val {θ:Th} {W:Im} {w:World} {id:Nat} {o:AO} (h:OR θ W w id o):
  (∀cs,o=.var cs->∀c∈cs,∃v,bb θ W c v)/\∀sz ver rs,o=.rows sz ver rs->∀r∈rs,∀c∈r,∃v,bb θ W c v:=by
 constructor
 ·rintro cs rfl c hc
  obtain⟨⟨b,sz,br,ty,vs,h1,h2,h3,h4,h5⟩,h6⟩:=h;obtain⟨j,hj⟩:=List.getElem?_of_mem hc;have tQ:j<vs.size:=by rw[h3];exact(List.getElem?_eq_some_iff.1 hj).1
  exact⟨_,h4 j c vs[j] hj (Array.getElem?_eq_getElem tQ)⟩
 ·rintro sz ver rs rfl r hr c hc
  obtain⟨h0,h8,h9⟩:=h;rcases h0 with⟨h1,rfl⟩|⟨b,br,ty,vs,h1,h2,h3,h4,h5,h6,h7⟩
  ·cases hr
  ·obtain⟨i,hi⟩:=List.getElem?_of_mem hr
   obtain⟨j,hj⟩:=List.getElem?_of_mem hc;have Oe:=(List.getElem?_eq_some_iff.1 hi).1;have jE:=(List.getElem?_eq_some_iff.1 hj).1;have hlen:=h5 r hr
   have aF:i*sz+j<vs.size:=by
    rw[h3];have lN:(i+1)*sz<=br*sz:=Nat.mul_le_mul_right sz (by omega);rw[Nat.add_mul,Nat.one_mul]at lN;omega
   exact⟨_,h6 i r j c vs[i*sz+j] hi hj (Array.getElem?_eq_getElem aF)⟩
end Go.AM
