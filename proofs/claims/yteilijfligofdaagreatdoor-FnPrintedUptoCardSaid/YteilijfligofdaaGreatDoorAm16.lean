/- The whole: what the evaluation of a body's small code says, the model's run of the body does. -/
import Derived.Test.YteilijfligofdaaGreatDoorAm15
import Derived.Orders
set_option linter.all false
namespace Go.AM
variable {lv:List Nat} {P:Program} {N:Nat} {st:St} {K:St->Prop} {θ:Th} {W:Im} {ops:Array Oper}
theorem Rl.clear {a:Act} {w:World} (h:Rl lv N st a w θ W):Rl lv N ⟨st.L,[],st.H⟩ a w θ W:=
 ⟨h.defers,h.size,h.loc,fun t ht=>.any _,h.mem⟩
theorem Hg (kl:List Nat) (L:En) (t:Nat):dQ (lQ kl L) t=if mB kl t=true then dQ L t else .any:=by
  induction L with
  |nil=>simp[lQ,dQ]
  |cons kv L ih=>
   obtain⟨k,v⟩:=kv;simp only[lQ];by_cases hk:mB kl k=true
   · simp only[hk,if_true,dQ,ih]
     by_cases e:k=t
     · subst e;simp[hk]
     · simp[e]
   · simp only[hk,Bool.false_eq_true,if_false,dQ,ih]
     by_cases e:k=t
     · subst e;simp[hk]
     · simp[e]
theorem Rl.eF {a:Act} {w:World} (h:Rl lv N st a w θ W) (kl:List Nat):Rl lv N ⟨lQ kl st.L,[],st.H⟩ a w θ W:=
 ⟨h.defers,h.size,fun t ht=>by
  show bb θ W (dQ (lQ kl st.L) t) _;rw[Hg];split
  ·exact h.loc t ht
  ·exact .any _,fun t ht=>.any _,h.mem⟩
theorem wR (θ:Th) (W:Im):bb θ W (.dK []) undef:=.dK [] #[] rfl (fun j c v hj=>by simp at hj)
theorem Ei {v:Value} (h:bb θ W (.dK []) v):v= .tuple #[]:=by
  cases h with
  |dK _ us hs hc=>
   have :us=#[]:=by cases us;simp at hs;simp[hs]
   rw[this]
theorem Hh (o:Oper) (h:BE (al P) (iE lv P N ops o) K st) {a:Act} {w:World} {next :Act→World→Prop} {Q:Exit→Act→World→Prop} (hR:Rl lv N st a w θ W)
    (hk:∀dz a' w' aX W',K dz→Rl lv N dz a' w' aX W'→eW θ W w aX W' w'→next a' w'):
    if Region.wanted o (yielded ops a.tmps)then o.wp P a w next Q else next (a.put o.dst undef) w:=by
  unfold iE at h;split at h
  case h_2=>exact h.elim
  case h_1 m g hm hg=>
  split at h
  case isFalse=>exact h.elim
  case isTrue hd=>
  cases oo:o.guard with
  |none =>
   rw[oo]at hg;cases hg;have hw:Region.wanted o (yielded ops a.tmps)=true :=by simp[Region.wanted,oo]
   rw[if_pos hw]
   exact nM hm hd h a w θ W next Q hR hk
  |some jw=>
   obtain⟨j,want⟩:=jw;rw[oo]at hg;simp only[Bg]at hg;split at hg
   case h_2=>cases hg
   case h_1 t ht=>
   cases hg;have h1:=hR.rX t;have h':nq (st.get (fQ lv t)) want (bh (al P) m (cm lv o.dst) K) (zh (cm lv o.dst) K) st:=h;rcases AH h' with⟨e,h3⟩|⟨b,e,h2,h3⟩
   · rw[e]at h1
     have hu:yielded ops a.tmps j=none :=by
       have e1:=Ei h1;simp only[Act.eval]at e1;unfold yielded;rw[ht];simp only[Option.bind_some];by_cases aF:t<a.tmps.size
       · simp[Array.getD,aF]at e1;simp[aF,e1]
       · simp[aF]
     have hw:¬Region.wanted o (yielded ops a.tmps)=true :=by simp[Region.wanted,oo,hu]
     rw[if_neg hw];exact hk _ _ _ _ _ h3 (hR.put hd (wR _ _) hR.mem (eW.refl _ _ _)) (eW.refl _ _ _)
   · rw[e]at h1
     have e1:=h1.tO;simp only[Act.eval]at e1
     have hb:a.tmps[t]?=some (.bool b):=by
       by_cases aF:t<a.tmps.size
       · simp[Array.getD,aF]at e1;simp[aF,e1]
       · simp[Array.getD,aF,undef]at e1
     have xU:yielded ops a.tmps j=some b:=by simp[yielded,ht,hb]
     by_cases e:b=want
     · have hw:Region.wanted o (yielded ops a.tmps)=true :=by simp[Region.wanted,oo,xU,e]
       rw[if_pos hw];exact nM hm hd (h2 e) a w θ W next Q hR hk
     · have hw:¬Region.wanted o (yielded ops a.tmps)=true :=by simp[Region.wanted,oo,xU,e]
       rw[if_neg hw];exact hk _ _ _ _ _ (h3 e) (hR.put hd (wR _ _) hR.mem (eW.refl _ _ _)) (eW.refl _ _ _)
theorem Xi {Q:Exit→Act→World→Prop} (l:List Oper):∀(st:St) (a:Act) (w:World) (θ:Th) (W:Im),k9 (al P) (l.map (iE lv P N ops)) K st→Rl lv N st a w θ W→
    (∀dz a' w' aX W',K dz→Rl lv N dz a' w' aX W'→eW θ W w aX W' w'→Q .normal a' w')→wpList P ops Q l a w:=by
  induction l with
  |nil=>intro st a w θ W h hR hk;exact hk _ _ _ _ _ h hR (eW.refl _ _ _)
  |cons o l ih=>
   intro st a w θ W h hR hk;have key:=Hh (Q:=Q) (next :=wpList P ops Q l) o h hR (fun dz a' w' aX W' rb r8 lM=>ih dz a' w' aX W' rb r8 (fun wS a2 w2 xV W2 h2 Hi bt=>hk wS a2 w2 xV W2 h2 Hi (lM.trans bt)));unfold wpList;split
   · rename_i hw;rw[if_pos hw]at key;exact .inl key
   · rename_i hw;rw[if_neg hw]at key;exact key
def Cq (lv:List Nat) (N:Nat) (Qs:Ex->St->Prop) (θ:Th) (W:Im) (w:World):Exit->Act->World->Prop:=fun e a' w'=>
 match e with
 | .normal=>∃dz aX W',Rl lv N dz a' w' aX W'/\eW θ W w aX W' w'/\Qs .nm dz
 | .exit id=>∃dz aX W',Rl lv N dz a' w' aX W'/\eW θ W w aX W' w'/\Qs (.ex id) dz
 | .ret=>∃dz aX W',Rl lv N dz a' w' aX W'/\eW θ W w aX W' w'/\Qs .rt dz
 |_=>False
theorem Cq.trans {Qs:Ex->St->Prop} {aX:Th} {W':Im} {w w':World} (hs:eW θ W w aX W' w') {e:Exit} {a:Act} {w2:World} (h:Cq lv N Qs aX W' w' e a w2):Cq lv N Qs θ W w e a w2:=by
 cases e with
 |normal=>obtain⟨s,t,u,h1,h2,h3⟩:=h;exact⟨s,t,u,h1,hs.trans h2,h3⟩
 |exit id=>obtain⟨s,t,u,h1,h2,h3⟩:=h;exact⟨s,t,u,h1,hs.trans h2,h3⟩
 |ret=>obtain⟨s,t,u,h1,h2,h3⟩:=h;exact⟨s,t,u,h1,hs.trans h2,h3⟩
 |goto l=>exact h.elim
 |panic c=>exact h.elim
 |outgrown=>exact h.elim
theorem B5 {α:Type} {c:Code} {Q:Exit→Act→World→Prop} {a:Act} {w:World} (I:α→Act→World→Prop) (μ:α→Nat) (x:α) (afW:I x a w)
    (round:∀x a w,I x a w→c.wp P (Exit.then (fun a' w'=>∃y,I y a' w'∧μ y<μ x) Q) a w):(Code.loop c).wp P Q a w:=by
  intro b k cs
  have key:∀n x a w,μ x=n→I x a w→
      ∃e a' w',Q e a' w'∧Arrives P (lone (b.at a (.code c:: .inLoop c::k)) cs w) b k cs e a' w':=by
    intro n
    induction n using Nat.strongRecOn with
    |_ n ih=>
     intro x a w hn hI;obtain⟨e,Ej,xG,hq,AK⟩:=round x a w hI b (.inLoop c::k) cs
     cases e with
     |normal=>
      obtain⟨y,acV,aF⟩:=hq;obtain⟨afX,afY,My,acW,QG⟩:=ih (μ y) (hn▸aF) y Ej xG rfl acV
      exact⟨afX,afY,My,acW, .of_steps (Steps.trans AK (.one step_inLoop)) QG⟩
     |exit id=>exact⟨_,Ej,xG,hq, .pass (x:= .inLoop c) rfl (fun _ _ => .inl (by simp)) AK⟩
     |goto l=>exact⟨_,Ej,xG,hq, .pass (x:= .inLoop c) rfl (fun _ _ => .inl (by simp)) AK⟩
     |ret=>exact⟨_,Ej,xG,hq, .pass (x:= .inLoop c) rfl (fun _ _ => .inl (by simp)) AK⟩
     |panic ch=>exact⟨_,Ej,xG,hq, .pass (x:= .inLoop c) rfl (fun _ _ => .inl (by simp)) AK⟩
     |outgrown=>exact⟨_,Ej,xG,hq, .pass (x:= .inLoop c) rfl (fun _ _ => .inl (by simp)) AK⟩
  obtain⟨e,a',w',hq,AK⟩:=key _ x a w rfl afW;exact⟨e,a',w',hq, .of_steps (.one step_loop) AK⟩
end Go.AM
