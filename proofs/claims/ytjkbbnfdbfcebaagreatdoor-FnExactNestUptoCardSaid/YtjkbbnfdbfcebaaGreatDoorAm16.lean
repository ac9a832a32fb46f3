/- The whole: what the evaluation of a body's small code says, the model's run of the body does. -/
import Derived.Test.YtjkbbnfdbfcebaaGreatDoorAm15
import Derived.Orders
set_option linter.all false
namespace Go.AM
variable {lv:List Nat} {P:Program} {N:Nat} {st:St} {K:St->Prop} {θ:Th} {W:Im} {ops:Array Oper}
theorem Rl.clear {a:Act} {w:World} (h:Rl lv N st a w θ W):Rl lv N ⟨st.L,[],st.H⟩ a w θ W:=
 ⟨h.defers,h.size,h.loc,fun t ht=>.any _,h.mem⟩
theorem GV (kl:List Nat) (L:En) (t:Nat):dZ (jS kl L) t=if lu kl t=true then dZ L t else .any:=by
  induction L with
  |nil=>simp[jS,dZ]
  |cons kv L ih=>
   obtain⟨k,v⟩:=kv;simp only[jS];by_cases hk:lu kl k=true
   · simp only[hk,if_true,dZ,ih]
     by_cases e:k=t
     · subst e;simp[hk]
     · simp[e]
   · simp only[hk,Bool.false_eq_true,if_false,dZ,ih]
     by_cases e:k=t
     · subst e;simp[hk]
     · simp[e]
theorem Rl.gf {a:Act} {w:World} (h:Rl lv N st a w θ W) (kl:List Nat):Rl lv N ⟨jS kl st.L,[],st.H⟩ a w θ W:=
 ⟨h.defers,h.size,fun t ht=>by
  show bc θ W (dZ (jS kl st.L) t) _;rw[GV];split
  ·exact h.loc t ht
  ·exact .any _,fun t ht=>.any _,h.mem⟩
theorem wm (θ:Th) (W:Im):bc θ W (.dX []) undef:=.dX [] #[] rfl (fun j c v hj=>by simp at hj)
theorem DW {v:Value} (h:bc θ W (.dX []) v):v= .tuple #[]:=by
  cases h with
  |dX _ us hs hc=>
   have :us=#[]:=by cases us;simp at hs;simp[hs]
   rw[this]
theorem GW (o:Oper) (h:Br (aA P) (iB lv P N ops o) K st) {a:Act} {w:World} {next :Act→World→Prop} {Q:Exit→Act→World→Prop} (hR:Rl lv N st a w θ W)
    (hk:∀dG a' w' bd W',K dG→Rl lv N dG a' w' bd W'→eU θ W w bd W' w'→next a' w'):
    if Region.wanted o (yielded ops a.tmps)then o.wp P a w next Q else next (a.put o.dst undef) w:=by
  unfold iB at h;split at h
  case h_2=>exact h.elim
  case h_1 m g hm hg=>
  split at h
  case isFalse=>exact h.elim
  case isTrue hd=>
  cases nZ:o.guard with
  |none =>
   rw[nZ]at hg;cases hg;have hw:Region.wanted o (yielded ops a.tmps)=true :=by simp[Region.wanted,nZ]
   rw[if_pos hw]
   exact nz hm hd h a w θ W next Q hR hk
  |some jw=>
   obtain⟨j,want⟩:=jw;rw[nZ]at hg;simp only[A1]at hg;split at hg
   case h_2=>cases hg
   case h_1 t ht=>
   cases hg;have h1:=hR.rI t;have h':mZ (st.get (fO lv t)) want (bo (aA P) m (cB lv o.dst) K) (yL (cB lv o.dst) K) st:=h;rcases Ai h' with⟨e,h3⟩|⟨b,e,h2,h3⟩
   · rw[e]at h1
     have hu:yielded ops a.tmps j=none :=by
       have e1:=DW h1;simp only[Act.eval]at e1;unfold yielded;rw[ht];simp only[Option.bind_some];by_cases aj:t<a.tmps.size
       · simp[Array.getD,aj]at e1;simp[aj,e1]
       · simp[aj]
     have hw:¬Region.wanted o (yielded ops a.tmps)=true :=by simp[Region.wanted,nZ,hu]
     rw[if_neg hw];exact hk _ _ _ _ _ h3 (hR.put hd (wm _ _) hR.mem (eU.refl _ _ _)) (eU.refl _ _ _)
   · rw[e]at h1
     have e1:=h1.tD;simp only[Act.eval]at e1
     have hb:a.tmps[t]?=some (.bool b):=by
       by_cases aj:t<a.tmps.size
       · simp[Array.getD,aj]at e1;simp[aj,e1]
       · simp[Array.getD,aj,undef]at e1
     have xB:yielded ops a.tmps j=some b:=by simp[yielded,ht,hb]
     by_cases e:b=want
     · have hw:Region.wanted o (yielded ops a.tmps)=true :=by simp[Region.wanted,nZ,xB,e]
       rw[if_pos hw];exact nz hm hd (h2 e) a w θ W next Q hR hk
     · have hw:¬Region.wanted o (yielded ops a.tmps)=true :=by simp[Region.wanted,nZ,xB,e]
       rw[if_neg hw];exact hk _ _ _ _ _ (h3 e) (hR.put hd (wm _ _) hR.mem (eU.refl _ _ _)) (eU.refl _ _ _)
theorem W7 {Q:Exit→Act→World→Prop} (l:List Oper):∀(st:St) (a:Act) (w:World) (θ:Th) (W:Im),k9 (aA P) (l.map (iB lv P N ops)) K st→Rl lv N st a w θ W→
    (∀dG a' w' bd W',K dG→Rl lv N dG a' w' bd W'→eU θ W w bd W' w'→Q .normal a' w')→wpList P ops Q l a w:=by
  induction l with
  |nil=>intro st a w θ W h hR hk;exact hk _ _ _ _ _ h hR (eU.refl _ _ _)
  |cons o l ih=>
   intro st a w θ W h hR hk;have key:=GW (Q:=Q) (next :=wpList P ops Q l) o h hR (fun dG a' w' bd W' qT rN lH=>ih dG a' w' bd W' qT rN (fun wo a2 w2 xC W2 h2 PC bD=>hk wo a2 w2 xC W2 h2 PC (lH.trans bD)));unfold wpList;split
   · rename_i hw;rw[if_pos hw]at key;exact .inl key
   · rename_i hw;rw[if_neg hw]at key;exact key
def Cq (lv:List Nat) (N:Nat) (Qs:Ex->St->Prop) (θ:Th) (W:Im) (w:World):Exit->Act->World->Prop:=fun e a' w'=>
 match e with
 | .normal=>∃dG bd W',Rl lv N dG a' w' bd W'/\eU θ W w bd W' w'/\Qs .nm dG
 | .exit id=>∃dG bd W',Rl lv N dG a' w' bd W'/\eU θ W w bd W' w'/\Qs (.ex id) dG
 | .ret=>∃dG bd W',Rl lv N dG a' w' bd W'/\eU θ W w bd W' w'/\Qs .rt dG
 |_=>False
theorem Cq.trans {Qs:Ex->St->Prop} {bd:Th} {W':Im} {w w':World} (hs:eU θ W w bd W' w') {e:Exit} {a:Act} {w2:World} (h:Cq lv N Qs bd W' w' e a w2):Cq lv N Qs θ W w e a w2:=by
 cases e with
 |normal=>obtain⟨s,t,u,h1,h2,h3⟩:=h;exact⟨s,t,u,h1,hs.trans h2,h3⟩
 |exit id=>obtain⟨s,t,u,h1,h2,h3⟩:=h;exact⟨s,t,u,h1,hs.trans h2,h3⟩
 |ret=>obtain⟨s,t,u,h1,h2,h3⟩:=h;exact⟨s,t,u,h1,hs.trans h2,h3⟩
 |goto l=>exact h.elim
 |panic c=>exact h.elim
 |outgrown=>exact h.elim
theorem BR {α:Type} {c:Code} {Q:Exit→Act→World→Prop} {a:Act} {w:World} (I:α→Act→World→Prop) (μ:α→Nat) (x:α) (aga:I x a w)
    (round:∀x a w,I x a w→c.wp P (Exit.then (fun a' w'=>∃y,I y a' w'∧μ y<μ x) Q) a w):(Code.loop c).wp P Q a w:=by
  intro b k cs
  have key:∀n x a w,μ x=n→I x a w→
      ∃e a' w',Q e a' w'∧Arrives P (lone (b.at a (.code c:: .inLoop c::k)) cs w) b k cs e a' w':=by
    intro n
    induction n using Nat.strongRecOn with
    |_ n ih=>
     intro x a w hn hI;obtain⟨e,DX,xo,hq,An⟩:=round x a w hI b (.inLoop c::k) cs
     cases e with
     |normal=>
      obtain⟨y,ada,aj⟩:=hq;obtain⟨agb,agc,L4,adb,PD⟩:=ih (μ y) (hn▸aj) y DX xo rfl ada
      exact⟨agb,agc,L4,adb, .of_steps (Steps.trans An (.one step_inLoop)) PD⟩
     |exit id=>exact⟨_,DX,xo,hq, .pass (x:= .inLoop c) rfl (fun _ _ => .inl (by simp)) An⟩
     |goto l=>exact⟨_,DX,xo,hq, .pass (x:= .inLoop c) rfl (fun _ _ => .inl (by simp)) An⟩
     |ret=>exact⟨_,DX,xo,hq, .pass (x:= .inLoop c) rfl (fun _ _ => .inl (by simp)) An⟩
     |panic ch=>exact⟨_,DX,xo,hq, .pass (x:= .inLoop c) rfl (fun _ _ => .inl (by simp)) An⟩
     |outgrown=>exact⟨_,DX,xo,hq, .pass (x:= .inLoop c) rfl (fun _ _ => .inl (by simp)) An⟩
  obtain⟨e,a',w',hq,An⟩:=key _ x a w rfl aga;exact⟨e,a',w',hq, .of_steps (.one step_loop) An⟩
end Go.AM
