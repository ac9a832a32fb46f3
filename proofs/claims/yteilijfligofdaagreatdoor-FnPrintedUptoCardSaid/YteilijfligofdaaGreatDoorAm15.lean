/- The whole: what the evaluation of a body's small code says, the model's run of the body does. -/
import Derived.Test.YteilijfligofdaaGreatDoorAm14
set_option linter.all false
namespace Go.AM
variable {lv:List Nat} {P:Program} {N:Nat} {o:Oper} {st:St} {K:St->Prop} {θ:Th} {W:Im}
theorem aY {α β:Type} {f:α->β} {x:Option α} {y:β} (h:x.map f=some y):∃a,x=some a/\f a=y:=by
 cases x with
 |none=>cases h
 |some a=>exact⟨a,rfl,by simpa using h⟩
theorem Eh {c:Call} {m:MA} (h:jV lv c.args.toList=some [m]):∃x,c.args=#[x]∧bK lv x=some m:=by
  cases hl:c.args.toList with
  |nil=>rw[hl]at h;cases h
  |cons x xs=>
   rw[hl]at h;simp only[jV]at h;split at h
   · rename_i a l h1 h2
     cases h
     cases xs with
     |nil=>exact⟨x,by apply Array.ext';simpa using hl,h1⟩
     |cons y ys=>
      simp only[jV]at h2;split at h2
      · cases h2
      · cases h2
   · cases h
theorem vl {c:Call} {m n:MA} (h:jV lv c.args.toList=some [m,n]):∃x y,c.args=#[x,y]∧bK lv x=some m∧bK lv y=some n:=by
  cases hl:c.args.toList with
  |nil=>rw[hl]at h;cases h
  |cons x xs=>
   rw[hl]at h;simp only[jV]at h;split at h
   · rename_i a l h1 h2
     cases h
     cases xs with
     |nil=>cases h2
     |cons y ys=>
      simp only[jV]at h2;split at h2
      · rename_i b l h3 h4
        cases h2
        cases ys with
        |nil=>exact⟨x,y,by apply Array.ext';simpa using hl,h1,h3⟩
        |cons z zs=>
         simp only[jV]at h4;split at h4
         · cases h4
         · cases h4
      · cases h2
   · cases h
theorem QF {c:Call} {m:MO} (ho:o.op= .call c) (hm:om lv P c=some m) (hd:o.dst.all (decide <| · <N)=true) (h:bh (al P) m (cm lv o.dst) K st):fG lv P N o st K:=by
  unfold om at hm;split at hm
  · rename_i f as hc ha
    split at hm
    · split at hm
      · cases hm;exact Qw ho hc ha hd h
      · cases hm
    · cases hm
  · rename_i t as hc ha
    cases hm;exact Qx ho hc ha hd h
  · rename_i x hc ha
    obtain⟨y,hy,hx⟩:=Eh ha
    cases ht:c.argTypes[0]?with
    |none =>rw[ht]at hm;cases hm
    |some t=>
     rw[ht]at hm;simp only[Option.bind_some]at hm;split at hm
     · rename_i e he;cases hm;exact MQ (s:=false) ho hc hy ht ⟨e,he⟩ hx hd h
     · rename_i he;cases hm;exact MQ (s:=true) ho hc hy ht he hx hd h
     · cases hm
  · rename_i x hc ha
    obtain⟨y,hy,hx⟩:=Eh ha
    cases ht:c.argTypes[0]?with
    |none =>rw[ht]at hm;cases hm
    |some t=>
     rw[ht]at hm;simp only[Option.bind_some]at hm;split at hm
     · rename_i e he;cases hm;exact W5 ho hc hy ht he hx hd h
     · cases hm
  · rename_i x y hc ha
    obtain⟨x',y',hy,mP,xT⟩:=vl ha;split at hm
    case h_2=>cases hm
    case h_1 t u0 htu=>
    have eY:c.argTypes=#[t,u0]:=by apply Array.ext';simpa using htu
    split at hm
    case h_1=>cases hm
    case h_2 u hu=>
    split at hm
    case h_2=>cases hm
    case h_1 e he=>
    split at hm
    case h_2=>cases hm
    case h_1 i hi=>
    have DL:P.underlying t=some (.slice e):=by
      unfold rU at he;split at he
      · rename_i e' h';cases he;exact h'
      · cases he
    split at hm
    · rename_i z e' hz
      split at hm
      · rename_i fH
        simp only[Bool.and_eq_true,beq_iff_eq,decide_eq_true_eq]at fH;cases hm;exact MX ho hc hy eY DL hu (.inl ⟨e',rfl⟩) hi hz fH.1 fH.2 mP xT hd h
      · cases hm
    · rename_i z hz
      split at hm
      · rename_i fH
        simp only[Bool.and_eq_true,beq_iff_eq,decide_eq_true_eq]at fH;cases hm;exact MX ho hc hy eY DL hu (.inr rfl) hi hz fH.1 fH.2 mP xT hd h
      · cases hm
    · rename_i z hz
      split at hm
      · rename_i fH
        simp only[Bool.and_eq_true,beq_iff_eq,decide_eq_true_eq]at fH;cases hm;exact QD ho hc hy eY DL hu hi hz fH.1 fH.2 mP xT hd h
      · cases hm
    · cases hm
  · rename_i x y hc ha
    obtain⟨x',y',hy,mP,xT⟩:=vl ha;cases hm;exact MT (mx:=false) ho hc hy mP xT hd h
  · rename_i x y hc ha
    obtain⟨x',y',hy,mP,xT⟩:=vl ha;cases hm;exact MT (mx:=true) ho hc hy mP xT hd h
  · cases hm
theorem nM {m:MO} (hm:dH lv P o.op=some m) (hd:o.dst.all (decide <| · <N)=true) (h:bh (al P) m (cm lv o.dst) K st):fG lv P N o st K:=by
  cases ho:o.op with
  |move x=>rw[ho]at hm;obtain⟨a,ha,rfl⟩:=aY hm;exact Qm (.inl ho) ha hd h
  |assign x=>rw[ho]at hm;obtain⟨a,ha,rfl⟩:=aY hm;exact Qm (.inr ho) ha hd h
  |pick c x y=>
   rw[ho]at hm;simp only[dH]at hm;split at hm
   · rename_i h1 h2 h3;cases hm;exact Qn ho h1 h2 h3 hd h
   · cases hm
  |alloc t=>rw[ho]at hm;obtain⟨z,hz,rfl⟩:=aY hm;exact Oa ho hz hd h
  |box t x=>
   rw[ho]at hm;simp only[dH]at hm;split at hm
   · rename_i h1 h2;cases hm;exact W0 ho h1 hd h
   · cases hm
  |build t ps=>
   rw[ho]at hm;simp only[dH]at hm;split at hm
   · rename_i fs Fu
     split at hm
     · rename_i z ms hz wQ
       split at hm
       · rename_i fH
         simp only[Bool.and_eq_true,List.all_eq_true,decide_eq_true_eq]at fH;cases hm;exact Og ho Fu (fun f hf=>Option.isSome_iff_exists.1 (fH.1 f (by simpa using hf))) hz wQ fH.2 hd h
       · cases hm
     · cases hm
   · cases hm
  |buildSlice t n ps=>
   rw[ho]at hm;simp only[dH]at hm;split at hm
   · rename_i e he
     have DL:P.underlying t=some (.slice e):=by
       unfold rU at he;split at he
       · rename_i e' h';cases he;exact h'
       · cases he
     split at hm
     · rename_i sz z ms eN hz wQ
       split at hm
       · rename_i fH
         simp only[Bool.and_eq_true,beq_iff_eq,decide_eq_true_eq]at fH;cases hm;exact Xg ho DL eN hz fH.1.1 fH.1.2 fH.2 wQ hd h
       · cases hm
     · cases hm
   · cases hm
  |load t x=>
   rw[ho]at hm;simp only[dH]at hm;split at hm
   · rename_i h1 h2 h3;cases hm;exact acR ho h1 h2 h3 hd h
   · cases hm
  |store t x v=>
   rw[ho]at hm;simp only[dH]at hm;split at hm
   · rename_i h1 h2 h3
     split at hm
     · rename_i hn;cases hm;exact W3 ho h1 h2 h3 (by simpa using hn) hd h
     · cases hm
   · cases hm
  |nilCheck x=>rw[ho]at hm;obtain⟨a,ha,rfl⟩:=aY hm;exact Qo ho ha hd h
  |binOp op t x y u=>
   rw[ho]at hm;simp only[dH]at hm;split at hm
   · rename_i h1 h2 h3;cases hm;exact MM ho h1 h2 hd h
   · rename_i h1 h2 h3;cases hm;exact MM ho h1 h2 hd h
   · rename_i h1 h2 h3
     split at hm
     · cases hm;exact MN (ne:=false) ho h3 h1 h2 hd h
     · cases hm;exact MN (ne:=true) ho h3 h1 h2 hd h
     · cases hm
   · rename_i h1 h2 h3
     unfold DB at hm;split at hm
     · rename_i hc
       simp only[Bool.and_eq_true,Bool.not_eq_true']at hc;split at hm
       · cases hm;exact Qr (ne:=false) ho h3 hc.1.1 hc.1.2 hc.2 h1 h2 hd h
       · cases hm;exact Qr (ne:=true) ho h3 hc.1.1 hc.1.2 hc.2 h1 h2 hd h
       · cases hm
     · cases hm
   · rename_i h1 h2 h3
     unfold wh at hm;split at hm
     · cases hm;exact MP (ne:=false) ho h3 h1 h2 hd h
     · cases hm;exact MP (ne:=true) ho h3 h1 h2 hd h
     · cases hm
   · rename_i h1 h2 h3
     unfold mM at hm;split at hm
     · cases hm;exact BT (ne:=false) ho h3 h1 h2 hd h
     · cases hm;exact BT (ne:=true) ho h3 h1 h2 hd h
     · cases hm
   · rename_i h1 h2 h3
     unfold mM at hm;split at hm
     · cases hm;exact BU (ne:=false) ho h3 h1 h2 hd h
     · cases hm;exact BU (ne:=true) ho h3 h1 h2 hd h
     · cases hm
   · cases hm
  |unOp op t x=>rw[ho]at hm;obtain⟨a,ha,rfl⟩:=aY hm;exact acS ho ha hd h
  |convert s t x=>
   rw[ho]at hm;simp only[dH]at hm;split at hm
   · rename_i h1 h2 h3;cases hm;exact Qu ho h2 h3 h1 hd h
   · rename_i h1 h2 h3
     split at hm
     · rename_i h4;cases hm;exact Xh ho h2 h4 h3 h1 hd h
     · cases hm
   · cases hm
  |makeFunc fn first eL=>
   rw[ho]at hm
   cases fn with
   |func f=>
    simp only[dH]at hm;split at hm
    · rename_i hf
      obtain⟨a,ha,rfl⟩:=aY hm;exact Xa ho (by simpa using hf) ha hd h
    · cases hm
   |_ =>cases hm
  |makeSlice t l c=>
   rw[ho]at hm;simp only[dH]at hm;split at hm
   · rename_i e l' c' he h1 h2
     have DL:P.underlying t=some (.slice e):=by
       unfold rU at he;split at he
       · rename_i e' h';cases he;exact h'
       · cases he
     split at hm
     · rename_i i z hi hz
       split at hm
       · rename_i fH
         simp only[Bool.and_eq_true,beq_iff_eq,decide_eq_true_eq]at fH;cases hm;exact Xd ho DL hi hz fH.1 fH.2 h1 h2 hd h
       · cases hm
     · cases hm
   · cases hm
  |slice t x lo hi mx=>
   rw[ho]at hm
   cases mx with
   |some _ =>cases hm
   |none =>
    simp only[dH]at hm;split at hm
    · rename_i h1 h2 h3 h4;cases hm;exact BW ho h1 h2 h3 h4 hd h
    · rename_i h1 h2 h3 h4
      obtain⟨n,hn,rfl⟩:=aY hm;exact Xc ho h1 hn h2 h3 h4 hd h
    · cases hm
  |fieldAddr s x f=>
   rw[ho]at hm;simp only[dH]at hm;split at hm
   · rename_i h1 h2
     split at hm
     · rename_i hn;cases hm;exact W4 ho h2 h1 (by simpa using hn) hd h
     · cases hm
   · cases hm
  |field s x f=>
   rw[ho]at hm;simp only[dH]at hm;split at hm
   · rename_i h1 h2
     obtain⟨g,hg,rfl⟩:=aY hm;exact Xb ho h2 h1 hg hd (by rw[←Fq (C:=al P)];exact h)
   · cases hm
  |indexAddr t x i=>
   rw[ho]at hm;simp only[dH]at hm;split at hm
   · rename_i e x' i' h1 h2 h3
     cases hs:eX P e with
     |none =>rw[hs]at hm;cases hm
     |some n=>
      rw[hs]at hm;simp only[Option.bind_some]at hm;split at hm
      · rename_i hn;cases hm;exact W6 ho h1 hs (by simpa using hn) h2 h3 hd h
      · cases hm
   · rename_i h1 h2 h3
     obtain⟨n,hn,rfl⟩:=aY hm;exact W7 ho h1 hn h2 h3 hd h
   · cases hm
  |index t x i=>
   rw[ho]at hm;simp only[dH]at hm;split at hm
   · rename_i h1 h2 h3;cases hm;exact W8 ho h1 h2 h3 hd h
   · cases hm
  |extract x n=>rw[ho]at hm;obtain⟨a,ha,rfl⟩:=aY hm;exact W9 ho ha hd h
  |call c=>rw[ho]at hm;exact QF ho hm hd h
  |_ =>rw[ho]at hm;cases hm
end Go.AM
