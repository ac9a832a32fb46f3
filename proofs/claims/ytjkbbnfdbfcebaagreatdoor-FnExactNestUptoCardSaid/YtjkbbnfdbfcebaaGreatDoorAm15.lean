/- The whole: what the evaluation of a body's small code says, the model's run of the body does. -/
import Derived.Test.YtjkbbnfdbfcebaaGreatDoorAm14
set_option linter.all false
namespace Go.AM
variable {lv:List Nat} {P:Program} {N:Nat} {o:Oper} {st:St} {K:St->Prop} {θ:Th} {W:Im}
theorem bf {α β:Type} {f:α->β} {x:Option α} {y:β} (h:x.map f=some y):∃a,x=some a/\f a=y:=by
 cases x with
 |none=>cases h
 |some a=>exact⟨a,rfl,by simpa using h⟩
theorem DV {c:Call} {m:MA} (h:jU lv c.args.toList=some [m]):∃x,c.args=#[x]∧bQ lv x=some m:=by
  cases hl:c.args.toList with
  |nil=>rw[hl]at h;cases h
  |cons x xs=>
   rw[hl]at h;simp only[jU]at h;split at h
   · rename_i a l h1 h2
     cases h
     cases xs with
     |nil=>exact⟨x,by apply Array.ext';simpa using hl,h1⟩
     |cons y ys=>
      simp only[jU]at h2;split at h2
      · cases h2
      · cases h2
   · cases h
theorem uQ {c:Call} {m n:MA} (h:jU lv c.args.toList=some [m,n]):∃x y,c.args=#[x,y]∧bQ lv x=some m∧bQ lv y=some n:=by
  cases hl:c.args.toList with
  |nil=>rw[hl]at h;cases h
  |cons x xs=>
   rw[hl]at h;simp only[jU]at h;split at h
   · rename_i a l h1 h2
     cases h
     cases xs with
     |nil=>cases h2
     |cons y ys=>
      simp only[jU]at h2;split at h2
      · rename_i b l h3 h4
        cases h2
        cases ys with
        |nil=>exact⟨x,y,by apply Array.ext';simpa using hl,h1,h3⟩
        |cons z zs=>
         simp only[jU]at h4;split at h4
         · cases h4
         · cases h4
      · cases h2
   · cases h
theorem PB {c:Call} {m:MO} (ho:o.op= .call c) (hm:nY lv P c=some m) (hd:o.dst.all (decide <| · <N)=true) (h:bo (aA P) m (cB lv o.dst) K st):fx lv P N o st K:=by
  unfold nY at hm;split at hm
  · rename_i f as hc ha
    split at hm
    · split at hm
      · cases hm;exact Ps ho hc ha hd h
      · cases hm
    · cases hm
  · rename_i t as hc ha
    cases hm;exact Pt ho hc ha hd h
  · rename_i x hc ha
    obtain⟨y,hy,hx⟩:=DV ha
    cases ht:c.argTypes[0]?with
    |none =>rw[ht]at hm;cases hm
    |some t=>
     rw[ht]at hm;simp only[Option.bind_some]at hm;split at hm
     · rename_i e he;cases hm;exact Mi (s:=false) ho hc hy ht ⟨e,he⟩ hx hd h
     · rename_i he;cases hm;exact Mi (s:=true) ho hc hy ht he hx hd h
     · cases hm
  · rename_i x hc ha
    obtain⟨y,hy,hx⟩:=DV ha
    cases ht:c.argTypes[0]?with
    |none =>rw[ht]at hm;cases hm
    |some t=>
     rw[ht]at hm;simp only[Option.bind_some]at hm;split at hm
     · rename_i e he;cases hm;exact WS ho hc hy ht he hx hd h
     · cases hm
  · rename_i x y hc ha
    obtain⟨x',y',hy,sR,mf⟩:=uQ ha;split at hm
    case h_2=>cases hm
    case h_1 t u0 htu=>
    have e8:c.argTypes=#[t,u0]:=by apply Array.ext';simpa using htu
    split at hm
    case h_1=>cases hm
    case h_2 u hu=>
    split at hm
    case h_2=>cases hm
    case h_1 e he=>
    split at hm
    case h_2=>cases hm
    case h_1 i hi=>
    have Dm:P.underlying t=some (.slice e):=by
      unfold rF at he;split at he
      · rename_i e' h';cases he;exact h'
      · cases he
    split at hm
    · rename_i z e' hz
      split at hm
      · rename_i fy
        simp only[Bool.and_eq_true,beq_iff_eq,decide_eq_true_eq]at fy;cases hm;exact Mn ho hc hy e8 Dm hu (.inl ⟨e',rfl⟩) hi hz fy.1 fy.2 sR mf hd h
      · cases hm
    · rename_i z hz
      split at hm
      · rename_i fy
        simp only[Bool.and_eq_true,beq_iff_eq,decide_eq_true_eq]at fy;cases hm;exact Mn ho hc hy e8 Dm hu (.inr rfl) hi hz fy.1 fy.2 sR mf hd h
      · cases hm
    · rename_i z hz
      split at hm
      · rename_i fy
        simp only[Bool.and_eq_true,beq_iff_eq,decide_eq_true_eq]at fy;cases hm;exact Py ho hc hy e8 Dm hu hi hz fy.1 fy.2 sR mf hd h
      · cases hm
    · cases hm
  · rename_i x y hc ha
    obtain⟨x',y',hy,sR,mf⟩:=uQ ha;cases hm;exact Mj (mx:=false) ho hc hy sR mf hd h
  · rename_i x y hc ha
    obtain⟨x',y',hy,sR,mf⟩:=uQ ha;cases hm;exact Mj (mx:=true) ho hc hy sR mf hd h
  · cases hm
theorem nz {m:MO} (hm:dM lv P o.op=some m) (hd:o.dst.all (decide <| · <N)=true) (h:bo (aA P) m (cB lv o.dst) K st):fx lv P N o st K:=by
  cases ho:o.op with
  |move x=>rw[ho]at hm;obtain⟨a,ha,rfl⟩:=bf hm;exact Pj (.inl ho) ha hd h
  |assign x=>rw[ho]at hm;obtain⟨a,ha,rfl⟩:=bf hm;exact Pj (.inr ho) ha hd h
  |pick c x y=>
   rw[ho]at hm;simp only[dM]at hm;split at hm
   · rename_i h1 h2 h3;cases hm;exact Pk ho h1 h2 h3 hd h
   · cases hm
  |alloc t=>rw[ho]at hm;obtain⟨z,hz,rfl⟩:=bf hm;exact Nc ho hz hd h
  |box t x=>
   rw[ho]at hm;simp only[dM]at hm;split at hm
   · rename_i h1 h2;cases hm;exact WN ho h1 hd h
   · cases hm
  |build t ps=>
   rw[ho]at hm;simp only[dM]at hm;split at hm
   · rename_i fs E0
     split at hm
     · rename_i z ms hz tI
       split at hm
       · rename_i fy
         simp only[Bool.and_eq_true,List.all_eq_true,decide_eq_true_eq]at fy;cases hm;exact Nj ho E0 (fun f hf=>Option.isSome_iff_exists.1 (fy.1 f (by simpa using hf))) hz tI fy.2 hd h
       · cases hm
     · cases hm
   · cases hm
  |buildSlice t n ps=>
   rw[ho]at hm;simp only[dM]at hm;split at hm
   · rename_i e he
     have Dm:P.underlying t=some (.slice e):=by
       unfold rF at he;split at he
       · rename_i e' h';cases he;exact h'
       · cases he
     split at hm
     · rename_i sz z ms cL hz tI
       split at hm
       · rename_i fy
         simp only[Bool.and_eq_true,beq_iff_eq,decide_eq_true_eq]at fy;cases hm;exact W5 ho Dm cL hz fy.1.1 fy.1.2 fy.2 tI hd h
       · cases hm
     · cases hm
   · cases hm
  |load t x=>
   rw[ho]at hm;simp only[dM]at hm;split at hm
   · rename_i h1 h2 h3;cases hm;exact ac6 ho h1 h2 h3 hd h
   · cases hm
  |store t x v=>
   rw[ho]at hm;simp only[dM]at hm;split at hm
   · rename_i h1 h2 h3
     split at hm
     · rename_i hn;cases hm;exact WO ho h1 h2 h3 (by simpa using hn) hd h
     · cases hm
   · cases hm
  |nilCheck x=>rw[ho]at hm;obtain⟨a,ha,rfl⟩:=bf hm;exact Pm ho ha hd h
  |binOp op t x y u=>
   rw[ho]at hm;simp only[dM]at hm;split at hm
   · rename_i h1 h2 h3;cases hm;exact Mf ho h1 h2 hd h
   · rename_i h1 h2 h3;cases hm;exact Mf ho h1 h2 hd h
   · rename_i h1 h2 h3
     split at hm
     · cases hm;exact Mg (ne:=false) ho h3 h1 h2 hd h
     · cases hm;exact Mg (ne:=true) ho h3 h1 h2 hd h
     · cases hm
   · rename_i h1 h2 h3
     unfold Db at hm;split at hm
     · rename_i hc
       simp only[Bool.and_eq_true,Bool.not_eq_true']at hc;split at hm
       · cases hm;exact Po (ne:=false) ho h3 hc.1.1 hc.1.2 hc.2 h1 h2 hd h
       · cases hm;exact Po (ne:=true) ho h3 hc.1.1 hc.1.2 hc.2 h1 h2 hd h
       · cases hm
     · cases hm
   · rename_i h1 h2 h3
     unfold vL at hm;split at hm
     · cases hm;exact Mh (ne:=false) ho h3 h1 h2 hd h
     · cases hm;exact Mh (ne:=true) ho h3 h1 h2 hd h
     · cases hm
   · rename_i h1 h2 h3
     unfold mD at hm;split at hm
     · cases hm;exact BF (ne:=false) ho h3 h1 h2 hd h
     · cases hm;exact BF (ne:=true) ho h3 h1 h2 hd h
     · cases hm
   · rename_i h1 h2 h3
     unfold mD at hm;split at hm
     · cases hm;exact BG (ne:=false) ho h3 h1 h2 hd h
     · cases hm;exact BG (ne:=true) ho h3 h1 h2 hd h
     · cases hm
   · cases hm
  |unOp op t x=>rw[ho]at hm;obtain⟨a,ha,rfl⟩:=bf hm;exact ac7 ho ha hd h
  |convert s t x=>
   rw[ho]at hm;simp only[dM]at hm;split at hm
   · rename_i h1 h2 h3;cases hm;exact Pq ho h2 h3 h1 hd h
   · rename_i h1 h2 h3
     split at hm
     · rename_i h4;cases hm;exact W6 ho h2 h4 h3 h1 hd h
     · cases hm
   · cases hm
  |makeFunc fn first eO=>
   rw[ho]at hm
   cases fn with
   |func f=>
    simp only[dM]at hm;split at hm
    · rename_i hf
      obtain⟨a,ha,rfl⟩:=bf hm;exact WX ho (by simpa using hf) ha hd h
    · cases hm
   |_ =>cases hm
  |makeSlice t l c=>
   rw[ho]at hm;simp only[dM]at hm;split at hm
   · rename_i e l' c' he h1 h2
     have Dm:P.underlying t=some (.slice e):=by
       unfold rF at he;split at he
       · rename_i e' h';cases he;exact h'
       · cases he
     split at hm
     · rename_i i z hi hz
       split at hm
       · rename_i fy
         simp only[Bool.and_eq_true,beq_iff_eq,decide_eq_true_eq]at fy;cases hm;exact W0 ho Dm hi hz fy.1 fy.2 h1 h2 hd h
       · cases hm
     · cases hm
   · cases hm
  |slice t x lo hi mx=>
   rw[ho]at hm
   cases mx with
   |some _ =>cases hm
   |none =>
    simp only[dM]at hm;split at hm
    · rename_i h1 h2 h3 h4;cases hm;exact BJ ho h1 h2 h3 h4 hd h
    · rename_i h1 h2 h3 h4
      obtain⟨n,hn,rfl⟩:=bf hm;exact WZ ho h1 hn h2 h3 h4 hd h
    · cases hm
  |fieldAddr s x f=>
   rw[ho]at hm;simp only[dM]at hm;split at hm
   · rename_i h1 h2
     split at hm
     · rename_i hn;cases hm;exact WQ ho h2 h1 (by simpa using hn) hd h
     · cases hm
   · cases hm
  |field s x f=>
   rw[ho]at hm;simp only[dM]at hm;split at hm
   · rename_i h1 h2
     obtain⟨g,hg,rfl⟩:=bf hm;exact WY ho h2 h1 hg hd (by rw[←EX (C:=aA P)];exact h)
   · cases hm
  |indexAddr t x i=>
   rw[ho]at hm;simp only[dM]at hm;split at hm
   · rename_i e x' i' h1 h2 h3
     cases hs:eV P e with
     |none =>rw[hs]at hm;cases hm
     |some n=>
      rw[hs]at hm;simp only[Option.bind_some]at hm;split at hm
      · rename_i hn;cases hm;exact WT ho h1 hs (by simpa using hn) h2 h3 hd h
      · cases hm
   · rename_i h1 h2 h3
     obtain⟨n,hn,rfl⟩:=bf hm;exact WU ho h1 hn h2 h3 hd h
   · cases hm
  |index t x i=>
   rw[ho]at hm;simp only[dM]at hm;split at hm
   · rename_i h1 h2 h3;cases hm;exact WV ho h1 h2 h3 hd h
   · cases hm
  |extract x n=>rw[ho]at hm;obtain⟨a,ha,rfl⟩:=bf hm;exact WW ho ha hd h
  |call c=>rw[ho]at hm;exact PB ho hm hd h
  |_ =>rw[ho]at hm;cases hm
end Go.AM
