/- Texts QfG QfH QfI QfJ QfK QfL QfM QfN QiS, merged. -/
import Derived.Test.YteilijfligofdaaGreatDoorKAE
import Derived.Shelf.Strconv.Itoa3
import Derived.Shelf.Strings.OnBuilder
import Derived.Lib.LaidTab
set_option linter.all false
namespace Go.Proofs.YteilijfligofdaaGreatDoor.Qp
open Go.AM Go.Shelf Mc Pg
def rhoJoin:Ren:=⟨fun x=>match x with | 156=>106 | 165=>148 | 166=>149 | 169=>150 | 240=>172 | 241=>173 | 276=>193 | 277=>194 | n=>n,fun x=>match x with | 31=>81 | 37=>22 | 70=>164 | 72=>166 | 75=>168 | 76=>169 | 127=>184 | 164=>194 | 80=>171 | n=>n,fun n=>n⟩
theorem laysJoin:Lays.n156 Tryz.prog rhoJoin where
 mixed:=by kernel_rfl
 f156:=Eq.trans Tryz.func106 (by kernel_rfl)
 f165:=Eq.trans Tryz.func148 (by kernel_rfl)
 f166:=Eq.trans Tryz.func149 (by kernel_rfl)
 f169:=Eq.trans Tryz.func150 (by kernel_rfl)
 f240:=Eq.trans Tryz.func172 (by kernel_rfl)
 f241:=Eq.trans Tryz.func173 (by kernel_rfl)
 f276:=Eq.trans Tryz.func193 (by kernel_rfl)
 f277:=Eq.trans Tryz.func194 (by kernel_rfl)
 t0:=Tryz.underlying0
 a0:=Tryz.isAgg0
 z0:=Tryz.sizeOf0
 v0:=Tryz.zeroValue0
 t3:=Tryz.underlying3
 a3:=Tryz.isAgg3
 z3:=Tryz.sizeOf3
 v3:=Tryz.zeroValue3
 t4:=Tryz.underlying4
 a4:=Tryz.isAgg4
 z4:=Tryz.sizeOf4
 v4:=Tryz.zeroValue4
 t9:=Tryz.underlying9
 a9:=Tryz.isAgg9
 z9:=Tryz.sizeOf9
 v9:=Tryz.zeroValue9
 t20:=Tryz.underlying20
 a20:=Tryz.isAgg20
 z20:=Tryz.sizeOf20
 v20:=Tryz.zeroValue20
 t31:=Tryz.underlying81
 a31:=Tryz.isAgg81
 z31:=Tryz.sizeOf81
 v31:=Tryz.zeroValue81
 t37:=Tryz.underlying22
 a37:=Tryz.isAgg22
 z37:=Tryz.sizeOf22
 v37:=Tryz.zeroValue22
 t70:=Tryz.underlying164
 a70:=Tryz.isAgg164
 z70:=Tryz.sizeOf164
 v70:=Tryz.zeroValue164
 t72:=Tryz.underlying166
 a72:=Tryz.isAgg166
 z72:=Tryz.sizeOf166
 v72:=Tryz.zeroValue166
 t75:=Tryz.underlying168
 a75:=Tryz.isAgg168
 z75:=Tryz.sizeOf168
 v75:=Tryz.zeroValue168
 t76:=Tryz.underlying169
 a76:=Tryz.isAgg169
 z76:=Tryz.sizeOf169
 v76:=Tryz.zeroValue169
 t127:=Tryz.underlying184
 a127:=Tryz.isAgg184
 z127:=Tryz.sizeOf184
 v127:=Tryz.zeroValue184
 t164:=Tryz.underlying194
 a164:=Tryz.isAgg194
 z164:=Tryz.sizeOf194
 v164:=Tryz.zeroValue194
theorem extraJoin:Builder.Extra Tryz.prog rhoJoin where
 sizeBuilder:=by kernel_rfl
 liesBuilder:=by kernel_rfl
 t5:=Tryz.underlying5
 a5:=Tryz.isAgg5
 z5:=Tryz.sizeOf5
 v5:=Tryz.zeroValue5
 infoByte:=by kernel_rfl
 cellsByte:=by kernel_rfl
 sizeByte:=by kernel_rfl
 neB5:=by decide
theorem laysItoa:LaysM.n171 Tryz.prog rhoAtoi:={ laysAtoi with }
def Tb (H:List AO):Prop:=∃ (i:Nat) (ty:TypeId) (fz:Nat × Nat),H[i]?=some (AO.tab 0 (.int .u64 1) (.cells (Lib.pow10Tab.map fun z=>Value.int .u64 z).toArray ty fz))
theorem Tb.ext {H:List AO} (h:Tb H) (A:List AO):Tb (H++A):=by
 obtain ⟨i,te,pe,h⟩:=h
 exact ⟨i,te,pe,get_ext h A⟩
theorem Tb.keep {H H':List AO} (h:Tb H) (k:∀ (j:Nat) o,H[j]?=some o->H'[j]?=some o):Tb H':=by
 obtain ⟨i,te,pe,h⟩:=h
 exact ⟨i,te,pe,k _ _ h⟩
theorem one_int {θ : Th} {W : Im} {k : IntKind} {n : Int} {vs : Array Value} (hr : Rels θ W [.p (.i k n)] vs) : vs = #[.int k n] := by
  obtain ⟨hr1, hr2⟩ := hr
  have hs : vs.toList.length = 1 := by simpa using hr1
  match hl : vs.toList, hs with
  | [a], _ =>
    have := hr2 0 _ a rfl (by rw [← Array.getElem?_toList, hl]; rfl)
    cases this.p_inv
    rw [← Array.toList_inj]; exact hl
theorem figs_eq (n : Nat) : figs n = Lib.decDigits n := by
  induction n using Nat.strongRecOn with
  | _ n ih =>
    rw [figs, Lib.decDigits]
    split
    · rfl
    · rw [ih (n / 10) (by omega)]
theorem figs20 {n:Nat} (h:n<=9223372036854775807):(figs n).length<=20:=figs_len 19 n (by omega)
theorem itoaC {n:Int} {H:List AO} (hT:Tb H) (h0:0<=n) (h1:n<=9223372036854775807):ACall Tryz.prog 61 [.p (.i .i64 n)] H (pureQ (.p (.s (decZ n))) H):=by
 refine acall_more ⟨_,Tryz.func61,rfl,rfl⟩ ?_
 intro w θ W vs hSR hr
 obtain rfl:=one_int hr
 obtain ⟨i,ty,fz,hi⟩:=hT
 have hW:=(hSR.obj i _ hi).2.1
 refine (Any.strconv_Itoa laysItoa n (by omega) h1 w ?_).mono ?_
 ·unfold Lib.TabIs World.var?
  rw [show Tryz.prog.globalNamed "internal/strconv.uint64pow10"=some 0 by kernel_rfl]
  simp only [Option.bind]
  rw [hW]
 rintro e w' ⟨rfl,k,os,rfl⟩
 refine ⟨_,rfl,?_,rfl,rfl,rfl,?_,fun k hk=>?_⟩
 ·have e:Lib.itoa n=decZ n:=by rw [Lib.itoa,if_neg (by omega),decZ,figs_eq]
  rw [e]
  exact .p _ _ (.s _ (by have:=figs20 (n:=n.toNat) (by omega); rw [decZ,maxLe]; omega))
 ·show w.heap.size<=(w.heap++os).size
  simp
 ·show (w.heap++os)[k]?=_
  rw [Array.getElem?_append_left hk]
theorem joinD_eq (sep : List UInt8) : ∀ l : List (List UInt8), joinD sep l = Lib.join l sep
  | [] => rfl
  | [a] => by rw [joinD, Lib.join_one]
  | a :: b :: l => by
    show a ++ (sep ++ joinD sep (b :: l)) = _
    rw [joinD_eq sep (b :: l), Lib.join_cons, Lib.join_cons]; simp [Lib.joinTail]
theorem joinC {id ver : Nat} {xs : List (List UInt8)} {sep : List UInt8} {H : List AO} (hid : H[id]? = some (.rows 1 ver (rowS xs))) (hlen : (joinD sep xs).length ≤ 140737488355328) :
    ACall Tryz.prog 106 [.gs id ver 0 xs.length, .p (.s sep)] H (pureQ (.p (.s (joinD sep xs))) H) := by
  refine acall_more ⟨_, Tryz.func106, rfl, rfl⟩ ?_
  intro w θ W vs hSR hr
  obtain ⟨hr1, hr2⟩ := hr
  have hs : vs.toList.length = 2 := by simpa using hr1
  obtain ⟨hob, _, _⟩ := hSR.obj id _ hid
  match hl : vs.toList, hs with
  | [a, b], _ =>
    have ha := hr2 0 _ a rfl (by rw [← Array.getElem?_toList, hl]; rfl)
    have hb := hr2 1 _ b rfl (by rw [← Array.getElem?_toList, hl]; rfl)
    obtain rfl : vs = #[a, b] := by rw [← Array.toList_inj]; exact hl
    obtain ⟨rfl, hsep⟩ := hb.s_inv
    have fin : ∀ {bk o c : Nat}, (∀ (j : Nat) x, (xs.map fun l => (⟨l.toArray⟩ : ByteArray))[j]? = some x → w.cell? ⟨bk, o + j, none⟩ = some (.string x)) → bk < w.heap.size → xs.length ≤ 140737488355328 → xs.length ≤ c →
        Calls Tryz.prog 106 #[.slice (some ⟨bk, o, none⟩) xs.length c, .string ⟨sep.toArray⟩] w fun e w' => ∃ rv, e = .returned rv ∧ ARel θ W (.p (.s (joinD sep xs))) rv ∧ w'.os = w.os ∧ w'.tape = w.tape ∧ w'.output = w.output ∧ w.heap.size ≤ w'.heap.size ∧ ∀ k, k < w.heap.size → w'.heap[k]? = w.heap[k]? := by
      intro bk o c h1 h2 h3 h4
      have ej : (xs.map fun l => (⟨l.toArray⟩ : ByteArray)).map (·.data.toList) = xs := by simp [List.map_map, Function.comp_def]
      have := Any.strings_Join laysJoin extraJoin bk o c (xs.map fun l => (⟨l.toArray⟩ : ByteArray)) ⟨sep.toArray⟩ w h1 h2 (by rw [List.length_map]; exact h3) (by rw [List.length_map]; exact h4) (by rw [ej]; rw [joinD_eq] at hlen; simpa using hlen)
      rw [List.length_map, ej] at this
      refine this.mono ?_
      rintro e w' ⟨rfl, h5⟩
      refine ⟨_, rfl, ?_, h5.os, h5.tape, h5.output, h5.size, fun k hk => h5.block k hk⟩
      rw [joinD_eq]
      exact .p _ _ (.s _ (by rw [maxLe, ← joinD_eq]; exact hlen))
    rcases hob with ⟨hn, he⟩ | ⟨b0, tot, ty, cs, hth, hheap, hsz, hle, hrl, hcell, hone⟩
    · have hx : xs = [] := by simpa [rowS] using he
      subst hx
      cases ha with
      | gsDead _ _ _ _ a cap h hn' hm => rw [h] at hn; cases hn
      | gsNil _ _ h =>
        refine (Any.strings_Join_none laysJoin extraJoin none 0 ⟨sep.toArray⟩ w).mono ?_
        rintro e w' ⟨rfl, rfl⟩
        exact ⟨_, rfl, .p _ _ (.s _ (by rw [joinD, maxLe]; simp)), rfl, rfl, rfl, Nat.le_refl _, fun _ _ => rfl⟩
      | gs _ _ _ _ b sz tot o cap h hn' hm hc ho h0 => rw [h] at hn; cases hn
    · generalize hxl : xs.length = m at ha
      cases ha with
      | gsDead _ _ _ _ a cap h hn' hm => rw [h] at hth; cases hth
      | gsNil _ _ h => rw [h] at hth; cases hth
      | gs _ _ _ _ b sz tot' o cap h hn' hm hc ho h0 =>
        rw [h] at hth
        cases hth
        have ho' := h0 rfl
        subst ho'
        rw [← hxl] at hm hn' ⊢
        refine fin (bk := b0) (o := 0) ?_ (Array.getElem?_eq_some_iff.1 hheap).1 (by rw [maxLe] at hm; exact hm) hn'
        intro j x hx
        rw [List.getElem?_map] at hx
        cases hxj : xs[j]? with
        | none => rw [hxj] at hx; cases hx
        | some s =>
          rw [hxj] at hx
          cases hx
          have hjlt := (List.getElem?_eq_some_iff.1 hxj).1
          have hjs : j < cs.size := by rw [hsz]; simp [rowS] at hle; omega
          have h1 : (rowS xs)[j]? = some [.p (.s s)] := by simp [rowS, hxj]
          have h2 := hcell j _ 0 _ cs[j] h1 rfl (by simp [hjs])
          obtain ⟨e, _⟩ := h2.s_inv
          unfold World.cell?
          simp only [hheap]
          simp [hjs, e]
end Go.Proofs.YteilijfligofdaaGreatDoor.Qp
namespace Go.Proofs.YteilijfligofdaaGreatDoor.Qp
open Go.AM Mc Pg
theorem preClo {C:CallP} {Hm Hc:List AO} {x:MA} {xs:List MA} {d:MD} {J:PK} {st:St} {f:Nat} {caps:List AV} (hx:st.get x=.clo f caps) (h:pcallK C Hm Hc [] f (gets st xs++caps) d J st):preC C Hm Hc (.calv x xs) d J st:=by
 unfold preC
 simp only [hx]
 exact h
theorem s2 {a b:List UInt8} (h:a=b):AV.p (.s a)=AV.p (.s b):=by rw [h]
theorem roundC {s:List UInt8} (hs:s.length<=1099511627776) (l a:Int) (H:List AO):ACall Tryz.prog 66 [.p (.s s),.p (.i .i64 l),.p (.i .i64 a)] H (pureQ (.p (.s (rnd s l a))) H):=by
 refine call66 (by simp) ?_
 simp only [go_sem,simprocAttr,mc66,mr66]
 repeat' first
  | (with_reducible refine condK_split _ (fun h=>?_) (fun h=>?_) <;> simp only [go_sem,simprocAttr,h])
  | (refine drw_same ?_; simp only [go_sem,simprocAttr])
  | (refine And.intro (by (try simp only [maxLe,LL]); omega) ?_; try simp only [go_sem,simprocAttr])
  | (intro _)
 all_goals refine ⟨s2 ?_,rfl⟩
 all_goals simp only [decide_eq_true_eq,decide_eq_false_iff_not] at *
 all_goals (simp [rnd, *]; done)
theorem boolC (u:Int) (H:List AO):ACall Tryz.prog 63 [.p (.i .i64 u)] H (pureQ (.p (.s (boolW u))) H):=by
 refine call63 (by simp) ?_
 simp only [go_sem,simprocAttr,mc63,mr63]
 repeat' first
  | (with_reducible refine condK_split _ (fun h=>?_) (fun h=>?_) <;> simp only [go_sem,simprocAttr,h])
  | (refine drw_same ?_; simp only [go_sem,simprocAttr])
  | (refine And.intro (by (try simp only [maxLe,LL]); omega) ?_; try simp only [go_sem,simprocAttr])
  | (intro _)
 all_goals refine ⟨s2 ?_,rfl⟩
 all_goals simp only [decide_eq_true_eq,decide_eq_false_iff_not] at *
 all_goals (simp [boolW, *]; done)
theorem levelsC (s:List UInt8) (H:List AO):ACall Tryz.prog 65 [.p (.s s)] H (pureQ (.tup [.p (.i .i64 (opL s).1),.p (.i .i64 (opL s).2.1),.p (.i .i64 (opL s).2.2)]) H):=by
 refine call65 (by simp) ?_
 simp only [go_sem,simprocAttr,mc65,mr65]
 repeat' first
  | (with_reducible refine condK_split _ (fun h=>?_) (fun h=>?_) <;> simp only [go_sem,simprocAttr,h])
  | (refine drw_same ?_; simp only [go_sem,simprocAttr])
  | (refine And.intro (by (try simp only [maxLe,LL]); omega) ?_; try simp only [go_sem,simprocAttr])
  | (intro _)
 all_goals refine ⟨?_,rfl⟩
 all_goals simp only [decide_eq_true_eq,decide_eq_false_iff_not] at *
 all_goals (simp [opL, *]; done)
structure Bld (H:List AO) (sz:Nat) (rs:List (List AV)) (a:AV) (X:List AO):Prop where
 own:OwnR X a sz rs
 new:∀ id v o m,a=.gs id v o m->H.length<=id
 fr:∀ (j:Nat) o,H[j]?=some o->X[j]?=some o
theorem Bld.nil (H:List AO) (sz:Nat):Bld H sz [] (.p .nl) H:=⟨.inl ⟨rfl,rfl⟩,fun _ _ _ _ e=>(by cases e),fun _ _ h=>h⟩
theorem Bld.ext {H sz rs a X} (h:Bld H sz rs a X) (A:List AO):Bld H sz rs a (X++A):=⟨h.own.ext,h.new,fun j o hj=>get_ext (h.fr j o hj) A⟩
theorem Bld.len {H sz rs a X} (h:Bld H sz rs a X):H.length<=X.length:=pre_len h.fr
theorem Bld.ends {H sz rs a X} (h:Bld H sz rs a X):∃ G,X=H++G:=pre_ext h.fr
theorem Bld.app {H sz rs a X} (h:Bld H sz rs a X) {X':List AO} {ys:List (List AV)} {id ver n:Nat} (k1:X'[id]?=some (.rows sz ver (rs++ys))) (k2:(∃ v o n,a=.gs id v o n)\/X.length<=id)
  (k3:∀ (j:Nat) o,X[j]?=some o->(∀ v o' n,a≠.gs j v o' n)->X'[j]?=some o) (hn:n=(rs++ys).length):Bld H sz (rs++ys) (.gs id ver 0 n) X':=by
 subst hn
 refine ⟨.inr ⟨id,ver,rfl,k1⟩,?_,?_⟩
 ·rintro _ _ _ _ ⟨⟩
  rcases k2 with ⟨v,o,n,e⟩ | k2
  ·exact h.new _ _ _ _ e
  ·have:=h.len; omega
 ·intro j o hj
  refine k3 j o (h.fr j o hj) fun v o' n e=>?_
  have:=h.new _ _ _ _ e
  have:=get_lt hj
  omega
theorem joinNil (sep : List UInt8) (H : List AO) (hs : sep.length ≤ maxL) : ACall Tryz.prog 106 [.p .nl, .p (.s sep)] H (pureQ (.p (.s [])) H) := by
  refine acall_more ⟨_, Tryz.func106, rfl, rfl⟩ ?_
  intro w θ W vs hSR hr
  obtain ⟨hr1, hr2⟩ := hr
  have hs : vs.toList.length = 2 := by simpa using hr1
  match hl : vs.toList, hs with
  | [a, b], _ =>
    have ha := hr2 0 _ a rfl (by rw [← Array.getElem?_toList, hl]; rfl)
    have hb := hr2 1 _ b rfl (by rw [← Array.getElem?_toList, hl]; rfl)
    obtain rfl : vs = #[a, b] := by rw [← Array.toList_inj]; exact hl
    obtain ⟨rfl, hsep⟩ := hb.s_inv
    cases ha.p_inv
    refine (Any.strings_Join_none laysJoin extraJoin none 0 ⟨sep.toArray⟩ w).mono ?_
    rintro e w' ⟨rfl, rfl⟩
    exact ⟨_, rfl, .p _ _ (.s _ (by rw [maxLe]; simp)), rfl, rfl, rfl, Nat.le_refl _, fun _ _ => rfl⟩
theorem joinB {H X:List AO} {xs:List (List UInt8)} {sep:List UInt8} {a:AV} (h:Bld H 1 (rowS xs) a X) (hs:sep.length<=100) (hlen:(joinD sep xs).length<=140737488355328) :
  ACall Tryz.prog 106 [a,.p (.s sep)] X (pureQ (.p (.s (joinD sep xs))) X):=by
 rcases h.own with ⟨rfl,e⟩ | ⟨id,ver,rfl,hid⟩
 ·obtain rfl:xs=[]:=by simpa [rowS] using e
  exact joinNil sep X (by rw [maxLe]; omega)
 ·have:(rowS xs).length=xs.length:=by simp [rowS]
  rw [this]
  exact joinC hid hlen
theorem rowS_app (l:List (List UInt8)) (s:List UInt8):rowS l++[[.p (.s s)]]=rowS (l++[s]):=by simp [rowS]
theorem rowS_len (l:List (List UInt8)):(rowS l).length=l.length:=by simp [rowS]
def FormC {α:Type} (f:Nat) (c:α->AV) (g:α->List UInt8) (l:List α) (asked:Int):Prop:=∀ x∈l,∀ H:List AO,Tb H->ACall Tryz.prog f [c x,.p (.i .i64 asked)] H (pureQ (.p (.s (g x))) H)
theorem formsPatC {f:Nat} {g:PatD->List UInt8} {l:List PatD} {asked:Int} (hf:FormC f (fun x=>avC x.cells) g l asked) {sep:List UInt8} (hs:sep.length<=100) (hl:l.length<=1073741824) (hlen:(joinD sep (l.map g)).length<=140737488355328) {H:List AO} (hT:Tb H) :
  ACall Tryz.prog 163 [.p (.l (l.map PatD.cells)),.p (.i .i64 asked),.p (.s sep),.clo f []] H (pureQ (.p (.s (joinD sep (l.map g)))) H):=by
 refine acall_drop1 ?_ (tf_p _)
 refine call163 (by simp) ?_
 simp only [go_sem,simprocAttr,mc163,mr163,List.length_map]
 intro _
 refine ⟨Nat × AV × List AO,[1,2,3,8,9,12,13,14],fun x st=>(x.1<=l.length/\Bld H 1 (rowS ((l.take x.1).map g)) x.2.1 x.2.2)/\st=⟨[(1,.p (.i .i64 asked)),(2,.p (.s sep)),(3,.clo f []),(8,.p (.s [])),(9,x.2.1),(12,.p (.l (l.map PatD.cells))),(13,.p (.i .i64 l.length)),(14,.p (.i .i64 x.1))],[],x.2.2⟩,fun x=>l.length - x.1,⟨(0,.p .nl,H),?_⟩,?_⟩
 ·simp only [go_sem,simprocAttr]
  exact ⟨Nat.zero_le _,Bld.nil H 1⟩
 rintro ⟨x,a,X⟩ _ ⟨⟨hx,hB⟩,rfl⟩
 simp only at hx hB
 by_cases hlt:x<l.length
 ·have d1:decide ((x:Int)<(l.length:Int))=true:=by simp; omega
  have hlt':(x:Int)<(l.length:Int):=by omega
  have hg:(l.map PatD.cells)[x]?=some (PatD.cells l[x]):=by simp [hlt]
  have hc:=hf l[x] (List.getElem_mem hlt)
  have ht:(l.take (x+1)).map g=(l.take x).map g++[g l[x]]:=by rw [List.take_succ_eq_append_getElem hlt,List.map_append,List.map_cons,List.map_nil]
  generalize l[x]=c at hg hc ht
  obtain ⟨ck,cn,cu,cp,cks⟩:=c
  simp only [PatD.cells,avC,List.map_cons,List.map_nil] at hg hc
  simp only [go_sem,simprocAttr,d1,hlt',hg,List.length_map]
  have hB2:=fun A=>hB.ext A
  have hT2:=fun A=>hT.keep (hB2 A).fr
  refine acall_pure (hc _ (hT2 _)) ?_
  simp only [go_sem,simprocAttr]
  refine ⟨by intro r hr; simp at hr; subst hr; rfl,?_⟩
  have hlt2:(l.take x).length=x:=by simp; omega
  refine app_fr (rs:=rowS ((l.take x).map g)) (hB2 _).own (by rw [rowS_len,List.length_map,hlt2]; simp; omega) (by rw [rowS_len,List.length_map,hlt2]; simp; omega) ?_
  intro id ver X2 k1 k2 k3 k4
  have hJ:=(hB2 _).app k1 k2 k3 (n:=x+1) (by rw [List.length_append,rowS_len,List.length_map,hlt2]; rfl)
  simp only [go_sem,simprocAttr,wrN x (by omega),rowS_len,List.length_map]
  rw [rowS_app,<- ht] at hJ
  exact ⟨(x+1,_,X2),⟨⟨by omega,hJ⟩,by rw [hlt2]⟩,by simp only; omega⟩
 ·have d1:decide ((x:Int)<(l.length:Int))=false:=by simp; omega
  rw [List.take_of_length_le (by omega)] at hB
  simp only [go_sem,simprocAttr,d1]
  refine acall_pure (joinB hB hs hlen) ?_
  simp only [go_sem,simprocAttr]
  exact hB.ends
theorem formsExpC {f:Nat} {g:ExpD->List UInt8} {l:List ExpD} {asked:Int} (hf:FormC f (fun x=>avC x.cells) g l asked) {sep:List UInt8} (hs:sep.length<=100) (hl:l.length<=1073741824) (hlen:(joinD sep (l.map g)).length<=140737488355328) {H:List AO} (hT:Tb H) :
  ACall Tryz.prog 64 [.p (.l (l.map ExpD.cells)),.p (.i .i64 asked),.p (.s sep),.clo f []] H (pureQ (.p (.s (joinD sep (l.map g)))) H):=by
 refine acall_drop1 ?_ (tf_p _)
 refine call64 (by simp) ?_
 simp only [go_sem,simprocAttr,mc64,mr64,List.length_map]
 intro _
 refine ⟨Nat × AV × List AO,[1,2,3,8,9,12,13,14],fun x st=>(x.1<=l.length/\Bld H 1 (rowS ((l.take x.1).map g)) x.2.1 x.2.2)/\st=⟨[(1,.p (.i .i64 asked)),(2,.p (.s sep)),(3,.clo f []),(8,.p (.s [])),(9,x.2.1),(12,.p (.l (l.map ExpD.cells))),(13,.p (.i .i64 l.length)),(14,.p (.i .i64 x.1))],[],x.2.2⟩,fun x=>l.length - x.1,⟨(0,.p .nl,H),?_⟩,?_⟩
 ·simp only [go_sem,simprocAttr]
  exact ⟨Nat.zero_le _,Bld.nil H 1⟩
 rintro ⟨x,a,X⟩ _ ⟨⟨hx,hB⟩,rfl⟩
 simp only at hx hB
 by_cases hlt:x<l.length
 ·have d1:decide ((x:Int)<(l.length:Int))=true:=by simp; omega
  have hlt':(x:Int)<(l.length:Int):=by omega
  have hg:(l.map ExpD.cells)[x]?=some (ExpD.cells l[x]):=by simp [hlt]
  have hc:=hf l[x] (List.getElem_mem hlt)
  have ht:(l.take (x+1)).map g=(l.take x).map g++[g l[x]]:=by rw [List.take_succ_eq_append_getElem hlt,List.map_append,List.map_cons,List.map_nil]
  generalize l[x]=c at hg hc ht
  obtain ⟨ck,cn,cu,ct,cp,cks,cas⟩:=c
  simp only [ExpD.cells,avC,List.map_cons,List.map_nil] at hg hc
  simp only [go_sem,simprocAttr,d1,hlt',hg,List.length_map]
  have hB2:=fun A=>hB.ext A
  have hT2:=fun A=>hT.keep (hB2 A).fr
  refine acall_pure (hc _ (hT2 _)) ?_
  simp only [go_sem,simprocAttr]
  refine ⟨by intro r hr; simp at hr; subst hr; rfl,?_⟩
  have hlt2:(l.take x).length=x:=by simp; omega
  refine app_fr (rs:=rowS ((l.take x).map g)) (hB2 _).own (by rw [rowS_len,List.length_map,hlt2]; simp; omega) (by rw [rowS_len,List.length_map,hlt2]; simp; omega) ?_
  intro id ver X2 k1 k2 k3 k4
  have hJ:=(hB2 _).app k1 k2 k3 (n:=x+1) (by rw [List.length_append,rowS_len,List.length_map,hlt2]; rfl)
  simp only [go_sem,simprocAttr,wrN x (by omega),rowS_len,List.length_map]
  rw [rowS_app,<- ht] at hJ
  exact ⟨(x+1,_,X2),⟨⟨by omega,hJ⟩,by rw [hlt2]⟩,by simp only; omega⟩
 ·have d1:decide ((x:Int)<(l.length:Int))=false:=by simp; omega
  rw [List.take_of_length_le (by omega)] at hB
  simp only [go_sem,simprocAttr,d1]
  refine acall_pure (joinB hB hs hlen) ?_
  simp only [go_sem,simprocAttr]
  exact hB.ends
end Go.Proofs.YteilijfligofdaaGreatDoor.Qp
namespace Go.Proofs.YteilijfligofdaaGreatDoor.Qp
open Go.AM Go.Shelf Mc Pg
theorem byteR_add (l m:List UInt8):byteR (l++m)=byteR l++byteR m:=by simp [byteR]
theorem quotedC {s:List UInt8} (hs:s.length<=1073741824) (H:List AO):ACall Tryz.prog 62 [.p (.s s)] H (pureQ (.p (.s (quoD s))) H):=by
 refine acall_drop1 ?_ (tf_p _)
 refine call62 (by simp) ?_
 simp only [go_sem,simprocAttr,mc62,mr62]
 have hq:∀ x,(34 :: ((s.take x).map quoC).flatten).length<=2 * s.length+1:=fun x=>by
  have:=quo_len (s.take x)
  unfold quoD at this
  rw [List.length_cons,List.length_append,List.length_singleton,List.length_take] at this
  rw [List.length_cons]; omega
 refine ⟨Nat × AV × List AO,[0,2,3,4],fun x st=>(x.1<=s.length/\Bld H 1 (byteR (34 :: ((s.take x.1).map quoC).flatten)) x.2.1 x.2.2)/\st=⟨[(0,.p (.s s)),(2,.p (.s [])),(3,x.2.1),(4,.p (.i .i64 x.1))],[],x.2.2⟩,fun x=>s.length - x.1,⟨(0,.gs H.length 0 0 1,H++[.rows 1 0 [[.p (.i .u8 34)]]]),?_⟩,?_⟩
 ·simp only [go_sem,simprocAttr]
  exact ⟨Nat.zero_le _,.inr ⟨H.length,0,rfl,by rw [gx0]; rfl⟩,fun _ _ _ _ e=>by cases e; exact Nat.le_refl _,fun j o hj=>get_ext hj _⟩
 rintro ⟨x,a,X⟩ _ ⟨⟨hx,hB⟩,rfl⟩
 simp only at hx hB
 have hqx:=hq x
 have hqx1:=hq (x+1)
 by_cases hlt:x<s.length
 ·have d1:decide ((x:Int)<(s.length:Int))=true:=by simp; omega
  have hg:s[x]?=some s[x]:=by simp [hlt]
  have ht:34 :: ((s.take (x+1)).map quoC).flatten=34 :: ((s.take x).map quoC).flatten++quoC s[x]:=by rw [List.take_succ_eq_append_getElem hlt,List.map_append,List.flatten_append]; simp
  rw [ht,List.length_append] at hqx1
  generalize s[x]=c at hg ht hqx1
  generalize (34 :: ((s.take x).map quoC).flatten:List UInt8)=l at hB hqx ht hqx1
  have key:∀ ys:List (List AV),ys=byteR (quoC c)->∀ (K:St->Prop) (L T:En) (d:MD) (A:List AO),(∀ id ver X2,Bld H 1 (byteR (l++quoC c)) (.gs id ver 0 (l.length+ys.length)) X2->K (St.put ⟨L,T,X2⟩ d (.gs id ver 0 (l.length+ys.length))))->appX 1 1 a ys d K ⟨L,T,X++A⟩:=by
   rintro ys rfl K L T d A k
   have hl2:(byteR l).length=l.length:=byteR_len _
   have hl3:(byteR (quoC c)).length=(quoC c).length:=byteR_len _
   refine app_fr (rs:=byteR l) (hB.ext A).own (by rw [hl2,hl3]; omega) (by rw [hl2,hl3]; omega) ?_
   intro id ver X2 k1 k2 k3 k4
   have hJ:=(hB.ext A).app k1 k2 k3 (n:=l.length+(byteR (quoC c)).length) (by rw [List.length_append,hl2])
   rw [<- byteR_add] at hJ
   have:=k id ver X2 hJ
   rwa [hl2]
  simp only [go_sem,simprocAttr,d1,hg]
  intro _
  cases h10:decide ((c.toNat:Int)=10)
  ·cases h34:decide ((c.toNat:Int)=34)
   ·cases h92:decide ((c.toNat:Int)=92)
    ·have e:quoC c=[c]:=by unfold quoC; rw [if_neg (of_decide_eq_false h10),if_neg (by intro h; rcases h with h | h; exact of_decide_eq_false h34 h; exact of_decide_eq_false h92 h)]
     simp only [go_sem,simprocAttr,h10,h34,h92,hg]
     refine ⟨by intro r hr; simp at hr; subst hr; rfl,?_⟩
     refine key _ (by rw [e]; rfl) _ _ _ _ _ ?_
     intro id ver X2 hJ
     simp only [go_sem,simprocAttr,wrN x (by omega)]
     exact ⟨(x+1,_,X2),⟨⟨by omega,by rw [ht]; exact hJ⟩,rfl⟩,by simp only; omega⟩
    ·have e:quoC c=[92,c]:=by unfold quoC; rw [if_neg (of_decide_eq_false h10),if_pos (.inr (of_decide_eq_true h92))]
     simp only [go_sem,simprocAttr,h10,h34,h92,hg]
     refine ⟨by intro r hr; simp at hr; rcases hr with rfl | rfl <;> rfl,?_⟩
     refine key _ (by rw [e]; rfl) _ _ _ _ _ ?_
     intro id ver X2 hJ
     simp only [go_sem,simprocAttr,wrN x (by omega)]
     exact ⟨(x+1,_,X2),⟨⟨by omega,by rw [ht]; exact hJ⟩,rfl⟩,by simp only; omega⟩
   ·have e:quoC c=[92,c]:=by unfold quoC; rw [if_neg (of_decide_eq_false h10),if_pos (.inl (of_decide_eq_true h34))]
    simp only [go_sem,simprocAttr,h10,h34,hg]
    refine ⟨by intro r hr; simp at hr; rcases hr with rfl | rfl <;> rfl,?_⟩
    refine key _ (by rw [e]; rfl) _ _ _ _ _ ?_
    intro id ver X2 hJ
    simp only [go_sem,simprocAttr,wrN x (by omega)]
    exact ⟨(x+1,_,X2),⟨⟨by omega,by rw [ht]; exact hJ⟩,rfl⟩,by simp only; omega⟩
  ·have e:quoC c=[92,110]:=by unfold quoC; rw [if_pos (of_decide_eq_true h10)]
   simp only [go_sem,simprocAttr,h10,hg]
   refine ⟨by intro r hr; simp at hr; rcases hr with rfl | rfl <;> rfl,?_⟩
   refine key _ (by rw [e]; rfl) _ _ _ _ _ ?_
   intro id ver X2 hJ
   simp only [go_sem,simprocAttr,wrN x (by omega)]
   exact ⟨(x+1,_,X2),⟨⟨by omega,by rw [ht]; exact hJ⟩,rfl⟩,by simp only; omega⟩
 ·have d1:decide ((x:Int)<(s.length:Int))=false:=by simp; omega
  rw [List.take_of_length_le (by omega)] at hB hqx
  simp only [go_sem,simprocAttr,d1]
  intro _
  refine ⟨by intro r hr; simp at hr; subst hr; rfl,?_⟩
  have hl2:(byteR (34 :: (s.map quoC).flatten)).length=(34 :: (s.map quoC).flatten).length:=byteR_len _
  refine app_fr (rs:=byteR (34 :: (s.map quoC).flatten)) (hB.ext _).own (by rw [hl2]; simp only [List.length_cons,List.length_nil] at hqx ⊢; omega) (by rw [hl2]; simp only [List.length_cons,List.length_nil] at hqx ⊢; omega) ?_
  intro id ver X2 k1 k2 k3 k4
  have hJ:=(hB.ext _).app k1 k2 k3 (n:=(byteR (34 :: (s.map quoC).flatten)).length+1) (by rw [List.length_append]; rfl)
  have e2:byteR (34 :: (s.map quoC).flatten)++[[.p (.i .u8 34)]]=byteR (quoD s):=by unfold quoD; rw [<- List.cons_append,byteR_add]; rfl
  rw [e2] at hJ
  have hqs:=quo_len s
  have hb:=own_b2s hJ.own (by omega)
  simp only [go_sem,simprocAttr,hb]
  exact hJ.ends
theorem len2 {α:Type} {l:List α} (h:(l.length:Int)=2):∃ a b,l=[a,b]:=by
 match l,h with
 | [a,b],_=>exact ⟨a,b,rfl⟩
 | [],h=>simp at h
 | [_],h=>simp at h
 | _ :: _ :: _ :: _,h=>simp at h; omega
theorem len1 {α:Type} {l:List α} (h:(l.length:Int)=1):∃ a,l=[a]:=by
 match l,h with
 | [a],_=>exact ⟨a,rfl⟩
 | [],h=>simp at h
 | _ :: _ :: _,h=>simp at h; omega
theorem len3 {α:Type} {l:List α} (h:(l.length:Int)=3):∃ a b c,l=[a,b,c]:=by
 match l,h with
 | [a,b,c],_=>exact ⟨a,b,c,rfl⟩
 | [],h=>simp at h
 | [_],h=>simp at h
 | [_,_],h=>simp at h
 | _ :: _ :: _ :: _ :: _,h=>simp at h; omega
theorem len0 {α:Type} {l:List α} (h:(l.length:Int)=0):l=[]:=List.length_eq_zero_iff.1 (by omega)
def PatFmC (x:PatD):Prop:=∀ (a:Int) (H:List AO),a<=1->Tb H->ACall Tryz.prog 123 [avC x.cells,.p (.i .i64 a)] H (pureQ (.p (.s (x.kf.at a))) H)
theorem pat_fmC (k:Int) (n:List UInt8) (u p:Int) (ks:List PatD) (hok:(PatD.mk k n u p ks).okB=true) (hfit:(PatD.mk k n u p ks).fit) (hsz:n.length+PatD.szL ks<=1073741824) (hk:∀ x∈ks,PatFmC x):PatFmC (.mk k n u p ks):=by
 intro a H ha hT
 refine acall_drop1 ?_ (tf_p _)
 refine call123 (by simp) ?_
 rw [PatD.fit] at hfit
 have hW:=PatD.kfL_len ks hfit.2
 have hu:=hfit.1
 have hLen:ks.length<=1073741824:=by have:=sumSz_len PatD.sz ks; rw [<- PatD.szL_eq] at this; omega
 have hF:∀ z,z<=1->FormC 123 (fun x:PatD=>avC x.cells) (fun x=>x.kf.at z) ks z:=fun z hz x hx H hT=>hk x hx z H hz hT
 have hj:∀ (sep:List UInt8),sep.length<=10->∀ z,(joinD sep (ks.map fun x=>x.kf.at z)).length<=200000000000:=fun sep hs z=>by
  have:=joinK_len sep hs z (PatD.kfL ks)
  rw [PatD.kfL_eq,List.map_map] at this
  rw [PatD.kfL_eq] at hW
  exact Nat.le_trans this (by omega)
 rw [PatD.okB,patH] at hok
 simp only [Bool.and_eq_true] at hok
 have hok1:=hok.1.1
 clear hok hfit
 by_cases h2:k=2
 ·subst h2
  have e:(PatD.mk 2 n u p ks).kf.at a=n:=by simp [PatD.kf,patG,KF.at,rnd]; omega
  rw [e]
  simp only [go_sem,simprocAttr,mc123,mr123,PatD.cells,PatD.cellsL_eq,avC,List.length_map]
  repeat' first
   | (with_reducible refine condK_split _ (fun h=>?_) (fun h=>?_) <;> simp only [go_sem,simprocAttr,h])
   | (refine drw_same ?_; simp only [go_sem,simprocAttr])
   | (refine And.intro (by (try simp only [maxLe,LL]); omega) ?_; try simp only [go_sem,simprocAttr])
   | (intro _)
  all_goals exact ⟨_,rfl⟩
 by_cases h3:k=3
 ·subst h3
  have e:(PatD.mk 3 n u p ks).kf.at a=decZ u:=by simp [PatD.kf,patG,KF.at,rnd]; omega
  rw [e]
  have h0:0<=u:=by simp at hok1; exact hok1.2.2
  simp only [go_sem,simprocAttr,mc123,mr123,PatD.cells,PatD.cellsL_eq,avC,List.length_map]
  refine acall_pure (itoaC (hT.ext _) h0 hu) ?_
  simp only [go_sem,simprocAttr]
  exact ⟨_,rfl⟩
 by_cases h4:k=4
 ·subst h4
  have e:(PatD.mk 4 n u p ks).kf.at a=boolW u:=by simp [PatD.kf,patG,KF.at,rnd]; omega
  rw [e]
  simp only [go_sem,simprocAttr,mc123,mr123,PatD.cells,PatD.cellsL_eq,avC,List.length_map]
  repeat' first
   | (with_reducible refine condK_split _ (fun h=>?_) (fun h=>?_) <;> simp only [go_sem,simprocAttr,h])
   | (with_reducible refine acall_pure (boolC _ _) ?_; simp only [go_sem,simprocAttr])
   | (refine drw_same ?_; simp only [go_sem,simprocAttr])
   | (refine And.intro (by (try simp only [maxLe,LL]); omega) ?_; try simp only [go_sem,simprocAttr])
   | (intro _)
  all_goals exact ⟨_,rfl⟩
 by_cases h5:k=5
 ·subst h5
  have e:(PatD.mk 5 n u p ks).kf.at a=[40,41]:=by simp [PatD.kf,patG,KF.at,rnd]; omega
  rw [e]
  simp only [go_sem,simprocAttr,mc123,mr123,PatD.cells,PatD.cellsL_eq,avC,List.length_map]
  repeat' first
   | (with_reducible refine condK_split _ (fun h=>?_) (fun h=>?_) <;> simp only [go_sem,simprocAttr,h])
   | (refine drw_same ?_; simp only [go_sem,simprocAttr])
   | (refine And.intro (by (try simp only [maxLe,LL]); omega) ?_; try simp only [go_sem,simprocAttr])
   | (intro _)
  all_goals exact ⟨_,rfl⟩
 by_cases h6:k=6
 ·subst h6
  have e:(PatD.mk 6 n u p ks).kf.at a=40 :: (joinD [44,32] (ks.map fun x=>x.kf.at 0)++[41]):=by simp [PatD.kf,PatD.kfL_eq,patG,KF.at,rnd,Function.comp_def]; omega
  rw [e]
  have hj2:=hj [44,32] (by decide) 0
  have hfm:=fun H (hT:Tb H)=>formsPatC (hF 0 (by decide)) (sep:=[44,32]) (by decide) hLen (by omega) hT
  clear e
  generalize joinD [44,32] (ks.map fun x=>x.kf.at 0)=sj at hj2 hfm
  simp only [go_sem,simprocAttr,mc123,mr123,PatD.cells,PatD.cellsL_eq,avC,List.length_map]
  repeat' first
   | (with_reducible refine condK_split _ (fun h=>?_) (fun h=>?_) <;> simp only [go_sem,simprocAttr,h])
   | (with_reducible refine acall_pure (hfm _ (hT.ext _)) ?_; simp only [go_sem,simprocAttr])
   | (refine drw_same ?_; simp only [go_sem,simprocAttr])
   | (refine And.intro (by (try simp only [maxLe,LL]); omega) ?_; try simp only [go_sem,simprocAttr])
   | (intro _)
  all_goals first | exact ⟨s2 (by simp),_,rfl⟩ | exact ⟨_,rfl⟩
 by_cases h7:k=7
 ·subst h7
  by_cases hl:(ks.length:Int)=0
  ·obtain rfl:=len0 hl
   have e:(PatD.mk 7 n u p []).kf.at a=n:=by simp [PatD.kf,PatD.kfL,patG,KF.at,rnd]; omega
   rw [e]
   simp only [go_sem,simprocAttr,mc123,mr123,PatD.cells,PatD.cellsL_eq,avC,List.length_map]
   repeat' first
    | (with_reducible refine condK_split _ (fun h=>?_) (fun h=>?_) <;> simp only [go_sem,simprocAttr,h])
    | (refine drw_same ?_; simp only [go_sem,simprocAttr])
    | (refine And.intro (by (try simp only [maxLe,LL]); omega) ?_; try simp only [go_sem,simprocAttr])
    | (intro _)
   all_goals exact ⟨_,rfl⟩
  ·obtain ⟨c0,rfl⟩:=len1 (l:=ks) (by simp at hok1 hl; have:=hok1.1; have:=List.length_pos_iff.2 hl; omega)
   have g0:=hk c0 (by simp) 1
   simp only [PatD.kfL,wK] at hW
   have a0:=(at_len c0.kf 1).1
   have e:(PatD.mk 7 n u p [c0]).kf.at a=rnd (n++(32 :: c0.kf.at 1)) 0 a:=by simp [PatD.kf,PatD.kfL,patG,KF.at]
   rw [e]
   generalize c0.kf.at 1=s0 at *
   obtain ⟨k0,n0,u0,p0,q0⟩:=c0
   simp only [PatD.cells,avC,List.map_cons,List.map_nil] at g0
   simp only [go_sem,simprocAttr,mc123,mr123,PatD.cells,PatD.cellsL,avC,List.length_map]
   repeat' first
    | (with_reducible refine condK_split _ (fun h=>?_) (fun h=>?_) <;> simp only [go_sem,simprocAttr,h])
    | (with_reducible refine pcall_pure (fun A=>g0 _ (by decide) ((hT.ext _).ext _)) (Hext.refl _) ?_; simp only [go_sem,simprocAttr])
    | (with_reducible refine acall_pure (roundC (by simp only [List.length_append,List.length_cons,List.length_nil]; omega) _ _ _) ?_; simp only [go_sem,simprocAttr])
    | (refine drw_same ?_; simp only [go_sem,simprocAttr])
    | (refine And.intro (by (try simp only [maxLe,LL]); omega) ?_; try simp only [go_sem,simprocAttr])
    | (intro _)
   all_goals first | exact ⟨s2 (by simp),_,rfl⟩ | exact ⟨_,rfl⟩
 have h1:k=1:=by
  by_cases h1:k=1
  ·exact h1
  ·rw [if_neg (by omega),if_neg h2,if_neg h3,if_neg h4,if_neg h6,if_neg h7] at hok1; cases hok1
 subst h1
 have e:(PatD.mk 1 n u p ks).kf.at a=[95]:=by simp [PatD.kf,patG,KF.at,rnd]; omega
 rw [e]
 simp only [go_sem,simprocAttr,mc123,mr123,PatD.cells,PatD.cellsL_eq,avC,List.length_map]
 repeat' first
  | (with_reducible refine condK_split _ (fun h=>?_) (fun h=>?_) <;> simp only [go_sem,simprocAttr,h])
  | (refine drw_same ?_; simp only [go_sem,simprocAttr])
  | (refine And.intro (by (try simp only [maxLe,LL]); omega) ?_; try simp only [go_sem,simprocAttr])
  | (intro _)
 all_goals exact ⟨_,rfl⟩
theorem patFmC (p : PatD) (h : p.sz ≤ 1073741824) (hok : p.okB = true) (hf : p.fit) : PatFmC p := by
  have : ∀ (m : Nat) (p : PatD), p.sz < m → p.sz ≤ 1073741824 → p.okB = true → p.fit → PatFmC p := by
    intro m
    induction m with
    | zero => intro p h; omega
    | succ m ih =>
      intro p h h2 hok hf
      obtain ⟨k, n, u, q, ks⟩ := p
      rw [PatD.sz] at h h2
      refine pat_fmC _ _ _ _ _ hok hf h2 fun a ha => ?_
      rw [PatD.okB, PatD.okL_eq, Bool.and_eq_true, List.all_eq_true] at hok
      rw [PatD.fit] at hf
      rw [PatD.szL_eq] at h h2
      have := sumSz_mem PatD.sz ha
      exact ih a (by omega) (by omega) (hok.2 a ha) (PatD.fitL_mem hf.2 ha)
  exact this _ p (Nat.lt_succ_self _) h hok hf
def ExpFmC (x:ExpD):Prop:=∀ (a:Int) (H:List AO),a<=6->Tb H->ACall Tryz.prog 24 [avC x.cells,.p (.i .i64 a)] H (pureQ (.p (.s (x.kf.at a))) H)
theorem kidC {X:List AO} {j:Nat} {k u p:Int} {n t:List UInt8} {rows arms:List (List PV)} {i:Nat} {c:ExpD} {s:List UInt8} (hj:X[j]?=some (.var [.p (.i .i64 k),.p (.s n),.p (.i .i64 u),.p (.s t),.p (.i .i64 p),.p (.l rows),.p (.l arms)]))
  (hg:rows[i]?=some c.cells) (hc:ACall Tryz.prog 24 [avC c.cells,.p (.i .i64 0)] X (pureQ (.p (.s s)) X)):ACall Tryz.prog 122 [.p (.i .i64 (i:Int)),.ptr j 0] X (pureQ (.p (.s s)) X):=by
 refine call122 (by simp) ?_
 have hi:=(List.getElem?_eq_some_iff.1 hg).1
 have hi':(i:Int)<(rows.length:Int):=by omega
 obtain ⟨k0,n0,u0,t0,p0,q0,r0⟩:=c
 simp only [ExpD.cells,avC,List.map_cons,List.map_nil] at hc hg
 simp only [go_sem,simprocAttr,mc122,mr122,hj,hg,hi']
 refine acall_pure hc ?_
 simp only [go_sem,simprocAttr]
 exact ⟨rfl,rfl⟩
theorem atVar (H A:List AO) (o:AO):(H++[o]++A)[H.length]?=some o:=by simp
theorem atVar0 (H:List AO) (o:AO):(H++[o])[H.length]?=some o:=by simp
theorem openC (k:Int) (n:List UInt8) (u:Int) (t:List UInt8) (p:Int) (ks:List ExpD) (as':List ArmD) (hok:(ExpD.mk k n u t p ks as').okB=true) (hfit:(ExpD.mk k n u t p ks as').fit) (hsz:n.length+t.length+ExpD.szL ks+ExpD.szA as'<=1073741824)
  (hk:∀ x∈ks,ExpFmC x) (ha:∀ q e,ArmD.mk q e∈as'->PatFmC q/\ExpFmC e) (hkk:k=8\/k=10\/k=11\/k=12\/k=13) (H:List AO) (hT:Tb H) :
  ACall Tryz.prog 67 [avC (ExpD.cells (.mk k n u t p ks as'))] H (pureQ (.p (.s (ExpD.kf (.mk k n u t p ks as')).f)) H):=by
 refine acall_drop1 ?_ (tf_p _)
 refine call67 (by simp) ?_
 rw [ExpD.fit] at hfit
 have hW:=ExpD.kfL_len ks hfit.2.1
 have hWA:=ExpD.kfA_len as' hfit.2.2
 rw [ExpD.okB,expH] at hok
 simp only [Bool.and_eq_true] at hok
 have hok1:=hok.1.1
 clear hok hfit
 by_cases h10:k=10
 ·subst h10
  obtain ⟨c0,c1,rfl⟩:=len2 (l:=ks) (by simpa using (by simpa using hok1:_/\_).1)
  simp only [ExpD.kfL,wK,ExpD.szL] at hW
  simp only [ExpD.szL] at hsz
  have a0:=(at_len c0.kf 0).1
  have g0:=hk c0 (by simp) 0
  have a1:=(at_len c1.kf 0).1
  have g1:=hk c1 (by simp) 0
  have e:(ExpD.mk 10 n u t p [c0,c1] as').kf.f=[108,101,116,32]++(n++([32,61,32]++(c0.kf.at 0++([32,105,110,32]++c1.kf.at 0)))):=by simp [ExpD.kf,ExpD.kfL,expG]
  rw [e]
  have hX:=fun A=>atVar H A (.var [.p (.i .i64 10),.p (.s n),.p (.i .i64 u),.p (.s t),.p (.i .i64 p),.p (.l [c0.cells,c1.cells]),.p (.l (as'.map ArmD.cells))])
  have hX0:=atVar0 H (.var [.p (.i .i64 10),.p (.s n),.p (.i .i64 u),.p (.s t),.p (.i .i64 p),.p (.l [c0.cells,c1.cells]),.p (.l (as'.map ArmD.cells))])
  have r0:∀ A,ACall _ _ [.p (.i .i64 0),.ptr H.length 0] (_++A) (pureQ (.p (.s (c0.kf.at 0))) (_++A)):=fun A=>kidC (i:=0) (c:=c0) (hX A) (by rfl) (g0 _ (by decide) ((hT.ext _).ext A))
  have r1:∀ A,ACall _ _ [.p (.i .i64 1),.ptr H.length 0] (_++A) (pureQ (.p (.s (c1.kf.at 0))) (_++A)):=fun A=>kidC (i:=1) (c:=c1) (hX A) (by rfl) (g1 _ (by decide) ((hT.ext _).ext A))
  clear e
  generalize c0.kf.at 0=s0 at *
  generalize c1.kf.at 0=s1 at *
  simp only [go_sem,simprocAttr,mc67,mr67,ExpD.cells,ExpD.cellsL,ExpD.cellsA_eq,avC]
  repeat' first
   | (with_reducible refine condK_split _ (fun h=>?_) (fun h=>?_) <;> simp only [go_sem,simprocAttr,h])
   | (with_reducible refine pcall_pure (fun A=>r0 A) (Hext.refl _) ?_; simp only [go_sem,simprocAttr])
   | (with_reducible refine pcall_pure (fun A=>r1 A) (Hext.refl _) ?_; simp only [go_sem,simprocAttr])
   | (refine preClo rfl ?_; simp only [go_sem,simprocAttr])
   | (refine drw_same ?_; simp only [go_sem,simprocAttr])
   | (refine And.intro (by (try simp only [maxLe,LL]); omega) ?_; try simp only [go_sem,simprocAttr])
   | (intro _)
  all_goals first | exact ⟨s2 (by simp),_,rfl⟩ | exact ⟨_,rfl⟩
 by_cases h11:k=11
 ·subst h11
  obtain ⟨c0,c1,rfl⟩:=len2 (l:=ks) (by simpa using (by simpa using hok1:_/\_).1)
  simp only [ExpD.kfL,wK,ExpD.szL] at hW
  simp only [ExpD.szL] at hsz
  have a0:=(at_len c0.kf 0).1
  have g0:=hk c0 (by simp) 0
  have a1:=(at_len c1.kf 0).1
  have g1:=hk c1 (by simp) 0
  have e:(ExpD.mk 11 n u t p [c0,c1] as').kf.f=[108,101,116,32,114,101,99,32]++(n++(32 :: (t++([32,61,32]++(c0.kf.at 0++([32,105,110,32]++c1.kf.at 0)))))):=by simp [ExpD.kf,ExpD.kfL,expG]
  rw [e]
  have hX:=fun A=>atVar H A (.var [.p (.i .i64 11),.p (.s n),.p (.i .i64 u),.p (.s t),.p (.i .i64 p),.p (.l [c0.cells,c1.cells]),.p (.l (as'.map ArmD.cells))])
  have hX0:=atVar0 H (.var [.p (.i .i64 11),.p (.s n),.p (.i .i64 u),.p (.s t),.p (.i .i64 p),.p (.l [c0.cells,c1.cells]),.p (.l (as'.map ArmD.cells))])
  have r0:∀ A,ACall _ _ [.p (.i .i64 0),.ptr H.length 0] (_++A) (pureQ (.p (.s (c0.kf.at 0))) (_++A)):=fun A=>kidC (i:=0) (c:=c0) (hX A) (by rfl) (g0 _ (by decide) ((hT.ext _).ext A))
  have r1:∀ A,ACall _ _ [.p (.i .i64 1),.ptr H.length 0] (_++A) (pureQ (.p (.s (c1.kf.at 0))) (_++A)):=fun A=>kidC (i:=1) (c:=c1) (hX A) (by rfl) (g1 _ (by decide) ((hT.ext _).ext A))
  clear e
  generalize c0.kf.at 0=s0 at *
  generalize c1.kf.at 0=s1 at *
  simp only [go_sem,simprocAttr,mc67,mr67,ExpD.cells,ExpD.cellsL,ExpD.cellsA_eq,avC]
  repeat' first
   | (with_reducible refine condK_split _ (fun h=>?_) (fun h=>?_) <;> simp only [go_sem,simprocAttr,h])
   | (with_reducible refine pcall_pure (fun A=>r0 A) (Hext.refl _) ?_; simp only [go_sem,simprocAttr])
   | (with_reducible refine pcall_pure (fun A=>r1 A) (Hext.refl _) ?_; simp only [go_sem,simprocAttr])
   | (refine preClo rfl ?_; simp only [go_sem,simprocAttr])
   | (refine drw_same ?_; simp only [go_sem,simprocAttr])
   | (refine And.intro (by (try simp only [maxLe,LL]); omega) ?_; try simp only [go_sem,simprocAttr])
   | (intro _)
  all_goals first | exact ⟨s2 (by simp),_,rfl⟩ | exact ⟨_,rfl⟩
 by_cases h8:k=8
 ·subst h8
  obtain ⟨c0,rfl⟩:=len1 (l:=ks) (by simpa using (by simpa using hok1:_/\_).1)
  simp only [ExpD.kfL,wK,ExpD.szL] at hW
  simp only [ExpD.szL] at hsz
  have a0:=(at_len c0.kf 0).1
  have g0:=hk c0 (by simp) 0
  have e:(ExpD.mk 8 n u t p [c0] as').kf.f=[102,117,110,32]++(n++([32,45,62,32]++c0.kf.at 0)):=by simp [ExpD.kf,ExpD.kfL,expG]
  rw [e]
  have hX:=fun A=>atVar H A (.var [.p (.i .i64 8),.p (.s n),.p (.i .i64 u),.p (.s t),.p (.i .i64 p),.p (.l [c0.cells]),.p (.l (as'.map ArmD.cells))])
  have hX0:=atVar0 H (.var [.p (.i .i64 8),.p (.s n),.p (.i .i64 u),.p (.s t),.p (.i .i64 p),.p (.l [c0.cells]),.p (.l (as'.map ArmD.cells))])
  have r0:∀ A,ACall _ _ [.p (.i .i64 0),.ptr H.length 0] (_++A) (pureQ (.p (.s (c0.kf.at 0))) (_++A)):=fun A=>kidC (i:=0) (c:=c0) (hX A) (by rfl) (g0 _ (by decide) ((hT.ext _).ext A))
  clear e
  generalize c0.kf.at 0=s0 at *
  simp only [go_sem,simprocAttr,mc67,mr67,ExpD.cells,ExpD.cellsL,ExpD.cellsA_eq,avC]
  repeat' first
   | (with_reducible refine condK_split _ (fun h=>?_) (fun h=>?_) <;> simp only [go_sem,simprocAttr,h])
   | (with_reducible refine pcall_pure (fun A=>r0 A) (Hext.refl _) ?_; simp only [go_sem,simprocAttr])
   | (refine preClo rfl ?_; simp only [go_sem,simprocAttr])
   | (refine drw_same ?_; simp only [go_sem,simprocAttr])
   | (refine And.intro (by (try simp only [maxLe,LL]); omega) ?_; try simp only [go_sem,simprocAttr])
   | (intro _)
  all_goals first | exact ⟨s2 (by simp),_,rfl⟩ | exact ⟨_,rfl⟩
 by_cases h12:k=12
 ·subst h12
  obtain ⟨c0,c1,c2,rfl⟩:=len3 (l:=ks) (by simpa using (by simpa using hok1:_/\_).1)
  simp only [ExpD.kfL,wK,ExpD.szL] at hW
  simp only [ExpD.szL] at hsz
  have a0:=(at_len c0.kf 0).1
  have g0:=hk c0 (by simp) 0
  have a1:=(at_len c1.kf 0).1
  have g1:=hk c1 (by simp) 0
  have a2:=(at_len c2.kf 0).1
  have g2:=hk c2 (by simp) 0
  have e:(ExpD.mk 12 n u t p [c0,c1,c2] as').kf.f=[105,102,32]++(c0.kf.at 0++([32,116,104,101,110,32]++(c1.kf.at 0++([32,101,108,115,101,32]++c2.kf.at 0)))):=by simp [ExpD.kf,ExpD.kfL,expG]
  rw [e]
  have hX:=fun A=>atVar H A (.var [.p (.i .i64 12),.p (.s n),.p (.i .i64 u),.p (.s t),.p (.i .i64 p),.p (.l [c0.cells,c1.cells,c2.cells]),.p (.l (as'.map ArmD.cells))])
  have hX0:=atVar0 H (.var [.p (.i .i64 12),.p (.s n),.p (.i .i64 u),.p (.s t),.p (.i .i64 p),.p (.l [c0.cells,c1.cells,c2.cells]),.p (.l (as'.map ArmD.cells))])
  have r0:ACall _ _ [.p (.i .i64 0),.ptr H.length 0] _ (pureQ (.p (.s (c0.kf.at 0))) _):=kidC (i:=0) (c:=c0) hX0 (by rfl) (g0 _ (by decide) (hT.ext _))
  have r1:ACall _ _ [.p (.i .i64 1),.ptr H.length 0] _ (pureQ (.p (.s (c1.kf.at 0))) _):=kidC (i:=1) (c:=c1) hX0 (by rfl) (g1 _ (by decide) (hT.ext _))
  have r2:ACall _ _ [.p (.i .i64 2),.ptr H.length 0] _ (pureQ (.p (.s (c2.kf.at 0))) _):=kidC (i:=2) (c:=c2) hX0 (by rfl) (g2 _ (by decide) (hT.ext _))
  clear e
  generalize c0.kf.at 0=s0 at *
  generalize c1.kf.at 0=s1 at *
  generalize c2.kf.at 0=s2 at *
  simp only [go_sem,simprocAttr,mc67,mr67,ExpD.cells,ExpD.cellsL,ExpD.cellsA_eq,avC]
  repeat' first
   | (with_reducible refine condK_split _ (fun h=>?_) (fun h=>?_) <;> simp only [go_sem,simprocAttr,h])
   | (with_reducible refine acall_pure (r0) ?_; simp only [go_sem,simprocAttr])
   | (with_reducible refine acall_pure (r1) ?_; simp only [go_sem,simprocAttr])
   | (with_reducible refine acall_pure (r2) ?_; simp only [go_sem,simprocAttr])
   | (refine drw_same ?_; simp only [go_sem,simprocAttr])
   | (refine And.intro (by (try simp only [maxLe,LL]); omega) ?_; try simp only [go_sem,simprocAttr])
   | (intro _)
  all_goals first | exact ⟨s2 (by simp),_,rfl⟩ | exact ⟨_,rfl⟩
 obtain rfl:k=13:=by omega
 obtain ⟨c0,rfl⟩:=len1 (l:=ks) (by simpa using (by simpa using hok1:_/\_).1)
 simp only [ExpD.kfL,wK,ExpD.szL] at hW
 simp only [ExpD.szL] at hsz
 have a0:=(at_len c0.kf 0).1
 have g0:=hk c0 (by simp) 0
 have hAl:=armF_len (ExpD.kfA as')
 have hLA:as'.length<=1073741824:=by have:=sumSz_len ArmD.sz as'; rw [<- ExpD.szA_eq] at this; omega
 have e:(ExpD.mk 13 n u t p [c0] as').kf.f=[109,97,116,99,104,32]++(c0.kf.at 0++([32,119,105,116,104]++(((as'.map ArmD.kf).map armF).flatten++[32,101,110,100]))):=by simp [ExpD.kf,ExpD.kfL,expG,ExpD.kfA_eq]
 rw [e]
 rw [ExpD.kfA_eq] at hAl hWA
 have hX0:=atVar0 H (.var [.p (.i .i64 13),.p (.s n),.p (.i .i64 u),.p (.s t),.p (.i .i64 p),.p (.l [c0.cells]),.p (.l (as'.map ArmD.cells))])
 have r0:ACall _ _ [.p (.i .i64 0),.ptr H.length 0] _ (pureQ (.p (.s (c0.kf.at 0))) _):=kidC (i:=0) (c:=c0) hX0 (by rfl) (g0 _ (by decide) (hT.ext _))
 clear e
 generalize c0.kf.at 0=s0 at *
 simp only [go_sem,simprocAttr,mc67,mr67,ExpD.cells,ExpD.cellsL,ExpD.cellsA_eq,avC]
 repeat' first
  | (with_reducible refine condK_split _ (fun h=>?_) (fun h=>?_) <;> simp only [go_sem,simprocAttr,h,List.length_map])
  | (with_reducible refine acall_pure (r0) ?_; simp only [go_sem,simprocAttr,List.length_map])
  | (refine drw_same ?_; simp only [go_sem,simprocAttr,List.length_map])
  | (refine And.intro (by (try simp only [maxLe,LL]); omega) ?_; try simp only [go_sem,simprocAttr,List.length_map])
  | (intro _)
 have hfl:∀ x,(((as'.take x).map ArmD.kf).map armF).flatten.length<=((as'.map ArmD.kf).map armF).flatten.length:=fun x=>by
  have h:=List.take_append_drop x as'
  have h2:((as'.map ArmD.kf).map armF).flatten=(((as'.take x).map ArmD.kf).map armF).flatten++(((as'.drop x).map ArmD.kf).map armF).flatten:=by
   rw [<- List.flatten_append,<- List.map_append,<- List.map_append,h]
  rw [h2,List.length_append]; omega
 refine ⟨Nat × List AO,[2,4,67,68,69],fun x st=>(x.1<=as'.length/\∃ G,x.2=H++G)/\st=⟨[(2,.p (.s [])),(4,.p (.s ([109,97,116,99,104,32]++(s0++([32,119,105,116,104]++(((as'.take x.1).map ArmD.kf).map armF).flatten))))),(67,.p (.l (as'.map ArmD.cells))),(68,.p (.i .i64 as'.length)),(69,.p (.i .i64 x.1))],[],x.2⟩,fun x=>as'.length - x.1,⟨(0,H++[.var [.p (.i .i64 13),.p (.s n),.p (.i .i64 u),.p (.s t),.p (.i .i64 p),.p (.l [c0.cells]),.p (.l (as'.map ArmD.cells))]]),?_⟩,?_⟩
 ·simp only [go_sem,simprocAttr]
  exact ⟨⟨Nat.zero_le _,_,rfl⟩,by simp⟩
 rintro ⟨y,Z⟩ _ ⟨⟨hy,hZ⟩,rfl⟩
 simp only at hy hZ
 have hTZ:∀ A,Tb (Z++A):=fun A=>by obtain ⟨G,rfl⟩:=hZ; exact (hT.ext G).ext A
 have hZ':∀ A,∃ G,Z++A=H++G:=fun A=>by obtain ⟨G,rfl⟩:=hZ; exact ⟨G++A,by simp⟩
 have f0:=hfl y
 by_cases hlt:y<as'.length
 ·have d2:decide ((y:Int)<(as'.length:Int))=true:=by simp; omega
  have hlt':(y:Int)<(as'.length:Int):=by omega
  have hg:(as'.map ArmD.cells)[y]?=some (ArmD.cells as'[y]):=by simp [hlt]
  have hc:∀ q e,as'[y]=ArmD.mk q e->PatFmC q/\ExpFmC e:=fun q e he=>ha q e (by rw [<- he]; exact List.getElem_mem hlt)
  have ht:(((as'.take (y+1)).map ArmD.kf).map armF).flatten=(((as'.take y).map ArmD.kf).map armF).flatten++armF as'[y].kf:=by rw [List.take_succ_eq_append_getElem hlt]; simp only [List.map_append,List.flatten_append,List.map_cons,List.map_nil,List.flatten_cons,List.flatten_nil,List.append_nil]
  have f1:=hfl (y+1)
  rw [ht,List.length_append] at f1
  generalize as'[y]=c at hg hc ht f1
  obtain ⟨q,e⟩:=c
  obtain ⟨h1,h2⟩:=hc _ _ rfl
  have h1:=h1 0
  have h2:=h2 0
  simp only [ArmD.kf,armF] at ht f1
  rw [List.length_append,List.length_append,List.length_append] at f1
  generalize q.kf.at 0=sq at h1 ht f1
  generalize e.kf.at 0=se at h2 ht f1
  obtain ⟨qk,qn,qu,qp,qks⟩:=q
  obtain ⟨ck,cn,cu,ct,cp,cks,cas⟩:=e
  simp only [armC,PatD.cells,ExpD.cells,avC,List.map_cons,List.map_nil,List.cons_append,List.nil_append] at hg h1 h2
  generalize (((as'.take y).map ArmD.kf).map armF).flatten=fl at *
  simp only [go_sem,simprocAttr,d2,hlt',hg,List.length_map]
  repeat' first
   | (with_reducible refine condK_split _ (fun h=>?_) (fun h=>?_) <;> simp only [go_sem,simprocAttr,h,wrN y (by omega)])
   | (with_reducible refine pcall_pure (fun A=>h1 _ (by decide) (by rw [List.append_assoc]; exact hTZ _)) (Hext.refl _) ?_; simp only [go_sem,simprocAttr,wrN y (by omega)])
   | (with_reducible refine pcall_pure (fun A=>h2 _ (by decide) (by rw [List.append_assoc]; exact hTZ _)) (Hext.refl _) ?_; simp only [go_sem,simprocAttr,wrN y (by omega)])
   | (refine drw_same ?_; simp only [go_sem,simprocAttr,wrN y (by omega)])
   | (refine And.intro (by (try simp only [maxLe,LL]); omega) ?_; try simp only [go_sem,simprocAttr,wrN y (by omega)])
   | (intro _)
  refine ⟨(y+1,_),⟨⟨by omega,hZ' [AO.var [.p (.i .i64 qk),.p (.s qn),.p (.i .i64 qu),.p (.i .i64 qp),.p (.l (PatD.cellsL qks)),.p (.i .i64 ck),.p (.s cn),.p (.i .i64 cu),.p (.s ct),.p (.i .i64 cp),.p (.l (ExpD.cellsL cks)),.p (.l (ExpD.cellsA cas))]]⟩,?_⟩,by simp only; omega⟩
  simp only [ht,List.append_assoc,List.cons_append,List.nil_append]
 ·have d2:decide ((y:Int)<(as'.length:Int))=false:=by simp; omega
  rw [List.take_of_length_le (by omega)]
  simp only [go_sem,simprocAttr,d2]
  repeat' first
   | (with_reducible refine condK_split _ (fun h=>?_) (fun h=>?_) <;> simp only [go_sem,simprocAttr,h])
   | (refine drw_same ?_; simp only [go_sem,simprocAttr])
   | (refine And.intro (by (try simp only [maxLe,LL]); omega) ?_; try simp only [go_sem,simprocAttr])
   | (intro _)
  first | exact hZ | exact ⟨s2 (by simp),hZ⟩
theorem opL_le (n:List UInt8):(opL n).2.1<=6/\(opL n).2.2<=6:=by unfold opL; (repeat' split) <;> simp
theorem arity_cases (n:List UInt8):arity n=0\/arity n=1\/arity n = -1:=by unfold arity; (repeat' split) <;> simp
theorem kf_b (k:Int) (n:List UInt8) (u:Int) (t:List UInt8) (p:Int) (ks:List ExpD) (as':List ArmD):(ExpD.mk k n u t p ks as').kf.b=(decide (k=6) && decide ((ks.length:Int)=0)):=by
 rw [ExpD.kf,ExpD.kfL_eq]
 by_cases h6:k=6
 ·subst h6
  by_cases hl:ks.length=0
  ·simp [expG,hl]
  ·have:¬ (ks.length:Int)=0:=by omega
   simp only [expG,List.length_map,if_neg hl,decide_eq_false this]
   rfl
 ·have hb:∀ {c:Prop} [Decidable c] {x y:KF},x.b=false->y.b=false->(if c then x else y).b=false:=fun h1 h2=>by split <;> assumption
  rw [decide_eq_false h6,Bool.false_and,expG]
  repeat' refine hb ?_ ?_
  all_goals first | rfl | exact decide_eq_false h6
theorem kf_bare {k:Int} {n:List UInt8} {u:Int} {t:List UInt8} {p:Int} {ks:List ExpD} {as':List ArmD} (h:(ExpD.mk k n u t p ks as').kf.b=true):(ExpD.mk k n u t p ks as').kf.at 7=40 :: ((ExpD.mk k n u t p ks as').kf.at 5++[41]):=by
 rw [kf_b,Bool.and_eq_true,decide_eq_true_eq,decide_eq_true_eq] at h
 obtain ⟨rfl,hl⟩:=h
 obtain rfl:=len0 hl
 simp [ExpD.kf,ExpD.kfL,expG,KF.at,rnd]
theorem exp_fmC (k:Int) (n:List UInt8) (u:Int) (t:List UInt8) (p:Int) (ks:List ExpD) (as':List ArmD) (hok:(ExpD.mk k n u t p ks as').okB=true) (hfit:(ExpD.mk k n u t p ks as').fit) (hsz:n.length+t.length+ExpD.szL ks+ExpD.szA as'<=1073741824)
  (hk:∀ x∈ks,ExpFmC x) (harm:∀ q e,ArmD.mk q e∈as'->PatFmC q/\ExpFmC e):ExpFmC (.mk k n u t p ks as'):=by
 intro a H ha hT
 have hop:=openC k n u t p ks as' hok hfit hsz hk harm
 have hkl:=ExpD.kf_len _ hfit
 refine acall_drop1 ?_ (tf_p _)
 refine call24 (by simp) ?_
 rw [ExpD.fit] at hfit
 have hW:=ExpD.kfL_len ks hfit.2.1
 have hu:=hfit.1
 have hLen:ks.length<=1073741824:=by have:=sumSz_len ExpD.sz ks; rw [<- ExpD.szL_eq] at this; omega
 have hF:∀ z,z<=6->FormC 24 (fun x:ExpD=>avC x.cells) (fun x=>x.kf.at z) ks z:=fun z hz x hx H hT=>hk x hx z H hz hT
 have hj:∀ (sep:List UInt8),sep.length<=10->∀ z,(joinD sep (ks.map fun x=>x.kf.at z)).length<=200000000000:=fun sep hs z=>by
  have:=joinK_len sep hs z (ExpD.kfL ks)
  rw [ExpD.kfL_eq,List.map_map] at this
  rw [ExpD.kfL_eq] at hW
  exact Nat.le_trans this (by omega)
 rw [ExpD.okB,expH] at hok
 simp only [Bool.and_eq_true] at hok
 have hok1:=hok.1.1
 clear hok hfit
 by_cases h1:k=1
 ·subst h1
  have e:(ExpD.mk 1 n u t p ks as').kf.at a=decZ u:=by simp [ExpD.kf,expG,KF.at,rnd]; omega
  rw [e]
  have h0:0<=u:=by simp at hok1; exact hok1.2.2.1
  simp only [go_sem,simprocAttr,mc24,mr24,ExpD.cells,ExpD.cellsL_eq,ExpD.cellsA_eq,avC,List.length_map]
  refine acall_pure (itoaC (hT.ext _) h0 hu) ?_
  simp only [go_sem,simprocAttr]
  exact ⟨_,rfl⟩
 by_cases h2:k=2
 ·subst h2
  have e:(ExpD.mk 2 n u t p ks as').kf.at a=quoD t:=by simp [ExpD.kf,expG,KF.at,rnd]; omega
  rw [e]
  simp only [go_sem,simprocAttr,mc24,mr24,ExpD.cells,ExpD.cellsL_eq,ExpD.cellsA_eq,avC,List.length_map]
  repeat' first
   | (with_reducible refine condK_split _ (fun h=>?_) (fun h=>?_) <;> simp only [go_sem,simprocAttr,h])
   | (with_reducible refine acall_pure (quotedC (by omega) _) ?_; simp only [go_sem,simprocAttr])
   | (refine drw_same ?_; simp only [go_sem,simprocAttr])
   | (refine And.intro (by (try simp only [maxLe,LL]); omega) ?_; try simp only [go_sem,simprocAttr])
   | (intro _)
  all_goals exact ⟨_,rfl⟩
 by_cases h3:k=3
 ·subst h3
  have e:(ExpD.mk 3 n u t p ks as').kf.at a=boolW u:=by simp [ExpD.kf,expG,KF.at,rnd]; omega
  rw [e]
  simp only [go_sem,simprocAttr,mc24,mr24,ExpD.cells,ExpD.cellsL_eq,ExpD.cellsA_eq,avC,List.length_map]
  repeat' first
   | (with_reducible refine condK_split _ (fun h=>?_) (fun h=>?_) <;> simp only [go_sem,simprocAttr,h])
   | (with_reducible refine acall_pure (boolC _ _) ?_; simp only [go_sem,simprocAttr])
   | (refine drw_same ?_; simp only [go_sem,simprocAttr])
   | (refine And.intro (by (try simp only [maxLe,LL]); omega) ?_; try simp only [go_sem,simprocAttr])
   | (intro _)
  all_goals exact ⟨_,rfl⟩
 by_cases h4:k=4
 ·subst h4
  have e:(ExpD.mk 4 n u t p ks as').kf.at a=[40,41]:=by simp [ExpD.kf,expG,KF.at,rnd]; omega
  rw [e]
  simp only [go_sem,simprocAttr,mc24,mr24,ExpD.cells,ExpD.cellsL_eq,ExpD.cellsA_eq,avC,List.length_map]
  repeat' first
   | (with_reducible refine condK_split _ (fun h=>?_) (fun h=>?_) <;> simp only [go_sem,simprocAttr,h])
   | (refine drw_same ?_; simp only [go_sem,simprocAttr])
   | (refine And.intro (by (try simp only [maxLe,LL]); omega) ?_; try simp only [go_sem,simprocAttr])
   | (intro _)
  all_goals exact ⟨_,rfl⟩
 by_cases h5:k=5
 ·subst h5
  have e:(ExpD.mk 5 n u t p ks as').kf.at a=n:=by simp [ExpD.kf,expG,KF.at,rnd]; omega
  rw [e]
  simp only [go_sem,simprocAttr,mc24,mr24,ExpD.cells,ExpD.cellsL_eq,ExpD.cellsA_eq,avC,List.length_map]
  repeat' first
   | (with_reducible refine condK_split _ (fun h=>?_) (fun h=>?_) <;> simp only [go_sem,simprocAttr,h])
   | (refine drw_same ?_; simp only [go_sem,simprocAttr])
   | (refine And.intro (by (try simp only [maxLe,LL]); omega) ?_; try simp only [go_sem,simprocAttr])
   | (intro _)
  all_goals exact ⟨_,rfl⟩
 by_cases h7:k=7
 ·subst h7
  have e:(ExpD.mk 7 n u t p ks as').kf.at a=40 :: (joinD [44,32] (ks.map fun x=>x.kf.at 0)++[41]):=by simp [ExpD.kf,ExpD.kfL_eq,expG,KF.at,rnd,Function.comp_def]; omega
  rw [e]
  have hj2:=hj [44,32] (by decide) 0
  have hfm:=fun H (hT:Tb H)=>formsExpC (hF 0 (by decide)) (sep:=[44,32]) (by decide) hLen (by omega) hT
  clear e
  generalize joinD [44,32] (ks.map fun x=>x.kf.at 0)=sj at hj2 hfm
  simp only [go_sem,simprocAttr,mc24,mr24,ExpD.cells,ExpD.cellsL_eq,ExpD.cellsA_eq,avC,List.length_map]
  repeat' first
   | (with_reducible refine condK_split _ (fun h=>?_) (fun h=>?_) <;> simp only [go_sem,simprocAttr,h])
   | (with_reducible refine acall_pure (hfm _ (hT.ext _)) ?_; simp only [go_sem,simprocAttr])
   | (refine drw_same ?_; simp only [go_sem,simprocAttr])
   | (refine And.intro (by (try simp only [maxLe,LL]); omega) ?_; try simp only [go_sem,simprocAttr])
   | (intro _)
  all_goals first | exact ⟨s2 (by simp),_,rfl⟩ | exact ⟨_,rfl⟩
 by_cases h14:k=14
 ·subst h14
  obtain ⟨c0,c1,rfl⟩:=len2 (l:=ks) (by simpa using (by simpa using hok1:_/\_).1)
  simp only [ExpD.kfL,wK,ExpD.szL] at hW
  simp only [ExpD.szL] at hsz
  obtain ⟨o1,o2⟩:=opL_le n
  have a0:=(at_len c0.kf (opL n).2.1).1
  have a1:=(at_len c1.kf (opL n).2.2).1
  have g0:=hk c0 (by simp) (opL n).2.1
  have g1:=hk c1 (by simp) (opL n).2.2
  have e:(ExpD.mk 14 n u t p [c0,c1] as').kf.at a=rnd (c0.kf.at (opL n).2.1++(32 :: (n++(32 :: c1.kf.at (opL n).2.2)))) (opL n).1 a:=by simp [ExpD.kf,ExpD.kfL,expG,KF.at]
  rw [e]
  clear e hop hkl hF hj
  have hlv:=levelsC n
  generalize c0.kf.at (opL n).2.1=s0 at *
  generalize c1.kf.at (opL n).2.2=s1 at *
  generalize (opL n).2.1=l1 at *
  generalize (opL n).2.2=l2 at *
  generalize (opL n).1=l0 at *
  obtain ⟨k0,n0,u0,t0,p0,q0,r0⟩:=c0
  obtain ⟨k1,n1,u1,t1,p1,q1,r1⟩:=c1
  simp only [ExpD.cells,avC,List.map_cons,List.map_nil,ExpD.cellsA_eq] at g0 g1
  simp only [go_sem,simprocAttr,mc24,mr24,ExpD.cells,ExpD.cellsL,ExpD.cellsA_eq,avC,List.length_map]
  repeat' first
   | (with_reducible refine condK_split _ (fun h=>?_) (fun h=>?_) <;> simp only [go_sem,simprocAttr,h])
   | (with_reducible refine acall_pure (hlv _) ?_; simp only [go_sem,simprocAttr])
   | (with_reducible refine pcall_pure (fun A=>g0 _ (by omega) ((hT.ext _).ext _)) (Hext.refl _) ?_; simp only [go_sem,simprocAttr])
   | (with_reducible refine pcall_pure (fun A=>g1 _ (by omega) ((hT.ext _).ext _)) (Hext.refl _) ?_; simp only [go_sem,simprocAttr])
   | (with_reducible refine acall_pure (roundC (by simp only [List.length_append,List.length_cons,List.length_nil]; omega) _ _ _) ?_; simp only [go_sem,simprocAttr])
   | (refine drw_same ?_; simp only [go_sem,simprocAttr])
   | (refine And.intro (by (try simp only [maxLe,LL]); omega) ?_; try simp only [go_sem,simprocAttr])
   | (intro _)
  all_goals first | exact ⟨s2 (by simp),_,rfl⟩ | exact ⟨_,rfl⟩
 by_cases h6:k=6
 ·subst h6
  by_cases hl:(ks.length:Int)=0
  ·obtain rfl:=len0 hl
   have e:(ExpD.mk 6 n u t p [] as').kf.at a=n:=by simp [ExpD.kf,ExpD.kfL,expG,KF.at,rnd]; omega
   rw [e]
   simp only [go_sem,simprocAttr,mc24,mr24,ExpD.cells,ExpD.cellsL_eq,ExpD.cellsA_eq,avC,List.length_map]
   repeat' first
    | (with_reducible refine condK_split _ (fun h=>?_) (fun h=>?_) <;> simp only [go_sem,simprocAttr,h])
    | (refine drw_same ?_; simp only [go_sem,simprocAttr])
    | (refine And.intro (by (try simp only [maxLe,LL]); omega) ?_; try simp only [go_sem,simprocAttr])
    | (intro _)
   all_goals exact ⟨_,rfl⟩
  ·obtain ⟨c0,rfl⟩:=len1 (l:=ks) (by simp at hok1 hl; have:=hok1.1; have:=List.length_pos_iff.2 hl; omega)
   have g0:=hk c0 (by simp) 6
   simp only [ExpD.kfL,wK,ExpD.szL] at hW
   simp only [ExpD.szL] at hsz
   have a0:=(at_len c0.kf 6).1
   have e:(ExpD.mk 6 n u t p [c0] as').kf.at a=rnd (n++(32 :: c0.kf.at 6)) 5 a:=by simp [ExpD.kf,ExpD.kfL,expG,KF.at]
   rw [e]
   clear e hop hkl hF hj
   generalize c0.kf.at 6=s0 at *
   obtain ⟨k0,n0,u0,t0,p0,q0,r0⟩:=c0
   simp only [ExpD.cells,avC,List.map_cons,List.map_nil,ExpD.cellsA_eq] at g0
   simp only [go_sem,simprocAttr,mc24,mr24,ExpD.cells,ExpD.cellsL,ExpD.cellsA_eq,avC,List.length_map]
   repeat' first
    | (with_reducible refine condK_split _ (fun h=>?_) (fun h=>?_) <;> simp only [go_sem,simprocAttr,h])
    | (with_reducible refine pcall_pure (fun A=>g0 _ (by decide) ((hT.ext _).ext _)) (Hext.refl _) ?_; simp only [go_sem,simprocAttr])
    | (with_reducible refine acall_pure (roundC (by simp only [List.length_append,List.length_cons,List.length_nil]; omega) _ _ _) ?_; simp only [go_sem,simprocAttr])
    | (refine drw_same ?_; simp only [go_sem,simprocAttr])
    | (refine And.intro (by (try simp only [maxLe,LL]); omega) ?_; try simp only [go_sem,simprocAttr])
    | (intro _)
   all_goals first | exact ⟨s2 (by simp),_,rfl⟩ | exact ⟨_,rfl⟩
 by_cases h15:k=15
 ·subst h15
  by_cases hl:(ks.length:Int)=0
  ·obtain rfl:=len0 hl
   have e:(ExpD.mk 15 n u t p [] as').kf.at a=n:=by simp [ExpD.kf,ExpD.kfL,expG,KF.at,rnd]; omega
   rw [e]
   simp only [go_sem,simprocAttr,mc24,mr24,ExpD.cells,ExpD.cellsL_eq,ExpD.cellsA_eq,avC,List.length_map]
   repeat' first
    | (with_reducible refine condK_split _ (fun h=>?_) (fun h=>?_) <;> simp only [go_sem,simprocAttr,h])
    | (refine drw_same ?_; simp only [go_sem,simprocAttr])
    | (refine And.intro (by (try simp only [maxLe,LL]); omega) ?_; try simp only [go_sem,simprocAttr])
    | (intro _)
   all_goals exact ⟨_,rfl⟩
  ·obtain ⟨c0,rfl⟩:=len1 (l:=ks) (by have h1:(ks.length:Int)=arity n:=(by simp at hok1; exact hok1.1); rcases arity_cases n with h | h | h <;> omega)
   have g0:=hk c0 (by simp) 6
   simp only [ExpD.kfL,wK,ExpD.szL] at hW
   simp only [ExpD.szL] at hsz
   have a0:=(at_len c0.kf 6).1
   have e:(ExpD.mk 15 n u t p [c0] as').kf.at a=rnd (n++(32 :: c0.kf.at 6)) 5 a:=by simp [ExpD.kf,ExpD.kfL,expG,KF.at]
   rw [e]
   clear e hop hkl hF hj
   generalize c0.kf.at 6=s0 at *
   obtain ⟨k0,n0,u0,t0,p0,q0,r0⟩:=c0
   simp only [ExpD.cells,avC,List.map_cons,List.map_nil,ExpD.cellsA_eq] at g0
   simp only [go_sem,simprocAttr,mc24,mr24,ExpD.cells,ExpD.cellsL,ExpD.cellsA_eq,avC,List.length_map]
   repeat' first
    | (with_reducible refine condK_split _ (fun h=>?_) (fun h=>?_) <;> simp only [go_sem,simprocAttr,h])
    | (with_reducible refine pcall_pure (fun A=>g0 _ (by decide) ((hT.ext _).ext _)) (Hext.refl _) ?_; simp only [go_sem,simprocAttr])
    | (with_reducible refine acall_pure (roundC (by simp only [List.length_append,List.length_cons,List.length_nil]; omega) _ _ _) ?_; simp only [go_sem,simprocAttr])
    | (refine drw_same ?_; simp only [go_sem,simprocAttr])
    | (refine And.intro (by (try simp only [maxLe,LL]); omega) ?_; try simp only [go_sem,simprocAttr])
    | (intro _)
   all_goals first | exact ⟨s2 (by simp),_,rfl⟩ | exact ⟨_,rfl⟩
 by_cases h9:k=9
 ·subst h9
  obtain ⟨c0,c1,rfl⟩:=len2 (l:=ks) (by simpa using (by simpa using hok1:_/\_).1)
  simp only [ExpD.kfL,wK,ExpD.szL] at hW
  simp only [ExpD.szL] at hsz
  have a0:=(at_len c0.kf 5).1
  have a1:=(at_len c1.kf 6).1
  have g0:=hk c0 (by simp) 5
  have g1:=hk c1 (by simp) 6
  have e:(ExpD.mk 9 n u t p [c0,c1] as').kf.at a=rnd (c0.kf.at (if c0.kf.b then 7 else 5)++(32 :: c1.kf.at 6)) 5 a:=by simp [ExpD.kf,ExpD.kfL,expG,KF.at]
  rw [e]
  clear e hop hkl hF hj
  obtain ⟨k0,n0,u0,t0,p0,q0,r0⟩:=c0
  obtain ⟨k1,n1,u1,t1,p1,q1,r1⟩:=c1
  have hb:=@kf_bare k0 n0 u0 t0 p0 q0 r0
  have hb2:=kf_b k0 n0 u0 t0 p0 q0 r0
  generalize (ExpD.mk k0 n0 u0 t0 p0 q0 r0).kf=f0 at *
  generalize (ExpD.mk k1 n1 u1 t1 p1 q1 r1).kf.at 6=s1 at *
  simp only [ExpD.cells,avC,List.map_cons,List.map_nil,ExpD.cellsL_eq,ExpD.cellsA_eq] at g0 g1
  simp only [go_sem,simprocAttr,mc24,mr24,ExpD.cells,ExpD.cellsL_eq,ExpD.cellsA_eq,avC,List.length_map]
  repeat' first
   | (with_reducible refine condK_split _ (fun h=>?_) (fun h=>?_) <;> simp only [go_sem,simprocAttr,h,List.length_map])
   | (with_reducible refine acall_pure (g0 _ (by decide) (hT.ext _)) ?_; simp only [go_sem,simprocAttr,List.length_map])
   | (with_reducible refine acall_pure (g1 _ (by decide) (hT.ext _)) ?_; simp only [go_sem,simprocAttr,List.length_map])
   | (with_reducible refine acall_pure (roundC (by simp only [List.length_append,List.length_cons,List.length_nil]; omega) _ _ _) ?_; simp only [go_sem,simprocAttr,List.length_map])
   | (refine drw_same ?_; simp only [go_sem,simprocAttr,List.length_map])
   | (refine And.intro (by (try simp only [maxLe,LL]); omega) ?_; try simp only [go_sem,simprocAttr,List.length_map])
   | (intro _)
  all_goals refine ⟨s2 ?_,_,rfl⟩
  ·rename_i h01 _
   have hbt:f0.b=true:=by rw [hb2,h01,h]; rfl
   rw [if_pos hbt,hb hbt]
   simp
  ·have hbf:f0.b=false:=by rw [hb2,h,Bool.and_false]
   rw [hbf]; rfl
  ·have hbf:f0.b=false:=by rw [hb2,h,Bool.false_and]
   rw [hbf]; rfl
 have hkk:k=8\/k=10\/k=11\/k=12\/k=13:=by
  rw [if_neg h1,if_neg h2,if_neg h3,if_neg h4,if_neg h5,if_neg h6,if_neg h7] at hok1
  by_cases h8:k=8
  ·exact .inl h8
  by_cases h10:k=10
  ·exact .inr (.inl h10)
  by_cases h11:k=11
  ·exact .inr (.inr (.inl h11))
  by_cases h12:k=12
  ·exact .inr (.inr (.inr (.inl h12)))
  by_cases h13:k=13
  ·exact .inr (.inr (.inr (.inr h13)))
  rw [if_neg h8,if_neg h9,if_neg h10,if_neg h11,if_neg h12,if_neg h13,if_neg h14,if_neg h15] at hok1
  cases hok1
 have hop:=hop hkk
 have e:(ExpD.mk k n u t p ks as').kf.at a=rnd (ExpD.mk k n u t p ks as').kf.f 0 a:=by
  rw [KF.at]
  congr 1
  rw [ExpD.kf,expG]
  rcases hkk with rfl | rfl | rfl | rfl | rfl <;> rfl
 rw [e]
 clear e
 rw [ExpD.sz] at hkl
 generalize (ExpD.mk k n u t p ks as').kf.f=s at *
 simp only [ExpD.cells,avC,List.map_cons,List.map_nil,ExpD.cellsL_eq,ExpD.cellsA_eq] at hop
 have d1:decide (k=1)=false:=decide_eq_false h1
 have d2:decide (k=2)=false:=decide_eq_false h2
 have d3:decide (k=3)=false:=decide_eq_false h3
 have d4:decide (k=4)=false:=decide_eq_false h4
 have d5:decide (k=5)=false:=decide_eq_false h5
 have d6:decide (k=6)=false:=decide_eq_false h6
 have d7:decide (k=7)=false:=decide_eq_false h7
 have d9:decide (k=9)=false:=decide_eq_false h9
 have d14:decide (k=14)=false:=decide_eq_false h14
 have d15:decide (k=15)=false:=decide_eq_false h15
 simp only [go_sem,simprocAttr,mc24,mr24,ExpD.cells,ExpD.cellsL_eq,ExpD.cellsA_eq,avC,List.length_map,d1,d2,d3,d4,d5,d6,d7,d9,d14,d15]
 repeat' first
  | (with_reducible refine condK_split _ (fun h=>?_) (fun h=>?_) <;> simp only [go_sem,simprocAttr,h])
  | (with_reducible refine acall_pure (hop _ (hT.ext _)) ?_; simp only [go_sem,simprocAttr])
  | (with_reducible refine acall_pure (roundC (by omega) _ _ _) ?_; simp only [go_sem,simprocAttr])
  | (refine drw_same ?_; simp only [go_sem,simprocAttr])
  | (refine And.intro (by (try simp only [maxLe,LL]); omega) ?_; try simp only [go_sem,simprocAttr])
  | (intro _)
 all_goals exact ⟨_,rfl⟩
theorem expFmC (p : ExpD) (h : p.sz ≤ 1073741824) (hok : p.okB = true) (hf : p.fit) : ExpFmC p := by
  have : ∀ (m : Nat) (p : ExpD), p.sz < m → p.sz ≤ 1073741824 → p.okB = true → p.fit → ExpFmC p := by
    intro m
    induction m with
    | zero => intro p h; omega
    | succ m ih =>
      intro p h h2 hok hf
      obtain ⟨k, n, u, t, q, ks, as'⟩ := p
      rw [ExpD.sz] at h h2
      have hok2 := hok
      have hf2 := hf
      rw [ExpD.okB, ExpD.okL_eq, ExpD.okA_eq, Bool.and_eq_true, Bool.and_eq_true, List.all_eq_true, List.all_eq_true] at hok
      rw [ExpD.fit] at hf
      refine exp_fmC _ _ _ _ _ _ _ hok2 hf2 h2 (fun a ha => ?_) fun q e ha => ?_
      · rw [ExpD.szL_eq] at h h2
        have := sumSz_mem ExpD.sz ha
        exact ih a (by omega) (by omega) (hok.2.1 a ha) (ExpD.fitL_mem hf.2.1 ha)
      · rw [ExpD.szA_eq] at h h2
        have := sumSz_mem ArmD.sz ha
        rw [ArmD.sz] at this
        have h3 := hok.2.2 _ ha
        rw [ArmD.okB, Bool.and_eq_true] at h3
        have h4 := ExpD.fitA_mem hf.2.2 ha
        rw [ArmD.fit] at h4
        exact ⟨patFmC q (by omega) h3.1 h4.1, ih e (by omega) (by omega) h3.2 h4.2⟩
  exact this _ p (Nat.lt_succ_self _) h hok hf
end Go.Proofs.YteilijfligofdaaGreatDoor.Qp
namespace Go.Proofs.YteilijfligofdaaGreatDoor.Pg
open Go.AM Mc Qp
theorem parsed1_rt {e:ExpD} (h:e.okB=true) (hf:e.fit):(parsed1 (e.kf.at 0)).2.1=0/\(parsed1 (e.kf.at 0)).1.er=e.er\/(parsed1 (e.kf.at 0)).2.1=12\/(parsed1 (e.kf.at 0)).2.1=5:=by
 unfold parsed1
 rcases one_rt h hf with ⟨p,hp⟩ | ⟨T,hT,⟨y,h1,h2⟩ | ⟨q,h2⟩⟩
 ·rw [hp]; exact .inr (.inr rfl)
 ·rw [hT]; simp only [h2]; exact .inl ⟨trivial,h1⟩
 ·rw [hT]; simp only [h2]; exact .inr (.inl trivial)
mutual
theorem PatD.cnt_le:∀ t:PatD,t.cnt<=2 * t.sz+1
 | .mk k n u p ks=>by have:=PatD.cntL_le ks; rw [PatD.cnt,PatD.sz]; omega
theorem PatD.cntL_le:∀ l:List PatD,PatD.cntL l<=2 * PatD.szL l
 | []=>Nat.zero_le _
 | t :: l=>by have:=t.cnt_le; have:=PatD.cntL_le l; rw [PatD.cntL,PatD.szL]; omega
end
mutual
theorem ExpD.cnt_le:∀ t:ExpD,t.cnt<=2 * t.sz+1
 | .mk k n u t p ks as'=>by have:=ExpD.cntL_le ks; have:=ExpD.cntA_le as'; rw [ExpD.cnt,ExpD.sz]; omega
theorem ExpD.cntL_le:∀ l:List ExpD,ExpD.cntL l<=2 * ExpD.szL l
 | []=>Nat.zero_le _
 | t :: l=>by have:=t.cnt_le; have:=ExpD.cntL_le l; rw [ExpD.cntL,ExpD.szL]; omega
theorem ArmD.cnt_le:∀ t:ArmD,t.cnt<=2 * t.sz+2
 | .mk p e=>by have:=p.cnt_le; have:=e.cnt_le; rw [ArmD.cnt,ArmD.sz]; omega
theorem ExpD.cntA_le:∀ l:List ArmD,ExpD.cntA l<=2 * ExpD.szA l
 | []=>Nat.zero_le _
 | t :: l=>by have:=t.cnt_le; have:=ExpD.cntA_le l; rw [ExpD.cntA,ExpD.szA]; omega
end
theorem bigC (b:List Int) (H:List AO):ACall Tryz.prog 5 [.p (.l (byts b))] H (pureQ (.p (.b (decide (1048576<(b.length:Int))))) H):=by
 refine acall_drop1 ?_ (tf_p _)
 refine call5 (by simp) ?_
 simp only [go_sem,simprocAttr,mc5,mr5,byts_len]
 exact fun _=>⟨[],by simp⟩
def prE (e:ExpD):List UInt8:=if e.okB then e.kf.at 0 else []
theorem printExpC (e:ExpD) (h:e.sz<=1073741824) (hf:e.fit) {H:List AO} (hT:Tb H):ACall Tryz.prog 7 [avC e.cells] H (pureQ (.p (.s (prE e))) H):=by
 have hok:=expOkC e h
 have hfm:=expFmC e h
 unfold prE
 refine acall_drop1 ?_ (tf_p _)
 refine call7 (by simp) ?_
 unfold ExpOkC at hok
 unfold ExpFmC at hfm
 have hT2:=hT.ext
 generalize hb:e.okB=b at hok ⊢
 cases b
 ·generalize e.kf=kf at *
  obtain ⟨k,n,u,t,p,ks,as'⟩:=e
  simp only [go_sem,simprocAttr,mc7,mr7,ExpD.cells,avC]
  refine acall_pure (hok _) ?_
  simp only [go_sem,simprocAttr,Bool.false_eq_true]
  exact ⟨_,rfl⟩
 ·have hfm:=hfm hb hf
  generalize e.kf=kf at *
  obtain ⟨k,n,u,t,p,ks,as'⟩:=e
  simp only [go_sem,simprocAttr,mc7,mr7,ExpD.cells,avC]
  refine acall_pure (hok _) ?_
  simp only [go_sem,simprocAttr]
  refine acall_pure (hfm 0 _ (by decide) (hT2 _)) ?_
  simp only [go_sem,simprocAttr]
  exact ⟨_,rfl⟩
theorem lawExp (b:List Int) {H:List AO} (hg:Rg H) (hT:Tb H):ACall Tryz.prog 3 [.p (.l (byts b))] H (fun r _=>r=.p (.b true)):=by
 refine call3 (by simp) ?_
 by_cases hb:b.length<=1048576
 rotate_left
 ·have d1:decide ((1048576:Int)<(b.length:Int))=true:=by simp; omega
  simp only [go_sem,simprocAttr,mc3,mr3]
  refine acall_pure (bigC b _) ?_
  simp only [go_sem,simprocAttr,d1]
 have d1:decide ((1048576:Int)<(b.length:Int))=false:=by simp; omega
 simp only [go_sem,simprocAttr,mc3,mr3]
 refine acall_pure (bigC b _) ?_
 simp only [go_sem,simprocAttr,d1]
 refine acall_pure (drawEC hb _) ?_
 obtain ⟨f1,f2⟩:=drawE_ok b
 generalize drawE b=e at f1 f2
 have hpr:=fun {H:List AO} (hT:Tb H)=>printExpC e (by omega) f1 hT
 have hok:=expOkSC e (by omega)
 have hok2:=expOkC e (by omega)
 have hlen:=e.kf_len f1
 have hlen2:=(at_len e.kf 0).1
 have hcnt:=e.cnt_le
 have hrt:=parsed1_rt (e:=e) (hf:=f1)
 have hsz:=expSizeC e (by omega)
 unfold ExpOkS at hok
 unfold ExpOkC at hok2
 generalize hE:e=e2 at *
 obtain ⟨k,n,u,t,p,ks,as'⟩:=e2
 simp only [go_sem,simprocAttr,ExpD.cells]
 refine acall_pure (hpr (hT.ext _)) ?_
 simp only [go_sem,simprocAttr]
 refine acall_pure (hok _) ?_
 unfold prE
 generalize hb2:ExpD.okB (.mk k n u t p ks as')=ob at *
 cases ob
 ·simp only [go_sem,simprocAttr,Bool.false_eq_true]
  refine acall_pure (hok2 _) ?_
  simp only [go_sem,simprocAttr]
 replace hrt:=hrt rfl
 have hcb:∀ x:ExpD,x.er=(ExpD.mk k n u t p ks as').er->x.cnt=(ExpD.mk k n u t p ks as').cnt:=fun x hx=>by rw [<- ExpD.cnt_er x,hx,ExpD.cnt_er]
 have hsm:=fun x hx=>sameBodyC (.mk k n u t p ks as') x hx
 have hsz2:=fun (x:ExpD) hx=>expSizeC x (by rw [hcb x hx]; omega)
 generalize hcn:(ExpD.mk k n u t p ks as').cnt=cn at *
 generalize (ExpD.mk k n u t p ks as').kf.at 0=s at *
 have hS:=fun (X:List AO)=>specParse1 (s:=s) (H:=X) (by omega)
 have hI:=fun (X:List AO) (hr:Rg X)=>implParse1P (s:=s) (H:=X) (by omega) hr
 simp only [if_true]
 generalize parsed1 s=R at *
 obtain ⟨⟨k2,n2,u2,t2,p2,ks2,as2⟩,c,q⟩:=R
 simp only at hrt
 simp only [go_sem,simprocAttr]
 refine acall_pure (hI _ (hg.ext _)) ?_
 simp only [go_sem,simprocAttr,ExpD.cells]
 refine acall_pure (hS _) ?_
 simp only [go_sem,simprocAttr,ExpD.cells]
 rcases hrt with ⟨rfl,hr⟩ | rfl | rfl
 ·simp only [go_sem,simprocAttr]
  refine drw_same ?_
  simp only [go_sem,simprocAttr]
  refine pcall_pure (fun _=>hsm _ hr.symm _) (Hext.refl _) ?_
  simp only [go_sem,simprocAttr]
  refine pcall_pure (fun _=>hsz _) (Hext.refl _) ?_
  simp only [go_sem,simprocAttr]
  refine acall_pure (hsz2 _ hr _) ?_
  rw [hcb _ hr]
  simp only [go_sem,simprocAttr,decide_true]
 all_goals simp only [go_sem,simprocAttr]
end Go.Proofs.YteilijfligofdaaGreatDoor.Pg