/- Texts QfG QfH QfI QfJ QfK QfL QfM QfN QfO QfP QfV QfW QfX QfY, merged. -/
import Derived.Test.YtghcmccjchdgeaaGreatDoorKCE
import Derived.Shelf.Strconv.Itoa3
import Derived.Shelf.Strings.OnBuilder
import Derived.Lib.LaidTab
set_option linter.all false
namespace Go.Proofs.YtghcmccjchdgeaaGreatDoor.Qp
open Go.AM Go.Shelf Mc Pg
def rhoJoin:Ren:=⟨fun x=>match x with | 156=>129 | 165=>183 | 166=>184 | 169=>185 | 240=>225 | 241=>226 | 276=>241 | 277=>242 | n=>n,fun x=>match x with | 31=>106 | 37=>146 | 70=>188 | 72=>190 | 75=>192 | 76=>193 | 127=>215 | 164=>226 | 80=>195 | n=>n,fun n=>n⟩
theorem laysJoin:Lays.n156 Tryz.prog rhoJoin where
 mixed:=by kernel_rfl
 f156:=Eq.trans Tryz.func129 (by kernel_rfl)
 f165:=Eq.trans Tryz.func183 (by kernel_rfl)
 f166:=Eq.trans Tryz.func184 (by kernel_rfl)
 f169:=Eq.trans Tryz.func185 (by kernel_rfl)
 f240:=Eq.trans Tryz.func225 (by kernel_rfl)
 f241:=Eq.trans Tryz.func226 (by kernel_rfl)
 f276:=Eq.trans Tryz.func241 (by kernel_rfl)
 f277:=Eq.trans Tryz.func242 (by kernel_rfl)
 t0:=Tryz.underlying0
 a0:=Tryz.isAgg0
 z0:=Tryz.sizeOf0
 v0:=Tryz.zeroValue0
 t3:=Tryz.underlying3
 a3:=Tryz.isAgg3
 z3:=Tryz.sizeOf3
 v3:=Tryz.zeroValue3
 t4:=Tryz.underlying4
 a4:=Tryz.isAgg4
 z4:=Tryz.sizeOf4
 v4:=Tryz.zeroValue4
 t9:=Tryz.underlying9
 a9:=Tryz.isAgg9
 z9:=Tryz.sizeOf9
 v9:=Tryz.zeroValue9
 t20:=Tryz.underlying20
 a20:=Tryz.isAgg20
 z20:=Tryz.sizeOf20
 v20:=Tryz.zeroValue20
 t31:=Tryz.underlying106
 a31:=Tryz.isAgg106
 z31:=Tryz.sizeOf106
 v31:=Tryz.zeroValue106
 t37:=Tryz.underlying146
 a37:=Tryz.isAgg146
 z37:=Tryz.sizeOf146
 v37:=Tryz.zeroValue146
 t70:=Tryz.underlying188
 a70:=Tryz.isAgg188
 z70:=Tryz.sizeOf188
 v70:=Tryz.zeroValue188
 t72:=Tryz.underlying190
 a72:=Tryz.isAgg190
 z72:=Tryz.sizeOf190
 v72:=Tryz.zeroValue190
 t75:=Tryz.underlying192
 a75:=Tryz.isAgg192
 z75:=Tryz.sizeOf192
 v75:=Tryz.zeroValue192
 t76:=Tryz.underlying193
 a76:=Tryz.isAgg193
 z76:=Tryz.sizeOf193
 v76:=Tryz.zeroValue193
 t127:=Tryz.underlying215
 a127:=Tryz.isAgg215
 z127:=Tryz.sizeOf215
 v127:=Tryz.zeroValue215
 t164:=Tryz.underlying226
 a164:=Tryz.isAgg226
 z164:=Tryz.sizeOf226
 v164:=Tryz.zeroValue226
theorem extraJoin:Builder.Extra Tryz.prog rhoJoin where
 sizeBuilder:=by kernel_rfl
 liesBuilder:=by kernel_rfl
 t5:=Tryz.underlying5
 a5:=Tryz.isAgg5
 z5:=Tryz.sizeOf5
 v5:=Tryz.zeroValue5
 infoByte:=by kernel_rfl
 cellsByte:=by kernel_rfl
 sizeByte:=by kernel_rfl
 neB5:=by decide
theorem laysItoa:LaysM.n171 Tryz.prog rhoAtoi:={ laysAtoi with }
def Tb (H:List AO):Prop:=∃ (i:Nat) (ty:TypeId) (fz:Nat × Nat),H[i]?=some (AO.tab 1 (.int .u64 1) (.cells (Lib.pow10Tab.map fun z=>Value.int .u64 z).toArray ty fz))
theorem Tb.ext {H:List AO} (h:Tb H) (A:List AO):Tb (H++A):=by
 obtain ⟨i,te,pe,h⟩:=h
 exact ⟨i,te,pe,get_ext h A⟩
theorem Tb.keep {H H':List AO} (h:Tb H) (k:∀ (j:Nat) o,H[j]?=some o->H'[j]?=some o):Tb H':=by
 obtain ⟨i,te,pe,h⟩:=h
 exact ⟨i,te,pe,k _ _ h⟩
theorem one_int {θ : Th} {W : Im} {k : IntKind} {n : Int} {vs : Array Value} (hr : Rels θ W [.p (.i k n)] vs) : vs = #[.int k n] := by
  obtain ⟨hr1, hr2⟩ := hr
  have hs : vs.toList.length = 1 := by simpa using hr1
  match hl : vs.toList, hs with
  | [a], _ =>
    have := hr2 0 _ a rfl (by rw [← Array.getElem?_toList, hl]; rfl)
    cases this.p_inv
    rw [← Array.toList_inj]; exact hl
theorem figs_eq (n : Nat) : figs n = Lib.decDigits n := by
  induction n using Nat.strongRecOn with
  | _ n ih =>
    rw [figs, Lib.decDigits]
    split
    · rfl
    · rw [ih (n / 10) (by omega)]
theorem figs20 {n:Nat} (h:n<=9223372036854775807):(figs n).length<=20:=figs_len 19 n (by omega)
theorem itoaC {n:Int} {H:List AO} (hT:Tb H) (h0:0<=n) (h1:n<=9223372036854775807):ACall Tryz.prog 130 [.p (.i .i64 n)] H (pureQ (.p (.s (decZ n))) H):=by
 refine acall_more ⟨_,Tryz.func130,rfl,rfl⟩ ?_
 intro w θ W vs hSR hr
 obtain rfl:=one_int hr
 obtain ⟨i,ty,fz,hi⟩:=hT
 have hW:=(hSR.obj i _ hi).2.1
 refine (Any.strconv_Itoa laysItoa n (by omega) h1 w ?_).mono ?_
 ·unfold Lib.TabIs World.var?
  rw [show Tryz.prog.globalNamed "internal/strconv.uint64pow10"=some 1 by kernel_rfl]
  simp only [Option.bind]
  rw [hW]
 rintro e w' ⟨rfl,k,os,rfl⟩
 refine ⟨_,rfl,?_,rfl,rfl,rfl,?_,fun k hk=>?_⟩
 ·have e:Lib.itoa n=decZ n:=by rw [Lib.itoa,if_neg (by omega),decZ,figs_eq]
  rw [e]
  exact .p _ _ (.s _ (by have:=figs20 (n:=n.toNat) (by omega); rw [decZ,maxLe]; omega))
 ·show w.heap.size<=(w.heap++os).size
  simp
 ·show (w.heap++os)[k]?=_
  rw [Array.getElem?_append_left hk]
theorem joinD_eq (sep : List UInt8) : ∀ l : List (List UInt8), joinD sep l = Lib.join l sep
  | [] => rfl
  | [a] => by rw [joinD, Lib.join_one]
  | a :: b :: l => by
    show a ++ (sep ++ joinD sep (b :: l)) = _
    rw [joinD_eq sep (b :: l), Lib.join_cons, Lib.join_cons]; simp [Lib.joinTail]
theorem joinC {id ver : Nat} {xs : List (List UInt8)} {sep : List UInt8} {H : List AO} (hid : H[id]? = some (.rows 1 ver (rowS xs))) (hlen : (joinD sep xs).length ≤ 140737488355328) :
    ACall Tryz.prog 129 [.gs id ver 0 xs.length, .p (.s sep)] H (pureQ (.p (.s (joinD sep xs))) H) := by
  refine acall_more ⟨_, Tryz.func129, rfl, rfl⟩ ?_
  intro w θ W vs hSR hr
  obtain ⟨hr1, hr2⟩ := hr
  have hs : vs.toList.length = 2 := by simpa using hr1
  obtain ⟨hob, _, _⟩ := hSR.obj id _ hid
  match hl : vs.toList, hs with
  | [a, b], _ =>
    have ha := hr2 0 _ a rfl (by rw [← Array.getElem?_toList, hl]; rfl)
    have hb := hr2 1 _ b rfl (by rw [← Array.getElem?_toList, hl]; rfl)
    obtain rfl : vs = #[a, b] := by rw [← Array.toList_inj]; exact hl
    obtain ⟨rfl, hsep⟩ := hb.s_inv
    have fin : ∀ {bk o c : Nat}, (∀ (j : Nat) x, (xs.map fun l => (⟨l.toArray⟩ : ByteArray))[j]? = some x → w.cell? ⟨bk, o + j, none⟩ = some (.string x)) → bk < w.heap.size → xs.length ≤ 140737488355328 → xs.length ≤ c →
        Calls Tryz.prog 129 #[.slice (some ⟨bk, o, none⟩) xs.length c, .string ⟨sep.toArray⟩] w fun e w' => ∃ rv, e = .returned rv ∧ ARel θ W (.p (.s (joinD sep xs))) rv ∧ w'.os = w.os ∧ w'.tape = w.tape ∧ w'.output = w.output ∧ w.heap.size ≤ w'.heap.size ∧ ∀ k, k < w.heap.size → w'.heap[k]? = w.heap[k]? := by
      intro bk o c h1 h2 h3 h4
      have ej : (xs.map fun l => (⟨l.toArray⟩ : ByteArray)).map (·.data.toList) = xs := by simp [List.map_map, Function.comp_def]
      have := Any.strings_Join laysJoin extraJoin bk o c (xs.map fun l => (⟨l.toArray⟩ : ByteArray)) ⟨sep.toArray⟩ w h1 h2 (by rw [List.length_map]; exact h3) (by rw [List.length_map]; exact h4) (by rw [ej]; rw [joinD_eq] at hlen; simpa using hlen)
      rw [List.length_map, ej] at this
      refine this.mono ?_
      rintro e w' ⟨rfl, h5⟩
      refine ⟨_, rfl, ?_, h5.os, h5.tape, h5.output, h5.size, fun k hk => h5.block k hk⟩
      rw [joinD_eq]
      exact .p _ _ (.s _ (by rw [maxLe, ← joinD_eq]; exact hlen))
    rcases hob with ⟨hn, he⟩ | ⟨b0, tot, ty, cs, hth, hheap, hsz, hle, hrl, hcell, hone⟩
    · have hx : xs = [] := by simpa [rowS] using he
      subst hx
      cases ha with
      | gsDead _ _ _ _ a cap h hn' hm => rw [h] at hn; cases hn
      | gsNil _ _ h =>
        refine (Any.strings_Join_none laysJoin extraJoin none 0 ⟨sep.toArray⟩ w).mono ?_
        rintro e w' ⟨rfl, rfl⟩
        exact ⟨_, rfl, .p _ _ (.s _ (by rw [joinD, maxLe]; simp)), rfl, rfl, rfl, Nat.le_refl _, fun _ _ => rfl⟩
      | gs _ _ _ _ b sz tot o cap h hn' hm hc ho h0 => rw [h] at hn; cases hn
    · generalize hxl : xs.length = m at ha
      cases ha with
      | gsDead _ _ _ _ a cap h hn' hm => rw [h] at hth; cases hth
      | gsNil _ _ h => rw [h] at hth; cases hth
      | gs _ _ _ _ b sz tot' o cap h hn' hm hc ho h0 =>
        rw [h] at hth
        cases hth
        have ho' := h0 rfl
        subst ho'
        rw [← hxl] at hm hn' ⊢
        refine fin (bk := b0) (o := 0) ?_ (Array.getElem?_eq_some_iff.1 hheap).1 (by rw [maxLe] at hm; exact hm) hn'
        intro j x hx
        rw [List.getElem?_map] at hx
        cases hxj : xs[j]? with
        | none => rw [hxj] at hx; cases hx
        | some s =>
          rw [hxj] at hx
          cases hx
          have hjlt := (List.getElem?_eq_some_iff.1 hxj).1
          have hjs : j < cs.size := by rw [hsz]; simp [rowS] at hle; omega
          have h1 : (rowS xs)[j]? = some [.p (.s s)] := by simp [rowS, hxj]
          have h2 := hcell j _ 0 _ cs[j] h1 rfl (by simp [hjs])
          obtain ⟨e, _⟩ := h2.s_inv
          unfold World.cell?
          simp only [hheap]
          simp [hjs, e]
end Go.Proofs.YtghcmccjchdgeaaGreatDoor.Qp
namespace Go.Proofs.YtghcmccjchdgeaaGreatDoor.Qp
open Go.AM Mc Pg
theorem preClo {C:CallP} {Hm Hc:List AO} {x:MA} {xs:List MA} {d:MD} {J:PK} {st:St} {f:Nat} {caps:List AV} (hx:st.get x=.clo f caps) (h:pcallK C Hm Hc [] f (gets st xs++caps) d J st):preC C Hm Hc (.calv x xs) d J st:=by
 unfold preC
 simp only [hx]
 exact h
theorem s2 {a b:List UInt8} (h:a=b):AV.p (.s a)=AV.p (.s b):=by rw [h]
theorem roundC {s:List UInt8} (hs:s.length<=1099511627776) (l a:Int) (H:List AO):ACall Tryz.prog 135 [.p (.s s),.p (.i .i64 l),.p (.i .i64 a)] H (pureQ (.p (.s (rnd s l a))) H):=by
 refine call135 (by simp) ?_
 simp only [go_sem,simprocAttr,mc135,mr135]
 repeat' first
  | (with_reducible refine condK_split _ (fun h=>?_) (fun h=>?_) <;> simp only [go_sem,simprocAttr,h])
  | (refine drw_same ?_; simp only [go_sem,simprocAttr])
  | (refine And.intro (by (try simp only [maxLe,LL]); omega) ?_; try simp only [go_sem,simprocAttr])
  | (intro _)
 all_goals refine ⟨s2 ?_,rfl⟩
 all_goals simp only [decide_eq_true_eq,decide_eq_false_iff_not] at *
 all_goals (simp [rnd, *]; done)
theorem boolC (u:Int) (H:List AO):ACall Tryz.prog 132 [.p (.i .i64 u)] H (pureQ (.p (.s (boolW u))) H):=by
 refine call132 (by simp) ?_
 simp only [go_sem,simprocAttr,mc132,mr132]
 repeat' first
  | (with_reducible refine condK_split _ (fun h=>?_) (fun h=>?_) <;> simp only [go_sem,simprocAttr,h])
  | (refine drw_same ?_; simp only [go_sem,simprocAttr])
  | (refine And.intro (by (try simp only [maxLe,LL]); omega) ?_; try simp only [go_sem,simprocAttr])
  | (intro _)
 all_goals refine ⟨s2 ?_,rfl⟩
 all_goals simp only [decide_eq_true_eq,decide_eq_false_iff_not] at *
 all_goals (simp [boolW, *]; done)
theorem levelsC (s:List UInt8) (H:List AO):ACall Tryz.prog 134 [.p (.s s)] H (pureQ (.tup [.p (.i .i64 (opL s).1),.p (.i .i64 (opL s).2.1),.p (.i .i64 (opL s).2.2)]) H):=by
 refine call134 (by simp) ?_
 simp only [go_sem,simprocAttr,mc134,mr134]
 repeat' first
  | (with_reducible refine condK_split _ (fun h=>?_) (fun h=>?_) <;> simp only [go_sem,simprocAttr,h])
  | (refine drw_same ?_; simp only [go_sem,simprocAttr])
  | (refine And.intro (by (try simp only [maxLe,LL]); omega) ?_; try simp only [go_sem,simprocAttr])
  | (intro _)
 all_goals refine ⟨?_,rfl⟩
 all_goals simp only [decide_eq_true_eq,decide_eq_false_iff_not] at *
 all_goals (simp [opL, *]; done)
structure Bld (H:List AO) (sz:Nat) (rs:List (List AV)) (a:AV) (X:List AO):Prop where
 own:OwnR X a sz rs
 new:∀ id v o m,a=.gs id v o m->H.length<=id
 fr:∀ (j:Nat) o,H[j]?=some o->X[j]?=some o
theorem Bld.nil (H:List AO) (sz:Nat):Bld H sz [] (.p .nl) H:=⟨.inl ⟨rfl,rfl⟩,fun _ _ _ _ e=>(by cases e),fun _ _ h=>h⟩
theorem Bld.ext {H sz rs a X} (h:Bld H sz rs a X) (A:List AO):Bld H sz rs a (X++A):=⟨h.own.ext,h.new,fun j o hj=>get_ext (h.fr j o hj) A⟩
theorem Bld.len {H sz rs a X} (h:Bld H sz rs a X):H.length<=X.length:=pre_len h.fr
theorem Bld.ends {H sz rs a X} (h:Bld H sz rs a X):∃ G,X=H++G:=pre_ext h.fr
theorem Bld.app {H sz rs a X} (h:Bld H sz rs a X) {X':List AO} {ys:List (List AV)} {id ver n:Nat} (k1:X'[id]?=some (.rows sz ver (rs++ys))) (k2:(∃ v o n,a=.gs id v o n)\/X.length<=id)
  (k3:∀ (j:Nat) o,X[j]?=some o->(∀ v o' n,a≠.gs j v o' n)->X'[j]?=some o) (hn:n=(rs++ys).length):Bld H sz (rs++ys) (.gs id ver 0 n) X':=by
 subst hn
 refine ⟨.inr ⟨id,ver,rfl,k1⟩,?_,?_⟩
 ·rintro _ _ _ _ ⟨⟩
  rcases k2 with ⟨v,o,n,e⟩ | k2
  ·exact h.new _ _ _ _ e
  ·have:=h.len; omega
 ·intro j o hj
  refine k3 j o (h.fr j o hj) fun v o' n e=>?_
  have:=h.new _ _ _ _ e
  have:=get_lt hj
  omega
theorem joinNil (sep : List UInt8) (H : List AO) (hs : sep.length ≤ maxL) : ACall Tryz.prog 129 [.p .nl, .p (.s sep)] H (pureQ (.p (.s [])) H) := by
  refine acall_more ⟨_, Tryz.func129, rfl, rfl⟩ ?_
  intro w θ W vs hSR hr
  obtain ⟨hr1, hr2⟩ := hr
  have hs : vs.toList.length = 2 := by simpa using hr1
  match hl : vs.toList, hs with
  | [a, b], _ =>
    have ha := hr2 0 _ a rfl (by rw [← Array.getElem?_toList, hl]; rfl)
    have hb := hr2 1 _ b rfl (by rw [← Array.getElem?_toList, hl]; rfl)
    obtain rfl : vs = #[a, b] := by rw [← Array.toList_inj]; exact hl
    obtain ⟨rfl, hsep⟩ := hb.s_inv
    cases ha.p_inv
    refine (Any.strings_Join_none laysJoin extraJoin none 0 ⟨sep.toArray⟩ w).mono ?_
    rintro e w' ⟨rfl, rfl⟩
    exact ⟨_, rfl, .p _ _ (.s _ (by rw [maxLe]; simp)), rfl, rfl, rfl, Nat.le_refl _, fun _ _ => rfl⟩
theorem joinB {H X:List AO} {xs:List (List UInt8)} {sep:List UInt8} {a:AV} (h:Bld H 1 (rowS xs) a X) (hs:sep.length<=100) (hlen:(joinD sep xs).length<=140737488355328) :
  ACall Tryz.prog 129 [a,.p (.s sep)] X (pureQ (.p (.s (joinD sep xs))) X):=by
 rcases h.own with ⟨rfl,e⟩ | ⟨id,ver,rfl,hid⟩
 ·obtain rfl:xs=[]:=by simpa [rowS] using e
  exact joinNil sep X (by rw [maxLe]; omega)
 ·have:(rowS xs).length=xs.length:=by simp [rowS]
  rw [this]
  exact joinC hid hlen
theorem rowS_app (l:List (List UInt8)) (s:List UInt8):rowS l++[[.p (.s s)]]=rowS (l++[s]):=by simp [rowS]
theorem rowS_len (l:List (List UInt8)):(rowS l).length=l.length:=by simp [rowS]
def FormC {α:Type} (f:Nat) (c:α->AV) (g:α->List UInt8) (l:List α) (asked:Int):Prop:=∀ x∈l,∀ H:List AO,Tb H->ACall Tryz.prog f [c x,.p (.i .i64 asked)] H (pureQ (.p (.s (g x))) H)
theorem formsPatC {f:Nat} {g:PatD->List UInt8} {l:List PatD} {asked:Int} (hf:FormC f (fun x=>avC x.cells) g l asked) {sep:List UInt8} (hs:sep.length<=100) (hl:l.length<=1073741824) (hlen:(joinD sep (l.map g)).length<=140737488355328) {H:List AO} (hT:Tb H) :
  ACall Tryz.prog 228 [.p (.l (l.map PatD.cells)),.p (.i .i64 asked),.p (.s sep),.clo f []] H (pureQ (.p (.s (joinD sep (l.map g)))) H):=by
 refine acall_drop1 ?_ (tf_p _)
 refine call228 (by simp) ?_
 simp only [go_sem,simprocAttr,mc228,mr228,List.length_map]
 intro _
 refine ⟨Nat × AV × List AO,[1,2,3,8,9,12,13,14],fun x st=>(x.1<=l.length/\Bld H 1 (rowS ((l.take x.1).map g)) x.2.1 x.2.2)/\st=⟨[(1,.p (.i .i64 asked)),(2,.p (.s sep)),(3,.clo f []),(8,.p (.s [])),(9,x.2.1),(12,.p (.l (l.map PatD.cells))),(13,.p (.i .i64 l.length)),(14,.p (.i .i64 x.1))],[],x.2.2⟩,fun x=>l.length - x.1,⟨(0,.p .nl,H),?_⟩,?_⟩
 ·simp only [go_sem,simprocAttr]
  exact ⟨Nat.zero_le _,Bld.nil H 1⟩
 rintro ⟨x,a,X⟩ _ ⟨⟨hx,hB⟩,rfl⟩
 simp only at hx hB
 by_cases hlt:x<l.length
 ·have d1:decide ((x:Int)<(l.length:Int))=true:=by simp; omega
  have hlt':(x:Int)<(l.length:Int):=by omega
  have hg:(l.map PatD.cells)[x]?=some (PatD.cells l[x]):=by simp [hlt]
  have hc:=hf l[x] (List.getElem_mem hlt)
  have ht:(l.take (x+1)).map g=(l.take x).map g++[g l[x]]:=by rw [List.take_succ_eq_append_getElem hlt,List.map_append,List.map_cons,List.map_nil]
  generalize l[x]=c at hg hc ht
  obtain ⟨ck,cn,cu,cp,cks⟩:=c
  simp only [PatD.cells,avC,List.map_cons,List.map_nil] at hg hc
  simp only [go_sem,simprocAttr,d1,hlt',hg,List.length_map]
  have hB2:=fun A=>hB.ext A
  have hT2:=fun A=>hT.keep (hB2 A).fr
  refine acall_pure (hc _ (hT2 _)) ?_
  simp only [go_sem,simprocAttr]
  refine ⟨by intro r hr; simp at hr; subst hr; rfl,?_⟩
  have hlt2:(l.take x).length=x:=by simp; omega
  refine app_fr (rs:=rowS ((l.take x).map g)) (hB2 _).own (by rw [rowS_len,List.length_map,hlt2]; simp; omega) (by rw [rowS_len,List.length_map,hlt2]; simp; omega) ?_
  intro id ver X2 k1 k2 k3 k4
  have hJ:=(hB2 _).app k1 k2 k3 (n:=x+1) (by rw [List.length_append,rowS_len,List.length_map,hlt2]; rfl)
  simp only [go_sem,simprocAttr,wrN x (by omega),rowS_len,List.length_map]
  rw [rowS_app,<- ht] at hJ
  exact ⟨(x+1,_,X2),⟨⟨by omega,hJ⟩,by rw [hlt2]⟩,by simp only; omega⟩
 ·have d1:decide ((x:Int)<(l.length:Int))=false:=by simp; omega
  rw [List.take_of_length_le (by omega)] at hB
  simp only [go_sem,simprocAttr,d1]
  refine acall_pure (joinB hB hs hlen) ?_
  simp only [go_sem,simprocAttr]
  exact hB.ends
theorem formsTyC {f:Nat} {g:TyE->List UInt8} {l:List TyE} {asked:Int} (hf:FormC f (fun x=>avC x.cells) g l asked) {sep:List UInt8} (hs:sep.length<=100) (hl:l.length<=1073741824) (hlen:(joinD sep (l.map g)).length<=140737488355328) {H:List AO} (hT:Tb H) :
  ACall Tryz.prog 182 [.p (.l (l.map TyE.cells)),.p (.i .i64 asked),.p (.s sep),.clo f []] H (pureQ (.p (.s (joinD sep (l.map g)))) H):=by
 refine acall_drop1 ?_ (tf_p _)
 refine call182 (by simp) ?_
 simp only [go_sem,simprocAttr,mc182,mr182,List.length_map]
 intro _
 refine ⟨Nat × AV × List AO,[1,2,3,8,9,12,13,14],fun x st=>(x.1<=l.length/\Bld H 1 (rowS ((l.take x.1).map g)) x.2.1 x.2.2)/\st=⟨[(1,.p (.i .i64 asked)),(2,.p (.s sep)),(3,.clo f []),(8,.p (.s [])),(9,x.2.1),(12,.p (.l (l.map TyE.cells))),(13,.p (.i .i64 l.length)),(14,.p (.i .i64 x.1))],[],x.2.2⟩,fun x=>l.length - x.1,⟨(0,.p .nl,H),?_⟩,?_⟩
 ·simp only [go_sem,simprocAttr]
  exact ⟨Nat.zero_le _,Bld.nil H 1⟩
 rintro ⟨x,a,X⟩ _ ⟨⟨hx,hB⟩,rfl⟩
 simp only at hx hB
 by_cases hlt:x<l.length
 ·have d1:decide ((x:Int)<(l.length:Int))=true:=by simp; omega
  have hlt':(x:Int)<(l.length:Int):=by omega
  have hg:(l.map TyE.cells)[x]?=some (TyE.cells l[x]):=by simp [hlt]
  have hc:=hf l[x] (List.getElem_mem hlt)
  have ht:(l.take (x+1)).map g=(l.take x).map g++[g l[x]]:=by rw [List.take_succ_eq_append_getElem hlt,List.map_append,List.map_cons,List.map_nil]
  generalize l[x]=c at hg hc ht
  obtain ⟨ck,cn,cp,cks⟩:=c
  simp only [TyE.cells,avC,List.map_cons,List.map_nil] at hg hc
  simp only [go_sem,simprocAttr,d1,hlt',hg,List.length_map]
  have hB2:=fun A=>hB.ext A
  have hT2:=fun A=>hT.keep (hB2 A).fr
  refine acall_pure (hc _ (hT2 _)) ?_
  simp only [go_sem,simprocAttr]
  refine ⟨by intro r hr; simp at hr; subst hr; rfl,?_⟩
  have hlt2:(l.take x).length=x:=by simp; omega
  refine app_fr (rs:=rowS ((l.take x).map g)) (hB2 _).own (by rw [rowS_len,List.length_map,hlt2]; simp; omega) (by rw [rowS_len,List.length_map,hlt2]; simp; omega) ?_
  intro id ver X2 k1 k2 k3 k4
  have hJ:=(hB2 _).app k1 k2 k3 (n:=x+1) (by rw [List.length_append,rowS_len,List.length_map,hlt2]; rfl)
  simp only [go_sem,simprocAttr,wrN x (by omega),rowS_len,List.length_map]
  rw [rowS_app,<- ht] at hJ
  exact ⟨(x+1,_,X2),⟨⟨by omega,hJ⟩,by rw [hlt2]⟩,by simp only; omega⟩
 ·have d1:decide ((x:Int)<(l.length:Int))=false:=by simp; omega
  rw [List.take_of_length_le (by omega)] at hB
  simp only [go_sem,simprocAttr,d1]
  refine acall_pure (joinB hB hs hlen) ?_
  simp only [go_sem,simprocAttr]
  exact hB.ends
theorem formsExpC {f:Nat} {g:ExpD->List UInt8} {l:List ExpD} {asked:Int} (hf:FormC f (fun x=>avC x.cells) g l asked) {sep:List UInt8} (hs:sep.length<=100) (hl:l.length<=1073741824) (hlen:(joinD sep (l.map g)).length<=140737488355328) {H:List AO} (hT:Tb H) :
  ACall Tryz.prog 133 [.p (.l (l.map ExpD.cells)),.p (.i .i64 asked),.p (.s sep),.clo f []] H (pureQ (.p (.s (joinD sep (l.map g)))) H):=by
 refine acall_drop1 ?_ (tf_p _)
 refine call133 (by simp) ?_
 simp only [go_sem,simprocAttr,mc133,mr133,List.length_map]
 intro _
 refine ⟨Nat × AV × List AO,[1,2,3,8,9,12,13,14],fun x st=>(x.1<=l.length/\Bld H 1 (rowS ((l.take x.1).map g)) x.2.1 x.2.2)/\st=⟨[(1,.p (.i .i64 asked)),(2,.p (.s sep)),(3,.clo f []),(8,.p (.s [])),(9,x.2.1),(12,.p (.l (l.map ExpD.cells))),(13,.p (.i .i64 l.length)),(14,.p (.i .i64 x.1))],[],x.2.2⟩,fun x=>l.length - x.1,⟨(0,.p .nl,H),?_⟩,?_⟩
 ·simp only [go_sem,simprocAttr]
  exact ⟨Nat.zero_le _,Bld.nil H 1⟩
 rintro ⟨x,a,X⟩ _ ⟨⟨hx,hB⟩,rfl⟩
 simp only at hx hB
 by_cases hlt:x<l.length
 ·have d1:decide ((x:Int)<(l.length:Int))=true:=by simp; omega
  have hlt':(x:Int)<(l.length:Int):=by omega
  have hg:(l.map ExpD.cells)[x]?=some (ExpD.cells l[x]):=by simp [hlt]
  have hc:=hf l[x] (List.getElem_mem hlt)
  have ht:(l.take (x+1)).map g=(l.take x).map g++[g l[x]]:=by rw [List.take_succ_eq_append_getElem hlt,List.map_append,List.map_cons,List.map_nil]
  generalize l[x]=c at hg hc ht
  obtain ⟨ck,cn,cu,ct,cp,cks,cas⟩:=c
  simp only [ExpD.cells,avC,List.map_cons,List.map_nil] at hg hc
  simp only [go_sem,simprocAttr,d1,hlt',hg,List.length_map]
  have hB2:=fun A=>hB.ext A
  have hT2:=fun A=>hT.keep (hB2 A).fr
  refine acall_pure (hc _ (hT2 _)) ?_
  simp only [go_sem,simprocAttr]
  refine ⟨by intro r hr; simp at hr; subst hr; rfl,?_⟩
  have hlt2:(l.take x).length=x:=by simp; omega
  refine app_fr (rs:=rowS ((l.take x).map g)) (hB2 _).own (by rw [rowS_len,List.length_map,hlt2]; simp; omega) (by rw [rowS_len,List.length_map,hlt2]; simp; omega) ?_
  intro id ver X2 k1 k2 k3 k4
  have hJ:=(hB2 _).app k1 k2 k3 (n:=x+1) (by rw [List.length_append,rowS_len,List.length_map,hlt2]; rfl)
  simp only [go_sem,simprocAttr,wrN x (by omega),rowS_len,List.length_map]
  rw [rowS_app,<- ht] at hJ
  exact ⟨(x+1,_,X2),⟨⟨by omega,hJ⟩,by rw [hlt2]⟩,by simp only; omega⟩
 ·have d1:decide ((x:Int)<(l.length:Int))=false:=by simp; omega
  rw [List.take_of_length_le (by omega)] at hB
  simp only [go_sem,simprocAttr,d1]
  refine acall_pure (joinB hB hs hlen) ?_
  simp only [go_sem,simprocAttr]
  exact hB.ends
end Go.Proofs.YtghcmccjchdgeaaGreatDoor.Qp
namespace Go.Proofs.YtghcmccjchdgeaaGreatDoor.Qp
open Go.AM Go.Shelf Mc Pg
theorem byteR_add (l m:List UInt8):byteR (l++m)=byteR l++byteR m:=by simp [byteR]
theorem byR_row {l:List UInt8}:∀ r∈byteR l,r.length=1:=by
 intro r hr
 obtain ⟨c,_,rfl⟩:=List.mem_map.1 hr
 rfl
theorem quotedC {s:List UInt8} (hs:s.length<=1073741824) (H:List AO):ACall Tryz.prog 131 [.p (.s s)] H (pureQ (.p (.s (quoD s))) H):=by
 refine acall_drop1 ?_ (tf_p _)
 refine call131 (by simp) ?_
 simp only [go_sem,simprocAttr,mc131,mr131]
 have hq:∀ x,(34 :: ((s.take x).map quoC).flatten).length<=2 * s.length+1:=fun x=>by
  have:=quo_len (s.take x)
  unfold quoD at this
  rw [List.length_cons,List.length_append,List.length_singleton,List.length_take] at this
  rw [List.length_cons]; omega
 refine ⟨Nat × AV × List AO,[0,2,3,4],fun x st=>(x.1<=s.length/\Bld H 1 (byteR (34 :: ((s.take x.1).map quoC).flatten)) x.2.1 x.2.2)/\st=⟨[(0,.p (.s s)),(2,.p (.s [])),(3,x.2.1),(4,.p (.i .i64 x.1))],[],x.2.2⟩,fun x=>s.length - x.1,⟨(0,.gs H.length 0 0 1,H++[.rows 1 0 [[.p (.i .u8 34)]]]),?_⟩,?_⟩
 ·simp only [go_sem,simprocAttr]
  exact ⟨Nat.zero_le _,.inr ⟨H.length,0,rfl,by rw [gx0]; rfl⟩,fun _ _ _ _ e=>by cases e; exact Nat.le_refl _,fun j o hj=>get_ext hj _⟩
 rintro ⟨x,a,X⟩ _ ⟨⟨hx,hB⟩,rfl⟩
 simp only at hx hB
 have hqx:=hq x
 have hqx1:=hq (x+1)
 by_cases hlt:x<s.length
 ·have d1:decide ((x:Int)<(s.length:Int))=true:=by simp; omega
  have hg:s[x]?=some s[x]:=by simp [hlt]
  have ht:34 :: ((s.take (x+1)).map quoC).flatten=34 :: ((s.take x).map quoC).flatten++quoC s[x]:=by rw [List.take_succ_eq_append_getElem hlt,List.map_append,List.flatten_append]; simp
  rw [ht,List.length_append] at hqx1
  generalize s[x]=c at hg ht hqx1
  generalize (34 :: ((s.take x).map quoC).flatten:List UInt8)=l at hB hqx ht hqx1
  have key:∀ ys:List (List AV),ys=byteR (quoC c)->∀ (K:St->Prop) (L T:En) (d:MD) (A:List AO),(∀ id ver X2,Bld H 1 (byteR (l++quoC c)) (.gs id ver 0 (l.length+ys.length)) X2->K (St.put ⟨L,T,X2⟩ d (.gs id ver 0 (l.length+ys.length))))->appX 1 1 a ys d K ⟨L,T,X++A⟩:=by
   rintro ys rfl K L T d A k
   have hl2:(byteR l).length=l.length:=byteR_len _
   have hl3:(byteR (quoC c)).length=(quoC c).length:=byteR_len _
   refine app_fr (rs:=byteR l) (hB.ext A).own (by rw [hl2,hl3]; omega) (by rw [hl2,hl3]; omega) ?_
   intro id ver X2 k1 k2 k3 k4
   have hJ:=(hB.ext A).app k1 k2 k3 (n:=l.length+(byteR (quoC c)).length) (by rw [List.length_append,hl2])
   rw [<- byteR_add] at hJ
   have:=k id ver X2 hJ
   rwa [hl2]
  simp only [go_sem,simprocAttr,d1,hg]
  intro _
  cases h10:decide ((c.toNat:Int)=10)
  ·cases h34:decide ((c.toNat:Int)=34)
   ·cases h92:decide ((c.toNat:Int)=92)
    ·have e:quoC c=[c]:=by unfold quoC; rw [if_neg (of_decide_eq_false h10),if_neg (by intro h; rcases h with h | h; exact of_decide_eq_false h34 h; exact of_decide_eq_false h92 h)]
     simp only [go_sem,simprocAttr,h10,h34,h92,hg]
     refine ⟨by intro r hr; simp at hr; subst hr; rfl,?_⟩
     refine key _ (by rw [e]; rfl) _ _ _ _ _ ?_
     intro id ver X2 hJ
     simp only [go_sem,simprocAttr,wrN x (by omega)]
     exact ⟨(x+1,_,X2),⟨⟨by omega,by rw [ht]; exact hJ⟩,rfl⟩,by simp only; omega⟩
    ·have e:quoC c=[92,c]:=by unfold quoC; rw [if_neg (of_decide_eq_false h10),if_pos (.inr (of_decide_eq_true h92))]
     simp only [go_sem,simprocAttr,h10,h34,h92,hg]
     refine ⟨by intro r hr; simp at hr; rcases hr with rfl | rfl <;> rfl,?_⟩
     refine key _ (by rw [e]; rfl) _ _ _ _ _ ?_
     intro id ver X2 hJ
     simp only [go_sem,simprocAttr,wrN x (by omega)]
     exact ⟨(x+1,_,X2),⟨⟨by omega,by rw [ht]; exact hJ⟩,rfl⟩,by simp only; omega⟩
   ·have e:quoC c=[92,c]:=by unfold quoC; rw [if_neg (of_decide_eq_false h10),if_pos (.inl (of_decide_eq_true h34))]
    simp only [go_sem,simprocAttr,h10,h34,hg]
    refine ⟨by intro r hr; simp at hr; rcases hr with rfl | rfl <;> rfl,?_⟩
    refine key _ (by rw [e]; rfl) _ _ _ _ _ ?_
    intro id ver X2 hJ
    simp only [go_sem,simprocAttr,wrN x (by omega)]
    exact ⟨(x+1,_,X2),⟨⟨by omega,by rw [ht]; exact hJ⟩,rfl⟩,by simp only; omega⟩
  ·have e:quoC c=[92,110]:=by unfold quoC; rw [if_pos (of_decide_eq_true h10)]
   simp only [go_sem,simprocAttr,h10,hg]
   refine ⟨by intro r hr; simp at hr; rcases hr with rfl | rfl <;> rfl,?_⟩
   refine key _ (by rw [e]; rfl) _ _ _ _ _ ?_
   intro id ver X2 hJ
   simp only [go_sem,simprocAttr,wrN x (by omega)]
   exact ⟨(x+1,_,X2),⟨⟨by omega,by rw [ht]; exact hJ⟩,rfl⟩,by simp only; omega⟩
 ·have d1:decide ((x:Int)<(s.length:Int))=false:=by simp; omega
  rw [List.take_of_length_le (by omega)] at hB hqx
  simp only [go_sem,simprocAttr,d1]
  intro _
  refine ⟨by intro r hr; simp at hr; subst hr; rfl,?_⟩
  have hl2:(byteR (34 :: (s.map quoC).flatten)).length=(34 :: (s.map quoC).flatten).length:=byteR_len _
  refine app_fr (rs:=byteR (34 :: (s.map quoC).flatten)) (hB.ext _).own (by rw [hl2]; simp only [List.length_cons,List.length_nil] at hqx ⊢; omega) (by rw [hl2]; simp only [List.length_cons,List.length_nil] at hqx ⊢; omega) ?_
  intro id ver X2 k1 k2 k3 k4
  have hJ:=(hB.ext _).app k1 k2 k3 (n:=(byteR (34 :: (s.map quoC).flatten)).length+1) (by rw [List.length_append]; rfl)
  have e2:byteR (34 :: (s.map quoC).flatten)++[[.p (.i .u8 34)]]=byteR (quoD s):=by unfold quoD; rw [<- List.cons_append,byteR_add]; rfl
  rw [e2] at hJ
  have hqs:=quo_len s
  have hb:=own_b2s hJ.own (by omega)
  simp only [go_sem,simprocAttr,hb]
  exact hJ.ends
theorem len2 {α:Type} {l:List α} (h:(l.length:Int)=2):∃ a b,l=[a,b]:=by
 match l,h with
 | [a,b],_=>exact ⟨a,b,rfl⟩
 | [],h=>simp at h
 | [_],h=>simp at h
 | _ :: _ :: _ :: _,h=>simp at h; omega
theorem len1 {α:Type} {l:List α} (h:(l.length:Int)=1):∃ a,l=[a]:=by
 match l,h with
 | [a],_=>exact ⟨a,rfl⟩
 | [],h=>simp at h
 | _ :: _ :: _,h=>simp at h; omega
theorem len3 {α:Type} {l:List α} (h:(l.length:Int)=3):∃ a b c,l=[a,b,c]:=by
 match l,h with
 | [a,b,c],_=>exact ⟨a,b,c,rfl⟩
 | [],h=>simp at h
 | [_],h=>simp at h
 | [_,_],h=>simp at h
 | _ :: _ :: _ :: _ :: _,h=>simp at h; omega
theorem len0 {α:Type} {l:List α} (h:(l.length:Int)=0):l=[]:=List.length_eq_zero_iff.1 (by omega)
theorem joinSp (a : Int) : ∀ l : List KF, l ≠ [] → 32 :: joinD [32] (l.map (·.at a)) = (l.map fun x => 32 :: x.at a).flatten
  | [], h => (h rfl).elim
  | [x], _ => by simp [joinD]
  | x :: y :: l, _ => by
    have := joinSp a (y :: l) (by simp)
    have e : joinD [32] ((x :: y :: l).map (·.at a)) = x.at a ++ ([32] ++ joinD [32] ((y :: l).map (·.at a))) := rfl
    rw [e, List.map_cons (l := y :: l), List.flatten_cons, ← this]
    simp
def TyFmC (x:TyE):Prop:=∀ (a:Int) (H:List AO),a<=3->Tb H->ACall Tryz.prog 128 [avC x.cells,.p (.i .i64 a)] H (pureQ (.p (.s (x.kf.at a))) H)
theorem ty_fmC (k:Int) (n:List UInt8) (p:Int) (ks:List TyE) (hok:(TyE.mk k n p ks).okB=true) (hsz:n.length+TyE.szL ks<=1073741824) (hk:∀ x∈ks,TyFmC x):TyFmC (.mk k n p ks):=by
 intro a H ha hT
 refine acall_drop1 ?_ (tf_p _)
 refine call128 (by simp) ?_
 have hW:=TyE.kfL_len ks
 have hLen:ks.length<=1073741824:=by have:=sumSz_len TyE.sz ks; rw [<- TyE.szL_eq] at this; omega
 have hF:∀ z,z<=3->FormC 128 (fun x:TyE=>avC x.cells) (fun x=>x.kf.at z) ks z:=fun z hz x hx H hT=>hk x hx z H hz hT
 have hj:∀ (sep:List UInt8),sep.length<=10->∀ z,(joinD sep (ks.map fun x=>x.kf.at z)).length<=200000000000:=fun sep hs z=>by
  have:=joinK_len sep hs z (TyE.kfL ks)
  rw [TyE.kfL_eq,List.map_map] at this
  rw [TyE.kfL_eq] at hW
  exact Nat.le_trans this (by omega)
 have hT2:=fun A=>hT.ext A
 rw [TyE.okB,typH] at hok
 simp only [Bool.and_eq_true] at hok
 have hok1:=hok.1.1
 clear hok
 by_cases h3:k=3
 ·subst h3
  obtain ⟨c0,c1,rfl⟩:=len2 (l:=ks) (by simpa using (by simpa using hok1:_/\_).1)
  simp only [TyE.kfL,wK] at hW
  have a0:=(at_len c0.kf 1).1
  have g0:=hk c0 (by simp) 1
  have a1:=(at_len c1.kf 0).1
  have g1:=hk c1 (by simp) 0
  have e:(TyE.mk 3 n p [c0,c1]).kf.at a=rnd (c0.kf.at 1++([32,45,62,32]++c1.kf.at 0)) 0 a:=by simp [TyE.kf,TyE.kfL,tyG,KF.at]
  rw [e]
  generalize c0.kf.at 1=s0 at *
  generalize c1.kf.at 0=s1 at *
  obtain ⟨k0,n0,p0,q0⟩:=c0
  simp only [TyE.cells,avC,List.map_cons,List.map_nil] at g0
  obtain ⟨k1,n1,p1,q1⟩:=c1
  simp only [TyE.cells,avC,List.map_cons,List.map_nil] at g1
  simp only [go_sem,simprocAttr,mc128,mr128,TyE.cells,TyE.cellsL,avC]
  repeat' first
   | (with_reducible refine condK_split _ (fun h=>?_) (fun h=>?_) <;> simp only [go_sem,simprocAttr,h])
   | (with_reducible refine pcall_pure (fun A=>g0 _ (by decide) ((hT.ext _).ext _)) (Hext.refl _) ?_; simp only [go_sem,simprocAttr])
   | (with_reducible refine pcall_pure (fun A=>g1 _ (by decide) ((hT.ext _).ext _)) (Hext.refl _) ?_; simp only [go_sem,simprocAttr])
   | (with_reducible refine acall_pure (roundC (by simp only [List.length_append,List.length_cons,List.length_nil]; omega) _ _ _) ?_; simp only [go_sem,simprocAttr])
   | (refine drw_same ?_; simp only [go_sem,simprocAttr])
   | (refine And.intro (by (try simp only [maxLe,LL]); omega) ?_; try simp only [go_sem,simprocAttr])
   | (intro _)
  all_goals first | exact ⟨s2 (by simp),_,rfl⟩ | exact ⟨_,rfl⟩
 by_cases h5:k=5
 ·subst h5
  obtain ⟨c0,rfl⟩:=len1 (l:=ks) (by simpa using (by simpa using hok1:_/\_).1)
  simp only [TyE.kfL,wK] at hW
  have a0:=(at_len c0.kf 3).1
  have g0:=hk c0 (by simp) 3
  have e:(TyE.mk 5 n p [c0]).kf.at a=rnd ([114,101,102,32]++c0.kf.at 3) 2 a:=by simp [TyE.kf,TyE.kfL,tyG,KF.at]
  rw [e]
  generalize c0.kf.at 3=s0 at *
  obtain ⟨k0,n0,p0,q0⟩:=c0
  simp only [TyE.cells,avC,List.map_cons,List.map_nil] at g0
  simp only [go_sem,simprocAttr,mc128,mr128,TyE.cells,TyE.cellsL,avC]
  repeat' first
   | (with_reducible refine condK_split _ (fun h=>?_) (fun h=>?_) <;> simp only [go_sem,simprocAttr,h])
   | (with_reducible refine acall_pure (g0 _ (by decide) (hT2 _)) ?_; simp only [go_sem,simprocAttr])
   | (with_reducible refine acall_pure (roundC (by simp only [List.length_append,List.length_cons,List.length_nil]; omega) _ _ _) ?_; simp only [go_sem,simprocAttr])
   | (refine drw_same ?_; simp only [go_sem,simprocAttr])
   | (refine And.intro (by (try simp only [maxLe,LL]); omega) ?_; try simp only [go_sem,simprocAttr])
   | (intro _)
  all_goals first | exact ⟨s2 (by simp),_,rfl⟩ | exact ⟨_,rfl⟩
 rw [TyE.kfL_eq] at hW
 by_cases h4:k=4
 ·subst h4
  have e:(TyE.mk 4 n p ks).kf.at a=rnd (joinD [32,42,32] (ks.map fun x=>x.kf.at 2)) 1 a:=by simp [TyE.kf,TyE.kfL_eq,tyG,KF.at,Function.comp_def]
  rw [e]
  have hj2:=hj [32,42,32] (by decide) 2
  simp only [go_sem,simprocAttr,mc128,mr128,TyE.cells,TyE.cellsL_eq,avC]
  refine acall_pure (formsTyC (hF 2 (by decide)) (by decide) hLen (by omega) (hT2 _)) ?_
  simp only [go_sem,simprocAttr]
  refine acall_pure (roundC (by omega) _ _ _) ?_
  simp only [go_sem,simprocAttr]
  exact ⟨_,rfl⟩
 by_cases h2:k=2
 ·subst h2
  have e:(TyE.mk 2 n p ks).kf.at a=39 :: n:=by simp [TyE.kf,tyG,KF.at,rnd]; omega
  rw [e]
  simp only [go_sem,simprocAttr,mc128,mr128,TyE.cells,TyE.cellsL_eq,avC]
  repeat' first
   | (with_reducible refine condK_split _ (fun h=>?_) (fun h=>?_) <;> simp only [go_sem,simprocAttr,h])
   | (refine drw_same ?_; simp only [go_sem,simprocAttr])
   | (refine And.intro (by (try simp only [maxLe,LL]); omega) ?_; try simp only [go_sem,simprocAttr])
   | (intro _)
  exact ⟨_,rfl⟩
 have h1:k=1:=by
  by_cases h1:k=1
  ·exact h1
  ·rw [if_neg h1,if_neg h2,if_neg h3,if_neg h4] at hok1
   by_cases h5':k=5
   ·exact (h5 h5').elim
   ·rw [if_neg h5'] at hok1; cases hok1
 subst h1
 by_cases hl:(ks.length:Int)=0
 ·obtain rfl:=len0 hl
  have e:(TyE.mk 1 n p []).kf.at a=n:=by simp [TyE.kf,TyE.kfL,tyG,KF.at,rnd]; omega
  rw [e]
  simp only [go_sem,simprocAttr,mc128,mr128,TyE.cells,TyE.cellsL,avC]
  repeat' first
   | (with_reducible refine condK_split _ (fun h=>?_) (fun h=>?_) <;> simp only [go_sem,simprocAttr,h])
   | (refine drw_same ?_; simp only [go_sem,simprocAttr])
   | (refine And.intro (by (try simp only [maxLe,LL]); omega) ?_; try simp only [go_sem,simprocAttr])
   | (intro _)
  all_goals exact ⟨_,rfl⟩
 ·have hne:TyE.kfL ks≠[]:=by intro h; apply hl; rw [TyE.kfL_eq] at h; simp [List.map_eq_nil_iff.1 h]
  have hl0:¬ ks.length=0:=by omega
  have e:(TyE.mk 1 n p ks).kf.at a=rnd (n++(32 :: joinD [32] (ks.map fun x=>x.kf.at 3))) 2 a:=by
   have e1:=joinSp 3 (TyE.kfL ks) hne
   rw [TyE.kfL_eq,List.map_map] at e1
   rw [TyE.kf,KF.at,tyG]
   simp only [TyE.kfL_eq,List.length_map]
   rw [if_neg (by decide),if_neg (by decide),if_neg (by decide),if_neg (by decide),if_neg hl0]
   rw [<- e1]; rfl
  rw [e]
  have hj2:=hj [32] (by decide) 3
  have d1:decide ((ks.length:Int)=0)=false:=decide_eq_false hl
  clear e
  simp only [go_sem,simprocAttr,mc128,mr128,TyE.cells,TyE.cellsL_eq,avC,List.length_map]
  have hfm:=fun H (hT:Tb H)=>formsTyC (hF 3 (by decide)) (sep:=[32]) (by decide) hLen (by omega) hT
  generalize joinD [32] (ks.map fun x=>x.kf.at 3)=sj at hj2 hfm
  intro _
  simp only [go_sem,simprocAttr,d1]
  repeat' first
   | (with_reducible refine condK_split _ (fun h=>?_) (fun h=>?_) <;> simp only [go_sem,simprocAttr,h])
   | (with_reducible refine pcall_pure (fun A=>hfm _ ((hT.ext _).ext _)) (Hext.refl _) ?_; simp only [go_sem,simprocAttr])
   | (with_reducible refine acall_pure (roundC (by simp only [List.length_append,List.length_cons,List.length_nil]; omega) _ _ _) ?_; simp only [go_sem,simprocAttr])
   | (refine drw_same ?_; simp only [go_sem,simprocAttr])
   | (refine And.intro (by (try simp only [maxLe,LL]); omega) ?_; try simp only [go_sem,simprocAttr])
   | (intro _)
  all_goals first | exact ⟨s2 (by simp),_,rfl⟩ | exact ⟨_,rfl⟩
theorem tyFmC (p : TyE) (h : p.sz ≤ 1073741824) (hok : p.okB = true) : TyFmC p := by
  have : ∀ (m : Nat) (p : TyE), p.sz < m → p.sz ≤ 1073741824 → p.okB = true → TyFmC p := by
    intro m
    induction m with
    | zero => intro p h; omega
    | succ m ih =>
      intro p h h2 hok
      obtain ⟨k, n, q, ks⟩ := p
      rw [TyE.sz] at h h2
      refine ty_fmC _ _ _ _ hok h2 fun a ha => ?_
      rw [TyE.okB, TyE.okL_eq, Bool.and_eq_true, List.all_eq_true] at hok
      rw [TyE.szL_eq] at h h2
      have := sumSz_mem TyE.sz ha
      exact ih a (by omega) (by omega) (hok.2 a ha)
  exact this _ p (Nat.lt_succ_self _) h hok
def PatFmC (x:PatD):Prop:=∀ (a:Int) (H:List AO),a<=1->Tb H->ACall Tryz.prog 188 [avC x.cells,.p (.i .i64 a)] H (pureQ (.p (.s (x.kf.at a))) H)
theorem pat_fmC (k:Int) (n:List UInt8) (u p:Int) (ks:List PatD) (hok:(PatD.mk k n u p ks).okB=true) (hfit:(PatD.mk k n u p ks).fit) (hsz:n.length+PatD.szL ks<=1073741824) (hk:∀ x∈ks,PatFmC x):PatFmC (.mk k n u p ks):=by
 intro a H ha hT
 refine acall_drop1 ?_ (tf_p _)
 refine call188 (by simp) ?_
 rw [PatD.fit] at hfit
 have hW:=PatD.kfL_len ks hfit.2
 have hu:=hfit.1
 have hLen:ks.length<=1073741824:=by have:=sumSz_len PatD.sz ks; rw [<- PatD.szL_eq] at this; omega
 have hF:∀ z,z<=1->FormC 188 (fun x:PatD=>avC x.cells) (fun x=>x.kf.at z) ks z:=fun z hz x hx H hT=>hk x hx z H hz hT
 have hj:∀ (sep:List UInt8),sep.length<=10->∀ z,(joinD sep (ks.map fun x=>x.kf.at z)).length<=200000000000:=fun sep hs z=>by
  have:=joinK_len sep hs z (PatD.kfL ks)
  rw [PatD.kfL_eq,List.map_map] at this
  rw [PatD.kfL_eq] at hW
  exact Nat.le_trans this (by omega)
 rw [PatD.okB,patH] at hok
 simp only [Bool.and_eq_true] at hok
 have hok1:=hok.1.1
 clear hok hfit
 by_cases h2:k=2
 ·subst h2
  have e:(PatD.mk 2 n u p ks).kf.at a=n:=by simp [PatD.kf,patG,KF.at,rnd]; omega
  rw [e]
  simp only [go_sem,simprocAttr,mc188,mr188,PatD.cells,PatD.cellsL_eq,avC,List.length_map]
  repeat' first
   | (with_reducible refine condK_split _ (fun h=>?_) (fun h=>?_) <;> simp only [go_sem,simprocAttr,h])
   | (refine drw_same ?_; simp only [go_sem,simprocAttr])
   | (refine And.intro (by (try simp only [maxLe,LL]); omega) ?_; try simp only [go_sem,simprocAttr])
   | (intro _)
  all_goals exact ⟨_,rfl⟩
 by_cases h3:k=3
 ·subst h3
  have e:(PatD.mk 3 n u p ks).kf.at a=decZ u:=by simp [PatD.kf,patG,KF.at,rnd]; omega
  rw [e]
  have h0:0<=u:=by simp at hok1; exact hok1.2.2
  simp only [go_sem,simprocAttr,mc188,mr188,PatD.cells,PatD.cellsL_eq,avC,List.length_map]
  refine acall_pure (itoaC (hT.ext _) h0 hu) ?_
  simp only [go_sem,simprocAttr]
  exact ⟨_,rfl⟩
 by_cases h4:k=4
 ·subst h4
  have e:(PatD.mk 4 n u p ks).kf.at a=boolW u:=by simp [PatD.kf,patG,KF.at,rnd]; omega
  rw [e]
  simp only [go_sem,simprocAttr,mc188,mr188,PatD.cells,PatD.cellsL_eq,avC,List.length_map]
  repeat' first
   | (with_reducible refine condK_split _ (fun h=>?_) (fun h=>?_) <;> simp only [go_sem,simprocAttr,h])
   | (with_reducible refine acall_pure (boolC _ _) ?_; simp only [go_sem,simprocAttr])
   | (refine drw_same ?_; simp only [go_sem,simprocAttr])
   | (refine And.intro (by (try simp only [maxLe,LL]); omega) ?_; try simp only [go_sem,simprocAttr])
   | (intro _)
  all_goals exact ⟨_,rfl⟩
 by_cases h5:k=5
 ·subst h5
  have e:(PatD.mk 5 n u p ks).kf.at a=[40,41]:=by simp [PatD.kf,patG,KF.at,rnd]; omega
  rw [e]
  simp only [go_sem,simprocAttr,mc188,mr188,PatD.cells,PatD.cellsL_eq,avC,List.length_map]
  repeat' first
   | (with_reducible refine condK_split _ (fun h=>?_) (fun h=>?_) <;> simp only [go_sem,simprocAttr,h])
   | (refine drw_same ?_; simp only [go_sem,simprocAttr])
   | (refine And.intro (by (try simp only [maxLe,LL]); omega) ?_; try simp only [go_sem,simprocAttr])
   | (intro _)
  all_goals exact ⟨_,rfl⟩
 by_cases h6:k=6
 ·subst h6
  have e:(PatD.mk 6 n u p ks).kf.at a=40 :: (joinD [44,32] (ks.map fun x=>x.kf.at 0)++[41]):=by simp [PatD.kf,PatD.kfL_eq,patG,KF.at,rnd,Function.comp_def]; omega
  rw [e]
  have hj2:=hj [44,32] (by decide) 0
  have hfm:=fun H (hT:Tb H)=>formsPatC (hF 0 (by decide)) (sep:=[44,32]) (by decide) hLen (by omega) hT
  clear e
  generalize joinD [44,32] (ks.map fun x=>x.kf.at 0)=sj at hj2 hfm
  simp only [go_sem,simprocAttr,mc188,mr188,PatD.cells,PatD.cellsL_eq,avC,List.length_map]
  repeat' first
   | (with_reducible refine condK_split _ (fun h=>?_) (fun h=>?_) <;> simp only [go_sem,simprocAttr,h])
   | (with_reducible refine acall_pure (hfm _ (hT.ext _)) ?_; simp only [go_sem,simprocAttr])
   | (refine drw_same ?_; simp only [go_sem,simprocAttr])
   | (refine And.intro (by (try simp only [maxLe,LL]); omega) ?_; try simp only [go_sem,simprocAttr])
   | (intro _)
  all_goals first | exact ⟨s2 (by simp),_,rfl⟩ | exact ⟨_,rfl⟩
 by_cases h7:k=7
 ·subst h7
  by_cases hl:(ks.length:Int)=0
  ·obtain rfl:=len0 hl
   have e:(PatD.mk 7 n u p []).kf.at a=n:=by simp [PatD.kf,PatD.kfL,patG,KF.at,rnd]; omega
   rw [e]
   simp only [go_sem,simprocAttr,mc188,mr188,PatD.cells,PatD.cellsL_eq,avC,List.length_map]
   repeat' first
    | (with_reducible refine condK_split _ (fun h=>?_) (fun h=>?_) <;> simp only [go_sem,simprocAttr,h])
    | (refine drw_same ?_; simp only [go_sem,simprocAttr])
    | (refine And.intro (by (try simp only [maxLe,LL]); omega) ?_; try simp only [go_sem,simprocAttr])
    | (intro _)
   all_goals exact ⟨_,rfl⟩
  ·obtain ⟨c0,rfl⟩:=len1 (l:=ks) (by simp at hok1 hl; have:=hok1.1; have:=List.length_pos_iff.2 hl; omega)
   have g0:=hk c0 (by simp) 1
   simp only [PatD.kfL,wK] at hW
   have a0:=(at_len c0.kf 1).1
   have e:(PatD.mk 7 n u p [c0]).kf.at a=rnd (n++(32 :: c0.kf.at 1)) 0 a:=by simp [PatD.kf,PatD.kfL,patG,KF.at]
   rw [e]
   generalize c0.kf.at 1=s0 at *
   obtain ⟨k0,n0,u0,p0,q0⟩:=c0
   simp only [PatD.cells,avC,List.map_cons,List.map_nil] at g0
   simp only [go_sem,simprocAttr,mc188,mr188,PatD.cells,PatD.cellsL,avC,List.length_map]
   repeat' first
    | (with_reducible refine condK_split _ (fun h=>?_) (fun h=>?_) <;> simp only [go_sem,simprocAttr,h])
    | (with_reducible refine pcall_pure (fun A=>g0 _ (by decide) ((hT.ext _).ext _)) (Hext.refl _) ?_; simp only [go_sem,simprocAttr])
    | (with_reducible refine acall_pure (roundC (by simp only [List.length_append,List.length_cons,List.length_nil]; omega) _ _ _) ?_; simp only [go_sem,simprocAttr])
    | (refine drw_same ?_; simp only [go_sem,simprocAttr])
    | (refine And.intro (by (try simp only [maxLe,LL]); omega) ?_; try simp only [go_sem,simprocAttr])
    | (intro _)
   all_goals first | exact ⟨s2 (by simp),_,rfl⟩ | exact ⟨_,rfl⟩
 have h1:k=1:=by
  by_cases h1:k=1
  ·exact h1
  ·rw [if_neg (by omega),if_neg h2,if_neg h3,if_neg h4,if_neg h6,if_neg h7] at hok1; cases hok1
 subst h1
 have e:(PatD.mk 1 n u p ks).kf.at a=[95]:=by simp [PatD.kf,patG,KF.at,rnd]; omega
 rw [e]
 simp only [go_sem,simprocAttr,mc188,mr188,PatD.cells,PatD.cellsL_eq,avC,List.length_map]
 repeat' first
  | (with_reducible refine condK_split _ (fun h=>?_) (fun h=>?_) <;> simp only [go_sem,simprocAttr,h])
  | (refine drw_same ?_; simp only [go_sem,simprocAttr])
  | (refine And.intro (by (try simp only [maxLe,LL]); omega) ?_; try simp only [go_sem,simprocAttr])
  | (intro _)
 all_goals exact ⟨_,rfl⟩
theorem patFmC (p : PatD) (h : p.sz ≤ 1073741824) (hok : p.okB = true) (hf : p.fit) : PatFmC p := by
  have : ∀ (m : Nat) (p : PatD), p.sz < m → p.sz ≤ 1073741824 → p.okB = true → p.fit → PatFmC p := by
    intro m
    induction m with
    | zero => intro p h; omega
    | succ m ih =>
      intro p h h2 hok hf
      obtain ⟨k, n, u, q, ks⟩ := p
      rw [PatD.sz] at h h2
      refine pat_fmC _ _ _ _ _ hok hf h2 fun a ha => ?_
      rw [PatD.okB, PatD.okL_eq, Bool.and_eq_true, List.all_eq_true] at hok
      rw [PatD.fit] at hf
      rw [PatD.szL_eq] at h h2
      have := sumSz_mem PatD.sz ha
      exact ih a (by omega) (by omega) (hok.2 a ha) (PatD.fitL_mem hf.2 ha)
  exact this _ p (Nat.lt_succ_self _) h hok hf
def ExpFmC (x:ExpD):Prop:=∀ (a:Int) (H:List AO),a<=6->Tb H->ACall Tryz.prog 83 [avC x.cells,.p (.i .i64 a)] H (pureQ (.p (.s (x.kf.at a))) H)
theorem kidC {X:List AO} {j:Nat} {k u p:Int} {n t:List UInt8} {rows arms:List (List PV)} {i:Nat} {c:ExpD} {s:List UInt8} (hj:X[j]?=some (.var [.p (.i .i64 k),.p (.s n),.p (.i .i64 u),.p (.s t),.p (.i .i64 p),.p (.l rows),.p (.l arms)]))
  (hg:rows[i]?=some c.cells) (hc:ACall Tryz.prog 83 [avC c.cells,.p (.i .i64 0)] X (pureQ (.p (.s s)) X)):ACall Tryz.prog 187 [.p (.i .i64 (i:Int)),.ptr j 0] X (pureQ (.p (.s s)) X):=by
 refine call187 (by simp) ?_
 have hi:=(List.getElem?_eq_some_iff.1 hg).1
 have hi':(i:Int)<(rows.length:Int):=by omega
 obtain ⟨k0,n0,u0,t0,p0,q0,r0⟩:=c
 simp only [ExpD.cells,avC,List.map_cons,List.map_nil] at hc hg
 simp only [go_sem,simprocAttr,mc187,mr187,hj,hg,hi']
 refine acall_pure hc ?_
 simp only [go_sem,simprocAttr]
 exact ⟨rfl,rfl⟩
theorem atVar (H A:List AO) (o:AO):(H++[o]++A)[H.length]?=some o:=by simp
theorem atVar0 (H:List AO) (o:AO):(H++[o])[H.length]?=some o:=by simp
theorem openC (k:Int) (n:List UInt8) (u:Int) (t:List UInt8) (p:Int) (ks:List ExpD) (as':List ArmD) (hok:(ExpD.mk k n u t p ks as').okB=true) (hfit:(ExpD.mk k n u t p ks as').fit) (hsz:n.length+t.length+ExpD.szL ks+ExpD.szA as'<=1073741824)
  (hk:∀ x∈ks,ExpFmC x) (ha:∀ q e,ArmD.mk q e∈as'->PatFmC q/\ExpFmC e) (hkk:k=8\/k=10\/k=11\/k=12\/k=13) (H:List AO) (hT:Tb H) :
  ACall Tryz.prog 136 [avC (ExpD.cells (.mk k n u t p ks as'))] H (pureQ (.p (.s (ExpD.kf (.mk k n u t p ks as')).f)) H):=by
 refine acall_drop1 ?_ (tf_p _)
 refine call136 (by simp) ?_
 rw [ExpD.fit] at hfit
 have hW:=ExpD.kfL_len ks hfit.2.1
 have hWA:=ExpD.kfA_len as' hfit.2.2
 rw [ExpD.okB,expH] at hok
 simp only [Bool.and_eq_true] at hok
 have hok1:=hok.1.1
 clear hok hfit
 by_cases h10:k=10
 ·subst h10
  obtain ⟨c0,c1,rfl⟩:=len2 (l:=ks) (by simpa using (by simpa using hok1:_/\_).1)
  simp only [ExpD.kfL,wK,ExpD.szL] at hW
  simp only [ExpD.szL] at hsz
  have a0:=(at_len c0.kf 0).1
  have g0:=hk c0 (by simp) 0
  have a1:=(at_len c1.kf 0).1
  have g1:=hk c1 (by simp) 0
  have e:(ExpD.mk 10 n u t p [c0,c1] as').kf.f=[108,101,116,32]++(n++([32,61,32]++(c0.kf.at 0++([32,105,110,32]++c1.kf.at 0)))):=by simp [ExpD.kf,ExpD.kfL,expG]
  rw [e]
  have hX:=fun A=>atVar H A (.var [.p (.i .i64 10),.p (.s n),.p (.i .i64 u),.p (.s t),.p (.i .i64 p),.p (.l [c0.cells,c1.cells]),.p (.l (as'.map ArmD.cells))])
  have hX0:=atVar0 H (.var [.p (.i .i64 10),.p (.s n),.p (.i .i64 u),.p (.s t),.p (.i .i64 p),.p (.l [c0.cells,c1.cells]),.p (.l (as'.map ArmD.cells))])
  have r0:∀ A,ACall _ _ [.p (.i .i64 0),.ptr H.length 0] (_++A) (pureQ (.p (.s (c0.kf.at 0))) (_++A)):=fun A=>kidC (i:=0) (c:=c0) (hX A) (by rfl) (g0 _ (by decide) ((hT.ext _).ext A))
  have r1:∀ A,ACall _ _ [.p (.i .i64 1),.ptr H.length 0] (_++A) (pureQ (.p (.s (c1.kf.at 0))) (_++A)):=fun A=>kidC (i:=1) (c:=c1) (hX A) (by rfl) (g1 _ (by decide) ((hT.ext _).ext A))
  clear e
  generalize c0.kf.at 0=s0 at *
  generalize c1.kf.at 0=s1 at *
  simp only [go_sem,simprocAttr,mc136,mr136,ExpD.cells,ExpD.cellsL,ExpD.cellsA_eq,avC]
  repeat' first
   | (with_reducible refine condK_split _ (fun h=>?_) (fun h=>?_) <;> simp only [go_sem,simprocAttr,h])
   | (with_reducible refine pcall_pure (fun A=>r0 A) (Hext.refl _) ?_; simp only [go_sem,simprocAttr])
   | (with_reducible refine pcall_pure (fun A=>r1 A) (Hext.refl _) ?_; simp only [go_sem,simprocAttr])
   | (refine preClo rfl ?_; simp only [go_sem,simprocAttr])
   | (refine drw_same ?_; simp only [go_sem,simprocAttr])
   | (refine And.intro (by (try simp only [maxLe,LL]); omega) ?_; try simp only [go_sem,simprocAttr])
   | (intro _)
  all_goals first | exact ⟨s2 (by simp),_,rfl⟩ | exact ⟨_,rfl⟩
 by_cases h11:k=11
 ·subst h11
  obtain ⟨c0,c1,rfl⟩:=len2 (l:=ks) (by simpa using (by simpa using hok1:_/\_).1)
  simp only [ExpD.kfL,wK,ExpD.szL] at hW
  simp only [ExpD.szL] at hsz
  have a0:=(at_len c0.kf 0).1
  have g0:=hk c0 (by simp) 0
  have a1:=(at_len c1.kf 0).1
  have g1:=hk c1 (by simp) 0
  have e:(ExpD.mk 11 n u t p [c0,c1] as').kf.f=[108,101,116,32,114,101,99,32]++(n++(32 :: (t++([32,61,32]++(c0.kf.at 0++([32,105,110,32]++c1.kf.at 0)))))):=by simp [ExpD.kf,ExpD.kfL,expG]
  rw [e]
  have hX:=fun A=>atVar H A (.var [.p (.i .i64 11),.p (.s n),.p (.i .i64 u),.p (.s t),.p (.i .i64 p),.p (.l [c0.cells,c1.cells]),.p (.l (as'.map ArmD.cells))])
  have hX0:=atVar0 H (.var [.p (.i .i64 11),.p (.s n),.p (.i .i64 u),.p (.s t),.p (.i .i64 p),.p (.l [c0.cells,c1.cells]),.p (.l (as'.map ArmD.cells))])
  have r0:∀ A,ACall _ _ [.p (.i .i64 0),.ptr H.length 0] (_++A) (pureQ (.p (.s (c0.kf.at 0))) (_++A)):=fun A=>kidC (i:=0) (c:=c0) (hX A) (by rfl) (g0 _ (by decide) ((hT.ext _).ext A))
  have r1:∀ A,ACall _ _ [.p (.i .i64 1),.ptr H.length 0] (_++A) (pureQ (.p (.s (c1.kf.at 0))) (_++A)):=fun A=>kidC (i:=1) (c:=c1) (hX A) (by rfl) (g1 _ (by decide) ((hT.ext _).ext A))
  clear e
  generalize c0.kf.at 0=s0 at *
  generalize c1.kf.at 0=s1 at *
  simp only [go_sem,simprocAttr,mc136,mr136,ExpD.cells,ExpD.cellsL,ExpD.cellsA_eq,avC]
  repeat' first
   | (with_reducible refine condK_split _ (fun h=>?_) (fun h=>?_) <;> simp only [go_sem,simprocAttr,h])
   | (with_reducible refine pcall_pure (fun A=>r0 A) (Hext.refl _) ?_; simp only [go_sem,simprocAttr])
   | (with_reducible refine pcall_pure (fun A=>r1 A) (Hext.refl _) ?_; simp only [go_sem,simprocAttr])
   | (refine preClo rfl ?_; simp only [go_sem,simprocAttr])
   | (refine drw_same ?_; simp only [go_sem,simprocAttr])
   | (refine And.intro (by (try simp only [maxLe,LL]); omega) ?_; try simp only [go_sem,simprocAttr])
   | (intro _)
  all_goals first | exact ⟨s2 (by simp),_,rfl⟩ | exact ⟨_,rfl⟩
 by_cases h8:k=8
 ·subst h8
  obtain ⟨c0,rfl⟩:=len1 (l:=ks) (by simpa using (by simpa using hok1:_/\_).1)
  simp only [ExpD.kfL,wK,ExpD.szL] at hW
  simp only [ExpD.szL] at hsz
  have a0:=(at_len c0.kf 0).1
  have g0:=hk c0 (by simp) 0
  have e:(ExpD.mk 8 n u t p [c0] as').kf.f=[102,117,110,32]++(n++([32,45,62,32]++c0.kf.at 0)):=by simp [ExpD.kf,ExpD.kfL,expG]
  rw [e]
  have hX:=fun A=>atVar H A (.var [.p (.i .i64 8),.p (.s n),.p (.i .i64 u),.p (.s t),.p (.i .i64 p),.p (.l [c0.cells]),.p (.l (as'.map ArmD.cells))])
  have hX0:=atVar0 H (.var [.p (.i .i64 8),.p (.s n),.p (.i .i64 u),.p (.s t),.p (.i .i64 p),.p (.l [c0.cells]),.p (.l (as'.map ArmD.cells))])
  have r0:∀ A,ACall _ _ [.p (.i .i64 0),.ptr H.length 0] (_++A) (pureQ (.p (.s (c0.kf.at 0))) (_++A)):=fun A=>kidC (i:=0) (c:=c0) (hX A) (by rfl) (g0 _ (by decide) ((hT.ext _).ext A))
  clear e
  generalize c0.kf.at 0=s0 at *
  simp only [go_sem,simprocAttr,mc136,mr136,ExpD.cells,ExpD.cellsL,ExpD.cellsA_eq,avC]
  repeat' first
   | (with_reducible refine condK_split _ (fun h=>?_) (fun h=>?_) <;> simp only [go_sem,simprocAttr,h])
   | (with_reducible refine pcall_pure (fun A=>r0 A) (Hext.refl _) ?_; simp only [go_sem,simprocAttr])
   | (refine preClo rfl ?_; simp only [go_sem,simprocAttr])
   | (refine drw_same ?_; simp only [go_sem,simprocAttr])
   | (refine And.intro (by (try simp only [maxLe,LL]); omega) ?_; try simp only [go_sem,simprocAttr])
   | (intro _)
  all_goals first | exact ⟨s2 (by simp),_,rfl⟩ | exact ⟨_,rfl⟩
 by_cases h12:k=12
 ·subst h12
  obtain ⟨c0,c1,c2,rfl⟩:=len3 (l:=ks) (by simpa using (by simpa using hok1:_/\_).1)
  simp only [ExpD.kfL,wK,ExpD.szL] at hW
  simp only [ExpD.szL] at hsz
  have a0:=(at_len c0.kf 0).1
  have g0:=hk c0 (by simp) 0
  have a1:=(at_len c1.kf 0).1
  have g1:=hk c1 (by simp) 0
  have a2:=(at_len c2.kf 0).1
  have g2:=hk c2 (by simp) 0
  have e:(ExpD.mk 12 n u t p [c0,c1,c2] as').kf.f=[105,102,32]++(c0.kf.at 0++([32,116,104,101,110,32]++(c1.kf.at 0++([32,101,108,115,101,32]++c2.kf.at 0)))):=by simp [ExpD.kf,ExpD.kfL,expG]
  rw [e]
  have hX:=fun A=>atVar H A (.var [.p (.i .i64 12),.p (.s n),.p (.i .i64 u),.p (.s t),.p (.i .i64 p),.p (.l [c0.cells,c1.cells,c2.cells]),.p (.l (as'.map ArmD.cells))])
  have hX0:=atVar0 H (.var [.p (.i .i64 12),.p (.s n),.p (.i .i64 u),.p (.s t),.p (.i .i64 p),.p (.l [c0.cells,c1.cells,c2.cells]),.p (.l (as'.map ArmD.cells))])
  have r0:ACall _ _ [.p (.i .i64 0),.ptr H.length 0] _ (pureQ (.p (.s (c0.kf.at 0))) _):=kidC (i:=0) (c:=c0) hX0 (by rfl) (g0 _ (by decide) (hT.ext _))
  have r1:ACall _ _ [.p (.i .i64 1),.ptr H.length 0] _ (pureQ (.p (.s (c1.kf.at 0))) _):=kidC (i:=1) (c:=c1) hX0 (by rfl) (g1 _ (by decide) (hT.ext _))
  have r2:ACall _ _ [.p (.i .i64 2),.ptr H.length 0] _ (pureQ (.p (.s (c2.kf.at 0))) _):=kidC (i:=2) (c:=c2) hX0 (by rfl) (g2 _ (by decide) (hT.ext _))
  clear e
  generalize c0.kf.at 0=s0 at *
  generalize c1.kf.at 0=s1 at *
  generalize c2.kf.at 0=s2 at *
  simp only [go_sem,simprocAttr,mc136,mr136,ExpD.cells,ExpD.cellsL,ExpD.cellsA_eq,avC]
  repeat' first
   | (with_reducible refine condK_split _ (fun h=>?_) (fun h=>?_) <;> simp only [go_sem,simprocAttr,h])
   | (with_reducible refine acall_pure (r0) ?_; simp only [go_sem,simprocAttr])
   | (with_reducible refine acall_pure (r1) ?_; simp only [go_sem,simprocAttr])
   | (with_reducible refine acall_pure (r2) ?_; simp only [go_sem,simprocAttr])
   | (refine drw_same ?_; simp only [go_sem,simprocAttr])
   | (refine And.intro (by (try simp only [maxLe,LL]); omega) ?_; try simp only [go_sem,simprocAttr])
   | (intro _)
  all_goals first | exact ⟨s2 (by simp),_,rfl⟩ | exact ⟨_,rfl⟩
 obtain rfl:k=13:=by omega
 obtain ⟨c0,rfl⟩:=len1 (l:=ks) (by simpa using (by simpa using hok1:_/\_).1)
 simp only [ExpD.kfL,wK,ExpD.szL] at hW
 simp only [ExpD.szL] at hsz
 have a0:=(at_len c0.kf 0).1
 have g0:=hk c0 (by simp) 0
 have hAl:=armF_len (ExpD.kfA as')
 have hLA:as'.length<=1073741824:=by have:=sumSz_len ArmD.sz as'; rw [<- ExpD.szA_eq] at this; omega
 have e:(ExpD.mk 13 n u t p [c0] as').kf.f=[109,97,116,99,104,32]++(c0.kf.at 0++([32,119,105,116,104]++(((as'.map ArmD.kf).map armF).flatten++[32,101,110,100]))):=by simp [ExpD.kf,ExpD.kfL,expG,ExpD.kfA_eq]
 rw [e]
 rw [ExpD.kfA_eq] at hAl hWA
 have hX0:=atVar0 H (.var [.p (.i .i64 13),.p (.s n),.p (.i .i64 u),.p (.s t),.p (.i .i64 p),.p (.l [c0.cells]),.p (.l (as'.map ArmD.cells))])
 have r0:ACall _ _ [.p (.i .i64 0),.ptr H.length 0] _ (pureQ (.p (.s (c0.kf.at 0))) _):=kidC (i:=0) (c:=c0) hX0 (by rfl) (g0 _ (by decide) (hT.ext _))
 clear e
 generalize c0.kf.at 0=s0 at *
 simp only [go_sem,simprocAttr,mc136,mr136,ExpD.cells,ExpD.cellsL,ExpD.cellsA_eq,avC]
 repeat' first
  | (with_reducible refine condK_split _ (fun h=>?_) (fun h=>?_) <;> simp only [go_sem,simprocAttr,h,List.length_map])
  | (with_reducible refine acall_pure (r0) ?_; simp only [go_sem,simprocAttr,List.length_map])
  | (refine drw_same ?_; simp only [go_sem,simprocAttr,List.length_map])
  | (refine And.intro (by (try simp only [maxLe,LL]); omega) ?_; try simp only [go_sem,simprocAttr,List.length_map])
  | (intro _)
 have hfl:∀ x,(((as'.take x).map ArmD.kf).map armF).flatten.length<=((as'.map ArmD.kf).map armF).flatten.length:=fun x=>by
  have h:=List.take_append_drop x as'
  have h2:((as'.map ArmD.kf).map armF).flatten=(((as'.take x).map ArmD.kf).map armF).flatten++(((as'.drop x).map ArmD.kf).map armF).flatten:=by
   rw [<- List.flatten_append,<- List.map_append,<- List.map_append,h]
  rw [h2,List.length_append]; omega
 refine ⟨Nat × List AO,[2,4,67,68,69],fun x st=>(x.1<=as'.length/\∃ G,x.2=H++G)/\st=⟨[(2,.p (.s [])),(4,.p (.s ([109,97,116,99,104,32]++(s0++([32,119,105,116,104]++(((as'.take x.1).map ArmD.kf).map armF).flatten))))),(67,.p (.l (as'.map ArmD.cells))),(68,.p (.i .i64 as'.length)),(69,.p (.i .i64 x.1))],[],x.2⟩,fun x=>as'.length - x.1,⟨(0,H++[.var [.p (.i .i64 13),.p (.s n),.p (.i .i64 u),.p (.s t),.p (.i .i64 p),.p (.l [c0.cells]),.p (.l (as'.map ArmD.cells))]]),?_⟩,?_⟩
 ·simp only [go_sem,simprocAttr]
  exact ⟨⟨Nat.zero_le _,_,rfl⟩,by simp⟩
 rintro ⟨y,Z⟩ _ ⟨⟨hy,hZ⟩,rfl⟩
 simp only at hy hZ
 have hTZ:∀ A,Tb (Z++A):=fun A=>by obtain ⟨G,rfl⟩:=hZ; exact (hT.ext G).ext A
 have hZ':∀ A,∃ G,Z++A=H++G:=fun A=>by obtain ⟨G,rfl⟩:=hZ; exact ⟨G++A,by simp⟩
 have f0:=hfl y
 by_cases hlt:y<as'.length
 ·have d2:decide ((y:Int)<(as'.length:Int))=true:=by simp; omega
  have hlt':(y:Int)<(as'.length:Int):=by omega
  have hg:(as'.map ArmD.cells)[y]?=some (ArmD.cells as'[y]):=by simp [hlt]
  have hc:∀ q e,as'[y]=ArmD.mk q e->PatFmC q/\ExpFmC e:=fun q e he=>ha q e (by rw [<- he]; exact List.getElem_mem hlt)
  have ht:(((as'.take (y+1)).map ArmD.kf).map armF).flatten=(((as'.take y).map ArmD.kf).map armF).flatten++armF as'[y].kf:=by rw [List.take_succ_eq_append_getElem hlt]; simp only [List.map_append,List.flatten_append,List.map_cons,List.map_nil,List.flatten_cons,List.flatten_nil,List.append_nil]
  have f1:=hfl (y+1)
  rw [ht,List.length_append] at f1
  generalize as'[y]=c at hg hc ht f1
  obtain ⟨q,e⟩:=c
  obtain ⟨h1,h2⟩:=hc _ _ rfl
  have h1:=h1 0
  have h2:=h2 0
  simp only [ArmD.kf,armF] at ht f1
  rw [List.length_append,List.length_append,List.length_append] at f1
  generalize q.kf.at 0=sq at h1 ht f1
  generalize e.kf.at 0=se at h2 ht f1
  obtain ⟨qk,qn,qu,qp,qks⟩:=q
  obtain ⟨ck,cn,cu,ct,cp,cks,cas⟩:=e
  simp only [armC,PatD.cells,ExpD.cells,avC,List.map_cons,List.map_nil,List.cons_append,List.nil_append] at hg h1 h2
  generalize (((as'.take y).map ArmD.kf).map armF).flatten=fl at *
  simp only [go_sem,simprocAttr,d2,hlt',hg,List.length_map]
  repeat' first
   | (with_reducible refine condK_split _ (fun h=>?_) (fun h=>?_) <;> simp only [go_sem,simprocAttr,h,wrN y (by omega)])
   | (with_reducible refine pcall_pure (fun A=>h1 _ (by decide) (by rw [List.append_assoc]; exact hTZ _)) (Hext.refl _) ?_; simp only [go_sem,simprocAttr,wrN y (by omega)])
   | (with_reducible refine pcall_pure (fun A=>h2 _ (by decide) (by rw [List.append_assoc]; exact hTZ _)) (Hext.refl _) ?_; simp only [go_sem,simprocAttr,wrN y (by omega)])
   | (refine drw_same ?_; simp only [go_sem,simprocAttr,wrN y (by omega)])
   | (refine And.intro (by (try simp only [maxLe,LL]); omega) ?_; try simp only [go_sem,simprocAttr,wrN y (by omega)])
   | (intro _)
  refine ⟨(y+1,_),⟨⟨by omega,hZ' [AO.var [.p (.i .i64 qk),.p (.s qn),.p (.i .i64 qu),.p (.i .i64 qp),.p (.l (PatD.cellsL qks)),.p (.i .i64 ck),.p (.s cn),.p (.i .i64 cu),.p (.s ct),.p (.i .i64 cp),.p (.l (ExpD.cellsL cks)),.p (.l (ExpD.cellsA cas))]]⟩,?_⟩,by simp only; omega⟩
  simp only [ht,List.append_assoc,List.cons_append,List.nil_append]
 ·have d2:decide ((y:Int)<(as'.length:Int))=false:=by simp; omega
  rw [List.take_of_length_le (by omega)]
  simp only [go_sem,simprocAttr,d2]
  repeat' first
   | (with_reducible refine condK_split _ (fun h=>?_) (fun h=>?_) <;> simp only [go_sem,simprocAttr,h])
   | (refine drw_same ?_; simp only [go_sem,simprocAttr])
   | (refine And.intro (by (try simp only [maxLe,LL]); omega) ?_; try simp only [go_sem,simprocAttr])
   | (intro _)
  first | exact hZ | exact ⟨s2 (by simp),hZ⟩
theorem opL_le (n:List UInt8):(opL n).2.1<=6/\(opL n).2.2<=6:=by unfold opL; (repeat' split) <;> simp
theorem arity_cases (n:List UInt8):arity n=0\/arity n=1\/arity n = -1:=by unfold arity; (repeat' split) <;> simp
theorem kf_b (k:Int) (n:List UInt8) (u:Int) (t:List UInt8) (p:Int) (ks:List ExpD) (as':List ArmD):(ExpD.mk k n u t p ks as').kf.b=(decide (k=6) && decide ((ks.length:Int)=0)):=by
 rw [ExpD.kf,ExpD.kfL_eq]
 by_cases h6:k=6
 ·subst h6
  by_cases hl:ks.length=0
  ·simp [expG,hl]
  ·have:¬ (ks.length:Int)=0:=by omega
   simp only [expG,List.length_map,if_neg hl,decide_eq_false this]
   rfl
 ·have hb:∀ {c:Prop} [Decidable c] {x y:KF},x.b=false->y.b=false->(if c then x else y).b=false:=fun h1 h2=>by split <;> assumption
  rw [decide_eq_false h6,Bool.false_and,expG]
  repeat' refine hb ?_ ?_
  all_goals first | rfl | exact decide_eq_false h6
theorem kf_bare {k:Int} {n:List UInt8} {u:Int} {t:List UInt8} {p:Int} {ks:List ExpD} {as':List ArmD} (h:(ExpD.mk k n u t p ks as').kf.b=true):(ExpD.mk k n u t p ks as').kf.at 7=40 :: ((ExpD.mk k n u t p ks as').kf.at 5++[41]):=by
 rw [kf_b,Bool.and_eq_true,decide_eq_true_eq,decide_eq_true_eq] at h
 obtain ⟨rfl,hl⟩:=h
 obtain rfl:=len0 hl
 simp [ExpD.kf,ExpD.kfL,expG,KF.at,rnd]
theorem exp_fmC (k:Int) (n:List UInt8) (u:Int) (t:List UInt8) (p:Int) (ks:List ExpD) (as':List ArmD) (hok:(ExpD.mk k n u t p ks as').okB=true) (hfit:(ExpD.mk k n u t p ks as').fit) (hsz:n.length+t.length+ExpD.szL ks+ExpD.szA as'<=1073741824)
  (hk:∀ x∈ks,ExpFmC x) (harm:∀ q e,ArmD.mk q e∈as'->PatFmC q/\ExpFmC e):ExpFmC (.mk k n u t p ks as'):=by
 intro a H ha hT
 have hop:=openC k n u t p ks as' hok hfit hsz hk harm
 have hkl:=ExpD.kf_len _ hfit
 refine acall_drop1 ?_ (tf_p _)
 refine call83 (by simp) ?_
 rw [ExpD.fit] at hfit
 have hW:=ExpD.kfL_len ks hfit.2.1
 have hu:=hfit.1
 have hLen:ks.length<=1073741824:=by have:=sumSz_len ExpD.sz ks; rw [<- ExpD.szL_eq] at this; omega
 have hF:∀ z,z<=6->FormC 83 (fun x:ExpD=>avC x.cells) (fun x=>x.kf.at z) ks z:=fun z hz x hx H hT=>hk x hx z H hz hT
 have hj:∀ (sep:List UInt8),sep.length<=10->∀ z,(joinD sep (ks.map fun x=>x.kf.at z)).length<=200000000000:=fun sep hs z=>by
  have:=joinK_len sep hs z (ExpD.kfL ks)
  rw [ExpD.kfL_eq,List.map_map] at this
  rw [ExpD.kfL_eq] at hW
  exact Nat.le_trans this (by omega)
 rw [ExpD.okB,expH] at hok
 simp only [Bool.and_eq_true] at hok
 have hok1:=hok.1.1
 clear hok hfit
 by_cases h1:k=1
 ·subst h1
  have e:(ExpD.mk 1 n u t p ks as').kf.at a=decZ u:=by simp [ExpD.kf,expG,KF.at,rnd]; omega
  rw [e]
  have h0:0<=u:=by simp at hok1; exact hok1.2.2.1
  simp only [go_sem,simprocAttr,mc83,mr83,ExpD.cells,ExpD.cellsL_eq,ExpD.cellsA_eq,avC,List.length_map]
  refine acall_pure (itoaC (hT.ext _) h0 hu) ?_
  simp only [go_sem,simprocAttr]
  exact ⟨_,rfl⟩
 by_cases h2:k=2
 ·subst h2
  have e:(ExpD.mk 2 n u t p ks as').kf.at a=quoD t:=by simp [ExpD.kf,expG,KF.at,rnd]; omega
  rw [e]
  simp only [go_sem,simprocAttr,mc83,mr83,ExpD.cells,ExpD.cellsL_eq,ExpD.cellsA_eq,avC,List.length_map]
  repeat' first
   | (with_reducible refine condK_split _ (fun h=>?_) (fun h=>?_) <;> simp only [go_sem,simprocAttr,h])
   | (with_reducible refine acall_pure (quotedC (by omega) _) ?_; simp only [go_sem,simprocAttr])
   | (refine drw_same ?_; simp only [go_sem,simprocAttr])
   | (refine And.intro (by (try simp only [maxLe,LL]); omega) ?_; try simp only [go_sem,simprocAttr])
   | (intro _)
  all_goals exact ⟨_,rfl⟩
 by_cases h3:k=3
 ·subst h3
  have e:(ExpD.mk 3 n u t p ks as').kf.at a=boolW u:=by simp [ExpD.kf,expG,KF.at,rnd]; omega
  rw [e]
  simp only [go_sem,simprocAttr,mc83,mr83,ExpD.cells,ExpD.cellsL_eq,ExpD.cellsA_eq,avC,List.length_map]
  repeat' first
   | (with_reducible refine condK_split _ (fun h=>?_) (fun h=>?_) <;> simp only [go_sem,simprocAttr,h])
   | (with_reducible refine acall_pure (boolC _ _) ?_; simp only [go_sem,simprocAttr])
   | (refine drw_same ?_; simp only [go_sem,simprocAttr])
   | (refine And.intro (by (try simp only [maxLe,LL]); omega) ?_; try simp only [go_sem,simprocAttr])
   | (intro _)
  all_goals exact ⟨_,rfl⟩
 by_cases h4:k=4
 ·subst h4
  have e:(ExpD.mk 4 n u t p ks as').kf.at a=[40,41]:=by simp [ExpD.kf,expG,KF.at,rnd]; omega
  rw [e]
  simp only [go_sem,simprocAttr,mc83,mr83,ExpD.cells,ExpD.cellsL_eq,ExpD.cellsA_eq,avC,List.length_map]
  repeat' first
   | (with_reducible refine condK_split _ (fun h=>?_) (fun h=>?_) <;> simp only [go_sem,simprocAttr,h])
   | (refine drw_same ?_; simp only [go_sem,simprocAttr])
   | (refine And.intro (by (try simp only [maxLe,LL]); omega) ?_; try simp only [go_sem,simprocAttr])
   | (intro _)
  all_goals exact ⟨_,rfl⟩
 by_cases h5:k=5
 ·subst h5
  have e:(ExpD.mk 5 n u t p ks as').kf.at a=n:=by simp [ExpD.kf,expG,KF.at,rnd]; omega
  rw [e]
  simp only [go_sem,simprocAttr,mc83,mr83,ExpD.cells,ExpD.cellsL_eq,ExpD.cellsA_eq,avC,List.length_map]
  repeat' first
   | (with_reducible refine condK_split _ (fun h=>?_) (fun h=>?_) <;> simp only [go_sem,simprocAttr,h])
   | (refine drw_same ?_; simp only [go_sem,simprocAttr])
   | (refine And.intro (by (try simp only [maxLe,LL]); omega) ?_; try simp only [go_sem,simprocAttr])
   | (intro _)
  all_goals exact ⟨_,rfl⟩
 by_cases h7:k=7
 ·subst h7
  have e:(ExpD.mk 7 n u t p ks as').kf.at a=40 :: (joinD [44,32] (ks.map fun x=>x.kf.at 0)++[41]):=by simp [ExpD.kf,ExpD.kfL_eq,expG,KF.at,rnd,Function.comp_def]; omega
  rw [e]
  have hj2:=hj [44,32] (by decide) 0
  have hfm:=fun H (hT:Tb H)=>formsExpC (hF 0 (by decide)) (sep:=[44,32]) (by decide) hLen (by omega) hT
  clear e
  generalize joinD [44,32] (ks.map fun x=>x.kf.at 0)=sj at hj2 hfm
  simp only [go_sem,simprocAttr,mc83,mr83,ExpD.cells,ExpD.cellsL_eq,ExpD.cellsA_eq,avC,List.length_map]
  repeat' first
   | (with_reducible refine condK_split _ (fun h=>?_) (fun h=>?_) <;> simp only [go_sem,simprocAttr,h])
   | (with_reducible refine acall_pure (hfm _ (hT.ext _)) ?_; simp only [go_sem,simprocAttr])
   | (refine drw_same ?_; simp only [go_sem,simprocAttr])
   | (refine And.intro (by (try simp only [maxLe,LL]); omega) ?_; try simp only [go_sem,simprocAttr])
   | (intro _)
  all_goals first | exact ⟨s2 (by simp),_,rfl⟩ | exact ⟨_,rfl⟩
 by_cases h14:k=14
 ·subst h14
  obtain ⟨c0,c1,rfl⟩:=len2 (l:=ks) (by simpa using (by simpa using hok1:_/\_).1)
  simp only [ExpD.kfL,wK,ExpD.szL] at hW
  simp only [ExpD.szL] at hsz
  obtain ⟨o1,o2⟩:=opL_le n
  have a0:=(at_len c0.kf (opL n).2.1).1
  have a1:=(at_len c1.kf (opL n).2.2).1
  have g0:=hk c0 (by simp) (opL n).2.1
  have g1:=hk c1 (by simp) (opL n).2.2
  have e:(ExpD.mk 14 n u t p [c0,c1] as').kf.at a=rnd (c0.kf.at (opL n).2.1++(32 :: (n++(32 :: c1.kf.at (opL n).2.2)))) (opL n).1 a:=by simp [ExpD.kf,ExpD.kfL,expG,KF.at]
  rw [e]
  clear e hop hkl hF hj
  have hlv:=levelsC n
  generalize c0.kf.at (opL n).2.1=s0 at *
  generalize c1.kf.at (opL n).2.2=s1 at *
  generalize (opL n).2.1=l1 at *
  generalize (opL n).2.2=l2 at *
  generalize (opL n).1=l0 at *
  obtain ⟨k0,n0,u0,t0,p0,q0,r0⟩:=c0
  obtain ⟨k1,n1,u1,t1,p1,q1,r1⟩:=c1
  simp only [ExpD.cells,avC,List.map_cons,List.map_nil,ExpD.cellsA_eq] at g0 g1
  simp only [go_sem,simprocAttr,mc83,mr83,ExpD.cells,ExpD.cellsL,ExpD.cellsA_eq,avC,List.length_map]
  repeat' first
   | (with_reducible refine condK_split _ (fun h=>?_) (fun h=>?_) <;> simp only [go_sem,simprocAttr,h])
   | (with_reducible refine acall_pure (hlv _) ?_; simp only [go_sem,simprocAttr])
   | (with_reducible refine pcall_pure (fun A=>g0 _ (by omega) ((hT.ext _).ext _)) (Hext.refl _) ?_; simp only [go_sem,simprocAttr])
   | (with_reducible refine pcall_pure (fun A=>g1 _ (by omega) ((hT.ext _).ext _)) (Hext.refl _) ?_; simp only [go_sem,simprocAttr])
   | (with_reducible refine acall_pure (roundC (by simp only [List.length_append,List.length_cons,List.length_nil]; omega) _ _ _) ?_; simp only [go_sem,simprocAttr])
   | (refine drw_same ?_; simp only [go_sem,simprocAttr])
   | (refine And.intro (by (try simp only [maxLe,LL]); omega) ?_; try simp only [go_sem,simprocAttr])
   | (intro _)
  all_goals first | exact ⟨s2 (by simp),_,rfl⟩ | exact ⟨_,rfl⟩
 by_cases h6:k=6
 ·subst h6
  by_cases hl:(ks.length:Int)=0
  ·obtain rfl:=len0 hl
   have e:(ExpD.mk 6 n u t p [] as').kf.at a=n:=by simp [ExpD.kf,ExpD.kfL,expG,KF.at,rnd]; omega
   rw [e]
   simp only [go_sem,simprocAttr,mc83,mr83,ExpD.cells,ExpD.cellsL_eq,ExpD.cellsA_eq,avC,List.length_map]
   repeat' first
    | (with_reducible refine condK_split _ (fun h=>?_) (fun h=>?_) <;> simp only [go_sem,simprocAttr,h])
    | (refine drw_same ?_; simp only [go_sem,simprocAttr])
    | (refine And.intro (by (try simp only [maxLe,LL]); omega) ?_; try simp only [go_sem,simprocAttr])
    | (intro _)
   all_goals exact ⟨_,rfl⟩
  ·obtain ⟨c0,rfl⟩:=len1 (l:=ks) (by simp at hok1 hl; have:=hok1.1; have:=List.length_pos_iff.2 hl; omega)
   have g0:=hk c0 (by simp) 6
   simp only [ExpD.kfL,wK,ExpD.szL] at hW
   simp only [ExpD.szL] at hsz
   have a0:=(at_len c0.kf 6).1
   have e:(ExpD.mk 6 n u t p [c0] as').kf.at a=rnd (n++(32 :: c0.kf.at 6)) 5 a:=by simp [ExpD.kf,ExpD.kfL,expG,KF.at]
   rw [e]
   clear e hop hkl hF hj
   generalize c0.kf.at 6=s0 at *
   obtain ⟨k0,n0,u0,t0,p0,q0,r0⟩:=c0
   simp only [ExpD.cells,avC,List.map_cons,List.map_nil,ExpD.cellsA_eq] at g0
   simp only [go_sem,simprocAttr,mc83,mr83,ExpD.cells,ExpD.cellsL,ExpD.cellsA_eq,avC,List.length_map]
   repeat' first
    | (with_reducible refine condK_split _ (fun h=>?_) (fun h=>?_) <;> simp only [go_sem,simprocAttr,h])
    | (with_reducible refine pcall_pure (fun A=>g0 _ (by decide) ((hT.ext _).ext _)) (Hext.refl _) ?_; simp only [go_sem,simprocAttr])
    | (with_reducible refine acall_pure (roundC (by simp only [List.length_append,List.length_cons,List.length_nil]; omega) _ _ _) ?_; simp only [go_sem,simprocAttr])
    | (refine drw_same ?_; simp only [go_sem,simprocAttr])
    | (refine And.intro (by (try simp only [maxLe,LL]); omega) ?_; try simp only [go_sem,simprocAttr])
    | (intro _)
   all_goals first | exact ⟨s2 (by simp),_,rfl⟩ | exact ⟨_,rfl⟩
 by_cases h15:k=15
 ·subst h15
  by_cases hl:(ks.length:Int)=0
  ·obtain rfl:=len0 hl
   have e:(ExpD.mk 15 n u t p [] as').kf.at a=n:=by simp [ExpD.kf,ExpD.kfL,expG,KF.at,rnd]; omega
   rw [e]
   simp only [go_sem,simprocAttr,mc83,mr83,ExpD.cells,ExpD.cellsL_eq,ExpD.cellsA_eq,avC,List.length_map]
   repeat' first
    | (with_reducible refine condK_split _ (fun h=>?_) (fun h=>?_) <;> simp only [go_sem,simprocAttr,h])
    | (refine drw_same ?_; simp only [go_sem,simprocAttr])
    | (refine And.intro (by (try simp only [maxLe,LL]); omega) ?_; try simp only [go_sem,simprocAttr])
    | (intro _)
   all_goals exact ⟨_,rfl⟩
  ·obtain ⟨c0,rfl⟩:=len1 (l:=ks) (by have h1:(ks.length:Int)=arity n:=(by simp at hok1; exact hok1.1); rcases arity_cases n with h | h | h <;> omega)
   have g0:=hk c0 (by simp) 6
   simp only [ExpD.kfL,wK,ExpD.szL] at hW
   simp only [ExpD.szL] at hsz
   have a0:=(at_len c0.kf 6).1
   have e:(ExpD.mk 15 n u t p [c0] as').kf.at a=rnd (n++(32 :: c0.kf.at 6)) 5 a:=by simp [ExpD.kf,ExpD.kfL,expG,KF.at]
   rw [e]
   clear e hop hkl hF hj
   generalize c0.kf.at 6=s0 at *
   obtain ⟨k0,n0,u0,t0,p0,q0,r0⟩:=c0
   simp only [ExpD.cells,avC,List.map_cons,List.map_nil,ExpD.cellsA_eq] at g0
   simp only [go_sem,simprocAttr,mc83,mr83,ExpD.cells,ExpD.cellsL,ExpD.cellsA_eq,avC,List.length_map]
   repeat' first
    | (with_reducible refine condK_split _ (fun h=>?_) (fun h=>?_) <;> simp only [go_sem,simprocAttr,h])
    | (with_reducible refine pcall_pure (fun A=>g0 _ (by decide) ((hT.ext _).ext _)) (Hext.refl _) ?_; simp only [go_sem,simprocAttr])
    | (with_reducible refine acall_pure (roundC (by simp only [List.length_append,List.length_cons,List.length_nil]; omega) _ _ _) ?_; simp only [go_sem,simprocAttr])
    | (refine drw_same ?_; simp only [go_sem,simprocAttr])
    | (refine And.intro (by (try simp only [maxLe,LL]); omega) ?_; try simp only [go_sem,simprocAttr])
    | (intro _)
   all_goals first | exact ⟨s2 (by simp),_,rfl⟩ | exact ⟨_,rfl⟩
 by_cases h9:k=9
 ·subst h9
  obtain ⟨c0,c1,rfl⟩:=len2 (l:=ks) (by simpa using (by simpa using hok1:_/\_).1)
  simp only [ExpD.kfL,wK,ExpD.szL] at hW
  simp only [ExpD.szL] at hsz
  have a0:=(at_len c0.kf 5).1
  have a1:=(at_len c1.kf 6).1
  have g0:=hk c0 (by simp) 5
  have g1:=hk c1 (by simp) 6
  have e:(ExpD.mk 9 n u t p [c0,c1] as').kf.at a=rnd (c0.kf.at (if c0.kf.b then 7 else 5)++(32 :: c1.kf.at 6)) 5 a:=by simp [ExpD.kf,ExpD.kfL,expG,KF.at]
  rw [e]
  clear e hop hkl hF hj
  obtain ⟨k0,n0,u0,t0,p0,q0,r0⟩:=c0
  obtain ⟨k1,n1,u1,t1,p1,q1,r1⟩:=c1
  have hb:=@kf_bare k0 n0 u0 t0 p0 q0 r0
  have hb2:=kf_b k0 n0 u0 t0 p0 q0 r0
  generalize (ExpD.mk k0 n0 u0 t0 p0 q0 r0).kf=f0 at *
  generalize (ExpD.mk k1 n1 u1 t1 p1 q1 r1).kf.at 6=s1 at *
  simp only [ExpD.cells,avC,List.map_cons,List.map_nil,ExpD.cellsL_eq,ExpD.cellsA_eq] at g0 g1
  simp only [go_sem,simprocAttr,mc83,mr83,ExpD.cells,ExpD.cellsL_eq,ExpD.cellsA_eq,avC,List.length_map]
  repeat' first
   | (with_reducible refine condK_split _ (fun h=>?_) (fun h=>?_) <;> simp only [go_sem,simprocAttr,h,List.length_map])
   | (with_reducible refine acall_pure (g0 _ (by decide) (hT.ext _)) ?_; simp only [go_sem,simprocAttr,List.length_map])
   | (with_reducible refine acall_pure (g1 _ (by decide) (hT.ext _)) ?_; simp only [go_sem,simprocAttr,List.length_map])
   | (with_reducible refine acall_pure (roundC (by simp only [List.length_append,List.length_cons,List.length_nil]; omega) _ _ _) ?_; simp only [go_sem,simprocAttr,List.length_map])
   | (refine drw_same ?_; simp only [go_sem,simprocAttr,List.length_map])
   | (refine And.intro (by (try simp only [maxLe,LL]); omega) ?_; try simp only [go_sem,simprocAttr,List.length_map])
   | (intro _)
  all_goals refine ⟨s2 ?_,_,rfl⟩
  ·rename_i h01 _
   have hbt:f0.b=true:=by rw [hb2,h01,h]; rfl
   rw [if_pos hbt,hb hbt]
   simp
  ·have hbf:f0.b=false:=by rw [hb2,h,Bool.and_false]
   rw [hbf]; rfl
  ·have hbf:f0.b=false:=by rw [hb2,h,Bool.false_and]
   rw [hbf]; rfl
 have hkk:k=8\/k=10\/k=11\/k=12\/k=13:=by
  rw [if_neg h1,if_neg h2,if_neg h3,if_neg h4,if_neg h5,if_neg h6,if_neg h7] at hok1
  by_cases h8:k=8
  ·exact .inl h8
  by_cases h10:k=10
  ·exact .inr (.inl h10)
  by_cases h11:k=11
  ·exact .inr (.inr (.inl h11))
  by_cases h12:k=12
  ·exact .inr (.inr (.inr (.inl h12)))
  by_cases h13:k=13
  ·exact .inr (.inr (.inr (.inr h13)))
  rw [if_neg h8,if_neg h9,if_neg h10,if_neg h11,if_neg h12,if_neg h13,if_neg h14,if_neg h15] at hok1
  cases hok1
 have hop:=hop hkk
 have e:(ExpD.mk k n u t p ks as').kf.at a=rnd (ExpD.mk k n u t p ks as').kf.f 0 a:=by
  rw [KF.at]
  congr 1
  rw [ExpD.kf,expG]
  rcases hkk with rfl | rfl | rfl | rfl | rfl <;> rfl
 rw [e]
 clear e
 rw [ExpD.sz] at hkl
 generalize (ExpD.mk k n u t p ks as').kf.f=s at *
 simp only [ExpD.cells,avC,List.map_cons,List.map_nil,ExpD.cellsL_eq,ExpD.cellsA_eq] at hop
 have d1:decide (k=1)=false:=decide_eq_false h1
 have d2:decide (k=2)=false:=decide_eq_false h2
 have d3:decide (k=3)=false:=decide_eq_false h3
 have d4:decide (k=4)=false:=decide_eq_false h4
 have d5:decide (k=5)=false:=decide_eq_false h5
 have d6:decide (k=6)=false:=decide_eq_false h6
 have d7:decide (k=7)=false:=decide_eq_false h7
 have d9:decide (k=9)=false:=decide_eq_false h9
 have d14:decide (k=14)=false:=decide_eq_false h14
 have d15:decide (k=15)=false:=decide_eq_false h15
 simp only [go_sem,simprocAttr,mc83,mr83,ExpD.cells,ExpD.cellsL_eq,ExpD.cellsA_eq,avC,List.length_map,d1,d2,d3,d4,d5,d6,d7,d9,d14,d15]
 repeat' first
  | (with_reducible refine condK_split _ (fun h=>?_) (fun h=>?_) <;> simp only [go_sem,simprocAttr,h])
  | (with_reducible refine acall_pure (hop _ (hT.ext _)) ?_; simp only [go_sem,simprocAttr])
  | (with_reducible refine acall_pure (roundC (by omega) _ _ _) ?_; simp only [go_sem,simprocAttr])
  | (refine drw_same ?_; simp only [go_sem,simprocAttr])
  | (refine And.intro (by (try simp only [maxLe,LL]); omega) ?_; try simp only [go_sem,simprocAttr])
  | (intro _)
 all_goals exact ⟨_,rfl⟩
theorem expFmC (p : ExpD) (h : p.sz ≤ 1073741824) (hok : p.okB = true) (hf : p.fit) : ExpFmC p := by
  have : ∀ (m : Nat) (p : ExpD), p.sz < m → p.sz ≤ 1073741824 → p.okB = true → p.fit → ExpFmC p := by
    intro m
    induction m with
    | zero => intro p h; omega
    | succ m ih =>
      intro p h h2 hok hf
      obtain ⟨k, n, u, t, q, ks, as'⟩ := p
      rw [ExpD.sz] at h h2
      have hok2 := hok
      have hf2 := hf
      rw [ExpD.okB, ExpD.okL_eq, ExpD.okA_eq, Bool.and_eq_true, Bool.and_eq_true, List.all_eq_true, List.all_eq_true] at hok
      rw [ExpD.fit] at hf
      refine exp_fmC _ _ _ _ _ _ _ hok2 hf2 h2 (fun a ha => ?_) fun q e ha => ?_
      · rw [ExpD.szL_eq] at h h2
        have := sumSz_mem ExpD.sz ha
        exact ih a (by omega) (by omega) (hok.2.1 a ha) (ExpD.fitL_mem hf.2.1 ha)
      · rw [ExpD.szA_eq] at h h2
        have := sumSz_mem ArmD.sz ha
        rw [ArmD.sz] at this
        have h3 := hok.2.2 _ ha
        rw [ArmD.okB, Bool.and_eq_true] at h3
        have h4 := ExpD.fitA_mem hf.2.2 ha
        rw [ArmD.fit] at h4
        exact ⟨patFmC q (by omega) h3.1 h4.1, ih e (by omega) (by omega) h3.2 h4.2⟩
  exact this _ p (Nat.lt_succ_self _) h hok hf
theorem flat_take {α:Type} (f:α->List UInt8) (l:List α) (x:Nat):((l.take x).map f).flatten.length<=(l.map f).flatten.length:=by
 have h:=List.take_append_drop x l
 have h2:(l.map f).flatten=((l.take x).map f).flatten++((l.drop x).map f).flatten:=by rw [<- List.flatten_append,<- List.map_append,h]
 rw [h2,List.length_append]; omega
theorem flat_at {α:Type} (f:α->List UInt8) {l:List α} {x:Nat} (h:x<l.length):((l.take (x+1)).map f).flatten=((l.take x).map f).flatten++f l[x]:=by
 rw [List.take_succ_eq_append_getElem h]; simp only [List.map_append,List.flatten_append,List.map_cons,List.map_nil,List.flatten_cons,List.flatten_nil,List.append_nil]
def varF (v:List UInt8):List UInt8:=39 :: (v++[32])
theorem names_cnt:∀ l:List (List UInt8),l.length<=namesSz l
 | []=>by simp
 | v :: l=>by have:=names_cnt l; rw [namesSz,List.length_cons]; omega
theorem ctors_cnt:∀ l:List CtorD,l.length<=ctorsSz l
 | []=>by simp
 | v :: l=>by have:=ctors_cnt l; rw [ctorsSz,List.length_cons]; omega
theorem vars_len : ∀ l : List (List UInt8), ((l.map varF).flatten).length ≤ 3 * namesSz l
  | [] => by simp
  | v :: l => by
    have := vars_len l
    rw [List.map_cons, List.flatten_cons, List.length_append, namesSz, varF]
    simp only [List.length_cons, List.length_append, List.length_nil]; omega
theorem ctor_len (c:CtorD):c.form.length<=100 * c.sz+40:=by
 have:=TyE.kf_len c.arg
 have:=(at_len c.arg.kf 0).1
 rw [CtorD.form,CtorD.sz,List.length_append]
 split
 ·rw [List.length_append]; simp only [List.length_cons,List.length_nil]; omega
 ·simp only [List.length_nil]; omega
theorem ctors_len : ∀ l : List CtorD, (joinD [32, 124, 32] (l.map CtorD.form)).length ≤ 100 * ctorsSz l
  | [] => by simp [joinD]
  | [c] => by have := ctor_len c; simp only [List.map_cons, List.map_nil, joinD, ctorsSz]; omega
  | c :: d :: l => by
    have h1 := ctor_len c
    have h2 := ctors_len (d :: l)
    have e : joinD [32, 124, 32] ((c :: d :: l).map CtorD.form) = c.form ++ ([32, 124, 32] ++ joinD [32, 124, 32] ((d :: l).map CtorD.form)) := rfl
    rw [e, ctorsSz]
    simp only [List.length_append, List.length_cons, List.length_nil] at h2 ⊢
    omega
theorem data_len (d:DataD):d.form.length<=100 * d.sz+10:=by
 have h1:=vars_len d.vars
 have h2:=ctors_len d.ctors
 have e:d.form=[116,121,112,101,32]++((d.vars.map varF).flatten++(d.name++([32,61,32]++(joinD [32,124,32] (d.ctors.map CtorD.form)++[59,10])))):=rfl
 rw [e,DataD.sz]
 simp only [List.length_append,List.length_cons,List.length_nil]
 omega
theorem datas_len : ∀ l : List DataD, ((l.map DataD.form).flatten).length ≤ 110 * datasSz l
  | [] => by simp
  | d :: l => by
    have := data_len d
    have := datas_len l
    rw [List.map_cons, List.flatten_cons, List.length_append, datasSz]; omega
theorem ownNe {H:List AO} {a:AV} {sz:Nat} {rs:List (List AV)} (h:OwnR H a sz rs) {j:Nat} {cs:List AV} (hj:H[j]?=some (.var cs)):∀ v q n,a≠.gs j v q n:=by
 rintro v q n rfl
 rcases h with ⟨h,_⟩ | ⟨id,ver,h,h2⟩
 ·cases h
 ·cases h; rw [hj] at h2; cases h2
theorem bytesRow_eq:∀ s:List UInt8,bytesRows s=byteR s
 | []=>rfl
 | c :: s=>by rw [bytesRows,bytesRow_eq s]; rfl
theorem Bld.apps {H:List AO} {l s:List UInt8} {a:AV} {X:List AO} (hB:Bld H 1 (byteR l) a X) {K:St->Prop} {L T:En} {d:MD} (hl:l.length+s.length<=140737488355328)
  (k:∀ id ver m X2,Bld H 1 (byteR (l++s)) (.gs id ver 0 m) X2->(∀ (j:Nat) cs,X[j]?=some (.var cs)->X2[j]?=some (.var cs))->K (St.put ⟨L,T,X2⟩ d (.gs id ver 0 m))) :
  (∀ r∈bytesRows s,r.length=1)/\appX 1 1 a (bytesRows s) d K ⟨L,T,X⟩:=by
 rw [bytesRow_eq]
 have hl2:(byteR l).length=l.length:=byteR_len _
 have hl3:(byteR s).length=s.length:=byteR_len _
 refine ⟨byR_row,?_⟩
 refine app_fr (rs:=byteR l) hB.own (by rw [hl2,hl3]; omega) (by rw [hl2,hl3]; omega) ?_
 intro id ver X2 k1 k2 k3 k4
 have hJ:=hB.app k1 k2 k3 (n:=l.length+s.length) (by rw [List.length_append,hl2,hl3])
 rw [<- byteR_add] at hJ
 rw [hl2,hl3]
 exact k id ver _ X2 hJ fun j cs hj=>k3 j _ hj (ownNe hB.own hj)
theorem Bld.lift {H X X':List AO} {sz:Nat} {rs:List (List AV)} {a:AV} (h:Bld H sz rs a X) (k:∀ (j:Nat) o,X[j]?=some o->X'[j]?=some o):Bld H sz rs a X':=by
 refine ⟨?_,h.new,fun j o hj=>k j o (h.fr j o hj)⟩
 rcases h.own with h | ⟨id,ver,h1,h2⟩
 ·exact .inl h
 ·exact .inr ⟨id,ver,h1,k _ _ h2⟩
theorem typesC {ds:List DataD} (hok:∀ d∈ds,d.okB=true) (hsz:datasSz ds<=1073741824) {H:List AO} (hT:Tb H):ACall Tryz.prog 82 [.p (.l (ds.map DataD.cells))] H (pureQ (.p (.s (ds.map DataD.form).flatten)) H):=by
 refine acall_drop1 ?_ (tf_p _)
 refine call82 (by simp) ?_
 have hL:=datas_len ds
 have hN:ds.length<=datasSz ds:=by
  have:∀ l:List DataD,l.length<=datasSz l:=by
   intro l
   induction l with
   | nil=>simp
   | cons a l ih=>rw [datasSz,List.length_cons]; omega
  exact this ds
 simp only [go_sem,simprocAttr,mc82,mr82,List.length_map]
 intro _
 refine ⟨Nat × AV × List AO,[2,3,12,13,14],fun x st=>(x.1<=ds.length/\Bld H 1 (byteR (((ds.take x.1).map DataD.form).flatten)) x.2.1 x.2.2)/\st=⟨[(2,.p (.s [])),(3,x.2.1),(12,.p (.l (ds.map DataD.cells))),(13,.p (.i .i64 ds.length)),(14,.p (.i .i64 x.1))],[],x.2.2⟩,fun x=>ds.length - x.1,⟨(0,.p .nl,H),?_⟩,?_⟩
 ·simp only [go_sem,simprocAttr]
  exact ⟨Nat.zero_le _,Bld.nil H 1⟩
 rintro ⟨x,a,X⟩ _ ⟨⟨hx,hB⟩,rfl⟩
 simp only at hx hB
 have hfx:=flat_take DataD.form ds x
 by_cases hlt:x<ds.length
 rotate_left
 ·have d1:decide ((x:Int)<(ds.length:Int))=false:=by simp; omega
  rw [List.take_of_length_le (by omega)] at hB
  have hb:=own_b2s hB.own (by omega)
  simp only [go_sem,simprocAttr,d1,hb]
  exact hB.ends
 have d1:decide ((x:Int)<(ds.length:Int))=true:=by simp; omega
 have hlt':(x:Int)<(ds.length:Int):=by omega
 have hg:(ds.map DataD.cells)[x]?=some (DataD.cells ds[x]):=by simp [hlt]
 have hdok:=hok ds[x] (List.getElem_mem hlt)
 have hdz:ds[x].sz<=datasSz ds:=datasSz_mem (List.getElem_mem hlt)
 have hfl:=flat_at DataD.form hlt
 generalize ds[x]=d at hg hdok hdz hfl
 obtain ⟨n,vs,cs,p⟩:=d
 have hfd:DataD.form ⟨n,vs,cs,p⟩=[116,121,112,101,32]++((vs.map varF).flatten++(n++([32,61,32]++(joinD [32,124,32] (cs.map CtorD.form)++[59,10])))):=rfl
 rw [hfd] at hfl
 have hvl:=vars_len vs
 have hcl:=ctors_len cs
 have hvc:=names_cnt vs
 have hcc:=ctors_cnt cs
 simp only [DataD.sz] at hdz
 simp only [DataD.cells,namesC] at hg
 generalize hpre:((ds.take x).map DataD.form).flatten=pre at hB hfl hfx
 simp only [go_sem,simprocAttr,d1,hlt',hg,List.length_map]
 have hb0:(X++[AO.var [.p (.s n),.p (.l (vs.map fun s=>[PV.s s])),.p (.l (cs.map CtorD.cells)),.p (.i .i64 p)]])[X.length]?=some (.var [.p (.s n),.p (.l (vs.map fun s=>[PV.s s])),.p (.l (cs.map CtorD.cells)),.p (.i .i64 p)]):=by rw [gx0]; rfl
 refine (hB.ext _).apps (by simp only [List.length_cons,List.length_nil]; omega) ?_
 intro id0 ver0 m0 X0 hB0 hv0
 have hb:=hv0 _ _ hb0
 clear hb0 hv0
 generalize X.length=b at hb ⊢
 simp only [go_sem,simprocAttr,hb,List.length_map]
 intro hvm
 refine ⟨Nat × AV × List AO,[2,3,5,12,13,14,21,22,23],fun y st=>(y.1<=vs.length/\Bld H 1 (byteR (pre++[116,121,112,101,32]++((vs.take y.1).map varF).flatten)) y.2.1 y.2.2/\y.2.2[b]?=some (.var [.p (.s n),.p (.l (vs.map fun s=>[PV.s s])),.p (.l (cs.map CtorD.cells)),.p (.i .i64 p)]))/\st=⟨[(2,.p (.s [])),(3,y.2.1),(12,.p (.l (ds.map DataD.cells))),(13,.p (.i .i64 ds.length)),(14,.p (.i .i64 x)),(5,.ptr b 0),(21,.p (.l (vs.map fun s=>[PV.s s]))),(22,.p (.i .i64 vs.length)),(23,.p (.i .i64 y.1))],[],y.2.2⟩,fun y=>vs.length - y.1,⟨(0,.gs id0 ver0 0 m0,X0),?_⟩,?_⟩
 ·simp only [go_sem,simprocAttr]
  exact ⟨Nat.zero_le _,by simpa using hB0,hb⟩
 clear hB0 hb
 rintro ⟨y,a1,X1⟩ _ ⟨⟨hy,hB1,hb⟩,rfl⟩
 simp only at hy hB1 hb
 have hfy:=flat_take varF vs y
 by_cases hlty:y<vs.length
 ·have d2:decide ((y:Int)<(vs.length:Int))=true:=by simp; omega
  have hlty':(y:Int)<(vs.length:Int):=by omega
  have hgy:(vs.map fun s=>[PV.s s])[y]?=some [.s vs[y]]:=by simp [hlty]
  have hfl2:=flat_at varF hlty
  have hfy1:=flat_take varF vs (y+1)
  rw [hfl2,List.length_append] at hfy1
  generalize vs[y]=v at hgy hfl2 hfy1
  have hvl1:(varF v).length=v.length+2:=by simp [varF]
  simp only [go_sem,simprocAttr,d2,hlty',hgy,List.length_map]
  refine ⟨by rw [maxLe]; omega,by rw [maxLe]; omega,?_⟩
  refine hB1.apps (s:=varF v) (by simp only [List.length_append,List.length_cons,List.length_nil]; omega) ?_
  intro id2 ver2 m2 X2 hB2 hv2
  simp only [go_sem,simprocAttr,wrN y (by omega)]
  refine ⟨(y+1,_,X2),⟨⟨by omega,?_,hv2 _ _ hb⟩,rfl⟩,by simp only; omega⟩
  rw [hfl2]
  simpa using hB2
 ·have d2:decide ((y:Int)<(vs.length:Int))=false:=by simp; omega
  rw [List.take_of_length_le (by omega)] at hB1 hfy
  clear hy hlty
  simp only [go_sem,simprocAttr,d2,hb,List.length_map]
  intro hcm
  refine ⟨Nat × AV × List AO,[2,3,5,8,12,13,14,34,35,36],fun z st=>(z.1<=cs.length/\Bld X1 1 (rowS ((cs.take z.1).map CtorD.form)) z.2.1 z.2.2)/\st=⟨[(2,.p (.s [])),(3,a1),(12,.p (.l (ds.map DataD.cells))),(13,.p (.i .i64 ds.length)),(14,.p (.i .i64 x)),(5,.ptr b 0),(8,z.2.1),(34,.p (.l (cs.map CtorD.cells))),(35,.p (.i .i64 cs.length)),(36,.p (.i .i64 z.1))],[],z.2.2⟩,fun z=>cs.length - z.1,⟨(0,.p .nl,X1),?_⟩,?_⟩
  ·simp only [go_sem,simprocAttr]
   exact ⟨Nat.zero_le _,Bld.nil X1 1⟩
  rintro ⟨z,c,X2⟩ _ ⟨⟨hz,hC⟩,rfl⟩
  simp only at hz hC
  have hB2:=hB1.lift hC.fr
  have hb2:=hC.fr _ _ hb
  have hT2:∀ A,Tb (X2++A):=fun A=>(hT.keep hB2.fr).ext A
  by_cases hltz:z<cs.length
  ·have d3:decide ((z:Int)<(cs.length:Int))=true:=by simp; omega
   have hltz':(z:Int)<(cs.length:Int):=by omega
   have hgz:(cs.map CtorD.cells)[z]?=some (CtorD.cells cs[z]):=by simp [hltz]
   have hfl3:(cs.take (z+1)).map CtorD.form=(cs.take z).map CtorD.form++[CtorD.form cs[z]]:=by rw [List.take_succ_eq_append_getElem hltz,List.map_append,List.map_cons,List.map_nil]
   have hcok:cs[z].okB=true:=by
    simp only [DataD.okB,Bool.and_eq_true,List.all_eq_true] at hdok
    exact hdok.2.2.2.2 _ (List.getElem_mem hltz)
   have hcz:cs[z].sz<=ctorsSz cs:=by
    have:∀ l:List CtorD,cs[z]∈l->cs[z].sz<=ctorsSz l:=by
     intro l
     induction l with
     | nil=>intro h; cases h
     | cons a l ih=>intro h; rw [ctorsSz]; rcases List.mem_cons.1 h with h | h; rw [h]; omega; have:=ih h; omega
    exact this cs (List.getElem_mem hltz)
   generalize cs[z]=cc at hgz hfl3 hcok hcz
   have hcf:=ctor_len cc
   obtain ⟨cn,ch,ca,cp⟩:=cc
   have hcF:CtorD.form ⟨cn,ch,ca,cp⟩=cn++(if ch then [32,111,102,32]++ca.kf.at 0 else []):=rfl
   simp only [CtorD.okB,Bool.and_eq_true] at hcok
   simp only [CtorD.sz] at hcz
   have htl:(rowS ((cs.take z).map CtorD.form)).length=z:=by rw [rowS_len,List.length_map,List.length_take]; omega
   have key:∀ (s:List UInt8) (A:List AO) (K:St->Prop) (L T:En) (dd:MD),s=CtorD.form ⟨cn,ch,ca,cp⟩->(∀ id ver X3,Bld X1 1 (rowS ((cs.take (z+1)).map CtorD.form)) (.gs id ver 0 (z+1)) X3->K (St.put ⟨L,T,X3⟩ dd (.gs id ver 0 (z+1))))->appX 1 16 c [[.p (.s s)]] dd K ⟨L,T,X2++A⟩:=by
    rintro s A K L T dd rfl k
    refine app_fr (rs:=rowS ((cs.take z).map CtorD.form)) (hC.ext A).own (by rw [htl]; simp; omega) (by rw [htl]; simp; omega) ?_
    intro id ver X3 k1 k2 k3 k4
    have hJ:=(hC.ext A).app k1 k2 k3 (n:=z+1) (by rw [List.length_append,htl]; rfl)
    rw [rowS_app,<- hfl3] at hJ
    rw [htl]
    exact k id ver X3 hJ
   cases ch
   ·obtain ⟨ak,an,ap,aks⟩:=ca
    simp only [CtorD.cells,TyE.cells,List.cons_append,List.nil_append] at hgz
    simp only [go_sem,simprocAttr,d3,hltz',hgz,List.length_map]
    refine ⟨by intro r hr; simp at hr; subst hr; rfl,?_⟩
    refine key _ _ _ _ _ _ (by rw [hcF]; simp) ?_
    intro id ver X3 hJ
    simp only [go_sem,simprocAttr,wrN z (by omega)]
    exact ⟨(z+1,_,X3),⟨⟨by omega,hJ⟩,rfl⟩,by simp only; omega⟩
   ·have htf:=tyFmC ca (by omega) (by simpa using hcok.2.2) 0
    have hal:=TyE.kf_len ca
    have hal2:=(at_len ca.kf 0).1
    obtain ⟨ak,an,ap,aks⟩:=ca
    simp only [CtorD.cells,TyE.cells,List.cons_append,List.nil_append] at hgz
    generalize (TyE.mk ak an ap aks).kf.at 0=sa at htf hcF hal2
    simp only [TyE.cells,avC,List.map_cons,List.map_nil] at htf
    simp only [go_sem,simprocAttr,d3,hltz',hgz,List.length_map]
    refine acall_pure (htf _ (by decide) (hT2 _)) ?_
    simp only [go_sem,simprocAttr]
    refine ⟨by rw [maxLe]; omega,by rw [maxLe]; omega,by intro r hr; simp at hr; subst hr; rfl,?_⟩
    refine key _ _ _ _ _ _ (by rw [hcF]; simp) ?_
    intro id ver X3 hJ
    simp only [go_sem,simprocAttr,wrN z (by omega)]
    exact ⟨(z+1,_,X3),⟨⟨by omega,hJ⟩,rfl⟩,by simp only; omega⟩
  ·have d3:decide ((z:Int)<(cs.length:Int))=false:=by simp; omega
   rw [List.take_of_length_le (by omega)] at hC
   simp only [go_sem,simprocAttr,d3]
   have hj:(joinD [32,124,32] (cs.map CtorD.form)).length<=200000000000:=by omega
   have hjc:=fun A=>joinB (sep:=[32,124,32]) (hC.ext A) (by decide) (by omega)
   generalize joinD [32,124,32] (cs.map CtorD.form)=sj at hj hjc hfl hcl
   refine drw_same ?_
   simp only [go_sem,simprocAttr,hb2]
   repeat' first
    | (with_reducible refine condK_split _ (fun h=>?_) (fun h=>?_) <;> simp only [go_sem,simprocAttr,h])
    | (with_reducible refine pcall_pure (fun A=>hjc _) (Hext.refl _) ?_; simp only [go_sem,simprocAttr])
    | (refine drw_same ?_; simp only [go_sem,simprocAttr])
    | (refine And.intro (by (try simp only [maxLe,LL]); omega) ?_; try simp only [go_sem,simprocAttr])
    | (intro _)
   refine hB2.apps (s:=n++([32,61,32]++(sj++[59,10]))) (by simp only [List.length_append,List.length_cons,List.length_nil]; omega) ?_
   intro id3 ver3 m3 X3 hB3 hv3
   simp only [go_sem,simprocAttr,wrN x (by omega)]
   refine ⟨(x+1,_,X3),⟨⟨by omega,?_⟩,rfl⟩,by simp only; omega⟩
   rw [hfl]
   simpa using hB3
theorem printC {g:ProgD} (hg:g.sz<=1073741824) (hf:g.body.fit) {H:List AO} (hT:Tb H):ACall Tryz.prog 44 [avC g.cells] H (pureQ (.p (.s g.print)) H):=by
 obtain ⟨ds,b⟩:=g
 have hpo:=progOkC ⟨ds,b⟩ hg
 simp only [ProgD.sz] at hg
 simp only at hf
 refine acall_drop1 ?_ (tf_p _)
 refine call44 (by simp) ?_
 unfold ProgD.print
 cases hok:ProgD.okB ⟨ds,b⟩
 ·rw [hok] at hpo
  obtain ⟨k,n,u,t,p,ks,as'⟩:=b
  simp only [ProgD.cells,ExpD.cells,avC,List.map_cons,List.map_nil] at hpo
  simp only [go_sem,simprocAttr,mc44,mr44,ProgD.cells,ExpD.cells,avC]
  refine acall_pure (hpo _) ?_
  simp only [go_sem,simprocAttr]
  exact ⟨_,rfl⟩
 rw [hok] at hpo
 simp only [ProgD.okB,Bool.and_eq_true,List.all_eq_true] at hok
 have h1:=fun A=>typesC (H:=H++A) (ds:=ds) hok.2 (by omega) (hT.ext A)
 have h2:=fun A=>expFmC b (by omega) hok.1 hf 0 (H++A) (by decide) (hT.ext A)
 have l1:=datas_len ds
 have l2:=ExpD.kf_len b hf
 have l3:=(at_len b.kf 0).1
 have e:ProgD.form ⟨ds,b⟩=(ds.map DataD.form).flatten++(b.kf.at 0++[10]):=rfl
 rw [e]
 clear e
 generalize (ds.map DataD.form).flatten=s1 at *
 generalize b.kf.at 0=s2 at *
 obtain ⟨k,n,u,t,p,ks,as'⟩:=b
 simp only [ProgD.cells,ExpD.cells,avC,List.map_cons,List.map_nil] at hpo h2
 simp only [go_sem,simprocAttr,mc44,mr44,ProgD.cells,ExpD.cells,avC]
 refine acall_pure (hpo _) ?_
 simp only [go_sem,simprocAttr]
 repeat' first
  | (with_reducible refine condK_split _ (fun h=>?_) (fun h=>?_) <;> simp only [go_sem,simprocAttr,h])
  | (with_reducible refine pcall_pure (fun A=>by rw [List.append_assoc]; exact h1 _) (Hext.refl _) ?_; simp only [go_sem,simprocAttr])
  | (with_reducible refine acall_pure (h2 _) ?_; simp only [go_sem,simprocAttr])
  | (refine drw_same ?_; simp only [go_sem,simprocAttr])
  | (refine And.intro (by (try simp only [maxLe,LL]); omega) ?_; try simp only [go_sem,simprocAttr])
  | (intro _)
 all_goals first | exact ⟨s2 (by simp),_,rfl⟩ | exact ⟨_,rfl⟩
theorem roundSC {s:List UInt8} (hs:s.length<=1099511627776) (l a:Int) (H:List AO):ACall Tryz.prog 125 [.p (.s s),.p (.i .i64 l),.p (.i .i64 a)] H (pureQ (.p (.s (rnd s l a))) H):=by
 refine call125 (by simp) ?_
 simp only [go_sem,simprocAttr,mc125,mr125]
 repeat' first
  | (with_reducible refine condK_split _ (fun h=>?_) (fun h=>?_) <;> simp only [go_sem,simprocAttr,h])
  | (refine drw_same ?_; simp only [go_sem,simprocAttr])
  | (refine And.intro (by (try simp only [maxLe,LL]); omega) ?_; try simp only [go_sem,simprocAttr])
  | (intro _)
 all_goals refine ⟨s2 ?_,rfl⟩
 all_goals simp only [decide_eq_true_eq,decide_eq_false_iff_not] at *
 all_goals (simp [rnd, *]; done)
theorem boolSC (u:Int) (H:List AO):ACall Tryz.prog 179 [.p (.i .i64 u)] H (pureQ (.p (.s (boolW u))) H):=by
 refine call179 (by simp) ?_
 simp only [go_sem,simprocAttr,mc179,mr179]
 repeat' first
  | (with_reducible refine condK_split _ (fun h=>?_) (fun h=>?_) <;> simp only [go_sem,simprocAttr,h])
  | (refine drw_same ?_; simp only [go_sem,simprocAttr])
  | (refine And.intro (by (try simp only [maxLe,LL]); omega) ?_; try simp only [go_sem,simprocAttr])
  | (intro _)
 all_goals refine ⟨s2 ?_,rfl⟩
 all_goals simp only [decide_eq_true_eq,decide_eq_false_iff_not] at *
 all_goals (simp [boolW, *]; done)
theorem opLevelSC (s:List UInt8) (H:List AO):ACall Tryz.prog 180 [.p (.s s)] H (pureQ (.p (.i .i64 (opL s).1)) H):=by
 refine call180 (by simp) ?_
 simp only [go_sem,simprocAttr,mc180,mr180]
 repeat' first
  | (with_reducible refine condK_split _ (fun h=>?_) (fun h=>?_) <;> simp only [go_sem,simprocAttr,h])
  | (refine drw_same ?_; simp only [go_sem,simprocAttr])
  | (refine And.intro (by (try simp only [maxLe,LL]); omega) ?_; try simp only [go_sem,simprocAttr])
  | (intro _)
 all_goals refine ⟨?_,rfl⟩
 all_goals simp only [decide_eq_true_eq,decide_eq_false_iff_not] at *
 all_goals (simp [opL, *]; done)
theorem levelSC (k:Int) (n:List UInt8) (u:Int) (t:List UInt8) (p:Int) (ks:List ExpD) (as':List ArmD) (hok:(ExpD.mk k n u t p ks as').okB=true) (H:List AO) :
  ACall Tryz.prog 127 [avC (ExpD.cells (.mk k n u t p ks as'))] H (pureQ (.p (.i .i64 (ExpD.mk k n u t p ks as').kf.l)) H):=by
 refine acall_drop1 ?_ (tf_p _)
 refine call127 (by simp) ?_
 rw [ExpD.okB,expH] at hok
 simp only [Bool.and_eq_true] at hok
 have hok1:=hok.1.1
 clear hok
 have har:=arity_cases n
 rw [ExpD.kf,ExpD.kfL_eq,ExpD.kfA_eq]
 simp only [go_sem,simprocAttr,mc127,mr127,ExpD.cells,ExpD.cellsL_eq,ExpD.cellsA_eq,avC,List.length_map]
 repeat' first
  | (with_reducible refine condK_split _ (fun h=>?_) (fun h=>?_) <;> simp only [go_sem,simprocAttr,h,List.length_map])
  | (with_reducible refine acall_pure (opLevelSC _ _) ?_; simp only [go_sem,simprocAttr,List.length_map])
  | (refine drw_same ?_; simp only [go_sem,simprocAttr,List.length_map])
  | (refine And.intro (by (try simp only [maxLe,LL]); omega) ?_; try simp only [go_sem,simprocAttr,List.length_map])
  | (intro _)
 all_goals refine ⟨?_,_,rfl⟩
 all_goals simp only [decide_eq_true_eq,decide_eq_false_iff_not] at *
 all_goals congr 2
 all_goals try (simp [expG, *]; done)
 all_goals try (have hl:ks.length=1:=(by omega))
 all_goals try (have hl:ks.length=0:=(by simp [*] at hok1; omega))
 all_goals try (simp [expG, *]; done)
 all_goals (simp only [expG]; (repeat' split) <;> first | rfl | (simp_all; done))
theorem wrU64 {n:Nat} (h:n<=9223372036854775900):wr .u64 (n:Int)=(n:Int):=by
 show ((n:Int) % 18446744073709551616)=n
 omega
theorem wrU8 {n:Nat} (h:n<=255):wr .u8 (n:Int)=(n:Int):=by
 show ((n:Int) % 256)=n
 omega
theorem figs_one {n:Nat} (h:n<10):figs n=[UInt8.ofNat (48+n)]:=by rw [figs,dif_pos h]
theorem figs_two {n:Nat} (h:¬ n<10):figs n=figs (n / 10)++[UInt8.ofNat (48+n % 10)]:=by rw [figs,dif_neg h]
theorem figsSC : ∀ (n : Nat), n ≤ 9223372036854775808 → ∀ H : List AO, ACall Tryz.prog 223 [.p (.i .u64 n)] H (pureQ (.p (.s (figs n))) H) := by
  intro n
  induction n using Nat.strongRecOn with
  | _ n ih =>
    intro hn H
    refine acall_drop1 ?_ (tf_p _)
    refine call223 (by simp) ?_
    simp only [go_sem, simprocAttr, mc223, mr223]
    by_cases h : n < 10
    · have d1 : decide ((n : Int) < 10) = true := by simp; omega
      have e1 : wr .u64 (48 + (n : Int)) = ((48 + n : Nat) : Int) := wrU64 (n := 48 + n) (by omega)
      have e2 : wr .u8 ((48 + n : Nat) : Int) = ((48 + n : Nat) : Int) := wrU8 (n := 48 + n) (by omega)
      simp only [go_sem, simprocAttr, d1, e1, e2]
      exact ⟨s2 (by rw [figs_one h]), _, rfl⟩
    · have d1 : decide ((n : Int) < 10) = false := by simp; omega
      have e0 : wr .u64 ((n : Int).tdiv 10) = ((n / 10 : Nat) : Int) := wrU64 (n := n / 10) (by omega)
      have e3 : (n : Int).tmod 10 = ((n % 10 : Nat) : Int) := rfl
      have e1 : wr .u64 (48 + ((n % 10 : Nat) : Int)) = ((48 + n % 10 : Nat) : Int) := wrU64 (n := 48 + n % 10) (by omega)
      have e2 : wr .u8 ((48 + n % 10 : Nat) : Int) = ((48 + n % 10 : Nat) : Int) := wrU8 (n := 48 + n % 10) (by omega)
      have hl := figs_len 19 (n / 10) (by omega)
      have hi := ih (n / 10) (by omega) (by omega)
      simp only [go_sem, simprocAttr, d1]
      repeat' first
        | (with_reducible refine condK_split _ (fun h => ?_) (fun h => ?_) <;> simp only [go_sem, simprocAttr, h, e0, e3, e1, e2])
        | (with_reducible refine pcall_pure (fun A => hi _) (Hext.refl _) ?_; simp only [go_sem, simprocAttr, e0, e3, e1, e2])
        | (refine drw_same ?_; simp only [go_sem, simprocAttr, e0, e3, e1, e2])
        | (refine And.intro (by (try simp only [maxLe, LL]); omega) ?_; try simp only [go_sem, simprocAttr, e0, e3, e1, e2])
        | (intro _)
      exact ⟨s2 (by rw [figs_two h]), _, rfl⟩
theorem decSC {n:Int} (h0:0<=n) (h1:n<=9223372036854775807) (H:List AO):ACall Tryz.prog 177 [.p (.i .i64 n)] H (pureQ (.p (.s (decZ n))) H):=by
 refine call177 (by simp) ?_
 have d1:decide (n<0)=false:=by simp; omega
 have e1:wr .u64 n=((n.toNat:Nat):Int):=by rw [show n=((n.toNat:Nat):Int) by omega]; exact wrU64 (by omega)
 simp only [go_sem,simprocAttr,mc177,mr177,d1,e1]
 refine acall_pure (figsSC n.toNat (by omega) _) ?_
 simp only [go_sem,simprocAttr]
 exact ⟨rfl,rfl⟩
theorem quotedSC {s:List UInt8} (hs:s.length<=1073741824) (H:List AO):ACall Tryz.prog 178 [.p (.s s)] H (pureQ (.p (.s (quoD s))) H):=by
 refine acall_drop1 ?_ (tf_p _)
 refine call178 (by simp) ?_
 simp only [go_sem,simprocAttr,mc178,mr178]
 have hq:∀ x,(34 :: ((s.take x).map quoC).flatten).length<=2 * s.length+1:=fun x=>by
  have:=quo_len (s.take x)
  unfold quoD at this
  rw [List.length_cons,List.length_append,List.length_singleton,List.length_take] at this
  rw [List.length_cons]; omega
 refine ⟨Nat × AV × List AO,[0,2,3,4],fun x st=>(x.1<=s.length/\Bld H 1 (byteR (34 :: ((s.take x.1).map quoC).flatten)) x.2.1 x.2.2)/\st=⟨[(0,.p (.s s)),(2,.p (.s [])),(3,x.2.1),(4,.p (.i .i64 x.1))],[],x.2.2⟩,fun x=>s.length - x.1,⟨(0,.gs H.length 0 0 1,H++[.rows 1 0 [[.p (.i .u8 34)]]]),?_⟩,?_⟩
 ·simp only [go_sem,simprocAttr]
  exact ⟨Nat.zero_le _,.inr ⟨H.length,0,rfl,by rw [gx0]; rfl⟩,fun _ _ _ _ e=>by cases e; exact Nat.le_refl _,fun j o hj=>get_ext hj _⟩
 rintro ⟨x,a,X⟩ _ ⟨⟨hx,hB⟩,rfl⟩
 simp only at hx hB
 have hqx:=hq x
 have hqx1:=hq (x+1)
 by_cases hlt:x<s.length
 ·have d1:decide ((x:Int)<(s.length:Int))=true:=by simp; omega
  have hg:s[x]?=some s[x]:=by simp [hlt]
  have ht:34 :: ((s.take (x+1)).map quoC).flatten=34 :: ((s.take x).map quoC).flatten++quoC s[x]:=by rw [List.take_succ_eq_append_getElem hlt,List.map_append,List.flatten_append]; simp
  rw [ht,List.length_append] at hqx1
  generalize s[x]=c at hg ht hqx1
  generalize (34 :: ((s.take x).map quoC).flatten:List UInt8)=l at hB hqx ht hqx1
  have key:∀ ys:List (List AV),ys=byteR (quoC c)->∀ (K:St->Prop) (L T:En) (d:MD) (A:List AO),(∀ id ver X2,Bld H 1 (byteR (l++quoC c)) (.gs id ver 0 (l.length+ys.length)) X2->K (St.put ⟨L,T,X2⟩ d (.gs id ver 0 (l.length+ys.length))))->appX 1 1 a ys d K ⟨L,T,X++A⟩:=by
   rintro ys rfl K L T d A k
   have hl2:(byteR l).length=l.length:=byteR_len _
   have hl3:(byteR (quoC c)).length=(quoC c).length:=byteR_len _
   refine app_fr (rs:=byteR l) (hB.ext A).own (by rw [hl2,hl3]; omega) (by rw [hl2,hl3]; omega) ?_
   intro id ver X2 k1 k2 k3 k4
   have hJ:=(hB.ext A).app k1 k2 k3 (n:=l.length+(byteR (quoC c)).length) (by rw [List.length_append,hl2])
   rw [<- byteR_add] at hJ
   have:=k id ver X2 hJ
   rwa [hl2]
  simp only [go_sem,simprocAttr,d1,hg]
  intro _
  cases h10:decide ((c.toNat:Int)=10)
  ·cases h34:decide ((c.toNat:Int)=34)
   ·cases h92:decide ((c.toNat:Int)=92)
    ·have e:quoC c=[c]:=by unfold quoC; rw [if_neg (of_decide_eq_false h10),if_neg (by intro h; rcases h with h | h; exact of_decide_eq_false h34 h; exact of_decide_eq_false h92 h)]
     simp only [go_sem,simprocAttr,h10,h34,h92,hg]
     refine ⟨by intro r hr; simp at hr; subst hr; rfl,?_⟩
     refine key _ (by rw [e]; rfl) _ _ _ _ _ ?_
     intro id ver X2 hJ
     simp only [go_sem,simprocAttr,wrN x (by omega)]
     exact ⟨(x+1,_,X2),⟨⟨by omega,by rw [ht]; exact hJ⟩,rfl⟩,by simp only; omega⟩
    ·have e:quoC c=[92,c]:=by unfold quoC; rw [if_neg (of_decide_eq_false h10),if_pos (.inr (of_decide_eq_true h92))]
     simp only [go_sem,simprocAttr,h10,h34,h92,hg]
     refine ⟨by intro r hr; simp at hr; rcases hr with rfl | rfl <;> rfl,?_⟩
     refine key _ (by rw [e]; rfl) _ _ _ _ _ ?_
     intro id ver X2 hJ
     simp only [go_sem,simprocAttr,wrN x (by omega)]
     exact ⟨(x+1,_,X2),⟨⟨by omega,by rw [ht]; exact hJ⟩,rfl⟩,by simp only; omega⟩
   ·have e:quoC c=[92,c]:=by unfold quoC; rw [if_neg (of_decide_eq_false h10),if_pos (.inl (of_decide_eq_true h34))]
    simp only [go_sem,simprocAttr,h10,h34,hg]
    refine ⟨by intro r hr; simp at hr; rcases hr with rfl | rfl <;> rfl,?_⟩
    refine key _ (by rw [e]; rfl) _ _ _ _ _ ?_
    intro id ver X2 hJ
    simp only [go_sem,simprocAttr,wrN x (by omega)]
    exact ⟨(x+1,_,X2),⟨⟨by omega,by rw [ht]; exact hJ⟩,rfl⟩,by simp only; omega⟩
  ·have e:quoC c=[92,110]:=by unfold quoC; rw [if_pos (of_decide_eq_true h10)]
   simp only [go_sem,simprocAttr,h10,hg]
   refine ⟨by intro r hr; simp at hr; rcases hr with rfl | rfl <;> rfl,?_⟩
   refine key _ (by rw [e]; rfl) _ _ _ _ _ ?_
   intro id ver X2 hJ
   simp only [go_sem,simprocAttr,wrN x (by omega)]
   exact ⟨(x+1,_,X2),⟨⟨by omega,by rw [ht]; exact hJ⟩,rfl⟩,by simp only; omega⟩
 ·have d1:decide ((x:Int)<(s.length:Int))=false:=by simp; omega
  rw [List.take_of_length_le (by omega)] at hB hqx
  simp only [go_sem,simprocAttr,d1]
  intro _
  refine ⟨by intro r hr; simp at hr; subst hr; rfl,?_⟩
  have hl2:(byteR (34 :: (s.map quoC).flatten)).length=(34 :: (s.map quoC).flatten).length:=byteR_len _
  refine app_fr (rs:=byteR (34 :: (s.map quoC).flatten)) (hB.ext _).own (by rw [hl2]; simp only [List.length_cons,List.length_nil] at hqx ⊢; omega) (by rw [hl2]; simp only [List.length_cons,List.length_nil] at hqx ⊢; omega) ?_
  intro id ver X2 k1 k2 k3 k4
  have hJ:=(hB.ext _).app k1 k2 k3 (n:=(byteR (34 :: (s.map quoC).flatten)).length+1) (by rw [List.length_append]; rfl)
  have e2:byteR (34 :: (s.map quoC).flatten)++[[.p (.i .u8 34)]]=byteR (quoD s):=by unfold quoD; rw [<- List.cons_append,byteR_add]; rfl
  rw [e2] at hJ
  have hqs:=quo_len s
  have hb:=own_b2s hJ.own (by omega)
  simp only [go_sem,simprocAttr,hb]
  exact hJ.ends
theorem joinD_snoc (sep : List UInt8) : ∀ (l : List (List UInt8)) (a : List UInt8), l ≠ [] → joinD sep (l ++ [a]) = joinD sep l ++ (sep ++ a)
  | [], _, h => (h rfl).elim
  | [b], a, _ => rfl
  | b :: c :: l, a, _ => by
    show b ++ (sep ++ joinD sep ((c :: l) ++ [a])) = (b ++ (sep ++ joinD sep (c :: l))) ++ (sep ++ a)
    rw [joinD_snoc sep (c :: l) a (by simp)]
    simp
theorem wK_take:∀ (l:List KF) (x:Nat),wK (l.take x)<=wK l
 | [],_=>by simp
 | a :: l,0=>by simp [wK]
 | a :: l,x+1=>by have:=wK_take l x; rw [List.take_succ_cons,wK,wK]; omega
theorem take_snoc {α β:Type} (f:α->β) {l:List α} {x:Nat} (h:x<l.length):(l.take (x+1)).map f=(l.take x).map f++[f l[x]]:=by rw [List.take_succ_eq_append_getElem h,List.map_append,List.map_cons,List.map_nil]
theorem joinD_step {α:Type} (sep:List UInt8) (f:α->List UInt8) {ks:List α} {x:Nat} (hlt:x<ks.length):joinD sep ((ks.take (x+1)).map f)=if x=0 then f ks[x] else joinD sep ((ks.take x).map f)++(sep++f ks[x]):=by
 rw [take_snoc f hlt]
 by_cases h:x=0
 ·subst h
  simp [joinD]
 ·rw [joinD_snoc,if_neg h]
  intro h'
  rw [List.map_eq_nil_iff,List.take_eq_nil_iff] at h'
  rcases h' with h' | h'
  ·exact h h'
  ·subst h'; simp at hlt
def TySC (x:TyE):Prop:=∀ (a:Int) (H:List AO),ACall Tryz.prog 80 [avC x.cells,.p (.i .i64 a)] H (pureQ (.p (.s (x.kf.at a))) H)
theorem ty_SC (k:Int) (n:List UInt8) (p:Int) (ks:List TyE) (hok:(TyE.mk k n p ks).okB=true) (hsz:n.length+TyE.szL ks<=1073741824) (hk:∀ x∈ks,TySC x):TySC (.mk k n p ks):=by
 intro a H
 refine acall_drop1 ?_ (tf_p _)
 refine call80 (by simp) ?_
 have hW:=TyE.kfL_len ks
 have hLen:ks.length<=1073741824:=by have:=sumSz_len TyE.sz ks; rw [<- TyE.szL_eq] at this; omega
 have hB:∀ (sep:List UInt8),sep.length<=10->∀ z x,(joinD sep ((ks.take x).map fun x=>x.kf.at z)).length<=200000000000:=fun sep hs z x=>by
  have h1:=joinK_len sep hs z ((TyE.kfL ks).take x)
  have h2:=wK_take (TyE.kfL ks) x
  rw [TyE.kfL_eq,<- List.map_take,List.map_map] at h1
  rw [TyE.kfL_eq] at hW h2
  rw [<- List.map_take] at h2
  exact Nat.le_trans h1 (by omega)
 have hF:∀ z x,((ks.take x).map fun x=>32 :: x.kf.at z).flatten.length<=200000000000:=fun z x=>by
  have h1:=flatK_len z ((TyE.kfL ks).take x)
  have h2:=wK_take (TyE.kfL ks) x
  rw [TyE.kfL_eq,<- List.map_take,List.map_map] at h1
  rw [TyE.kfL_eq] at hW h2
  rw [<- List.map_take] at h2
  exact Nat.le_trans h1 (by omega)
 have hE:∀ x∈ks,∀ z,(x.kf.at z).length<=200000000000:=fun x hx z=>by
  have h1:=(at_len x.kf z).1
  have h2:=wKm (l:=TyE.kfL ks) (x:=x.kf) (by rw [TyE.kfL_eq]; exact List.mem_map_of_mem hx)
  omega
 rw [TyE.okB,typH] at hok
 simp only [Bool.and_eq_true] at hok
 have hok1:=hok.1.1
 clear hok
 by_cases h3:k=3
 ·subst h3
  obtain ⟨c0,c1,rfl⟩:=len2 (l:=ks) (by simpa using (by simpa using hok1:_/\_).1)
  have a0:=hE c0 (by simp) 1
  have g0:=hk c0 (by simp) 1
  have a1:=hE c1 (by simp) 0
  have g1:=hk c1 (by simp) 0
  have e:(TyE.mk 3 n p [c0,c1]).kf.at a=rnd (c0.kf.at 1++([32,45,62,32]++c1.kf.at 0)) 0 a:=by simp [TyE.kf,TyE.kfL,tyG,KF.at]
  rw [e]
  clear e hW hB hF hE
  generalize c0.kf.at 1=s0 at *
  generalize c1.kf.at 0=s1 at *
  obtain ⟨k0,n0,p0,q0⟩:=c0
  simp only [TyE.cells,avC,List.map_cons,List.map_nil] at g0
  obtain ⟨k1,n1,p1,q1⟩:=c1
  simp only [TyE.cells,avC,List.map_cons,List.map_nil] at g1
  simp only [go_sem,simprocAttr,mc80,mr80,TyE.cells,TyE.cellsL,avC]
  repeat' first
   | (with_reducible refine condK_split _ (fun h=>?_) (fun h=>?_) <;> simp only [go_sem,simprocAttr,h])
   | (with_reducible refine pcall_pure (fun A=>g0 _) (Hext.refl _) ?_; simp only [go_sem,simprocAttr])
   | (with_reducible refine pcall_pure (fun A=>g1 _) (Hext.refl _) ?_; simp only [go_sem,simprocAttr])
   | (with_reducible refine acall_pure (roundSC (by (try simp only [List.length_append,List.length_cons,List.length_nil]); omega) _ _ _) ?_; simp only [go_sem,simprocAttr])
   | (refine drw_same ?_; simp only [go_sem,simprocAttr])
   | (refine And.intro (by (try simp only [maxLe,LL]); omega) ?_; try simp only [go_sem,simprocAttr])
   | (intro _)
  all_goals first | exact ⟨s2 (by simp),_,rfl⟩ | exact ⟨_,rfl⟩
 by_cases h2:k=2
 ·subst h2
  have e:(TyE.mk 2 n p ks).kf.at a=rnd (39 :: n) 3 a:=by simp [TyE.kf,tyG,KF.at]
  rw [e]
  clear e hW hB hF hE
  simp only [go_sem,simprocAttr,mc80,mr80,TyE.cells,TyE.cellsL_eq,avC]
  repeat' first
   | (with_reducible refine condK_split _ (fun h=>?_) (fun h=>?_) <;> simp only [go_sem,simprocAttr,h])
   | (with_reducible refine acall_pure (roundSC (by (try simp only [List.length_append,List.length_cons,List.length_nil]); omega) _ _ _) ?_; simp only [go_sem,simprocAttr])
   | (refine drw_same ?_; simp only [go_sem,simprocAttr])
   | (refine And.intro (by (try simp only [maxLe,LL]); omega) ?_; try simp only [go_sem,simprocAttr])
   | (intro _)
  all_goals first | exact ⟨s2 (by simp),_,rfl⟩ | exact ⟨_,rfl⟩
 by_cases h4:k=4
 ·subst h4
  have e:(TyE.mk 4 n p ks).kf.at a=rnd (joinD [32,42,32] (ks.map fun x=>x.kf.at 2)) 1 a:=by simp [TyE.kf,TyE.kfL_eq,tyG,KF.at,Function.comp_def]
  rw [e]
  have hB:=hB [32,42,32] (by decide) 2
  clear e hW hF
  simp only [go_sem,simprocAttr,mc80,mr80,TyE.cells,TyE.cellsL_eq,avC,List.length_map]
  refine ⟨Nat,[1,2,4,5,6,7],fun x st=>x<=ks.length/\st=⟨[(1,.p (.i .i64 a)),(2,.ptr H.length 0),(4,.p (.s [])),(5,.p (.s (joinD [32,42,32] ((ks.take x).map fun x:TyE=>x.kf.at 2)))),(6,.p (.i .i64 1)),(7,.p (.i .i64 x))],[],H++[.var [.p (.i .i64 4),.p (.s n),.p (.i .i64 p),.p (.l (ks.map TyE.cells))]]⟩,fun x=>ks.length - x,⟨0,?_⟩,?_⟩
  ·simp only [go_sem,simprocAttr]
   exact ⟨Nat.zero_le _,rfl⟩
  rintro x _ ⟨hx,rfl⟩
  have hBx:=hB x
  by_cases hlt:x<ks.length
  ·have d1:decide ((x:Int)<(ks.length:Int))=true:=by simp; omega
   have hlt':(x:Int)<(ks.length:Int):=by omega
   have hg:(ks.map TyE.cells)[x]?=some (TyE.cells ks[x]):=by simp [hlt]
   have hc:=hk ks[x] (List.getElem_mem hlt) 2
   have hEx:=hE ks[x] (List.getElem_mem hlt) 2
   have hj:=joinD_step [32,42,32] (fun x:TyE=>x.kf.at 2) hlt
   have hj0:x=0->joinD [32,42,32] ((ks.take x).map fun x:TyE=>x.kf.at 2)=[]:=by rintro rfl; rfl
   generalize joinD [32,42,32] ((ks.take x).map fun x:TyE=>x.kf.at 2)=sj at hBx hj hj0 ⊢
   generalize ks[x]=c at hg hc hEx hj
   generalize c.kf.at 2=sc at hc hEx hj
   obtain ⟨ck,cn,cp,cks⟩:=c
   simp only [TyE.cells,avC,List.map_cons,List.map_nil] at hg hc
   by_cases hx0:x=0
   ·rw [if_pos hx0] at hj
    have hj0:=hj0 hx0
    subst hj0
    have d0:decide ((0:Int)<(x:Int))=false:=by simp; omega
    simp only [go_sem,simprocAttr,d1,d0,hlt',hg,List.length_map]
    repeat' first
     | (with_reducible refine condK_split _ (fun h=>?_) (fun h=>?_) <;> simp only [go_sem,simprocAttr,h,hlt',hg,List.length_map,d0,wrN x (by omega)])
     | (with_reducible refine acall_pure (hc _) ?_; simp only [go_sem,simprocAttr,hlt',hg,List.length_map,d0,wrN x (by omega)])
     | (refine drw_same ?_; simp only [go_sem,simprocAttr,hlt',hg,List.length_map,d0,wrN x (by omega)])
     | (refine And.intro (by (try simp only [maxLe,LL]); omega) ?_; try simp only [go_sem,simprocAttr,hlt',hg,List.length_map,d0,wrN x (by omega)])
     | (intro _)
    all_goals exact ⟨x+1,⟨by omega,by rw [hj] <;> simp⟩,by omega⟩
   rw [if_neg hx0] at hj
   have d0:decide ((0:Int)<(x:Int))=true:=by simp; omega
   simp only [go_sem,simprocAttr,d1,d0,hlt',hg,List.length_map]
   repeat' first
    | (with_reducible refine condK_split _ (fun h=>?_) (fun h=>?_) <;> simp only [go_sem,simprocAttr,h,hlt',hg,List.length_map,d0,wrN x (by omega)])
    | (with_reducible refine acall_pure (hc _) ?_; simp only [go_sem,simprocAttr,hlt',hg,List.length_map,d0,wrN x (by omega)])
    | (refine drw_same ?_; simp only [go_sem,simprocAttr,hlt',hg,List.length_map,d0,wrN x (by omega)])
    | (refine And.intro (by (try simp only [maxLe,LL]); omega) ?_; try simp only [go_sem,simprocAttr,hlt',hg,List.length_map,d0,wrN x (by omega)])
    | (intro _)
   all_goals exact ⟨x+1,⟨by omega,by rw [hj] <;> simp⟩,by omega⟩
  ·have d1:decide ((x:Int)<(ks.length:Int))=false:=by simp; omega
   rw [List.take_of_length_le (by omega)] at hBx ⊢
   generalize joinD [32,42,32] (ks.map fun x:TyE=>x.kf.at 2)=sj at hBx ⊢
   simp only [go_sem,simprocAttr,d1,List.length_map]
   repeat' first
    | (with_reducible refine condK_split _ (fun h=>?_) (fun h=>?_) <;> simp only [go_sem,simprocAttr,h])
    | (with_reducible refine acall_pure (roundSC (by (try simp only [List.length_append,List.length_cons,List.length_nil]); omega) _ _ _) ?_; simp only [go_sem,simprocAttr])
    | (refine drw_same ?_; simp only [go_sem,simprocAttr])
    | (refine And.intro (by (try simp only [maxLe,LL]); omega) ?_; try simp only [go_sem,simprocAttr])
    | (intro _)
   all_goals first | exact ⟨s2 (by simp),_,rfl⟩ | exact ⟨_,rfl⟩
 by_cases h5:k=5
 ·subst h5
  have hl1:(ks.length:Int)=1:=by have h:=(by simpa using hok1:_/\_).1; simpa using h
  have e:(TyE.mk 5 n p ks).kf.at a=rnd ([114,101,102]++(ks.map fun x:TyE=>32 :: x.kf.at 3).flatten) (if ks.length=0 then 3 else 2) a:=by
   obtain ⟨c0,rfl⟩:=len1 (l:=ks) (by omega)
   simp [TyE.kf,TyE.kfL,tyG,KF.at]
  rw [e]
  clear e hW hB
  simp only [go_sem,simprocAttr,mc80,mr80,TyE.cells,TyE.cellsL_eq,avC,List.length_map]
  refine ⟨Nat,[1,2,4,5,6,8],fun x st=>x<=ks.length/\st=⟨[(1,.p (.i .i64 a)),(2,.ptr H.length 0),(4,.p (.s [])),(5,.p (.s ([114,101,102]++((ks.take x).map fun x:TyE=>32 :: x.kf.at 3).flatten))),(6,.p (.i .i64 (if x=0 then 3 else 2))),(8,.p (.i .i64 x))],[],H++[.var [.p (.i .i64 5),.p (.s n),.p (.i .i64 p),.p (.l (ks.map TyE.cells))]]⟩,fun x=>ks.length - x,⟨0,?_⟩,?_⟩
  ·simp only [go_sem,simprocAttr]
   exact ⟨Nat.zero_le _,by simp⟩
  rintro x _ ⟨hx,rfl⟩
  have hBx:=hF 3 x
  by_cases hlt:x<ks.length
  ·have d1:decide ((x:Int)<(ks.length:Int))=true:=by simp; omega
   have hlt':(x:Int)<(ks.length:Int):=by omega
   have hg:(ks.map TyE.cells)[x]?=some (TyE.cells ks[x]):=by simp [hlt]
   have hc:=hk ks[x] (List.getElem_mem hlt) 3
   have hEx:=hE ks[x] (List.getElem_mem hlt) 3
   have hj:=congrArg List.flatten (take_snoc (fun x:TyE=>32 :: x.kf.at 3) hlt)
   rw [List.flatten_append] at hj
   generalize ((ks.take x).map fun x:TyE=>32 :: x.kf.at 3).flatten=sj at hBx hj ⊢
   generalize ks[x]=c at hg hc hEx hj
   simp only [List.flatten_cons,List.flatten_nil,List.append_nil] at hj
   generalize c.kf.at 3=sc at hc hEx hj
   obtain ⟨ck,cn,cp,cks⟩:=c
   simp only [TyE.cells,avC,List.map_cons,List.map_nil] at hg hc
   simp only [go_sem,simprocAttr,d1,hlt',hg,List.length_map]
   repeat' first
    | (with_reducible refine condK_split _ (fun h=>?_) (fun h=>?_) <;> simp only [go_sem,simprocAttr,h,hlt',hg,List.length_map,wrN x (by omega)])
    | (with_reducible refine acall_pure (hc _) ?_; simp only [go_sem,simprocAttr,hlt',hg,List.length_map,wrN x (by omega)])
    | (refine drw_same ?_; simp only [go_sem,simprocAttr,hlt',hg,List.length_map,wrN x (by omega)])
    | (refine And.intro (by (try simp only [maxLe,LL]); omega) ?_; try simp only [go_sem,simprocAttr,hlt',hg,List.length_map,wrN x (by omega)])
    | (intro _)
   all_goals exact ⟨x+1,⟨by omega,by rw [hj] <;> simp⟩,by omega⟩
  ·have d1:decide ((x:Int)<(ks.length:Int))=false:=by simp; omega
   rw [List.take_of_length_le (by omega)] at hBx ⊢
   have hxl:x=ks.length:=by omega
   subst hxl
   generalize (ks.map fun x:TyE=>32 :: x.kf.at 3).flatten=sj at hBx ⊢
   generalize (if ks.length=0 then (3:Int) else 2)=lv
   simp only [go_sem,simprocAttr,d1,List.length_map]
   repeat' first
    | (with_reducible refine condK_split _ (fun h=>?_) (fun h=>?_) <;> simp only [go_sem,simprocAttr,h])
    | (with_reducible refine acall_pure (roundSC (by (try simp only [List.length_append,List.length_cons,List.length_nil]); omega) _ _ _) ?_; simp only [go_sem,simprocAttr])
    | (refine drw_same ?_; simp only [go_sem,simprocAttr])
    | (refine And.intro (by (try simp only [maxLe,LL]); omega) ?_; try simp only [go_sem,simprocAttr])
    | (intro _)
   all_goals first | exact ⟨s2 (by simp),_,rfl⟩ | exact ⟨_,rfl⟩
 have h1:k=1:=by
  by_cases h1:k=1
  ·exact h1
  ·rw [if_neg h1,if_neg h2,if_neg h3,if_neg h4,if_neg h5] at hok1
   cases hok1
 subst h1
 have e:(TyE.mk 1 n p ks).kf.at a=rnd (n++(ks.map fun x:TyE=>32 :: x.kf.at 3).flatten) (if ks.length=0 then 3 else 2) a:=by
  simp [TyE.kf,TyE.kfL_eq,tyG,KF.at,Function.comp_def]
 rw [e]
 clear e hW hB
 simp only [go_sem,simprocAttr,mc80,mr80,TyE.cells,TyE.cellsL_eq,avC,List.length_map]
 refine ⟨Nat,[1,2,4,5,6,8],fun x st=>x<=ks.length/\st=⟨[(1,.p (.i .i64 a)),(2,.ptr H.length 0),(4,.p (.s [])),(5,.p (.s (n++((ks.take x).map fun x:TyE=>32 :: x.kf.at 3).flatten))),(6,.p (.i .i64 (if x=0 then 3 else 2))),(8,.p (.i .i64 x))],[],H++[.var [.p (.i .i64 1),.p (.s n),.p (.i .i64 p),.p (.l (ks.map TyE.cells))]]⟩,fun x=>ks.length - x,⟨0,?_⟩,?_⟩
 ·simp only [go_sem,simprocAttr]
  exact ⟨Nat.zero_le _,by simp⟩
 rintro x _ ⟨hx,rfl⟩
 have hBx:=hF 3 x
 by_cases hlt:x<ks.length
 ·have d1:decide ((x:Int)<(ks.length:Int))=true:=by simp; omega
  have hlt':(x:Int)<(ks.length:Int):=by omega
  have hg:(ks.map TyE.cells)[x]?=some (TyE.cells ks[x]):=by simp [hlt]
  have hc:=hk ks[x] (List.getElem_mem hlt) 3
  have hEx:=hE ks[x] (List.getElem_mem hlt) 3
  have hj:=congrArg List.flatten (take_snoc (fun x:TyE=>32 :: x.kf.at 3) hlt)
  rw [List.flatten_append] at hj
  generalize ((ks.take x).map fun x:TyE=>32 :: x.kf.at 3).flatten=sj at hBx hj ⊢
  generalize ks[x]=c at hg hc hEx hj
  simp only [List.flatten_cons,List.flatten_nil,List.append_nil] at hj
  generalize c.kf.at 3=sc at hc hEx hj
  obtain ⟨ck,cn,cp,cks⟩:=c
  simp only [TyE.cells,avC,List.map_cons,List.map_nil] at hg hc
  simp only [go_sem,simprocAttr,d1,hlt',hg,List.length_map]
  repeat' first
   | (with_reducible refine condK_split _ (fun h=>?_) (fun h=>?_) <;> simp only [go_sem,simprocAttr,h,hlt',hg,List.length_map,wrN x (by omega)])
   | (with_reducible refine acall_pure (hc _) ?_; simp only [go_sem,simprocAttr,hlt',hg,List.length_map,wrN x (by omega)])
   | (refine drw_same ?_; simp only [go_sem,simprocAttr,hlt',hg,List.length_map,wrN x (by omega)])
   | (refine And.intro (by (try simp only [maxLe,LL]); omega) ?_; try simp only [go_sem,simprocAttr,hlt',hg,List.length_map,wrN x (by omega)])
   | (intro _)
  all_goals exact ⟨x+1,⟨by omega,by rw [hj] <;> simp⟩,by omega⟩
 ·have d1:decide ((x:Int)<(ks.length:Int))=false:=by simp; omega
  rw [List.take_of_length_le (by omega)] at hBx ⊢
  have hxl:x=ks.length:=by omega
  subst hxl
  generalize (ks.map fun x:TyE=>32 :: x.kf.at 3).flatten=sj at hBx ⊢
  generalize (if ks.length=0 then (3:Int) else 2)=lv
  simp only [go_sem,simprocAttr,d1,List.length_map]
  repeat' first
   | (with_reducible refine condK_split _ (fun h=>?_) (fun h=>?_) <;> simp only [go_sem,simprocAttr,h])
   | (with_reducible refine acall_pure (roundSC (by (try simp only [List.length_append,List.length_cons,List.length_nil]); omega) _ _ _) ?_; simp only [go_sem,simprocAttr])
   | (refine drw_same ?_; simp only [go_sem,simprocAttr])
   | (refine And.intro (by (try simp only [maxLe,LL]); omega) ?_; try simp only [go_sem,simprocAttr])
   | (intro _)
  all_goals first | exact ⟨s2 (by simp),_,rfl⟩ | exact ⟨_,rfl⟩
theorem tySC (p : TyE) (h : p.sz ≤ 1073741824) (hok : p.okB = true) : TySC p := by
  have : ∀ (m : Nat) (p : TyE), p.sz < m → p.sz ≤ 1073741824 → p.okB = true → TySC p := by
    intro m
    induction m with
    | zero => intro p h; omega
    | succ m ih =>
      intro p h h2 hok
      obtain ⟨k, n, q, ks⟩ := p
      rw [TyE.sz] at h h2
      refine ty_SC _ _ _ _ hok h2 fun a ha => ?_
      rw [TyE.okB, TyE.okL_eq, Bool.and_eq_true, List.all_eq_true] at hok
      rw [TyE.szL_eq] at h h2
      have := sumSz_mem TyE.sz ha
      exact ih a (by omega) (by omega) (hok.2 a ha)
  exact this _ p (Nat.lt_succ_self _) h hok
def PatSC (x:PatD):Prop:=∀ (a:Int) (H:List AO),ACall Tryz.prog 224 [avC x.cells,.p (.i .i64 a)] H (pureQ (.p (.s (x.kf.at a))) H)
theorem pat_SC (k:Int) (n:List UInt8) (u p:Int) (ks:List PatD) (hok:(PatD.mk k n u p ks).okB=true) (hfit:(PatD.mk k n u p ks).fit) (hsz:n.length+PatD.szL ks<=1073741824) (hk:∀ x∈ks,PatSC x):PatSC (.mk k n u p ks):=by
 intro a H
 refine acall_drop1 ?_ (tf_p _)
 refine call224 (by simp) ?_
 rw [PatD.fit] at hfit
 have hW:=PatD.kfL_len ks hfit.2
 have hu:=hfit.1
 have hLen:ks.length<=1073741824:=by have:=sumSz_len PatD.sz ks; rw [<- PatD.szL_eq] at this; omega
 have hB:∀ (sep:List UInt8),sep.length<=10->∀ z x,(joinD sep ((ks.take x).map fun x=>x.kf.at z)).length<=200000000000:=fun sep hs z x=>by
  have h1:=joinK_len sep hs z ((PatD.kfL ks).take x)
  have h2:=wK_take (PatD.kfL ks) x
  rw [PatD.kfL_eq,<- List.map_take,List.map_map] at h1
  rw [PatD.kfL_eq] at hW h2
  rw [<- List.map_take] at h2
  exact Nat.le_trans h1 (by omega)
 have hE:∀ x∈ks,∀ z,(x.kf.at z).length<=200000000000:=fun x hx z=>by
  have h1:=(at_len x.kf z).1
  have h2:=wKm (l:=PatD.kfL ks) (x:=x.kf) (by rw [PatD.kfL_eq]; exact List.mem_map_of_mem hx)
  omega
 rw [PatD.okB,patH] at hok
 simp only [Bool.and_eq_true] at hok
 have hok1:=hok.1.1
 clear hok
 by_cases h1:k=1
 ·subst h1
  have e:(PatD.mk 1 n u p ks).kf.at a=rnd ([95]) 1 a:=by simp [PatD.kf,patG,KF.at]
  rw [e]
  clear e hW hB hE
  simp only [go_sem,simprocAttr,mc224,mr224,PatD.cells,PatD.cellsL_eq,avC,List.length_map]
  repeat' first
   | (with_reducible refine condK_split _ (fun h=>?_) (fun h=>?_) <;> simp only [go_sem,simprocAttr,h])
   | (with_reducible refine acall_pure (roundSC (by (try simp only [List.length_append,List.length_cons,List.length_nil]); omega) _ _ _) ?_; simp only [go_sem,simprocAttr])
   | (refine drw_same ?_; simp only [go_sem,simprocAttr])
   | (refine And.intro (by (try simp only [maxLe,LL]); omega) ?_; try simp only [go_sem,simprocAttr])
   | (intro _)
  all_goals first | exact ⟨s2 (by simp),_,rfl⟩ | exact ⟨_,rfl⟩
 by_cases h5:k=5
 ·subst h5
  have e:(PatD.mk 5 n u p ks).kf.at a=rnd ([40,41]) 1 a:=by simp [PatD.kf,patG,KF.at]
  rw [e]
  clear e hW hB hE
  simp only [go_sem,simprocAttr,mc224,mr224,PatD.cells,PatD.cellsL_eq,avC,List.length_map]
  repeat' first
   | (with_reducible refine condK_split _ (fun h=>?_) (fun h=>?_) <;> simp only [go_sem,simprocAttr,h])
   | (with_reducible refine acall_pure (roundSC (by (try simp only [List.length_append,List.length_cons,List.length_nil]); omega) _ _ _) ?_; simp only [go_sem,simprocAttr])
   | (refine drw_same ?_; simp only [go_sem,simprocAttr])
   | (refine And.intro (by (try simp only [maxLe,LL]); omega) ?_; try simp only [go_sem,simprocAttr])
   | (intro _)
  all_goals first | exact ⟨s2 (by simp),_,rfl⟩ | exact ⟨_,rfl⟩
 by_cases h2:k=2
 ·subst h2
  have e:(PatD.mk 2 n u p ks).kf.at a=rnd (n) 1 a:=by simp [PatD.kf,patG,KF.at]
  rw [e]
  clear e hW hB hE
  simp only [go_sem,simprocAttr,mc224,mr224,PatD.cells,PatD.cellsL_eq,avC,List.length_map]
  repeat' first
   | (with_reducible refine condK_split _ (fun h=>?_) (fun h=>?_) <;> simp only [go_sem,simprocAttr,h])
   | (with_reducible refine acall_pure (roundSC (by (try simp only [List.length_append,List.length_cons,List.length_nil]); omega) _ _ _) ?_; simp only [go_sem,simprocAttr])
   | (refine drw_same ?_; simp only [go_sem,simprocAttr])
   | (refine And.intro (by (try simp only [maxLe,LL]); omega) ?_; try simp only [go_sem,simprocAttr])
   | (intro _)
  all_goals first | exact ⟨s2 (by simp),_,rfl⟩ | exact ⟨_,rfl⟩
 by_cases h3:k=3
 ·subst h3
  have e:(PatD.mk 3 n u p ks).kf.at a=rnd (decZ u) 1 a:=by simp [PatD.kf,patG,KF.at]
  rw [e]
  clear e hW hB hE
  have h0:0<=u:=by simp at hok1; exact hok1.2.2
  have hd:=dec_len hu
  simp only [go_sem,simprocAttr,mc224,mr224,PatD.cells,PatD.cellsL_eq,avC,List.length_map]
  repeat' first
   | (with_reducible refine condK_split _ (fun h=>?_) (fun h=>?_) <;> simp only [go_sem,simprocAttr,h])
   | (with_reducible refine acall_pure (decSC h0 hu _) ?_; simp only [go_sem,simprocAttr])
   | (with_reducible refine acall_pure (roundSC (by (try simp only [List.length_append,List.length_cons,List.length_nil]); omega) _ _ _) ?_; simp only [go_sem,simprocAttr])
   | (refine drw_same ?_; simp only [go_sem,simprocAttr])
   | (refine And.intro (by (try simp only [maxLe,LL]); omega) ?_; try simp only [go_sem,simprocAttr])
   | (intro _)
  all_goals first | exact ⟨s2 (by simp),_,rfl⟩ | exact ⟨_,rfl⟩
 by_cases h4:k=4
 ·subst h4
  have e:(PatD.mk 4 n u p ks).kf.at a=rnd (boolW u) 1 a:=by simp [PatD.kf,patG,KF.at]
  rw [e]
  clear e hW hB hE
  have hd:=bool_len u
  simp only [go_sem,simprocAttr,mc224,mr224,PatD.cells,PatD.cellsL_eq,avC,List.length_map]
  repeat' first
   | (with_reducible refine condK_split _ (fun h=>?_) (fun h=>?_) <;> simp only [go_sem,simprocAttr,h])
   | (with_reducible refine acall_pure (boolSC _ _) ?_; simp only [go_sem,simprocAttr])
   | (with_reducible refine acall_pure (roundSC (by (try simp only [List.length_append,List.length_cons,List.length_nil]); omega) _ _ _) ?_; simp only [go_sem,simprocAttr])
   | (refine drw_same ?_; simp only [go_sem,simprocAttr])
   | (refine And.intro (by (try simp only [maxLe,LL]); omega) ?_; try simp only [go_sem,simprocAttr])
   | (intro _)
  all_goals first | exact ⟨s2 (by simp),_,rfl⟩ | exact ⟨_,rfl⟩
 by_cases h6:k=6
 ·subst h6
  have e:(PatD.mk 6 n u p ks).kf.at a=rnd (40 :: (joinD [44,32] (ks.map fun x=>x.kf.at 0)++[41])) 1 a:=by simp [PatD.kf,PatD.kfL_eq,patG,KF.at,Function.comp_def]
  rw [e]
  have hB:=hB [44,32] (by decide) 0
  clear e hW
  simp only [go_sem,simprocAttr,mc224,mr224,PatD.cells,PatD.cellsL_eq,avC,List.length_map]
  refine ⟨Nat,[1,2,4,5,6,7],fun x st=>x<=ks.length/\st=⟨[(1,.p (.i .i64 a)),(2,.ptr H.length 0),(4,.p (.s [])),(5,.p (.s (40 :: joinD [44,32] ((ks.take x).map fun x:PatD=>x.kf.at 0)))),(6,.p (.i .i64 1)),(7,.p (.i .i64 x))],[],H++[.var [.p (.i .i64 6),.p (.s n),.p (.i .i64 u),.p (.i .i64 p),.p (.l (ks.map PatD.cells))]]⟩,fun x=>ks.length - x,⟨0,?_⟩,?_⟩
  ·simp only [go_sem,simprocAttr]
   exact ⟨Nat.zero_le _,rfl⟩
  rintro x _ ⟨hx,rfl⟩
  have hBx:=hB x
  by_cases hlt:x<ks.length
  ·have d1:decide ((x:Int)<(ks.length:Int))=true:=by simp; omega
   have hlt':(x:Int)<(ks.length:Int):=by omega
   have hg:(ks.map PatD.cells)[x]?=some (PatD.cells ks[x]):=by simp [hlt]
   have hc:=hk ks[x] (List.getElem_mem hlt) 0
   have hEx:=hE ks[x] (List.getElem_mem hlt) 0
   have hj:=joinD_step [44,32] (fun x:PatD=>x.kf.at 0) hlt
   have hj0:x=0->joinD [44,32] ((ks.take x).map fun x:PatD=>x.kf.at 0)=[]:=by rintro rfl; rfl
   generalize joinD [44,32] ((ks.take x).map fun x:PatD=>x.kf.at 0)=sj at hBx hj hj0 ⊢
   generalize ks[x]=c at hg hc hEx hj
   generalize c.kf.at 0=sc at hc hEx hj
   obtain ⟨ck,cn,cu,cp,cks⟩:=c
   simp only [PatD.cells,avC,List.map_cons,List.map_nil] at hg hc
   by_cases hx0:x=0
   ·rw [if_pos hx0] at hj
    have hj0:=hj0 hx0
    subst hj0
    have d0:decide ((0:Int)<(x:Int))=false:=by simp; omega
    simp only [go_sem,simprocAttr,d1,d0,hlt',hg,List.length_map]
    repeat' first
     | (with_reducible refine condK_split _ (fun h=>?_) (fun h=>?_) <;> simp only [go_sem,simprocAttr,h,hlt',hg,List.length_map,d0,wrN x (by omega)])
     | (with_reducible refine acall_pure (hc _) ?_; simp only [go_sem,simprocAttr,hlt',hg,List.length_map,d0,wrN x (by omega)])
     | (refine drw_same ?_; simp only [go_sem,simprocAttr,hlt',hg,List.length_map,d0,wrN x (by omega)])
     | (refine And.intro (by (try simp only [maxLe,LL]); omega) ?_; try simp only [go_sem,simprocAttr,hlt',hg,List.length_map,d0,wrN x (by omega)])
     | (intro _)
    all_goals exact ⟨x+1,⟨by omega,by rw [hj] <;> simp⟩,by omega⟩
   rw [if_neg hx0] at hj
   have d0:decide ((0:Int)<(x:Int))=true:=by simp; omega
   simp only [go_sem,simprocAttr,d1,d0,hlt',hg,List.length_map]
   repeat' first
    | (with_reducible refine condK_split _ (fun h=>?_) (fun h=>?_) <;> simp only [go_sem,simprocAttr,h,hlt',hg,List.length_map,d0,wrN x (by omega)])
    | (with_reducible refine acall_pure (hc _) ?_; simp only [go_sem,simprocAttr,hlt',hg,List.length_map,d0,wrN x (by omega)])
    | (refine drw_same ?_; simp only [go_sem,simprocAttr,hlt',hg,List.length_map,d0,wrN x (by omega)])
    | (refine And.intro (by (try simp only [maxLe,LL]); omega) ?_; try simp only [go_sem,simprocAttr,hlt',hg,List.length_map,d0,wrN x (by omega)])
    | (intro _)
   all_goals exact ⟨x+1,⟨by omega,by rw [hj] <;> simp⟩,by omega⟩
  ·have d1:decide ((x:Int)<(ks.length:Int))=false:=by simp; omega
   rw [List.take_of_length_le (by omega)] at hBx ⊢
   generalize joinD [44,32] (ks.map fun x:PatD=>x.kf.at 0)=sj at hBx ⊢
   simp only [go_sem,simprocAttr,d1,List.length_map]
   repeat' first
    | (with_reducible refine condK_split _ (fun h=>?_) (fun h=>?_) <;> simp only [go_sem,simprocAttr,h])
    | (with_reducible refine acall_pure (roundSC (by (try simp only [List.length_append,List.length_cons,List.length_nil]); omega) _ _ _) ?_; simp only [go_sem,simprocAttr])
    | (refine drw_same ?_; simp only [go_sem,simprocAttr])
    | (refine And.intro (by (try simp only [maxLe,LL]); omega) ?_; try simp only [go_sem,simprocAttr])
    | (intro _)
   all_goals first | exact ⟨s2 (by simp),_,rfl⟩ | exact ⟨_,rfl⟩
 have h7:k=7:=by
  by_cases h7:k=7
  ·exact h7
  ·rw [if_neg (by omega),if_neg h2,if_neg h3,if_neg h4,if_neg h6,if_neg h7] at hok1
   cases hok1
 subst h7
 by_cases hl:(ks.length:Int)=0
 ·obtain rfl:=len0 hl
  have e:(PatD.mk 7 n u p []).kf.at a=rnd n 1 a:=by simp [PatD.kf,PatD.kfL,patG,KF.at]
  rw [e]
  clear e hW hB hE
  simp only [go_sem,simprocAttr,mc224,mr224,PatD.cells,PatD.cellsL_eq,avC,List.length_map]
  repeat' first
   | (with_reducible refine condK_split _ (fun h=>?_) (fun h=>?_) <;> simp only [go_sem,simprocAttr,h])
   | (with_reducible refine acall_pure (roundSC (by (try simp only [List.length_append,List.length_cons,List.length_nil]); omega) _ _ _) ?_; simp only [go_sem,simprocAttr])
   | (refine drw_same ?_; simp only [go_sem,simprocAttr])
   | (refine And.intro (by (try simp only [maxLe,LL]); omega) ?_; try simp only [go_sem,simprocAttr])
   | (intro _)
  all_goals first | exact ⟨s2 (by simp),_,rfl⟩ | exact ⟨_,rfl⟩
 ·obtain ⟨c0,rfl⟩:=len1 (l:=ks) (by simp at hok1 hl; have:=hok1.1; have:=List.length_pos_iff.2 hl; omega)
  have a0:=hE c0 (by simp) 1
  have g0:=hk c0 (by simp) 1
  have e:(PatD.mk 7 n u p [c0]).kf.at a=rnd (n++(32 :: c0.kf.at 1)) 0 a:=by simp [PatD.kf,PatD.kfL,patG,KF.at]
  rw [e]
  simp only [PatD.szL] at hsz
  clear e hW hB hE
  generalize c0.kf.at 1=s0 at *
  obtain ⟨k0,n0,u0,p0,q0⟩:=c0
  simp only [PatD.cells,avC,List.map_cons,List.map_nil] at g0
  simp only [go_sem,simprocAttr,mc224,mr224,PatD.cells,PatD.cellsL,avC,List.length_map]
  repeat' first
   | (with_reducible refine condK_split _ (fun h=>?_) (fun h=>?_) <;> simp only [go_sem,simprocAttr,h])
   | (with_reducible refine acall_pure (g0 _) ?_; simp only [go_sem,simprocAttr])
   | (with_reducible refine acall_pure (roundSC (by (try simp only [List.length_append,List.length_cons,List.length_nil]); omega) _ _ _) ?_; simp only [go_sem,simprocAttr])
   | (refine drw_same ?_; simp only [go_sem,simprocAttr])
   | (refine And.intro (by (try simp only [maxLe,LL]); omega) ?_; try simp only [go_sem,simprocAttr])
   | (intro _)
  all_goals first | exact ⟨s2 (by simp),_,rfl⟩ | exact ⟨_,rfl⟩
theorem patSC (p : PatD) (h : p.sz ≤ 1073741824) (hok : p.okB = true) (hf : p.fit) : PatSC p := by
  have : ∀ (m : Nat) (p : PatD), p.sz < m → p.sz ≤ 1073741824 → p.okB = true → p.fit → PatSC p := by
    intro m
    induction m with
    | zero => intro p h; omega
    | succ m ih =>
      intro p h h2 hok hf
      obtain ⟨k, n, u, q, ks⟩ := p
      rw [PatD.sz] at h h2
      refine pat_SC _ _ _ _ _ hok hf h2 fun a ha => ?_
      rw [PatD.okB, PatD.okL_eq, Bool.and_eq_true, List.all_eq_true] at hok
      rw [PatD.fit] at hf
      rw [PatD.szL_eq] at h h2
      have := sumSz_mem PatD.sz ha
      exact ih a (by omega) (by omega) (hok.2 a ha) (PatD.fitL_mem hf.2 ha)
  exact this _ p (Nat.lt_succ_self _) h hok hf
def TextS (x:ExpD):Prop:=∀ (a:Int) (H:List AO),ACall Tryz.prog 81 [avC x.cells,.p (.i .i64 a)] H (pureQ (.p (.s (x.kf.at a))) H)
theorem wA_take:∀ (l:List (List UInt8 × KF)) (x:Nat),wA (l.take x)<=wA l
 | [],_=>by simp
 | a :: l,0=>by simp [wA]
 | a :: l,x+1=>by have:=wA_take l x; rw [List.take_succ_cons,wA,wA]; omega
theorem opL_cases (n:List UInt8):opL n=(1,2,2)\/opL n=(2,3,3)\/opL n=(4,4,5)\/opL n=(3,3,4):=by unfold opL; (repeat' split) <;> simp
theorem wl1:wr .i64 1=1:=by decide
theorem wl2:wr .i64 2=2:=by decide
theorem wl3:wr .i64 3=3:=by decide
theorem wl4:wr .i64 4=4:=by decide
theorem wl5:wr .i64 5=5:=by decide
theorem greatS (k:Int) (n:List UInt8) (u:Int) (t:List UInt8) (p:Int) (ks:List ExpD) (as':List ArmD) (hok:(ExpD.mk k n u t p ks as').okB=true) (hfit:(ExpD.mk k n u t p ks as').fit) (hsz:n.length+t.length+ExpD.szL ks+ExpD.szA as'<=1073741824)
  (hk:∀ x∈ks,TextS x) (harm:∀ q e,ArmD.mk q e∈as'->PatSC q/\TextS e) (hkk:k=10\/k=11\/k=12\/k=13) (H:List AO) :
  ACall Tryz.prog 181 [avC (ExpD.cells (.mk k n u t p ks as'))] H (pureQ (.p (.s (ExpD.mk k n u t p ks as').kf.f)) H):=by
 refine acall_drop1 ?_ (tf_p _)
 refine call181 (by simp) ?_
 rw [ExpD.fit] at hfit
 have hW:=ExpD.kfL_len ks hfit.2.1
 have hA:=ExpD.kfA_len as' hfit.2.2
 have hu:=hfit.1
 have hLen:ks.length<=1073741824:=by have:=sumSz_len ExpD.sz ks; rw [<- ExpD.szL_eq] at this; omega
 have hLenA:as'.length<=1073741824:=by have:=sumSz_len ArmD.sz as'; rw [<- ExpD.szA_eq] at this; omega
 have hE:∀ x∈ks,∀ z,(x.kf.at z).length<=200000000000:=fun x hx z=>by
  have h1:=(at_len x.kf z).1
  have h2:=wKm (l:=ExpD.kfL ks) (x:=x.kf) (by rw [ExpD.kfL_eq]; exact List.mem_map_of_mem hx)
  omega
 rw [ExpD.okB,expH] at hok
 simp only [Bool.and_eq_true] at hok
 have hok1:=hok.1.1
 clear hok hfit
 rcases hkk with rfl | rfl | rfl | rfl
 ·obtain ⟨c0,c1,rfl⟩:=len2 (l:=ks) (by simpa using (by simpa using hok1:_/\_).1)
  simp only [ExpD.szL] at hsz
  have a00:=hE c0 (by simp) 0
  have g00:=hk c0 (by simp) 0
  have a10:=hE c1 (by simp) 0
  have g10:=hk c1 (by simp) 0
  have e:(ExpD.mk 10 n u t p [c0,c1] as').kf.f=[108,101,116,32]++(n++([32,61,32]++(c0.kf.at 0++([32,105,110,32]++c1.kf.at 0)))):=by simp [ExpD.kf,ExpD.kfL,expG]
  rw [e]
  clear e hW hE hA hk harm
  generalize c0.kf.at 0=s00 at *
  generalize c1.kf.at 0=s10 at *
  obtain ⟨k0,n0,u0,t0,p0,q0,r0⟩:=c0
  obtain ⟨k1,n1,u1,t1,p1,q1,r1⟩:=c1
  simp only [ExpD.cells,avC,List.map_cons,List.map_nil,ExpD.cellsL_eq,ExpD.cellsA_eq] at g00 g10
  simp only [go_sem,simprocAttr,mc181,mr181,ExpD.cells,ExpD.cellsL_eq,ExpD.cellsA_eq,avC,List.length_map]
  repeat' first
   | (with_reducible refine condK_split _ (fun h=>?_) (fun h=>?_) <;> simp only [go_sem,simprocAttr,h,List.length_map,wl1,wl2,wl3,wl4,wl5])
   | (with_reducible refine pcall_pure (fun A=>g00 _) (Hext.refl _) ?_; simp only [go_sem,simprocAttr,List.length_map,wl1,wl2,wl3,wl4,wl5])
   | (with_reducible refine pcall_pure (fun A=>g10 _) (Hext.refl _) ?_; simp only [go_sem,simprocAttr,List.length_map,wl1,wl2,wl3,wl4,wl5])
   | (refine drw_same ?_; simp only [go_sem,simprocAttr,List.length_map,wl1,wl2,wl3,wl4,wl5])
   | (refine And.intro (by (try simp only [maxLe,LL]); omega) ?_; try simp only [go_sem,simprocAttr,List.length_map,wl1,wl2,wl3,wl4,wl5])
   | (intro _)
  all_goals first | exact ⟨s2 (by simp),_,rfl⟩ | exact ⟨_,rfl⟩
 ·obtain ⟨c0,c1,rfl⟩:=len2 (l:=ks) (by simpa using (by simpa using hok1:_/\_).1)
  simp only [ExpD.szL] at hsz
  have a00:=hE c0 (by simp) 0
  have g00:=hk c0 (by simp) 0
  have a10:=hE c1 (by simp) 0
  have g10:=hk c1 (by simp) 0
  have e:(ExpD.mk 11 n u t p [c0,c1] as').kf.f=[108,101,116,32,114,101,99,32]++(n++(32 :: (t++([32,61,32]++(c0.kf.at 0++([32,105,110,32]++c1.kf.at 0)))))):=by simp [ExpD.kf,ExpD.kfL,expG]
  rw [e]
  clear e hW hE hA hk harm
  generalize c0.kf.at 0=s00 at *
  generalize c1.kf.at 0=s10 at *
  obtain ⟨k0,n0,u0,t0,p0,q0,r0⟩:=c0
  obtain ⟨k1,n1,u1,t1,p1,q1,r1⟩:=c1
  simp only [ExpD.cells,avC,List.map_cons,List.map_nil,ExpD.cellsL_eq,ExpD.cellsA_eq] at g00 g10
  simp only [go_sem,simprocAttr,mc181,mr181,ExpD.cells,ExpD.cellsL_eq,ExpD.cellsA_eq,avC,List.length_map]
  repeat' first
   | (with_reducible refine condK_split _ (fun h=>?_) (fun h=>?_) <;> simp only [go_sem,simprocAttr,h,List.length_map,wl1,wl2,wl3,wl4,wl5])
   | (with_reducible refine pcall_pure (fun A=>g00 _) (Hext.refl _) ?_; simp only [go_sem,simprocAttr,List.length_map,wl1,wl2,wl3,wl4,wl5])
   | (with_reducible refine pcall_pure (fun A=>g10 _) (Hext.refl _) ?_; simp only [go_sem,simprocAttr,List.length_map,wl1,wl2,wl3,wl4,wl5])
   | (refine drw_same ?_; simp only [go_sem,simprocAttr,List.length_map,wl1,wl2,wl3,wl4,wl5])
   | (refine And.intro (by (try simp only [maxLe,LL]); omega) ?_; try simp only [go_sem,simprocAttr,List.length_map,wl1,wl2,wl3,wl4,wl5])
   | (intro _)
  all_goals first | exact ⟨s2 (by simp),_,rfl⟩ | exact ⟨_,rfl⟩
 ·obtain ⟨c0,c1,c2,rfl⟩:=len3 (l:=ks) (by simpa using (by simpa using hok1:_/\_).1)
  simp only [ExpD.szL] at hsz
  have a00:=hE c0 (by simp) 0
  have g00:=hk c0 (by simp) 0
  have a10:=hE c1 (by simp) 0
  have g10:=hk c1 (by simp) 0
  have a20:=hE c2 (by simp) 0
  have g20:=hk c2 (by simp) 0
  have e:(ExpD.mk 12 n u t p [c0,c1,c2] as').kf.f=[105,102,32]++(c0.kf.at 0++([32,116,104,101,110,32]++(c1.kf.at 0++([32,101,108,115,101,32]++c2.kf.at 0)))):=by simp [ExpD.kf,ExpD.kfL,expG]
  rw [e]
  clear e hW hE hA hk harm
  generalize c0.kf.at 0=s00 at *
  generalize c1.kf.at 0=s10 at *
  generalize c2.kf.at 0=s20 at *
  obtain ⟨k0,n0,u0,t0,p0,q0,r0⟩:=c0
  obtain ⟨k1,n1,u1,t1,p1,q1,r1⟩:=c1
  obtain ⟨k2,n2,u2,t2,p2,q2,r2⟩:=c2
  simp only [ExpD.cells,avC,List.map_cons,List.map_nil,ExpD.cellsL_eq,ExpD.cellsA_eq] at g00 g10 g20
  simp only [go_sem,simprocAttr,mc181,mr181,ExpD.cells,ExpD.cellsL_eq,ExpD.cellsA_eq,avC,List.length_map]
  repeat' first
   | (with_reducible refine condK_split _ (fun h=>?_) (fun h=>?_) <;> simp only [go_sem,simprocAttr,h,List.length_map,wl1,wl2,wl3,wl4,wl5])
   | (with_reducible refine pcall_pure (fun A=>g00 _) (Hext.refl _) ?_; simp only [go_sem,simprocAttr,List.length_map,wl1,wl2,wl3,wl4,wl5])
   | (with_reducible refine pcall_pure (fun A=>g10 _) (Hext.refl _) ?_; simp only [go_sem,simprocAttr,List.length_map,wl1,wl2,wl3,wl4,wl5])
   | (with_reducible refine pcall_pure (fun A=>g20 _) (Hext.refl _) ?_; simp only [go_sem,simprocAttr,List.length_map,wl1,wl2,wl3,wl4,wl5])
   | (refine drw_same ?_; simp only [go_sem,simprocAttr,List.length_map,wl1,wl2,wl3,wl4,wl5])
   | (refine And.intro (by (try simp only [maxLe,LL]); omega) ?_; try simp only [go_sem,simprocAttr,List.length_map,wl1,wl2,wl3,wl4,wl5])
   | (intro _)
  all_goals first | exact ⟨s2 (by simp),_,rfl⟩ | exact ⟨_,rfl⟩
 ·obtain ⟨c0,rfl⟩:=len1 (l:=ks) (by simpa using (by simpa using hok1:_/\_).1)
  simp only [ExpD.szL] at hsz
  have a0:=hE c0 (by simp) 0
  have g0:=hk c0 (by simp) 0
  have hF:∀ x,((as'.take x).map fun x=>armF x.kf).flatten.length<=200000000000:=fun x=>by
   have h1:=armF_len ((ExpD.kfA as').take x)
   have h2:=wA_take (ExpD.kfA as') x
   rw [ExpD.kfA_eq,<- List.map_take,List.map_map] at h1
   rw [ExpD.kfA_eq] at hA h2
   rw [<- List.map_take] at h2
   exact Nat.le_trans h1 (by omega)
  have e:(ExpD.mk 13 n u t p [c0] as').kf.f=[109,97,116,99,104,32]++(c0.kf.at 0++([32,119,105,116,104]++((as'.map fun x=>armF x.kf).flatten++[32,101,110,100]))):=by simp [ExpD.kf,ExpD.kfL,expG,ExpD.kfA_eq,Function.comp_def]
  rw [e]
  clear e hW hE hA hk
  generalize c0.kf.at 0=s0 at *
  obtain ⟨k0,n0,u0,t0,p0,q0,r0⟩:=c0
  simp only [ExpD.cells,avC,List.map_cons,List.map_nil,ExpD.cellsL_eq,ExpD.cellsA_eq] at g0
  simp only [go_sem,simprocAttr,mc181,mr181,ExpD.cells,ExpD.cellsL_eq,ExpD.cellsA_eq,avC,List.length_map]
  repeat' first
   | (with_reducible refine condK_split _ (fun h=>?_) (fun h=>?_) <;> simp only [go_sem,simprocAttr,h,List.length_map])
   | (with_reducible refine acall_pure (g0 _) ?_; simp only [go_sem,simprocAttr,List.length_map])
   | (refine drw_same ?_; simp only [go_sem,simprocAttr,List.length_map])
   | (refine And.intro (by (try simp only [maxLe,LL]); omega) ?_; try simp only [go_sem,simprocAttr,List.length_map])
   | (intro _)
  refine ⟨Nat,[1,2,3,4],fun x st=>x<=as'.length/\st=⟨[(1,.ptr H.length 0),(2,.p (.s [])),(3,.p (.s ([109,97,116,99,104,32]++(s0++([32,119,105,116,104]++((as'.take x).map fun x=>armF x.kf).flatten))))),(4,.p (.i .i64 x))],[],H++[.var [.p (.i .i64 13),.p (.s n),.p (.i .i64 u),.p (.s t),.p (.i .i64 p),.p (.l [[.i .i64 k0,.s n0,.i .i64 u0,.s t0,.i .i64 p0,.l (q0.map ExpD.cells),.l (r0.map ArmD.cells)]]),.p (.l (as'.map ArmD.cells))]]⟩,fun x=>as'.length - x,⟨0,?_⟩,?_⟩
  ·simp only [go_sem,simprocAttr]
   exact ⟨Nat.zero_le _,by simp⟩
  rintro x _ ⟨hx,rfl⟩
  have hBx:=hF x
  by_cases hlt:x<as'.length
  ·have d1:decide ((x:Int)<(as'.length:Int))=true:=by simp; omega
   have hlt':(x:Int)<(as'.length:Int):=by omega
   have hg:(as'.map ArmD.cells)[x]?=some (ArmD.cells as'[x]):=by simp [hlt]
   have hc:∀ q e,as'[x]=ArmD.mk q e->PatSC q/\TextS e:=fun q e he=>harm q e (by rw [<- he]; exact List.getElem_mem hlt)
   have hj:=congrArg List.flatten (take_snoc (fun x:ArmD=>armF x.kf) hlt)
   have hBy:=hF (x+1)
   rw [List.flatten_append] at hj
   rw [hj] at hBy
   generalize ((as'.take x).map fun x=>armF x.kf).flatten=sj at hBx hBy hj ⊢
   generalize as'[x]=c at hg hc hj hBy
   obtain ⟨⟨qk,qn,qu,qp,qks⟩,⟨ck,cn,cu,ct,cp,cks,cas⟩⟩:=c
   obtain ⟨h1,h2⟩:=hc _ _ rfl
   have h1:=h1 0
   have h2:=h2 0
   have hcf:armF (ArmD.kf (.mk (.mk qk qn qu qp qks) (.mk ck cn cu ct cp cks cas)))=[32,124,32]++((PatD.mk qk qn qu qp qks).kf.at 0++([32,45,62,32]++(ExpD.mk ck cn cu ct cp cks cas).kf.at 0)):=by rw [ArmD.kf,armF]
   simp only [List.flatten_cons,List.flatten_nil,List.append_nil] at hj hBy
   rw [hcf] at hj hBy
   clear hcf
   generalize PatD.kf _=f1 at *
   generalize ExpD.kf _=f2 at *
   generalize f1.at 0=s1 at *
   generalize f2.at 0=s2' at *
   simp only [List.length_append,List.length_cons,List.length_nil] at hBy
   simp only [armC,PatD.cells,ExpD.cells,avC,List.map_cons,List.map_nil,List.cons_append,List.nil_append] at hg h1 h2
   simp only [go_sem,simprocAttr,d1,hlt',hg,List.length_map]
   repeat' first
    | (with_reducible refine condK_split _ (fun h=>?_) (fun h=>?_) <;> simp only [go_sem,simprocAttr,h,hlt',hg,List.length_map,wrN x (by omega)])
    | (with_reducible refine pcall_pure (fun A=>h1 _) (Hext.refl _) ?_; simp only [go_sem,simprocAttr,hlt',hg,List.length_map,wrN x (by omega)])
    | (with_reducible refine pcall_pure (fun A=>h2 _) (Hext.refl _) ?_; simp only [go_sem,simprocAttr,hlt',hg,List.length_map,wrN x (by omega)])
    | (refine drw_same ?_; simp only [go_sem,simprocAttr,hlt',hg,List.length_map,wrN x (by omega)])
    | (refine And.intro (by (try simp only [maxLe,LL]); omega) ?_; try simp only [go_sem,simprocAttr,hlt',hg,List.length_map,wrN x (by omega)])
    | (intro _)
   all_goals exact ⟨x+1,⟨by omega,by rw [hj] <;> simp⟩,by omega⟩
  ·have d1:decide ((x:Int)<(as'.length:Int))=false:=by simp; omega
   rw [List.take_of_length_le (by omega)] at hBx ⊢
   generalize (as'.map fun x=>armF x.kf).flatten=sj at hBx ⊢
   simp only [go_sem,simprocAttr,d1,List.length_map]
   repeat' first
    | (with_reducible refine condK_split _ (fun h=>?_) (fun h=>?_) <;> simp only [go_sem,simprocAttr,h,List.length_map])
    | (refine drw_same ?_; simp only [go_sem,simprocAttr,List.length_map])
    | (refine And.intro (by (try simp only [maxLe,LL]); omega) ?_; try simp only [go_sem,simprocAttr,List.length_map])
    | (intro _)
   all_goals first | exact ⟨s2 (by simp),_,rfl⟩ | exact ⟨_,rfl⟩
theorem formS (k:Int) (n:List UInt8) (u:Int) (t:List UInt8) (p:Int) (ks:List ExpD) (as':List ArmD) (hok:(ExpD.mk k n u t p ks as').okB=true) (hfit:(ExpD.mk k n u t p ks as').fit) (hsz:n.length+t.length+ExpD.szL ks+ExpD.szA as'<=1073741824)
  (hk:∀ x∈ks,TextS x) (harm:∀ q e,ArmD.mk q e∈as'->PatSC q/\TextS e) (H:List AO) :
  ACall Tryz.prog 126 [avC (ExpD.cells (.mk k n u t p ks as'))] H (pureQ (.p (.s (ExpD.mk k n u t p ks as').kf.f)) H):=by
 have hgr:=fun hkk=>greatS k n u t p ks as' hok hfit hsz hk harm hkk
 refine acall_drop1 ?_ (tf_p _)
 refine call126 (by simp) ?_
 rw [ExpD.fit] at hfit
 have hW:=ExpD.kfL_len ks hfit.2.1
 have hA:=ExpD.kfA_len as' hfit.2.2
 have hu:=hfit.1
 have hLen:ks.length<=1073741824:=by have:=sumSz_len ExpD.sz ks; rw [<- ExpD.szL_eq] at this; omega
 have hLenA:as'.length<=1073741824:=by have:=sumSz_len ArmD.sz as'; rw [<- ExpD.szA_eq] at this; omega
 have hE:∀ x∈ks,∀ z,(x.kf.at z).length<=200000000000:=fun x hx z=>by
  have h1:=(at_len x.kf z).1
  have h2:=wKm (l:=ExpD.kfL ks) (x:=x.kf) (by rw [ExpD.kfL_eq]; exact List.mem_map_of_mem hx)
  omega
 rw [ExpD.okB,expH] at hok
 simp only [Bool.and_eq_true] at hok
 have hok1:=hok.1.1
 have har:=arity_cases n
 clear hok hfit
 by_cases h1:k=1
 ·subst h1
  have e:(ExpD.mk 1 n u t p ks as').kf.f=decZ u:=by simp [ExpD.kf,expG]
  rw [e]
  clear e hW hE hA hk harm hgr
  have h0:0<=u:=by simp at hok1; exact hok1.2.2.1
  simp only [go_sem,simprocAttr,mc126,mr126,ExpD.cells,ExpD.cellsL_eq,ExpD.cellsA_eq,avC,List.length_map]
  repeat' first
   | (with_reducible refine condK_split _ (fun h=>?_) (fun h=>?_) <;> simp only [go_sem,simprocAttr,h])
   | (with_reducible refine acall_pure (decSC h0 hu _) ?_; simp only [go_sem,simprocAttr])
   | (refine drw_same ?_; simp only [go_sem,simprocAttr])
   | (refine And.intro (by (try simp only [maxLe,LL]); omega) ?_; try simp only [go_sem,simprocAttr])
   | (intro _)
  all_goals first | exact ⟨s2 (by simp),_,rfl⟩ | exact ⟨_,rfl⟩
 by_cases h2:k=2
 ·subst h2
  have e:(ExpD.mk 2 n u t p ks as').kf.f=quoD t:=by simp [ExpD.kf,expG]
  rw [e]
  clear e hW hE hA hk harm hgr
  simp only [go_sem,simprocAttr,mc126,mr126,ExpD.cells,ExpD.cellsL_eq,ExpD.cellsA_eq,avC,List.length_map]
  repeat' first
   | (with_reducible refine condK_split _ (fun h=>?_) (fun h=>?_) <;> simp only [go_sem,simprocAttr,h])
   | (with_reducible refine acall_pure (quotedSC (by omega) _) ?_; simp only [go_sem,simprocAttr])
   | (refine drw_same ?_; simp only [go_sem,simprocAttr])
   | (refine And.intro (by (try simp only [maxLe,LL]); omega) ?_; try simp only [go_sem,simprocAttr])
   | (intro _)
  all_goals first | exact ⟨s2 (by simp),_,rfl⟩ | exact ⟨_,rfl⟩
 by_cases h3:k=3
 ·subst h3
  have e:(ExpD.mk 3 n u t p ks as').kf.f=boolW u:=by simp [ExpD.kf,expG]
  rw [e]
  clear e hW hE hA hk harm hgr
  simp only [go_sem,simprocAttr,mc126,mr126,ExpD.cells,ExpD.cellsL_eq,ExpD.cellsA_eq,avC,List.length_map]
  repeat' first
   | (with_reducible refine condK_split _ (fun h=>?_) (fun h=>?_) <;> simp only [go_sem,simprocAttr,h])
   | (with_reducible refine acall_pure (boolSC _ _) ?_; simp only [go_sem,simprocAttr])
   | (refine drw_same ?_; simp only [go_sem,simprocAttr])
   | (refine And.intro (by (try simp only [maxLe,LL]); omega) ?_; try simp only [go_sem,simprocAttr])
   | (intro _)
  all_goals first | exact ⟨s2 (by simp),_,rfl⟩ | exact ⟨_,rfl⟩
 by_cases h4:k=4
 ·subst h4
  have e:(ExpD.mk 4 n u t p ks as').kf.f=[40,41]:=by simp [ExpD.kf,expG]
  rw [e]
  clear e hW hE hA hk harm hgr
  simp only [go_sem,simprocAttr,mc126,mr126,ExpD.cells,ExpD.cellsL_eq,ExpD.cellsA_eq,avC,List.length_map]
  repeat' first
   | (with_reducible refine condK_split _ (fun h=>?_) (fun h=>?_) <;> simp only [go_sem,simprocAttr,h])
   | (refine drw_same ?_; simp only [go_sem,simprocAttr])
   | (refine And.intro (by (try simp only [maxLe,LL]); omega) ?_; try simp only [go_sem,simprocAttr])
   | (intro _)
  all_goals first | exact ⟨s2 (by simp),_,rfl⟩ | exact ⟨_,rfl⟩
 by_cases h5:k=5
 ·subst h5
  have e:(ExpD.mk 5 n u t p ks as').kf.f=n:=by simp [ExpD.kf,expG]
  rw [e]
  clear e hW hE hA hk harm hgr
  simp only [go_sem,simprocAttr,mc126,mr126,ExpD.cells,ExpD.cellsL_eq,ExpD.cellsA_eq,avC,List.length_map]
  repeat' first
   | (with_reducible refine condK_split _ (fun h=>?_) (fun h=>?_) <;> simp only [go_sem,simprocAttr,h])
   | (refine drw_same ?_; simp only [go_sem,simprocAttr])
   | (refine And.intro (by (try simp only [maxLe,LL]); omega) ?_; try simp only [go_sem,simprocAttr])
   | (intro _)
  all_goals first | exact ⟨s2 (by simp),_,rfl⟩ | exact ⟨_,rfl⟩
 by_cases h6:k=6
 ·subst h6
  clear hgr
  by_cases hl:(ks.length:Int)=0
  ·obtain rfl:=len0 hl
   have e:(ExpD.mk 6 n u t p [] as').kf.f=n:=by simp [ExpD.kf,ExpD.kfL,expG]
   rw [e]
   clear e hW hE hA hk harm
   simp only [go_sem,simprocAttr,mc126,mr126,ExpD.cells,ExpD.cellsL_eq,ExpD.cellsA_eq,avC,List.length_map]
   repeat' first
    | (with_reducible refine condK_split _ (fun h=>?_) (fun h=>?_) <;> simp only [go_sem,simprocAttr,h])
    | (refine drw_same ?_; simp only [go_sem,simprocAttr])
    | (refine And.intro (by (try simp only [maxLe,LL]); omega) ?_; try simp only [go_sem,simprocAttr])
    | (intro _)
   all_goals first | exact ⟨s2 (by simp),_,rfl⟩ | exact ⟨_,rfl⟩
  ·obtain ⟨c0,rfl⟩:=len1 (l:=ks) (by simp at hok1 hl; have:=hok1.1; have:=List.length_pos_iff.2 hl; omega)
   simp only [ExpD.szL] at hsz
   have a06:=hE c0 (by simp) 6
   have g06:=hk c0 (by simp) 6
   have e:(ExpD.mk 6 n u t p [c0] as').kf.f=n++(32 :: c0.kf.at 6):=by simp [ExpD.kf,ExpD.kfL,expG]
   rw [e]
   clear e hW hE hA hk harm
   generalize c0.kf.at 6=s06 at *
   obtain ⟨k0,n0,u0,t0,p0,q0,r0⟩:=c0
   simp only [ExpD.cells,avC,List.map_cons,List.map_nil,ExpD.cellsL_eq,ExpD.cellsA_eq] at g06
   simp only [go_sem,simprocAttr,mc126,mr126,ExpD.cells,ExpD.cellsL_eq,ExpD.cellsA_eq,avC,List.length_map]
   repeat' first
    | (with_reducible refine condK_split _ (fun h=>?_) (fun h=>?_) <;> simp only [go_sem,simprocAttr,h,List.length_map,wl1,wl2,wl3,wl4,wl5])
    | (with_reducible refine pcall_pure (fun A=>g06 _) (Hext.refl _) ?_; simp only [go_sem,simprocAttr,List.length_map,wl1,wl2,wl3,wl4,wl5])
    | (refine drw_same ?_; simp only [go_sem,simprocAttr,List.length_map,wl1,wl2,wl3,wl4,wl5])
    | (refine And.intro (by (try simp only [maxLe,LL]); omega) ?_; try simp only [go_sem,simprocAttr,List.length_map,wl1,wl2,wl3,wl4,wl5])
    | (intro _)
   all_goals first | exact ⟨s2 (by simp),_,rfl⟩ | exact ⟨_,rfl⟩
 by_cases h15:k=15
 ·subst h15
  clear hgr
  by_cases hl:(ks.length:Int)=0
  ·obtain rfl:=len0 hl
   have e:(ExpD.mk 15 n u t p [] as').kf.f=n:=by simp [ExpD.kf,ExpD.kfL,expG]
   rw [e]
   clear e hW hE hA hk harm
   simp only [go_sem,simprocAttr,mc126,mr126,ExpD.cells,ExpD.cellsL_eq,ExpD.cellsA_eq,avC,List.length_map]
   repeat' first
    | (with_reducible refine condK_split _ (fun h=>?_) (fun h=>?_) <;> simp only [go_sem,simprocAttr,h])
    | (refine drw_same ?_; simp only [go_sem,simprocAttr])
    | (refine And.intro (by (try simp only [maxLe,LL]); omega) ?_; try simp only [go_sem,simprocAttr])
    | (intro _)
   all_goals first | exact ⟨s2 (by simp),_,rfl⟩ | exact ⟨_,rfl⟩
  ·obtain ⟨c0,rfl⟩:=len1 (l:=ks) (by have h1:(ks.length:Int)=arity n:=(by simp at hok1; exact hok1.1); rcases har with h | h | h <;> omega)
   simp only [ExpD.szL] at hsz
   have a06:=hE c0 (by simp) 6
   have g06:=hk c0 (by simp) 6
   have e:(ExpD.mk 15 n u t p [c0] as').kf.f=n++(32 :: c0.kf.at 6):=by simp [ExpD.kf,ExpD.kfL,expG]
   rw [e]
   clear e hW hE hA hk harm
   generalize c0.kf.at 6=s06 at *
   obtain ⟨k0,n0,u0,t0,p0,q0,r0⟩:=c0
   simp only [ExpD.cells,avC,List.map_cons,List.map_nil,ExpD.cellsL_eq,ExpD.cellsA_eq] at g06
   simp only [go_sem,simprocAttr,mc126,mr126,ExpD.cells,ExpD.cellsL_eq,ExpD.cellsA_eq,avC,List.length_map]
   repeat' first
    | (with_reducible refine condK_split _ (fun h=>?_) (fun h=>?_) <;> simp only [go_sem,simprocAttr,h,List.length_map,wl1,wl2,wl3,wl4,wl5])
    | (with_reducible refine pcall_pure (fun A=>g06 _) (Hext.refl _) ?_; simp only [go_sem,simprocAttr,List.length_map,wl1,wl2,wl3,wl4,wl5])
    | (refine drw_same ?_; simp only [go_sem,simprocAttr,List.length_map,wl1,wl2,wl3,wl4,wl5])
    | (refine And.intro (by (try simp only [maxLe,LL]); omega) ?_; try simp only [go_sem,simprocAttr,List.length_map,wl1,wl2,wl3,wl4,wl5])
    | (intro _)
   all_goals first | exact ⟨s2 (by simp),_,rfl⟩ | exact ⟨_,rfl⟩
 by_cases h7:k=7
 ·subst h7
  have e:(ExpD.mk 7 n u t p ks as').kf.f=40 :: (joinD [44,32] (ks.map fun x=>x.kf.at 0)++[41]):=by simp [ExpD.kf,ExpD.kfL_eq,expG,Function.comp_def]
  rw [e]
  have hB:∀ x,(joinD [44,32] ((ks.take x).map fun x=>x.kf.at 0)).length<=200000000000:=fun x=>by
   have h1:=joinK_len [44,32] (by decide) 0 ((ExpD.kfL ks).take x)
   have h2:=wK_take (ExpD.kfL ks) x
   rw [ExpD.kfL_eq,<- List.map_take,List.map_map] at h1
   rw [ExpD.kfL_eq] at hW h2
   rw [<- List.map_take] at h2
   exact Nat.le_trans h1 (by omega)
  clear e hW hA harm hgr
  simp only [go_sem,simprocAttr,mc126,mr126,ExpD.cells,ExpD.cellsL_eq,ExpD.cellsA_eq,avC,List.length_map]
  refine ⟨Nat,[1,2,3,4],fun x st=>x<=ks.length/\st=⟨[(1,.ptr H.length 0),(2,.p (.s [])),(3,.p (.s (40 :: joinD [44,32] ((ks.take x).map fun x:ExpD=>x.kf.at 0)))),(4,.p (.i .i64 x))],[],H++[.var [.p (.i .i64 7),.p (.s n),.p (.i .i64 u),.p (.s t),.p (.i .i64 p),.p (.l (ks.map ExpD.cells)),.p (.l (as'.map ArmD.cells))]]⟩,fun x=>ks.length - x,⟨0,?_⟩,?_⟩
  ·simp only [go_sem,simprocAttr]
   exact ⟨Nat.zero_le _,rfl⟩
  rintro x _ ⟨hx,rfl⟩
  have hBx:=hB x
  by_cases hlt:x<ks.length
  ·have d1:decide ((x:Int)<(ks.length:Int))=true:=by simp; omega
   have hlt':(x:Int)<(ks.length:Int):=by omega
   have hg:(ks.map ExpD.cells)[x]?=some (ExpD.cells ks[x]):=by simp [hlt]
   have hc:=hk ks[x] (List.getElem_mem hlt) 0
   have hEx:=hE ks[x] (List.getElem_mem hlt) 0
   have hj:=joinD_step [44,32] (fun x:ExpD=>x.kf.at 0) hlt
   have hj0:x=0->joinD [44,32] ((ks.take x).map fun x:ExpD=>x.kf.at 0)=[]:=by rintro rfl; rfl
   generalize joinD [44,32] ((ks.take x).map fun x:ExpD=>x.kf.at 0)=sj at hBx hj hj0 ⊢
   generalize ks[x]=c at hg hc hEx hj
   generalize c.kf.at 0=sc at hc hEx hj
   obtain ⟨ck,cn,cu,ct,cp,cks,cas⟩:=c
   simp only [ExpD.cells,avC,List.map_cons,List.map_nil] at hg hc
   by_cases hx0:x=0
   ·rw [if_pos hx0] at hj
    have hj0:=hj0 hx0
    subst hj0
    have d0:decide ((0:Int)<(x:Int))=false:=by simp; omega
    simp only [go_sem,simprocAttr,d1,d0,hlt',hg,List.length_map]
    repeat' first
     | (with_reducible refine condK_split _ (fun h=>?_) (fun h=>?_) <;> simp only [go_sem,simprocAttr,h,hlt',hg,List.length_map,d0,wrN x (by omega)])
     | (with_reducible refine acall_pure (hc _) ?_; simp only [go_sem,simprocAttr,hlt',hg,List.length_map,d0,wrN x (by omega)])
     | (refine drw_same ?_; simp only [go_sem,simprocAttr,hlt',hg,List.length_map,d0,wrN x (by omega)])
     | (refine And.intro (by (try simp only [maxLe,LL]); omega) ?_; try simp only [go_sem,simprocAttr,hlt',hg,List.length_map,d0,wrN x (by omega)])
     | (intro _)
    all_goals exact ⟨x+1,⟨by omega,by rw [hj] <;> simp⟩,by omega⟩
   rw [if_neg hx0] at hj
   have d0:decide ((0:Int)<(x:Int))=true:=by simp; omega
   simp only [go_sem,simprocAttr,d1,d0,hlt',hg,List.length_map]
   repeat' first
    | (with_reducible refine condK_split _ (fun h=>?_) (fun h=>?_) <;> simp only [go_sem,simprocAttr,h,hlt',hg,List.length_map,d0,wrN x (by omega)])
    | (with_reducible refine acall_pure (hc _) ?_; simp only [go_sem,simprocAttr,hlt',hg,List.length_map,d0,wrN x (by omega)])
    | (refine drw_same ?_; simp only [go_sem,simprocAttr,hlt',hg,List.length_map,d0,wrN x (by omega)])
    | (refine And.intro (by (try simp only [maxLe,LL]); omega) ?_; try simp only [go_sem,simprocAttr,hlt',hg,List.length_map,d0,wrN x (by omega)])
    | (intro _)
   all_goals exact ⟨x+1,⟨by omega,by rw [hj] <;> simp⟩,by omega⟩
  ·have d1:decide ((x:Int)<(ks.length:Int))=false:=by simp; omega
   rw [List.take_of_length_le (by omega)] at hBx ⊢
   generalize joinD [44,32] (ks.map fun x:ExpD=>x.kf.at 0)=sj at hBx ⊢
   simp only [go_sem,simprocAttr,d1,List.length_map]
   repeat' first
    | (with_reducible refine condK_split _ (fun h=>?_) (fun h=>?_) <;> simp only [go_sem,simprocAttr,h,List.length_map])
    | (refine drw_same ?_; simp only [go_sem,simprocAttr,List.length_map])
    | (refine And.intro (by (try simp only [maxLe,LL]); omega) ?_; try simp only [go_sem,simprocAttr,List.length_map])
    | (intro _)
   all_goals first | exact ⟨s2 (by simp),_,rfl⟩ | exact ⟨_,rfl⟩
 by_cases h8:k=8
 ·subst h8
  clear hgr
  obtain ⟨c0,rfl⟩:=len1 (l:=ks) (by simpa using (by simpa using hok1:_/\_).1)
  simp only [ExpD.szL] at hsz
  have a00:=hE c0 (by simp) 0
  have g00:=hk c0 (by simp) 0
  have e:(ExpD.mk 8 n u t p [c0] as').kf.f=[102,117,110,32]++(n++([32,45,62,32]++c0.kf.at 0)):=by simp [ExpD.kf,ExpD.kfL,expG]
  rw [e]
  clear e hW hE hA hk harm
  generalize c0.kf.at 0=s00 at *
  obtain ⟨k0,n0,u0,t0,p0,q0,r0⟩:=c0
  simp only [ExpD.cells,avC,List.map_cons,List.map_nil,ExpD.cellsL_eq,ExpD.cellsA_eq] at g00
  simp only [go_sem,simprocAttr,mc126,mr126,ExpD.cells,ExpD.cellsL_eq,ExpD.cellsA_eq,avC,List.length_map]
  repeat' first
   | (with_reducible refine condK_split _ (fun h=>?_) (fun h=>?_) <;> simp only [go_sem,simprocAttr,h,List.length_map,wl1,wl2,wl3,wl4,wl5])
   | (with_reducible refine pcall_pure (fun A=>g00 _) (Hext.refl _) ?_; simp only [go_sem,simprocAttr,List.length_map,wl1,wl2,wl3,wl4,wl5])
   | (refine drw_same ?_; simp only [go_sem,simprocAttr,List.length_map,wl1,wl2,wl3,wl4,wl5])
   | (refine And.intro (by (try simp only [maxLe,LL]); omega) ?_; try simp only [go_sem,simprocAttr,List.length_map,wl1,wl2,wl3,wl4,wl5])
   | (intro _)
  all_goals first | exact ⟨s2 (by simp),_,rfl⟩ | exact ⟨_,rfl⟩
 by_cases h9:k=9
 ·subst h9
  clear hgr
  obtain ⟨c0,c1,rfl⟩:=len2 (l:=ks) (by simpa using (by simpa using hok1:_/\_).1)
  simp only [ExpD.szL] at hsz
  have a05:=hE c0 (by simp) 5
  have g05:=hk c0 (by simp) 5
  have a07:=hE c0 (by simp) 7
  have g07:=hk c0 (by simp) 7
  have a16:=hE c1 (by simp) 6
  have g16:=hk c1 (by simp) 6
  have e:(ExpD.mk 9 n u t p [c0,c1] as').kf.f=c0.kf.at (if c0.kf.b then 7 else 5)++(32 :: c1.kf.at 6):=by simp [ExpD.kf,ExpD.kfL,expG]
  rw [e]
  clear e hW hE hA hk harm
  obtain ⟨k0,n0,u0,t0,p0,q0,r0⟩:=c0
  obtain ⟨k1,n1,u1,t1,p1,q1,r1⟩:=c1
  have hb2:=kf_b k0 n0 u0 t0 p0 q0 r0
  generalize (ExpD.mk k0 n0 u0 t0 p0 q0 r0).kf=f0 at *
  generalize (ExpD.mk k1 n1 u1 t1 p1 q1 r1).kf.at 6=s1 at *
  simp only [ExpD.cells,avC,List.map_cons,List.map_nil,ExpD.cellsL_eq,ExpD.cellsA_eq] at g05 g07 g16
  simp only [go_sem,simprocAttr,mc126,mr126,ExpD.cells,ExpD.cellsL_eq,ExpD.cellsA_eq,avC,List.length_map]
  repeat' first
   | (with_reducible refine condK_split _ (fun h=>?_) (fun h=>?_) <;> simp only [go_sem,simprocAttr,h,List.length_map])
   | (with_reducible refine pcall_pure (fun A=>g05 _) (Hext.refl _) ?_; simp only [go_sem,simprocAttr,List.length_map])
   | (with_reducible refine pcall_pure (fun A=>g07 _) (Hext.refl _) ?_; simp only [go_sem,simprocAttr,List.length_map])
   | (with_reducible refine pcall_pure (fun A=>g16 _) (Hext.refl _) ?_; simp only [go_sem,simprocAttr,List.length_map])
   | (refine drw_same ?_; simp only [go_sem,simprocAttr,List.length_map])
   | (refine And.intro (by (try simp only [maxLe,LL]); omega) ?_; try simp only [go_sem,simprocAttr,List.length_map])
   | (intro _)
  all_goals refine ⟨s2 ?_,_,rfl⟩
  ·rename_i h01 _
   have hbt:f0.b=true:=by rw [hb2,h01,h]; rfl
   rw [if_pos hbt] <;> simp
  ·have hbf:f0.b=false:=by rw [hb2,h,Bool.and_false]
   rw [hbf] <;> simp
  ·have hbf:f0.b=false:=by rw [hb2,h,Bool.false_and]
   rw [hbf] <;> simp
 by_cases h14:k=14
 ·subst h14
  clear hgr
  have hlv:=opLevelSC n
  rcases opL_cases n with ho | ho | ho | ho
  all_goals rw [ho] at hlv
  ·obtain ⟨c0,c1,rfl⟩:=len2 (l:=ks) (by simpa using (by simpa using hok1:_/\_).1)
   simp only [ExpD.szL] at hsz
   have a02:=hE c0 (by simp) 2
   have g02:=hk c0 (by simp) 2
   have a12:=hE c1 (by simp) 2
   have g12:=hk c1 (by simp) 2
   have e:(ExpD.mk 14 n u t p [c0,c1] as').kf.f=c0.kf.at 2++(32 :: (n++(32 :: c1.kf.at 2))):=by simp [ExpD.kf,ExpD.kfL,expG,ho]
   rw [e]
   clear e hW hE hA hk harm
   generalize c0.kf.at 2=s02 at *
   generalize c1.kf.at 2=s12 at *
   obtain ⟨k0,n0,u0,t0,p0,q0,r0⟩:=c0
   obtain ⟨k1,n1,u1,t1,p1,q1,r1⟩:=c1
   simp only [ExpD.cells,avC,List.map_cons,List.map_nil,ExpD.cellsL_eq,ExpD.cellsA_eq] at g02 g12
   simp only [go_sem,simprocAttr,mc126,mr126,ExpD.cells,ExpD.cellsL_eq,ExpD.cellsA_eq,avC,List.length_map]
   repeat' first
    | (with_reducible refine condK_split _ (fun h=>?_) (fun h=>?_) <;> simp only [go_sem,simprocAttr,h,List.length_map,wl1,wl2,wl3,wl4,wl5])
    | (with_reducible refine acall_pure (hlv _) ?_; simp only [go_sem,simprocAttr,List.length_map,wl1,wl2,wl3,wl4,wl5])
    | (with_reducible refine pcall_pure (fun A=>g02 _) (Hext.refl _) ?_; simp only [go_sem,simprocAttr,List.length_map,wl1,wl2,wl3,wl4,wl5])
    | (with_reducible refine pcall_pure (fun A=>g12 _) (Hext.refl _) ?_; simp only [go_sem,simprocAttr,List.length_map,wl1,wl2,wl3,wl4,wl5])
    | (refine drw_same ?_; simp only [go_sem,simprocAttr,List.length_map,wl1,wl2,wl3,wl4,wl5])
    | (refine And.intro (by (try simp only [maxLe,LL]); omega) ?_; try simp only [go_sem,simprocAttr,List.length_map,wl1,wl2,wl3,wl4,wl5])
    | (intro _)
   all_goals first | exact ⟨s2 (by simp),_,rfl⟩ | exact ⟨_,rfl⟩
  ·obtain ⟨c0,c1,rfl⟩:=len2 (l:=ks) (by simpa using (by simpa using hok1:_/\_).1)
   simp only [ExpD.szL] at hsz
   have a03:=hE c0 (by simp) 3
   have g03:=hk c0 (by simp) 3
   have a13:=hE c1 (by simp) 3
   have g13:=hk c1 (by simp) 3
   have e:(ExpD.mk 14 n u t p [c0,c1] as').kf.f=c0.kf.at 3++(32 :: (n++(32 :: c1.kf.at 3))):=by simp [ExpD.kf,ExpD.kfL,expG,ho]
   rw [e]
   clear e hW hE hA hk harm
   generalize c0.kf.at 3=s03 at *
   generalize c1.kf.at 3=s13 at *
   obtain ⟨k0,n0,u0,t0,p0,q0,r0⟩:=c0
   obtain ⟨k1,n1,u1,t1,p1,q1,r1⟩:=c1
   simp only [ExpD.cells,avC,List.map_cons,List.map_nil,ExpD.cellsL_eq,ExpD.cellsA_eq] at g03 g13
   simp only [go_sem,simprocAttr,mc126,mr126,ExpD.cells,ExpD.cellsL_eq,ExpD.cellsA_eq,avC,List.length_map]
   repeat' first
    | (with_reducible refine condK_split _ (fun h=>?_) (fun h=>?_) <;> simp only [go_sem,simprocAttr,h,List.length_map,wl1,wl2,wl3,wl4,wl5])
    | (with_reducible refine acall_pure (hlv _) ?_; simp only [go_sem,simprocAttr,List.length_map,wl1,wl2,wl3,wl4,wl5])
    | (with_reducible refine pcall_pure (fun A=>g03 _) (Hext.refl _) ?_; simp only [go_sem,simprocAttr,List.length_map,wl1,wl2,wl3,wl4,wl5])
    | (with_reducible refine pcall_pure (fun A=>g13 _) (Hext.refl _) ?_; simp only [go_sem,simprocAttr,List.length_map,wl1,wl2,wl3,wl4,wl5])
    | (refine drw_same ?_; simp only [go_sem,simprocAttr,List.length_map,wl1,wl2,wl3,wl4,wl5])
    | (refine And.intro (by (try simp only [maxLe,LL]); omega) ?_; try simp only [go_sem,simprocAttr,List.length_map,wl1,wl2,wl3,wl4,wl5])
    | (intro _)
   all_goals first | exact ⟨s2 (by simp),_,rfl⟩ | exact ⟨_,rfl⟩
  ·obtain ⟨c0,c1,rfl⟩:=len2 (l:=ks) (by simpa using (by simpa using hok1:_/\_).1)
   simp only [ExpD.szL] at hsz
   have a04:=hE c0 (by simp) 4
   have g04:=hk c0 (by simp) 4
   have a15:=hE c1 (by simp) 5
   have g15:=hk c1 (by simp) 5
   have e:(ExpD.mk 14 n u t p [c0,c1] as').kf.f=c0.kf.at 4++(32 :: (n++(32 :: c1.kf.at 5))):=by simp [ExpD.kf,ExpD.kfL,expG,ho]
   rw [e]
   clear e hW hE hA hk harm
   generalize c0.kf.at 4=s04 at *
   generalize c1.kf.at 5=s15 at *
   obtain ⟨k0,n0,u0,t0,p0,q0,r0⟩:=c0
   obtain ⟨k1,n1,u1,t1,p1,q1,r1⟩:=c1
   simp only [ExpD.cells,avC,List.map_cons,List.map_nil,ExpD.cellsL_eq,ExpD.cellsA_eq] at g04 g15
   simp only [go_sem,simprocAttr,mc126,mr126,ExpD.cells,ExpD.cellsL_eq,ExpD.cellsA_eq,avC,List.length_map]
   repeat' first
    | (with_reducible refine condK_split _ (fun h=>?_) (fun h=>?_) <;> simp only [go_sem,simprocAttr,h,List.length_map,wl1,wl2,wl3,wl4,wl5])
    | (with_reducible refine acall_pure (hlv _) ?_; simp only [go_sem,simprocAttr,List.length_map,wl1,wl2,wl3,wl4,wl5])
    | (with_reducible refine pcall_pure (fun A=>g04 _) (Hext.refl _) ?_; simp only [go_sem,simprocAttr,List.length_map,wl1,wl2,wl3,wl4,wl5])
    | (with_reducible refine pcall_pure (fun A=>g15 _) (Hext.refl _) ?_; simp only [go_sem,simprocAttr,List.length_map,wl1,wl2,wl3,wl4,wl5])
    | (refine drw_same ?_; simp only [go_sem,simprocAttr,List.length_map,wl1,wl2,wl3,wl4,wl5])
    | (refine And.intro (by (try simp only [maxLe,LL]); omega) ?_; try simp only [go_sem,simprocAttr,List.length_map,wl1,wl2,wl3,wl4,wl5])
    | (intro _)
   all_goals first | exact ⟨s2 (by simp),_,rfl⟩ | exact ⟨_,rfl⟩
  ·obtain ⟨c0,c1,rfl⟩:=len2 (l:=ks) (by simpa using (by simpa using hok1:_/\_).1)
   simp only [ExpD.szL] at hsz
   have a03:=hE c0 (by simp) 3
   have g03:=hk c0 (by simp) 3
   have a14:=hE c1 (by simp) 4
   have g14:=hk c1 (by simp) 4
   have e:(ExpD.mk 14 n u t p [c0,c1] as').kf.f=c0.kf.at 3++(32 :: (n++(32 :: c1.kf.at 4))):=by simp [ExpD.kf,ExpD.kfL,expG,ho]
   rw [e]
   clear e hW hE hA hk harm
   generalize c0.kf.at 3=s03 at *
   generalize c1.kf.at 4=s14 at *
   obtain ⟨k0,n0,u0,t0,p0,q0,r0⟩:=c0
   obtain ⟨k1,n1,u1,t1,p1,q1,r1⟩:=c1
   simp only [ExpD.cells,avC,List.map_cons,List.map_nil,ExpD.cellsL_eq,ExpD.cellsA_eq] at g03 g14
   simp only [go_sem,simprocAttr,mc126,mr126,ExpD.cells,ExpD.cellsL_eq,ExpD.cellsA_eq,avC,List.length_map]
   repeat' first
    | (with_reducible refine condK_split _ (fun h=>?_) (fun h=>?_) <;> simp only [go_sem,simprocAttr,h,List.length_map,wl1,wl2,wl3,wl4,wl5])
    | (with_reducible refine acall_pure (hlv _) ?_; simp only [go_sem,simprocAttr,List.length_map,wl1,wl2,wl3,wl4,wl5])
    | (with_reducible refine pcall_pure (fun A=>g03 _) (Hext.refl _) ?_; simp only [go_sem,simprocAttr,List.length_map,wl1,wl2,wl3,wl4,wl5])
    | (with_reducible refine pcall_pure (fun A=>g14 _) (Hext.refl _) ?_; simp only [go_sem,simprocAttr,List.length_map,wl1,wl2,wl3,wl4,wl5])
    | (refine drw_same ?_; simp only [go_sem,simprocAttr,List.length_map,wl1,wl2,wl3,wl4,wl5])
    | (refine And.intro (by (try simp only [maxLe,LL]); omega) ?_; try simp only [go_sem,simprocAttr,List.length_map,wl1,wl2,wl3,wl4,wl5])
    | (intro _)
   all_goals first | exact ⟨s2 (by simp),_,rfl⟩ | exact ⟨_,rfl⟩
 have hkk:k=10\/k=11\/k=12\/k=13:=by
  rw [if_neg h1,if_neg h2,if_neg h3,if_neg h4,if_neg h5,if_neg h6,if_neg h7,if_neg h8,if_neg h9] at hok1
  by_cases h10:k=10
  ·exact .inl h10
  by_cases h11:k=11
  ·exact .inr (.inl h11)
  by_cases h12:k=12
  ·exact .inr (.inr (.inl h12))
  by_cases h13:k=13
  ·exact .inr (.inr (.inr h13))
  rw [if_neg h10,if_neg h11,if_neg h12,if_neg h13,if_neg h14,if_neg h15] at hok1
  cases hok1
 have hgr:=hgr hkk
 clear hW hE hA hk harm
 generalize (ExpD.mk k n u t p ks as').kf.f=s at *
 simp only [ExpD.cells,avC,List.map_cons,List.map_nil,ExpD.cellsL_eq,ExpD.cellsA_eq] at hgr
 have d1:decide (k=1)=false:=decide_eq_false h1
 have d2:decide (k=2)=false:=decide_eq_false h2
 have d3:decide (k=3)=false:=decide_eq_false h3
 have d4:decide (k=4)=false:=decide_eq_false h4
 have d5:decide (k=5)=false:=decide_eq_false h5
 have d6:decide (k=6)=false:=decide_eq_false h6
 have d7:decide (k=7)=false:=decide_eq_false h7
 have d8:decide (k=8)=false:=decide_eq_false h8
 have d9:decide (k=9)=false:=decide_eq_false h9
 have d14:decide (k=14)=false:=decide_eq_false h14
 have d15:decide (k=15)=false:=decide_eq_false h15
 simp only [go_sem,simprocAttr,mc126,mr126,ExpD.cells,ExpD.cellsL_eq,ExpD.cellsA_eq,avC,List.length_map,d1,d2,d3,d4,d5,d6,d7,d8,d9,d14,d15]
 repeat' first
  | (with_reducible refine condK_split _ (fun h=>?_) (fun h=>?_) <;> simp only [go_sem,simprocAttr,h])
  | (with_reducible refine acall_pure (hgr _) ?_; simp only [go_sem,simprocAttr])
  | (refine drw_same ?_; simp only [go_sem,simprocAttr])
  | (refine And.intro (by (try simp only [maxLe,LL]); omega) ?_; try simp only [go_sem,simprocAttr])
  | (intro _)
 all_goals exact ⟨_,rfl⟩
theorem textS1 (k:Int) (n:List UInt8) (u:Int) (t:List UInt8) (p:Int) (ks:List ExpD) (as':List ArmD) (hok:(ExpD.mk k n u t p ks as').okB=true) (hl:(ExpD.mk k n u t p ks as').kf.f.length<=200000000000)
  (hf:∀ H,ACall Tryz.prog 126 [avC (ExpD.cells (.mk k n u t p ks as'))] H (pureQ (.p (.s (ExpD.mk k n u t p ks as').kf.f)) H)):TextS (.mk k n u t p ks as'):=by
 intro a H
 have hlv:=levelSC k n u t p ks as' hok
 rw [KF.at]
 generalize (ExpD.mk k n u t p ks as').kf=f at *
 refine acall_drop1 ?_ (tf_p _)
 refine call81 (by simp) ?_
 simp only [ExpD.cells,avC,List.map_cons,List.map_nil,ExpD.cellsL_eq,ExpD.cellsA_eq] at hf hlv
 simp only [go_sem,simprocAttr,mc81,mr81,ExpD.cells,ExpD.cellsL_eq,ExpD.cellsA_eq,avC,List.length_map]
 repeat' first
  | (with_reducible refine condK_split _ (fun h=>?_) (fun h=>?_) <;> simp only [go_sem,simprocAttr,h,List.length_map])
  | (with_reducible refine pcall_pure (fun A=>hf _) (Hext.refl _) ?_; simp only [go_sem,simprocAttr,List.length_map])
  | (with_reducible refine pcall_pure (fun A=>hlv _) (Hext.refl _) ?_; simp only [go_sem,simprocAttr,List.length_map])
  | (with_reducible refine acall_pure (roundSC (by omega) _ _ _) ?_; simp only [go_sem,simprocAttr,List.length_map])
  | (refine drw_same ?_; simp only [go_sem,simprocAttr,List.length_map])
  | (refine And.intro (by (try simp only [maxLe,LL]); omega) ?_; try simp only [go_sem,simprocAttr,List.length_map])
  | (intro _)
 all_goals exact ⟨_,rfl⟩
theorem textSC (p : ExpD) (h : p.sz ≤ 1073741824) (hok : p.okB = true) (hf : p.fit) : TextS p := by
  have : ∀ (m : Nat) (p : ExpD), p.sz < m → p.sz ≤ 1073741824 → p.okB = true → p.fit → TextS p := by
    intro m
    induction m with
    | zero => intro p h; omega
    | succ m ih =>
      intro p h h2 hok hf
      have hln := ExpD.kf_len p hf
      obtain ⟨k, n, u, t, q, ks, as'⟩ := p
      have hsz := h2
      rw [ExpD.sz] at h h2
      have hok2 := hok
      have hf2 := hf
      rw [ExpD.okB, ExpD.okL_eq, ExpD.okA_eq, Bool.and_eq_true, Bool.and_eq_true, List.all_eq_true, List.all_eq_true] at hok
      rw [ExpD.fit] at hf
      refine textS1 _ _ _ _ _ _ _ hok2 (by omega) (formS _ _ _ _ _ _ _ hok2 hf2 h2 (fun a ha => ?_) fun q e ha => ?_)
      · rw [ExpD.szL_eq] at h h2
        have := sumSz_mem ExpD.sz ha
        exact ih a (by omega) (by omega) (hok.2.1 a ha) (ExpD.fitL_mem hf.2.1 ha)
      · rw [ExpD.szA_eq] at h h2
        have := sumSz_mem ArmD.sz ha
        rw [ArmD.sz] at this
        have h3 := hok.2.2 _ ha
        rw [ArmD.okB, Bool.and_eq_true] at h3
        have h4 := ExpD.fitA_mem hf.2.2 ha
        rw [ArmD.fit] at h4
        exact ⟨patSC q (by omega) h3.1 h4.1, ih e (by omega) (by omega) h3.2 h4.2⟩
  exact this _ p (Nat.lt_succ_self _) h hok hf
end Go.Proofs.YtghcmccjchdgeaaGreatDoor.Qp