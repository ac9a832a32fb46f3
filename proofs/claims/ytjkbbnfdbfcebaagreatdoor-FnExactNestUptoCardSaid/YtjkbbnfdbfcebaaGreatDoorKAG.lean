/- Texts QfG QfH QfI QfJ QfK QfL QfM QfN QfO QfP QfV QfW QfX QfY, merged. -/
import Derived.Test.YtjkbbnfdbfcebaaGreatDoorKAF
import Derived.Shelf.Strconv.Itoa3
import Derived.Shelf.Strings.OnBuilder
import Derived.Lib.LaidTab
set_option linter.all false
namespace Go.Proofs.YtjkbbnfdbfcebaaGreatDoor.Qp
open Go.AM Go.Shelf Mc Pg
def IH:Ren:=⟨fun x=>match x with|156=>96|165=>151|166=>152|169=>153|240=>184|241=>185|276=>207|277=>208|n=>n,fun x=>match x with|31=>68|37=>122|70=>177|72=>179|75=>181|76=>182|127=>202|164=>211|80=>184|n=>n,fun n=>n⟩
theorem zX:Lays.n156 Tryz.prog IH where
 mixed:=by kernel_rfl
 f156:=Eq.trans Tryz.func96 (by kernel_rfl)
 f165:=Eq.trans Tryz.func151 (by kernel_rfl)
 f166:=Eq.trans Tryz.func152 (by kernel_rfl)
 f169:=Eq.trans Tryz.func153 (by kernel_rfl)
 f240:=Eq.trans Tryz.func184 (by kernel_rfl)
 f241:=Eq.trans Tryz.func185 (by kernel_rfl)
 f276:=Eq.trans Tryz.func207 (by kernel_rfl)
 f277:=Eq.trans Tryz.func208 (by kernel_rfl)
 t0:=Tryz.underlying0
 a0:=Tryz.isAgg0
 z0:=Tryz.sizeOf0
 v0:=Tryz.zeroValue0
 t3:=Tryz.underlying3
 a3:=Tryz.isAgg3
 z3:=Tryz.sizeOf3
 v3:=Tryz.zeroValue3
 t4:=Tryz.underlying4
 a4:=Tryz.isAgg4
 z4:=Tryz.sizeOf4
 v4:=Tryz.zeroValue4
 t9:=Tryz.underlying9
 a9:=Tryz.isAgg9
 z9:=Tryz.sizeOf9
 v9:=Tryz.zeroValue9
 t20:=Tryz.underlying20
 a20:=Tryz.isAgg20
 z20:=Tryz.sizeOf20
 v20:=Tryz.zeroValue20
 t31:=Tryz.underlying68
 a31:=Tryz.isAgg68
 z31:=Tryz.sizeOf68
 v31:=Tryz.zeroValue68
 t37:=Tryz.underlying122
 a37:=Tryz.isAgg122
 z37:=Tryz.sizeOf122
 v37:=Tryz.zeroValue122
 t70:=Tryz.underlying177
 a70:=Tryz.isAgg177
 z70:=Tryz.sizeOf177
 v70:=Tryz.zeroValue177
 t72:=Tryz.underlying179
 a72:=Tryz.isAgg179
 z72:=Tryz.sizeOf179
 v72:=Tryz.zeroValue179
 t75:=Tryz.underlying181
 a75:=Tryz.isAgg181
 z75:=Tryz.sizeOf181
 v75:=Tryz.zeroValue181
 t76:=Tryz.underlying182
 a76:=Tryz.isAgg182
 z76:=Tryz.sizeOf182
 v76:=Tryz.zeroValue182
 t127:=Tryz.underlying202
 a127:=Tryz.isAgg202
 z127:=Tryz.sizeOf202
 v127:=Tryz.zeroValue202
 t164:=Tryz.underlying211
 a164:=Tryz.isAgg211
 z164:=Tryz.sizeOf211
 v164:=Tryz.zeroValue211
theorem xk:Builder.Extra Tryz.prog IH where
 sizeBuilder:=by kernel_rfl
 liesBuilder:=by kernel_rfl
 t5:=Tryz.underlying5
 a5:=Tryz.isAgg5
 z5:=Tryz.sizeOf5
 v5:=Tryz.zeroValue5
 infoByte:=by kernel_rfl
 cellsByte:=by kernel_rfl
 sizeByte:=by kernel_rfl
 neB5:=by decide
theorem ON:LaysM.n171 Tryz.prog HF:={zw with }
def Tb (H:List AO):Prop:=∃(i:Nat) (ty:TypeId) (fz:Nat×Nat),H[i]?=some (AO.ES 1 (.int .u64 1) (.cells (Lib.pow10Tab.map fun z=>Value.int .u64 z).toArray ty fz))
theorem Tb.ext {H:List AO} (h:Tb H) (A:List AO):Tb (H++A):=by
 obtain⟨i,te,pe,h⟩:=h;exact⟨i,te,pe,ay h A⟩
theorem Tb.gf {H H':List AO} (h:Tb H) (k:∀(j:Nat) o,H[j]?=some o->H'[j]?=some o):Tb H':=by
 obtain⟨i,te,pe,h⟩:=h;exact⟨i,te,pe,k _ _ h⟩
theorem VX {θ:Th} {W:Im} {k:IntKind} {n:Int} {vs:Array Value} (hr:tq θ W [.p (.i k n)] vs):vs=#[.int k n]:=by
  obtain⟨r7,oB⟩:=hr;have hs:vs.toList.length=1:=by simpa using r7
  match hl:vs.toList,hs with
  |[a],_ =>
   have :=oB 0 _ a rfl (by rw[←Array.getElem?_toList,hl];rfl);cases this.fC;rw[←Array.toList_inj];exact hl
theorem VY (n:Nat):jO n=Lib.decDigits n:=by
  induction n using Nat.strongRecOn with
  |_ n ih=>
   rw[jO,Lib.decDigits];split
   · rfl
   · rw[ih (n/10) (by omega)]
theorem Zv {n:Nat} (h:n<=9223372036854775807):(jO n).length<=20:=vj 19 n (by omega)
theorem VZ {n:Int} {H:List AO} (hT:Tb H) (h0:0<=n) (h1:n<=9223372036854775807):aA Tryz.prog 97 [.p (.i .i64 n)] H (aW (.p (.s (qf n))) H):=by
 refine nH ⟨_,Tryz.func97,rfl,rfl⟩ ?_;intro w θ W vs gm hr;obtain rfl:=VX hr;obtain⟨i,ty,fz,hi⟩:=hT;have hW:=(gm.obj i _ hi).2.1;refine(Any.strconv_Itoa ON n (by omega) h1 w ?_).mono ?_
 ·unfold Lib.TabIs World.var?
  rw[show Tryz.prog.globalNamed "internal/strconv.uint64pow10"=some 1 by kernel_rfl];simp only[Option.bind];rw[hW]
 rintro e w' ⟨rfl,k,os,rfl⟩;refine⟨_,rfl,?_,rfl,rfl,rfl,?_,fun k hk=>?_⟩
 ·have e:Lib.itoa n=qf n:=by rw[Lib.itoa,if_neg (by omega),qf,VY]
  rw[e];exact .p _ _ (.s _ (by have:=Zv (n:=n.toNat) (by omega);rw[qf,aC];omega))
 ·show w.heap.size<=(w.heap++os).size
  simp
 ·show(w.heap++os)[k]?=_
  rw[Array.getElem?_append_left hk]
theorem vp (sep:List UInt8):∀l:List (List UInt8),bF sep l=Lib.join l sep
  |[]=>rfl
  |[a]=>by rw[bF,Lib.join_one]
  |a::b::l=>by
   show a++(sep++bF sep (b::l))=_;rw[vp sep (b::l),Lib.join_cons,Lib.join_cons];simp[Lib.joinTail]
theorem ad0 {id ver:Nat} {xs:List (List UInt8)} {sep:List UInt8} {H:List AO} (hid:H[id]?=some (.rows 1 ver (gw xs))) (hlen:(bF sep xs).length≤140737488355328):
    aA Tryz.prog 96 [.gs id ver 0 xs.length, .p (.s sep)] H (aW (.p (.s (bF sep xs))) H):=by
  refine nH ⟨_,Tryz.func96,rfl,rfl⟩ ?_;intro w θ W vs gm hr;obtain⟨r7,oB⟩:=hr;have hs:vs.toList.length=2:=by simpa using r7
  obtain⟨IX,_,_⟩:=gm.obj id _ hid
  match hl:vs.toList,hs with
  |[a,b],_ =>
   have ha:=oB 0 _ a rfl (by rw[←Array.getElem?_toList,hl];rfl);have hb:=oB 1 _ b rfl (by rw[←Array.getElem?_toList,hl];rfl);obtain rfl:vs=#[a,b]:=by rw[←Array.toList_inj];exact hl
   obtain⟨rfl,ag4⟩:=hb.oU
   have fin:∀{bk o c:Nat},(∀(j:Nat) x,(xs.map fun l=>(⟨l.toArray⟩:ByteArray))[j]?=some x→w.cell? ⟨bk,o+j,none⟩=some (.string x))→bk<w.heap.size→xs.length≤140737488355328→xs.length≤c→
       Calls Tryz.prog 96 #[.slice (some ⟨bk,o,none⟩) xs.length c, .string ⟨sep.toArray⟩] w fun e w'=>∃rv,e= .returned rv∧bc θ W (.p (.s (bF sep xs))) rv∧w'.os=w.os∧w'.tape=w.tape∧w'.output=w.output∧w.heap.size≤w'.heap.size∧∀k,k<w.heap.size→w'.heap[k]?=w.heap[k]?:=by
     intro bk o c h1 h2 h3 h4;have ej:(xs.map fun l=>(⟨l.toArray⟩:ByteArray)).map (·.data.toList)=xs:=by simp[List.map_map,Function.comp_def]
     have :=Any.strings_Join zX xk bk o c (xs.map fun l=>(⟨l.toArray⟩:ByteArray)) ⟨sep.toArray⟩ w h1 h2 (by rw[List.length_map];exact h3) (by rw[List.length_map];exact h4) (by rw[ej];rw[vp]at hlen;simpa using hlen);rw[List.length_map,ej]at this;refine this.mono ?_;rintro e w' ⟨rfl,h5⟩;refine⟨_,rfl, ?_,h5.os,h5.tape,h5.output,h5.size,fun k hk=>h5.block k hk⟩;rw[vp];exact .p _ _ (.s _ (by rw[aC,←vp];exact hlen))
   rcases IX with⟨hn,he⟩|⟨b0,tot,ty,cs,EZ,V0,cL,hle,n9,eS,aav⟩
   · have hx:xs=[]:=by simpa[gw]using he
     subst hx
     cases ha with
     |ea _ _ _ _ a cap h vy hm=>rw[h]at hn;cases hn
     |fN _ _ h=>
      refine(Any.strings_Join_none zX xk none 0 ⟨sep.toArray⟩ w).mono ?_;rintro e w' ⟨rfl,rfl⟩
      exact⟨_,rfl, .p _ _ (.s _ (by rw[bF,aC];simp)),rfl,rfl,rfl,Nat.le_refl _,fun _ _ =>rfl⟩
     |gs _ _ _ _ b sz tot o cap h vy hm hc ho h0=>rw[h]at hn;cases hn
   · generalize Jh:xs.length=m at ha
     cases ha with
     |ea _ _ _ _ a cap h vy hm=>rw[h]at EZ;cases EZ
     |fN _ _ h=>rw[h]at EZ;cases EZ
     |gs _ _ _ _ b sz fc o cap h vy hm hc ho h0=>
      rw[h]at EZ;cases EZ;have mG:=h0 rfl;subst mG;rw[←Jh]at hm vy⊢;refine fin (bk:=b0) (o:=0) ?_ (Array.getElem?_eq_some_iff.1 V0).1 (by rw[aC]at hm;exact hm) vy;intro j x hx;rw[List.getElem?_map]at hx
      cases Zw:xs[j]?with
      |none =>rw[Zw]at hx;cases hx
      |some s=>
       rw[Zw]at hx;cases hx;have air:=(List.getElem?_eq_some_iff.1 Zw).1;have Xc:j<cs.size:=by rw[cL];simp[gw]at hle;omega
       have h1:(gw xs)[j]?=some [.p (.s s)]:=by simp[gw,Zw]
       have h2:=eS j _ 0 _ cs[j] h1 rfl (by simp[Xc]);obtain⟨e,_⟩:=h2.oU;unfold World.cell?;simp only[V0];simp[Xc,e]
end Go.Proofs.YtjkbbnfdbfcebaaGreatDoor.Qp
namespace Go.Proofs.YtjkbbnfdbfcebaaGreatDoor.Qp
open Go.AM Mc Pg
theorem Gp {C:ja} {Hm Hc:List AO} {x:MA} {xs:List MA} {d:MD} {J:PK} {st:St} {f:Nat} {eO:List AV} (hx:st.get x=.fI f eO) (h:oy C Hm Hc [] f (fw st xs++eO) d J st):DP C Hm Hc (.sH x xs) d J st:=by
 unfold DP;simp only[hx];exact h
theorem s2 {a b:List UInt8} (h:a=b):AV.p (.s a)=AV.p (.s b):=by rw[h]
theorem nr {s:List UInt8} (hs:s.length<=1099511627776) (l a:Int) (H:List AO):aA Tryz.prog 102 [.p (.s s),.p (.i .i64 l),.p (.i .i64 a)] H (aW (.p (.s (gx s l a))) H):=by
 refine call102 (by simp) ?_;simp only[go_sem,simprocAttr,Lj,Us]
 repeat' first
  |(with_reducible refine ag _ (fun h=>?_) (fun h=>?_)<;>simp only[go_sem,simprocAttr,h])
  |(refine ao ?_;simp only[go_sem,simprocAttr])
  |(refine And.intro (by(try simp only[aC,LL]);omega) ?_;try simp only[go_sem,simprocAttr])
  |(intro _)
 all_goals refine⟨s2 ?_,rfl⟩
 all_goals simp only[decide_eq_true_eq,decide_eq_false_iff_not]at *
 all_goals (simp[gx, *];done)
theorem V1 (u:Int) (H:List AO):aA Tryz.prog 99 [.p (.i .i64 u)] H (aW (.p (.s (kS u))) H):=by
 refine call99 (by simp) ?_;simp only[go_sem,simprocAttr,Up,abO]
 repeat' first
  |(with_reducible refine ag _ (fun h=>?_) (fun h=>?_)<;>simp only[go_sem,simprocAttr,h])
  |(refine ao ?_;simp only[go_sem,simprocAttr])
  |(refine And.intro (by(try simp only[aC,LL]);omega) ?_;try simp only[go_sem,simprocAttr])
  |(intro _)
 all_goals refine⟨s2 ?_,rfl⟩
 all_goals simp only[decide_eq_true_eq,decide_eq_false_iff_not]at *
 all_goals (simp[kS, *];done)
theorem V2 (s:List UInt8) (H:List AO):aA Tryz.prog 101 [.p (.s s)] H (aW (.dX [.p (.i .i64 (iR s).1),.p (.i .i64 (iR s).2.1),.p (.i .i64 (iR s).2.2)]) H):=by
 refine call101 (by simp) ?_;simp only[go_sem,simprocAttr,Li,Ur]
 repeat' first
  |(with_reducible refine ag _ (fun h=>?_) (fun h=>?_)<;>simp only[go_sem,simprocAttr,h])
  |(refine ao ?_;simp only[go_sem,simprocAttr])
  |(refine And.intro (by(try simp only[aC,LL]);omega) ?_;try simp only[go_sem,simprocAttr])
  |(intro _)
 all_goals refine⟨?_,rfl⟩
 all_goals simp only[decide_eq_true_eq,decide_eq_false_iff_not]at *
 all_goals (simp[iR, *];done)
structure ku (H:List AO) (sz:Nat) (rs:List (List AV)) (a:AV) (X:List AO):Prop where
 own:jr X a sz rs
 new:∀id v o m,a=.gs id v o m->H.length<=id
 fr:∀(j:Nat) o,H[j]?=some o->X[j]?=some o
theorem ku.nil (H:List AO) (sz:Nat):ku H sz [] (.p .nl) H:=⟨.inl ⟨rfl,rfl⟩,fun _ _ _ _ e=>(by cases e),fun _ _ h=>h⟩
theorem ku.ext {H sz rs a X} (h:ku H sz rs a X) (A:List AO):ku H sz rs a (X++A):=⟨h.own.ext,h.new,fun j o hj=>ay (h.fr j o hj) A⟩
theorem ku.len {H sz rs a X} (h:ku H sz rs a X):H.length<=X.length:=uj h.fr
theorem ku.ends {H sz rs a X} (h:ku H sz rs a X):∃G,X=H++G:=iK h.fr
theorem ku.app {H sz rs a X} (h:ku H sz rs a X) {X':List AO} {ys:List (List AV)} {id ver n:Nat} (k1:X'[id]?=some (.rows sz ver (rs++ys))) (k2:(∃v o n,a=.gs id v o n)\/X.length<=id)
  (k3:∀(j:Nat) o,X[j]?=some o->(∀v o' n,a≠.gs j v o' n)->X'[j]?=some o) (hn:n=(rs++ys).length):ku H sz (rs++ys) (.gs id ver 0 n) X':=by
 subst hn;refine⟨.inr ⟨id,ver,rfl,k1⟩,?_,?_⟩
 ·rintro _ _ _ _ ⟨⟩
  rcases k2 with⟨v,o,n,e⟩|k2
  ·exact h.new _ _ _ _ e
  ·have:=h.len;omega
 ·intro j o hj
  refine k3 j o (h.fr j o hj) fun v o' n e=>?_
  have:=h.new _ _ _ _ e;have:=bj hj;omega
theorem V3 (sep:List UInt8) (H:List AO) (hs:sep.length≤fb):aA Tryz.prog 96 [.p .nl, .p (.s sep)] H (aW (.p (.s [])) H):=by
  refine nH ⟨_,Tryz.func96,rfl,rfl⟩ ?_;intro w θ W vs gm hr;obtain⟨r7,oB⟩:=hr;have hs:vs.toList.length=2:=by simpa using r7
  match hl:vs.toList,hs with
  |[a,b],_ =>
   have ha:=oB 0 _ a rfl (by rw[←Array.getElem?_toList,hl];rfl);have hb:=oB 1 _ b rfl (by rw[←Array.getElem?_toList,hl];rfl);obtain rfl:vs=#[a,b]:=by rw[←Array.toList_inj];exact hl
   obtain⟨rfl,ag4⟩:=hb.oU;cases ha.fC;refine(Any.strings_Join_none zX xk none 0 ⟨sep.toArray⟩ w).mono ?_;rintro e w' ⟨rfl,rfl⟩;exact⟨_,rfl, .p _ _ (.s _ (by rw[aC];simp)),rfl,rfl,rfl,Nat.le_refl _,fun _ _ =>rfl⟩
theorem Gq {H X:List AO} {xs:List (List UInt8)} {sep:List UInt8} {a:AV} (h:ku H 1 (gw xs) a X) (hs:sep.length<=100) (hlen:(bF sep xs).length<=140737488355328):
  aA Tryz.prog 96 [a,.p (.s sep)] X (aW (.p (.s (bF sep xs))) X):=by
 rcases h.own with⟨rfl,e⟩|⟨id,ver,rfl,hid⟩
 ·obtain rfl:xs=[]:=by simpa[gw]using e
  exact V3 sep X (by rw[aC];omega)
 ·have:(gw xs).length=xs.length:=by simp[gw]
  rw[this];exact ad0 hid hlen
theorem vq (l:List (List UInt8)) (s:List UInt8):gw l++[[.p (.s s)]]=gw (l++[s]):=by simp[gw]
theorem gK (l:List (List UInt8)):(gw l).length=l.length:=by simp[gw]
def zY {α:Type} (f:Nat) (c:α->AV) (g:α->List UInt8) (l:List α) (asked:Int):Prop:=∀x∈l,∀H:List AO,Tb H->aA Tryz.prog f [c x,.p (.i .i64 asked)] H (aW (.p (.s (g x))) H)
theorem LY {f:Nat} {g:ae->List UInt8} {l:List ae} {asked:Int} (hf:zY f (fun x=>br x.cells) g l asked) {sep:List UInt8} (hs:sep.length<=100) (hl:l.length<=1073741824) (hlen:(bF sep (l.map g)).length<=140737488355328) {H:List AO} (hT:Tb H):
  aA Tryz.prog 187 [.p (.l (l.map ae.cells)),.p (.i .i64 asked),.p (.s sep),.fI f []] H (aW (.p (.s (bF sep (l.map g)))) H):=by
 refine aD ?_ (bw _);refine call187 (by simp) ?_;simp only[go_sem,simprocAttr,Lv,UN,List.length_map];intro _;refine⟨Nat×AV×List AO,[1,2,3,8,9,12,13,14],fun x st=>(x.1<=l.length/\ku H 1 (gw ((l.take x.1).map g)) x.2.1 x.2.2)/\st=⟨[(1,.p (.i .i64 asked)),(2,.p (.s sep)),(3,.fI f []),(8,.p (.s [])),(9,x.2.1),(12,.p (.l (l.map ae.cells))),(13,.p (.i .i64 l.length)),(14,.p (.i .i64 x.1))],[],x.2.2⟩,fun x=>l.length-x.1,⟨(0,.p .nl,H),?_⟩,?_⟩
 ·simp only[go_sem,simprocAttr]
  exact⟨Nat.zero_le _,ku.nil H 1⟩
 rintro⟨x,a,X⟩ _ ⟨⟨hx,hB⟩,rfl⟩;simp only at hx hB;by_cases aj:x<l.length
 ·have d1:decide ((x:Int)<(l.length:Int))=true:=by simp;omega
  have bC:(x:Int)<(l.length:Int):=by omega
  have hg:(l.map ae.cells)[x]?=some (ae.cells l[x]):=by simp[aj]
  have hc:=hf l[x] (List.getElem_mem aj);have ht:(l.take (x+1)).map g=(l.take x).map g++[g l[x]]:=by rw[List.take_succ_eq_append_getElem aj,List.map_append,List.map_cons,List.map_nil]
  generalize l[x]=c at hg hc ht;obtain⟨ck,cn,cu,cp,oF⟩:=c;simp only[ae.cells,br,List.map_cons,List.map_nil]at hg hc;simp only[go_sem,simprocAttr,d1,bC,hg,List.length_map];have vE:=fun A=>hB.ext A
  have DF:=fun A=>hT.gf (vE A).fr
  refine U (hc _ (DF _)) ?_;simp only[go_sem,simprocAttr];refine⟨by intro r hr;simp at hr;subst hr;rfl,?_⟩;have gD:(l.take x).length=x:=by simp;omega
  refine fq (rs:=gw ((l.take x).map g)) (vE _).own (by rw[gK,List.length_map,gD];simp;omega) (by rw[gK,List.length_map,gD];simp;omega) ?_;intro id ver X2 k1 k2 k3 k4;have hJ:=(vE _).app k1 k2 k3 (n:=x+1) (by rw[List.length_append,gK,List.length_map,gD];rfl);simp only[go_sem,simprocAttr,bp x (by omega),gK,List.length_map];rw[vq,<-ht]at hJ;exact⟨(x+1,_,X2),⟨⟨by omega,hJ⟩,by rw[gD]⟩,by simp only;omega⟩
 ·have d1:decide ((x:Int)<(l.length:Int))=false:=by simp;omega
  rw[List.take_of_length_le (by omega)]at hB;simp only[go_sem,simprocAttr,d1];refine U (Gq hB hs hlen) ?_;simp only[go_sem,simprocAttr];exact hB.ends
theorem EP {f:Nat} {g:af->List UInt8} {l:List af} {asked:Int} (hf:zY f (fun x=>br x.cells) g l asked) {sep:List UInt8} (hs:sep.length<=100) (hl:l.length<=1073741824) (hlen:(bF sep (l.map g)).length<=140737488355328) {H:List AO} (hT:Tb H):
  aA Tryz.prog 150 [.p (.l (l.map af.cells)),.p (.i .i64 asked),.p (.s sep),.fI f []] H (aW (.p (.s (bF sep (l.map g)))) H):=by
 refine aD ?_ (bw _);refine call150 (by simp) ?_;simp only[go_sem,simprocAttr,Lk,UD,List.length_map];intro _;refine⟨Nat×AV×List AO,[1,2,3,8,9,12,13,14],fun x st=>(x.1<=l.length/\ku H 1 (gw ((l.take x.1).map g)) x.2.1 x.2.2)/\st=⟨[(1,.p (.i .i64 asked)),(2,.p (.s sep)),(3,.fI f []),(8,.p (.s [])),(9,x.2.1),(12,.p (.l (l.map af.cells))),(13,.p (.i .i64 l.length)),(14,.p (.i .i64 x.1))],[],x.2.2⟩,fun x=>l.length-x.1,⟨(0,.p .nl,H),?_⟩,?_⟩
 ·simp only[go_sem,simprocAttr]
  exact⟨Nat.zero_le _,ku.nil H 1⟩
 rintro⟨x,a,X⟩ _ ⟨⟨hx,hB⟩,rfl⟩;simp only at hx hB;by_cases aj:x<l.length
 ·have d1:decide ((x:Int)<(l.length:Int))=true:=by simp;omega
  have bC:(x:Int)<(l.length:Int):=by omega
  have hg:(l.map af.cells)[x]?=some (af.cells l[x]):=by simp[aj]
  have hc:=hf l[x] (List.getElem_mem aj);have ht:(l.take (x+1)).map g=(l.take x).map g++[g l[x]]:=by rw[List.take_succ_eq_append_getElem aj,List.map_append,List.map_cons,List.map_nil]
  generalize l[x]=c at hg hc ht;obtain⟨ck,cn,cp,oF⟩:=c;simp only[af.cells,br,List.map_cons,List.map_nil]at hg hc;simp only[go_sem,simprocAttr,d1,bC,hg,List.length_map];have vE:=fun A=>hB.ext A
  have DF:=fun A=>hT.gf (vE A).fr
  refine U (hc _ (DF _)) ?_;simp only[go_sem,simprocAttr];refine⟨by intro r hr;simp at hr;subst hr;rfl,?_⟩;have gD:(l.take x).length=x:=by simp;omega
  refine fq (rs:=gw ((l.take x).map g)) (vE _).own (by rw[gK,List.length_map,gD];simp;omega) (by rw[gK,List.length_map,gD];simp;omega) ?_;intro id ver X2 k1 k2 k3 k4;have hJ:=(vE _).app k1 k2 k3 (n:=x+1) (by rw[List.length_append,gK,List.length_map,gD];rfl);simp only[go_sem,simprocAttr,bp x (by omega),gK,List.length_map];rw[vq,<-ht]at hJ;exact⟨(x+1,_,X2),⟨⟨by omega,hJ⟩,by rw[gD]⟩,by simp only;omega⟩
 ·have d1:decide ((x:Int)<(l.length:Int))=false:=by simp;omega
  rw[List.take_of_length_le (by omega)]at hB;simp only[go_sem,simprocAttr,d1];refine U (Gq hB hs hlen) ?_;simp only[go_sem,simprocAttr];exact hB.ends
theorem LZ {f:Nat} {g:aa->List UInt8} {l:List aa} {asked:Int} (hf:zY f (fun x=>br x.cells) g l asked) {sep:List UInt8} (hs:sep.length<=100) (hl:l.length<=1073741824) (hlen:(bF sep (l.map g)).length<=140737488355328) {H:List AO} (hT:Tb H):
  aA Tryz.prog 100 [.p (.l (l.map aa.cells)),.p (.i .i64 asked),.p (.s sep),.fI f []] H (aW (.p (.s (bF sep (l.map g)))) H):=by
 refine aD ?_ (bw _);refine call100 (by simp) ?_;simp only[go_sem,simprocAttr,Lh,Uq,List.length_map];intro _;refine⟨Nat×AV×List AO,[1,2,3,8,9,12,13,14],fun x st=>(x.1<=l.length/\ku H 1 (gw ((l.take x.1).map g)) x.2.1 x.2.2)/\st=⟨[(1,.p (.i .i64 asked)),(2,.p (.s sep)),(3,.fI f []),(8,.p (.s [])),(9,x.2.1),(12,.p (.l (l.map aa.cells))),(13,.p (.i .i64 l.length)),(14,.p (.i .i64 x.1))],[],x.2.2⟩,fun x=>l.length-x.1,⟨(0,.p .nl,H),?_⟩,?_⟩
 ·simp only[go_sem,simprocAttr]
  exact⟨Nat.zero_le _,ku.nil H 1⟩
 rintro⟨x,a,X⟩ _ ⟨⟨hx,hB⟩,rfl⟩;simp only at hx hB;by_cases aj:x<l.length
 ·have d1:decide ((x:Int)<(l.length:Int))=true:=by simp;omega
  have bC:(x:Int)<(l.length:Int):=by omega
  have hg:(l.map aa.cells)[x]?=some (aa.cells l[x]):=by simp[aj]
  have hc:=hf l[x] (List.getElem_mem aj);have ht:(l.take (x+1)).map g=(l.take x).map g++[g l[x]]:=by rw[List.take_succ_eq_append_getElem aj,List.map_append,List.map_cons,List.map_nil]
  generalize l[x]=c at hg hc ht;obtain⟨ck,cn,cu,ct,cp,oF,DD⟩:=c;simp only[aa.cells,br,List.map_cons,List.map_nil]at hg hc;simp only[go_sem,simprocAttr,d1,bC,hg,List.length_map];have vE:=fun A=>hB.ext A
  have DF:=fun A=>hT.gf (vE A).fr
  refine U (hc _ (DF _)) ?_;simp only[go_sem,simprocAttr];refine⟨by intro r hr;simp at hr;subst hr;rfl,?_⟩;have gD:(l.take x).length=x:=by simp;omega
  refine fq (rs:=gw ((l.take x).map g)) (vE _).own (by rw[gK,List.length_map,gD];simp;omega) (by rw[gK,List.length_map,gD];simp;omega) ?_;intro id ver X2 k1 k2 k3 k4;have hJ:=(vE _).app k1 k2 k3 (n:=x+1) (by rw[List.length_append,gK,List.length_map,gD];rfl);simp only[go_sem,simprocAttr,bp x (by omega),gK,List.length_map];rw[vq,<-ht]at hJ;exact⟨(x+1,_,X2),⟨⟨by omega,hJ⟩,by rw[gD]⟩,by simp only;omega⟩
 ·have d1:decide ((x:Int)<(l.length:Int))=false:=by simp;omega
  rw[List.take_of_length_le (by omega)]at hB;simp only[go_sem,simprocAttr,d1];refine U (Gq hB hs hlen) ?_;simp only[go_sem,simprocAttr];exact hB.ends
end Go.Proofs.YtjkbbnfdbfcebaaGreatDoor.Qp
namespace Go.Proofs.YtjkbbnfdbfcebaaGreatDoor.Qp
open Go.AM Go.Shelf Mc Pg
theorem pL (l m:List UInt8):cr (l++m)=cr l++cr m:=by simp[cr]
theorem V4 {l:List UInt8}:∀r∈cr l,r.length=1:=by
 intro r hr;obtain⟨c,_,rfl⟩:=List.mem_map.1 hr
 rfl
theorem V5 {s:List UInt8} (hs:s.length<=1073741824) (H:List AO):aA Tryz.prog 98 [.p (.s s)] H (aW (.p (.s (pC s))) H):=by
 refine aD ?_ (bw _);refine call98 (by simp) ?_;simp only[go_sem,simprocAttr,Uo,abN]
 have hq:∀x,(34::((s.take x).map cS).flatten).length<=2*s.length+1:=fun x=>by
  have:=uz (s.take x);unfold pC at this;rw[List.length_cons,List.length_append,List.length_singleton,List.length_take]at this;rw[List.length_cons];omega
 refine⟨Nat×AV×List AO,[0,2,3,4],fun x st=>(x.1<=s.length/\ku H 1 (cr (34::((s.take x.1).map cS).flatten)) x.2.1 x.2.2)/\st=⟨[(0,.p (.s s)),(2,.p (.s [])),(3,x.2.1),(4,.p (.i .i64 x.1))],[],x.2.2⟩,fun x=>s.length-x.1,⟨(0,.gs H.length 0 0 1,H++[.rows 1 0 [[.p (.i .u8 34)]]]),?_⟩,?_⟩
 ·simp only[go_sem,simprocAttr]
  exact⟨Nat.zero_le _,.inr ⟨H.length,0,rfl,by rw[gq];rfl⟩,fun _ _ _ _ e=>by cases e;exact Nat.le_refl _,fun j o hj=>ay hj _⟩
 rintro⟨x,a,X⟩ _ ⟨⟨hx,hB⟩,rfl⟩;simp only at hx hB;have Gr:=hq x;have C5:=hq (x+1);by_cases aj:x<s.length
 ·have d1:decide ((x:Int)<(s.length:Int))=true:=by simp;omega
  have hg:s[x]?=some s[x]:=by simp[aj]
  have ht:34::((s.take (x+1)).map cS).flatten=34::((s.take x).map cS).flatten++cS s[x]:=by rw[List.take_succ_eq_append_getElem aj,List.map_append,List.flatten_append];simp
  rw[ht,List.length_append]at C5;generalize s[x]=c at hg ht C5;generalize (34::((s.take x).map cS).flatten:List UInt8)=l at hB Gr ht C5
  have key:∀ys:List (List AV),ys=cr (cS c)->∀(K:St->Prop) (L T:En) (d:MD) (A:List AO),(∀id ver X2,ku H 1 (cr (l++cS c)) (.gs id ver 0 (l.length+ys.length)) X2->K (St.put ⟨L,T,X2⟩ d (.gs id ver 0 (l.length+ys.length))))->mu 1 1 a ys d K ⟨L,T,X++A⟩:=by
   rintro ys rfl K L T d A k;have jF:(cr l).length=l.length:=bJ _;have DG:(cr (cS c)).length=(cS c).length:=bJ _;refine fq (rs:=cr l) (hB.ext A).own (by rw[jF,DG];omega) (by rw[jF,DG];omega) ?_;intro id ver X2 k1 k2 k3 k4;have hJ:=(hB.ext A).app k1 k2 k3 (n:=l.length+(cr (cS c)).length) (by rw[List.length_append,jF]);rw[<-pL]at hJ;have:=k id ver X2 hJ;rwa[jF]
  simp only[go_sem,simprocAttr,d1,hg];intro _;cases jt:decide ((c.toNat:Int)=10)
  ·cases fp:decide ((c.toNat:Int)=34)
   ·cases pw:decide ((c.toNat:Int)=92)
    ·have e:cS c=[c]:=by unfold cS;rw[if_neg (of_decide_eq_false jt),if_neg (by intro h;rcases h with h|h;exact of_decide_eq_false fp h;exact of_decide_eq_false pw h)]
     simp only[go_sem,simprocAttr,jt,fp,pw,hg];refine⟨by intro r hr;simp at hr;subst hr;rfl,?_⟩;refine key _ (by rw[e];rfl) _ _ _ _ _ ?_;intro id ver X2 hJ;simp only[go_sem,simprocAttr,bp x (by omega)];exact⟨(x+1,_,X2),⟨⟨by omega,by rw[ht];exact hJ⟩,rfl⟩,by simp only;omega⟩
    ·have e:cS c=[92,c]:=by unfold cS;rw[if_neg (of_decide_eq_false jt),if_pos (.inr (of_decide_eq_true pw))]
     simp only[go_sem,simprocAttr,jt,fp,pw,hg];refine⟨by intro r hr;simp at hr;rcases hr with rfl|rfl<;>rfl,?_⟩;refine key _ (by rw[e];rfl) _ _ _ _ _ ?_;intro id ver X2 hJ;simp only[go_sem,simprocAttr,bp x (by omega)];exact⟨(x+1,_,X2),⟨⟨by omega,by rw[ht];exact hJ⟩,rfl⟩,by simp only;omega⟩
   ·have e:cS c=[92,c]:=by unfold cS;rw[if_neg (of_decide_eq_false jt),if_pos (.inl (of_decide_eq_true fp))]
    simp only[go_sem,simprocAttr,jt,fp,hg];refine⟨by intro r hr;simp at hr;rcases hr with rfl|rfl<;>rfl,?_⟩;refine key _ (by rw[e];rfl) _ _ _ _ _ ?_;intro id ver X2 hJ;simp only[go_sem,simprocAttr,bp x (by omega)];exact⟨(x+1,_,X2),⟨⟨by omega,by rw[ht];exact hJ⟩,rfl⟩,by simp only;omega⟩
  ·have e:cS c=[92,110]:=by unfold cS;rw[if_pos (of_decide_eq_true jt)]
   simp only[go_sem,simprocAttr,jt,hg];refine⟨by intro r hr;simp at hr;rcases hr with rfl|rfl<;>rfl,?_⟩;refine key _ (by rw[e];rfl) _ _ _ _ _ ?_;intro id ver X2 hJ;simp only[go_sem,simprocAttr,bp x (by omega)];exact⟨(x+1,_,X2),⟨⟨by omega,by rw[ht];exact hJ⟩,rfl⟩,by simp only;omega⟩
 ·have d1:decide ((x:Int)<(s.length:Int))=false:=by simp;omega
  rw[List.take_of_length_le (by omega)]at hB Gr;simp only[go_sem,simprocAttr,d1];intro _;refine⟨by intro r hr;simp at hr;subst hr;rfl,?_⟩;have jF:(cr (34::(s.map cS).flatten)).length=(34::(s.map cS).flatten).length:=bJ _;refine fq (rs:=cr (34::(s.map cS).flatten)) (hB.ext _).own (by rw[jF];simp only[List.length_cons,List.length_nil]at Gr⊢;omega) (by rw[jF];simp only[List.length_cons,List.length_nil]at Gr⊢;omega) ?_;intro id ver X2 k1 k2 k3 k4;have hJ:=(hB.ext _).app k1 k2 k3 (n:=(cr (34::(s.map cS).flatten)).length+1) (by rw[List.length_append];rfl);have e2:cr (34::(s.map cS).flatten)++[[.p (.i .u8 34)]]=cr (pC s):=by unfold pC;rw[<-List.cons_append,pL];rfl
  rw[e2]at hJ;have hqs:=uz s;have hb:=ui hJ.own (by omega);simp only[go_sem,simprocAttr,hb];exact hJ.ends
theorem l9 {α:Type} {l:List α} (h:(l.length:Int)=2):∃a b,l=[a,b]:=by
 match l,h with
 |[a,b],_=>exact⟨a,b,rfl⟩
 |[],h=>simp at h
 |[_],h=>simp at h
 |_ ::_ ::_ ::_,h=>simp at h;omega
theorem nV {α:Type} {l:List α} (h:(l.length:Int)=1):∃a,l=[a]:=by
 match l,h with
 |[a],_=>exact⟨a,rfl⟩
 |[],h=>simp at h
 |_ ::_ ::_,h=>simp at h;omega
theorem acm {α:Type} {l:List α} (h:(l.length:Int)=3):∃a b c,l=[a,b,c]:=by
 match l,h with
 |[a,b,c],_=>exact⟨a,b,c,rfl⟩
 |[],h=>simp at h
 |[_],h=>simp at h
 |[_,_],h=>simp at h
 |_ ::_ ::_ ::_ ::_,h=>simp at h;omega
theorem uF {α:Type} {l:List α} (h:(l.length:Int)=0):l=[]:=List.length_eq_zero_iff.1 (by omega)
theorem M5 (a:Int):∀l:List KF,l≠[]→32::bF [32] (l.map (·.at a))=(l.map fun x=>32::x.at a).flatten
  |[],h=>(h rfl).elim
  |[x],_ =>by simp[bF]
  |x::y::l,_ =>by
   have :=M5 a (y::l) (by simp);have e:bF [32] ((x::y::l).map (·.at a))=x.at a++([32]++bF [32] ((y::l).map (·.at a))):=rfl;rw[e,List.map_cons (l:=y::l),List.flatten_cons,←this];simp
def Gs (x:af):Prop:=∀(a:Int) (H:List AO),a<=3->Tb H->aA Tryz.prog 95 [br x.cells,.p (.i .i64 a)] H (aW (.p (.s (x.kf.at a))) H)
theorem Zx (k:Int) (n:List UInt8) (p:Int) (ks:List af) (b9:(af.mk k n p ks).okB=true) (cL:n.length+af.fh ks<=1073741824) (hk:∀x∈ks,Gs x):Gs (.mk k n p ks):=by
 intro a H ha hT;refine aD ?_ (bw _);refine call95 (by simp) ?_;have hW:=af.gy ks;have vY:ks.length<=1073741824:=by have:=gM af.sz ks;rw[<-af.dr]at this;omega
 have hF:∀z,z<=3->zY 95 (fun x:af=>br x.cells) (fun x=>x.kf.at z) ks z:=fun z hz x hx H hT=>hk x hx z H hz hT
 have hj:∀(sep:List UInt8),sep.length<=10->∀z,(bF sep (ks.map fun x=>x.kf.at z)).length<=200000000000:=fun sep hs z=>by
  have:=iv sep hs z (af.cW ks);rw[af.cY,List.map_map]at this;rw[af.cY]at hW;exact Nat.le_trans this (by omega)
 have DF:=fun A=>hT.ext A
 rw[af.okB,AB]at b9;simp only[Bool.and_eq_true]at b9;have cO:=b9.1.1;clear b9;by_cases h3:k=3
 ·subst h3
  obtain⟨c0,c1,rfl⟩:=l9 (l:=ks) (by simpa using(by simpa using cO:_/\_).1);simp only[af.cW,wK]at hW;have a0:=(cK c0.kf 1).1;have g0:=hk c0 (by simp) 1;have a1:=(cK c1.kf 0).1;have g1:=hk c1 (by simp) 0;have e:(af.mk 3 n p [c0,c1]).kf.at a=gx (c0.kf.at 1++([32,45,62,32]++c1.kf.at 0)) 0 a:=by simp[af.kf,af.cW,vD,KF.at]
  rw[e];generalize c0.kf.at 1=s0 at *;generalize c1.kf.at 0=s1 at *;obtain⟨k0,n0,p0,q0⟩:=c0;simp only[af.cells,br,List.map_cons,List.map_nil]at g0;obtain⟨k1,n1,p1,q1⟩:=c1;simp only[af.cells,br,List.map_cons,List.map_nil]at g1;simp only[go_sem,simprocAttr,AE,CW,af.cells,af.aV,br]
  repeat' first
   |(with_reducible refine ag _ (fun h=>?_) (fun h=>?_)<;>simp only[go_sem,simprocAttr,h])
   |(with_reducible refine aQ (fun A=>g0 _ (by decide) ((hT.ext _).ext _)) (bP.refl _) ?_;simp only[go_sem,simprocAttr])
   |(with_reducible refine aQ (fun A=>g1 _ (by decide) ((hT.ext _).ext _)) (bP.refl _) ?_;simp only[go_sem,simprocAttr])
   |(with_reducible refine U (nr (by simp only[List.length_append,List.length_cons,List.length_nil];omega) _ _ _) ?_;simp only[go_sem,simprocAttr])
   |(refine ao ?_;simp only[go_sem,simprocAttr])
   |(refine And.intro (by(try simp only[aC,LL]);omega) ?_;try simp only[go_sem,simprocAttr])
   |(intro _)
  all_goals first|exact⟨s2 (by simp),_,rfl⟩|exact⟨_,rfl⟩
 by_cases h5:k=5
 ·subst h5
  obtain⟨c0,rfl⟩:=nV (l:=ks) (by simpa using(by simpa using cO:_/\_).1);simp only[af.cW,wK]at hW;have a0:=(cK c0.kf 3).1;have g0:=hk c0 (by simp) 3;have e:(af.mk 5 n p [c0]).kf.at a=gx ([114,101,102,32]++c0.kf.at 3) 2 a:=by simp[af.kf,af.cW,vD,KF.at]
  rw[e];generalize c0.kf.at 3=s0 at *;obtain⟨k0,n0,p0,q0⟩:=c0;simp only[af.cells,br,List.map_cons,List.map_nil]at g0;simp only[go_sem,simprocAttr,AE,CW,af.cells,af.aV,br]
  repeat' first
   |(with_reducible refine ag _ (fun h=>?_) (fun h=>?_)<;>simp only[go_sem,simprocAttr,h])
   |(with_reducible refine U (g0 _ (by decide) (DF _)) ?_;simp only[go_sem,simprocAttr])
   |(with_reducible refine U (nr (by simp only[List.length_append,List.length_cons,List.length_nil];omega) _ _ _) ?_;simp only[go_sem,simprocAttr])
   |(refine ao ?_;simp only[go_sem,simprocAttr])
   |(refine And.intro (by(try simp only[aC,LL]);omega) ?_;try simp only[go_sem,simprocAttr])
   |(intro _)
  all_goals first|exact⟨s2 (by simp),_,rfl⟩|exact⟨_,rfl⟩
 rw[af.cY]at hW;by_cases h4:k=4
 ·subst h4
  have e:(af.mk 4 n p ks).kf.at a=gx (bF [32,42,32] (ks.map fun x=>x.kf.at 2)) 1 a:=by simp[af.kf,af.cY,vD,KF.at,Function.comp_def]
  rw[e];have OO:=hj [32,42,32] (by decide) 2;simp only[go_sem,simprocAttr,AE,CW,af.cells,af.aw,br];refine U (EP (hF 2 (by decide)) (by decide) vY (by omega) (DF _)) ?_;simp only[go_sem,simprocAttr];refine U (nr (by omega) _ _ _) ?_;simp only[go_sem,simprocAttr];exact⟨_,rfl⟩
 by_cases h2:k=2
 ·subst h2
  have e:(af.mk 2 n p ks).kf.at a=39::n:=by simp[af.kf,vD,KF.at,gx];omega
  rw[e];simp only[go_sem,simprocAttr,AE,CW,af.cells,af.aw,br]
  repeat' first
   |(with_reducible refine ag _ (fun h=>?_) (fun h=>?_)<;>simp only[go_sem,simprocAttr,h])
   |(refine ao ?_;simp only[go_sem,simprocAttr])
   |(refine And.intro (by(try simp only[aC,LL]);omega) ?_;try simp only[go_sem,simprocAttr])
   |(intro _)
  exact⟨_,rfl⟩
 have h1:k=1:=by
  by_cases h1:k=1
  ·exact h1
  ·rw[if_neg h1,if_neg h2,if_neg h3,if_neg h4]at cO
   by_cases h5':k=5
   ·exact(h5 h5').elim
   ·rw[if_neg h5']at cO;cases cO
 subst h1;by_cases hl:(ks.length:Int)=0
 ·obtain rfl:=uF hl
  have e:(af.mk 1 n p []).kf.at a=n:=by simp[af.kf,af.cW,vD,KF.at,gx];omega
  rw[e];simp only[go_sem,simprocAttr,AE,CW,af.cells,af.aV,br]
  repeat' first
   |(with_reducible refine ag _ (fun h=>?_) (fun h=>?_)<;>simp only[go_sem,simprocAttr,h])
   |(refine ao ?_;simp only[go_sem,simprocAttr])
   |(refine And.intro (by(try simp only[aC,LL]);omega) ?_;try simp only[go_sem,simprocAttr])
   |(intro _)
  all_goals exact⟨_,rfl⟩
 ·have cX:af.cW ks≠[]:=by intro h;apply hl;rw[af.cY]at h;simp[List.map_eq_nil_iff.1 h]
  have Dr:¬ks.length=0:=by omega
  have e:(af.mk 1 n p ks).kf.at a=gx (n++(32::bF [32] (ks.map fun x=>x.kf.at 3))) 2 a:=by
   have e1:=M5 3 (af.cW ks) cX;rw[af.cY,List.map_map]at e1;rw[af.kf,KF.at,vD];simp only[af.cY,List.length_map];rw[if_neg (by decide),if_neg (by decide),if_neg (by decide),if_neg (by decide),if_neg Dr];rw[<-e1];rfl
  rw[e];have OO:=hj [32] (by decide) 3;have d1:decide ((ks.length:Int)=0)=false:=decide_eq_false hl;clear e;simp only[go_sem,simprocAttr,AE,CW,af.cells,af.aw,br,List.length_map];have II:=fun H (hT:Tb H)=>EP (hF 3 (by decide)) (sep:=[32]) (by decide) vY (by omega) hT
  generalize bF [32] (ks.map fun x=>x.kf.at 3)=sj at OO II;intro _;simp only[go_sem,simprocAttr,d1]
  repeat' first
   |(with_reducible refine ag _ (fun h=>?_) (fun h=>?_)<;>simp only[go_sem,simprocAttr,h])
   |(with_reducible refine aQ (fun A=>II _ ((hT.ext _).ext _)) (bP.refl _) ?_;simp only[go_sem,simprocAttr])
   |(with_reducible refine U (nr (by simp only[List.length_append,List.length_cons,List.length_nil];omega) _ _ _) ?_;simp only[go_sem,simprocAttr])
   |(refine ao ?_;simp only[go_sem,simprocAttr])
   |(refine And.intro (by(try simp only[aC,LL]);omega) ?_;try simp only[go_sem,simprocAttr])
   |(intro _)
  all_goals first|exact⟨s2 (by simp),_,rfl⟩|exact⟨_,rfl⟩
theorem ad1 (p:af) (h:p.sz≤1073741824) (b9:p.okB=true):Gs p:=by
  have :∀(m:Nat) (p:af),p.sz<m→p.sz≤1073741824→p.okB=true →Gs p:=by
    intro m
    induction m with
    |zero=>intro p h;omega
    |succ m ih=>
     intro p h h2 b9;obtain⟨k,n,q,ks⟩:=p;rw[af.sz]at h h2;refine Zx _ _ _ _ b9 h2 fun a ha=> ?_
     rw[af.okB,af.jN,Bool.and_eq_true,List.all_eq_true]at b9;rw[af.dr]at h h2;have :=bM af.sz ha;exact ih a (by omega) (by omega) (b9.2 a ha)
  exact this _ p (Nat.lt_succ_self _) h b9
def sx (x:ae):Prop:=∀(a:Int) (H:List AO),a<=1->Tb H->aA Tryz.prog 156 [br x.cells,.p (.i .i64 a)] H (aW (.p (.s (x.kf.at a))) H)
theorem V6 (k:Int) (n:List UInt8) (u p:Int) (ks:List ae) (b9:(ae.mk k n u p ks).okB=true) (eX:(ae.mk k n u p ks).fit) (cL:n.length+ae.fh ks<=1073741824) (hk:∀x∈ks,sx x):sx (.mk k n u p ks):=by
 intro a H ha hT;refine aD ?_ (bw _);refine call156 (by simp) ?_;rw[ae.fit]at eX;have hW:=ae.gy ks eX.2;have hu:=eX.1;have vY:ks.length<=1073741824:=by have:=gM ae.sz ks;rw[<-ae.dr]at this;omega
 have hF:∀z,z<=1->zY 156 (fun x:ae=>br x.cells) (fun x=>x.kf.at z) ks z:=fun z hz x hx H hT=>hk x hx z H hz hT
 have hj:∀(sep:List UInt8),sep.length<=10->∀z,(bF sep (ks.map fun x=>x.kf.at z)).length<=200000000000:=fun sep hs z=>by
  have:=iv sep hs z (ae.cW ks);rw[ae.cY,List.map_map]at this;rw[ae.cY]at hW;exact Nat.le_trans this (by omega)
 rw[ae.okB,AA]at b9;simp only[Bool.and_eq_true]at b9;have cO:=b9.1.1;clear b9 eX;by_cases h2:k=2
 ·subst h2
  have e:(ae.mk 2 n u p ks).kf.at a=n:=by simp[ae.kf,kZ,KF.at,gx];omega
  rw[e];simp only[go_sem,simprocAttr,qK,ss,ae.cells,ae.aw,br,List.length_map]
  repeat' first
   |(with_reducible refine ag _ (fun h=>?_) (fun h=>?_)<;>simp only[go_sem,simprocAttr,h])
   |(refine ao ?_;simp only[go_sem,simprocAttr])
   |(refine And.intro (by(try simp only[aC,LL]);omega) ?_;try simp only[go_sem,simprocAttr])
   |(intro _)
  all_goals exact⟨_,rfl⟩
 by_cases h3:k=3
 ·subst h3
  have e:(ae.mk 3 n u p ks).kf.at a=qf u:=by simp[ae.kf,kZ,KF.at,gx];omega
  rw[e];have h0:0<=u:=by simp at cO;exact cO.2.2
  simp only[go_sem,simprocAttr,qK,ss,ae.cells,ae.aw,br,List.length_map];refine U (VZ (hT.ext _) h0 hu) ?_;simp only[go_sem,simprocAttr];exact⟨_,rfl⟩
 by_cases h4:k=4
 ·subst h4
  have e:(ae.mk 4 n u p ks).kf.at a=kS u:=by simp[ae.kf,kZ,KF.at,gx];omega
  rw[e];simp only[go_sem,simprocAttr,qK,ss,ae.cells,ae.aw,br,List.length_map]
  repeat' first
   |(with_reducible refine ag _ (fun h=>?_) (fun h=>?_)<;>simp only[go_sem,simprocAttr,h])
   |(with_reducible refine U (V1 _ _) ?_;simp only[go_sem,simprocAttr])
   |(refine ao ?_;simp only[go_sem,simprocAttr])
   |(refine And.intro (by(try simp only[aC,LL]);omega) ?_;try simp only[go_sem,simprocAttr])
   |(intro _)
  all_goals exact⟨_,rfl⟩
 by_cases h5:k=5
 ·subst h5
  have e:(ae.mk 5 n u p ks).kf.at a=[40,41]:=by simp[ae.kf,kZ,KF.at,gx];omega
  rw[e];simp only[go_sem,simprocAttr,qK,ss,ae.cells,ae.aw,br,List.length_map]
  repeat' first
   |(with_reducible refine ag _ (fun h=>?_) (fun h=>?_)<;>simp only[go_sem,simprocAttr,h])
   |(refine ao ?_;simp only[go_sem,simprocAttr])
   |(refine And.intro (by(try simp only[aC,LL]);omega) ?_;try simp only[go_sem,simprocAttr])
   |(intro _)
  all_goals exact⟨_,rfl⟩
 by_cases h6:k=6
 ·subst h6
  have e:(ae.mk 6 n u p ks).kf.at a=40::(bF [44,32] (ks.map fun x=>x.kf.at 0)++[41]):=by simp[ae.kf,ae.cY,kZ,KF.at,gx,Function.comp_def];omega
  rw[e];have OO:=hj [44,32] (by decide) 0;have II:=fun H (hT:Tb H)=>LY (hF 0 (by decide)) (sep:=[44,32]) (by decide) vY (by omega) hT
  clear e;generalize bF [44,32] (ks.map fun x=>x.kf.at 0)=sj at OO II;simp only[go_sem,simprocAttr,qK,ss,ae.cells,ae.aw,br,List.length_map]
  repeat' first
   |(with_reducible refine ag _ (fun h=>?_) (fun h=>?_)<;>simp only[go_sem,simprocAttr,h])
   |(with_reducible refine U (II _ (hT.ext _)) ?_;simp only[go_sem,simprocAttr])
   |(refine ao ?_;simp only[go_sem,simprocAttr])
   |(refine And.intro (by(try simp only[aC,LL]);omega) ?_;try simp only[go_sem,simprocAttr])
   |(intro _)
  all_goals first|exact⟨s2 (by simp),_,rfl⟩|exact⟨_,rfl⟩
 by_cases h7:k=7
 ·subst h7
  by_cases hl:(ks.length:Int)=0
  ·obtain rfl:=uF hl
   have e:(ae.mk 7 n u p []).kf.at a=n:=by simp[ae.kf,ae.cW,kZ,KF.at,gx];omega
   rw[e];simp only[go_sem,simprocAttr,qK,ss,ae.cells,ae.aw,br,List.length_map]
   repeat' first
    |(with_reducible refine ag _ (fun h=>?_) (fun h=>?_)<;>simp only[go_sem,simprocAttr,h])
    |(refine ao ?_;simp only[go_sem,simprocAttr])
    |(refine And.intro (by(try simp only[aC,LL]);omega) ?_;try simp only[go_sem,simprocAttr])
    |(intro _)
   all_goals exact⟨_,rfl⟩
  ·obtain⟨c0,rfl⟩:=nV (l:=ks) (by simp at cO hl;have:=cO.1;have:=List.length_pos_iff.2 hl;omega)
   have g0:=hk c0 (by simp) 1;simp only[ae.cW,wK]at hW;have a0:=(cK c0.kf 1).1;have e:(ae.mk 7 n u p [c0]).kf.at a=gx (n++(32::c0.kf.at 1)) 0 a:=by simp[ae.kf,ae.cW,kZ,KF.at]
   rw[e];generalize c0.kf.at 1=s0 at *;obtain⟨k0,n0,u0,p0,q0⟩:=c0;simp only[ae.cells,br,List.map_cons,List.map_nil]at g0;simp only[go_sem,simprocAttr,qK,ss,ae.cells,ae.aV,br,List.length_map]
   repeat' first
    |(with_reducible refine ag _ (fun h=>?_) (fun h=>?_)<;>simp only[go_sem,simprocAttr,h])
    |(with_reducible refine aQ (fun A=>g0 _ (by decide) ((hT.ext _).ext _)) (bP.refl _) ?_;simp only[go_sem,simprocAttr])
    |(with_reducible refine U (nr (by simp only[List.length_append,List.length_cons,List.length_nil];omega) _ _ _) ?_;simp only[go_sem,simprocAttr])
    |(refine ao ?_;simp only[go_sem,simprocAttr])
    |(refine And.intro (by(try simp only[aC,LL]);omega) ?_;try simp only[go_sem,simprocAttr])
    |(intro _)
   all_goals first|exact⟨s2 (by simp),_,rfl⟩|exact⟨_,rfl⟩
 have h1:k=1:=by
  by_cases h1:k=1
  ·exact h1
  ·rw[if_neg (by omega),if_neg h2,if_neg h3,if_neg h4,if_neg h6,if_neg h7]at cO;cases cO
 subst h1;have e:(ae.mk 1 n u p ks).kf.at a=[95]:=by simp[ae.kf,kZ,KF.at,gx];omega
 rw[e];simp only[go_sem,simprocAttr,qK,ss,ae.cells,ae.aw,br,List.length_map]
 repeat' first
  |(with_reducible refine ag _ (fun h=>?_) (fun h=>?_)<;>simp only[go_sem,simprocAttr,h])
  |(refine ao ?_;simp only[go_sem,simprocAttr])
  |(refine And.intro (by(try simp only[aC,LL]);omega) ?_;try simp only[go_sem,simprocAttr])
  |(intro _)
 all_goals exact⟨_,rfl⟩
theorem Zy (p:ae) (h:p.sz≤1073741824) (b9:p.okB=true) (hf:p.fit):sx p:=by
  have :∀(m:Nat) (p:ae),p.sz<m→p.sz≤1073741824→p.okB=true →p.fit→sx p:=by
    intro m
    induction m with
    |zero=>intro p h;omega
    |succ m ih=>
     intro p h h2 b9 hf;obtain⟨k,n,u,q,ks⟩:=p;rw[ae.sz]at h h2;refine V6 _ _ _ _ _ b9 hf h2 fun a ha=> ?_
     rw[ae.okB,ae.jN,Bool.and_eq_true,List.all_eq_true]at b9;rw[ae.fit]at hf;rw[ae.dr]at h h2;have :=bM ae.sz ha;exact ih a (by omega) (by omega) (b9.2 a ha) (ae.mT hf.2 ha)
  exact this _ p (Nat.lt_succ_self _) h b9 hf
def qt (x:aa):Prop:=∀(a:Int) (H:List AO),a<=6->Tb H->aA Tryz.prog 49 [br x.cells,.p (.i .i64 a)] H (aW (.p (.s (x.kf.at a))) H)
theorem yB {X:List AO} {j:Nat} {k u p:Int} {n t:List UInt8} {rows aaA:List (List PV)} {i:Nat} {c:aa} {s:List UInt8} (hj:X[j]?=some (.var [.p (.i .i64 k),.p (.s n),.p (.i .i64 u),.p (.s t),.p (.i .i64 p),.p (.l rows),.p (.l aaA)]))
  (hg:rows[i]?=some c.cells) (hc:aA Tryz.prog 49 [br c.cells,.p (.i .i64 0)] X (aW (.p (.s s)) X)):aA Tryz.prog 155 [.p (.i .i64 (i:Int)),.ptr j 0] X (aW (.p (.s s)) X):=by
 refine call155 (by simp) ?_;have hi:=(List.getElem?_eq_some_iff.1 hg).1;have iQ:(i:Int)<(rows.length:Int):=by omega
 obtain⟨k0,n0,u0,t0,p0,q0,r0⟩:=c;simp only[aa.cells,br,List.map_cons,List.map_nil]at hc hg;simp only[go_sem,simprocAttr,Ll,UE,hj,hg,iQ];refine U hc ?_;simp only[go_sem,simprocAttr];exact⟨rfl,rfl⟩
theorem Gt (H A:List AO) (o:AO):(H++[o]++A)[H.length]?=some o:=by simp
theorem yC (H:List AO) (o:AO):(H++[o])[H.length]?=some o:=by simp
theorem ad2 (k:Int) (n:List UInt8) (u:Int) (t:List UInt8) (p:Int) (ks:List aa) (aM:List al) (b9:(aa.mk k n u t p ks aM).okB=true) (eX:(aa.mk k n u t p ks aM).fit) (cL:n.length+t.length+aa.fh ks+aa.Dt aM<=1073741824)
  (hk:∀x∈ks,qt x) (ha:∀q e,al.mk q e∈aM->sx q/\qt e) (oY:k=8\/k=10\/k=11\/k=12\/k=13) (H:List AO) (hT:Tb H):
  aA Tryz.prog 103 [br (aa.cells (.mk k n u t p ks aM))] H (aW (.p (.s (aa.kf (.mk k n u t p ks aM)).f)) H):=by
 refine aD ?_ (bw _);refine call103 (by simp) ?_;rw[aa.fit]at eX;have hW:=aa.gy ks eX.2.1;have hWA:=aa.uA aM eX.2.2;rw[aa.okB,pB]at b9;simp only[Bool.and_eq_true]at b9;have cO:=b9.1.1;clear b9 eX;by_cases jt:k=10
 ·subst jt
  obtain⟨c0,c1,rfl⟩:=l9 (l:=ks) (by simpa using(by simpa using cO:_/\_).1);simp only[aa.cW,wK,aa.fh]at hW;simp only[aa.fh]at cL;have a0:=(cK c0.kf 0).1;have g0:=hk c0 (by simp) 0;have a1:=(cK c1.kf 0).1;have g1:=hk c1 (by simp) 0;have e:(aa.mk 10 n u t p [c0,c1] aM).kf.f=[108,101,116,32]++(n++([32,61,32]++(c0.kf.at 0++([32,105,110,32]++c1.kf.at 0)))):=by simp[aa.kf,aa.cW,dP]
  rw[e];have hX:=fun A=>Gt H A (.var [.p (.i .i64 10),.p (.s n),.p (.i .i64 u),.p (.s t),.p (.i .i64 p),.p (.l [c0.cells,c1.cells]),.p (.l (aM.map al.cells))])
  have Gi:=yC H (.var [.p (.i .i64 10),.p (.s n),.p (.i .i64 u),.p (.s t),.p (.i .i64 p),.p (.l [c0.cells,c1.cells]),.p (.l (aM.map al.cells))]);have r0:∀A,aA _ _ [.p (.i .i64 0),.ptr H.length 0] (_++A) (aW (.p (.s (c0.kf.at 0))) (_++A)):=fun A=>yB (i:=0) (c:=c0) (hX A) (by rfl) (g0 _ (by decide) ((hT.ext _).ext A))
  have r1:∀A,aA _ _ [.p (.i .i64 1),.ptr H.length 0] (_++A) (aW (.p (.s (c1.kf.at 0))) (_++A)):=fun A=>yB (i:=1) (c:=c1) (hX A) (by rfl) (g1 _ (by decide) ((hT.ext _).ext A))
  clear e;generalize c0.kf.at 0=s0 at *;generalize c1.kf.at 0=s1 at *;simp only[go_sem,simprocAttr,xi,zS,aa.cells,aa.aV,aa.aN,br]
  repeat' first
   |(with_reducible refine ag _ (fun h=>?_) (fun h=>?_)<;>simp only[go_sem,simprocAttr,h])
   |(with_reducible refine aQ (fun A=>r0 A) (bP.refl _) ?_;simp only[go_sem,simprocAttr])
   |(with_reducible refine aQ (fun A=>r1 A) (bP.refl _) ?_;simp only[go_sem,simprocAttr])
   |(refine Gp rfl ?_;simp only[go_sem,simprocAttr])
   |(refine ao ?_;simp only[go_sem,simprocAttr])
   |(refine And.intro (by(try simp only[aC,LL]);omega) ?_;try simp only[go_sem,simprocAttr])
   |(intro _)
  all_goals first|exact⟨s2 (by simp),_,rfl⟩|exact⟨_,rfl⟩
 by_cases sf:k=11
 ·subst sf
  obtain⟨c0,c1,rfl⟩:=l9 (l:=ks) (by simpa using(by simpa using cO:_/\_).1);simp only[aa.cW,wK,aa.fh]at hW;simp only[aa.fh]at cL;have a0:=(cK c0.kf 0).1;have g0:=hk c0 (by simp) 0;have a1:=(cK c1.kf 0).1;have g1:=hk c1 (by simp) 0;have e:(aa.mk 11 n u t p [c0,c1] aM).kf.f=[108,101,116,32,114,101,99,32]++(n++(32::(t++([32,61,32]++(c0.kf.at 0++([32,105,110,32]++c1.kf.at 0)))))):=by simp[aa.kf,aa.cW,dP]
  rw[e];have hX:=fun A=>Gt H A (.var [.p (.i .i64 11),.p (.s n),.p (.i .i64 u),.p (.s t),.p (.i .i64 p),.p (.l [c0.cells,c1.cells]),.p (.l (aM.map al.cells))])
  have Gi:=yC H (.var [.p (.i .i64 11),.p (.s n),.p (.i .i64 u),.p (.s t),.p (.i .i64 p),.p (.l [c0.cells,c1.cells]),.p (.l (aM.map al.cells))]);have r0:∀A,aA _ _ [.p (.i .i64 0),.ptr H.length 0] (_++A) (aW (.p (.s (c0.kf.at 0))) (_++A)):=fun A=>yB (i:=0) (c:=c0) (hX A) (by rfl) (g0 _ (by decide) ((hT.ext _).ext A))
  have r1:∀A,aA _ _ [.p (.i .i64 1),.ptr H.length 0] (_++A) (aW (.p (.s (c1.kf.at 0))) (_++A)):=fun A=>yB (i:=1) (c:=c1) (hX A) (by rfl) (g1 _ (by decide) ((hT.ext _).ext A))
  clear e;generalize c0.kf.at 0=s0 at *;generalize c1.kf.at 0=s1 at *;simp only[go_sem,simprocAttr,xi,zS,aa.cells,aa.aV,aa.aN,br]
  repeat' first
   |(with_reducible refine ag _ (fun h=>?_) (fun h=>?_)<;>simp only[go_sem,simprocAttr,h])
   |(with_reducible refine aQ (fun A=>r0 A) (bP.refl _) ?_;simp only[go_sem,simprocAttr])
   |(with_reducible refine aQ (fun A=>r1 A) (bP.refl _) ?_;simp only[go_sem,simprocAttr])
   |(refine Gp rfl ?_;simp only[go_sem,simprocAttr])
   |(refine ao ?_;simp only[go_sem,simprocAttr])
   |(refine And.intro (by(try simp only[aC,LL]);omega) ?_;try simp only[go_sem,simprocAttr])
   |(intro _)
  all_goals first|exact⟨s2 (by simp),_,rfl⟩|exact⟨_,rfl⟩
 by_cases h8:k=8
 ·subst h8
  obtain⟨c0,rfl⟩:=nV (l:=ks) (by simpa using(by simpa using cO:_/\_).1);simp only[aa.cW,wK,aa.fh]at hW;simp only[aa.fh]at cL;have a0:=(cK c0.kf 0).1;have g0:=hk c0 (by simp) 0;have e:(aa.mk 8 n u t p [c0] aM).kf.f=[102,117,110,32]++(n++([32,45,62,32]++c0.kf.at 0)):=by simp[aa.kf,aa.cW,dP]
  rw[e];have hX:=fun A=>Gt H A (.var [.p (.i .i64 8),.p (.s n),.p (.i .i64 u),.p (.s t),.p (.i .i64 p),.p (.l [c0.cells]),.p (.l (aM.map al.cells))])
  have Gi:=yC H (.var [.p (.i .i64 8),.p (.s n),.p (.i .i64 u),.p (.s t),.p (.i .i64 p),.p (.l [c0.cells]),.p (.l (aM.map al.cells))]);have r0:∀A,aA _ _ [.p (.i .i64 0),.ptr H.length 0] (_++A) (aW (.p (.s (c0.kf.at 0))) (_++A)):=fun A=>yB (i:=0) (c:=c0) (hX A) (by rfl) (g0 _ (by decide) ((hT.ext _).ext A))
  clear e;generalize c0.kf.at 0=s0 at *;simp only[go_sem,simprocAttr,xi,zS,aa.cells,aa.aV,aa.aN,br]
  repeat' first
   |(with_reducible refine ag _ (fun h=>?_) (fun h=>?_)<;>simp only[go_sem,simprocAttr,h])
   |(with_reducible refine aQ (fun A=>r0 A) (bP.refl _) ?_;simp only[go_sem,simprocAttr])
   |(refine Gp rfl ?_;simp only[go_sem,simprocAttr])
   |(refine ao ?_;simp only[go_sem,simprocAttr])
   |(refine And.intro (by(try simp only[aC,LL]);omega) ?_;try simp only[go_sem,simprocAttr])
   |(intro _)
  all_goals first|exact⟨s2 (by simp),_,rfl⟩|exact⟨_,rfl⟩
 by_cases gv:k=12
 ·subst gv
  obtain⟨c0,c1,c2,rfl⟩:=acm (l:=ks) (by simpa using(by simpa using cO:_/\_).1);simp only[aa.cW,wK,aa.fh]at hW;simp only[aa.fh]at cL;have a0:=(cK c0.kf 0).1;have g0:=hk c0 (by simp) 0;have a1:=(cK c1.kf 0).1;have g1:=hk c1 (by simp) 0;have a2:=(cK c2.kf 0).1;have g2:=hk c2 (by simp) 0;have e:(aa.mk 12 n u t p [c0,c1,c2] aM).kf.f=[105,102,32]++(c0.kf.at 0++([32,116,104,101,110,32]++(c1.kf.at 0++([32,101,108,115,101,32]++c2.kf.at 0)))):=by simp[aa.kf,aa.cW,dP]
  rw[e];have hX:=fun A=>Gt H A (.var [.p (.i .i64 12),.p (.s n),.p (.i .i64 u),.p (.s t),.p (.i .i64 p),.p (.l [c0.cells,c1.cells,c2.cells]),.p (.l (aM.map al.cells))])
  have Gi:=yC H (.var [.p (.i .i64 12),.p (.s n),.p (.i .i64 u),.p (.s t),.p (.i .i64 p),.p (.l [c0.cells,c1.cells,c2.cells]),.p (.l (aM.map al.cells))]);have r0:aA _ _ [.p (.i .i64 0),.ptr H.length 0] _ (aW (.p (.s (c0.kf.at 0))) _):=yB (i:=0) (c:=c0) Gi (by rfl) (g0 _ (by decide) (hT.ext _));have r1:aA _ _ [.p (.i .i64 1),.ptr H.length 0] _ (aW (.p (.s (c1.kf.at 0))) _):=yB (i:=1) (c:=c1) Gi (by rfl) (g1 _ (by decide) (hT.ext _));have r2:aA _ _ [.p (.i .i64 2),.ptr H.length 0] _ (aW (.p (.s (c2.kf.at 0))) _):=yB (i:=2) (c:=c2) Gi (by rfl) (g2 _ (by decide) (hT.ext _));clear e;generalize c0.kf.at 0=s0 at *;generalize c1.kf.at 0=s1 at *;generalize c2.kf.at 0=s2 at *;simp only[go_sem,simprocAttr,xi,zS,aa.cells,aa.aV,aa.aN,br]
  repeat' first
   |(with_reducible refine ag _ (fun h=>?_) (fun h=>?_)<;>simp only[go_sem,simprocAttr,h])
   |(with_reducible refine U (r0) ?_;simp only[go_sem,simprocAttr])
   |(with_reducible refine U (r1) ?_;simp only[go_sem,simprocAttr])
   |(with_reducible refine U (r2) ?_;simp only[go_sem,simprocAttr])
   |(refine ao ?_;simp only[go_sem,simprocAttr])
   |(refine And.intro (by(try simp only[aC,LL]);omega) ?_;try simp only[go_sem,simprocAttr])
   |(intro _)
  all_goals first|exact⟨s2 (by simp),_,rfl⟩|exact⟨_,rfl⟩
 obtain rfl:k=13:=by omega
 obtain⟨c0,rfl⟩:=nV (l:=ks) (by simpa using(by simpa using cO:_/\_).1);simp only[aa.cW,wK,aa.fh]at hW;simp only[aa.fh]at cL;have a0:=(cK c0.kf 0).1;have g0:=hk c0 (by simp) 0;have hAl:=vk (aa.zI aM);have hLA:aM.length<=1073741824:=by have:=gM al.sz aM;rw[<-aa.lN]at this;omega
 have e:(aa.mk 13 n u t p [c0] aM).kf.f=[109,97,116,99,104,32]++(c0.kf.at 0++([32,119,105,116,104]++(((aM.map al.kf).map iZ).flatten++[32,101,110,100]))):=by simp[aa.kf,aa.cW,dP,aa.vi]
 rw[e];rw[aa.vi]at hAl hWA;have Gi:=yC H (.var [.p (.i .i64 13),.p (.s n),.p (.i .i64 u),.p (.s t),.p (.i .i64 p),.p (.l [c0.cells]),.p (.l (aM.map al.cells))]);have r0:aA _ _ [.p (.i .i64 0),.ptr H.length 0] _ (aW (.p (.s (c0.kf.at 0))) _):=yB (i:=0) (c:=c0) Gi (by rfl) (g0 _ (by decide) (hT.ext _));clear e;generalize c0.kf.at 0=s0 at *;simp only[go_sem,simprocAttr,xi,zS,aa.cells,aa.aV,aa.aN,br]
 repeat' first
  |(with_reducible refine ag _ (fun h=>?_) (fun h=>?_)<;>simp only[go_sem,simprocAttr,h,List.length_map])
  |(with_reducible refine U (r0) ?_;simp only[go_sem,simprocAttr,List.length_map])
  |(refine ao ?_;simp only[go_sem,simprocAttr,List.length_map])
  |(refine And.intro (by(try simp only[aC,LL]);omega) ?_;try simp only[go_sem,simprocAttr,List.length_map])
  |(intro _)
 have mg:∀x,(((aM.take x).map al.kf).map iZ).flatten.length<=((aM.map al.kf).map iZ).flatten.length:=fun x=>by
  have h:=List.take_append_drop x aM
  have h2:((aM.map al.kf).map iZ).flatten=(((aM.take x).map al.kf).map iZ).flatten++(((aM.drop x).map al.kf).map iZ).flatten:=by
   rw[<-List.flatten_append,<-List.map_append,<-List.map_append,h]
  rw[h2,List.length_append];omega
 refine⟨Nat×List AO,[2,4,67,68,69],fun x st=>(x.1<=aM.length/\∃G,x.2=H++G)/\st=⟨[(2,.p (.s [])),(4,.p (.s ([109,97,116,99,104,32]++(s0++([32,119,105,116,104]++(((aM.take x.1).map al.kf).map iZ).flatten))))),(67,.p (.l (aM.map al.cells))),(68,.p (.i .i64 aM.length)),(69,.p (.i .i64 x.1))],[],x.2⟩,fun x=>aM.length-x.1,⟨(0,H++[.var [.p (.i .i64 13),.p (.s n),.p (.i .i64 u),.p (.s t),.p (.i .i64 p),.p (.l [c0.cells]),.p (.l (aM.map al.cells))]]),?_⟩,?_⟩
 ·simp only[go_sem,simprocAttr]
  exact⟨⟨Nat.zero_le _,_,rfl⟩,by simp⟩
 rintro⟨y,Z⟩ _ ⟨⟨hy,hZ⟩,rfl⟩;simp only at hy hZ;have hTZ:∀A,Tb (Z++A):=fun A=>by obtain⟨G,rfl⟩:=hZ;exact(hT.ext G).ext A
 have UY:∀A,∃G,Z++A=H++G:=fun A=>by obtain⟨G,rfl⟩:=hZ;exact⟨G++A,by simp⟩
 have f0:=mg y;by_cases aj:y<aM.length
 ·have d2:decide ((y:Int)<(aM.length:Int))=true:=by simp;omega
  have bC:(y:Int)<(aM.length:Int):=by omega
  have hg:(aM.map al.cells)[y]?=some (al.cells aM[y]):=by simp[aj]
  have hc:∀q e,aM[y]=al.mk q e->sx q/\qt e:=fun q e he=>ha q e (by rw[<-he];exact List.getElem_mem aj)
  have ht:(((aM.take (y+1)).map al.kf).map iZ).flatten=(((aM.take y).map al.kf).map iZ).flatten++iZ aM[y].kf:=by rw[List.take_succ_eq_append_getElem aj];simp only[List.map_append,List.flatten_append,List.map_cons,List.map_nil,List.flatten_cons,List.flatten_nil,List.append_nil]
  have f1:=mg (y+1);rw[ht,List.length_append]at f1;generalize aM[y]=c at hg hc ht f1;obtain⟨q,e⟩:=c;obtain⟨h1,h2⟩:=hc _ _ rfl;have h1:=h1 0;have h2:=h2 0;simp only[al.kf,iZ]at ht f1;rw[List.length_append,List.length_append,List.length_append]at f1;generalize q.kf.at 0=sq at h1 ht f1;generalize e.kf.at 0=se at h2 ht f1;obtain⟨qk,qn,qu,qp,OC⟩:=q;obtain⟨ck,cn,cu,ct,cp,oF,DD⟩:=e;simp only[M3,ae.cells,aa.cells,br,List.map_cons,List.map_nil,List.cons_append,List.nil_append]at hg h1 h2;generalize (((aM.take y).map al.kf).map iZ).flatten=fl at *;simp only[go_sem,simprocAttr,d2,bC,hg,List.length_map]
  repeat' first
   |(with_reducible refine ag _ (fun h=>?_) (fun h=>?_)<;>simp only[go_sem,simprocAttr,h,bp y (by omega)])
   |(with_reducible refine aQ (fun A=>h1 _ (by decide) (by rw[List.append_assoc];exact hTZ _)) (bP.refl _) ?_;simp only[go_sem,simprocAttr,bp y (by omega)])
   |(with_reducible refine aQ (fun A=>h2 _ (by decide) (by rw[List.append_assoc];exact hTZ _)) (bP.refl _) ?_;simp only[go_sem,simprocAttr,bp y (by omega)])
   |(refine ao ?_;simp only[go_sem,simprocAttr,bp y (by omega)])
   |(refine And.intro (by(try simp only[aC,LL]);omega) ?_;try simp only[go_sem,simprocAttr,bp y (by omega)])
   |(intro _)
  refine⟨(y+1,_),⟨⟨by omega,UY [AO.var [.p (.i .i64 qk),.p (.s qn),.p (.i .i64 qu),.p (.i .i64 qp),.p (.l (ae.aV OC)),.p (.i .i64 ck),.p (.s cn),.p (.i .i64 cu),.p (.s ct),.p (.i .i64 cp),.p (.l (aa.aV oF)),.p (.l (aa.bR DD))]]⟩,?_⟩,by simp only;omega⟩;simp only[ht,List.append_assoc,List.cons_append,List.nil_append]
 ·have d2:decide ((y:Int)<(aM.length:Int))=false:=by simp;omega
  rw[List.take_of_length_le (by omega)];simp only[go_sem,simprocAttr,d2]
  repeat' first
   |(with_reducible refine ag _ (fun h=>?_) (fun h=>?_)<;>simp only[go_sem,simprocAttr,h])
   |(refine ao ?_;simp only[go_sem,simprocAttr])
   |(refine And.intro (by(try simp only[aC,LL]);omega) ?_;try simp only[go_sem,simprocAttr])
   |(intro _)
  first|exact hZ|exact⟨s2 (by simp),hZ⟩
theorem Zz (n:List UInt8):(iR n).2.1<=6/\(iR n).2.2<=6:=by unfold iR;(repeat' split)<;>simp
theorem kG (n:List UInt8):arity n=0\/arity n=1\/arity n=-1:=by unfold arity;(repeat' split)<;>simp
theorem V7 (k:Int) (n:List UInt8) (u:Int) (t:List UInt8) (p:Int) (ks:List aa) (aM:List al):(aa.mk k n u t p ks aM).kf.b=(decide (k=6)&&decide ((ks.length:Int)=0)):=by
 rw[aa.kf,aa.cY];by_cases h6:k=6
 ·subst h6
  by_cases hl:ks.length=0
  ·simp[dP,hl]
  ·have:¬(ks.length:Int)=0:=by omega
   simp only[dP,List.length_map,if_neg hl,decide_eq_false this]
   rfl
 ·have hb:∀{c:Prop} [Decidable c] {x y:KF},x.b=false->y.b=false->(if c then x else y).b=false:=fun h1 h2=>by split <;>assumption
  rw[decide_eq_false h6,Bool.false_and,dP]
  repeat' refine hb ?_ ?_
  all_goals first|rfl|exact decide_eq_false h6
theorem V8 {k:Int} {n:List UInt8} {u:Int} {t:List UInt8} {p:Int} {ks:List aa} {aM:List al} (h:(aa.mk k n u t p ks aM).kf.b=true):(aa.mk k n u t p ks aM).kf.at 7=40::((aa.mk k n u t p ks aM).kf.at 5++[41]):=by
 rw[V7,Bool.and_eq_true,decide_eq_true_eq,decide_eq_true_eq]at h;obtain⟨rfl,hl⟩:=h;obtain rfl:=uF hl;simp[aa.kf,aa.cW,dP,KF.at,gx]
theorem V9 (k:Int) (n:List UInt8) (u:Int) (t:List UInt8) (p:Int) (ks:List aa) (aM:List al) (b9:(aa.mk k n u t p ks aM).okB=true) (eX:(aa.mk k n u t p ks aM).fit) (cL:n.length+t.length+aa.fh ks+aa.Dt aM<=1073741824)
  (hk:∀x∈ks,qt x) (iw:∀q e,al.mk q e∈aM->sx q/\qt e):qt (.mk k n u t p ks aM):=by
 intro a H ha hT;have rq:=ad2 k n u t p ks aM b9 eX cL hk iw;have Hn:=aa.jj _ eX;refine aD ?_ (bw _);refine call49 (by simp) ?_;rw[aa.fit]at eX;have hW:=aa.gy ks eX.2.1;have hu:=eX.1;have vY:ks.length<=1073741824:=by have:=gM aa.sz ks;rw[<-aa.dr]at this;omega
 have hF:∀z,z<=6->zY 49 (fun x:aa=>br x.cells) (fun x=>x.kf.at z) ks z:=fun z hz x hx H hT=>hk x hx z H hz hT
 have hj:∀(sep:List UInt8),sep.length<=10->∀z,(bF sep (ks.map fun x=>x.kf.at z)).length<=200000000000:=fun sep hs z=>by
  have:=iv sep hs z (aa.cW ks);rw[aa.cY,List.map_map]at this;rw[aa.cY]at hW;exact Nat.le_trans this (by omega)
 rw[aa.okB,pB]at b9;simp only[Bool.and_eq_true]at b9;have cO:=b9.1.1;clear b9 eX;by_cases h1:k=1
 ·subst h1
  have e:(aa.mk 1 n u t p ks aM).kf.at a=qf u:=by simp[aa.kf,dP,KF.at,gx];omega
  rw[e];have h0:0<=u:=by simp at cO;exact cO.2.2.1
  simp only[go_sem,simprocAttr,pI,qm,aa.cells,aa.aw,aa.aN,br,List.length_map];refine U (VZ (hT.ext _) h0 hu) ?_;simp only[go_sem,simprocAttr];exact⟨_,rfl⟩
 by_cases h2:k=2
 ·subst h2
  have e:(aa.mk 2 n u t p ks aM).kf.at a=pC t:=by simp[aa.kf,dP,KF.at,gx];omega
  rw[e];simp only[go_sem,simprocAttr,pI,qm,aa.cells,aa.aw,aa.aN,br,List.length_map]
  repeat' first
   |(with_reducible refine ag _ (fun h=>?_) (fun h=>?_)<;>simp only[go_sem,simprocAttr,h])
   |(with_reducible refine U (V5 (by omega) _) ?_;simp only[go_sem,simprocAttr])
   |(refine ao ?_;simp only[go_sem,simprocAttr])
   |(refine And.intro (by(try simp only[aC,LL]);omega) ?_;try simp only[go_sem,simprocAttr])
   |(intro _)
  all_goals exact⟨_,rfl⟩
 by_cases h3:k=3
 ·subst h3
  have e:(aa.mk 3 n u t p ks aM).kf.at a=kS u:=by simp[aa.kf,dP,KF.at,gx];omega
  rw[e];simp only[go_sem,simprocAttr,pI,qm,aa.cells,aa.aw,aa.aN,br,List.length_map]
  repeat' first
   |(with_reducible refine ag _ (fun h=>?_) (fun h=>?_)<;>simp only[go_sem,simprocAttr,h])
   |(with_reducible refine U (V1 _ _) ?_;simp only[go_sem,simprocAttr])
   |(refine ao ?_;simp only[go_sem,simprocAttr])
   |(refine And.intro (by(try simp only[aC,LL]);omega) ?_;try simp only[go_sem,simprocAttr])
   |(intro _)
  all_goals exact⟨_,rfl⟩
 by_cases h4:k=4
 ·subst h4
  have e:(aa.mk 4 n u t p ks aM).kf.at a=[40,41]:=by simp[aa.kf,dP,KF.at,gx];omega
  rw[e];simp only[go_sem,simprocAttr,pI,qm,aa.cells,aa.aw,aa.aN,br,List.length_map]
  repeat' first
   |(with_reducible refine ag _ (fun h=>?_) (fun h=>?_)<;>simp only[go_sem,simprocAttr,h])
   |(refine ao ?_;simp only[go_sem,simprocAttr])
   |(refine And.intro (by(try simp only[aC,LL]);omega) ?_;try simp only[go_sem,simprocAttr])
   |(intro _)
  all_goals exact⟨_,rfl⟩
 by_cases h5:k=5
 ·subst h5
  have e:(aa.mk 5 n u t p ks aM).kf.at a=n:=by simp[aa.kf,dP,KF.at,gx];omega
  rw[e];simp only[go_sem,simprocAttr,pI,qm,aa.cells,aa.aw,aa.aN,br,List.length_map]
  repeat' first
   |(with_reducible refine ag _ (fun h=>?_) (fun h=>?_)<;>simp only[go_sem,simprocAttr,h])
   |(refine ao ?_;simp only[go_sem,simprocAttr])
   |(refine And.intro (by(try simp only[aC,LL]);omega) ?_;try simp only[go_sem,simprocAttr])
   |(intro _)
  all_goals exact⟨_,rfl⟩
 by_cases h7:k=7
 ·subst h7
  have e:(aa.mk 7 n u t p ks aM).kf.at a=40::(bF [44,32] (ks.map fun x=>x.kf.at 0)++[41]):=by simp[aa.kf,aa.cY,dP,KF.at,gx,Function.comp_def];omega
  rw[e];have OO:=hj [44,32] (by decide) 0;have II:=fun H (hT:Tb H)=>LZ (hF 0 (by decide)) (sep:=[44,32]) (by decide) vY (by omega) hT
  clear e;generalize bF [44,32] (ks.map fun x=>x.kf.at 0)=sj at OO II;simp only[go_sem,simprocAttr,pI,qm,aa.cells,aa.aw,aa.aN,br,List.length_map]
  repeat' first
   |(with_reducible refine ag _ (fun h=>?_) (fun h=>?_)<;>simp only[go_sem,simprocAttr,h])
   |(with_reducible refine U (II _ (hT.ext _)) ?_;simp only[go_sem,simprocAttr])
   |(refine ao ?_;simp only[go_sem,simprocAttr])
   |(refine And.intro (by(try simp only[aC,LL]);omega) ?_;try simp only[go_sem,simprocAttr])
   |(intro _)
  all_goals first|exact⟨s2 (by simp),_,rfl⟩|exact⟨_,rfl⟩
 by_cases si:k=14
 ·subst si
  obtain⟨c0,c1,rfl⟩:=l9 (l:=ks) (by simpa using(by simpa using cO:_/\_).1);simp only[aa.cW,wK,aa.fh]at hW;simp only[aa.fh]at cL;obtain⟨o1,o2⟩:=Zz n;have a0:=(cK c0.kf (iR n).2.1).1;have a1:=(cK c1.kf (iR n).2.2).1;have g0:=hk c0 (by simp) (iR n).2.1;have g1:=hk c1 (by simp) (iR n).2.2;have e:(aa.mk 14 n u t p [c0,c1] aM).kf.at a=gx (c0.kf.at (iR n).2.1++(32::(n++(32::c1.kf.at (iR n).2.2)))) (iR n).1 a:=by simp[aa.kf,aa.cW,dP,KF.at]
  rw[e];clear e rq Hn hF hj;have zQ:=V2 n;generalize c0.kf.at (iR n).2.1=s0 at *;generalize c1.kf.at (iR n).2.2=s1 at *;generalize (iR n).2.1=l1 at *;generalize (iR n).2.2=l2 at *;generalize (iR n).1=l0 at *;obtain⟨k0,n0,u0,t0,p0,q0,r0⟩:=c0;obtain⟨k1,n1,u1,t1,p1,q1,r1⟩:=c1;simp only[aa.cells,br,List.map_cons,List.map_nil,aa.aN]at g0 g1;simp only[go_sem,simprocAttr,pI,qm,aa.cells,aa.aV,aa.aN,br,List.length_map]
  repeat' first
   |(with_reducible refine ag _ (fun h=>?_) (fun h=>?_)<;>simp only[go_sem,simprocAttr,h])
   |(with_reducible refine U (zQ _) ?_;simp only[go_sem,simprocAttr])
   |(with_reducible refine aQ (fun A=>g0 _ (by omega) ((hT.ext _).ext _)) (bP.refl _) ?_;simp only[go_sem,simprocAttr])
   |(with_reducible refine aQ (fun A=>g1 _ (by omega) ((hT.ext _).ext _)) (bP.refl _) ?_;simp only[go_sem,simprocAttr])
   |(with_reducible refine U (nr (by simp only[List.length_append,List.length_cons,List.length_nil];omega) _ _ _) ?_;simp only[go_sem,simprocAttr])
   |(refine ao ?_;simp only[go_sem,simprocAttr])
   |(refine And.intro (by(try simp only[aC,LL]);omega) ?_;try simp only[go_sem,simprocAttr])
   |(intro _)
  all_goals first|exact⟨s2 (by simp),_,rfl⟩|exact⟨_,rfl⟩
 by_cases h6:k=6
 ·subst h6
  by_cases hl:(ks.length:Int)=0
  ·obtain rfl:=uF hl
   have e:(aa.mk 6 n u t p [] aM).kf.at a=n:=by simp[aa.kf,aa.cW,dP,KF.at,gx];omega
   rw[e];simp only[go_sem,simprocAttr,pI,qm,aa.cells,aa.aw,aa.aN,br,List.length_map]
   repeat' first
    |(with_reducible refine ag _ (fun h=>?_) (fun h=>?_)<;>simp only[go_sem,simprocAttr,h])
    |(refine ao ?_;simp only[go_sem,simprocAttr])
    |(refine And.intro (by(try simp only[aC,LL]);omega) ?_;try simp only[go_sem,simprocAttr])
    |(intro _)
   all_goals exact⟨_,rfl⟩
  ·obtain⟨c0,rfl⟩:=nV (l:=ks) (by simp at cO hl;have:=cO.1;have:=List.length_pos_iff.2 hl;omega)
   have g0:=hk c0 (by simp) 6;simp only[aa.cW,wK,aa.fh]at hW;simp only[aa.fh]at cL;have a0:=(cK c0.kf 6).1;have e:(aa.mk 6 n u t p [c0] aM).kf.at a=gx (n++(32::c0.kf.at 6)) 5 a:=by simp[aa.kf,aa.cW,dP,KF.at]
   rw[e];clear e rq Hn hF hj;generalize c0.kf.at 6=s0 at *;obtain⟨k0,n0,u0,t0,p0,q0,r0⟩:=c0;simp only[aa.cells,br,List.map_cons,List.map_nil,aa.aN]at g0;simp only[go_sem,simprocAttr,pI,qm,aa.cells,aa.aV,aa.aN,br,List.length_map]
   repeat' first
    |(with_reducible refine ag _ (fun h=>?_) (fun h=>?_)<;>simp only[go_sem,simprocAttr,h])
    |(with_reducible refine aQ (fun A=>g0 _ (by decide) ((hT.ext _).ext _)) (bP.refl _) ?_;simp only[go_sem,simprocAttr])
    |(with_reducible refine U (nr (by simp only[List.length_append,List.length_cons,List.length_nil];omega) _ _ _) ?_;simp only[go_sem,simprocAttr])
    |(refine ao ?_;simp only[go_sem,simprocAttr])
    |(refine And.intro (by(try simp only[aC,LL]);omega) ?_;try simp only[go_sem,simprocAttr])
    |(intro _)
   all_goals first|exact⟨s2 (by simp),_,rfl⟩|exact⟨_,rfl⟩
 by_cases DC:k=15
 ·subst DC
  by_cases hl:(ks.length:Int)=0
  ·obtain rfl:=uF hl
   have e:(aa.mk 15 n u t p [] aM).kf.at a=n:=by simp[aa.kf,aa.cW,dP,KF.at,gx];omega
   rw[e];simp only[go_sem,simprocAttr,pI,qm,aa.cells,aa.aw,aa.aN,br,List.length_map]
   repeat' first
    |(with_reducible refine ag _ (fun h=>?_) (fun h=>?_)<;>simp only[go_sem,simprocAttr,h])
    |(refine ao ?_;simp only[go_sem,simprocAttr])
    |(refine And.intro (by(try simp only[aC,LL]);omega) ?_;try simp only[go_sem,simprocAttr])
    |(intro _)
   all_goals exact⟨_,rfl⟩
  ·obtain⟨c0,rfl⟩:=nV (l:=ks) (by have h1:(ks.length:Int)=arity n:=(by simp at cO;exact cO.1);rcases kG n with h|h|h<;>omega)
   have g0:=hk c0 (by simp) 6;simp only[aa.cW,wK,aa.fh]at hW;simp only[aa.fh]at cL;have a0:=(cK c0.kf 6).1;have e:(aa.mk 15 n u t p [c0] aM).kf.at a=gx (n++(32::c0.kf.at 6)) 5 a:=by simp[aa.kf,aa.cW,dP,KF.at]
   rw[e];clear e rq Hn hF hj;generalize c0.kf.at 6=s0 at *;obtain⟨k0,n0,u0,t0,p0,q0,r0⟩:=c0;simp only[aa.cells,br,List.map_cons,List.map_nil,aa.aN]at g0;simp only[go_sem,simprocAttr,pI,qm,aa.cells,aa.aV,aa.aN,br,List.length_map]
   repeat' first
    |(with_reducible refine ag _ (fun h=>?_) (fun h=>?_)<;>simp only[go_sem,simprocAttr,h])
    |(with_reducible refine aQ (fun A=>g0 _ (by decide) ((hT.ext _).ext _)) (bP.refl _) ?_;simp only[go_sem,simprocAttr])
    |(with_reducible refine U (nr (by simp only[List.length_append,List.length_cons,List.length_nil];omega) _ _ _) ?_;simp only[go_sem,simprocAttr])
    |(refine ao ?_;simp only[go_sem,simprocAttr])
    |(refine And.intro (by(try simp only[aC,LL]);omega) ?_;try simp only[go_sem,simprocAttr])
    |(intro _)
   all_goals first|exact⟨s2 (by simp),_,rfl⟩|exact⟨_,rfl⟩
 by_cases h9:k=9
 ·subst h9
  obtain⟨c0,c1,rfl⟩:=l9 (l:=ks) (by simpa using(by simpa using cO:_/\_).1);simp only[aa.cW,wK,aa.fh]at hW;simp only[aa.fh]at cL;have a0:=(cK c0.kf 5).1;have a1:=(cK c1.kf 6).1;have g0:=hk c0 (by simp) 5;have g1:=hk c1 (by simp) 6;have e:(aa.mk 9 n u t p [c0,c1] aM).kf.at a=gx (c0.kf.at (if c0.kf.b then 7 else 5)++(32::c1.kf.at 6)) 5 a:=by simp[aa.kf,aa.cW,dP,KF.at]
  rw[e];clear e rq Hn hF hj;obtain⟨k0,n0,u0,t0,p0,q0,r0⟩:=c0;obtain⟨k1,n1,u1,t1,p1,q1,r1⟩:=c1;have hb:=@V8 k0 n0 u0 t0 p0 q0 r0;have mE:=V7 k0 n0 u0 t0 p0 q0 r0;generalize (aa.mk k0 n0 u0 t0 p0 q0 r0).kf=f0 at *;generalize (aa.mk k1 n1 u1 t1 p1 q1 r1).kf.at 6=s1 at *;simp only[aa.cells,br,List.map_cons,List.map_nil,aa.aw,aa.aN]at g0 g1;simp only[go_sem,simprocAttr,pI,qm,aa.cells,aa.aw,aa.aN,br,List.length_map]
  repeat' first
   |(with_reducible refine ag _ (fun h=>?_) (fun h=>?_)<;>simp only[go_sem,simprocAttr,h,List.length_map])
   |(with_reducible refine U (g0 _ (by decide) (hT.ext _)) ?_;simp only[go_sem,simprocAttr,List.length_map])
   |(with_reducible refine U (g1 _ (by decide) (hT.ext _)) ?_;simp only[go_sem,simprocAttr,List.length_map])
   |(with_reducible refine U (nr (by simp only[List.length_append,List.length_cons,List.length_nil];omega) _ _ _) ?_;simp only[go_sem,simprocAttr,List.length_map])
   |(refine ao ?_;simp only[go_sem,simprocAttr,List.length_map])
   |(refine And.intro (by(try simp only[aC,LL]);omega) ?_;try simp only[go_sem,simprocAttr,List.length_map])
   |(intro _)
  all_goals refine⟨s2 ?_,_,rfl⟩
  ·rename_i KM _
   have ZA:f0.b=true:=by rw[mE,KM,h];rfl
   rw[if_pos ZA,hb ZA];simp
  ·have L0:f0.b=false:=by rw[mE,h,Bool.and_false]
   rw[L0];rfl
  ·have L0:f0.b=false:=by rw[mE,h,Bool.false_and]
   rw[L0];rfl
 have oY:k=8\/k=10\/k=11\/k=12\/k=13:=by
  rw[if_neg h1,if_neg h2,if_neg h3,if_neg h4,if_neg h5,if_neg h6,if_neg h7]at cO;by_cases h8:k=8
  ·exact .inl h8
  by_cases jt:k=10
  ·exact .inr (.inl jt)
  by_cases sf:k=11
  ·exact .inr (.inr (.inl sf))
  by_cases gv:k=12
  ·exact .inr (.inr (.inr (.inl gv)))
  by_cases Gf:k=13
  ·exact .inr (.inr (.inr (.inr Gf)))
  rw[if_neg h8,if_neg h9,if_neg jt,if_neg sf,if_neg gv,if_neg Gf,if_neg si,if_neg DC]at cO;cases cO
 have rq:=rq oY
 have e:(aa.mk k n u t p ks aM).kf.at a=gx (aa.mk k n u t p ks aM).kf.f 0 a:=by
  rw[KF.at];congr 1;rw[aa.kf,dP];rcases oY with rfl|rfl|rfl|rfl|rfl<;>rfl
 rw[e];clear e;rw[aa.sz]at Hn;generalize (aa.mk k n u t p ks aM).kf.f=s at *;simp only[aa.cells,br,List.map_cons,List.map_nil,aa.aw,aa.aN]at rq;have d1:decide (k=1)=false:=decide_eq_false h1;have d2:decide (k=2)=false:=decide_eq_false h2;have d3:decide (k=3)=false:=decide_eq_false h3;have d4:decide (k=4)=false:=decide_eq_false h4;have d5:decide (k=5)=false:=decide_eq_false h5;have d6:decide (k=6)=false:=decide_eq_false h6;have d7:decide (k=7)=false:=decide_eq_false h7;have d9:decide (k=9)=false:=decide_eq_false h9;have d14:decide (k=14)=false:=decide_eq_false si;have d15:decide (k=15)=false:=decide_eq_false DC;simp only[go_sem,simprocAttr,pI,qm,aa.cells,aa.aw,aa.aN,br,List.length_map,d1,d2,d3,d4,d5,d6,d7,d9,d14,d15]
 repeat' first
  |(with_reducible refine ag _ (fun h=>?_) (fun h=>?_)<;>simp only[go_sem,simprocAttr,h])
  |(with_reducible refine U (rq _ (hT.ext _)) ?_;simp only[go_sem,simprocAttr])
  |(with_reducible refine U (nr (by omega) _ _ _) ?_;simp only[go_sem,simprocAttr])
  |(refine ao ?_;simp only[go_sem,simprocAttr])
  |(refine And.intro (by(try simp only[aC,LL]);omega) ?_;try simp only[go_sem,simprocAttr])
  |(intro _)
 all_goals exact⟨_,rfl⟩
theorem ZB (p:aa) (h:p.sz≤1073741824) (b9:p.okB=true) (hf:p.fit):qt p:=by
  have :∀(m:Nat) (p:aa),p.sz<m→p.sz≤1073741824→p.okB=true →p.fit→qt p:=by
    intro m
    induction m with
    |zero=>intro p h;omega
    |succ m ih=>
     intro p h h2 b9 hf;obtain⟨k,n,u,t,q,ks,aM⟩:=p;rw[aa.sz]at h h2;have M6:=b9;have hf2:=hf;rw[aa.okB,aa.jN,aa.Bc,Bool.and_eq_true,Bool.and_eq_true,List.all_eq_true,List.all_eq_true]at b9;rw[aa.fit]at hf;refine V9 _ _ _ _ _ _ _ M6 hf2 h2 (fun a ha=> ?_) fun q e ha=> ?_
     · rw[aa.dr]at h h2
       have :=bM aa.sz ha;exact ih a (by omega) (by omega) (b9.2.1 a ha) (aa.mT hf.2.1 ha)
     · rw[aa.lN]at h h2
       have :=bM al.sz ha;rw[al.sz]at this;have h3:=b9.2.2 _ ha;rw[al.okB,Bool.and_eq_true]at h3;have h4:=aa.zK hf.2.2 ha;rw[al.fit]at h4;exact⟨Zy q (by omega) h3.1 h4.1,ih e (by omega) (by omega) h3.2 h4.2⟩
  exact this _ p (Nat.lt_succ_self _) h b9 hf
theorem pM {α:Type} (f:α->List UInt8) (l:List α) (x:Nat):((l.take x).map f).flatten.length<=(l.map f).flatten.length:=by
 have h:=List.take_append_drop x l;have h2:(l.map f).flatten=((l.take x).map f).flatten++((l.drop x).map f).flatten:=by rw[<-List.flatten_append,<-List.map_append,h]
 rw[h2,List.length_append];omega
theorem yD {α:Type} (f:α->List UInt8) {l:List α} {x:Nat} (h:x<l.length):((l.take (x+1)).map f).flatten=((l.take x).map f).flatten++f l[x]:=by
 rw[List.take_succ_eq_append_getElem h];simp only[List.map_append,List.flatten_append,List.map_cons,List.map_nil,List.flatten_cons,List.flatten_nil,List.append_nil]
def mB (v:List UInt8):List UInt8:=39::(v++[32])
theorem xl:∀l:List (List UInt8),l.length<=jv l
 |[]=>by simp
 |v::l=>by have:=xl l;rw[jv,List.length_cons];omega
theorem xm:∀l:List ah,l.length<=eG l
 |[]=>by simp
 |v::l=>by have:=xm l;rw[eG,List.length_cons];omega
theorem vt:∀l:List (List UInt8),((l.map mB).flatten).length≤3*jv l
  |[]=>by simp
  |v::l=>by
   have :=vt l;rw[List.map_cons,List.flatten_cons,List.length_append,jv,mB];simp only[List.length_cons,List.length_append,List.length_nil];omega
theorem zZ (c:ah):c.form.length<=100*c.sz+40:=by
 have:=af.jj c.arg;have:=(cK c.arg.kf 0).1;rw[ah.form,ah.sz,List.length_append];split
 ·rw[List.length_append];simp only[List.length_cons,List.length_nil];omega
 ·simp only[List.length_nil];omega
theorem sy:∀l:List ah,(bF [32,124,32] (l.map ah.form)).length≤100*eG l
  |[]=>by simp[bF]
  |[c]=>by have :=zZ c;simp only[List.map_cons,List.map_nil,bF,eG];omega
  |c::d::l=>by
   have h1:=zZ c;have h2:=sy (d::l);have e:bF [32,124,32] ((c::d::l).map ah.form)=c.form++([32,124,32]++bF [32,124,32] ((d::l).map ah.form)):=rfl;rw[e,eG];simp only[List.length_append,List.length_cons,List.length_nil]at h2⊢;omega
theorem OP (d:ai):d.form.length<=100*d.sz+10:=by
 have h1:=vt d.vars;have h2:=sy d.ctors;have e:d.form=[116,121,112,101,32]++((d.vars.map mB).flatten++(d.name++([32,61,32]++(bF [32,124,32] (d.ctors.map ah.form)++[59,10])))):=rfl;rw[e,ai.sz];simp only[List.length_append,List.length_cons,List.length_nil];omega
theorem pN:∀l:List ai,((l.map ai.form).flatten).length≤110*iF l
  |[]=>by simp
  |d::l=>by
   have :=OP d;have :=pN l;rw[List.map_cons,List.flatten_cons,List.length_append,iF];omega
theorem ad3 {H:List AO} {a:AV} {sz:Nat} {rs:List (List AV)} (h:jr H a sz rs) {j:Nat} {cs:List AV} (hj:H[j]?=some (.var cs)):∀v q n,a≠.gs j v q n:=by
 rintro v q n rfl;rcases h with⟨h,_⟩|⟨id,ver,h,h2⟩
 ·cases h
 ·cases h;rw[hj]at h2;cases h2
theorem yE:∀s:List UInt8,jb s=cr s
 |[]=>rfl
 |c::s=>by rw[jb,yE s];rfl
theorem ku.apps {H:List AO} {l s:List UInt8} {a:AV} {X:List AO} (hB:ku H 1 (cr l) a X) {K:St->Prop} {L T:En} {d:MD} (hl:l.length+s.length<=140737488355328)
  (k:∀id ver m X2,ku H 1 (cr (l++s)) (.gs id ver 0 m) X2->(∀(j:Nat) cs,X[j]?=some (.var cs)->X2[j]?=some (.var cs))->K (St.put ⟨L,T,X2⟩ d (.gs id ver 0 m))):
  (∀r∈jb s,r.length=1)/\mu 1 1 a (jb s) d K ⟨L,T,X⟩:=by
 rw[yE];have jF:(cr l).length=l.length:=bJ _;have DG:(cr s).length=s.length:=bJ _;refine⟨V4,?_⟩;refine fq (rs:=cr l) hB.own (by rw[jF,DG];omega) (by rw[jF,DG];omega) ?_;intro id ver X2 k1 k2 k3 k4;have hJ:=hB.app k1 k2 k3 (n:=l.length+s.length) (by rw[List.length_append,jF,DG]);rw[<-pL]at hJ;rw[jF,DG];exact k id ver _ X2 hJ fun j cs hj=>k3 j _ hj (ad3 hB.own hj)
theorem ku.lift {H X X':List AO} {sz:Nat} {rs:List (List AV)} {a:AV} (h:ku H sz rs a X) (k:∀(j:Nat) o,X[j]?=some o->X'[j]?=some o):ku H sz rs a X':=by
 refine⟨?_,h.new,fun j o hj=>k j o (h.fr j o hj)⟩;rcases h.own with h|⟨id,ver,h1,h2⟩
 ·exact .inl h
 ·exact .inr ⟨id,ver,h1,k _ _ h2⟩
theorem ZC {ds:List ai} (b9:∀d∈ds,d.okB=true) (cL:iF ds<=1073741824) {H:List AO} (hT:Tb H):aA Tryz.prog 48 [.p (.l (ds.map ai.cells))] H (aW (.p (.s (ds.map ai.form).flatten)) H):=by
 refine aD ?_ (bw _);refine call48 (by simp) ?_;have hL:=pN ds
 have hN:ds.length<=iF ds:=by
  have:∀l:List ai,l.length<=iF l:=by
   intro l
   induction l with
   |nil=>simp
   |cons a l ih=>rw[iF,List.length_cons];omega
  exact this ds
 simp only[go_sem,simprocAttr,Uj,abI,List.length_map];intro _;refine⟨Nat×AV×List AO,[2,3,12,13,14],fun x st=>(x.1<=ds.length/\ku H 1 (cr (((ds.take x.1).map ai.form).flatten)) x.2.1 x.2.2)/\st=⟨[(2,.p (.s [])),(3,x.2.1),(12,.p (.l (ds.map ai.cells))),(13,.p (.i .i64 ds.length)),(14,.p (.i .i64 x.1))],[],x.2.2⟩,fun x=>ds.length-x.1,⟨(0,.p .nl,H),?_⟩,?_⟩
 ·simp only[go_sem,simprocAttr]
  exact⟨Nat.zero_le _,ku.nil H 1⟩
 rintro⟨x,a,X⟩ _ ⟨⟨hx,hB⟩,rfl⟩;simp only at hx hB;have hfx:=pM ai.form ds x;by_cases aj:x<ds.length;rotate_left
 ·have d1:decide ((x:Int)<(ds.length:Int))=false:=by simp;omega
  rw[List.take_of_length_le (by omega)]at hB;have hb:=ui hB.own (by omega);simp only[go_sem,simprocAttr,d1,hb];exact hB.ends
 have d1:decide ((x:Int)<(ds.length:Int))=true:=by simp;omega
 have bC:(x:Int)<(ds.length:Int):=by omega
 have hg:(ds.map ai.cells)[x]?=some (ai.cells ds[x]):=by simp[aj]
 have Wa:=b9 ds[x] (List.getElem_mem aj);have hdz:ds[x].sz<=iF ds:=ma (List.getElem_mem aj);have mg:=yD ai.form aj;generalize ds[x]=d at hg Wa hdz mg;obtain⟨n,vs,cs,p⟩:=d;have Dc:ai.form ⟨n,vs,cs,p⟩=[116,121,112,101,32]++((vs.map mB).flatten++(n++([32,61,32]++(bF [32,124,32] (cs.map ah.form)++[59,10])))):=rfl;rw[Dc]at mg;have hvl:=vt vs;have P8:=sy cs;have hvc:=xl vs;have fy:=xm cs;simp only[ai.sz]at hdz;simp only[ai.cells,cg]at hg;generalize Mq:((ds.take x).map ai.form).flatten=pre at hB mg hfx;simp only[go_sem,simprocAttr,d1,bC,hg,List.length_map];have hb0:(X++[AO.var [.p (.s n),.p (.l (vs.map fun s=>[PV.s s])),.p (.l (cs.map ah.cells)),.p (.i .i64 p)]])[X.length]?=some (.var [.p (.s n),.p (.l (vs.map fun s=>[PV.s s])),.p (.l (cs.map ah.cells)),.p (.i .i64 p)]):=by rw[gq];rfl
 refine(hB.ext _).apps (by simp only[List.length_cons,List.length_nil];omega) ?_;intro id0 ag5 m0 X0 hB0 hv0;have hb:=hv0 _ _ hb0;clear hb0 hv0;generalize X.length=b at hb⊢;simp only[go_sem,simprocAttr,hb,List.length_map];intro hvm;refine⟨Nat×AV×List AO,[2,3,5,12,13,14,21,22,23],fun y st=>(y.1<=vs.length/\ku H 1 (cr (pre++[116,121,112,101,32]++((vs.take y.1).map mB).flatten)) y.2.1 y.2.2/\y.2.2[b]?=some (.var [.p (.s n),.p (.l (vs.map fun s=>[PV.s s])),.p (.l (cs.map ah.cells)),.p (.i .i64 p)]))/\st=⟨[(2,.p (.s [])),(3,y.2.1),(12,.p (.l (ds.map ai.cells))),(13,.p (.i .i64 ds.length)),(14,.p (.i .i64 x)),(5,.ptr b 0),(21,.p (.l (vs.map fun s=>[PV.s s]))),(22,.p (.i .i64 vs.length)),(23,.p (.i .i64 y.1))],[],y.2.2⟩,fun y=>vs.length-y.1,⟨(0,.gs id0 ag5 0 m0,X0),?_⟩,?_⟩
 ·simp only[go_sem,simprocAttr]
  exact⟨Nat.zero_le _,by simpa using hB0,hb⟩
 clear hB0 hb;rintro⟨y,a1,X1⟩ _ ⟨⟨hy,ZD,hb⟩,rfl⟩;simp only at hy ZD hb;have hfy:=pM mB vs y;by_cases Wb:y<vs.length
 ·have d2:decide ((y:Int)<(vs.length:Int))=true:=by simp;omega
  have ad4:(y:Int)<(vs.length:Int):=by omega
  have Rj:(vs.map fun s=>[PV.s s])[y]?=some [.s vs[y]]:=by simp[Wb]
  have Wc:=yD mB Wb;have acn:=pM mB vs (y+1);rw[Wc,List.length_append]at acn;generalize vs[y]=v at Rj Wc acn;have ais:(mB v).length=v.length+2:=by simp[mB]
  simp only[go_sem,simprocAttr,d2,ad4,Rj,List.length_map];refine⟨by rw[aC];omega,by rw[aC];omega,?_⟩;refine ZD.apps (s:=mB v) (by simp only[List.length_append,List.length_cons,List.length_nil];omega) ?_;intro id2 PT m2 X2 vE hv2;simp only[go_sem,simprocAttr,bp y (by omega)];refine⟨(y+1,_,X2),⟨⟨by omega,?_,hv2 _ _ hb⟩,rfl⟩,by simp only;omega⟩;rw[Wc];simpa using vE
 ·have d2:decide ((y:Int)<(vs.length:Int))=false:=by simp;omega
  rw[List.take_of_length_le (by omega)]at ZD hfy;clear hy Wb;simp only[go_sem,simprocAttr,d2,hb,List.length_map];intro hcm;refine⟨Nat×AV×List AO,[2,3,5,8,12,13,14,34,35,36],fun z st=>(z.1<=cs.length/\ku X1 1 (gw ((cs.take z.1).map ah.form)) z.2.1 z.2.2)/\st=⟨[(2,.p (.s [])),(3,a1),(12,.p (.l (ds.map ai.cells))),(13,.p (.i .i64 ds.length)),(14,.p (.i .i64 x)),(5,.ptr b 0),(8,z.2.1),(34,.p (.l (cs.map ah.cells))),(35,.p (.i .i64 cs.length)),(36,.p (.i .i64 z.1))],[],z.2.2⟩,fun z=>cs.length-z.1,⟨(0,.p .nl,X1),?_⟩,?_⟩
  ·simp only[go_sem,simprocAttr]
   exact⟨Nat.zero_le _,ku.nil X1 1⟩
  rintro⟨z,c,X2⟩ _ ⟨⟨hz,hC⟩,rfl⟩;simp only at hz hC;have vE:=ZD.lift hC.fr;have mE:=hC.fr _ _ hb;have DF:∀A,Tb (X2++A):=fun A=>(hT.gf vE.fr).ext A
  by_cases M7:z<cs.length
  ·have d3:decide ((z:Int)<(cs.length:Int))=true:=by simp;omega
   have Wd:(z:Int)<(cs.length:Int):=by omega
   have We:(cs.map ah.cells)[z]?=some (ah.cells cs[z]):=by simp[M7]
   have aco:(cs.take (z+1)).map ah.form=(cs.take z).map ah.form++[ah.form cs[z]]:=by rw[List.take_succ_eq_append_getElem M7,List.map_append,List.map_cons,List.map_nil]
   have Wf:cs[z].okB=true:=by
    simp only[ai.okB,Bool.and_eq_true,List.all_eq_true]at Wa;exact Wa.2.2.2.2 _ (List.getElem_mem M7)
   have hcz:cs[z].sz<=eG cs:=by
    have:∀l:List ah,cs[z]∈l->cs[z].sz<=eG l:=by
     intro l
     induction l with
     |nil=>intro h;cases h
     |cons a l ih=>intro h;rw[eG];rcases List.mem_cons.1 h with h|h;rw[h];omega;have:=ih h;omega
    exact this cs (List.getElem_mem M7)
   generalize cs[z]=cc at We aco Wf hcz;have hcf:=zZ cc;obtain⟨cn,ch,ca,cp⟩:=cc;have hcF:ah.form ⟨cn,ch,ca,cp⟩=cn++(if ch then[32,111,102,32]++ca.kf.at 0 else[]):=rfl;simp only[ah.okB,Bool.and_eq_true]at Wf;simp only[ah.sz]at hcz;have E3:(gw ((cs.take z).map ah.form)).length=z:=by rw[gK,List.length_map,List.length_take];omega
   have key:∀(s:List UInt8) (A:List AO) (K:St->Prop) (L T:En) (dd:MD),s=ah.form ⟨cn,ch,ca,cp⟩->(∀id ver X3,ku X1 1 (gw ((cs.take (z+1)).map ah.form)) (.gs id ver 0 (z+1)) X3->K (St.put ⟨L,T,X3⟩ dd (.gs id ver 0 (z+1))))->mu 1 16 c [[.p (.s s)]] dd K ⟨L,T,X2++A⟩:=by
    rintro s A K L T dd rfl k;refine fq (rs:=gw ((cs.take z).map ah.form)) (hC.ext A).own (by rw[E3];simp;omega) (by rw[E3];simp;omega) ?_;intro id ver X3 k1 k2 k3 k4;have hJ:=(hC.ext A).app k1 k2 k3 (n:=z+1) (by rw[List.length_append,E3];rfl);rw[vq,<-aco]at hJ;rw[E3];exact k id ver X3 hJ
   cases ch
   ·obtain⟨ak,an,ap,wV⟩:=ca
    simp only[ah.cells,af.cells,List.cons_append,List.nil_append]at We;simp only[go_sem,simprocAttr,d3,Wd,We,List.length_map];refine⟨by intro r hr;simp at hr;subst hr;rfl,?_⟩;refine key _ _ _ _ _ _ (by rw[hcF];simp) ?_;intro id ver X3 hJ;simp only[go_sem,simprocAttr,bp z (by omega)];exact⟨(z+1,_,X3),⟨⟨by omega,hJ⟩,rfl⟩,by simp only;omega⟩
   ·have htf:=ad1 ca (by omega) (by simpa using Wf.2.2) 0
    have Ug:=af.jj ca;have ag6:=(cK ca.kf 0).1;obtain⟨ak,an,ap,wV⟩:=ca;simp only[ah.cells,af.cells,List.cons_append,List.nil_append]at We;generalize (af.mk ak an ap wV).kf.at 0=sa at htf hcF ag6;simp only[af.cells,br,List.map_cons,List.map_nil]at htf;simp only[go_sem,simprocAttr,d3,Wd,We,List.length_map];refine U (htf _ (by decide) (DF _)) ?_;simp only[go_sem,simprocAttr];refine⟨by rw[aC];omega,by rw[aC];omega,by intro r hr;simp at hr;subst hr;rfl,?_⟩;refine key _ _ _ _ _ _ (by rw[hcF];simp) ?_;intro id ver X3 hJ;simp only[go_sem,simprocAttr,bp z (by omega)];exact⟨(z+1,_,X3),⟨⟨by omega,hJ⟩,rfl⟩,by simp only;omega⟩
  ·have d3:decide ((z:Int)<(cs.length:Int))=false:=by simp;omega
   rw[List.take_of_length_le (by omega)]at hC;simp only[go_sem,simprocAttr,d3];have hj:(bF [32,124,32] (cs.map ah.form)).length<=200000000000:=by omega
   have hjc:=fun A=>Gq (sep:=[32,124,32]) (hC.ext A) (by decide) (by omega)
   generalize bF [32,124,32] (cs.map ah.form)=sj at hj hjc mg P8;refine ao ?_;simp only[go_sem,simprocAttr,mE]
   repeat' first
    |(with_reducible refine ag _ (fun h=>?_) (fun h=>?_)<;>simp only[go_sem,simprocAttr,h])
    |(with_reducible refine aQ (fun A=>hjc _) (bP.refl _) ?_;simp only[go_sem,simprocAttr])
    |(refine ao ?_;simp only[go_sem,simprocAttr])
    |(refine And.intro (by(try simp only[aC,LL]);omega) ?_;try simp only[go_sem,simprocAttr])
    |(intro _)
   refine vE.apps (s:=n++([32,61,32]++(sj++[59,10]))) (by simp only[List.length_append,List.length_cons,List.length_nil];omega) ?_;intro id3 ait m3 X3 hB3 hv3;simp only[go_sem,simprocAttr,bp x (by omega)];refine⟨(x+1,_,X3),⟨⟨by omega,?_⟩,rfl⟩,by simp only;omega⟩;rw[mg];simpa using hB3
theorem ZF {g:bb} (hg:g.sz<=1073741824) (hf:g.body.fit) {H:List AO} (hT:Tb H):aA Tryz.prog 18 [br g.cells] H (aW (.p (.s g.print)) H):=by
 obtain⟨ds,b⟩:=g;have z6:=Ix ⟨ds,b⟩ hg;simp only[bb.sz]at hg;simp only at hf;refine aD ?_ (bw _);refine call18 (by simp) ?_;unfold bb.print;cases b9:bb.okB ⟨ds,b⟩
 ·rw[b9]at z6
  obtain⟨k,n,u,t,p,ks,aM⟩:=b;simp only[bb.cells,aa.cells,br,List.map_cons,List.map_nil]at z6;simp only[go_sem,simprocAttr,M1,Uh,bb.cells,aa.cells,br];refine U (z6 _) ?_;simp only[go_sem,simprocAttr];exact⟨_,rfl⟩
 rw[b9]at z6;simp only[bb.okB,Bool.and_eq_true,List.all_eq_true]at b9;have h1:=fun A=>ZC (H:=H++A) (ds:=ds) b9.2 (by omega) (hT.ext A)
 have h2:=fun A=>ZB b (by omega) b9.1 hf 0 (H++A) (by decide) (hT.ext A)
 have l1:=pN ds;have l2:=aa.jj b hf;have l3:=(cK b.kf 0).1;have e:bb.form ⟨ds,b⟩=(ds.map ai.form).flatten++(b.kf.at 0++[10]):=rfl;rw[e];clear e;generalize (ds.map ai.form).flatten=s1 at *;generalize b.kf.at 0=s2 at *;obtain⟨k,n,u,t,p,ks,aM⟩:=b;simp only[bb.cells,aa.cells,br,List.map_cons,List.map_nil]at z6 h2;simp only[go_sem,simprocAttr,M1,Uh,bb.cells,aa.cells,br];refine U (z6 _) ?_;simp only[go_sem,simprocAttr]
 repeat' first
  |(with_reducible refine ag _ (fun h=>?_) (fun h=>?_)<;>simp only[go_sem,simprocAttr,h])
  |(with_reducible refine aQ (fun A=>by rw[List.append_assoc];exact h1 _) (bP.refl _) ?_;simp only[go_sem,simprocAttr])
  |(with_reducible refine U (h2 _) ?_;simp only[go_sem,simprocAttr])
  |(refine ao ?_;simp only[go_sem,simprocAttr])
  |(refine And.intro (by(try simp only[aC,LL]);omega) ?_;try simp only[go_sem,simprocAttr])
  |(intro _)
 all_goals first|exact⟨s2 (by simp),_,rfl⟩|exact⟨_,rfl⟩
theorem ij {s:List UInt8} (hs:s.length<=1099511627776) (l a:Int) (H:List AO):aA Tryz.prog 68 [.p (.s s),.p (.i .i64 l),.p (.i .i64 a)] H (aW (.p (.s (gx s l a))) H):=by
 refine call68 (by simp) ?_;simp only[go_sem,simprocAttr,U6,ab4]
 repeat' first
  |(with_reducible refine ag _ (fun h=>?_) (fun h=>?_)<;>simp only[go_sem,simprocAttr,h])
  |(refine ao ?_;simp only[go_sem,simprocAttr])
  |(refine And.intro (by(try simp only[aC,LL]);omega) ?_;try simp only[go_sem,simprocAttr])
  |(intro _)
 all_goals refine⟨s2 ?_,rfl⟩
 all_goals simp only[decide_eq_true_eq,decide_eq_false_iff_not]at *
 all_goals (simp[gx, *];done)
theorem M8 (u:Int) (H:List AO):aA Tryz.prog 131 [.p (.i .i64 u)] H (aW (.p (.s (kS u))) H):=by
 refine call131 (by simp) ?_;simp only[go_sem,simprocAttr,LF,Vb]
 repeat' first
  |(with_reducible refine ag _ (fun h=>?_) (fun h=>?_)<;>simp only[go_sem,simprocAttr,h])
  |(refine ao ?_;simp only[go_sem,simprocAttr])
  |(refine And.intro (by(try simp only[aC,LL]);omega) ?_;try simp only[go_sem,simprocAttr])
  |(intro _)
 all_goals refine⟨s2 ?_,rfl⟩
 all_goals simp only[decide_eq_true_eq,decide_eq_false_iff_not]at *
 all_goals (simp[kS, *];done)
theorem C6 (s:List UInt8) (H:List AO):aA Tryz.prog 132 [.p (.s s)] H (aW (.p (.i .i64 (iR s).1)) H):=by
 refine call132 (by simp) ?_;simp only[go_sem,simprocAttr,FG,J1]
 repeat' first
  |(with_reducible refine ag _ (fun h=>?_) (fun h=>?_)<;>simp only[go_sem,simprocAttr,h])
  |(refine ao ?_;simp only[go_sem,simprocAttr])
  |(refine And.intro (by(try simp only[aC,LL]);omega) ?_;try simp only[go_sem,simprocAttr])
  |(intro _)
 all_goals refine⟨?_,rfl⟩
 all_goals simp only[decide_eq_true_eq,decide_eq_false_iff_not]at *
 all_goals (simp[iR, *];done)
theorem Wg (k:Int) (n:List UInt8) (u:Int) (t:List UInt8) (p:Int) (ks:List aa) (aM:List al) (b9:(aa.mk k n u t p ks aM).okB=true) (H:List AO):
  aA Tryz.prog 70 [br (aa.cells (.mk k n u t p ks aM))] H (aW (.p (.i .i64 (aa.mk k n u t p ks aM).kf.l)) H):=by
 refine aD ?_ (bw _);refine call70 (by simp) ?_;rw[aa.okB,pB]at b9;simp only[Bool.and_eq_true]at b9;have cO:=b9.1.1;clear b9;have har:=kG n;rw[aa.kf,aa.cY,aa.vi];simp only[go_sem,simprocAttr,U7,ab5,aa.cells,aa.aw,aa.aN,br,List.length_map]
 repeat' first
  |(with_reducible refine ag _ (fun h=>?_) (fun h=>?_)<;>simp only[go_sem,simprocAttr,h,List.length_map])
  |(with_reducible refine U (C6 _ _) ?_;simp only[go_sem,simprocAttr,List.length_map])
  |(refine ao ?_;simp only[go_sem,simprocAttr,List.length_map])
  |(refine And.intro (by(try simp only[aC,LL]);omega) ?_;try simp only[go_sem,simprocAttr,List.length_map])
  |(intro _)
 all_goals refine⟨?_,_,rfl⟩
 all_goals simp only[decide_eq_true_eq,decide_eq_false_iff_not]at *
 all_goals congr 2
 all_goals try (simp[dP, *];done)
 all_goals try (have hl:ks.length=1:=(by omega))
 all_goals try (have hl:ks.length=0:=(by simp[*]at cO;omega))
 all_goals try (simp[dP, *];done)
 all_goals (simp only[dP];(repeat' split)<;>first|rfl|(simp_all;done))
theorem Gu {n:Nat} (h:n<=9223372036854775900):wr .u64 (n:Int)=(n:Int):=by
 show((n:Int) % 18446744073709551616)=n;omega
theorem acp {n:Nat} (h:n<=255):wr .u8 (n:Int)=(n:Int):=by
 show((n:Int) % 256)=n;omega
theorem OQ {n:Nat} (h:n<10):jO n=[UInt8.ofNat (48+n)]:=by rw[jO,dif_pos h]
theorem OS {n:Nat} (h:¬n<10):jO n=jO (n/10)++[UInt8.ofNat (48+n % 10)]:=by rw[jO,dif_neg h]
theorem ZG:∀(n:Nat),n≤9223372036854775808→∀H:List AO,aA Tryz.prog 173 [.p (.i .u64 n)] H (aW (.p (.s (jO n))) H):=by
  intro n
  induction n using Nat.strongRecOn with
  |_ n ih=>
   intro hn H;refine aD ?_ (bw _);refine call173 (by simp) ?_;simp only[go_sem,simprocAttr,LJ,Ve];by_cases h:n<10
   · have d1:decide ((n:Int)<10)=true :=by simp;omega
     have e1:wr .u64 (48+(n:Int))=((48+n:Nat):Int):=Gu (n:=48+n) (by omega);have e2:wr .u8 ((48+n:Nat):Int)=((48+n:Nat):Int):=acp (n:=48+n) (by omega);simp only[go_sem,simprocAttr,d1,e1,e2];exact⟨s2 (by rw[OQ h]),_,rfl⟩
   · have d1:decide ((n:Int)<10)=false :=by simp;omega
     have e0:wr .u64 ((n:Int).tdiv 10)=((n/10:Nat):Int):=Gu (n:=n/10) (by omega);have e3:(n:Int).tmod 10=((n % 10:Nat):Int):=rfl;have e1:wr .u64 (48+((n % 10:Nat):Int))=((48+n % 10:Nat):Int):=Gu (n:=48+n % 10) (by omega);have e2:wr .u8 ((48+n % 10:Nat):Int)=((48+n % 10:Nat):Int):=acp (n:=48+n % 10) (by omega);have hl:=vj 19 (n/10) (by omega);have hi:=ih (n/10) (by omega) (by omega);simp only[go_sem,simprocAttr,d1]
     repeat' first
       |(with_reducible refine ag _ (fun h=> ?_) (fun h=> ?_)<;>simp only[go_sem,simprocAttr,h,e0,e3,e1,e2])
       |(with_reducible refine aQ (fun A=>hi _) (bP.refl _) ?_;simp only[go_sem,simprocAttr,e0,e3,e1,e2])
       |(refine ao ?_;simp only[go_sem,simprocAttr,e0,e3,e1,e2])
       |(refine And.intro (by(try simp only[aC,LL]);omega) ?_;try simp only[go_sem,simprocAttr,e0,e3,e1,e2])
       |(intro _)
     exact⟨s2 (by rw[OS h]),_,rfl⟩
theorem Wh {n:Int} (h0:0<=n) (h1:n<=9223372036854775807) (H:List AO):aA Tryz.prog 129 [.p (.i .i64 n)] H (aW (.p (.s (qf n))) H):=by
 refine call129 (by simp) ?_;have d1:decide (n<0)=false:=by simp;omega
 have e1:wr .u64 n=((n.toNat:Nat):Int):=by rw[show n=((n.toNat:Nat):Int)by omega];exact Gu (by omega)
 simp only[go_sem,simprocAttr,LC,U9,d1,e1];refine U (ZG n.toNat (by omega) _) ?_;simp only[go_sem,simprocAttr];exact⟨rfl,rfl⟩
theorem OT {s:List UInt8} (hs:s.length<=1073741824) (H:List AO):aA Tryz.prog 130 [.p (.s s)] H (aW (.p (.s (pC s))) H):=by
 refine aD ?_ (bw _);refine call130 (by simp) ?_;simp only[go_sem,simprocAttr,LD,Va]
 have hq:∀x,(34::((s.take x).map cS).flatten).length<=2*s.length+1:=fun x=>by
  have:=uz (s.take x);unfold pC at this;rw[List.length_cons,List.length_append,List.length_singleton,List.length_take]at this;rw[List.length_cons];omega
 refine⟨Nat×AV×List AO,[0,2,3,4],fun x st=>(x.1<=s.length/\ku H 1 (cr (34::((s.take x.1).map cS).flatten)) x.2.1 x.2.2)/\st=⟨[(0,.p (.s s)),(2,.p (.s [])),(3,x.2.1),(4,.p (.i .i64 x.1))],[],x.2.2⟩,fun x=>s.length-x.1,⟨(0,.gs H.length 0 0 1,H++[.rows 1 0 [[.p (.i .u8 34)]]]),?_⟩,?_⟩
 ·simp only[go_sem,simprocAttr]
  exact⟨Nat.zero_le _,.inr ⟨H.length,0,rfl,by rw[gq];rfl⟩,fun _ _ _ _ e=>by cases e;exact Nat.le_refl _,fun j o hj=>ay hj _⟩
 rintro⟨x,a,X⟩ _ ⟨⟨hx,hB⟩,rfl⟩;simp only at hx hB;have Gr:=hq x;have C5:=hq (x+1);by_cases aj:x<s.length
 ·have d1:decide ((x:Int)<(s.length:Int))=true:=by simp;omega
  have hg:s[x]?=some s[x]:=by simp[aj]
  have ht:34::((s.take (x+1)).map cS).flatten=34::((s.take x).map cS).flatten++cS s[x]:=by rw[List.take_succ_eq_append_getElem aj,List.map_append,List.flatten_append];simp
  rw[ht,List.length_append]at C5;generalize s[x]=c at hg ht C5;generalize (34::((s.take x).map cS).flatten:List UInt8)=l at hB Gr ht C5
  have key:∀ys:List (List AV),ys=cr (cS c)->∀(K:St->Prop) (L T:En) (d:MD) (A:List AO),(∀id ver X2,ku H 1 (cr (l++cS c)) (.gs id ver 0 (l.length+ys.length)) X2->K (St.put ⟨L,T,X2⟩ d (.gs id ver 0 (l.length+ys.length))))->mu 1 1 a ys d K ⟨L,T,X++A⟩:=by
   rintro ys rfl K L T d A k;have jF:(cr l).length=l.length:=bJ _;have DG:(cr (cS c)).length=(cS c).length:=bJ _;refine fq (rs:=cr l) (hB.ext A).own (by rw[jF,DG];omega) (by rw[jF,DG];omega) ?_;intro id ver X2 k1 k2 k3 k4;have hJ:=(hB.ext A).app k1 k2 k3 (n:=l.length+(cr (cS c)).length) (by rw[List.length_append,jF]);rw[<-pL]at hJ;have:=k id ver X2 hJ;rwa[jF]
  simp only[go_sem,simprocAttr,d1,hg];intro _;cases jt:decide ((c.toNat:Int)=10)
  ·cases fp:decide ((c.toNat:Int)=34)
   ·cases pw:decide ((c.toNat:Int)=92)
    ·have e:cS c=[c]:=by unfold cS;rw[if_neg (of_decide_eq_false jt),if_neg (by intro h;rcases h with h|h;exact of_decide_eq_false fp h;exact of_decide_eq_false pw h)]
     simp only[go_sem,simprocAttr,jt,fp,pw,hg];refine⟨by intro r hr;simp at hr;subst hr;rfl,?_⟩;refine key _ (by rw[e];rfl) _ _ _ _ _ ?_;intro id ver X2 hJ;simp only[go_sem,simprocAttr,bp x (by omega)];exact⟨(x+1,_,X2),⟨⟨by omega,by rw[ht];exact hJ⟩,rfl⟩,by simp only;omega⟩
    ·have e:cS c=[92,c]:=by unfold cS;rw[if_neg (of_decide_eq_false jt),if_pos (.inr (of_decide_eq_true pw))]
     simp only[go_sem,simprocAttr,jt,fp,pw,hg];refine⟨by intro r hr;simp at hr;rcases hr with rfl|rfl<;>rfl,?_⟩;refine key _ (by rw[e];rfl) _ _ _ _ _ ?_;intro id ver X2 hJ;simp only[go_sem,simprocAttr,bp x (by omega)];exact⟨(x+1,_,X2),⟨⟨by omega,by rw[ht];exact hJ⟩,rfl⟩,by simp only;omega⟩
   ·have e:cS c=[92,c]:=by unfold cS;rw[if_neg (of_decide_eq_false jt),if_pos (.inl (of_decide_eq_true fp))]
    simp only[go_sem,simprocAttr,jt,fp,hg];refine⟨by intro r hr;simp at hr;rcases hr with rfl|rfl<;>rfl,?_⟩;refine key _ (by rw[e];rfl) _ _ _ _ _ ?_;intro id ver X2 hJ;simp only[go_sem,simprocAttr,bp x (by omega)];exact⟨(x+1,_,X2),⟨⟨by omega,by rw[ht];exact hJ⟩,rfl⟩,by simp only;omega⟩
  ·have e:cS c=[92,110]:=by unfold cS;rw[if_pos (of_decide_eq_true jt)]
   simp only[go_sem,simprocAttr,jt,hg];refine⟨by intro r hr;simp at hr;rcases hr with rfl|rfl<;>rfl,?_⟩;refine key _ (by rw[e];rfl) _ _ _ _ _ ?_;intro id ver X2 hJ;simp only[go_sem,simprocAttr,bp x (by omega)];exact⟨(x+1,_,X2),⟨⟨by omega,by rw[ht];exact hJ⟩,rfl⟩,by simp only;omega⟩
 ·have d1:decide ((x:Int)<(s.length:Int))=false:=by simp;omega
  rw[List.take_of_length_le (by omega)]at hB Gr;simp only[go_sem,simprocAttr,d1];intro _;refine⟨by intro r hr;simp at hr;subst hr;rfl,?_⟩;have jF:(cr (34::(s.map cS).flatten)).length=(34::(s.map cS).flatten).length:=bJ _;refine fq (rs:=cr (34::(s.map cS).flatten)) (hB.ext _).own (by rw[jF];simp only[List.length_cons,List.length_nil]at Gr⊢;omega) (by rw[jF];simp only[List.length_cons,List.length_nil]at Gr⊢;omega) ?_;intro id ver X2 k1 k2 k3 k4;have hJ:=(hB.ext _).app k1 k2 k3 (n:=(cr (34::(s.map cS).flatten)).length+1) (by rw[List.length_append];rfl);have e2:cr (34::(s.map cS).flatten)++[[.p (.i .u8 34)]]=cr (pC s):=by unfold pC;rw[<-List.cons_append,pL];rfl
  rw[e2]at hJ;have hqs:=uz s;have hb:=ui hJ.own (by omega);simp only[go_sem,simprocAttr,hb];exact hJ.ends
theorem AI (sep:List UInt8):∀(l:List (List UInt8)) (a:List UInt8),l≠[]→bF sep (l++[a])=bF sep l++(sep++a)
  |[],_,h=>(h rfl).elim
  |[b],a,_ =>rfl
  |b::c::l,a,_ =>by
   show b++(sep++bF sep ((c::l)++[a]))=(b++(sep++bF sep (c::l)))++(sep++a);rw[AI sep (c::l) a (by simp)];simp
theorem uJ:∀(l:List KF) (x:Nat),wK (l.take x)<=wK l
 |[],_=>by simp
 |a::l,0=>by simp[wK]
 |a::l,x+1=>by have:=uJ l x;rw[List.take_succ_cons,wK,wK];omega
theorem sE {α β:Type} (f:α->β) {l:List α} {x:Nat} (h:x<l.length):(l.take (x+1)).map f=(l.take x).map f++[f l[x]]:=by rw[List.take_succ_eq_append_getElem h,List.map_append,List.map_cons,List.map_nil]
theorem qv {α:Type} (sep:List UInt8) (f:α->List UInt8) {ks:List α} {x:Nat} (aj:x<ks.length):bF sep ((ks.take (x+1)).map f)=if x=0 then f ks[x]else bF sep ((ks.take x).map f)++(sep++f ks[x]):=by
 rw[sE f aj];by_cases h:x=0
 ·subst h
  simp[bF]
 ·rw[AI,if_neg h]
  intro h';rw[List.map_eq_nil_iff,List.take_eq_nil_iff]at h';rcases h' with h'|h'
  ·exact h h'
  ·subst h';simp at aj
def IJ (x:af):Prop:=∀(a:Int) (H:List AO),aA Tryz.prog 27 [br x.cells,.p (.i .i64 a)] H (aW (.p (.s (x.kf.at a))) H)
theorem ad5 (k:Int) (n:List UInt8) (p:Int) (ks:List af) (b9:(af.mk k n p ks).okB=true) (cL:n.length+af.fh ks<=1073741824) (hk:∀x∈ks,IJ x):IJ (.mk k n p ks):=by
 intro a H;refine aD ?_ (bw _);refine call27 (by simp) ?_;have hW:=af.gy ks;have vY:ks.length<=1073741824:=by have:=gM af.sz ks;rw[<-af.dr]at this;omega
 have hB:∀(sep:List UInt8),sep.length<=10->∀z x,(bF sep ((ks.take x).map fun x=>x.kf.at z)).length<=200000000000:=fun sep hs z x=>by
  have h1:=iv sep hs z ((af.cW ks).take x);have h2:=uJ (af.cW ks) x;rw[af.cY,<-List.map_take,List.map_map]at h1;rw[af.cY]at hW h2;rw[<-List.map_take]at h2;exact Nat.le_trans h1 (by omega)
 have hF:∀z x,((ks.take x).map fun x=>32::x.kf.at z).flatten.length<=200000000000:=fun z x=>by
  have h1:=w8 z ((af.cW ks).take x);have h2:=uJ (af.cW ks) x;rw[af.cY,<-List.map_take,List.map_map]at h1;rw[af.cY]at hW h2;rw[<-List.map_take]at h2;exact Nat.le_trans h1 (by omega)
 have hE:∀x∈ks,∀z,(x.kf.at z).length<=200000000000:=fun x hx z=>by
  have h1:=(cK x.kf z).1;have h2:=TJ (l:=af.cW ks) (x:=x.kf) (by rw[af.cY];exact List.mem_map_of_mem hx);omega
 rw[af.okB,AB]at b9;simp only[Bool.and_eq_true]at b9;have cO:=b9.1.1;clear b9;by_cases h3:k=3
 ·subst h3
  obtain⟨c0,c1,rfl⟩:=l9 (l:=ks) (by simpa using(by simpa using cO:_/\_).1);have a0:=hE c0 (by simp) 1;have g0:=hk c0 (by simp) 1;have a1:=hE c1 (by simp) 0;have g1:=hk c1 (by simp) 0;have e:(af.mk 3 n p [c0,c1]).kf.at a=gx (c0.kf.at 1++([32,45,62,32]++c1.kf.at 0)) 0 a:=by simp[af.kf,af.cW,vD,KF.at]
  rw[e];clear e hW hB hF hE;generalize c0.kf.at 1=s0 at *;generalize c1.kf.at 0=s1 at *;obtain⟨k0,n0,p0,q0⟩:=c0;simp only[af.cells,br,List.map_cons,List.map_nil]at g0;obtain⟨k1,n1,p1,q1⟩:=c1;simp only[af.cells,br,List.map_cons,List.map_nil]at g1;simp only[go_sem,simprocAttr,CZ,EM,af.cells,af.aV,br]
  repeat' first
   |(with_reducible refine ag _ (fun h=>?_) (fun h=>?_)<;>simp only[go_sem,simprocAttr,h])
   |(with_reducible refine aQ (fun A=>g0 _) (bP.refl _) ?_;simp only[go_sem,simprocAttr])
   |(with_reducible refine aQ (fun A=>g1 _) (bP.refl _) ?_;simp only[go_sem,simprocAttr])
   |(with_reducible refine U (ij (by(try simp only[List.length_append,List.length_cons,List.length_nil]);omega) _ _ _) ?_;simp only[go_sem,simprocAttr])
   |(refine ao ?_;simp only[go_sem,simprocAttr])
   |(refine And.intro (by(try simp only[aC,LL]);omega) ?_;try simp only[go_sem,simprocAttr])
   |(intro _)
  all_goals first|exact⟨s2 (by simp),_,rfl⟩|exact⟨_,rfl⟩
 by_cases h2:k=2
 ·subst h2
  have e:(af.mk 2 n p ks).kf.at a=gx (39::n) 3 a:=by simp[af.kf,vD,KF.at]
  rw[e];clear e hW hB hF hE;simp only[go_sem,simprocAttr,CZ,EM,af.cells,af.aw,br]
  repeat' first
   |(with_reducible refine ag _ (fun h=>?_) (fun h=>?_)<;>simp only[go_sem,simprocAttr,h])
   |(with_reducible refine U (ij (by(try simp only[List.length_append,List.length_cons,List.length_nil]);omega) _ _ _) ?_;simp only[go_sem,simprocAttr])
   |(refine ao ?_;simp only[go_sem,simprocAttr])
   |(refine And.intro (by(try simp only[aC,LL]);omega) ?_;try simp only[go_sem,simprocAttr])
   |(intro _)
  all_goals first|exact⟨s2 (by simp),_,rfl⟩|exact⟨_,rfl⟩
 by_cases h4:k=4
 ·subst h4
  have e:(af.mk 4 n p ks).kf.at a=gx (bF [32,42,32] (ks.map fun x=>x.kf.at 2)) 1 a:=by simp[af.kf,af.cY,vD,KF.at,Function.comp_def]
  rw[e];have hB:=hB [32,42,32] (by decide) 2;clear e hW hF;simp only[go_sem,simprocAttr,CZ,EM,af.cells,af.aw,br,List.length_map];refine⟨Nat,[1,2,4,5,6,7],fun x st=>x<=ks.length/\st=⟨[(1,.p (.i .i64 a)),(2,.ptr H.length 0),(4,.p (.s [])),(5,.p (.s (bF [32,42,32] ((ks.take x).map fun x:af=>x.kf.at 2)))),(6,.p (.i .i64 1)),(7,.p (.i .i64 x))],[],H++[.var [.p (.i .i64 4),.p (.s n),.p (.i .i64 p),.p (.l (ks.map af.cells))]]⟩,fun x=>ks.length-x,⟨0,?_⟩,?_⟩
  ·simp only[go_sem,simprocAttr]
   exact⟨Nat.zero_le _,rfl⟩
  rintro x _ ⟨hx,rfl⟩;have pO:=hB x;by_cases aj:x<ks.length
  ·have d1:decide ((x:Int)<(ks.length:Int))=true:=by simp;omega
   have bC:(x:Int)<(ks.length:Int):=by omega
   have hg:(ks.map af.cells)[x]?=some (af.cells ks[x]):=by simp[aj]
   have hc:=hk ks[x] (List.getElem_mem aj) 2;have yF:=hE ks[x] (List.getElem_mem aj) 2;have hj:=qv [32,42,32] (fun x:af=>x.kf.at 2) aj;have sF:x=0->bF [32,42,32] ((ks.take x).map fun x:af=>x.kf.at 2)=[]:=by rintro rfl;rfl
   generalize bF [32,42,32] ((ks.take x).map fun x:af=>x.kf.at 2)=sj at pO hj sF⊢;generalize ks[x]=c at hg hc yF hj;generalize c.kf.at 2=sc at hc yF hj;obtain⟨ck,cn,cp,oF⟩:=c;simp only[af.cells,br,List.map_cons,List.map_nil]at hg hc;by_cases yX:x=0
   ·rw[if_pos yX]at hj
    have sF:=sF yX;subst sF;have d0:decide ((0:Int)<(x:Int))=false:=by simp;omega
    simp only[go_sem,simprocAttr,d1,d0,bC,hg,List.length_map]
    repeat' first
     |(with_reducible refine ag _ (fun h=>?_) (fun h=>?_)<;>simp only[go_sem,simprocAttr,h,bC,hg,List.length_map,d0,bp x (by omega)])
     |(with_reducible refine U (hc _) ?_;simp only[go_sem,simprocAttr,bC,hg,List.length_map,d0,bp x (by omega)])
     |(refine ao ?_;simp only[go_sem,simprocAttr,bC,hg,List.length_map,d0,bp x (by omega)])
     |(refine And.intro (by(try simp only[aC,LL]);omega) ?_;try simp only[go_sem,simprocAttr,bC,hg,List.length_map,d0,bp x (by omega)])
     |(intro _)
    all_goals exact⟨x+1,⟨by omega,by rw[hj]<;>simp⟩,by omega⟩
   rw[if_neg yX]at hj;have d0:decide ((0:Int)<(x:Int))=true:=by simp;omega
   simp only[go_sem,simprocAttr,d1,d0,bC,hg,List.length_map]
   repeat' first
    |(with_reducible refine ag _ (fun h=>?_) (fun h=>?_)<;>simp only[go_sem,simprocAttr,h,bC,hg,List.length_map,d0,bp x (by omega)])
    |(with_reducible refine U (hc _) ?_;simp only[go_sem,simprocAttr,bC,hg,List.length_map,d0,bp x (by omega)])
    |(refine ao ?_;simp only[go_sem,simprocAttr,bC,hg,List.length_map,d0,bp x (by omega)])
    |(refine And.intro (by(try simp only[aC,LL]);omega) ?_;try simp only[go_sem,simprocAttr,bC,hg,List.length_map,d0,bp x (by omega)])
    |(intro _)
   all_goals exact⟨x+1,⟨by omega,by rw[hj]<;>simp⟩,by omega⟩
  ·have d1:decide ((x:Int)<(ks.length:Int))=false:=by simp;omega
   rw[List.take_of_length_le (by omega)]at pO⊢;generalize bF [32,42,32] (ks.map fun x:af=>x.kf.at 2)=sj at pO⊢;simp only[go_sem,simprocAttr,d1,List.length_map]
   repeat' first
    |(with_reducible refine ag _ (fun h=>?_) (fun h=>?_)<;>simp only[go_sem,simprocAttr,h])
    |(with_reducible refine U (ij (by(try simp only[List.length_append,List.length_cons,List.length_nil]);omega) _ _ _) ?_;simp only[go_sem,simprocAttr])
    |(refine ao ?_;simp only[go_sem,simprocAttr])
    |(refine And.intro (by(try simp only[aC,LL]);omega) ?_;try simp only[go_sem,simprocAttr])
    |(intro _)
   all_goals first|exact⟨s2 (by simp),_,rfl⟩|exact⟨_,rfl⟩
 by_cases h5:k=5
 ·subst h5
  have tM:(ks.length:Int)=1:=by have h:=(by simpa using cO:_/\_).1;simpa using h
  have e:(af.mk 5 n p ks).kf.at a=gx ([114,101,102]++(ks.map fun x:af=>32::x.kf.at 3).flatten) (if ks.length=0 then 3 else 2) a:=by
   obtain⟨c0,rfl⟩:=nV (l:=ks) (by omega);simp[af.kf,af.cW,vD,KF.at]
  rw[e];clear e hW hB;simp only[go_sem,simprocAttr,CZ,EM,af.cells,af.aw,br,List.length_map];refine⟨Nat,[1,2,4,5,6,8],fun x st=>x<=ks.length/\st=⟨[(1,.p (.i .i64 a)),(2,.ptr H.length 0),(4,.p (.s [])),(5,.p (.s ([114,101,102]++((ks.take x).map fun x:af=>32::x.kf.at 3).flatten))),(6,.p (.i .i64 (if x=0 then 3 else 2))),(8,.p (.i .i64 x))],[],H++[.var [.p (.i .i64 5),.p (.s n),.p (.i .i64 p),.p (.l (ks.map af.cells))]]⟩,fun x=>ks.length-x,⟨0,?_⟩,?_⟩
  ·simp only[go_sem,simprocAttr]
   exact⟨Nat.zero_le _,by simp⟩
  rintro x _ ⟨hx,rfl⟩;have pO:=hF 3 x;by_cases aj:x<ks.length
  ·have d1:decide ((x:Int)<(ks.length:Int))=true:=by simp;omega
   have bC:(x:Int)<(ks.length:Int):=by omega
   have hg:(ks.map af.cells)[x]?=some (af.cells ks[x]):=by simp[aj]
   have hc:=hk ks[x] (List.getElem_mem aj) 3;have yF:=hE ks[x] (List.getElem_mem aj) 3;have hj:=congrArg List.flatten (sE (fun x:af=>32::x.kf.at 3) aj);rw[List.flatten_append]at hj;generalize ((ks.take x).map fun x:af=>32::x.kf.at 3).flatten=sj at pO hj⊢;generalize ks[x]=c at hg hc yF hj;simp only[List.flatten_cons,List.flatten_nil,List.append_nil]at hj;generalize c.kf.at 3=sc at hc yF hj;obtain⟨ck,cn,cp,oF⟩:=c;simp only[af.cells,br,List.map_cons,List.map_nil]at hg hc;simp only[go_sem,simprocAttr,d1,bC,hg,List.length_map]
   repeat' first
    |(with_reducible refine ag _ (fun h=>?_) (fun h=>?_)<;>simp only[go_sem,simprocAttr,h,bC,hg,List.length_map,bp x (by omega)])
    |(with_reducible refine U (hc _) ?_;simp only[go_sem,simprocAttr,bC,hg,List.length_map,bp x (by omega)])
    |(refine ao ?_;simp only[go_sem,simprocAttr,bC,hg,List.length_map,bp x (by omega)])
    |(refine And.intro (by(try simp only[aC,LL]);omega) ?_;try simp only[go_sem,simprocAttr,bC,hg,List.length_map,bp x (by omega)])
    |(intro _)
   all_goals exact⟨x+1,⟨by omega,by rw[hj]<;>simp⟩,by omega⟩
  ·have d1:decide ((x:Int)<(ks.length:Int))=false:=by simp;omega
   rw[List.take_of_length_le (by omega)]at pO⊢;have Jh:x=ks.length:=by omega
   subst Jh;generalize (ks.map fun x:af=>32::x.kf.at 3).flatten=sj at pO⊢;generalize (if ks.length=0 then(3:Int)else 2)=lv;simp only[go_sem,simprocAttr,d1,List.length_map]
   repeat' first
    |(with_reducible refine ag _ (fun h=>?_) (fun h=>?_)<;>simp only[go_sem,simprocAttr,h])
    |(with_reducible refine U (ij (by(try simp only[List.length_append,List.length_cons,List.length_nil]);omega) _ _ _) ?_;simp only[go_sem,simprocAttr])
    |(refine ao ?_;simp only[go_sem,simprocAttr])
    |(refine And.intro (by(try simp only[aC,LL]);omega) ?_;try simp only[go_sem,simprocAttr])
    |(intro _)
   all_goals first|exact⟨s2 (by simp),_,rfl⟩|exact⟨_,rfl⟩
 have h1:k=1:=by
  by_cases h1:k=1
  ·exact h1
  ·rw[if_neg h1,if_neg h2,if_neg h3,if_neg h4,if_neg h5]at cO
   cases cO
 subst h1
 have e:(af.mk 1 n p ks).kf.at a=gx (n++(ks.map fun x:af=>32::x.kf.at 3).flatten) (if ks.length=0 then 3 else 2) a:=by
  simp[af.kf,af.cY,vD,KF.at,Function.comp_def]
 rw[e];clear e hW hB;simp only[go_sem,simprocAttr,CZ,EM,af.cells,af.aw,br,List.length_map];refine⟨Nat,[1,2,4,5,6,8],fun x st=>x<=ks.length/\st=⟨[(1,.p (.i .i64 a)),(2,.ptr H.length 0),(4,.p (.s [])),(5,.p (.s (n++((ks.take x).map fun x:af=>32::x.kf.at 3).flatten))),(6,.p (.i .i64 (if x=0 then 3 else 2))),(8,.p (.i .i64 x))],[],H++[.var [.p (.i .i64 1),.p (.s n),.p (.i .i64 p),.p (.l (ks.map af.cells))]]⟩,fun x=>ks.length-x,⟨0,?_⟩,?_⟩
 ·simp only[go_sem,simprocAttr]
  exact⟨Nat.zero_le _,by simp⟩
 rintro x _ ⟨hx,rfl⟩;have pO:=hF 3 x;by_cases aj:x<ks.length
 ·have d1:decide ((x:Int)<(ks.length:Int))=true:=by simp;omega
  have bC:(x:Int)<(ks.length:Int):=by omega
  have hg:(ks.map af.cells)[x]?=some (af.cells ks[x]):=by simp[aj]
  have hc:=hk ks[x] (List.getElem_mem aj) 3;have yF:=hE ks[x] (List.getElem_mem aj) 3;have hj:=congrArg List.flatten (sE (fun x:af=>32::x.kf.at 3) aj);rw[List.flatten_append]at hj;generalize ((ks.take x).map fun x:af=>32::x.kf.at 3).flatten=sj at pO hj⊢;generalize ks[x]=c at hg hc yF hj;simp only[List.flatten_cons,List.flatten_nil,List.append_nil]at hj;generalize c.kf.at 3=sc at hc yF hj;obtain⟨ck,cn,cp,oF⟩:=c;simp only[af.cells,br,List.map_cons,List.map_nil]at hg hc;simp only[go_sem,simprocAttr,d1,bC,hg,List.length_map]
  repeat' first
   |(with_reducible refine ag _ (fun h=>?_) (fun h=>?_)<;>simp only[go_sem,simprocAttr,h,bC,hg,List.length_map,bp x (by omega)])
   |(with_reducible refine U (hc _) ?_;simp only[go_sem,simprocAttr,bC,hg,List.length_map,bp x (by omega)])
   |(refine ao ?_;simp only[go_sem,simprocAttr,bC,hg,List.length_map,bp x (by omega)])
   |(refine And.intro (by(try simp only[aC,LL]);omega) ?_;try simp only[go_sem,simprocAttr,bC,hg,List.length_map,bp x (by omega)])
   |(intro _)
  all_goals exact⟨x+1,⟨by omega,by rw[hj]<;>simp⟩,by omega⟩
 ·have d1:decide ((x:Int)<(ks.length:Int))=false:=by simp;omega
  rw[List.take_of_length_le (by omega)]at pO⊢;have Jh:x=ks.length:=by omega
  subst Jh;generalize (ks.map fun x:af=>32::x.kf.at 3).flatten=sj at pO⊢;generalize (if ks.length=0 then(3:Int)else 2)=lv;simp only[go_sem,simprocAttr,d1,List.length_map]
  repeat' first
   |(with_reducible refine ag _ (fun h=>?_) (fun h=>?_)<;>simp only[go_sem,simprocAttr,h])
   |(with_reducible refine U (ij (by(try simp only[List.length_append,List.length_cons,List.length_nil]);omega) _ _ _) ?_;simp only[go_sem,simprocAttr])
   |(refine ao ?_;simp only[go_sem,simprocAttr])
   |(refine And.intro (by(try simp only[aC,LL]);omega) ?_;try simp only[go_sem,simprocAttr])
   |(intro _)
  all_goals first|exact⟨s2 (by simp),_,rfl⟩|exact⟨_,rfl⟩
theorem ag7 (p:af) (h:p.sz≤1073741824) (b9:p.okB=true):IJ p:=by
  have :∀(m:Nat) (p:af),p.sz<m→p.sz≤1073741824→p.okB=true →IJ p:=by
    intro m
    induction m with
    |zero=>intro p h;omega
    |succ m ih=>
     intro p h h2 b9;obtain⟨k,n,q,ks⟩:=p;rw[af.sz]at h h2;refine ad5 _ _ _ _ b9 h2 fun a ha=> ?_
     rw[af.okB,af.jN,Bool.and_eq_true,List.all_eq_true]at b9;rw[af.dr]at h h2;have :=bM af.sz ha;exact ih a (by omega) (by omega) (b9.2 a ha)
  exact this _ p (Nat.lt_succ_self _) h b9
def xn (x:ae):Prop:=∀(a:Int) (H:List AO),aA Tryz.prog 174 [br x.cells,.p (.i .i64 a)] H (aW (.p (.s (x.kf.at a))) H)
theorem ZH (k:Int) (n:List UInt8) (u p:Int) (ks:List ae) (b9:(ae.mk k n u p ks).okB=true) (eX:(ae.mk k n u p ks).fit) (cL:n.length+ae.fh ks<=1073741824) (hk:∀x∈ks,xn x):xn (.mk k n u p ks):=by
 intro a H;refine aD ?_ (bw _);refine call174 (by simp) ?_;rw[ae.fit]at eX;have hW:=ae.gy ks eX.2;have hu:=eX.1;have vY:ks.length<=1073741824:=by have:=gM ae.sz ks;rw[<-ae.dr]at this;omega
 have hB:∀(sep:List UInt8),sep.length<=10->∀z x,(bF sep ((ks.take x).map fun x=>x.kf.at z)).length<=200000000000:=fun sep hs z x=>by
  have h1:=iv sep hs z ((ae.cW ks).take x);have h2:=uJ (ae.cW ks) x;rw[ae.cY,<-List.map_take,List.map_map]at h1;rw[ae.cY]at hW h2;rw[<-List.map_take]at h2;exact Nat.le_trans h1 (by omega)
 have hE:∀x∈ks,∀z,(x.kf.at z).length<=200000000000:=fun x hx z=>by
  have h1:=(cK x.kf z).1;have h2:=TJ (l:=ae.cW ks) (x:=x.kf) (by rw[ae.cY];exact List.mem_map_of_mem hx);omega
 rw[ae.okB,AA]at b9;simp only[Bool.and_eq_true]at b9;have cO:=b9.1.1;clear b9;by_cases h1:k=1
 ·subst h1
  have e:(ae.mk 1 n u p ks).kf.at a=gx ([95]) 1 a:=by simp[ae.kf,kZ,KF.at]
  rw[e];clear e hW hB hE;simp only[go_sem,simprocAttr,qL,su,ae.cells,ae.aw,br,List.length_map]
  repeat' first
   |(with_reducible refine ag _ (fun h=>?_) (fun h=>?_)<;>simp only[go_sem,simprocAttr,h])
   |(with_reducible refine U (ij (by(try simp only[List.length_append,List.length_cons,List.length_nil]);omega) _ _ _) ?_;simp only[go_sem,simprocAttr])
   |(refine ao ?_;simp only[go_sem,simprocAttr])
   |(refine And.intro (by(try simp only[aC,LL]);omega) ?_;try simp only[go_sem,simprocAttr])
   |(intro _)
  all_goals first|exact⟨s2 (by simp),_,rfl⟩|exact⟨_,rfl⟩
 by_cases h5:k=5
 ·subst h5
  have e:(ae.mk 5 n u p ks).kf.at a=gx ([40,41]) 1 a:=by simp[ae.kf,kZ,KF.at]
  rw[e];clear e hW hB hE;simp only[go_sem,simprocAttr,qL,su,ae.cells,ae.aw,br,List.length_map]
  repeat' first
   |(with_reducible refine ag _ (fun h=>?_) (fun h=>?_)<;>simp only[go_sem,simprocAttr,h])
   |(with_reducible refine U (ij (by(try simp only[List.length_append,List.length_cons,List.length_nil]);omega) _ _ _) ?_;simp only[go_sem,simprocAttr])
   |(refine ao ?_;simp only[go_sem,simprocAttr])
   |(refine And.intro (by(try simp only[aC,LL]);omega) ?_;try simp only[go_sem,simprocAttr])
   |(intro _)
  all_goals first|exact⟨s2 (by simp),_,rfl⟩|exact⟨_,rfl⟩
 by_cases h2:k=2
 ·subst h2
  have e:(ae.mk 2 n u p ks).kf.at a=gx (n) 1 a:=by simp[ae.kf,kZ,KF.at]
  rw[e];clear e hW hB hE;simp only[go_sem,simprocAttr,qL,su,ae.cells,ae.aw,br,List.length_map]
  repeat' first
   |(with_reducible refine ag _ (fun h=>?_) (fun h=>?_)<;>simp only[go_sem,simprocAttr,h])
   |(with_reducible refine U (ij (by(try simp only[List.length_append,List.length_cons,List.length_nil]);omega) _ _ _) ?_;simp only[go_sem,simprocAttr])
   |(refine ao ?_;simp only[go_sem,simprocAttr])
   |(refine And.intro (by(try simp only[aC,LL]);omega) ?_;try simp only[go_sem,simprocAttr])
   |(intro _)
  all_goals first|exact⟨s2 (by simp),_,rfl⟩|exact⟨_,rfl⟩
 by_cases h3:k=3
 ·subst h3
  have e:(ae.mk 3 n u p ks).kf.at a=gx (qf u) 1 a:=by simp[ae.kf,kZ,KF.at]
  rw[e];clear e hW hB hE;have h0:0<=u:=by simp at cO;exact cO.2.2
  have hd:=CI hu;simp only[go_sem,simprocAttr,qL,su,ae.cells,ae.aw,br,List.length_map]
  repeat' first
   |(with_reducible refine ag _ (fun h=>?_) (fun h=>?_)<;>simp only[go_sem,simprocAttr,h])
   |(with_reducible refine U (Wh h0 hu _) ?_;simp only[go_sem,simprocAttr])
   |(with_reducible refine U (ij (by(try simp only[List.length_append,List.length_cons,List.length_nil]);omega) _ _ _) ?_;simp only[go_sem,simprocAttr])
   |(refine ao ?_;simp only[go_sem,simprocAttr])
   |(refine And.intro (by(try simp only[aC,LL]);omega) ?_;try simp only[go_sem,simprocAttr])
   |(intro _)
  all_goals first|exact⟨s2 (by simp),_,rfl⟩|exact⟨_,rfl⟩
 by_cases h4:k=4
 ·subst h4
  have e:(ae.mk 4 n u p ks).kf.at a=gx (kS u) 1 a:=by simp[ae.kf,kZ,KF.at]
  rw[e];clear e hW hB hE;have hd:=zJ u;simp only[go_sem,simprocAttr,qL,su,ae.cells,ae.aw,br,List.length_map]
  repeat' first
   |(with_reducible refine ag _ (fun h=>?_) (fun h=>?_)<;>simp only[go_sem,simprocAttr,h])
   |(with_reducible refine U (M8 _ _) ?_;simp only[go_sem,simprocAttr])
   |(with_reducible refine U (ij (by(try simp only[List.length_append,List.length_cons,List.length_nil]);omega) _ _ _) ?_;simp only[go_sem,simprocAttr])
   |(refine ao ?_;simp only[go_sem,simprocAttr])
   |(refine And.intro (by(try simp only[aC,LL]);omega) ?_;try simp only[go_sem,simprocAttr])
   |(intro _)
  all_goals first|exact⟨s2 (by simp),_,rfl⟩|exact⟨_,rfl⟩
 by_cases h6:k=6
 ·subst h6
  have e:(ae.mk 6 n u p ks).kf.at a=gx (40::(bF [44,32] (ks.map fun x=>x.kf.at 0)++[41])) 1 a:=by simp[ae.kf,ae.cY,kZ,KF.at,Function.comp_def]
  rw[e];have hB:=hB [44,32] (by decide) 0;clear e hW;simp only[go_sem,simprocAttr,qL,su,ae.cells,ae.aw,br,List.length_map];refine⟨Nat,[1,2,4,5,6,7],fun x st=>x<=ks.length/\st=⟨[(1,.p (.i .i64 a)),(2,.ptr H.length 0),(4,.p (.s [])),(5,.p (.s (40::bF [44,32] ((ks.take x).map fun x:ae=>x.kf.at 0)))),(6,.p (.i .i64 1)),(7,.p (.i .i64 x))],[],H++[.var [.p (.i .i64 6),.p (.s n),.p (.i .i64 u),.p (.i .i64 p),.p (.l (ks.map ae.cells))]]⟩,fun x=>ks.length-x,⟨0,?_⟩,?_⟩
  ·simp only[go_sem,simprocAttr]
   exact⟨Nat.zero_le _,rfl⟩
  rintro x _ ⟨hx,rfl⟩;have pO:=hB x;by_cases aj:x<ks.length
  ·have d1:decide ((x:Int)<(ks.length:Int))=true:=by simp;omega
   have bC:(x:Int)<(ks.length:Int):=by omega
   have hg:(ks.map ae.cells)[x]?=some (ae.cells ks[x]):=by simp[aj]
   have hc:=hk ks[x] (List.getElem_mem aj) 0;have yF:=hE ks[x] (List.getElem_mem aj) 0;have hj:=qv [44,32] (fun x:ae=>x.kf.at 0) aj;have sF:x=0->bF [44,32] ((ks.take x).map fun x:ae=>x.kf.at 0)=[]:=by rintro rfl;rfl
   generalize bF [44,32] ((ks.take x).map fun x:ae=>x.kf.at 0)=sj at pO hj sF⊢;generalize ks[x]=c at hg hc yF hj;generalize c.kf.at 0=sc at hc yF hj;obtain⟨ck,cn,cu,cp,oF⟩:=c;simp only[ae.cells,br,List.map_cons,List.map_nil]at hg hc;by_cases yX:x=0
   ·rw[if_pos yX]at hj
    have sF:=sF yX;subst sF;have d0:decide ((0:Int)<(x:Int))=false:=by simp;omega
    simp only[go_sem,simprocAttr,d1,d0,bC,hg,List.length_map]
    repeat' first
     |(with_reducible refine ag _ (fun h=>?_) (fun h=>?_)<;>simp only[go_sem,simprocAttr,h,bC,hg,List.length_map,d0,bp x (by omega)])
     |(with_reducible refine U (hc _) ?_;simp only[go_sem,simprocAttr,bC,hg,List.length_map,d0,bp x (by omega)])
     |(refine ao ?_;simp only[go_sem,simprocAttr,bC,hg,List.length_map,d0,bp x (by omega)])
     |(refine And.intro (by(try simp only[aC,LL]);omega) ?_;try simp only[go_sem,simprocAttr,bC,hg,List.length_map,d0,bp x (by omega)])
     |(intro _)
    all_goals exact⟨x+1,⟨by omega,by rw[hj]<;>simp⟩,by omega⟩
   rw[if_neg yX]at hj;have d0:decide ((0:Int)<(x:Int))=true:=by simp;omega
   simp only[go_sem,simprocAttr,d1,d0,bC,hg,List.length_map]
   repeat' first
    |(with_reducible refine ag _ (fun h=>?_) (fun h=>?_)<;>simp only[go_sem,simprocAttr,h,bC,hg,List.length_map,d0,bp x (by omega)])
    |(with_reducible refine U (hc _) ?_;simp only[go_sem,simprocAttr,bC,hg,List.length_map,d0,bp x (by omega)])
    |(refine ao ?_;simp only[go_sem,simprocAttr,bC,hg,List.length_map,d0,bp x (by omega)])
    |(refine And.intro (by(try simp only[aC,LL]);omega) ?_;try simp only[go_sem,simprocAttr,bC,hg,List.length_map,d0,bp x (by omega)])
    |(intro _)
   all_goals exact⟨x+1,⟨by omega,by rw[hj]<;>simp⟩,by omega⟩
  ·have d1:decide ((x:Int)<(ks.length:Int))=false:=by simp;omega
   rw[List.take_of_length_le (by omega)]at pO⊢;generalize bF [44,32] (ks.map fun x:ae=>x.kf.at 0)=sj at pO⊢;simp only[go_sem,simprocAttr,d1,List.length_map]
   repeat' first
    |(with_reducible refine ag _ (fun h=>?_) (fun h=>?_)<;>simp only[go_sem,simprocAttr,h])
    |(with_reducible refine U (ij (by(try simp only[List.length_append,List.length_cons,List.length_nil]);omega) _ _ _) ?_;simp only[go_sem,simprocAttr])
    |(refine ao ?_;simp only[go_sem,simprocAttr])
    |(refine And.intro (by(try simp only[aC,LL]);omega) ?_;try simp only[go_sem,simprocAttr])
    |(intro _)
   all_goals first|exact⟨s2 (by simp),_,rfl⟩|exact⟨_,rfl⟩
 have h7:k=7:=by
  by_cases h7:k=7
  ·exact h7
  ·rw[if_neg (by omega),if_neg h2,if_neg h3,if_neg h4,if_neg h6,if_neg h7]at cO
   cases cO
 subst h7;by_cases hl:(ks.length:Int)=0
 ·obtain rfl:=uF hl
  have e:(ae.mk 7 n u p []).kf.at a=gx n 1 a:=by simp[ae.kf,ae.cW,kZ,KF.at]
  rw[e];clear e hW hB hE;simp only[go_sem,simprocAttr,qL,su,ae.cells,ae.aw,br,List.length_map]
  repeat' first
   |(with_reducible refine ag _ (fun h=>?_) (fun h=>?_)<;>simp only[go_sem,simprocAttr,h])
   |(with_reducible refine U (ij (by(try simp only[List.length_append,List.length_cons,List.length_nil]);omega) _ _ _) ?_;simp only[go_sem,simprocAttr])
   |(refine ao ?_;simp only[go_sem,simprocAttr])
   |(refine And.intro (by(try simp only[aC,LL]);omega) ?_;try simp only[go_sem,simprocAttr])
   |(intro _)
  all_goals first|exact⟨s2 (by simp),_,rfl⟩|exact⟨_,rfl⟩
 ·obtain⟨c0,rfl⟩:=nV (l:=ks) (by simp at cO hl;have:=cO.1;have:=List.length_pos_iff.2 hl;omega)
  have a0:=hE c0 (by simp) 1;have g0:=hk c0 (by simp) 1;have e:(ae.mk 7 n u p [c0]).kf.at a=gx (n++(32::c0.kf.at 1)) 0 a:=by simp[ae.kf,ae.cW,kZ,KF.at]
  rw[e];simp only[ae.fh]at cL;clear e hW hB hE;generalize c0.kf.at 1=s0 at *;obtain⟨k0,n0,u0,p0,q0⟩:=c0;simp only[ae.cells,br,List.map_cons,List.map_nil]at g0;simp only[go_sem,simprocAttr,qL,su,ae.cells,ae.aV,br,List.length_map]
  repeat' first
   |(with_reducible refine ag _ (fun h=>?_) (fun h=>?_)<;>simp only[go_sem,simprocAttr,h])
   |(with_reducible refine U (g0 _) ?_;simp only[go_sem,simprocAttr])
   |(with_reducible refine U (ij (by(try simp only[List.length_append,List.length_cons,List.length_nil]);omega) _ _ _) ?_;simp only[go_sem,simprocAttr])
   |(refine ao ?_;simp only[go_sem,simprocAttr])
   |(refine And.intro (by(try simp only[aC,LL]);omega) ?_;try simp only[go_sem,simprocAttr])
   |(intro _)
  all_goals first|exact⟨s2 (by simp),_,rfl⟩|exact⟨_,rfl⟩
theorem ad6 (p:ae) (h:p.sz≤1073741824) (b9:p.okB=true) (hf:p.fit):xn p:=by
  have :∀(m:Nat) (p:ae),p.sz<m→p.sz≤1073741824→p.okB=true →p.fit→xn p:=by
    intro m
    induction m with
    |zero=>intro p h;omega
    |succ m ih=>
     intro p h h2 b9 hf;obtain⟨k,n,u,q,ks⟩:=p;rw[ae.sz]at h h2;refine ZH _ _ _ _ _ b9 hf h2 fun a ha=> ?_
     rw[ae.okB,ae.jN,Bool.and_eq_true,List.all_eq_true]at b9;rw[ae.fit]at hf;rw[ae.dr]at h h2;have :=bM ae.sz ha;exact ih a (by omega) (by omega) (b9.2 a ha) (ae.mT hf.2 ha)
  exact this _ p (Nat.lt_succ_self _) h b9 hf
def uK (x:aa):Prop:=∀(a:Int) (H:List AO),aA Tryz.prog 28 [br x.cells,.p (.i .i64 a)] H (aW (.p (.s (x.kf.at a))) H)
theorem IK:∀(l:List (List UInt8×KF)) (x:Nat),wA (l.take x)<=wA l
 |[],_=>by simp
 |a::l,0=>by simp[wA]
 |a::l,x+1=>by have:=IK l x;rw[List.take_succ_cons,wA,wA];omega
theorem L1 (n:List UInt8):iR n=(1,2,2)\/iR n=(2,3,3)\/iR n=(4,4,5)\/iR n=(3,3,4):=by unfold iR;(repeat' split)<;>simp
theorem fX:wr .i64 1=1:=by decide
theorem fY:wr .i64 2=2:=by decide
theorem fZ:wr .i64 3=3:=by decide
theorem ga:wr .i64 4=4:=by decide
theorem gb:wr .i64 5=5:=by decide
theorem ZI (k:Int) (n:List UInt8) (u:Int) (t:List UInt8) (p:Int) (ks:List aa) (aM:List al) (b9:(aa.mk k n u t p ks aM).okB=true) (eX:(aa.mk k n u t p ks aM).fit) (cL:n.length+t.length+aa.fh ks+aa.Dt aM<=1073741824)
  (hk:∀x∈ks,uK x) (iw:∀q e,al.mk q e∈aM->xn q/\uK e) (oY:k=10\/k=11\/k=12\/k=13) (H:List AO):
  aA Tryz.prog 133 [br (aa.cells (.mk k n u t p ks aM))] H (aW (.p (.s (aa.mk k n u t p ks aM).kf.f)) H):=by
 refine aD ?_ (bw _);refine call133 (by simp) ?_;rw[aa.fit]at eX;have hW:=aa.gy ks eX.2.1;have hA:=aa.uA aM eX.2.2;have hu:=eX.1;have vY:ks.length<=1073741824:=by have:=gM aa.sz ks;rw[<-aa.dr]at this;omega
 have ad7:aM.length<=1073741824:=by have:=gM al.sz aM;rw[<-aa.lN]at this;omega
 have hE:∀x∈ks,∀z,(x.kf.at z).length<=200000000000:=fun x hx z=>by
  have h1:=(cK x.kf z).1;have h2:=TJ (l:=aa.cW ks) (x:=x.kf) (by rw[aa.cY];exact List.mem_map_of_mem hx);omega
 rw[aa.okB,pB]at b9;simp only[Bool.and_eq_true]at b9;have cO:=b9.1.1;clear b9 eX;rcases oY with rfl|rfl|rfl|rfl
 ·obtain⟨c0,c1,rfl⟩:=l9 (l:=ks) (by simpa using(by simpa using cO:_/\_).1)
  simp only[aa.fh]at cL;have a00:=hE c0 (by simp) 0;have C7:=hk c0 (by simp) 0;have a10:=hE c1 (by simp) 0;have g10:=hk c1 (by simp) 0;have e:(aa.mk 10 n u t p [c0,c1] aM).kf.f=[108,101,116,32]++(n++([32,61,32]++(c0.kf.at 0++([32,105,110,32]++c1.kf.at 0)))):=by simp[aa.kf,aa.cW,dP]
  rw[e];clear e hW hE hA hk iw;generalize c0.kf.at 0=s00 at *;generalize c1.kf.at 0=s10 at *;obtain⟨k0,n0,u0,t0,p0,q0,r0⟩:=c0;obtain⟨k1,n1,u1,t1,p1,q1,r1⟩:=c1;simp only[aa.cells,br,List.map_cons,List.map_nil,aa.aw,aa.aN]at C7 g10;simp only[go_sem,simprocAttr,zT,C1,aa.cells,aa.aw,aa.aN,br,List.length_map]
  repeat' first
   |(with_reducible refine ag _ (fun h=>?_) (fun h=>?_)<;>simp only[go_sem,simprocAttr,h,List.length_map,fX,fY,fZ,ga,gb])
   |(with_reducible refine aQ (fun A=>C7 _) (bP.refl _) ?_;simp only[go_sem,simprocAttr,List.length_map,fX,fY,fZ,ga,gb])
   |(with_reducible refine aQ (fun A=>g10 _) (bP.refl _) ?_;simp only[go_sem,simprocAttr,List.length_map,fX,fY,fZ,ga,gb])
   |(refine ao ?_;simp only[go_sem,simprocAttr,List.length_map,fX,fY,fZ,ga,gb])
   |(refine And.intro (by(try simp only[aC,LL]);omega) ?_;try simp only[go_sem,simprocAttr,List.length_map,fX,fY,fZ,ga,gb])
   |(intro _)
  all_goals first|exact⟨s2 (by simp),_,rfl⟩|exact⟨_,rfl⟩
 ·obtain⟨c0,c1,rfl⟩:=l9 (l:=ks) (by simpa using(by simpa using cO:_/\_).1)
  simp only[aa.fh]at cL;have a00:=hE c0 (by simp) 0;have C7:=hk c0 (by simp) 0;have a10:=hE c1 (by simp) 0;have g10:=hk c1 (by simp) 0;have e:(aa.mk 11 n u t p [c0,c1] aM).kf.f=[108,101,116,32,114,101,99,32]++(n++(32::(t++([32,61,32]++(c0.kf.at 0++([32,105,110,32]++c1.kf.at 0)))))):=by simp[aa.kf,aa.cW,dP]
  rw[e];clear e hW hE hA hk iw;generalize c0.kf.at 0=s00 at *;generalize c1.kf.at 0=s10 at *;obtain⟨k0,n0,u0,t0,p0,q0,r0⟩:=c0;obtain⟨k1,n1,u1,t1,p1,q1,r1⟩:=c1;simp only[aa.cells,br,List.map_cons,List.map_nil,aa.aw,aa.aN]at C7 g10;simp only[go_sem,simprocAttr,zT,C1,aa.cells,aa.aw,aa.aN,br,List.length_map]
  repeat' first
   |(with_reducible refine ag _ (fun h=>?_) (fun h=>?_)<;>simp only[go_sem,simprocAttr,h,List.length_map,fX,fY,fZ,ga,gb])
   |(with_reducible refine aQ (fun A=>C7 _) (bP.refl _) ?_;simp only[go_sem,simprocAttr,List.length_map,fX,fY,fZ,ga,gb])
   |(with_reducible refine aQ (fun A=>g10 _) (bP.refl _) ?_;simp only[go_sem,simprocAttr,List.length_map,fX,fY,fZ,ga,gb])
   |(refine ao ?_;simp only[go_sem,simprocAttr,List.length_map,fX,fY,fZ,ga,gb])
   |(refine And.intro (by(try simp only[aC,LL]);omega) ?_;try simp only[go_sem,simprocAttr,List.length_map,fX,fY,fZ,ga,gb])
   |(intro _)
  all_goals first|exact⟨s2 (by simp),_,rfl⟩|exact⟨_,rfl⟩
 ·obtain⟨c0,c1,c2,rfl⟩:=acm (l:=ks) (by simpa using(by simpa using cO:_/\_).1)
  simp only[aa.fh]at cL;have a00:=hE c0 (by simp) 0;have C7:=hk c0 (by simp) 0;have a10:=hE c1 (by simp) 0;have g10:=hk c1 (by simp) 0;have a20:=hE c2 (by simp) 0;have g20:=hk c2 (by simp) 0;have e:(aa.mk 12 n u t p [c0,c1,c2] aM).kf.f=[105,102,32]++(c0.kf.at 0++([32,116,104,101,110,32]++(c1.kf.at 0++([32,101,108,115,101,32]++c2.kf.at 0)))):=by simp[aa.kf,aa.cW,dP]
  rw[e];clear e hW hE hA hk iw;generalize c0.kf.at 0=s00 at *;generalize c1.kf.at 0=s10 at *;generalize c2.kf.at 0=s20 at *;obtain⟨k0,n0,u0,t0,p0,q0,r0⟩:=c0;obtain⟨k1,n1,u1,t1,p1,q1,r1⟩:=c1;obtain⟨k2,n2,u2,t2,p2,q2,r2⟩:=c2;simp only[aa.cells,br,List.map_cons,List.map_nil,aa.aw,aa.aN]at C7 g10 g20;simp only[go_sem,simprocAttr,zT,C1,aa.cells,aa.aw,aa.aN,br,List.length_map]
  repeat' first
   |(with_reducible refine ag _ (fun h=>?_) (fun h=>?_)<;>simp only[go_sem,simprocAttr,h,List.length_map,fX,fY,fZ,ga,gb])
   |(with_reducible refine aQ (fun A=>C7 _) (bP.refl _) ?_;simp only[go_sem,simprocAttr,List.length_map,fX,fY,fZ,ga,gb])
   |(with_reducible refine aQ (fun A=>g10 _) (bP.refl _) ?_;simp only[go_sem,simprocAttr,List.length_map,fX,fY,fZ,ga,gb])
   |(with_reducible refine aQ (fun A=>g20 _) (bP.refl _) ?_;simp only[go_sem,simprocAttr,List.length_map,fX,fY,fZ,ga,gb])
   |(refine ao ?_;simp only[go_sem,simprocAttr,List.length_map,fX,fY,fZ,ga,gb])
   |(refine And.intro (by(try simp only[aC,LL]);omega) ?_;try simp only[go_sem,simprocAttr,List.length_map,fX,fY,fZ,ga,gb])
   |(intro _)
  all_goals first|exact⟨s2 (by simp),_,rfl⟩|exact⟨_,rfl⟩
 ·obtain⟨c0,rfl⟩:=nV (l:=ks) (by simpa using(by simpa using cO:_/\_).1)
  simp only[aa.fh]at cL;have a0:=hE c0 (by simp) 0;have g0:=hk c0 (by simp) 0
  have hF:∀x,((aM.take x).map fun x=>iZ x.kf).flatten.length<=200000000000:=fun x=>by
   have h1:=vk ((aa.zI aM).take x);have h2:=IK (aa.zI aM) x;rw[aa.vi,<-List.map_take,List.map_map]at h1;rw[aa.vi]at hA h2;rw[<-List.map_take]at h2;exact Nat.le_trans h1 (by omega)
  have e:(aa.mk 13 n u t p [c0] aM).kf.f=[109,97,116,99,104,32]++(c0.kf.at 0++([32,119,105,116,104]++((aM.map fun x=>iZ x.kf).flatten++[32,101,110,100]))):=by simp[aa.kf,aa.cW,dP,aa.vi,Function.comp_def]
  rw[e];clear e hW hE hA hk;generalize c0.kf.at 0=s0 at *;obtain⟨k0,n0,u0,t0,p0,q0,r0⟩:=c0;simp only[aa.cells,br,List.map_cons,List.map_nil,aa.aw,aa.aN]at g0;simp only[go_sem,simprocAttr,zT,C1,aa.cells,aa.aw,aa.aN,br,List.length_map]
  repeat' first
   |(with_reducible refine ag _ (fun h=>?_) (fun h=>?_)<;>simp only[go_sem,simprocAttr,h,List.length_map])
   |(with_reducible refine U (g0 _) ?_;simp only[go_sem,simprocAttr,List.length_map])
   |(refine ao ?_;simp only[go_sem,simprocAttr,List.length_map])
   |(refine And.intro (by(try simp only[aC,LL]);omega) ?_;try simp only[go_sem,simprocAttr,List.length_map])
   |(intro _)
  refine⟨Nat,[1,2,3,4],fun x st=>x<=aM.length/\st=⟨[(1,.ptr H.length 0),(2,.p (.s [])),(3,.p (.s ([109,97,116,99,104,32]++(s0++([32,119,105,116,104]++((aM.take x).map fun x=>iZ x.kf).flatten))))),(4,.p (.i .i64 x))],[],H++[.var [.p (.i .i64 13),.p (.s n),.p (.i .i64 u),.p (.s t),.p (.i .i64 p),.p (.l [[.i .i64 k0,.s n0,.i .i64 u0,.s t0,.i .i64 p0,.l (q0.map aa.cells),.l (r0.map al.cells)]]),.p (.l (aM.map al.cells))]]⟩,fun x=>aM.length-x,⟨0,?_⟩,?_⟩
  ·simp only[go_sem,simprocAttr]
   exact⟨Nat.zero_le _,by simp⟩
  rintro x _ ⟨hx,rfl⟩;have pO:=hF x;by_cases aj:x<aM.length
  ·have d1:decide ((x:Int)<(aM.length:Int))=true:=by simp;omega
   have bC:(x:Int)<(aM.length:Int):=by omega
   have hg:(aM.map al.cells)[x]?=some (al.cells aM[x]):=by simp[aj]
   have hc:∀q e,aM[x]=al.mk q e->xn q/\uK e:=fun q e he=>iw q e (by rw[<-he];exact List.getElem_mem aj)
   have hj:=congrArg List.flatten (sE (fun x:al=>iZ x.kf) aj);have OU:=hF (x+1);rw[List.flatten_append]at hj;rw[hj]at OU;generalize ((aM.take x).map fun x=>iZ x.kf).flatten=sj at pO OU hj⊢;generalize aM[x]=c at hg hc hj OU;obtain⟨⟨qk,qn,qu,qp,OC⟩,⟨ck,cn,cu,ct,cp,oF,DD⟩⟩:=c;obtain⟨h1,h2⟩:=hc _ _ rfl;have h1:=h1 0;have h2:=h2 0;have hcf:iZ (al.kf (.mk (.mk qk qn qu qp OC) (.mk ck cn cu ct cp oF DD)))=[32,124,32]++((ae.mk qk qn qu qp OC).kf.at 0++([32,45,62,32]++(aa.mk ck cn cu ct cp oF DD).kf.at 0)):=by rw[al.kf,iZ]
   simp only[List.flatten_cons,List.flatten_nil,List.append_nil]at hj OU;rw[hcf]at hj OU;clear hcf;generalize ae.kf _=f1 at *;generalize aa.kf _=f2 at *;generalize f1.at 0=s1 at *;generalize f2.at 0=s2' at *;simp only[List.length_append,List.length_cons,List.length_nil]at OU;simp only[M3,ae.cells,aa.cells,br,List.map_cons,List.map_nil,List.cons_append,List.nil_append]at hg h1 h2;simp only[go_sem,simprocAttr,d1,bC,hg,List.length_map]
   repeat' first
    |(with_reducible refine ag _ (fun h=>?_) (fun h=>?_)<;>simp only[go_sem,simprocAttr,h,bC,hg,List.length_map,bp x (by omega)])
    |(with_reducible refine aQ (fun A=>h1 _) (bP.refl _) ?_;simp only[go_sem,simprocAttr,bC,hg,List.length_map,bp x (by omega)])
    |(with_reducible refine aQ (fun A=>h2 _) (bP.refl _) ?_;simp only[go_sem,simprocAttr,bC,hg,List.length_map,bp x (by omega)])
    |(refine ao ?_;simp only[go_sem,simprocAttr,bC,hg,List.length_map,bp x (by omega)])
    |(refine And.intro (by(try simp only[aC,LL]);omega) ?_;try simp only[go_sem,simprocAttr,bC,hg,List.length_map,bp x (by omega)])
    |(intro _)
   all_goals exact⟨x+1,⟨by omega,by rw[hj]<;>simp⟩,by omega⟩
  ·have d1:decide ((x:Int)<(aM.length:Int))=false:=by simp;omega
   rw[List.take_of_length_le (by omega)]at pO⊢;generalize (aM.map fun x=>iZ x.kf).flatten=sj at pO⊢;simp only[go_sem,simprocAttr,d1,List.length_map]
   repeat' first
    |(with_reducible refine ag _ (fun h=>?_) (fun h=>?_)<;>simp only[go_sem,simprocAttr,h,List.length_map])
    |(refine ao ?_;simp only[go_sem,simprocAttr,List.length_map])
    |(refine And.intro (by(try simp only[aC,LL]);omega) ?_;try simp only[go_sem,simprocAttr,List.length_map])
    |(intro _)
   all_goals first|exact⟨s2 (by simp),_,rfl⟩|exact⟨_,rfl⟩
theorem ad8 (k:Int) (n:List UInt8) (u:Int) (t:List UInt8) (p:Int) (ks:List aa) (aM:List al) (b9:(aa.mk k n u t p ks aM).okB=true) (eX:(aa.mk k n u t p ks aM).fit) (cL:n.length+t.length+aa.fh ks+aa.Dt aM<=1073741824)
  (hk:∀x∈ks,uK x) (iw:∀q e,al.mk q e∈aM->xn q/\uK e) (H:List AO):
  aA Tryz.prog 69 [br (aa.cells (.mk k n u t p ks aM))] H (aW (.p (.s (aa.mk k n u t p ks aM).kf.f)) H):=by
 have kQ:=fun oY=>ZI k n u t p ks aM b9 eX cL hk iw oY
 refine aD ?_ (bw _);refine call69 (by simp) ?_;rw[aa.fit]at eX;have hW:=aa.gy ks eX.2.1;have hA:=aa.uA aM eX.2.2;have hu:=eX.1;have vY:ks.length<=1073741824:=by have:=gM aa.sz ks;rw[<-aa.dr]at this;omega
 have ad7:aM.length<=1073741824:=by have:=gM al.sz aM;rw[<-aa.lN]at this;omega
 have hE:∀x∈ks,∀z,(x.kf.at z).length<=200000000000:=fun x hx z=>by
  have h1:=(cK x.kf z).1;have h2:=TJ (l:=aa.cW ks) (x:=x.kf) (by rw[aa.cY];exact List.mem_map_of_mem hx);omega
 rw[aa.okB,pB]at b9;simp only[Bool.and_eq_true]at b9;have cO:=b9.1.1;have har:=kG n;clear b9 eX;by_cases h1:k=1
 ·subst h1
  have e:(aa.mk 1 n u t p ks aM).kf.f=qf u:=by simp[aa.kf,dP]
  rw[e];clear e hW hE hA hk iw kQ;have h0:0<=u:=by simp at cO;exact cO.2.2.1
  simp only[go_sem,simprocAttr,mb,mA,aa.cells,aa.aw,aa.aN,br,List.length_map]
  repeat' first
   |(with_reducible refine ag _ (fun h=>?_) (fun h=>?_)<;>simp only[go_sem,simprocAttr,h])
   |(with_reducible refine U (Wh h0 hu _) ?_;simp only[go_sem,simprocAttr])
   |(refine ao ?_;simp only[go_sem,simprocAttr])
   |(refine And.intro (by(try simp only[aC,LL]);omega) ?_;try simp only[go_sem,simprocAttr])
   |(intro _)
  all_goals first|exact⟨s2 (by simp),_,rfl⟩|exact⟨_,rfl⟩
 by_cases h2:k=2
 ·subst h2
  have e:(aa.mk 2 n u t p ks aM).kf.f=pC t:=by simp[aa.kf,dP]
  rw[e];clear e hW hE hA hk iw kQ;simp only[go_sem,simprocAttr,mb,mA,aa.cells,aa.aw,aa.aN,br,List.length_map]
  repeat' first
   |(with_reducible refine ag _ (fun h=>?_) (fun h=>?_)<;>simp only[go_sem,simprocAttr,h])
   |(with_reducible refine U (OT (by omega) _) ?_;simp only[go_sem,simprocAttr])
   |(refine ao ?_;simp only[go_sem,simprocAttr])
   |(refine And.intro (by(try simp only[aC,LL]);omega) ?_;try simp only[go_sem,simprocAttr])
   |(intro _)
  all_goals first|exact⟨s2 (by simp),_,rfl⟩|exact⟨_,rfl⟩
 by_cases h3:k=3
 ·subst h3
  have e:(aa.mk 3 n u t p ks aM).kf.f=kS u:=by simp[aa.kf,dP]
  rw[e];clear e hW hE hA hk iw kQ;simp only[go_sem,simprocAttr,mb,mA,aa.cells,aa.aw,aa.aN,br,List.length_map]
  repeat' first
   |(with_reducible refine ag _ (fun h=>?_) (fun h=>?_)<;>simp only[go_sem,simprocAttr,h])
   |(with_reducible refine U (M8 _ _) ?_;simp only[go_sem,simprocAttr])
   |(refine ao ?_;simp only[go_sem,simprocAttr])
   |(refine And.intro (by(try simp only[aC,LL]);omega) ?_;try simp only[go_sem,simprocAttr])
   |(intro _)
  all_goals first|exact⟨s2 (by simp),_,rfl⟩|exact⟨_,rfl⟩
 by_cases h4:k=4
 ·subst h4
  have e:(aa.mk 4 n u t p ks aM).kf.f=[40,41]:=by simp[aa.kf,dP]
  rw[e];clear e hW hE hA hk iw kQ;simp only[go_sem,simprocAttr,mb,mA,aa.cells,aa.aw,aa.aN,br,List.length_map]
  repeat' first
   |(with_reducible refine ag _ (fun h=>?_) (fun h=>?_)<;>simp only[go_sem,simprocAttr,h])
   |(refine ao ?_;simp only[go_sem,simprocAttr])
   |(refine And.intro (by(try simp only[aC,LL]);omega) ?_;try simp only[go_sem,simprocAttr])
   |(intro _)
  all_goals first|exact⟨s2 (by simp),_,rfl⟩|exact⟨_,rfl⟩
 by_cases h5:k=5
 ·subst h5
  have e:(aa.mk 5 n u t p ks aM).kf.f=n:=by simp[aa.kf,dP]
  rw[e];clear e hW hE hA hk iw kQ;simp only[go_sem,simprocAttr,mb,mA,aa.cells,aa.aw,aa.aN,br,List.length_map]
  repeat' first
   |(with_reducible refine ag _ (fun h=>?_) (fun h=>?_)<;>simp only[go_sem,simprocAttr,h])
   |(refine ao ?_;simp only[go_sem,simprocAttr])
   |(refine And.intro (by(try simp only[aC,LL]);omega) ?_;try simp only[go_sem,simprocAttr])
   |(intro _)
  all_goals first|exact⟨s2 (by simp),_,rfl⟩|exact⟨_,rfl⟩
 by_cases h6:k=6
 ·subst h6
  clear kQ;by_cases hl:(ks.length:Int)=0
  ·obtain rfl:=uF hl
   have e:(aa.mk 6 n u t p [] aM).kf.f=n:=by simp[aa.kf,aa.cW,dP]
   rw[e];clear e hW hE hA hk iw;simp only[go_sem,simprocAttr,mb,mA,aa.cells,aa.aw,aa.aN,br,List.length_map]
   repeat' first
    |(with_reducible refine ag _ (fun h=>?_) (fun h=>?_)<;>simp only[go_sem,simprocAttr,h])
    |(refine ao ?_;simp only[go_sem,simprocAttr])
    |(refine And.intro (by(try simp only[aC,LL]);omega) ?_;try simp only[go_sem,simprocAttr])
    |(intro _)
   all_goals first|exact⟨s2 (by simp),_,rfl⟩|exact⟨_,rfl⟩
  ·obtain⟨c0,rfl⟩:=nV (l:=ks) (by simp at cO hl;have:=cO.1;have:=List.length_pos_iff.2 hl;omega)
   simp only[aa.fh]at cL;have a06:=hE c0 (by simp) 6;have Wi:=hk c0 (by simp) 6;have e:(aa.mk 6 n u t p [c0] aM).kf.f=n++(32::c0.kf.at 6):=by simp[aa.kf,aa.cW,dP]
   rw[e];clear e hW hE hA hk iw;generalize c0.kf.at 6=s06 at *;obtain⟨k0,n0,u0,t0,p0,q0,r0⟩:=c0;simp only[aa.cells,br,List.map_cons,List.map_nil,aa.aw,aa.aN]at Wi;simp only[go_sem,simprocAttr,mb,mA,aa.cells,aa.aw,aa.aN,br,List.length_map]
   repeat' first
    |(with_reducible refine ag _ (fun h=>?_) (fun h=>?_)<;>simp only[go_sem,simprocAttr,h,List.length_map,fX,fY,fZ,ga,gb])
    |(with_reducible refine aQ (fun A=>Wi _) (bP.refl _) ?_;simp only[go_sem,simprocAttr,List.length_map,fX,fY,fZ,ga,gb])
    |(refine ao ?_;simp only[go_sem,simprocAttr,List.length_map,fX,fY,fZ,ga,gb])
    |(refine And.intro (by(try simp only[aC,LL]);omega) ?_;try simp only[go_sem,simprocAttr,List.length_map,fX,fY,fZ,ga,gb])
    |(intro _)
   all_goals first|exact⟨s2 (by simp),_,rfl⟩|exact⟨_,rfl⟩
 by_cases DC:k=15
 ·subst DC
  clear kQ;by_cases hl:(ks.length:Int)=0
  ·obtain rfl:=uF hl
   have e:(aa.mk 15 n u t p [] aM).kf.f=n:=by simp[aa.kf,aa.cW,dP]
   rw[e];clear e hW hE hA hk iw;simp only[go_sem,simprocAttr,mb,mA,aa.cells,aa.aw,aa.aN,br,List.length_map]
   repeat' first
    |(with_reducible refine ag _ (fun h=>?_) (fun h=>?_)<;>simp only[go_sem,simprocAttr,h])
    |(refine ao ?_;simp only[go_sem,simprocAttr])
    |(refine And.intro (by(try simp only[aC,LL]);omega) ?_;try simp only[go_sem,simprocAttr])
    |(intro _)
   all_goals first|exact⟨s2 (by simp),_,rfl⟩|exact⟨_,rfl⟩
  ·obtain⟨c0,rfl⟩:=nV (l:=ks) (by have h1:(ks.length:Int)=arity n:=(by simp at cO;exact cO.1);rcases har with h|h|h<;>omega)
   simp only[aa.fh]at cL;have a06:=hE c0 (by simp) 6;have Wi:=hk c0 (by simp) 6;have e:(aa.mk 15 n u t p [c0] aM).kf.f=n++(32::c0.kf.at 6):=by simp[aa.kf,aa.cW,dP]
   rw[e];clear e hW hE hA hk iw;generalize c0.kf.at 6=s06 at *;obtain⟨k0,n0,u0,t0,p0,q0,r0⟩:=c0;simp only[aa.cells,br,List.map_cons,List.map_nil,aa.aw,aa.aN]at Wi;simp only[go_sem,simprocAttr,mb,mA,aa.cells,aa.aw,aa.aN,br,List.length_map]
   repeat' first
    |(with_reducible refine ag _ (fun h=>?_) (fun h=>?_)<;>simp only[go_sem,simprocAttr,h,List.length_map,fX,fY,fZ,ga,gb])
    |(with_reducible refine aQ (fun A=>Wi _) (bP.refl _) ?_;simp only[go_sem,simprocAttr,List.length_map,fX,fY,fZ,ga,gb])
    |(refine ao ?_;simp only[go_sem,simprocAttr,List.length_map,fX,fY,fZ,ga,gb])
    |(refine And.intro (by(try simp only[aC,LL]);omega) ?_;try simp only[go_sem,simprocAttr,List.length_map,fX,fY,fZ,ga,gb])
    |(intro _)
   all_goals first|exact⟨s2 (by simp),_,rfl⟩|exact⟨_,rfl⟩
 by_cases h7:k=7
 ·subst h7
  have e:(aa.mk 7 n u t p ks aM).kf.f=40::(bF [44,32] (ks.map fun x=>x.kf.at 0)++[41]):=by simp[aa.kf,aa.cY,dP,Function.comp_def]
  rw[e]
  have hB:∀x,(bF [44,32] ((ks.take x).map fun x=>x.kf.at 0)).length<=200000000000:=fun x=>by
   have h1:=iv [44,32] (by decide) 0 ((aa.cW ks).take x);have h2:=uJ (aa.cW ks) x;rw[aa.cY,<-List.map_take,List.map_map]at h1;rw[aa.cY]at hW h2;rw[<-List.map_take]at h2;exact Nat.le_trans h1 (by omega)
  clear e hW hA iw kQ;simp only[go_sem,simprocAttr,mb,mA,aa.cells,aa.aw,aa.aN,br,List.length_map];refine⟨Nat,[1,2,3,4],fun x st=>x<=ks.length/\st=⟨[(1,.ptr H.length 0),(2,.p (.s [])),(3,.p (.s (40::bF [44,32] ((ks.take x).map fun x:aa=>x.kf.at 0)))),(4,.p (.i .i64 x))],[],H++[.var [.p (.i .i64 7),.p (.s n),.p (.i .i64 u),.p (.s t),.p (.i .i64 p),.p (.l (ks.map aa.cells)),.p (.l (aM.map al.cells))]]⟩,fun x=>ks.length-x,⟨0,?_⟩,?_⟩
  ·simp only[go_sem,simprocAttr]
   exact⟨Nat.zero_le _,rfl⟩
  rintro x _ ⟨hx,rfl⟩;have pO:=hB x;by_cases aj:x<ks.length
  ·have d1:decide ((x:Int)<(ks.length:Int))=true:=by simp;omega
   have bC:(x:Int)<(ks.length:Int):=by omega
   have hg:(ks.map aa.cells)[x]?=some (aa.cells ks[x]):=by simp[aj]
   have hc:=hk ks[x] (List.getElem_mem aj) 0;have yF:=hE ks[x] (List.getElem_mem aj) 0;have hj:=qv [44,32] (fun x:aa=>x.kf.at 0) aj;have sF:x=0->bF [44,32] ((ks.take x).map fun x:aa=>x.kf.at 0)=[]:=by rintro rfl;rfl
   generalize bF [44,32] ((ks.take x).map fun x:aa=>x.kf.at 0)=sj at pO hj sF⊢;generalize ks[x]=c at hg hc yF hj;generalize c.kf.at 0=sc at hc yF hj;obtain⟨ck,cn,cu,ct,cp,oF,DD⟩:=c;simp only[aa.cells,br,List.map_cons,List.map_nil]at hg hc;by_cases yX:x=0
   ·rw[if_pos yX]at hj
    have sF:=sF yX;subst sF;have d0:decide ((0:Int)<(x:Int))=false:=by simp;omega
    simp only[go_sem,simprocAttr,d1,d0,bC,hg,List.length_map]
    repeat' first
     |(with_reducible refine ag _ (fun h=>?_) (fun h=>?_)<;>simp only[go_sem,simprocAttr,h,bC,hg,List.length_map,d0,bp x (by omega)])
     |(with_reducible refine U (hc _) ?_;simp only[go_sem,simprocAttr,bC,hg,List.length_map,d0,bp x (by omega)])
     |(refine ao ?_;simp only[go_sem,simprocAttr,bC,hg,List.length_map,d0,bp x (by omega)])
     |(refine And.intro (by(try simp only[aC,LL]);omega) ?_;try simp only[go_sem,simprocAttr,bC,hg,List.length_map,d0,bp x (by omega)])
     |(intro _)
    all_goals exact⟨x+1,⟨by omega,by rw[hj]<;>simp⟩,by omega⟩
   rw[if_neg yX]at hj;have d0:decide ((0:Int)<(x:Int))=true:=by simp;omega
   simp only[go_sem,simprocAttr,d1,d0,bC,hg,List.length_map]
   repeat' first
    |(with_reducible refine ag _ (fun h=>?_) (fun h=>?_)<;>simp only[go_sem,simprocAttr,h,bC,hg,List.length_map,d0,bp x (by omega)])
    |(with_reducible refine U (hc _) ?_;simp only[go_sem,simprocAttr,bC,hg,List.length_map,d0,bp x (by omega)])
    |(refine ao ?_;simp only[go_sem,simprocAttr,bC,hg,List.length_map,d0,bp x (by omega)])
    |(refine And.intro (by(try simp only[aC,LL]);omega) ?_;try simp only[go_sem,simprocAttr,bC,hg,List.length_map,d0,bp x (by omega)])
    |(intro _)
   all_goals exact⟨x+1,⟨by omega,by rw[hj]<;>simp⟩,by omega⟩
  ·have d1:decide ((x:Int)<(ks.length:Int))=false:=by simp;omega
   rw[List.take_of_length_le (by omega)]at pO⊢;generalize bF [44,32] (ks.map fun x:aa=>x.kf.at 0)=sj at pO⊢;simp only[go_sem,simprocAttr,d1,List.length_map]
   repeat' first
    |(with_reducible refine ag _ (fun h=>?_) (fun h=>?_)<;>simp only[go_sem,simprocAttr,h,List.length_map])
    |(refine ao ?_;simp only[go_sem,simprocAttr,List.length_map])
    |(refine And.intro (by(try simp only[aC,LL]);omega) ?_;try simp only[go_sem,simprocAttr,List.length_map])
    |(intro _)
   all_goals first|exact⟨s2 (by simp),_,rfl⟩|exact⟨_,rfl⟩
 by_cases h8:k=8
 ·subst h8
  clear kQ;obtain⟨c0,rfl⟩:=nV (l:=ks) (by simpa using(by simpa using cO:_/\_).1);simp only[aa.fh]at cL;have a00:=hE c0 (by simp) 0;have C7:=hk c0 (by simp) 0;have e:(aa.mk 8 n u t p [c0] aM).kf.f=[102,117,110,32]++(n++([32,45,62,32]++c0.kf.at 0)):=by simp[aa.kf,aa.cW,dP]
  rw[e];clear e hW hE hA hk iw;generalize c0.kf.at 0=s00 at *;obtain⟨k0,n0,u0,t0,p0,q0,r0⟩:=c0;simp only[aa.cells,br,List.map_cons,List.map_nil,aa.aw,aa.aN]at C7;simp only[go_sem,simprocAttr,mb,mA,aa.cells,aa.aw,aa.aN,br,List.length_map]
  repeat' first
   |(with_reducible refine ag _ (fun h=>?_) (fun h=>?_)<;>simp only[go_sem,simprocAttr,h,List.length_map,fX,fY,fZ,ga,gb])
   |(with_reducible refine aQ (fun A=>C7 _) (bP.refl _) ?_;simp only[go_sem,simprocAttr,List.length_map,fX,fY,fZ,ga,gb])
   |(refine ao ?_;simp only[go_sem,simprocAttr,List.length_map,fX,fY,fZ,ga,gb])
   |(refine And.intro (by(try simp only[aC,LL]);omega) ?_;try simp only[go_sem,simprocAttr,List.length_map,fX,fY,fZ,ga,gb])
   |(intro _)
  all_goals first|exact⟨s2 (by simp),_,rfl⟩|exact⟨_,rfl⟩
 by_cases h9:k=9
 ·subst h9
  clear kQ;obtain⟨c0,c1,rfl⟩:=l9 (l:=ks) (by simpa using(by simpa using cO:_/\_).1);simp only[aa.fh]at cL;have a05:=hE c0 (by simp) 5;have g05:=hk c0 (by simp) 5;have a07:=hE c0 (by simp) 7;have g07:=hk c0 (by simp) 7;have a16:=hE c1 (by simp) 6;have g16:=hk c1 (by simp) 6;have e:(aa.mk 9 n u t p [c0,c1] aM).kf.f=c0.kf.at (if c0.kf.b then 7 else 5)++(32::c1.kf.at 6):=by simp[aa.kf,aa.cW,dP]
  rw[e];clear e hW hE hA hk iw;obtain⟨k0,n0,u0,t0,p0,q0,r0⟩:=c0;obtain⟨k1,n1,u1,t1,p1,q1,r1⟩:=c1;have mE:=V7 k0 n0 u0 t0 p0 q0 r0;generalize (aa.mk k0 n0 u0 t0 p0 q0 r0).kf=f0 at *;generalize (aa.mk k1 n1 u1 t1 p1 q1 r1).kf.at 6=s1 at *;simp only[aa.cells,br,List.map_cons,List.map_nil,aa.aw,aa.aN]at g05 g07 g16;simp only[go_sem,simprocAttr,mb,mA,aa.cells,aa.aw,aa.aN,br,List.length_map]
  repeat' first
   |(with_reducible refine ag _ (fun h=>?_) (fun h=>?_)<;>simp only[go_sem,simprocAttr,h,List.length_map])
   |(with_reducible refine aQ (fun A=>g05 _) (bP.refl _) ?_;simp only[go_sem,simprocAttr,List.length_map])
   |(with_reducible refine aQ (fun A=>g07 _) (bP.refl _) ?_;simp only[go_sem,simprocAttr,List.length_map])
   |(with_reducible refine aQ (fun A=>g16 _) (bP.refl _) ?_;simp only[go_sem,simprocAttr,List.length_map])
   |(refine ao ?_;simp only[go_sem,simprocAttr,List.length_map])
   |(refine And.intro (by(try simp only[aC,LL]);omega) ?_;try simp only[go_sem,simprocAttr,List.length_map])
   |(intro _)
  all_goals refine⟨s2 ?_,_,rfl⟩
  ·rename_i KM _
   have ZA:f0.b=true:=by rw[mE,KM,h];rfl
   rw[if_pos ZA]<;>simp
  ·have L0:f0.b=false:=by rw[mE,h,Bool.and_false]
   rw[L0]<;>simp
  ·have L0:f0.b=false:=by rw[mE,h,Bool.false_and]
   rw[L0]<;>simp
 by_cases si:k=14
 ·subst si
  clear kQ;have zQ:=C6 n;rcases L1 n with ho|ho|ho|ho
  all_goals rw[ho]at zQ
  ·obtain⟨c0,c1,rfl⟩:=l9 (l:=ks) (by simpa using(by simpa using cO:_/\_).1)
   simp only[aa.fh]at cL;have a02:=hE c0 (by simp) 2;have g02:=hk c0 (by simp) 2;have a12:=hE c1 (by simp) 2;have g12:=hk c1 (by simp) 2;have e:(aa.mk 14 n u t p [c0,c1] aM).kf.f=c0.kf.at 2++(32::(n++(32::c1.kf.at 2))):=by simp[aa.kf,aa.cW,dP,ho]
   rw[e];clear e hW hE hA hk iw;generalize c0.kf.at 2=s02 at *;generalize c1.kf.at 2=s12 at *;obtain⟨k0,n0,u0,t0,p0,q0,r0⟩:=c0;obtain⟨k1,n1,u1,t1,p1,q1,r1⟩:=c1;simp only[aa.cells,br,List.map_cons,List.map_nil,aa.aw,aa.aN]at g02 g12;simp only[go_sem,simprocAttr,mb,mA,aa.cells,aa.aw,aa.aN,br,List.length_map]
   repeat' first
    |(with_reducible refine ag _ (fun h=>?_) (fun h=>?_)<;>simp only[go_sem,simprocAttr,h,List.length_map,fX,fY,fZ,ga,gb])
    |(with_reducible refine U (zQ _) ?_;simp only[go_sem,simprocAttr,List.length_map,fX,fY,fZ,ga,gb])
    |(with_reducible refine aQ (fun A=>g02 _) (bP.refl _) ?_;simp only[go_sem,simprocAttr,List.length_map,fX,fY,fZ,ga,gb])
    |(with_reducible refine aQ (fun A=>g12 _) (bP.refl _) ?_;simp only[go_sem,simprocAttr,List.length_map,fX,fY,fZ,ga,gb])
    |(refine ao ?_;simp only[go_sem,simprocAttr,List.length_map,fX,fY,fZ,ga,gb])
    |(refine And.intro (by(try simp only[aC,LL]);omega) ?_;try simp only[go_sem,simprocAttr,List.length_map,fX,fY,fZ,ga,gb])
    |(intro _)
   all_goals first|exact⟨s2 (by simp),_,rfl⟩|exact⟨_,rfl⟩
  ·obtain⟨c0,c1,rfl⟩:=l9 (l:=ks) (by simpa using(by simpa using cO:_/\_).1)
   simp only[aa.fh]at cL;have a03:=hE c0 (by simp) 3;have Wj:=hk c0 (by simp) 3;have a13:=hE c1 (by simp) 3;have g13:=hk c1 (by simp) 3;have e:(aa.mk 14 n u t p [c0,c1] aM).kf.f=c0.kf.at 3++(32::(n++(32::c1.kf.at 3))):=by simp[aa.kf,aa.cW,dP,ho]
   rw[e];clear e hW hE hA hk iw;generalize c0.kf.at 3=s03 at *;generalize c1.kf.at 3=s13 at *;obtain⟨k0,n0,u0,t0,p0,q0,r0⟩:=c0;obtain⟨k1,n1,u1,t1,p1,q1,r1⟩:=c1;simp only[aa.cells,br,List.map_cons,List.map_nil,aa.aw,aa.aN]at Wj g13;simp only[go_sem,simprocAttr,mb,mA,aa.cells,aa.aw,aa.aN,br,List.length_map]
   repeat' first
    |(with_reducible refine ag _ (fun h=>?_) (fun h=>?_)<;>simp only[go_sem,simprocAttr,h,List.length_map,fX,fY,fZ,ga,gb])
    |(with_reducible refine U (zQ _) ?_;simp only[go_sem,simprocAttr,List.length_map,fX,fY,fZ,ga,gb])
    |(with_reducible refine aQ (fun A=>Wj _) (bP.refl _) ?_;simp only[go_sem,simprocAttr,List.length_map,fX,fY,fZ,ga,gb])
    |(with_reducible refine aQ (fun A=>g13 _) (bP.refl _) ?_;simp only[go_sem,simprocAttr,List.length_map,fX,fY,fZ,ga,gb])
    |(refine ao ?_;simp only[go_sem,simprocAttr,List.length_map,fX,fY,fZ,ga,gb])
    |(refine And.intro (by(try simp only[aC,LL]);omega) ?_;try simp only[go_sem,simprocAttr,List.length_map,fX,fY,fZ,ga,gb])
    |(intro _)
   all_goals first|exact⟨s2 (by simp),_,rfl⟩|exact⟨_,rfl⟩
  ·obtain⟨c0,c1,rfl⟩:=l9 (l:=ks) (by simpa using(by simpa using cO:_/\_).1)
   simp only[aa.fh]at cL;have a04:=hE c0 (by simp) 4;have g04:=hk c0 (by simp) 4;have a15:=hE c1 (by simp) 5;have g15:=hk c1 (by simp) 5;have e:(aa.mk 14 n u t p [c0,c1] aM).kf.f=c0.kf.at 4++(32::(n++(32::c1.kf.at 5))):=by simp[aa.kf,aa.cW,dP,ho]
   rw[e];clear e hW hE hA hk iw;generalize c0.kf.at 4=s04 at *;generalize c1.kf.at 5=s15 at *;obtain⟨k0,n0,u0,t0,p0,q0,r0⟩:=c0;obtain⟨k1,n1,u1,t1,p1,q1,r1⟩:=c1;simp only[aa.cells,br,List.map_cons,List.map_nil,aa.aw,aa.aN]at g04 g15;simp only[go_sem,simprocAttr,mb,mA,aa.cells,aa.aw,aa.aN,br,List.length_map]
   repeat' first
    |(with_reducible refine ag _ (fun h=>?_) (fun h=>?_)<;>simp only[go_sem,simprocAttr,h,List.length_map,fX,fY,fZ,ga,gb])
    |(with_reducible refine U (zQ _) ?_;simp only[go_sem,simprocAttr,List.length_map,fX,fY,fZ,ga,gb])
    |(with_reducible refine aQ (fun A=>g04 _) (bP.refl _) ?_;simp only[go_sem,simprocAttr,List.length_map,fX,fY,fZ,ga,gb])
    |(with_reducible refine aQ (fun A=>g15 _) (bP.refl _) ?_;simp only[go_sem,simprocAttr,List.length_map,fX,fY,fZ,ga,gb])
    |(refine ao ?_;simp only[go_sem,simprocAttr,List.length_map,fX,fY,fZ,ga,gb])
    |(refine And.intro (by(try simp only[aC,LL]);omega) ?_;try simp only[go_sem,simprocAttr,List.length_map,fX,fY,fZ,ga,gb])
    |(intro _)
   all_goals first|exact⟨s2 (by simp),_,rfl⟩|exact⟨_,rfl⟩
  ·obtain⟨c0,c1,rfl⟩:=l9 (l:=ks) (by simpa using(by simpa using cO:_/\_).1)
   simp only[aa.fh]at cL;have a03:=hE c0 (by simp) 3;have Wj:=hk c0 (by simp) 3;have a14:=hE c1 (by simp) 4;have g14:=hk c1 (by simp) 4;have e:(aa.mk 14 n u t p [c0,c1] aM).kf.f=c0.kf.at 3++(32::(n++(32::c1.kf.at 4))):=by simp[aa.kf,aa.cW,dP,ho]
   rw[e];clear e hW hE hA hk iw;generalize c0.kf.at 3=s03 at *;generalize c1.kf.at 4=s14 at *;obtain⟨k0,n0,u0,t0,p0,q0,r0⟩:=c0;obtain⟨k1,n1,u1,t1,p1,q1,r1⟩:=c1;simp only[aa.cells,br,List.map_cons,List.map_nil,aa.aw,aa.aN]at Wj g14;simp only[go_sem,simprocAttr,mb,mA,aa.cells,aa.aw,aa.aN,br,List.length_map]
   repeat' first
    |(with_reducible refine ag _ (fun h=>?_) (fun h=>?_)<;>simp only[go_sem,simprocAttr,h,List.length_map,fX,fY,fZ,ga,gb])
    |(with_reducible refine U (zQ _) ?_;simp only[go_sem,simprocAttr,List.length_map,fX,fY,fZ,ga,gb])
    |(with_reducible refine aQ (fun A=>Wj _) (bP.refl _) ?_;simp only[go_sem,simprocAttr,List.length_map,fX,fY,fZ,ga,gb])
    |(with_reducible refine aQ (fun A=>g14 _) (bP.refl _) ?_;simp only[go_sem,simprocAttr,List.length_map,fX,fY,fZ,ga,gb])
    |(refine ao ?_;simp only[go_sem,simprocAttr,List.length_map,fX,fY,fZ,ga,gb])
    |(refine And.intro (by(try simp only[aC,LL]);omega) ?_;try simp only[go_sem,simprocAttr,List.length_map,fX,fY,fZ,ga,gb])
    |(intro _)
   all_goals first|exact⟨s2 (by simp),_,rfl⟩|exact⟨_,rfl⟩
 have oY:k=10\/k=11\/k=12\/k=13:=by
  rw[if_neg h1,if_neg h2,if_neg h3,if_neg h4,if_neg h5,if_neg h6,if_neg h7,if_neg h8,if_neg h9]at cO;by_cases jt:k=10
  ·exact .inl jt
  by_cases sf:k=11
  ·exact .inr (.inl sf)
  by_cases gv:k=12
  ·exact .inr (.inr (.inl gv))
  by_cases Gf:k=13
  ·exact .inr (.inr (.inr Gf))
  rw[if_neg jt,if_neg sf,if_neg gv,if_neg Gf,if_neg si,if_neg DC]at cO;cases cO
 have kQ:=kQ oY;clear hW hE hA hk iw;generalize (aa.mk k n u t p ks aM).kf.f=s at *;simp only[aa.cells,br,List.map_cons,List.map_nil,aa.aw,aa.aN]at kQ;have d1:decide (k=1)=false:=decide_eq_false h1;have d2:decide (k=2)=false:=decide_eq_false h2;have d3:decide (k=3)=false:=decide_eq_false h3;have d4:decide (k=4)=false:=decide_eq_false h4;have d5:decide (k=5)=false:=decide_eq_false h5;have d6:decide (k=6)=false:=decide_eq_false h6;have d7:decide (k=7)=false:=decide_eq_false h7;have d8:decide (k=8)=false:=decide_eq_false h8;have d9:decide (k=9)=false:=decide_eq_false h9;have d14:decide (k=14)=false:=decide_eq_false si;have d15:decide (k=15)=false:=decide_eq_false DC;simp only[go_sem,simprocAttr,mb,mA,aa.cells,aa.aw,aa.aN,br,List.length_map,d1,d2,d3,d4,d5,d6,d7,d8,d9,d14,d15]
 repeat' first
  |(with_reducible refine ag _ (fun h=>?_) (fun h=>?_)<;>simp only[go_sem,simprocAttr,h])
  |(with_reducible refine U (kQ _) ?_;simp only[go_sem,simprocAttr])
  |(refine ao ?_;simp only[go_sem,simprocAttr])
  |(refine And.intro (by(try simp only[aC,LL]);omega) ?_;try simp only[go_sem,simprocAttr])
  |(intro _)
 all_goals exact⟨_,rfl⟩
theorem ZJ (k:Int) (n:List UInt8) (u:Int) (t:List UInt8) (p:Int) (ks:List aa) (aM:List al) (b9:(aa.mk k n u t p ks aM).okB=true) (hl:(aa.mk k n u t p ks aM).kf.f.length<=200000000000)
  (hf:∀H,aA Tryz.prog 69 [br (aa.cells (.mk k n u t p ks aM))] H (aW (.p (.s (aa.mk k n u t p ks aM).kf.f)) H)):uK (.mk k n u t p ks aM):=by
 intro a H;have zQ:=Wg k n u t p ks aM b9;rw[KF.at];generalize (aa.mk k n u t p ks aM).kf=f at *;refine aD ?_ (bw _);refine call28 (by simp) ?_;simp only[aa.cells,br,List.map_cons,List.map_nil,aa.aw,aa.aN]at hf zQ;simp only[go_sem,simprocAttr,U2,ab0,aa.cells,aa.aw,aa.aN,br,List.length_map]
 repeat' first
  |(with_reducible refine ag _ (fun h=>?_) (fun h=>?_)<;>simp only[go_sem,simprocAttr,h,List.length_map])
  |(with_reducible refine aQ (fun A=>hf _) (bP.refl _) ?_;simp only[go_sem,simprocAttr,List.length_map])
  |(with_reducible refine aQ (fun A=>zQ _) (bP.refl _) ?_;simp only[go_sem,simprocAttr,List.length_map])
  |(with_reducible refine U (ij (by omega) _ _ _) ?_;simp only[go_sem,simprocAttr,List.length_map])
  |(refine ao ?_;simp only[go_sem,simprocAttr,List.length_map])
  |(refine And.intro (by(try simp only[aC,LL]);omega) ?_;try simp only[go_sem,simprocAttr,List.length_map])
  |(intro _)
 all_goals exact⟨_,rfl⟩
theorem ZK (p:aa) (h:p.sz≤1073741824) (b9:p.okB=true) (hf:p.fit):uK p:=by
  have :∀(m:Nat) (p:aa),p.sz<m→p.sz≤1073741824→p.okB=true →p.fit→uK p:=by
    intro m
    induction m with
    |zero=>intro p h;omega
    |succ m ih=>
     intro p h h2 b9 hf;have FJ:=aa.jj p hf;obtain⟨k,n,u,t,q,ks,aM⟩:=p;have cL:=h2;rw[aa.sz]at h h2;have M6:=b9;have hf2:=hf;rw[aa.okB,aa.jN,aa.Bc,Bool.and_eq_true,Bool.and_eq_true,List.all_eq_true,List.all_eq_true]at b9;rw[aa.fit]at hf;refine ZJ _ _ _ _ _ _ _ M6 (by omega) (ad8 _ _ _ _ _ _ _ M6 hf2 h2 (fun a ha=> ?_) fun q e ha=> ?_)
     · rw[aa.dr]at h h2
       have :=bM aa.sz ha;exact ih a (by omega) (by omega) (b9.2.1 a ha) (aa.mT hf.2.1 ha)
     · rw[aa.lN]at h h2
       have :=bM al.sz ha;rw[al.sz]at this;have h3:=b9.2.2 _ ha;rw[al.okB,Bool.and_eq_true]at h3;have h4:=aa.zK hf.2.2 ha;rw[al.fit]at h4;exact⟨ad6 q (by omega) h3.1 h4.1,ih e (by omega) (by omega) h3.2 h4.2⟩
  exact this _ p (Nat.lt_succ_self _) h b9 hf
end Go.Proofs.YtjkbbnfdbfcebaaGreatDoor.Qp