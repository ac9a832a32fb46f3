/- Texts QfG QfH QfI QfJ QfK QfL QfM QfN QfO QfP QjH QjK, merged. -/
import Derived.Test.YteilijfligofdaaGreatDoorKBF
import Derived.Shelf.Strconv.Itoa3
import Derived.Shelf.Strings.OnBuilder
import Derived.Lib.LaidTab
set_option linter.all false
namespace Go.Proofs.YteilijfligofdaaGreatDoor.Qp
open Go.AM Go.Shelf Mc Pg
def Jg:Ren:=⟨fun x=>match x with|156=>106|165=>148|166=>149|169=>150|240=>172|241=>173|276=>193|277=>194|n=>n,fun x=>match x with|31=>81|37=>22|70=>164|72=>166|75=>168|76=>169|127=>184|164=>194|80=>171|n=>n,fun n=>n⟩
theorem As:Lays.n156 Tryz.prog Jg where
 mixed:=by kernel_rfl
 f156:=Eq.trans Tryz.func106 (by kernel_rfl)
 f165:=Eq.trans Tryz.func148 (by kernel_rfl)
 f166:=Eq.trans Tryz.func149 (by kernel_rfl)
 f169:=Eq.trans Tryz.func150 (by kernel_rfl)
 f240:=Eq.trans Tryz.func172 (by kernel_rfl)
 f241:=Eq.trans Tryz.func173 (by kernel_rfl)
 f276:=Eq.trans Tryz.func193 (by kernel_rfl)
 f277:=Eq.trans Tryz.func194 (by kernel_rfl)
 t0:=Tryz.underlying0
 a0:=Tryz.isAgg0
 z0:=Tryz.sizeOf0
 v0:=Tryz.zeroValue0
 t3:=Tryz.underlying3
 a3:=Tryz.isAgg3
 z3:=Tryz.sizeOf3
 v3:=Tryz.zeroValue3
 t4:=Tryz.underlying4
 a4:=Tryz.isAgg4
 z4:=Tryz.sizeOf4
 v4:=Tryz.zeroValue4
 t9:=Tryz.underlying9
 a9:=Tryz.isAgg9
 z9:=Tryz.sizeOf9
 v9:=Tryz.zeroValue9
 t20:=Tryz.underlying20
 a20:=Tryz.isAgg20
 z20:=Tryz.sizeOf20
 v20:=Tryz.zeroValue20
 t31:=Tryz.underlying81
 a31:=Tryz.isAgg81
 z31:=Tryz.sizeOf81
 v31:=Tryz.zeroValue81
 t37:=Tryz.underlying22
 a37:=Tryz.isAgg22
 z37:=Tryz.sizeOf22
 v37:=Tryz.zeroValue22
 t70:=Tryz.underlying164
 a70:=Tryz.isAgg164
 z70:=Tryz.sizeOf164
 v70:=Tryz.zeroValue164
 t72:=Tryz.underlying166
 a72:=Tryz.isAgg166
 z72:=Tryz.sizeOf166
 v72:=Tryz.zeroValue166
 t75:=Tryz.underlying168
 a75:=Tryz.isAgg168
 z75:=Tryz.sizeOf168
 v75:=Tryz.zeroValue168
 t76:=Tryz.underlying169
 a76:=Tryz.isAgg169
 z76:=Tryz.sizeOf169
 v76:=Tryz.zeroValue169
 t127:=Tryz.underlying184
 a127:=Tryz.isAgg184
 z127:=Tryz.sizeOf184
 v127:=Tryz.zeroValue184
 t164:=Tryz.underlying194
 a164:=Tryz.isAgg194
 z164:=Tryz.sizeOf194
 v164:=Tryz.zeroValue194
theorem xC:Builder.Extra Tryz.prog Jg where
 sizeBuilder:=by kernel_rfl
 liesBuilder:=by kernel_rfl
 t5:=Tryz.underlying5
 a5:=Tryz.isAgg5
 z5:=Tryz.sizeOf5
 v5:=Tryz.zeroValue5
 infoByte:=by kernel_rfl
 cellsByte:=by kernel_rfl
 sizeByte:=by kernel_rfl
 neB5:=by decide
theorem PW:LaysM.n171 Tryz.prog HY:={zT with }
def Tb (H:List AO):Prop:=∃(i:Nat) (ty:TypeId) (fz:Nat×Nat),H[i]?=some (AO.Fj 0 (.int .u64 1) (.cells (Lib.pow10Tab.map fun z=>Value.int .u64 z).toArray ty fz))
theorem Tb.ext {H:List AO} (h:Tb H) (A:List AO):Tb (H++A):=by
 obtain⟨i,te,pe,h⟩:=h;exact⟨i,te,pe,ag h A⟩
theorem Tb.eF {H H':List AO} (h:Tb H) (k:∀(j:Nat) o,H[j]?=some o->H'[j]?=some o):Tb H':=by
 obtain⟨i,te,pe,h⟩:=h;exact⟨i,te,pe,k _ _ h⟩
theorem Wh {θ:Th} {W:Im} {k:IntKind} {n:Int} {vs:Array Value} (hr:xI θ W [.p (.i k n)] vs):vs=#[.int k n]:=by
  obtain⟨sx,oO⟩:=hr;have hs:vs.toList.length=1:=by simpa using sx
  match hl:vs.toList,hs with
  |[a],_ =>
   have :=oO 0 _ a rfl (by rw[←Array.getElem?_toList,hl];rfl);cases this.gE;rw[←Array.toList_inj];exact hl
theorem Wi (n:Nat):mG n=Lib.decDigits n:=by
  induction n using Nat.strongRecOn with
  |_ n ih=>
   rw[mG,Lib.decDigits];split
   · rfl
   · rw[ih (n/10) (by omega)]
theorem ZG {n:Nat} (h:n<=9223372036854775807):(mG n).length<=20:=zV 19 n (by omega)
theorem Wj {n:Int} {H:List AO} (hT:Tb H) (h0:0<=n) (h1:n<=9223372036854775807):al Tryz.prog 61 [.p (.i .i64 n)] H (aP (.p (.s (uD n))) H):=by
 refine nY ⟨_,Tryz.func61,rfl,rfl⟩ ?_;intro w θ W vs jI hr;obtain rfl:=Wh hr;obtain⟨i,ty,fz,hi⟩:=hT;have hW:=(jI.obj i _ hi).2.1;refine(Any.strconv_Itoa PW n (by omega) h1 w ?_).mono ?_
 ·unfold Lib.TabIs World.var?
  rw[show Tryz.prog.globalNamed "internal/strconv.uint64pow10"=some 0 by kernel_rfl];simp only[Option.bind];rw[hW]
 rintro e w' ⟨rfl,k,os,rfl⟩;refine⟨_,rfl,?_,rfl,rfl,rfl,?_,fun k hk=>?_⟩
 ·have e:Lib.itoa n=uD n:=by rw[Lib.itoa,if_neg (by omega),uD,Wi]
  rw[e];exact .p _ _ (.s _ (by have:=ZG (n:=n.toNat) (by omega);rw[uD,bP];omega))
 ·show w.heap.size<=(w.heap++os).size
  simp
 ·show(w.heap++os)[k]?=_
  rw[Array.getElem?_append_left hk]
theorem vL (sep:List UInt8):∀l:List (List UInt8),cC sep l=Lib.join l sep
  |[]=>rfl
  |[a]=>by rw[cC,Lib.join_one]
  |a::b::l=>by
   show a++(sep++cC sep (b::l))=_;rw[vL sep (b::l),Lib.join_cons,Lib.join_cons];simp[Lib.joinTail]
theorem adS {id ver:Nat} {xs:List (List UInt8)} {sep:List UInt8} {H:List AO} (hid:H[id]?=some (.rows 1 ver (gr xs))) (hlen:(cC sep xs).length≤140737488355328):
    al Tryz.prog 106 [.gs id ver 0 xs.length, .p (.s sep)] H (aP (.p (.s (cC sep xs))) H):=by
  refine nY ⟨_,Tryz.func106,rfl,rfl⟩ ?_;intro w θ W vs jI hr;obtain⟨sx,oO⟩:=hr;have hs:vs.toList.length=2:=by simpa using sx
  obtain⟨Jv,_,_⟩:=jI.obj id _ hid
  match hl:vs.toList,hs with
  |[a,b],_ =>
   have ha:=oO 0 _ a rfl (by rw[←Array.getElem?_toList,hl];rfl);have hb:=oO 1 _ b rfl (by rw[←Array.getElem?_toList,hl];rfl);obtain rfl:vs=#[a,b]:=by rw[←Array.toList_inj];exact hl
   obtain⟨rfl,agL⟩:=hb.pb
   have fin:∀{bk o c:Nat},(∀(j:Nat) x,(xs.map fun l=>(⟨l.toArray⟩:ByteArray))[j]?=some x→w.cell? ⟨bk,o+j,none⟩=some (.string x))→bk<w.heap.size→xs.length≤140737488355328→xs.length≤c→
       Calls Tryz.prog 106 #[.slice (some ⟨bk,o,none⟩) xs.length c, .string ⟨sep.toArray⟩] w fun e w'=>∃rv,e= .returned rv∧bb θ W (.p (.s (cC sep xs))) rv∧w'.os=w.os∧w'.tape=w.tape∧w'.output=w.output∧w.heap.size≤w'.heap.size∧∀k,k<w.heap.size→w'.heap[k]?=w.heap[k]?:=by
     intro bk o c h1 h2 h3 h4;have ej:(xs.map fun l=>(⟨l.toArray⟩:ByteArray)).map (·.data.toList)=xs:=by simp[List.map_map,Function.comp_def]
     have :=Any.strings_Join As xC bk o c (xs.map fun l=>(⟨l.toArray⟩:ByteArray)) ⟨sep.toArray⟩ w h1 h2 (by rw[List.length_map];exact h3) (by rw[List.length_map];exact h4) (by rw[ej];rw[vL]at hlen;simpa using hlen);rw[List.length_map,ej]at this;refine this.mono ?_;rintro e w' ⟨rfl,h5⟩;refine⟨_,rfl, ?_,h5.os,h5.tape,h5.output,h5.size,fun k hk=>h5.block k hk⟩;rw[vL];exact .p _ _ (.s _ (by rw[bP,←vL];exact hlen))
   rcases Jv with⟨hn,he⟩|⟨b0,br,ty,cs,Ft,Wk,eN,hle,qL,eV,aax⟩
   · have hx:xs=[]:=by simpa[gr]using he
     subst hx
     cases ha with
     |eS _ _ _ _ a cap h vQ hm=>rw[h]at hn;cases hn
     |gC _ _ h=>
      refine(Any.strings_Join_none As xC none 0 ⟨sep.toArray⟩ w).mono ?_;rintro e w' ⟨rfl,rfl⟩
      exact⟨_,rfl, .p _ _ (.s _ (by rw[cC,bP];simp)),rfl,rfl,rfl,Nat.le_refl _,fun _ _ =>rfl⟩
     |gs _ _ _ _ b sz br o cap h vQ hm hc ho h0=>rw[h]at hn;cases hn
   · generalize hxl:xs.length=m at ha
     cases ha with
     |eS _ _ _ _ a cap h vQ hm=>rw[h]at Ft;cases Ft
     |gC _ _ h=>rw[h]at Ft;cases Ft
     |gs _ _ _ _ b sz gn o cap h vQ hm hc ho h0=>
      rw[h]at Ft;cases Ft;have mO:=h0 rfl;subst mO;rw[←hxl]at hm vQ⊢;refine fin (bk:=b0) (o:=0) ?_ (Array.getElem?_eq_some_iff.1 Wk).1 (by rw[bP]at hm;exact hm) vQ;intro j x hx;rw[List.getElem?_map]at hx
      cases ZH:xs[j]?with
      |none =>rw[ZH]at hx;cases hx
      |some s=>
       rw[ZH]at hx;cases hx;have ah9:=(List.getElem?_eq_some_iff.1 ZH).1;have Hu:j<cs.size:=by rw[eN];simp[gr]at hle;omega
       have h1:(gr xs)[j]?=some [.p (.s s)]:=by simp[gr,ZH]
       have h2:=eV j _ 0 _ cs[j] h1 rfl (by simp[Hu]);obtain⟨e,_⟩:=h2.pb;unfold World.cell?;simp only[Wk];simp[Hu,e]
end Go.Proofs.YteilijfligofdaaGreatDoor.Qp
namespace Go.Proofs.YteilijfligofdaaGreatDoor.Qp
open Go.AM Mc Pg
theorem GK {C:iZ} {Hm Hc:List AO} {x:MA} {xs:List MA} {d:MD} {J:PK} {st:St} {f:Nat} {eL:List AV} (hx:st.get x=.eB f eL) (h:oK C Hm Hc [] f (fF st xs++eL) d J st):Ea C Hm Hc (.sY x xs) d J st:=by
 unfold Ea;simp only[hx];exact h
theorem s2 {a b:List UInt8} (h:a=b):AV.p (.s a)=AV.p (.s b):=by rw[h]
theorem nB {s:List UInt8} (hs:s.length<=1099511627776) (l a:Int) (H:List AO):al Tryz.prog 66 [.p (.s s),.p (.i .i64 l),.p (.i .i64 a)] H (aP (.p (.s (kc s l a))) H):=by
 refine call66 (by simp) ?_;simp only[go_sem,simprocAttr,VD,abU]
 repeat' first
  |(with_reducible refine aW _ (fun h=>?_) (fun h=>?_)<;>simp only[go_sem,simprocAttr,h])
  |(refine ba ?_;simp only[go_sem,simprocAttr])
  |(refine And.intro (by(try simp only[bP,LL]);omega) ?_;try simp only[go_sem,simprocAttr])
  |(intro _)
 all_goals refine⟨s2 ?_,rfl⟩
 all_goals simp only[decide_eq_true_eq,decide_eq_false_iff_not]at *
 all_goals (simp[kc, *];done)
theorem Wl (u:Int) (H:List AO):al Tryz.prog 63 [.p (.i .i64 u)] H (aP (.p (.s (oy u))) H):=by
 refine call63 (by simp) ?_;simp only[go_sem,simprocAttr,VA,abR]
 repeat' first
  |(with_reducible refine aW _ (fun h=>?_) (fun h=>?_)<;>simp only[go_sem,simprocAttr,h])
  |(refine ba ?_;simp only[go_sem,simprocAttr])
  |(refine And.intro (by(try simp only[bP,LL]);omega) ?_;try simp only[go_sem,simprocAttr])
  |(intro _)
 all_goals refine⟨s2 ?_,rfl⟩
 all_goals simp only[decide_eq_true_eq,decide_eq_false_iff_not]at *
 all_goals (simp[oy, *];done)
theorem Wm (s:List UInt8) (H:List AO):al Tryz.prog 65 [.p (.s s)] H (aP (.dK [.p (.i .i64 (kQ s).1),.p (.i .i64 (kQ s).2.1),.p (.i .i64 (kQ s).2.2)]) H):=by
 refine call65 (by simp) ?_;simp only[go_sem,simprocAttr,VC,abT]
 repeat' first
  |(with_reducible refine aW _ (fun h=>?_) (fun h=>?_)<;>simp only[go_sem,simprocAttr,h])
  |(refine ba ?_;simp only[go_sem,simprocAttr])
  |(refine And.intro (by(try simp only[bP,LL]);omega) ?_;try simp only[go_sem,simprocAttr])
  |(intro _)
 all_goals refine⟨?_,rfl⟩
 all_goals simp only[decide_eq_true_eq,decide_eq_false_iff_not]at *
 all_goals (simp[kQ, *];done)
structure kT (H:List AO) (sz:Nat) (rs:List (List AV)) (a:AV) (X:List AO):Prop where
 own:iG X a sz rs
 new:∀id v o m,a=.gs id v o m->H.length<=id
 fr:∀(j:Nat) o,H[j]?=some o->X[j]?=some o
theorem kT.nil (H:List AO) (sz:Nat):kT H sz [] (.p .nl) H:=⟨.inl ⟨rfl,rfl⟩,fun _ _ _ _ e=>(by cases e),fun _ _ h=>h⟩
theorem kT.ext {H sz rs a X} (h:kT H sz rs a X) (A:List AO):kT H sz rs a (X++A):=⟨h.own.ext,h.new,fun j o hj=>ag (h.fr j o hj) A⟩
theorem kT.len {H sz rs a X} (h:kT H sz rs a X):H.length<=X.length:=uy h.fr
theorem kT.ends {H sz rs a X} (h:kT H sz rs a X):∃G,X=H++G:=gH h.fr
theorem kT.app {H sz rs a X} (h:kT H sz rs a X) {X':List AO} {ys:List (List AV)} {id ver n:Nat} (k1:X'[id]?=some (.rows sz ver (rs++ys))) (k2:(∃v o n,a=.gs id v o n)\/X.length<=id)
  (k3:∀(j:Nat) o,X[j]?=some o->(∀v o' n,a≠.gs j v o' n)->X'[j]?=some o) (hn:n=(rs++ys).length):kT H sz (rs++ys) (.gs id ver 0 n) X':=by
 subst hn;refine⟨.inr ⟨id,ver,rfl,k1⟩,?_,?_⟩
 ·rintro _ _ _ _ ⟨⟩
  rcases k2 with⟨v,o,n,e⟩|k2
  ·exact h.new _ _ _ _ e
  ·have:=h.len;omega
 ·intro j o hj
  refine k3 j o (h.fr j o hj) fun v o' n e=>?_
  have:=h.new _ _ _ _ e;have:=aT hj;omega
theorem Wn (sep:List UInt8) (H:List AO) (hs:sep.length≤ia):al Tryz.prog 106 [.p .nl, .p (.s sep)] H (aP (.p (.s [])) H):=by
  refine nY ⟨_,Tryz.func106,rfl,rfl⟩ ?_;intro w θ W vs jI hr;obtain⟨sx,oO⟩:=hr;have hs:vs.toList.length=2:=by simpa using sx
  match hl:vs.toList,hs with
  |[a,b],_ =>
   have ha:=oO 0 _ a rfl (by rw[←Array.getElem?_toList,hl];rfl);have hb:=oO 1 _ b rfl (by rw[←Array.getElem?_toList,hl];rfl);obtain rfl:vs=#[a,b]:=by rw[←Array.toList_inj];exact hl
   obtain⟨rfl,agL⟩:=hb.pb;cases ha.gE;refine(Any.strings_Join_none As xC none 0 ⟨sep.toArray⟩ w).mono ?_;rintro e w' ⟨rfl,rfl⟩;exact⟨_,rfl, .p _ _ (.s _ (by rw[bP];simp)),rfl,rfl,rfl,Nat.le_refl _,fun _ _ =>rfl⟩
theorem GL {H X:List AO} {xs:List (List UInt8)} {sep:List UInt8} {a:AV} (h:kT H 1 (gr xs) a X) (hs:sep.length<=100) (hlen:(cC sep xs).length<=140737488355328):
  al Tryz.prog 106 [a,.p (.s sep)] X (aP (.p (.s (cC sep xs))) X):=by
 rcases h.own with⟨rfl,e⟩|⟨id,ver,rfl,hid⟩
 ·obtain rfl:xs=[]:=by simpa[gr]using e
  exact Wn sep X (by rw[bP];omega)
 ·have:(gr xs).length=xs.length:=by simp[gr]
  rw[this];exact adS hid hlen
theorem vM (l:List (List UInt8)) (s:List UInt8):gr l++[[.p (.s s)]]=gr (l++[s]):=by simp[gr]
theorem gB (l:List (List UInt8)):(gr l).length=l.length:=by simp[gr]
def Au {α:Type} (f:Nat) (c:α->AV) (g:α->List UInt8) (l:List α) (asked:Int):Prop:=∀x∈l,∀H:List AO,Tb H->al Tryz.prog f [c x,.p (.i .i64 asked)] H (aP (.p (.s (g x))) H)
theorem Mu {f:Nat} {g:ae->List UInt8} {l:List ae} {asked:Int} (hf:Au f (fun x=>cJ x.cells) g l asked) {sep:List UInt8} (hs:sep.length<=100) (hl:l.length<=1073741824) (hlen:(cC sep (l.map g)).length<=140737488355328) {H:List AO} (hT:Tb H):
  al Tryz.prog 163 [.p (.l (l.map ae.cells)),.p (.i .i64 asked),.p (.s sep),.eB f []] H (aP (.p (.s (cC sep (l.map g)))) H):=by
 refine aV ?_ (bw _);refine call163 (by simp) ?_;simp only[go_sem,simprocAttr,Mr,VY,List.length_map];intro _;refine⟨Nat×AV×List AO,[1,2,3,8,9,12,13,14],fun x st=>(x.1<=l.length/\kT H 1 (gr ((l.take x.1).map g)) x.2.1 x.2.2)/\st=⟨[(1,.p (.i .i64 asked)),(2,.p (.s sep)),(3,.eB f []),(8,.p (.s [])),(9,x.2.1),(12,.p (.l (l.map ae.cells))),(13,.p (.i .i64 l.length)),(14,.p (.i .i64 x.1))],[],x.2.2⟩,fun x=>l.length-x.1,⟨(0,.p .nl,H),?_⟩,?_⟩
 ·simp only[go_sem,simprocAttr]
  exact⟨Nat.zero_le _,kT.nil H 1⟩
 rintro⟨x,a,X⟩ _ ⟨⟨hx,hB⟩,rfl⟩;simp only at hx hB;by_cases aF:x<l.length
 ·have d1:decide ((x:Int)<(l.length:Int))=true:=by simp;omega
  have dr:(x:Int)<(l.length:Int):=by omega
  have hg:(l.map ae.cells)[x]?=some (ae.cells l[x]):=by simp[aF]
  have hc:=hf l[x] (List.getElem_mem aF);have ht:(l.take (x+1)).map g=(l.take x).map g++[g l[x]]:=by rw[List.take_succ_eq_append_getElem aF,List.map_append,List.map_cons,List.map_nil]
  generalize l[x]=c at hg hc ht;obtain⟨ck,cn,cu,cp,DW⟩:=c;simp only[ae.cells,cJ,List.map_cons,List.map_nil]at hg hc;simp only[go_sem,simprocAttr,d1,dr,hg,List.length_map];have vZ:=fun A=>hB.ext A
  have D4:=fun A=>hT.eF (vZ A).fr
  refine U (hc _ (D4 _)) ?_;simp only[go_sem,simprocAttr];refine⟨by intro r hr;simp at hr;subst hr;rfl,?_⟩;have gy:(l.take x).length=x:=by simp;omega
  refine gb (rs:=gr ((l.take x).map g)) (vZ _).own (by rw[gB,List.length_map,gy];simp;omega) (by rw[gB,List.length_map,gy];simp;omega) ?_;intro id ver X2 k1 k2 k3 k4;have hJ:=(vZ _).app k1 k2 k3 (n:=x+1) (by rw[List.length_append,gB,List.length_map,gy];rfl);simp only[go_sem,simprocAttr,cH x (by omega),gB,List.length_map];rw[vM,<-ht]at hJ;exact⟨(x+1,_,X2),⟨⟨by omega,hJ⟩,by rw[gy]⟩,by simp only;omega⟩
 ·have d1:decide ((x:Int)<(l.length:Int))=false:=by simp;omega
  rw[List.take_of_length_le (by omega)]at hB;simp only[go_sem,simprocAttr,d1];refine U (GL hB hs hlen) ?_;simp only[go_sem,simprocAttr];exact hB.ends
theorem Fg {f:Nat} {g:af->List UInt8} {l:List af} {asked:Int} (hf:Au f (fun x=>cJ x.cells) g l asked) {sep:List UInt8} (hs:sep.length<=100) (hl:l.length<=1073741824) (hlen:(cC sep (l.map g)).length<=140737488355328) {H:List AO} (hT:Tb H):
  al Tryz.prog 147 [.p (.l (l.map af.cells)),.p (.i .i64 asked),.p (.s sep),.eB f []] H (aP (.p (.s (cC sep (l.map g)))) H):=by
 refine aV ?_ (bw _);refine call147 (by simp) ?_;simp only[go_sem,simprocAttr,Mm,VO,List.length_map];intro _;refine⟨Nat×AV×List AO,[1,2,3,8,9,12,13,14],fun x st=>(x.1<=l.length/\kT H 1 (gr ((l.take x.1).map g)) x.2.1 x.2.2)/\st=⟨[(1,.p (.i .i64 asked)),(2,.p (.s sep)),(3,.eB f []),(8,.p (.s [])),(9,x.2.1),(12,.p (.l (l.map af.cells))),(13,.p (.i .i64 l.length)),(14,.p (.i .i64 x.1))],[],x.2.2⟩,fun x=>l.length-x.1,⟨(0,.p .nl,H),?_⟩,?_⟩
 ·simp only[go_sem,simprocAttr]
  exact⟨Nat.zero_le _,kT.nil H 1⟩
 rintro⟨x,a,X⟩ _ ⟨⟨hx,hB⟩,rfl⟩;simp only at hx hB;by_cases aF:x<l.length
 ·have d1:decide ((x:Int)<(l.length:Int))=true:=by simp;omega
  have dr:(x:Int)<(l.length:Int):=by omega
  have hg:(l.map af.cells)[x]?=some (af.cells l[x]):=by simp[aF]
  have hc:=hf l[x] (List.getElem_mem aF);have ht:(l.take (x+1)).map g=(l.take x).map g++[g l[x]]:=by rw[List.take_succ_eq_append_getElem aF,List.map_append,List.map_cons,List.map_nil]
  generalize l[x]=c at hg hc ht;obtain⟨ck,cn,cp,DW⟩:=c;simp only[af.cells,cJ,List.map_cons,List.map_nil]at hg hc;simp only[go_sem,simprocAttr,d1,dr,hg,List.length_map];have vZ:=fun A=>hB.ext A
  have D4:=fun A=>hT.eF (vZ A).fr
  refine U (hc _ (D4 _)) ?_;simp only[go_sem,simprocAttr];refine⟨by intro r hr;simp at hr;subst hr;rfl,?_⟩;have gy:(l.take x).length=x:=by simp;omega
  refine gb (rs:=gr ((l.take x).map g)) (vZ _).own (by rw[gB,List.length_map,gy];simp;omega) (by rw[gB,List.length_map,gy];simp;omega) ?_;intro id ver X2 k1 k2 k3 k4;have hJ:=(vZ _).app k1 k2 k3 (n:=x+1) (by rw[List.length_append,gB,List.length_map,gy];rfl);simp only[go_sem,simprocAttr,cH x (by omega),gB,List.length_map];rw[vM,<-ht]at hJ;exact⟨(x+1,_,X2),⟨⟨by omega,hJ⟩,by rw[gy]⟩,by simp only;omega⟩
 ·have d1:decide ((x:Int)<(l.length:Int))=false:=by simp;omega
  rw[List.take_of_length_le (by omega)]at hB;simp only[go_sem,simprocAttr,d1];refine U (GL hB hs hlen) ?_;simp only[go_sem,simprocAttr];exact hB.ends
theorem Mv {f:Nat} {g:aa->List UInt8} {l:List aa} {asked:Int} (hf:Au f (fun x=>cJ x.cells) g l asked) {sep:List UInt8} (hs:sep.length<=100) (hl:l.length<=1073741824) (hlen:(cC sep (l.map g)).length<=140737488355328) {H:List AO} (hT:Tb H):
  al Tryz.prog 64 [.p (.l (l.map aa.cells)),.p (.i .i64 asked),.p (.s sep),.eB f []] H (aP (.p (.s (cC sep (l.map g)))) H):=by
 refine aV ?_ (bw _);refine call64 (by simp) ?_;simp only[go_sem,simprocAttr,VB,abS,List.length_map];intro _;refine⟨Nat×AV×List AO,[1,2,3,8,9,12,13,14],fun x st=>(x.1<=l.length/\kT H 1 (gr ((l.take x.1).map g)) x.2.1 x.2.2)/\st=⟨[(1,.p (.i .i64 asked)),(2,.p (.s sep)),(3,.eB f []),(8,.p (.s [])),(9,x.2.1),(12,.p (.l (l.map aa.cells))),(13,.p (.i .i64 l.length)),(14,.p (.i .i64 x.1))],[],x.2.2⟩,fun x=>l.length-x.1,⟨(0,.p .nl,H),?_⟩,?_⟩
 ·simp only[go_sem,simprocAttr]
  exact⟨Nat.zero_le _,kT.nil H 1⟩
 rintro⟨x,a,X⟩ _ ⟨⟨hx,hB⟩,rfl⟩;simp only at hx hB;by_cases aF:x<l.length
 ·have d1:decide ((x:Int)<(l.length:Int))=true:=by simp;omega
  have dr:(x:Int)<(l.length:Int):=by omega
  have hg:(l.map aa.cells)[x]?=some (aa.cells l[x]):=by simp[aF]
  have hc:=hf l[x] (List.getElem_mem aF);have ht:(l.take (x+1)).map g=(l.take x).map g++[g l[x]]:=by rw[List.take_succ_eq_append_getElem aF,List.map_append,List.map_cons,List.map_nil]
  generalize l[x]=c at hg hc ht;obtain⟨ck,cn,cu,ct,cp,DW,Zw⟩:=c;simp only[aa.cells,cJ,List.map_cons,List.map_nil]at hg hc;simp only[go_sem,simprocAttr,d1,dr,hg,List.length_map];have vZ:=fun A=>hB.ext A
  have D4:=fun A=>hT.eF (vZ A).fr
  refine U (hc _ (D4 _)) ?_;simp only[go_sem,simprocAttr];refine⟨by intro r hr;simp at hr;subst hr;rfl,?_⟩;have gy:(l.take x).length=x:=by simp;omega
  refine gb (rs:=gr ((l.take x).map g)) (vZ _).own (by rw[gB,List.length_map,gy];simp;omega) (by rw[gB,List.length_map,gy];simp;omega) ?_;intro id ver X2 k1 k2 k3 k4;have hJ:=(vZ _).app k1 k2 k3 (n:=x+1) (by rw[List.length_append,gB,List.length_map,gy];rfl);simp only[go_sem,simprocAttr,cH x (by omega),gB,List.length_map];rw[vM,<-ht]at hJ;exact⟨(x+1,_,X2),⟨⟨by omega,hJ⟩,by rw[gy]⟩,by simp only;omega⟩
 ·have d1:decide ((x:Int)<(l.length:Int))=false:=by simp;omega
  rw[List.take_of_length_le (by omega)]at hB;simp only[go_sem,simprocAttr,d1];refine U (GL hB hs hlen) ?_;simp only[go_sem,simprocAttr];exact hB.ends
end Go.Proofs.YteilijfligofdaaGreatDoor.Qp
namespace Go.Proofs.YteilijfligofdaaGreatDoor.Qp
open Go.AM Go.Shelf Mc Pg
theorem xD (l m:List UInt8):cR (l++m)=cR l++cR m:=by simp[cR]
theorem Wo {l:List UInt8}:∀r∈cR l,r.length=1:=by
 intro r hr;obtain⟨c,_,rfl⟩:=List.mem_map.1 hr
 rfl
theorem Wp {s:List UInt8} (hs:s.length<=1073741824) (H:List AO):al Tryz.prog 62 [.p (.s s)] H (aP (.p (.s (wx s))) H):=by
 refine aV ?_ (bw _);refine call62 (by simp) ?_;simp only[go_sem,simprocAttr,Vz,abQ]
 have hq:∀x,(34::((s.take x).map ff).flatten).length<=2*s.length+1:=fun x=>by
  have:=CJ (s.take x);unfold wx at this;rw[List.length_cons,List.length_append,List.length_singleton,List.length_take]at this;rw[List.length_cons];omega
 refine⟨Nat×AV×List AO,[0,2,3,4],fun x st=>(x.1<=s.length/\kT H 1 (cR (34::((s.take x.1).map ff).flatten)) x.2.1 x.2.2)/\st=⟨[(0,.p (.s s)),(2,.p (.s [])),(3,x.2.1),(4,.p (.i .i64 x.1))],[],x.2.2⟩,fun x=>s.length-x.1,⟨(0,.gs H.length 0 0 1,H++[.rows 1 0 [[.p (.i .u8 34)]]]),?_⟩,?_⟩
 ·simp only[go_sem,simprocAttr]
  exact⟨Nat.zero_le _,.inr ⟨H.length,0,rfl,by rw[fX];rfl⟩,fun _ _ _ _ e=>by cases e;exact Nat.le_refl _,fun j o hj=>ag hj _⟩
 rintro⟨x,a,X⟩ _ ⟨⟨hx,hB⟩,rfl⟩;simp only at hx hB;have ZI:=hq x;have Wq:=hq (x+1);by_cases aF:x<s.length
 ·have d1:decide ((x:Int)<(s.length:Int))=true:=by simp;omega
  have hg:s[x]?=some s[x]:=by simp[aF]
  have ht:34::((s.take (x+1)).map ff).flatten=34::((s.take x).map ff).flatten++ff s[x]:=by rw[List.take_succ_eq_append_getElem aF,List.map_append,List.flatten_append];simp
  rw[ht,List.length_append]at Wq;generalize s[x]=c at hg ht Wq;generalize (34::((s.take x).map ff).flatten:List UInt8)=l at hB ZI ht Wq
  have key:∀ys:List (List AV),ys=cR (ff c)->∀(K:St->Prop) (L T:En) (d:MD) (A:List AO),(∀id ver X2,kT H 1 (cR (l++ff c)) (.gs id ver 0 (l.length+ys.length)) X2->K (St.put ⟨L,T,X2⟩ d (.gs id ver 0 (l.length+ys.length))))->lR 1 1 a ys d K ⟨L,T,X++A⟩:=by
   rintro ys rfl K L T d A k;have pr:(cR l).length=l.length:=bF _;have Mw:(cR (ff c)).length=(ff c).length:=bF _;refine gb (rs:=cR l) (hB.ext A).own (by rw[pr,Mw];omega) (by rw[pr,Mw];omega) ?_;intro id ver X2 k1 k2 k3 k4;have hJ:=(hB.ext A).app k1 k2 k3 (n:=l.length+(cR (ff c)).length) (by rw[List.length_append,pr]);rw[<-xD]at hJ;have:=k id ver X2 hJ;rwa[pr]
  simp only[go_sem,simprocAttr,d1,hg];intro _;cases lN:decide ((c.toNat:Int)=10)
  ·cases gk:decide ((c.toNat:Int)=34)
   ·cases tq:decide ((c.toNat:Int)=92)
    ·have e:ff c=[c]:=by unfold ff;rw[if_neg (of_decide_eq_false lN),if_neg (by intro h;rcases h with h|h;exact of_decide_eq_false gk h;exact of_decide_eq_false tq h)]
     simp only[go_sem,simprocAttr,lN,gk,tq,hg];refine⟨by intro r hr;simp at hr;subst hr;rfl,?_⟩;refine key _ (by rw[e];rfl) _ _ _ _ _ ?_;intro id ver X2 hJ;simp only[go_sem,simprocAttr,cH x (by omega)];exact⟨(x+1,_,X2),⟨⟨by omega,by rw[ht];exact hJ⟩,rfl⟩,by simp only;omega⟩
    ·have e:ff c=[92,c]:=by unfold ff;rw[if_neg (of_decide_eq_false lN),if_pos (.inr (of_decide_eq_true tq))]
     simp only[go_sem,simprocAttr,lN,gk,tq,hg];refine⟨by intro r hr;simp at hr;rcases hr with rfl|rfl<;>rfl,?_⟩;refine key _ (by rw[e];rfl) _ _ _ _ _ ?_;intro id ver X2 hJ;simp only[go_sem,simprocAttr,cH x (by omega)];exact⟨(x+1,_,X2),⟨⟨by omega,by rw[ht];exact hJ⟩,rfl⟩,by simp only;omega⟩
   ·have e:ff c=[92,c]:=by unfold ff;rw[if_neg (of_decide_eq_false lN),if_pos (.inl (of_decide_eq_true gk))]
    simp only[go_sem,simprocAttr,lN,gk,hg];refine⟨by intro r hr;simp at hr;rcases hr with rfl|rfl<;>rfl,?_⟩;refine key _ (by rw[e];rfl) _ _ _ _ _ ?_;intro id ver X2 hJ;simp only[go_sem,simprocAttr,cH x (by omega)];exact⟨(x+1,_,X2),⟨⟨by omega,by rw[ht];exact hJ⟩,rfl⟩,by simp only;omega⟩
  ·have e:ff c=[92,110]:=by unfold ff;rw[if_pos (of_decide_eq_true lN)]
   simp only[go_sem,simprocAttr,lN,hg];refine⟨by intro r hr;simp at hr;rcases hr with rfl|rfl<;>rfl,?_⟩;refine key _ (by rw[e];rfl) _ _ _ _ _ ?_;intro id ver X2 hJ;simp only[go_sem,simprocAttr,cH x (by omega)];exact⟨(x+1,_,X2),⟨⟨by omega,by rw[ht];exact hJ⟩,rfl⟩,by simp only;omega⟩
 ·have d1:decide ((x:Int)<(s.length:Int))=false:=by simp;omega
  rw[List.take_of_length_le (by omega)]at hB ZI;simp only[go_sem,simprocAttr,d1];intro _;refine⟨by intro r hr;simp at hr;subst hr;rfl,?_⟩;have pr:(cR (34::(s.map ff).flatten)).length=(34::(s.map ff).flatten).length:=bF _;refine gb (rs:=cR (34::(s.map ff).flatten)) (hB.ext _).own (by rw[pr];simp only[List.length_cons,List.length_nil]at ZI⊢;omega) (by rw[pr];simp only[List.length_cons,List.length_nil]at ZI⊢;omega) ?_;intro id ver X2 k1 k2 k3 k4;have hJ:=(hB.ext _).app k1 k2 k3 (n:=(cR (34::(s.map ff).flatten)).length+1) (by rw[List.length_append];rfl);have e2:cR (34::(s.map ff).flatten)++[[.p (.i .u8 34)]]=cR (wx s):=by unfold wx;rw[<-List.cons_append,xD];rfl
  rw[e2]at hJ;have hqs:=CJ s;have hb:=yo hJ.own (by omega);simp only[go_sem,simprocAttr,hb];exact hJ.ends
theorem uJ {α:Type} {l:List α} (h:(l.length:Int)=2):∃a b,l=[a,b]:=by
 match l,h with
 |[a,b],_=>exact⟨a,b,rfl⟩
 |[],h=>simp at h
 |[_],h=>simp at h
 |_ ::_ ::_ ::_,h=>simp at h;omega
theorem uI {α:Type} {l:List α} (h:(l.length:Int)=1):∃a,l=[a]:=by
 match l,h with
 |[a],_=>exact⟨a,rfl⟩
 |[],h=>simp at h
 |_ ::_ ::_,h=>simp at h;omega
theorem agM {α:Type} {l:List α} (h:(l.length:Int)=3):∃a b c,l=[a,b,c]:=by
 match l,h with
 |[a,b,c],_=>exact⟨a,b,c,rfl⟩
 |[],h=>simp at h
 |[_],h=>simp at h
 |[_,_],h=>simp at h
 |_ ::_ ::_ ::_ ::_,h=>simp at h;omega
theorem AW {α:Type} {l:List α} (h:(l.length:Int)=0):l=[]:=List.length_eq_zero_iff.1 (by omega)
theorem N5 (a:Int):∀l:List KF,l≠[]→32::cC [32] (l.map (·.at a))=(l.map fun x=>32::x.at a).flatten
  |[],h=>(h rfl).elim
  |[x],_ =>by simp[cC]
  |x::y::l,_ =>by
   have :=N5 a (y::l) (by simp);have e:cC [32] ((x::y::l).map (·.at a))=x.at a++([32]++cC [32] ((y::l).map (·.at a))):=rfl;rw[e,List.map_cons (l:=y::l),List.flatten_cons,←this];simp
def GM (x:af):Prop:=∀(a:Int) (H:List AO),a<=3->Tb H->al Tryz.prog 105 [cJ x.cells,.p (.i .i64 a)] H (aP (.p (.s (x.kf.at a))) H)
theorem ZJ (k:Int) (n:List UInt8) (p:Int) (ks:List af) (dO:(af.mk k n p ks).okB=true) (eN:n.length+af.eO ks<=1073741824) (hk:∀x∈ks,GM x):GM (.mk k n p ks):=by
 intro a H ha hT;refine aV ?_ (bw _);refine call105 (by simp) ?_;have hW:=af.ju ks;have Fh:ks.length<=1073741824:=by have:=sh af.sz ks;rw[<-af.lY]at this;omega
 have hF:∀z,z<=3->Au 105 (fun x:af=>cJ x.cells) (fun x=>x.kf.at z) ks z:=fun z hz x hx H hT=>hk x hx z H hz hT
 have hj:∀(sep:List UInt8),sep.length<=10->∀z,(cC sep (ks.map fun x=>x.kf.at z)).length<=200000000000:=fun sep hs z=>by
  have:=lr sep hs z (af.dJ ks);rw[af.gu,List.map_map]at this;rw[af.gu]at hW;exact Nat.le_trans this (by omega)
 have D4:=fun A=>hT.ext A
 rw[af.okB,tc]at dO;simp only[Bool.and_eq_true]at dO;have gT:=dO.1.1;clear dO;by_cases h3:k=3
 ·subst h3
  obtain⟨c0,c1,rfl⟩:=uJ (l:=ks) (by simpa using(by simpa using gT:_/\_).1);simp only[af.dJ,wK]at hW;have a0:=(db c0.kf 1).1;have g0:=hk c0 (by simp) 1;have a1:=(db c1.kf 0).1;have g1:=hk c1 (by simp) 0;have e:(af.mk 3 n p [c0,c1]).kf.at a=kc (c0.kf.at 1++([32,45,62,32]++c1.kf.at 0)) 0 a:=by simp[af.kf,af.dJ,CI,KF.at]
  rw[e];generalize c0.kf.at 1=s0 at *;generalize c1.kf.at 0=s1 at *;obtain⟨k0,n0,p0,q0⟩:=c0;simp only[af.cells,cJ,List.map_cons,List.map_nil]at g0;obtain⟨k1,n1,p1,q1⟩:=c1;simp only[af.cells,cJ,List.map_cons,List.map_nil]at g1;simp only[go_sem,simprocAttr,u9,xA,af.cells,af.aJ,cJ]
  repeat' first
   |(with_reducible refine aW _ (fun h=>?_) (fun h=>?_)<;>simp only[go_sem,simprocAttr,h])
   |(with_reducible refine bQ (fun A=>g0 _ (by decide) ((hT.ext _).ext _)) (cA.refl _) ?_;simp only[go_sem,simprocAttr])
   |(with_reducible refine bQ (fun A=>g1 _ (by decide) ((hT.ext _).ext _)) (cA.refl _) ?_;simp only[go_sem,simprocAttr])
   |(with_reducible refine U (nB (by simp only[List.length_append,List.length_cons,List.length_nil];omega) _ _ _) ?_;simp only[go_sem,simprocAttr])
   |(refine ba ?_;simp only[go_sem,simprocAttr])
   |(refine And.intro (by(try simp only[bP,LL]);omega) ?_;try simp only[go_sem,simprocAttr])
   |(intro _)
  all_goals first|exact⟨s2 (by simp),_,rfl⟩|exact⟨_,rfl⟩
 by_cases h5:k=5
 ·subst h5
  obtain⟨c0,rfl⟩:=uI (l:=ks) (by simpa using(by simpa using gT:_/\_).1);simp only[af.dJ,wK]at hW;have a0:=(db c0.kf 3).1;have g0:=hk c0 (by simp) 3;have e:(af.mk 5 n p [c0]).kf.at a=kc ([114,101,102,32]++c0.kf.at 3) 2 a:=by simp[af.kf,af.dJ,CI,KF.at]
  rw[e];generalize c0.kf.at 3=s0 at *;obtain⟨k0,n0,p0,q0⟩:=c0;simp only[af.cells,cJ,List.map_cons,List.map_nil]at g0;simp only[go_sem,simprocAttr,u9,xA,af.cells,af.aJ,cJ]
  repeat' first
   |(with_reducible refine aW _ (fun h=>?_) (fun h=>?_)<;>simp only[go_sem,simprocAttr,h])
   |(with_reducible refine U (g0 _ (by decide) (D4 _)) ?_;simp only[go_sem,simprocAttr])
   |(with_reducible refine U (nB (by simp only[List.length_append,List.length_cons,List.length_nil];omega) _ _ _) ?_;simp only[go_sem,simprocAttr])
   |(refine ba ?_;simp only[go_sem,simprocAttr])
   |(refine And.intro (by(try simp only[bP,LL]);omega) ?_;try simp only[go_sem,simprocAttr])
   |(intro _)
  all_goals first|exact⟨s2 (by simp),_,rfl⟩|exact⟨_,rfl⟩
 rw[af.gu]at hW;by_cases h4:k=4
 ·subst h4
  have e:(af.mk 4 n p ks).kf.at a=kc (cC [32,42,32] (ks.map fun x=>x.kf.at 2)) 1 a:=by simp[af.kf,af.gu,CI,KF.at,Function.comp_def]
  rw[e];have PY:=hj [32,42,32] (by decide) 2;simp only[go_sem,simprocAttr,u9,xA,af.cells,af.bD,cJ];refine U (Fg (hF 2 (by decide)) (by decide) Fh (by omega) (D4 _)) ?_;simp only[go_sem,simprocAttr];refine U (nB (by omega) _ _ _) ?_;simp only[go_sem,simprocAttr];exact⟨_,rfl⟩
 by_cases h2:k=2
 ·subst h2
  have e:(af.mk 2 n p ks).kf.at a=39::n:=by simp[af.kf,CI,KF.at,kc];omega
  rw[e];simp only[go_sem,simprocAttr,u9,xA,af.cells,af.bD,cJ]
  repeat' first
   |(with_reducible refine aW _ (fun h=>?_) (fun h=>?_)<;>simp only[go_sem,simprocAttr,h])
   |(refine ba ?_;simp only[go_sem,simprocAttr])
   |(refine And.intro (by(try simp only[bP,LL]);omega) ?_;try simp only[go_sem,simprocAttr])
   |(intro _)
  exact⟨_,rfl⟩
 have h1:k=1:=by
  by_cases h1:k=1
  ·exact h1
  ·rw[if_neg h1,if_neg h2,if_neg h3,if_neg h4]at gT
   by_cases h5':k=5
   ·exact(h5 h5').elim
   ·rw[if_neg h5']at gT;cases gT
 subst h1;by_cases hl:(ks.length:Int)=0
 ·obtain rfl:=AW hl
  have e:(af.mk 1 n p []).kf.at a=n:=by simp[af.kf,af.dJ,CI,KF.at,kc];omega
  rw[e];simp only[go_sem,simprocAttr,u9,xA,af.cells,af.aJ,cJ]
  repeat' first
   |(with_reducible refine aW _ (fun h=>?_) (fun h=>?_)<;>simp only[go_sem,simprocAttr,h])
   |(refine ba ?_;simp only[go_sem,simprocAttr])
   |(refine And.intro (by(try simp only[bP,LL]);omega) ?_;try simp only[go_sem,simprocAttr])
   |(intro _)
  all_goals exact⟨_,rfl⟩
 ·have cK:af.dJ ks≠[]:=by intro h;apply hl;rw[af.gu]at h;simp[List.map_eq_nil_iff.1 h]
  have Cg:¬ks.length=0:=by omega
  have e:(af.mk 1 n p ks).kf.at a=kc (n++(32::cC [32] (ks.map fun x=>x.kf.at 3))) 2 a:=by
   have e1:=N5 3 (af.dJ ks) cK;rw[af.gu,List.map_map]at e1;rw[af.kf,KF.at,CI];simp only[af.gu,List.length_map];rw[if_neg (by decide),if_neg (by decide),if_neg (by decide),if_neg (by decide),if_neg Cg];rw[<-e1];rfl
  rw[e];have PY:=hj [32] (by decide) 3;have d1:decide ((ks.length:Int)=0)=false:=decide_eq_false hl;clear e;simp only[go_sem,simprocAttr,u9,xA,af.cells,af.bD,cJ,List.length_map];have Jh:=fun H (hT:Tb H)=>Fg (hF 3 (by decide)) (sep:=[32]) (by decide) Fh (by omega) hT
  generalize cC [32] (ks.map fun x=>x.kf.at 3)=sj at PY Jh;intro _;simp only[go_sem,simprocAttr,d1]
  repeat' first
   |(with_reducible refine aW _ (fun h=>?_) (fun h=>?_)<;>simp only[go_sem,simprocAttr,h])
   |(with_reducible refine bQ (fun A=>Jh _ ((hT.ext _).ext _)) (cA.refl _) ?_;simp only[go_sem,simprocAttr])
   |(with_reducible refine U (nB (by simp only[List.length_append,List.length_cons,List.length_nil];omega) _ _ _) ?_;simp only[go_sem,simprocAttr])
   |(refine ba ?_;simp only[go_sem,simprocAttr])
   |(refine And.intro (by(try simp only[bP,LL]);omega) ?_;try simp only[go_sem,simprocAttr])
   |(intro _)
  all_goals first|exact⟨s2 (by simp),_,rfl⟩|exact⟨_,rfl⟩
theorem adT (p:af) (h:p.sz≤1073741824) (dO:p.okB=true):GM p:=by
  have :∀(m:Nat) (p:af),p.sz<m→p.sz≤1073741824→p.okB=true →GM p:=by
    intro m
    induction m with
    |zero=>intro p h;omega
    |succ m ih=>
     intro p h h2 dO;obtain⟨k,n,q,ks⟩:=p;rw[af.sz]at h h2;refine ZJ _ _ _ _ dO h2 fun a ha=> ?_
     rw[af.okB,af.qs,Bool.and_eq_true,List.all_eq_true]at dO;rw[af.lY]at h h2;have :=gF af.sz ha;exact ih a (by omega) (by omega) (dO.2 a ha)
  exact this _ p (Nat.lt_succ_self _) h dO
def sT (x:ae):Prop:=∀(a:Int) (H:List AO),a<=1->Tb H->al Tryz.prog 123 [cJ x.cells,.p (.i .i64 a)] H (aP (.p (.s (x.kf.at a))) H)
theorem Wr (k:Int) (n:List UInt8) (u p:Int) (ks:List ae) (dO:(ae.mk k n u p ks).okB=true) (jL:(ae.mk k n u p ks).fit) (eN:n.length+ae.eO ks<=1073741824) (hk:∀x∈ks,sT x):sT (.mk k n u p ks):=by
 intro a H ha hT;refine aV ?_ (bw _);refine call123 (by simp) ?_;rw[ae.fit]at jL;have hW:=ae.ju ks jL.2;have hu:=jL.1;have Fh:ks.length<=1073741824:=by have:=sh ae.sz ks;rw[<-ae.lY]at this;omega
 have hF:∀z,z<=1->Au 123 (fun x:ae=>cJ x.cells) (fun x=>x.kf.at z) ks z:=fun z hz x hx H hT=>hk x hx z H hz hT
 have hj:∀(sep:List UInt8),sep.length<=10->∀z,(cC sep (ks.map fun x=>x.kf.at z)).length<=200000000000:=fun sep hs z=>by
  have:=lr sep hs z (ae.dJ ks);rw[ae.gu,List.map_map]at this;rw[ae.gu]at hW;exact Nat.le_trans this (by omega)
 rw[ae.okB,mF]at dO;simp only[Bool.and_eq_true]at dO;have gT:=dO.1.1;clear dO jL;by_cases h2:k=2
 ·subst h2
  have e:(ae.mk 2 n u p ks).kf.at a=n:=by simp[ae.kf,rE,KF.at,kc];omega
  rw[e];simp only[go_sem,simprocAttr,qV,sO,ae.cells,ae.bD,cJ,List.length_map]
  repeat' first
   |(with_reducible refine aW _ (fun h=>?_) (fun h=>?_)<;>simp only[go_sem,simprocAttr,h])
   |(refine ba ?_;simp only[go_sem,simprocAttr])
   |(refine And.intro (by(try simp only[bP,LL]);omega) ?_;try simp only[go_sem,simprocAttr])
   |(intro _)
  all_goals exact⟨_,rfl⟩
 by_cases h3:k=3
 ·subst h3
  have e:(ae.mk 3 n u p ks).kf.at a=uD u:=by simp[ae.kf,rE,KF.at,kc];omega
  rw[e];have h0:0<=u:=by simp at gT;exact gT.2.2
  simp only[go_sem,simprocAttr,qV,sO,ae.cells,ae.bD,cJ,List.length_map];refine U (Wj (hT.ext _) h0 hu) ?_;simp only[go_sem,simprocAttr];exact⟨_,rfl⟩
 by_cases h4:k=4
 ·subst h4
  have e:(ae.mk 4 n u p ks).kf.at a=oy u:=by simp[ae.kf,rE,KF.at,kc];omega
  rw[e];simp only[go_sem,simprocAttr,qV,sO,ae.cells,ae.bD,cJ,List.length_map]
  repeat' first
   |(with_reducible refine aW _ (fun h=>?_) (fun h=>?_)<;>simp only[go_sem,simprocAttr,h])
   |(with_reducible refine U (Wl _ _) ?_;simp only[go_sem,simprocAttr])
   |(refine ba ?_;simp only[go_sem,simprocAttr])
   |(refine And.intro (by(try simp only[bP,LL]);omega) ?_;try simp only[go_sem,simprocAttr])
   |(intro _)
  all_goals exact⟨_,rfl⟩
 by_cases h5:k=5
 ·subst h5
  have e:(ae.mk 5 n u p ks).kf.at a=[40,41]:=by simp[ae.kf,rE,KF.at,kc];omega
  rw[e];simp only[go_sem,simprocAttr,qV,sO,ae.cells,ae.bD,cJ,List.length_map]
  repeat' first
   |(with_reducible refine aW _ (fun h=>?_) (fun h=>?_)<;>simp only[go_sem,simprocAttr,h])
   |(refine ba ?_;simp only[go_sem,simprocAttr])
   |(refine And.intro (by(try simp only[bP,LL]);omega) ?_;try simp only[go_sem,simprocAttr])
   |(intro _)
  all_goals exact⟨_,rfl⟩
 by_cases h6:k=6
 ·subst h6
  have e:(ae.mk 6 n u p ks).kf.at a=40::(cC [44,32] (ks.map fun x=>x.kf.at 0)++[41]):=by simp[ae.kf,ae.gu,rE,KF.at,kc,Function.comp_def];omega
  rw[e];have PY:=hj [44,32] (by decide) 0;have Jh:=fun H (hT:Tb H)=>Mu (hF 0 (by decide)) (sep:=[44,32]) (by decide) Fh (by omega) hT
  clear e;generalize cC [44,32] (ks.map fun x=>x.kf.at 0)=sj at PY Jh;simp only[go_sem,simprocAttr,qV,sO,ae.cells,ae.bD,cJ,List.length_map]
  repeat' first
   |(with_reducible refine aW _ (fun h=>?_) (fun h=>?_)<;>simp only[go_sem,simprocAttr,h])
   |(with_reducible refine U (Jh _ (hT.ext _)) ?_;simp only[go_sem,simprocAttr])
   |(refine ba ?_;simp only[go_sem,simprocAttr])
   |(refine And.intro (by(try simp only[bP,LL]);omega) ?_;try simp only[go_sem,simprocAttr])
   |(intro _)
  all_goals first|exact⟨s2 (by simp),_,rfl⟩|exact⟨_,rfl⟩
 by_cases h7:k=7
 ·subst h7
  by_cases hl:(ks.length:Int)=0
  ·obtain rfl:=AW hl
   have e:(ae.mk 7 n u p []).kf.at a=n:=by simp[ae.kf,ae.dJ,rE,KF.at,kc];omega
   rw[e];simp only[go_sem,simprocAttr,qV,sO,ae.cells,ae.bD,cJ,List.length_map]
   repeat' first
    |(with_reducible refine aW _ (fun h=>?_) (fun h=>?_)<;>simp only[go_sem,simprocAttr,h])
    |(refine ba ?_;simp only[go_sem,simprocAttr])
    |(refine And.intro (by(try simp only[bP,LL]);omega) ?_;try simp only[go_sem,simprocAttr])
    |(intro _)
   all_goals exact⟨_,rfl⟩
  ·obtain⟨c0,rfl⟩:=uI (l:=ks) (by simp at gT hl;have:=gT.1;have:=List.length_pos_iff.2 hl;omega)
   have g0:=hk c0 (by simp) 1;simp only[ae.dJ,wK]at hW;have a0:=(db c0.kf 1).1;have e:(ae.mk 7 n u p [c0]).kf.at a=kc (n++(32::c0.kf.at 1)) 0 a:=by simp[ae.kf,ae.dJ,rE,KF.at]
   rw[e];generalize c0.kf.at 1=s0 at *;obtain⟨k0,n0,u0,p0,q0⟩:=c0;simp only[ae.cells,cJ,List.map_cons,List.map_nil]at g0;simp only[go_sem,simprocAttr,qV,sO,ae.cells,ae.aJ,cJ,List.length_map]
   repeat' first
    |(with_reducible refine aW _ (fun h=>?_) (fun h=>?_)<;>simp only[go_sem,simprocAttr,h])
    |(with_reducible refine bQ (fun A=>g0 _ (by decide) ((hT.ext _).ext _)) (cA.refl _) ?_;simp only[go_sem,simprocAttr])
    |(with_reducible refine U (nB (by simp only[List.length_append,List.length_cons,List.length_nil];omega) _ _ _) ?_;simp only[go_sem,simprocAttr])
    |(refine ba ?_;simp only[go_sem,simprocAttr])
    |(refine And.intro (by(try simp only[bP,LL]);omega) ?_;try simp only[go_sem,simprocAttr])
    |(intro _)
   all_goals first|exact⟨s2 (by simp),_,rfl⟩|exact⟨_,rfl⟩
 have h1:k=1:=by
  by_cases h1:k=1
  ·exact h1
  ·rw[if_neg (by omega),if_neg h2,if_neg h3,if_neg h4,if_neg h6,if_neg h7]at gT;cases gT
 subst h1;have e:(ae.mk 1 n u p ks).kf.at a=[95]:=by simp[ae.kf,rE,KF.at,kc];omega
 rw[e];simp only[go_sem,simprocAttr,qV,sO,ae.cells,ae.bD,cJ,List.length_map]
 repeat' first
  |(with_reducible refine aW _ (fun h=>?_) (fun h=>?_)<;>simp only[go_sem,simprocAttr,h])
  |(refine ba ?_;simp only[go_sem,simprocAttr])
  |(refine And.intro (by(try simp only[bP,LL]);omega) ?_;try simp only[go_sem,simprocAttr])
  |(intro _)
 all_goals exact⟨_,rfl⟩
theorem ZK (p:ae) (h:p.sz≤1073741824) (dO:p.okB=true) (hf:p.fit):sT p:=by
  have :∀(m:Nat) (p:ae),p.sz<m→p.sz≤1073741824→p.okB=true →p.fit→sT p:=by
    intro m
    induction m with
    |zero=>intro p h;omega
    |succ m ih=>
     intro p h h2 dO hf;obtain⟨k,n,u,q,ks⟩:=p;rw[ae.sz]at h h2;refine Wr _ _ _ _ _ dO hf h2 fun a ha=> ?_
     rw[ae.okB,ae.qs,Bool.and_eq_true,List.all_eq_true]at dO;rw[ae.fit]at hf;rw[ae.lY]at h h2;have :=gF ae.sz ha;exact ih a (by omega) (by omega) (dO.2 a ha) (ae.rF hf.2 ha)
  exact this _ p (Nat.lt_succ_self _) h dO hf
def qH (x:aa):Prop:=∀(a:Int) (H:List AO),a<=6->Tb H->al Tryz.prog 24 [cJ x.cells,.p (.i .i64 a)] H (aP (.p (.s (x.kf.at a))) H)
theorem za {X:List AO} {j:Nat} {k u p:Int} {n t:List UInt8} {rows aaD:List (List PV)} {i:Nat} {c:aa} {s:List UInt8} (hj:X[j]?=some (.var [.p (.i .i64 k),.p (.s n),.p (.i .i64 u),.p (.s t),.p (.i .i64 p),.p (.l rows),.p (.l aaD)]))
  (hg:rows[i]?=some c.cells) (hc:al Tryz.prog 24 [cJ c.cells,.p (.i .i64 0)] X (aP (.p (.s s)) X)):al Tryz.prog 122 [.p (.i .i64 (i:Int)),.ptr j 0] X (aP (.p (.s s)) X):=by
 refine call122 (by simp) ?_;have hi:=(List.getElem?_eq_some_iff.1 hg).1;have iR:(i:Int)<(rows.length:Int):=by omega
 obtain⟨k0,n0,u0,t0,p0,q0,r0⟩:=c;simp only[aa.cells,cJ,List.map_cons,List.map_nil]at hc hg;simp only[go_sem,simprocAttr,Mn,VP,hj,hg,iR];refine U hc ?_;simp only[go_sem,simprocAttr];exact⟨rfl,rfl⟩
theorem GN (H A:List AO) (o:AO):(H++[o]++A)[H.length]?=some o:=by simp
theorem zb (H:List AO) (o:AO):(H++[o])[H.length]?=some o:=by simp
theorem adU (k:Int) (n:List UInt8) (u:Int) (t:List UInt8) (p:Int) (ks:List aa) (bf:List ar) (dO:(aa.mk k n u t p ks bf).okB=true) (jL:(aa.mk k n u t p ks bf).fit) (eN:n.length+t.length+aa.eO ks+aa.nP bf<=1073741824)
  (hk:∀x∈ks,qH x) (ha:∀q e,ar.mk q e∈bf->sT q/\qH e) (pV:k=8\/k=10\/k=11\/k=12\/k=13) (H:List AO) (hT:Tb H):
  al Tryz.prog 67 [cJ (aa.cells (.mk k n u t p ks bf))] H (aP (.p (.s (aa.kf (.mk k n u t p ks bf)).f)) H):=by
 refine aV ?_ (bw _);refine call67 (by simp) ?_;rw[aa.fit]at jL;have hW:=aa.ju ks jL.2.1;have hWA:=aa.CL bf jL.2.2;rw[aa.okB,gS]at dO;simp only[Bool.and_eq_true]at dO;have gT:=dO.1.1;clear dO jL;by_cases lN:k=10
 ·subst lN
  obtain⟨c0,c1,rfl⟩:=uJ (l:=ks) (by simpa using(by simpa using gT:_/\_).1);simp only[aa.dJ,wK,aa.eO]at hW;simp only[aa.eO]at eN;have a0:=(db c0.kf 0).1;have g0:=hk c0 (by simp) 0;have a1:=(db c1.kf 0).1;have g1:=hk c1 (by simp) 0;have e:(aa.mk 10 n u t p [c0,c1] bf).kf.f=[108,101,116,32]++(n++([32,61,32]++(c0.kf.at 0++([32,105,110,32]++c1.kf.at 0)))):=by simp[aa.kf,aa.dJ,iM]
  rw[e];have hX:=fun A=>GN H A (.var [.p (.i .i64 10),.p (.s n),.p (.i .i64 u),.p (.s t),.p (.i .i64 p),.p (.l [c0.cells,c1.cells]),.p (.l (bf.map ar.cells))])
  have Ji:=zb H (.var [.p (.i .i64 10),.p (.s n),.p (.i .i64 u),.p (.s t),.p (.i .i64 p),.p (.l [c0.cells,c1.cells]),.p (.l (bf.map ar.cells))]);have r0:∀A,al _ _ [.p (.i .i64 0),.ptr H.length 0] (_++A) (aP (.p (.s (c0.kf.at 0))) (_++A)):=fun A=>za (i:=0) (c:=c0) (hX A) (by rfl) (g0 _ (by decide) ((hT.ext _).ext A))
  have r1:∀A,al _ _ [.p (.i .i64 1),.ptr H.length 0] (_++A) (aP (.p (.s (c1.kf.at 0))) (_++A)):=fun A=>za (i:=1) (c:=c1) (hX A) (by rfl) (g1 _ (by decide) ((hT.ext _).ext A))
  clear e;generalize c0.kf.at 0=s0 at *;generalize c1.kf.at 0=s1 at *;simp only[go_sem,simprocAttr,Dm,Fc,aa.cells,aa.aJ,aa.cd,cJ]
  repeat' first
   |(with_reducible refine aW _ (fun h=>?_) (fun h=>?_)<;>simp only[go_sem,simprocAttr,h])
   |(with_reducible refine bQ (fun A=>r0 A) (cA.refl _) ?_;simp only[go_sem,simprocAttr])
   |(with_reducible refine bQ (fun A=>r1 A) (cA.refl _) ?_;simp only[go_sem,simprocAttr])
   |(refine GK rfl ?_;simp only[go_sem,simprocAttr])
   |(refine ba ?_;simp only[go_sem,simprocAttr])
   |(refine And.intro (by(try simp only[bP,LL]);omega) ?_;try simp only[go_sem,simprocAttr])
   |(intro _)
  all_goals first|exact⟨s2 (by simp),_,rfl⟩|exact⟨_,rfl⟩
 by_cases vW:k=11
 ·subst vW
  obtain⟨c0,c1,rfl⟩:=uJ (l:=ks) (by simpa using(by simpa using gT:_/\_).1);simp only[aa.dJ,wK,aa.eO]at hW;simp only[aa.eO]at eN;have a0:=(db c0.kf 0).1;have g0:=hk c0 (by simp) 0;have a1:=(db c1.kf 0).1;have g1:=hk c1 (by simp) 0;have e:(aa.mk 11 n u t p [c0,c1] bf).kf.f=[108,101,116,32,114,101,99,32]++(n++(32::(t++([32,61,32]++(c0.kf.at 0++([32,105,110,32]++c1.kf.at 0)))))):=by simp[aa.kf,aa.dJ,iM]
  rw[e];have hX:=fun A=>GN H A (.var [.p (.i .i64 11),.p (.s n),.p (.i .i64 u),.p (.s t),.p (.i .i64 p),.p (.l [c0.cells,c1.cells]),.p (.l (bf.map ar.cells))])
  have Ji:=zb H (.var [.p (.i .i64 11),.p (.s n),.p (.i .i64 u),.p (.s t),.p (.i .i64 p),.p (.l [c0.cells,c1.cells]),.p (.l (bf.map ar.cells))]);have r0:∀A,al _ _ [.p (.i .i64 0),.ptr H.length 0] (_++A) (aP (.p (.s (c0.kf.at 0))) (_++A)):=fun A=>za (i:=0) (c:=c0) (hX A) (by rfl) (g0 _ (by decide) ((hT.ext _).ext A))
  have r1:∀A,al _ _ [.p (.i .i64 1),.ptr H.length 0] (_++A) (aP (.p (.s (c1.kf.at 0))) (_++A)):=fun A=>za (i:=1) (c:=c1) (hX A) (by rfl) (g1 _ (by decide) ((hT.ext _).ext A))
  clear e;generalize c0.kf.at 0=s0 at *;generalize c1.kf.at 0=s1 at *;simp only[go_sem,simprocAttr,Dm,Fc,aa.cells,aa.aJ,aa.cd,cJ]
  repeat' first
   |(with_reducible refine aW _ (fun h=>?_) (fun h=>?_)<;>simp only[go_sem,simprocAttr,h])
   |(with_reducible refine bQ (fun A=>r0 A) (cA.refl _) ?_;simp only[go_sem,simprocAttr])
   |(with_reducible refine bQ (fun A=>r1 A) (cA.refl _) ?_;simp only[go_sem,simprocAttr])
   |(refine GK rfl ?_;simp only[go_sem,simprocAttr])
   |(refine ba ?_;simp only[go_sem,simprocAttr])
   |(refine And.intro (by(try simp only[bP,LL]);omega) ?_;try simp only[go_sem,simprocAttr])
   |(intro _)
  all_goals first|exact⟨s2 (by simp),_,rfl⟩|exact⟨_,rfl⟩
 by_cases h8:k=8
 ·subst h8
  obtain⟨c0,rfl⟩:=uI (l:=ks) (by simpa using(by simpa using gT:_/\_).1);simp only[aa.dJ,wK,aa.eO]at hW;simp only[aa.eO]at eN;have a0:=(db c0.kf 0).1;have g0:=hk c0 (by simp) 0;have e:(aa.mk 8 n u t p [c0] bf).kf.f=[102,117,110,32]++(n++([32,45,62,32]++c0.kf.at 0)):=by simp[aa.kf,aa.dJ,iM]
  rw[e];have hX:=fun A=>GN H A (.var [.p (.i .i64 8),.p (.s n),.p (.i .i64 u),.p (.s t),.p (.i .i64 p),.p (.l [c0.cells]),.p (.l (bf.map ar.cells))])
  have Ji:=zb H (.var [.p (.i .i64 8),.p (.s n),.p (.i .i64 u),.p (.s t),.p (.i .i64 p),.p (.l [c0.cells]),.p (.l (bf.map ar.cells))]);have r0:∀A,al _ _ [.p (.i .i64 0),.ptr H.length 0] (_++A) (aP (.p (.s (c0.kf.at 0))) (_++A)):=fun A=>za (i:=0) (c:=c0) (hX A) (by rfl) (g0 _ (by decide) ((hT.ext _).ext A))
  clear e;generalize c0.kf.at 0=s0 at *;simp only[go_sem,simprocAttr,Dm,Fc,aa.cells,aa.aJ,aa.cd,cJ]
  repeat' first
   |(with_reducible refine aW _ (fun h=>?_) (fun h=>?_)<;>simp only[go_sem,simprocAttr,h])
   |(with_reducible refine bQ (fun A=>r0 A) (cA.refl _) ?_;simp only[go_sem,simprocAttr])
   |(refine GK rfl ?_;simp only[go_sem,simprocAttr])
   |(refine ba ?_;simp only[go_sem,simprocAttr])
   |(refine And.intro (by(try simp only[bP,LL]);omega) ?_;try simp only[go_sem,simprocAttr])
   |(intro _)
  all_goals first|exact⟨s2 (by simp),_,rfl⟩|exact⟨_,rfl⟩
 by_cases gz:k=12
 ·subst gz
  obtain⟨c0,c1,c2,rfl⟩:=agM (l:=ks) (by simpa using(by simpa using gT:_/\_).1);simp only[aa.dJ,wK,aa.eO]at hW;simp only[aa.eO]at eN;have a0:=(db c0.kf 0).1;have g0:=hk c0 (by simp) 0;have a1:=(db c1.kf 0).1;have g1:=hk c1 (by simp) 0;have a2:=(db c2.kf 0).1;have g2:=hk c2 (by simp) 0;have e:(aa.mk 12 n u t p [c0,c1,c2] bf).kf.f=[105,102,32]++(c0.kf.at 0++([32,116,104,101,110,32]++(c1.kf.at 0++([32,101,108,115,101,32]++c2.kf.at 0)))):=by simp[aa.kf,aa.dJ,iM]
  rw[e];have hX:=fun A=>GN H A (.var [.p (.i .i64 12),.p (.s n),.p (.i .i64 u),.p (.s t),.p (.i .i64 p),.p (.l [c0.cells,c1.cells,c2.cells]),.p (.l (bf.map ar.cells))])
  have Ji:=zb H (.var [.p (.i .i64 12),.p (.s n),.p (.i .i64 u),.p (.s t),.p (.i .i64 p),.p (.l [c0.cells,c1.cells,c2.cells]),.p (.l (bf.map ar.cells))]);have r0:al _ _ [.p (.i .i64 0),.ptr H.length 0] _ (aP (.p (.s (c0.kf.at 0))) _):=za (i:=0) (c:=c0) Ji (by rfl) (g0 _ (by decide) (hT.ext _));have r1:al _ _ [.p (.i .i64 1),.ptr H.length 0] _ (aP (.p (.s (c1.kf.at 0))) _):=za (i:=1) (c:=c1) Ji (by rfl) (g1 _ (by decide) (hT.ext _));have r2:al _ _ [.p (.i .i64 2),.ptr H.length 0] _ (aP (.p (.s (c2.kf.at 0))) _):=za (i:=2) (c:=c2) Ji (by rfl) (g2 _ (by decide) (hT.ext _));clear e;generalize c0.kf.at 0=s0 at *;generalize c1.kf.at 0=s1 at *;generalize c2.kf.at 0=s2 at *;simp only[go_sem,simprocAttr,Dm,Fc,aa.cells,aa.aJ,aa.cd,cJ]
  repeat' first
   |(with_reducible refine aW _ (fun h=>?_) (fun h=>?_)<;>simp only[go_sem,simprocAttr,h])
   |(with_reducible refine U (r0) ?_;simp only[go_sem,simprocAttr])
   |(with_reducible refine U (r1) ?_;simp only[go_sem,simprocAttr])
   |(with_reducible refine U (r2) ?_;simp only[go_sem,simprocAttr])
   |(refine ba ?_;simp only[go_sem,simprocAttr])
   |(refine And.intro (by(try simp only[bP,LL]);omega) ?_;try simp only[go_sem,simprocAttr])
   |(intro _)
  all_goals first|exact⟨s2 (by simp),_,rfl⟩|exact⟨_,rfl⟩
 obtain rfl:k=13:=by omega
 obtain⟨c0,rfl⟩:=uI (l:=ks) (by simpa using(by simpa using gT:_/\_).1);simp only[aa.dJ,wK,aa.eO]at hW;simp only[aa.eO]at eN;have a0:=(db c0.kf 0).1;have g0:=hk c0 (by simp) 0;have hAl:=zW (aa.xe bf);have hLA:bf.length<=1073741824:=by have:=sh ar.sz bf;rw[<-aa.FQ]at this;omega
 have e:(aa.mk 13 n u t p [c0] bf).kf.f=[109,97,116,99,104,32]++(c0.kf.at 0++([32,119,105,116,104]++(((bf.map ar.kf).map mH).flatten++[32,101,110,100]))):=by simp[aa.kf,aa.dJ,iM,aa.Nh]
 rw[e];rw[aa.Nh]at hAl hWA;have Ji:=zb H (.var [.p (.i .i64 13),.p (.s n),.p (.i .i64 u),.p (.s t),.p (.i .i64 p),.p (.l [c0.cells]),.p (.l (bf.map ar.cells))]);have r0:al _ _ [.p (.i .i64 0),.ptr H.length 0] _ (aP (.p (.s (c0.kf.at 0))) _):=za (i:=0) (c:=c0) Ji (by rfl) (g0 _ (by decide) (hT.ext _));clear e;generalize c0.kf.at 0=s0 at *;simp only[go_sem,simprocAttr,Dm,Fc,aa.cells,aa.aJ,aa.cd,cJ]
 repeat' first
  |(with_reducible refine aW _ (fun h=>?_) (fun h=>?_)<;>simp only[go_sem,simprocAttr,h,List.length_map])
  |(with_reducible refine U (r0) ?_;simp only[go_sem,simprocAttr,List.length_map])
  |(refine ba ?_;simp only[go_sem,simprocAttr,List.length_map])
  |(refine And.intro (by(try simp only[bP,LL]);omega) ?_;try simp only[go_sem,simprocAttr,List.length_map])
  |(intro _)
 have yr:∀x,(((bf.take x).map ar.kf).map mH).flatten.length<=((bf.map ar.kf).map mH).flatten.length:=fun x=>by
  have h:=List.take_append_drop x bf
  have h2:((bf.map ar.kf).map mH).flatten=(((bf.take x).map ar.kf).map mH).flatten++(((bf.drop x).map ar.kf).map mH).flatten:=by
   rw[<-List.flatten_append,<-List.map_append,<-List.map_append,h]
  rw[h2,List.length_append];omega
 refine⟨Nat×List AO,[2,4,67,68,69],fun x st=>(x.1<=bf.length/\∃G,x.2=H++G)/\st=⟨[(2,.p (.s [])),(4,.p (.s ([109,97,116,99,104,32]++(s0++([32,119,105,116,104]++(((bf.take x.1).map ar.kf).map mH).flatten))))),(67,.p (.l (bf.map ar.cells))),(68,.p (.i .i64 bf.length)),(69,.p (.i .i64 x.1))],[],x.2⟩,fun x=>bf.length-x.1,⟨(0,H++[.var [.p (.i .i64 13),.p (.s n),.p (.i .i64 u),.p (.s t),.p (.i .i64 p),.p (.l [c0.cells]),.p (.l (bf.map ar.cells))]]),?_⟩,?_⟩
 ·simp only[go_sem,simprocAttr]
  exact⟨⟨Nat.zero_le _,_,rfl⟩,by simp⟩
 rintro⟨y,Z⟩ _ ⟨⟨hy,hZ⟩,rfl⟩;simp only at hy hZ;have hTZ:∀A,Tb (Z++A):=fun A=>by obtain⟨G,rfl⟩:=hZ;exact(hT.ext G).ext A
 have V7:∀A,∃G,Z++A=H++G:=fun A=>by obtain⟨G,rfl⟩:=hZ;exact⟨G++A,by simp⟩
 have f0:=yr y;by_cases aF:y<bf.length
 ·have d2:decide ((y:Int)<(bf.length:Int))=true:=by simp;omega
  have dr:(y:Int)<(bf.length:Int):=by omega
  have hg:(bf.map ar.cells)[y]?=some (ar.cells bf[y]):=by simp[aF]
  have hc:∀q e,bf[y]=ar.mk q e->sT q/\qH e:=fun q e he=>ha q e (by rw[<-he];exact List.getElem_mem aF)
  have ht:(((bf.take (y+1)).map ar.kf).map mH).flatten=(((bf.take y).map ar.kf).map mH).flatten++mH bf[y].kf:=by rw[List.take_succ_eq_append_getElem aF];simp only[List.map_append,List.flatten_append,List.map_cons,List.map_nil,List.flatten_cons,List.flatten_nil,List.append_nil]
  have f1:=yr (y+1);rw[ht,List.length_append]at f1;generalize bf[y]=c at hg hc ht f1;obtain⟨q,e⟩:=c;obtain⟨h1,h2⟩:=hc _ _ rfl;have h1:=h1 0;have h2:=h2 0;simp only[ar.kf,mH]at ht f1;rw[List.length_append,List.length_append,List.length_append]at f1;generalize q.kf.at 0=sq at h1 ht f1;generalize e.kf.at 0=se at h2 ht f1;obtain⟨qk,qn,qu,qp,qks⟩:=q;obtain⟨ck,cn,cu,ct,cp,DW,Zw⟩:=e;simp only[ab4,ae.cells,aa.cells,cJ,List.map_cons,List.map_nil,List.cons_append,List.nil_append]at hg h1 h2;generalize (((bf.take y).map ar.kf).map mH).flatten=fl at *;simp only[go_sem,simprocAttr,d2,dr,hg,List.length_map]
  repeat' first
   |(with_reducible refine aW _ (fun h=>?_) (fun h=>?_)<;>simp only[go_sem,simprocAttr,h,cH y (by omega)])
   |(with_reducible refine bQ (fun A=>h1 _ (by decide) (by rw[List.append_assoc];exact hTZ _)) (cA.refl _) ?_;simp only[go_sem,simprocAttr,cH y (by omega)])
   |(with_reducible refine bQ (fun A=>h2 _ (by decide) (by rw[List.append_assoc];exact hTZ _)) (cA.refl _) ?_;simp only[go_sem,simprocAttr,cH y (by omega)])
   |(refine ba ?_;simp only[go_sem,simprocAttr,cH y (by omega)])
   |(refine And.intro (by(try simp only[bP,LL]);omega) ?_;try simp only[go_sem,simprocAttr,cH y (by omega)])
   |(intro _)
  refine⟨(y+1,_),⟨⟨by omega,V7 [AO.var [.p (.i .i64 qk),.p (.s qn),.p (.i .i64 qu),.p (.i .i64 qp),.p (.l (ae.aJ qks)),.p (.i .i64 ck),.p (.s cn),.p (.i .i64 cu),.p (.s ct),.p (.i .i64 cp),.p (.l (aa.aJ DW)),.p (.l (aa.bL Zw))]]⟩,?_⟩,by simp only;omega⟩;simp only[ht,List.append_assoc,List.cons_append,List.nil_append]
 ·have d2:decide ((y:Int)<(bf.length:Int))=false:=by simp;omega
  rw[List.take_of_length_le (by omega)];simp only[go_sem,simprocAttr,d2]
  repeat' first
   |(with_reducible refine aW _ (fun h=>?_) (fun h=>?_)<;>simp only[go_sem,simprocAttr,h])
   |(refine ba ?_;simp only[go_sem,simprocAttr])
   |(refine And.intro (by(try simp only[bP,LL]);omega) ?_;try simp only[go_sem,simprocAttr])
   |(intro _)
  first|exact hZ|exact⟨s2 (by simp),hZ⟩
theorem ZL (n:List UInt8):(kQ n).2.1<=6/\(kQ n).2.2<=6:=by unfold kQ;(repeat' split)<;>simp
theorem oS (n:List UInt8):arity n=0\/arity n=1\/arity n=-1:=by unfold arity;(repeat' split)<;>simp
theorem ab5 (k:Int) (n:List UInt8) (u:Int) (t:List UInt8) (p:Int) (ks:List aa) (bf:List ar):(aa.mk k n u t p ks bf).kf.b=(decide (k=6)&&decide ((ks.length:Int)=0)):=by
 rw[aa.kf,aa.gu];by_cases h6:k=6
 ·subst h6
  by_cases hl:ks.length=0
  ·simp[iM,hl]
  ·have:¬(ks.length:Int)=0:=by omega
   simp only[iM,List.length_map,if_neg hl,decide_eq_false this]
   rfl
 ·have hb:∀{c:Prop} [Decidable c] {x y:KF},x.b=false->y.b=false->(if c then x else y).b=false:=fun h1 h2=>by split <;>assumption
  rw[decide_eq_false h6,Bool.false_and,iM]
  repeat' refine hb ?_ ?_
  all_goals first|rfl|exact decide_eq_false h6
theorem Ws {k:Int} {n:List UInt8} {u:Int} {t:List UInt8} {p:Int} {ks:List aa} {bf:List ar} (h:(aa.mk k n u t p ks bf).kf.b=true):(aa.mk k n u t p ks bf).kf.at 7=40::((aa.mk k n u t p ks bf).kf.at 5++[41]):=by
 rw[ab5,Bool.and_eq_true,decide_eq_true_eq,decide_eq_true_eq]at h;obtain⟨rfl,hl⟩:=h;obtain rfl:=AW hl;simp[aa.kf,aa.dJ,iM,KF.at,kc]
theorem Wt (k:Int) (n:List UInt8) (u:Int) (t:List UInt8) (p:Int) (ks:List aa) (bf:List ar) (dO:(aa.mk k n u t p ks bf).okB=true) (jL:(aa.mk k n u t p ks bf).fit) (eN:n.length+t.length+aa.eO ks+aa.nP bf<=1073741824)
  (hk:∀x∈ks,qH x) (M8:∀q e,ar.mk q e∈bf->sT q/\qH e):qH (.mk k n u t p ks bf):=by
 intro a H ha hT;have vY:=adU k n u t p ks bf dO jL eN hk M8;have HE:=aa.la _ jL;refine aV ?_ (bw _);refine call24 (by simp) ?_;rw[aa.fit]at jL;have hW:=aa.ju ks jL.2.1;have hu:=jL.1;have Fh:ks.length<=1073741824:=by have:=sh aa.sz ks;rw[<-aa.lY]at this;omega
 have hF:∀z,z<=6->Au 24 (fun x:aa=>cJ x.cells) (fun x=>x.kf.at z) ks z:=fun z hz x hx H hT=>hk x hx z H hz hT
 have hj:∀(sep:List UInt8),sep.length<=10->∀z,(cC sep (ks.map fun x=>x.kf.at z)).length<=200000000000:=fun sep hs z=>by
  have:=lr sep hs z (aa.dJ ks);rw[aa.gu,List.map_map]at this;rw[aa.gu]at hW;exact Nat.le_trans this (by omega)
 rw[aa.okB,gS]at dO;simp only[Bool.and_eq_true]at dO;have gT:=dO.1.1;clear dO jL;by_cases h1:k=1
 ·subst h1
  have e:(aa.mk 1 n u t p ks bf).kf.at a=uD u:=by simp[aa.kf,iM,KF.at,kc];omega
  rw[e];have h0:0<=u:=by simp at gT;exact gT.2.2.1
  simp only[go_sem,simprocAttr,pQ,qB,aa.cells,aa.bD,aa.cd,cJ,List.length_map];refine U (Wj (hT.ext _) h0 hu) ?_;simp only[go_sem,simprocAttr];exact⟨_,rfl⟩
 by_cases h2:k=2
 ·subst h2
  have e:(aa.mk 2 n u t p ks bf).kf.at a=wx t:=by simp[aa.kf,iM,KF.at,kc];omega
  rw[e];simp only[go_sem,simprocAttr,pQ,qB,aa.cells,aa.bD,aa.cd,cJ,List.length_map]
  repeat' first
   |(with_reducible refine aW _ (fun h=>?_) (fun h=>?_)<;>simp only[go_sem,simprocAttr,h])
   |(with_reducible refine U (Wp (by omega) _) ?_;simp only[go_sem,simprocAttr])
   |(refine ba ?_;simp only[go_sem,simprocAttr])
   |(refine And.intro (by(try simp only[bP,LL]);omega) ?_;try simp only[go_sem,simprocAttr])
   |(intro _)
  all_goals exact⟨_,rfl⟩
 by_cases h3:k=3
 ·subst h3
  have e:(aa.mk 3 n u t p ks bf).kf.at a=oy u:=by simp[aa.kf,iM,KF.at,kc];omega
  rw[e];simp only[go_sem,simprocAttr,pQ,qB,aa.cells,aa.bD,aa.cd,cJ,List.length_map]
  repeat' first
   |(with_reducible refine aW _ (fun h=>?_) (fun h=>?_)<;>simp only[go_sem,simprocAttr,h])
   |(with_reducible refine U (Wl _ _) ?_;simp only[go_sem,simprocAttr])
   |(refine ba ?_;simp only[go_sem,simprocAttr])
   |(refine And.intro (by(try simp only[bP,LL]);omega) ?_;try simp only[go_sem,simprocAttr])
   |(intro _)
  all_goals exact⟨_,rfl⟩
 by_cases h4:k=4
 ·subst h4
  have e:(aa.mk 4 n u t p ks bf).kf.at a=[40,41]:=by simp[aa.kf,iM,KF.at,kc];omega
  rw[e];simp only[go_sem,simprocAttr,pQ,qB,aa.cells,aa.bD,aa.cd,cJ,List.length_map]
  repeat' first
   |(with_reducible refine aW _ (fun h=>?_) (fun h=>?_)<;>simp only[go_sem,simprocAttr,h])
   |(refine ba ?_;simp only[go_sem,simprocAttr])
   |(refine And.intro (by(try simp only[bP,LL]);omega) ?_;try simp only[go_sem,simprocAttr])
   |(intro _)
  all_goals exact⟨_,rfl⟩
 by_cases h5:k=5
 ·subst h5
  have e:(aa.mk 5 n u t p ks bf).kf.at a=n:=by simp[aa.kf,iM,KF.at,kc];omega
  rw[e];simp only[go_sem,simprocAttr,pQ,qB,aa.cells,aa.bD,aa.cd,cJ,List.length_map]
  repeat' first
   |(with_reducible refine aW _ (fun h=>?_) (fun h=>?_)<;>simp only[go_sem,simprocAttr,h])
   |(refine ba ?_;simp only[go_sem,simprocAttr])
   |(refine And.intro (by(try simp only[bP,LL]);omega) ?_;try simp only[go_sem,simprocAttr])
   |(intro _)
  all_goals exact⟨_,rfl⟩
 by_cases h7:k=7
 ·subst h7
  have e:(aa.mk 7 n u t p ks bf).kf.at a=40::(cC [44,32] (ks.map fun x=>x.kf.at 0)++[41]):=by simp[aa.kf,aa.gu,iM,KF.at,kc,Function.comp_def];omega
  rw[e];have PY:=hj [44,32] (by decide) 0;have Jh:=fun H (hT:Tb H)=>Mv (hF 0 (by decide)) (sep:=[44,32]) (by decide) Fh (by omega) hT
  clear e;generalize cC [44,32] (ks.map fun x=>x.kf.at 0)=sj at PY Jh;simp only[go_sem,simprocAttr,pQ,qB,aa.cells,aa.bD,aa.cd,cJ,List.length_map]
  repeat' first
   |(with_reducible refine aW _ (fun h=>?_) (fun h=>?_)<;>simp only[go_sem,simprocAttr,h])
   |(with_reducible refine U (Jh _ (hT.ext _)) ?_;simp only[go_sem,simprocAttr])
   |(refine ba ?_;simp only[go_sem,simprocAttr])
   |(refine And.intro (by(try simp only[bP,LL]);omega) ?_;try simp only[go_sem,simprocAttr])
   |(intro _)
  all_goals first|exact⟨s2 (by simp),_,rfl⟩|exact⟨_,rfl⟩
 by_cases xh:k=14
 ·subst xh
  obtain⟨c0,c1,rfl⟩:=uJ (l:=ks) (by simpa using(by simpa using gT:_/\_).1);simp only[aa.dJ,wK,aa.eO]at hW;simp only[aa.eO]at eN;obtain⟨o1,o2⟩:=ZL n;have a0:=(db c0.kf (kQ n).2.1).1;have a1:=(db c1.kf (kQ n).2.2).1;have g0:=hk c0 (by simp) (kQ n).2.1;have g1:=hk c1 (by simp) (kQ n).2.2;have e:(aa.mk 14 n u t p [c0,c1] bf).kf.at a=kc (c0.kf.at (kQ n).2.1++(32::(n++(32::c1.kf.at (kQ n).2.2)))) (kQ n).1 a:=by simp[aa.kf,aa.dJ,iM,KF.at]
  rw[e];clear e vY HE hF hj;have X7:=Wm n;generalize c0.kf.at (kQ n).2.1=s0 at *;generalize c1.kf.at (kQ n).2.2=s1 at *;generalize (kQ n).2.1=l1 at *;generalize (kQ n).2.2=l2 at *;generalize (kQ n).1=l0 at *;obtain⟨k0,n0,u0,t0,p0,q0,r0⟩:=c0;obtain⟨k1,n1,u1,t1,p1,q1,r1⟩:=c1;simp only[aa.cells,cJ,List.map_cons,List.map_nil,aa.cd]at g0 g1;simp only[go_sem,simprocAttr,pQ,qB,aa.cells,aa.aJ,aa.cd,cJ,List.length_map]
  repeat' first
   |(with_reducible refine aW _ (fun h=>?_) (fun h=>?_)<;>simp only[go_sem,simprocAttr,h])
   |(with_reducible refine U (X7 _) ?_;simp only[go_sem,simprocAttr])
   |(with_reducible refine bQ (fun A=>g0 _ (by omega) ((hT.ext _).ext _)) (cA.refl _) ?_;simp only[go_sem,simprocAttr])
   |(with_reducible refine bQ (fun A=>g1 _ (by omega) ((hT.ext _).ext _)) (cA.refl _) ?_;simp only[go_sem,simprocAttr])
   |(with_reducible refine U (nB (by simp only[List.length_append,List.length_cons,List.length_nil];omega) _ _ _) ?_;simp only[go_sem,simprocAttr])
   |(refine ba ?_;simp only[go_sem,simprocAttr])
   |(refine And.intro (by(try simp only[bP,LL]);omega) ?_;try simp only[go_sem,simprocAttr])
   |(intro _)
  all_goals first|exact⟨s2 (by simp),_,rfl⟩|exact⟨_,rfl⟩
 by_cases h6:k=6
 ·subst h6
  by_cases hl:(ks.length:Int)=0
  ·obtain rfl:=AW hl
   have e:(aa.mk 6 n u t p [] bf).kf.at a=n:=by simp[aa.kf,aa.dJ,iM,KF.at,kc];omega
   rw[e];simp only[go_sem,simprocAttr,pQ,qB,aa.cells,aa.bD,aa.cd,cJ,List.length_map]
   repeat' first
    |(with_reducible refine aW _ (fun h=>?_) (fun h=>?_)<;>simp only[go_sem,simprocAttr,h])
    |(refine ba ?_;simp only[go_sem,simprocAttr])
    |(refine And.intro (by(try simp only[bP,LL]);omega) ?_;try simp only[go_sem,simprocAttr])
    |(intro _)
   all_goals exact⟨_,rfl⟩
  ·obtain⟨c0,rfl⟩:=uI (l:=ks) (by simp at gT hl;have:=gT.1;have:=List.length_pos_iff.2 hl;omega)
   have g0:=hk c0 (by simp) 6;simp only[aa.dJ,wK,aa.eO]at hW;simp only[aa.eO]at eN;have a0:=(db c0.kf 6).1;have e:(aa.mk 6 n u t p [c0] bf).kf.at a=kc (n++(32::c0.kf.at 6)) 5 a:=by simp[aa.kf,aa.dJ,iM,KF.at]
   rw[e];clear e vY HE hF hj;generalize c0.kf.at 6=s0 at *;obtain⟨k0,n0,u0,t0,p0,q0,r0⟩:=c0;simp only[aa.cells,cJ,List.map_cons,List.map_nil,aa.cd]at g0;simp only[go_sem,simprocAttr,pQ,qB,aa.cells,aa.aJ,aa.cd,cJ,List.length_map]
   repeat' first
    |(with_reducible refine aW _ (fun h=>?_) (fun h=>?_)<;>simp only[go_sem,simprocAttr,h])
    |(with_reducible refine bQ (fun A=>g0 _ (by decide) ((hT.ext _).ext _)) (cA.refl _) ?_;simp only[go_sem,simprocAttr])
    |(with_reducible refine U (nB (by simp only[List.length_append,List.length_cons,List.length_nil];omega) _ _ _) ?_;simp only[go_sem,simprocAttr])
    |(refine ba ?_;simp only[go_sem,simprocAttr])
    |(refine And.intro (by(try simp only[bP,LL]);omega) ?_;try simp only[go_sem,simprocAttr])
    |(intro _)
   all_goals first|exact⟨s2 (by simp),_,rfl⟩|exact⟨_,rfl⟩
 by_cases Pd:k=15
 ·subst Pd
  by_cases hl:(ks.length:Int)=0
  ·obtain rfl:=AW hl
   have e:(aa.mk 15 n u t p [] bf).kf.at a=n:=by simp[aa.kf,aa.dJ,iM,KF.at,kc];omega
   rw[e];simp only[go_sem,simprocAttr,pQ,qB,aa.cells,aa.bD,aa.cd,cJ,List.length_map]
   repeat' first
    |(with_reducible refine aW _ (fun h=>?_) (fun h=>?_)<;>simp only[go_sem,simprocAttr,h])
    |(refine ba ?_;simp only[go_sem,simprocAttr])
    |(refine And.intro (by(try simp only[bP,LL]);omega) ?_;try simp only[go_sem,simprocAttr])
    |(intro _)
   all_goals exact⟨_,rfl⟩
  ·obtain⟨c0,rfl⟩:=uI (l:=ks) (by have h1:(ks.length:Int)=arity n:=(by simp at gT;exact gT.1);rcases oS n with h|h|h<;>omega)
   have g0:=hk c0 (by simp) 6;simp only[aa.dJ,wK,aa.eO]at hW;simp only[aa.eO]at eN;have a0:=(db c0.kf 6).1;have e:(aa.mk 15 n u t p [c0] bf).kf.at a=kc (n++(32::c0.kf.at 6)) 5 a:=by simp[aa.kf,aa.dJ,iM,KF.at]
   rw[e];clear e vY HE hF hj;generalize c0.kf.at 6=s0 at *;obtain⟨k0,n0,u0,t0,p0,q0,r0⟩:=c0;simp only[aa.cells,cJ,List.map_cons,List.map_nil,aa.cd]at g0;simp only[go_sem,simprocAttr,pQ,qB,aa.cells,aa.aJ,aa.cd,cJ,List.length_map]
   repeat' first
    |(with_reducible refine aW _ (fun h=>?_) (fun h=>?_)<;>simp only[go_sem,simprocAttr,h])
    |(with_reducible refine bQ (fun A=>g0 _ (by decide) ((hT.ext _).ext _)) (cA.refl _) ?_;simp only[go_sem,simprocAttr])
    |(with_reducible refine U (nB (by simp only[List.length_append,List.length_cons,List.length_nil];omega) _ _ _) ?_;simp only[go_sem,simprocAttr])
    |(refine ba ?_;simp only[go_sem,simprocAttr])
    |(refine And.intro (by(try simp only[bP,LL]);omega) ?_;try simp only[go_sem,simprocAttr])
    |(intro _)
   all_goals first|exact⟨s2 (by simp),_,rfl⟩|exact⟨_,rfl⟩
 by_cases h9:k=9
 ·subst h9
  obtain⟨c0,c1,rfl⟩:=uJ (l:=ks) (by simpa using(by simpa using gT:_/\_).1);simp only[aa.dJ,wK,aa.eO]at hW;simp only[aa.eO]at eN;have a0:=(db c0.kf 5).1;have a1:=(db c1.kf 6).1;have g0:=hk c0 (by simp) 5;have g1:=hk c1 (by simp) 6;have e:(aa.mk 9 n u t p [c0,c1] bf).kf.at a=kc (c0.kf.at (if c0.kf.b then 7 else 5)++(32::c1.kf.at 6)) 5 a:=by simp[aa.kf,aa.dJ,iM,KF.at]
  rw[e];clear e vY HE hF hj;obtain⟨k0,n0,u0,t0,p0,q0,r0⟩:=c0;obtain⟨k1,n1,u1,t1,p1,q1,r1⟩:=c1;have hb:=@Ws k0 n0 u0 t0 p0 q0 r0;have pU:=ab5 k0 n0 u0 t0 p0 q0 r0;generalize (aa.mk k0 n0 u0 t0 p0 q0 r0).kf=f0 at *;generalize (aa.mk k1 n1 u1 t1 p1 q1 r1).kf.at 6=s1 at *;simp only[aa.cells,cJ,List.map_cons,List.map_nil,aa.bD,aa.cd]at g0 g1;simp only[go_sem,simprocAttr,pQ,qB,aa.cells,aa.bD,aa.cd,cJ,List.length_map]
  repeat' first
   |(with_reducible refine aW _ (fun h=>?_) (fun h=>?_)<;>simp only[go_sem,simprocAttr,h,List.length_map])
   |(with_reducible refine U (g0 _ (by decide) (hT.ext _)) ?_;simp only[go_sem,simprocAttr,List.length_map])
   |(with_reducible refine U (g1 _ (by decide) (hT.ext _)) ?_;simp only[go_sem,simprocAttr,List.length_map])
   |(with_reducible refine U (nB (by simp only[List.length_append,List.length_cons,List.length_nil];omega) _ _ _) ?_;simp only[go_sem,simprocAttr,List.length_map])
   |(refine ba ?_;simp only[go_sem,simprocAttr,List.length_map])
   |(refine And.intro (by(try simp only[bP,LL]);omega) ?_;try simp only[go_sem,simprocAttr,List.length_map])
   |(intro _)
  all_goals refine⟨s2 ?_,_,rfl⟩
  ·rename_i Ut _
   have hbt:f0.b=true:=by rw[pU,Ut,h];rfl
   rw[if_pos hbt,hb hbt];simp
  ·have hbf:f0.b=false:=by rw[pU,h,Bool.and_false]
   rw[hbf];rfl
  ·have hbf:f0.b=false:=by rw[pU,h,Bool.false_and]
   rw[hbf];rfl
 have pV:k=8\/k=10\/k=11\/k=12\/k=13:=by
  rw[if_neg h1,if_neg h2,if_neg h3,if_neg h4,if_neg h5,if_neg h6,if_neg h7]at gT;by_cases h8:k=8
  ·exact .inl h8
  by_cases lN:k=10
  ·exact .inr (.inl lN)
  by_cases vW:k=11
  ·exact .inr (.inr (.inl vW))
  by_cases gz:k=12
  ·exact .inr (.inr (.inr (.inl gz)))
  by_cases Pc:k=13
  ·exact .inr (.inr (.inr (.inr Pc)))
  rw[if_neg h8,if_neg h9,if_neg lN,if_neg vW,if_neg gz,if_neg Pc,if_neg xh,if_neg Pd]at gT;cases gT
 have vY:=vY pV
 have e:(aa.mk k n u t p ks bf).kf.at a=kc (aa.mk k n u t p ks bf).kf.f 0 a:=by
  rw[KF.at];congr 1;rw[aa.kf,iM];rcases pV with rfl|rfl|rfl|rfl|rfl<;>rfl
 rw[e];clear e;rw[aa.sz]at HE;generalize (aa.mk k n u t p ks bf).kf.f=s at *;simp only[aa.cells,cJ,List.map_cons,List.map_nil,aa.bD,aa.cd]at vY;have d1:decide (k=1)=false:=decide_eq_false h1;have d2:decide (k=2)=false:=decide_eq_false h2;have d3:decide (k=3)=false:=decide_eq_false h3;have d4:decide (k=4)=false:=decide_eq_false h4;have d5:decide (k=5)=false:=decide_eq_false h5;have d6:decide (k=6)=false:=decide_eq_false h6;have d7:decide (k=7)=false:=decide_eq_false h7;have d9:decide (k=9)=false:=decide_eq_false h9;have d14:decide (k=14)=false:=decide_eq_false xh;have d15:decide (k=15)=false:=decide_eq_false Pd;simp only[go_sem,simprocAttr,pQ,qB,aa.cells,aa.bD,aa.cd,cJ,List.length_map,d1,d2,d3,d4,d5,d6,d7,d9,d14,d15]
 repeat' first
  |(with_reducible refine aW _ (fun h=>?_) (fun h=>?_)<;>simp only[go_sem,simprocAttr,h])
  |(with_reducible refine U (vY _ (hT.ext _)) ?_;simp only[go_sem,simprocAttr])
  |(with_reducible refine U (nB (by omega) _ _ _) ?_;simp only[go_sem,simprocAttr])
  |(refine ba ?_;simp only[go_sem,simprocAttr])
  |(refine And.intro (by(try simp only[bP,LL]);omega) ?_;try simp only[go_sem,simprocAttr])
  |(intro _)
 all_goals exact⟨_,rfl⟩
theorem ZM (p:aa) (h:p.sz≤1073741824) (dO:p.okB=true) (hf:p.fit):qH p:=by
  have :∀(m:Nat) (p:aa),p.sz<m→p.sz≤1073741824→p.okB=true →p.fit→qH p:=by
    intro m
    induction m with
    |zero=>intro p h;omega
    |succ m ih=>
     intro p h h2 dO hf;obtain⟨k,n,u,t,q,ks,bf⟩:=p;rw[aa.sz]at h h2;have agN:=dO;have hf2:=hf;rw[aa.okB,aa.qs,aa.Ng,Bool.and_eq_true,Bool.and_eq_true,List.all_eq_true,List.all_eq_true]at dO;rw[aa.fit]at hf;refine Wt _ _ _ _ _ _ _ agN hf2 h2 (fun a ha=> ?_) fun q e ha=> ?_
     · rw[aa.lY]at h h2
       have :=gF aa.sz ha;exact ih a (by omega) (by omega) (dO.2.1 a ha) (aa.rF hf.2.1 ha)
     · rw[aa.FQ]at h h2
       have :=gF ar.sz ha;rw[ar.sz]at this;have h3:=dO.2.2 _ ha;rw[ar.okB,Bool.and_eq_true]at h3;have h4:=aa.ET hf.2.2 ha;rw[ar.fit]at h4;exact⟨ZK q (by omega) h3.1 h4.1,ih e (by omega) (by omega) h3.2 h4.2⟩
  exact this _ p (Nat.lt_succ_self _) h dO hf
theorem xE {α:Type} (f:α->List UInt8) (l:List α) (x:Nat):((l.take x).map f).flatten.length<=(l.map f).flatten.length:=by
 have h:=List.take_append_drop x l;have h2:(l.map f).flatten=((l.take x).map f).flatten++((l.drop x).map f).flatten:=by rw[<-List.flatten_append,<-List.map_append,h]
 rw[h2,List.length_append];omega
theorem Jj {α:Type} (f:α->List UInt8) {l:List α} {x:Nat} (h:x<l.length):((l.take (x+1)).map f).flatten=((l.take x).map f).flatten++f l[x]:=by
 rw[List.take_succ_eq_append_getElem h];simp only[List.map_append,List.flatten_append,List.map_cons,List.map_nil,List.flatten_cons,List.flatten_nil,List.append_nil]
def vg (v:List UInt8):List UInt8:=39::(v++[32])
theorem Dw:∀l:List (List UInt8),l.length<=lX l
 |[]=>by simp
 |v::l=>by have:=Dw l;rw[lX,List.length_cons];omega
theorem Dx:∀l:List ai,l.length<=fI l
 |[]=>by simp
 |v::l=>by have:=Dx l;rw[fI,List.length_cons];omega
theorem Av:∀l:List (List UInt8),((l.map vg).flatten).length≤3*lX l
  |[]=>by simp
  |v::l=>by
   have :=Av l;rw[List.map_cons,List.flatten_cons,List.length_append,lX,vg];simp only[List.length_cons,List.length_append,List.length_nil];omega
theorem Aw (c:ai):c.form.length<=100*c.sz+40:=by
 have:=af.la c.arg;have:=(db c.arg.kf 0).1;rw[ai.form,ai.sz,List.length_append];split
 ·rw[List.length_append];simp only[List.length_cons,List.length_nil];omega
 ·simp only[List.length_nil];omega
theorem xF:∀l:List ai,(cC [32,124,32] (l.map ai.form)).length≤100*fI l
  |[]=>by simp[cC]
  |[c]=>by have :=Aw c;simp only[List.map_cons,List.map_nil,cC,fI];omega
  |c::d::l=>by
   have h1:=Aw c;have h2:=xF (d::l);have e:cC [32,124,32] ((c::d::l).map ai.form)=c.form++([32,124,32]++cC [32,124,32] ((d::l).map ai.form)):=rfl;rw[e,fI];simp only[List.length_append,List.length_cons,List.length_nil]at h2⊢;omega
theorem PZ (d:ao):d.form.length<=100*d.sz+10:=by
 have h1:=Av d.vars;have h2:=xF d.ctors;have e:d.form=[116,121,112,101,32]++((d.vars.map vg).flatten++(d.name++([32,61,32]++(cC [32,124,32] (d.ctors.map ai.form)++[59,10])))):=rfl;rw[e,ao.sz];simp only[List.length_append,List.length_cons,List.length_nil];omega
theorem sU:∀l:List ao,((l.map ao.form).flatten).length≤110*fU l
  |[]=>by simp
  |d::l=>by
   have :=PZ d;have :=sU l;rw[List.map_cons,List.flatten_cons,List.length_append,fU];omega
theorem adV {H:List AO} {a:AV} {sz:Nat} {rs:List (List AV)} (h:iG H a sz rs) {j:Nat} {cs:List AV} (hj:H[j]?=some (.var cs)):∀v q n,a≠.gs j v q n:=by
 rintro v q n rfl;rcases h with⟨h,_⟩|⟨id,ver,h,h2⟩
 ·cases h
 ·cases h;rw[hj]at h2;cases h2
theorem zd:∀s:List UInt8,ja s=cR s
 |[]=>rfl
 |c::s=>by rw[ja,zd s];rfl
theorem kT.apps {H:List AO} {l s:List UInt8} {a:AV} {X:List AO} (hB:kT H 1 (cR l) a X) {K:St->Prop} {L T:En} {d:MD} (hl:l.length+s.length<=140737488355328)
  (k:∀id ver m X2,kT H 1 (cR (l++s)) (.gs id ver 0 m) X2->(∀(j:Nat) cs,X[j]?=some (.var cs)->X2[j]?=some (.var cs))->K (St.put ⟨L,T,X2⟩ d (.gs id ver 0 m))):
  (∀r∈ja s,r.length=1)/\lR 1 1 a (ja s) d K ⟨L,T,X⟩:=by
 rw[zd];have pr:(cR l).length=l.length:=bF _;have Mw:(cR s).length=s.length:=bF _;refine⟨Wo,?_⟩;refine gb (rs:=cR l) hB.own (by rw[pr,Mw];omega) (by rw[pr,Mw];omega) ?_;intro id ver X2 k1 k2 k3 k4;have hJ:=hB.app k1 k2 k3 (n:=l.length+s.length) (by rw[List.length_append,pr,Mw]);rw[<-xD]at hJ;rw[pr,Mw];exact k id ver _ X2 hJ fun j cs hj=>k3 j _ hj (adV hB.own hj)
theorem kT.lift {H X X':List AO} {sz:Nat} {rs:List (List AV)} {a:AV} (h:kT H sz rs a X) (k:∀(j:Nat) o,X[j]?=some o->X'[j]?=some o):kT H sz rs a X':=by
 refine⟨?_,h.new,fun j o hj=>k j o (h.fr j o hj)⟩;rcases h.own with h|⟨id,ver,h1,h2⟩
 ·exact .inl h
 ·exact .inr ⟨id,ver,h1,k _ _ h2⟩
theorem ZN {ds:List ao} (dO:∀d∈ds,d.okB=true) (eN:fU ds<=1073741824) {H:List AO} (hT:Tb H):al Tryz.prog 47 [.p (.l (ds.map ao.cells))] H (aP (.p (.s (ds.map ao.form).flatten)) H):=by
 refine aV ?_ (bw _);refine call47 (by simp) ?_;have hL:=sU ds
 have hN:ds.length<=fU ds:=by
  have:∀l:List ao,l.length<=fU l:=by
   intro l
   induction l with
   |nil=>simp
   |cons a l ih=>rw[fU,List.length_cons];omega
  exact this ds
 simp only[go_sem,simprocAttr,Vv,abM,List.length_map];intro _;refine⟨Nat×AV×List AO,[2,3,12,13,14],fun x st=>(x.1<=ds.length/\kT H 1 (cR (((ds.take x.1).map ao.form).flatten)) x.2.1 x.2.2)/\st=⟨[(2,.p (.s [])),(3,x.2.1),(12,.p (.l (ds.map ao.cells))),(13,.p (.i .i64 ds.length)),(14,.p (.i .i64 x.1))],[],x.2.2⟩,fun x=>ds.length-x.1,⟨(0,.p .nl,H),?_⟩,?_⟩
 ·simp only[go_sem,simprocAttr]
  exact⟨Nat.zero_le _,kT.nil H 1⟩
 rintro⟨x,a,X⟩ _ ⟨⟨hx,hB⟩,rfl⟩;simp only at hx hB;have hfx:=xE ao.form ds x;by_cases aF:x<ds.length;rotate_left
 ·have d1:decide ((x:Int)<(ds.length:Int))=false:=by simp;omega
  rw[List.take_of_length_le (by omega)]at hB;have hb:=yo hB.own (by omega);simp only[go_sem,simprocAttr,d1,hb];exact hB.ends
 have d1:decide ((x:Int)<(ds.length:Int))=true:=by simp;omega
 have dr:(x:Int)<(ds.length:Int):=by omega
 have hg:(ds.map ao.cells)[x]?=some (ao.cells ds[x]):=by simp[aF]
 have Wu:=dO ds[x] (List.getElem_mem aF);have hdz:ds[x].sz<=fU ds:=sQ (List.getElem_mem aF);have yr:=Jj ao.form aF;generalize ds[x]=d at hg Wu hdz yr;obtain⟨n,vs,cs,p⟩:=d;have DC:ao.form ⟨n,vs,cs,p⟩=[116,121,112,101,32]++((vs.map vg).flatten++(n++([32,61,32]++(cC [32,124,32] (cs.map ai.form)++[59,10])))):=rfl;rw[DC]at yr;have hvl:=Av vs;have Q3:=xF cs;have hvc:=Dw vs;have fH:=Dx cs;simp only[ao.sz]at hdz;simp only[ao.cells,eH]at hg;generalize M0:((ds.take x).map ao.form).flatten=pre at hB yr hfx;simp only[go_sem,simprocAttr,d1,dr,hg,List.length_map];have hb0:(X++[AO.var [.p (.s n),.p (.l (vs.map fun s=>[PV.s s])),.p (.l (cs.map ai.cells)),.p (.i .i64 p)]])[X.length]?=some (.var [.p (.s n),.p (.l (vs.map fun s=>[PV.s s])),.p (.l (cs.map ai.cells)),.p (.i .i64 p)]):=by rw[fX];rfl
 refine(hB.ext _).apps (by simp only[List.length_cons,List.length_nil];omega) ?_;intro id0 agO m0 X0 hB0 hv0;have hb:=hv0 _ _ hb0;clear hb0 hv0;generalize X.length=b at hb⊢;simp only[go_sem,simprocAttr,hb,List.length_map];intro hvm;refine⟨Nat×AV×List AO,[2,3,5,12,13,14,21,22,23],fun y st=>(y.1<=vs.length/\kT H 1 (cR (pre++[116,121,112,101,32]++((vs.take y.1).map vg).flatten)) y.2.1 y.2.2/\y.2.2[b]?=some (.var [.p (.s n),.p (.l (vs.map fun s=>[PV.s s])),.p (.l (cs.map ai.cells)),.p (.i .i64 p)]))/\st=⟨[(2,.p (.s [])),(3,y.2.1),(12,.p (.l (ds.map ao.cells))),(13,.p (.i .i64 ds.length)),(14,.p (.i .i64 x)),(5,.ptr b 0),(21,.p (.l (vs.map fun s=>[PV.s s]))),(22,.p (.i .i64 vs.length)),(23,.p (.i .i64 y.1))],[],y.2.2⟩,fun y=>vs.length-y.1,⟨(0,.gs id0 agO 0 m0,X0),?_⟩,?_⟩
 ·simp only[go_sem,simprocAttr]
  exact⟨Nat.zero_le _,by simpa using hB0,hb⟩
 clear hB0 hb;rintro⟨y,a1,X1⟩ _ ⟨⟨hy,ZO,hb⟩,rfl⟩;simp only at hy ZO hb;have hfy:=xE vg vs y;by_cases Wv:y<vs.length
 ·have d2:decide ((y:Int)<(vs.length:Int))=true:=by simp;omega
  have adW:(y:Int)<(vs.length:Int):=by omega
  have Sc:(vs.map fun s=>[PV.s s])[y]?=some [.s vs[y]]:=by simp[Wv]
  have Ww:=Jj vg Wv;have ab6:=xE vg vs (y+1);rw[Ww,List.length_append]at ab6;generalize vs[y]=v at Sc Ww ab6;have aia:(vg v).length=v.length+2:=by simp[vg]
  simp only[go_sem,simprocAttr,d2,adW,Sc,List.length_map];refine⟨by rw[bP];omega,by rw[bP];omega,?_⟩;refine ZO.apps (s:=vg v) (by simp only[List.length_append,List.length_cons,List.length_nil];omega) ?_;intro id2 QR m2 X2 vZ hv2;simp only[go_sem,simprocAttr,cH y (by omega)];refine⟨(y+1,_,X2),⟨⟨by omega,?_,hv2 _ _ hb⟩,rfl⟩,by simp only;omega⟩;rw[Ww];simpa using vZ
 ·have d2:decide ((y:Int)<(vs.length:Int))=false:=by simp;omega
  rw[List.take_of_length_le (by omega)]at ZO hfy;clear hy Wv;simp only[go_sem,simprocAttr,d2,hb,List.length_map];intro hcm;refine⟨Nat×AV×List AO,[2,3,5,8,12,13,14,34,35,36],fun z st=>(z.1<=cs.length/\kT X1 1 (gr ((cs.take z.1).map ai.form)) z.2.1 z.2.2)/\st=⟨[(2,.p (.s [])),(3,a1),(12,.p (.l (ds.map ao.cells))),(13,.p (.i .i64 ds.length)),(14,.p (.i .i64 x)),(5,.ptr b 0),(8,z.2.1),(34,.p (.l (cs.map ai.cells))),(35,.p (.i .i64 cs.length)),(36,.p (.i .i64 z.1))],[],z.2.2⟩,fun z=>cs.length-z.1,⟨(0,.p .nl,X1),?_⟩,?_⟩
  ·simp only[go_sem,simprocAttr]
   exact⟨Nat.zero_le _,kT.nil X1 1⟩
  rintro⟨z,c,X2⟩ _ ⟨⟨hz,hC⟩,rfl⟩;simp only at hz hC;have vZ:=ZO.lift hC.fr;have pU:=hC.fr _ _ hb;have D4:∀A,Tb (X2++A):=fun A=>(hT.eF vZ.fr).ext A
  by_cases N6:z<cs.length
  ·have d3:decide ((z:Int)<(cs.length:Int))=true:=by simp;omega
   have Wx:(z:Int)<(cs.length:Int):=by omega
   have Wy:(cs.map ai.cells)[z]?=some (ai.cells cs[z]):=by simp[N6]
   have ab7:(cs.take (z+1)).map ai.form=(cs.take z).map ai.form++[ai.form cs[z]]:=by rw[List.take_succ_eq_append_getElem N6,List.map_append,List.map_cons,List.map_nil]
   have Wz:cs[z].okB=true:=by
    simp only[ao.okB,Bool.and_eq_true,List.all_eq_true]at Wu;exact Wu.2.2.2.2 _ (List.getElem_mem N6)
   have hcz:cs[z].sz<=fI cs:=by
    have:∀l:List ai,cs[z]∈l->cs[z].sz<=fI l:=by
     intro l
     induction l with
     |nil=>intro h;cases h
     |cons a l ih=>intro h;rw[fI];rcases List.mem_cons.1 h with h|h;rw[h];omega;have:=ih h;omega
    exact this cs (List.getElem_mem N6)
   generalize cs[z]=cc at Wy ab7 Wz hcz;have hcf:=Aw cc;obtain⟨cn,ch,ca,cp⟩:=cc;have hcF:ai.form ⟨cn,ch,ca,cp⟩=cn++(if ch then[32,111,102,32]++ca.kf.at 0 else[]):=rfl;simp only[ai.okB,Bool.and_eq_true]at Wz;simp only[ai.sz]at hcz;have Fx:(gr ((cs.take z).map ai.form)).length=z:=by rw[gB,List.length_map,List.length_take];omega
   have key:∀(s:List UInt8) (A:List AO) (K:St->Prop) (L T:En) (dd:MD),s=ai.form ⟨cn,ch,ca,cp⟩->(∀id ver X3,kT X1 1 (gr ((cs.take (z+1)).map ai.form)) (.gs id ver 0 (z+1)) X3->K (St.put ⟨L,T,X3⟩ dd (.gs id ver 0 (z+1))))->lR 1 16 c [[.p (.s s)]] dd K ⟨L,T,X2++A⟩:=by
    rintro s A K L T dd rfl k;refine gb (rs:=gr ((cs.take z).map ai.form)) (hC.ext A).own (by rw[Fx];simp;omega) (by rw[Fx];simp;omega) ?_;intro id ver X3 k1 k2 k3 k4;have hJ:=(hC.ext A).app k1 k2 k3 (n:=z+1) (by rw[List.length_append,Fx];rfl);rw[vM,<-ab7]at hJ;rw[Fx];exact k id ver X3 hJ
   cases ch
   ·obtain⟨ak,an,ap,II⟩:=ca
    simp only[ai.cells,af.cells,List.cons_append,List.nil_append]at Wy;simp only[go_sem,simprocAttr,d3,Wx,Wy,List.length_map];refine⟨by intro r hr;simp at hr;subst hr;rfl,?_⟩;refine key _ _ _ _ _ _ (by rw[hcF];simp) ?_;intro id ver X3 hJ;simp only[go_sem,simprocAttr,cH z (by omega)];exact⟨(z+1,_,X3),⟨⟨by omega,hJ⟩,rfl⟩,by simp only;omega⟩
   ·have htf:=adT ca (by omega) (by simpa using Wz.2.2) 0
    have Te:=af.la ca;have agP:=(db ca.kf 0).1;obtain⟨ak,an,ap,II⟩:=ca;simp only[ai.cells,af.cells,List.cons_append,List.nil_append]at Wy;generalize (af.mk ak an ap II).kf.at 0=sa at htf hcF agP;simp only[af.cells,cJ,List.map_cons,List.map_nil]at htf;simp only[go_sem,simprocAttr,d3,Wx,Wy,List.length_map];refine U (htf _ (by decide) (D4 _)) ?_;simp only[go_sem,simprocAttr];refine⟨by rw[bP];omega,by rw[bP];omega,by intro r hr;simp at hr;subst hr;rfl,?_⟩;refine key _ _ _ _ _ _ (by rw[hcF];simp) ?_;intro id ver X3 hJ;simp only[go_sem,simprocAttr,cH z (by omega)];exact⟨(z+1,_,X3),⟨⟨by omega,hJ⟩,rfl⟩,by simp only;omega⟩
  ·have d3:decide ((z:Int)<(cs.length:Int))=false:=by simp;omega
   rw[List.take_of_length_le (by omega)]at hC;simp only[go_sem,simprocAttr,d3];have hj:(cC [32,124,32] (cs.map ai.form)).length<=200000000000:=by omega
   have hjc:=fun A=>GL (sep:=[32,124,32]) (hC.ext A) (by decide) (by omega)
   generalize cC [32,124,32] (cs.map ai.form)=sj at hj hjc yr Q3;refine ba ?_;simp only[go_sem,simprocAttr,pU]
   repeat' first
    |(with_reducible refine aW _ (fun h=>?_) (fun h=>?_)<;>simp only[go_sem,simprocAttr,h])
    |(with_reducible refine bQ (fun A=>hjc _) (cA.refl _) ?_;simp only[go_sem,simprocAttr])
    |(refine ba ?_;simp only[go_sem,simprocAttr])
    |(refine And.intro (by(try simp only[bP,LL]);omega) ?_;try simp only[go_sem,simprocAttr])
    |(intro _)
   refine vZ.apps (s:=n++([32,61,32]++(sj++[59,10]))) (by simp only[List.length_append,List.length_cons,List.length_nil];omega) ?_;intro id3 aib m3 X3 hB3 hv3;simp only[go_sem,simprocAttr,cH x (by omega)];refine⟨(x+1,_,X3),⟨⟨by omega,?_⟩,rfl⟩,by simp only;omega⟩;rw[yr];simpa using hB3
theorem GO {g:aI} (hg:g.sz<=1073741824) (hf:g.body.fit) {H:List AO} (hT:Tb H):al Tryz.prog 15 [cJ g.cells] H (aP (.p (.s g.print)) H):=by
 obtain⟨ds,b⟩:=g;have P0:=Dq ⟨ds,b⟩ hg;simp only[aI.sz]at hg;simp only at hf;refine aV ?_ (bw _);refine call15 (by simp) ?_;unfold aI.print;cases dO:aI.okB ⟨ds,b⟩
 ·rw[dO]at P0
  obtain⟨k,n,u,t,p,ks,bf⟩:=b;simp only[aI.cells,aa.cells,cJ,List.map_cons,List.map_nil]at P0;simp only[go_sem,simprocAttr,NU,Vt,aI.cells,aa.cells,cJ];refine U (P0 _) ?_;simp only[go_sem,simprocAttr];exact⟨_,rfl⟩
 rw[dO]at P0;simp only[aI.okB,Bool.and_eq_true,List.all_eq_true]at dO;have h1:=fun A=>ZN (H:=H++A) (ds:=ds) dO.2 (by omega) (hT.ext A)
 have h2:=fun A=>ZM b (by omega) dO.1 hf 0 (H++A) (by decide) (hT.ext A)
 have l1:=sU ds;have l2:=aa.la b hf;have l3:=(db b.kf 0).1;have e:aI.form ⟨ds,b⟩=(ds.map ao.form).flatten++(b.kf.at 0++[10]):=rfl;rw[e];clear e;generalize (ds.map ao.form).flatten=s1 at *;generalize b.kf.at 0=s2 at *;obtain⟨k,n,u,t,p,ks,bf⟩:=b;simp only[aI.cells,aa.cells,cJ,List.map_cons,List.map_nil]at P0 h2;simp only[go_sem,simprocAttr,NU,Vt,aI.cells,aa.cells,cJ];refine U (P0 _) ?_;simp only[go_sem,simprocAttr]
 repeat' first
  |(with_reducible refine aW _ (fun h=>?_) (fun h=>?_)<;>simp only[go_sem,simprocAttr,h])
  |(with_reducible refine bQ (fun A=>by rw[List.append_assoc];exact h1 _) (cA.refl _) ?_;simp only[go_sem,simprocAttr])
  |(with_reducible refine U (h2 _) ?_;simp only[go_sem,simprocAttr])
  |(refine ba ?_;simp only[go_sem,simprocAttr])
  |(refine And.intro (by(try simp only[bP,LL]);omega) ?_;try simp only[go_sem,simprocAttr])
  |(intro _)
 all_goals first|exact⟨s2 (by simp),_,rfl⟩|exact⟨_,rfl⟩
end Go.Proofs.YteilijfligofdaaGreatDoor.Qp
namespace Go.Proofs.YteilijfligofdaaGreatDoor.Pg
open Go.AM Mc Qp
theorem adX {g:aI} (hz:g.sz<=1000000) (hf:g.body.fit) (hl:g.form.length<=1073741824) {H:List AO} (hg:Rg H) (hT:Tb H):al Tryz.prog 18 [.st (g.cells.map .p)] H (aP (iV g.nest) H):=by
 have dO:=Dq g (by omega);have tB:=fun{H:List AO} (hT:Tb H)=>GO (g:=g) (by omega) hf hT
 have Mx:=UK (g:=g) (hf:=hf);refine aV ?_ (bw _);refine call18 (by simp) ?_;unfold aI.print at tB;unfold aI.nest;generalize hb:g.okB=ob at *;generalize g.q=q at *;generalize g.form=s at *;obtain⟨ts,⟨k,n,u,t,p,ks,bf⟩⟩:=g;simp only[go_sem,simprocAttr,U7,abK,aI.cells,aa.cells];refine U (dO _) ?_;cases ob
 ·simp only[go_sem,simprocAttr,Bool.false_eq_true]
  exact⟨_,rfl⟩
 simp only[go_sem,simprocAttr];refine U (tB (hT.ext _)) ?_;obtain⟨T,h1,h2,h3,h4⟩:=Mx rfl;have e1:wr .i64 ((s.length:Int)+1)=((s.length+1:Nat):Int):=cH _ (by omega);have e2:wr .i64 ((T.length:Int)+1)=((T.length+1:Nat):Int):=cH _ (by omega);simp only[go_sem,simprocAttr,e1];intro _;refine U (Ib (s:=s) (most:=s.length+1) (by omega) (by omega) (hg.ext _)) ?_;rw[h1,LV];simp only[go_sem,simprocAttr,List.length_map,e2];intro _;have aK:T.length<=1073741825:=by omega
 rcases hq:jh T T.length (l9 T T.length (T.length+1) (T.length+2) 1) (fm T T.length (T.length+1) (T.length+2) 1) ⟨0,0,0,0,0⟩with⟨⟨ds,k1,n1,u1,t1,q1,l1,m1⟩,s1⟩
 rw[hq]at h4;simp only at h4;refine(PX.top (NT h2 aK (Vd h2 aK (T.length+2) 1 (by omega) (by omega) (by omega)) (gA h2 (T.length+1) (T.length+2) 1) (LU h2 aK (T.length+2) 1 (by omega) (by omega) (by omega)) (cE h2 (T.length+1) (T.length+2) 1) (H.length+2)) aI.wf hq (by rw[eZ];rfl) (UH h2)).mono ?_;rintro r X' ⟨cs,R,rfl,rfl,hE⟩;rw[p4];simp only[go_sem,simprocAttr,cW];rw[h4];exact⟨rfl,_,rfl⟩
theorem Jk {g:aI} (h:g.okB=true) (hf:g.body.fit):(dM g.form).2.1=0/\(dM g.form).1.er=g.er/\g.q<=40\/(dM g.form).2.1=5\/(dM g.form).2.1=12/\40<g.q:=by
 unfold dM;rcases Tg h hf with⟨p,hp⟩|⟨T,hT,⟨h0,y,h1,h2⟩|⟨h0,q,h2⟩⟩
 ·rw[hp];exact .inr (.inl rfl)
 ·rw[hT];simp only[h2];exact .inl ⟨trivial,h1,h0⟩
 ·rw[hT];simp only[h2];exact .inr (.inr ⟨trivial,h0⟩)
theorem Jl (l:List ai):fI (l.map ai.er)=fI l:=by
 induction l with
 |nil=>rfl
 |cons c l ih=>rw[List.map_cons,fI,fI,ih,ai.er,ai.sz,ai.sz,af.mu]
theorem Jm (l:List ao):fU (l.map ao.er)=fU l:=by
 induction l with
 |nil=>rfl
 |cons d l ih=>rw[List.map_cons,fU,fU,ih,ao.er,ao.sz,ao.sz,Jl]
theorem aI.mu (g:aI):g.er.sz=g.sz:=by unfold aI.sz aI.er;simp only[Jm,aa.mu]
theorem WA {g:aI} (hf:g.body.fit) (hz:g.sz<=1000000):0<g.form.length/\g.form.length<=1073741824:=by
 have l1:=sU g.types;have l2:=aa.la g.body hf;have l3:=(db g.body.kf 0).1;unfold aI.sz at hz;unfold aI.form;simp only[List.length_append,List.length_singleton];omega
theorem Jn (b:List Int) {H:List AO} (hg:Rg H) (hT:Tb H):al Tryz.prog 4 [.p (.l (rL b))] H (fun r _=>r=.p (.b true)):=by
 refine call4 (by simp) ?_;by_cases hb:b.length<=1048576;rotate_left
 ·have d1:decide ((1048576:Int)<(b.length:Int))=true:=by simp;omega
  simp only[go_sem,simprocAttr,Yk,mr4];refine U (aby b _) ?_;simp only[go_sem,simprocAttr,d1]
 have d1:decide ((1048576:Int)<(b.length:Int))=false:=by simp;omega
 simp only[go_sem,simprocAttr,Yk,mr4];refine U (aby b _) ?_;simp only[go_sem,simprocAttr,d1];refine U (YS hb _) ?_;obtain⟨f0,f1,f2⟩:=PG b;generalize Al b=g at f0 f1 f2;obtain⟨Cg,tW⟩:=WA f1 f2;have tB:=fun{H:List AO} (hT:Tb H)=>GO (g:=g) (by omega) f1 hT
 have cK:=fun{H:List AO} (hg:Rg H) (hT:Tb H)=>adX (g:=g) f2 f1 tW hg hT
 have Mx:=Jk f0 f1;have hnn:=Jf g.form;have Cx:=fun(y:aI) (hy:y.er=g.er)=>L9 g y hy.symm
 have hpy:=fun(y:aI) (hy:y.er=g.er) (hn:y.nn)=>show(y.sz<=1073741824/\y.body.fit)/\y.okB=true/\y.form=g.form from
  ⟨⟨by rw[<-aI.mu y,hy,aI.mu];omega,by
   have:=congrArg (fun x:aI=>x.body.fit) hy;simp only[aI.er,aa.qE]at this;rw[this];exact f1⟩,aI.kr y (by rw[hy];exact aI.ko g f0) hn,by rw[<-aI.rQ y,hy,aI.rQ]⟩
 unfold aI.print at tB;unfold aI.nest at cK;rw[if_pos f0]at tB;rw[if_pos f0]at cK;generalize g.q=qq at *;generalize g.form=s at *;have hS:=fun(X:List AO)=>specParse (s:=s) (H:=X) (by omega)
 have hI:=fun(X:List AO) (hr:Rg X)=>I3 (s:=s) (H:=X) (by omega) hr
 generalize dM s=R at *;obtain⟨y,c,q⟩:=R;simp only at Mx hnn
 have agQ:y.er=g.er->(∀H,Tb H->al Tryz.prog 15 [cJ y.cells] H (aP (.p (.s s)) H))/\∀H,al Tryz.prog 19 [cJ y.cells] H (aP (.p (.b true)) H):=fun hy=>by
  obtain⟨⟨z1,z2⟩,z3,z4⟩:=hpy y hy hnn;refine⟨fun H hT=>?_,fun H=>?_⟩
  ·have:=GO (g:=y) z1 z2 hT
   unfold aI.print at this;rwa[if_pos z3,z4]at this
  ·have:=Dq y z1 H
   rwa[z3]at this
 have agR:=Cx y;obtain⟨ts,⟨k,n,u,t,p,ks,bf⟩⟩:=g;obtain⟨z8,⟨k2,n2,u2,t2,p2,Lg,XS⟩⟩:=y;clear Cx hpy f0 f1 f2;simp only[go_sem,simprocAttr,aI.cells,aa.cells];refine U (tB (hT.ext _)) ?_;simp only[go_sem,simprocAttr];refine U (hI _ (hg.ext _)) ?_;simp only[go_sem,simprocAttr,aI.cells,aa.cells];refine U (hS _) ?_;simp only[go_sem,simprocAttr,aI.cells,aa.cells];rcases Mx with⟨rfl,hr,hq⟩|rfl|⟨rfl,hq⟩
 ·obtain⟨p1,p2⟩:=agQ hr
  have e0:decide (0<(s.length:Int))=true:=decide_eq_true (by omega);have e4:decide ((qq:Int)<=40)=true:=decide_eq_true (by omega);simp only[go_sem,simprocAttr];intro _;simp only[go_sem,simprocAttr,e0];refine U (agR hr _) ?_;simp only[go_sem,simprocAttr];refine U (p1 _ (hT.ext _)) ?_;simp only[go_sem,simprocAttr,decide_true];refine U (cK (hg.ext _) (hT.ext _)) ?_;simp only[go_sem,simprocAttr,e4];refine U (p2 _) ?_;simp only[go_sem,simprocAttr]
 ·simp only[go_sem,simprocAttr]
 ·have e4:decide (40<(qq:Int))=true:=decide_eq_true (by omega)
  simp only[go_sem,simprocAttr];refine U (cK (hg.ext _) (hT.ext _)) ?_;simp only[go_sem,simprocAttr,e4]
end Go.Proofs.YteilijfligofdaaGreatDoor.Pg