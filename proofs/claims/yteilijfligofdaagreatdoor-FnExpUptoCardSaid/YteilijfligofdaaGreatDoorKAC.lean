/- Texts QiB QiT QiE QbO QiF QiG QiH QiI QbP QbQ QbR QbS QbT QcA QbB, merged. -/
import Derived.Test.YteilijfligofdaaGreatDoorKAB
import Derived.Test.YteilijfligofdaaGreatDoorChecked
import Derived.KernelRfl
set_option linter.all false
namespace Go.Proofs.YteilijfligofdaaGreatDoor.Pg
open Go.AM
section
variable (b:List Int)
def unitE:ExpD:=leaf 4 [] 0 [] 0
def bendK (e : ExpD) (r : Int) : CM ExpD := fun c => match e with
  | .mk k n u t p ks as' =>
    if r = 0 then (.mk (belowD b 17 c).1 n u t p ks as', (belowD b 17 c).2)
    else if r = 1 then (.mk k n (intD b [-1, 1, 2] c).1 t p ks as', (intD b [-1, 1, 2] c).2)
    else if r = 2 then (.mk k (strP b [[], [108, 101, 116], [88], [120], [114, 101, 97, 100], [112, 114, 105, 110, 116], [43], [97, 98, 99, 100, 101, 102, 103, 104, 105, 106, 107, 108, 109]] c).1 u t p ks as', (strP b [[], [108, 101, 116], [88], [120], [114, 101, 97, 100], [112, 114, 105, 110, 116], [43], [97, 98, 99, 100, 101, 102, 103, 104, 105, 106, 107, 108, 109]] c).2)
    else if r = 3 then (.mk k n u (strP b [[], [120], [9], [108, 101, 116]] c).1 p ks as', (strP b [[], [120], [9], [108, 101, 116]] c).2)
    else if r = 4 then (.mk k n u t (-1) ks as', c)
    else if r = 5 then (.mk k n u t p (ks ++ [unitE]) as', c)
    else if r = 6 then (.mk k n u t p ks (as' ++ [.mk (.mk (belowD b 9 c).1 [] (belowD b 2 (belowD b 9 c).2).1 0 []) unitE]), (belowD b 2 (belowD b 9 c).2).2)
    else (.mk k n u t p ks as', c)
def bend7 (e:ExpD):CM ExpD:=fun c=>bendK b e (belowD b 7 c).1 (belowD b 7 c).2
def bendF : Nat → ExpD → CM ExpD
  | 0, e, c => (e, c)
  | f + 1, .mk k n u t p ks as', c =>
    if ks.length = 0 then bend7 b (.mk k n u t p ks as') c
    else if (onceD b 3 c).1 then bend7 b (.mk k n u t p ks as') (onceD b 3 c).2
    else
      let j := belowD b ks.length (onceD b 3 c).2
      (.mk k n u t p (ks.set j.1.toNat (bendF f (ks.getD j.1.toNat exp0) j.2).1) as', (bendF f (ks.getD j.1.toNat exp0) j.2).2)
def hashL:Int->List Int->Int
 | h,[]=>h
 | h,c :: l=>hashL (ibits .and .i64 (wr .i64 (wr .i64 (wr .i64 (h * 137)+wr .i64 c)+11)) 1073741823) l
def cur0:Cur:=⟨0,hashL (80080+b.length) (b.take 4000)⟩
def drawE:ExpD :=
 let e:=expDr b 4 (cur0 b)
 if (onceD b 2 e.2).1 then (bendF b (e.1.sz+1) e.1 (onceD b 2 e.2).2).1 else e.1
end
def Fz (B:Nat) (t:ExpD):Prop:=t.fit/\t.sz<=B
theorem szL_app:∀ (l m:List ExpD),ExpD.szL (l++m)=ExpD.szL l+ExpD.szL m
 | [],m=>by simp [ExpD.szL]
 | t :: l,m=>by rw [List.cons_append,ExpD.szL,ExpD.szL,szL_app l m]; omega
theorem fitL_app : ∀ {l m : List ExpD}, ExpD.fitL l → ExpD.fitL m → ExpD.fitL (l ++ m)
  | [], m, _, h => h
  | t :: l, m, h1, h2 => by
    rw [ExpD.fitL] at h1
    rw [List.cons_append, ExpD.fitL]; exact ⟨h1.1, fitL_app h1.2 h2⟩
theorem szA_app:∀ (l m:List ArmD),ExpD.szA (l++m)=ExpD.szA l+ExpD.szA m
 | [],m=>by simp [ExpD.szA]
 | t :: l,m=>by rw [List.cons_append,ExpD.szA,ExpD.szA,szA_app l m]; omega
theorem fitA_app : ∀ {l m : List ArmD}, ExpD.fitA l → ExpD.fitA m → ExpD.fitA (l ++ m)
  | [], m, _, h => h
  | t :: l, m, h1, h2 => by
    rw [ExpD.fitA] at h1
    rw [List.cons_append, ExpD.fitA]; exact ⟨h1.1, fitA_app h1.2 h2⟩
theorem szL_set {x : ExpD} : ∀ {l : List ExpD} {i : Nat}, i < l.length → x.sz ≤ (l.getD i exp0).sz + 20 → ExpD.szL (l.set i x) ≤ ExpD.szL l + 20
  | t :: l, 0, _, h => by
    simp at h
    rw [List.set_cons_zero, ExpD.szL, ExpD.szL]; omega
  | t :: l, i + 1, hi, h => by
    have := szL_set (l := l) (i := i) (by simpa using hi) (by simpa using h)
    rw [List.set_cons_succ, ExpD.szL, ExpD.szL]; omega
theorem fitL_set {x:ExpD} (hx:x.fit):∀ {l:List ExpD} {i:Nat},ExpD.fitL l->ExpD.fitL (l.set i x)
 | [],i,h=>by rw [List.set_nil]; exact h
 | t :: l,0,h=>by rw [List.set_cons_zero,ExpD.fitL]; rw [ExpD.fitL] at h; exact ⟨hx,h.2⟩
 | t :: l,i+1,h=>by rw [List.set_cons_succ,ExpD.fitL]; rw [ExpD.fitL] at h; exact ⟨h.1,fitL_set hx h.2⟩
theorem szL_mem {x : ExpD} : ∀ {l : List ExpD}, x ∈ l → x.sz + 1 ≤ ExpD.szL l
  | t :: l, h => by
    rw [ExpD.szL]
    rcases List.mem_cons.1 h with rfl | h
    · omega
    · have := szL_mem h; omega
section
variable {b:List Int}
theorem bend7_ok {e:ExpD} {B:Nat} (h:Fz B e) (c:Cur):Fz (B+20) (bend7 b e c).1:=by
 obtain ⟨k,n,u,t,p,ks,as'⟩:=e
 obtain ⟨h1,h2⟩:=h
 have h1':=h1
 rw [ExpD.fit] at h1'
 rw [ExpD.sz] at h2
 unfold bend7 bendK
 generalize (belowD b 7 c).1=r
 generalize (belowD b 7 c).2=c
 simp only []
 by_cases r0:r=0
 ·rw [if_pos r0]; exact ⟨by rw [ExpD.fit]; exact h1',by rw [ExpD.sz]; omega⟩
 rw [if_neg r0]
 by_cases r1:r=1
 ·rw [if_pos r1]
  have hm:=intD_mem (b:=b) (l:=[-1,1,2]) (by simp) c
  simp only [List.mem_cons,List.not_mem_nil,or_false] at hm
  exact ⟨by rw [ExpD.fit]; exact ⟨by omega,h1'.2⟩,by rw [ExpD.sz]; omega⟩
 rw [if_neg r1]
 by_cases r2:r=2
 ·rw [if_pos r2]
  have hs:=strP_all (b:=b) (l:=[[],[108,101,116],[88],[120],[114,101,97,100],[112,114,105,110,116],[43],[97,98,99,100,101,102,103,104,105,106,107,108,109]]) (P:=fun x=>x.length<=13) (by simp) (by decide) c
  exact ⟨by rw [ExpD.fit]; exact h1',by rw [ExpD.sz]; omega⟩
 rw [if_neg r2]
 by_cases r3:r=3
 ·rw [if_pos r3]
  have hs:=strP_all (b:=b) (l:=[[],[120],[9],[108,101,116]]) (P:=fun x=>x.length<=3) (by simp) (by decide) c
  exact ⟨by rw [ExpD.fit]; exact h1',by rw [ExpD.sz]; omega⟩
 rw [if_neg r3]
 have hu:unitE.fit/\unitE.sz=0:=⟨by rw [unitE,leaf,ExpD.fit]; exact ⟨by decide,trivial,trivial⟩,rfl⟩
 by_cases r4:r=4
 ·rw [if_pos r4]; exact ⟨by rw [ExpD.fit]; exact h1',by rw [ExpD.sz]; omega⟩
 rw [if_neg r4]
 by_cases r5:r=5
 ·rw [if_pos r5]
  exact ⟨by rw [ExpD.fit]; exact ⟨h1'.1,fitL_app h1'.2.1 (by rw [ExpD.fitL]; exact ⟨hu.1,trivial⟩),h1'.2.2⟩,by rw [ExpD.sz,szL_app,ExpD.szL,ExpD.szL,hu.2]; omega⟩
 rw [if_neg r5]
 by_cases r6:r=6
 ·rw [if_pos r6]
  have h2:=belowD_lt (b:=b) (n:=2) (by decide) (belowD b 9 c).2
  exact ⟨by rw [ExpD.fit]; exact ⟨h1'.1,h1'.2.1,fitA_app h1'.2.2 (by rw [ExpD.fitA,ArmD.fit,PatD.fit]; exact ⟨⟨⟨by omega,trivial⟩,hu.1⟩,trivial⟩)⟩,by rw [ExpD.sz,szA_app,ExpD.szA,ExpD.szA,ArmD.sz,PatD.sz,PatD.szL,hu.2,List.length_nil]; omega⟩
 rw [if_neg r6]
 exact ⟨h1,by rw [ExpD.sz]; omega⟩
theorem bendF_ok : ∀ (f : Nat) (e : ExpD) (c : Cur) (B : Nat), Fz B e → Fz (B + 20) (bendF b f e c).1
  | 0, e, c, B, h => by
    rw [bendF]; exact ⟨h.1, Nat.le_trans h.2 (by omega)⟩
  | f + 1, .mk k n u t p ks as', c, B, h => by
    rw [bendF]
    by_cases h0 : ks.length = 0
    · rw [if_pos h0]; exact bend7_ok h c
    rw [if_neg h0]
    by_cases ho : (onceD b 3 c).1 = true
    · rw [if_pos ho]; exact bend7_ok h _
    rw [if_neg ho]
    have hj := belowD_lt (b := b) (n := ks.length) (by omega) (onceD b 3 c).2
    have hlt : (belowD b ks.length (onceD b 3 c).2).1.toNat < ks.length := by omega
    obtain ⟨h1, h2⟩ := h
    rw [ExpD.fit] at h1
    rw [ExpD.sz] at h2
    have hm := getD_mem (d := exp0) hlt
    have := bendF_ok f (ks.getD (belowD b ks.length (onceD b 3 c).2).1.toNat exp0) (belowD b ks.length (onceD b 3 c).2).2 _ ⟨ExpD.fitL_mem h1.2.1 hm, Nat.le_refl _⟩
    have hz := szL_set hlt this.2
    exact ⟨by rw [ExpD.fit]; exact ⟨h1.1, fitL_set this.1 h1.2.1, h1.2.2⟩, by rw [ExpD.sz]; omega⟩
end
theorem drawE_ok (b:List Int):Fz 200000 (drawE b):=by
 have h:=expDr_ok (b:=b) 4 (cur0 b)
 have hb:bndE 4+20<=200000:=by decide
 have hf:Fz (bndE 4) (expDr b 4 (cur0 b)).1:=h.2
 unfold drawE
 simp only []
 split
 ·have:=bendF_ok (b:=b) ((expDr b 4 (cur0 b)).1.sz+1) _ (onceD b 2 (expDr b 4 (cur0 b)).2).2 _ hf
  exact ⟨this.1,Nat.le_trans this.2 hb⟩
 ·exact ⟨hf.1,Nat.le_trans hf.2 (by omega)⟩
mutual
def PatD.cnt:PatD->Nat
 | .mk k n u p ks=>1+PatD.cntL ks
def PatD.cntL:List PatD->Nat
 | []=>0
 | t :: l=>t.cnt+PatD.cntL l
end
mutual
def ExpD.cnt:ExpD->Nat
 | .mk k n u t p ks as'=>1+ExpD.cntL ks+ExpD.cntA as'
def ExpD.cntL:List ExpD->Nat
 | []=>0
 | t :: l=>t.cnt+ExpD.cntL l
def ArmD.cnt:ArmD->Nat
 | .mk p e=>p.cnt+e.cnt
def ExpD.cntA:List ArmD->Nat
 | []=>0
 | t :: l=>t.cnt+ExpD.cntA l
end
mutual
theorem PatD.cnt_er:∀ t:PatD,t.er.cnt=t.cnt
 | .mk k n u p ks=>by rw [PatD.er,PatD.cnt,PatD.cnt,PatD.cntL_er ks]
theorem PatD.cntL_er:∀ l:List PatD,PatD.cntL (PatD.erL l)=PatD.cntL l
 | []=>rfl
 | t :: l=>by rw [PatD.erL,PatD.cntL,PatD.cntL,PatD.cnt_er t,PatD.cntL_er l]
end
mutual
theorem ExpD.cnt_er:∀ t:ExpD,t.er.cnt=t.cnt
 | .mk k n u t p ks as'=>by rw [ExpD.er,ExpD.cnt,ExpD.cnt,ExpD.cntL_er ks,ExpD.cntA_er as']
theorem ExpD.cntL_er:∀ l:List ExpD,ExpD.cntL (ExpD.erL l)=ExpD.cntL l
 | []=>rfl
 | t :: l=>by rw [ExpD.erL,ExpD.cntL,ExpD.cntL,ExpD.cnt_er t,ExpD.cntL_er l]
theorem ArmD.cnt_er:∀ t:ArmD,t.er.cnt=t.cnt
 | .mk p e=>by rw [ArmD.er,ArmD.cnt,ArmD.cnt,PatD.cnt_er p,ExpD.cnt_er e]
theorem ExpD.cntA_er:∀ l:List ArmD,ExpD.cntA (ExpD.erA l)=ExpD.cntA l
 | []=>rfl
 | t :: l=>by rw [ExpD.erA,ExpD.cntA,ExpD.cntA,ArmD.cnt_er t,ExpD.cntA_er l]
end
end Go.Proofs.YteilijfligofdaaGreatDoor.Pg
set_option linter.all false
set_option maxRecDepth 100000
namespace Go.Proofs.YteilijfligofdaaGreatDoor.Mc
open Go.AM
def mc5:Got (Tryz.f5.body.map (compile [0,2] Tryz.prog 6)):=⟨_,by conv=>lhs; cbv⟩
def mr5:List MR:=[.t 2]
theorem call5:CallT Tryz.prog 5 6 mc5.m mr5:=mc5.call Tryz.func5 (by kernel_rfl)
def mc6:Got (Tryz.f6.body.map (compile [0,2,3,4,10] Tryz.prog 15)):=⟨_,by conv=>lhs; cbv⟩
def mr6:List MR:=[.cell true 7 2]
theorem call6:CallT Tryz.prog 6 15 mc6.m mr6:=mc6.call Tryz.func6 (by kernel_rfl)
def mc20:Got (Tryz.f20.body.map (compile [0,2,3,4,15] Tryz.prog 32)):=⟨_,by conv=>lhs; cbv⟩
def mr20:List MR:=[.t 2]
theorem call20:CallT Tryz.prog 20 32 mc20.m mr20:=mc20.call Tryz.func20 (by kernel_rfl)
def mc104:Got (Tryz.f104.body.map (compile [0,2,3,34] Tryz.prog 58)):=.of (y:=Tryz.f104.body.map fun c=>(compileF [0,2,3,34] Tryz.prog 58 [10,9,12] c).1) (by conv=>lhs; cbv) (by kernel_rfl)
def mr104:List MR:=[.t 2]
theorem call104:CallT Tryz.prog 104 58 mc104.m mr104:=mc104.call Tryz.func104 (by kernel_rfl)
def mc46:Got (Tryz.f46.body.map (compile [0,1,4,5,6,7,9,11] Tryz.prog 31)):=⟨_,by conv=>lhs; cbv⟩
def mr46:List MR:=[.t 4]
theorem call46:CallT Tryz.prog 46 31 mc46.m mr46:=mc46.call Tryz.func46 (by kernel_rfl)
def mc22:Got (Tryz.f22.body.map (compile [0,1,4] Tryz.prog 9)):=⟨_,by conv=>lhs; cbv⟩
def mr22:List MR:=[.t 4]
theorem call22:CallT Tryz.prog 22 9 mc22.m mr22:=mc22.call Tryz.func22 (by kernel_rfl)
def mc60:Got (Tryz.f60.body.map (compile [0,1,4] Tryz.prog 12)):=⟨_,by conv=>lhs; cbv⟩
def mr60:List MR:=[.t 4]
theorem call60:CallT Tryz.prog 60 12 mc60.m mr60:=mc60.call Tryz.func60 (by kernel_rfl)
def mc58:Got (Tryz.f58.body.map (compile [0,1,4] Tryz.prog 12)):=⟨_,by conv=>lhs; cbv⟩
def mr58:List MR:=[.t 4]
theorem call58:CallT Tryz.prog 58 12 mc58.m mr58:=mc58.call Tryz.func58 (by kernel_rfl)
def mc56:Got (Tryz.f56.body.map (compile [0,2] Tryz.prog 6)):=⟨_,by conv=>lhs; cbv⟩
def mr56:List MR:=[.t 2]
theorem call56:CallT Tryz.prog 56 6 mc56.m mr56:=mc56.call Tryz.func56 (by kernel_rfl)
def mc55:Got (Tryz.f55.body.map (compile [0,2] Tryz.prog 6)):=⟨_,by conv=>lhs; cbv⟩
def mr55:List MR:=[.t 2]
theorem call55:CallT Tryz.prog 55 6 mc55.m mr55:=mc55.call Tryz.func55 (by kernel_rfl)
def mc57:Got (Tryz.f57.body.map (compile [0,1,4,5,6,7,11,17,23,35,38,44,50,56,59,65] Tryz.prog 78)):=⟨_,by conv=>lhs; cbv⟩
def mr57:List MR:=[.cell true 5 4]
theorem call57:CallT Tryz.prog 57 78 mc57.m mr57:=mc57.call Tryz.func57 (by kernel_rfl)
def mc59:Got (Tryz.f59.body.map (compile [0,1,2,6,7,8,12] Tryz.prog 23)):=⟨_,by conv=>lhs; cbv⟩
def mr59:List MR:=[.t 6]
theorem call59:CallT Tryz.prog 59 23 mc59.m mr59:=mc59.call Tryz.func59 (by kernel_rfl)
def mc54:Got (Tryz.f54.body.map (compile [0,2,3,11,12,18,24,29,34,40] Tryz.prog 43)):=⟨_,by conv=>lhs; cbv⟩
def mr54:List MR:=[.cell true 7 2]
theorem call54:CallT Tryz.prog 54 43 mc54.m mr54:=mc54.call Tryz.func54 (by kernel_rfl)
def mc21:Got (Tryz.f21.body.map (compile [0,1,4,5,6,7,13,23,24,31,36,41,46,54,56,62,77,83] Tryz.prog 95)):=⟨_,by conv=>lhs; cbv⟩
def mr21:List MR:=[.cell true 7 4]
theorem call21:CallT Tryz.prog 21 95 mc21.m mr21:=mc21.call Tryz.func21 (by kernel_rfl)
def mc23:Got (Tryz.f23.body.map (compile [0,1,3,4,5,6,15,38,39,44,50,56,62,65,75] Tryz.prog 92)):=⟨_,by conv=>lhs; cbv⟩
def mr23:List MR:=[.cell true 7 4]
theorem call23:CallT Tryz.prog 23 92 mc23.m mr23:=mc23.call Tryz.func23 (by kernel_rfl)
def mc3:Got (Tryz.f3.body.map (compile [0,2,3,4,5,6,8,10,17,42] Tryz.prog 68)):=⟨_,by conv=>lhs; cbv⟩
def mr3:List MR:=[.t 2]
theorem call3:CallT Tryz.prog 3 68 mc3.m mr3:=mc3.call Tryz.func3 (by kernel_rfl)
def mc4:Got (Tryz.f4.body.map (compile [0,2,3,4,5,6,8,10,27,30] Tryz.prog 67)):=⟨_,by conv=>lhs; cbv⟩
def mr4:List MR:=[.t 2]
theorem call4:CallT Tryz.prog 4 67 mc4.m mr4:=mc4.call Tryz.func4 (by kernel_rfl)
end Go.Proofs.YteilijfligofdaaGreatDoor.Mc
namespace Go.Proofs.YteilijfligofdaaGreatDoor.Qp
open Go.AM Mc Pg
def byts (l:List Int):List (List PV):=l.map fun z=>[.i .u8 z]
theorem byts_len (l):(byts l).length=l.length:=by simp [byts]
def cvC (b:List Int) (c:Cur):AO:=.var [.p (.l (byts b)),iV c.i,iV c.h]
theorem cvC_tf (b c q) (h:InO q (cvC b c)):Tf q:=by
 simp only [cvC,InO,List.mem_cons,List.not_mem_nil,or_false] at h
 rcases h with rfl | rfl | rfl <;> exact tf_p _
def CF (b:List Int) (f:Nat) (xs:List AV) {α:Type} (m:CM α) (V:α->AV):Prop :=
 ∀ (H A:List AO) (p:Nat) (c:Cur),p<H.length->ACall Tryz.prog f (.ptr p 0 :: xs) (H.set p (cvC b c)++A) (pureQ (V (m c).1) (H.set p (cvC b (m c).2)++A))
theorem cf_of {b:List Int} {f:Nat} {xs:List AV} {α:Type} {m:CM α} {V:α->AV}
  (h:∀ (H:List AO) (p:Nat) (c:Cur),p<H.length->ACall Tryz.prog f (.ptr p 0 :: xs) (H.set p (cvC b c)) (fun r H'=>∃ G,H'=H.set p (cvC b (m c).2)++G/\LentN H.length H' r (V (m c).1))):CF b f xs m V :=
 fun H A p c hp=>pf_at (cvC_tf b _) (fun H p hp=>h H p c hp) H A p hp
theorem CF.nil {b:List Int} {f:Nat} {xs:List AV} {α:Type} {m:CM α} {V:α->AV} (h:CF b f xs m V) {H:List AO} {p:Nat} {c:Cur} (hp:p<H.length) :
  ACall Tryz.prog f (.ptr p 0 :: xs) (H.set p (cvC b c)) (pureQ (V (m c).1) (H.set p (cvC b (m c).2))):=by
 have:=h H [] p c hp
 rwa [List.append_nil,List.append_nil] at this
theorem CF.chain {b:List Int} {f:Nat} {xs:List AV} {α:Type} {m:CM α} {V:α->AV} (h:CF b f xs m V) {H A:List AO} {p:Nat} {c:Cur} (hp:p<H.length) :
  ∀ A',ACall Tryz.prog f (.ptr p 0 :: xs) ((H.set p (cvC b c)++A)++A') (pureQ (V (m c).1) ((H.set p (cvC b (m c).2)++A)++A')):=fun A'=>by
 have:=h H (A++A') p c hp
 rwa [<- List.append_assoc,<- List.append_assoc] at this
theorem bitX_e (h:Int):ibits .and .i64 (ibits .xor .i64 (h.fdiv (2 ^ min 33 64)) (h.fdiv (2 ^ min 47 64))) 255=bitX h:=by
 unfold bitX
 rw [show min 33 64=33 by decide,show min 47 64=47 by decide]
theorem mixH_e (h:Int):wr .i64 (wr .i64 (h * 6364136223846793005)+1442695040888963407)=mixH h:=by unfold mixH; rfl
section
variable {b:List Int} (hb:b.length<=1048576)
include hb
theorem drByte:CF b 104 [] (byteD b) iV:=by
 refine cf_of fun H p c hp=>?_
 refine call104 (by simp) ?_
 unfold byteD
 simp only [go_sem,simprocAttr,mc104,mr104,qp0 hp,qp hp,qq0,qq hp,cvC,byts_len]
 rw [mixH_e]
 generalize mixH c.h=m
 refine drw_same ?_
 simp only [go_sem,simprocAttr,qp0 hp,qp hp,qq0,qq hp,byts_len]
 rw [bitX_e]
 generalize bitX m=x
 refine drw_same ?_
 by_cases h:c.i<b.length
 ·have d1:decide ((c.i:Int)<(b.length:Int))=true:=by simp; omega
  have hg:(byts b)[c.i]?=some [.i .u8 (b.getD c.i 0)]:=by
   unfold byts
   rw [List.getElem?_map,List.getElem?_eq_getElem h,List.getD_eq_getElem?_getD,List.getElem?_eq_getElem h]; rfl
  have ei:wr .i64 ((c.i:Int)+1)=((c.i+1:Nat):Int):=wrN _ (by omega)
  simp only [if_pos h]
  generalize b.getD c.i 0=z at hg ⊢
  simp only [go_sem,simprocAttr,qp0 hp,qp hp,qq0,qq hp,byts_len,d1]
  refine drw_same ?_
  as_aux_lemma =>
   simp only [go_sem,simprocAttr,qp0 hp,qp hp,qq0,qq hp,byts_len,hg,ei]
   exact ⟨[],by simp,lentP (tf_p _)⟩
 ·have d1:decide ((c.i:Int)<(b.length:Int))=false:=by simp; omega
  simp only [if_neg h]
  simp only [go_sem,simprocAttr,qp0 hp,qp hp,qq0,qq hp,byts_len,d1]
  exact ⟨[],by simp,lentP (tf_p _)⟩
theorem drBelow (n:Int):CF b 46 [iV n] (belowD b n) iV:=by
 refine cf_of fun H p c hp=>?_
 refine call46 (by simp) ?_
 unfold belowD
 by_cases h0:n<=0
 ·have d0:decide (n<=0)=true:=decide_eq_true h0
  rw [if_pos h0]
  simp only [go_sem,simprocAttr,mc46,mr46,d0]
  exact ⟨[],by simp,lentP (tf_p _)⟩
 have d0:decide (n<=0)=false:=decide_eq_false h0
 rw [if_neg h0]
 by_cases h1:n<=256
 ·have d1:decide (n<=256)=true:=decide_eq_true h1
  rw [if_pos h1]
  simp only [go_sem,simprocAttr,mc46,mr46,d0,d1]
  refine acall_pure ((drByte hb).nil hp) ?_
  simp only [go_sem,simprocAttr]
  exact ⟨by omega,[],by simp,lentP (tf_p _)⟩
 have d1:decide (n<=256)=false:=decide_eq_false h1
 rw [if_neg h1]
 simp only [go_sem,simprocAttr,mc46,mr46,d0,d1]
 have b1:=byteD_lt (b:=b) c
 have b2:=byteD_lt (b:=b) (byteD b c).2
 have b3:=byteD_lt (b:=b) (byteD b (byteD b c).2).2
 refine acall_pure ((drByte hb).nil hp) ?_
 simp only [go_sem,simprocAttr]
 refine acall_pure ((drByte hb).nil hp) ?_
 simp only [go_sem,simprocAttr]
 refine acall_pure ((drByte hb).nil hp) ?_
 have e1:wr .i64 ((byteD b c).1 * 65536)=(byteD b c).1 * 65536:=wr64 (by omega) (by omega)
 have e2:wr .i64 ((byteD b (byteD b c).2).1 * 256)=(byteD b (byteD b c).2).1 * 256:=wr64 (by omega) (by omega)
 have e3:wr .i64 ((byteD b c).1 * 65536+(byteD b (byteD b c).2).1 * 256)=(byteD b c).1 * 65536+(byteD b (byteD b c).2).1 * 256:=wr64 (by omega) (by omega)
 have e4:wr .i64 ((byteD b c).1 * 65536+(byteD b (byteD b c).2).1 * 256+(byteD b (byteD b (byteD b c).2).2).1)=(byteD b c).1 * 65536+(byteD b (byteD b c).2).1 * 256+(byteD b (byteD b (byteD b c).2).2).1:=wr64 (by omega) (by omega)
 simp only [go_sem,simprocAttr,e1,e2,e3,e4]
 exact ⟨by omega,[],by simp,lentP (tf_p _)⟩
theorem drOnce (n:Int):CF b 22 [iV n] (onceD b n) bV:=by
 refine cf_of fun H p c hp=>?_
 refine call22 (by simp) ?_
 simp only [go_sem,simprocAttr,mc22,mr22]
 refine acall_pure ((drBelow hb n).nil hp) ?_
 simp only [go_sem,simprocAttr]
 exact ⟨[],by simp [onceD],lentP (tf_p _)⟩
theorem drStr {L:List (List UInt8)} (hL:L≠[]) {H A:List AO} {p:Nat} {c:Cur} {k:Nat} (hp:p<H.length) (hk:A[k]?=some (.rows 1 0 (L.map fun s=>[sV s]))) :
  ACall Tryz.prog 58 [.ptr p 0,.gs (H.length+k) 0 0 L.length] (H.set p (cvC b c)++A) (pureQ (sV (strP b L c).1) (H.set p (cvC b (strP b L c).2)++A)):=by
 refine call58 (by simp) ?_
 simp only [go_sem,simprocAttr,mc58,mr58]
 intro _
 refine acall_pure (drBelow hb L.length H _ p c hp) ?_
 have hl:=belowD_lt (b:=b) (n:=L.length) (by have:=List.length_pos_iff.2 hL; omega) c
 unfold strP
 obtain ⟨j,hj⟩:∃ j:Nat,(belowD b L.length c).1=j:=⟨(belowD b L.length c).1.toNat,by omega⟩
 rw [hj] at hl ⊢
 have hjl:j<L.length:=by omega
 have hg:(L.map fun s=>[sV s])[j]?=some [sV (L.getD j [])]:=by
  rw [List.getElem?_map,List.getElem?_eq_getElem hjl,List.getD_eq_getElem?_getD,List.getElem?_eq_getElem hjl]; rfl
 simp only [go_sem,simprocAttr,hk,hg]
 exact ⟨hl.2,rfl,rfl⟩
theorem drInt {L:List Int} (hL:L≠[]) {H A:List AO} {p:Nat} {c:Cur} {k:Nat} (hp:p<H.length) (hk:A[k]?=some (.rows 1 0 (L.map fun s=>[iV s]))) :
  ACall Tryz.prog 60 [.ptr p 0,.gs (H.length+k) 0 0 L.length] (H.set p (cvC b c)++A) (pureQ (iV (intD b L c).1) (H.set p (cvC b (intD b L c).2)++A)):=by
 refine call60 (by simp) ?_
 simp only [go_sem,simprocAttr,mc60,mr60]
 intro _
 refine acall_pure (drBelow hb L.length H _ p c hp) ?_
 have hl:=belowD_lt (b:=b) (n:=L.length) (by have:=List.length_pos_iff.2 hL; omega) c
 unfold intD
 obtain ⟨j,hj⟩:∃ j:Nat,(belowD b L.length c).1=j:=⟨(belowD b L.length c).1.toNat,by omega⟩
 rw [hj] at hl ⊢
 have hjl:j<L.length:=by omega
 have hg:(L.map fun s=>[iV s])[j]?=some [iV (L.getD j 0)]:=by
  rw [List.getElem?_map,List.getElem?_eq_getElem hjl,List.getD_eq_getElem?_getD,List.getElem?_eq_getElem hjl]; rfl
 simp only [go_sem,simprocAttr,hk,hg]
 exact ⟨hl.2,rfl,rfl⟩
theorem drName:CF b 56 [] (nmP b) sV:=by
 refine cf_of fun H p c hp=>?_
 refine call56 (by simp) ?_
 simp only [go_sem,simprocAttr,mc56,mr56]
 refine acall_pure (drStr hb (L:=[[120],[121],[102],[103],[110],[120,115]]) (by simp) (k:=0) hp (by rfl)) ?_
 simp only [go_sem,simprocAttr]
 exact ⟨_,rfl,lentP (tf_p _)⟩
theorem drUp:CF b 55 [] (upP b) sV:=by
 refine cf_of fun H p c hp=>?_
 refine call55 (by simp) ?_
 simp only [go_sem,simprocAttr,mc55,mr55]
 refine acall_pure (drStr hb (L:=[[78,105,108],[67,111,110,115],[65],[66],[83,111,109,101]]) (by simp) (k:=0) hp (by rfl)) ?_
 simp only [go_sem,simprocAttr]
 exact ⟨_,rfl,lentP (tf_p _)⟩
end
theorem hx {H:List AO} {p:Nat} (hp:p<H.length) (A:List AO) (c:AO):Hext (H.set p .dead++A) (H.set p c++A):=fun id o h hd=>by
 rcases Nat.lt_or_ge id H.length with hi | hi
 ·rw [List.getElem?_append_left (by simpa using hi)] at h ⊢
  by_cases e:p=id
  ·subst e
   simp [hp] at h
   exact (hd h.symm).elim
  ·rw [List.getElem?_set_ne e] at h ⊢; exact h
 ·rw [List.getElem?_append_right (by simpa using hi)] at h ⊢
  simpa using h
theorem PF.chain {pv:PS->AO} {T:List Tok} {lim:Nat} {f:Nat} {xs:List AV} {α:Type} {m:PM α} {V:α->AV} (h:PF pv T lim f xs m V) {H A:List AO} {p:Nat} {s:PS} (hp:p<H.length) (hs:Ok T lim s) :
  ∀ A',ACall Tryz.prog f (.ptr p 0 :: xs) ((H.set p (pv s)++A)++A') (pureQ (V (m s).1) ((H.set p (pv (m s).2)++A)++A')):=fun A'=>by
 have:=h H (A++A') p s hp hs
 rwa [<- List.append_assoc,<- List.append_assoc] at this
theorem q_ge {H A:List AO} {p:Nat} {c:AO} {id:Nat} (h:H.length<=id):(H.set p c++A)[id]?=A[id - H.length]?:=by
 have:=qxk H A p c (id - H.length)
 rwa [show H.length+(id - H.length)=id by omega] at this
theorem own_q {H A B:List AO} {p:Nat} {N:List Nat} {c d:AO} {a:AV} {sz:Nat} {rs:List (List AV)} (h:OwnR (H.set p c++A) a sz rs) (ha:∀ id v o m,a=.gs id v o m->H.length<=id/\id - H.length ∉ N) (hk:∀ (k:Nat) (o:AO),k ∉ N->A[k]?=some o->B[k]?=some o):OwnR (H.set p d++B) a sz rs:=by
 rcases h with h | ⟨id,ver,rfl,h⟩
 ·exact .inl h
 ·obtain ⟨h1,h2⟩:=ha _ _ _ _ rfl
  rw [q_ge h1] at h
  exact .inr ⟨id,ver,rfl,by rw [q_ge h1]; exact hk _ _ h2 h⟩
theorem app_q {K:St->Prop} {L T':En} {H A:List AO} {p:Nat} {c:AO} {d:MD} {sz bytes:Nat} {N:List Nat} {a:AV} {rs ys:List (List AV)} (h:OwnR (H.set p c++A) a sz rs) (hN:∀ k∈N,k<A.length) (ha:∀ id v o m,a=.gs id v o m->H.length<=id/\id - H.length ∉ N)
  (h1:(rs.length+ys.length) * bytes<=140737488355328) (h2:rs.length+ys.length<=140737488355328)
  (k:∀ id ver A',(H.set p c++A')[id]?=some (.rows sz ver (rs++ys))->(H.length<=id/\id - H.length ∉ N)->(∀ (k:Nat),k∈N->A'[k]?=A[k]?)->K (St.put ⟨L,T',H.set p c++A'⟩ d (.gs id ver 0 (rs.length+ys.length)))) :
  appX sz bytes a ys d K ⟨L,T',H.set p c++A⟩:=by
 refine app_fr h h1 h2 ?_
 intro id ver H4 k1 k2 k3 k4
 have hid:H.length<=id/\id - H.length ∉ N:=by
  rcases k2 with ⟨v,o,n,e⟩ | h
  ·exact ha _ _ _ _ e
  ·simp at h
   exact ⟨by omega,fun hm=>by have:=hN _ hm; omega⟩
 obtain ⟨A',rfl⟩:=pre_ext (H:=H.set p c) (H':=H4) fun j o hj=>k3 j o (get_ext hj A) fun v o' n e=>by
  have:=(ha _ _ _ _ e).1
  have:=get_lt hj
  simp at this; omega
 refine k id ver A' k1 hid (fun j hj=>?_)
 have hjA:=hN j hj
 have:=k3 (H.length+j) A[j] (by rw [qxk]; simp [hjA]) fun v o' n e=>by
  have:=(ha _ _ _ _ e).2
  rw [Nat.add_sub_cancel_left] at this
  exact this hj
 rw [qxk] at this
 rw [this]; simp [hjA]
inductive LentC (n:Nat) (H:List AO):List AV->List AV->Prop
 | nil:LentC n H [] []
 | cons {a b:AV} {l m:List AV} (h:LentN n H a b) (k:LentC n H l m):LentC n H (a :: l) (b :: m)
theorem LentC.pc {n:Nat} {H:List AO} {x:PV} {l m:List AV} (k:LentC n H l m):LentC n H (.p x :: l) (.p x :: m):=.cons (.p x) k
theorem LentC.pure {n:Nat} {H:List AO}:∀ l:List PV,LentC n H (l.map .p) (l.map .p)
 | []=>.nil
 | x :: l=>.pc (LentC.pure l)
theorem LentC.st {n : Nat} {H : List AO} {l m : List AV} (h : LentC n H l m) : LentN n H (.st l) (.st m) := by
  have hl : l.length = m.length ∧ ∀ (j : Nat) a b, l[j]? = some a → m[j]? = some b → LentN n H a b := by
    induction h with
    | nil => exact ⟨rfl, fun j a b h => by simp at h⟩
    | cons h _ ih =>
      refine ⟨by simp [ih.1], fun j a b ha hb => ?_⟩
      cases j with
      | zero => simp at ha hb; subst ha; subst hb; exact h
      | succ j => exact ih.2 j a b (by simpa using ha) (by simpa using hb)
  exact .st _ _ hl.1 hl.2
theorem OwnR.lent {n sz:Nat} {H:List AO} {a:AV} {ys:List (List PV)} (h:OwnR H a sz (ys.map fun y=>y.map .p)) (hn:∀ id v o m,a=.gs id v o m->n<=id) (hs:∀ y∈ys,y.length=sz):LentN n H a (.p (.l ys)):=by
 rcases h with ⟨rfl,h⟩ | ⟨id,ver,rfl,h⟩
 ·have:ys=[]:=by simpa using h
  rw [this]; exact .nl
 ·have:=lent_rows (hn _ _ _ _ rfl) h hs
  simpa using this
structure Lp {α:Type} (pv:PS->AO) (T:List Tok) (lim:Nat) (H:List AO) (p:Nat) (N:List Nat) (sz:Nat) (cell:α->List PV) (g:PS->Bool) (m:PM α) (Rl:List α) (Rs:PS) (j:Nat) (s:PS) (acc:List α) (a:AV) (A:List AO):Prop where
 ok:Ok T lim s
 ln:acc.length<=s.i+1
 fu:s.c=0->T.length - s.i<=j
 rl:acc++(many g m j s).1=Rl
 rs:(many g m j s).2=Rs
 own:OwnR (H.set p (pv s)++A) a sz (acc.map fun t=>(cell t).map .p)
 ids:∀ id v o m,a=.gs id v o m->H.length<=id/\id - H.length ∉ N
 len:∀ k∈N,k<A.length
section
variable {α:Type} {pv:PS->AO} {T:List Tok} {lim:Nat} {H:List AO} {p sz:Nat} {N:List Nat} {cell:α->List PV} {g:PS->Bool} {m:PM α} {Rl:List α} {Rs:PS} {j:Nat} {s:PS} {acc:List α} {a:AV} {A:List AO}
theorem Lp.start (hs:Ok T lim s) (h:many g m T.length s=(Rl,Rs)) (hb:∀ k∈N,k<A.length):Lp pv T lim H p N sz cell g m Rl Rs T.length s [] (.p .nl) A :=
 ⟨hs,Nat.zero_le _,fun _=>by omega,by rw [h]; rfl,by rw [h],.inl ⟨rfl,rfl⟩,(fun _ _ _ _ e=>by cases e),hb⟩
theorem Lp.start1 {x:α} {i ver:Nat} (hs:Ok T lim s) (h:many g m T.length s=(Rl,Rs)) (hb:∀ k∈N,k<A.length) (hi:A[i]?=some (.rows sz ver [(cell x).map .p])) (hN:i ∉ N):Lp pv T lim H p N sz cell g m (x :: Rl) Rs T.length s [x] (.gs (H.length+i) ver 0 1) A :=
 ⟨hs,by simp,fun _=>by omega,by rw [h]; rfl,by rw [h],.inr ⟨_,_,rfl,by rw [qxk]; exact hi⟩,(fun _ _ _ _ e=>by cases e; exact ⟨by omega,by rwa [Nat.add_sub_cancel_left]⟩),hb⟩
theorem Lp.stop (h:Lp pv T lim H p N sz cell g m Rl Rs j s acc a A) (hg:g s=false):acc=Rl/\s=Rs:=by
 have h1:=h.rl; have h2:=h.rs
 rw [many_c hg] at h1 h2
 exact ⟨by simpa using h1,h2⟩
theorem Lp.succ (h:Lp pv T lim H p N sz cell g m Rl Rs j s acc a A) (ho:Only T g) (hg:g s=true):∃ j',j=j'+1:=⟨j - 1,by have:=h.fu (ho s hg).1; have:=h.ok.1; omega⟩
theorem Lp.next (h:Lp pv T lim H p N sz cell g m Rl Rs (j+1) s acc a A) (ho:Only T g) (hg:g s=true) {x:α} {s2:PS} (hm:m s=(x,s2)) (hs2:Ok T lim s2) (hgt:s.i<s2.i) {id ver:Nat} {A' A'':List AO}
  (k1:(H.set p (pv s2)++A')[id]?=some (.rows sz ver (acc.map (fun t=>(cell t).map .p)++[(cell x).map .p]))) (k2:H.length<=id/\id - H.length ∉ N) (k3:∀ (k:Nat) (o:AO),k ∉ N->A'[k]?=some o->A''[k]?=some o) (k4:∀ k∈N,k<A''.length) :
  Lp pv T lim H p N sz cell g m Rl Rs j s2 (acc++[x]) (.gs id ver 0 (acc.length+1)) A'':=by
 have h1:=h.rl; have h2:=h.rs
 rw [many,if_pos hg,hm] at h1 h2
 have hln:=h.ln
 have hi:=h.ok.1
 refine ⟨hs2,by simp; omega,fun hc=>?_,by simpa using h1,h2,.inr ⟨id,ver,by simp,?_⟩,(fun id' v o m' e=>by cases e; exact k2),k4⟩
 ·have:=h.fu (ho s hg).1; omega
 ·rw [q_ge k2.1] at k1 ⊢
  rw [List.map_append]
  exact k3 _ _ k2.2 k1
theorem Lp.lent (h:Lp pv T lim H p N sz cell g m Rl Rs j s acc a A) {c:AO} {B:List AO} (hk:∀ (k:Nat) (o:AO),k ∉ N->A[k]?=some o->B[k]?=some o) (hs:∀ t,(cell t).length=sz):LentN H.length (H.set p c++B) a (.p (.l (acc.map cell))):=by
 refine OwnR.lent (ys:=acc.map cell) (sz:=sz) ?_ (fun id v o m e=>(h.ids _ _ _ _ e).1) (by intro y hy; obtain ⟨t,_,rfl⟩:=List.mem_map.1 hy; exact hs t)
 rw [List.map_map]
 exact own_q h.own h.ids hk
theorem Lp.app {K:St->Prop} {L T':En} {d:MD} {bytes:Nat} {c:AO} {B:List AO} {y:List AV} (h:Lp pv T lim H p N sz cell g m Rl Rs j s acc a A) (hB:∀ (k:Nat) (o:AO),A[k]?=some o->B[k]?=some o) (hTl:T.length<=1073741825) (hby:bytes<=1000)
  (k:∀ id ver A',(H.set p c++A')[id]?=some (.rows sz ver (acc.map (fun t=>(cell t).map .p)++[y]))->(H.length<=id/\id - H.length ∉ N)->(∀ k:Nat,k∈N->A'[k]?=A[k]?)->K (St.put ⟨L,T',H.set p c++A'⟩ d (.gs id ver 0 (acc.length+1)))) :
  appX sz bytes a [y] d K ⟨L,T',H.set p c++B⟩:=by
 have hln:=h.ln
 have hi:=h.ok.1
 have hlB:∀ k∈N,k<B.length:=fun k hk=>by
  have hk2:=h.len k hk
  exact get_lt (hB k A[k] (by simp [hk2]))
 have hl:(acc.map fun t=>(cell t).map AV.p).length=acc.length:=by simp
 refine app_q (rs:=acc.map fun t=>(cell t).map .p) (ys:=[y]) (own_q h.own h.ids fun k o _ hk=>hB k o hk) hlB h.ids (by rw [hl]; simp; exact Nat.le_trans (Nat.mul_le_mul (show acc.length+1<=1073741827 by omega) hby) (by decide)) (by rw [hl]; simp; omega) ?_
 intro id ver A' k1 k2 k3
 rw [hl]
 refine k id ver A' k1 k2 (fun j hj=>?_)
 rw [k3 j hj]
 have hjl:=h.len j hj
 rw [hB j A[j] (by simp [hjl])]; simp [hjl]
end
theorem qxa (H A B:List AO) (p:Nat) (c:AO) (k:Nat):(H.set p c++(A++B))[H.length+A.length+k]?=B[k]?:=by
 rw [show H.length+A.length+k=H.length+(A.length+k) by omega,qxk,gxk]
theorem set_keep {A:List AO} {N:List Nat} {i:Nat} (hi:i∈N) {o:AO}:∀ (k:Nat) (o':AO),k ∉ N->A[k]?=some o'->(A.set i o)[k]?=some o':=fun k o' hk h=>by rw [List.getElem?_set_ne (by rintro rfl; exact hk hi)]; exact h
section
variable {T:List Tok} {lim e:Nat} (hT:ToksOk T) (hTl:T.length<=1073741825)
include hT hTl
theorem opens_ok {s:PS} (hs:Ok T e s):(opensP T lim s).i=s.i/\(opensP T lim s).nest=s.nest+1/\((opensP T lim s).c=0->Ok T (e+1) (opensP T lim s)/\e≠lim):=by
 have h1:=hs.1
 have h2:=hs.2
 by_cases h0:s.c=0
 ·by_cases hn:s.nest=lim
  ·have eq0:opensP T lim s={ failP T 12 s with nest:=s.nest+1 }:=by
    rw [opens_of (if_pos ⟨h0,hn⟩),failP_0 h0,if_neg (fun h=>absurd h.1 (show ¬ ((12:Int)=0) by decide))]
   rw [eq0,failP_0 h0]
   exact ⟨rfl,rfl,fun h=>absurd h (show ¬ ((12:Int)=0) by decide)⟩
  ·rw [opens_of (if_neg fun h=>hn h.2)]
   split
   ·exact ⟨rfl,rfl,fun _=>⟨⟨h1,by simp only; omega⟩,by omega⟩⟩
   ·exact ⟨rfl,rfl,fun _=>⟨⟨h1,by simp only; omega⟩,by omega⟩⟩
 ·rw [opens_c h0]
  exact ⟨rfl,rfl,fun h=>absurd h h0⟩
end
structure Lk {α:Type} (b:List Int) (H:List AO) (p:Nat) (N:List Nat) (sz:Nat) (cell:α->List PV) (m:CM α) (R:List α × Cur) (j:Nat) (c:Cur) (acc:List α) (a:AV) (A:List AO):Prop where
 rl:acc++(repC m j c).1=R.1
 rs:(repC m j c).2=R.2
 ln:acc.length+j<=1000
 own:OwnR (H.set p (cvC b c)++A) a sz (acc.map fun t=>(cell t).map .p)
 ids:∀ id v o m,a=.gs id v o m->H.length<=id/\id - H.length ∉ N
 len:∀ k∈N,k<A.length
section
variable {α:Type} {b:List Int} {H:List AO} {p sz:Nat} {N:List Nat} {cell:α->List PV} {m:CM α} {R:List α × Cur} {j:Nat} {c:Cur} {acc:List α} {a:AV} {A:List AO}
theorem Lk.stop (h:Lk b H p N sz cell m R 0 c acc a A):acc=R.1/\c=R.2:=by
 have h1:=h.rl; have h2:=h.rs
 exact ⟨by simpa [repC] using h1,h2⟩
theorem Lk.next (h:Lk b H p N sz cell m R (j+1) c acc a A) {x:α} {c2:Cur} (hm:m c=(x,c2)) {id ver:Nat} {A' A'':List AO}
  (k1:(H.set p (cvC b c2)++A')[id]?=some (.rows sz ver (acc.map (fun t=>(cell t).map .p)++[(cell x).map .p]))) (k2:H.length<=id/\id - H.length ∉ N) (k3:∀ (k:Nat) (o:AO),k ∉ N->A'[k]?=some o->A''[k]?=some o) (k4:∀ k∈N,k<A''.length) :
  Lk b H p N sz cell m R j c2 (acc++[x]) (.gs id ver 0 (acc.length+1)) A'':=by
 have h1:=h.rl; have h2:=h.rs
 rw [repC,hm] at h1 h2
 have hln:=h.ln
 refine ⟨by simpa using h1,h2,by simp; omega,.inr ⟨id,ver,by simp,?_⟩,(fun id' v o m' e=>by cases e; exact k2),k4⟩
 rw [q_ge k2.1] at k1 ⊢
 rw [List.map_append]
 exact k3 _ _ k2.2 k1
theorem Lk.lent (h:Lk b H p N sz cell m R j c acc a A) {d:AO} {B:List AO} (hk:∀ (k:Nat) (o:AO),k ∉ N->A[k]?=some o->B[k]?=some o) (hs:∀ t,(cell t).length=sz):LentN H.length (H.set p d++B) a (.p (.l (acc.map cell))):=by
 refine OwnR.lent (ys:=acc.map cell) (sz:=sz) ?_ (fun id v o m e=>(h.ids _ _ _ _ e).1) (by intro y hy; obtain ⟨t,_,rfl⟩:=List.mem_map.1 hy; exact hs t)
 rw [List.map_map]
 exact own_q h.own h.ids hk
theorem Lk.app {K:St->Prop} {L T':En} {d:MD} {bytes:Nat} {o:AO} {B:List AO} {y:List AV} (h:Lk b H p N sz cell m R j c acc a A) (hB:∀ (k:Nat) (o:AO),A[k]?=some o->B[k]?=some o) (hby:bytes<=1000) (hj:0<j)
  (k:∀ id ver A',(H.set p o++A')[id]?=some (.rows sz ver (acc.map (fun t=>(cell t).map .p)++[y]))->(H.length<=id/\id - H.length ∉ N)->(∀ k:Nat,k∈N->A'[k]?=A[k]?)->K (St.put ⟨L,T',H.set p o++A'⟩ d (.gs id ver 0 (acc.length+1)))) :
  appX sz bytes a [y] d K ⟨L,T',H.set p o++B⟩:=by
 have hln:=h.ln
 have hlB:∀ k∈N,k<B.length:=fun k hk=>by
  have hk2:=h.len k hk
  exact get_lt (hB k A[k] (by simp [hk2]))
 have hl:(acc.map fun t=>(cell t).map AV.p).length=acc.length:=by simp
 refine app_q (rs:=acc.map fun t=>(cell t).map .p) (ys:=[y]) (own_q h.own h.ids fun k o _ hk=>hB k o hk) hlB h.ids (by rw [hl]; simp; exact Nat.le_trans (Nat.mul_le_mul (show acc.length+1<=1001 by omega) hby) (by decide)) (by rw [hl]; simp; omega) ?_
 intro id ver A' k1 k2 k3
 rw [hl]
 refine k id ver A' k1 k2 (fun j hj=>?_)
 rw [k3 j hj]
 have hjl:=h.len j hj
 rw [hB j A[j] (by simp [hjl])]; simp [hjl]
end
abbrev patV2 (t:PatD):AV:=.st (t.cells.map .p)
theorem patV2_len (t:PatD):t.cells.length=5:=by cases t; rfl
theorem lent_patW {n:Nat} {H:List AO} {k u q:Int} {nm:List UInt8} {a:AV} {l:List PatD} (h:LentN n H a (.p (.l (PatD.cellsL l)))):LentN n H (.st [iV k,sV nm,iV u,iV q,a]) (patV2 (.mk k nm u q l)) :=
 LentC.st (.pc (.pc (.pc (.pc (.cons h .nil)))))
section
variable {b:List Int} (hb:b.length<=1048576)
include hb
theorem drPatB {dep : Int} {lf : Bool} {rec : CM PatD} (hlf : decide (dep ≤ 0) = lf) (hd : -10 ≤ dep ∧ dep ≤ 100) (hrec : lf = false → CF b 57 [iV (dep - 1)] rec patV2) : CF b 57 [iV dep] (patB b lf rec) patV2 := by
  refine cf_of fun H p c hp => ?_
  refine call57 (by simp) ?_
  simp only [go_sem, simprocAttr, mc57, mr57]
  refine acall_pure (drBelow hb 9 H _ p c hp) ?_
  simp only [go_sem, simprocAttr, hlf]
  have e1 : wr .i64 (dep - 1) = dep - 1 := wr64 (by omega) (by omega)
  have hs : 0 ≤ (if lf then belowD b 5 (belowD b 9 c).2 else belowD b 9 c).1 ∧ (if lf then belowD b 5 (belowD b 9 c).2 else belowD b 9 c).1 < 9 ∧ (lf = true → (if lf then belowD b 5 (belowD b 9 c).2 else belowD b 9 c).1 < 5) := by
    have h9 := belowD_lt (b := b) (n := 9) (by decide) c
    have h5 := belowD_lt (b := b) (n := 5) (by decide) (belowD b 9 c).2
    cases lf <;> simp <;> omega
  unfold patB
  simp only []
  generalize hse : (if lf then belowD b 5 (belowD b 9 c).2 else belowD b 9 c) = s at hs ⊢
  obtain ⟨k, c1⟩ := s
  obtain ⟨hk0, hk9, hk5⟩ := hs
  simp only at hk0 hk9 hk5
  rcases hq : belowD b 9 c1 with ⟨q, c2⟩
  cases lf
  case' false =>
    simp only [Bool.false_eq_true, if_false] at hse
    simp only [go_sem, simprocAttr, hse]
    refine acall_pure (drBelow hb 9 H _ p _ hp) ?_
    simp only [go_sem, simprocAttr, hq]
  case' true =>
    simp only [if_true] at hse
    simp only [go_sem, simprocAttr]
    refine acall_pure (drBelow hb 5 H _ p _ hp) ?_
    simp only [go_sem, simprocAttr, hse]
    refine acall_pure (drBelow hb 9 H _ p _ hp) ?_
    simp only [go_sem, simprocAttr, hq]
  all_goals unfold patK
  all_goals by_cases k0 : k = 0
  all_goals first
    | (rw [if_pos k0]
       simp only [go_sem, simprocAttr, dT k0]
       exact ⟨_, rfl, lent_patW (by rw [PatD.cellsL]; exact .nl)⟩)
    | rw [if_neg k0]
  all_goals simp only [go_sem, simprocAttr, dF k0]
  all_goals by_cases k1 : k = 1
  all_goals first
    | (rw [if_pos k1]
       simp only [go_sem, simprocAttr, dT k1]
       refine acall_pure (drName hb H _ p _ hp) ?_
       simp only [go_sem, simprocAttr]
       exact ⟨_, rfl, lent_patW (by rw [PatD.cellsL]; exact .nl)⟩)
    | rw [if_neg k1]
  all_goals simp only [go_sem, simprocAttr, dF k1]
  all_goals by_cases k2 : k = 2
  all_goals first
    | (rw [if_pos k2]
       simp only [go_sem, simprocAttr, dT k2]
       refine acall_pure (drBelow hb 4 H _ p _ hp) ?_
       simp only [go_sem, simprocAttr]
       exact ⟨_, rfl, lent_patW (by rw [PatD.cellsL]; exact .nl)⟩)
    | rw [if_neg k2]
  all_goals simp only [go_sem, simprocAttr, dF k2]
  all_goals by_cases k3 : k = 3
  all_goals first
    | (rw [if_pos k3]
       simp only [go_sem, simprocAttr, dT k3]
       refine acall_pure (drBelow hb 2 H _ p _ hp) ?_
       simp only [go_sem, simprocAttr]
       exact ⟨_, rfl, lent_patW (by rw [PatD.cellsL]; exact .nl)⟩)
    | rw [if_neg k3]
  all_goals simp only [go_sem, simprocAttr, dF k3]
  all_goals by_cases k4 : k = 4
  all_goals first
    | (rw [if_pos k4]
       simp only [go_sem, simprocAttr, dT k4]
       exact ⟨_, rfl, lent_patW (by rw [PatD.cellsL]; exact .nl)⟩)
    | rw [if_neg k4]
  · exact absurd (hk5 rfl) (by omega)
  have hrec := hrec rfl
  simp only [go_sem, simprocAttr, dF k4]
  by_cases k5 : k = 5
  · rw [if_pos k5]
    simp only [go_sem, simprocAttr, dT k5]
    refine acall_pure (drUp hb H _ p _ hp) ?_
    simp only [go_sem, simprocAttr]
    exact ⟨_, rfl, lent_patW (by rw [PatD.cellsL]; exact .nl)⟩
  rw [if_neg k5]
  simp only [go_sem, simprocAttr, dF k5]
  by_cases k6 : k = 6
  · rw [if_pos k6]
    simp only [go_sem, simprocAttr, dT k6]
    refine acall_pure (drUp hb H _ p _ hp) ?_
    simp only [go_sem, simprocAttr, e1]
    refine acall_pure (hrec H _ p _ hp) ?_
    rcases hr : rec (upP b c2).2 with ⟨⟨k', n', u', q', ks'⟩, c3⟩
    simp only [go_sem, simprocAttr, PatD.cells]
    exact ⟨_, rfl, lent_patW (lent_rows (n := H.length) (ys := [PatD.cells (.mk k' n' u' q' ks')]) (by omega) (by rw [qxk]; rfl) (by intro y hy; simp at hy; subst hy; rfl))⟩
  rw [if_neg k6]
  simp only [go_sem, simprocAttr, dF k6]
  refine acall_pure (drBelow hb 2 H _ p _ hp) ?_
  have h2 := belowD_lt (b := b) (n := 2) (by decide) c2
  rcases hm : belowD b 2 c2 with ⟨m, c3⟩
  rw [hm] at h2
  simp only at h2
  obtain ⟨J, hJ⟩ : ∃ J : Nat, 2 + m = J := ⟨(2 + m).toNat, by omega⟩
  have eJ : wr .i64 (2 + m) = (J : Int) := by rw [wr64 (by omega) (by omega), hJ]
  have eJ2 : (2 + m).toNat = J := by omega
  rw [eJ2]
  simp only [go_sem, simprocAttr, eJ]
  generalize hR : repC rec J c3 = R
  refine ⟨Nat × Cur × List PatD × AV × List AO, [0, 1, 4, 6, 7], fun x st => (Lk b H p [0, 1] 5 PatD.cells rec R x.1 x.2.1 x.2.2.1 x.2.2.2.1 x.2.2.2.2 ∧ x.2.2.2.2[0]? = some (.var [iV 0, sV [], iV 0, iV 0, .p .nl]) ∧ x.2.2.2.2[1]? = some (.var [iV 6, sV [], iV 0, iV q, x.2.2.2.1])) ∧
    st = ⟨[(0, .ptr p 0), (1, iV dep), (4, .ptr H.length 0), (6, .ptr (H.length + 1) 0), (7, iV x.1)], [], H.set p (cvC b x.2.1) ++ x.2.2.2.2⟩, fun x => x.1, ⟨(J, c3, [], .p .nl, [.var [iV 0, sV [], iV 0, iV 0, .p .nl], .var [iV 6, sV [], iV 0, iV q, .p .nl]]), ?_⟩, ?_⟩
  · simp only [go_sem, simprocAttr]
    exact ⟨by rw [hR]; rfl, by rw [hR], by simp; omega, .inl ⟨rfl, rfl⟩, (fun _ _ _ _ e => by cases e), by simp⟩
  · rintro ⟨j, c, acc, a, A⟩ _ ⟨⟨hL, i8, i9⟩, rfl⟩
    simp only at hL i8 i9 ⊢
    have hln := hL.ln
    cases j with
    | zero =>
      obtain ⟨rfl, rfl⟩ := hL.stop
      have hz : ∀ o, (A.set 0 o)[0]? = some o := fun o => set_get i8
      simp only [go_sem, simprocAttr, i9, i8, hz]
      exact ⟨_, rfl, lent_patW (by rw [PatD.cellsL_eq]; exact hL.lent (set_keep (by decide)) patV2_len)⟩
    | succ j =>
      have d1 : decide (0 < ((j + 1 : Nat) : Int)) = true := by simp <;> omega
      have ej : wr .i64 (((j + 1 : Nat) : Int) - 1) = (j : Int) := by rw [wr64 (by omega) (by omega)]; omega
      simp only [go_sem, simprocAttr, d1]
      refine ⟨_, hx hp _ _, ?_⟩
      simp only [go_sem, simprocAttr, i9, e1]
      refine pcall_chain _ _ (by simp) (hx hp _ _) (hrec.chain hp) ?_
      rcases hq : rec c with ⟨⟨k', n', u', q', ks'⟩, c4⟩
      simp only [go_sem, simprocAttr, PatD.cells, qxa]
      refine ⟨by intro r hr; simp at hr; subst hr; rfl, ?_⟩
      refine hL.app (fun k o h => get_ext h _) (by decide) (by omega) ?_
      intro id ver A' k1 k2 k3
      have j0 := (k3 0 (by decide)).trans i8
      have j1 := (k3 1 (by decide)).trans i9
      have hlt1 := get_lt j1
      have hz : ∀ o, (A'.set 1 o)[1]? = some o := fun o => set_get j1
      simp only [go_sem, simprocAttr, j1, ej]
      exact ⟨(j, c4, acc ++ [.mk k' n' u' q' ks'], .gs id ver 0 (acc.length + 1), A'.set 1 (.var [iV 6, sV [], iV 0, iV q, .gs id ver 0 (acc.length + 1)])), ⟨⟨hL.next hq k1 k2 (set_keep (by decide)) (by simp; omega), get_set j0 (by decide), hz _⟩, rfl⟩, by simp only; omega⟩
theorem drPat : ∀ d : Nat, d ≤ 50 → CF b 57 [iV d] (patDr b d) patV2
  | 0, _ => drPatB hb (dep := 0) (lf := true) (by decide) (by decide) (fun h => by cases h)
  | d + 1, h => drPatB hb (dep := ((d + 1 : Nat) : Int)) (lf := false) (by simp) (by omega) (fun _ => by
    have := drPat d (by omega)
    rwa [show ((d + 1 : Nat) : Int) - 1 = (d : Int) by omega])
end
abbrev expV2 (t:ExpD):AV:=.st (t.cells.map .p)
theorem expV2_len (t:ExpD):t.cells.length=7:=by cases t; rfl
theorem armV2_len (t:ArmD):t.cells.length=12:=by cases t; rw [ArmD.cells,List.length_append,patV2_len,expV2_len]
theorem lent_expA {n:Nat} {H:List AO} {k u q:Int} {nm t:List UInt8} {a c:AV} {l:List ExpD} {m:List ArmD} (h:LentN n H a (.p (.l (ExpD.cellsL l)))) (h2:LentN n H c (.p (.l (ExpD.cellsA m)))):LentN n H (.st [iV k,sV nm,iV u,sV t,iV q,a,c]) (expV2 (.mk k nm u t q l m)) :=
 LentC.st (.pc (.pc (.pc (.pc (.pc (.cons h (.cons h2 .nil)))))))
theorem lent_l0 {n:Nat} {H:List AO}:LentN n H (.p .nl) (.p (.l (ExpD.cellsL []))):=by rw [ExpD.cellsL]; exact .nl
theorem lent_a0 {n:Nat} {H:List AO}:LentN n H (.p .nl) (.p (.l (ExpD.cellsA []))):=by rw [ExpD.cellsA]; exact .nl
section
variable {b:List Int} (hb:b.length<=1048576)
include hb
theorem drLeaf:CF b 54 [] (leafB b) expV2:=by
 refine cf_of fun H p c hp=>?_
 refine call54 (by simp) ?_
 simp only [go_sem,simprocAttr,mc54,mr54]
 refine acall_pure (drBelow hb 6 H _ p c hp) ?_
 simp only [go_sem,simprocAttr]
 refine acall_pure (drBelow hb 9 H _ p _ hp) ?_
 have h6:=belowD_lt (b:=b) (n:=6) (by decide) c
 rcases hk:belowD b 6 c with ⟨k0,c1⟩
 rw [hk] at h6
 simp only at h6
 rcases hq:belowD b 9 c1 with ⟨q,c2⟩
 have eb:leafB b c=if (onceD b 8 (leafK b (1+k0) q c2).2).1 then (leaf 15 [114,101,97,100] 0 [] 0,(onceD b 8 (leafK b (1+k0) q c2).2).2) else ((leafK b (1+k0) q c2).1,(onceD b 8 (leafK b (1+k0) q c2).2).2):=by
  unfold leafB; simp only [hk,hq]
 rw [eb]
 have e1:wr .i64 (1+k0)=1+k0:=wr64 (by omega) (by omega)
 obtain ⟨k,hkk⟩:∃ k,1+k0=k:=⟨_,rfl⟩
 rw [hkk] at e1 ⊢
 simp only [go_sem,simprocAttr,hkk,e1]
 by_cases k1:k=1
 ·have el:leafK b k q c2=(leaf k [] (intD b [0,3,17,9223372036854775807] c2).1 [] q,(intD b [0,3,17,9223372036854775807] c2).2):=by unfold leafK; rw [if_pos k1,k1]
  rw [el]
  simp only [go_sem,simprocAttr,dT k1]
  refine acall_pure (drInt hb (L:=[0,3,17,9223372036854775807]) (by simp) (k:=2) hp (by rfl)) ?_
  simp only [go_sem,simprocAttr]
  refine acall_pure (drOnce hb 8 H _ p _ hp) ?_
  split <;> rename_i h <;> try rw [Bool.not_eq_true] at h
  all_goals (simp only [go_sem,simprocAttr,h]; exact ⟨_,rfl,lent_expA lent_l0 lent_a0⟩)
 simp only [go_sem,simprocAttr,dF k1]
 by_cases k2:k=2
 ·have el:leafK b k q c2=(leaf k [] 0 (strP b [[],[104,105],[97,34,98],[10]] c2).1 q,(strP b [[],[104,105],[97,34,98],[10]] c2).2):=by unfold leafK; rw [if_neg k1,if_pos k2,k2]
  rw [el]
  simp only [go_sem,simprocAttr,dT k2]
  refine acall_pure (drStr hb (L:=[[],[104,105],[97,34,98],[10]]) (by simp) (k:=2) hp (by rfl)) ?_
  simp only [go_sem,simprocAttr]
  refine acall_pure (drOnce hb 8 H _ p _ hp) ?_
  split <;> rename_i h <;> try rw [Bool.not_eq_true] at h
  all_goals (simp only [go_sem,simprocAttr,h]; exact ⟨_,rfl,lent_expA lent_l0 lent_a0⟩)
 simp only [go_sem,simprocAttr,dF k2]
 by_cases k3:k=3
 ·have el:leafK b k q c2=(leaf k [] (belowD b 2 c2).1 [] q,(belowD b 2 c2).2):=by unfold leafK; rw [if_neg k1,if_neg k2,if_pos k3,k3]
  rw [el]
  simp only [go_sem,simprocAttr,dT k3]
  refine acall_pure (drBelow hb 2 H _ p _ hp) ?_
  simp only [go_sem,simprocAttr]
  refine acall_pure (drOnce hb 8 H _ p _ hp) ?_
  split <;> rename_i h <;> try rw [Bool.not_eq_true] at h
  all_goals (simp only [go_sem,simprocAttr,h]; exact ⟨_,rfl,lent_expA lent_l0 lent_a0⟩)
 simp only [go_sem,simprocAttr,dF k3]
 by_cases k5:k=5
 ·have el:leafK b k q c2=(leaf k (nmP b c2).1 0 [] q,(nmP b c2).2):=by unfold leafK; rw [if_neg k1,if_neg k2,if_neg k3,if_pos k5,k5]
  rw [el]
  simp only [go_sem,simprocAttr,dT k5]
  refine acall_pure (drName hb H _ p _ hp) ?_
  simp only [go_sem,simprocAttr]
  refine acall_pure (drOnce hb 8 H _ p _ hp) ?_
  split <;> rename_i h <;> try rw [Bool.not_eq_true] at h
  all_goals (simp only [go_sem,simprocAttr,h]; exact ⟨_,rfl,lent_expA lent_l0 lent_a0⟩)
 simp only [go_sem,simprocAttr,dF k5]
 by_cases k6:k=6
 ·have el:leafK b k q c2=(leaf k (upP b c2).1 0 [] q,(upP b c2).2):=by unfold leafK; rw [if_neg k1,if_neg k2,if_neg k3,if_neg k5,if_pos k6,k6]
  rw [el]
  simp only [go_sem,simprocAttr,dT k6]
  refine acall_pure (drUp hb H _ p _ hp) ?_
  simp only [go_sem,simprocAttr]
  refine acall_pure (drOnce hb 8 H _ p _ hp) ?_
  split <;> rename_i h <;> try rw [Bool.not_eq_true] at h
  all_goals (simp only [go_sem,simprocAttr,h]; exact ⟨_,rfl,lent_expA lent_l0 lent_a0⟩)
 simp only [go_sem,simprocAttr,dF k6]
 have el:leafK b k q c2=(leaf k [] 0 [] q,c2):=by unfold leafK; rw [if_neg k1,if_neg k2,if_neg k3,if_neg k5,if_neg k6]
 rw [el]
 refine acall_pure (drOnce hb 8 H _ p _ hp) ?_
 split <;> rename_i h <;> try rw [Bool.not_eq_true] at h
 all_goals (simp only [go_sem,simprocAttr,h]; exact ⟨_,rfl,lent_expA lent_l0 lent_a0⟩)
theorem drExps {d : Int} {rec : CM ExpD} (hd : -10 ≤ d ∧ d ≤ 100) (hrec : CF b 21 [iV (d - 1)] rec expV2) (m : Nat) (hm : m ≤ 100) : CF b 59 [iV d, iV m] (repC rec m) (fun l => .p (.l (ExpD.cellsL l))) := by
  refine cf_of fun H p c hp => ?_
  refine call59 (by simp) ?_
  simp only [go_sem, simprocAttr, mc59, mr59]
  have e1 : wr .i64 (d - 1) = d - 1 := wr64 (by omega) (by omega)
  generalize hR : repC rec m c = R
  refine ⟨Nat × Cur × List ExpD × AV × List AO, [0, 1, 2, 6, 7, 8], fun x st => (Lk b H p [] 7 ExpD.cells rec R x.1 x.2.1 x.2.2.1 x.2.2.2.1 x.2.2.2.2 ∧ x.2.2.1.length + x.1 = m) ∧
    st = ⟨[(0, .ptr p 0), (1, iV d), (2, iV m), (6, .p .nl), (7, x.2.2.2.1), (8, iV x.2.2.1.length)], [], H.set p (cvC b x.2.1) ++ x.2.2.2.2⟩, fun x => x.1, ⟨(m, c, [], .gs H.length 0 0 0, [.rows 7 0 []]), ?_⟩, ?_⟩
  · simp only [go_sem, simprocAttr]
    exact ⟨by rw [hR]; rfl, by rw [hR], by simp; omega, .inr ⟨H.length, 0, rfl, by rw [qx0]; rfl⟩, (fun _ _ _ _ e => by cases e; exact ⟨by omega, by simp⟩), by simp⟩
  · rintro ⟨j, c, acc, a, A⟩ _ ⟨⟨hL, hj⟩, rfl⟩
    simp only at hL hj ⊢
    cases j with
    | zero =>
      obtain ⟨rfl, rfl⟩ := hL.stop
      have d1 : decide ((R.1.length : Int) < (m : Int)) = false := by simp; omega
      simp only [go_sem, simprocAttr, d1]
      exact ⟨_, rfl, by rw [ExpD.cellsL_eq]; exact hL.lent (fun _ _ _ h => h) expV2_len⟩
    | succ j =>
      have d1 : decide ((acc.length : Int) < (m : Int)) = true := by simp; omega
      have ej : wr .i64 ((acc.length : Int) + 1) = ((acc.length + 1 : Nat) : Int) := wrN _ (by omega)
      simp only [go_sem, simprocAttr, d1, e1]
      refine acall_pure (hrec H _ p _ hp) ?_
      rcases hq : rec c with ⟨⟨k', n', u', t', q', ks', as'⟩, c4⟩
      simp only [go_sem, simprocAttr, ExpD.cells]
      refine ⟨by intro r hr; simp at hr; subst hr; rfl, ?_⟩
      refine hL.app (bytes := 104) (fun k o h => get_ext h _) (by decide) (by omega) ?_
      intro id ver A' k1 k2 k3
      simp only [go_sem, simprocAttr, ej]
      exact ⟨(j, c4, acc ++ [.mk k' n' u' t' q' ks' as'], .gs id ver 0 (acc.length + 1), A'), ⟨⟨hL.next hq k1 k2 (fun _ _ _ h => h) (by simp), by simp; omega⟩, by simp⟩, by simp only; omega⟩
end
theorem nodeK_e {b:List Int} {rec:CM ExpD} {k q:Int} {c c2:Cur} {h:Hd} (e:headK b rec k c=(h,c2)):nodeK b rec k q c=(.mk k h.n 0 h.t q (repC rec h.m.toNat c2).1 h.as',(repC rec h.m.toNat c2).2):=by unfold nodeK; simp only [e]
section
variable {b:List Int} (hb:b.length<=1048576)
include hb
theorem drExpB {dep : Int} {rec : CM ExpD} (hd : 0 < dep ∧ dep ≤ 100) (hrec : CF b 21 [iV (dep - 1)] rec expV2) : CF b 21 [iV dep] (expB b rec) expV2 := by
  refine cf_of fun H p c hp => ?_
  refine call21 (by simp) ?_
  have d0 : decide (dep ≤ 0) = false := decide_eq_false (by omega)
  have e1 : wr .i64 (dep - 1) = dep - 1 := wr64 (by omega) (by omega)
  simp only [go_sem, simprocAttr, mc21, mr21, d0]
  refine acall_pure (drOnce hb 6 H _ p c hp) ?_
  unfold expB
  rcases ho : onceD b 6 c with ⟨o, c1⟩
  cases o
  rotate_left
  · simp only [if_true]
    simp only [go_sem, simprocAttr]
    refine acall_pure (drLeaf hb H _ p _ hp) ?_
    rcases hq : leafB b c1 with ⟨⟨k', n', u', t', q', ks', as'⟩, c4⟩
    simp only [go_sem, simprocAttr, ExpD.cells]
    exact ⟨_, rfl, lentP (tf_av (ExpD.cells (.mk k' n' u' t' q' ks' as')))⟩
  simp only [Bool.false_eq_true, if_false]
  simp only [go_sem, simprocAttr]
  refine acall_pure (drBelow hb 10 H _ p _ hp) ?_
  simp only [go_sem, simprocAttr]
  refine acall_pure (drBelow hb 9 H _ p _ hp) ?_
  have h10 := belowD_lt (b := b) (n := 10) (by decide) c1
  rcases hk : belowD b 10 c1 with ⟨k0, c2⟩
  rw [hk] at h10
  simp only at h10
  rcases hq : belowD b 9 c2 with ⟨q, c3⟩
  obtain ⟨k, hkk⟩ : ∃ k, 6 + k0 = k := ⟨_, rfl⟩
  have e2 : wr .i64 k = k := wr64 (by omega) (by omega)
  simp only [hkk]
  have hk6 : 6 ≤ k ∧ k ≤ 15 := by omega
  simp only [go_sem, simprocAttr, e2]
  by_cases k6 : k = 6
  · rw [nodeK_e (h := ⟨(upP b c3).1, [], [], (belowD b 2 (upP b c3).2).1⟩) (c2 := (belowD b 2 (upP b c3).2).2) (by unfold headK; rw [if_pos k6])]
    simp only
    have h2 := belowD_lt (b := b) (n := 2) (by decide) (upP b c3).2
    simp only [go_sem, simprocAttr, dT k6]
    refine acall_pure (drUp hb H _ p _ hp) ?_
    simp only [go_sem, simprocAttr]
    refine acall_pure (drBelow hb 2 H _ p _ hp) ?_
    simp only [go_sem, simprocAttr]
    obtain ⟨M, hM⟩ : ∃ M : Nat, (belowD b 2 (upP b c3).2).1 = M := ⟨(belowD b 2 (upP b c3).2).1.toNat, by omega⟩
    rw [hM] at h2 ⊢
    rw [Int.toNat_natCast]
    refine acall_pure (drExps hb ⟨by omega, by omega⟩ hrec M (by omega) H _ p _ hp) ?_
    simp only [go_sem, simprocAttr]
    exact ⟨_, rfl, lent_expA (.p _) lent_a0⟩
  simp only [go_sem, simprocAttr, dF k6]
  by_cases k7 : k = 7
  · rw [nodeK_e (h := ⟨[], [], [], 2 + (belowD b 2 c3).1⟩) (c2 := (belowD b 2 c3).2) (by unfold headK; rw [if_neg k6, if_pos k7])]
    simp only
    have h2 := belowD_lt (b := b) (n := 2) (by decide) c3
    simp only [go_sem, simprocAttr, dT k7]
    refine acall_pure (drBelow hb 2 H _ p _ hp) ?_
    simp only [go_sem, simprocAttr]
    obtain ⟨M, hM⟩ : ∃ M : Nat, 2 + (belowD b 2 c3).1 = M := ⟨(2 + (belowD b 2 c3).1).toNat, by omega⟩
    have eM : wr .i64 (M : Int) = (M : Int) := wr64 (by omega) (by omega)
    rw [hM, Int.toNat_natCast]
    simp only [go_sem, simprocAttr, eM]
    refine acall_pure (drExps hb ⟨by omega, by omega⟩ hrec M (by omega) H _ p _ hp) ?_
    simp only [go_sem, simprocAttr]
    exact ⟨_, rfl, lent_expA (.p _) lent_a0⟩
  simp only [go_sem, simprocAttr, dF k7]
  by_cases k8 : k = 8
  · rw [nodeK_e (h := ⟨(nmP b c3).1, [], [], 1⟩) (c2 := (nmP b c3).2) (by unfold headK; rw [if_neg k6, if_neg k7, if_pos k8])]
    simp only
    simp only [go_sem, simprocAttr, dT k8]
    refine acall_pure (drName hb H _ p _ hp) ?_
    simp only [go_sem, simprocAttr]
    refine acall_pure (drExps hb ⟨by omega, by omega⟩ hrec 1 (by omega) H _ p _ hp) ?_
    simp only [go_sem, simprocAttr]
    exact ⟨_, rfl, lent_expA (.p _) lent_a0⟩
  simp only [go_sem, simprocAttr, dF k8]
  by_cases k10 : k = 10
  · rw [nodeK_e (h := ⟨(nmP b c3).1, [], [], 2⟩) (c2 := (nmP b c3).2) (by unfold headK; rw [if_neg k6, if_neg k7, if_neg k8, if_pos k10])]
    simp only
    simp only [go_sem, simprocAttr, dT k10]
    refine acall_pure (drName hb H _ p _ hp) ?_
    simp only [go_sem, simprocAttr]
    refine acall_pure (drExps hb ⟨by omega, by omega⟩ hrec 2 (by omega) H _ p _ hp) ?_
    simp only [go_sem, simprocAttr]
    exact ⟨_, rfl, lent_expA (.p _) lent_a0⟩
  simp only [go_sem, simprocAttr, dF k10]
  by_cases k11 : k = 11
  · rw [nodeK_e (h := ⟨(nmP b c3).1, (nmP b (nmP b c3).2).1, [], 2⟩) (c2 := (nmP b (nmP b c3).2).2) (by unfold headK; rw [if_neg k6, if_neg k7, if_neg k8, if_neg k10, if_pos k11])]
    simp only
    simp only [go_sem, simprocAttr, dT k11]
    refine acall_pure (drName hb H _ p _ hp) ?_
    simp only [go_sem, simprocAttr]
    refine acall_pure (drName hb H _ p _ hp) ?_
    simp only [go_sem, simprocAttr]
    refine acall_pure (drExps hb ⟨by omega, by omega⟩ hrec 2 (by omega) H _ p _ hp) ?_
    simp only [go_sem, simprocAttr]
    exact ⟨_, rfl, lent_expA (.p _) lent_a0⟩
  simp only [go_sem, simprocAttr, dF k11]
  by_cases k12 : k = 12
  · rw [nodeK_e (h := ⟨[], [], [], 3⟩) (c2 := c3) (by unfold headK; rw [if_neg k6, if_neg k7, if_neg k8, if_neg k10, if_neg k11, if_pos k12])]
    simp only
    simp only [go_sem, simprocAttr, dT k12]
    refine acall_pure (drExps hb ⟨by omega, by omega⟩ hrec 3 (by omega) H _ p _ hp) ?_
    simp only [go_sem, simprocAttr]
    exact ⟨_, rfl, lent_expA (.p _) lent_a0⟩
  simp only [go_sem, simprocAttr, dF k12]
  by_cases k13 : k = 13
  · rw [nodeK_e (h := ⟨[], [], (repC (armDr b rec) (1 + (belowD b 3 c3).1).toNat (belowD b 3 c3).2).1, 1⟩) (c2 := (repC (armDr b rec) (1 + (belowD b 3 c3).1).toNat (belowD b 3 c3).2).2) (by unfold headK; rw [if_neg k6, if_neg k7, if_neg k8, if_neg k10, if_neg k11, if_neg k12, if_pos k13])]
    simp only
    have h3 := belowD_lt (b := b) (n := 3) (by decide) c3
    rcases hm : belowD b 3 c3 with ⟨m, c4⟩
    rw [hm] at h3
    simp only at h3
    obtain ⟨J, hJ⟩ : ∃ J : Nat, 1 + m = J := ⟨(1 + m).toNat, by omega⟩
    have eJ : wr .i64 (1 + m) = (J : Int) := by rw [wr64 (by omega) (by omega), hJ]
    rw [hJ, Int.toNat_natCast]
    simp only [go_sem, simprocAttr, dT k13]
    refine acall_pure (drBelow hb 3 H _ p _ hp) ?_
    simp only [go_sem, simprocAttr, hm, eJ]
    generalize hR : repC (armDr b rec) J c4 = R
    refine ⟨Nat × Cur × List ArmD × AV × List AO, [0, 1, 4, 5, 6, 7], fun x st => (Lk b H p [0, 1] 12 ArmD.cells (armDr b rec) R x.1 x.2.1 x.2.2.1 x.2.2.2.1 x.2.2.2.2 ∧ x.2.2.2.2[0]? = some (.var [iV 0, sV [], iV 0, sV [], iV 0, .p .nl, .p .nl]) ∧ x.2.2.2.2[1]? = some (.var [iV k, sV [], iV 0, sV [], iV q, .p .nl, x.2.2.2.1])) ∧
      st = ⟨[(0, .ptr p 0), (1, iV dep), (4, .ptr H.length 0), (5, .ptr (H.length + 1) 0), (6, iV 1), (7, iV x.1)], [], H.set p (cvC b x.2.1) ++ x.2.2.2.2⟩, fun x => x.1, ⟨(J, c4, [], .p .nl, [.var [iV 0, sV [], iV 0, sV [], iV 0, .p .nl, .p .nl], .var [iV k, sV [], iV 0, sV [], iV q, .p .nl, .p .nl]]), ?_⟩, ?_⟩
    · simp only [go_sem, simprocAttr]
      exact ⟨by rw [hR]; rfl, by rw [hR], by simp; omega, .inl ⟨rfl, rfl⟩, (fun _ _ _ _ e => by cases e), by simp⟩
    · rintro ⟨j, c, acc, a, A⟩ _ ⟨⟨hL, i8, i9⟩, rfl⟩
      simp only at hL i8 i9 ⊢
      have hln := hL.ln
      cases j with
      | zero =>
        obtain ⟨rfl, rfl⟩ := hL.stop
        simp only [go_sem, simprocAttr]
        refine acall_pure (drExps hb ⟨by omega, by omega⟩ hrec 1 (by omega) H _ p _ hp) ?_
        have hz : ∀ o, (A.set 1 o)[1]? = some o := fun o => set_get i9
        have i80 : ∀ o, (A.set 1 o)[0]? = A[0]? := fun o => by rw [List.getElem?_set_ne (by decide)]
        have hz0 : ∀ o o2, ((A.set 1 o).set 0 o2)[0]? = some o2 := fun o o2 => set_get ((i80 o).trans i8)
        simp only [go_sem, simprocAttr, i9, i80, i8, hz, hz0]
        exact ⟨_, rfl, lent_expA (.p _) (by rw [ExpD.cellsA_eq]; exact hL.lent (fun k o hk h => by rw [List.getElem?_set_ne (by rintro rfl; exact hk (by decide)), List.getElem?_set_ne (by rintro rfl; exact hk (by decide))]; exact h) armV2_len)⟩
      | succ j =>
        have d1 : decide (0 < ((j + 1 : Nat) : Int)) = true := by simp <;> omega
        have ej : wr .i64 (((j + 1 : Nat) : Int) - 1) = (j : Int) := by rw [wr64 (by omega) (by omega)]; omega
        simp only [go_sem, simprocAttr, d1]
        refine ⟨_, hx hp _ _, ?_⟩
        simp only [go_sem, simprocAttr, i9, e1]
        refine pcall_chain _ _ (by simp) (hx hp _ _) ((drPat hb 2 (by decide)).chain hp) ?_
        rcases hq1 : patDr b 2 c with ⟨⟨k', n', u', q', ks'⟩, c5⟩
        simp only [go_sem, simprocAttr, PatD.cells, qxa, e1]
        refine pcall_chain _ _ (by simp) (hx hp _ _) (hrec.chain hp) ?_
        rcases hq2 : rec c5 with ⟨⟨k2, n2, u2, t2, q2, l2, a2⟩, c6⟩
        simp only [go_sem, simprocAttr, ExpD.cells, PatD.cells, qxa]
        refine ⟨by intro r hr; simp at hr; subst hr; rfl, ?_⟩
        refine hL.app (bytes := 168) (fun k o h => get_ext h _) (by decide) (by omega) ?_
        intro id ver A' i1 i2 i3
        have j0 := (i3 0 (by decide)).trans i8
        have j1 := (i3 1 (by decide)).trans i9
        have hlt1 := get_lt j1
        have hz : ∀ o, (A'.set 1 o)[1]? = some o := fun o => set_get j1
        have hqa : armDr b rec c = (.mk (.mk k' n' u' q' ks') (.mk k2 n2 u2 t2 q2 l2 a2), c6) := by unfold armDr; simp only [hq1, hq2]
        simp only [go_sem, simprocAttr, j1, ej]
        exact ⟨(j, c6, acc ++ [.mk (.mk k' n' u' q' ks') (.mk k2 n2 u2 t2 q2 l2 a2)], .gs id ver 0 (acc.length + 1), A'.set 1 (.var [iV k, sV [], iV 0, sV [], iV q, .p .nl, .gs id ver 0 (acc.length + 1)])), ⟨⟨hL.next hqa i1 i2 (set_keep (by decide)) (by simp; omega), get_set j0 (by decide), hz _⟩, rfl⟩, by simp only; omega⟩
  simp only [go_sem, simprocAttr, dF k13]
  by_cases k14 : k = 14
  · rw [nodeK_e (h := ⟨(strP b [[43], [45], [42], [94], [61], [60], [58, 61]] c3).1, [], [], 2⟩) (c2 := (strP b [[43], [45], [42], [94], [61], [60], [58, 61]] c3).2) (by unfold headK; rw [if_neg k6, if_neg k7, if_neg k8, if_neg k10, if_neg k11, if_neg k12, if_neg k13, if_pos k14])]
    simp only
    simp only [go_sem, simprocAttr, dT k14]
    refine acall_pure (drStr hb (L := [[43], [45], [42], [94], [61], [60], [58, 61]]) (by simp) (k := 2) hp (by rfl)) ?_
    simp only [go_sem, simprocAttr]
    refine acall_pure (drExps hb ⟨by omega, by omega⟩ hrec 2 (by omega) H _ p _ hp) ?_
    simp only [go_sem, simprocAttr]
    exact ⟨_, rfl, lent_expA (.p _) lent_a0⟩
  simp only [go_sem, simprocAttr, dF k14]
  by_cases k15 : k = 15
  · rw [nodeK_e (h := ⟨(strP b [[112, 114, 105, 110, 116], [101, 120, 105, 116], [115, 105, 122, 101], [114, 101, 102], [33]] c3).1, [], [], 1⟩) (c2 := (strP b [[112, 114, 105, 110, 116], [101, 120, 105, 116], [115, 105, 122, 101], [114, 101, 102], [33]] c3).2) (by unfold headK; rw [if_neg k6, if_neg k7, if_neg k8, if_neg k10, if_neg k11, if_neg k12, if_neg k13, if_neg k14, if_pos k15])]
    simp only
    simp only [go_sem, simprocAttr, dT k15]
    refine acall_pure (drStr hb (L := [[112, 114, 105, 110, 116], [101, 120, 105, 116], [115, 105, 122, 101], [114, 101, 102], [33]]) (by simp) (k := 2) hp (by rfl)) ?_
    simp only [go_sem, simprocAttr]
    refine acall_pure (drExps hb ⟨by omega, by omega⟩ hrec 1 (by omega) H _ p _ hp) ?_
    simp only [go_sem, simprocAttr]
    exact ⟨_, rfl, lent_expA (.p _) lent_a0⟩
  simp only [go_sem, simprocAttr, dF k15]
  rw [nodeK_e (h := ⟨[], [], [], 2⟩) (c2 := c3) (by unfold headK; rw [if_neg k6, if_neg k7, if_neg k8, if_neg k10, if_neg k11, if_neg k12, if_neg k13, if_neg k14, if_neg k15])]
  simp only
  refine acall_pure (drExps hb ⟨by omega, by omega⟩ hrec 2 (by omega) H _ p _ hp) ?_
  simp only [go_sem, simprocAttr]
  exact ⟨_, rfl, lent_expA (.p _) lent_a0⟩
theorem drExp : ∀ d : Nat, d ≤ 50 → CF b 21 [iV d] (expDr b d) expV2
  | 0, _ => by
    refine cf_of fun H p c hp => ?_
    refine call21 (by simp) ?_
    simp only [go_sem, simprocAttr, mc21, mr21]
    refine acall_pure (drLeaf hb H _ p _ hp) ?_
    rw [expDr]
    rcases hq : leafB b c with ⟨⟨k', n', u', t', q', ks', as'⟩, c4⟩
    simp only [go_sem, simprocAttr, ExpD.cells]
    exact ⟨_, rfl, lentP (tf_av (ExpD.cells (.mk k' n' u' t' q' ks' as')))⟩
  | d + 1, h => drExpB hb (dep := ((d + 1 : Nat) : Int)) (by omega) (by
    have := drExp d (by omega)
    rwa [show ((d + 1 : Nat) : Int) - 1 = (d : Int) by omega])
end
theorem hashL_step {b:List Int} {i:Nat} {h R:Int} (hr:hashL h ((b.take 4000).drop i)=R) (h1:i<b.length) (h2:i<4000) :
  hashL (ibits .and .i64 (wr .i64 (wr .i64 (wr .i64 (h * 137)+wr .i64 (b.getD i 0))+11)) 1073741823) ((b.take 4000).drop (i+1))=R:=by
 have hl:i<(b.take 4000).length:=by simp; omega
 rw [List.drop_eq_getElem_cons hl,hashL] at hr
 rw [List.getD_eq_getElem?_getD,List.getElem?_eq_getElem h1]
 simpa using hr
theorem stoR_set {H:List AO} {id ver row col sz:Nat} {us r r':List AV} {rs:List (List AV)} (h:rs[row]?=some r) (h2:splice r col us=some r') :
  stoR H id ver row col us (some (.rows sz ver rs))=some (H.set id (.rows sz ver (rs.set row r'))):=by simp [stoR,h,h2]
theorem len_szL:∀ l:List ExpD,l.length<=ExpD.szL l
 | []=>Nat.zero_le _
 | t :: l=>by rw [ExpD.szL,List.length_cons]; have:=len_szL l; omega
theorem len_szA:∀ l:List ArmD,l.length<=ExpD.szA l
 | []=>Nat.zero_le _
 | t :: l=>by rw [ExpD.szA,List.length_cons]; have:=len_szA l; omega
theorem lent_rowsN {n id ver m sz:Nat} {H:List AO} {ys:List (List PV)} (h1:n<=id) (h:H[id]?=some (.rows sz ver (ys.map fun y=>y.map .p))) (hm:ys.length=m) (hs:∀ y∈ys,y.length=sz):LentN n H (.gs id ver 0 m) (.p (.l ys)):=by
 rw [<- hm]; exact lent_rows h1 h hs
theorem rowsE_7 (l:List ExpD):∀ r∈(ExpD.cellsL l).map (fun x=>x.map AV.p),r.length=7:=by
 intro r hr; obtain ⟨x,hx,rfl⟩:=List.mem_map.1 hr; rw [ExpD.cellsL_eq] at hx; obtain ⟨y,-,rfl⟩:=List.mem_map.1 hx; rw [List.length_map,expV2_len]
theorem rowsA_12 (l:List ArmD):∀ r∈(ExpD.cellsA l).map (fun x=>x.map AV.p),r.length=12:=by
 intro r hr; obtain ⟨x,hx,rfl⟩:=List.mem_map.1 hr; rw [ExpD.cellsA_eq] at hx; obtain ⟨y,-,rfl⟩:=List.mem_map.1 hx; rw [List.length_map,armV2_len]
theorem rowsE_set (l:List ExpD) (j:Nat) (e:ExpD):((ExpD.cellsL l).map fun x=>x.map AV.p).set j (e.cells.map .p)=(ExpD.cellsL (l.set j e)).map fun y=>y.map AV.p:=by
 simp only [ExpD.cellsL_eq,List.map_set]
theorem cellsL_snoc (l:List ExpD) (e:ExpD):ExpD.cellsL (l++[e])=ExpD.cellsL l++[e.cells]:=by simp [ExpD.cellsL_eq]
theorem cellsA_snoc (l:List ArmD) (e:ArmD):ExpD.cellsA (l++[e])=ExpD.cellsA l++[e.cells]:=by simp [ExpD.cellsA_eq]
theorem LentC.at2 {n:Nat} {H:List AO}:∀ {l m:List AV},LentC n H l m->∀ (j:Nat) a b,l[j]?=some a->m[j]?=some b->LentN n H a b
 | _,_,.cons h k,0,_,_,h1,h2=>by cases h1; cases h2; exact h
 | _,_,.cons h k,j+1,_,_,h1,h2=>k.at2 j _ _ h1 h2
theorem lent_snoc {n id ver sz m:Nat} {H:List AO} {ys:List (List PV)} {row:List AV} {y:List PV} (hn:n<=id) (h:H[id]?=some (.rows sz ver ((ys.map fun y=>y.map .p)++[row]))) (hm:ys.length+1=m) (hs:∀ x∈ys,x.length=sz) (hy:y.length=sz) (hr:LentC n H row (y.map .p)):LentN n H (.gs id ver 0 m) (.p (.l (ys++[y]))):=by
 subst hm
 refine .gs id ver 0 (ys.length+1) sz _ (ys++[y]) hn h (by simp) (by simp) (by intro x hx; rcases List.mem_append.1 hx with hx | hx; exact hs x hx; rw [List.mem_singleton.1 hx]; exact hy) ?_
 intro i r x j c q hi hx hc hq
 rw [Nat.zero_add] at hi
 by_cases hl:i<ys.length
 ·rw [List.getElem?_append_left (by simpa using hl),List.getElem?_map] at hi
  rw [List.getElem?_append_left hl] at hx
  rw [hx] at hi
  cases hi
  rw [List.getElem?_map,hq] at hc
  cases hc
  exact .p _
 ·have hl2:=(List.getElem?_eq_some_iff.1 hx).1
  rw [List.length_append] at hl2
  have hi2:i=ys.length:=by simp at hl2; omega
  subst hi2
  rw [List.getElem?_append_right (Nat.le_refl _),Nat.sub_self] at hx
  cases hx
  rw [List.getElem?_append_right (by simp),List.length_map,Nat.sub_self] at hi
  cases hi
  exact hr.at2 j _ _ hc (by rw [List.getElem?_map,hq]; rfl)
theorem cellsL_7 (l:List ExpD):∀ y∈ExpD.cellsL l,y.length=7:=by
 intro y hy; rw [ExpD.cellsL_eq] at hy; obtain ⟨x,-,rfl⟩:=List.mem_map.1 hy; exact expV2_len x
theorem cellsA_12 (l:List ArmD):∀ y∈ExpD.cellsA l,y.length=12:=by
 intro y hy; rw [ExpD.cellsA_eq] at hy; obtain ⟨x,-,rfl⟩:=List.mem_map.1 hy; exact armV2_len x
section
variable {b:List Int} (hb:b.length<=1048576)
include hb
theorem drNew (H:List AO):ACall Tryz.prog 20 [.p (.l (byts b))] H (fun r H'=>r=.ptr H.length 0/\H'=H++[cvC b (cur0 b)]):=by
 refine call20 (by simp) ?_
 have e1:wr .i64 (80080+(b.length:Int))=80080+b.length:=wr64 (by omega) (by omega)
 simp only [go_sem,simprocAttr,mc20,mr20,byts_len,e1]
 intro _
 refine ⟨Nat × Int,[0,2,3,4],fun x st=>(x.1<=b.length/\x.1<=4000/\hashL x.2 ((b.take 4000).drop x.1)=(cur0 b).h) /\
  st=⟨[(0,.p (.l (byts b))),(2,.p .np),(3,iV x.2),(4,iV x.1)],[],H⟩,fun x=>b.length - x.1,⟨(0,80080+(b.length:Int)),?_⟩,?_⟩
 ·simp only [go_sem,simprocAttr]
  exact ⟨by omega,rfl⟩
 ·rintro ⟨i,h⟩ _ ⟨⟨h1,h2,h3⟩,rfl⟩
  simp only at h1 h2 h3 ⊢
  by_cases d1:i<b.length
  ·by_cases d2:i<4000
   ·have hg:(byts b)[i]?=some [.i .u8 (b.getD i 0)]:=by
     unfold byts
     rw [List.getElem?_map,List.getElem?_eq_getElem d1,List.getD_eq_getElem?_getD,List.getElem?_eq_getElem d1]; rfl
    have ei:wr .i64 ((i:Int)+1)=((i+1:Nat):Int):=wrN _ (by omega)
    have b1:decide ((i:Int)<(b.length:Int))=true:=by simp; omega
    have b2:decide ((i:Int)<4000)=true:=by simp; omega
    have h4:=hashL_step h3 d1 d2
    generalize b.getD i 0=z at hg h4
    simp only [go_sem,simprocAttr,byts_len,b1,b2,hg,ei]
    intro _
    exact ⟨(i+1,_),⟨⟨by omega,by omega,h4⟩,rfl⟩,by simp only; omega⟩
   ·have b1:decide ((i:Int)<(b.length:Int))=true:=by simp; omega
    have b2:decide ((i:Int)<4000)=false:=by simp; omega
    rw [show i=4000 by omega,List.drop_of_length_le (by simp <;> omega),hashL] at h3
    simp only [go_sem,simprocAttr,byts_len,b1,b2]
    intro _
    rw [h3]; rfl
  ·have b1:decide ((i:Int)<(b.length:Int))=false:=by simp; omega
   rw [List.drop_of_length_le (by simp; omega),hashL] at h3
   simp only [go_sem,simprocAttr,byts_len,b1]
   intro _
   rw [h3]; rfl
theorem bendC : ∀ (f : Nat) (e : ExpD), e.sz < f → e.sz ≤ 200000 → CF b 23 [expV2 e] (bendF b f e) expV2
  | f + 1, .mk k n u t q ks as', hf, hz => by
    have hks : ks.length ≤ 200000 := by rw [ExpD.sz] at hz; have := len_szL ks; omega
    have has : as'.length ≤ 200000 := by rw [ExpD.sz] at hz; have := len_szA as'; omega
    have e1 : (ExpD.cellsL ks).length = ks.length := by rw [ExpD.cellsL_eq, List.length_map]
    have e2 : (ExpD.cellsA as').length = as'.length := by rw [ExpD.cellsA_eq, List.length_map]
    have hl : ((ExpD.cellsL ks).map fun x => x.map AV.p).length = ks.length := by rw [List.length_map, e1]
    have hl2 : ((ExpD.cellsA as').map fun x => x.map AV.p).length = as'.length := by rw [List.length_map, e2]
    refine cf_of fun H p c hp => ?_
    refine call23 (by simp) ?_
    rw [bendF]
    simp only [go_sem, simprocAttr, mc23, mr23, ExpD.cells, e1]
    by_cases h0 : ks.length = 0
    case' pos => 
      rw [if_pos h0]
      have d0 : decide (0 < (ks.length : Int)) = false := decide_eq_false (by omega)
      simp only [go_sem, simprocAttr, d0]
      intro _
      refine acall_pure (drBelow hb 7 H _ p _ hp) ?_
      unfold bend7 bendK
      generalize hR : belowD b 7 c = R
    case' neg =>
      rw [if_neg h0]
      have d0 : decide (0 < (ks.length : Int)) = true := decide_eq_true (by omega)
      simp only [go_sem, simprocAttr, d0]
      intro _
      refine acall_pure (drOnce hb 3 H _ p _ hp) ?_
      rcases ho : onceD b 3 c with ⟨o, c1⟩
      cases o
      case' true =>
        simp only [if_true]
        simp only [go_sem, simprocAttr]
        refine acall_pure (drBelow hb 7 H _ p _ hp) ?_
        unfold bend7 bendK
        generalize hR : belowD b 7 c1 = R
      case' false =>
        simp only [Bool.false_eq_true, if_false]
        simp only [go_sem, simprocAttr, e1]
        intro _
        refine acall_pure (drBelow hb ks.length H _ p _ hp) ?_
        have hj := belowD_lt (b := b) (n := ks.length) (by omega) c1
        rcases hq : belowD b ks.length c1 with ⟨j0, c2⟩
        rw [hq] at hj
        simp only at hj
        obtain ⟨j, rfl⟩ : ∃ j : Nat, j0 = j := ⟨j0.toNat, by omega⟩
        rw [Int.toNat_natCast]
        simp only [go_sem, simprocAttr]
        have hm := getD_mem (d := exp0) (show j < ks.length by omega)
        have hg : ((ExpD.cellsL ks).map fun x => x.map AV.p)[j]? = some ((ks.getD j exp0).cells.map .p) := by
          rw [ExpD.cellsL_eq, List.getElem?_map, List.getElem?_map, List.getElem?_eq_getElem (by omega), List.getD_eq_getElem?_getD, List.getElem?_eq_getElem (by omega)]; rfl
        have hz2 := szL_mem hm
        rw [ExpD.sz] at hf hz
        have hrec := bendC f (ks.getD j exp0) (by omega) (by omega)
        generalize ks.getD j exp0 = kd at hg hrec
        rw [hl, hg]
        refine ⟨rowsE_7 ks, by omega, by omega, by omega, ?_⟩
        obtain ⟨k', n', u', t', q', ks', as2⟩ := kd
        simp only [go_sem, simprocAttr, ExpD.cells]
        refine acall_pure (hrec H _ p _ hp) ?_
        rcases hq2 : bendF b f (.mk k' n' u' t' q' ks' as2) c2 with ⟨⟨k3, n3, u3, t3, q3, ks3, as3⟩, c3⟩
        have hj2 : decide ((j : Int) < ks.length) = true := decide_eq_true (by omega)
        simp only [go_sem, simprocAttr, ExpD.cells, hl]
        refine ⟨by omega, ?_⟩
        rw [stoR_set hg rfl]
        simp only [go_sem, simprocAttr]
        exact ⟨_, rfl, lent_expA (lent_rowsN (by omega) (by rw [qxk]; exact congrArg some (congrArg _ (rowsE_set ks j (.mk k3 n3 u3 t3 q3 ks3 as3)))) (by rw [ExpD.cellsL_eq, List.length_map, List.length_set]) (cellsL_7 _)) (.p _)⟩
    all_goals obtain ⟨r, c2⟩ := R
    all_goals simp only []
    all_goals simp only [go_sem, simprocAttr]
    all_goals by_cases r0 : r = 0
    all_goals first
      | (rw [if_pos r0]
         simp only [go_sem, simprocAttr, dT r0]
         refine acall_pure (drBelow hb 17 H _ p _ hp) ?_
         simp only [go_sem, simprocAttr]
         exact ⟨_, rfl, lent_expA (.p _) (.p _)⟩)
      | rw [if_neg r0]
    all_goals simp only [go_sem, simprocAttr, dF r0]
    all_goals by_cases r1 : r = 1
    all_goals first
      | (rw [if_pos r1]
         simp only [go_sem, simprocAttr, dT r1]
         refine acall_pure (drInt hb (L := [-1, 1, 2]) (by simp) (k := 2) hp (by rfl)) ?_
         simp only [go_sem, simprocAttr]
         exact ⟨_, rfl, lent_expA (.p _) (.p _)⟩)
      | rw [if_neg r1]
    all_goals simp only [go_sem, simprocAttr, dF r1]
    all_goals by_cases r2 : r = 2
    all_goals first
      | (rw [if_pos r2]
         simp only [go_sem, simprocAttr, dT r2]
         refine acall_pure (drStr hb (L := [[], [108, 101, 116], [88], [120], [114, 101, 97, 100], [112, 114, 105, 110, 116], [43], [97, 98, 99, 100, 101, 102, 103, 104, 105, 106, 107, 108, 109]]) (by simp) (k := 2) hp (by rfl)) ?_
         simp only [go_sem, simprocAttr]
         exact ⟨_, rfl, lent_expA (.p _) (.p _)⟩)
      | rw [if_neg r2]
    all_goals simp only [go_sem, simprocAttr, dF r2]
    all_goals by_cases r3 : r = 3
    all_goals first
      | (rw [if_pos r3]
         simp only [go_sem, simprocAttr, dT r3]
         refine acall_pure (drStr hb (L := [[], [120], [9], [108, 101, 116]]) (by simp) (k := 2) hp (by rfl)) ?_
         simp only [go_sem, simprocAttr]
         exact ⟨_, rfl, lent_expA (.p _) (.p _)⟩)
      | rw [if_neg r3]
    all_goals simp only [go_sem, simprocAttr, dF r3]
    all_goals by_cases r4 : r = 4
    all_goals first
      | (rw [if_pos r4]
         simp only [go_sem, simprocAttr, dT r4]
         exact ⟨_, rfl, lent_expA (.p _) (.p _)⟩)
      | rw [if_neg r4]
    all_goals simp only [go_sem, simprocAttr, dF r4]
    all_goals by_cases r5 : r = 5
    all_goals first
      | rw [if_neg r5]
      | (rw [if_pos r5]
         simp only [go_sem, simprocAttr, dT r5]
         rw [List.take_of_length_le (Nat.le_refl _), hl]
         refine ⟨rowsE_7 ks, by omega, by omega, by intro r hr; simp at hr; subst hr; rfl, Nat.le_refl _, by omega, by omega, _, rfl, lent_expA (by rw [cellsL_snoc]; exact lent_snoc (by omega) (by rw [qxk]; rfl) (by rw [e1]) (cellsL_7 ks) rfl (.pc (.pc (.pc (.pc (.pc (.cons lent_l0 (.cons lent_a0 .nil)))))))) (.p _)⟩)
    all_goals simp only [go_sem, simprocAttr, dF r5]
    all_goals by_cases r6 : r = 6
    all_goals first
      | rw [if_neg r6]
      | (rw [if_pos r6]
         simp only [go_sem, simprocAttr, dT r6]
         rw [hl2]
         refine ⟨rowsA_12 as', by omega, by omega, ?_⟩
         refine acall_pure (drBelow hb 9 H _ p _ hp) ?_
         simp only [go_sem, simprocAttr]
         refine acall_pure (drBelow hb 2 H _ p _ hp) ?_
         simp only [go_sem, simprocAttr]
         rw [List.take_of_length_le (Nat.le_of_eq hl2)]
         refine ⟨by intro r hr; simp at hr; subst hr; rfl, Nat.le_of_eq hl2.symm, by omega, by omega, _, rfl, lent_expA (.p _) (by rw [cellsA_snoc]; exact lent_snoc (by omega) (by rw [qxk]; rfl) (by rw [e2]) (cellsA_12 as') rfl (.pc (.pc (.pc (.pc (.cons (by rw [PatD.cellsL]; exact .nl) (.pc (.pc (.pc (.pc (.pc (.cons lent_l0 (.cons lent_a0 .nil)))))))))))))⟩)
    all_goals simp only [go_sem, simprocAttr, dF r6]
    all_goals exact ⟨_, rfl, lent_expA (.p _) (.p _)⟩
end
abbrev patV (t:PatD):AV:=.st (t.cells.map .p)
abbrev expV (t:ExpD):AV:=.st (t.cells.map .p)
theorem patE5 (t:PatD):t.cells.length=5:=by cases t; rfl
theorem expE7 (t:ExpD):t.cells.length=7:=by cases t; rfl
theorem lent_pat {n:Nat} {H:List AO} {k u q:Int} {nm:List UInt8} {a:AV} {l:List PatD} (h:LentN n H a (.p (.l (PatD.cellsL l)))):LentN n H (.st [iV k,sV nm,iV u,iV q,a]) (patV (.mk k nm u q l)) :=
 LentC.st (.pc (.pc (.pc (.pc (.cons h .nil)))))
theorem lent_exp {n:Nat} {H:List AO} {k u q:Int} {nm tx:List UInt8} {a b:AV} {l:List ExpD} {m:List ArmD} (h:LentN n H a (.p (.l (ExpD.cellsL l)))) (h2:LentN n H b (.p (.l (ExpD.cellsA m)))):LentN n H (.st [iV k,sV nm,iV u,sV tx,iV q,a,b]) (expV (.mk k nm u tx q l m)) :=
 LentC.st (.pc (.pc (.pc (.pc (.pc (.cons h (.cons h2 .nil)))))))
section
variable {T:List Tok} {lim e:Nat} (hT:ToksOk T) (hTl:T.length<=1073741825)
include hT hTl
theorem sPatSt:PF (pvS T lim) T e 188 [] (testM (patSt T)) bV:=by
 refine pf_of (pvS_tf T lim) fun H p s hp hs=>?_
 refine call188 (by simp) ?_
 simp only [go_sem,simprocAttr,mc188,mr188]
 refine acall_pure (sNow.nil hp hs) ?_
 unfold patSt
 simp only [go_sem,simprocAttr,qp0 hp,pvS,Tok.cells]
 cases h0:decide (s.c=0)
 ·have hc:=of_decide_eq_false h0
  simp only [isK_c hc,isT_c hc,Bool.or_self]
  simp only [go_sem,simprocAttr,h0]
  exact ⟨[],by simp [pvS],lentP (tf_p _)⟩
 have hc:=of_decide_eq_true h0
 cases k3:decide ((tokA T s).k=3)
 rotate_left
 ·have e3:isK T 3 s=true:=by unfold isK; rw [h0,k3]; rfl
  simp only [e3,Bool.or_true,Bool.true_or,Bool.false_or]
  simp only [go_sem,simprocAttr,h0,k3]
  exact ⟨[],by simp [pvS],lentP (tf_p _)⟩
 have e3:isK T 3 s=false:=by unfold isK; rw [h0,k3]; rfl
 cases k1:decide ((tokA T s).k=1)
 rotate_left
 ·have e1:isK T 1 s=true:=by unfold isK; rw [h0,k1]; rfl
  simp only [e1,e3,Bool.or_true,Bool.true_or,Bool.false_or]
  simp only [go_sem,simprocAttr,h0,k3,k1]
  exact ⟨[],by simp [pvS],lentP (tf_p _)⟩
 have e1:isK T 1 s=false:=by unfold isK; rw [h0,k1]; rfl
 cases k4:decide ((tokA T s).k=4)
 rotate_left
 ·have e4:isK T 4 s=true:=by unfold isK; rw [h0,k4]; rfl
  simp only [e4,e3,e1,Bool.or_true,Bool.true_or,Bool.false_or]
  simp only [go_sem,simprocAttr,h0,k3,k1,k4]
  exact ⟨[],by simp [pvS],lentP (tf_p _)⟩
 have e4:isK T 4 s=false:=by unfold isK; rw [h0,k4]; rfl
 simp only [e3,e1,e4,Bool.false_or]
 simp only [go_sem,simprocAttr,h0,k3,k1,k4]
 refine acall_pure ((sIs [95]).nil hp hs) ?_
 cases w0:isT T [95] s
 rotate_left
 ·simp only [go_sem,simprocAttr,w0,Bool.true_or,Bool.or_true,Bool.false_or]
  exact ⟨[],by simp [pvS],lentP (tf_p _)⟩
 simp only [go_sem,simprocAttr,w0,Bool.false_or]
 refine acall_pure ((sIs [116,114,117,101]).nil hp hs) ?_
 cases w1:isT T [116,114,117,101] s
 rotate_left
 ·simp only [go_sem,simprocAttr,w1,Bool.true_or,Bool.or_true,Bool.false_or]
  exact ⟨[],by simp [pvS],lentP (tf_p _)⟩
 simp only [go_sem,simprocAttr,w1,Bool.false_or]
 refine acall_pure ((sIs [102,97,108,115,101]).nil hp hs) ?_
 cases w2:isT T [102,97,108,115,101] s
 rotate_left
 ·simp only [go_sem,simprocAttr,w2,Bool.true_or,Bool.or_true,Bool.false_or]
  exact ⟨[],by simp [pvS],lentP (tf_p _)⟩
 simp only [go_sem,simprocAttr,w2,Bool.false_or]
 refine acall_pure ((sIs [40]).nil hp hs) ?_
 simp only [go_sem,simprocAttr,Bool.false_or]
 exact ⟨[],by simp [pvS],lentP (tf_p _)⟩
theorem sPatAC {pat:PM PatD} (hr:PF (pvS T lim) T e 169 [] pat patV) (sr:StayM T pat):PF (pvS T lim) T e 187 [] (sPatA T T.length pat) patV:=by
 refine pf_of (pvS_tf T lim) fun H p s hp hs=>?_
 refine call187 (by simp) ?_
 simp only [go_sem,simprocAttr,mc187,mr187]
 refine acall_pure (sNow H _ p s hp hs) ?_
 simp only [go_sem,simprocAttr,Tok.cells]
 refine acall_pure (sPatSt hT hTl H _ p s hp hs) ?_
 cases hg:patSt T s
 ·have eq0:sPatA T T.length pat s=(pat0,failP T 11 s):=by unfold sPatA; rw [nowP_e,iteG_f hg]; rfl
  rw [eq0]
  simp only [go_sem,simprocAttr,hg]
  refine acall_pure (sFails 11 H _ p s hp hs) ?_
  simp only [go_sem,simprocAttr]
  exact ⟨_,rfl,lent_pat (by rw [PatD.cellsL]; exact .nl)⟩
 have eq0:sPatA T T.length pat s=sPatIn T T.length (tokA T s) pat (adv s):=by unfold sPatA; rw [nowP_e,iteG_t hg]
 have hs1:=hs.adv hT (only_patSt s hg).2
 rw [eq0]
 generalize hx:tokA T s=x
 obtain ⟨tk,tt,tn,tp⟩:=x
 simp only [go_sem,simprocAttr,hg,qp hp,qq hp,pvS,ws hTl hs]
 have fold:AO.var [ptV T,iV (s.i+1:Nat),iV s.nest,iV s.d,iV lim,iV s.c,iV s.ps]=pvS T lim (adv s):=rfl
 rw [fold]
 by_cases h0:tk=3
 ·have eq1:sPatIn T T.length ⟨tk,tt,tn,tp⟩ pat (adv s)=((PatD.mk 2 tt 0 tp []),adv s):=by unfold sPatIn; rw [if_pos h0]; rfl
  rw [eq1]
  simp only [go_sem,simprocAttr,dT h0]
  exact ⟨_,rfl,lent_pat (by rw [PatD.cellsL]; exact .nl)⟩
 by_cases h1:tk=4
 ·have eq1:sPatIn T T.length ⟨tk,tt,tn,tp⟩ pat (adv s)=((PatD.mk 7 tt 0 tp []),adv s):=by unfold sPatIn; rw [if_neg h0,if_pos h1]; rfl
  rw [eq1]
  simp only [go_sem,simprocAttr,dF h0,dT h1]
  exact ⟨_,rfl,lent_pat (by rw [PatD.cellsL]; exact .nl)⟩
 by_cases h2:tk=1
 ·have eq1:sPatIn T T.length ⟨tk,tt,tn,tp⟩ pat (adv s)=((PatD.mk 3 [] tn tp []),adv s):=by unfold sPatIn; rw [if_neg h0,if_neg h1,if_pos h2]; rfl
  rw [eq1]
  simp only [go_sem,simprocAttr,dF h0,dF h1,dT h2]
  exact ⟨_,rfl,lent_pat (by rw [PatD.cellsL]; exact .nl)⟩
 by_cases h3:tt=[95]
 ·have eq1:sPatIn T T.length ⟨tk,tt,tn,tp⟩ pat (adv s)=((PatD.mk 1 [] 0 tp []),adv s):=by unfold sPatIn; rw [if_neg h0,if_neg h1,if_neg h2,if_pos h3]; rfl
  rw [eq1]
  simp only [go_sem,simprocAttr,dF h0,dF h1,dF h2,dT h3]
  exact ⟨_,rfl,lent_pat (by rw [PatD.cellsL]; exact .nl)⟩
 by_cases h4:tt=[116,114,117,101]
 ·have eq1:sPatIn T T.length ⟨tk,tt,tn,tp⟩ pat (adv s)=((PatD.mk 4 [] 1 tp []),adv s):=by unfold sPatIn; rw [if_neg h0,if_neg h1,if_neg h2,if_neg h3,if_pos h4]; rfl
  rw [eq1]
  simp only [go_sem,simprocAttr,dF h0,dF h1,dF h2,dF h3,dT h4]
  exact ⟨_,rfl,lent_pat (by rw [PatD.cellsL]; exact .nl)⟩
 by_cases h5:tt=[102,97,108,115,101]
 ·have eq1:sPatIn T T.length ⟨tk,tt,tn,tp⟩ pat (adv s)=((PatD.mk 4 [] 0 tp []),adv s):=by unfold sPatIn; rw [if_neg h0,if_neg h1,if_neg h2,if_neg h3,if_neg h4,if_pos h5]; rfl
  rw [eq1]
  simp only [go_sem,simprocAttr,dF h0,dF h1,dF h2,dF h3,dF h4,dT h5]
  exact ⟨_,rfl,lent_pat (by rw [PatD.cellsL]; exact .nl)⟩
 simp only [go_sem,simprocAttr,dF h0,dF h1,dF h2,dF h3,dF h4,dF h5]
 refine acall_pure (sHas hTl [41] H _ p (adv s) hp hs1) ?_
 unfold takeM
 cases hc:isT T [41] (adv s)
 rotate_left
 ·have eq1:sPatIn T T.length ⟨tk,tt,tn,tp⟩ pat (adv s)=((PatD.mk 5 [] 0 tp []),adv (adv s)):=by unfold sPatIn; rw [if_neg h0,if_neg h1,if_neg h2,if_neg h3,if_neg h4,if_neg h5,iteG_t hc]; rfl
  rw [eq1]
  simp only [go_sem,simprocAttr,hc]
  exact ⟨_,rfl,lent_pat (by rw [PatD.cellsL]; exact .nl)⟩
 simp only [go_sem,simprocAttr,hc]
 refine acall_pure (hr H _ p (adv s) hp hs1) ?_
 have hs2:=hs1.run sr
 rcases hq:pat (adv s) with ⟨⟨k,n,u,q,ks⟩,s2⟩
 rw [hq] at hs2
 rcases hR:many (isT T [44]) (advP pat) T.length s2 with ⟨Rl,Rs⟩
 have eq1:sPatIn T T.length ⟨tk,tt,tn,tp⟩ pat (adv s)=(if Rl=[] then .mk k n u q ks else (PatD.mk 6 [] 0 tp ((.mk k n u q ks) :: Rl)),wantP T [41] Rs):=by unfold sPatIn; rw [if_neg h0,if_neg h1,if_neg h2,if_neg h3,if_neg h4,if_neg h5,iteG_f hc,bindP_e,hq,bindP_e,hR]; rfl
 rw [eq1]
 clear eq1 eq0
 simp only [go_sem,simprocAttr,PatD.cells,Nat.add_zero]
 refine ⟨Nat × PS × List PatD × AV × List AO,[0,2,4,5],fun x st=>(Lp (pvS T lim) T e H p [0,2] 5 PatD.cells (isT T [44]) (advP pat) ((.mk k n u q ks) :: Rl) Rs x.1 x.2.1 x.2.2.1 x.2.2.2.1 x.2.2.2.2/\x.2.2.2.2[0]?=some (.var [iV 0,sV [],iV 0,iV 0,.p .nl])/\x.2.2.2.2[2]?=some (.var [iV 0,sV [],iV 0,iV tp,.p .nl])) /\
   st=⟨[(0,.ptr p 0),(2,.ptr H.length 0),(4,.ptr (H.length+2) 0),(5,x.2.2.2.1)],[],H.set p (pvS T lim x.2.1)++x.2.2.2.2⟩,fun x=>T.length - x.2.1.i,⟨(T.length,s2,[.mk k n u q ks],.gs (H.length+3) 0 0 1,[.var [iV 0,sV [],iV 0,iV 0,.p .nl],.var [iV tk,sV tt,iV tn,iV tp],.var [iV 0,sV [],iV 0,iV tp,.p .nl],.rows 5 0 [[iV k,sV n,iV u,iV q,.p (.l (PatD.cellsL ks))]]]),?_⟩,?_⟩
 ·simp only [go_sem,simprocAttr]
  exact Lp.start1 hs2 hR (by simp) rfl (by decide)
 ·rintro ⟨j,s',acc,a,A⟩ _ ⟨⟨hL,i8,i9⟩,rfl⟩
  simp only at hL i8 i9 ⊢
  simp only [go_sem,simprocAttr]
  refine acall_pure (sHas hTl [44] H _ p s' hp hL.ok) ?_
  unfold takeM
  cases hg:isT T [44] s'
  ·obtain ⟨rfl,rfl⟩:=hL.stop hg
   have hz:∀ o,(A.set 0 o)[0]?=some o:=fun o=>set_get i8
   have hz2:∀ o,(A.set 2 o)[2]?=some o:=fun o=>set_get i9
   simp only [go_sem,simprocAttr,hg]
   refine acall_pure (sWant hTl [41] H _ p s' hp hL.ok) ?_
   simp only [go_sem,simprocAttr]
   obtain ⟨id,ver,rfl,hid⟩:∃ id ver,a=.gs id ver 0 (Rl.length+1)/\(H.set p (pvS T lim (wantP T [41] s'))++A)[id]?=some (.rows 5 ver ((((.mk k n u q ks) :: Rl:List PatD)).map fun t=>(PatD.cells t).map .p)):=by
    rcases hL.own with ⟨_,h⟩ | ⟨id,ver,rfl,h⟩
    ·simp at h
    ·exact ⟨id,ver,by simp,by rw [q_ge (hL.ids _ _ _ _ rfl).1] at h ⊢; exact h⟩
   by_cases hRl:Rl=[]
   ·subst hRl
    rw [if_pos rfl]
    simp only [go_sem,simprocAttr,hid,i8,hz,PatD.cells]
    intro _
    exact ⟨_,rfl,lentP (tf_av (PatD.cells (.mk k n u q ks)))⟩
   ·have d1:decide (((Rl.length+1:Nat):Int)=1)=false:=by
     have:=List.length_pos_iff.2 hRl
     simp; omega
    rw [if_neg hRl]
    have h02:∀ o,(A.set 2 o)[0]?=some _:=fun o=>get_set i8 (by decide)
    have hz02:∀ o o',((A.set 2 o).set 0 o')[0]?=some o':=fun o o'=>set_get (h02 o)
    simp only [go_sem,simprocAttr,d1,i9,i8,hz2,h02,hz02,List.set_set]
    intro _
    exact ⟨_,rfl,lent_pat (by rw [PatD.cellsL_eq]; exact hL.lent (fun k o hk h=>get_set (get_set h (by rintro rfl; exact hk (by decide))) (by rintro rfl; exact hk (by decide))) patE5)⟩
  ·obtain ⟨j,rfl⟩:=hL.succ (only_isT T _) hg
   have hsa:=hL.ok.adv hT (isT_k hg).2
   have hs3:=hsa.run sr
   have hgt:=(Stay.adv hT sr hL.ok.1 (isT_k hg).2).1
   simp only [go_sem,simprocAttr,hg]
   refine acall_pure (hr H _ p (adv s') hp hsa) ?_
   rcases hq3:pat (adv s') with ⟨⟨k,n,u,q,ks⟩,s3⟩
   rw [hq3] at hs3 hgt
   simp only [go_sem,simprocAttr,PatD.cells,qxa]
   refine ⟨by intro r hr; simp at hr; subst hr; rfl,?_⟩
   refine hL.app (fun k o h=>get_ext h _) hTl (by decide) ?_
   intro id ver A' k1 k2 k3
   have j0:=(k3 0 (by decide)).trans i8
   have j2:=(k3 2 (by decide)).trans i9
   have hlt2:=get_lt j2
   simp only [go_sem,simprocAttr]
   exact ⟨(j,s3,acc++[.mk k n u q ks],.gs id ver 0 (acc.length+1),A'),⟨⟨hL.next (only_isT T _) hg hq3 hs3 hgt k1 k2 (fun _ _ _ h=>h) (by simp; omega),j0,j2⟩,rfl⟩,by have h1:s'.i<s3.i:=hgt; have:=hL.ok.1; simp only; omega⟩
end
section
variable {T:List Tok} {lim e:Nat} (hT:ToksOk T) (hTl:T.length<=1073741825)
include hT hTl
theorem sPatC (hl:lim<=1099511627776) (he:e<=lim) {pat:PM PatD} (hr:e<lim->PF (pvS T lim) T (e+1) 169 [] pat patV) (sr:StayM T pat):PF (pvS T lim) T e 169 [] (sPatB T T.length lim pat) patV:=by
 have sA:=stay_sPatA (N:=T.length) hT sr
 refine pf_of (pvS_tf T lim) fun H p s hp hs=>?_
 obtain ⟨o1,o2,o3⟩:=opens_ok (lim:=lim) hT hTl hs
 have hi:=hs.1
 have hn:=hs.2
 refine call169 (by simp) ?_
 simp only [go_sem,simprocAttr,mc169,mr169]
 refine acall_pure (sOpens hl he H _ p s hp hs) ?_
 unfold sPatB opnP
 cases hc:decide ((opensP T lim s).c=0)
 ·rw [if_neg (of_decide_eq_false hc)]
  simp only [go_sem,simprocAttr,hc]
  refine acall_pure (sShut hl H _ p (opensP T lim s) hp (by omega) (by omega) (by omega)) ?_
  simp only [go_sem,simprocAttr]
  exact ⟨_,rfl,lent_pat (by rw [PatD.cellsL]; exact .nl)⟩
 ·obtain ⟨hs1,hne⟩:=o3 (of_decide_eq_true hc)
  have hr:=hr (by omega)
  have hA:=sPatAC hT hTl hr sr
  rw [if_pos (of_decide_eq_true hc)]
  simp only [go_sem,simprocAttr,hc]
  refine acall_pure (sNow H _ p _ hp hs1) ?_
  rw [nowP_e,bindP_e]
  simp only [go_sem,simprocAttr,Tok.cells]
  generalize hx:tokA T (opensP T lim s)=x
  obtain ⟨tk,tt,tn,tp⟩:=x
  simp only
  refine acall_pure (hA H _ p _ hp hs1) ?_
  have hs2:=hs1.run sA
  have st2:=sA _ hs1.1
  rcases hq:sPatA T T.length pat (opensP T lim s) with ⟨⟨k,n,u,q,ks⟩,s2⟩
  rw [hq] at hs2 st2
  have hn2:s2.nest=s.nest+1:=st2.2.2.2.trans o2
  simp only [go_sem,simprocAttr,PatD.cells]
  by_cases h4:tk=4
  ·rw [if_pos h4]
   simp only [go_sem,simprocAttr,dT h4]
   refine acall_pure (sPatSt hT hTl H _ p s2 hp hs2) ?_
   cases hg:patSt T s2
   ·rw [iteB_f hg]
    simp only [go_sem,simprocAttr,hg]
    refine acall_pure (sShut hl H _ p s2 hp hs2.1 (by omega) (by omega)) ?_
    simp only [go_sem,simprocAttr]
    exact ⟨_,rfl,lentP (tf_av (PatD.cells (.mk k n u q ks)))⟩
   ·rw [iteB_t hg,bindP_e]
    simp only [go_sem,simprocAttr,hg]
    refine acall_pure (hA H _ p s2 hp hs2) ?_
    have hs3:=hs2.run sA
    have st3:=sA _ hs2.1
    rcases hq2:sPatA T T.length pat s2 with ⟨⟨k',n',u',q',ks'⟩,s3⟩
    rw [hq2] at hs3 st3
    have hn3:s3.nest=s.nest+1:=st3.2.2.2.trans hn2
    simp only [go_sem,simprocAttr,PatD.cells]
    refine acall_pure (sShut hl H _ p s3 hp hs3.1 (by omega) (by omega)) ?_
    simp only [go_sem,simprocAttr,Nat.add_zero]
    exact ⟨_,rfl,lent_pat (lent_rows (n:=H.length) (ys:=[PatD.cells (.mk k' n' u' q' ks')]) (by omega) (by rw [qxk]; rfl) (by intro y hy; simp at hy; subst hy; rfl))⟩
  ·rw [if_neg h4]
   simp only [go_sem,simprocAttr,dF h4]
   refine acall_pure (sShut hl H _ p s2 hp hs2.1 (by omega) (by omega)) ?_
   simp only [go_sem,simprocAttr]
   exact ⟨_,rfl,lentP (tf_av (PatD.cells (.mk k n u q ks)))⟩
theorem sPatK (hl:lim<=1099511627776):∀ k e,e+k=lim+1->0<k->PF (pvS T lim) T e 169 [] (sPat T T.length lim k) patV
 | 0,e,_,h=>absurd h (by omega)
 | k+1,e,h,_=>sPatC hT hTl hl (by omega) (fun hlt=>sPatK hl k (e+1) (by omega) (by omega)) (stay_sPat hT lim k)
theorem sAtSt:PF (pvS T lim) T e 190 [] (testM (atNx T)) bV:=by
 refine pf_of (pvS_tf T lim) fun H p s hp hs=>?_
 refine call190 (by simp) ?_
 simp only [go_sem,simprocAttr,mc190,mr190]
 refine acall_pure (sNow.nil hp hs) ?_
 unfold atNx
 simp only [go_sem,simprocAttr,qp0 hp,pvS,Tok.cells]
 cases h0:decide (s.c=0)
 ·have hc:=of_decide_eq_false h0
  simp only [isK_c hc,isT_c hc,Bool.or_self]
  simp only [go_sem,simprocAttr,h0]
  exact ⟨[],by simp [pvS],lentP (tf_p _)⟩
 have hc:=of_decide_eq_true h0
 cases k1:decide ((tokA T s).k=1)
 rotate_left
 ·have e1:isK T 1 s=true:=by unfold isK; rw [h0,k1]; rfl
  simp only [e1,Bool.or_true,Bool.true_or,Bool.false_or]
  simp only [go_sem,simprocAttr,h0,k1]
  exact ⟨[],by simp [pvS],lentP (tf_p _)⟩
 have e1:isK T 1 s=false:=by unfold isK; rw [h0,k1]; rfl
 cases k2:decide ((tokA T s).k=2)
 rotate_left
 ·have e2:isK T 2 s=true:=by unfold isK; rw [h0,k2]; rfl
  simp only [e2,e1,Bool.or_true,Bool.true_or,Bool.false_or]
  simp only [go_sem,simprocAttr,h0,k1,k2]
  exact ⟨[],by simp [pvS],lentP (tf_p _)⟩
 have e2:isK T 2 s=false:=by unfold isK; rw [h0,k2]; rfl
 cases k3:decide ((tokA T s).k=3)
 rotate_left
 ·have e3:isK T 3 s=true:=by unfold isK; rw [h0,k3]; rfl
  simp only [e3,e1,e2,Bool.or_true,Bool.true_or,Bool.false_or]
  simp only [go_sem,simprocAttr,h0,k1,k2,k3]
  exact ⟨[],by simp [pvS],lentP (tf_p _)⟩
 have e3:isK T 3 s=false:=by unfold isK; rw [h0,k3]; rfl
 cases k4:decide ((tokA T s).k=4)
 rotate_left
 ·have e4:isK T 4 s=true:=by unfold isK; rw [h0,k4]; rfl
  simp only [e4,e1,e2,e3,Bool.or_true,Bool.true_or,Bool.false_or]
  simp only [go_sem,simprocAttr,h0,k1,k2,k3,k4]
  exact ⟨[],by simp [pvS],lentP (tf_p _)⟩
 have e4:isK T 4 s=false:=by unfold isK; rw [h0,k4]; rfl
 simp only [e1,e2,e3,e4,Bool.false_or]
 simp only [go_sem,simprocAttr,h0,k1,k2,k3,k4]
 refine acall_pure ((sIs [116,114,117,101]).nil hp hs) ?_
 cases w0:isT T [116,114,117,101] s
 rotate_left
 ·simp only [go_sem,simprocAttr,w0,Bool.true_or,Bool.or_true,Bool.false_or]
  exact ⟨[],by simp [pvS],lentP (tf_p _)⟩
 simp only [go_sem,simprocAttr,w0,Bool.false_or]
 refine acall_pure ((sIs [102,97,108,115,101]).nil hp hs) ?_
 cases w1:isT T [102,97,108,115,101] s
 rotate_left
 ·simp only [go_sem,simprocAttr,w1,Bool.true_or,Bool.or_true,Bool.false_or]
  exact ⟨[],by simp [pvS],lentP (tf_p _)⟩
 simp only [go_sem,simprocAttr,w1,Bool.false_or]
 refine acall_pure ((sIs [114,101,97,100]).nil hp hs) ?_
 cases w2:isT T [114,101,97,100] s
 rotate_left
 ·simp only [go_sem,simprocAttr,w2,Bool.true_or,Bool.or_true,Bool.false_or]
  exact ⟨[],by simp [pvS],lentP (tf_p _)⟩
 simp only [go_sem,simprocAttr,w2,Bool.false_or]
 refine acall_pure ((sIs [40]).nil hp hs) ?_
 simp only [go_sem,simprocAttr,Bool.false_or]
 exact ⟨[],by simp [pvS],lentP (tf_p _)⟩
theorem sAtomC {ex:PM ExpD} (hr:PF (pvS T lim) T e 34 [] ex expV) (sr:StayM T ex):PF (pvS T lim) T e 191 [] (sAtom T T.length ex) expV:=by
 refine pf_of (pvS_tf T lim) fun H p s hp hs=>?_
 refine call191 (by simp) ?_
 simp only [go_sem,simprocAttr,mc191,mr191]
 refine acall_pure (sNow H _ p s hp hs) ?_
 simp only [go_sem,simprocAttr,Tok.cells]
 refine acall_pure (sAtSt hT hTl H _ p s hp hs) ?_
 cases hg:atNx T s
 ·have eq0:sAtom T T.length ex s=(exp0,failP T 11 s):=by unfold sAtom; rw [nowP_e,iteG_f hg]; rfl
  rw [eq0]
  simp only [go_sem,simprocAttr,hg]
  refine acall_pure (sFails 11 H _ p s hp hs) ?_
  simp only [go_sem,simprocAttr]
  exact ⟨_,rfl,lent_exp (by rw [ExpD.cellsL]; exact .nl) (by rw [ExpD.cellsA]; exact .nl)⟩
 have eq0:sAtom T T.length ex s=sAtIn T T.length (tokA T s) ex (adv s):=by unfold sAtom; rw [nowP_e,iteG_t hg]
 have hs1:=hs.adv hT (only_atNx s hg).2
 rw [eq0]
 generalize hx:tokA T s=x
 obtain ⟨tk,tt,tn,tp⟩:=x
 simp only [go_sem,simprocAttr,hg,qp hp,qq hp,pvS,ws hTl hs]
 have fold:AO.var [ptV T,iV (s.i+1:Nat),iV s.nest,iV s.d,iV lim,iV s.c,iV s.ps]=pvS T lim (adv s):=rfl
 rw [fold]
 by_cases h0:tk=1
 ·have eq1:sAtIn T T.length ⟨tk,tt,tn,tp⟩ ex (adv s)=((ExpD.mk 1 [] tn [] tp [] []),adv s):=by unfold sAtIn; rw [if_pos h0]; rfl
  rw [eq1]
  simp only [go_sem,simprocAttr,dT h0]
  exact ⟨_,rfl,lent_exp (by rw [ExpD.cellsL]; exact .nl) (by rw [ExpD.cellsA]; exact .nl)⟩
 by_cases h1:tk=2
 ·have eq1:sAtIn T T.length ⟨tk,tt,tn,tp⟩ ex (adv s)=((ExpD.mk 2 [] 0 tt tp [] []),adv s):=by unfold sAtIn; rw [if_neg h0,if_pos h1]; rfl
  rw [eq1]
  simp only [go_sem,simprocAttr,dF h0,dT h1]
  exact ⟨_,rfl,lent_exp (by rw [ExpD.cellsL]; exact .nl) (by rw [ExpD.cellsA]; exact .nl)⟩
 by_cases h2:tk=3
 ·have eq1:sAtIn T T.length ⟨tk,tt,tn,tp⟩ ex (adv s)=((ExpD.mk 5 tt 0 [] tp [] []),adv s):=by unfold sAtIn; rw [if_neg h0,if_neg h1,if_pos h2]; rfl
  rw [eq1]
  simp only [go_sem,simprocAttr,dF h0,dF h1,dT h2]
  exact ⟨_,rfl,lent_exp (by rw [ExpD.cellsL]; exact .nl) (by rw [ExpD.cellsA]; exact .nl)⟩
 by_cases h3:tk=4
 ·have eq1:sAtIn T T.length ⟨tk,tt,tn,tp⟩ ex (adv s)=((ExpD.mk 6 tt 0 [] tp [] []),adv s):=by unfold sAtIn; rw [if_neg h0,if_neg h1,if_neg h2,if_pos h3]; rfl
  rw [eq1]
  simp only [go_sem,simprocAttr,dF h0,dF h1,dF h2,dT h3]
  exact ⟨_,rfl,lent_exp (by rw [ExpD.cellsL]; exact .nl) (by rw [ExpD.cellsA]; exact .nl)⟩
 by_cases h4:tt=[114,101,97,100]
 ·have eq1:sAtIn T T.length ⟨tk,tt,tn,tp⟩ ex (adv s)=((ExpD.mk 15 tt 0 [] tp [] []),adv s):=by unfold sAtIn; rw [if_neg h0,if_neg h1,if_neg h2,if_neg h3,if_pos h4]; rfl
  rw [eq1]
  simp only [go_sem,simprocAttr,dF h0,dF h1,dF h2,dF h3,dT h4]
  exact ⟨_,rfl,lent_exp (by rw [ExpD.cellsL]; exact .nl) (by rw [ExpD.cellsA]; exact .nl)⟩
 by_cases h5:tt=[116,114,117,101]
 ·have eq1:sAtIn T T.length ⟨tk,tt,tn,tp⟩ ex (adv s)=((ExpD.mk 3 [] 1 [] tp [] []),adv s):=by unfold sAtIn; rw [if_neg h0,if_neg h1,if_neg h2,if_neg h3,if_neg h4,if_pos h5]; rfl
  rw [eq1]
  simp only [go_sem,simprocAttr,dF h0,dF h1,dF h2,dF h3,dF h4,dT h5]
  exact ⟨_,rfl,lent_exp (by rw [ExpD.cellsL]; exact .nl) (by rw [ExpD.cellsA]; exact .nl)⟩
 by_cases h6:tt=[102,97,108,115,101]
 ·have eq1:sAtIn T T.length ⟨tk,tt,tn,tp⟩ ex (adv s)=((ExpD.mk 3 [] 0 [] tp [] []),adv s):=by unfold sAtIn; rw [if_neg h0,if_neg h1,if_neg h2,if_neg h3,if_neg h4,if_neg h5,if_pos h6]; rfl
  rw [eq1]
  simp only [go_sem,simprocAttr,dF h0,dF h1,dF h2,dF h3,dF h4,dF h5,dT h6]
  exact ⟨_,rfl,lent_exp (by rw [ExpD.cellsL]; exact .nl) (by rw [ExpD.cellsA]; exact .nl)⟩
 simp only [go_sem,simprocAttr,dF h0,dF h1,dF h2,dF h3,dF h4,dF h5,dF h6]
 refine acall_pure (sHas hTl [41] H _ p (adv s) hp hs1) ?_
 unfold takeM
 cases hc:isT T [41] (adv s)
 rotate_left
 ·have eq1:sAtIn T T.length ⟨tk,tt,tn,tp⟩ ex (adv s)=((ExpD.mk 4 [] 0 [] tp [] []),adv (adv s)):=by unfold sAtIn; rw [if_neg h0,if_neg h1,if_neg h2,if_neg h3,if_neg h4,if_neg h5,if_neg h6,iteG_t hc]; rfl
  rw [eq1]
  simp only [go_sem,simprocAttr,hc]
  exact ⟨_,rfl,lent_exp (by rw [ExpD.cellsL]; exact .nl) (by rw [ExpD.cellsA]; exact .nl)⟩
 simp only [go_sem,simprocAttr,hc]
 refine acall_pure (hr H _ p (adv s) hp hs1) ?_
 have hs2:=hs1.run sr
 rcases hq:ex (adv s) with ⟨⟨k,n,u,t,q,ks,ms⟩,s2⟩
 rw [hq] at hs2
 rcases hR:many (isT T [44]) (advP ex) T.length s2 with ⟨Rl,Rs⟩
 have eq1:sAtIn T T.length ⟨tk,tt,tn,tp⟩ ex (adv s)=(if Rl=[] then .mk k n u t q ks ms else (ExpD.mk 7 [] 0 [] tp ((.mk k n u t q ks ms) :: Rl) []),wantP T [41] Rs):=by unfold sAtIn; rw [if_neg h0,if_neg h1,if_neg h2,if_neg h3,if_neg h4,if_neg h5,if_neg h6,iteG_f hc,bindP_e,hq,bindP_e,hR]; rfl
 rw [eq1]
 clear eq1 eq0
 simp only [go_sem,simprocAttr,ExpD.cells,Nat.add_zero]
 refine ⟨Nat × PS × List ExpD × AV × List AO,[0,2,4,5],fun x st=>(Lp (pvS T lim) T e H p [0,2] 7 ExpD.cells (isT T [44]) (advP ex) ((.mk k n u t q ks ms) :: Rl) Rs x.1 x.2.1 x.2.2.1 x.2.2.2.1 x.2.2.2.2/\x.2.2.2.2[0]?=some (.var [iV 0,sV [],iV 0,sV [],iV 0,.p .nl,.p .nl])/\x.2.2.2.2[2]?=some (.var [iV 0,sV [],iV 0,sV [],iV tp,.p .nl,.p .nl])) /\
   st=⟨[(0,.ptr p 0),(2,.ptr H.length 0),(4,.ptr (H.length+2) 0),(5,x.2.2.2.1)],[],H.set p (pvS T lim x.2.1)++x.2.2.2.2⟩,fun x=>T.length - x.2.1.i,⟨(T.length,s2,[.mk k n u t q ks ms],.gs (H.length+3) 0 0 1,[.var [iV 0,sV [],iV 0,sV [],iV 0,.p .nl,.p .nl],.var [iV tk,sV tt,iV tn,iV tp],.var [iV 0,sV [],iV 0,sV [],iV tp,.p .nl,.p .nl],.rows 7 0 [[iV k,sV n,iV u,sV t,iV q,.p (.l (ExpD.cellsL ks)),.p (.l (ExpD.cellsA ms))]]]),?_⟩,?_⟩
 ·simp only [go_sem,simprocAttr]
  exact Lp.start1 hs2 hR (by simp) rfl (by decide)
 ·rintro ⟨j,s',acc,a,A⟩ _ ⟨⟨hL,i8,i9⟩,rfl⟩
  simp only at hL i8 i9 ⊢
  simp only [go_sem,simprocAttr]
  refine acall_pure (sHas hTl [44] H _ p s' hp hL.ok) ?_
  unfold takeM
  cases hg:isT T [44] s'
  ·obtain ⟨rfl,rfl⟩:=hL.stop hg
   have hz:∀ o,(A.set 0 o)[0]?=some o:=fun o=>set_get i8
   have hz2:∀ o,(A.set 2 o)[2]?=some o:=fun o=>set_get i9
   simp only [go_sem,simprocAttr,hg]
   refine acall_pure (sWant hTl [41] H _ p s' hp hL.ok) ?_
   simp only [go_sem,simprocAttr]
   obtain ⟨id,ver,rfl,hid⟩:∃ id ver,a=.gs id ver 0 (Rl.length+1)/\(H.set p (pvS T lim (wantP T [41] s'))++A)[id]?=some (.rows 7 ver ((((.mk k n u t q ks ms) :: Rl:List ExpD)).map fun t=>(ExpD.cells t).map .p)):=by
    rcases hL.own with ⟨_,h⟩ | ⟨id,ver,rfl,h⟩
    ·simp at h
    ·exact ⟨id,ver,by simp,by rw [q_ge (hL.ids _ _ _ _ rfl).1] at h ⊢; exact h⟩
   by_cases hRl:Rl=[]
   ·subst hRl
    rw [if_pos rfl]
    simp only [go_sem,simprocAttr,hid,i8,hz,ExpD.cells]
    intro _
    exact ⟨_,rfl,lentP (tf_av (ExpD.cells (.mk k n u t q ks ms)))⟩
   ·have d1:decide (((Rl.length+1:Nat):Int)=1)=false:=by
     have:=List.length_pos_iff.2 hRl
     simp; omega
    rw [if_neg hRl]
    have h02:∀ o,(A.set 2 o)[0]?=some _:=fun o=>get_set i8 (by decide)
    have hz02:∀ o o',((A.set 2 o).set 0 o')[0]?=some o':=fun o o'=>set_get (h02 o)
    simp only [go_sem,simprocAttr,d1,i9,i8,hz2,h02,hz02,List.set_set]
    intro _
    exact ⟨_,rfl,lent_exp (by rw [ExpD.cellsL_eq]; exact hL.lent (fun k o hk h=>get_set (get_set h (by rintro rfl; exact hk (by decide))) (by rintro rfl; exact hk (by decide))) expE7) .nl⟩
  ·obtain ⟨j,rfl⟩:=hL.succ (only_isT T _) hg
   have hsa:=hL.ok.adv hT (isT_k hg).2
   have hs3:=hsa.run sr
   have hgt:=(Stay.adv hT sr hL.ok.1 (isT_k hg).2).1
   simp only [go_sem,simprocAttr,hg]
   refine acall_pure (hr H _ p (adv s') hp hsa) ?_
   rcases hq3:ex (adv s') with ⟨⟨k,n,u,t,q,ks,ms⟩,s3⟩
   rw [hq3] at hs3 hgt
   simp only [go_sem,simprocAttr,ExpD.cells,qxa]
   refine ⟨by intro r hr; simp at hr; subst hr; rfl,?_⟩
   refine hL.app (fun k o h=>get_ext h _) hTl (by decide) ?_
   intro id ver A' k1 k2 k3
   have j0:=(k3 0 (by decide)).trans i8
   have j2:=(k3 2 (by decide)).trans i9
   have hlt2:=get_lt j2
   simp only [go_sem,simprocAttr]
   exact ⟨(j,s3,acc++[.mk k n u t q ks ms],.gs id ver 0 (acc.length+1),A'),⟨⟨hL.next (only_isT T _) hg hq3 hs3 hgt k1 k2 (fun _ _ _ h=>h) (by simp; omega),j0,j2⟩,rfl⟩,by have h1:s'.i<s3.i:=hgt; have:=hL.ok.1; simp only; omega⟩
theorem primC (s:List UInt8) (H:List AO):ACall Tryz.prog 74 [sV s] H (pureQ (bV (decide (s=[112,114,105,110,116]) || decide (s=[101,120,105,116]) || decide (s=[115,105,122,101]) || decide (s=[114,101,102]) || decide (s=[33]))) H):=by
 refine call74 (by simp) ?_
 simp only [go_sem,simprocAttr,mc74,mr74]
 cases h1:decide (s=[112,114,105,110,116])
 rotate_left
 ·simp only [go_sem,simprocAttr,h1,Bool.true_or]
  exact ⟨rfl,rfl⟩
 cases h2:decide (s=[101,120,105,116])
 rotate_left
 ·simp only [go_sem,simprocAttr,h1,h2,Bool.true_or,Bool.false_or]
  exact ⟨rfl,rfl⟩
 cases h3:decide (s=[115,105,122,101])
 rotate_left
 ·simp only [go_sem,simprocAttr,h1,h2,h3,Bool.true_or,Bool.false_or]
  exact ⟨rfl,rfl⟩
 cases h4:decide (s=[114,101,102])
 rotate_left
 ·simp only [go_sem,simprocAttr,h1,h2,h3,h4,Bool.true_or,Bool.false_or]
  exact ⟨rfl,rfl⟩
 simp only [go_sem,simprocAttr,h1,h2,h3,h4,Bool.false_or]
 exact ⟨rfl,rfl⟩
theorem primT_e {s:PS} (hc:s.c=0):primT T s=((decide ((tokA T s).k=6) || decide ((tokA T s).k=7)) && (decide ((tokA T s).t=[112,114,105,110,116]) || decide ((tokA T s).t=[101,120,105,116]) || decide ((tokA T s).t=[115,105,122,101]) || decide ((tokA T s).t=[114,101,102]) || decide ((tokA T s).t=[33]))):=by
 unfold primT isT
 rw [dT hc,Bool.true_and]
 cases (decide ((tokA T s).k=6) || decide ((tokA T s).k=7))
 ·simp
 ·simp
theorem sPreC {ex:PM ExpD} (hr:PF (pvS T lim) T e 34 [] ex expV) (sr:StayM T ex):PF (pvS T lim) T e 189 [] (sPre T T.length ex) expV:=by
 have hA:=sAtomC hT hTl hr sr
 have sA:=stay_sAtom (N:=T.length) hT sr
 refine pf_of (pvS_tf T lim) fun H p s hp hs=>?_
 refine call189 (by simp) ?_
 simp only [go_sem,simprocAttr,mc189,mr189]
 refine acall_pure (sNow H _ p s hp hs) ?_
 have rest:primT T s=false->sPre T T.length ex s=(if (tokA T s).k=4 then iteB (atNx T) (bindP (sAtom T T.length ex) fun a=>retP ((sAtom T T.length ex s).1.kid [a])) (retP (sAtom T T.length ex s).1) else retP (sAtom T T.length ex s).1) (sAtom T T.length ex s).2:=fun h=>by
  unfold sPre; rw [nowP_e,iteG_f h,bindP_e]
 have yes:primT T s=true->sPre T T.length ex s=(node1 15 (tokA T s).t (tokA T s).p (sAtom T T.length ex (adv s)).1,(sAtom T T.length ex (adv s)).2):=fun h=>by
  unfold sPre; rw [nowP_e,iteG_t h]; rfl
 have hpr:=fun hc:s.c=0=>primT_e hT hTl hc
 have hpc:=fun hc:s.c≠0=>show primT T s=false by unfold primT; rw [isT_c hc,isT_c hc,isT_c hc,isT_c hc,isT_c hc]; rfl
 have h8:primT T s=true->(tokA T s).k≠8:=fun h=>(only_primT s h).2
 simp only [go_sem,simprocAttr,qp hp,pvS,Tok.cells]
 generalize hx:tokA T s=x at rest yes hpr h8 ⊢
 obtain ⟨tk,tt,tn,tp⟩:=x
 simp only at rest yes hpr h8 ⊢
 cases h0:decide (s.c=0)
 ·have hf:=hpc (of_decide_eq_false h0)
  simp only [go_sem,simprocAttr,h0]
  refine acall_pure (hA H _ p s hp hs) ?_
  have hs2:=hs.run sA
  rw [rest hf]
  clear rest yes
  rcases hq:sAtom T T.length ex s with ⟨⟨k,n,u,t,q,ks,ms⟩,s2⟩
  rw [hq] at hs2
  simp only [go_sem,simprocAttr,ExpD.cells]
  by_cases h4:tk=4
  ·rw [if_pos h4]
   simp only [go_sem,simprocAttr,dT h4]
   refine acall_pure (sAtSt hT hTl H _ p s2 hp hs2) ?_
   cases hg:atNx T s2
   ·rw [iteB_f hg]
    simp only [go_sem,simprocAttr,hg]
    exact ⟨_,rfl,lentP (tf_av (ExpD.cells (.mk k n u t q ks ms)))⟩
   ·rw [iteB_t hg,bindP_e]
    simp only [go_sem,simprocAttr,hg]
    refine acall_pure (hA H _ p s2 hp hs2) ?_
    rcases hq2:sAtom T T.length ex s2 with ⟨⟨k',n',u',t',q',ks',ms'⟩,s3⟩
    simp only [go_sem,simprocAttr,ExpD.cells,Nat.add_zero]
    exact ⟨_,rfl,lent_exp (lent_rows (n:=H.length) (ys:=[ExpD.cells (.mk k' n' u' t' q' ks' ms')]) (by omega) (by rw [qxk]; rfl) (by intro y hy; simp at hy; subst hy; rfl)) (.p _)⟩
  ·rw [if_neg h4]
   simp only [go_sem,simprocAttr,dF h4]
   exact ⟨_,rfl,lentP (tf_av (ExpD.cells (.mk k n u t q ks ms)))⟩
 ·have hpr:=hpr (of_decide_eq_true h0)
  cases h67:(decide (tk=6) || decide (tk=7))
  ·have hf:primT T s=false:=by rw [hpr,h67]; rfl
   have h6:decide (tk=6)=false:=by cases h:decide (tk=6) <;> simp [h] at h67 ⊢
   have h7:decide (tk=7)=false:=by cases h:decide (tk=7) <;> simp [h] at h67 ⊢
   simp only [go_sem,simprocAttr,h0,h6,h7]
   refine acall_pure (hA H _ p s hp hs) ?_
   have hs2:=hs.run sA
   rw [rest hf]
   clear rest yes
   rcases hq:sAtom T T.length ex s with ⟨⟨k,n,u,t,q,ks,ms⟩,s2⟩
   rw [hq] at hs2
   simp only [go_sem,simprocAttr,ExpD.cells]
   by_cases h4:tk=4
   ·rw [if_pos h4]
    simp only [go_sem,simprocAttr,dT h4]
    refine acall_pure (sAtSt hT hTl H _ p s2 hp hs2) ?_
    cases hg:atNx T s2
    ·rw [iteB_f hg]
     simp only [go_sem,simprocAttr,hg]
     exact ⟨_,rfl,lentP (tf_av (ExpD.cells (.mk k n u t q ks ms)))⟩
    ·rw [iteB_t hg,bindP_e]
     simp only [go_sem,simprocAttr,hg]
     refine acall_pure (hA H _ p s2 hp hs2) ?_
     rcases hq2:sAtom T T.length ex s2 with ⟨⟨k',n',u',t',q',ks',ms'⟩,s3⟩
     simp only [go_sem,simprocAttr,ExpD.cells,Nat.add_zero]
     exact ⟨_,rfl,lent_exp (lent_rows (n:=H.length) (ys:=[ExpD.cells (.mk k' n' u' t' q' ks' ms')]) (by omega) (by rw [qxk]; rfl) (by intro y hy; simp at hy; subst hy; rfl)) (.p _)⟩
   ·rw [if_neg h4]
    simp only [go_sem,simprocAttr,dF h4]
    exact ⟨_,rfl,lentP (tf_av (ExpD.cells (.mk k n u t q ks ms)))⟩
  ·rw [h67,Bool.true_and] at hpr
   cases h6:decide (tk=6)
   ·have h7:decide (tk=7)=true:=by simpa [h6] using h67
    simp only [go_sem,simprocAttr,h0,h6,h7]
    refine acall_pure (primC hT hTl tt _) ?_
    rw [<- hpr]
    cases hf:primT T s
    ·simp only [go_sem,simprocAttr,hf]
     refine acall_pure (hA H _ p s hp hs) ?_
     have hs2:=hs.run sA
     rw [rest hf]
     clear rest yes
     rcases hq:sAtom T T.length ex s with ⟨⟨k,n,u,t,q,ks,ms⟩,s2⟩
     rw [hq] at hs2
     simp only [go_sem,simprocAttr,ExpD.cells]
     by_cases h4:tk=4
     ·rw [if_pos h4]
      simp only [go_sem,simprocAttr,dT h4]
      refine acall_pure (sAtSt hT hTl H _ p s2 hp hs2) ?_
      cases hg:atNx T s2
      ·rw [iteB_f hg]
       simp only [go_sem,simprocAttr,hg]
       exact ⟨_,rfl,lentP (tf_av (ExpD.cells (.mk k n u t q ks ms)))⟩
      ·rw [iteB_t hg,bindP_e]
       simp only [go_sem,simprocAttr,hg]
       refine acall_pure (hA H _ p s2 hp hs2) ?_
       rcases hq2:sAtom T T.length ex s2 with ⟨⟨k',n',u',t',q',ks',ms'⟩,s3⟩
       simp only [go_sem,simprocAttr,ExpD.cells,Nat.add_zero]
       exact ⟨_,rfl,lent_exp (lent_rows (n:=H.length) (ys:=[ExpD.cells (.mk k' n' u' t' q' ks' ms')]) (by omega) (by rw [qxk]; rfl) (by intro y hy; simp at hy; subst hy; rfl)) (.p _)⟩
     ·rw [if_neg h4]
      simp only [go_sem,simprocAttr,dF h4]
      exact ⟨_,rfl,lentP (tf_av (ExpD.cells (.mk k n u t q ks ms)))⟩
    ·have hsa:=hs.adv hT (by rw [hx]; exact h8 hf)
     have fold:AO.var [ptV T,iV (s.i+1:Nat),iV s.nest,iV s.d,iV lim,iV s.c,iV s.ps]=pvS T lim (adv s):=rfl
     rw [yes hf]
     clear rest yes
     simp only [go_sem,simprocAttr,hf,qp hp,qq hp,ws hTl hs]
     rw [fold]
     refine ⟨_,Qp.hx hp _ _,?_⟩
     simp only [go_sem,simprocAttr]
     refine pcall_chain _ _ (by simp) (Qp.hx hp _ _) (hA.chain hp hsa) ?_
     rcases hq:sAtom T T.length ex (adv s) with ⟨⟨k,n,u,t,q,ks,ms⟩,s2⟩
     simp only [go_sem,simprocAttr,ExpD.cells,Nat.add_zero]
     exact ⟨_,rfl,lent_exp (lent_rows (n:=H.length) (ys:=[ExpD.cells (.mk k n u t q ks ms)]) (by omega) (by rw [qxk]; rfl) (by intro y hy; simp at hy; subst hy; rfl)) (by rw [ExpD.cellsA]; exact .nl)⟩
   ·simp only [go_sem,simprocAttr,h0,h6]
    refine acall_pure (primC hT hTl tt _) ?_
    rw [<- hpr]
    cases hf:primT T s
    ·simp only [go_sem,simprocAttr,hf]
     refine acall_pure (hA H _ p s hp hs) ?_
     have hs2:=hs.run sA
     rw [rest hf]
     clear rest yes
     rcases hq:sAtom T T.length ex s with ⟨⟨k,n,u,t,q,ks,ms⟩,s2⟩
     rw [hq] at hs2
     simp only [go_sem,simprocAttr,ExpD.cells]
     by_cases h4:tk=4
     ·rw [if_pos h4]
      simp only [go_sem,simprocAttr,dT h4]
      refine acall_pure (sAtSt hT hTl H _ p s2 hp hs2) ?_
      cases hg:atNx T s2
      ·rw [iteB_f hg]
       simp only [go_sem,simprocAttr,hg]
       exact ⟨_,rfl,lentP (tf_av (ExpD.cells (.mk k n u t q ks ms)))⟩
      ·rw [iteB_t hg,bindP_e]
       simp only [go_sem,simprocAttr,hg]
       refine acall_pure (hA H _ p s2 hp hs2) ?_
       rcases hq2:sAtom T T.length ex s2 with ⟨⟨k',n',u',t',q',ks',ms'⟩,s3⟩
       simp only [go_sem,simprocAttr,ExpD.cells,Nat.add_zero]
       exact ⟨_,rfl,lent_exp (lent_rows (n:=H.length) (ys:=[ExpD.cells (.mk k' n' u' t' q' ks' ms')]) (by omega) (by rw [qxk]; rfl) (by intro y hy; simp at hy; subst hy; rfl)) (.p _)⟩
     ·rw [if_neg h4]
      simp only [go_sem,simprocAttr,dF h4]
      exact ⟨_,rfl,lentP (tf_av (ExpD.cells (.mk k n u t q ks ms)))⟩
    ·have hsa:=hs.adv hT (by rw [hx]; exact h8 hf)
     have fold:AO.var [ptV T,iV (s.i+1:Nat),iV s.nest,iV s.d,iV lim,iV s.c,iV s.ps]=pvS T lim (adv s):=rfl
     rw [yes hf]
     clear rest yes
     simp only [go_sem,simprocAttr,hf,qp hp,qq hp,ws hTl hs]
     rw [fold]
     refine ⟨_,Qp.hx hp _ _,?_⟩
     simp only [go_sem,simprocAttr]
     refine pcall_chain _ _ (by simp) (Qp.hx hp _ _) (hA.chain hp hsa) ?_
     rcases hq:sAtom T T.length ex (adv s) with ⟨⟨k,n,u,t,q,ks,ms⟩,s2⟩
     simp only [go_sem,simprocAttr,ExpD.cells,Nat.add_zero]
     exact ⟨_,rfl,lent_exp (lent_rows (n:=H.length) (ys:=[ExpD.cells (.mk k n u t q ks ms)]) (by omega) (by rw [qxk]; rfl) (by intro y hy; simp at hy; subst hy; rfl)) (by rw [ExpD.cellsA]; exact .nl)⟩
theorem atom_gt {ex:PM ExpD} (sr:StayM T ex) {s:PS} (hi:s.i<T.length) (hg:atNx T s=true):s.i<(sAtom T T.length ex s).2.i:=by
 unfold sAtom
 rw [nowP_e,iteG_t hg]
 have ha:=adv_at hT hi (only_atNx s hg).2
 have:=(stay_sAtIn (N:=T.length) (t:=tokA T s) hT sr) (adv s) (by simpa [adv] using ha)
 have h1:=this.1
 simp only [adv] at h1 ⊢
 omega
end
theorem LentN.keepR {n:Nat} {H H':List AO} (he:∀ (id sz ver:Nat) (rs:List (List AV)),n<=id->H[id]?=some (.rows sz ver rs)->H'[id]?=some (.rows sz ver rs)) {a b:AV} (h:LentN n H a b):LentN n H' a b:=by
 induction h with
 | tf a h=>exact .tf a h
 | nl=>exact .nl
 | gs id ver off k sz rs ys hn hid hlen hys hsz hc ih=>exact .gs id ver off k sz rs ys hn (he _ _ _ _ hn hid) hlen hys hsz ih
 | st l m hlen hc ih=>exact .st l m hlen ih
 | tup l m hlen hc ih=>exact .tup l m hlen ih
theorem LentC.get {n : Nat} {H : List AO} {l m : List AV} (h : LentC n H l m) : l.length = m.length ∧ ∀ (j : Nat) a b, l[j]? = some a → m[j]? = some b → LentN n H a b := by
  induction h with
  | nil => exact ⟨rfl, fun j a b h => by simp at h⟩
  | cons h _ ih =>
    refine ⟨by simp [ih.1], fun j a b ha hb => ?_⟩
    cases j with
    | zero => simp at ha hb; subst ha; subst hb; exact h
    | succ j => exact ih.2 j a b (by simpa using ha) (by simpa using hb)
theorem lent_rows2 {n id ver sz:Nat} {H:List AO} {r1 r2:List AV} {y1 y2:List PV} (hn:n<=id) (h:H[id]?=some (.rows sz ver [r1,r2])) (h1:LentC n H r1 (y1.map .p)) (h2:LentC n H r2 (y2.map .p)) (l1:y1.length=sz) (l2:y2.length=sz):LentN n H (.gs id ver 0 2) (.p (.l [y1,y2])):=by
 refine .gs id ver 0 2 sz _ [y1,y2] hn h (by simp) rfl (by intro y hy; simp at hy; rcases hy with rfl | rfl <;> assumption) ?_
 intro i r y j c q hr hy hc hq
 rw [Nat.zero_add] at hr
 match i with
 | 0=>cases hr; cases hy; exact h1.get.2 j c _ hc (by simp [hq])
 | 1=>cases hr; cases hy; exact h2.get.2 j c _ hc (by simp [hq])
 | i+2=>simp at hr
theorem qxa0 (H A B:List AO) (p:Nat) (c:AO):(H.set p c++(A++B))[H.length+A.length]?=B[0]?:=qxa H A B p c 0
structure Lc {α:Type} (T:List Tok) (e:Nat) (g:PS->Bool) (m:α->PM α) (R:α × PS) (j:Nat) (s:PS) (a:α):Prop where
 ok:Ok T e s
 fu:s.c=0->T.length - s.i<=j
 eq:carry g m j a s=R
section
variable {α:Type} {T:List Tok} {e:Nat} {g:PS->Bool} {m:α->PM α} {R:α × PS} {j:Nat} {s:PS} {a:α}
theorem Lc.start (hs:Ok T e s) (h:carry g m T.length a s=R):Lc T e g m R T.length s a:=⟨hs,fun _=>by omega,h⟩
theorem Lc.stop (h:Lc T e g m R j s a) (hg:g s=false):R=(a,s):=by rw [<- h.eq,carry_c hg]
theorem Lc.succ (h:Lc T e g m R j s a) (ho:Only T g) (hg:g s=true):∃ j',j=j'+1:=⟨j - 1,by have:=h.fu (ho s hg).1; have:=h.ok.1; omega⟩
theorem Lc.next (h:Lc T e g m R (j+1) s a) (ho:Only T g) (hg:g s=true) {a2:α} {s2:PS} (hm:m a s=(a2,s2)) (hs2:Ok T e s2) (hgt:s.i<s2.i):Lc T e g m R j s2 a2 :=
 ⟨hs2,fun _=>by have:=h.fu (ho s hg).1; omega,by have:=h.eq; rw [carry,if_pos hg,hm] at this; exact this⟩
end
def EvA (H:List AO) (p:Nat) (c:AO) (A:List AO) (i:Nat) (x:ExpD):Prop:=∃ k n u t q ks ms a b,x=.mk k n u t q ks ms/\LentN H.length (H.set p c++A) a (.p (.l (ExpD.cellsL ks)))/\LentN H.length (H.set p c++A) b (.p (.l (ExpD.cellsA ms)))/\A[i]?=some (.var [iV k,sV n,iV u,sV t,iV q,a,b])
abbrev ZE:AO:=.var [iV 0,sV [],iV 0,sV [],iV 0,.p .nl,.p .nl]
theorem rows_keep {H A B:List AO} {p:Nat} {c d:AO} (h:∀ (k sz ver:Nat) (rs:List (List AV)),A[k]?=some (.rows sz ver rs)->B[k]?=some (.rows sz ver rs)):∀ (id sz ver:Nat) (rs:List (List AV)),H.length<=id->(H.set p c++A)[id]?=some (.rows sz ver rs)->(H.set p d++B)[id]?=some (.rows sz ver rs):=fun id sz ver rs hid hr=>by
 rw [q_ge hid] at hr ⊢
 exact h _ _ _ _ hr
theorem set_var {A:List AO} {i:Nat} {o:AO} {cs:List AV} (hi:A[i]?=some (.var cs)):∀ (k sz ver:Nat) (rs:List (List AV)),A[k]?=some (.rows sz ver rs)->(A.set i o)[k]?=some (.rows sz ver rs):=fun k sz ver rs h=>get_set h (by rintro rfl; rw [hi] at h; cases h)
theorem two_lent {H A B:List AO} {p:Nat} {c d:AO} {k u q:Int} {n t:List UInt8} {ks:List ExpD} {ms:List ArmD} {a b:AV} {y:ExpD} (ha:LentN H.length (H.set p c++A) a (.p (.l (ExpD.cellsL ks)))) (hb:LentN H.length (H.set p c++A) b (.p (.l (ExpD.cellsA ms))))
  (hk:∀ (k sz ver:Nat) (rs:List (List AV)),A[k]?=some (.rows sz ver rs)->B[k]?=some (.rows sz ver rs)) {i:Nat} (hi:B[i]?=some (.rows 7 0 [[iV k,sV n,iV u,sV t,iV q,a,b],y.cells.map .p])) :
  LentN H.length (H.set p d++B) (.gs (H.length+i) 0 0 2) (.p (.l (ExpD.cellsL [.mk k n u t q ks ms,y]))) :=
 lent_rows2 (by omega) (by rw [qxk]; exact hi) (.pc (.pc (.pc (.pc (.pc (.cons (LentN.keepR (rows_keep hk) ha) (.cons (LentN.keepR (rows_keep hk) hb) .nil))))))) (LentC.pure _) (expE7 (.mk k n u t q ks ms)) (expE7 y)
section
variable {T:List Tok} {lim e:Nat} (hT:ToksOk T) (hTl:T.length<=1073741825)
include hT hTl
theorem sAppC {ex:PM ExpD} (hr:PF (pvS T lim) T e 34 [] ex expV) (sr:StayM T ex):PF (pvS T lim) T e 170 [] (sOps5 T T.length ex) expV:=by
 have hP:=sPreC hT hTl hr sr
 have sP:=stay_sPre (N:=T.length) hT sr
 have hA:=sAtomC hT hTl hr sr
 have sA:=stay_sAtom (N:=T.length) hT sr
 refine pf_of (pvS_tf T lim) fun H p s hp hs=>?_
 refine call170 (by simp) ?_
 simp only [go_sem,simprocAttr,mc170,mr170]
 refine acall_pure (hP H _ p s hp hs) ?_
 have hs1:=hs.run sP
 rcases hq:sPre T T.length ex s with ⟨⟨k,n,u,t,q,ks,ms⟩,s1⟩
 rw [hq] at hs1
 have eq0:sOps5 T T.length ex s=appG T T.length (sAtom T T.length ex) (.mk k n u t q ks ms) s1:=by unfold sOps5; rw [bindP_e,hq]
 rw [eq0]
 unfold appG
 generalize hR:carry (atNx T) (fun a=>bindP (sAtom T T.length ex) fun b=>retP (node2 9 [] a.pos a b)) T.length (.mk k n u t q ks ms) s1=R
 simp only [go_sem,simprocAttr,ExpD.cells]
 refine ⟨Nat × PS × ExpD × List AO,[0,2,3],fun x st=>(Lc T e (atNx T) (fun a=>bindP (sAtom T T.length ex) fun b=>retP (node2 9 [] a.pos a b)) R x.1 x.2.1 x.2.2.1/\EvA H p (pvS T lim x.2.1) x.2.2.2 1 x.2.2.1/\x.2.2.2[0]?=some ZE) /\
   st=⟨[(0,.ptr p 0),(2,.ptr H.length 0),(3,.ptr (H.length+1) 0)],[],H.set p (pvS T lim x.2.1)++x.2.2.2⟩,fun x=>T.length - x.2.1.i,⟨(T.length,s1,.mk k n u t q ks ms,[ZE,.var [iV k,sV n,iV u,sV t,iV q,.p (.l (ExpD.cellsL ks)),.p (.l (ExpD.cellsA ms))]]),?_⟩,?_⟩
 ·simp only [go_sem,simprocAttr]
  exact ⟨Lc.start hs1 hR,_,_,_,_,_,_,_,_,_,rfl,.p _,.p _,rfl⟩
 ·rintro ⟨j,s',x,A⟩ _ ⟨⟨hL,⟨k,n,u,t,q,ks,ms,a,b,hxe,ha,hb,i9⟩,i8⟩,rfl⟩
  simp only at hL hxe ha hb i8 i9 ⊢
  subst hxe
  simp only [go_sem,simprocAttr]
  refine acall_pure (sAtSt hT hTl H _ p s' hp hL.ok) ?_
  cases hg:atNx T s'
  ·have hRe:=hL.stop hg
   subst hRe
   have hz:∀ o,(A.set 0 o)[0]?=some o:=fun o=>set_get i8
   simp only [go_sem,simprocAttr,hg,i9,i8,hz]
   exact ⟨_,rfl,lent_exp (LentN.keepR (rows_keep (set_var i8)) ha) (LentN.keepR (rows_keep (set_var i8)) hb)⟩
  ·obtain ⟨j,rfl⟩:=hL.succ only_atNx hg
   have hgt:=atom_gt hT hTl sr hL.ok.1 hg
   have hs2:=hL.ok.run sA
   simp only [go_sem,simprocAttr,hg]
   refine ⟨_,Qp.hx hp _ _,?_⟩
   simp only [go_sem,simprocAttr,i9]
   refine pcall_chain _ _ (by simp) (Qp.hx hp _ _) (hA.chain hp hL.ok) ?_
   rcases hq2:sAtom T T.length ex s' with ⟨y,s2⟩
   rw [hq2] at hgt hs2
   obtain ⟨k',n',u',t',q',ks',ms'⟩:=y
   have i8':=get_ext i8 [AO.rows 7 0 [[iV k,sV n,iV u,sV t,iV q,a,b],[iV k',sV n',iV u',sV t',iV q',.p (.l (ExpD.cellsL ks')),.p (.l (ExpD.cellsA ms'))]]]
   have i9':=get_ext i9 [AO.rows 7 0 [[iV k,sV n,iV u,sV t,iV q,a,b],[iV k',sV n',iV u',sV t',iV q',.p (.l (ExpD.cellsL ks')),.p (.l (ExpD.cellsA ms'))]]]
   simp only [go_sem,simprocAttr,ExpD.cells,i9',Nat.add_zero]
   have hne:1≠A.length:=by intro h; rw [h] at i9; simp at i9
   have hm:(fun a=>bindP (sAtom T T.length ex) fun b=>retP (node2 9 [] a.pos a b)) (ExpD.mk k n u t q ks ms) s'=(node2 9 [] q (.mk k n u t q ks ms) (.mk k' n' u' t' q' ks' ms'),s2):=by simp only [bindP_e,hq2]; rfl
   refine ⟨(j,s2,node2 9 [] q (.mk k n u t q ks ms) (.mk k' n' u' t' q' ks' ms'),_),⟨⟨hL.next only_atNx hg hm hs2 hgt,⟨9,[],0,[],q,_,[],_,.p .nl,rfl,?_,by rw [ExpD.cellsA]; exact .nl,set_get i9'⟩,get_set i8' (by decide)⟩,rfl⟩,by have h1:s'.i<s2.i:=hgt; have:=hL.ok.1; simp only; omega⟩
   exact two_lent ha hb (fun k sz ver rs h=>set_var i9' k sz ver rs (get_ext h _)) (get_set (by rw [gx0]; rfl) hne)
end
def opB (s:List UInt8):Bool:=decide (s=[43]) || decide (s=[45]) || decide (s=[42]) || decide (s=[94]) || decide (s=[61]) || decide (s=[60]) || decide (s=[58,61])
def opLv (s:List UInt8):Int:=if s=[58,61] then 1 else if s=[61]\/s=[60] then 2 else if s=[42] then 4 else 3
def sgs:Nat->List (List UInt8)
 | 1=>[[58,61]]
 | 2=>[[61],[60]]
 | 3=>[[43],[45],[94]]
 | _=>[[42]]
theorem op_lv {L:Nat} (h1:1<=L) (h4:L<=4) (s:List UInt8):(opB s && decide (opLv s=(L:Int)))=decide (s∈sgs L):=by
 have:L=1\/L=2\/L=3\/L=4:=by omega
 by_cases e0:s=[43]
 ·subst e0
  rcases this with rfl | rfl | rfl | rfl <;> decide
 by_cases e1:s=[45]
 ·subst e1
  rcases this with rfl | rfl | rfl | rfl <;> decide
 by_cases e2:s=[42]
 ·subst e2
  rcases this with rfl | rfl | rfl | rfl <;> decide
 by_cases e3:s=[94]
 ·subst e3
  rcases this with rfl | rfl | rfl | rfl <;> decide
 by_cases e4:s=[61]
 ·subst e4
  rcases this with rfl | rfl | rfl | rfl <;> decide
 by_cases e5:s=[60]
 ·subst e5
  rcases this with rfl | rfl | rfl | rfl <;> decide
 by_cases e6:s=[58,61]
 ·subst e6
  rcases this with rfl | rfl | rfl | rfl <;> decide
 have hb:opB s=false:=by simp [opB,e0,e1,e2,e3,e4,e5,e6]
 rw [hb,Bool.false_and]
 symm
 refine decide_eq_false ?_
 rcases this with rfl | rfl | rfl | rfl <;> simp [sgs,e0,e1,e2,e3,e4,e5,e6]
theorem opBC (s:List UInt8) (H:List AO):ACall Tryz.prog 73 [sV s] H (pureQ (bV (opB s)) H):=by
 refine call73 (by simp) ?_
 unfold opB
 simp only [go_sem,simprocAttr,mc73,mr73]
 cases h0:decide (s=[43])
 rotate_left
 ·simp only [go_sem,simprocAttr,h0,Bool.true_or,Bool.false_or]
  exact ⟨rfl,rfl⟩
 cases h1:decide (s=[45])
 rotate_left
 ·simp only [go_sem,simprocAttr,h0,h1,Bool.true_or,Bool.false_or]
  exact ⟨rfl,rfl⟩
 cases h2:decide (s=[42])
 rotate_left
 ·simp only [go_sem,simprocAttr,h0,h1,h2,Bool.true_or,Bool.false_or]
  exact ⟨rfl,rfl⟩
 cases h3:decide (s=[94])
 rotate_left
 ·simp only [go_sem,simprocAttr,h0,h1,h2,h3,Bool.true_or,Bool.false_or]
  exact ⟨rfl,rfl⟩
 cases h4:decide (s=[61])
 rotate_left
 ·simp only [go_sem,simprocAttr,h0,h1,h2,h3,h4,Bool.true_or,Bool.false_or]
  exact ⟨rfl,rfl⟩
 cases h5:decide (s=[60])
 rotate_left
 ·simp only [go_sem,simprocAttr,h0,h1,h2,h3,h4,h5,Bool.true_or,Bool.false_or]
  exact ⟨rfl,rfl⟩
 simp only [go_sem,simprocAttr,h0,h1,h2,h3,h4,h5,Bool.false_or]
 exact ⟨rfl,rfl⟩
theorem opLvC (s:List UInt8) (H:List AO):ACall Tryz.prog 192 [sV s] H (pureQ (iV (opLv s)) H):=by
 refine call192 (by simp) ?_
 unfold opLv
 simp only [go_sem,simprocAttr,mc192,mr192]
 cases h0:decide (s=[58,61])
 rotate_left
 ·rw [if_pos (of_decide_eq_true h0)]
  simp only [go_sem,simprocAttr,h0]
  exact ⟨rfl,rfl⟩
 rw [if_neg (of_decide_eq_false h0)]
 cases h1:decide (s=[61])
 rotate_left
 ·rw [if_pos (.inl (of_decide_eq_true h1))]
  simp only [go_sem,simprocAttr,h0,h1]
  exact ⟨rfl,rfl⟩
 cases h2:decide (s=[60])
 rotate_left
 ·rw [if_pos (.inr (of_decide_eq_true h2))]
  simp only [go_sem,simprocAttr,h0,h1,h2]
  exact ⟨rfl,rfl⟩
 rw [if_neg (by rw [not_or]; exact ⟨of_decide_eq_false h1,of_decide_eq_false h2⟩)]
 cases h3:decide (s=[42])
 rotate_left
 ·rw [if_pos (of_decide_eq_true h3)]
  simp only [go_sem,simprocAttr,h0,h1,h2,h3]
  exact ⟨rfl,rfl⟩
 rw [if_neg (of_decide_eq_false h3)]
 simp only [go_sem,simprocAttr,h0,h1,h2,h3]
 exact ⟨rfl,rfl⟩
section
variable {T:List Tok} {lim e:Nat} (hT:ToksOk T) (hTl:T.length<=1073741825)
include hT hTl
theorem sSign {L:Nat} (h1:1<=L) (h4:L<=4):PF (pvS T lim) T e 171 [iV L] (testM (opT T (sgs L))) bV:=by
 refine pf_of (pvS_tf T lim) fun H p s hp hs=>?_
 refine call171 (by simp) ?_
 simp only [go_sem,simprocAttr,mc171,mr171]
 refine acall_pure (sNow.nil hp hs) ?_
 unfold opT isK
 rw [<- op_lv h1 h4]
 simp only [go_sem,simprocAttr,qp hp,pvS,Tok.cells]
 cases h0:decide (s.c=0)
 ·simp only [go_sem,simprocAttr,h0,Bool.false_and]
  exact ⟨_,rfl,lentP (tf_p _)⟩
 cases h7:decide ((tokA T s).k=7)
 ·simp only [go_sem,simprocAttr,h0,h7,Bool.false_and,Bool.and_false]
  exact ⟨_,rfl,lentP (tf_p _)⟩
 simp only [go_sem,simprocAttr,h0,h7]
 refine acall_pure (opBC _ _) ?_
 cases hb:opB (tokA T s).t
 ·simp only [go_sem,simprocAttr,hb,Bool.false_and,Bool.and_false]
  exact ⟨_,rfl,lentP (tf_p _)⟩
 simp only [go_sem,simprocAttr,hb]
 refine acall_pure (opLvC _ _) ?_
 simp only [go_sem,simprocAttr,Bool.true_and]
 exact ⟨_,rfl,lentP (tf_p _)⟩
theorem sOps5C {ex:PM ExpD} (hr:PF (pvS T lim) T e 34 [] ex expV) (sr:StayM T ex):PF (pvS T lim) T e 145 [iV 5] (sOps5 T T.length ex) expV:=by
 have hA:=sAppC hT hTl hr sr
 refine pf_of (pvS_tf T lim) fun H p s hp hs=>?_
 refine call145 (by simp) ?_
 simp only [go_sem,simprocAttr,mc145,mr145]
 refine acall_pure (hA H _ p s hp hs) ?_
 rcases hq:sOps5 T T.length ex s with ⟨⟨k,n,u,t,q,ks,ms⟩,s1⟩
 simp only [go_sem,simprocAttr,ExpD.cells]
 exact ⟨_,rfl,lentP (tf_av (ExpD.cells (.mk k n u t q ks ms)))⟩
theorem sOps4C {ex : PM ExpD} (hr : PF (pvS T lim) T e 145 [iV 5] (sOps5 T T.length ex) expV) (sr : StayM T ex) : PF (pvS T lim) T e 145 [iV 4] (sOps4 T T.length ex) expV := by
  have sA := stay_sOps5 (N := T.length) hT sr
  refine pf_of (pvS_tf T lim) fun H p s hp hs => ?_
  have ew : wr .i64 (4 + 1) = 5 := by decide
  refine call145 (by simp) ?_
  simp only [go_sem, simprocAttr, mc145, mr145, ew]
  refine acall_pure (hr H _ p s hp hs) ?_
  have hs1 := hs.run sA
  rcases hq : sOps5 T T.length ex s with ⟨⟨k, n, u, t, q, ks, ms⟩, s1⟩
  rw [hq] at hs1
  have eq0 : sOps4 T T.length ex s = rowG T T.length (sgs 4) (sOps5 T T.length ex) (.mk k n u t q ks ms) s1 := by unfold sOps4; rw [bindP_e, hq]; rfl
  rw [eq0]
  unfold rowG
  generalize hR : carry (opT T (sgs 4)) (fun a => nowP T fun t => advP (bindP (sOps5 T T.length ex) fun b => retP (node2 14 t.t t.p a b))) T.length (.mk k n u t q ks ms) s1 = R
  simp only [go_sem, simprocAttr, ExpD.cells]
  refine ⟨Nat × PS × ExpD × List AO, [0, 1, 4, 5], fun x st => (Lc T e (opT T (sgs 4)) (fun a => nowP T fun t => advP (bindP (sOps5 T T.length ex) fun b => retP (node2 14 t.t t.p a b))) R x.1 x.2.1 x.2.2.1 ∧ EvA H p (pvS T lim x.2.1) x.2.2.2 1 x.2.2.1 ∧ x.2.2.2[0]? = some ZE) ∧
      st = ⟨[(0, .ptr p 0), (1, iV 4), (4, .ptr H.length 0), (5, .ptr (H.length + 1) 0)], [], H.set p (pvS T lim x.2.1) ++ x.2.2.2⟩, fun x => T.length - x.2.1.i, ⟨(T.length, s1, .mk k n u t q ks ms, [ZE, .var [iV k, sV n, iV u, sV t, iV q, .p (.l (ExpD.cellsL ks)), .p (.l (ExpD.cellsA ms))]]), ?_⟩, ?_⟩
  · simp only [go_sem, simprocAttr]
    exact ⟨Lc.start hs1 hR, _, _, _, _, _, _, _, _, _, rfl, .p _, .p _, rfl⟩
  · rintro ⟨j, s', x, A⟩ _ ⟨⟨hL, ⟨k, n, u, t, q, ks, ms, a, b, hxe, ha, hb, i9⟩, i8⟩, rfl⟩
    simp only at hL hxe ha hb i8 i9 ⊢
    subst hxe
    simp only [go_sem, simprocAttr]
    refine acall_pure (sSign hT hTl (L := 4) (by decide) (by decide) H _ p s' hp hL.ok) ?_
    cases hg : opT T (sgs 4) s'
    · have hRe := hL.stop hg
      subst hRe
      have hz : ∀ o, (A.set 0 o)[0]? = some o := fun o => set_get i8
      simp only [go_sem, simprocAttr, hg, i9, i8, hz]
      exact ⟨_, rfl, lent_exp (LentN.keepR (rows_keep (set_var i8)) ha) (LentN.keepR (rows_keep (set_var i8)) hb)⟩
    · obtain ⟨j, rfl⟩ := hL.succ (only_opT _) hg
      have hk8 := (only_opT _ s' hg).2
      have hsa := hL.ok.adv hT hk8
      have hs2 := hsa.run sA
      have hgt := (Stay.adv hT sA hL.ok.1 hk8).1
      simp only [go_sem, simprocAttr, hg]
      refine acall_pure (sNow H _ p s' hp hL.ok) ?_
      have hm0 : ∀ r, sOps5 T T.length ex (adv s') = r → (fun a => nowP T fun t => advP (bindP (sOps5 T T.length ex) fun b => retP (node2 14 t.t t.p a b))) (ExpD.mk k n u t q ks ms) s' = (node2 14 (tokA T s').t (tokA T s').p (.mk k n u t q ks ms) r.1, r.2) := fun r h => by simp only [nowP_e, advP, bindP_e, h]; rfl
      simp only [go_sem, simprocAttr, Tok.cells, qp hp, pvS, qq hp, ws hTl hL.ok]
      generalize hx : tokA T s' = x at hm0 ⊢
      obtain ⟨tk, tt, tn, tp⟩ := x
      have fold : AO.var [ptV T, iV (s'.i + 1 : Nat), iV s'.nest, iV s'.d, iV lim, iV s'.c, iV s'.ps] = pvS T lim (adv s') := rfl
      rw [fold]
      have i8' := get_ext i8 [AO.var [iV tk, sV tt, iV tn, iV tp]]
      have i9' := get_ext i9 [AO.var [iV tk, sV tt, iV tn, iV tp]]
      refine ⟨_, Qp.hx hp _ _, ?_⟩
      simp only [go_sem, simprocAttr, i9', qxa, qxa0, ew]
      refine pcall_chain _ _ (by simp) (Qp.hx hp _ _) (hr.chain hp hsa) ?_
      rcases hq2 : sOps5 T T.length ex (adv s') with ⟨y, s2⟩
      rw [hq2] at hgt hs2
      have hm := hm0 _ hq2
      obtain ⟨k', n', u', t', q', ks', ms'⟩ := y
      have i8' := get_ext i8 [AO.var [iV tk, sV tt, iV tn, iV tp], AO.rows 7 0 [[iV k, sV n, iV u, sV t, iV q, a, b], [iV k', sV n', iV u', sV t', iV q', .p (.l (ExpD.cellsL ks')), .p (.l (ExpD.cellsA ms'))]]]
      have i9' := get_ext i9 [AO.var [iV tk, sV tt, iV tn, iV tp], AO.rows 7 0 [[iV k, sV n, iV u, sV t, iV q, a, b], [iV k', sV n', iV u', sV t', iV q', .p (.l (ExpD.cellsL ks')), .p (.l (ExpD.cellsA ms'))]]]
      simp only [go_sem, simprocAttr, ExpD.cells, i9', Nat.add_zero]
      have hne : 1 ≠ A.length + 1 := by intro h; have : A.length = 0 := by omega
                                        rw [List.length_eq_zero_iff.1 this] at i9; simp at i9
      refine ⟨(j, s2, node2 14 tt tp (.mk k n u t q ks ms) (.mk k' n' u' t' q' ks' ms'), _), ⟨⟨hL.next (only_opT _) hg hm hs2 hgt, ⟨14, tt, 0, [], tp, _, [], _, .p .nl, rfl, ?_, by rw [ExpD.cellsA]; exact .nl, set_get i9'⟩, get_set i8' (by decide)⟩, rfl⟩, by have h1 : s'.i < s2.i := hgt; have := hL.ok.1; simp only; omega⟩
      exact two_lent ha hb (fun k sz ver rs h => set_var i9' k sz ver rs (get_ext h _)) (get_set (by rw [gxk]; rfl) hne)
theorem sOps3C {ex : PM ExpD} (hr : PF (pvS T lim) T e 145 [iV 4] (sOps4 T T.length ex) expV) (sr : StayM T ex) : PF (pvS T lim) T e 145 [iV 3] (sOps3 T T.length ex) expV := by
  have sA := stay_sOps4 (N := T.length) hT sr
  refine pf_of (pvS_tf T lim) fun H p s hp hs => ?_
  have ew : wr .i64 (3 + 1) = 4 := by decide
  refine call145 (by simp) ?_
  simp only [go_sem, simprocAttr, mc145, mr145, ew]
  refine acall_pure (hr H _ p s hp hs) ?_
  have hs1 := hs.run sA
  rcases hq : sOps4 T T.length ex s with ⟨⟨k, n, u, t, q, ks, ms⟩, s1⟩
  rw [hq] at hs1
  have eq0 : sOps3 T T.length ex s = rowG T T.length (sgs 3) (sOps4 T T.length ex) (.mk k n u t q ks ms) s1 := by unfold sOps3; rw [bindP_e, hq]; rfl
  rw [eq0]
  unfold rowG
  generalize hR : carry (opT T (sgs 3)) (fun a => nowP T fun t => advP (bindP (sOps4 T T.length ex) fun b => retP (node2 14 t.t t.p a b))) T.length (.mk k n u t q ks ms) s1 = R
  simp only [go_sem, simprocAttr, ExpD.cells]
  refine ⟨Nat × PS × ExpD × List AO, [0, 1, 4, 5], fun x st => (Lc T e (opT T (sgs 3)) (fun a => nowP T fun t => advP (bindP (sOps4 T T.length ex) fun b => retP (node2 14 t.t t.p a b))) R x.1 x.2.1 x.2.2.1 ∧ EvA H p (pvS T lim x.2.1) x.2.2.2 1 x.2.2.1 ∧ x.2.2.2[0]? = some ZE) ∧
      st = ⟨[(0, .ptr p 0), (1, iV 3), (4, .ptr H.length 0), (5, .ptr (H.length + 1) 0)], [], H.set p (pvS T lim x.2.1) ++ x.2.2.2⟩, fun x => T.length - x.2.1.i, ⟨(T.length, s1, .mk k n u t q ks ms, [ZE, .var [iV k, sV n, iV u, sV t, iV q, .p (.l (ExpD.cellsL ks)), .p (.l (ExpD.cellsA ms))]]), ?_⟩, ?_⟩
  · simp only [go_sem, simprocAttr]
    exact ⟨Lc.start hs1 hR, _, _, _, _, _, _, _, _, _, rfl, .p _, .p _, rfl⟩
  · rintro ⟨j, s', x, A⟩ _ ⟨⟨hL, ⟨k, n, u, t, q, ks, ms, a, b, hxe, ha, hb, i9⟩, i8⟩, rfl⟩
    simp only at hL hxe ha hb i8 i9 ⊢
    subst hxe
    simp only [go_sem, simprocAttr]
    refine acall_pure (sSign hT hTl (L := 3) (by decide) (by decide) H _ p s' hp hL.ok) ?_
    cases hg : opT T (sgs 3) s'
    · have hRe := hL.stop hg
      subst hRe
      have hz : ∀ o, (A.set 0 o)[0]? = some o := fun o => set_get i8
      simp only [go_sem, simprocAttr, hg, i9, i8, hz]
      exact ⟨_, rfl, lent_exp (LentN.keepR (rows_keep (set_var i8)) ha) (LentN.keepR (rows_keep (set_var i8)) hb)⟩
    · obtain ⟨j, rfl⟩ := hL.succ (only_opT _) hg
      have hk8 := (only_opT _ s' hg).2
      have hsa := hL.ok.adv hT hk8
      have hs2 := hsa.run sA
      have hgt := (Stay.adv hT sA hL.ok.1 hk8).1
      simp only [go_sem, simprocAttr, hg]
      refine acall_pure (sNow H _ p s' hp hL.ok) ?_
      have hm0 : ∀ r, sOps4 T T.length ex (adv s') = r → (fun a => nowP T fun t => advP (bindP (sOps4 T T.length ex) fun b => retP (node2 14 t.t t.p a b))) (ExpD.mk k n u t q ks ms) s' = (node2 14 (tokA T s').t (tokA T s').p (.mk k n u t q ks ms) r.1, r.2) := fun r h => by simp only [nowP_e, advP, bindP_e, h]; rfl
      simp only [go_sem, simprocAttr, Tok.cells, qp hp, pvS, qq hp, ws hTl hL.ok]
      generalize hx : tokA T s' = x at hm0 ⊢
      obtain ⟨tk, tt, tn, tp⟩ := x
      have fold : AO.var [ptV T, iV (s'.i + 1 : Nat), iV s'.nest, iV s'.d, iV lim, iV s'.c, iV s'.ps] = pvS T lim (adv s') := rfl
      rw [fold]
      have i8' := get_ext i8 [AO.var [iV tk, sV tt, iV tn, iV tp]]
      have i9' := get_ext i9 [AO.var [iV tk, sV tt, iV tn, iV tp]]
      refine ⟨_, Qp.hx hp _ _, ?_⟩
      simp only [go_sem, simprocAttr, i9', qxa, qxa0, ew]
      refine pcall_chain _ _ (by simp) (Qp.hx hp _ _) (hr.chain hp hsa) ?_
      rcases hq2 : sOps4 T T.length ex (adv s') with ⟨y, s2⟩
      rw [hq2] at hgt hs2
      have hm := hm0 _ hq2
      obtain ⟨k', n', u', t', q', ks', ms'⟩ := y
      have i8' := get_ext i8 [AO.var [iV tk, sV tt, iV tn, iV tp], AO.rows 7 0 [[iV k, sV n, iV u, sV t, iV q, a, b], [iV k', sV n', iV u', sV t', iV q', .p (.l (ExpD.cellsL ks')), .p (.l (ExpD.cellsA ms'))]]]
      have i9' := get_ext i9 [AO.var [iV tk, sV tt, iV tn, iV tp], AO.rows 7 0 [[iV k, sV n, iV u, sV t, iV q, a, b], [iV k', sV n', iV u', sV t', iV q', .p (.l (ExpD.cellsL ks')), .p (.l (ExpD.cellsA ms'))]]]
      simp only [go_sem, simprocAttr, ExpD.cells, i9', Nat.add_zero]
      have hne : 1 ≠ A.length + 1 := by intro h; have : A.length = 0 := by omega
                                        rw [List.length_eq_zero_iff.1 this] at i9; simp at i9
      refine ⟨(j, s2, node2 14 tt tp (.mk k n u t q ks ms) (.mk k' n' u' t' q' ks' ms'), _), ⟨⟨hL.next (only_opT _) hg hm hs2 hgt, ⟨14, tt, 0, [], tp, _, [], _, .p .nl, rfl, ?_, by rw [ExpD.cellsA]; exact .nl, set_get i9'⟩, get_set i8' (by decide)⟩, rfl⟩, by have h1 : s'.i < s2.i := hgt; have := hL.ok.1; simp only; omega⟩
      exact two_lent ha hb (fun k sz ver rs h => set_var i9' k sz ver rs (get_ext h _)) (get_set (by rw [gxk]; rfl) hne)
theorem sOps2C {ex:PM ExpD} (hr:PF (pvS T lim) T e 145 [iV 3] (sOps3 T T.length ex) expV) (sr:StayM T ex):PF (pvS T lim) T e 145 [iV 2] (sOps2 T T.length ex) expV:=by
 have sA:=stay_sOps3 (N:=T.length) hT sr
 refine pf_of (pvS_tf T lim) fun H p s hp hs=>?_
 have ew:wr .i64 (2+1)=3:=by decide
 refine call145 (by simp) ?_
 simp only [go_sem,simprocAttr,mc145,mr145,ew]
 refine acall_pure (hr H _ p s hp hs) ?_
 have hs1:=hs.run sA
 rcases hq:sOps3 T T.length ex s with ⟨⟨k,n,u,t,q,ks,ms⟩,s1⟩
 rw [hq] at hs1
 rw [show sOps2 T T.length ex s=onceG T (opT T (sgs 2)) (sOps3 T T.length ex) (.mk k n u t q ks ms) s1 by unfold sOps2; rw [bindP_e,hq]; rfl]
 unfold onceG
 rw [nowP_e]
 simp only [go_sem,simprocAttr,ExpD.cells]
 refine ⟨Unit,[0,1,4,5],fun _ st=>st=⟨[(0,.ptr p 0),(1,iV 2),(4,.ptr H.length 0),(5,.ptr (H.length+1) 0)],[],H.set p (pvS T lim s1)++[ZE,.var [iV k,sV n,iV u,sV t,iV q,.p (.l (ExpD.cellsL ks)),.p (.l (ExpD.cellsA ms))]]⟩,fun _=>0,⟨(),?_⟩,?_⟩
 ·simp only [go_sem,simprocAttr]
 ·rintro _ _ rfl
  simp only [go_sem,simprocAttr]
  refine acall_pure (sSign hT hTl (L:=2) (by decide) (by decide) H _ p s1 hp hs1) ?_
  cases hg:opT T (sgs 2) s1
  ·rw [iteG_f hg]
   simp only [go_sem,simprocAttr,hg]
   exact ⟨_,rfl,lentP (tf_av (ExpD.cells (.mk k n u t q ks ms)))⟩
  ·have hk8:=(only_opT _ s1 hg).2
   have hsa:=hs1.adv hT hk8
   rw [iteG_t hg]
   simp only [go_sem,simprocAttr,hg]
   refine acall_pure (sNow H _ p s1 hp hs1) ?_
   simp only [go_sem,simprocAttr,Tok.cells,qp hp,pvS,qq hp,ws hTl hs1]
   generalize hx:tokA T s1=x
   obtain ⟨tk,tt,tn,tp⟩:=x
   have fold:AO.var [ptV T,iV (s1.i+1:Nat),iV s1.nest,iV s1.d,iV lim,iV s1.c,iV s1.ps]=pvS T lim (adv s1):=rfl
   rw [fold]
   refine ⟨_,Qp.hx hp _ _,?_⟩
   simp only [go_sem,simprocAttr,ew]
   refine pcall_chain _ _ (by simp) (Qp.hx hp _ _) (hr.chain hp hsa) ?_
   rw [bindP_e]
   rcases hq2:sOps3 T T.length ex (adv s1) with ⟨⟨k',n',u',t',q',ks',ms'⟩,s2⟩
   simp only [go_sem,simprocAttr,ExpD.cells,Nat.add_zero]
   exact ⟨_,rfl,lent_exp (lent_rows (n:=H.length) (ys:=[ExpD.cells (.mk k n u t q ks ms),ExpD.cells (.mk k' n' u' t' q' ks' ms')]) (by omega) (by rw [qxk]; rfl) (by intro y hy; simp at hy; rcases hy with rfl | rfl <;> rfl)) (by rw [ExpD.cellsA]; exact .nl)⟩
theorem sOps1C {ex:PM ExpD} (hr:PF (pvS T lim) T e 145 [iV 2] (sOps2 T T.length ex) expV) (sr:StayM T ex):PF (pvS T lim) T e 145 [iV 1] (sOps1 T T.length ex) expV:=by
 have sA:=stay_sOps2 (N:=T.length) hT sr
 refine pf_of (pvS_tf T lim) fun H p s hp hs=>?_
 have ew:wr .i64 (1+1)=2:=by decide
 refine call145 (by simp) ?_
 simp only [go_sem,simprocAttr,mc145,mr145,ew]
 refine acall_pure (hr H _ p s hp hs) ?_
 have hs1:=hs.run sA
 rcases hq:sOps2 T T.length ex s with ⟨⟨k,n,u,t,q,ks,ms⟩,s1⟩
 rw [hq] at hs1
 rw [show sOps1 T T.length ex s=onceG T (opT T (sgs 1)) (sOps2 T T.length ex) (.mk k n u t q ks ms) s1 by unfold sOps1; rw [bindP_e,hq]; rfl]
 unfold onceG
 rw [nowP_e]
 simp only [go_sem,simprocAttr,ExpD.cells]
 refine ⟨Unit,[0,1,4,5],fun _ st=>st=⟨[(0,.ptr p 0),(1,iV 1),(4,.ptr H.length 0),(5,.ptr (H.length+1) 0)],[],H.set p (pvS T lim s1)++[ZE,.var [iV k,sV n,iV u,sV t,iV q,.p (.l (ExpD.cellsL ks)),.p (.l (ExpD.cellsA ms))]]⟩,fun _=>0,⟨(),?_⟩,?_⟩
 ·simp only [go_sem,simprocAttr]
 ·rintro _ _ rfl
  simp only [go_sem,simprocAttr]
  refine acall_pure (sSign hT hTl (L:=1) (by decide) (by decide) H _ p s1 hp hs1) ?_
  cases hg:opT T (sgs 1) s1
  ·rw [iteG_f hg]
   simp only [go_sem,simprocAttr,hg]
   exact ⟨_,rfl,lentP (tf_av (ExpD.cells (.mk k n u t q ks ms)))⟩
  ·have hk8:=(only_opT _ s1 hg).2
   have hsa:=hs1.adv hT hk8
   rw [iteG_t hg]
   simp only [go_sem,simprocAttr,hg]
   refine acall_pure (sNow H _ p s1 hp hs1) ?_
   simp only [go_sem,simprocAttr,Tok.cells,qp hp,pvS,qq hp,ws hTl hs1]
   generalize hx:tokA T s1=x
   obtain ⟨tk,tt,tn,tp⟩:=x
   have fold:AO.var [ptV T,iV (s1.i+1:Nat),iV s1.nest,iV s1.d,iV lim,iV s1.c,iV s1.ps]=pvS T lim (adv s1):=rfl
   rw [fold]
   refine ⟨_,Qp.hx hp _ _,?_⟩
   simp only [go_sem,simprocAttr,ew]
   refine pcall_chain _ _ (by simp) (Qp.hx hp _ _) (hr.chain hp hsa) ?_
   rw [bindP_e]
   rcases hq2:sOps2 T T.length ex (adv s1) with ⟨⟨k',n',u',t',q',ks',ms'⟩,s2⟩
   simp only [go_sem,simprocAttr,ExpD.cells,Nat.add_zero]
   exact ⟨_,rfl,lent_exp (lent_rows (n:=H.length) (ys:=[ExpD.cells (.mk k n u t q ks ms),ExpD.cells (.mk k' n' u' t' q' ks' ms')]) (by omega) (by rw [qxk]; rfl) (by intro y hy; simp at hy; rcases hy with rfl | rfl <;> rfl)) (by rw [ExpD.cellsA]; exact .nl)⟩
end
abbrev armV (t:ArmD):AV:=.st (t.cells.map .p)
theorem armE (t:ArmD):t.cells.length=12:=by
 obtain ⟨p,x⟩:=t
 rw [ArmD.cells,List.length_append,patE5,expE7]
def sIn (T:List Tok) (N:Nat) (pat:PM PatD) (ex:PM ExpD):PM ExpD:=nowP T fun t =>
 iteG (isT T [108,101,116]) (letP T ex t.p) <| iteG (isT T [102,117,110]) (funP T ex t.p) <| iteG (isT T [105,102]) (ifP T ex t.p) <|
 iteG (isT T [109,97,116,99,104]) (sMatch T N pat ex t.p) (sOps1 T N ex)
section
variable {T:List Tok} {lim e:Nat} (hT:ToksOk T) (hTl:T.length<=1073741825)
include hT hTl
theorem stay_sIn {pat:PM PatD} {ex:PM ExpD} (hpat:StayM T pat) (hex:StayM T ex):StayM T (sIn T T.length pat ex) :=
 (StayM.now fun _=>(StayM.iteG hT (only_isT T _) (stay_letP hT hex) (StayM.iteG hT (only_isT T _) (stay_funP hT hex) (StayM.iteG hT (only_isT T _) (stay_ifP hT hex) (StayM.iteG hT (only_isT T _) (stay_sMatch hT hpat hex) (stay_sOps1 hT hex))))))
theorem sArmC {pat:PM PatD} {ex:PM ExpD} (hP:PF (pvS T lim) T e 169 [] pat patV) (sP:StayM T pat) (hr:PF (pvS T lim) T e 34 [] ex expV) (sr:StayM T ex):PF (pvS T lim) T e 144 [] (armP T pat ex) armV:=by
 refine pf_of (pvS_tf T lim) fun H p s hp hs=>?_
 refine call144 (by simp) ?_
 simp only [go_sem,simprocAttr,mc144,mr144]
 refine acall_pure (hP H _ p s hp hs) ?_
 have hs1:=hs.run sP
 rcases hq:pat s with ⟨⟨k,n,u,q,ks⟩,s1⟩
 rw [hq] at hs1
 simp only [go_sem,simprocAttr,PatD.cells]
 refine acall_pure (sWant hTl [45,62] H _ p s1 hp hs1) ?_
 have hs2:=hs1.step (stay_want hT [45,62])
 simp only [go_sem,simprocAttr]
 refine acall_pure (hr H _ p _ hp hs2) ?_
 rcases hq2:ex (wantP T [45,62] s1) with ⟨⟨k',n',u',t',q',ks',ms'⟩,s3⟩
 have eq0:armP T pat ex s=(.mk (.mk k n u q ks) (.mk k' n' u' t' q' ks' ms'),s3):=by unfold armP; rw [bindP_e,hq,stepP_e,bindP_e,hq2]; rfl
 rw [eq0]
 simp only [go_sem,simprocAttr,ExpD.cells]
 exact ⟨_,rfl,lentP (tf_av (ArmD.cells (.mk (.mk k n u q ks) (.mk k' n' u' t' q' ks' ms'))))⟩
theorem sInC {pat:PM PatD} {ex:PM ExpD} (hP:PF (pvS T lim) T e 169 [] pat patV) (sP:StayM T pat) (hr:PF (pvS T lim) T e 34 [] ex expV) (sr:StayM T ex):PF (pvS T lim) T e 96 [] (sIn T T.length pat ex) expV:=by
 have hO:=sOps1C hT hTl (sOps2C hT hTl (sOps3C hT hTl (sOps4C hT hTl (sOps5C hT hTl hr sr) sr) sr) sr) sr
 have hArm:=sArmC hT hTl hP sP hr sr
 have sArm:=stay_armP hT sP sr
 refine pf_of (pvS_tf T lim) fun H p s hp hs=>?_
 refine call96 (by simp) ?_
 simp only [go_sem,simprocAttr,mc96,mr96]
 refine acall_pure (sNow H _ p s hp hs) ?_
 unfold sIn
 rw [nowP_e]
 simp only [go_sem,simprocAttr,Tok.cells]
 generalize (tokA T s).p=tp
 refine acall_pure (sHas hTl [108,101,116] H _ p s hp hs) ?_
 unfold takeM
 cases c1:isT T [108,101,116] s
 rotate_left
 ·rw [iteG_t c1]
  have hs1:=hs.adv hT (isT_k c1).2
  simp only [go_sem,simprocAttr,c1]
  refine acall_pure (sHas hTl [114,101,99] H _ p _ hp hs1) ?_
  unfold letP takeM
  cases c2:isT T [114,101,99] (adv s)
  ·rw [iteG_f c2]
   simp only [go_sem,simprocAttr,c2]
   refine acall_pure (sWord hTl 3 H _ p _ hp hs1) ?_
   have hs2:=hs1.run (StayM.word hT (k:=3) (by decide))
   rcases hq2:wordP T 3 (adv s) with ⟨w1,s2⟩
   rw [hq2] at hs2
   simp only [go_sem,simprocAttr]
   refine acall_pure (sWant hTl [61] H _ p _ hp hs2) ?_
   have hs3w:=hs2.step (stay_want hT [61])
   simp only [go_sem,simprocAttr]
   refine ⟨_,Qp.hx hp _ _,?_⟩
   simp only [go_sem,simprocAttr]
   refine pcall_chain _ _ (by simp) (Qp.hx hp _ _) (hr.chain hp hs3w) ?_
   have hs4:=hs3w.run sr
   rcases hq4:ex (wantP T [61] s2) with ⟨⟨k1,n1,u1,t1,q1,ks1,ms1⟩,s4⟩
   rw [hq4] at hs4
   simp only [go_sem,simprocAttr,ExpD.cells,Nat.add_zero]
   refine ⟨by intro r hr; simp at hr; subst hr; rfl,?_⟩
   refine acall_pure (sWant hTl [105,110] H _ p _ hp hs4) ?_
   have hs5w:=hs4.step (stay_want hT [105,110])
   simp only [go_sem,simprocAttr]
   refine ⟨_,Qp.hx hp _ _,?_⟩
   simp only [go_sem,simprocAttr]
   refine pcall_chain _ _ (by simp) (Qp.hx hp _ _) (hr.chain hp hs5w) ?_
   have hs6:=hs5w.run sr
   rcases hq6:ex (wantP T [105,110] s4) with ⟨⟨k2,n2,u2,t2,q2,ks2,ms2⟩,s6⟩
   rw [hq6] at hs6
   simp only [go_sem,simprocAttr,ExpD.cells,Nat.add_zero]
   refine ⟨by intro r hr; simp at hr; subst hr; rfl,?_⟩
   simp only [bindP_e,stepP_e,retP_e,hq2,hq4,hq6]
   exact ⟨_,rfl,lent_exp (lent_rows (n:=H.length) (ys:=[ExpD.cells (.mk k1 n1 u1 t1 q1 ks1 ms1),ExpD.cells (.mk k2 n2 u2 t2 q2 ks2 ms2)]) (by omega) (by rw [qxk]; rfl) (by intro y hy; simp at hy; rcases hy with rfl | rfl <;> rfl)) (by rw [ExpD.cellsA]; exact .nl)⟩
  ·rw [iteG_t c2]
   have hs1:=hs1.adv hT (isT_k c2).2
   simp only [go_sem,simprocAttr,c2]
   refine acall_pure (sWord hTl 3 H _ p _ hp hs1) ?_
   have hs2:=hs1.run (StayM.word hT (k:=3) (by decide))
   rcases hq2:wordP T 3 (adv (adv s)) with ⟨w1,s2⟩
   rw [hq2] at hs2
   simp only [go_sem,simprocAttr]
   refine acall_pure (sWord hTl 3 H _ p _ hp hs2) ?_
   have hs3:=hs2.run (StayM.word hT (k:=3) (by decide))
   rcases hq3:wordP T 3 s2 with ⟨w2,s3⟩
   rw [hq3] at hs3
   simp only [go_sem,simprocAttr]
   refine acall_pure (sWant hTl [61] H _ p _ hp hs3) ?_
   have hs4w:=hs3.step (stay_want hT [61])
   simp only [go_sem,simprocAttr]
   refine ⟨_,Qp.hx hp _ _,?_⟩
   simp only [go_sem,simprocAttr]
   refine pcall_chain _ _ (by simp) (Qp.hx hp _ _) (hr.chain hp hs4w) ?_
   have hs5:=hs4w.run sr
   rcases hq5:ex (wantP T [61] s3) with ⟨⟨k1,n1,u1,t1,q1,ks1,ms1⟩,s5⟩
   rw [hq5] at hs5
   simp only [go_sem,simprocAttr,ExpD.cells,Nat.add_zero]
   refine ⟨by intro r hr; simp at hr; subst hr; rfl,?_⟩
   refine acall_pure (sWant hTl [105,110] H _ p _ hp hs5) ?_
   have hs6w:=hs5.step (stay_want hT [105,110])
   simp only [go_sem,simprocAttr]
   refine ⟨_,Qp.hx hp _ _,?_⟩
   simp only [go_sem,simprocAttr]
   refine pcall_chain _ _ (by simp) (Qp.hx hp _ _) (hr.chain hp hs6w) ?_
   have hs7:=hs6w.run sr
   rcases hq7:ex (wantP T [105,110] s5) with ⟨⟨k2,n2,u2,t2,q2,ks2,ms2⟩,s7⟩
   rw [hq7] at hs7
   simp only [go_sem,simprocAttr,ExpD.cells,Nat.add_zero]
   refine ⟨by intro r hr; simp at hr; subst hr; rfl,?_⟩
   simp only [bindP_e,stepP_e,retP_e,hq2,hq3,hq5,hq7]
   exact ⟨_,rfl,lent_exp (lent_rows (n:=H.length) (ys:=[ExpD.cells (.mk k1 n1 u1 t1 q1 ks1 ms1),ExpD.cells (.mk k2 n2 u2 t2 q2 ks2 ms2)]) (by omega) (by rw [qxk]; rfl) (by intro y hy; simp at hy; rcases hy with rfl | rfl <;> rfl)) (by rw [ExpD.cellsA]; exact .nl)⟩
 rw [iteG_f c1]
 simp only [go_sem,simprocAttr,c1]
 refine acall_pure (sHas hTl [102,117,110] H _ p s hp hs) ?_
 unfold takeM
 cases c2:isT T [102,117,110] s
 rotate_left
 ·rw [iteG_t c2]
  have hs1:=hs.adv hT (isT_k c2).2
  unfold funP
  simp only [go_sem,simprocAttr,c2]
  refine acall_pure (sWord hTl 3 H _ p _ hp hs1) ?_
  have hs2:=hs1.run (StayM.word hT (k:=3) (by decide))
  rcases hq2:wordP T 3 (adv s) with ⟨w1,s2⟩
  rw [hq2] at hs2
  simp only [go_sem,simprocAttr]
  refine acall_pure (sWant hTl [45,62] H _ p _ hp hs2) ?_
  have hs3w:=hs2.step (stay_want hT [45,62])
  simp only [go_sem,simprocAttr]
  refine ⟨_,Qp.hx hp _ _,?_⟩
  simp only [go_sem,simprocAttr]
  refine pcall_chain _ _ (by simp) (Qp.hx hp _ _) (hr.chain hp hs3w) ?_
  have hs4:=hs3w.run sr
  rcases hq4:ex (wantP T [45,62] s2) with ⟨⟨k1,n1,u1,t1,q1,ks1,ms1⟩,s4⟩
  rw [hq4] at hs4
  simp only [go_sem,simprocAttr,ExpD.cells,Nat.add_zero]
  refine ⟨by intro r hr; simp at hr; subst hr; rfl,?_⟩
  simp only [bindP_e,stepP_e,retP_e,hq2,hq4]
  exact ⟨_,rfl,lent_exp (lent_rows (n:=H.length) (ys:=[ExpD.cells (.mk k1 n1 u1 t1 q1 ks1 ms1)]) (by omega) (by rw [qxk]; rfl) (by intro y hy; simp at hy; subst hy; rfl)) (by rw [ExpD.cellsA]; exact .nl)⟩
 rw [iteG_f c2]
 simp only [go_sem,simprocAttr,c2]
 refine acall_pure (sHas hTl [105,102] H _ p s hp hs) ?_
 unfold takeM
 cases c3:isT T [105,102] s
 rotate_left
 ·rw [iteG_t c3]
  have hs1:=hs.adv hT (isT_k c3).2
  unfold ifP
  simp only [go_sem,simprocAttr,c3]
  refine ⟨_,Qp.hx hp _ _,?_⟩
  simp only [go_sem,simprocAttr]
  refine pcall_chain _ _ (by simp) (Qp.hx hp _ _) (hr.chain hp hs1) ?_
  have hs2:=hs1.run sr
  rcases hq2:ex (adv s) with ⟨⟨k1,n1,u1,t1,q1,ks1,ms1⟩,s2⟩
  rw [hq2] at hs2
  simp only [go_sem,simprocAttr,ExpD.cells,Nat.add_zero]
  refine ⟨by intro r hr; simp at hr; subst hr; rfl,?_⟩
  refine acall_pure (sWant hTl [116,104,101,110] H _ p _ hp hs2) ?_
  have hs3w:=hs2.step (stay_want hT [116,104,101,110])
  simp only [go_sem,simprocAttr]
  refine ⟨_,Qp.hx hp _ _,?_⟩
  simp only [go_sem,simprocAttr]
  refine pcall_chain _ _ (by simp) (Qp.hx hp _ _) (hr.chain hp hs3w) ?_
  have hs4:=hs3w.run sr
  rcases hq4:ex (wantP T [116,104,101,110] s2) with ⟨⟨k2,n2,u2,t2,q2,ks2,ms2⟩,s4⟩
  rw [hq4] at hs4
  simp only [go_sem,simprocAttr,ExpD.cells,Nat.add_zero]
  refine ⟨by intro r hr; simp at hr; subst hr; rfl,?_⟩
  refine acall_pure (sWant hTl [101,108,115,101] H _ p _ hp hs4) ?_
  have hs5w:=hs4.step (stay_want hT [101,108,115,101])
  simp only [go_sem,simprocAttr]
  refine ⟨_,Qp.hx hp _ _,?_⟩
  simp only [go_sem,simprocAttr]
  refine pcall_chain _ _ (by simp) (Qp.hx hp _ _) (hr.chain hp hs5w) ?_
  have hs6:=hs5w.run sr
  rcases hq6:ex (wantP T [101,108,115,101] s4) with ⟨⟨k3,n3,u3,t3,q3,ks3,ms3⟩,s6⟩
  rw [hq6] at hs6
  simp only [go_sem,simprocAttr,ExpD.cells,Nat.add_zero]
  refine ⟨by intro r hr; simp at hr; subst hr; rfl,?_⟩
  simp only [bindP_e,stepP_e,retP_e,hq2,hq4,hq6]
  exact ⟨_,rfl,lent_exp (lent_rows (n:=H.length) (ys:=[ExpD.cells (.mk k1 n1 u1 t1 q1 ks1 ms1),ExpD.cells (.mk k2 n2 u2 t2 q2 ks2 ms2),ExpD.cells (.mk k3 n3 u3 t3 q3 ks3 ms3)]) (by omega) (by rw [qxk]; rfl) (by intro y hy; simp at hy; rcases hy with rfl | rfl | rfl <;> rfl)) (by rw [ExpD.cellsA]; exact .nl)⟩
 rw [iteG_f c3]
 simp only [go_sem,simprocAttr,c3]
 refine acall_pure (sHas hTl [109,97,116,99,104] H _ p s hp hs) ?_
 unfold takeM
 cases c4:isT T [109,97,116,99,104] s
 ·rw [iteG_f c4]
  simp only [go_sem,simprocAttr,c4]
  refine acall_pure (hO H _ p s hp hs) ?_
  rcases hq:sOps1 T T.length ex s with ⟨⟨k,n,u,t,q,ks,ms⟩,s1⟩
  simp only [go_sem,simprocAttr,ExpD.cells]
  exact ⟨_,rfl,lentP (tf_av (ExpD.cells (.mk k n u t q ks ms)))⟩
 ·rw [iteG_t c4]
  have hs1:=hs.adv hT (isT_k c4).2
  unfold sMatch
  simp only [go_sem,simprocAttr,c4]
  refine ⟨_,Qp.hx hp _ _,?_⟩
  simp only [go_sem,simprocAttr]
  refine pcall_chain _ _ (by simp) (Qp.hx hp _ _) (hr.chain hp hs1) ?_
  have hs2:=hs1.run sr
  rcases hq2:ex (adv s) with ⟨⟨k1,n1,u1,t1,q1,ks1,ms1⟩,s2⟩
  rw [hq2] at hs2
  simp only [go_sem,simprocAttr,ExpD.cells,Nat.add_zero]
  refine ⟨by intro r hr; simp at hr; subst hr; rfl,?_⟩
  refine acall_pure (sWant hTl [119,105,116,104] H _ p _ hp hs2) ?_
  have hs3w:=hs2.step (stay_want hT [119,105,116,104])
  simp only [go_sem,simprocAttr]
  refine acall_pure (sWant hTl [124] H _ p _ hp hs3w) ?_
  have hs4w:=hs3w.step (stay_want hT [124])
  simp only [go_sem,simprocAttr]
  refine ⟨_,Qp.hx hp _ _,?_⟩
  simp only [go_sem,simprocAttr]
  refine pcall_chain _ _ (by simp) (Qp.hx hp _ _) (hArm.chain hp hs4w) ?_
  have hs5:=hs4w.run sArm
  rcases hq5:armP T pat ex (wantP T [124] (wantP T [119,105,116,104] s2)) with ⟨⟨⟨pk,pn,pu,pq,pks⟩,⟨ak,an,au,at',aq,aks,ams⟩⟩,s5⟩
  rw [hq5] at hs5
  simp only [go_sem,simprocAttr,ArmD.cells,PatD.cells,ExpD.cells,Nat.add_zero]
  refine ⟨by intro r hr; simp at hr; subst hr; rfl,?_⟩
  rcases hR:many (isT T [124]) (advP (armP T pat ex)) T.length s5 with ⟨Rl,Rs⟩
  simp only [bindP_e,stepP_e,retP_e,armsP,hq2,hq5,hR]
  refine ⟨Nat × PS × List ArmD × AV × List AO,[0,2,3],fun x st=>(Lp (pvS T lim) T e H p [0,1,3] 12 ArmD.cells (isT T [124]) (advP (armP T pat ex)) ((.mk (.mk pk pn pu pq pks) (.mk ak an au at' aq aks ams)) :: Rl) Rs x.1 x.2.1 x.2.2.1 x.2.2.2.1 x.2.2.2.2/\x.2.2.2.2[0]?=some ZE/\x.2.2.2.2[1]?=some (.var [iV 13,sV [],iV 0,sV [],iV tp,.gs (H.length+3) 0 0 1,x.2.2.2.1])/\x.2.2.2.2[3]?=some (.rows 7 0 [[iV k1,sV n1,iV u1,sV t1,iV q1,.p (.l (ExpD.cellsL ks1)),.p (.l (ExpD.cellsA ms1))]])) /\
    st=⟨[(0,.ptr p 0),(2,.ptr H.length 0),(3,.ptr (H.length+1) 0)],[],H.set p (pvS T lim x.2.1)++x.2.2.2.2⟩,fun x=>T.length - x.2.1.i,⟨(T.length,s5,[(.mk (.mk pk pn pu pq pks) (.mk ak an au at' aq aks ams))],.gs (H.length+5) 0 0 1,[ZE,.var [iV 13,sV [],iV 0,sV [],iV tp,.gs (H.length+3) 0 0 1,.gs (H.length+5) 0 0 1],.rows 7 0 [[iV k1,sV n1,iV u1,sV t1,iV q1,.p (.l (ExpD.cellsL ks1)),.p (.l (ExpD.cellsA ms1))]],.rows 7 0 [[iV k1,sV n1,iV u1,sV t1,iV q1,.p (.l (ExpD.cellsL ks1)),.p (.l (ExpD.cellsA ms1))]],.rows 12 0 [[iV pk,sV pn,iV pu,iV pq,.p (.l (PatD.cellsL pks)),iV ak,sV an,iV au,sV at',iV aq,.p (.l (ExpD.cellsL aks)),.p (.l (ExpD.cellsA ams))]],.rows 12 0 [[iV pk,sV pn,iV pu,iV pq,.p (.l (PatD.cellsL pks)),iV ak,sV an,iV au,sV at',iV aq,.p (.l (ExpD.cellsL aks)),.p (.l (ExpD.cellsA ams))]]]),?_⟩,?_⟩
  ·simp only [go_sem,simprocAttr]
   exact Lp.start1 hs5 hR (by simp) rfl (by decide)
  ·rintro ⟨j,s',acc,a,A⟩ _ ⟨⟨hL,i8,i9,i10⟩,rfl⟩
   simp only at hL i8 i9 i10 ⊢
   simp only [go_sem,simprocAttr]
   refine acall_pure (sHas hTl [124] H _ p s' hp hL.ok) ?_
   unfold takeM
   cases hg:isT T [124] s'
   ·obtain ⟨rfl,rfl⟩:=hL.stop hg
    have hz:∀ o,(A.set 0 o)[0]?=some o:=fun o=>set_get i8
    simp only [go_sem,simprocAttr,hg]
    refine acall_pure (sWant hTl [101,110,100] H _ p s' hp hL.ok) ?_
    simp only [go_sem,simprocAttr,i9,i8,hz]
    exact ⟨_,rfl,lent_exp (lent_rows (n:=H.length) (ys:=[ExpD.cells (.mk k1 n1 u1 t1 q1 ks1 ms1)]) (by omega) (by rw [qxk]; exact get_set i10 (by decide)) (by intro y hy; simp at hy; subst hy; rfl)) (by rw [ExpD.cellsA_eq]; exact hL.lent (set_keep (by decide)) armE)⟩
   ·obtain ⟨j,rfl⟩:=hL.succ (only_isT T _) hg
    have hsa:=hL.ok.adv hT (isT_k hg).2
    have hs2:=hsa.run sArm
    have hgt:=(Stay.adv hT sArm hL.ok.1 (isT_k hg).2).1
    simp only [go_sem,simprocAttr,hg]
    refine ⟨_,Qp.hx hp _ _,?_⟩
    simp only [go_sem,simprocAttr,i9]
    refine pcall_chain _ _ (by simp) (Qp.hx hp _ _) (hArm.chain hp hsa) ?_
    rcases hq9:armP T pat ex (adv s') with ⟨⟨⟨bk,bn,bu,bq,bks⟩,⟨ck,cn,cu,ct,cq,cks,cms⟩⟩,s9⟩
    rw [hq9] at hs2 hgt
    simp only [go_sem,simprocAttr,ArmD.cells,PatD.cells,ExpD.cells,qxa]
    refine ⟨by intro r hr; simp at hr; subst hr; rfl,?_⟩
    refine hL.app (fun k o h=>get_ext h _) hTl (by decide) ?_
    intro id ver A' k1' k2' k3'
    have j0:=(k3' 0 (by decide)).trans i8
    have j1:=(k3' 1 (by decide)).trans i9
    have j3:=(k3' 3 (by decide)).trans i10
    have hlt3:=get_lt j3
    have hz:∀ o,(A'.set 1 o)[1]?=some o:=fun o=>set_get j1
    simp only [go_sem,simprocAttr,j1]
    exact ⟨(j,s9,acc++[.mk (.mk bk bn bu bq bks) (.mk ck cn cu ct cq cks cms)],.gs id ver 0 (acc.length+1),A'.set 1 (.var [iV 13,sV [],iV 0,sV [],iV tp,.gs (H.length+3) 0 0 1,.gs id ver 0 (acc.length+1)])),⟨⟨hL.next (only_isT T _) hg hq9 hs2 hgt k1' k2' (set_keep (by decide)) (by simp; omega),get_set j0 (by decide),hz _,get_set j3 (by decide)⟩,rfl⟩,by have h1:s'.i<s9.i:=hgt; have:=hL.ok.1; simp only; omega⟩
theorem sExpC (hl:lim<=1099511627776) (he:e<=lim) {pat:PM PatD} {ex:PM ExpD} (hP:e<lim->PF (pvS T lim) T (e+1) 169 [] pat patV) (sP:StayM T pat) (hr:e<lim->PF (pvS T lim) T (e+1) 34 [] ex expV) (sr:StayM T ex):PF (pvS T lim) T e 34 [] (sExpB T T.length lim pat ex) expV:=by
 have sA:=stay_sIn hT hTl sP sr
 refine pf_of (pvS_tf T lim) fun H p s hp hs=>?_
 obtain ⟨o1,o2,o3⟩:=opens_ok (lim:=lim) hT hTl hs
 have hi:=hs.1
 have hn:=hs.2
 refine call34 (by simp) ?_
 simp only [go_sem,simprocAttr,mc34,mr34]
 refine acall_pure (sOpens hl he H _ p s hp hs) ?_
 have eq0:sExpB T T.length lim pat ex s=opnP T lim exp0 (sIn T T.length pat ex) s:=rfl
 rw [eq0]
 unfold opnP
 cases hc:decide ((opensP T lim s).c=0)
 ·rw [if_neg (of_decide_eq_false hc)]
  simp only [go_sem,simprocAttr,hc]
  refine acall_pure (sShut hl H _ p (opensP T lim s) hp (by omega) (by omega) (by omega)) ?_
  simp only [go_sem,simprocAttr]
  exact ⟨_,rfl,lent_exp (by rw [ExpD.cellsL]; exact .nl) (by rw [ExpD.cellsA]; exact .nl)⟩
 ·obtain ⟨hs1,hne⟩:=o3 (of_decide_eq_true hc)
  have hA:=sInC hT hTl (hP (by omega)) sP (hr (by omega)) sr
  rw [if_pos (of_decide_eq_true hc)]
  simp only [go_sem,simprocAttr,hc]
  refine acall_pure (hA H _ p _ hp hs1) ?_
  have hs2:=hs1.run sA
  have st2:=sA _ hs1.1
  rcases hq:sIn T T.length pat ex (opensP T lim s) with ⟨⟨k,n,u,t,q,ks,ms⟩,s2⟩
  rw [hq] at hs2 st2
  have hn2:s2.nest=s.nest+1:=st2.2.2.2.trans o2
  simp only [go_sem,simprocAttr,ExpD.cells]
  refine acall_pure (sShut hl H _ p s2 hp hs2.1 (by omega) (by omega)) ?_
  simp only [go_sem,simprocAttr]
  exact ⟨_,rfl,lentP (tf_av (ExpD.cells (.mk k n u t q ks ms)))⟩
theorem sExpK (hl:lim<=1099511627776):∀ k e,e+k=lim+1->0<k->PF (pvS T lim) T e 34 [] (sExp T T.length lim k) expV
 | 0,e,_,h=>absurd h (by omega)
 | k+1,e,h,_=>sExpC hT hTl hl (by omega) (fun hlt=>sPatK hT hTl hl k (e+1) (by omega) (by omega)) (stay_sPat hT lim k) (fun hlt=>sExpK hl k (e+1) (by omega) (by omega)) (stay_sExp hT lim k)
end
theorem qyk {H:List AO} {n:Nat} (hn:H.length=n) (A:List AO) (p:Nat) (c:AO) (k:Nat):(H.set p c++A)[n+k]?=A[k]?:=by subst hn; exact qxk H A p c k
theorem qy0 {H:List AO} {n:Nat} (hn:H.length=n) (A:List AO) (p:Nat) (c:AO):(H.set p c++A)[n]?=A[0]?:=qyk hn A p c 0
theorem ryk {H:List AO} {n:Nat} (hn:H.length=n) (A:List AO) (p:Nat) (c:AO) (k:Nat) (o:AO):(H.set p c++A).set (n+k) o=H.set p c++A.set k o:=by subst hn; exact qsk H A p c k o
theorem ry0 {H:List AO} {n:Nat} (hn:H.length=n) (A:List AO) (p:Nat) (c:AO) (o:AO):(H.set p c++A).set n o=H.set p c++A.set 0 o:=ryk hn A p c 0 o
theorem qdk (n:Nat) (A:List AO) (k:Nat):(List.replicate n AO.dead++A)[n+k]?=A[k]?:=by
 have:=gxk (List.replicate n AO.dead) A k
 rwa [List.length_replicate] at this
theorem qd0 (n:Nat) (A:List AO):(List.replicate n AO.dead++A)[n]?=A[0]?:=qdk n A 0
attribute [go_sem] qdk qd0 List.length_replicate
theorem hxd {H:List AO} {n:Nat} (hn:H.length=n) (p:Nat) (c:AO) (A:List AO):Hext (List.replicate n .dead++A) (H.set p c++A):=fun id o h hd=>by
 rcases Nat.lt_or_ge id n with hi | hi
 ·rw [List.getElem?_append_left (by simpa using hi)] at h
  simp [hi] at h
  exact (hd h.symm).elim
 ·obtain ⟨k,rfl⟩:=Nat.le.dest hi
  rw [qdk] at h
  rw [qyk hn]; exact h
def Kp (b:Nat) (H K:List AO):Prop:=K.length=H.length/\(∀ i,i<b->K[i]?=H[i]?)/\∀ (i:Nat) o,H[i]?=some o->o≠.rsv->K[i]?=some o
theorem Kp.rfl {b:Nat} {H:List AO}:Kp b H H:=⟨Eq.refl _,fun _ _=>Eq.refl _,fun _ _ h _=>h⟩
theorem Kp.trans {b:Nat} {H K L:List AO} (h:Kp b H K) (k:Kp b K L):Kp b H L :=
 ⟨k.1.trans h.1,fun i hi=>(k.2.1 i hi).trans (h.2.1 i hi),fun i o ho hr=>k.2.2 i o (h.2.2 i o ho hr) hr⟩
def Fr (b:Nat) (H:List AO) (N:Nat):Prop:=∃ F:List Nat,F.Nodup/\F.length=N/\∀ i∈F,b<=i/\H[i]?=some .rsv
def Env (b u:Nat) (X:List AO) (ts:List TV) (cs:List AV):Prop:=∃ ids,OwnCs X ts cs ids/\ids.Nodup/\ids.length=nC ts/\∀ i∈ids,b<=i/\i<u
theorem Env.nil (b u:Nat) (X:List AO):Env b u X [] []:=⟨[],OwnCs.nil X,List.nodup_nil,by rw [nC]; rfl,by simp⟩
theorem Env.len {b u:Nat} {X:List AO} {ts:List TV} {cs:List AV} (h:Env b u X ts cs):cs.length=ts.length:=by
 obtain ⟨ids,h1,_⟩:=h; exact h1.len
theorem Env.mv {b u:Nat} {X Y:List AO} {ts:List TV} {cs:List AV} (h:Env b u X ts cs) (hk:∀ (i sz ver:Nat) rs,b<=i->i<u->X[i]?=some (.rows sz ver rs)->Y[i]?=some (.rows sz ver rs)):Env b u Y ts cs:=by
 obtain ⟨ids,h1,h2,h3,h4⟩:=h
 refine ⟨ids,h1.keep fun i hi o ho=>?_,h2,h3,h4⟩
 obtain ⟨sz,ver,rs,hr⟩:=h1.rows i hi
 rw [hr] at ho; cases ho
 exact hk i sz ver rs (h4 i hi).1 (h4 i hi).2 hr
theorem Env.base {b n:Nat} {H A A':List AO} {p:Nat} {c c':AO} {ts:List TV} {cs:List AV} (h:Env b n (H.set p c++A) ts cs) (hn:H.length=n) (hp:p<b):Env b n (H.set p c'++A') ts cs :=
 h.mv fun i sz ver rs h1 h2 h3=>by
  rw [List.getElem?_append_left (by simp; omega),List.getElem?_set_ne (by omega)] at h3 ⊢
  exact h3
theorem Env.q {b u n:Nat} {H A A':List AO} {p:Nat} {c c':AO} {ts:List TV} {cs:List AV} (h:Env b u (H.set p c++A) ts cs) (hn:H.length=n) (hp:p<b)
  (hA:∀ (k sz ver:Nat) rs,A[k]?=some (.rows sz ver rs)->A'[k]?=some (.rows sz ver rs)):Env b u (H.set p c'++A') ts cs :=
 h.mv fun i sz ver rs h1 h2 h3=>by
  rcases Nat.lt_or_ge i n with hi | hi
  ·rw [List.getElem?_append_left (by simp; omega),List.getElem?_set_ne (by omega)] at h3 ⊢
   exact h3
  ·obtain ⟨k,rfl⟩:=Nat.le.dest hi
   rw [qyk hn] at h3 ⊢
   exact hA k sz ver rs h3
theorem Env.pc {b u:Nat} {X:List AO} {ts:List TV} {cs:List AV} (h:Env b u X ts cs) (x:PV):Env b u X (.p x :: ts) (.p x :: cs):=by
 obtain ⟨ids,h1,h2,h3,h4⟩:=h
 exact ⟨ids,h1.pc,h2,by rw [h3,nC,nT,Nat.zero_add],h4⟩
theorem ownC_split {X : List AO} : ∀ {t1 t2 : List TV} {cs : List AV} {ids : List Nat}, OwnCs X (t1 ++ t2) cs ids → ∃ c1 c2 i j, cs = c1 ++ c2 ∧ ids = i ++ j ∧ OwnCs X t1 c1 i ∧ OwnCs X t2 c2 j
  | [], t2, cs, ids, h => ⟨[], cs, [], ids, rfl, rfl, OwnCs.nil X, h⟩
  | t :: t1, t2, cs, ids, h => by
    rw [List.cons_append, OwnCs] at h
    obtain ⟨a, cs', i, js, rfl, rfl, h1, h2⟩ := h
    obtain ⟨c1, c2, i1, j1, rfl, rfl, h3, h4⟩ := ownC_split h2
    exact ⟨a :: c1, c2, i ++ i1, j1, rfl, by rw [List.append_assoc], OwnCs.cons h1 h3, h4⟩
theorem ownC_app {X : List AO} : ∀ {t1 t2 : List TV} {c1 c2 : List AV} {i j : List Nat}, OwnCs X t1 c1 i → OwnCs X t2 c2 j → OwnCs X (t1 ++ t2) (c1 ++ c2) (i ++ j)
  | [], t2, c1, c2, i, j, h, k => by rw [OwnCs] at h; obtain ⟨rfl, rfl⟩ := h; exact k
  | t :: t1, t2, c1, c2, i, j, h, k => by
    rw [OwnCs] at h
    obtain ⟨a, cs', i', js, rfl, rfl, h1, h2⟩ := h
    rw [List.append_assoc]
    exact OwnCs.cons h1 (ownC_app h2 k)
theorem nC_app:∀ (a b:List TV),nC (a++b)=nC a+nC b
 | [],b=>by rw [nC]; simp
 | t :: a,b=>by rw [List.cons_append,nC,nC,nC_app a b]; omega
theorem nR_flat:∀ (a:List (List TV)),nC a.flatten=nR a
 | []=>by rw [nR]; simp [nC]
 | t :: a=>by rw [List.flatten_cons,nC_app,nR,nR_flat a]
theorem nK_le (l:List (List TV)):nR l<=nK l:=by
 cases l with
 | nil=>rw [nR]; omega
 | cons r l=>rw [nR,nK]; omega
theorem rows_flat {X : List AO} {sz : Nat} : ∀ {rows : List (List TV)} {rs : List (List AV)} {ids : List Nat}, OwnCs X rows.flatten rs.flatten ids → rs.length = rows.length → (∀ r ∈ rows, r.length = sz) → (∀ r ∈ rs, r.length = sz) → OwnRs X sz rows rs ids
  | [], [], ids, h, _, _, _ => by simp at h; rw [OwnCs] at h; rw [OwnRs]; exact ⟨rfl, h.2⟩
  | [], _ :: _, ids, h, hl, _, _ => by simp at hl
  | _ :: _, [], ids, h, hl, _, _ => by simp at hl
  | t :: rows, c :: rs, ids, h, hl, h1, h2 => by
    rw [List.flatten_cons, List.flatten_cons] at h
    obtain ⟨c1, c2, i, j, e, rfl, h3, h4⟩ := ownC_split h
    have e1 := h3.len
    have e2 := h1 t (by simp)
    have e3 := h2 c (by simp)
    obtain ⟨rfl, rfl⟩ := List.append_inj e (by omega)
    rw [OwnRs]
    exact ⟨c, rs, i, j, rfl, rfl, e3, h3, rows_flat h4 (by simpa using hl) (fun r hr => h1 r (by simp [hr])) (fun r hr => h2 r (by simp [hr]))⟩
theorem Env.node {b u id sz ver:Nat} {X:List AO} {rows:List (List TV)} {rs:List (List AV)} (h:Env b u X rows.flatten rs.flatten) (hi:X[id]?=some (.rows sz ver rs)) (hu:u<=id) (hb:b<=id) (hl:rs.length=rows.length) (h1:∀ r∈rows,r.length=sz) (h2:∀ r∈rs,r.length=sz) (h0:rows≠[]) :
  Env b (id+1) X [.s sz rows] [.gs id ver 0 rs.length]:=by
 obtain ⟨ids,k1,k2,k3,k4⟩:=h
 refine ⟨id :: ids,OwnCs.one ?_,List.nodup_cons.2 ⟨fun hm=>by have:=(k4 id hm).2; omega,k2⟩,?_,?_⟩
 ·rw [Own]
  exact .inr ⟨id,ver,rs,ids,rfl,rfl,hi,rows_flat k1 hl h1 h2⟩
 ·rw [List.length_cons,k3,nR_flat,nC,nC,nT]
  cases rows with
  | nil=>exact (h0 rfl).elim
  | cons r l=>rw [nK,nR]; omega
 ·intro i hm
  rcases List.mem_cons.1 hm with rfl | hm
  ·exact ⟨hb,by omega⟩
  ·exact ⟨(k4 i hm).1,by have:=(k4 i hm).2; omega⟩
theorem Env.nl {b u sz:Nat} {X:List AO} {ts:List TV} {cs:List AV} (h:Env b u X ts cs):Env b u X (ts++[.s sz []]) (cs++[.p .nl]):=by
 obtain ⟨ids,k1,k2,k3,k4⟩:=h
 refine ⟨ids,?_,k2,by rw [k3,nC_app,nC,nC,nT,nK]; rfl,k4⟩
 have:=ownC_app k1 (OwnCs.one (Own.nl X sz))
 rwa [List.append_nil] at this
theorem Env.nl1 {b u sz:Nat} {X:List AO}:Env b u X [.s sz []] [.p .nl]:=(Env.nil b u X).nl
theorem flat_len {sz:Nat}:∀ {rows:List (List TV)} {rs:List (List AV)},rs.length=rows.length->(∀ r∈rows,r.length=sz)->(∀ r∈rs,r.length=sz)->rs.flatten.length=rows.flatten.length
 | [],[],_,_,_=>rfl
 | [],_ :: _,h,_,_=>by simp at h
 | _ :: _,[],h,_,_=>by simp at h
 | r :: l,c :: rs,h,h1,h2=>by rw [List.flatten_cons,List.flatten_cons,List.length_append,List.length_append,flat_len (by simpa using h) (fun r hr=>h1 r (by simp [hr])) (fun r hr=>h2 r (by simp [hr])),h1 r (by simp),h2 c (by simp)]
theorem Env.node2 {b u id1 id2 sz1 sz2 v1 v2 : Nat} {X : List AO} {rows1 rows2 : List (List TV)} {rs1 rs2 : List (List AV)} (h : Env b u X (rows1.flatten ++ rows2.flatten) (rs1.flatten ++ rs2.flatten)) (hi1 : X[id1]? = some (.rows sz1 v1 rs1)) (hi2 : X[id2]? = some (.rows sz2 v2 rs2)) (hu1 : u ≤ id1) (hu2 : u ≤ id2) (hb : b ≤ u) (hne : id1 ≠ id2)
    (hl1 : rs1.length = rows1.length) (h11 : ∀ r ∈ rows1, r.length = sz1) (h12 : ∀ r ∈ rs1, r.length = sz1) (h10 : rows1 ≠ []) (hl2 : rs2.length = rows2.length) (h21 : ∀ r ∈ rows2, r.length = sz2) (h22 : ∀ r ∈ rs2, r.length = sz2) (h20 : rows2 ≠ []) :
    Env b (id1 + id2 + 1) X [.s sz1 rows1, .s sz2 rows2] [.gs id1 v1 0 rs1.length, .gs id2 v2 0 rs2.length] := by
  obtain ⟨ids, k1, k2, k3, k4⟩ := h
  obtain ⟨c1, c2, i, j, e, rfl, h3, h4⟩ := ownC_split k1
  have hlen := flat_len hl1 h11 h12
  obtain ⟨rfl, rfl⟩ := List.append_inj e (by rw [h3.len]; exact hlen)
  have n1 : id1 ∉ i ++ j := fun hm => by have := (k4 _ hm).2; omega
  have n2 : id2 ∉ i ++ j := fun hm => by have := (k4 _ hm).2; omega
  rw [List.nodup_append] at k2
  refine ⟨(id1 :: i) ++ (id2 :: j), OwnCs.cons ?_ (OwnCs.one ?_), ?_, ?_, ?_⟩
  · rw [Own]; exact .inr ⟨id1, v1, rs1, i, rfl, rfl, hi1, rows_flat h3 hl1 h11 h12⟩
  · rw [Own]; exact .inr ⟨id2, v2, rs2, j, rfl, rfl, hi2, rows_flat h4 hl2 h21 h22⟩
  · rw [List.nodup_append]
    simp only [List.mem_append, not_or] at n1 n2
    refine ⟨List.nodup_cons.2 ⟨n1.1, k2.1⟩, List.nodup_cons.2 ⟨n2.2, k2.2.1⟩, fun a ha c hc => ?_⟩
    rcases List.mem_cons.1 ha with rfl | ha <;> rcases List.mem_cons.1 hc with rfl | hc
    · exact hne
    · rintro rfl; exact n1.2 hc
    · rintro rfl; exact n2.1 ha
    · exact k2.2.2 a ha c hc
  · rw [nC_app, nR_flat, nR_flat] at k3
    simp only [List.length_append, List.length_cons] at k3 ⊢
    rw [nC, nC, nC, nT, nT]
    cases rows1 with
    | nil => exact (h10 rfl).elim
    | cons r l => cases rows2 with
      | nil => exact (h20 rfl).elim
      | cons r' l' => rw [nK, nK]; rw [nR, nR] at k3; omega
  · intro x hx
    simp only [List.mem_append, List.mem_cons] at hx
    have : x = id1 ∨ x = id2 ∨ x ∈ i ++ j := by rw [List.mem_append]; rcases hx with (h | h) | (h | h) <;> simp [h]
    rcases this with rfl | rfl | h
    · exact ⟨by omega, by omega⟩
    · exact ⟨by omega, by omega⟩
    · have := k4 x h; exact ⟨this.1, by omega⟩
def Res (K:List AO) (b p:Nat) (c':AO) (ts:List TV) (r:AV) (X:List AO):Prop:=∃ cs K1 G u,r=.st cs/\X=K1.set p c'++G/\Kp b K K1/\Env b u X ts cs
def PX (pv:PS->AO) (T:List Tok) (e f:Nat) (args:List AV) (B:List AO->Prop) (p:Nat) {α:Type} (m:PM α) (tv:α->List TV):Prop :=
 ∀ (H A:List AO) (F:List Nat) (s:PS),p<H.length->Ok T e s->B (H++A)->F.Nodup->F.length=nC (tv (m s).1)->(∀ i∈F,i≠p/\H[i]?=some .rsv) ->
  ACall Tryz.prog f args (H.set p (pv s)++A) (pureQ (.st (layC (tv (m s).1) F).1) ((setL H F (layC (tv (m s).1) F).2).set p (pv (m s).2)++A))
section
variable {pv:PS->AO} {T:List Tok} {e f:Nat} {args:List AV} {B:List AO->Prop} {p:Nat} {α:Type} {m:PM α} {tv:α->List TV}
theorem px_of (hpv:∀ s c,InO c (pv s)->Tf c) (hB:∀ X Y,B X->(∀ (i:Nat) o,X[i]?=some o->Y[i]?=some o)->B Y)
  (h:∀ (K:List AO) (b n:Nat) (s:PS),K.length=n->p<b->b<=n->Ok T e s->B K->Fr b K (nC (tv (m s).1))->ACall Tryz.prog f args (K.set p (pv s)) (Res K b p (pv (m s).2) (tv (m s).1))):PX pv T e f args B p m tv:=by
 intro H A F s hp hs hB' hnd hl hF
 generalize hts:tv (m s).1=ts at *
 have hFl:∀ i∈F,i<H.length:=fun i hi=>get_lt (hF i hi).2
 have hpF:p ∉ F:=fun hm=>(hF p hm).1 rfl
 have e2:(setL H F (layC ts F).2).set p (pv (m s).2)++A=setL (H.set p (pv (m s).2)++A) F (layC ts F).2:=by
  rw [setL_app _ _ _ _ (by simpa using hFl),setL_set _ _ _ _ _ hpF]
 rw [e2]
 refine acall_lay ?_ (by simp) ?_ hnd hl ?_
 ·refine acall_ghost (nC ts) ?_
  have eK:(H.set p (pv s)++A)++List.replicate (nC ts) AO.rsv=((H++A)++List.replicate (nC ts) AO.rsv).set p (pv s):=by
   rw [List.set_append_left _ _ (by simp; omega),List.set_append_left _ _ hp]
  rw [eK]
  have hb:=h ((H++A)++List.replicate (nC ts) AO.rsv) (H++A).length _ s rfl (by simp; omega) (by simp) hs (hB _ _ hB' fun i o ho=>get_ext ho _)
   ⟨List.range' (H++A).length (nC ts),List.nodup_range',by simp [hts],fun i hi=>?_⟩
  ·rw [hts] at hb
   refine hb.mono ?_
   rintro r X ⟨cs,K1,G,u,rfl,rfl,⟨k1,k2,k3⟩,ids,o1,o2,o3,o4⟩
   refine ⟨cs,ids,K1.drop (H++A).length++G,rfl,?_,o1,o2,o3,fun i hi=>?_⟩
   ·have ht:K1.take (H++A).length=H++A:=by
     apply List.ext_getElem?
     intro i
     rcases Nat.lt_or_ge i (H++A).length with hi | hi
     ·rw [List.getElem?_take_of_lt hi,k2 i hi,List.getElem?_append_left hi]
     ·rw [List.getElem?_eq_none (by simp at hi ⊢; omega),List.getElem?_eq_none hi]
    have e3:K1=(H++A)++K1.drop (H++A).length:=(List.take_append_drop (H++A).length K1).symm.trans (congrArg (·++K1.drop (H++A).length) ht)
    rw [<- List.append_assoc]
    congr 1
    conv=>lhs; rw [e3]
    rw [List.set_append_left _ _ (by simp; omega),List.set_append_left _ _ hp]
   ·have:=(o4 i hi).1; simpa using this
  ·simp only [List.mem_range'] at hi
   obtain ⟨j,hj,rfl⟩:=hi
   refine ⟨by omega,?_⟩
   rw [List.getElem?_append_right (by omega)]
   simp [hj]
 ·intro id o ho c hc
  by_cases hi:id=p
  ·subst hi
   rw [qp hp] at ho
   cases ho
   exact .inl (hpv _ _ hc)
  ·refine .inr ⟨id,o,?_,hc⟩
   rcases Nat.lt_or_ge id H.length with h1 | h1
   ·rw [List.getElem?_append_left (by simpa using h1),List.getElem?_set_ne (Ne.symm hi)] at ho ⊢
    exact ho
   ·rw [List.getElem?_append_right (by simpa using h1)] at ho ⊢
    simpa using ho
 ·intro i hi
  obtain ⟨h1,h2⟩:=hF i hi
  have h3:=hFl i hi
  constructor <;> rw [List.getElem?_append_left (by simpa using h3),List.getElem?_set_ne (Ne.symm h1)] <;> exact h2
theorem PX.use (h:PX pv T e f args B p m tv) (wf:∀ x,WfC (tv x)) {H:List AO} {n b N:Nat} {s s1:PS} {x:α} (hm:m s=(x,s1)) (hn:H.length=n) (hp:p<b) (hb:b<=n) (hs:Ok T e s) (hF:Fr b H N) (hN:nC (tv x)<=N) :
  ∃ H1 cs,H1.length=n/\Kp b H H1/\Fr b H1 (N - nC (tv x))/\cs.length=(tv x).length /\
   (∀ u ts ds A,n<=u->Env b u (H.set p (pv s)++A) ts ds->Env b u (H1.set p (pv s1)++A) (ts++tv x) (ds++cs)) /\
   (∀ ts ds A A',Env b n (H.set p (pv s)++A) ts ds->Env b n (H1.set p (pv s1)++A') (ts++tv x) (ds++cs)) /\
   (∀ A,B (H++A)->ACall Tryz.prog f args (H.set p (pv s)++A) (pureQ (.st cs) (H1.set p (pv s1)++A))):=by
 obtain ⟨F,f1,f2,f3⟩:=hF
 have hm1:(m s).1=x:=by rw [hm]
 have hm2:(m s).2=s1:=by rw [hm]
 have F1l:(F.take (nC (tv x))).length=nC (tv x):=by simp; omega
 have hsub:∀ i∈F.take (nC (tv x)),i∈F:=fun i hi=>List.mem_of_mem_take hi
 have hnd:(F.take (nC (tv x))).Nodup:=f1.sublist (List.take_sublist _ _)
 have hFl:∀ i∈F.take (nC (tv x)),i<H.length:=fun i hi=>get_lt (f3 i (hsub i hi)).2
 have hpF:p ∉ F.take (nC (tv x)):=fun hm=>by have:=(f3 p (hsub p hm)).1; omega
 have hos:=layC_os (tv x) _ F1l
 have hown:∀ (c:AO) (A:List AO),OwnCs ((setL H (F.take (nC (tv x))) (layC (tv x) (F.take (nC (tv x)))).2).set p c++A) (tv x) (layC (tv x) (F.take (nC (tv x)))).1 (F.take (nC (tv x))):=fun c A =>
  layC_own (tv x) _ _ (wf x) F1l fun k q o hk ho=>by
   have hq:=List.mem_of_getElem? hk
   have hlt:=hFl q hq
   rw [List.getElem?_append_left (by simp [setL_len]; exact hlt),List.getElem?_set_ne (by rintro rfl; exact hpF hq)]
   exact setL_get _ _ H k q o hnd hFl hk ho
 have hdis:∀ i∈F.drop (nC (tv x)),i ∉ F.take (nC (tv x)):=fun i hi hi'=>by
  have:=f1
  rw [<- List.take_append_drop (nC (tv x)) F,List.nodup_append] at this
  exact this.2.2 i hi' i hi rfl
 have key:∀ u ts ds A,n<=u->Env b u (H.set p (pv s)++A) ts ds->Env b u ((setL H (F.take (nC (tv x))) (layC (tv x) (F.take (nC (tv x)))).2).set p (pv s1)++A) (ts++tv x) (ds++(layC (tv x) (F.take (nC (tv x)))).1):=by
  rintro u ts ds A hu ⟨ids,o1,o2,o3,o4⟩
  have hd:∀ i∈ids,i ∉ F.take (nC (tv x)):=fun i hi hi'=>by
   obtain ⟨sz,ver,rs,hr⟩:=o1.rows i hi
   have h1:=(f3 i (hsub i hi')).2
   have h2:=hFl i hi'
   have h3:=(o4 i hi).1
   rw [List.getElem?_append_left (by simpa using h2),List.getElem?_set_ne (by omega),h1] at hr
   cases hr
  refine ⟨ids++F.take (nC (tv x)),ownC_app (o1.keep fun i hi o ho=>?_) (hown _ _),List.nodup_append.2 ⟨o2,hnd,fun a ha c hc e=>hd a ha (e ▸ hc)⟩,by rw [List.length_append,o3,F1l,nC_app],fun i hi=>?_⟩
  ·have h3:=(o4 i hi).1
   rcases Nat.lt_or_ge i H.length with hl | hl
   ·rw [List.getElem?_append_left (by simpa using hl),List.getElem?_set_ne (by omega)] at ho
    rw [List.getElem?_append_left (by simp [setL_len]; exact hl),List.getElem?_set_ne (by omega),setL_ne _ _ _ _ (hd i hi)]
    exact ho
   ·rw [List.getElem?_append_right (by simpa using hl)] at ho
    rw [List.getElem?_append_right (by simp [setL_len]; exact hl)]
    simpa [setL_len] using ho
  ·rcases List.mem_append.1 hi with hi | hi
   ·exact o4 i hi
   ·exact ⟨(f3 i (hsub i hi)).1,by have:=hFl i hi; omega⟩
 refine ⟨setL H (F.take (nC (tv x))) (layC (tv x) (F.take (nC (tv x)))).2,(layC (tv x) (F.take (nC (tv x)))).1,by rw [setL_len]; exact hn,⟨setL_len _ _ _,?_,?_⟩,⟨F.drop (nC (tv x)),f1.sublist (List.drop_sublist _ _),by simp; omega,?_⟩,by rw [layC_len],key,?_,?_⟩
 ·intro i hi
  exact setL_ne _ _ _ _ fun hm=>by have:=(f3 i (hsub i hm)).1; omega
 ·intro i o ho hr
  rw [setL_ne _ _ _ _ fun hm=>?_]
  ·exact ho
  ·rw [(f3 i (hsub i hm)).2] at ho
   cases ho; exact hr rfl
 ·intro i hi
  have hiF:=List.mem_of_mem_drop hi
  exact ⟨(f3 i hiF).1,by rw [setL_ne _ _ _ _ (hdis i hi)]; exact (f3 i hiF).2⟩
 ·intro ts ds A A' hE
  exact (key n ts ds A (Nat.le_refl _) hE).base (by rw [setL_len]; exact hn) hp
 ·intro A hBA
  have:=h H A (F.take (nC (tv x))) s (by omega) hs hBA hnd (by rw [hm1]; exact F1l) fun i hi=>⟨by rintro rfl; exact hpF hi,(f3 i (hsub i hi)).2⟩
  rwa [hm1,hm2] at this
end
end Go.Proofs.YteilijfligofdaaGreatDoor.Qp
set_option linter.all false
set_option maxRecDepth 100000
namespace Go.Proofs.YteilijfligofdaaGreatDoor.Mc
open Go.AM
def mc10:Got (Tryz.f10.body.map (compile [0,2,3,4,5,6,7,15,26] Tryz.prog 34)):=⟨_,by conv=>lhs; cbv⟩
def mr10:List MR:=[.cell true 7 2,.cell true 2 3]
theorem call10:CallT Tryz.prog 10 34 mc10.m mr10:=mc10.call Tryz.func10 (by kernel_rfl)
def mc30:Got (Tryz.f30.body.map (compile [0,1,2,3,4,5,6,7,8,9,10,11,15,20,27,34,59,75,105,119,139] Tryz.prog 147)):=⟨_,by conv=>lhs; cbv⟩
def mr30:List MR:=[.cell true 7 4]
theorem call30:CallT Tryz.prog 30 147 mc30.m mr30:=mc30.call Tryz.func30 (by kernel_rfl)
def mc31:Got (Tryz.f31.body.map (compile [0,4] Tryz.prog 7)):=⟨_,by conv=>lhs; cbv⟩
def mr31:List MR:=[]
theorem call31:CallT Tryz.prog 31 7 mc31.m mr31:=mc31.call Tryz.func31 (by kernel_rfl)
def mc32:Got (Tryz.f32.body.map (compile [0,2] Tryz.prog 9)):=⟨_,by conv=>lhs; cbv⟩
def mr32:List MR:=[.t 2]
theorem call32:CallT Tryz.prog 32 9 mc32.m mr32:=mc32.call Tryz.func32 (by kernel_rfl)
def mc83:Got (Tryz.f83.body.map (compile [0,1,4,10,15] Tryz.prog 28)):=⟨_,by conv=>lhs; cbv⟩
def mr83:List MR:=[.t 4]
theorem call83:CallT Tryz.prog 83 28 mc83.m mr83:=mc83.call Tryz.func83 (by kernel_rfl)
def mc84:Got (Tryz.f84.body.map (compile [0,2] Tryz.prog 13)):=⟨_,by conv=>lhs; cbv⟩
def mr84:List MR:=[.cell true 4 2]
theorem call84:CallT Tryz.prog 84 13 mc84.m mr84:=mc84.call Tryz.func84 (by kernel_rfl)
def mc85:Got (Tryz.f85.body.map (compile [0,1,2] Tryz.prog 7)):=⟨_,by conv=>lhs; cbv⟩
def mr85:List MR:=[.cell true 7 2]
theorem call85:CallT Tryz.prog 85 7 mc85.m mr85:=mc85.call Tryz.func85 (by kernel_rfl)
def mc86:Got (Tryz.f86.body.map (compile [0,1,4,8] Tryz.prog 16)):=⟨_,by conv=>lhs; cbv⟩
def mr86:List MR:=[.t 4]
theorem call86:CallT Tryz.prog 86 16 mc86.m mr86:=mc86.call Tryz.func86 (by kernel_rfl)
def mc87:Got (Tryz.f87.body.map (compile [0,1,4,8] Tryz.prog 30)):=⟨_,by conv=>lhs; cbv⟩
def mr87:List MR:=[.t 4]
theorem call87:CallT Tryz.prog 87 30 mc87.m mr87:=mc87.call Tryz.func87 (by kernel_rfl)
def mc88:Got (Tryz.f88.body.map (compile [0,1,5,6,7,8,9,15] Tryz.prog 19)):=⟨_,by conv=>lhs; cbv⟩
def mr88:List MR:=[]
theorem call88:CallT Tryz.prog 88 19 mc88.m mr88:=mc88.call Tryz.func88 (by kernel_rfl)
def mc89:Got (Tryz.f89.body.map (compile [0,1,4,5,6,10,16,57] Tryz.prog 64)):=⟨_,by conv=>lhs; cbv⟩
def mr89:List MR:=[.cell true 5 4]
theorem call89:CallT Tryz.prog 89 64 mc89.m mr89:=mc89.call Tryz.func89 (by kernel_rfl)
def mc90:Got (Tryz.f90.body.map (compile [0,1,2,3,5,6,7,8,9,10,12,18,27,28,29,30,35] Tryz.prog 46)):=⟨_,by conv=>lhs; cbv⟩
def mr90:List MR:=[.cell true 7 6]
theorem call90:CallT Tryz.prog 90 46 mc90.m mr90:=mc90.call Tryz.func90 (by kernel_rfl)
def mc91:Got (Tryz.f91.body.map (compile [0,1,4] Tryz.prog 15)):=⟨_,by conv=>lhs; cbv⟩
def mr91:List MR:=[.t 4]
theorem call91:CallT Tryz.prog 91 15 mc91.m mr91:=mc91.call Tryz.func91 (by kernel_rfl)
def mc92:Got (Tryz.f92.body.map (compile [0,1,9] Tryz.prog 18)):=⟨_,by conv=>lhs; cbv⟩
def mr92:List MR:=[]
theorem call92:CallT Tryz.prog 92 18 mc92.m mr92:=mc92.call Tryz.func92 (by kernel_rfl)
def mc107:Got (Tryz.f107.body.map (compile [0,1,4,5] Tryz.prog 27)):=⟨_,by conv=>lhs; cbv⟩
def mr107:List MR:=[.t 4]
theorem call107:CallT Tryz.prog 107 27 mc107.m mr107:=mc107.call Tryz.func107 (by kernel_rfl)
def mc132:Got (Tryz.f132.body.map (compile [0,1,4,5,6,15,19,26,33,38,42] Tryz.prog 57)):=⟨_,by conv=>lhs; cbv⟩
def mr132:List MR:=[.cell true 5 4]
theorem call132:CallT Tryz.prog 132 57 mc132.m mr132:=mc132.call Tryz.func132 (by kernel_rfl)
def mc133:Got (Tryz.f133.body.map (compile [0,1,2] Tryz.prog 6)):=⟨_,by conv=>lhs; cbv⟩
def mr133:List MR:=[.cell true 7 2]
theorem call133:CallT Tryz.prog 133 6 mc133.m mr133:=mc133.call Tryz.func133 (by kernel_rfl)
def mc134:Got (Tryz.f134.body.map (compile [0,1,2,3,5,6,7,8,9,10,16,31] Tryz.prog 51)):=⟨_,by conv=>lhs; cbv⟩
def mr134:List MR:=[.cell true 7 6]
theorem call134:CallT Tryz.prog 134 51 mc134.m mr134:=mc134.call Tryz.func134 (by kernel_rfl)
def mc135:Got (Tryz.f135.body.map (compile [0,1,2] Tryz.prog 6)):=⟨_,by conv=>lhs; cbv⟩
def mr135:List MR:=[.cell true 7 2]
theorem call135:CallT Tryz.prog 135 6 mc135.m mr135:=mc135.call Tryz.func135 (by kernel_rfl)
def mc165:Got (Tryz.f165.body.map (compile [0,1,4,5,6,19,27,40] Tryz.prog 48)):=⟨_,by conv=>lhs; cbv⟩
def mr165:List MR:=[.cell true 5 4]
theorem call165:CallT Tryz.prog 165 48 mc165.m mr165:=mc165.call Tryz.func165 (by kernel_rfl)
def mc166:Got (Tryz.f166.body.map (compile [0,1,2] Tryz.prog 6)):=⟨_,by conv=>lhs; cbv⟩
def mr166:List MR:=[.cell true 7 2]
theorem call166:CallT Tryz.prog 166 6 mc166.m mr166:=mc166.call Tryz.func166 (by kernel_rfl)
def mc167:Got (Tryz.f167.body.map (compile [0,1,4,5,10] Tryz.prog 20)):=⟨_,by conv=>lhs; cbv⟩
def mr167:List MR:=[.cell true 7 4]
theorem call167:CallT Tryz.prog 167 20 mc167.m mr167:=mc167.call Tryz.func167 (by kernel_rfl)
def mc168:Got (Tryz.f168.body.map (compile [0,1,2] Tryz.prog 6)):=⟨_,by conv=>lhs; cbv⟩
def mr168:List MR:=[.cell true 7 2]
theorem call168:CallT Tryz.prog 168 6 mc168.m mr168:=mc168.call Tryz.func168 (by kernel_rfl)
def mc184:Got (Tryz.f184.body.map (compile [0,1,4,5,7,8,11,12,13,14,19,31,48] Tryz.prog 55)):=⟨_,by conv=>lhs; cbv⟩
def mr184:List MR:=[.cell true 7 4]
theorem call184:CallT Tryz.prog 184 55 mc184.m mr184:=mc184.call Tryz.func184 (by kernel_rfl)
def mc185:Got (Tryz.f185.body.map (compile [0,2] Tryz.prog 33)):=⟨_,by conv=>lhs; cbv⟩
def mr185:List MR:=[.t 2]
theorem call185:CallT Tryz.prog 185 33 mc185.m mr185:=mc185.call Tryz.func185 (by kernel_rfl)
def mc186:Got (Tryz.f186.body.map (compile [0,1,4,5,6,15,22,29,34,38,45,52] Tryz.prog 67)):=⟨_,by conv=>lhs; cbv⟩
def mr186:List MR:=[.cell true 7 4]
theorem call186:CallT Tryz.prog 186 67 mc186.m mr186:=mc186.call Tryz.func186 (by kernel_rfl)
def mc205:Got (Tryz.f205.body.map (compile [0,1,4,5,6,19,27,40] Tryz.prog 48)):=⟨_,by conv=>lhs; cbv⟩
def mr205:List MR:=[.cell true 7 4]
theorem call205:CallT Tryz.prog 205 48 mc205.m mr205:=mc205.call Tryz.func205 (by kernel_rfl)
end Go.Proofs.YteilijfligofdaaGreatDoor.Mc