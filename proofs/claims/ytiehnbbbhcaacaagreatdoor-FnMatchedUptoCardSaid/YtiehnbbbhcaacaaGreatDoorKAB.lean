/- Texts RyA QyB RvB RvC RvE, merged. -/
import Derived.Test.YtiehnbbbhcaacaaGreatDoorKAA
import Derived.KernelRfl
import Derived.Shelf.Strings.Search1
import Derived.ChangeKeysEq
import Derived.Test.YtiehnbbbhcaacaaGreatDoorProg
import Derived.Shelf.SlIterI.Collect
set_option linter.all false
set_option maxRecDepth 100000
namespace Go.Proofs.YtiehnbbbhcaacaaGreatDoor.Ev
open Go.AM
noncomputable section
def mc3:Got (Tryz.f3.body.map (compile [0,2,3,4,5,6,7,8,9,10,11,12,13,15,36,40,86,94,95,106,107,119] Tryz.prog 120)):=.of (y:=PQ.made [0,2,3,4,5,6,7,8,9,10,11,12,13,15,36,40,86,94,95,106,107,119] pq 120 [(10,false)] [] Tryz.f3.body) (by conv=>lhs; cbv) (by kernel_rfl)
theorem call3:CallT Tryz.prog 3 120 mc3.m [.t 2]:=mc3.call Tryz.func3 (by kernel_rfl)
def mc4:Got (Tryz.f4.body.map (compile [0,2] Tryz.prog 6)):=.of (y:=PQ.made [0,2] pq 6 [] [] Tryz.f4.body) (by conv=>lhs; cbv) (by kernel_rfl)
theorem call4:CallT Tryz.prog 4 6 mc4.m [.t 2]:=mc4.call Tryz.func4 (by kernel_rfl)
def mc5:Got (Tryz.f5.body.map (compile [0,1,4,8] Tryz.prog 21)):=.of (y:=PQ.made [0,1,4,8] pq 21 [] [] Tryz.f5.body) (by conv=>lhs; cbv) (by kernel_rfl)
theorem call5:CallT Tryz.prog 5 21 mc5.m [.t 4]:=mc5.call Tryz.func5 (by kernel_rfl)
def mc8:Got (Tryz.f8.body.map (compile [0,1,2,3,4] Tryz.prog 24)):=.of (y:=PQ.made [0,1,2,3,4] pq 24 [] [] Tryz.f8.body) (by conv=>lhs; cbv) (by kernel_rfl)
def mc9:Got (Tryz.f9.body.map (compile [0,1,4,5,10,14,25] Tryz.prog 26)):=.of (y:=PQ.made [0,1,4,5,10,14,25] pq 26 [(8,false)] [] Tryz.f9.body) (by conv=>lhs; cbv) (by kernel_rfl)
def op8:GotO mc8.m:=⟨_,by conv=>lhs; cbv⟩
def sh8:GotS op8.m':=⟨_,by conv=>lhs; simp (config:={ maxSteps:=10000000 }) only [op8,toS,toO,zMI,zOp,binS]⟩
def en8:Ent Tryz.prog:=mc8.ent op8 sh8 (mc8.call2 (ms:=[.t 4]) Tryz.func8 (by kernel_rfl))
def op9:GotO mc9.m:=⟨_,by conv=>lhs; cbv⟩
def sh9:GotS op9.m':=⟨_,by conv=>lhs; simp (config:={ maxSteps:=10000000 }) only [op9,toS,toO,zMI,zOp,binS]⟩
def en9:Ent Tryz.prog:=mc9.ent op9 sh9 (mc9.call2 (ms:=[.t 4]) Tryz.func9 (by kernel_rfl))
end
end Go.Proofs.YtiehnbbbhcaacaaGreatDoor.Ev
namespace Go.AM
theorem gxk (H A:List AO) (k:Nat):(H++A)[H.length+k]?=A[k]?:=by rw [List.getElem?_append_right (by omega),Nat.add_sub_cancel_left]
theorem gx0 (H A:List AO):(H++A)[H.length]?=A[0]?:=gxk H A 0
theorem sxk (H A:List AO) (k:Nat) (o:AO):(H++A).set (H.length+k) o=H++A.set k o:=by rw [List.set_append_right _ _ (by omega),Nat.add_sub_cancel_left]
theorem sx0 (H A:List AO) (o:AO):(H++A).set H.length o=H++A.set 0 o:=sxk H A 0 o
attribute [go_sem] gxk gx0 sxk sx0
theorem wr64 {n:Int} (h1:-9223372036854775808<=n) (h2:n<=9223372036854775807):wr .i64 n=n:=by
 simp [wr,IntKind.wrap,IntKind.bits,IntKind.signed]
 omega
variable {P:Program}
theorem acall_give {H:List AO} {f:Nat} {args args':List AV} {Q:AV->List AO->Prop} {id sz ver:Nat} (rs:List (List PV)) (hid:H[id]?=some (.rows sz ver (rs.map fun y=>y.map .p)))
  (hlen:args'.length=args.length) (hc:∀ (j:Nat) a b,args[j]?=some a->args'[j]?=some b->b=a\/a=.gs id ver 0 rs.length/\b=.p (.l rs))
  (h:ACall P f args' (H.set id .dead) Q):ACall P f args H Q:=by
 refine ⟨h.1,fun w θ W vs hSR hrel=>?_⟩
 obtain ⟨hK,hWimm⟩:=sr_frz1 hSR hid (tfO_pure _ _ _)
 have hrel':Rels (thKill θ id) (frz (thOne θ id) W w) args' vs:=⟨by rw [hlen]; exact hrel.1,fun j b v hb hv=>by
  have hlt:j<args.length:=by rw [<- hlen]; exact (List.getElem?_eq_some_iff.1 hb).1
  have hr:=hrel.2 j args[j] v (by simp [hlt]) hv
  rcases hc j args[j] b (by simp [hlt]) hb with e | ⟨e1,e2⟩
  ·rw [e]; exact hr.mono hWimm thKill_step
  ·rw [e1] at hr; rw [e2]; exact gs_frz1 hSR hid hr⟩
 refine (h.2 w _ _ vs hK hrel').mono ?_
 rintro e w' ⟨v,r,H',θ',W',rfl,hq,hS',hv,hst⟩
 have own':∀ b,Owned (thKill θ id) b->Owned θ b:=fun b hb=>by
  obtain ⟨i,ver,sz,tot,_,h1⟩:=owned_kill hb
  exact ⟨_,_,_,_,h1⟩
 have keepW:∀ b,¬ Owned θ b->∀ o,frz (thOne θ id) W w b o=W b o:=fun b hb o=>by
  unfold frz
  rw [if_neg fun h2=>hb (owned_one h2).1]
 refine ⟨v,r,H',θ',W',rfl,hq,hS',hv,⟨hst.os,hst.tape,hst.output,hst.size,fun b hb ho=>hst.keep b hb fun h2=>ho (own' b h2),fun b o u hu=>hst.imm b o u (hWimm b o u hu),
  fun b hb ho o=>by rw [hst.old b hb (fun h2=>ho (own' b h2)) o,keepW b ho],fun i ver hn=>?_,fun b hb=>(hst.fresh b hb).elim (fun h=>.inl (own' b h)) .inr⟩⟩
 rcases thKill_step (id:=id) i ver hn with e | e
 ·rcases hst.th i ver (by rw [e]; exact hn) with e2 | e2
  ·exact .inl (e2.trans e)
  ·exact .inr e2
 ·rcases hst.th i ver (by rw [e]; exact fun h=>by cases h) with e2 | e2
  ·exact .inr (e2.trans e)
  ·exact .inr e2
end Go.AM
namespace Go.Proofs.YtiehnbbbhcaacaaGreatDoor.Ev
open Go.AM
def byts (l:List Int):List (List PV):=l.map fun z=>[.i .u8 z]
theorem byts_len (l):(byts l).length=l.length:=by simp [byts]
theorem bigC (b:List Int) (H:List AO):ACall Tryz.prog 4 [.p (.l (byts b))] H (pureQ (.p (.b (decide (1048576<(b.length:Int))))) H):=by
 refine call4 (by simp) ?_
 simp only [go_sem,simprocAttr,mc4,byts_len]
 intro _
 exact ⟨rfl,rfl⟩
theorem at0C {l : List Int} {H} (hw : ∀ a ∈ l, 0 ≤ a ∧ a < 256) (hl : l.length ≤ 1048576) : ∃ m : Nat, m < 256 ∧ ACall Tryz.prog 5 [.p (.l (byts l)), .p (.i .i64 0)] H (pureQ (.p (.i .i64 m)) H) := by
  cases l with
  | nil =>
    refine ⟨0, by decide, ?_⟩
    refine call5 (by simp) ?_
    simp only [go_sem, simprocAttr, mc5, byts]
    intro _ _
    exact ⟨rfl, rfl⟩
  | cons z l =>
    obtain ⟨h0, h1⟩ := hw z (by simp)
    refine ⟨z.toNat, by omega, ?_⟩
    have e : decide ((0 : Int) < ((l.length + 1 : Nat) : Int)) = true := by simp <;> omega
    have e2 : wr .i64 z = z := wr64 (by omega) (by omega)
    have e3 : ((z.toNat : Nat) : Int) = z := by omega
    refine call5 (by simp) ?_
    simp only [go_sem, simprocAttr, mc5, byts, List.length_cons, List.length_map, e, e2, e3]
    intro _
    exact ⟨rfl, rfl⟩
theorem at1C {l : List Int} {H} (hw : ∀ a ∈ l, 0 ≤ a ∧ a < 256) (hl : l.length ≤ 1048576) : ∃ m : Nat, m < 256 ∧ ACall Tryz.prog 5 [.p (.l (byts l)), .p (.i .i64 1)] H (pureQ (.p (.i .i64 m)) H) := by
  match l with
  | [] =>
    refine ⟨31, by decide, ?_⟩
    refine call5 (by simp) ?_
    simp only [go_sem, simprocAttr, mc5, byts]
    intro _ _
    exact ⟨rfl, rfl⟩
  | [z0] =>
    refine ⟨38, by decide, ?_⟩
    refine call5 (by simp) ?_
    simp only [go_sem, simprocAttr, mc5, byts]
    intro _ _
    exact ⟨rfl, rfl⟩
  | z0 :: z :: l =>
    obtain ⟨h0, h1⟩ := hw z (by simp)
    refine ⟨z.toNat, by omega, ?_⟩
    have e : decide ((1 : Int) < ((l.length + 1 + 1 : Nat) : Int)) = true := by simp <;> omega
    have e2 : wr .i64 z = z := wr64 (by omega) (by omega)
    have e3 : ((z.toNat : Nat) : Int) = z := by omega
    refine call5 (by simp) ?_
    simp only [go_sem, simprocAttr, mc5, byts, List.length_cons, List.length_map, e, e2, e3]
    intro _
    exact ⟨rfl, rfl⟩
end Go.Proofs.YtiehnbbbhcaacaaGreatDoor.Ev
set_option linter.all false
set_option maxRecDepth 100000
namespace Go.Proofs.YtiehnbbbhcaacaaGreatDoor.Ev
open Go.AM Go.Shelf
def rhoS:Ren:=⟨fun n=>if n=217 then 362 else if n=266 then 384 else n,fun n=>n,fun n=>n⟩
theorem laysIB:Lays.n217 Tryz.prog rhoS where
 mixed:=by kernel_rfl
 f217:=by kernel_rfl
 f266:=by kernel_rfl
 t3:=Tryz.underlying3
 a3:=Tryz.isAgg3
 z3:=Tryz.sizeOf3
 v3:=Tryz.zeroValue3
 t5:=Tryz.underlying5
 a5:=Tryz.isAgg5
 z5:=Tryz.sizeOf5
 v5:=Tryz.zeroValue5
 t9:=Tryz.underlying9
 a9:=Tryz.isAgg9
 z9:=Tryz.sizeOf9
 v9:=Tryz.zeroValue9
theorem acall_kept {P:Program} {f:Nat} {args:List AV} {H:List AO} {Q:AV->List AO->Prop} (hb:HasBody P f)
  (h:∀ (w:World) (θ:Th) (W:Im) (vs:Array Value),Rels θ W args vs->∃ v r,Calls P f vs w (fun e w'=>e=.returned v/\w'=w)/\Q r H/\ARel θ W r v):ACall P f args H Q:=by
 refine ⟨hb,fun w θ W vs hSR hr=>?_⟩
 obtain ⟨v,r,h1,h2,h3⟩:=h w θ W vs hr
 refine h1.mono ?_
 rintro e w' ⟨rfl,rfl⟩
 exact ⟨v,r,H,θ,W,rfl,h2,hSR,h3,Stp.refl _ _ _⟩
theorem indexByte (s : List UInt8) (c : UInt8) {H : List AO} : ACall Tryz.prog 362 [.p (.s s), .p (.i .u8 c.toNat)] H (fun r H' => r = .p (.i .i64 (Lib.indexByte s c)) ∧ H' = H) := by
  refine acall_kept ⟨Tryz.f362, Tryz.func362, by kernel_rfl, by kernel_rfl⟩ ?_
  intro w θ W vs hr
  obtain ⟨h1, h2⟩ := hr
  have hvs : vs = #[.string ⟨s.toArray⟩, .int .u8 c.toNat] := by
    apply Array.ext'
    have hs : vs.toList.length = 2 := by simpa using h1
    match hl : vs.toList, hs with
    | [a, b], _ =>
      have ha := h2 0 _ a rfl (by rw [← Array.getElem?_toList, hl]; rfl)
      have hb := h2 1 _ b rfl (by rw [← Array.getElem?_toList, hl]; rfl)
      obtain ⟨e1, _⟩ := ha.s_inv
      have e2 := hb.i_inv
      rw [e1, e2]
  subst hvs
  have key := Any.stringslite_IndexByte laysIB ⟨s.toArray⟩ c.toNat w
  refine ⟨_, _, key, ⟨rfl, rfl⟩, ?_⟩
  simp
  exact .p _ _ (.i _ _)
noncomputable section
def pq2:PQ:=⟨pq.info,fun f=>if f=362 then true else if f=364 then true else if f=365 then true else false,fun _=>true,pq.zero⟩
def mc206:Got (Tryz.f206.body.map (compile [0,1,4] Tryz.prog 9)):=.of (y:=PQ.made [0,1,4] pq 9 [] [] Tryz.f206.body) (by conv=>lhs; cbv) (by kernel_rfl)
theorem call206:CallT Tryz.prog 206 9 mc206.m [.t 4]:=mc206.call Tryz.func206 (by kernel_rfl)
def mc296:Got (Tryz.f296.body.map (compile [0,1,4] Tryz.prog 8)):=.of (y:=PQ.made [0,1,4] pq 8 [] [] Tryz.f296.body) (by conv=>lhs; cbv) (by kernel_rfl)
theorem call296:CallT Tryz.prog 296 8 mc296.m [.t 4]:=mc296.call Tryz.func296 (by kernel_rfl)
def mc344:Got (Tryz.f344.body.map (compile [0,1,4,5,6,7,8,9,10,11,12,13,16,24,31,36,59,64,73,93,107,114,132,139] Tryz.prog 143)):=.of (y:=PQ.made [0,1,4,5,6,7,8,9,10,11,12,13,16,24,31,36,59,64,73,93,107,114,132,139] pq2 143 [] [] Tryz.f344.body) (by conv=>lhs; cbv) (by kernel_rfl)
theorem call344:CallT Tryz.prog 344 143 mc344.m [.t 4]:=mc344.call Tryz.func344 (by kernel_rfl)
end
theorem has_index (s : List UInt8) (c : UInt8) : decide (0 ≤ Go.Lib.indexByte s c) = s.contains c := by
  induction s with
  | nil => rfl
  | cons b l ih =>
    unfold Go.Lib.indexByte
    by_cases h : b = c
    · subst h; simp
    · have h' : ¬ c = b := fun e => h e.symm
      have hb : (b == c) = false := by simp [h]
      have hg := Go.Lib.indexByte_ge l c
      rw [hb]
      simp only [Bool.false_eq_true, if_false]
      rw [List.contains_cons, ← ih]
      have hcb : (c == b) = false := by simp [h']
      rw [hcb, Bool.false_or, decide_eq_decide]
      split
      · rename_i e; simp at e; omega
      · rename_i e; simp at e; omega
theorem index1 (s:List UInt8) (hs:s.length<=maxL) (c:UInt8):ACall Tryz.prog 344 [.p (.s s),.p (.s [c])] [] (fun r H'=>∃ z:Int,r=.p (.i .i64 z)/\decide (0<=z)=s.contains c):=by
 refine call344 (by simp) ?_
 simp only [go_sem,Nat.reduceEqDiff,reduceIte,↓reduceIte,Nat.reduceAdd,Z0,Z1,Z2,Z3,Z4,Z5,Nat.reduceLT,Z6,Z7,Int.reduceEq,Z8,Z9,Nat.reduceLeDiff,Za,Zb,Zc,Zd,Ze,Zf,bytesOf,Zg,Zh,Zi,Zj,Zk,Zl,Int.reduceLT,Int.reduceLE,Zm,Int.reduceToNat,Zn,Zo,Zp,Int.reduceAdd,Zq,Zr,mc344]
 intro _
 refine condK_split _ (fun h1=>?_) (fun h1=>?_)
 ·simp only [go_sem,Nat.reduceEqDiff,reduceIte,↓reduceIte,Nat.reduceAdd,Z0,Z1,Z2,Z3,Z4,Z5,Nat.reduceLT,Z6,Z7,Int.reduceEq,Z8,Z9,Nat.reduceLeDiff,Za,Zb,Zc,Zd,Ze,Zf,bytesOf,Zg,Zh,Zi,Zj,Zk,Zl,Int.reduceLT,Int.reduceLE,Zm,Int.reduceToNat,Zn,Zo,Zp,Int.reduceAdd,Zq,Zr,h1]
  have:[c]=s:=by simpa using h1
  subst this
  exact ⟨0,rfl,by simp⟩
 ·simp only [go_sem,Nat.reduceEqDiff,reduceIte,↓reduceIte,Nat.reduceAdd,Z0,Z1,Z2,Z3,Z4,Z5,Nat.reduceLT,Z6,Z7,Int.reduceEq,Z8,Z9,Nat.reduceLeDiff,Za,Zb,Zc,Zd,Ze,Zf,bytesOf,Zg,Zh,Zi,Zj,Zk,Zl,Int.reduceLT,Int.reduceLE,Zm,Int.reduceToNat,Zn,Zo,Zp,Int.reduceAdd,Zq,Zr,h1]
  refine (indexByte s c).mono ?_
  rintro r H' ⟨rfl,rfl⟩
  simp only [go_sem,Nat.reduceEqDiff,reduceIte,↓reduceIte,Nat.reduceAdd,Z0,Z1,Z2,Z3,Z4,Z5,Nat.reduceLT,Z6,Z7,Int.reduceEq,Z8,Z9,Nat.reduceLeDiff,Za,Zb,Zc,Zd,Ze,Zf,bytesOf,Zg,Zh,Zi,Zj,Zk,Zl,Int.reduceLT,Int.reduceLE,Zm,Int.reduceToNat,Zn,Zo,Zp,Int.reduceAdd,Zq,Zr]
  exact ⟨_,rfl,has_index s c⟩
theorem index (s:List UInt8) (hs:s.length<=maxL) (c:UInt8):ACall Tryz.prog 296 [.p (.s s),.p (.s [c])] [] (fun r H'=>∃ z:Int,r=.p (.i .i64 z)/\decide (0<=z)=s.contains c):=by
 refine call296 (by simp) ?_
 simp only [go_sem,Nat.reduceEqDiff,reduceIte,↓reduceIte,Nat.reduceAdd,Z0,Z1,Z2,Z3,Z4,Z5,Nat.reduceLT,Z6,Z7,Int.reduceEq,Z8,Z9,Nat.reduceLeDiff,Za,Zb,Zc,Zd,Ze,Zf,bytesOf,Zg,Zh,Zi,Zj,Zk,Zl,Int.reduceLT,Int.reduceLE,Zm,Int.reduceToNat,Zn,Zo,Zp,Int.reduceAdd,Zq,Zr,mc296]
 refine (index1 s hs c).mono ?_
 rintro r H' ⟨z,rfl,hz⟩
 simp only [go_sem,Nat.reduceEqDiff,reduceIte,↓reduceIte,Nat.reduceAdd,Z0,Z1,Z2,Z3,Z4,Z5,Nat.reduceLT,Z6,Z7,Int.reduceEq,Z8,Z9,Nat.reduceLeDiff,Za,Zb,Zc,Zd,Ze,Zf,bytesOf,Zg,Zh,Zi,Zj,Zk,Zl,Int.reduceLT,Int.reduceLE,Zm,Int.reduceToNat,Zn,Zo,Zp,Int.reduceAdd,Zq,Zr]
 exact ⟨z,rfl,hz⟩
theorem contains1 (s:List UInt8) (hs:s.length<=maxL) (c:UInt8):ACall Tryz.prog 206 [.p (.s s),.p (.s [c])] [] (fun r H'=>r=.p (.b (s.contains c))):=by
 refine call206 (by simp) ?_
 simp only [go_sem,Nat.reduceEqDiff,reduceIte,↓reduceIte,Nat.reduceAdd,Z0,Z1,Z2,Z3,Z4,Z5,Nat.reduceLT,Z6,Z7,Int.reduceEq,Z8,Z9,Nat.reduceLeDiff,Za,Zb,Zc,Zd,Ze,Zf,bytesOf,Zg,Zh,Zi,Zj,Zk,Zl,Int.reduceLT,Int.reduceLE,Zm,Int.reduceToNat,Zn,Zo,Zp,Int.reduceAdd,Zq,Zr,mc206]
 refine (index s hs c).mono ?_
 rintro r H' ⟨z,rfl,hz⟩
 simp only [go_sem,Nat.reduceEqDiff,reduceIte,↓reduceIte,Nat.reduceAdd,Z0,Z1,Z2,Z3,Z4,Z5,Nat.reduceLT,Z6,Z7,Int.reduceEq,Z8,Z9,Nat.reduceLeDiff,Za,Zb,Zc,Zd,Ze,Zf,bytesOf,Zg,Zh,Zi,Zj,Zk,Zl,Int.reduceLT,Int.reduceLE,Zm,Int.reduceToNat,Zn,Zo,Zp,Int.reduceAdd,Zq,Zr,hz]
theorem contains_any (s:List UInt8) (hs:s.length<=maxL) (c:UInt8) {H:List AO}:ACall Tryz.prog 206 [.p (.s s),.p (.s [c])] H (fun r H'=>r=.p (.b (s.contains c))/\H'=H) :=
 (acall_lend (contains1 s hs c) (fun r H' h=>by subst h; exact grnd_b _) (lentAll_cons (.pure _) (lentAll_cons (.pure _) (lentAll_nil _)))).mono fun r H' ⟨h1,_,h2⟩=>⟨h2,h1⟩
end Go.Proofs.YtiehnbbbhcaacaaGreatDoor.Ev
namespace Go.Proofs.YtiehnbbbhcaacaaGreatDoor.Ev
open Go.AM Go.Shelf Go.Maps Go.Sort Go.RowKit
def rhoA:Ren:=⟨fun x=>match x with | 8=>331 | 11=>357 | n=>n,fun x=>match x with | 26=>3 | 28=>438 | 24=>26 | 0=>0 | 33=>246 | 4=>4 | n=>n,fun n=>n⟩
def rhoB:Ren:=⟨fun x=>match x with | 10=>358 | n=>n,fun x=>match x with | 33=>246 | 23=>434 | 0=>0 | 4=>4 | 26=>3 | 3=>4 | n=>n,fun n=>n⟩
theorem laysK8:SlLaysZI.n8 Tryz.prog rhoA where
 mixed:=by kernel_rfl
 f8:=⟨Tryz.f331.name,of_decide_eq_true (by kernel_rfl),Eq.trans Tryz.func331 (by kernel_rfl)⟩
 f11:=⟨Tryz.f357.name,of_decide_eq_true (by kernel_rfl),Eq.trans Tryz.func357 (by kernel_rfl)⟩
 t0:=Tryz.underlying0
 a0:=Tryz.isAgg0
 z0:=Tryz.sizeOf0
 v0:=Tryz.zeroValue0
 t24:=Tryz.underlying26
 a24:=Tryz.isAgg26
 z24:=Tryz.sizeOf26
 v24:=Tryz.zeroValue26
 t26:=Tryz.underlying3
 a26:=Tryz.isAgg3
 z26:=Tryz.sizeOf3
 v26:=Tryz.zeroValue3
 t28:=Tryz.underlying438
 a28:=Tryz.isAgg438
 z28:=Tryz.sizeOf438
 v28:=Tryz.zeroValue438
 i26:=by kernel_rfl
theorem laysK10:SlLaysZI.n10 Tryz.prog rhoB where
 mixed:=by kernel_rfl
 f10:=⟨Tryz.f358.name,of_decide_eq_true (by kernel_rfl),Eq.trans Tryz.func358 (by kernel_rfl)⟩
 t0:=Tryz.underlying0
 a0:=Tryz.isAgg0
 z0:=Tryz.sizeOf0
 v0:=Tryz.zeroValue0
 t4:=Tryz.underlying4
 a4:=Tryz.isAgg4
 z4:=Tryz.sizeOf4
 v4:=Tryz.zeroValue4
 t23:=Tryz.underlying434
 a23:=Tryz.isAgg434
 z23:=Tryz.sizeOf434
 v23:=Tryz.zeroValue434
 t26:=Tryz.underlying3
 a26:=Tryz.isAgg3
 z26:=Tryz.sizeOf3
 v26:=Tryz.zeroValue3
 t33:=Tryz.underlying246
 a33:=Tryz.isAgg246
 z33:=Tryz.sizeOf246
 v33:=Tryz.zeroValue246
theorem arr1 {vs:Array Value} (h:vs.size=1):∃ a,vs=#[a]:=by
 have hs:vs.toList.length=1:=by simpa using h
 match hl:vs.toList,hs with
 | [a],_=>exact ⟨a,by rw [<- Array.toList_inj]; exact hl⟩
theorem keys_world {θ : Th} {W : Im} {H : List AO} {w : World} (hS : SR θ W H w) {id m f : Nat} {es : List (AV × AV)} (hid : H[id]? = some (.var [.mp m])) (hm : H[m]? = some (.mapo es)) {vs : Array Value} (hr : Rels θ W [.clo f [.ptr id 0]] vs) :
    ∃ b0 bm es' ck, vs = #[.func (.func f) #[] #[.pointer (some ⟨b0, 0, none⟩)]] ∧ b0 < w.heap.size ∧ w.cell? ⟨b0, 0, none⟩ = some (.map (some bm)) ∧ w.heap[bm]? = some (.map es' ck) ∧ (es'.size = es.length ∧ ∀ x ∈ es'.toList, x.born < ck) ∧
      ∀ (j : Nat) (e : AV × AV) (e' : MapEntry), es[j]? = some e → es'[j]? = some e' → ARel θ W e.1 e'.key := by
  obtain ⟨h1, h2⟩ := hr
  obtain ⟨⟨b0, sz, tot, ty, cs, t1, t2, t3, t4, t5⟩, _⟩ := hS.obj id _ hid
  obtain ⟨⟨bm, es', ck, m1, m2, m3, m4⟩, _⟩ := hS.obj m _ hm
  obtain ⟨a, rfl⟩ := arr1 h1
  have ha := h2 0 _ a rfl rfl
  cases ha with
  | clo _ _ us hus hcs =>
    obtain ⟨u, rfl⟩ := arr1 hus
    have hu := hcs 0 _ u rfl rfl
    have : u = .pointer (some ⟨b0, 0, none⟩) := by
      cases hu with
      | ptr _ _ b sz' tot' h => rw [t1] at h; cases h; rfl
      | ptrDead _ _ _ h => rw [t1] at h; cases h
    subst this
    obtain ⟨c, rfl⟩ := arr1 t3
    have hc := t4 0 _ c rfl rfl
    have : c = .map (some bm) := by
      cases hc with
      | mp _ b h => rw [m1] at h; cases h; rfl
      | mpDead _ _ h => rw [m1] at h; cases h
    subst this
    exact ⟨b0, bm, es', ck, rfl, (Array.getElem?_eq_some_iff.1 t2).1, by simp [World.cell?, t2], m2, m3, fun j e e' q1 q2 => (m4 j e e' q1 q2).1⟩
abbrev RU:Value->Option (DataW Unit × List MemPlace):=fun _=>some (.nil,[])
theorem collect_at (w:World) {b0 bm:Nat} (D0:DataW Unit) (ks:List Int) (hb0:b0<w.heap.size) (hcell:w.cell? ⟨b0,0,none⟩=some (.map (some bm)))
  (hown:w.ownsMap Tryz.prog 3 RU bm 1 D0) (hk:intKeys D0=ks) (hsz:Maps.size D0<=1) :
  Calls Tryz.prog 331 #[.func (.func 358) #[] #[.pointer (some ⟨b0,0,none⟩)]] w fun e w'=>∃ (v:Value) (ss:List Int),e=.returned v/\ss.Perm ks /\
   w'.ownsRow w.heap.size 3 1 v ss.length (ss.map encZ)/\(v=.slice none 0 0 ↔ ss=[])/\Below w.heap.size w w':=by
 subst hk
 have hseq:=AnyZI.keys_gives (ρ:=rhoB) laysK10 Fence.wide 4 trivial rfl (by omega) b0 bm 1 D0 w hb0 hcell hown
 have cS:=AnyZI.collect_in (ρ:=rhoA) laysK8 Fence.wide 6 trivial trivial rfl (by omega) 358 #[.pointer (some ⟨b0,0,none⟩)] trivial (enters_of Tryz.func358 (by kernel_rfl) rfl) _ _ (Nat.le_trans hsz (by decide)) (by omega) w hseq
 exact (callsIn_wide (n:=6)).1 cS
theorem own_nil {w:World} {bm ck:Nat} (h:w.heap[bm]?=some (.map #[] ck)):w.ownsMap Tryz.prog 3 RU bm 1 (.map []) :=
 ⟨#[],ck,h,⟨by simp,MapKept.stamped_empty ck,by simp⟩,by simp,rfl⟩
theorem own_one {w:World} {bm ck:Nat} {e:MapEntry} {k:Int} (h:w.heap[bm]?=some (.map #[e] ck)) (hb:e.born<ck) (hk:e.key=.int .i64 k) (hw:(Lit.int .i64 k).wf=true) :
  w.ownsMap Tryz.prog 3 RU bm 1 (.map [(.int .i64 k,.nil)]):=by
 have h1:keyOf Tryz.prog 3 e.key=some (.int .i64 k):=by rw [hk]; exact keyOf_int_mk laysK10.t26 hw
 have h2:WideElems.rd Tryz.prog 3 RU e=some (.int .i64 k,.nil):=by
  obtain ⟨ek,ev,eb⟩:=e
  exact WideElems.rd_mk h1 (yv:=(.nil,[])) rfl
 refine ⟨#[e],ck,h,⟨by simp [maxLen],⟨by simpa using hb,by simp,by simp⟩,fun x hx=>?_⟩,by simp,?_⟩
 ·cases List.mem_singleton.1 (by simpa using hx)
  exact ⟨_,h2⟩
 ·simp [WideElems.rg_of h2,DataW.insert]
theorem collect_nil {H:List AO} {id m:Nat} (hid:H[id]?=some (.var [.mp m])) (hm:H[m]?=some (.mapo [])):ACall Tryz.prog 331 [.clo 358 [.ptr id 0]] H (pureQ (.p .nl) H):=by
 refine ⟨⟨Tryz.f331,Tryz.func331,by kernel_rfl,by kernel_rfl⟩,fun w θ W vs hS hr=>?_⟩
 obtain ⟨b0,bm,es',ck,rfl,hb0,hcell,hmap,⟨hsz,hborn⟩,hrel⟩:=keys_world hS hid hm hr
 obtain rfl:es'=#[]:=Array.eq_empty_of_size_eq_zero hsz
 refine (collect_at w (.map []) [] hb0 hcell (own_nil hmap) rfl (by simp [Maps.size])).mono ?_
 rintro e w' ⟨v,ss,rfl,hp,hrow,hnil,hbel⟩
 obtain rfl:=hp.eq_nil
 obtain rfl:=hnil.2 rfl
 have hg:∀ b,b<w.heap.size->w'.heap[b]?=w.heap[b]?:=hbel.block
 refine ⟨_,_,H,θ,W,rfl,⟨rfl,rfl⟩,⟨?_,?_,hS.out,hS.own,hS.inj⟩,.p _ _ .nl,⟨hbel.os,hbel.tape,hbel.output,hbel.size,fun b hb _=>hg b hb,fun _ _ _ h=>h,fun _ _ _ _=>rfl,fun _ _ _=>.inl rfl,fun _ h=>.inl h⟩⟩
 ·intro b o v hv
  rw [<- hS.imm b o v hv]
  exact World.cell?_of_block (hg b (hS.lt hv))
 ·intro i o hi
  exact (hS.obj i o hi).mono (fun _=>rfl) (fun v k s t hk=>hg k (hS.ownedLt hk)) (fun _ _ h=>h) (ht:=fun b v o hv ho=>by rw [hg b (hS.lt hv)]; exact ho)
def imKey (W:Im) (g:Nat) (k:Int):Im:=fun b o=>if b=g/\o=0 then some (.int .i64 k) else W b o
theorem collect_one {H:List AO} {id m:Nat} {k:Int} {x:AV} (hid:H[id]?=some (.var [.mp m])) (hm:H[m]?=some (.mapo [(.p (.i .i64 k),x)])) (hw:(Lit.int .i64 k).wf=true) :
  ACall Tryz.prog 331 [.clo 358 [.ptr id 0]] H (pureQ (.p (.l [[.i .i64 k]])) H):=by
 refine ⟨⟨Tryz.f331,Tryz.func331,by kernel_rfl,by kernel_rfl⟩,fun w θ W vs hS hr=>?_⟩
 obtain ⟨b0,bm,es',ck,rfl,hb0,hcell,hmap,⟨hsz,hborn⟩,hrel⟩:=keys_world hS hid hm hr
 obtain ⟨e,rfl⟩:∃ e,es'=#[e]:=by
  have hs:es'.toList.length=1:=by simpa using hsz
  match hl:es'.toList,hs with
  | [a],_=>exact ⟨a,by rw [<- Array.toList_inj]; exact hl⟩
 have hkey:e.key=.int .i64 k:=(hrel 0 _ e rfl rfl).i_inv
 refine (collect_at w (.map [(.int .i64 k,.nil)]) [k] hb0 hcell (own_one hmap (hborn e (by simp)) hkey hw) rfl (by simp [Maps.size])).mono ?_
 rintro _ w' ⟨v,ss,rfl,hp,hrow,hnil,hbel⟩
 obtain rfl:=List.perm_singleton.1 hp
 obtain ⟨_,⟨rfl,h0⟩ | ⟨g,cap,cur,rfl,hg1,hg2,hg3,hg4,hg5,hg6⟩⟩:=hrow
 ·cases h0
 have hg:∀ b,b<w.heap.size->w'.heap[b]?=w.heap[b]?:=hbel.block
 have hcur:cur[0]?=some (.int .i64 k):=by
  have:=congrArg (fun l:List Value=>l[0]?) hg6
  simpa [encZ,List.getElem?_take] using this
 have hlt:∀ {b o v},W b o=some v->b<w.heap.size:=fun hv=>hS.lt hv
 have hWg:∀ b o v,W b o=some v->imKey W g k b o=some v:=fun b o v hv=>by
  unfold imKey
  rw [if_neg (fun h=>by have:=hlt hv; omega)]; exact hv
 refine ⟨_,_,H,θ,imKey W g k,rfl,⟨rfl,rfl⟩,⟨?_,?_,hS.out,?_,hS.inj⟩,.p _ _ ?_,⟨hbel.os,hbel.tape,hbel.output,hbel.size,fun b hb _=>hg b hb,hWg,fun b hb _ o=>?_,fun _ _ _=>.inl rfl,fun _ h=>.inl h⟩⟩
 ·intro b o v hv
  unfold imKey at hv
  split at hv
  ·rename_i h
   obtain ⟨rfl,rfl⟩:=h
   cases hv
   simp [World.cell?,hg2,hcur]
  ·rw [<- hS.imm b o v hv]
   exact World.cell?_of_block (hg b (hS.lt hv))
 ·intro i o hi
  exact (hS.obj i o hi).mono (fun _=>rfl) (fun v k s t hk=>hg k (hS.ownedLt hk)) (fun _ _ h=>h.mono hWg fun _ _ _=>.inl rfl) (hW:=hWg) (ht:=fun b v o hv ho=>by rw [hg b (hS.lt hv)]; exact ho)
 ·intro b hb o
  obtain ⟨i,ver,sz,tot,hth⟩:=hb
  have:=hS.ownedLt hth
  unfold imKey
  rw [if_neg (fun h=>by omega)]
  exact hS.own b ⟨i,ver,sz,tot,hth⟩ o
 ·refine .l [[.i .i64 k]] (some ⟨g,0,none⟩) cap 1 (fun _ _=>.int .i64 k) hg3 (by simp [maxL]) (fun h=>by cases h) (fun _ x hx=>by cases hx; rfl) (fun r hr=>by cases List.mem_singleton.1 hr; rfl) ?_ ?_
  ·intro i r j q hi hj x hx
   cases hx
   have hi0:i=0:=by have:=(List.getElem?_eq_some_iff.1 hi).1; simpa using this
   subst hi0
   cases hi
   have hj0:j=0:=by have:=(List.getElem?_eq_some_iff.1 hj).1; simpa using this
   subst hj0
   simp [imKey]
  ·intro i r j q hi hj
   have hi0:i=0:=by have:=(List.getElem?_eq_some_iff.1 hi).1; simpa using this
   subst hi0
   cases hi
   have hj0:j=0:=by have:=(List.getElem?_eq_some_iff.1 hj).1; simpa using this
   subst hj0
   cases hj
   exact .i _ _
 ·unfold imKey
  rw [if_neg (fun h=>by omega)]
def extK (xs : List AV) (g : Nat → Option AO) : Option AV :=
  match xs with
  | [.clo f [.ptr id off]] => bif Nat.beq f 358 && Nat.beq off 0 then
      match g id with
      | some (.var [.mp m]) => match g m with
        | some (.mapo []) => some (.p .nl)
        | some (.mapo [(.p (.i .i64 k), _)]) => bif (Lit.int .i64 k).wf then some (.p (.l [[.i .i64 k]])) else none
        | _ => none
      | _ => none
    else none
  | _ => none
theorem extK_ok {xs:List AV} {H:List AO} {r:AV} (h:extK xs (H[·]?)=some r):ACall Tryz.prog 331 xs H (pureQ r H):=by
 unfold extK at h
 split at h
 ·rename_i f id off
  cases hc:(Nat.beq f 358 && Nat.beq off 0)
  ·rw [hc] at h; cases h
  rw [hc,cond_true] at h
  rw [Bool.and_eq_true] at hc
  obtain rfl:=beq_t hc.1
  obtain rfl:=beq_t hc.2
  split at h
  ·rename_i m hid
   split at h
   ·rename_i hm
    cases h
    exact collect_nil hid hm
   ·rename_i k x hm
    cases hw:(Lit.int .i64 k).wf
    ·rw [hw] at h; cases h
    ·rw [hw] at h
     cases h
     exact collect_one hid hm hw
   ·cases h
  ·cases h
 ·cases h
end Go.Proofs.YtiehnbbbhcaacaaGreatDoor.Ev
namespace Go.Proofs.YtiehnbbbhcaacaaGreatDoor.Ev
open Go.AM
noncomputable section
def hasB (c:Nat) (s:List UInt8):Bool:=List.rec false (fun b _ ih=>Bool.rec ih true (Nat.beq b.toNat c)) s
theorem hasB_eq (c : UInt8) : ∀ s : List UInt8, hasB c.toNat s = s.contains c
  | [] => rfl
  | b :: s => by
    show Bool.rec (motive := fun _ => Bool) (hasB c.toNat s) true (Nat.beq b.toNat c.toNat) = _
    rw [List.contains_cons, hasB_eq c s]
    by_cases h : b = c
    · subst h
      rw [beq_is rfl]; simp
    · have h1 : ¬ b.toNat = c.toNat := fun e => h (UInt8.toNat.inj e)
      have h2 : (c == b) = false := by simp [Ne.symm h]
      rw [beq_no h1, h2, Bool.false_or]
def extC (xs:List AV):Option AV :=
 match xs with
 | [.p (.s s),.p (.s [c])]=>bif Nat.ble s.length maxL then some (.p (.b (hasB c.toNat s))) else none
 | _=>none
theorem extC_ok {xs:List AV} {H:List AO} {r:AV} (h:extC xs=some r):ACall Tryz.prog 206 xs H (pureQ r H):=by
 unfold extC at h
 split at h
 ·rename_i s c
  cases hc:Nat.ble s.length maxL
  ·rw [hc] at h; cases h
  ·rw [hc] at h
   cases h
   rw [hasB_eq]
   exact contains_any s (Nat.le_of_ble_eq_true hc) c
 ·cases h
def ext0:Ext:=fun f xs g=>bif Nat.beq f 206 then extC xs else bif Nat.beq f 331 then extK xs g else none
theorem ext0_ok:ExtOk Tryz.prog ext0:=fun f xs r H h=>by
 unfold ext0 at h
 cases h1:Nat.beq f 206
 ·rw [h1,cond_false] at h
  cases h2:Nat.beq f 331
  ·rw [h2] at h; cases h
  ·rw [h2,cond_true] at h
   obtain rfl:=beq_t h2
   exact extK_ok h
 ·rw [h1,cond_true] at h
  obtain rfl:=beq_t h1
  exact extC_ok h
end
end Go.Proofs.YtiehnbbbhcaacaaGreatDoor.Ev