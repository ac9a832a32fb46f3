/- Texts RvF QyD, merged. -/
import Derived.Test.YtiehnbbbhcaacaaGreatDoorKAE
import Derived.KernelRfl
set_option linter.all false
namespace Go.Proofs.YtiehnbbbhcaacaaGreatDoor.Ev
open Go.AM
noncomputable section
def listE {α:Type} (e:α->α->Bool):List α->List α->Bool
 | [],[]=>true
 | a :: l,b :: m=>e a b && listE e l m
 | _,_=>false
theorem listE_eq {α : Type} {e : α → α → Bool} (h : ∀ a b, e a b = true → a = b) : ∀ l m, listE e l m = true → l = m
  | [], [], _ => rfl
  | [], _ :: _, h => by cases h
  | _ :: _, [], h => by cases h
  | a :: l, b :: m, hl => by
    rw [listE, Bool.and_eq_true] at hl
    rw [h a b hl.1, listE_eq h l m hl.2]
def u8E (x y:UInt8):Bool:=Nat.beq x.toNat y.toNat
theorem u8E_eq (x y:UInt8) (h:u8E x y=true):x=y:=UInt8.toNat.inj (beq_t h)
def pvE:Nat->PV->PV->Bool
 | 0,_,_=>false
 | k+1,.l xs,.l ys=>listE (listE (pvE k)) xs ys
 | _+1,.s x,.s y=>listE u8E x y
 | _+1,.i k n,.i k' n'=>kEq k k' && eqF n n'
 | _+1,.b x,.b y=>x == y
 | _+1,.nl,.nl=>true
 | _+1,.nf,.nf=>true
 | _+1,.np,.np=>true
 | _+1,_,_=>false
theorem pvE_eq : ∀ k a b, pvE k a b = true → a = b := fun k => by
  induction k with
  | zero => intro a b h; cases h
  | succ k ih =>
    intro a b h
    cases a <;> cases b <;> first | rfl | (simp [pvE] at h; done) | skip
    · simp only [pvE, beq_iff_eq] at h; rw [h]
    · simp only [pvE, Bool.and_eq_true] at h
      rw [kEq_eq, eqF_eq] at h
      rw [of_decide_eq_true h.1, of_decide_eq_true h.2]
    · simp only [pvE] at h; rw [listE_eq u8E_eq _ _ h]
    · simp only [pvE] at h; rw [listE_eq (listE_eq ih) _ _ h]
def avE:Nat->AV->AV->Bool
 | 0,_,_=>false
 | _+1,.p x,.p y=>pvE 100 x y
 | k+1,.st xs,.st ys=>listE (avE k) xs ys
 | _+1,_,_=>false
theorem avE_eq : ∀ k a b, avE k a b = true → a = b := fun k => by
  induction k with
  | zero => intro a b h; cases h
  | succ k ih =>
    intro a b h
    cases a <;> cases b <;> first | (simp [avE] at h; done) | skip
    · simp only [avE] at h; rw [pvE_eq _ _ _ h]
    · simp only [avE] at h; rw [listE_eq ih _ _ h]
abbrev Kn:=List (Nat × List AV × AV)
def knF:Kn->Nat->List AV->Option AV
 | [],_,_=>none
 | e :: l,f,xs=>bif Nat.beq e.1 f && listE (avE 20) e.2.1 xs then some e.2.2 else knF l f xs
def extN (l:Kn):Ext:=fun f xs g=>match knF l f xs with
 | some r=>some r
 | none=>ext0 f xs g
def KnOk (l:Kn):Prop:=∀ e∈l,∀ H,ACall Tryz.prog e.1 e.2.1 H (pureQ e.2.2 H)
theorem knF_ok : ∀ {l : Kn} {f : Nat} {xs : List AV} {r : AV}, KnOk l → knF l f xs = some r → ∀ H, ACall Tryz.prog f xs H (pureQ r H)
  | [], f, xs, r, _, h => by cases h
  | e :: l, f, xs, r, hk, h => by
    rw [knF] at h
    cases hc : (Nat.beq e.1 f && listE (avE 20) e.2.1 xs)
    · rw [hc, cond_false] at h
      exact knF_ok (fun e he => hk e (.tail _ he)) h
    · rw [hc, cond_true] at h
      cases h
      rw [Bool.and_eq_true] at hc
      obtain rfl := beq_t hc.1
      obtain rfl := listE_eq (avE_eq 20) _ _ hc.2
      exact hk e (.head _)
theorem extN_ok {l:Kn} (hk:KnOk l):ExtOk Tryz.prog (extN l):=fun f xs r H h=>by
 unfold extN at h
 split at h
 ·rename_i r' h1
  cases h
  exact knF_ok hk h1 H
 ·exact ext0_ok f xs r H h
theorem kn0:KnOk []:=fun e h=>by cases h
theorem kn1 {l:Kn} (hk:KnOk l) {f:Nat} {xs:List AV} {r:AV} (h:∀ H,ACall Tryz.prog f xs H (pureQ r H)):KnOk ((f,xs,r) :: l):=fun e he=>by
 rcases List.mem_cons.1 he with rfl | he
 ·exact h
 ·exact hk e he
theorem knE {l:Kn} (hk:KnOk l) {f:Nat} {xs:List AV} {r:AV} (ha:xs.all pureA=true) (h:evD tt (extN l) 3000 f xs=some r):∀ H,ACall Tryz.prog f xs H (pureQ r H):=fun H=>evD_ok (extN_ok hk) ha h H
def zF:AV:=.st [.p (.i .i64 0),.p (.i .i64 0)]
def firstD (n b k m:Nat):Bool:=(Nat.beq n 3 || Nat.beq n k) && Nat.beq b m
def outD (n b k m:Nat):AV:=bif firstD n b k m then .st [.p (.i .i64 1),.p (.i .i64 0),.p (.l [[.i .i64 1]])] else bif Nat.beq k 1 then .st [.p (.i .i64 1),.p (.i .i64 0),.p (.l [[.i .i64 2]])] else .st [.p (.i .i64 2),.p (.i .i64 1),.p .nl]
def inD (k m:Int):AV:=.p (.l [[.i .i64 k],[.i .i64 (1 - m)]])
end
end Go.Proofs.YtiehnbbbhcaacaaGreatDoor.Ev
set_option linter.all false
set_option maxRecDepth 100000
set_option maxHeartbeats 4000000
namespace Go.Proofs.YtiehnbbbhcaacaaGreatDoor.Ev
open Go.AM
def digS (n:Nat):List UInt8:=if n=0 then [48] else if n=1 then [49] else if n=2 then [50] else [95]
def truS (b:Nat):List UInt8:=if b=0 then [102,97,108,115,101] else [116,114,117,101]
def preS:List UInt8:=[109,97,116,99,104,32,40,114,101,97,100,44,32,114,101,97,100,32,60,32,49,41,32,119,105,116,104,32,124,32,40]
def sufS:List UInt8:=[41,32,45,62,32,112,114,105,110,116,32,49,32,124,32,40,49,44,32,95,41,32,45,62,32,112,114,105,110,116,32,50,32,101,110,100]
def txS (n b:Nat):List UInt8:=(((preS++digS n)++[44,32])++truS b)++sufS
def oA:AV:=.st [.p (.i .i64 1),.p (.i .i64 0),.p (.l [[.i .i64 1]])]
def oB:AV:=.st [.p (.i .i64 1),.p (.i .i64 0),.p (.l [[.i .i64 2]])]
def oF:AV:=.st [.p (.i .i64 2),.p (.i .i64 1),.p .nl]
noncomputable def no0:Ext:=fun _ _ _=>none
theorem no0_ok:ExtOk Tryz.prog no0:=fun f xs r H h=>by cases h
noncomputable def tt2:TT Tryz.prog:=.node 9 (.leaf en8) (.leaf en9)
theorem sameA (H:List AO):ACall Tryz.prog 8 [oA,oA] H (pureQ (.p (.b true)) H):=evD_ok (t:=tt2) no0_ok (k:=100) rfl (by kernel_rfl) H
theorem sameB (H:List AO):ACall Tryz.prog 8 [oB,oB] H (pureQ (.p (.b true)) H):=evD_ok (t:=tt2) no0_ok (k:=100) rfl (by kernel_rfl) H
theorem sameF (H:List AO):ACall Tryz.prog 8 [oF,oF] H (pureQ (.p (.b true)) H):=evD_ok (t:=tt2) no0_ok (k:=100) rfl (by kernel_rfl) H
theorem sameI1 (H:List AO):ACall Tryz.prog 9 [.p (.l [[.i .i64 1]]),.p (.l [[.i .i64 1]])] H (pureQ (.p (.b true)) H):=evD_ok (t:=tt2) no0_ok (k:=100) rfl (by kernel_rfl) H
theorem sameI2 (H:List AO):ACall Tryz.prog 9 [.p (.l [[.i .i64 2]]),.p (.l [[.i .i64 2]])] H (pureQ (.p (.b true)) H):=evD_ok (t:=tt2) no0_ok (k:=100) rfl (by kernel_rfl) H
theorem outD_is {n b k m:Nat} {e1 e2 e3 e4:Bool} (h1:decide ((n:Int)=3)=e1) (h2:decide ((n:Int)=(k:Int))=e2) (h3:decide ((b:Int)=(m:Int))=e3) (h4:decide ((k:Int)=1)=e4) :
  outD n b k m=bif (e1 || e2) && e3 then oA else bif e4 then oB else oF:=by
 have q:∀ x y:Nat,Nat.beq x y=decide ((x:Int)=(y:Int)):=fun x y=>by rw [nbeq_iff]; exact decide_eq_decide.2 (by omega)
 subst h1 h2 h3 h4
 show (bif (Nat.beq n 3 || Nat.beq n k) && Nat.beq b m then oA else bif Nat.beq k 1 then oB else oF)=_
 rw [q,q,q,q]; rfl
theorem give2 {id ver : Nat} {rs : List (List PV)} (u : AV) (v : List AV) (j : Nat) (a b : AV) (h1 : (u :: .gs id ver 0 rs.length :: v)[j]? = some a) (h2 : (u :: .p (.l rs) :: v)[j]? = some b) : b = a ∨ a = .gs id ver 0 rs.length ∧ b = .p (.l rs) := by
  match j with
  | 0 => cases h1; cases h2; exact .inl rfl
  | 1 => cases h1; cases h2; exact .inr ⟨rfl, rfl⟩
  | j + 2 =>
    simp only [List.getElem?_cons_succ] at h1 h2
    rw [h1] at h2
    cases h2
    exact .inl rfl
theorem pass2 {f id ver:Nat} {H:List AO} {Q:AV->List AO->Prop} {u:AV} {v:List AV} {x y:PV} (hid:H[id]?=some (.rows 1 ver [[.p x],[.p y]])) (h:ACall Tryz.prog f (u :: .p (.l [[x],[y]]) :: v) (H.set id .dead) Q):ACall Tryz.prog f (u :: .gs id ver 0 2 :: v) H Q :=
 acall_give (args':=u :: .p (.l [[x],[y]]) :: v) [[x],[y]] hid rfl (give2 (rs:=[[x],[y]]) u v) h
theorem pass1 {f id ver:Nat} {H:List AO} {Q:AV->List AO->Prop} {u:AV} {v:List AV} {x:PV} (hid:H[id]?=some (.rows 1 ver [[.p x]])) (h:ACall Tryz.prog f (u :: .p (.l [[x]]) :: v) (H.set id .dead) Q):ACall Tryz.prog f (u :: .gs id ver 0 1 :: v) H Q :=
 acall_give (args':=u :: .p (.l [[x]]) :: v) [[x]] hid rfl (give2 (rs:=[[x]]) u v) h
theorem tailM {n b:Nat} (hn:n<4) (hb:b<2) (text:List UInt8) (hrun:∀ k m:Nat,k<4->m<2->∀ H,ACall Tryz.prog 6 [.p (.s text),inD k m,.p (.i .i64 500)] H (pureQ (.tup [outD n b k m,zF]) H))
  (hplay:∀ k m:Nat,k<4->m<2->∀ H,ACall Tryz.prog 7 [.p (.s text),inD k m,.p (.i .i64 500),.p (.i .i64 5000)] H (pureQ (.tup [outD n b k m,zF]) H)) (H1:List AO) (x y z:AV) :
  wpm (ACall Tryz.prog) mc3.m.b.b.b.b.b.b (finK [MR.t 2] fun r x=>r=AV.p (PV.b true)) ⟨[(0,x),(2,.p (.b false)),(15,y),(3,.p (.i .i64 n)),(4,.p (.i .i64 b)),(5,z),(6,.p (.s text))],[],H1⟩:=by
 simp only [go_sem,simprocAttr,mc3]
 refine ⟨Nat,[2,3,4,6,7],fun k st=>k<=4/\∃ H,st=⟨[(2,.p (.b false)),(3,.p (.i .i64 n)),(4,.p (.i .i64 b)),(6,.p (.s text)),(7,.p (.i .i64 k))],[],H⟩,fun k=>4 - k,⟨0,?_⟩,?_⟩
 ·simp only [go_sem,simprocAttr]
  exact ⟨_,rfl⟩
 rintro k _ ⟨hk,H2,rfl⟩
 rcases (by omega:k=4\/k<4) with rfl | hlt
 ·simp only [go_sem,simprocAttr]
 have h1:decide ((k:Int)<4)=true:=by simp; omega
 simp only [go_sem,simprocAttr,h1]
 refine ⟨Nat,[2,3,4,6,7,8],fun m st=>m<=2/\∃ H,st=⟨[(2,.p (.b false)),(3,.p (.i .i64 n)),(4,.p (.i .i64 b)),(6,.p (.s text)),(7,.p (.i .i64 k)),(8,.p (.i .i64 m))],[],H⟩,fun m=>2 - m,⟨0,?_⟩,?_⟩
 ·simp only [go_sem,simprocAttr]
  exact ⟨_,rfl⟩
 rintro m _ ⟨hm,H3,rfl⟩
 rcases (by omega:m=2\/m<2) with rfl | hml
 ·have ek:wr .i64 ((k:Int)+1)=((k+1:Nat):Int):=by rw [wr64 (by omega) (by omega)]; omega
  simp only [go_sem,simprocAttr,ek]
  exact ⟨k+1,⟨by omega,_,rfl⟩,by omega⟩
 have h2:decide ((m:Int)<2)=true:=by simp; omega
 have ew:wr .i64 (1 - (m:Int))=1 - (m:Int):=wr64 (by omega) (by omega)
 have em:wr .i64 ((m:Int)+1)=((m+1:Nat):Int):=by rw [wr64 (by omega) (by omega)]; omega
 have hr:=hrun k m hlt hml
 have hq:=hplay k m hlt hml
 obtain ⟨e1,d1⟩:∃ e,decide ((n:Int)=3)=e:=⟨_,rfl⟩
 obtain ⟨e2,d2⟩:∃ e,decide ((n:Int)=(k:Int))=e:=⟨_,rfl⟩
 obtain ⟨e3,d3⟩:∃ e,decide ((b:Int)=(m:Int))=e:=⟨_,rfl⟩
 obtain ⟨e4,d4⟩:∃ e,decide ((k:Int)=1)=e:=⟨_,rfl⟩
 rw [outD_is d1 d2 d3 d4] at hr hq
 simp only [go_sem,simprocAttr,h2,ew]
 refine pass2 (by rw [gx0]; rfl) (acall_pure (hr _) ?_)
 cases e1 <;> cases e2 <;> cases e3 <;> cases e4
 all_goals
  simp only [Bool.or_false,Bool.or_true,Bool.or_self,Bool.and_self,Bool.and_false,Bool.and_true,Bool.false_and,Bool.true_and,cond_false,cond_true] at hr hq ⊢
  simp only [go_sem,simprocAttr,oA,oB,oF,zF,ew]
  refine pass2 (by rw [gxk]; rfl) (acall_pure (hq _) ?_)
  simp only [go_sem,simprocAttr,oA,oB,oF,zF,d1,d2,d3,d4]
  first
   | (refine acall_pure (sameF _) ?_; simp only [go_sem,simprocAttr,d4,em])
   | (refine acall_pure (sameA _) ?_; simp only [go_sem,simprocAttr,d4]; refine pass1 (by rw [gxk]; rfl) (acall_pure (sameI1 _) ?_); simp only [go_sem,simprocAttr,em])
   | (refine acall_pure (sameB _) ?_; simp only [go_sem,simprocAttr,d4]; refine pass1 (by rw [gxk]; rfl) (acall_pure (sameI2 _) ?_); simp only [go_sem,simprocAttr,em])
  exact ⟨m+1,⟨by omega,_,rfl⟩,by omega⟩
theorem lawM (hrun:∀ {n b k m:Nat},n<4->b<2->k<4->m<2->∀ H,ACall Tryz.prog 6 [.p (.s (txS n b)),inD k m,.p (.i .i64 500)] H (pureQ (.tup [outD n b k m,zF]) H))
  (hplay:∀ {n b k m:Nat},n<4->b<2->k<4->m<2->∀ H,ACall Tryz.prog 7 [.p (.s (txS n b)),inD k m,.p (.i .i64 500),.p (.i .i64 5000)] H (pureQ (.tup [outD n b k m,zF]) H))
  (zs:List Int) (hw:∀ a∈zs,0<=a/\a<256) (H:List AO):ACall Tryz.prog 3 [.p (.l (byts zs))] H (fun r _=>r=.p (.b true)):=by
 refine call3 (by simp) ?_
 obtain ⟨T,hT,hm⟩:∃ T,T=mc3.m.b.b.b.b.b.b/\mc3.m=.seq mc3.m.a (.seq mc3.m.b.a (.seq mc3.m.b.b.a (.seq mc3.m.b.b.b.a (.seq mc3.m.b.b.b.b.a (.seq mc3.m.b.b.b.b.b.a T))))):=⟨_,rfl,rfl⟩
 rw [hm]
 rcases (by omega:1048576<zs.length\/zs.length<=1048576) with hl | hl
 ·have d1:decide ((1048576:Int)<(zs.length:Int))=true:=by simp; omega
  simp only [go_sem,simprocAttr,mc3]
  refine acall_pure (bigC zs _) ?_
  simp only [go_sem,simprocAttr,d1]
 have d1:decide ((1048576:Int)<(zs.length:Int))=false:=by simp; omega
 simp only [go_sem,simprocAttr,mc3]
 refine acall_pure (bigC zs _) ?_
 simp only [go_sem,simprocAttr,d1]
 obtain ⟨m0,hm0,hat0⟩:=at0C (H:=H) hw hl
 refine acall_pure hat0 ?_
 obtain ⟨n,hn,hr⟩:∃ n:Nat,n<4/\(m0:Int).tmod 4=n:=⟨m0 % 4,by omega,by rw [Int.tmod_eq_emod_of_nonneg (by omega)]; omega⟩
 simp only [go_sem,simprocAttr,hr]
 obtain ⟨m1,hm1,hat1⟩:=at1C (H:=H) hw hl
 refine acall_pure hat1 ?_
 obtain ⟨b,hb,hr1⟩:∃ b:Nat,b<2/\(m1:Int).tmod 2=b:=⟨m1 % 2,by omega,by rw [Int.tmod_eq_emod_of_nonneg (by omega)]; omega⟩
 simp only [go_sem,simprocAttr,hr1]
 have rest:=fun H1 x y z=>tailM hn hb (txS n b) (fun k m hk hm=>hrun hn hb hk hm) (fun k m hk hm=>hplay hn hb hk hm) H1 x y z
 rw [<- hT] at rest
 clear hT hm hat0 hat1 hr hr1
 rcases (by omega:n=0\/n=1\/n=2\/n=3) with rfl | rfl | rfl | rfl <;> rcases (by omega:b=0\/b=1) with rfl | rfl
 all_goals
  refine drw_same ?_
  simp only [go_sem,simprocAttr]
  exact ⟨by decide,by decide,by decide,by decide,rest _ _ _ _⟩
end Go.Proofs.YtiehnbbbhcaacaaGreatDoor.Ev