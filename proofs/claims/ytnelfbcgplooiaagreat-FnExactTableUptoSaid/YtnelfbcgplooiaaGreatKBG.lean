/- Texts PjU PjV, merged. -/
import Derived.Test.YtnelfbcgplooiaaGreatKBF
import Derived.Test.YtnelfbcgplooiaaGreatRows
import Derived.WalkKit
import Derived.ProofKit
import Derived.OpenShut
import Derived.JoinedCond
/- Programs: what a reading of one is. -/
set_option linter.all false
namespace Go.Proofs.YtnelfbcgplooiaaGreat.Pg
open Go.ChangeShapes Go.WideShapes Go.ChangeAt Go.RowKit Go.AM
theorem own:ownKnob Tryz.prog.godebug=none:=by kernel_rfl
theorem laidOut:laidOutB Tryz.prog=true:=by kernel_rfl
theorem bulk_elems {H : Type} : ∀ (l : List (DataW H)), l.length ≤ Rows.uptoBulkAll l ∧ ∀ d ∈ l, Rows.uptoBulk d ≤ Rows.uptoBulkAll l
  | [] => ⟨Nat.zero_le _, fun d h => by cases h⟩
  | d :: r => by
    obtain ⟨h1, h2⟩ := bulk_elems r
    have hd : 1 ≤ Rows.uptoBulk d := by
      cases d with
      | lit l => cases l <;> simp [Rows.uptoBulk]
      | _ => simp [Rows.uptoBulk]
    refine ⟨by simp only [Rows.uptoBulkAll, List.length_cons]; omega, fun x hx => ?_⟩
    simp only [Rows.uptoBulkAll]
    rcases List.mem_cons.1 hx with rfl | hx
    · omega
    · have := h2 x hx; omega
theorem bkOk:BkOk (fun H d=>Rows.uptoBulk (H:=H) d) where
 str:=fun H l=>by simp [Rows.uptoBulk]
 len:=fun H es sp=>by have:=(bulk_elems es).1; simp only [Rows.uptoBulk]; omega
 elem:=fun H es sp d hd=>by have:=(bulk_elems es).2 d hd; simp only [Rows.uptoBulk]; omega
 part:=fun H ps d hd=>by have:=(bulk_elems ps).2 d hd; simp only [Rows.uptoBulk]; omega
abbrev bkP:(H:Type)→DataW H→Nat:=fun H d=>Rows.uptoBulk (H:=H) d
theorem cellsT_int:Tryz.prog.cellsOf 3=1:=by kernel_rfl
theorem cellsT_string:Tryz.prog.cellsOf 9=1:=by kernel_rfl
theorem cellsT_bool:Tryz.prog.cellsOf 4=1:=by kernel_rfl
theorem cellsT_STypeExp:Tryz.prog.cellsOf 163=1:=by kernel_rfl
theorem cellsT_SPat:Tryz.prog.cellsOf 138=1:=by kernel_rfl
theorem cellsT_SExp:Tryz.prog.cellsOf 23=1:=by kernel_rfl
theorem cellsT_SArm:Tryz.prog.cellsOf 24=1:=by kernel_rfl
theorem cellsT_Sstring:Tryz.prog.cellsOf 53=1:=by kernel_rfl
theorem cellsT_SCtor:Tryz.prog.cellsOf 97=1:=by kernel_rfl
theorem cellsT_SData:Tryz.prog.cellsOf 22=1:=by kernel_rfl
theorem cellsT_TypeExp:Tryz.prog.cellsOf 165=4:=by kernel_rfl
theorem cellsT_Pat:Tryz.prog.cellsOf 140=5:=by kernel_rfl
theorem cellsT_Exp:Tryz.prog.cellsOf 26=7:=by kernel_rfl
theorem cellsT_Arm:Tryz.prog.cellsOf 142=12:=by kernel_rfl
theorem cellsT_Ctor:Tryz.prog.cellsOf 167=7:=by kernel_rfl
theorem cellsT_Data:Tryz.prog.cellsOf 99=4:=by kernel_rfl
theorem cellsT_Prog:Tryz.prog.cellsOf 28=8:=by kernel_rfl
theorem lB:1048576≤maxL:=by unfold maxL; omega
theorem dI (n:Nat):Dec Tryz.prog bkP 1048576 n 3 (fun z:Int=>[.i .i64 z]) (fun z=>(Lit.int .i64 z).wf=true):=dec_int n Tryz.underlying3
theorem dS (n:Nat):Dec Tryz.prog bkP 1048576 n 9 (fun s:List UInt8=>[.s s]) (fun s=>s.length≤1048576):=dec_string n bkOk lB Tryz.underlying9
theorem dBo (n:Nat):Dec Tryz.prog bkP 1048576 n 4 (fun b:Bool=>[.b b]) (fun _=>True):=dec_bool n Tryz.underlying4
theorem dNs (n:Nat):Dec Tryz.prog bkP 1048576 n 53 (fun l:List (List UInt8)=>[.l (namesC l)]) (fun _=>True):=by
 cases n with
 | zero=>exact dec_zero
 | succ n=>exact (dec_slice bkOk lB Tryz.underlying53 (by rw [cellsT_string]; exact Nat.one_pos) (dS n)).map (fun l=>l) (fun l _=>rfl) (fun _ _=>trivial)
theorem dTy : ∀ (m n : Nat), n ≤ m → Dec Tryz.prog bkP 1048576 n 165 TyE.cells (fun _ => True) := by
  intro m
  induction m with
  | zero => intro n h; obtain rfl : n = 0 := by omega
            exact dec_zero
  | succ m ih =>
    intro n h
    cases n with
    | zero => exact dec_zero
    | succ n =>
    have hk : Dec Tryz.prog bkP 1048576 n 163 (fun l : List TyE => [.l (TyE.cellsL l)]) (fun _ => True) := by
      cases n with
      | zero => exact dec_zero
      | succ n => exact (dec_slice bkOk lB Tryz.underlying163 (by rw [cellsT_TypeExp]; exact Nat.succ_pos _) (ih n (by omega))).map (fun l => l) (fun l _ => by rw [TyE.cellsL_eq]) (fun _ _ => trivial)
    exact (dec_struct bkOk Tryz.underlying165 cellsT_TypeExp
      (decFs_cons (fd := { name := "Kind", type := 3, offset := 0, embedded := false, tag := "", pkgPath := "", byteOffset := 0 }) (off := 0) rfl (off' := 1) (by rw [cellsT_int]) (dI n)
      (decFs_cons (fd := { name := "Name", type := 9, offset := 1, embedded := false, tag := "", pkgPath := "", byteOffset := 8 }) (off := 1) rfl (off' := 2) (by rw [cellsT_string]) (dS n)
      (decFs_cons (fd := { name := "Pos", type := 3, offset := 2, embedded := false, tag := "", pkgPath := "", byteOffset := 24 }) (off := 2) rfl (off' := 3) (by rw [cellsT_int]) (dI n)
      (decFs_one (P := Tryz.prog) (bk := bkP) (B := 1048576) (tot := 4) (fd := { name := "Kids", type := 163, offset := 3, embedded := false, tag := "", pkgPath := "", byteOffset := 32 }) rfl (by rw [cellsT_STypeExp]) (hk)))))).map (fun a => ⟨a.1, a.2.1, a.2.2.1, a.2.2.2⟩) (fun a _ => rfl) (fun _ _ => trivial)
theorem dPat : ∀ (m n : Nat), n ≤ m → Dec Tryz.prog bkP 1048576 n 140 PatD.cells (fun _ => True) := by
  intro m
  induction m with
  | zero => intro n h; obtain rfl : n = 0 := by omega
            exact dec_zero
  | succ m ih =>
    intro n h
    cases n with
    | zero => exact dec_zero
    | succ n =>
    have hk : Dec Tryz.prog bkP 1048576 n 138 (fun l : List PatD => [.l (PatD.cellsL l)]) (fun _ => True) := by
      cases n with
      | zero => exact dec_zero
      | succ n => exact (dec_slice bkOk lB Tryz.underlying138 (by rw [cellsT_Pat]; exact Nat.succ_pos _) (ih n (by omega))).map (fun l => l) (fun l _ => by rw [PatD.cellsL_eq]) (fun _ _ => trivial)
    exact (dec_struct bkOk Tryz.underlying140 cellsT_Pat
      (decFs_cons (fd := { name := "Kind", type := 3, offset := 0, embedded := false, tag := "", pkgPath := "", byteOffset := 0 }) (off := 0) rfl (off' := 1) (by rw [cellsT_int]) (dI n)
      (decFs_cons (fd := { name := "Name", type := 9, offset := 1, embedded := false, tag := "", pkgPath := "", byteOffset := 8 }) (off := 1) rfl (off' := 2) (by rw [cellsT_string]) (dS n)
      (decFs_cons (fd := { name := "Num", type := 3, offset := 2, embedded := false, tag := "", pkgPath := "", byteOffset := 24 }) (off := 2) rfl (off' := 3) (by rw [cellsT_int]) (dI n)
      (decFs_cons (fd := { name := "Pos", type := 3, offset := 3, embedded := false, tag := "", pkgPath := "", byteOffset := 32 }) (off := 3) rfl (off' := 4) (by rw [cellsT_int]) (dI n)
      (decFs_one (P := Tryz.prog) (bk := bkP) (B := 1048576) (tot := 5) (fd := { name := "Kids", type := 138, offset := 4, embedded := false, tag := "", pkgPath := "", byteOffset := 40 }) rfl (by rw [cellsT_SPat]) (hk))))))).map (fun a => ⟨a.1, a.2.1, a.2.2.1, a.2.2.2.1, a.2.2.2.2⟩) (fun a _ => rfl) (fun _ _ => trivial)
theorem dExp : ∀ (m n : Nat), n ≤ m → Dec Tryz.prog bkP 1048576 n 26 ExpD.cells (fun _ => True) ∧ Dec Tryz.prog bkP 1048576 n 142 ArmD.cells (fun _ => True) := by
  intro m
  induction m with
  | zero => intro n h; obtain rfl : n = 0 := by omega
            exact ⟨dec_zero, dec_zero⟩
  | succ m ih =>
    intro n h
    cases n with
    | zero => exact ⟨dec_zero, dec_zero⟩
    | succ n =>
    have hk : Dec Tryz.prog bkP 1048576 n 23 (fun l : List ExpD => [.l (ExpD.cellsL l)]) (fun _ => True) := by
      cases n with
      | zero => exact dec_zero
      | succ n => exact (dec_slice bkOk lB Tryz.underlying23 (by rw [cellsT_Exp]; exact Nat.succ_pos _) ((ih n (by omega)).1)).map (fun l => l) (fun l _ => by rw [ExpD.cellsL_eq]) (fun _ _ => trivial)
    have ha : Dec Tryz.prog bkP 1048576 n 24 (fun l : List ArmD => [.l (ExpD.cellsA l)]) (fun _ => True) := by
      cases n with
      | zero => exact dec_zero
      | succ n => exact (dec_slice bkOk lB Tryz.underlying24 (by rw [cellsT_Arm]; exact Nat.succ_pos _) ((ih n (by omega)).2)).map (fun l => l) (fun l _ => by rw [ExpD.cellsA_eq]) (fun _ _ => trivial)
    refine ⟨(dec_struct bkOk Tryz.underlying26 cellsT_Exp
      (decFs_cons (fd := { name := "Kind", type := 3, offset := 0, embedded := false, tag := "", pkgPath := "", byteOffset := 0 }) (off := 0) rfl (off' := 1) (by rw [cellsT_int]) (dI n)
      (decFs_cons (fd := { name := "Name", type := 9, offset := 1, embedded := false, tag := "", pkgPath := "", byteOffset := 8 }) (off := 1) rfl (off' := 2) (by rw [cellsT_string]) (dS n)
      (decFs_cons (fd := { name := "Num", type := 3, offset := 2, embedded := false, tag := "", pkgPath := "", byteOffset := 24 }) (off := 2) rfl (off' := 3) (by rw [cellsT_int]) (dI n)
      (decFs_cons (fd := { name := "Text", type := 9, offset := 3, embedded := false, tag := "", pkgPath := "", byteOffset := 32 }) (off := 3) rfl (off' := 4) (by rw [cellsT_string]) (dS n)
      (decFs_cons (fd := { name := "Pos", type := 3, offset := 4, embedded := false, tag := "", pkgPath := "", byteOffset := 48 }) (off := 4) rfl (off' := 5) (by rw [cellsT_int]) (dI n)
      (decFs_cons (fd := { name := "Kids", type := 23, offset := 5, embedded := false, tag := "", pkgPath := "", byteOffset := 56 }) (off := 5) rfl (off' := 6) (by rw [cellsT_SExp]) (hk)
      (decFs_one (P := Tryz.prog) (bk := bkP) (B := 1048576) (tot := 7) (fd := { name := "Arms", type := 24, offset := 6, embedded := false, tag := "", pkgPath := "", byteOffset := 80 }) rfl (by rw [cellsT_SArm]) (ha))))))))).map (fun a => ⟨a.1, a.2.1, a.2.2.1, a.2.2.2.1, a.2.2.2.2.1, a.2.2.2.2.2.1, a.2.2.2.2.2.2⟩) (fun a _ => rfl) (fun _ _ => trivial), ?_⟩
    exact (dec_struct bkOk Tryz.underlying142 cellsT_Arm
      (decFs_cons (fd := { name := "P", type := 140, offset := 0, embedded := false, tag := "", pkgPath := "", byteOffset := 0 }) (off := 0) rfl (off' := 5) (by rw [cellsT_Pat]) (dPat _ n (Nat.le_refl n))
      (decFs_one (P := Tryz.prog) (bk := bkP) (B := 1048576) (tot := 12) (fd := { name := "E", type := 26, offset := 5, embedded := false, tag := "", pkgPath := "", byteOffset := 64 }) rfl (by rw [cellsT_Exp]) ((ih n (by omega)).1)))).map (fun a => ⟨a.1, a.2⟩) (fun a _ => rfl) (fun _ _ => trivial)
theorem dCtor (n:Nat):Dec Tryz.prog bkP 1048576 n 167 CtorD.cells (fun _=>True):=by
 refine Dec.all (fun n=>?_) n
 exact (dec_struct bkOk Tryz.underlying167 cellsT_Ctor
  (decFs_cons (fd:={ name:= "Name",type:=9,offset:=0,embedded:=false,tag:= "",pkgPath:= "",byteOffset:=0 }) (off:=0) rfl (off':=1) (by rw [cellsT_string]) (dS n)
   (decFs_cons (fd:={ name:= "Has",type:=4,offset:=1,embedded:=false,tag:= "",pkgPath:= "",byteOffset:=16 }) (off:=1) rfl (off':=2) (by rw [cellsT_bool]) (dBo n)
   (decFs_cons (fd:={ name:= "Arg",type:=165,offset:=2,embedded:=false,tag:= "",pkgPath:= "",byteOffset:=24 }) (off:=2) rfl (off':=6) (by rw [cellsT_TypeExp]) (dTy _ n (Nat.le_refl n))
   (decFs_one (P:=Tryz.prog) (bk:=bkP) (B:=1048576) (tot:=7) (fd:={ name:= "Pos",type:=3,offset:=6,embedded:=false,tag:= "",pkgPath:= "",byteOffset:=80 }) rfl (by rw [cellsT_int]) (dI n)))))).map (fun a=>⟨a.1,a.2.1,a.2.2.1,a.2.2.2⟩) (fun a _=>by rfl) (fun _ _=>trivial)
theorem dData (n:Nat):Dec Tryz.prog bkP 1048576 n 99 DataD.cells (fun _=>True):=by
 refine Dec.all (fun n=>?_) n
 have hk:Dec Tryz.prog bkP 1048576 n 97 (fun l:List CtorD=>[.l (l.map CtorD.cells)]) (fun _=>True):=by
  cases n with
  | zero=>exact dec_zero
  | succ n=>exact (dec_slice bkOk lB Tryz.underlying97 (by rw [cellsT_Ctor]; exact Nat.succ_pos _) (dCtor n)).map (fun l=>l) (fun l _=>rfl) (fun _ _=>trivial)
 exact (dec_struct bkOk Tryz.underlying99 cellsT_Data
  (decFs_cons (fd:={ name:= "Name",type:=9,offset:=0,embedded:=false,tag:= "",pkgPath:= "",byteOffset:=0 }) (off:=0) rfl (off':=1) (by rw [cellsT_string]) (dS n)
   (decFs_cons (fd:={ name:= "Vars",type:=53,offset:=1,embedded:=false,tag:= "",pkgPath:= "",byteOffset:=16 }) (off:=1) rfl (off':=2) (by rw [cellsT_Sstring]) (dNs n)
   (decFs_cons (fd:={ name:= "Ctors",type:=97,offset:=2,embedded:=false,tag:= "",pkgPath:= "",byteOffset:=40 }) (off:=2) rfl (off':=3) (by rw [cellsT_SCtor]) (hk)
   (decFs_one (P:=Tryz.prog) (bk:=bkP) (B:=1048576) (tot:=4) (fd:={ name:= "Pos",type:=3,offset:=3,embedded:=false,tag:= "",pkgPath:= "",byteOffset:=64 }) rfl (by rw [cellsT_int]) (dI n)))))).map (fun a=>⟨a.1,a.2.1,a.2.2.1,a.2.2.2⟩) (fun a _=>rfl) (fun _ _=>trivial)
theorem dProg (n:Nat):Dec Tryz.prog bkP 1048576 n 28 ProgD.cells (fun _=>True):=by
 refine Dec.all (fun n=>?_) n
 have hk:Dec Tryz.prog bkP 1048576 n 22 (fun l:List DataD=>[.l (l.map DataD.cells)]) (fun _=>True):=by
  cases n with
  | zero=>exact dec_zero
  | succ n=>exact (dec_slice bkOk lB Tryz.underlying22 (by rw [cellsT_Data]; exact Nat.succ_pos _) (dData n)).map (fun l=>l) (fun l _=>rfl) (fun _ _=>trivial)
 exact (dec_struct bkOk Tryz.underlying28 cellsT_Prog
  (decFs_cons (fd:={ name:= "Types",type:=22,offset:=0,embedded:=false,tag:= "",pkgPath:= "",byteOffset:=0 }) (off:=0) rfl (off':=1) (by rw [cellsT_SData]) (hk)
   (decFs_one (P:=Tryz.prog) (bk:=bkP) (B:=1048576) (tot:=8) (fd:={ name:= "Body",type:=26,offset:=1,embedded:=false,tag:= "",pkgPath:= "",byteOffset:=24 }) rfl (by rw [cellsT_Exp]) ((dExp _ n (Nat.le_refl n)).1)))).map (fun a=>⟨a.1,a.2⟩) (fun a _=>rfl) (fun _ _=>trivial)
end Go.Proofs.YtnelfbcgplooiaaGreat.Pg
/- Table: the statement's contract. -/
set_option linter.all false
namespace Go.Proofs.YtnelfbcgplooiaaGreat.Pg
open Go.ChangeShapes Go.WideShapes Go.ChangeAt Go.RowKit Go.AM
set_option maxRecDepth 100000 in
theorem contractTable (H:Type) (enc:TypeId × Value→H) (W:World) (base:Nat) (args:Array Value) (ds gs:List (DataW H)) (before:List MemPlace)
  (hval:∀ (j:Nat) t v,Tryz.f4.params[j]?=some t→args[j]?=some v→Value.okWide Tryz.prog W .any base t v)
  (hW:DataW.Whole enc Tryz.prog Tryz.f4.params.toList Rows.fnExactTableSpec.vars false W args.toList ds gs before) (hk:Rows.uptoSmall H (ds++gs)=true) :
  Calls Tryz.prog 4 args W fun e W'=>∃ v,e=.returned v∧Rows.fnExactTableSpec.post enc Tryz.prog Tryz.f4 false true false false W args v W':=by
 have hW':=hW
 obtain ⟨p,q,hA0,hV,rfl,hfz,hnd⟩:=hW
 have hA:DataW.TrodAll enc Tryz.prog W 0 (fun _=>true) true Tryz.f4.params.toList args.toList ds p:=hA0
 rw [Tryz.params4] at hA hval
 obtain ⟨v0,vs0,d0,ds0,p0,q0,hargs,rfl,rfl,h0,r0⟩:=trodAll_cons hA
 obtain ⟨rfl,rfl,rfl⟩:=trodAll_nil r0
 obtain rfl:args=#[v0]:=by cases args; simp_all
 obtain ⟨rfl,rfl⟩:=trodVars_none hV
 have hb:Rows.uptoBulk d0≤1048576:=by
  have h1:=of_decide_eq_true hk
  simp only [List.append_nil,Rows.uptoBulkAll] at h1
  omega
 obtain ⟨g,_,hp⟩:=arg_struct Tryz.underlying28 dProg (hval 0 28 v0 rfl rfl) h0 hb
 exact law_post (tb:=4) Tryz.underlying4 (by kernel_rfl) laidOut (by intro t ht; rw [Tryz.params4] at ht; simp at ht; subst ht; exact ⟨by kernel_rfl,of_decide_eq_true (by kernel_rfl)⟩) rfl hW' (fun _=>rfl)
  (avs:=[.st (g.cells.map .p)]) ⟨rfl,fun j a v ha hv=>by
   cases j with
   | zero=>cases ha; cases hv; exact hp
   | succ j=>simp at ha⟩ (lawTable g)
end Go.Proofs.YtnelfbcgplooiaaGreat.Pg