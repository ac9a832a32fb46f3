/- Texts QgG QkG QkH, merged. -/
import Derived.Test.YtjkbbnfdbfcebaaGreatDoorKAH
import Derived.Test.YtjkbbnfdbfcebaaGreatDoorCards
import Derived.Test.YtjkbbnfdbfcebaaGreatDoorTie
import Derived.WalkKit
import Derived.ProofKit
import Derived.OpenShut
import Derived.Deep.DeepHandedRow
import Derived.Deep.DeepWitnessRowRef
set_option linter.all false
namespace Go.Proofs.YtjkbbnfdbfcebaaGreatDoor.Qd
open Go.ChangeShapes Go.WideShapes Go.ChangeAt Go.RowKit Go.AM
theorem own:ownKnob Tryz.prog.godebug=none:=by kernel_rfl
theorem laidOut:laidOutB Tryz.prog=true:=by kernel_rfl
theorem qw {H:Type}:∀(l:List (DataW H)),l.length≤Rows.uptoBulkAll l∧∀d∈l,Rows.uptoBulk d≤Rows.uptoBulkAll l
  |[]=>⟨Nat.zero_le _,fun d h=>by cases h⟩
  |d::r=>by
   obtain⟨h1,h2⟩:=qw r
   have hd:1≤Rows.uptoBulk d:=by
     cases d with
     |lit l=>cases l<;>simp[Rows.uptoBulk]
     |_ =>simp[Rows.uptoBulk]
   refine⟨by simp only[Rows.uptoBulkAll,List.length_cons];omega,fun x hx=> ?_⟩;simp only[Rows.uptoBulkAll];rcases List.mem_cons.1 hx with rfl|hx
   · omega
   · have :=h2 x hx;omega
theorem nX:Mw (fun H d=>Rows.uptoBulk (H:=H) d)where
 str:=fun H l=>by simp[Rows.uptoBulk]
 len:=fun H es sp=>by have:=(qw es).1;simp only[Rows.uptoBulk];omega
 elem:=fun H es sp d hd=>by have:=(qw es).2 d hd;simp only[Rows.uptoBulk];omega
 part:=fun H ps d hd=>by have:=(qw ps).2 d hd;simp only[Rows.uptoBulk];omega
theorem AJ {P:Program} {W:World} {n:String} {g:Nat} {t:TypeId} {ms} {nm:String} {x:DataW Unit} (hg:P.globalNamed n=some g) (ht:(P.globals[g]?).map (·.type)=some t) (hu:P.underlying t=some (.interface ms)) {rest:List (String×DataW Unit)} {ps:List MemPlace}
    (h:DataW.LaidVars P W ((n, .iface nm x)::rest) ps):∃te pe,gX W g 0=some (.iface te pe):=by
  rw[DataW.LaidVars]at h;obtain⟨g',t',cs,fuel,p,q,h1,h2,h3,h4,_⟩:=h;rw[hg]at h1;cases h1;rw[ht]at h2;cases h2
  cases fuel with
  |zero=>simp[DataW.trod]at h4
  |succ fuel=>
   unfold World.var? at h3;rw[hg]at h3;simp only[Option.bind]at h3;split at h3
   · rename_i c ty fz hc
     cases h3;rcases gQ:cs.toList with _|⟨a,_|⟨b,l⟩⟩
     · rw[gQ]at h4;simp[DataW.trod,hu]at h4
     · rw[gQ]at h4
       cases a<;>simp[DataW.trod,hu]at h4
       rename_i te pe;refine⟨te,pe, ?_⟩;unfold gX World.cell?;simp only[hc];have :cs[0]?=some (.iface te pe):=by rw[←Array.getElem?_toList,gQ];rfl
       simpa using this
     · rw[gQ]at h4;simp[DataW.trod,hu]at h4
   · cases h3
theorem sG {P:Program} {W:World} {a:String×DataW Unit} {rest:List (String×DataW Unit)} {ps:List MemPlace} (h:DataW.LaidVars P W (a::rest) ps):∃q,DataW.LaidVars P W rest q:=by
 obtain⟨n,d⟩:=a;rw[DataW.LaidVars]at h;obtain⟨g',t',cs,fuel,p,q,h1,h2,h3,h4,h5,_⟩:=h;exact⟨q,h5⟩
theorem SR.td {w:World} {b:Nat} {v:Value} (h:gX w b 0=some v):SR ou (gX w) [.td b v] w:=by
 have h0:=SR.entry w;refine⟨h0.kK,fun id o hid=>?_,fun _ _ _=>rfl,h0.own,h0.inj⟩
 cases id with
 |zero=>cases hid;exact⟨h,fun _=>rfl⟩
 |succ id=>simp at hid
theorem C8 {P:Program} {H:Type} {enc:TypeId×Value→H} {fid:Nat} {f:Func} {s:ChangeSpec} {apart fresh handsOn again:Bool} {W:World} {args :Array Value} {ds gs:List (DataW H)} {before:List MemPlace}
    {tb:TypeId} (htb:P.underlying tb=some .bool) (IM:f.resultTypes=#[tb]) (hl:laidOutB P=true) (aea:∀t∈f.params.toList,P.readableRec t=true ∧t<P.types.size) (B2:s.vars=[])
    (hW:DataW.Whole enc P f.params.toList s.vars apart W args.toList ds gs before) (hfn:gs=[]→s.fn H ds={results:=[.lit (.bool true)],args :=ds})
    {H0:List AO} (Qf:SR ou (gX W) H0 W) {avs:List AV} (cR:tq ou (gX W) avs args) (h:aA P fid avs H0 (fun r _ =>r= .p (.b true))):
    Calls P fid args W fun e W'=>∃v,e= .returned v∧s.post enc P f apart fresh handsOn again W args v W':=by
  refine(h.2 W ou (gX W) args Qf cR).mono ?_;rintro e W' ⟨v,r,H',bd,W1,rfl,rfl,gm,hA,hS⟩;have hv:=hA.tD;subst hv;refine⟨_,rfl, ?_⟩;have hW':=hW;have aj:=hW.lt;obtain⟨p,q,hA0,hV,rfl,hfz,AP⟩:=hW
  have KS:gs=[]∧q=[]:=by
    rw[B2]at hV
    cases gs with
    |nil=>exact⟨rfl,hV⟩
    |cons g gs=>exact hV.elim
  obtain⟨rfl,rfl⟩:=KS;have Wm:=hfn rfl;refine B1 (pa:=p) (pv:=[]) hW' (fun b sp hd=> ?_) (fun sp nt=> ?_) (fun sp nt=> ?_) rfl hS.below ?_
  · rw[List.append_nil,Wm,IM]
    exact trodAll_mk1 (shut_bool htb _)
  · rw[List.append_nil,Wm]
    exact tN hl hS.below aea hA0 (fun x hx=>aj x (by simp[hx])) (fun x hx=>nt x (by simp[hx]))
  · rw[List.append_nil,Wm,B2];rfl
  · intro j t r hj hr
    rw[IM]at hj hr
    cases j with
    |zero=>
     have e1:t=tb:=by simpa using hj.symm
     have e2:r= .bool true :=by simpa[Value.resultList]using hr.symm
     subst e1;subst e2
     exact okWide_bool_mk htb _
    |succ j=>simp at hj
def ag8:DataW Unit->Value
 | .lit (.int k n)=>.int k n
 |_=>.nilIface
def Wn:DataW Unit->Array Value
 | .agg ps=>(ps.map ag8).toArray
 |_=>#[]
def acq:DataW Unit->ByteArray
 | .iface _ (.ptr (.agg [.lit (.string l)]))=>⟨l.toArray⟩
 |_=>⟨#[]⟩
noncomputable def low:Nat:=(World.holding Tryz.prog default ⟨#[],#[],[]⟩).heap.size
noncomputable def pP (os:Os):World:=
 let w0:=World.holding Tryz.prog os ⟨#[.cells #[.string (acq Rows.laid_strconv_ErrSyntax)] 242,.cells #[.string (acq Rows.laid_strconv_ErrRange)] 242],#[],[]⟩
 let put (h:Array Obj) (g:Nat) (cs:Array Value):Array Obj:=h.modify g fun
  | .cells _ t frozen=>.cells cs t frozen
  |o=>o
 let h0:=put w0.heap 2 #[.iface 240 (.pointer (some ⟨low,0,none⟩))];let h1:=put h0 3 #[.iface 240 (.pointer (some ⟨low+1,0,none⟩))];let h2:=put h1 1 (Wn Rows.laid_internal_strconv_uint64pow10);let h3:=put h2 4 (Wn Rows.laid_math_bits_deBruijn32tab);let h4:=put h3 5 (Wn Rows.laid_math_bits_deBruijn64tab)
 {w0 with heap:=h4}
end Go.Proofs.YtjkbbnfdbfcebaaGreatDoor.Qd
namespace Go.Proofs.YtjkbbnfdbfcebaaGreatDoor.Qz
open Go.ChangeShapes Go.WideShapes Go.ChangeAt Go.RowKit Go.AM
open Qd (nX)
open Pg (af ae aa al ah ai bb cg)
abbrev oM:(H:Type)->DataW H->Nat:=fun H d=>Rows.uptoBulk (H:=H) d
theorem Wo {z:Int} (h:(Lit.int .i64 z).wf=true):z<=9223372036854775807:=by
 simp[Lit.wf,IntKind.min,IntKind.max,IntKind.bits,IntKind.signed]at h;omega
theorem Wp:∀{l:List ae},(∀a∈l,a.fit)->ae.jz l
 |[],_=>by rw[ae.jz];trivial
 |a::l,h=>by rw[ae.jz];exact⟨h a (by simp),Wp fun b hb=>h b (by simp[hb])⟩
theorem Wq:∀{l:List aa},(∀a∈l,a.fit)->aa.jz l
 |[],_=>by rw[aa.jz];trivial
 |a::l,h=>by rw[aa.jz];exact⟨h a (by simp),Wq fun b hb=>h b (by simp[hb])⟩
theorem Wr:∀{l:List al},(∀a∈l,a.fit)->aa.sM l
 |[],_=>by rw[aa.sM];trivial
 |a::l,h=>by rw[aa.sM];exact⟨h a (by simp),Wr fun b hb=>h b (by simp[hb])⟩
theorem gF:Tryz.prog.cellsOf 3=1:=by kernel_rfl
theorem gO:Tryz.prog.cellsOf 9=1:=by kernel_rfl
theorem Gv:Tryz.prog.cellsOf 4=1:=by kernel_rfl
theorem z7:Tryz.prog.cellsOf 161=1:=by kernel_rfl
theorem Gw:Tryz.prog.cellsOf 111=1:=by kernel_rfl
theorem Gx:Tryz.prog.cellsOf 23=1:=by kernel_rfl
theorem Gy:Tryz.prog.cellsOf 24=1:=by kernel_rfl
theorem A0:Tryz.prog.cellsOf 68=1:=by kernel_rfl
theorem DI:Tryz.prog.cellsOf 69=1:=by kernel_rfl
theorem DJ:Tryz.prog.cellsOf 22=1:=by kernel_rfl
theorem om:Tryz.prog.cellsOf 163=4:=by kernel_rfl
theorem uL:Tryz.prog.cellsOf 113=5:=by kernel_rfl
theorem qx:Tryz.prog.cellsOf 26=7:=by kernel_rfl
theorem AK:Tryz.prog.cellsOf 115=12:=by kernel_rfl
theorem yG:Tryz.prog.cellsOf 165=7:=by kernel_rfl
theorem yH:Tryz.prog.cellsOf 71=4:=by kernel_rfl
theorem Gz:Tryz.prog.cellsOf 28=8:=by kernel_rfl
theorem lB:1048576<=fb:=by unfold fb;omega
theorem dI (n:Nat):jR Tryz.prog oM 1048576 n 3 (fun z:Int=>[.i .i64 z]) (fun z=>(Lit.int .i64 z).wf=true):=Qg n Tryz.underlying3
theorem dS (n:Nat):jR Tryz.prog oM 1048576 n 9 (fun s:List UInt8=>[.s s]) (fun s=>s.length<=1048576):=Hd n nX lB Tryz.underlying9
theorem dBo (n:Nat):jR Tryz.prog oM 1048576 n 4 (fun b:Bool=>[.b b]) (fun _=>True):=NB n Tryz.underlying4
theorem dNs (n:Nat):jR Tryz.prog oM 1048576 n 68 (fun l:List (List UInt8)=>[.l (cg l)]) (fun _=>True):=by
 cases n with
 |zero=>exact fm
 |succ n=>exact(lh nX lB Tryz.underlying68 (by rw[gO];exact Nat.one_pos) (dS n)).map (fun l=>l) (fun l _=>rfl) (fun _ _=>trivial)
theorem dTy:∀(m n:Nat),n≤m→jR Tryz.prog oM 1048576 n 163 af.cells (fun _ =>True):=by
  intro m
  induction m with
  |zero=>intro n h;obtain rfl:n=0:=by omega
         exact fm
  |succ m ih=>
   intro n h
   cases n with
   |zero=>exact fm
   |succ n=>
   have hk:jR Tryz.prog oM 1048576 n 161 (fun l:List af=>[.l (af.aV l)]) (fun _ =>True):=by
     cases n with
     |zero=>exact fm
     |succ n=>exact(lh nX lB Tryz.underlying161 (by rw[om];exact Nat.succ_pos _) (ih n (by omega))).map (fun l=>l) (fun l _ =>by rw[af.aw]) (fun _ _ =>trivial)
   exact(jX nX Tryz.underlying163 om
     (cN (fd:={name := "Kind",type:=3,offset:=0,embedded:=false,tag:= "",pkgPath:= "",byteOffset:=0}) (off:=0) rfl (off':=1) (by rw[gF]) (dI n)
     (cN (fd:={name := "Name",type:=9,offset:=1,embedded:=false,tag:= "",pkgPath:= "",byteOffset:=8}) (off:=1) rfl (off':=2) (by rw[gO]) (dS n)
     (cN (fd:={name := "Pos",type:=3,offset:=2,embedded:=false,tag:= "",pkgPath:= "",byteOffset:=24}) (off:=2) rfl (off':=3) (by rw[gF]) (dI n)
     (lj (P:=Tryz.prog) (bk:=oM) (B:=1048576) (tot:=4) (fd:={name := "Kids",type:=161,offset:=3,embedded:=false,tag:= "",pkgPath:= "",byteOffset:=32}) rfl (by rw[z7]) (hk)))))).map (fun a=>⟨a.1,a.2.1,a.2.2.1,a.2.2.2⟩) (fun a _ =>rfl) (fun _ _ =>trivial)
theorem ag9:∀(m n:Nat),n≤m→jR Tryz.prog oM 1048576 n 113 ae.cells ae.fit:=by
  intro m
  induction m with
  |zero=>intro n h;obtain rfl:n=0:=by omega
         exact fm
  |succ m ih=>
   intro n h
   cases n with
   |zero=>exact fm
   |succ n=>
   have hk:jR Tryz.prog oM 1048576 n 111 (fun l:List ae=>[.l (ae.aV l)]) ae.jz:=by
     cases n with
     |zero=>exact fm
     |succ n=>exact(lh nX lB Tryz.underlying111 (by rw[uL];exact Nat.succ_pos _) (ih n (by omega))).map (fun l=>l) (fun l _ =>by rw[ae.aw]) (fun _ h=>Wp h.1)
   exact(jX nX Tryz.underlying113 uL
     (cN (fd:={name := "Kind",type:=3,offset:=0,embedded:=false,tag:= "",pkgPath:= "",byteOffset:=0}) (off:=0) rfl (off':=1) (by rw[gF]) (dI n)
     (cN (fd:={name := "Name",type:=9,offset:=1,embedded:=false,tag:= "",pkgPath:= "",byteOffset:=8}) (off:=1) rfl (off':=2) (by rw[gO]) (dS n)
     (cN (fd:={name := "Num",type:=3,offset:=2,embedded:=false,tag:= "",pkgPath:= "",byteOffset:=24}) (off:=2) rfl (off':=3) (by rw[gF]) (dI n)
     (cN (fd:={name := "Pos",type:=3,offset:=3,embedded:=false,tag:= "",pkgPath:= "",byteOffset:=32}) (off:=3) rfl (off':=4) (by rw[gF]) (dI n)
     (lj (P:=Tryz.prog) (bk:=oM) (B:=1048576) (tot:=5) (fd:={name := "Kids",type:=111,offset:=4,embedded:=false,tag:= "",pkgPath:= "",byteOffset:=40}) rfl (by rw[Gw]) (hk))))))).map (fun a=>⟨a.1,a.2.1,a.2.2.1,a.2.2.2.1,a.2.2.2.2⟩) (fun a _ =>rfl) (fun a h=>by rw[ae.fit];exact⟨Wo h.2.2.1,h.2.2.2.2⟩)
theorem aha:∀(m n:Nat),n≤m→jR Tryz.prog oM 1048576 n 26 aa.cells aa.fit∧jR Tryz.prog oM 1048576 n 115 al.cells al.fit:=by
  intro m
  induction m with
  |zero=>intro n h;obtain rfl:n=0:=by omega
         exact⟨fm,fm⟩
  |succ m ih=>
   intro n h
   cases n with
   |zero=>exact⟨fm,fm⟩
   |succ n=>
   have hk:jR Tryz.prog oM 1048576 n 23 (fun l:List aa=>[.l (aa.aV l)]) aa.jz:=by
     cases n with
     |zero=>exact fm
     |succ n=>exact(lh nX lB Tryz.underlying23 (by rw[qx];exact Nat.succ_pos _) ((ih n (by omega)).1)).map (fun l=>l) (fun l _ =>by rw[aa.aw]) (fun _ h=>Wq h.1)
   have ha:jR Tryz.prog oM 1048576 n 24 (fun l:List al=>[.l (aa.bR l)]) aa.sM:=by
     cases n with
     |zero=>exact fm
     |succ n=>exact(lh nX lB Tryz.underlying24 (by rw[AK];exact Nat.succ_pos _) ((ih n (by omega)).2)).map (fun l=>l) (fun l _ =>by rw[aa.aN]) (fun _ h=>Wr h.1)
   refine⟨(jX nX Tryz.underlying26 qx
     (cN (fd:={name := "Kind",type:=3,offset:=0,embedded:=false,tag:= "",pkgPath:= "",byteOffset:=0}) (off:=0) rfl (off':=1) (by rw[gF]) (dI n)
     (cN (fd:={name := "Name",type:=9,offset:=1,embedded:=false,tag:= "",pkgPath:= "",byteOffset:=8}) (off:=1) rfl (off':=2) (by rw[gO]) (dS n)
     (cN (fd:={name := "Num",type:=3,offset:=2,embedded:=false,tag:= "",pkgPath:= "",byteOffset:=24}) (off:=2) rfl (off':=3) (by rw[gF]) (dI n)
     (cN (fd:={name := "Text",type:=9,offset:=3,embedded:=false,tag:= "",pkgPath:= "",byteOffset:=32}) (off:=3) rfl (off':=4) (by rw[gO]) (dS n)
     (cN (fd:={name := "Pos",type:=3,offset:=4,embedded:=false,tag:= "",pkgPath:= "",byteOffset:=48}) (off:=4) rfl (off':=5) (by rw[gF]) (dI n)
     (cN (fd:={name := "Kids",type:=23,offset:=5,embedded:=false,tag:= "",pkgPath:= "",byteOffset:=56}) (off:=5) rfl (off':=6) (by rw[Gx]) (hk)
     (lj (P:=Tryz.prog) (bk:=oM) (B:=1048576) (tot:=7) (fd:={name := "Arms",type:=24,offset:=6,embedded:=false,tag:= "",pkgPath:= "",byteOffset:=80}) rfl (by rw[Gy]) (ha))))))))).map (fun a=>⟨a.1,a.2.1,a.2.2.1,a.2.2.2.1,a.2.2.2.2.1,a.2.2.2.2.2.1,a.2.2.2.2.2.2⟩) (fun a _ =>rfl) (fun a h=>by rw[aa.fit];exact⟨Wo h.2.2.1,h.2.2.2.2.2.1,h.2.2.2.2.2.2⟩), ?_⟩
   exact(jX nX Tryz.underlying115 AK
     (cN (fd:={name := "P",type:=113,offset:=0,embedded:=false,tag:= "",pkgPath:= "",byteOffset:=0}) (off:=0) rfl (off':=5) (by rw[uL]) (ag9 _ n (Nat.le_refl n))
     (lj (P:=Tryz.prog) (bk:=oM) (B:=1048576) (tot:=12) (fd:={name := "E",type:=26,offset:=5,embedded:=false,tag:= "",pkgPath:= "",byteOffset:=64}) rfl (by rw[qx]) ((ih n (by omega)).1)))).map (fun a=>⟨a.1,a.2⟩) (fun a _ =>rfl) (fun a h=>by rw[al.fit];exact⟨h.1,h.2⟩)
theorem aeb (n:Nat):jR Tryz.prog oM 1048576 n 165 ah.cells (fun _=>True):=by
 refine jR.all (fun n=>?_) n
 exact(jX nX Tryz.underlying165 yG
  (cN (fd:={name:= "Name",type:=9,offset:=0,embedded:=false,tag:= "",pkgPath:= "",byteOffset:=0}) (off:=0) rfl (off':=1) (by rw[gO]) (dS n)
   (cN (fd:={name:= "Has",type:=4,offset:=1,embedded:=false,tag:= "",pkgPath:= "",byteOffset:=16}) (off:=1) rfl (off':=2) (by rw[Gv]) (dBo n)
   (cN (fd:={name:= "Arg",type:=163,offset:=2,embedded:=false,tag:= "",pkgPath:= "",byteOffset:=24}) (off:=2) rfl (off':=6) (by rw[om]) (dTy _ n (Nat.le_refl n))
   (lj (P:=Tryz.prog) (bk:=oM) (B:=1048576) (tot:=7) (fd:={name:= "Pos",type:=3,offset:=6,embedded:=false,tag:= "",pkgPath:= "",byteOffset:=80}) rfl (by rw[gF]) (dI n)))))).map (fun a=>⟨a.1,a.2.1,a.2.2.1,a.2.2.2⟩) (fun a _=>by rfl) (fun _ _=>trivial)
theorem aec (n:Nat):jR Tryz.prog oM 1048576 n 71 ai.cells (fun _=>True):=by
 refine jR.all (fun n=>?_) n
 have hk:jR Tryz.prog oM 1048576 n 69 (fun l:List ah=>[.l (l.map ah.cells)]) (fun _=>True):=by
  cases n with
  |zero=>exact fm
  |succ n=>exact(lh nX lB Tryz.underlying69 (by rw[yG];exact Nat.succ_pos _) (aeb n)).map (fun l=>l) (fun l _=>rfl) (fun _ _=>trivial)
 exact(jX nX Tryz.underlying71 yH
  (cN (fd:={name:= "Name",type:=9,offset:=0,embedded:=false,tag:= "",pkgPath:= "",byteOffset:=0}) (off:=0) rfl (off':=1) (by rw[gO]) (dS n)
   (cN (fd:={name:= "Vars",type:=68,offset:=1,embedded:=false,tag:= "",pkgPath:= "",byteOffset:=16}) (off:=1) rfl (off':=2) (by rw[A0]) (dNs n)
   (cN (fd:={name:= "Ctors",type:=69,offset:=2,embedded:=false,tag:= "",pkgPath:= "",byteOffset:=40}) (off:=2) rfl (off':=3) (by rw[DI]) (hk)
   (lj (P:=Tryz.prog) (bk:=oM) (B:=1048576) (tot:=4) (fd:={name:= "Pos",type:=3,offset:=3,embedded:=false,tag:= "",pkgPath:= "",byteOffset:=64}) rfl (by rw[gF]) (dI n)))))).map (fun a=>⟨a.1,a.2.1,a.2.2.1,a.2.2.2⟩) (fun a _=>rfl) (fun _ _=>trivial)
theorem aed (n:Nat):jR Tryz.prog oM 1048576 n 28 bb.cells (fun g=>g.body.fit):=by
 refine jR.all (fun n=>?_) n
 have hk:jR Tryz.prog oM 1048576 n 22 (fun l:List ai=>[.l (l.map ai.cells)]) (fun _=>True):=by
  cases n with
  |zero=>exact fm
  |succ n=>exact(lh nX lB Tryz.underlying22 (by rw[yH];exact Nat.succ_pos _) (aec n)).map (fun l=>l) (fun l _=>rfl) (fun _ _=>trivial)
 exact(jX nX Tryz.underlying28 Gz
  (cN (fd:={name:= "Types",type:=22,offset:=0,embedded:=false,tag:= "",pkgPath:= "",byteOffset:=0}) (off:=0) rfl (off':=1) (by rw[DJ]) (hk)
   (lj (P:=Tryz.prog) (bk:=oM) (B:=1048576) (tot:=8) (fd:={name:= "Body",type:=26,offset:=1,embedded:=false,tag:= "",pkgPath:= "",byteOffset:=24}) rfl (by rw[qx]) ((aha _ n (Nat.le_refl n)).1)))).map (fun a=>⟨a.1,a.2⟩) (fun a _=>rfl) (fun _ h=>h.2)
end Go.Proofs.YtjkbbnfdbfcebaaGreatDoor.Qz
namespace Go.Proofs.YtjkbbnfdbfcebaaGreatDoor.Qz
open Go.ChangeShapes Go.WideShapes Go.ChangeAt Go.RowKit Go.AM
open Qd (own laidOut nX AJ sG C8 pP)
theorem SR.aee {w:World} {b:Nat} {v:Value} (h:gX w b 0=some v) {b2:Nat} {v2:Value} {o:Obj} (h2:gX w b2 0=some v2) (h3:w.heap[b2]?=some o):SR ou (gX w) [.td b v, .ES b2 v2 o] w:=by
  have h0:=SR.entry w;refine⟨h0.kK,fun id o hid=> ?_,fun _ _ _ =>rfl,h0.own,h0.inj⟩
  cases id with
  |zero=>cases hid;exact⟨h,fun _ =>rfl⟩
  |succ id=>
   cases id with
   |zero=>cases hid;exact⟨h2,h3,fun _ =>rfl⟩
   |succ id=>simp at hid
theorem ER {P:Program} {W:World} {a:String×DataW Unit} {rest:List (String×DataW Unit)} (h:laidMet P (a::rest) W):laidMet P rest W:=by
 obtain⟨ps,hV,hn⟩:=h;obtain⟨n,d⟩:=a;rw[DataW.LaidVars]at hV;obtain⟨g',t',cs,fuel,p,q,h1,h2,h3,h4,h5,rfl⟩:=hV;exact⟨q,h5,(List.nodup_append.1 hn.1).2.1,fun b off hb=>hn.2 b off (List.mem_append.2 (.inr hb))⟩
theorem Ws {W:World} (hl:laidMetH Tryz.prog Rows.fnExactNestUptoRow.laid W):∃te pe,gX W 3 0=some (.iface te pe):=by
 have iy:laidMet Tryz.prog Rows.fnExactNestUptoRow.laid W:=hl;obtain⟨ps,hV,_⟩:=iy;obtain⟨_,hV⟩:=sG hV;obtain⟨_,hV⟩:=sG hV;obtain⟨_,hV⟩:=sG hV;exact AJ (g:=3) (by kernel_rfl) (t:=181) (by kernel_rfl) Tryz.underlying181 hV
theorem Wt {W:World} (hl:laidMetH Tryz.prog Rows.fnExactNestUptoRow.laid W):∃(ty:TypeId) (fz:Nat×Nat),W.heap[1]?=some (.cells (Lib.pow10Tab.map fun z=>Value.int .u64 z).toArray ty fz):=by
 have iy:laidMet Tryz.prog Rows.fnExactNestUptoRow.laid W:=hl;have h2:=ER (ER iy)
 have ht:Lib.TabIs Tryz.prog W "internal/strconv.uint64pow10" .u64 Lib.pow10Tab:=
  Lib.tabIs_of_head (g:=1) (t:=228) (e:=194) (n:=20) (by kernel_rfl) (by kernel_rfl) (by kernel_rfl) (by kernel_rfl) (by kernel_rfl) (by kernel_rfl) h2
 unfold Lib.TabIs World.var? at ht;rw[show Tryz.prog.globalNamed "internal/strconv.uint64pow10"=some 1 by kernel_rfl]at ht;simp only[Option.bind]at ht;split at ht
 ·rename_i c ty fz hc
  cases ht;exact⟨ty,fz,hc⟩
 ·cases ht
set_option maxRecDepth 100000 in
theorem OW (H:Type) (enc:TypeId×Value->H) (W:World) (base:Nat) (args:Array Value) (ds gs:List (DataW H)) (before:List MemPlace)
  (M9:∀(j:Nat) t v,Tryz.f3.params[j]?=some t->args[j]?=some v->Value.okWide Tryz.prog W .any base t v)
  (hW:DataW.Whole enc Tryz.prog Tryz.f3.params.toList Rows.fnExactNestSpec.vars false W args.toList ds gs before) (hk:Rows.uptoSmall H (ds++gs)=true) (hl:laidMetH Tryz.prog Rows.fnExactNestUptoRow.laid W):
  Calls Tryz.prog 3 args W fun e W'=>∃v,e=.returned v/\Rows.fnExactNestSpec.post enc Tryz.prog Tryz.f3 false true false false W args v W':=by
 have hW':=hW;obtain⟨p,q,hA0,hV,rfl,hfz,AP⟩:=hW;have hA:DataW.TrodAll enc Tryz.prog W 0 (fun _=>true) true Tryz.f3.params.toList args.toList ds p:=hA0;rw[Tryz.params3]at hA M9;obtain⟨v0,vs0,d0,CB,p0,q0,df,rfl,rfl,h0,r0⟩:=trodAll_cons hA;obtain⟨rfl,rfl,rfl⟩:=trodAll_nil r0;obtain rfl:args=#[v0]:=by cases args;simp_all
 obtain⟨rfl,rfl⟩:=trodVars_none hV
 have hb:Rows.uptoBulk d0<=1048576:=by
  have h1:=of_decide_eq_true hk;simp only[List.append_nil,Rows.uptoBulkAll]at h1;omega
 obtain⟨g,hg,hp⟩:=Hf Tryz.underlying28 aed (M9 0 28 v0 rfl rfl) h0 hb;obtain⟨te,pe,hm⟩:=Ws hl;obtain⟨ty,fz,hc⟩:=Wt hl;have wW:gX W 1 0=some (.int .u64 1):=by unfold gX World.cell?;simp only[hc];rfl
 exact C8 (tb:=4) Tryz.underlying4 (by kernel_rfl) laidOut (by intro t ht;rw[Tryz.params3]at ht;simp at ht;subst ht;exact⟨by kernel_rfl,of_decide_eq_true (by kernel_rfl)⟩) rfl hW' (fun _=>rfl)
  (SR.aee hm wW hc) (avs:=[.st (g.cells.map .p)]) ⟨rfl,fun j a v ha hv=>by
   cases j with
   |zero=>cases ha;cases hv;exact hp
   |succ j=>simp at ha⟩ (Pg.Wl g hg ⟨0,te,pe,rfl⟩ ⟨1,ty,fz,rfl⟩)
theorem OX (os:Os):laidMet Tryz.prog Rows.fnExactNestUptoRow.laid ((pP os).forCall (fun _ _=>0) ⟨#[],#[.agg #[.slice none 0 0,.int .i64 0,.string ⟨#[]⟩,.int .i64 0,.string ⟨#[]⟩,.int .i64 0,.slice none 0 0,.slice none 0 0]],[]⟩).memory:=
 laidMet_of_run' 8 (by kernel_rfl) (by kernel_rfl)
theorem reads (os:Os) {H:Type} (enc:TypeId×Value->H):∃places,DataW.whole enc Tryz.prog ((pP os).forCall (fun _ _=>0) ⟨#[],#[.agg #[.slice none 0 0,.int .i64 0,.string ⟨#[]⟩,.int .i64 0,.string ⟨#[]⟩,.int .i64 0,.slice none 0 0,.slice none 0 0]],[]⟩).memory Tryz.f3.params.toList Rows.fnExactNestSpec.vars false #[Value.agg #[.slice none 0 0,.int .i64 0,.string ⟨#[]⟩,.int .i64 0,.string ⟨#[]⟩,.int .i64 0,.slice none 0 0,.slice none 0 0]].toList 8=some ([.agg [.nil,.agg [.lit (.int .i64 0),.lit (.string []),.lit (.int .i64 0),.lit (.string []),.lit (.int .i64 0),.nil,.nil]]],[],places):=
 ⟨[],by kernel_rfl⟩
end Go.Proofs.YtjkbbnfdbfcebaaGreatDoor.Qz