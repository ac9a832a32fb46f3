/- Texts QgG QjL, merged. -/
import Derived.Test.YteilijfligofdaaGreatDoorKBG
import Derived.Test.YteilijfligofdaaGreatDoorCards
import Derived.Test.YteilijfligofdaaGreatDoorTie
import Derived.WalkKit
import Derived.ProofKit
import Derived.OpenShut
import Derived.Deep.DeepHandedRow
import Derived.Deep.DeepWitnessRowRef
set_option linter.all false
namespace Go.Proofs.YteilijfligofdaaGreatDoor.Qd
open Go.ChangeShapes Go.WideShapes Go.ChangeAt Go.RowKit Go.AM
theorem own:ownKnob Tryz.prog.godebug=none:=by kernel_rfl
theorem laidOut:laidOutB Tryz.prog=true:=by kernel_rfl
theorem qI {H:Type}:∀(l:List (DataW H)),l.length≤Rows.uptoBulkAll l∧∀d∈l,Rows.uptoBulk d≤Rows.uptoBulkAll l
  |[]=>⟨Nat.zero_le _,fun d h=>by cases h⟩
  |d::r=>by
   obtain⟨h1,h2⟩:=qI r
   have hd:1≤Rows.uptoBulk d:=by
     cases d with
     |lit l=>cases l<;>simp[Rows.uptoBulk]
     |_ =>simp[Rows.uptoBulk]
   refine⟨by simp only[Rows.uptoBulkAll,List.length_cons];omega,fun x hx=> ?_⟩;simp only[Rows.uptoBulkAll];rcases List.mem_cons.1 hx with rfl|hx
   · omega
   · have :=h2 x hx;omega
theorem ab8:aaw (fun H d=>Rows.uptoBulk (H:=H) d)where
 str:=fun H l=>by simp[Rows.uptoBulk]
 len:=fun H es sp=>by have:=(qI es).1;simp only[Rows.uptoBulk];omega
 elem:=fun H es sp d hd=>by have:=(qI es).2 d hd;simp only[Rows.uptoBulk];omega
 part:=fun H ps d hd=>by have:=(qI ps).2 d hd;simp only[Rows.uptoBulk];omega
theorem A0 {P:Program} {W:World} {n:String} {g:Nat} {t:TypeId} {ms} {nm:String} {x:DataW Unit} (hg:P.globalNamed n=some g) (ht:(P.globals[g]?).map (·.type)=some t) (hu:P.underlying t=some (.interface ms)) {rest:List (String×DataW Unit)} {ps:List MemPlace}
    (h:DataW.LaidVars P W ((n, .iface nm x)::rest) ps):∃te pe,je W g 0=some (.iface te pe):=by
  rw[DataW.LaidVars]at h;obtain⟨g',t',cs,fuel,p,q,h1,h2,h3,h4,_⟩:=h;rw[hg]at h1;cases h1;rw[ht]at h2;cases h2
  cases fuel with
  |zero=>simp[DataW.trod]at h4
  |succ fuel=>
   unfold World.var? at h3;rw[hg]at h3;simp only[Option.bind]at h3;split at h3
   · rename_i c ty fz hc
     cases h3;rcases gU:cs.toList with _|⟨a,_|⟨b,l⟩⟩
     · rw[gU]at h4;simp[DataW.trod,hu]at h4
     · rw[gU]at h4
       cases a<;>simp[DataW.trod,hu]at h4
       rename_i te pe;refine⟨te,pe, ?_⟩;unfold je World.cell?;simp only[hc];have :cs[0]?=some (.iface te pe):=by rw[←Array.getElem?_toList,gU];rfl
       simpa using this
     · rw[gU]at h4;simp[DataW.trod,hu]at h4
   · cases h3
theorem sW {P:Program} {W:World} {a:String×DataW Unit} {rest:List (String×DataW Unit)} {ps:List MemPlace} (h:DataW.LaidVars P W (a::rest) ps):∃q,DataW.LaidVars P W rest q:=by
 obtain⟨n,d⟩:=a;rw[DataW.LaidVars]at h;obtain⟨g',t',cs,fuel,p,q,h1,h2,h3,h4,h5,_⟩:=h;exact⟨q,h5⟩
theorem SR.tE {w:World} {b:Nat} {v:Value} (h:je w b 0=some v):SR yc (je w) [.tE b v] w:=by
 have h0:=SR.entry w;refine⟨h0.nF,fun id o hid=>?_,fun _ _ _=>rfl,h0.own,h0.inj⟩
 cases id with
 |zero=>cases hid;exact⟨h,fun _=>rfl⟩
 |succ id=>simp at hid
theorem Dy {P:Program} {H:Type} {enc:TypeId×Value→H} {fid:Nat} {f:Func} {s:ChangeSpec} {apart fresh handsOn again:Bool} {W:World} {args :Array Value} {ds gs:List (DataW H)} {before:List MemPlace}
    {tb:TypeId} (htb:P.underlying tb=some .bool) (Mx:f.resultTypes=#[tb]) (hl:laidOutB P=true) (adY:∀t∈f.params.toList,P.readableRec t=true ∧t<P.types.size) (Ci:s.vars=[])
    (hW:DataW.Whole enc P f.params.toList s.vars apart W args.toList ds gs before) (hfn:gs=[]→s.fn H ds={results:=[.lit (.bool true)],args :=ds})
    {H0:List AO} (agS:SR yc (je W) H0 W) {avs:List AV} (cY:xI yc (je W) avs args) (h:al P fid avs H0 (fun r _ =>r= .p (.b true))):
    Calls P fid args W fun e W'=>∃v,e= .returned v∧s.post enc P f apart fresh handsOn again W args v W':=by
  refine(h.2 W yc (je W) args agS cY).mono ?_;rintro e W' ⟨v,r,H',aX,W1,rfl,rfl,jI,hA,hS⟩;have hv:=hA.tO;subst hv;refine⟨_,rfl, ?_⟩;have hW':=hW;have aF:=hW.lt;obtain⟨p,q,hA0,hV,rfl,hfz,A7⟩:=hW
  have LS:gs=[]∧q=[]:=by
    rw[Ci]at hV
    cases gs with
    |nil=>exact⟨rfl,hV⟩
    |cons g gs=>exact hV.elim
  obtain⟨rfl,rfl⟩:=LS;have WB:=hfn rfl;refine Ch (pa:=p) (pv:=[]) hW' (fun b sp hd=> ?_) (fun sp nE=> ?_) (fun sp nE=> ?_) rfl hS.below ?_
  · rw[List.append_nil,WB,Mx]
    exact trodAll_mk1 (shut_bool htb _)
  · rw[List.append_nil,WB]
    exact tX hl hS.below adY hA0 (fun x hx=>aF x (by simp[hx])) (fun x hx=>nE x (by simp[hx]))
  · rw[List.append_nil,WB,Ci];rfl
  · intro j t r hj hr
    rw[Mx]at hj hr
    cases j with
    |zero=>
     have e1:t=tb:=by simpa using hj.symm
     have e2:r= .bool true :=by simpa[Value.resultList]using hr.symm
     subst e1;subst e2
     exact okWide_bool_mk htb _
    |succ j=>simp at hj
def agT:DataW Unit->Value
 | .lit (.int k n)=>.int k n
 |_=>.nilIface
def WC:DataW Unit->Array Value
 | .agg ps=>(ps.map agT).toArray
 |_=>#[]
def ab9:DataW Unit->ByteArray
 | .iface _ (.ptr (.agg [.lit (.string l)]))=>⟨l.toArray⟩
 |_=>⟨#[]⟩
noncomputable def low:Nat:=(World.holding Tryz.prog default ⟨#[],#[],[]⟩).heap.size
noncomputable def pS (os:Os):World:=
 let w0:=World.holding Tryz.prog os ⟨#[.cells #[.string (ab9 Rows.laid_strconv_ErrSyntax)] 221,.cells #[.string (ab9 Rows.laid_strconv_ErrRange)] 221],#[],[]⟩
 let put (h:Array Obj) (g:Nat) (cs:Array Value):Array Obj:=h.modify g fun
  | .cells _ t frozen=>.cells cs t frozen
  |o=>o
 let h0:=put w0.heap 2 #[.iface 219 (.pointer (some ⟨low,0,none⟩))];let h1:=put h0 3 #[.iface 219 (.pointer (some ⟨low+1,0,none⟩))];let h2:=put h1 0 (WC Rows.laid_internal_strconv_uint64pow10);let h3:=put h2 4 (WC Rows.laid_math_bits_deBruijn32tab);let h4:=put h3 5 (WC Rows.laid_math_bits_deBruijn64tab)
 {w0 with heap:=h4}
end Go.Proofs.YteilijfligofdaaGreatDoor.Qd
namespace Go.Proofs.YteilijfligofdaaGreatDoor.Qy
open Go.ChangeShapes Go.WideShapes Go.ChangeAt Go.RowKit Go.AM
open Qd (own laidOut ab8 A0 sW Dy pS)
theorem SR.adZ {w:World} {b:Nat} {v:Value} (h:je w b 0=some v) {b2:Nat} {v2:Value} {o:Obj} (h2:je w b2 0=some v2) (h3:w.heap[b2]?=some o):SR yc (je w) [.tE b v, .Fj b2 v2 o] w:=by
  have h0:=SR.entry w;refine⟨h0.nF,fun id o hid=> ?_,fun _ _ _ =>rfl,h0.own,h0.inj⟩
  cases id with
  |zero=>cases hid;exact⟨h,fun _ =>rfl⟩
  |succ id=>
   cases id with
   |zero=>cases hid;exact⟨h2,h3,fun _ =>rfl⟩
   |succ id=>simp at hid
theorem Fi {P:Program} {W:World} {a:String×DataW Unit} {rest:List (String×DataW Unit)} (h:laidMet P (a::rest) W):laidMet P rest W:=by
 obtain⟨ps,hV,hn⟩:=h;obtain⟨n,d⟩:=a;rw[DataW.LaidVars]at hV;obtain⟨g',t',cs,fuel,p,q,h1,h2,h3,h4,h5,rfl⟩:=hV;exact⟨q,h5,(List.nodup_append.1 hn.1).2.1,fun b off hb=>hn.2 b off (List.mem_append.2 (.inr hb))⟩
theorem WD {W:World} (hl:laidMetH Tryz.prog Rows.fnPrintedUptoRow.laid W):∃te pe,je W 3 0=some (.iface te pe):=by
 have iC:laidMet Tryz.prog Rows.fnPrintedUptoRow.laid W:=hl;obtain⟨ps,hV,_⟩:=iC;obtain⟨_,hV⟩:=sW hV;obtain⟨_,hV⟩:=sW hV;obtain⟨_,hV⟩:=sW hV;exact A0 (g:=3) (by kernel_rfl) (t:=168) (by kernel_rfl) Tryz.underlying168 hV
theorem WE {W:World} (hl:laidMetH Tryz.prog Rows.fnPrintedUptoRow.laid W):∃(ty:TypeId) (fz:Nat×Nat),W.heap[0]?=some (.cells (Lib.pow10Tab.map fun z=>Value.int .u64 z).toArray ty fz):=by
 have iC:laidMet Tryz.prog Rows.fnPrintedUptoRow.laid W:=hl;have h2:=Fi (Fi iC)
 have ht:Lib.TabIs Tryz.prog W "internal/strconv.uint64pow10" .u64 Lib.pow10Tab:=
  Lib.tabIs_of_head (g:=0) (t:=200) (e:=189) (n:=20) (by kernel_rfl) (by kernel_rfl) (by kernel_rfl) (by kernel_rfl) (by kernel_rfl) (by kernel_rfl) h2
 unfold Lib.TabIs World.var? at ht;rw[show Tryz.prog.globalNamed "internal/strconv.uint64pow10"=some 0 by kernel_rfl]at ht;simp only[Option.bind]at ht;split at ht
 ·rename_i c ty fz hc
  cases ht;exact⟨ty,fz,hc⟩
 ·cases ht
theorem WG:Tryz.prog.cellsOf 5=1:=by kernel_rfl
set_option maxRecDepth 100000 in
theorem P1 (H:Type) (enc:TypeId×Value->H) (W:World) (base:Nat) (args:Array Value) (ds gs:List (DataW H)) (before:List MemPlace)
  (N7:∀(j:Nat) t v,Tryz.f4.params[j]?=some t->args[j]?=some v->Value.okWide Tryz.prog W .any base t v)
  (hW:DataW.Whole enc Tryz.prog Tryz.f4.params.toList Rows.fnPrintedSpec.vars false W args.toList ds gs before) (hk:Rows.uptoSmall H (ds++gs)=true) (hl:laidMetH Tryz.prog Rows.fnPrintedUptoRow.laid W):
  Calls Tryz.prog 4 args W fun e W'=>∃v,e=.returned v/\Rows.fnPrintedSpec.post enc Tryz.prog Tryz.f4 false true false false W args v W':=by
 have hW':=hW;obtain⟨p,q,hA0,hV,rfl,hfz,A7⟩:=hW;have hA:DataW.TrodAll enc Tryz.prog W 0 (fun _=>true) true Tryz.f4.params.toList args.toList ds p:=hA0;rw[Tryz.params4]at hA N7;obtain⟨v0,vs0,d0,Dc,p0,q0,da,rfl,rfl,h0,r0⟩:=trodAll_cons hA;obtain⟨rfl,rfl,rfl⟩:=trodAll_nil r0;obtain rfl:args=#[v0]:=by cases args;simp_all
 obtain⟨rfl,rfl⟩:=trodVars_none hV
 have hb:Rows.uptoBulk d0<=1048576:=by
  have h1:=of_decide_eq_true hk;simp only[List.append_nil,Rows.uptoBulkAll]at h1;omega
 have Ra:∀n,OA Tryz.prog (fun H d=>Rows.uptoBulk (H:=H) d) 1048576 n 22 (fun l:List Int=>[.l (l.map fun z=>[.i .u8 z])]) (fun l=>(∀a∈l,(Lit.int .u8 a).wf=true)/\l.length<=1048576):=fun n=>by
  cases n with
  |zero=>exact OB
  |succ n=>exact JN ab8 (by unfold ia;omega) Tryz.underlying22 (by rw[WG];exact Nat.one_pos) (Q8 n Tryz.underlying5)
 obtain⟨zs,⟨hw,hz⟩,hp⟩:=JO Tryz.underlying22 Ra (N7 0 22 v0 rfl rfl) h0 hb;obtain⟨te,pe,hm⟩:=WD hl;obtain⟨ty,fz,hc⟩:=WE hl;have O4:je W 0 0=some (.int .u64 1):=by unfold je World.cell?;simp only[hc];rfl
 exact Dy (tb:=4) Tryz.underlying4 (by kernel_rfl) laidOut (by intro t ht;rw[Tryz.params4]at ht;simp at ht;subst ht;exact⟨by kernel_rfl,of_decide_eq_true (by kernel_rfl)⟩) rfl hW' (fun _=>rfl)
  (SR.adZ hm O4 hc) (avs:=[.p (.l (Qp.rL zs))]) ⟨rfl,fun j a v ha hv=>by
   cases j with
   |zero=>cases ha;cases hv;exact .p _ _ hp
   |succ j=>simp at ha⟩ (Pg.Jn zs ⟨0,te,pe,rfl⟩ ⟨1,ty,fz,rfl⟩)
theorem P2 (os:Os):laidMet Tryz.prog Rows.fnPrintedUptoRow.laid ((pS os).forCall (fun _ _=>0) ⟨#[],#[.slice none 0 0],[]⟩).memory:=
 laidMet_of_run' 8 (by kernel_rfl) (by kernel_rfl)
theorem reads (os:Os) {H:Type} (enc:TypeId×Value->H):∃places,DataW.whole enc Tryz.prog ((pS os).forCall (fun _ _=>0) ⟨#[],#[.slice none 0 0],[]⟩).memory Tryz.f4.params.toList Rows.fnPrintedSpec.vars false #[Value.slice none 0 0].toList 8=some ([.nil],[],places):=
 ⟨[],by kernel_rfl⟩
end Go.Proofs.YteilijfligofdaaGreatDoor.Qy