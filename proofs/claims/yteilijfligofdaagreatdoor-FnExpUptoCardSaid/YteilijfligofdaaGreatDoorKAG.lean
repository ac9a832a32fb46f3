/- Texts QgG QiU, merged. -/
import Derived.Test.YteilijfligofdaaGreatDoorKAF
import Derived.Test.YteilijfligofdaaGreatDoorCards
import Derived.Test.YteilijfligofdaaGreatDoorTie
import Derived.WalkKit
import Derived.ProofKit
import Derived.OpenShut
import Derived.Deep.DeepHandedRow
import Derived.Deep.DeepWitnessRowRef
set_option linter.all false
namespace Go.Proofs.YteilijfligofdaaGreatDoor.Qd
open Go.ChangeShapes Go.WideShapes Go.ChangeAt Go.RowKit Go.AM
theorem own:ownKnob Tryz.prog.godebug=none:=by kernel_rfl
theorem laidOut:laidOutB Tryz.prog=true:=by kernel_rfl
theorem bulk_elems {H : Type} : ∀ (l : List (DataW H)), l.length ≤ Rows.uptoBulkAll l ∧ ∀ d ∈ l, Rows.uptoBulk d ≤ Rows.uptoBulkAll l
  | [] => ⟨Nat.zero_le _, fun d h => by cases h⟩
  | d :: r => by
    obtain ⟨h1, h2⟩ := bulk_elems r
    have hd : 1 ≤ Rows.uptoBulk d := by
      cases d with
      | lit l => cases l <;> simp [Rows.uptoBulk]
      | _ => simp [Rows.uptoBulk]
    refine ⟨by simp only [Rows.uptoBulkAll, List.length_cons]; omega, fun x hx => ?_⟩
    simp only [Rows.uptoBulkAll]
    rcases List.mem_cons.1 hx with rfl | hx
    · omega
    · have := h2 x hx; omega
theorem bkOk:BkOk (fun H d=>Rows.uptoBulk (H:=H) d) where
 str:=fun H l=>by simp [Rows.uptoBulk]
 len:=fun H es sp=>by have:=(bulk_elems es).1; simp only [Rows.uptoBulk]; omega
 elem:=fun H es sp d hd=>by have:=(bulk_elems es).2 d hd; simp only [Rows.uptoBulk]; omega
 part:=fun H ps d hd=>by have:=(bulk_elems ps).2 d hd; simp only [Rows.uptoBulk]; omega
theorem laid_iface {P : Program} {W : World} {n : String} {g : Nat} {t : TypeId} {ms} {nm : String} {x : DataW Unit} (hg : P.globalNamed n = some g) (ht : (P.globals[g]?).map (·.type) = some t) (hu : P.underlying t = some (.interface ms)) {rest : List (String × DataW Unit)} {ps : List MemPlace}
    (h : DataW.LaidVars P W ((n, .iface nm x) :: rest) ps) : ∃ te pe, memIm W g 0 = some (.iface te pe) := by
  rw [DataW.LaidVars] at h
  obtain ⟨g', t', cs, fuel, p, q, h1, h2, h3, h4, _⟩ := h
  rw [hg] at h1; cases h1
  rw [ht] at h2; cases h2
  cases fuel with
  | zero => simp [DataW.trod] at h4
  | succ fuel =>
    unfold World.var? at h3
    rw [hg] at h3
    simp only [Option.bind] at h3
    split at h3
    · rename_i c ty fz hc
      cases h3
      rcases hcs : cs.toList with _ | ⟨a, _ | ⟨b, l⟩⟩
      · rw [hcs] at h4; simp [DataW.trod, hu] at h4
      · rw [hcs] at h4
        cases a <;> simp [DataW.trod, hu] at h4
        rename_i te pe
        refine ⟨te, pe, ?_⟩
        unfold memIm World.cell?
        simp only [hc]
        have : cs[0]? = some (.iface te pe) := by rw [← Array.getElem?_toList, hcs]; rfl
        simpa using this
      · rw [hcs] at h4; simp [DataW.trod, hu] at h4
    · cases h3
theorem laid_next {P:Program} {W:World} {a:String × DataW Unit} {rest:List (String × DataW Unit)} {ps:List MemPlace} (h:DataW.LaidVars P W (a :: rest) ps):∃ q,DataW.LaidVars P W rest q:=by
 obtain ⟨n,d⟩:=a
 rw [DataW.LaidVars] at h
 obtain ⟨g',t',cs,fuel,p,q,h1,h2,h3,h4,h5,_⟩:=h
 exact ⟨q,h5⟩
theorem SR.glob {w:World} {b:Nat} {v:Value} (h:memIm w b 0=some v):SR noTh (memIm w) [.glob b v] w:=by
 have h0:=SR.entry w
 refine ⟨h0.imm,fun id o hid=>?_,fun _ _ _=>rfl,h0.own,h0.inj⟩
 cases id with
 | zero=>cases hid; exact ⟨h,fun _=>rfl⟩
 | succ id=>simp at hid
theorem law_postG {P : Program} {H : Type} {enc : TypeId × Value → H} {fid : Nat} {f : Func} {s : ChangeSpec} {apart fresh handsOn again : Bool} {W : World} {args : Array Value} {ds gs : List (DataW H)} {before : List MemPlace}
    {tb : TypeId} (htb : P.underlying tb = some .bool) (hrt : f.resultTypes = #[tb]) (hl : laidOutB P = true) (hread : ∀ t ∈ f.params.toList, P.readableRec t = true ∧ t < P.types.size) (hvars : s.vars = [])
    (hW : DataW.Whole enc P f.params.toList s.vars apart W args.toList ds gs before) (hfn : gs = [] → s.fn H ds = { results := [.lit (.bool true)], args := ds })
    {H0 : List AO} (hSR0 : SR noTh (memIm W) H0 W) {avs : List AV} (hrel : Rels noTh (memIm W) avs args) (h : ACall P fid avs H0 (fun r _ => r = .p (.b true))) :
    Calls P fid args W fun e W' => ∃ v, e = .returned v ∧ s.post enc P f apart fresh handsOn again W args v W' := by
  refine (h.2 W noTh (memIm W) args hSR0 hrel).mono ?_
  rintro e W' ⟨v, r, H', θ', W1, rfl, rfl, hSR, hA, hS⟩
  have hv := hA.b_inv
  subst hv
  refine ⟨_, rfl, ?_⟩
  have hW' := hW
  have hlt := hW.lt
  obtain ⟨p, q, hA0, hV, rfl, hfz, hnd⟩ := hW
  have hgs : gs = [] ∧ q = [] := by
    rw [hvars] at hV
    cases gs with
    | nil => exact ⟨rfl, hV⟩
    | cons g gs => exact hV.elim
  obtain ⟨rfl, rfl⟩ := hgs
  have hfn' := hfn rfl
  refine post_of_below (pa := p) (pv := []) hW' (fun b sp hd => ?_) (fun sp hsp => ?_) (fun sp hsp => ?_) rfl hS.below ?_
  · rw [List.append_nil, hfn', hrt]
    exact trodAll_mk1 (shut_bool htb _)
  · rw [List.append_nil, hfn']
    exact trodAll_stays hl hS.below hread hA0 (fun x hx => hlt x (by simp [hx])) (fun x hx => hsp x (by simp [hx]))
  · rw [List.append_nil, hfn', hvars]; rfl
  · intro j t r hj hr
    rw [hrt] at hj hr
    cases j with
    | zero =>
      have e1 : t = tb := by simpa using hj.symm
      have e2 : r = .bool true := by simpa [Value.resultList] using hr.symm
      subst e1; subst e2
      exact okWide_bool_mk htb _
    | succ j => simp at hj
def litV:DataW Unit->Value
 | .lit (.int k n)=>.int k n
 | _=>.nilIface
def aggV:DataW Unit->Array Value
 | .agg ps=>(ps.map litV).toArray
 | _=>#[]
def strV:DataW Unit->ByteArray
 | .iface _ (.ptr (.agg [.lit (.string l)]))=>⟨l.toArray⟩
 | _=>⟨#[]⟩
noncomputable def low:Nat:=(World.holding Tryz.prog default ⟨#[],#[],[]⟩).heap.size
noncomputable def laidWorld (os:Os):World :=
 let w0:=World.holding Tryz.prog os ⟨#[.cells #[.string (strV Rows.laid_strconv_ErrSyntax)] 221,.cells #[.string (strV Rows.laid_strconv_ErrRange)] 221],#[],[]⟩
 let put (h:Array Obj) (g:Nat) (cs:Array Value):Array Obj:=h.modify g fun
  | .cells _ t frozen=>.cells cs t frozen
  | o=>o
 let h0:=put w0.heap 2 #[.iface 219 (.pointer (some ⟨low,0,none⟩))]
 let h1:=put h0 3 #[.iface 219 (.pointer (some ⟨low+1,0,none⟩))]
 let h2:=put h1 0 (aggV Rows.laid_internal_strconv_uint64pow10)
 let h3:=put h2 4 (aggV Rows.laid_math_bits_deBruijn32tab)
 let h4:=put h3 5 (aggV Rows.laid_math_bits_deBruijn64tab)
 { w0 with heap:=h4 }
end Go.Proofs.YteilijfligofdaaGreatDoor.Qd
namespace Go.Proofs.YteilijfligofdaaGreatDoor.Qx
open Go.ChangeShapes Go.WideShapes Go.ChangeAt Go.RowKit Go.AM
open Qd (own laidOut bkOk laid_iface laid_next law_postG laidWorld)
theorem SR.glob2 {w : World} {b : Nat} {v : Value} (h : memIm w b 0 = some v) {b2 : Nat} {v2 : Value} {o : Obj} (h2 : memIm w b2 0 = some v2) (h3 : w.heap[b2]? = some o) : SR noTh (memIm w) [.glob b v, .tab b2 v2 o] w := by
  have h0 := SR.entry w
  refine ⟨h0.imm, fun id o hid => ?_, fun _ _ _ => rfl, h0.own, h0.inj⟩
  cases id with
  | zero => cases hid; exact ⟨h, fun _ => rfl⟩
  | succ id =>
    cases id with
    | zero => cases hid; exact ⟨h2, h3, fun _ => rfl⟩
    | succ id => simp at hid
theorem met_next {P:Program} {W:World} {a:String × DataW Unit} {rest:List (String × DataW Unit)} (h:laidMet P (a :: rest) W):laidMet P rest W:=by
 obtain ⟨ps,hV,hn⟩:=h
 obtain ⟨n,d⟩:=a
 rw [DataW.LaidVars] at hV
 obtain ⟨g',t',cs,fuel,p,q,h1,h2,h3,h4,h5,rfl⟩:=hV
 exact ⟨q,h5,(List.nodup_append.1 hn.1).2.1,fun b off hb=>hn.2 b off (List.mem_append.2 (.inr hb))⟩
theorem rg_laid {W:World} (hl:laidMetH Tryz.prog Rows.fnExpUptoRow.laid W):∃ te pe,memIm W 3 0=some (.iface te pe):=by
 have hl':laidMet Tryz.prog Rows.fnExpUptoRow.laid W:=hl
 obtain ⟨ps,hV,_⟩:=hl'
 obtain ⟨_,hV⟩:=laid_next hV
 obtain ⟨_,hV⟩:=laid_next hV
 obtain ⟨_,hV⟩:=laid_next hV
 exact laid_iface (g:=3) (by kernel_rfl) (t:=168) (by kernel_rfl) Tryz.underlying168 hV
theorem tb_laid {W:World} (hl:laidMetH Tryz.prog Rows.fnExpUptoRow.laid W):∃ (ty:TypeId) (fz:Nat × Nat),W.heap[0]?=some (.cells (Lib.pow10Tab.map fun z=>Value.int .u64 z).toArray ty fz):=by
 have hl':laidMet Tryz.prog Rows.fnExpUptoRow.laid W:=hl
 have h2:=met_next (met_next hl')
 have ht:Lib.TabIs Tryz.prog W "internal/strconv.uint64pow10" .u64 Lib.pow10Tab :=
  Lib.tabIs_of_head (g:=0) (t:=200) (e:=189) (n:=20) (by kernel_rfl) (by kernel_rfl) (by kernel_rfl) (by kernel_rfl) (by kernel_rfl) (by kernel_rfl) h2
 unfold Lib.TabIs World.var? at ht
 rw [show Tryz.prog.globalNamed "internal/strconv.uint64pow10"=some 0 by kernel_rfl] at ht
 simp only [Option.bind] at ht
 split at ht
 ·rename_i c ty fz hc
  cases ht
  exact ⟨ty,fz,hc⟩
 ·cases ht
theorem cellsU8:Tryz.prog.cellsOf 5=1:=by kernel_rfl
set_option maxRecDepth 100000 in
theorem contract (H:Type) (enc:TypeId × Value->H) (W:World) (base:Nat) (args:Array Value) (ds gs:List (DataW H)) (before:List MemPlace)
  (hval:∀ (j:Nat) t v,Tryz.f3.params[j]?=some t->args[j]?=some v->Value.okWide Tryz.prog W .any base t v)
  (hW:DataW.Whole enc Tryz.prog Tryz.f3.params.toList Rows.fnExpSpec.vars false W args.toList ds gs before) (hk:Rows.uptoSmall H (ds++gs)=true) (hl:laidMetH Tryz.prog Rows.fnExpUptoRow.laid W) :
  Calls Tryz.prog 3 args W fun e W'=>∃ v,e=.returned v/\Rows.fnExpSpec.post enc Tryz.prog Tryz.f3 false true false false W args v W':=by
 have hW':=hW
 obtain ⟨p,q,hA0,hV,rfl,hfz,hnd⟩:=hW
 have hA:DataW.TrodAll enc Tryz.prog W 0 (fun _=>true) true Tryz.f3.params.toList args.toList ds p:=hA0
 rw [Tryz.params3] at hA hval
 obtain ⟨v0,vs0,d0,ds0,p0,q0,hargs,rfl,rfl,h0,r0⟩:=trodAll_cons hA
 obtain ⟨rfl,rfl,rfl⟩:=trodAll_nil r0
 obtain rfl:args=#[v0]:=by cases args; simp_all
 obtain ⟨rfl,rfl⟩:=trodVars_none hV
 have hb:Rows.uptoBulk d0<=1048576:=by
  have h1:=of_decide_eq_true hk
  simp only [List.append_nil,Rows.uptoBulkAll] at h1
  omega
 have hdec:∀ n,Dec Tryz.prog (fun H d=>Rows.uptoBulk (H:=H) d) 1048576 n 22 (fun l:List Int=>[.l (l.map fun z=>[.i .u8 z])]) (fun l=>(∀ a∈l,(Lit.int .u8 a).wf=true)/\l.length<=1048576):=fun n=>by
  cases n with
  | zero=>exact dec_zero
  | succ n=>exact dec_slice bkOk (by unfold maxL; omega) Tryz.underlying22 (by rw [cellsU8]; exact Nat.one_pos) (dec_int n Tryz.underlying5)
 obtain ⟨zs,⟨hw,hz⟩,hp⟩:=arg_slice Tryz.underlying22 hdec (hval 0 22 v0 rfl rfl) h0 hb
 obtain ⟨te,pe,hm⟩:=rg_laid hl
 obtain ⟨ty,fz,hc⟩:=tb_laid hl
 have hm2:memIm W 0 0=some (.int .u64 1):=by unfold memIm World.cell?; simp only [hc]; rfl
 exact law_postG (tb:=4) Tryz.underlying4 (by kernel_rfl) laidOut (by intro t ht; rw [Tryz.params3] at ht; simp at ht; subst ht; exact ⟨by kernel_rfl,of_decide_eq_true (by kernel_rfl)⟩) rfl hW' (fun _=>rfl)
  (SR.glob2 hm hm2 hc) (avs:=[.p (.l (Qp.byts zs))]) ⟨rfl,fun j a v ha hv=>by
   cases j with
   | zero=>cases ha; cases hv; exact .p _ _ hp
   | succ j=>simp at ha⟩ (Pg.lawExp zs ⟨0,te,pe,rfl⟩ ⟨1,ty,fz,rfl⟩)
theorem laid_met (os:Os):laidMet Tryz.prog Rows.fnExpUptoRow.laid ((laidWorld os).forCall (fun _ _=>0) ⟨#[],#[.slice none 0 0],[]⟩).memory :=
 laidMet_of_run' 8 (by kernel_rfl) (by kernel_rfl)
theorem reads (os:Os) {H:Type} (enc:TypeId × Value->H):∃ places,DataW.whole enc Tryz.prog ((laidWorld os).forCall (fun _ _=>0) ⟨#[],#[.slice none 0 0],[]⟩).memory Tryz.f3.params.toList Rows.fnExpSpec.vars false #[Value.slice none 0 0].toList 8=some ([.nil],[],places) :=
 ⟨[],by kernel_rfl⟩
end Go.Proofs.YteilijfligofdaaGreatDoor.Qx