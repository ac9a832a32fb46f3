/- Texts QgG QyE QyF, merged. -/
import Derived.Test.YtiehnbbbhcaacaaGreatDoorKAO
import Derived.Test.YtiehnbbbhcaacaaGreatDoorCards
import Derived.Test.YtiehnbbbhcaacaaGreatDoorTie
import Derived.WalkKit
import Derived.ProofKit
import Derived.OpenShut
import Derived.Deep.DeepHandedRow
import Derived.Deep.DeepWitnessRowRef
set_option linter.all false
namespace Go.Proofs.YtiehnbbbhcaacaaGreatDoor.Qd
open Go.ChangeShapes Go.WideShapes Go.ChangeAt Go.RowKit Go.AM
theorem own:ownKnob Tryz.prog.godebug=none:=by kernel_rfl
theorem laidOut:laidOutB Tryz.prog=true:=by kernel_rfl
theorem bulk_elems {H : Type} : ∀ (l : List (DataW H)), l.length ≤ Rows.uptoBulkAll l ∧ ∀ d ∈ l, Rows.uptoBulk d ≤ Rows.uptoBulkAll l
  | [] => ⟨Nat.zero_le _, fun d h => by cases h⟩
  | d :: r => by
    obtain ⟨h1, h2⟩ := bulk_elems r
    have hd : 1 ≤ Rows.uptoBulk d := by
      cases d with
      | lit l => cases l <;> simp [Rows.uptoBulk]
      | _ => simp [Rows.uptoBulk]
    refine ⟨by simp only [Rows.uptoBulkAll, List.length_cons]; omega, fun x hx => ?_⟩
    simp only [Rows.uptoBulkAll]
    rcases List.mem_cons.1 hx with rfl | hx
    · omega
    · have := h2 x hx; omega
theorem bkOk:BkOk (fun H d=>Rows.uptoBulk (H:=H) d) where
 str:=fun H l=>by simp [Rows.uptoBulk]
 len:=fun H es sp=>by have:=(bulk_elems es).1; simp only [Rows.uptoBulk]; omega
 elem:=fun H es sp d hd=>by have:=(bulk_elems es).2 d hd; simp only [Rows.uptoBulk]; omega
 part:=fun H ps d hd=>by have:=(bulk_elems ps).2 d hd; simp only [Rows.uptoBulk]; omega
theorem arg_string {P:Program} {bk:(H:Type)->DataW H->Nat} {B:Nat} {t:TypeId} {v:Value} {w:World} {r:Reach} {base:Nat} {H:Type} {enc:TypeId × Value->H} {sp:Nat->Bool} {d:DataW H} {ps:List MemPlace}
  (hbk:BkOk bk) (hB:B<=maxL) (ht:P.underlying t=some .string) (hok:Value.okWide P w r base t v) (h:DataW.Trod enc P w 0 sp true t v d ps) (hb:bk H d<=B) :
  ∃ s:List UInt8,s.length<=B/\PRel (memIm w) (.s s) v:=by
 obtain ⟨s,rfl⟩:=okWide_string ht hok
 obtain ⟨n,hn⟩:=h
 obtain ⟨a,h1,h2⟩:=dec_string n hbk hB ht H enc w sp _ _ hn hb
 obtain ⟨v',h3,h4⟩:=h2.cons_inv
 refine ⟨a,h1,?_⟩
 simp [Value.cells] at h3
 subst h3
 exact h4
theorem laid_iface {P : Program} {W : World} {n : String} {g : Nat} {t : TypeId} {ms} {nm : String} {x : DataW Unit} (hg : P.globalNamed n = some g) (ht : (P.globals[g]?).map (·.type) = some t) (hu : P.underlying t = some (.interface ms)) {rest : List (String × DataW Unit)} {ps : List MemPlace}
    (h : DataW.LaidVars P W ((n, .iface nm x) :: rest) ps) : ∃ te pe, memIm W g 0 = some (.iface te pe) := by
  rw [DataW.LaidVars] at h
  obtain ⟨g', t', cs, fuel, p, q, h1, h2, h3, h4, _⟩ := h
  rw [hg] at h1; cases h1
  rw [ht] at h2; cases h2
  cases fuel with
  | zero => simp [DataW.trod] at h4
  | succ fuel =>
    unfold World.var? at h3
    rw [hg] at h3
    simp only [Option.bind] at h3
    split at h3
    · rename_i c ty fz hc
      cases h3
      rcases hcs : cs.toList with _ | ⟨a, _ | ⟨b, l⟩⟩
      · rw [hcs] at h4; simp [DataW.trod, hu] at h4
      · rw [hcs] at h4
        cases a <;> simp [DataW.trod, hu] at h4
        rename_i te pe
        refine ⟨te, pe, ?_⟩
        unfold memIm World.cell?
        simp only [hc]
        have : cs[0]? = some (.iface te pe) := by rw [← Array.getElem?_toList, hcs]; rfl
        simpa using this
      · rw [hcs] at h4; simp [DataW.trod, hu] at h4
    · cases h3
theorem laid_next {P:Program} {W:World} {a:String × DataW Unit} {rest:List (String × DataW Unit)} {ps:List MemPlace} (h:DataW.LaidVars P W (a :: rest) ps):∃ q,DataW.LaidVars P W rest q:=by
 obtain ⟨n,d⟩:=a
 rw [DataW.LaidVars] at h
 obtain ⟨g',t',cs,fuel,p,q,h1,h2,h3,h4,h5,_⟩:=h
 exact ⟨q,h5⟩
theorem SR.glob {w:World} {b:Nat} {v:Value} (h:memIm w b 0=some v):SR noTh (memIm w) [.glob b v] w:=by
 have h0:=SR.entry w
 refine ⟨h0.imm,fun id o hid=>?_,fun _ _ _=>rfl,h0.own,h0.inj⟩
 cases id with
 | zero=>cases hid; exact ⟨h,fun _=>rfl⟩
 | succ id=>simp at hid
theorem law_postG {P : Program} {H : Type} {enc : TypeId × Value → H} {fid : Nat} {f : Func} {s : ChangeSpec} {apart fresh handsOn again : Bool} {W : World} {args : Array Value} {ds gs : List (DataW H)} {before : List MemPlace}
    {tb : TypeId} (htb : P.underlying tb = some .bool) (hrt : f.resultTypes = #[tb]) (hl : laidOutB P = true) (hread : ∀ t ∈ f.params.toList, P.readableRec t = true ∧ t < P.types.size) (hvars : s.vars = [])
    (hW : DataW.Whole enc P f.params.toList s.vars apart W args.toList ds gs before) (hfn : gs = [] → s.fn H ds = { results := [.lit (.bool true)], args := ds })
    {H0 : List AO} (hSR0 : SR noTh (memIm W) H0 W) {avs : List AV} (hrel : Rels noTh (memIm W) avs args) (h : ACall P fid avs H0 (fun r _ => r = .p (.b true))) :
    Calls P fid args W fun e W' => ∃ v, e = .returned v ∧ s.post enc P f apart fresh handsOn again W args v W' := by
  refine (h.2 W noTh (memIm W) args hSR0 hrel).mono ?_
  rintro e W' ⟨v, r, H', θ', W1, rfl, rfl, hSR, hA, hS⟩
  have hv := hA.b_inv
  subst hv
  refine ⟨_, rfl, ?_⟩
  have hW' := hW
  have hlt := hW.lt
  obtain ⟨p, q, hA0, hV, rfl, hfz, hnd⟩ := hW
  have hgs : gs = [] ∧ q = [] := by
    rw [hvars] at hV
    cases gs with
    | nil => exact ⟨rfl, hV⟩
    | cons g gs => exact hV.elim
  obtain ⟨rfl, rfl⟩ := hgs
  have hfn' := hfn rfl
  refine post_of_below (pa := p) (pv := []) hW' (fun b sp hd => ?_) (fun sp hsp => ?_) (fun sp hsp => ?_) rfl hS.below ?_
  · rw [List.append_nil, hfn', hrt]
    exact trodAll_mk1 (shut_bool htb _)
  · rw [List.append_nil, hfn']
    exact trodAll_stays hl hS.below hread hA0 (fun x hx => hlt x (by simp [hx])) (fun x hx => hsp x (by simp [hx]))
  · rw [List.append_nil, hfn', hvars]; rfl
  · intro j t r hj hr
    rw [hrt] at hj hr
    cases j with
    | zero =>
      have e1 : t = tb := by simpa using hj.symm
      have e2 : r = .bool true := by simpa [Value.resultList] using hr.symm
      subst e1; subst e2
      exact okWide_bool_mk htb _
    | succ j => simp at hj
def litV:DataW Unit->Value
 | .lit (.int k n)=>.int k n
 | _=>.nilIface
def aggV:DataW Unit->Array Value
 | .agg ps=>(ps.map litV).toArray
 | _=>#[]
def strV:DataW Unit->ByteArray
 | .iface _ (.ptr (.agg [.lit (.string l)]))=>⟨l.toArray⟩
 | _=>⟨#[]⟩
noncomputable def low:Nat:=(World.holding Tryz.prog default ⟨#[],#[],[]⟩).heap.size
noncomputable def laidWorld (os:Os):World :=
 let w0:=World.holding Tryz.prog os ⟨#[.cells #[.string (strV Rows.laid_strconv_ErrSyntax)] 493,.cells #[.string (strV Rows.laid_strconv_ErrRange)] 493],#[],[]⟩
 let put (h:Array Obj) (g:Nat) (cs:Array Value):Array Obj:=h.modify g fun
  | .cells _ t frozen=>.cells cs t frozen
  | o=>o
 let h0:=put w0.heap 1 #[.iface 491 (.pointer (some ⟨low,0,none⟩))]
 let h1:=put h0 2 #[.iface 491 (.pointer (some ⟨low+1,0,none⟩))]
 let h2:=put h1 3 (aggV Rows.laid_internal_strconv_uint64pow10)
 let h3:=put h2 4 (aggV Rows.laid_math_bits_deBruijn32tab)
 let h4:=put h3 5 (aggV Rows.laid_math_bits_deBruijn64tab)
 { w0 with heap:=h4 }
end Go.Proofs.YtiehnbbbhcaacaaGreatDoor.Qd
namespace Go.Proofs.YtiehnbbbhcaacaaGreatDoor.Qm
open Go.ChangeShapes Go.WideShapes Go.ChangeAt Go.RowKit Go.AM
open Qd (own laidOut bkOk laid_iface laid_next law_postG laidWorld)
theorem cellsU8:Tryz.prog.cellsOf 5=1:=by kernel_rfl
set_option maxRecDepth 100000 in
theorem contract (H:Type) (enc:TypeId × Value->H) (W:World) (base:Nat) (args:Array Value) (ds gs:List (DataW H)) (before:List MemPlace)
  (hval:∀ (j:Nat) t v,Tryz.f3.params[j]?=some t->args[j]?=some v->Value.okWide Tryz.prog W .any base t v)
  (hW:DataW.Whole enc Tryz.prog Tryz.f3.params.toList Rows.fnMatchedSpec.vars false W args.toList ds gs before) (hk:Rows.uptoSmall H (ds++gs)=true) (hl:laidMetH Tryz.prog Rows.fnMatchedUptoRow.laid W) :
  Calls Tryz.prog 3 args W fun e W'=>∃ v,e=.returned v/\Rows.fnMatchedSpec.post enc Tryz.prog Tryz.f3 false true false false W args v W':=by
 have hW':=hW
 obtain ⟨p,q,hA0,hV,rfl,hfz,hnd⟩:=hW
 have hA:DataW.TrodAll enc Tryz.prog W 0 (fun _=>true) true Tryz.f3.params.toList args.toList ds p:=hA0
 rw [Tryz.params3] at hA hval
 obtain ⟨v0,vs0,d0,ds0,p0,q0,hargs,rfl,rfl,h0,r0⟩:=trodAll_cons hA
 obtain ⟨rfl,rfl,rfl⟩:=trodAll_nil r0
 obtain rfl:args=#[v0]:=by cases args; simp_all
 obtain ⟨rfl,rfl⟩:=trodVars_none hV
 have hb:Rows.uptoBulk d0<=1048576:=by
  have h1:=of_decide_eq_true hk
  simp only [List.append_nil,Rows.uptoBulkAll] at h1
  omega
 have hdec:∀ n,Dec Tryz.prog (fun H d=>Rows.uptoBulk (H:=H) d) 1048576 n 22 (fun l:List Int=>[.l (l.map fun z=>[.i .u8 z])]) (fun l=>(∀ a∈l,(Lit.int .u8 a).wf=true)/\l.length<=1048576):=fun n=>by
  cases n with
  | zero=>exact dec_zero
  | succ n=>exact dec_slice bkOk (by unfold maxL; omega) Tryz.underlying22 (by rw [cellsU8]; exact Nat.one_pos) (dec_int n Tryz.underlying5)
 obtain ⟨zs,⟨hw,hz⟩,hp⟩:=arg_slice Tryz.underlying22 hdec (hval 0 22 v0 rfl rfl) h0 hb
 exact law_postG (tb:=4) Tryz.underlying4 (by kernel_rfl) laidOut (by intro t ht; rw [Tryz.params3] at ht; simp at ht; subst ht; exact ⟨by kernel_rfl,of_decide_eq_true (by kernel_rfl)⟩) rfl hW' (fun _=>rfl)
  (SR.entry W) (avs:=[.p (.l (Ev.byts zs))]) ⟨rfl,fun j a v ha hv=>by
   cases j with
   | zero=>cases ha; cases hv; exact .p _ _ hp
   | succ j=>simp at ha⟩ (Ev.lawMatched zs (fun a ha=>by have:=hw a ha; simp [Lit.wf,IntKind.min,IntKind.max,IntKind.signed,IntKind.bits] at this; omega) [])
theorem laid_met (os:Os):laidMet Tryz.prog Rows.fnMatchedUptoRow.laid ((laidWorld os).forCall (fun _ _=>0) ⟨#[],#[.slice none 0 0],[]⟩).memory :=
 laidMet_of_run' 8 (by kernel_rfl) (by kernel_rfl)
theorem reads (os:Os) {H:Type} (enc:TypeId × Value->H):∃ places,DataW.whole enc Tryz.prog ((laidWorld os).forCall (fun _ _=>0) ⟨#[],#[.slice none 0 0],[]⟩).memory Tryz.f3.params.toList Rows.fnMatchedSpec.vars false #[Value.slice none 0 0].toList 8=some ([.nil],[],places) :=
 ⟨[],by kernel_rfl⟩
end Go.Proofs.YtiehnbbbhcaacaaGreatDoor.Qm
namespace Go.Proofs.YtiehnbbbhcaacaaGreatDoor.Qm
open Go.ChangeShapes Go.WideShapes Go.ChangeAt Go.RowKit Go.AM
open Qd (own laidOut laidWorld)
set_option maxRecDepth 100000 in
theorem lifted (os:Os) (started:os.Started) (H:Type) (enc:TypeId × Value->H) (F:Stop.Interp) :
  ReturnsInHanded {} Tryz.checked os 3 .any ((Rows.OpenSpec.upto Rows.fnMatchedSpec).preRow enc Tryz.prog Tryz.f3 Rows.fnMatchedUptoRow.domain false Rows.fnMatchedUptoRow.laid) (((Rows.OpenSpec.upto Rows.fnMatchedSpec).at F).post enc Tryz.prog Tryz.f3 false true false false):=by
 obtain ⟨places,hx⟩:=reads os enc
 refine returnsInHanded_of_row (C:=Tryz.checked) (s:=Rows.OpenSpec.upto Rows.fnMatchedSpec) own started (by kernel_rfl) Tryz.func3
  (witness_row_atRef (enc:=enc) (C:=Tryz.checked) false (laidWorld os) #[.slice none 0 0] rfl (by kernel_rfl) (by kernel_rfl) (by kernel_rfl)
   (OpenSpec.preRow_of_cond 8 hx (by kernel_rfl) (fun k hk=>by cases hk; kernel_rfl) (by kernel_rfl) (laid_met os))) ?_
 intro W base args ds gs before hval hW _ hcond _ hl _ _
 exact contract H enc W base args ds gs before hval hW (hcond _ rfl) hl
set_option maxHeartbeats 8000000 in
theorem closed:joinedFacts Tryz.prog 3 Tryz.f3 (Rows.OpenSpec.upto Rows.fnMatchedSpec).bare Rows.fnMatchedUptoRow=true:=by
 unfold joinedFacts
 simp only [Bool.and_eq_true]
 repeat' (refine And.intro ?_ ?_)
 all_goals as_aux_lemma=>kernel_rfl
theorem over:Rows.FnMatchedUptoSaid :=
 OpenClaim.holds_of_cond 3 Tryz.f3 rfl rfl rfl rfl rfl rfl rfl ⟨rfl,rfl,rfl,rfl,rfl⟩ rfl rfl rfl rfl rfl (by as_aux_lemma=>kernel_rfl) Tryz.func3 closed
  (of_decide_eq_true (by kernel_rfl)) (by unfold Func.isWrapper; first | (rw [if_pos (by decide +kernel)]; kernel_rfl) | (rw [if_neg (by decide +kernel)]; exact ⟨rfl,rfl⟩))
  (fun os started H enc _ F=>by rw [OpenClaim.pre_eq_preRow]; exact lifted os started H enc F)
end Go.Proofs.YtiehnbbbhcaacaaGreatDoor.Qm