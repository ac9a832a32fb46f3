/- From the readings of arguments to values of the abstract machine, and from a call that answers true to a law's post. -/
import Derived.Test.YtghcmccjchdgeaaGreatDoorAm24
import Derived.ChangeArms
import Derived.ChangeSame
import Derived.WideKeyArgs
import Derived.WideShapes
import Derived.Below
import Derived.RowKit
set_option linter.all false
namespace Go.AM
open Go.ChangeShapes Go.WideShapes Go.RowKit
variable {P:Program}
def memIm (w:World):Im:=fun b o=>w.cell? ⟨b,o,none⟩
theorem SR.entry (w:World):SR noTh (memIm w) [] w :=
 ⟨fun b o v h=>h,fun id o hid=>by simp at hid,fun _ _ _=>rfl,fun b hb=>(not_owned b hb).elim,fun b id ver sz tot id' ver' sz' tot' h1=>by cases h1⟩
def PRels (W:Im) (xs:List PV) (cs:List Value):Prop:=xs.length=cs.length/\∀ (j:Nat) q v,xs[j]?=some q->cs[j]?=some v->PRel W q v
theorem PRels.one {W:Im} {q:PV} {v:Value} (h:PRel W q v):PRels W [q] [v]:=⟨rfl,fun j q' v' hq hv=>by
 cases j with
 | zero=>simp at hq hv; subst hq; subst hv; exact h
 | succ j=>simp at hq⟩
theorem PRels.cons_inv {W:Im} {q:PV} {cs:List Value} (h:PRels W [q] cs):∃ v,cs=[v]/\PRel W q v:=by
 match cs,h.1 with
 | [v],_=>exact ⟨v,rfl,h.2 0 q v rfl rfl⟩
structure BkOk (bk:(H:Type)->DataW H->Nat):Prop where
 str:∀ (H:Type) (l:List UInt8),l.length<=bk H (.lit (.string l))
 len:∀ (H:Type) (es sp:List (DataW H)),es.length<=bk H (.slice es sp)
 elem:∀ (H:Type) (es sp:List (DataW H)),∀ d∈es,bk H d<=bk H (.slice es sp)
 part:∀ (H:Type) (ps:List (DataW H)),∀ d∈ps,bk H d<=bk H (.agg ps)
variable {bk:(H:Type)->DataW H->Nat} {B:Nat}
def Dec (P:Program) (bk:(H:Type)->DataW H->Nat) (B:Nat) (n:Nat) (t:TypeId) {α:Type} (f:α->List PV) (p:α->Prop):Prop :=
 ∀ (H:Type) (enc:TypeId × Value->H) (w:World) (sp:Nat->Bool) (cs:List Value) (x:DataW H × List MemPlace),DataW.trod enc P w 0 sp true n t cs=some x->bk H x.1<=B->∃ a,p a/\PRels (memIm w) (f a) cs
theorem dec_string {t:TypeId} (n:Nat) (hbk:BkOk bk) (hB:B<=maxL) (ht:P.underlying t=some .string):Dec P bk B n t (fun s:List UInt8=>[.s s]) (fun s=>s.length<=B):=fun H enc w sp cs x h hb=>by
 obtain ⟨s,rfl,rfl,_⟩:=DataW.trod_string ht h
 have hl:s.data.toList.length<=B:=Nat.le_trans (hbk.str H _) hb
 exact ⟨s.data.toList,hl,PRels.one (PRel.s (W:=memIm w) s.data.toList (Nat.le_trans hl hB))⟩
theorem post_of_below {H:Type} {enc:TypeId × Value->H} {f:Func} {s:ChangeSpec} {apart fresh handsOn again:Bool} {W W':World} {args:Array Value} {v:Value} {ds gs:List (DataW H)} {before pa pv:List MemPlace}
  (hW:DataW.Whole enc P f.params.toList s.vars apart W args.toList ds gs before)
  (hres:∀ (b:Nat) (sp:Nat->Bool) (hd:Bool),DataW.TrodAll enc P W' b sp hd f.resultTypes.toList (v.resultList f.resultTypes.size) (s.fn H (ds++gs)).results [])
  (hargs:∀ sp:Nat->Bool,(∀ p∈before,sp p.block=true)->DataW.TrodAll enc P W' 0 sp true f.params.toList args.toList (s.fn H (ds++gs)).args pa)
  (hvars:∀ sp:Nat->Bool,(∀ p∈before,sp p.block=true)->DataW.TrodVars enc P W' sp s.vars (s.fn H (ds++gs)).vars pv)
  (hps:before=pa++pv) (hb:Below W.heap.size W W')
  (hok:∀ (j:Nat) (t:TypeId) (r:Value),f.resultTypes[j]?=some t->(v.resultList f.resultTypes.size)[j]?=some r->Value.okWide P W' .any 0 t r) :
  s.post enc P f apart fresh handsOn again W args v W':=by
 have hlt:=hW.lt
 have hold:∀ p∈before,(fun b=>decide (b<W.heap.size)) p.block=true:=fun p hp=>by simpa using hlt p hp
 have hk:W.keptBut W' (·∈before):=hb.frame _
 refine ⟨ds,gs,before,[],pa,pv,hW,hres _ _ _,hargs _ hold,hvars _ hold,World.keptBut_mono (fun p hp=>⟨hp,?_⟩) hk,fun _=>?_⟩
 ·rw [hps,List.mem_append] at hp
  exact Or.inr hp
 ·obtain ⟨_,_,_,_,_,hz,hn⟩:=hW
  refine ⟨hok,_,_,([]++pa)++pv,⟨[]++pa,pv,trodAll_append (hargs _ (fun _ _=>rfl)) (hres _ _ _),hvars _ (fun _ _=>rfl),rfl,?_,?_⟩,?_⟩
  ·intro b off hp
   have hbl:b<W.heap.size:=hlt (.cell b off) (by rw [hps]; simpa using hp)
   have:=hz b off (by rw [hps]; simpa using hp)
   unfold World.frozen? at this ⊢
   rw [hb.block b hbl]
   exact this
  ·intro ha
   have:=hn ha
   rw [hps] at this
   simpa using this
  ·intro p hp _
   rw [hps]
   simpa using hp
theorem trodAll_stays {H : Type} {enc : TypeId × Value → H} (hl : laidOutB P = true) {W W' : World} (hb : Below W.heap.size W W') {sp : Nat → Bool} : ∀ {ts : List TypeId} {vs : List Value} {ds : List (DataW H)} {ps : List MemPlace},
    (∀ t ∈ ts, P.readableRec t = true ∧ t < P.types.size) → DataW.TrodAll enc P W 0 (fun _ => true) true ts vs ds ps → (∀ p ∈ ps, p.block < W.heap.size) → (∀ p ∈ ps, sp p.block = true) → DataW.TrodAll enc P W' 0 sp true ts vs ds ps
  | [], [], [], ps, _, h, _, _ => h
  | t :: ts, v :: vs, d :: ds, ps, hr, h, hlt, hs => by
    obtain ⟨p, q, h1, h2, rfl⟩ := h
    exact ⟨p, q, WideElems.Trod_stays hl (hr t (by simp)).1 (hr t (by simp)).2 h1 (fun x hx => hb.same (hlt x (by simp [hx]))) (fun x hx => hs x (by simp [hx])),
      trodAll_stays hl hb (fun t ht => hr t (List.mem_cons_of_mem _ ht)) h2 (fun x hx => hlt x (by simp [hx])) (fun x hx => hs x (by simp [hx])), rfl⟩
  | [], _ :: _, _, _, _, h, _, _ => h.elim
  | [], [], _ :: _, _, _, h, _, _ => h.elim
  | _ :: _, [], _, _, _, h, _, _ => h.elim
  | _ :: _, _ :: _, [], _, _, h, _, _ => h.elim
theorem Stp.below {w w':World} {θ':Th} {W W':Im} (h:Stp noTh W w θ' W' w'):Below w.heap.size w w':=⟨h.os,h.tape,h.output,h.size,fun b hb=>h.old_heap b hb⟩
theorem natCast_le0 (n:Nat):(0<=(n:Int))=True:=by simp
attribute [go_sem] decide_true decide_false Bool.not_true Bool.not_false exists_eq_left' Option.some.injEq natCast_le0 true_and and_true Bool.false_eq_true Bool.and_self Bool.and_true Bool.true_and beq_self_eq_true Nat.zero_add Int.toNat_natCast argEnv
def Z0:=@List.replicate_succ
def Z1:=@List.replicate_zero
def Z2:=@List.set_cons_zero
def Z3:=@List.set_cons_succ
def Z4:=@List.length_cons
def Z5:=@List.length_nil
def Z6:=@Nat.lt_add_one
def Z7:=@ne_eq
def Z8:=@not_false_eq_true
def Z9:=@Option.map_some
def Za:=@Nat.zero_lt_succ
def Zb:=@List.map_cons
def Zc:=@List.map_nil
def Zd:=@List.nil_append
def Ze:=@List.cons_append
def Zf:=@List.append_nil
def Zg:=@List.take_succ_cons
def Zh:=@List.take_zero
def Zi:=@List.drop_zero
def Zj:=@and_self
def Zk:=@List.append_assoc
def Zl:=@List.length_append
def Zm:=@Int.toNat_zero
def Zn:=@Int.cast_ofNat_Int
def Zo:=@Int.natCast_zero
def Zp:=@Int.natCast_one
def Zq:=@List.map_append
def Zr:=@Option.bind_some
end Go.AM
