/- From the readings of arguments to values of the abstract machine, and from a call that answers true to a law's post. -/
import Derived.Test.YtjkbbnfdbfcebaaGreatDoorAm24
import Derived.ChangeArms
import Derived.ChangeSame
import Derived.WideKeyArgs
import Derived.WideShapes
import Derived.Below
import Derived.RowKit
set_option linter.all false
namespace Go.AM
open Go.ChangeShapes Go.WideShapes Go.RowKit
variable {P:Program}
def gX (w:World):Im:=fun b o=>w.cell? ⟨b,o,none⟩
theorem SR.entry (w:World):SR ou (gX w) [] w:=
 ⟨fun b o v h=>h,fun id o hid=>by simp at hid,fun _ _ _=>rfl,fun b hb=>(mL b hb).elim,fun b id ver sz tot jm cA cP fc h1=>by cases h1⟩
def lg (W:Im) (xs:List PV) (cs:List Value):Prop:=xs.length=cs.length/\∀(j:Nat) q v,xs[j]?=some q->cs[j]?=some v->gr W q v
theorem lg.one {W:Im} {q:PV} {v:Value} (h:gr W q v):lg W [q] [v]:=⟨rfl,fun j q' v' hq hv=>by
 cases j with
 |zero=>simp at hq hv;subst hq;subst hv;exact h
 |succ j=>simp at hq⟩
theorem lg.append {W:Im} {xs ys:List PV} {cs ds:List Value} (h:lg W xs cs) (k:lg W ys ds):lg W (xs++ys) (cs++ds):=by
 refine⟨by simp[h.1,k.1],fun j q v hq hv=>?_⟩;rcases Nat.lt_or_ge j xs.length with aj|gH
 ·rw[List.getElem?_append_left aj]at hq
  rw[List.getElem?_append_left (by rw[<-h.1];exact aj)]at hv;exact h.2 j q v hq hv
 ·rw[List.getElem?_append_right gH]at hq
  rw[List.getElem?_append_right (by rw[<-h.1];exact gH),<-h.1]at hv;exact k.2 _ q v hq hv
structure Mw (bk:(H:Type)->DataW H->Nat):Prop where
 str:∀(H:Type) (l:List UInt8),l.length<=bk H (.lit (.string l))
 len:∀(H:Type) (es sp:List (DataW H)),es.length<=bk H (.slice es sp)
 elem:∀(H:Type) (es sp:List (DataW H)),∀d∈es,bk H d<=bk H (.slice es sp)
 part:∀(H:Type) (ps:List (DataW H)),∀d∈ps,bk H d<=bk H (.agg ps)
variable {bk:(H:Type)->DataW H->Nat} {B:Nat}
def jR (P:Program) (bk:(H:Type)->DataW H->Nat) (B:Nat) (n:Nat) (t:TypeId) {α:Type} (f:α->List PV) (p:α->Prop):Prop :=
 ∀(H:Type) (enc:TypeId×Value->H) (w:World) (sp:Nat->Bool) (cs:List Value) (x:DataW H×List MemPlace),DataW.trod enc P w 0 sp true n t cs=some x->bk H x.1<=B->∃a,p a/\lg (gX w) (f a) cs
theorem fm {t:TypeId} {α:Type} {f:α->List PV} {p:α->Prop}:jR P bk B 0 t f p:=fun H enc w sp cs x h _=>by simp[DataW.trod]at h
theorem jR.map {n:Nat} {t:TypeId} {α β:Type} {f:α->List PV} {p:α->Prop} {f':β->List PV} {p':β->Prop} (h:jR P bk B n t f p) (g:α->β) (hf:∀a,p a->f' (g a)=f a) (hp:∀a,p a->p' (g a)):jR P bk B n t f' p':=
 fun H enc w sp cs x hx hb=>by
  obtain⟨a,h1,h2⟩:=h H enc w sp cs x hx hb;exact⟨g a,hp a h1,by rw[hf a h1];exact h2⟩
theorem Qg {t:TypeId} {k:IntKind} (n:Nat) (ht:P.underlying t=some (.int k)):jR P bk B n t (fun z:Int=>[.i k z]) (fun z=>(Lit.int k z).wf=true):=fun H enc w sp cs x h _=>by
 obtain⟨z,rfl,_,hw⟩:=DataW.trod_int ht h;exact⟨z,hw,lg.one (.i k z)⟩
theorem NB {t:TypeId} (n:Nat) (ht:P.underlying t=some .bool):jR P bk B n t (fun b:Bool=>[.b b]) (fun _=>True):=fun H enc w sp cs x h _=>by
 obtain⟨b,rfl,_⟩:=DataW.trod_bool ht h;exact⟨b,trivial,lg.one (.b b)⟩
theorem Hd {t:TypeId} (n:Nat) (NC:Mw bk) (hB:B<=fb) (ht:P.underlying t=some .string):jR P bk B n t (fun s:List UInt8=>[.s s]) (fun s=>s.length<=B):=fun H enc w sp cs x h hb=>by
 obtain⟨s,rfl,rfl,_⟩:=DataW.trod_string ht h;have hl:s.data.toList.length<=B:=Nat.le_trans (NC.str H _) hb;exact⟨s.data.toList,hl,lg.one (gr.s (W:=gX w) s.data.toList (Nat.le_trans hl hB))⟩
theorem He {α:Type} {Q:Nat→α→Prop}:∀(n:Nat),(∀i,i<n→∃a,Q i a)→∃as :List α,as.length=n∧∀(i:Nat) a,as[i]?=some a→Q i a
  |0,_ =>⟨[],rfl,fun i a h=>by simp at h⟩
  |n+1,h=>by
   obtain⟨as,h1,h2⟩:=He n fun i hi=>h i (by omega)
   obtain⟨a,ha⟩:=h n (by omega);refine⟨as ++[a],by simp[h1],fun i b hb=> ?_⟩;rcases Nat.lt_or_ge i n with aj|gH
   · rw[List.getElem?_append_left (by omega)]at hb;exact h2 i b hb
   · rw[List.getElem?_append_right (by omega)]at hb
     have :i=n:=by
       have :=(List.getElem?_eq_some_iff.1 hb).1;simp at this;omega
     subst this;simp[h1]at hb;subst hb;exact ha
theorem zf {w:World} {a:Addr} {n:Nat} {cs:List Value} (h:w.cells? 0 a n=some cs):cs.length=n∧∀(j:Nat) v,cs[j]?=some v→(a.add j).spot=none ∧w.cell? ⟨a.block,a.off+j,none⟩=some v:=by
  unfold World.cells? at h;rw[if_pos (Nat.zero_le _)]at h;refine⟨by simpa using mapM_some_length h,fun j v hv=> ?_⟩
  have hj:j<n:=by
    have h1:=mapM_some_length h;have h2:=(List.getElem?_eq_some_iff.1 hv).1;simp at h1;omega
  have hc:=mapM_some_get h j j (by simp[hj]);rw[hv]at hc
  have Jg:(a.add j).spot=none :=by
    cases nt:(a.add j).spot with
    |none =>rfl
    |some s=>
     simp only[World.cell?]at hc;split at hc
     · simp[nt]at hc
     · cases hc
  have e:a.add j=⟨a.block,a.off+j,none⟩:=by
    unfold Addr.add at Jg⊢;split
    · rename_i h0
      subst h0;rw[if_pos rfl]at Jg;cases a
      simp_all
    · rfl
  exact⟨Jg,by rw[←e];exact hc⟩
theorem lh {t e:TypeId} {n:Nat} {α:Type} {f:α->List PV} {p:α->Prop} (NC:Mw bk) (hB:B<=fb) (ht:P.underlying t=some (.slice e)) (h0:0<P.cellsOf e) (he:jR P bk B n e f p):
  jR P bk B (n+1) t (fun as:List α=>[.l (as.map f)]) (fun as=>(∀a∈as,p a)/\as.length<=B):=fun H enc w sp cs x h hb=>by
 rcases DataW.trod_slice ht h with⟨rfl,_⟩|⟨a,len,cap,elems,rest,n',vy,rfl,rfl,_,hlc,hcm,hel,Am,_,_⟩
 ·exact⟨[],⟨fun a ha=>by simp at ha,Nat.zero_le _⟩,lg.one (.l [] none 0 0 (fun _ _=>undef) (Nat.le_refl _) (Nat.zero_le _) (fun _=>rfl) (fun _ x hx=>by cases hx) (fun r hr=>by cases hr) (fun i r j q hi=>by simp at hi) (fun i r j q hi=>by simp at hi))⟩
 ·cases vy
  have aav:∀i,i<len->∃y:α×List Value,p y.1/\w.cells? 0 (a.add (i*P.cellsOf e)) (P.cellsOf e)=some y.2/\lg (gX w) (f y.1) y.2:=by
   intro i hi;have h1:=Am i hi;have aj:i<elems.length:=by omega
   rw[List.getElem?_eq_getElem aj,Option.bind_eq_some_iff]at h1;obtain⟨gG,h2,h3⟩:=h1;obtain⟨b,h4,h5⟩:=he H enc w sp gG _ h3 (Nat.le_trans (NC.elem H _ _ _ (List.mem_map_of_mem (List.getElem_mem aj))) hb);exact⟨(b,gG),h4,h2,h5⟩
  obtain⟨ys,hyl,gI⟩:=He len aav
  have aih:len<=B:=by
   have:=Nat.le_trans (NC.len H _ _) hb;simpa[hel]using this
  refine⟨ys.map (·.1),⟨fun b hb=>?_,by simp;omega⟩,?_⟩
  ·obtain⟨y,hy,rfl⟩:=List.mem_map.1 hb
   obtain⟨i,hi⟩:=List.mem_iff_getElem?.1 hy;exact(gI i y hi).1
  ·have hl:((ys.map (·.1)).map f).length=len:=by simp[hyl]
   have key:gr (gX w) (.l ((ys.map (·.1)).map f)) (.slice (some a) ((ys.map (·.1)).map f).length cap):=by
    have Fj:∀(i:Nat) (r:List PV) (j:Nat) (q:PV),((ys.map (·.1)).map f)[i]?=some r->r[j]?=some q->∃v,gr (gX w) q v/\a.block=a.block/\w.cell? ⟨a.block,a.off+(i*P.cellsOf e+j),none⟩=some v/\(i*P.cellsOf e+j=0->a.spot=none):=by
     intro i r j q hi hj;simp only[List.getElem?_map,Option.map_map,Option.map_eq_some_iff,Function.comp]at hi;obtain⟨y,hy,rfl⟩:=hi;obtain⟨_,h2,h3⟩:=gI i y hy;obtain⟨c1,c2⟩:=zf h2;have me:j<y.2.length:=by rw[<-h3.1];exact(List.getElem?_eq_some_iff.1 hj).1
     have hv:=List.getElem?_eq_getElem me;obtain⟨s1,s2⟩:=c2 j _ hv;refine⟨y.2[j],h3.2 j q _ hj hv,rfl,?_,?_⟩
     ·have eb:(a.add (i*P.cellsOf e)).block=a.block:=by unfold Addr.add;split <;>rfl
      have eo:(a.add (i*P.cellsOf e)).off=a.off+i*P.cellsOf e:=by
       unfold Addr.add;split
       ·rename_i h0;rw[h0];rfl
       ·rfl
      rw[eb,eo]at s2;rw[<-Nat.add_assoc];exact s2
     ·intro hz
      have BO:i*P.cellsOf e=0:=by omega
      have rQ:j=0:=by omega
      subst rQ;rw[BO]at s1;simpa[Addr.add]using s1
    refine .l _ (some a) cap (P.cellsOf e) (fun i j=>(w.cell? ⟨a.block,a.off+(i*P.cellsOf e+j),none⟩).getD undef) (by omega) (by omega) (fun h=>by cases h) ?_ ?_ ?_ ?_
    ·intro cX x hx
     cases hx;have Qh:0<((ys.map (·.1)).map f).length:=List.length_pos_iff.2 cX;have hi:=List.getElem?_eq_getElem Qh;have ND:0<ys.length:=by simpa using Qh
     obtain⟨_,h2,h3⟩:=gI 0 ys[0] (List.getElem?_eq_getElem ND);obtain⟨c1,c2⟩:=zf h2;have Qa:((ys.map (·.1)).map f)[0]?=some (f ys[0].1):=by simp[ND]
     have Dr:0<(f ys[0].1).length:=by rw[h3.1,c1];exact h0
     obtain⟨v,_,_,_,hs⟩:=Fj 0 (f ys[0].1) 0 _ Qa (List.getElem?_eq_getElem Dr);exact hs (by simp)
    ·intro r hr
     obtain⟨b,hb,rfl⟩:=List.mem_map.1 hr;obtain⟨y,hy,rfl⟩:=List.mem_map.1 hb;obtain⟨i,hi⟩:=List.mem_iff_getElem?.1 hy;obtain⟨_,h2,h3⟩:=gI i y hi;rw[h3.1];exact(zf h2).1
    ·intro i r j q hi hj x hx
     cases hx;obtain⟨v,_,_,hv,_⟩:=Fj i r j q hi hj;show w.cell? _=_;rw[hv];rfl
    ·intro i r j q hi hj
     obtain⟨v,hp,_,hv,_⟩:=Fj i r j q hi hj;show gr _ _ ((w.cell? _).getD undef);rw[hv];exact hp
   rw[hl]at key;exact lg.one key
theorem B1 {H:Type} {enc:TypeId×Value->H} {f:Func} {s:ChangeSpec} {apart fresh handsOn again:Bool} {W W':World} {args:Array Value} {v:Value} {ds gs:List (DataW H)} {before pa pv:List MemPlace}
  (hW:DataW.Whole enc P f.params.toList s.vars apart W args.toList ds gs before)
  (aaw:∀(b:Nat) (sp:Nat->Bool) (hd:Bool),DataW.TrodAll enc P W' b sp hd f.resultTypes.toList (v.resultList f.resultTypes.size) (s.fn H (ds++gs)).results [])
  (df:∀sp:Nat->Bool,(∀p∈before,sp p.block=true)->DataW.TrodAll enc P W' 0 sp true f.params.toList args.toList (s.fn H (ds++gs)).args pa)
  (B2:∀sp:Nat->Bool,(∀p∈before,sp p.block=true)->DataW.TrodVars enc P W' sp s.vars (s.fn H (ds++gs)).vars pv)
  (tI:before=pa++pv) (hb:Below W.heap.size W W')
  (b9:∀(j:Nat) (t:TypeId) (r:Value),f.resultTypes[j]?=some t->(v.resultList f.resultTypes.size)[j]?=some r->Value.okWide P W' .any 0 t r):
  s.post enc P f apart fresh handsOn again W args v W':=by
 have aj:=hW.lt;have hold:∀p∈before,(fun b=>decide (b<W.heap.size)) p.block=true:=fun p hp=>by simpa using aj p hp
 have hk:W.keptBut W' (·∈before):=hb.frame _;refine⟨ds,gs,before,[],pa,pv,hW,aaw _ _ _,df _ hold,B2 _ hold,World.keptBut_mono (fun p hp=>⟨hp,?_⟩) hk,fun _=>?_⟩
 ·rw[tI,List.mem_append]at hp
  exact Or.inr hp
 ·obtain⟨_,_,_,_,_,hz,hn⟩:=hW
  refine⟨b9,_,_,([]++pa)++pv,⟨[]++pa,pv,trodAll_append (df _ (fun _ _=>rfl)) (aaw _ _ _),B2 _ (fun _ _=>rfl),rfl,?_,?_⟩,?_⟩
  ·intro b off hp
   have hbl:b<W.heap.size:=aj (.cell b off) (by rw[tI];simpa using hp);have:=hz b off (by rw[tI];simpa using hp);unfold World.frozen? at this⊢;rw[hb.block b hbl];exact this
  ·intro ha
   have:=hn ha;rw[tI]at this;simpa using this
  ·intro p hp _
   rw[tI];simpa using hp
theorem tN {H:Type} {enc:TypeId×Value→H} (hl:laidOutB P=true) {W W':World} (hb:Below W.heap.size W W') {sp:Nat→Bool}:∀{ts:List TypeId} {vs:List Value} {ds:List (DataW H)} {ps:List MemPlace},
    (∀t∈ts,P.readableRec t=true ∧t<P.types.size)→DataW.TrodAll enc P W 0 (fun _ =>true) true ts vs ds ps→(∀p∈ps,p.block<W.heap.size)→(∀p∈ps,sp p.block=true)→DataW.TrodAll enc P W' 0 sp true ts vs ds ps
  |[],[],[],ps,_,h,_,_ =>h
  |t::ts,v::vs,d::ds,ps,hr,h,aj,hs=>by
   obtain⟨p,q,h1,h2,rfl⟩:=h
   exact⟨p,q,WideElems.Trod_stays hl (hr t (by simp)).1 (hr t (by simp)).2 h1 (fun x hx=>hb.same (aj x (by simp[hx]))) (fun x hx=>hs x (by simp[hx])),
     tN hl hb (fun t ht=>hr t (List.mem_cons_of_mem _ ht)) h2 (fun x hx=>aj x (by simp[hx])) (fun x hx=>hs x (by simp[hx])),rfl⟩
  |[],_ ::_,_,_,_,h,_,_ =>h.elim
  |[],[],_ ::_,_,_,h,_,_ =>h.elim
  |_ ::_,[],_,_,_,h,_,_ =>h.elim
  |_ ::_,_ ::_,[],_,_,h,_,_ =>h.elim
theorem eU.below {w w':World} {bd:Th} {W W':Im} (h:eU ou W w bd W' w'):Below w.heap.size w w':=⟨h.os,h.tape,h.output,h.size,fun b hb=>h.Ec b hb⟩
theorem o7 {H:List AO} {id ver row fL sz:Nat} {us:List AV} {rs:List (List AV)} {r r':List AV} (h:rs[row]?=some r) (hs:dU r fL us=some r'):
  Pf H id ver row fL us (some (.rows sz ver rs))=some (H.set id (.rows sz ver (rs.set row r'))):=by
 simp[Pf,h,hs]
theorem Fk (n:Nat):(0<=(n:Int))=True:=by simp
attribute [go_sem] decide_true decide_false Bool.not_true Bool.not_false exists_eq_left' Option.some.injEq Fk true_and and_true Bool.false_eq_true Bool.and_self Bool.and_true Bool.true_and beq_self_eq_true Nat.zero_add Int.toNat_natCast ky
def Z0:=@List.replicate_succ
def Z1:=@List.replicate_zero
def Z2:=@List.set_cons_zero
def Z3:=@List.set_cons_succ
def Z4:=@List.length_cons
def Z5:=@List.length_nil
def Z6:=@Nat.lt_add_one
def Z7:=@ne_eq
def Z8:=@not_false_eq_true
def Z9:=@Option.map_some
def Za:=@Nat.zero_lt_succ
def Zb:=@List.map_cons
def Zc:=@List.map_nil
def Zd:=@List.nil_append
def Ze:=@List.cons_append
def Zf:=@List.append_nil
def Zg:=@List.take_succ_cons
def Zh:=@List.take_zero
def Zi:=@List.drop_zero
def Zj:=@and_self
def Zk:=@List.append_assoc
def Zl:=@List.length_append
def Zm:=@Int.toNat_zero
def Zn:=@Int.cast_ofNat_Int
def Zo:=@Int.natCast_zero
def Zp:=@Int.natCast_one
def Zq:=@List.map_append
def Zr:=@Option.bind_some
end Go.AM
