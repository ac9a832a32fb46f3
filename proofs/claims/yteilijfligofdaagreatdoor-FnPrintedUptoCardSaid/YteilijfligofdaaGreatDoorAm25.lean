/- From the readings of arguments to values of the abstract machine, and from a call that answers true to a law's post. -/
import Derived.Test.YteilijfligofdaaGreatDoorAm24
import Derived.ChangeArms
import Derived.ChangeSame
import Derived.WideKeyArgs
import Derived.WideShapes
import Derived.Below
import Derived.RowKit
set_option linter.all false
namespace Go.AM
open Go.ChangeShapes Go.WideShapes Go.RowKit
variable {P:Program}
def je (w:World):Im:=fun b o=>w.cell? ⟨b,o,none⟩
theorem SR.entry (w:World):SR yc (je w) [] w:=
 ⟨fun b o v h=>h,fun id o hid=>by simp at hid,fun _ _ _=>rfl,fun b hb=>(Cf b hb).elim,fun b id ver sz br jC cI cX gn h1=>by cases h1⟩
def sf (W:Im) (xs:List PV) (cs:List Value):Prop:=xs.length=cs.length/\∀(j:Nat) q v,xs[j]?=some q->cs[j]?=some v->gm W q v
theorem sf.one {W:Im} {q:PV} {v:Value} (h:gm W q v):sf W [q] [v]:=⟨rfl,fun j q' v' hq hv=>by
 cases j with
 |zero=>simp at hq hv;subst hq;subst hv;exact h
 |succ j=>simp at hq⟩
theorem sf.cons_inv {W:Im} {q:PV} {cs:List Value} (h:sf W [q] cs):∃v,cs=[v]/\gm W q v:=by
 match cs,h.1 with
 |[v],_=>exact⟨v,rfl,h.2 0 q v rfl rfl⟩
structure aaw (bk:(H:Type)->DataW H->Nat):Prop where
 str:∀(H:Type) (l:List UInt8),l.length<=bk H (.lit (.string l))
 len:∀(H:Type) (es sp:List (DataW H)),es.length<=bk H (.slice es sp)
 elem:∀(H:Type) (es sp:List (DataW H)),∀d∈es,bk H d<=bk H (.slice es sp)
 part:∀(H:Type) (ps:List (DataW H)),∀d∈ps,bk H d<=bk H (.agg ps)
variable {bk:(H:Type)->DataW H->Nat} {B:Nat}
def OA (P:Program) (bk:(H:Type)->DataW H->Nat) (B:Nat) (n:Nat) (t:TypeId) {α:Type} (f:α->List PV) (p:α->Prop):Prop :=
 ∀(H:Type) (enc:TypeId×Value->H) (w:World) (sp:Nat->Bool) (cs:List Value) (x:DataW H×List MemPlace),DataW.trod enc P w 0 sp true n t cs=some x->bk H x.1<=B->∃a,p a/\sf (je w) (f a) cs
theorem OB {t:TypeId} {α:Type} {f:α->List PV} {p:α->Prop}:OA P bk B 0 t f p:=fun H enc w sp cs x h _=>by simp[DataW.trod]at h
theorem Q8 {t:TypeId} {k:IntKind} (n:Nat) (ht:P.underlying t=some (.int k)):OA P bk B n t (fun z:Int=>[.i k z]) (fun z=>(Lit.int k z).wf=true):=fun H enc w sp cs x h _=>by
 obtain⟨z,rfl,_,hw⟩:=DataW.trod_int ht h;exact⟨z,hw,sf.one (.i k z)⟩
theorem Hz {α:Type} {Q:Nat→α→Prop}:∀(n:Nat),(∀i,i<n→∃a,Q i a)→∃as :List α,as.length=n∧∀(i:Nat) a,as[i]?=some a→Q i a
  |0,_ =>⟨[],rfl,fun i a h=>by simp at h⟩
  |n+1,h=>by
   obtain⟨as,h1,h2⟩:=Hz n fun i hi=>h i (by omega)
   obtain⟨a,ha⟩:=h n (by omega);refine⟨as ++[a],by simp[h1],fun i b hb=> ?_⟩;rcases Nat.lt_or_ge i n with aF|ir
   · rw[List.getElem?_append_left (by omega)]at hb;exact h2 i b hb
   · rw[List.getElem?_append_right (by omega)]at hb
     have :i=n:=by
       have :=(List.getElem?_eq_some_iff.1 hb).1;simp at this;omega
     subst this;simp[h1]at hb;subst hb;exact ha
theorem zG {w:World} {a:Addr} {n:Nat} {cs:List Value} (h:w.cells? 0 a n=some cs):cs.length=n∧∀(j:Nat) v,cs[j]?=some v→(a.add j).spot=none ∧w.cell? ⟨a.block,a.off+j,none⟩=some v:=by
  unfold World.cells? at h;rw[if_pos (Nat.zero_le _)]at h;refine⟨by simpa using mapM_some_length h,fun j v hv=> ?_⟩
  have hj:j<n:=by
    have h1:=mapM_some_length h;have h2:=(List.getElem?_eq_some_iff.1 hv).1;simp at h1;omega
  have hc:=mapM_some_get h j j (by simp[hj]);rw[hv]at hc
  have JM:(a.add j).spot=none :=by
    cases nE:(a.add j).spot with
    |none =>rfl
    |some s=>
     simp only[World.cell?]at hc;split at hc
     · simp[nE]at hc
     · cases hc
  have e:a.add j=⟨a.block,a.off+j,none⟩:=by
    unfold Addr.add at JM⊢;split
    · rename_i h0
      subst h0;rw[if_pos rfl]at JM;cases a
      simp_all
    · rfl
  exact⟨JM,by rw[←e];exact hc⟩
theorem JN {t e:TypeId} {n:Nat} {α:Type} {f:α->List PV} {p:α->Prop} (hbk:aaw bk) (hB:B<=ia) (ht:P.underlying t=some (.slice e)) (h0:0<P.cellsOf e) (he:OA P bk B n e f p):
  OA P bk B (n+1) t (fun as:List α=>[.l (as.map f)]) (fun as=>(∀a∈as,p a)/\as.length<=B):=fun H enc w sp cs x h hb=>by
 rcases DataW.trod_slice ht h with⟨rfl,_⟩|⟨a,len,cap,elems,rest,n',vQ,rfl,rfl,_,hlc,hcm,hel,Ef,_,_⟩
 ·exact⟨[],⟨fun a ha=>by simp at ha,Nat.zero_le _⟩,sf.one (.l [] none 0 0 (fun _ _=>undef) (Nat.le_refl _) (Nat.zero_le _) (fun _=>rfl) (fun _ x hx=>by cases hx) (fun r hr=>by cases hr) (fun i r j q hi=>by simp at hi) (fun i r j q hi=>by simp at hi))⟩
 ·cases vQ
  have aax:∀i,i<len->∃y:α×List Value,p y.1/\w.cells? 0 (a.add (i*P.cellsOf e)) (P.cellsOf e)=some y.2/\sf (je w) (f y.1) y.2:=by
   intro i hi;have h1:=Ef i hi;have aF:i<elems.length:=by omega
   rw[List.getElem?_eq_getElem aF,Option.bind_eq_some_iff]at h1;obtain⟨fP,h2,h3⟩:=h1;obtain⟨b,h4,h5⟩:=he H enc w sp fP _ h3 (Nat.le_trans (hbk.elem H _ _ _ (List.mem_map_of_mem (List.getElem_mem aF))) hb);exact⟨(b,fP),h4,h2,h5⟩
  obtain⟨ys,Xt,ie⟩:=Hz len aax
  have ahZ:len<=B:=by
   have:=Nat.le_trans (hbk.len H _ _) hb;simpa[hel]using this
  refine⟨ys.map (·.1),⟨fun b hb=>?_,by simp;omega⟩,?_⟩
  ·obtain⟨y,hy,rfl⟩:=List.mem_map.1 hb
   obtain⟨i,hi⟩:=List.mem_iff_getElem?.1 hy;exact(ie i y hi).1
  ·have hl:((ys.map (·.1)).map f).length=len:=by simp[Xt]
   have key:gm (je w) (.l ((ys.map (·.1)).map f)) (.slice (some a) ((ys.map (·.1)).map f).length cap):=by
    have FM:∀(i:Nat) (r:List PV) (j:Nat) (q:PV),((ys.map (·.1)).map f)[i]?=some r->r[j]?=some q->∃v,gm (je w) q v/\a.block=a.block/\w.cell? ⟨a.block,a.off+(i*P.cellsOf e+j),none⟩=some v/\(i*P.cellsOf e+j=0->a.spot=none):=by
     intro i r j q hi hj;simp only[List.getElem?_map,Option.map_map,Option.map_eq_some_iff,Function.comp]at hi;obtain⟨y,hy,rfl⟩:=hi;obtain⟨_,h2,h3⟩:=ie i y hy;obtain⟨c1,c2⟩:=zG h2;have jE:j<y.2.length:=by rw[<-h3.1];exact(List.getElem?_eq_some_iff.1 hj).1
     have hv:=List.getElem?_eq_getElem jE;obtain⟨s1,s2⟩:=c2 j _ hv;refine⟨y.2[j],h3.2 j q _ hj hv,rfl,?_,?_⟩
     ·have eb:(a.add (i*P.cellsOf e)).block=a.block:=by unfold Addr.add;split <;>rfl
      have eo:(a.add (i*P.cellsOf e)).off=a.off+i*P.cellsOf e:=by
       unfold Addr.add;split
       ·rename_i h0;rw[h0];rfl
       ·rfl
      rw[eb,eo]at s2;rw[<-Nat.add_assoc];exact s2
     ·intro hz
      have B2:i*P.cellsOf e=0:=by omega
      have sc:j=0:=by omega
      subst sc;rw[B2]at s1;simpa[Addr.add]using s1
    refine .l _ (some a) cap (P.cellsOf e) (fun i j=>(w.cell? ⟨a.block,a.off+(i*P.cellsOf e+j),none⟩).getD undef) (by omega) (by omega) (fun h=>by cases h) ?_ ?_ ?_ ?_
    ·intro cK x hx
     cases hx;have Q9:0<((ys.map (·.1)).map f).length:=List.length_pos_iff.2 cK;have hi:=List.getElem?_eq_getElem Q9;have hy0:0<ys.length:=by simpa using Q9
     obtain⟨_,h2,h3⟩:=ie 0 ys[0] (List.getElem?_eq_getElem hy0);obtain⟨c1,c2⟩:=zG h2;have Q5:((ys.map (·.1)).map f)[0]?=some (f ys[0].1):=by simp[hy0]
     have Cg:0<(f ys[0].1).length:=by rw[h3.1,c1];exact h0
     obtain⟨v,_,_,_,hs⟩:=FM 0 (f ys[0].1) 0 _ Q5 (List.getElem?_eq_getElem Cg);exact hs (by simp)
    ·intro r hr
     obtain⟨b,hb,rfl⟩:=List.mem_map.1 hr;obtain⟨y,hy,rfl⟩:=List.mem_map.1 hb;obtain⟨i,hi⟩:=List.mem_iff_getElem?.1 hy;obtain⟨_,h2,h3⟩:=ie i y hi;rw[h3.1];exact(zG h2).1
    ·intro i r j q hi hj x hx
     cases hx;obtain⟨v,_,_,hv,_⟩:=FM i r j q hi hj;show w.cell? _=_;rw[hv];rfl
    ·intro i r j q hi hj
     obtain⟨v,hp,_,hv,_⟩:=FM i r j q hi hj;show gm _ _ ((w.cell? _).getD undef);rw[hv];exact hp
   rw[hl]at key;exact sf.one key
theorem JO {t e:TypeId} {v:Value} {w:World} {r:Reach} {base:Nat} {H:Type} {enc:TypeId×Value->H} {sp:Nat->Bool} {d:DataW H} {ps:List MemPlace} {α:Type} {f:α->List PV} {p:α->Prop}
  (ht:P.underlying t=some (.slice e)) (Ra:∀n,OA P bk B n t (fun as:List α=>[.l (as.map f)]) (fun as=>(∀a∈as,p a)/\as.length<=B)) (dO:Value.okWide P w r base t v) (h:DataW.Trod enc P w 0 sp true t v d ps) (hb:bk H d<=B):
  ∃as:List α,((∀a∈as,p a)/\as.length<=B)/\gm (je w) (.l (as.map f)) v:=by
 obtain⟨a,len,cap,rfl⟩:=okWide_slice ht dO;obtain⟨n,hn⟩:=h;obtain⟨as,h1,h2⟩:=Ra n H enc w sp _ _ hn hb;obtain⟨v',h3,h4⟩:=h2.cons_inv;refine⟨as,h1,?_⟩;simp[Value.cells]at h3;subst h3;exact h4
theorem Ch {H:Type} {enc:TypeId×Value->H} {f:Func} {s:ChangeSpec} {apart fresh handsOn again:Bool} {W W':World} {args:Array Value} {v:Value} {ds gs:List (DataW H)} {before pa pv:List MemPlace}
  (hW:DataW.Whole enc P f.params.toList s.vars apart W args.toList ds gs before)
  (aay:∀(b:Nat) (sp:Nat->Bool) (hd:Bool),DataW.TrodAll enc P W' b sp hd f.resultTypes.toList (v.resultList f.resultTypes.size) (s.fn H (ds++gs)).results [])
  (da:∀sp:Nat->Bool,(∀p∈before,sp p.block=true)->DataW.TrodAll enc P W' 0 sp true f.params.toList args.toList (s.fn H (ds++gs)).args pa)
  (Ci:∀sp:Nat->Bool,(∀p∈before,sp p.block=true)->DataW.TrodVars enc P W' sp s.vars (s.fn H (ds++gs)).vars pv)
  (wQ:before=pa++pv) (hb:Below W.heap.size W W')
  (dO:∀(j:Nat) (t:TypeId) (r:Value),f.resultTypes[j]?=some t->(v.resultList f.resultTypes.size)[j]?=some r->Value.okWide P W' .any 0 t r):
  s.post enc P f apart fresh handsOn again W args v W':=by
 have aF:=hW.lt;have hold:∀p∈before,(fun b=>decide (b<W.heap.size)) p.block=true:=fun p hp=>by simpa using aF p hp
 have hk:W.keptBut W' (·∈before):=hb.frame _;refine⟨ds,gs,before,[],pa,pv,hW,aay _ _ _,da _ hold,Ci _ hold,World.keptBut_mono (fun p hp=>⟨hp,?_⟩) hk,fun _=>?_⟩
 ·rw[wQ,List.mem_append]at hp
  exact Or.inr hp
 ·obtain⟨_,_,_,_,_,hz,hn⟩:=hW
  refine⟨dO,_,_,([]++pa)++pv,⟨[]++pa,pv,trodAll_append (da _ (fun _ _=>rfl)) (aay _ _ _),Ci _ (fun _ _=>rfl),rfl,?_,?_⟩,?_⟩
  ·intro b off hp
   have hbl:b<W.heap.size:=aF (.cell b off) (by rw[wQ];simpa using hp);have:=hz b off (by rw[wQ];simpa using hp);unfold World.frozen? at this⊢;rw[hb.block b hbl];exact this
  ·intro ha
   have:=hn ha;rw[wQ]at this;simpa using this
  ·intro p hp _
   rw[wQ];simpa using hp
theorem tX {H:Type} {enc:TypeId×Value→H} (hl:laidOutB P=true) {W W':World} (hb:Below W.heap.size W W') {sp:Nat→Bool}:∀{ts:List TypeId} {vs:List Value} {ds:List (DataW H)} {ps:List MemPlace},
    (∀t∈ts,P.readableRec t=true ∧t<P.types.size)→DataW.TrodAll enc P W 0 (fun _ =>true) true ts vs ds ps→(∀p∈ps,p.block<W.heap.size)→(∀p∈ps,sp p.block=true)→DataW.TrodAll enc P W' 0 sp true ts vs ds ps
  |[],[],[],ps,_,h,_,_ =>h
  |t::ts,v::vs,d::ds,ps,hr,h,aF,hs=>by
   obtain⟨p,q,h1,h2,rfl⟩:=h
   exact⟨p,q,WideElems.Trod_stays hl (hr t (by simp)).1 (hr t (by simp)).2 h1 (fun x hx=>hb.same (aF x (by simp[hx]))) (fun x hx=>hs x (by simp[hx])),
     tX hl hb (fun t ht=>hr t (List.mem_cons_of_mem _ ht)) h2 (fun x hx=>aF x (by simp[hx])) (fun x hx=>hs x (by simp[hx])),rfl⟩
  |[],_ ::_,_,_,_,h,_,_ =>h.elim
  |[],[],_ ::_,_,_,h,_,_ =>h.elim
  |_ ::_,[],_,_,_,h,_,_ =>h.elim
  |_ ::_,_ ::_,[],_,_,h,_,_ =>h.elim
theorem eW.below {w w':World} {aX:Th} {W W':Im} (h:eW yc W w aX W' w'):Below w.heap.size w w':=⟨h.os,h.tape,h.output,h.size,fun b hb=>h.Oz b hb⟩
theorem FN (n:Nat):(0<=(n:Int))=True:=by simp
attribute [go_sem] decide_true decide_false Bool.not_true Bool.not_false exists_eq_left' Option.some.injEq FN true_and and_true Bool.false_eq_true Bool.and_self Bool.and_true Bool.true_and beq_self_eq_true Nat.zero_add Int.toNat_natCast ky
def Z0:=@List.replicate_succ
def Z1:=@List.replicate_zero
def Z2:=@List.set_cons_zero
def Z3:=@List.set_cons_succ
def Z4:=@List.length_cons
def Z5:=@List.length_nil
def Z6:=@Nat.lt_add_one
def Z7:=@ne_eq
def Z8:=@not_false_eq_true
def Z9:=@Option.map_some
def Za:=@Nat.zero_lt_succ
def Zb:=@List.map_cons
def Zc:=@List.map_nil
def Zd:=@List.nil_append
def Ze:=@List.cons_append
def Zf:=@List.append_nil
def Zg:=@List.take_succ_cons
def Zh:=@List.take_zero
def Zi:=@List.drop_zero
def Zj:=@and_self
def Zk:=@List.append_assoc
def Zl:=@List.length_append
def Zm:=@Int.toNat_zero
def Zn:=@Int.cast_ofNat_Int
def Zo:=@Int.natCast_zero
def Zp:=@Int.natCast_one
def Zq:=@List.map_append
def Zr:=@Option.bind_some
end Go.AM
