/- Texts PjF PjG PjH PjR PjS PgY PgZ PhA PhB PhC PhD PhE PjT, merged. -/
import Derived.Test.YtnelfbcgplooiaaGreatKBE
/- The program's maker of tables: constructors whose types are owned. -/
set_option linter.all false
namespace Go.Proofs.YtnelfbcgplooiaaGreat.Pg
open Go.AM Mc
variable {g:ProgD} {H0 H H':List AO} {j:Nat} {a0 a:AV} {seen:List (List UInt8)} {f f':Ft}
theorem dBN {d:DataD} {c:CtorD} (hc:c.has=true→TyP d c.arg) {L:En} {b q y:Nat} {n:List UInt8} {V:Int} {iv:AV} {rs:List (List AV)} {Q:Ex→St→Prop}
  (h0:eget L 0=.ptr j 0) (h3:eget L 3=.ptr b 0) (h5:eget L 5=.ptr q 0) (h9:eget L 9=.ptr y 0) (hM:MkS g H0 H j a0 a seen f) (hb:H[b]?=some (.var (d.cells.map .p))) (hy:H[y]?=some (.var (c.cells.map .p)))
  (hq:H[q]?=some (.var [.p (.s n),.p (.i .i64 V),iv])) (ho:OwnAt H iv 6 rs H0.length H.length) (hn:rs.length≤1048576) (hs:seen.length≤4194304) (hsep:Sep a iv) (hbl:H0.length≤b) (hql:H0.length≤q) (hbq:b≠q)
  (k:∀ L' H' iv' a' x js,(∀ t,t≠10→t≠71→eget L' t=eget L t)→MkS g H0 H' j a0 a' (seen++[c.name]) (firstF f (if c.has then c.arg.ft g.types d.vars else (0,0)))→H'[q]?=some (.var [.p (.s n),.p (.i .i64 V),iv']) →
   OwnAt H' iv' 6 (rs++[x]) H0.length H'.length→Sep a' iv'→(∀ i∈js,∀ v q n,a'≠.gs i v q n)→(∀ id v q n,a'=.gs id v q n→H.length≤id∨∃ v' q' n',a=.gs id v' q' n')→RowK 6 H H' j q a iv iv' (rowTV d.vars c) x js→Q .nm ⟨L',[],H'⟩):wpm (ACall Tryz.prog) mc36b Q ⟨L,[],H⟩:=by
 have fin:∀ (a1:AV) (H1:List AO) (L1:En),MkS g H0 H1 j a0 a1 (seen++[c.name]) f→(∀ (i:Nat) cs,H[i]?=some (.var cs)→i≠j→H1[i]?=some (.var cs))→H1[y]?=some (.var (c.cells.map .p))→H1[q]?=some (.var [.p (.s n),.p (.i .i64 V),iv])→OwnAt H1 iv 6 rs H0.length H1.length→Sep a1 iv→(∀ t,eget L1 t=eget L t) →
   (∀ (i:Nat) o,H[i]?=some o→i≠j→(∀ v q n,a≠.gs i v q n)→H1[i]?=some o)→(∀ id v q n,a1=.gs id v q n→H.length≤id∨∃ v' q' n',a=.gs id v' q' n')→H.length≤H1.length →
   wpm (ACall Tryz.prog) mc36c Q ⟨L1,[],H1⟩:=fun a1 H1 L1 hM1 hb1 hy1 hq1 ho1 hs1 hL hfr haid hl1 =>
  dCN hc ((hL _).trans h0) ((hL _).trans h3) ((hL _).trans h5) ((hL _).trans h9) hM1 (hb1 _ _ hb (by have:=hM.hj; omega)) hy1 hq1 ho1 hn hs1 hbl hql hbq fun L' H' iv' x js hL' h1 h3 h4 h5 h6 R=>k L' H' iv' a1 x js (fun t ht ht'=>(hL' t ht ht').trans (hL t)) h1 h3 h4 h5 h6 haid
   ⟨fun i o hi hij hiq hna hni=>R.fr i o (hfr i o hi hij hna) hij hiq (fun v q n e=>by
    rcases haid _ _ _ _ e with h | ⟨_,_,_,h⟩
    ·have:=get_lt hi; omega
    ·exact hna _ _ _ h) hni,R.own,R.nd,fun i hi=>⟨Nat.le_trans hl1 (R.fresh i hi).1,(R.fresh i hi).2⟩,fun id v q n e=>(R.ivid id v q n e).imp (fun h=>Nat.le_trans hl1 h) (fun h=>h),R.len⟩
 obtain ⟨ts,⟨gk,gn,gu,gt,gp,gks,gas⟩⟩:=g
 obtain ⟨cn,ch,⟨ak,an,ap,aks⟩,cp⟩:=c
 have hy':H[y]?=some (.var [.p (.s cn),.p (.b ch),.p (.i .i64 ak),.p (.s an),.p (.i .i64 ap),.p (.l (TyE.cellsL aks)),.p (.i .i64 cp)]):=hy
 have hv:=hM.mkr
 simp only [tmO,ProgD.cells,ExpD.cells,List.map_cons,List.map_nil,List.cons_append,List.nil_append] at hv
 rcases hM.own with ⟨rfl,hr⟩ | ⟨id,ver,rfl,hid⟩
 ·have hvX:∀ A,(H++A)[j]?=_:=fun A=>get_ext hv A
  have he:seen=[]:=by simpa [nmR] using hr
  subst he
  simp only [go_sem,reduceIte,↓reduceIte,sevalprocAttr,Z0,Z1,bytesOf,mc36b]
  refine drw_same ?_
  simp only [go_sem,reduceIte,↓reduceIte,sevalprocAttr,Z0,Z1,bytesOf,h0,h9,hv,hy']
  refine ⟨by intro r hr; simp at hr; subst hr; rfl,.inl ⟨rfl,by simp,by simp,by simp,?_⟩⟩
  simp only [go_sem,reduceIte,↓reduceIte,sevalprocAttr,Z0,Z1,bytesOf,hvX]
  have hname:=hM.name (X:=H++[AO.rows 1 0 [[.p (.s cn)]],AO.rows 1 0 [[.p (.s cn)]]]) (id:=H.length+1) (ver:=0) (s:=cn) (fun i o hi _=>get_ext hi _) (by rw [get_off]; rfl) (.inr (by omega)) (by simp)
  refine fin _ _ _ hname (fun i cs hi hij=>get_set (get_ext hi _) (Ne.symm hij)) (get_set (get_ext hy _) ?_) (get_set (get_ext hq _) ?_) ?_ ?_ (fun t=>rfl) (fun i o hi hij _=>get_set (get_ext hi _) (Ne.symm hij)) (fun id v q n e=>by cases e; exact .inl (by omega)) (by simp)
  ·rintro rfl; rw [hv] at hy'; simp at hy'
  ·have:=hM.hj; omega
  ·rw [List.length_set]; exact own_setVar (ownAt_keep ho (fun id v q n _ o ho=>get_ext ho _) (by simp)) (hM.ext _).mkr
  ·rintro id v o n v' o' n' e e'
   cases e
   have:=own_ltAt ho _ _ _ _ e'
   omega
 ·have hij:id≠j:=tmO_ne hM.mkr hM.own _ _ _ _ rfl
  have hiy:id≠y:=by rintro rfl; rw [hid] at hy; cases hy
  have hib:id≠b:=by rintro rfl; rw [hid] at hb; cases hb
  have hiq:id≠q:=by rintro rfl; rw [hid] at hq; cases hq
  have hvd:=get_set (o':=.dead) hv hij
  have hyd:=get_set (o':=.dead) hy' hiy
  simp only [go_sem,reduceIte,↓reduceIte,sevalprocAttr,Z0,Z1,bytesOf,mc36b]
  refine ⟨H.set id .dead,hext_dead0 _ _,?_⟩
  simp only [go_sem,reduceIte,↓reduceIte,sevalprocAttr,Z0,Z1,bytesOf,h0,h9,hvd,hyd]
  refine ⟨by intro r hr; simp at hr; subst hr; rfl,.inr (.inl (app_drwG hid (by simp [nmR]; omega) (by simp [nmR]; omega) ?_))⟩
  have hv1:=get_set (o':=AO.rows 1 (ver+1) (nmR seen++[[.p (.s cn)]])) hv hij
  have hname:=hM.name (X:=H.set id (AO.rows 1 (ver+1) (nmR seen++[[.p (.s cn)]]))++[AO.rows 1 0 [[.p (.s cn)]]]) (id:=id) (ver:=ver+1) (s:=cn) (fun i o hi hna=>get_ext (get_set hi (fun e=>hna _ _ _ (by rw [e]))) _) (get_ext (by rw [nmR_app]; exact set_get hid) _) (.inl ⟨_,_,_,rfl⟩) (by simp)
  have hb1:∀ (i:Nat) cs,H[i]?=some (.var cs)→(H.set id (AO.rows 1 (ver+1) (nmR seen++[[.p (.s cn)]]))++[AO.rows 1 0 [[.p (.s cn)]]])[i]?=some (.var cs):=fun i cs hi=>get_ext (get_set hi (by rintro rfl; rw [hid] at hi; cases hi)) _
  have hfr1:∀ (i:Nat) o,H[i]?=some o→i≠id→(H.set id (AO.rows 1 (ver+1) (nmR seen++[[.p (.s cn)]]))++[AO.rows 1 0 [[.p (.s cn)]]])[i]?=some o:=fun i o hi hne=>get_ext (get_set hi (Ne.symm hne)) _
  have hll:H.length≤(H.set id (AO.rows 1 (ver+1) (nmR seen++[[.p (.s cn)]]))).length:=by simp
  have hy1:=get_ext (get_set (o':=AO.rows 1 (ver+1) (nmR seen++[[.p (.s cn)]])) hy hiy) [AO.rows 1 0 [[.p (.s cn)]]]
  have hq1:=get_ext (get_set (o':=AO.rows 1 (ver+1) (nmR seen++[[.p (.s cn)]])) hq hiq) [AO.rows 1 0 [[.p (.s cn)]]]
  have ho1:OwnAt (H.set id (AO.rows 1 (ver+1) (nmR seen++[[.p (.s cn)]]))++[AO.rows 1 0 [[.p (.s cn)]]]) iv 6 rs H0.length (H.set id (AO.rows 1 (ver+1) (nmR seen++[[.p (.s cn)]]))++[AO.rows 1 0 [[.p (.s cn)]]]).length:=ownAt_keep ho (fun i v q n e o ho=>get_ext (get_set ho (fun e'=>hsep _ _ _ _ _ _ _ rfl (by rw [e,e']))) _) (by simp)
  generalize H.set id (AO.rows 1 (ver+1) (nmR seen++[[.p (.s cn)]]))=H1 at hv1 hname hb1 hy1 hq1 ho1 hfr1 hll ⊢
  have hvX:∀ A,(H1++A)[j]?=_:=fun A=>get_ext hv1 A
  simp only [go_sem,reduceIte,↓reduceIte,sevalprocAttr,Z0,Z1,bytesOf,hvX]
  have el:(nmR seen).length+1=(seen++[cn]).length:=by simp [nmR]
  rw [el]
  refine fin _ _ _ hname (fun i cs hi hij=>get_set (hb1 i cs hi) (Ne.symm hij)) (get_set hy1 ?_) (get_set hq1 ?_) ?_ ?_ (fun t=>rfl) (fun i o hi hij hna=>get_set (hfr1 i o hi (fun e=>hna ver 0 (nmR seen).length (by rw [e]))) (Ne.symm hij)) (fun id v q n e=>by cases e; exact .inr ⟨_,_,_,rfl⟩) (by simp; omega)
  ·rintro rfl; rw [hv] at hy'; simp at hy'
  ·have:=hM.hj; omega
  ·rw [List.length_set]; exact own_setVar ho1 (hvX _)
  ·rintro i v o n v' o' n' e e'
   cases e
   exact hsep _ _ _ _ _ _ _ rfl e'
structure NestK (sz:Nat) (H:List AO) (a iv:AV) (lo:Nat) (rows:List (List TV)) (rs:List (List AV)) (ids:List Nat):Prop where
 own:OwnRs H sz rows rs ids
 nd:ids.Nodup
 lo:∀ i∈ids,lo≤i
 na:∀ i∈ids,∀ v q n,a≠.gs i v q n
 ni:∀ i∈ids,∀ v q n,iv≠.gs i v q n
theorem NestK.nil (sz:Nat) (H:List AO) (a iv:AV) (lo:Nat):NestK sz H a iv lo [] [] []:=⟨by rw [OwnRs]; exact ⟨rfl,rfl⟩,List.nodup_nil,fun _ h=>(by cases h),fun _ h=>(by cases h),fun _ h=>(by cases h)⟩
theorem NestK.keep {sz:Nat} {H H':List AO} {a iv:AV} {lo:Nat} {rows:List (List TV)} {rs:List (List AV)} {ids:List Nat} (h:NestK sz H a iv lo rows rs ids) (hk:∀ i∈ids,∀ o,H[i]?=some o→H'[i]?=some o):NestK sz H' a iv lo rows rs ids :=
 ⟨h.own.keep hk,h.nd,h.lo,h.na,h.ni⟩
theorem own_neR {H:List AO} {a:AV} {sz:Nat} {rs:List (List AV)} {i:Nat} {cs:List AV} (h:OwnR H a sz rs) (hi':H[i]?=some (.var cs)):∀ v o n,a≠.gs i v o n:=by
 rintro v o n rfl
 rcases h with ⟨h,_⟩ | ⟨id,ver,h2,h3⟩
 ·cases h
 ·cases h2; rw [h3] at hi'; cases hi'
theorem NestK.snoc {sz:Nat} {H H':List AO} {a a' iv iv':AV} {lo j q:Nat} {rows:List (List TV)} {rs:List (List AV)} {ids js:List Nat} {t:List TV} {x:List AV} {cs:List AV} (h:NestK sz H a iv lo rows rs ids) (R:RowK sz H H' j q a iv iv' t x js)
  (haid:∀ id v q n,a'=.gs id v q n→H.length≤id∨∃ v' q' n',a=.gs id v' q' n') (hja:∀ i∈js,∀ v q n,a'≠.gs i v q n) (hj:j<lo) (hlo:lo≤H.length) (hq:H[q]?=some (.var cs)):NestK sz H' a' iv' lo (rows++[t]) (rs++[x]) (ids++js):=by
 have hlt:∀ i∈ids,i<H.length:=fun i hi=>by obtain ⟨_,_,_,h'⟩:=h.own.rows i hi; exact get_lt h'
 refine ⟨OwnRs.snoc (h.own.keep fun i hi o ho=>R.fr i o ho (by have:=h.lo i hi; omega) (by
  rintro rfl
  obtain ⟨_,_,_,h'⟩:=h.own.rows i hi
  rw [hq] at h'; cases h') (h.na i hi) (h.ni i hi)) R.len R.own,?_,?_,?_,?_⟩
 ·refine List.nodup_append.2 ⟨h.nd,R.nd,fun i hi k hk e=>?_⟩
  have:=hlt i hi; have:=(R.fresh k hk).1; omega
 ·intro i hi
  rcases List.mem_append.1 hi with hi | hi
  ·exact h.lo i hi
  ·have:=(R.fresh i hi).1; omega
 ·intro i hi v q' n e
  rcases List.mem_append.1 hi with hi | hi
  ·rcases haid _ _ _ _ e with h' | ⟨_,_,_,h'⟩
   ·have:=hlt i hi; omega
   ·exact h.na i hi _ _ _ h'
  ·exact hja i hi _ _ _ e
 ·intro i hi v q' n e
  rcases List.mem_append.1 hi with hi | hi
  ·rcases R.ivid _ _ _ _ e with h' | ⟨_,_,_,h'⟩
   ·have:=hlt i hi; omega
   ·exact h.ni i hi _ _ _ h'
  ·exact (R.fresh i hi).2 _ _ _ e
theorem NestK.tree {sz:Nat} {H:List AO} {a iv:AV} {lo hi:Nat} {rows:List (List TV)} {rs:List (List AV)} {ids:List Nat} (h:NestK sz H a iv lo rows rs ids) (ho:OwnAt H iv sz rs lo hi) (hs:Sep a iv) :
  ∃ ids',Own H (.s sz rows) iv ids'∧ids'.Nodup∧∀ i∈ids',lo≤i∧∀ v q n,a≠.gs i v q n:=by
 rcases ho with ⟨rfl,rfl⟩ | ⟨id,ver,h0,h1,rfl,h2⟩
 ·have:=h.own.len
  have e:rows=[]:=List.length_eq_zero_iff.1 this.symm
  subst e
  exact ⟨[],Own.nl _ _,List.nodup_nil,fun _ h=>by cases h⟩
 ·refine ⟨id :: ids,?_,List.nodup_cons.2 ⟨fun hm=>h.ni id hm _ _ _ rfl,h.nd⟩,fun i hi=>?_⟩
  ·rw [Own]
   exact .inr ⟨id,ver,rs,ids,rfl,rfl,h2,h.own⟩
  ·rcases List.mem_cons.1 hi with rfl | hi
   ·exact ⟨h0,fun v q n e=>hs _ _ _ _ _ _ _ e rfl⟩
   ·exact ⟨h.lo i hi,h.na i hi⟩
theorem dAN {d:DataD} (hc:∀ c∈d.ctors,c.has=true→TyP d c.arg) (hn:d.ctors.length≤1048576) {L:En} {b q e:Nat} {n:List UInt8} {V:Int} {R:AV→List AO→Prop}
  (h0:eget L 0=.ptr j 0) (h3:eget L 3=.ptr b 0) (h4:eget L 4=.ptr e 0) (h5:eget L 5=.ptr q 0) (hM:MkS g H0 H j a0 a seen f) (hb:H[b]?=some (.var (d.cells.map .p)))
  (hq:H[q]?=some (.var [.p (.s n),.p (.i .i64 V),.p .nl])) (he:H[e]?=some (.var [.p (.s []),.p (.i .i64 0),.p .nl])) (hs:seen.length+d.ctors.length≤4194304) (hbl:H0.length≤b) (hql:H0.length≤q) (hel:H0.length≤e) (hbq:b≠q) (heq:e≠q)
  (k:∀ H' iv' a' rs ids,MkS g H0 H' j a0 a' (seen++d.ctors.map CtorD.name) (firstF f (ctorsF g.types d.vars seen d.ctors))→OwnAt H' iv' 6 rs H0.length H'.length→Sep a' iv'→NestK 6 H' a' iv' H0.length (d.ctors.map (rowTV d.vars)) rs ids→R (.st [.p (.s n),.p (.i .i64 V),iv']) H') :
  wpm (ACall Tryz.prog) mc36a (finK mr36 R) ⟨L,[],H⟩:=by
 obtain ⟨dn,vs,cs,dp⟩:=d
 have hb':H[b]?=some (.var [.p (.s dn),.p (.l (namesC vs)),.p (.l (cs.map CtorD.cells)),.p (.i .i64 dp)]):=hb
 simp only at hc hn hs k
 simp only [go_sem,reduceIte,↓reduceIte,sevalprocAttr,Z0,Z1,bytesOf,mc36a,mr36,h3,hb',eget_same,eget_ne,List.length_map]
 intro hl
 refine ⟨(Nat × List (List AV) × List Nat) × AV × AV × List AO,[0,3,4,5,37,38,39],fun x st=>st.T=[]∧st.H=x.2.2.2∧eget st.L 0=.ptr j 0∧eget st.L 3=.ptr b 0∧eget st.L 4=.ptr e 0∧eget st.L 5=.ptr q 0∧eget st.L 37=.p (.l (cs.map CtorD.cells))∧eget st.L 38=.p (.i .i64 cs.length)∧eget st.L 39=.p (.i .i64 x.1.1) ∧
  x.1.1≤cs.length∧MkS g H0 x.2.2.2 j a0 x.2.1 (seen++(cs.take x.1.1).map CtorD.name) (firstF f (ctorsF g.types vs seen (cs.take x.1.1)))∧x.2.2.2[b]?=some (.var (DataD.cells ⟨dn,vs,cs,dp⟩ |>.map .p))∧x.2.2.2[q]?=some (.var [.p (.s n),.p (.i .i64 V),x.2.2.1])∧x.2.2.2[e]?=some (.var [.p (.s []),.p (.i .i64 0),.p .nl]) ∧
  OwnAt x.2.2.2 x.2.2.1 6 x.1.2.1 H0.length x.2.2.2.length∧Sep x.2.1 x.2.2.1∧NestK 6 x.2.2.2 x.2.1 x.2.2.1 H0.length ((cs.take x.1.1).map (rowTV vs)) x.1.2.1 x.1.2.2,fun x=>cs.length - x.1.1,⟨((0,[],[]),a,.p .nl,H),?_⟩,?_⟩
 ·simp only [go_sem,reduceIte,↓reduceIte,sevalprocAttr,Z0,Z1,bytesOf,eget_keep,eget_same,eget_ne,h0,h3,h4,h5,hb,hq,he]
  exact ⟨Nat.zero_le _,by simp only [List.take_zero,List.map_nil,List.append_nil,ctorsF,firstF_r hM.z]; exact hM,.inl ⟨rfl,rfl⟩,fun _ _ _ _ _ _ _ _=>by (rintro ⟨⟩),NestK.nil _ _ _ _ _⟩
 ·rintro ⟨⟨x,rs,ids⟩,a1,iv,HG⟩ st ⟨hT,hH,q0,q3,q4,q5,q37,q38,q39,hx,hMG,gb,gq,ge,hown,hsep,hnest⟩
  obtain ⟨SL,ST,SH⟩:=st
  simp only at hT hH q0 q3 q4 q5 q37 q38 q39 hx hMG gb gq ge hown hsep hnest
  subst hT hH
  by_cases hlt:x<cs.length
  ·have d1:decide ((x:Int)<(cs.length:Int))=true:=by simp; omega
   have hlt':((x:Int)<(cs.length:Int)):=by omega
   have ex:=wrN x (by omega)
   have hg:(cs.map CtorD.cells)[x]?=some (CtorD.cells cs[x]):=by simp [hlt]
   have hcall:=hc cs[x] (List.getElem_mem hlt)
   have hft:=ctorsF_step (types:=g.types) (vs:=vs) (seen:=seen) hlt
   have hnm:(cs.take (x+1)).map CtorD.name=(cs.take x).map CtorD.name++[cs[x].name]:=by rw [List.take_succ,List.getElem?_eq_getElem hlt,List.map_append]; rfl
   have hrw:(cs.take (x+1)).map (rowTV vs)=(cs.take x).map (rowTV vs)++[rowTV vs cs[x]]:=by rw [List.take_succ,List.getElem?_eq_getElem hlt,List.map_append]; rfl
   generalize cs[x]=c at hg hcall hft hnm hrw
   have hSl:((cs.take x).map CtorD.name).length=x:=by rw [List.length_map,List.length_take]; omega
   have hRl:rs.length=x:=by rw [hnest.own.len,List.length_map,List.length_take]; omega
   generalize hS:seen++(cs.take x).map CtorD.name=S at hMG hft
   have hSlen:S.length=seen.length+x:=by rw [← hS,List.length_append,hSl]
   have hfz:Fz (firstF f (ctorsF g.types vs seen (cs.take x))):=hMG.z
   generalize hF:firstF f (ctorsF g.types vs seen (cs.take x))=F at hMG hfz
   have hcl:=CtorD.cells_len c
   have hcc:∃ c1 c2 c3 c4 c5 c6 c7,CtorD.cells c=[c1,c2,c3,c4,c5,c6,c7]:=by
    obtain ⟨cn,ch,⟨ak,an,ap,aks⟩,cp⟩:=c
    exact ⟨_,_,_,_,_,_,_,rfl⟩
   obtain ⟨cn,ch,⟨ak,an,ap,aks⟩,cp⟩:=c
   simp only at hft hnm hcall
   simp only [go_sem,reduceIte,↓reduceIte,sevalprocAttr,Z0,Z1,bytesOf,q37,q38,q39,d1,hlt',hg,eget_same,eget_ne,CtorD.cells,TyE.cells,List.length_map,zl8_3]
   have hMX:=hMG.ext [AO.var [.p (.s cn),.p (.b ch),.p (.i .i64 ak),.p (.s an),.p (.i .i64 ap),.p (.l (TyE.cellsL aks)),.p (.i .i64 cp)]]
   have hyX:(SH++[AO.var [.p (.s cn),.p (.b ch),.p (.i .i64 ak),.p (.s an),.p (.i .i64 ap),.p (.l (TyE.cellsL aks)),.p (.i .i64 cp)]])[SH.length]?=some (AO.var [.p (.s cn),.p (.b ch),.p (.i .i64 ak),.p (.s an),.p (.i .i64 ap),.p (.l (TyE.cellsL aks)),.p (.i .i64 cp)]):=by rw [get_off0]; rfl
   have hbX:=get_ext gb [AO.var [.p (.s cn),.p (.b ch),.p (.i .i64 ak),.p (.s an),.p (.i .i64 ap),.p (.l (TyE.cellsL aks)),.p (.i .i64 cp)]]
   have hqX:=get_ext gq [AO.var [.p (.s cn),.p (.b ch),.p (.i .i64 ak),.p (.s an),.p (.i .i64 ap),.p (.l (TyE.cellsL aks)),.p (.i .i64 cp)]]
   have heX:=get_ext ge [AO.var [.p (.s cn),.p (.b ch),.p (.i .i64 ak),.p (.s an),.p (.i .i64 ap),.p (.l (TyE.cellsL aks)),.p (.i .i64 cp)]]
   have hoX:=own_up hown [AO.var [.p (.s cn),.p (.b ch),.p (.i .i64 ak),.p (.s an),.p (.i .i64 ap),.p (.l (TyE.cellsL aks)),.p (.i .i64 cp)]]
   rw [← List.length_append] at hoX
   have hnX:=hnest.keep (H':=SH++[AO.var [.p (.s cn),.p (.b ch),.p (.i .i64 ak),.p (.s an),.p (.i .i64 ap),.p (.l (TyE.cellsL aks)),.p (.i .i64 cp)]]) (fun i _ o ho=>get_ext ho _)
   have hSlt:=hMG.len
   generalize hyl:SH.length=y at hyX hSlt ⊢
   generalize SH++[AO.var [.p (.s cn),.p (.b ch),.p (.i .i64 ak),.p (.s an),.p (.i .i64 ap),.p (.l (TyE.cellsL aks)),.p (.i .i64 cp)]]=H1 at hMX hyX hbX hqX heX hoX hnX ⊢
   have hv:=hMX.mkr
   obtain ⟨ts,⟨gk,gn,gu,gt,gp,gks,gas⟩⟩:=g
   simp only [tmO,ProgD.cells,ExpD.cells,List.map_cons,List.map_nil,List.cons_append,List.nil_append] at hv
   refine drw_same ?_
   simp only [go_sem,reduceIte,↓reduceIte,sevalprocAttr,Z0,Z1,bytesOf,q0,hv,hyX,eget_same,eget_ne]
   refine acall_pure (containsO hMX.own) ?_
   have hjb:j≠b:=by have:=hMG.hj; omega
   have hjq:j≠q:=by have:=hMG.hj; omega
   have hje:j≠e:=by have:=hMG.hj; omega
   have hjy:j≠y:=by have:=hMG.hj; omega
   replace hft:=congrArg (firstF f) hft
   dsimp only at hft
   rw [← firstF_assoc,hF,← firstF_assoc] at hft
   by_cases hm:cn∈S
   case' pos =>
    simp only [go_sem,reduceIte,↓reduceIte,sevalprocAttr,Z0,Z1,bytesOf,dT hm,eget_same,eget_ne,q0,hyX]
    refine acall_pure (failT hMX.mkr 23 cp) ?_
    rw [if_pos hm] at hft
    have hM2:=hMX.fail (f':=firstF F (23,cp)) (firstF_zz hfz (by simp))
    have hy2:=get_set (o':=tmO ⟨ts,⟨gk,gn,gu,gt,gp,gks,gas⟩⟩ a1 (firstF F (23,cp))) hyX hjy
    have hb2:=get_set (o':=tmO ⟨ts,⟨gk,gn,gu,gt,gp,gks,gas⟩⟩ a1 (firstF F (23,cp))) hbX hjb
    have hq2:=get_set (o':=tmO ⟨ts,⟨gk,gn,gu,gt,gp,gks,gas⟩⟩ a1 (firstF F (23,cp))) hqX hjq
    have he2:=get_set (o':=tmO ⟨ts,⟨gk,gn,gu,gt,gp,gks,gas⟩⟩ a1 (firstF F (23,cp))) heX hje
    have ho2:=own_setVar (o:=tmO ⟨ts,⟨gk,gn,gu,gt,gp,gks,gas⟩⟩ a1 (firstF F (23,cp))) hoX hMX.mkr
    have hn2:=hnX.keep (H':=H1.set j (tmO ⟨ts,⟨gk,gn,gu,gt,gp,gks,gas⟩⟩ a1 (firstF F (23,cp)))) (fun i hi o ho=>get_set ho (by have:=hnX.lo i hi; have:=hMX.hj; omega))
    rw [show H1.length=(H1.set j (tmO ⟨ts,⟨gk,gn,gu,gt,gp,gks,gas⟩⟩ a1 (firstF F (23,cp)))).length by simp] at ho2
    generalize H1.set j (tmO ⟨ts,⟨gk,gn,gu,gt,gp,gks,gas⟩⟩ a1 (firstF F (23,cp)))=H2 at hM2 hy2 hb2 hq2 he2 ho2 hn2 ⊢
    simp only [go_sem,reduceIte,↓reduceIte,sevalprocAttr,Z0,Z1,bytesOf]
   case' neg =>
    simp only [go_sem,reduceIte,↓reduceIte,sevalprocAttr,Z0,Z1,bytesOf,dF hm,eget_same,eget_ne]
    rw [if_neg hm,firstF_r hfz] at hft
    have hM2:=hMX
    have hy2:=hyX
    have hb2:=hbX
    have hq2:=hqX
    have he2:=heX
    have ho2:=hoX
    have hn2:=hnX
   all_goals
    refine dBN (d:=⟨dn,vs,cs,dp⟩) (c:=⟨cn,ch,⟨ak,an,ap,aks⟩,cp⟩) hcall ?_ ?_ ?_ ?_ hM2 hb2 hy2 hq2 ho2 (by rw [hRl]; omega) (by rw [hSlen]; omega) hsep hbl hql hbq ?_
    ·simp only [go_sem,reduceIte,↓reduceIte,sevalprocAttr,Z0,Z1,bytesOf,eget_same,eget_ne,q0]
    ·simp only [go_sem,reduceIte,↓reduceIte,sevalprocAttr,Z0,Z1,bytesOf,eget_same,eget_ne,q3]
    ·simp only [go_sem,reduceIte,↓reduceIte,sevalprocAttr,Z0,Z1,bytesOf,eget_same,eget_ne,q5]
    ·simp only [go_sem,reduceIte,↓reduceIte,sevalprocAttr,Z0,Z1,bytesOf,eget_same,eget_ne]
    intro L' H' iv' a' xr js hL hM' hq' ho' hs' hja haid RK
    have hvar:∀ (i:Nat) cs,_=_→i≠j→i≠q→H'[i]?=some (.var cs):=fun i cs hi hij hiq=>RK.fr i (.var cs) hi hij hiq (own_neR hM2.own hi) (own_ne ho2 hi)
    simp only [go_sem,reduceIte,↓reduceIte,sevalprocAttr,Z0,Z1,bytesOf,eget_same,eget_ne,eget_keep,hL,q0,q3,q4,q5,q37,q38,q39,ex]
    refine ⟨((x+1,rs++[xr],ids++js),a',iv',H'),⟨rfl,rfl,by simp only; omega,?_,hvar _ _ hb2 (Ne.symm hjb) hbq,hq',hvar _ _ he2 (Ne.symm hje) heq,ho',hs',?_⟩,by simp only; omega⟩
    ·simp only
     rw [hnm,← List.append_assoc,hS,hft]
     exact hM'
    ·simp only
     rw [hrw]
     exact hn2.snoc RK haid hja hM2.hj hM2.len hq2
  ·have:x=cs.length:=by omega
   subst this
   have d1:decide ((cs.length:Int)<(cs.length:Int))=false:=by simp
   rw [List.take_length] at hMG
   simp only [go_sem,reduceIte,↓reduceIte,sevalprocAttr,Z0,Z1,bytesOf,q38,q39,d1,eget_same,eget_ne,q5,gq,q4,ge]
   rw [set_get ge]
   simp only [go_sem,reduceIte,↓reduceIte,sevalprocAttr,Z0,Z1,bytesOf]
   rw [List.take_length] at hnest
   refine k _ _ _ _ _ (hMG.setV hel ge _) ?_ hsep (hnest.keep fun i hi o ho=>get_set ho (fun e'=>by
    obtain ⟨s',v',r',h'⟩:=hnest.own.rows i hi
    rw [← e',ge] at h'; cases h'))
   rw [List.length_set]
   exact own_setVar hown ge
end Go.Proofs.YtnelfbcgplooiaaGreat.Pg
/- The program's maker of tables: a datatype, owned. -/
set_option linter.all false
namespace Go.Proofs.YtnelfbcgplooiaaGreat.Pg
open Go.AM Mc
variable {g:ProgD} {H0 H H':List AO} {j:Nat} {a0 a:AV} {seen:List (List UInt8)} {f f':Ft}
theorem dataN {d:DataD} (hb:d.sz≤1048576) {g:ProgD} {a:AV} {f:Ft} {H:List AO} {j:Nat} {seen:List (List UInt8)} (hj:H[j]?=some (tmO g a f)) (ho:OwnR H a 1 (nmR seen)) (hz:Fz f) (hs:seen.length≤2097152) :
  ACall Tryz.prog 36 [.ptr j 0,av d.cells] H (fun r H'=>∃ iv' a' ids,r=.st [.p (.s d.name),.p (.i .i64 d.vars.length),iv']∧Own H' (.s 6 (d.ctors.map (rowTV d.vars))) iv' ids∧ids.Nodup∧(∀ i∈ids,H.length≤i∧∀ v q n,a'≠.gs i v q n)∧MkS g H H' j a a' (seen++d.ctors.map CtorD.name) (firstF f (dataF g.types seen d))):=by
 have hsz:=hb
 obtain ⟨dn,vs,cs,dp⟩:=d
 rw [DataD.sz,namesSz_eq,ctorsSz_eq] at hsz
 simp only at hsz
 have hcl:=sumSz_len CtorD.sz cs
 have hvl:=sumSz_len List.length vs
 have hc:∀ c∈cs,c.has=true→TyP ⟨dn,vs,cs,dp⟩ c.arg:=fun c hc _=>tyP _ _ c.arg (Nat.lt_succ_self _) (by have:=sumSz_mem CtorD.sz hc; rw [CtorD.sz] at this; omega)
 refine call36 (by simp) ?_
 have hM:=(MkS.refl hj ho hz).ext [AO.var [.p (.s dn),.p (.l (namesC vs)),.p (.l (cs.map CtorD.cells)),.p (.i .i64 dp)],AO.var [.p (.s []),.p (.i .i64 0),.p .nl],AO.var [.p (.s dn),.p (.i .i64 vs.length),.p .nl]]
 simp only [go_sem,reduceIte,↓reduceIte,sevalprocAttr,Z0,Z1,bytesOf,mc36,DataD.cells,namesC_len]
 intro hl
 have hjl:=get_lt hj
 have eb:(H++[AO.var [.p (.s dn),.p (.l (namesC vs)),.p (.l (cs.map CtorD.cells)),.p (.i .i64 dp)],AO.var [.p (.s []),.p (.i .i64 0),.p .nl],AO.var [.p (.s dn),.p (.i .i64 vs.length),.p .nl]])[H.length]?=some (AO.var [.p (.s dn),.p (.l (namesC vs)),.p (.l (cs.map CtorD.cells)),.p (.i .i64 dp)]):=by rw [get_off0]; rfl
 have ee:(H++[AO.var [.p (.s dn),.p (.l (namesC vs)),.p (.l (cs.map CtorD.cells)),.p (.i .i64 dp)],AO.var [.p (.s []),.p (.i .i64 0),.p .nl],AO.var [.p (.s dn),.p (.i .i64 vs.length),.p .nl]])[H.length+1]?=some (AO.var [.p (.s []),.p (.i .i64 0),.p .nl]):=by rw [get_off]; rfl
 have eq:(H++[AO.var [.p (.s dn),.p (.l (namesC vs)),.p (.l (cs.map CtorD.cells)),.p (.i .i64 dp)],AO.var [.p (.s []),.p (.i .i64 0),.p .nl],AO.var [.p (.s dn),.p (.i .i64 vs.length),.p .nl]])[H.length+2]?=some (AO.var [.p (.s dn),.p (.i .i64 vs.length),.p .nl]):=by rw [get_off]; rfl
 generalize H++[AO.var [.p (.s dn),.p (.l (namesC vs)),.p (.l (cs.map CtorD.cells)),.p (.i .i64 dp)],AO.var [.p (.s []),.p (.i .i64 0),.p .nl],AO.var [.p (.s dn),.p (.i .i64 vs.length),.p .nl]]=H1 at hM eb ee eq ⊢
 intro _
 refine ⟨Nat × List AO,[0,3,4,5,18,19,20],fun x st=>(x.1≤vs.length∧MkS g H x.2 j a a seen (firstF f (varsF dp [] (vs.take x.1)))∧x.2[H.length]?=some (AO.var [.p (.s dn),.p (.l (namesC vs)),.p (.l (cs.map CtorD.cells)),.p (.i .i64 dp)])∧x.2[H.length+1]?=some (AO.var [.p (.s []),.p (.i .i64 0),.p .nl])∧x.2[H.length+2]?=some (AO.var [.p (.s dn),.p (.i .i64 vs.length),.p .nl])) ∧
  st=⟨[(0,.ptr j 0),(3,.ptr H.length 0),(4,.ptr (H.length+1) 0),(5,.ptr (H.length+2) 0),(18,.p (.l (namesC vs))),(19,.p (.i .i64 vs.length)),(20,.p (.i .i64 x.1))],[],x.2⟩,fun x=>vs.length - x.1,⟨(0,H1),⟨Nat.zero_le _,by simp only [List.take_zero,varsF,firstF_r hz]; exact hM,eb,ee,eq⟩,rfl⟩,?_⟩
 rintro ⟨x,HG⟩ _ ⟨⟨hx,hMG,gb,ge,gq⟩,rfl⟩
 simp only at hx hMG gb ge gq
 by_cases hlt:x<vs.length
 ·have d1:decide ((x:Int)<(vs.length:Int))=true:=by simp; omega
  have hlt':((x:Int)<(vs.length:Int)):=by omega
  have hle':((x:Int)≤(vs.length:Int)):=by omega
  have ex:=wrN x (by omega)
  have hg:=namesC_get vs hlt
  have hvf:=varsF_step (p:=dp) (ah:=[]) hlt
  rw [List.nil_append] at hvf
  generalize vs[x]=v at hg hvf
  have h1:∀ r∈namesC vs,r.length=1:=by intro r hr; obtain ⟨s,_,rfl⟩:=List.mem_map.1 hr; rfl
  have htk:(namesC vs).take x=namesC (vs.take x):=by simp [namesC]
  simp only [go_sem,reduceIte,↓reduceIte,sevalprocAttr,Z0,Z1,bytesOf,d1,hlt',hle',hg,gb,namesC_len,Nat.sub_zero,htk]
  refine ⟨h1,?_⟩
  refine acall_pure (containsC (vs.take x) v _) ?_
  by_cases hm:v∈vs.take x
  ·rw [if_pos hm] at hvf
   simp only [go_sem,reduceIte,↓reduceIte,sevalprocAttr,Z0,Z1,bytesOf,dT hm,gb]
   refine acall_pure (failT hMG.mkr 22 dp) ?_
   have hM2:=hMG.fail (f':=firstF (firstF f (varsF dp [] (vs.take x))) (22,dp)) (firstF_zz hMG.z (by simp))
   simp only [go_sem,reduceIte,↓reduceIte,sevalprocAttr,Z0,Z1,bytesOf,ex]
   refine ⟨(x+1,_),⟨⟨by simp only; omega,?_,get_set gb (by omega),get_set ge (by omega),get_set gq (by omega)⟩,rfl⟩,by simp only; omega⟩
   simp only
   rw [hvf,← firstF_assoc]
   exact hM2
  ·rw [if_neg hm,firstF_r (varsF_z _ _ _)] at hvf
   simp only [go_sem,reduceIte,↓reduceIte,sevalprocAttr,Z0,Z1,bytesOf,dF hm,ex]
   refine ⟨(x+1,HG),⟨⟨by simp only; omega,?_,gb,ge,gq⟩,rfl⟩,by simp only; omega⟩
   simp only
   rw [hvf]
   exact hMG
 ·have:x=vs.length:=by omega
  subst this
  have d1:decide ((vs.length:Int)<(vs.length:Int))=false:=by simp
  rw [List.take_length] at hMG
  simp only [go_sem,reduceIte,↓reduceIte,sevalprocAttr,Z0,Z1,bytesOf,d1]
  refine dAN (d:=⟨dn,vs,cs,dp⟩) hc (by simp only; omega) rfl rfl rfl rfl hMG gb gq ge (by simp only; omega) (Nat.le_refl _) (by omega) (by omega) (by omega) (by omega) ?_
  intro H' iv' a' rs ids h1 h2 h3 h4
  obtain ⟨ids',q1,q2,q3⟩:=h4.tree h2 h3
  refine ⟨iv',a',ids',rfl,q1,q2,q3,?_⟩
  rw [dataF,← firstF_assoc]
  exact h1
end Go.Proofs.YtnelfbcgplooiaaGreat.Pg
/- The program's table, owned. -/
set_option linter.all false
namespace Go.Proofs.YtnelfbcgplooiaaGreat.Pg
open Go.AM Mc
def dataTV (d:DataD):List TV:=[.p (.s d.name),.p (.i .i64 d.vars.length),.s 6 (d.ctors.map (rowTV d.vars))]
def tabTV (g:ProgD):List (List TV):=if (g.ok && decide ((tableF g.types).1=0))=true then g.types.map dataTV else []
def tabN (H:List AO) (g:ProgD) (r:AV) (H':List AO):Prop:=∃ ov ids,r=.tup [ov,av (Ft.cells (tableR g).2)]∧Own H' (.s 3 (tabTV g)) ov ids∧ids.Nodup∧(∀ i∈ids,H.length≤i)∧∃ G,H'=H++G
theorem tableN (g:ProgD) (hb:g.sz≤1048576) (H:List AO):ACall Tryz.prog 12 [av g.cells] H (tabN H g):=by
 rw [ProgD.sz,datasSz_eq] at hb
 have htl:=sumSz_len DataD.sz g.types
 have hgc:∃ b0 b1 b2 b3 b4 b5 b6,g.body.cells=[b0,b1,b2,b3,b4,b5,b6]:=by
  obtain ⟨ts,⟨k,n,u,t,p,ks,as'⟩⟩:=g
  exact ⟨_,_,_,_,_,_,_,rfl⟩
 obtain ⟨b0,b1,b2,b3,b4,b5,b6,hgc⟩:=hgc
 have hgg:g.cells=[.l (g.types.map DataD.cells),b0,b1,b2,b3,b4,b5,b6]:=by rw [ProgD.cells,hgc]
 have hok:=progOkC g
 have hmany:=tooManyC g
 rw [hgg] at hok hmany
 rw [hgg]
 refine call12 (by simp) ?_
 simp only [go_sem,reduceIte,↓reduceIte,sevalprocAttr,Z0,Z1,bytesOf,mc12,mr12]
 refine acall_pure (hok _) ?_
 cases h1:g.ok
 ·have e:tableR g=([],(20,0)):=by rw [tableR,h1]; rfl
  simp only [go_sem,reduceIte,↓reduceIte,sevalprocAttr,Z0,Z1,bytesOf,h1]
  refine ⟨.p .nl,[],by rw [e]; rfl,?_,List.nodup_nil,fun i hi=>(by cases hi),_,rfl⟩
  rw [tabTV,h1]
  exact Own.nl _ _
 have e:tableR g=(if (tableF g.types).1=0 then (tableV g.types,(0,0)) else ([],tableF g.types)):=by rw [tableR,h1]; rfl
 simp only [go_sem,reduceIte,↓reduceIte,sevalprocAttr,Z0,Z1,bytesOf,h1]
 refine drw_same ?_
 simp only [go_sem,reduceIte,↓reduceIte,sevalprocAttr,Z0,Z1,bytesOf]
 refine pcall_pure (fun A=>hmany _) (Hext.refl _) ?_
 simp only [go_sem,reduceIte,↓reduceIte,sevalprocAttr,Z0,Z1,bytesOf,Ft.cells,zl8_0]
 intro hl
 rw [maxLe,List.length_map] at hl
 have hp0:∀ A,(H++(AO.var [.p (.l (g.types.map DataD.cells)),.p b0,.p b1,.p b2,.p b3,.p b4,.p b5,.p b6] :: A))[H.length]?=some (AO.var [.p (.l (g.types.map DataD.cells)),.p b0,.p b1,.p b2,.p b3,.p b4,.p b5,.p b6]):=fun A=>by rw [get_off0]; rfl
 have hp1:∀ B A,(H++(B :: AO.var [.p (.i .i64 0),.p (.i .i64 0)] :: A))[H.length+1]?=some (AO.var [.p (.i .i64 0),.p (.i .i64 0)]):=fun B A=>by rw [get_off]; rfl
 have hp2:∀ B C A,(H++(B :: C :: tmO g (.p .nl) (manyF 0 g.types) :: A))[H.length+2]?=some (tmO g (.p .nl) (manyF 0 g.types)):=fun B C A=>by rw [get_off]; rfl
 have htm:tmO g (.p .nl) (manyF 0 g.types)=AO.var [.p (.l (g.types.map DataD.cells)),.p b0,.p b1,.p b2,.p b3,.p b4,.p b5,.p b6,.p .nl,.p (.i .i64 (manyF 0 g.types).1),.p (.i .i64 (manyF 0 g.types).2)]:=by rw [tmO,hgg]; rfl
 rw [← htm,List.length_map]
 refine ⟨Nat × List AO,[1,3,4,21,22,23],fun x st=>(x.1≤g.types.length∧x.2[H.length]?=some (AO.var [.p (.l (g.types.map DataD.cells)),.p b0,.p b1,.p b2,.p b3,.p b4,.p b5,.p b6])∧x.2[H.length+1]?=some (AO.var [.p (.i .i64 0),.p (.i .i64 0)]) ∧
   x.2[H.length+2]?=some (tmO g (.p .nl) (firstF (manyF 0 g.types) (typesF [] (g.types.take x.1))))∧∃ G,x.2=H++G)∧st=⟨[(1,.ptr H.length 0),(3,.ptr (H.length+1) 0),(4,.ptr (H.length+2) 0),(21,.p (.l (g.types.map DataD.cells))),(22,.p (.i .i64 g.types.length)),(23,.p (.i .i64 x.1))],[],x.2⟩,fun x=>g.types.length - x.1,⟨(0,_),⟨Nat.zero_le _,hp0 _,hp1 _ _,?_,_,rfl⟩,rfl⟩,?_⟩
 ·simp only [List.take_zero,typesF,firstF_r (manyF_z _ _)]
  exact hp2 _ _ _
 rintro ⟨x,HG⟩ _ ⟨⟨hx,g0,g1,g2,G,hG⟩,rfl⟩
 simp only at hx g0 g1 g2 hG
 have hGl:HG.length=H.length+G.length:=by rw [hG,List.length_append]
 have hG2:=get_lt g2
 by_cases hlt:x<g.types.length
 ·have d1:decide ((x:Int)<(g.types.length:Int))=true:=by simp; omega
  have hlt':((x:Int)<(g.types.length:Int)):=by omega
  have hle':((x:Int)≤(g.types.length:Int)):=by omega
  have ex:=wrN x (by omega)
  have hg:(g.types.map DataD.cells)[x]?=some (DataD.cells g.types[x]):=by simp [hlt]
  have hvf:=typesF_step (ah:=[]) hlt
  rw [List.nil_append] at hvf
  have hfn:=fun (HX:List AO) (i:Nat) (hi:HX[i]?=some (.var (g.types[x].cells.map .p)))=>containsF_Data (H:=HX) (l:=g.types.take x) (g:=fun y=>decide (y.name=g.types[x].name)) (f:=32) (caps:=[.ptr i 0]) fun y _=>tblFn1 hi y
  generalize g.types[x]=d at hg hvf hfn
  obtain ⟨dn,vs,cs,dp⟩:=d
  simp only at hvf hfn
  have htk:(g.types.map DataD.cells).take x=(g.types.take x).map DataD.cells:=by rw [List.map_take]
  simp only [go_sem,reduceIte,↓reduceIte,sevalprocAttr,Z0,Z1,bytesOf,d1,hlt',hle',hg,g0,DataD.cells,List.length_map,htk,Nat.sub_zero]
  have n0:=get_ext g0 [AO.var [.p (.s dn),.p (.l (namesC vs)),.p (.l (cs.map CtorD.cells)),.p (.i .i64 dp)]]
  have n1:=get_ext g1 [AO.var [.p (.s dn),.p (.l (namesC vs)),.p (.l (cs.map CtorD.cells)),.p (.i .i64 dp)]]
  have n2:=get_ext g2 [AO.var [.p (.s dn),.p (.l (namesC vs)),.p (.l (cs.map CtorD.cells)),.p (.i .i64 dp)]]
  have n3:(HG++[AO.var [.p (.s dn),.p (.l (namesC vs)),.p (.l (cs.map CtorD.cells)),.p (.i .i64 dp)]])[HG.length]?=some (AO.var [.p (.s dn),.p (.l (namesC vs)),.p (.l (cs.map CtorD.cells)),.p (.i .i64 dp)]):=by rw [get_off0]; rfl
  have n4:∃ G,HG++[AO.var [.p (.s dn),.p (.l (namesC vs)),.p (.l (cs.map CtorD.cells)),.p (.i .i64 dp)]]=H++G:=app_far ⟨_,hG⟩ _
  have hjl:HG.length≠H.length+2:=by omega
  generalize HG.length=j at n3 hjl ⊢
  generalize HG++[AO.var [.p (.s dn),.p (.l (namesC vs)),.p (.l (cs.map CtorD.cells)),.p (.i .i64 dp)]]=H1 at n0 n1 n2 n3 n4 ⊢
  simp only [go_sem,reduceIte,↓reduceIte,sevalprocAttr,Z0,Z1,bytesOf,n0,List.length_map,hlt',hle',htk,Nat.sub_zero]
  refine ⟨dataL4 _,?_⟩
  refine acall_pure (hfn H1 j n3) ?_
  have done:∀ (F2:Ft) (H2:List AO),F2=firstF (firstF (manyF 0 g.types) (typesF [] (g.types.take x))) (if ((g.types.take x).any fun y=>decide (y.name=dn))=true∨dn∈fourL then (21,dp) else (0,0))→H2[H.length]?=some (AO.var [.p (.l (g.types.map DataD.cells)),.p b0,.p b1,.p b2,.p b3,.p b4,.p b5,.p b6])→H2[H.length+1]?=some (AO.var [.p (.i .i64 0),.p (.i .i64 0)])→H2[H.length+2]?=some (tmO g (.p .nl) F2)→(∃ G,H2=H++G) →
    ∃ y:Nat × List AO,((y.1≤g.types.length∧y.2[H.length]?=some (AO.var [.p (.l (g.types.map DataD.cells)),.p b0,.p b1,.p b2,.p b3,.p b4,.p b5,.p b6])∧y.2[H.length+1]?=some (AO.var [.p (.i .i64 0),.p (.i .i64 0)]) ∧
   y.2[H.length+2]?=some (tmO g (.p .nl) (firstF (manyF 0 g.types) (typesF [] (g.types.take y.1))))∧∃ G,y.2=H++G)∧(⟨[(1,.ptr H.length 0),(3,.ptr (H.length+1) 0),(4,.ptr (H.length+2) 0),(21,.p (.l (g.types.map DataD.cells))),(22,.p (.i .i64 g.types.length)),(23,.p (.i .i64 ((x+1:Nat):Int)))],[],H2⟩:St)=⟨[(1,.ptr H.length 0),(3,.ptr (H.length+1) 0),(4,.ptr (H.length+2) 0),(21,.p (.l (g.types.map DataD.cells))),(22,.p (.i .i64 g.types.length)),(23,.p (.i .i64 y.1))],[],y.2⟩)∧g.types.length - y.1<g.types.length - x:=by
   rintro F2 H2 rfl e0 e1 e2 e3
   refine ⟨(x+1,H2),⟨⟨by simp only; omega,e0,e1,?_,e3⟩,rfl⟩,by simp only; omega⟩
   simp only
   rw [hvf,← firstF_assoc]
   exact e2
  have fz:Fz (firstF (manyF 0 g.types) (typesF [] (g.types.take x))):=firstF_zz (manyF_z _ _) (typesF_z _ _)
  cases hany:(g.types.take x).any fun y=>decide (y.name=dn)
  ·by_cases hm:dn∈fourL
   ·simp only [go_sem,reduceIte,↓reduceIte,sevalprocAttr,Z0,Z1,bytesOf,hany]
    refine drw_same ?_
    simp only [go_sem,reduceIte,↓reduceIte,sevalprocAttr,Z0,Z1,bytesOf]
    refine pcall_pure (fun A=>fourC _) (Hext.refl _) ?_
    simp only [go_sem,reduceIte,↓reduceIte,sevalprocAttr,Z0,Z1,bytesOf,n3]
    refine acall_pure (containsC fourL dn _) ?_
    simp only [go_sem,reduceIte,↓reduceIte,sevalprocAttr,Z0,Z1,bytesOf,dT hm,n3]
    refine acall_pure (failT n2 21 dp) ?_
    simp only [go_sem,reduceIte,↓reduceIte,sevalprocAttr,Z0,Z1,bytesOf,ex]
    exact done _ _ (by rw [hany,if_pos (.inr hm)]) (get_set n0 (by omega)) (get_set n1 (by omega)) (set_get n2) (set_far n4 (by omega) _)
   ·simp only [go_sem,reduceIte,↓reduceIte,sevalprocAttr,Z0,Z1,bytesOf,hany]
    refine drw_same ?_
    simp only [go_sem,reduceIte,↓reduceIte,sevalprocAttr,Z0,Z1,bytesOf]
    refine pcall_pure (fun A=>fourC _) (Hext.refl _) ?_
    simp only [go_sem,reduceIte,↓reduceIte,sevalprocAttr,Z0,Z1,bytesOf,n3]
    refine acall_pure (containsC fourL dn _) ?_
    simp only [go_sem,reduceIte,↓reduceIte,sevalprocAttr,Z0,Z1,bytesOf,dF hm,ex]
    exact done _ _ (by rw [hany,if_neg (by simp [hm]),firstF_r fz]) n0 n1 n2 n4
  ·simp only [go_sem,reduceIte,↓reduceIte,sevalprocAttr,Z0,Z1,bytesOf,hany]
   refine drw_same ?_
   simp only [go_sem,reduceIte,↓reduceIte,sevalprocAttr,Z0,Z1,bytesOf,n3]
   refine acall_pure (failT n2 21 dp) ?_
   simp only [go_sem,reduceIte,↓reduceIte,sevalprocAttr,Z0,Z1,bytesOf,ex]
   exact done _ _ (by rw [hany,if_pos (.inl rfl)]) (get_set n0 (by omega)) (get_set n1 (by omega)) (set_get n2) (set_far n4 (by omega) _)
 ·have:x=g.types.length:=by omega
  subst this
  have d1:decide ((g.types.length:Int)<(g.types.length:Int))=false:=by simp
  rw [List.take_length] at g2
  simp only [go_sem,reduceIte,↓reduceIte,sevalprocAttr,Z0,Z1,bytesOf,d1,g0]
  intro _
  rw [List.length_map]
  have hM0:MkS g HG HG (H.length+2) (.p .nl) (.p .nl) [] (firstF (manyF 0 g.types) (typesF [] g.types)):=MkS.refl g2 (.inl ⟨rfl,rfl⟩) (firstF_zz (manyF_z _ _) (typesF_z _ _))
  refine ⟨(Nat × List (List AV) × List Nat) × AV × AV × List AO,[1,3,4,8,47,48,49],fun x st=>(x.1.1≤g.types.length∧MkS g HG x.2.2.2 (H.length+2) (.p .nl) x.2.1 ((g.types.take x.1.1).flatMap fun d=>d.ctors.map CtorD.name) (firstF (firstF (manyF 0 g.types) (typesF [] g.types)) (datasF g.types [] (g.types.take x.1.1))) ∧
   OwnAt x.2.2.2 x.2.2.1 3 x.1.2.1 HG.length x.2.2.2.length∧Sep x.2.1 x.2.2.1∧NestK 3 x.2.2.2 x.2.1 x.2.2.1 HG.length ((g.types.take x.1.1).map dataTV) x.1.2.1 x.1.2.2)∧st=⟨[(1,.ptr H.length 0),(3,.ptr (H.length+1) 0),(4,.ptr (H.length+2) 0),(8,x.2.2.1),(47,.p (.l (g.types.map DataD.cells))),(48,.p (.i .i64 g.types.length)),(49,.p (.i .i64 x.1.1))],[],x.2.2.2⟩,fun x=>g.types.length - x.1.1,⟨((0,[],[]),.p .nl,.p .nl,HG),⟨Nat.zero_le _,?_,.inl ⟨rfl,rfl⟩,fun _ _ _ _ _ _ _ _=>by (rintro ⟨⟩),NestK.nil _ _ _ _ _⟩,rfl⟩,?_⟩
  ·simp only [List.take_zero,List.flatMap_nil,datasF]
   rw [firstF_r hM0.z]
   exact hM0
  rintro ⟨⟨x,rs,ids⟩,a,ov,HI⟩ _ ⟨⟨hx,hM,ho,hsep,hnest⟩,rfl⟩
  simp only at hx hM ho hsep hnest
  have hf0:∀ (i:Nat) o,HG[i]?=some o→i≠H.length+2→HI[i]?=some o:=fun i o hi hne=>hM.keep i o hi hne (by rintro _ _ _ ⟨⟩)
  by_cases hlt:x<g.types.length
  ·have d1:decide ((x:Int)<(g.types.length:Int))=true:=by simp; omega
   have hlt':((x:Int)<(g.types.length:Int)):=by omega
   have ex:=wrN x (by omega)
   have hg:(g.types.map DataD.cells)[x]?=some (DataD.cells g.types[x]):=by simp [hlt]
   have hvf:=datasF_step (types:=g.types) (seen:=[]) hlt
   rw [List.nil_append] at hvf
   have hnm:((g.types.take (x+1)).flatMap fun d=>d.ctors.map CtorD.name)=((g.types.take x).flatMap fun d=>d.ctors.map CtorD.name)++g.types[x].ctors.map CtorD.name:=by
    rw [List.take_succ,List.getElem?_eq_getElem hlt,List.flatMap_append]; simp
   have hrw:(g.types.take (x+1)).map dataTV=(g.types.take x).map dataTV++[dataTV g.types[x]]:=by
    rw [List.take_succ,List.getElem?_eq_getElem hlt,List.map_append]; rfl
   have hsl:((g.types.take x).flatMap fun d=>d.ctors.map CtorD.name).length≤2097152:=by
    have:=namesLen (l:=g.types.take x)
    have:=sumSz_take DataD.sz g.types x
    omega
   have hdz:g.types[x].sz≤1048576:=by have:=sumSz_mem DataD.sz (List.getElem_mem hlt); omega
   have hRl:rs.length=x:=by rw [hnest.own.len,List.length_map,List.length_take]; omega
   have hcall:=fun HX a' f' h1 h2 h3=>dataN hdz (g:=g) (a:=a') (f:=f') (H:=HX) (j:=H.length+2) (seen:=(g.types.take x).flatMap fun d=>d.ctors.map CtorD.name) h1 h2 h3 hsl
   generalize g.types[x]=d at hg hvf hnm hrw hcall
   generalize (g.types.take x).flatMap (fun d=>d.ctors.map CtorD.name)=S at hM hvf hnm hcall
   obtain ⟨dn,vs,cs,dp⟩:=d
   simp only at hnm
   simp only [go_sem,reduceIte,↓reduceIte,sevalprocAttr,Z0,Z1,bytesOf,d1,hlt',hg,DataD.cells,List.length_map]
   have hM1:=hM.ext [AO.var [.p (.s dn),.p (.l (namesC vs)),.p (.l (cs.map CtorD.cells)),.p (.i .i64 dp)]]
   have ho1:=own_up ho [AO.var [.p (.s dn),.p (.l (namesC vs)),.p (.l (cs.map CtorD.cells)),.p (.i .i64 dp)]]
   rw [← List.length_append] at ho1
   have hlo:HG.length≤(HI++[AO.var [.p (.s dn),.p (.l (namesC vs)),.p (.l (cs.map CtorD.cells)),.p (.i .i64 dp)]]).length:=hM1.len
   have hKx:∀ (i:Nat) o,HI[i]?=some o→(HI++[AO.var [.p (.s dn),.p (.l (namesC vs)),.p (.l (cs.map CtorD.cells)),.p (.i .i64 dp)]])[i]?=some o:=fun i o hi=>get_ext hi _
   have hKl:HI.length≤(HI++[AO.var [.p (.s dn),.p (.l (namesC vs)),.p (.l (cs.map CtorD.cells)),.p (.i .i64 dp)]]).length:=by simp
   generalize HI++[AO.var [.p (.s dn),.p (.l (namesC vs)),.p (.l (cs.map CtorD.cells)),.p (.i .i64 dp)]]=HK at hM1 ho1 hlo hKx hKl ⊢
   refine (hcall HK a _ hM1.mkr hM1.own hM1.z).mono ?_
   rintro r H' ⟨iw,a',jd,rfl,hjo,hjn,hjf,hMd⟩
   simp only at hjo hjf hMd
   have hM2:=hM1.trans hMd
   have hoK:=own_ltAt ho
   have ho2:OwnAt H' ov 3 rs HG.length H'.length:=ownAt_keep ho1 (fun id v q n e o hi=>hMd.keep _ _ hi (by
    rintro rfl
    exact own_ne ho1 hM1.mkr _ _ _ e) (fun v' q' n' e'=>hsep _ _ _ _ _ _ _ e' e)) hMd.len
   have hs2:Sep a' ov:=by
    intro id v q n v' q' n' e e'
    rcases hMd.id _ _ _ _ e with h | ⟨_,_,_,h⟩
    ·have:=own_ltAt ho1 _ _ _ _ e'; omega
    ·exact hsep _ _ _ _ _ _ _ h e'
   simp only [go_sem,reduceIte,↓reduceIte,sevalprocAttr,Z0,Z1,bytesOf]
   refine ⟨by intro r hr; simp at hr; subst hr; rfl,?_⟩
   have ho3:=own_up ho2 [AO.rows 3 0 [[.p (.s dn),.p (.i .i64 vs.length),iw]]]
   refine app_fr ho3.own (by rw [hRl]; simp; omega) (by rw [hRl]; simp; omega) ?_
   intro id ver H2 hid hside hkeep hlen
   simp only [go_sem,reduceIte,↓reduceIte,sevalprocAttr,Z0,Z1,bytesOf,ex]
   have hln:H'.length≤H2.length:=by rw [List.length_append] at hlen; omega
   have hidlo:HG.length≤id:=by
    rcases hside with ⟨v,o,n',hkv⟩ | h
    ·apply Classical.byContradiction
     intro hlt2
     exact own_lo ho3 (by omega) _ _ _ hkv
    ·simp at h; have:=hM2.len; omega
   have hM3:=hM2.step (H':=H2) (fun i=>∀ v o n,ov≠.gs i v o n) (fun i o hi hp=>hkeep _ _ (get_ext hi _) hp) (fun i hi=>own_lo ho3 hi) (fun id v q n e v' o' n' e'=>hs2 _ _ _ _ _ _ _ e e') hln
   have hov:∀ i∈jd,∀ v q n,ov≠.gs i v q n:=fun i hi v q n e=>by
    have:=hoK _ _ _ _ e; have:=(hjf i hi).1; omega
   have hjl:∀ i∈jd,i<H'.length:=fun i hi=>by obtain ⟨_,_,_,h'⟩:=hjo.rows i hi; exact get_lt h'
   have RK:RowK 3 HI H2 (H.length+2) H.length a ov (.gs id ver 0 (rs.length+1)) (dataTV ⟨dn,vs,cs,dp⟩) [.p (.s dn),.p (.i .i64 vs.length),iw] jd :=
    ⟨fun i o hi hij hiq hna hni=>hkeep _ _ (get_ext (hMd.keep _ _ (hKx _ _ hi) hij hna) _) hni,
     OwnCs.pc (OwnCs.pc (OwnCs.one (hjo.keep fun i hi o ho'=>hkeep _ _ (get_ext ho' _) (hov i hi)))),hjn,fun i hi=>⟨Nat.le_trans hKl (hjf i hi).1,fun v q n e=>by
      cases e
      rcases hside with ⟨v,o,n',hkv⟩ | h
      ·exact hov _ hi _ _ _ hkv
      ·have:=hjl _ hi; simp at h; omega⟩,fun i v q n e=>by
      cases e
      rcases hside with h | h
      ·exact .inr h
      ·have:=hMd.len; simp at h; exact .inl (by omega),rfl⟩
   refine ⟨((x+1,rs++[[.p (.s dn),.p (.i .i64 vs.length),iw]],ids++jd),a',_,H2),⟨⟨by simp only; omega,?_,?_,?_,?_⟩,rfl⟩,by simp only; omega⟩
   ·simp only
    rw [hnm,hvf,← firstF_assoc]
    exact hM3
   ·exact .inr ⟨id,ver,hidlo,get_lt hid,by simp,hid⟩
   ·rintro i v q n v' q' n' e e'
    cases e'
    rcases hside with ⟨v,o,n',hkv⟩ | h
    ·exact hs2 _ _ _ _ _ _ _ e hkv
    ·have:=own_lt hM2.own _ _ _ _ e
     simp at h; omega
   ·simp only
    rw [hrw]
    exact hnest.snoc RK (fun id v q n e=>(hMd.id _ _ _ _ e).imp (fun h=>Nat.le_trans hKl h) (fun h=>h)) (fun i hi=>(hjf i hi).2) hM.hj hM.len (hf0 _ _ g0 (by omega))
  ·have:x=g.types.length:=by omega
   subst this
   have d2:decide ((g.types.length:Int)<(g.types.length:Int))=false:=by simp
   rw [List.take_length] at hM
   have hf:firstF (firstF (manyF 0 g.types) (typesF [] g.types)) (datasF g.types [] g.types)=tableF g.types:=by rw [tableF,firstF_assoc]
   rw [hf] at hM
   have hv:=hM.mkr
   rw [tmO,hgg] at hv
   simp only [List.map_cons,List.map_nil,List.cons_append,List.nil_append] at hv
   have z1:=hf0 _ _ g1 (by omega)
   have hfar:∃ G,HI=H++G:=pre_of fun i o hi=>hf0 i o (by rw [hG]; exact get_ext hi _) (by have:=get_lt hi; omega)
   simp only [go_sem,reduceIte,↓reduceIte,sevalprocAttr,Z0,Z1,bytesOf,d2,hv]
   by_cases h0:(tableF g.types).1=0
   ·have h0':tableF g.types=(0,0):=tableF_z _ h0
    simp only [go_sem,reduceIte,↓reduceIte,sevalprocAttr,Z0,Z1,bytesOf,dT h0,z1]
    rw [set_get z1]
    simp only [go_sem,reduceIte,↓reduceIte,sevalprocAttr,Z0,Z1,bytesOf]
    rw [List.take_length] at hnest
    have hset:∀ i∈ids,∀ o,HI[i]?=some o→(HI.set (H.length+1) (AO.var [.p (.i .i64 0),.p (.i .i64 0)]))[i]?=some o:=fun i hi o ho'=>get_set ho' (by have:=hnest.lo i hi; omega)
    obtain ⟨ids',q1,q2,q3⟩:=(hnest.keep hset).tree (own_setVar (o:=AO.var [.p (.i .i64 0),.p (.i .i64 0)]) ho z1) hsep
    refine ⟨ov,ids',by rw [e,if_pos h0]; rfl,?_,q2,fun i hi=>by have:=(q3 i hi).1; omega,set_far hfar (by omega) _⟩
    rw [tabTV,h1,dT h0]
    exact q1
   ·simp only [go_sem,reduceIte,↓reduceIte,sevalprocAttr,Z0,Z1,bytesOf,dF h0]
    refine drw_same ?_
    simp only [go_sem,reduceIte,↓reduceIte,sevalprocAttr,Z0,Z1,bytesOf,hv,z1]
    rw [set_get z1]
    simp only [go_sem,reduceIte,↓reduceIte,sevalprocAttr,Z0,Z1,bytesOf]
    refine ⟨.p .nl,[],by rw [e,if_neg h0]; rfl,?_,List.nodup_nil,fun i hi=>(by cases hi),set_far hfar (by omega) _⟩
    rw [tabTV,h1,dF h0]
    exact Own.nl _ _
end Go.Proofs.YtnelfbcgplooiaaGreat.Pg
/- Marks of a program; tables as owned trees. -/
set_option linter.all false
namespace Go.Proofs.YtnelfbcgplooiaaGreat.Pg
open Go.AM Mc
theorem own_ltI {H:List AO} {t:TV} {a:AV} {ids:List Nat} (h:Own H t a ids):∀ i∈ids,i<H.length:=fun i hi=>by obtain ⟨_,_,_,h'⟩:=h.rows i hi; exact get_lt h'
theorem markExpN (e:ExpD) (hb:e.sz≤1048576) {H:List AO} {cs:List AV} {ids:List Nat} {k:Int} (h:OwnCs H e.tv cs ids) (hn:ids.Nodup) (h0:0≤k) (hk:k+mcC e.tv≤1000000000) :
  ACall Tryz.prog 39 [.st cs,.p (.i .i64 k)] H (fun r H'=>∃ q:Int,r=.p (.i .i64 q)∧0≤q∧q≤1000000000∧∀ (i:Nat) o,H[i]?=some o→i ∉ ids→H'[i]?=some o):=by
 obtain ⟨ek,n,u,x,p,ks,as'⟩:=e
 rw [ExpD.sz,ExpD.szL_eq,ExpD.szA_eq] at hb
 rw [ExpD.tv] at h hk
 simp only [mcC,mcT] at hk
 obtain ⟨_,rfl,g1⟩:=ownCs_p h
 obtain ⟨_,rfl,g2⟩:=ownCs_p g1
 obtain ⟨_,rfl,g3⟩:=ownCs_p g2
 obtain ⟨_,rfl,g4⟩:=ownCs_p g3
 obtain ⟨_,rfl,g5⟩:=ownCs_p g4
 obtain ⟨v5,_,i5,_,rfl,rfl,o5,g6⟩:=ownCs_s g5
 obtain ⟨v6,_,i6,_,rfl,rfl,o6,g7⟩:=ownCs_s g6
 obtain ⟨rfl,rfl⟩:=ownCs_n g7
 rw [List.append_nil] at hn ⊢
 obtain ⟨n5,n6,n56⟩:=List.nodup_append.1 hn
 have l5:=own_ltI o5
 have l6:=own_ltI o6
 have hkl:=sumSz_len ExpD.sz ks
 have hal:=sumSz_len ArmD.sz as'
 refine call39 (by simp) ?_
 simp only [go_sem,reduceIte,↓reduceIte,sevalprocAttr,Z0,Z1,bytesOf,mc39,mr39]
 refine ((markExpA _).1 ks (Nat.lt_succ_self _) (by omega) _ v5 i5 k (o5.keep fun i _ o h=>get_ext h _) n5 h0 (by omega) (by rw [ExpD.tvL_eq,List.length_map]; omega)).mono ?_
 rintro _ H2 ⟨rfl,hl2,_,hf2⟩
 have hk1:∀ (i:Nat) o,(H++[AO.var [.p (.i .i64 ek),.p (.s n),.p (.i .i64 u),.p (.s x),.p (.i .i64 p),v5,v6]])[i]?=some o→i ∉ i5→H2[i]?=some o:=fun i o hi hni=>(hf2 i hni).trans hi
 have hv:H2[H.length]?=some (AO.var [.p (.i .i64 ek),.p (.s n),.p (.i .i64 u),.p (.s x),.p (.i .i64 p),v5,v6]):=hk1 _ _ (get_off0 _ _) (fun h=>by have:=l5 _ h; omega)
 simp only [go_sem,reduceIte,↓reduceIte,sevalprocAttr,Z0,Z1,bytesOf,hv]
 refine ((markExpA _).2 as' (Nat.lt_succ_self _) (by omega) H2 v6 i6 _ (o6.keep fun i hi o h=>hk1 i o (get_ext h _) (fun h5=>n56 i h5 i hi rfl)) n6 (by omega) (by omega) (by rw [ExpD.tvA_eq,List.length_map]; omega)).mono ?_
 rintro _ H3 ⟨rfl,hl3,_,hf3⟩
 simp only [go_sem,reduceIte,↓reduceIte,sevalprocAttr,Z0,Z1,bytesOf]
 refine ⟨_,rfl,by omega,by omega,fun i o hi hni=>?_⟩
 simp only [List.mem_append,not_or] at hni
 exact (hf3 i hni.2).trans (hk1 i o (get_ext hi _) hni.1)
theorem markProgN (g:ProgD) (hb:g.sz≤1048576) {H:List AO} {cs:List AV} {ids:List Nat} {k:Int} (h:OwnCs H g.tv cs ids) (hn:ids.Nodup) (h0:0≤k) (hk:k+mcC g.tv≤1000000000) :
  ACall Tryz.prog 14 [.st cs,.p (.i .i64 k)] H (fun r H'=>∃ q:Int,r=.p (.i .i64 q)∧0≤q∧q≤1000000000∧∀ (i:Nat) o,H[i]?=some o→i ∉ ids→H'[i]?=some o):=by
 obtain ⟨ts,e⟩:=g
 rw [ProgD.sz,datasSz_eq] at hb
 simp only at hb
 have hx:∀ (t:List TV),t=ProgD.tv ⟨ts,e⟩→t=.s 4 (ts.map DataD.tv) :: e.tv:=fun t ht=>ht
 rw [ProgD.tv] at h hk
 rw [mcC,mcT] at hk
 simp only at h hk
 obtain ⟨v0,ce,i0,ie,rfl,rfl,o0,g1⟩:=ownCs_s h
 have hcl:ce.length=7:=by rw [g1.len]; exact ExpD.tv_len _
 obtain ⟨c1,c2,c3,c4,c5,c6,c7,rfl⟩:=len7 hcl
 obtain ⟨n0,ne,n0e⟩:=List.nodup_append.1 hn
 have l0:=own_ltI o0
 have htl:=sumSz_len DataD.sz ts
 refine call14 (by simp) ?_
 simp only [go_sem,reduceIte,↓reduceIte,sevalprocAttr,Z0,Z1,bytesOf,mc14,mr14]
 refine (markDatasA ts (by omega) _ v0 i0 k (o0.keep fun i _ o h=>get_ext h _) n0 h0 (by omega) (by rw [List.length_map]; omega)).mono ?_
 rintro _ H2 ⟨rfl,hl2,_,hf2⟩
 have hk1:∀ (i:Nat) o,(H++[AO.var [v0,c1,c2,c3,c4,c5,c6,c7]])[i]?=some o→i ∉ i0→H2[i]?=some o:=fun i o hi hni=>(hf2 i hni).trans hi
 have hv:H2[H.length]?=some (AO.var [v0,c1,c2,c3,c4,c5,c6,c7]):=hk1 _ _ (get_off0 _ _) (fun h=>by have:=l0 _ h; omega)
 simp only [go_sem,reduceIte,↓reduceIte,sevalprocAttr,Z0,Z1,bytesOf,hv]
 refine (markExpN e (by omega) (g1.keep fun i hi o h=>hk1 i o (get_ext h _) (fun h5=>n0e i h5 i hi rfl)) ne (by omega) (by omega)).mono ?_
 rintro _ H3 ⟨q,rfl,hq0,hq1,hf3⟩
 simp only [go_sem,reduceIte,↓reduceIte,sevalprocAttr,Z0,Z1,bytesOf]
 refine ⟨_,rfl,hq0,hq1,fun i o hi hni=>?_⟩
 simp only [List.mem_append,not_or] at hni
 exact hf3 i o (hk1 i o (get_ext hi _) hni.1) hni.2
end Go.Proofs.YtnelfbcgplooiaaGreat.Pg
/- Tables as owned trees: their marks, their data. -/
set_option linter.all false
namespace Go.Proofs.YtnelfbcgplooiaaGreat.Pg
open Go.AM Mc
mutual
theorem mcTyT (vs : List (List UInt8)) : ∀ x : TyE, mcC (tvT (x.ty vs)) ≤ 3 + 3 * x.sz
  | .mk k n p ks => by
    have h := mcTyR vs ks
    have e0 : ∀ K N S, mcC (tvT (.mk K N S [])) = 3 := fun K N S => by simp [tvT, tvR, mcC, mcT, mcR]
    have e1 : ∀ K N S, mcC (tvT (.mk K N S (TyE.tyL vs ks))) = 3 + mcR (tvR (TyE.tyL vs ks)) := fun K N S => by rw [tvT]; simp only [mcC, mcT]; omega
    rw [TyE.sz]
    unfold TyE.ty
    split
    · rw [e0]; omega
    · split
      · rw [e1]; omega
      · split
        · rw [e1]; omega
        · split
          · rw [e1]; omega
          · split
            · rw [e0]; omega
            · rw [e1]; omega
theorem mcTyR (vs:List (List UInt8)):∀ l:List TyE,mcR (tvR (TyE.tyL vs l))≤3 * TyE.szL l
 | []=>by rw [TyE.tyL,tvR,mcR]; omega
 | t :: l=>by have:=mcTyT vs t; have:=mcTyR vs l; rw [TyE.tyL,tvR,mcR,TyE.szL]; omega
end
theorem tvR_mem {l : List TyD} {r : List TV} (h : r ∈ tvR l) : ∃ t ∈ l, r = tvT t ∧ mcC r ≤ mcR (tvR l) := by
  induction l with
  | nil => rw [tvR] at h; cases h
  | cons t l ih =>
    rw [tvR] at h
    rcases List.mem_cons.1 h with rfl | h
    · exact ⟨t, by simp, rfl, by rw [tvR, mcR]; omega⟩
    · obtain ⟨u, h1, h2, h3⟩ := ih h
      exact ⟨u, by simp [h1], h2, by rw [tvR, mcR]; omega⟩
theorem tvR_len (l : List TyD) : 3 * (tvR l).length ≤ mcR (tvR l) := by
  induction l with
  | nil => rw [tvR, mcR]; simp
  | cons t l ih =>
    obtain ⟨K, N, S, ks⟩ := t
    rw [tvR, mcR, tvT]
    simp only [mcC, mcT, List.length_cons]
    omega
theorem markTyD : ∀ (m : Nat) (l : List TyD), mcR (tvR l) < m → mcR (tvR l) ≤ 3145728 → MarkC Tryz.prog 78 4 (tvR l) ∧ HeldC Tryz.prog 79 4 (tvR l) := by
  intro m
  induction m with
  | zero => intro l h; omega
  | succ m ih =>
    intro l h hb
    have key : ∀ r ∈ tvR l, ∃ K N S ks, r = tvT (.mk K N S ks) ∧ mcR (tvR ks) < m ∧ mcR (tvR ks) ≤ 3145728 ∧ (tvR ks).length ≤ 1048576 := fun r hr => by
      obtain ⟨⟨K, N, S, ks⟩, _, rfl, h3⟩ := tvR_mem hr
      rw [tvT] at h3
      simp only [mcC, mcT] at h3
      have := tvR_len ks
      exact ⟨K, N, S, ks, rfl, by omega, by omega, by omega⟩
    refine ⟨mark_TyS fun r hr => ?_, held_TyS fun r hr => ?_⟩
    · obtain ⟨K, N, S, ks, rfl, h1, h2, h3⟩ := key r hr
      exact ⟨K, N, S, tvR ks, by rw [tvT], (ih ks h1 h2).1, h3⟩
    · obtain ⟨K, N, S, ks, rfl, h1, h2, h3⟩ := key r hr
      exact ⟨K, N, S, tvR ks, by rw [tvT], (ih ks h1 h2).2, h3⟩
theorem rowTV_eq (vs:List (List UInt8)) (c:CtorD) (hc:c.sz≤1048576):∃ K N S ks,rowTV vs c=[.p (.s c.name),.p (.b c.has),.p (.i .i64 K),.p (.i .i64 N),.p (.s S),.s 4 (tvR ks)]∧mcR (tvR ks)≤3145728∧mcC (rowTV vs c)≤5+3 * c.sz:=by
 obtain ⟨cn,ch,t,cp⟩:=c
 rw [CtorD.sz] at hc ⊢
 simp only at hc ⊢
 cases ch
 ·refine ⟨0,0,[],[],by rw [tvR]; rfl,by rw [tvR,mcR]; omega,?_⟩
  simp [rowTV,mcC,mcT,mcR]
 ·have h:=mcTyT vs t
  generalize hT:t.ty vs=T at h
  obtain ⟨K,N,S,ks⟩:=T
  have e:rowTV vs ⟨cn,true,t,cp⟩=[.p (.s cn),.p (.b true),.p (.i .i64 K),.p (.i .i64 N),.p (.s S),.s 4 (tvR ks)]:=by
   simp only [rowTV,if_true,hT,tvT]; rfl
  rw [tvT] at h
  simp only [mcC,mcT] at h
  refine ⟨K,N,S,ks,e,by omega,?_⟩
  rw [e]
  simp only [mcC,mcT]
  omega
theorem mcRows (vs : List (List UInt8)) (l : List CtorD) (hb : sumSz CtorD.sz l ≤ 1048576) : mcR (l.map (rowTV vs)) ≤ 5 * sumSz CtorD.sz l := by
  induction l with
  | nil => simp [mcR]
  | cons c l ih =>
    simp only [sumSz] at hb
    obtain ⟨_, _, _, _, _, _, h⟩ := rowTV_eq vs c (by omega)
    have := ih (by omega)
    simp only [List.map_cons, mcR, sumSz]
    omega
theorem markRows (vs:List (List UInt8)) (l:List CtorD) (hb:sumSz CtorD.sz l≤1048576):MarkC Tryz.prog 41 6 (l.map (rowTV vs))∧HeldC Tryz.prog 42 6 (l.map (rowTV vs)):=by
 have key:∀ r∈l.map (rowTV vs),∃ n b K N S ks,r=[.p (.s n),.p (.b b),.p (.i .i64 K),.p (.i .i64 N),.p (.s S),.s 4 (tvR ks)]∧mcR (tvR ks)≤3145728∧(tvR ks).length≤1048576:=fun r hr=>by
  obtain ⟨c,hc,rfl⟩:=List.mem_map.1 hr
  have hm:=sumSz_mem CtorD.sz hc
  obtain ⟨K,N,S,ks,e,h1,_⟩:=rowTV_eq vs c (by omega)
  have:=tvR_len ks
  exact ⟨_,_,K,N,S,ks,e,h1,by omega⟩
 refine ⟨mark_CtorInfoS fun r hr=>?_,held_CtorInfoS fun r hr=>?_⟩
 ·obtain ⟨n,b,K,N,S,ks,e,h1,h2⟩:=key r hr
  exact ⟨n,b,K,N,S,tvR ks,e,(markTyD _ ks (Nat.lt_succ_self _) h1).1,h2⟩
 ·obtain ⟨n,b,K,N,S,ks,e,h1,h2⟩:=key r hr
  exact ⟨n,b,K,N,S,tvR ks,e,(markTyD _ ks (Nat.lt_succ_self _) h1).2,h2⟩
theorem mcDataRows (l : List DataD) (hb : sumSz DataD.sz l ≤ 1048576) : mcR (l.map dataTV) ≤ 5 * sumSz DataD.sz l := by
  induction l with
  | nil => simp [mcR]
  | cons d l ih =>
    simp only [sumSz] at hb
    have := ih (by omega)
    have hd : d.sz = d.name.length + namesSz d.vars + ctorsSz d.ctors := rfl
    rw [ctorsSz_eq] at hd
    have := mcRows d.vars d.ctors (by omega)
    simp only [List.map_cons, mcR, dataTV, mcC, mcT, sumSz]
    omega
theorem markTable (g:ProgD) (hb:g.sz≤1048576):MarkC Tryz.prog 15 3 (tabTV g)∧HeldC Tryz.prog 16 3 (tabTV g)∧mcR (tabTV g)≤5242880∧(tabTV g).length≤1048576:=by
 rw [ProgD.sz,datasSz_eq] at hb
 have htl:=sumSz_len DataD.sz g.types
 have hm:=mcDataRows g.types (by omega)
 have key:∀ r∈tabTV g,∃ n V rows,r=[.p (.s n),.p (.i .i64 V),.s 6 rows]∧(MarkC Tryz.prog 41 6 rows∧HeldC Tryz.prog 42 6 rows)∧rows.length≤1048576:=fun r hr=>by
  unfold tabTV at hr
  split at hr
  ·obtain ⟨d,hd,rfl⟩:=List.mem_map.1 hr
   have h1:=sumSz_mem DataD.sz hd
   have h2:d.sz=d.name.length+namesSz d.vars+ctorsSz d.ctors:=rfl
   rw [ctorsSz_eq] at h2
   have h3:=sumSz_len CtorD.sz d.ctors
   exact ⟨_,_,_,rfl,markRows d.vars d.ctors (by omega),by rw [List.length_map]; omega⟩
  ·cases hr
 refine ⟨mark_DataInfoS fun r hr=>?_,held_DataInfoS fun r hr=>?_,?_,?_⟩
 ·obtain ⟨n,V,rows,e,h1,h2⟩:=key r hr
  exact ⟨n,V,rows,e,h1.1,h2⟩
 ·obtain ⟨n,V,rows,e,h1,h2⟩:=key r hr
  exact ⟨n,V,rows,e,h1.2,h2⟩
 ·unfold tabTV; split
  ·omega
  ·rw [mcR]; omega
 ·unfold tabTV; split
  ·rw [List.length_map]; omega
  ·simp
mutual
theorem pvT (t:TyD):TV.pvC (tvT t)=t.cells:=by
 match t with
 | .mk K N S ks=>rw [tvT,TyD.cells]; simp only [TV.pvC,TV.pv,pvTR ks]
theorem pvTR (l:List TyD):TV.pvR (tvR l)=TyD.cellsL l:=by
 match l with
 | []=>rw [tvR,TV.pvR,TyD.cellsL]
 | t :: l=>rw [tvR,TV.pvR,TyD.cellsL,pvT t,pvTR l]
end
theorem pvRow (vs:List (List UInt8)) (c:CtorD):TV.pvC (rowTV vs c)=(c.info vs).cells:=by
 obtain ⟨cn,ch,t,cp⟩:=c
 cases ch
 ·simp [rowTV,TV.pvC,TV.pv,TV.pvR,CtorD.info,InfoC.cells,tyZ,TyD.cells,TyD.cellsL]
 ·have h:=pvT (t.ty vs)
  simp [rowTV,TV.pvC,TV.pv,CtorD.info,InfoC.cells,h]
theorem pvRows (vs:List (List UInt8)) (l:List CtorD):TV.pvR (l.map (rowTV vs))=(l.map (CtorD.info vs)).map InfoC.cells:=by
 induction l with
 | nil=>rfl
 | cons c l ih=>rw [List.map_cons,TV.pvR,ih,pvRow]; rfl
theorem pvDatas (l : List DataD) : TV.pvR (l.map dataTV) = (l.map DataD.info).map InfoD.cells := by
  induction l with
  | nil => rfl
  | cons d l ih =>
    rw [List.map_cons, TV.pvR, ih]
    simp only [dataTV, TV.pvC, TV.pv, pvRows]
    rfl
theorem pvTab (g:ProgD):(TV.s 3 (tabTV g)).pv=.l ((tableR g).1.map InfoD.cells):=by
 rw [TV.pv]
 congr 1
 unfold tabTV tableR
 cases g.ok
 ·rfl
 ·by_cases h:(tableF g.types).1=0
  ·simp only [Bool.true_and,dT h,if_true,if_pos h]
   exact pvDatas g.types
  ·simp only [Bool.true_and,dF h,Bool.false_eq_true,if_false,if_true,if_neg h]
   rfl
mutual
theorem grTy (t:TyD):GrC (tvT t):=by
 match t with
 | .mk K N S ks=>rw [tvT]; simp only [GrC,GrT]; exact ⟨grnd_i _ _,grnd_i _ _,grnd_s _,grTyR ks,trivial⟩
theorem grTyR (l:List TyD):GrR (tvR l):=by
 match l with
 | []=>rw [tvR,GrR]; trivial
 | t :: l=>rw [tvR,GrR]; exact ⟨grTy t,grTyR l⟩
end
theorem grRow (vs:List (List UInt8)) (c:CtorD):GrC (rowTV vs c):=by
 obtain ⟨cn,ch,t,cp⟩:=c
 cases ch
 ·simp only [rowTV,Bool.false_eq_true,if_false,List.cons_append,List.nil_append,GrC,GrT,GrR]
  exact ⟨grnd_s _,grnd_b _,grnd_i _ _,grnd_i _ _,grnd_s _,trivial,trivial⟩
 ·simp only [rowTV,if_true,List.cons_append,List.nil_append,GrC,GrT]
  exact ⟨grnd_s _,grnd_b _,grTy _⟩
theorem grRows (vs:List (List UInt8)) (l:List CtorD):GrR (l.map (rowTV vs)):=by
 induction l with
 | nil=>rw [List.map_nil,GrR]; trivial
 | cons c l ih=>rw [List.map_cons,GrR]; exact ⟨grRow vs c,ih⟩
theorem grDatas (l : List DataD) : GrR (l.map dataTV) := by
  induction l with
  | nil => rw [List.map_nil, GrR]; trivial
  | cons d l ih =>
    rw [List.map_cons, GrR]
    refine ⟨?_, ih⟩
    simp only [dataTV, GrC, GrT]
    exact ⟨grnd_s _, grnd_i _ _, grRows _ _, trivial⟩
theorem grTab (g:ProgD):GrT (.s 3 (tabTV g)):=by
 rw [GrT]
 unfold tabTV
 split
 ·exact grDatas _
 ·rw [GrR]; trivial
/-! a program that is owned, as data -/
mutual
theorem pvTyE (t:TyE):TV.pvC t.tv=t.cells:=by
 match t with
 | .mk k n p ks=>rw [TyE.tv,TyE.cells]; simp only [TV.pvC,TV.pv,pvTyL ks]
theorem pvTyL (l:List TyE):TV.pvR (TyE.tvL l)=TyE.cellsL l:=by
 match l with
 | []=>rw [TyE.tvL,TV.pvR,TyE.cellsL]
 | t :: l=>rw [TyE.tvL,TV.pvR,TyE.cellsL,pvTyE t,pvTyL l]
end
mutual
theorem pvPat (t:PatD):TV.pvC t.tv=t.cells:=by
 match t with
 | .mk k n u p ks=>rw [PatD.tv,PatD.cells]; simp only [TV.pvC,TV.pv,pvPatL ks]
theorem pvPatL (l:List PatD):TV.pvR (PatD.tvL l)=PatD.cellsL l:=by
 match l with
 | []=>rw [PatD.tvL,TV.pvR,PatD.cellsL]
 | t :: l=>rw [PatD.tvL,TV.pvR,PatD.cellsL,pvPat t,pvPatL l]
end
theorem pvC_app (a b:List TV):TV.pvC (a++b)=TV.pvC a++TV.pvC b:=by
 induction a with
 | nil=>rw [TV.pvC]; rfl
 | cons t a ih=>rw [List.cons_append,TV.pvC,TV.pvC,ih]; rfl
mutual
theorem pvExp (t:ExpD):TV.pvC t.tv=t.cells:=by
 match t with
 | .mk k n u x p ks as'=>rw [ExpD.tv,ExpD.cells]; simp only [TV.pvC,TV.pv,pvExpL ks,pvExpA as']
theorem pvExpL (l:List ExpD):TV.pvR (ExpD.tvL l)=ExpD.cellsL l:=by
 match l with
 | []=>rw [ExpD.tvL,TV.pvR,ExpD.cellsL]
 | t :: l=>rw [ExpD.tvL,TV.pvR,ExpD.cellsL,pvExp t,pvExpL l]
theorem pvArm (t:ArmD):TV.pvC t.tv=t.cells:=by
 match t with
 | .mk p e=>rw [ArmD.tv,ArmD.cells,pvC_app,pvPat,pvExp e]
theorem pvExpA (l:List ArmD):TV.pvR (ExpD.tvA l)=ExpD.cellsA l:=by
 match l with
 | []=>rw [ExpD.tvA,TV.pvR,ExpD.cellsA]
 | t :: l=>rw [ExpD.tvA,TV.pvR,ExpD.cellsA,pvArm t,pvExpA l]
end
theorem pvNames (l:List (List UInt8)):TV.pvR (namesTV l)=namesC l:=by
 unfold namesTV namesC
 induction l with
 | nil=>rfl
 | cons s l ih=>rw [List.map_cons,TV.pvR,ih]; simp only [TV.pvC,TV.pv]; rfl
theorem pvCtors (l:List CtorD):TV.pvR (l.map CtorD.tv)=l.map CtorD.cells:=by
 induction l with
 | nil=>rfl
 | cons c l ih=>rw [List.map_cons,TV.pvR,ih,CtorD.tv,pvC_app,pvC_app,pvTyE]; simp only [TV.pvC,TV.pv]; rfl
theorem pvDataL (l:List DataD):TV.pvR (l.map DataD.tv)=l.map DataD.cells:=by
 induction l with
 | nil=>rfl
 | cons d l ih=>rw [List.map_cons,TV.pvR,ih]; simp only [DataD.tv,TV.pvC,TV.pv,pvNames,pvCtors]; rfl
theorem pvProg (g:ProgD):TV.pvC g.tv=g.cells:=by
 rw [ProgD.tv,TV.pvC,TV.pv,pvDataL,pvExp]; rfl
theorem lentProg {g:ProgD} {H:List AO} {cs:List AV} {ids:List Nat} (h:OwnCs H g.tv cs ids):Lent H (.st cs) (av g.cells):=by
 refine .st _ _ ?_ fun j a b ha hb=>?_
 ·rw [h.len,List.length_map,← pvProg,pvC_len]
 ·rw [List.getElem?_map,← pvProg] at hb
  cases hq:(TV.pvC g.tv)[j]? with
  | none=>rw [hq] at hb; cases hb
  | some q=>rw [hq] at hb; cases hb; exact h.lentC j a q ha hq
end Go.Proofs.YtnelfbcgplooiaaGreat.Pg
/- The reference's finders of words; its many. -/
set_option linter.all false
namespace Go.Proofs.YtnelfbcgplooiaaGreat.Pg
open Go.AM Mc
theorem l5FindC (l : List (List UInt8)) (s : List UInt8) (H : List AO) : ACall Tryz.prog 27 [.p (.l (namesC l)), .p (.s s)] H (pureQ (.p (.i .i64 (idxI l s))) H) := by
  refine call27 (by simp) ?_
  simp only [go_sem, reduceIte, ↓reduceIte, sevalprocAttr, Z0, Z1, bytesOf, mc27, mr27]
  refine ⟨Nat, [0, 1, 5], fun x st => (x ≤ l.length ∧ idxI l s = match idx s (l.drop x) with | .none => -1 | some k => ((x + k : Nat) : Int)) ∧ st = ⟨[(0, .p (.l (namesC l))), (1, .p (.s s)), (5, .p (.i .i64 x))], [], H⟩, fun x => l.length - x, ⟨0, ?_⟩, ?_⟩
  · simp only [go_sem, reduceIte, ↓reduceIte, sevalprocAttr, Z0, Z1, bytesOf, List.drop_zero]
    refine ⟨Nat.zero_le _, ?_⟩
    unfold idxI
    cases idx s l <;> simp
  · rintro x _ ⟨⟨hx, hv⟩, rfl⟩
    simp only [go_sem, reduceIte, ↓reduceIte, sevalprocAttr, Z0, Z1, bytesOf, namesC_len]
    intro hl
    rw [maxLe] at hl
    by_cases hlt : x < l.length
    · have d1 : decide ((x : Int) < (l.length : Int)) = true := by simp; omega
      have ex := wrN x (by omega)
      have hlt' : ((x : Int) < (l.length : Int)) := by omega
      rw [List.drop_eq_getElem_cons hlt, idx] at hv
      simp only [go_sem, reduceIte, ↓reduceIte, sevalprocAttr, Z0, Z1, bytesOf, d1, hlt', namesC_get _ hlt, namesC_len]
      by_cases he : l[x] = s
      · rw [if_pos he] at hv
        have d2 : decide (l[x] = s) = true := by simp [he]
        simp only [go_sem, reduceIte, ↓reduceIte, sevalprocAttr, Z0, Z1, bytesOf, d2]
        rw [hv]
        exact ⟨by simp, rfl⟩
      · rw [if_neg he] at hv
        have d2 : decide (l[x] = s) = false := by simp [he]
        simp only [go_sem, reduceIte, ↓reduceIte, sevalprocAttr, Z0, Z1, bytesOf, d2, ex]
        refine ⟨x + 1, ⟨⟨by omega, ?_⟩, rfl⟩, by omega⟩
        rw [hv]
        cases idx s (l.drop (x + 1)) with
        | none => rfl
        | some k =>
          show ((x + (k + 1) : Nat) : Int) = ((x + 1 + k : Nat) : Int)
          rw [show x + (k + 1) = x + 1 + k by omega]
    · have : x = l.length := by omega
      subst this
      have d1 : decide ((l.length : Int) < (l.length : Int)) = false := by simp
      rw [List.drop_length] at hv
      simp only [go_sem, reduceIte, ↓reduceIte, sevalprocAttr, Z0, Z1, bytesOf, d1]
      rw [hv]
      exact ⟨rfl, rfl⟩
theorem l5FindO {l:List (List UInt8)} {s:List UInt8} {H:List AO} {j ver:Nat} (hj:H[j]?=some (.rows 1 ver (nmR l))):ACall Tryz.prog 27 [.gs j ver 0 l.length,.p (.s s)] H (pureQ (.p (.i .i64 (idxI l s))) H):=by
 rw [← nmR_eq] at hj
 refine acall_lendP (l5FindC l s) (grnd_i _ _) (lentAll_cons ?_ (lentAll_cons (.pure _) (lentAll_nil _)))
 have:=lent_rows (l:=namesC l) hj (by intro y hy; simp [namesC] at hy; obtain ⟨a,_,rfl⟩:=hy; rfl)
 rwa [namesC_len] at this
def builtI (s:List UInt8):Int:=match idx s fourL with | .none=>0 | some k=>((k+1:Nat):Int)
theorem l5BuiltC (s : List UInt8) (H : List AO) : ACall Tryz.prog 65 [.p (.s s)] H (pureQ (.p (.i .i64 (builtI s))) H) := by
  refine acall_drop1 ?_ (tf_p _)
  refine call65 (by simp) ?_
  have hL : (H ++ [AO.rows 1 0 (fourL.map fun x => [.p (.s x)])])[H.length]? = some (.rows 1 0 (fourL.map fun x => [.p (.s x)])) := by rw [get_off0]; rfl
  simp only [go_sem, reduceIte, ↓reduceIte, sevalprocAttr, Z0, Z1, bytesOf, mc65, mr65]
  refine ⟨Nat, [0, 3, 4], fun x st => (x ≤ 4 ∧ builtI s = match idx s (fourL.drop x) with | .none => 0 | some k => ((x + k + 1 : Nat) : Int)) ∧ st = ⟨[(0, .p (.s s)), (3, .gs H.length 0 0 4), (4, .p (.i .i64 x))], [], H ++ [.rows 1 0 (fourL.map fun x => [.p (.s x)])]⟩, fun x => 4 - x, ⟨0, ?_⟩, ?_⟩
  · simp only [go_sem, reduceIte, ↓reduceIte, sevalprocAttr, Z0, Z1, bytesOf, List.drop_zero]
    refine ⟨?_, rfl⟩
    unfold builtI
    cases idx s fourL <;> simp
  · rintro x _ ⟨⟨hx, hv⟩, rfl⟩
    have hkl : fourL.length = 4 := rfl
    by_cases hlt : x < 4
    · have d1 : decide ((x : Int) < (4 : Int)) = true := by simp; omega
      have hlt' : ((x : Int) < (4 : Int)) := by omega
      have ex := wrN x (by omega)
      have hg : (fourL.map fun x => [AV.p (.s x)])[x]? = some [.p (.s (fourL[x]'hlt))] := by
        rw [List.getElem?_map, List.getElem?_eq_getElem hlt]; rfl
      rw [List.drop_eq_getElem_cons hlt, idx] at hv
      simp only [go_sem, reduceIte, ↓reduceIte, sevalprocAttr, Z0, Z1, bytesOf, d1, hL, hg, hlt']
      intros
      by_cases he : fourL[x]'hlt = s
      · rw [if_pos he] at hv
        have d2 : decide (fourL[x]'hlt = s) = true := by simp [he]
        simp only [go_sem, reduceIte, ↓reduceIte, sevalprocAttr, Z0, Z1, bytesOf, d2, ex]
        rw [hv]
        exact ⟨rfl, _, rfl⟩
      · rw [if_neg he] at hv
        have d2 : decide (fourL[x]'hlt = s) = false := by simp [he]
        simp only [go_sem, reduceIte, ↓reduceIte, sevalprocAttr, Z0, Z1, bytesOf, d2, ex]
        refine ⟨x + 1, ⟨⟨by omega, ?_⟩, rfl⟩, by omega⟩
        rw [hv]
        cases idx s (fourL.drop (x + 1)) with
        | none => rfl
        | some k =>
          show ((x + (k + 1) + 1 : Nat) : Int) = ((x + 1 + k + 1 : Nat) : Int)
          rw [show x + (k + 1) + 1 = x + 1 + k + 1 by omega]
    · have : x = 4 := by omega
      subst this
      have d1 : decide (((4 : Nat) : Int) < (4 : Int)) = false := by decide
      rw [show fourL.drop 4 = [] from rfl] at hv
      simp only [go_sem, reduceIte, ↓reduceIte, sevalprocAttr, Z0, Z1, bytesOf, d1]
      intros
      rw [hv]
      exact ⟨rfl, _, rfl⟩
theorem l5DataC (g : ProgD) (s : List UInt8) (H : List AO) : ACall Tryz.prog 66 [av g.cells, .p (.s s)] H (pureQ (.p (.i .i64 (idxI (g.types.map DataD.name) s))) H) := by
  obtain ⟨ts, ⟨k, n, u, t, p, ks, as'⟩⟩ := g
  simp only
  refine acall_drop1 ?_ (tf_p _)
  refine call66 (by simp) ?_
  have hb : (H ++ [AO.var [.p (.l (ts.map DataD.cells)), .p (.i .i64 k), .p (.s n), .p (.i .i64 u), .p (.s t), .p (.i .i64 p), .p (.l (ExpD.cellsL ks)), .p (.l (ExpD.cellsA as'))]])[H.length]? = some (.var [.p (.l (ts.map DataD.cells)), .p (.i .i64 k), .p (.s n), .p (.i .i64 u), .p (.s t), .p (.i .i64 p), .p (.l (ExpD.cellsL ks)), .p (.l (ExpD.cellsA as'))]) := by rw [get_off0]; rfl
  have hH : ∃ G, (H ++ [AO.var [.p (.l (ts.map DataD.cells)), .p (.i .i64 k), .p (.s n), .p (.i .i64 u), .p (.s t), .p (.i .i64 p), .p (.l (ExpD.cellsL ks)), .p (.l (ExpD.cellsA as'))]]) = H ++ G := ⟨_, rfl⟩
  simp only [go_sem, reduceIte, ↓reduceIte, sevalprocAttr, Z0, Z1, bytesOf, mc66, mr66, ProgD.cells, ExpD.cells]
  generalize H ++ [AO.var [.p (.l (ts.map DataD.cells)), .p (.i .i64 k), .p (.s n), .p (.i .i64 u), .p (.s t), .p (.i .i64 p), .p (.l (ExpD.cellsL ks)), .p (.l (ExpD.cellsA as'))]] = H1 at hb hH ⊢
  refine ⟨Nat, [1, 2, 5], fun x st => (x ≤ ts.length ∧ idxI (ts.map DataD.name) s = match idx s ((ts.map DataD.name).drop x) with | .none => -1 | some k => ((x + k : Nat) : Int)) ∧ st = ⟨[(1, .p (.s s)), (2, .ptr H.length 0), (5, .p (.i .i64 x))], [], H1⟩, fun x => ts.length - x, ⟨0, ?_⟩, ?_⟩
  · simp only [go_sem, reduceIte, ↓reduceIte, sevalprocAttr, Z0, Z1, bytesOf, List.drop_zero]
    refine ⟨Nat.zero_le _, ?_⟩
    unfold idxI
    cases idx s (ts.map DataD.name) <;> simp
  · rintro x _ ⟨⟨hx, hv⟩, rfl⟩
    simp only [go_sem, reduceIte, ↓reduceIte, sevalprocAttr, Z0, Z1, bytesOf, hb, List.length_map]
    intro hl
    rw [maxLe] at hl
    by_cases hlt : x < ts.length
    · have d1 : decide ((x : Int) < (ts.length : Int)) = true := by simp; omega
      have ex := wrN x (by omega)
      have hlt' : ((x : Int) < (ts.length : Int)) := by omega
      have hg : (ts.map DataD.cells)[x]? = some (DataD.cells ts[x]) := by simp [hlt]
      rw [List.drop_eq_getElem_cons (by simpa using hlt), idx, List.getElem_map] at hv
      generalize ts[x] = d at hg hv
      obtain ⟨dn, vs, cs, dp⟩ := d
      simp only at hv
      simp only [go_sem, reduceIte, ↓reduceIte, sevalprocAttr, Z0, Z1, bytesOf, d1, hlt', hg, hb, List.length_map, DataD.cells]
      by_cases he : dn = s
      · rw [if_pos he] at hv
        have d2 : decide (dn = s) = true := by simp [he]
        simp only [go_sem, reduceIte, ↓reduceIte, sevalprocAttr, Z0, Z1, bytesOf, d2]
        rw [hv]
        exact ⟨by simp, hH⟩
      · rw [if_neg he] at hv
        have d2 : decide (dn = s) = false := by simp [he]
        simp only [go_sem, reduceIte, ↓reduceIte, sevalprocAttr, Z0, Z1, bytesOf, d2, ex]
        refine ⟨x + 1, ⟨⟨by omega, ?_⟩, rfl⟩, by omega⟩
        rw [hv]
        cases idx s ((ts.map DataD.name).drop (x + 1)) with
        | none => rfl
        | some k =>
          show ((x + (k + 1) : Nat) : Int) = ((x + 1 + k : Nat) : Int)
          rw [show x + (k + 1) = x + 1 + k by omega]
    · have : x = ts.length := by omega
      subst this
      have d1 : decide ((ts.length : Int) < (ts.length : Int)) = false := by simp
      rw [show (ts.map DataD.name).drop ts.length = [] by simp] at hv
      simp only [go_sem, reduceIte, ↓reduceIte, sevalprocAttr, Z0, Z1, bytesOf, d1]
      rw [hv]
      exact ⟨rfl, hH⟩
end Go.Proofs.YtnelfbcgplooiaaGreat.Pg
/- The reference's first look at datatypes: too many, names that are taken. -/
set_option linter.all false
namespace Go.Proofs.YtnelfbcgplooiaaGreat.Pg
open Go.AM Mc
theorem builtPos (s : List UInt8) : decide (0 < builtI s) = decide (s ∈ fourL) := by
  unfold builtI
  cases h : idx s fourL with
  | none => simp [idx_none.1 h]
  | some k =>
    have : s ∈ fourL := List.mem_of_getElem? (idx_some h).1
    simp only [this, decide_true]
    exact decide_eq_true (by omega)
theorem idx_mem {s:List UInt8} {l:List (List UInt8)} (h:s∈l):∃ k,idx s l=some k:=by
 cases hi:idx s l with
 | none=>exact (idx_none.1 hi h).elim
 | some k=>exact ⟨k,rfl⟩
theorem idxLt {l:List (List UInt8)} {x:Nat} {s:List UInt8} (h:l[x]?=some s):decide (idxI l s<(x:Int))=decide (s∈l.take x):=by
 obtain ⟨k,hk⟩:=idx_mem (List.mem_of_getElem? h)
 obtain ⟨h1,h2⟩:=idx_some hk
 unfold idxI
 rw [hk,decide_eq_decide]
 constructor
 ·intro hlt
  have hlt':k<x:=by simpa using hlt
  have:(l.take x)[k]?=some s:=by rw [List.getElem?_take_of_lt hlt']; exact h1
  exact List.mem_of_getElem? this
 ·intro hm
  obtain ⟨i,hi,he⟩:=List.mem_iff_getElem.1 hm
  rw [List.length_take] at hi
  have:l[i]?=some s:=by
   have:=List.getElem?_eq_getElem (l:=l.take x) (i:=i) (by rw [List.length_take]; exact hi)
   rw [List.getElem?_take_of_lt (by omega)] at this
   rw [this,he]
  have hik:¬ i<k:=fun hl=>h2 i hl this
  show (k:Int)<(x:Int)
  omega
theorem l5ManyC (g : ProgD) (H : List AO) : ACall Tryz.prog 26 [av g.cells] H (pureQ (av (Ft.cells (firstF (manyF 0 g.types) (typesF [] g.types)))) H) := by
  have hgc : ∃ b0 b1 b2 b3 b4 b5 b6, g.body.cells = [b0, b1, b2, b3, b4, b5, b6] := by
    obtain ⟨ts, ⟨k, n, u, t, p, ks, as'⟩⟩ := g
    exact ⟨_, _, _, _, _, _, _, rfl⟩
  obtain ⟨b0, b1, b2, b3, b4, b5, b6, hgc⟩ := hgc
  have hgg : g.cells = [.l (g.types.map DataD.cells), b0, b1, b2, b3, b4, b5, b6] := by rw [ProgD.cells, hgc]
  have hdat := l5DataC g
  rw [hgg] at hdat
  rw [hgg]
  generalize g.types = ts at hdat ⊢
  refine acall_drop1 ?_ (tf_av _)
  refine call26 (by simp) ?_
  have hb0 : (H ++ [AO.var [.p (.l (ts.map DataD.cells)), .p b0, .p b1, .p b2, .p b3, .p b4, .p b5, .p b6], AO.var [.p (.i .i64 0), .p (.i .i64 0)]])[H.length]? = some (AO.var [.p (.l (ts.map DataD.cells)), .p b0, .p b1, .p b2, .p b3, .p b4, .p b5, .p b6]) := by rw [get_off0]; rfl
  have hb1 : (H ++ [AO.var [.p (.l (ts.map DataD.cells)), .p b0, .p b1, .p b2, .p b3, .p b4, .p b5, .p b6], AO.var [.p (.i .i64 0), .p (.i .i64 0)]])[H.length + 1]? = some (AO.var [.p (.i .i64 0), .p (.i .i64 0)]) := by rw [get_off]; rfl
  have hH : ∃ G, (H ++ [AO.var [.p (.l (ts.map DataD.cells)), .p b0, .p b1, .p b2, .p b3, .p b4, .p b5, .p b6], AO.var [.p (.i .i64 0), .p (.i .i64 0)]]) = H ++ G := ⟨_, rfl⟩
  simp only [go_sem, reduceIte, ↓reduceIte, sevalprocAttr, Z0, Z1, bytesOf, mc26, mr26]
  generalize H ++ [AO.var [.p (.l (ts.map DataD.cells)), .p b0, .p b1, .p b2, .p b3, .p b4, .p b5, .p b6], AO.var [.p (.i .i64 0), .p (.i .i64 0)]] = H1 at hb0 hb1 hH ⊢
  refine ⟨Nat, [1, 2, 3], fun x st => (x ≤ ts.length ∧ manyF 0 ts = manyF x (ts.drop x)) ∧ st = ⟨[(1, .ptr H.length 0), (2, .ptr (H.length + 1) 0), (3, .p (.i .i64 x))], [], H1⟩, fun x => ts.length - x, ⟨0, ?_⟩, ?_⟩
  · simp only [go_sem, reduceIte, ↓reduceIte, sevalprocAttr, Z0, Z1, bytesOf, List.drop_zero]
    exact Nat.zero_le _
  rintro x _ ⟨⟨hx, hn⟩, rfl⟩
  simp only [go_sem, reduceIte, ↓reduceIte, sevalprocAttr, Z0, Z1, bytesOf, hb0, List.length_map]
  intro hl
  rw [maxLe] at hl
  by_cases hlt : x < ts.length
  · have d1 : decide ((x : Int) < (ts.length : Int)) = true := by simp; omega
    have hlt' : ((x : Int) < (ts.length : Int)) := by omega
    have ex := wrN x (by omega)
    have hg : (ts.map DataD.cells)[x]? = some (DataD.cells ts[x]) := by simp [hlt]
    rw [manyF_step hlt] at hn
    generalize ts[x] = d at hg hn
    obtain ⟨dn, vs, cs, dp⟩ := d
    have d12 : decide ((x : Int) = 12) = decide (x = 12) := by rw [decide_eq_decide]; omega
    have d16 : decide ((16 : Int) < (cs.length : Int)) = decide (16 < cs.length) := by rw [decide_eq_decide]; omega
    simp only at hn
    simp only [go_sem, reduceIte, ↓reduceIte, sevalprocAttr, Z0, Z1, bytesOf, d1, d12]
    cases h12 : decide (x = 12)
    case true =>
      rw [if_pos (of_decide_eq_true h12)] at hn
      rw [hn, firstF_ne (by simp)]
      simp only [go_sem, reduceIte, ↓reduceIte, sevalprocAttr, Z0, Z1, bytesOf, h12, hb0, hb1, hlt', hg, DataD.cells, List.length_map]
      rw [set_get hb1]
      simp only [go_sem, reduceIte, ↓reduceIte, sevalprocAttr, Z0, Z1, bytesOf, Ft.cells]
      exact ⟨rfl, set_far hH (by omega) _⟩
    rw [if_neg (of_decide_eq_false h12)] at hn
    simp only [go_sem, reduceIte, ↓reduceIte, sevalprocAttr, Z0, Z1, bytesOf, h12, hb0, hb1, hlt', hg, DataD.cells, List.length_map, d16]
    intro hl2
    cases h16 : decide (16 < cs.length)
    · have e16 : cs[16]? = .none := List.getElem?_eq_none (by have := of_decide_eq_false h16; omega)
      rw [e16] at hn
      simp only [go_sem, reduceIte, ↓reduceIte, sevalprocAttr, Z0, Z1, bytesOf, h16, ex]
      exact ⟨x + 1, ⟨⟨by omega, hn⟩, rfl⟩, by omega⟩
    · have h16' := of_decide_eq_true h16
      have e16 : cs[16]? = some cs[16] := List.getElem?_eq_getElem h16'
      have e16' : (cs.map CtorD.cells)[16]? = some (CtorD.cells cs[16]) := by simp [h16']
      have l16 : ((16 : Int) < (cs.length : Int)) := by omega
      rw [e16] at hn
      generalize cs[16] = c at hn e16'
      obtain ⟨cn, ch, ⟨ak, an, ap, aks⟩, cp⟩ := c
      simp only at hn
      rw [hn, firstF_ne (by simp)]
      simp only [go_sem, reduceIte, ↓reduceIte, sevalprocAttr, Z0, Z1, bytesOf, h16, l16, e16', hb0, hb1, hlt', hg, DataD.cells, CtorD.cells, TyE.cells, List.length_map]
      rw [set_get hb1]
      simp only [go_sem, reduceIte, ↓reduceIte, sevalprocAttr, Z0, Z1, bytesOf, Ft.cells]
      exact ⟨rfl, set_far hH (by omega) _⟩
  have : x = ts.length := by omega
  subst this
  have d1 : decide ((ts.length : Int) < (ts.length : Int)) = false := by simp
  rw [List.drop_length, manyF] at hn
  simp only [go_sem, reduceIte, ↓reduceIte, sevalprocAttr, Z0, Z1, bytesOf, d1]
  rw [hn, firstF_z]
  refine ⟨Nat × List AO, [1, 2, 4], fun x st => (x.1 ≤ ts.length ∧ typesF [] (ts.take x.1) = (0, 0) ∧ x.2[H.length]? = some (AO.var [.p (.l (ts.map DataD.cells)), .p b0, .p b1, .p b2, .p b3, .p b4, .p b5, .p b6]) ∧ x.2[H.length + 1]? = some (AO.var [.p (.i .i64 0), .p (.i .i64 0)]) ∧ ∃ G, x.2 = H ++ G) ∧ st = ⟨[(1, .ptr H.length 0), (2, .ptr (H.length + 1) 0), (4, .p (.i .i64 x.1))], [], x.2⟩, fun x => ts.length - x.1, ⟨(0, H1), ?_⟩, ?_⟩
  · simp only [go_sem, reduceIte, ↓reduceIte, sevalprocAttr, Z0, Z1, bytesOf, List.take_zero, typesF]
    exact ⟨Nat.zero_le _, hb0, hb1, hH⟩
  rintro ⟨x, HG⟩ _ ⟨⟨hx, hn, g0, g1, hG⟩, rfl⟩
  simp only at hx hn g0 g1 hG
  simp only [go_sem, reduceIte, ↓reduceIte, sevalprocAttr, Z0, Z1, bytesOf, g0, List.length_map]
  intro hl
  rw [maxLe] at hl
  by_cases hlt : x < ts.length
  · have d1 : decide ((x : Int) < (ts.length : Int)) = true := by simp; omega
    have hlt' : ((x : Int) < (ts.length : Int)) := by omega
    have ex := wrN x (by omega)
    have hg : (ts.map DataD.cells)[x]? = some (DataD.cells ts[x]) := by simp [hlt]
    have hvf := typesF_step (ah := []) hlt
    rw [List.nil_append, hn, firstF_z] at hvf
    have hlt2 := idxLt (l := ts.map DataD.name) (x := x) (s := ts[x].name) (by simp [hlt])
    have hany : decide (ts[x].name ∈ (ts.map DataD.name).take x) = ((ts.take x).any fun y => decide (y.name = ts[x].name)) := by
      rw [← List.map_take]
      generalize ts[x].name = s
      generalize ts.take x = l
      induction l with
      | nil => simp
      | cons d l ih => simp only [List.map_cons, List.mem_cons, List.any_cons, Bool.decide_or, ih, eq_comm]
    rw [hany] at hlt2
    have hz : typesF [] (ts.take (x + 1)) ≠ (0, 0) → typesF [] ts = typesF [] (ts.take (x + 1)) := by
      intro hne
      have key : ∀ m, typesF [] (ts.take (x + 1 + m)) = typesF [] (ts.take (x + 1)) := by
        intro m
        induction m with
        | zero => rfl
        | succ m ih =>
          by_cases hm : x + 1 + m < ts.length
          · rw [← Nat.add_assoc, typesF_step hm, ih, firstF_ne (fun h => hne (typesF_z _ _ h))]
          · rw [← ih, List.take_of_length_le (by omega), List.take_of_length_le (by omega)]
      have := key ts.length
      rwa [List.take_of_length_le (by omega)] at this
    generalize ts[x] = d at hg hvf hlt2
    obtain ⟨dn, vs, cs, dp⟩ := d
    simp only at hvf hlt2
    have nx : (ts.take x).any (fun y => decide (y.name = dn)) = false → dn ∉ fourL → ∃ y : Nat × List AO, ((y.1 ≤ ts.length ∧ typesF [] (ts.take y.1) = (0, 0) ∧ y.2[H.length]? = some (AO.var [.p (.l (ts.map DataD.cells)), .p b0, .p b1, .p b2, .p b3, .p b4, .p b5, .p b6]) ∧ y.2[H.length + 1]? = some (AO.var [.p (.i .i64 0), .p (.i .i64 0)]) ∧ ∃ G, y.2 = H ++ G) ∧ (⟨[(1, .ptr H.length 0), (2, .ptr (H.length + 1) 0), (4, .p (.i .i64 ((x + 1 : Nat) : Int)))], [], HG⟩ : St) = ⟨[(1, .ptr H.length 0), (2, .ptr (H.length + 1) 0), (4, .p (.i .i64 y.1))], [], y.2⟩) ∧ ts.length - y.1 < ts.length - x := by
      intro ha hf
      rw [if_neg (by simp [ha, hf])] at hvf
      exact ⟨(x + 1, HG), ⟨⟨by simp only; omega, hvf, g0, g1, hG⟩, rfl⟩, by simp only; omega⟩
    simp only [go_sem, reduceIte, ↓reduceIte, sevalprocAttr, Z0, Z1, bytesOf, d1]
    refine drw_same ?_
    simp only [go_sem, reduceIte, ↓reduceIte, sevalprocAttr, Z0, Z1, bytesOf, g0, hlt', hg, DataD.cells, List.length_map]
    refine pcall_pure (fun A => l5BuiltC _ _) (Hext.refl _) ?_
    simp only [go_sem, reduceIte, ↓reduceIte, sevalprocAttr, Z0, Z1, bytesOf, builtPos]
    by_cases hm : dn ∈ fourL
    · rw [if_pos (.inr hm)] at hvf
      have := hz (by rw [hvf]; simp)
      simp only [go_sem, reduceIte, ↓reduceIte, sevalprocAttr, Z0, Z1, bytesOf, dT hm, g0, g1, hlt', hg, DataD.cells, List.length_map]
      rw [set_get g1, this, hvf]
      simp only [go_sem, reduceIte, ↓reduceIte, sevalprocAttr, Z0, Z1, bytesOf, Ft.cells]
      exact ⟨rfl, set_far hG (by omega) _⟩
    simp only [go_sem, reduceIte, ↓reduceIte, sevalprocAttr, Z0, Z1, bytesOf, dF hm, g0, hlt', hg, DataD.cells, List.length_map]
    refine pcall_pure (fun A => hdat _ _) (Hext.refl _) ?_
    simp only [go_sem, reduceIte, ↓reduceIte, sevalprocAttr, Z0, Z1, bytesOf, hlt2]
    cases ha : (ts.take x).any fun y => decide (y.name = dn)
    · simp only [go_sem, reduceIte, ↓reduceIte, sevalprocAttr, Z0, Z1, bytesOf, ha, ex]
      exact nx ha hm
    · rw [if_pos (.inl ha)] at hvf
      have := hz (by rw [hvf]; simp)
      simp only [go_sem, reduceIte, ↓reduceIte, sevalprocAttr, Z0, Z1, bytesOf, ha, g0, g1, hlt', hg, DataD.cells, List.length_map]
      rw [set_get g1, this, hvf]
      simp only [go_sem, reduceIte, ↓reduceIte, sevalprocAttr, Z0, Z1, bytesOf, Ft.cells]
      exact ⟨rfl, set_far hG (by omega) _⟩
  have : x = ts.length := by omega
  subst this
  have d1 : decide ((ts.length : Int) < (ts.length : Int)) = false := by simp
  rw [List.take_length] at hn
  simp only [go_sem, reduceIte, ↓reduceIte, sevalprocAttr, Z0, Z1, bytesOf, d1, g1]
  rw [set_get g1, hn]
  simp only [go_sem, reduceIte, ↓reduceIte, sevalprocAttr, Z0, Z1, bytesOf, Ft.cells]
  exact ⟨rfl, set_far hG (by omega) _⟩
end Go.Proofs.YtnelfbcgplooiaaGreat.Pg
/- The reference's types of datatypes. -/
set_option linter.all false
namespace Go.Proofs.YtnelfbcgplooiaaGreat.Pg
open Go.AM Mc
structure Apart (ts:List DataD):Prop where
 four:∀ d∈ts,d.name ∉ fourL
 pair:ts.Pairwise fun a b=>a.name≠b.name
theorem typesF_apart : ∀ (ah ts : List DataD), typesF ah ts = (0, 0) → Apart ts ∧ ∀ d ∈ ts, ∀ a ∈ ah, a.name ≠ d.name
  | ah, [], _ => ⟨⟨by simp, List.Pairwise.nil⟩, by simp⟩
  | ah, d :: ts, h => by
    rw [typesF] at h
    split at h
    · cases h
    · rename_i hn
      simp only [not_or] at hn
      obtain ⟨hn, hf⟩ := hn
      obtain ⟨⟨h1, h2⟩, h3⟩ := typesF_apart (ah ++ [d]) ts h
      have ha : ∀ a ∈ ah, a.name ≠ d.name := by
        intro a hm e
        exact hn (List.any_eq_true.2 ⟨a, hm, decide_eq_true e⟩)
      refine ⟨⟨?_, List.Pairwise.cons (fun b hb => ?_) h2⟩, ?_⟩
      · intro c hc
        rcases List.mem_cons.1 hc with rfl | hc
        · exact hf
        · exact h1 c hc
      · exact h3 b hb d (by simp)
      · intro c hc a hm
        rcases List.mem_cons.1 hc with rfl | hc
        · exact ha a hm
        · exact h3 c hc a (by simp [hm])
theorem hasData_idx {ts : List DataD} (h : ts.Pairwise fun a b => a.name ≠ b.name) (n : List UInt8) (nk : Nat) :
    hasData ts n nk = match idx n (ts.map DataD.name) with | .none => false | some k => match ts[k]? with | some d => decide (d.vars.length = nk) | .none => false := by
  induction ts with
  | nil => rfl
  | cons d l ih =>
    obtain ⟨h1, h2⟩ := List.pairwise_cons.1 h
    have ih := ih h2
    simp only [hasData, List.any_cons, List.map_cons, idx] at ih ⊢
    by_cases e : d.name = n
    · have hl : (l.any fun y => decide (y.name = n) && decide (y.vars.length = nk)) = false := by
        apply Bool.eq_false_iff.2
        intro ha
        obtain ⟨y, hy, hyn⟩ := List.any_eq_true.1 ha
        simp at hyn
        exact h1 y hy (e.trans hyn.1.symm)
      rw [hl]
      simp [e]
    · rw [ih]
      simp only [e, decide_false, Bool.false_and, Bool.false_or, if_false]
      cases idx n (l.map DataD.name) with
      | none => rfl
      | some k => rfl
theorem hasData_four {ts:List DataD} (h:Apart ts) {n:List UInt8} (hn:n∈fourL) (nk:Nat):hasData ts n nk=false:=by
 apply Bool.eq_false_iff.2
 intro ha
 obtain ⟨y,hy,hyn⟩:=List.any_eq_true.1 ha
 simp at hyn
 exact h.four y hy (hyn.1 ▸ hn)
def tyR (t:TyD) (f:Ft):AV:=.tup [av (if f.1=0 then t else tyZ).cells,av f.cells]
def TyS (g:ProgD) (d:DataD) (x:TyE):Prop:=∀ (H:List AO),ACall Tryz.prog 28 [av g.cells,av d.cells,av x.cells] H (pureQ (tyR (x.ty d.vars) (x.ft g.types d.vars)) H)
def RawTyF (t:TyD) (f:Ft) (r:AV) (H':List AO):Prop:=∃ K N S kids kv,(if f.1=0 then t else tyZ)=.mk K N S kids∧r=.tup [.st [.p (.i .i64 K),.p (.i .i64 N),.p (.s S),kv],av f.cells]∧OwnR H' kv 4 (kids.map fun t=>(TyD.cells t).map .p)
theorem rawTyF_pure {x1 x2 x3 : List PV} {H : List AO} {t : TyD} {f : Ft} (h : ACall Tryz.prog 28 [av x1, av x2, av x3] [] (RawTyF t f)) : ACall Tryz.prog 28 [av x1, av x2, av x3] H (pureQ (tyR t f) H) := by
  refine (acall_fresh (R := fun r => r = tyR t f) h ?_ ?_).mono (fun r H' ⟨h1, h2⟩ => ⟨h2, h1⟩)
  · intro b hb
    simp only [List.mem_cons, List.not_mem_nil, or_false] at hb
    rcases hb with rfl | rfl | rfl <;> exact noid_st _ (by intro a ha; obtain ⟨p, _, rfl⟩ := List.mem_map.1 ha; exact noid_p p)
  · rintro r H' ⟨K, N, S, kids, kv, e, rfl, ho⟩
    refine ⟨_, ?_, rfl⟩
    rw [tyR, e, TyD.cells, TyD.cellsL_eq]
    have lt : ∀ {a : AV} {q : PV} (h : Lent H' a (.p q)), Lent H' (.tup [.st [.p (.i .i64 K), .p (.i .i64 N), .p (.s S), a], av f.cells]) (.tup [av [.i .i64 K, .i .i64 N, .s S, q], av f.cells]) := by
      intro a q h
      refine .tup _ _ rfl fun j y z hy hz => ?_
      match j with
      | 0 => cases hy; cases hz; exact lent_st4 h _ _ _
      | 1 =>
        cases hy; cases hz
        refine .st _ _ rfl fun j y z hy hz => ?_
        match j with
        | 0 => cases hy; cases hz; exact .pure _
        | 1 => cases hy; cases hz; exact .pure _
        | j + 2 => simp [Ft.cells] at hy
      | j + 2 => simp at hy
    rcases ho with ⟨rfl, hk⟩ | ⟨id, ver, rfl, h2⟩
    · have : kids = [] := by simpa using hk
      subst this
      exact lt .nl
    · have e : (kids.map fun t => (TyD.cells t).map AV.p) = (kids.map TyD.cells).map fun y => y.map AV.p := by rw [List.map_map]; rfl
      rw [e] at h2 ⊢
      refine lt ?_
      rw [List.length_map]
      exact lent_rows h2 (by intro y hy; obtain ⟨a, _, rfl⟩ := List.mem_map.1 hy; exact TyD.cells_len a)
theorem ftL_none {types : List DataD} {vs : List (List UInt8)} {l : List TyE} {x : Nat} (h : (TyE.ftL types vs (l.take x)).1 ≠ 0) : TyE.ftL types vs l = TyE.ftL types vs (l.take x) := by
  induction l generalizing x with
  | nil => simp
  | cons t l ih =>
    cases x with
    | zero => simp [TyE.ftL] at h
    | succ x =>
      simp only [List.take_succ_cons, TyE.ftL] at h ⊢
      by_cases e : (t.ft types vs).1 = 0
      · simp only [firstF, e, if_true] at h ⊢
        exact ih h
      · rw [firstF_ne e, firstF_ne e]
theorem ownR_setVar {H:List AO} {a:AV} {sz:Nat} {rs:List (List AV)} {j:Nat} {cs:List AV} {o:AO} (h:OwnR H a sz rs) (hj:H[j]?=some (.var cs)):OwnR (H.set j o) a sz rs:=by
 rcases h with h | ⟨id,ver,h2,h3⟩
 ·exact .inl h
 ·exact .inr ⟨id,ver,h2,get_set h3 (by rintro rfl; rw [h3] at hj; cases hj)⟩
theorem ownR_ne {H:List AO} {a:AV} {sz:Nat} {rs:List (List AV)} {i:Nat} {cs:List AV} (h:OwnR H a sz rs) (hi:H[i]?=some (.var cs)):∀ v o n,a≠.gs i v o n:=by
 rintro v o n rfl
 rcases h with ⟨h,_⟩ | ⟨id,ver,h2,h3⟩
 ·cases h
 ·cases h2; rw [h3] at hi; cases hi
theorem l5Tail {g:ProgD} {d:DataD} {n:List UInt8} {k p:Int} {ks:List TyE} (hs:ks.length≤1048576) (hk:∀ x∈ks,TyS g d x) {L:En} {HX:List AO} {K:Int} {S:List UInt8} {t:TyD} {f:Ft}
  (h3:eget L 3=.ptr 0 0) (h4:eget L 4=.ptr 1 0) (h5:eget L 5=.ptr 2 0) (h6:eget L 6=.ptr 3 0) (h7:eget L 7=.ptr 4 0) (h8:eget L 8=.ptr 5 0)
  (e0:HX[0]?=some (.var (g.cells.map .p))) (e1:HX[1]?=some (.var (d.cells.map .p))) (e2:HX[2]?=some (.var ((TyE.cells (.mk k n p ks)).map .p)))
  (e3:HX[3]?=some (.var [.p (.i .i64 0),.p (.i .i64 0),.p (.s []),.p .nl])) (e4:HX[4]?=some (.var [.p (.i .i64 0),.p (.i .i64 0)])) (e5:HX[5]?=some (.var [.p (.i .i64 K),.p (.i .i64 0),.p (.s S),.p .nl]))
  (ht:f.1=0→t=.mk K 0 S (TyE.tyL d.vars ks)) (hf:f=TyE.ftL g.types d.vars ks) :
  wpm (ACall Tryz.prog) mc28t (finK mr28 (RawTyF t f)) ⟨L,[],HX⟩:=by
 obtain ⟨dn,vs,cs,dp⟩:=d
 have hgc:∃ c0 c1 c2 c3 c4 c5 c6 c7,g.cells=[c0,c1,c2,c3,c4,c5,c6,c7]:=by
  obtain ⟨ts,⟨k,n,u,t,p,ks,as'⟩⟩:=g
  exact ⟨_,_,_,_,_,_,_,_,rfl⟩
 obtain ⟨c0,c1,c2,c3,c4,c5,c6,c7,hgc⟩:=hgc
 rw [hgc] at e0
 simp only at ht hf
 have e1':HX[1]?=some (.var [.p (.s dn),.p (.l (namesC vs)),.p (.l (cs.map CtorD.cells)),.p (.i .i64 dp)]):=e1
 have e2':HX[2]?=some (.var [.p (.i .i64 k),.p (.s n),.p (.i .i64 p),.p (.l (TyE.cellsL ks))]):=e2
 rw [TyE.cellsL_eq] at e2'
 simp only [go_sem,reduceIte,↓reduceIte,sevalprocAttr,Z0,Z1,bytesOf,mc28t,mr28,eget_same,eget_ne,List.length_map]
 refine ⟨Nat × AV × List AO,[3,4,5,6,7,8,12],fun x st=>st.T=[]∧st.H=x.2.2∧eget st.L 3=.ptr 0 0∧eget st.L 4=.ptr 1 0∧eget st.L 5=.ptr 2 0∧eget st.L 6=.ptr 3 0∧eget st.L 7=.ptr 4 0∧eget st.L 8=.ptr 5 0∧eget st.L 12=.p (.i .i64 x.1) ∧
  x.1≤ks.length∧TyE.ftL g.types vs (ks.take x.1)=(0,0)∧x.2.2[0]?=some (.var ([c0,c1,c2,c3,c4,c5,c6,c7].map .p))∧x.2.2[1]?=some (.var [.p (.s dn),.p (.l (namesC vs)),.p (.l (cs.map CtorD.cells)),.p (.i .i64 dp)])∧x.2.2[2]?=some (.var [.p (.i .i64 k),.p (.s n),.p (.i .i64 p),.p (.l (ks.map TyE.cells))]) ∧
  x.2.2[3]?=some (.var [.p (.i .i64 0),.p (.i .i64 0),.p (.s []),.p .nl])∧x.2.2[4]?=some (.var [.p (.i .i64 0),.p (.i .i64 0)])∧x.2.2[5]?=some (.var [.p (.i .i64 K),.p (.i .i64 0),.p (.s S),x.2.1]) ∧
  OwnR x.2.2 x.2.1 4 ((ks.take x.1).map fun t=>(TyD.cells (t.ty vs)).map .p),fun x=>ks.length - x.1,⟨(0,.p .nl,HX),?_⟩,?_⟩
 ·simp only [go_sem,reduceIte,↓reduceIte,sevalprocAttr,Z0,Z1,bytesOf,eget_keep,eget_same,eget_ne,h3,h4,h5,h6,h7,h8,e0,e1',e2',e3,e4,e5]
  exact ⟨Nat.zero_le _,rfl,.inl ⟨rfl,rfl⟩⟩
 ·rintro ⟨x,kv,HG⟩ st ⟨hT,hH,q3,q4,q5,q6,q7,q8,q12,hx,hz,g0,g1,g2,g3,g4,g5,hown⟩
  obtain ⟨SL,ST,SH⟩:=st
  simp only at hT hH q3 q4 q5 q6 q7 q8 q12 hx hz g0 g1 g2 g3 g4 g5 hown
  subst hT hH
  simp only [go_sem,reduceIte,↓reduceIte,sevalprocAttr,Z0,Z1,bytesOf,q5,q12,g2,eget_same,List.length_map]
  intro hl
  by_cases hlt:x<ks.length
  ·have d1:decide ((x:Int)<(ks.length:Int))=true:=by simp; omega
   have hlt':((x:Int)<(ks.length:Int)):=by omega
   have ex:=wrN x (by omega)
   have hg:(ks.map TyE.cells)[x]?=some (TyE.cells ks[x]):=by simp [hlt]
   have hcall:=hk ks[x] (List.getElem_mem hlt)
   have hft:=ftL_step (types:=g.types) (vs:=vs) hlt
   rw [hz,firstF_z] at hft
   have hnone:=fun h=>ftL_none (types:=g.types) (vs:=vs) (l:=ks) (x:=x+1) h
   have hty:(ks.take (x+1)).map (fun t=>(TyD.cells (t.ty vs)).map AV.p)=(ks.take x).map (fun t=>(TyD.cells (t.ty vs)).map AV.p)++[(TyD.cells (ks[x].ty vs)).map AV.p]:=by
    rw [List.take_succ,List.getElem?_eq_getElem hlt,List.map_append]; rfl
   have hfz:=TyE.ft_z g.types vs ks[x]
   generalize ks[x]=c at hg hcall hft hty hfz
   obtain ⟨ck,cn,cp,cks⟩:=c
   have hRl:((ks.take x).map fun t=>(TyD.cells (t.ty vs)).map AV.p).length=x:=by rw [List.length_map,List.length_take]; omega
   simp only [TyS,hgc] at hcall
   simp only [go_sem,reduceIte,↓reduceIte,sevalprocAttr,Z0,Z1,bytesOf,d1]
   refine drw_same ?_
   simp only [go_sem,reduceIte,↓reduceIte,sevalprocAttr,Z0,Z1,bytesOf,q3,q4,q5,q12,g0,g1,g2,hlt',hg,eget_same,eget_ne,TyE.cells,List.length_map]
   refine pcall_pure (fun A=>hcall _) (Hext.refl _) ?_
   generalize TyE.ty vs (.mk ck cn cp cks)=tc at hty ⊢
   generalize TyE.ft g.types vs (.mk ck cn cp cks)=fc at hft hfz ⊢
   obtain ⟨f1,f2⟩:=fc
   by_cases h0:f1=0
   ·subst h0
    have h0':f2=0:=by have:=hfz rfl; simpa using this
    subst h0'
    obtain ⟨tk,tn,tS,tks⟩:=tc
    simp only [go_sem,reduceIte,↓reduceIte,sevalprocAttr,Z0,Z1,bytesOf,tyR,TyD.cells,Ft.cells,eget_same,eget_ne]
    have x5:=fun A=>get_ext g5 A
    refine ston_at (k:=0) rfl rfl rfl ?_
    simp only [go_sem,reduceIte,↓reduceIte,sevalprocAttr,Z0,Z1,bytesOf,eget_same,eget_ne,q8,x5]
    refine ⟨by intro r hr; simp at hr; subst hr; rfl,?_⟩
    have ho1:=OwnR.ext (A:=[AO.var [.p (.i .i64 tk),.p (.i .i64 tn),.p (.s tS),.p (.l (TyD.cellsL tks))],AO.var [.p (.i .i64 0),.p (.i .i64 0)],AO.rows 4 0 [[.p (.i .i64 tk),.p (.i .i64 tn),.p (.s tS),.p (.l (TyD.cellsL tks))]]]) hown
    have y0:=get_ext g0 [AO.var [.p (.i .i64 tk),.p (.i .i64 tn),.p (.s tS),.p (.l (TyD.cellsL tks))],AO.var [.p (.i .i64 0),.p (.i .i64 0)],AO.rows 4 0 [[.p (.i .i64 tk),.p (.i .i64 tn),.p (.s tS),.p (.l (TyD.cellsL tks))]]]
    have y1:=get_ext g1 [AO.var [.p (.i .i64 tk),.p (.i .i64 tn),.p (.s tS),.p (.l (TyD.cellsL tks))],AO.var [.p (.i .i64 0),.p (.i .i64 0)],AO.rows 4 0 [[.p (.i .i64 tk),.p (.i .i64 tn),.p (.s tS),.p (.l (TyD.cellsL tks))]]]
    have y2:=get_ext g2 [AO.var [.p (.i .i64 tk),.p (.i .i64 tn),.p (.s tS),.p (.l (TyD.cellsL tks))],AO.var [.p (.i .i64 0),.p (.i .i64 0)],AO.rows 4 0 [[.p (.i .i64 tk),.p (.i .i64 tn),.p (.s tS),.p (.l (TyD.cellsL tks))]]]
    have y3:=get_ext g3 [AO.var [.p (.i .i64 tk),.p (.i .i64 tn),.p (.s tS),.p (.l (TyD.cellsL tks))],AO.var [.p (.i .i64 0),.p (.i .i64 0)],AO.rows 4 0 [[.p (.i .i64 tk),.p (.i .i64 tn),.p (.s tS),.p (.l (TyD.cellsL tks))]]]
    have y4:=get_ext g4 [AO.var [.p (.i .i64 tk),.p (.i .i64 tn),.p (.s tS),.p (.l (TyD.cellsL tks))],AO.var [.p (.i .i64 0),.p (.i .i64 0)],AO.rows 4 0 [[.p (.i .i64 tk),.p (.i .i64 tn),.p (.s tS),.p (.l (TyD.cellsL tks))]]]
    have y5:=get_ext g5 [AO.var [.p (.i .i64 tk),.p (.i .i64 tn),.p (.s tS),.p (.l (TyD.cellsL tks))],AO.var [.p (.i .i64 0),.p (.i .i64 0)],AO.rows 4 0 [[.p (.i .i64 tk),.p (.i .i64 tn),.p (.s tS),.p (.l (TyD.cellsL tks))]]]
    generalize SH++[AO.var [.p (.i .i64 tk),.p (.i .i64 tn),.p (.s tS),.p (.l (TyD.cellsL tks))],AO.var [.p (.i .i64 0),.p (.i .i64 0)],AO.rows 4 0 [[.p (.i .i64 tk),.p (.i .i64 tn),.p (.s tS),.p (.l (TyD.cellsL tks))]]]=H1 at ho1 y0 y1 y2 y3 y4 y5 ⊢
    refine app_fr ho1 (by rw [hRl]; simp; omega) (by rw [hRl]; simp; omega) ?_
    intro id ver H2 hid hside hkeep hlen
    have z0:=hkeep _ _ y0 (ownR_ne ho1 y0)
    have z1:=hkeep _ _ y1 (ownR_ne ho1 y1)
    have z2:=hkeep _ _ y2 (ownR_ne ho1 y2)
    have z3:=hkeep _ _ y3 (ownR_ne ho1 y3)
    have z4:=hkeep _ _ y4 (ownR_ne ho1 y4)
    have z5:=hkeep _ _ y5 (ownR_ne ho1 y5)
    simp only [go_sem,reduceIte,↓reduceIte,sevalprocAttr,Z0,Z1,bytesOf,eget_same,eget_ne,q3,q4,q5,q6,q7,q8,q12,z5,ex,eget_keep]
    refine ⟨(x+1,_,_),⟨rfl,rfl,by simp only; omega,by simp only; rw [hft],get_set z0 (by omega),get_set z1 (by omega),get_set z2 (by omega),get_set z3 (by omega),get_set z4 (by omega),set_get z5,?_⟩,by simp only; omega⟩
    simp only
    rw [hty]
    refine ownR_setVar (.inr ⟨id,ver,by simp,hid⟩) z5
   ·have e0:f=(f1,f2):=by rw [hf,hnone (by rw [hft]; exact h0),hft]
    have h0':(f1,f2).1≠0:=h0
    simp only [go_sem,reduceIte,↓reduceIte,sevalprocAttr,Z0,Z1,bytesOf,tyR,h0,tyZ,TyD.cells,TyD.cellsL,Ft.cells,eget_same,eget_ne]
    refine ston_at (k:=0) rfl rfl rfl ?_
    simp only [go_sem,reduceIte,↓reduceIte,sevalprocAttr,Z0,Z1,bytesOf,eget_same,eget_ne,dF h0]
    have y3:=get_ext g3 [AO.var [.p (.i .i64 0),.p (.i .i64 0),.p (.s []),.p (.l [])],AO.var [.p (.i .i64 f1),.p (.i .i64 f2)]]
    have y4:=get_ext g4 [AO.var [.p (.i .i64 0),.p (.i .i64 0),.p (.s []),.p (.l [])],AO.var [.p (.i .i64 f1),.p (.i .i64 f2)]]
    have hl3:=get_lt g3
    have y6:(SH++[AO.var [.p (.i .i64 0),.p (.i .i64 0),.p (.s []),.p (.l [])],AO.var [.p (.i .i64 f1),.p (.i .i64 f2)]])[SH.length+1]?=some (AO.var [.p (.i .i64 f1),.p (.i .i64 f2)]):=by rw [get_off]; rfl
    generalize hm:SH.length+1=m at y6 ⊢
    generalize SH++[AO.var [.p (.i .i64 0),.p (.i .i64 0),.p (.s []),.p (.l [])],AO.var [.p (.i .i64 f1),.p (.i .i64 f2)]]=H1 at y3 y4 y6 ⊢
    have y7:(H1.set 3 .dead)[m]?=_:=get_set y6 (by omega)
    refine ⟨H1.set 3 .dead,hext_dead0 _ _,?_⟩
    simp only [go_sem,reduceIte,↓reduceIte,sevalprocAttr,Z0,Z1,bytesOf,eget_same,eget_ne,q6,q7,y7,y3]
    refine ⟨by simp,dead_ext' _ _ _,?_⟩
    have w3:=set_get (o':=AO.var [.p (.i .i64 0),.p (.i .i64 0),.p (.s []),.p .nl]) y3
    have w4:=get_set (i:=3) (o':=AO.var [.p (.i .i64 0),.p (.i .i64 0),.p (.s []),.p .nl]) y4 (by omega)
    generalize H1.set 3 (AO.var [.p (.i .i64 0),.p (.i .i64 0),.p (.s []),.p .nl])=H3 at w3 w4 ⊢
    have w5:=get_set (i:=4) (o':=AO.var [.p (.i .i64 f1),.p (.i .i64 f2)]) w3 (by omega)
    simp only [go_sem,reduceIte,↓reduceIte,sevalprocAttr,Z0,Z1,bytesOf,eget_same,eget_ne,q6,q7,w3,w4]
    rw [set_get w4]
    simp only [go_sem,reduceIte,↓reduceIte,sevalprocAttr,Z0,Z1,bytesOf,w5]
    rw [e0]
    exact ⟨0,0,[],[],.p .nl,by rw [if_neg h0']; rfl,rfl,.inl ⟨rfl,rfl⟩⟩
  ·have:x=ks.length:=by omega
   subst this
   have d1:decide ((ks.length:Int)<(ks.length:Int))=false:=by simp
   rw [List.take_length] at hz hown
   rw [hz] at hf
   subst hf
   have w3:=fun o=>get_set (i:=4) (o':=o) (set_get (o':=AO.var [.p (.i .i64 K),.p (.i .i64 0),.p (.s S),kv]) g3) (by omega)
   have w4:=get_set (i:=3) (o':=AO.var [.p (.i .i64 K),.p (.i .i64 0),.p (.s S),kv]) g4 (by omega)
   simp only [go_sem,reduceIte,↓reduceIte,sevalprocAttr,Z0,Z1,bytesOf,eget_same,eget_ne,q6,q7,q8,g3,g5,d1,w4]
   rw [set_get w4]
   simp only [go_sem,reduceIte,↓reduceIte,sevalprocAttr,Z0,Z1,bytesOf,w3]
   refine ⟨K,0,S,TyE.tyL vs ks,kv,by rw [if_pos rfl]; exact ht rfl,rfl,?_⟩
   rw [TyE.tyL_eq,List.map_map]
   exact ownR_setVar (ownR_setVar hown g3) w4
end Go.Proofs.YtnelfbcgplooiaaGreat.Pg
/- The reference's types of datatypes: the whole. -/
set_option linter.all false
namespace Go.Proofs.YtnelfbcgplooiaaGreat.Pg
open Go.AM Mc
theorem hext6 (a b c o e f:AO):Hext [a,b,c,.dead,e,f] [a,b,c,o,e,f]:=dead_ext' [a,b,c,o,e,f] 3 o
theorem ty_S (g : ProgD) (hA : Apart g.types) (d : DataD) (k : Int) (n : List UInt8) (p : Int) (ks : List TyE) (hok : k = 1 ∨ k = 2 ∨ k = 3 ∨ k = 4 ∨ k = 5) (hs : ks.length ≤ 1048576) (hk : ∀ x ∈ ks, TyS g d x) : TyS g d (.mk k n p ks) := by
  intro H
  refine rawTyF_pure ?_
  have hgc : ∃ c1 c2 c3 c4 c5 c6 c7, g.cells = [.l (g.types.map DataD.cells), c1, c2, c3, c4, c5, c6, c7] := by
    obtain ⟨ts, ⟨k, n, u, t, p, ks, as'⟩⟩ := g
    exact ⟨_, _, _, _, _, _, _, rfl⟩
  obtain ⟨c1, c2, c3, c4, c5, c6, c7, hgc⟩ := hgc
  have hdat := l5DataC g n
  have htail := fun L HX K S t f => l5Tail (L := L) (HX := HX) (K := K) (S := S) (t := t) (f := f) (g := g) (d := d) (n := n) (k := k) (p := p) hs hk
  rw [hgc] at hdat htail ⊢
  obtain ⟨dn, vs, cs, dp⟩ := d
  simp only at htail ⊢
  refine call28 (by simp) ?_
  simp only [go_sem, reduceIte, ↓reduceIte, sevalprocAttr, Z0, Z1, bytesOf, mc28, DataD.cells, TyE.cells]
  rcases hok with rfl | rfl | rfl | rfl | rfl
  · simp only [go_sem, reduceIte, ↓reduceIte, sevalprocAttr, Z0, Z1, bytesOf]
    refine acall_pure (l5BuiltC n _) ?_
    simp only [go_sem, reduceIte, ↓reduceIte, sevalprocAttr, Z0, Z1, bytesOf]
    refine acall_pure (hdat _) ?_
    simp only [go_sem, reduceIte, ↓reduceIte, sevalprocAttr, Z0, Z1, bytesOf, builtPos]
    have hE : ∀ H' , RawTyF (TyE.ty vs (.mk 1 n p ks)) (24, p) (.tup [.st [.p (.i .i64 0), .p (.i .i64 0), .p (.s []), .p .nl], .st [.p (.i .i64 24), .p (.i .i64 p)]]) H' := fun H' => ⟨0, 0, [], [], .p .nl, by rw [if_neg (by simp)]; rfl, rfl, .inl ⟨rfl, rfl⟩⟩
    by_cases hm : n ∈ fourL
    · obtain ⟨m, hmi⟩ := idx_mem hm
      have eb : builtI n = ((m + 1 : Nat) : Int) := by unfold builtI; rw [hmi]
      simp only [go_sem, reduceIte, ↓reduceIte, sevalprocAttr, Z0, Z1, bytesOf, dT hm, TyE.cellsL_len, dN0]
      intro _
      by_cases hq : ks.length = 0
      · have hks : ks = [] := List.length_eq_zero_iff.1 hq
        have ev : TyE.ty vs (.mk 1 n p ks) = .mk (1 + m) 0 [] [] := by subst hks; unfold TyE.ty; simp [hmi]
        have ef : TyE.ft g.types vs (.mk 1 n p ks) = (0, 0) := by rw [TyE.ft, if_neg (by decide), if_neg (by decide), if_pos ⟨hm, hq⟩]
        simp only [go_sem, reduceIte, ↓reduceIte, sevalprocAttr, Z0, Z1, bytesOf, dT hq]
        rw [ev, ef, eb]
        exact ⟨1 + m, 0, [], [], .p .nl, by simp, by rw [show ((m + 1 : Nat) : Int) = 1 + (m : Int) by omega]; rfl, .inl ⟨rfl, rfl⟩⟩
      · have ef : TyE.ft g.types vs (.mk 1 n p ks) = (24, p) := by rw [TyE.ft, if_neg (by decide), if_neg (by decide), if_neg (fun h => hq h.2), hasData_four hA hm]; rfl
        simp only [go_sem, reduceIte, ↓reduceIte, sevalprocAttr, Z0, Z1, bytesOf, dF hq]
        refine drw_same ?_
        simp only [go_sem, reduceIte, ↓reduceIte, sevalprocAttr, Z0, Z1, bytesOf, builtPos, dT hm]
        refine ⟨_, hext_dead0 _ 3, ?_⟩
        simp only [go_sem, reduceIte, ↓reduceIte, sevalprocAttr, Z0, Z1, bytesOf]
        refine ⟨hext6 _ _ _ _ _ _, ?_⟩
        rw [ef]
        exact hE _
    · simp only [go_sem, reduceIte, ↓reduceIte, sevalprocAttr, Z0, Z1, bytesOf, dF hm]
      have hA2 := hasData_idx hA.pair n ks.length
      refine drw_same ?_
      simp only [go_sem, reduceIte, ↓reduceIte, sevalprocAttr, Z0, Z1, bytesOf, builtPos, dF hm, idxI_neg]
      cases hi : idx n (g.types.map DataD.name) with
      | none =>
        rw [hi] at hA2
        have ef : TyE.ft g.types vs (.mk 1 n p ks) = (24, p) := by rw [TyE.ft, if_neg (by decide), if_neg (by decide), if_neg (fun h => hm h.1), hA2]; rfl
        simp only [go_sem, reduceIte, ↓reduceIte, sevalprocAttr, Z0, Z1, bytesOf]
        refine ⟨_, hext_dead0 _ 3, ?_⟩
        simp only [go_sem, reduceIte, ↓reduceIte, sevalprocAttr, Z0, Z1, bytesOf]
        refine ⟨hext6 _ _ _ _ _ _, ?_⟩
        rw [ef]
        exact hE _
      | some j =>
        rw [hi] at hA2
        obtain ⟨hj1, _⟩ := idx_some hi
        rw [List.getElem?_map] at hj1
        cases hd : g.types[j]? with
        | none => rw [hd] at hj1; cases hj1
        | some d' =>
          simp only [hd] at hA2
          have eN : decide ((some j : Option Nat) = .none) = false := by simp
          have hjl : j < g.types.length := (List.getElem?_eq_some_iff.1 hd).1
          have hjl' : ((j : Int) < (g.types.length : Int)) := by omega
          have hg : (g.types.map DataD.cells)[j]? = some (DataD.cells d') := by rw [List.getElem?_map, hd]; rfl
          have ei : idxI (g.types.map DataD.name) n = (j : Int) := by unfold idxI; rw [hi]
          have dEqN : ∀ a b : Nat, decide ((a : Int) = (b : Int)) = decide (a = b) := fun a b => by rw [decide_eq_decide]; omega
          obtain ⟨dn', vs', cs', dp'⟩ := d'
          simp only at hA2
          simp only [go_sem, reduceIte, ↓reduceIte, sevalprocAttr, Z0, Z1, bytesOf, eN, ei, hjl', hg, DataD.cells, List.length_map, namesC_len, TyE.cellsL_len, dEqN]
          by_cases hv : vs'.length = ks.length
          · have ef : TyE.ft g.types vs (.mk 1 n p ks) = TyE.ftL g.types vs ks := by rw [TyE.ft, if_neg (by decide), if_neg (by decide), if_neg (fun h => hm h.1), hA2, decide_eq_true hv, if_pos rfl]
            have ev : TyE.ty vs (.mk 1 n p ks) = .mk 7 0 n (TyE.tyL vs ks) := by unfold TyE.ty; simp [idx_none.2 hm]
            simp only [go_sem, reduceIte, ↓reduceIte, sevalprocAttr, Z0, Z1, bytesOf, dT hv]
            rw [ev, ef]
            exact htail _ _ 7 n _ _ rfl rfl rfl rfl rfl rfl rfl rfl rfl rfl rfl rfl (fun _ => rfl) rfl
          · have ef : TyE.ft g.types vs (.mk 1 n p ks) = (24, p) := by rw [TyE.ft, if_neg (by decide), if_neg (by decide), if_neg (fun h => hm h.1), hA2, decide_eq_false hv]; rfl
            simp only [go_sem, reduceIte, ↓reduceIte, sevalprocAttr, Z0, Z1, bytesOf, dF hv]
            refine ⟨_, hext_dead0 _ 3, ?_⟩
            simp only [go_sem, reduceIte, ↓reduceIte, sevalprocAttr, Z0, Z1, bytesOf]
            refine ⟨hext6 _ _ _ _ _ _, ?_⟩
            rw [ef]
            exact hE _
  · simp only [go_sem, reduceIte, ↓reduceIte, sevalprocAttr, Z0, Z1, bytesOf]
    refine acall_pure (l5FindC vs n _) ?_
    simp only [go_sem, reduceIte, ↓reduceIte, sevalprocAttr, Z0, Z1, bytesOf, idxI_neg]
    by_cases hi : idx n vs = .none
    · have ef : TyE.ft g.types vs (.mk 2 n p ks) = (25, p) := by rw [TyE.ft, if_pos rfl, if_pos hi]
      simp only [go_sem, reduceIte, ↓reduceIte, sevalprocAttr, Z0, Z1, bytesOf, dT hi]
      refine ⟨_, hext_dead0 _ 3, ?_⟩
      simp only [go_sem, reduceIte, ↓reduceIte, sevalprocAttr, Z0, Z1, bytesOf]
      refine ⟨hext6 _ _ _ _ _ _, ?_⟩
      rw [ef]
      exact ⟨0, 0, [], [], .p .nl, by rw [if_neg (by simp)]; rfl, rfl, .inl ⟨rfl, rfl⟩⟩
    · have ef : TyE.ft g.types vs (.mk 2 n p ks) = (0, 0) := by rw [TyE.ft, if_pos rfl, if_neg hi]
      have ev : TyE.ty vs (.mk 2 n p ks) = .mk 10 (idxI vs n) [] [] := by unfold TyE.ty; rw [if_pos rfl]
      simp only [go_sem, reduceIte, ↓reduceIte, sevalprocAttr, Z0, Z1, bytesOf, dF hi]
      rw [ev, ef]
      exact ⟨10, idxI vs n, [], [], .p .nl, by rw [if_pos rfl], rfl, .inl ⟨rfl, rfl⟩⟩
  · have ef : TyE.ft g.types vs (.mk 3 n p ks) = TyE.ftL g.types vs ks := by rw [TyE.ft, if_neg (by decide), if_pos (by decide)]
    have ev : TyE.ty vs (.mk 3 n p ks) = .mk 5 0 [] (TyE.tyL vs ks) := by unfold TyE.ty; rw [if_neg (by decide), if_pos rfl]
    simp only [go_sem, reduceIte, ↓reduceIte, sevalprocAttr, Z0, Z1, bytesOf]
    rw [ev, ef]
    exact htail _ _ 5 [] _ _ rfl rfl rfl rfl rfl rfl rfl rfl rfl rfl rfl rfl (fun _ => rfl) rfl
  · have ef : TyE.ft g.types vs (.mk 4 n p ks) = TyE.ftL g.types vs ks := by rw [TyE.ft, if_neg (by decide), if_pos (by decide)]
    have ev : TyE.ty vs (.mk 4 n p ks) = .mk 6 0 [] (TyE.tyL vs ks) := by unfold TyE.ty; rw [if_neg (by decide), if_neg (by decide), if_pos rfl]
    simp only [go_sem, reduceIte, ↓reduceIte, sevalprocAttr, Z0, Z1, bytesOf]
    rw [ev, ef]
    exact htail _ _ 6 [] _ _ rfl rfl rfl rfl rfl rfl rfl rfl rfl rfl rfl rfl (fun _ => rfl) rfl
  · have ef : TyE.ft g.types vs (.mk 5 n p ks) = TyE.ftL g.types vs ks := by rw [TyE.ft, if_neg (by decide), if_pos (by decide)]
    have ev : TyE.ty vs (.mk 5 n p ks) = .mk 8 0 [] (TyE.tyL vs ks) := by unfold TyE.ty; rw [if_neg (by decide), if_neg (by decide), if_neg (by decide), if_pos rfl]
    simp only [go_sem, reduceIte, ↓reduceIte, sevalprocAttr, Z0, Z1, bytesOf]
    rw [ev, ef]
    exact htail _ _ 8 [] _ _ rfl rfl rfl rfl rfl rfl rfl rfl rfl rfl rfl rfl (fun _ => rfl) rfl
theorem typeHead_k {k:Int} {n:List UInt8} {p:Int} {nk:Nat} (h:typeHead k n p nk=true):k=1∨k=2∨k=3∨k=4∨k=5:=by
 unfold typeHead at h
 simp only [Bool.and_eq_true] at h
 obtain ⟨_,h⟩:=h
 by_cases h1:k=1
 ·exact .inl h1
 by_cases h2:k=2
 ·exact .inr (.inl h2)
 by_cases h3:k=3
 ·exact .inr (.inr (.inl h3))
 by_cases h4:k=4
 ·exact .inr (.inr (.inr (.inl h4)))
 by_cases h5:k=5
 ·exact .inr (.inr (.inr (.inr h5)))
 simp [h1,h2,h3,h4,h5] at h
theorem tyS (g : ProgD) (hA : Apart g.types) (d : DataD) : ∀ (m : Nat) (t : TyE), t.sz < m → t.sz ≤ 1048576 → t.ok = true → TyS g d t := by
  intro m
  induction m with
  | zero => intro t h; omega
  | succ m ih =>
    intro t h hb hok
    obtain ⟨k, n, p, ks⟩ := t
    rw [TyE.sz, TyE.szL_eq] at h hb
    rw [TyE.ok, TyE.okL_eq, Bool.and_eq_true] at hok
    have hl := sumSz_len TyE.sz ks
    exact ty_S g hA d k n p ks (typeHead_k hok.1) (by omega) fun a ha => ih a (by have := sumSz_mem TyE.sz ha; omega) (by have := sumSz_mem TyE.sz ha; omega) (List.all_eq_true.1 hok.2 a ha)
end Go.Proofs.YtnelfbcgplooiaaGreat.Pg
/- The reference's table: a constructor. -/
set_option linter.all false
namespace Go.Proofs.YtnelfbcgplooiaaGreat.Pg
open Go.AM Mc
theorem eE {L:En} {H:List AO} {q z lo:Nat} {n:List UInt8} {V:Int} {iv:AV} {x:List PV} (hx:x.length=6) {rs:List (List AV)} {Q:Ex→St→Prop}
  (h11:eget L 11=.ptr q 0) (h14:eget L 14=.ptr z 0) (hq:H[q]?=some (.var [.p (.s n),.p (.i .i64 V),iv])) (hz:H[z]?=some (.var (x.map .p))) (ho:OwnAt H iv 6 rs lo H.length) (hn:rs.length≤1048576) (hlo:lo≤H.length)
  (k:∀ L' H' iv',(∀ t,eget L' t=eget L t)→H'[q]?=some (.var [.p (.s n),.p (.i .i64 V),iv'])→OwnAt H' iv' 6 (rs++[x.map .p]) lo H'.length→(∀ (i:Nat) o,H[i]?=some o→i≠q→(∀ v o' n,iv≠.gs i v o' n)→H'[i]?=some o)→H.length≤H'.length→Q .nm ⟨L',[],H'⟩):wpm (ACall Tryz.prog) mc11e Q ⟨L,[],H⟩:=by
 obtain ⟨x1,x2,x3,x4,x5,x6,rfl⟩:∃ x1 x2 x3 x4 x5 x6,x=[x1,x2,x3,x4,x5,x6]:=by
  match x,hx with
  | [x1,x2,x3,x4,x5,x6],_=>exact ⟨_,_,_,_,_,_,rfl⟩
 simp only [List.map_cons,List.map_nil] at hz
 simp only [go_sem,reduceIte,↓reduceIte,sevalprocAttr,Z0,Z1,bytesOf,mc11e,h11,h14,hq,hz]
 refine ⟨by intro r hr; simp at hr; subst hr; rfl,?_⟩
 have ho2:=ho.ext [AO.rows 6 0 [[.p x1,.p x2,.p x3,.p x4,.p x5,.p x6]]]
 refine app_fr ho2.own (by simp; omega) (by simp; omega) ?_
 intro id ver H2 hid hside hkeep hlen
 have zq:=hkeep _ _ (get_ext hq _) (own_ne ho2 (get_ext hq _))
 simp only [go_sem,reduceIte,↓reduceIte,sevalprocAttr,Z0,Z1,bytesOf,h11,zq]
 have hne:q≠id:=by rintro rfl; rw [hid] at zq; cases zq
 rw [List.length_append,List.length_singleton] at hlen
 refine k _ _ _ (fun t=>rfl) (set_get zq) (.inr ⟨id,ver,?_,by simpa using get_lt hid,by simp,get_set hid hne⟩) ?_ (by simp; omega)
 ·rcases hside with ⟨v,o,n',hkv⟩ | h
  ·apply Classical.byContradiction
   intro hlt2
   exact own_lo ho2 (by omega) _ _ _ hkv
  ·simp at h; omega
 ·intro i o hi hiq hni
  exact get_set (hkeep _ _ (get_ext hi _) hni) (Ne.symm hiq)
structure SpH (g:ProgD) (H:List AO) (seen:List (List UInt8)) (v5:Nat):Prop where
 o0:H[0]?=some (.var (g.cells.map .p))
 o1:H[1]?=some (.var [.p (.i .i64 0),.p (.i .i64 0)])
 o2:H[2]?=some (.rows 3 0 [])
 o5:H[5]?=some (.rows 1 v5 (nmR seen))
theorem SpH.step {g:ProgD} {H H':List AO} {seen:List (List UInt8)} {v5:Nat} (h:SpH g H seen v5) (hk:∀ (i:Nat) o,i≤5→H[i]?=some o→H'[i]?=some o):SpH g H' seen v5 :=
 ⟨hk _ _ (by omega) h.o0,hk _ _ (by omega) h.o1,hk _ _ (by omega) h.o2,hk _ _ (by omega) h.o5⟩
theorem eN {g:ProgD} {d:DataD} {c:CtorD} (hc:c.has=true→TyS g d c.arg) {L:En} {H:List AO} {b q y lo v5:Nat} {n:List UInt8} {V:Int} {iv:AV} {seen:List (List UInt8)} {rs:List (List AV)} {Q:Ex→St→Prop}
  (h1:eget L 1=.ptr 0 0) (h3:eget L 3=.ptr 1 0) (h4:eget L 4=.gs 2 0 0 0) (h7:eget L 7=.gs 5 v5 0 seen.length) (h9:eget L 9=.ptr b 0) (h11:eget L 11=.ptr q 0) (h13:eget L 13=.ptr y 0) (hM:SpH g H seen v5)
  (hb:H[b]?=some (.var (d.cells.map .p))) (hy:H[y]?=some (.var (c.cells.map .p))) (hq:H[q]?=some (.var [.p (.s n),.p (.i .i64 V),iv])) (ho:OwnAt H iv 6 rs lo H.length) (hn:rs.length≤1048576) (hs:seen.length≤4194304) (hlo:5<lo) (hlo2:lo≤H.length) (hq5:5<q) (hyq:y≠q)
  (k1:c.has=true→(c.arg.ft g.types d.vars).1≠0→∀ L' H',eget L' 2=.gs 2 0 0 0→eget L' 3=.ptr 1 0→H'[1]?=some (.var ((c.arg.ft g.types d.vars).cells.map .p))→H'[2]?=some (.rows 3 0 [])→Q .rt ⟨L',[],H'⟩)
  (k2:(if c.has then c.arg.ft g.types d.vars else (0,0))=(0,0)→∀ L' H' iv' v5',(∀ t,t≠7→t≠14→t≠103→t≠15→t≠16→t≠114→eget L' t=eget L t)→eget L' 7=.gs 5 v5' 0 (seen.length+1)→SpH g H' (seen++[c.name]) v5'→H'[q]?=some (.var [.p (.s n),.p (.i .i64 V),iv'])→OwnAt H' iv' 6 (rs++[(rawC d.vars c).map .p]) lo H'.length →
   (∀ (i:Nat) o,H[i]?=some o→i≠5→i≠q→(∀ v o' n,iv≠.gs i v o' n)→H'[i]?=some o)→H.length≤H'.length→Q .nm ⟨L',[],H'⟩):wpm (ACall Tryz.prog) mc11n Q ⟨L,[],H⟩:=by
 obtain ⟨dn,vs,cs,dp⟩:=d
 obtain ⟨cn,ch,⟨ak,an,ap,aks⟩,cp⟩:=c
 have hgc:∃ c0 c1 c2 c3 c4 c5 c6 c7,g.cells=[c0,c1,c2,c3,c4,c5,c6,c7]:=by
  obtain ⟨ts,⟨k,n,u,t,p,ks,as'⟩⟩:=g
  exact ⟨_,_,_,_,_,_,_,_,rfl⟩
 obtain ⟨c0,c1,c2,c3,c4,c5,c6,c7,hgc⟩:=hgc
 have hy':H[y]?=some (.var [.p (.s cn),.p (.b ch),.p (.i .i64 ak),.p (.s an),.p (.i .i64 ap),.p (.l (TyE.cellsL aks)),.p (.i .i64 cp)]):=hy
 have hyX:=fun A=>get_ext hy' A
 have h5X:=fun A=>get_ext hM.o5 A
 have hsl:(nmR seen).length=seen.length:=by simp [nmR]
 simp only [go_sem,reduceIte,↓reduceIte,sevalprocAttr,Z0,Z1,bytesOf,mc11n,h7,h13,hyX,hy',h5X,hM.o5,hsl]
 refine ⟨by intro r hr; simp at hr; subst hr; rfl,by omega,by omega,by omega,?_⟩
 have htk:(nmR seen).take seen.length=nmR seen:=by rw [← hsl,List.take_length]
 rw [htk]
 have kp:∀ (i:Nat) o,H[i]?=some o→i≠5→((H++[AO.rows 1 0 [[.p (.s cn)]]]).set 5 (.rows 1 (v5+1) (nmR seen++[[.p (.s cn)]])))[i]?=some o:=fun i o hi hne=>get_set (get_ext hi _) (Ne.symm hne)
 have k5:((H++[AO.rows 1 0 [[.p (.s cn)]]]).set 5 (.rows 1 (v5+1) (nmR seen++[[.p (.s cn)]])))[5]?=some (.rows 1 (v5+1) (nmR seen++[[.p (.s cn)]])):=set_get (h5X _)
 have kl:((H++[AO.rows 1 0 [[.p (.s cn)]]]).set 5 (.rows 1 (v5+1) (nmR seen++[[.p (.s cn)]]))).length=H.length+1:=by simp
 have iv5:∀ v o n,iv≠.gs 5 v o n:=own_lo ho hlo
 have ko:OwnAt ((H++[AO.rows 1 0 [[.p (.s cn)]]]).set 5 (.rows 1 (v5+1) (nmR seen++[[.p (.s cn)]]))) iv 6 rs lo (H.length+1):=ownAt_keep ho (fun id v q n e o ho=>get_set (get_ext ho _) (by rintro rfl; exact iv5 _ _ _ e)) (by omega)
 generalize (H++[AO.rows 1 0 [[.p (.s cn)]]]).set 5 (.rows 1 (v5+1) (nmR seen++[[.p (.s cn)]]))=H1 at kp k5 kl ko ⊢
 have y1:=fun A=>get_ext (kp _ _ hy' (by rintro rfl; rw [hM.o5] at hy'; cases hy')) A
 have y1':=kp _ _ hy' (by rintro rfl; rw [hM.o5] at hy'; cases hy')
 have b1:=fun A=>get_ext (kp _ _ hb (by rintro rfl; rw [hM.o5] at hb; cases hb)) A
 have q1:=fun A=>get_ext (kp _ _ hq (by omega)) A
 have o0:=fun A=>get_ext (kp _ _ hM.o0 (by omega)) A
 rw [hgc] at o0
 simp only [go_sem,reduceIte,↓reduceIte,sevalprocAttr,Z0,Z1,bytesOf,eget_same,eget_ne,h13,y1,y1',zl6_1]
 have fin:∀ (L1:En) (H2:List AO) (A:List AO) (x:List PV),H2=H1++(AO.var (x.map .p) :: A)→(∀ t,t≠7→t≠14→t≠103→t≠15→t≠16→t≠114→eget L1 t=eget L t)→eget L1 7=.gs 5 (v5+1) 0 (seen.length+1)→eget L1 14=.ptr H1.length 0→x=rawC vs ⟨cn,ch,⟨ak,an,ap,aks⟩,cp⟩→(if ch then TyE.ft g.types vs ⟨ak,an,ap,aks⟩ else (0,0))=(0,0) →
   wpm (ACall Tryz.prog) mc11e Q ⟨L1,[],H2⟩:=by
  rintro L1 H2 A x rfl hL h7' h14 rfl hz
  have oX:=own_up (show OwnAt H1 iv 6 rs lo H1.length by rw [kl]; exact ko) (AO.var ((rawC vs ⟨cn,ch,⟨ak,an,ap,aks⟩,cp⟩).map .p) :: A)
  rw [← List.length_append] at oX
  refine eE (rawC_len _ _) (by rw [hL _ (by decide) (by decide) (by decide) (by decide) (by decide) (by decide)]; exact h11) h14 (q1 _) (by rw [get_off0]; rfl) oX hn (by rw [List.length_append]; omega) ?_
  intro L' H' iv' hL' hq' ho' hk hl
  rw [List.length_append] at hl
  refine k2 hz L' H' iv' (v5+1) (fun t a1 a2 a3 a4 a5 a6=>(hL' t).trans (hL t a1 a2 a3 a4 a5 a6)) ((hL' _).trans h7') ?_ hq' ho' ?_ (by omega)
  ·refine ⟨?_,?_,?_,?_⟩
   ·exact hk _ _ (get_ext (kp _ _ hM.o0 (by omega)) _) (by omega) (own_lo ho (by omega))
   ·exact hk _ _ (get_ext (kp _ _ hM.o1 (by omega)) _) (by omega) (own_lo ho (by omega))
   ·exact hk _ _ (get_ext (kp _ _ hM.o2 (by omega)) _) (by omega) (own_lo ho (by omega))
   ·rw [nmR_app]
    exact hk _ _ (get_ext k5 _) (by omega) (own_lo ho (by omega))
  ·intro i o hi h5 hiq hni
   exact hk _ _ (get_ext (kp _ _ hi h5) _) hiq hni
 cases ch
 ·simp only [go_sem,reduceIte,↓reduceIte,sevalprocAttr,Z0,Z1,bytesOf]
  exact fin _ _ [] (rawC vs ⟨cn,false,⟨ak,an,ap,aks⟩,cp⟩) rfl (fun t a1 a2 a3 a4 a5 a6=>by rw [eget_ne (Ne.symm a3),eget_ne (Ne.symm a2),eget_ne (Ne.symm a1)]) (by simp only [go_sem,reduceIte,↓reduceIte,sevalprocAttr,Z0,Z1,bytesOf,eget_ne,eget_same]) (by simp only [go_sem,reduceIte,↓reduceIte,sevalprocAttr,Z0,Z1,bytesOf,eget_ne,eget_same]) rfl rfl
 ·have hcall:=hc rfl
  simp only [TyS,hgc] at hcall
  have b1':∀ A,(H1++A)[b]?=some (.var [.p (.s dn),.p (.l (namesC vs)),.p (.l (cs.map CtorD.cells)),.p (.i .i64 dp)]):=b1
  simp only [go_sem,reduceIte,↓reduceIte,sevalprocAttr,Z0,Z1,bytesOf,eget_same,eget_ne,h1,h9,h13,o0,b1',y1]
  refine acall_pure (hcall _) ?_
  have hz:=TyE.ft_z g.types vs (.mk ak an ap aks)
  have k1':=k1 rfl
  simp only at k1' k2
  have fin':=fun L1 H2 A x e1 e2 e3 e4 (hx:x=[.s cn,.b true]++(TyE.ty vs (.mk ak an ap aks)).cells) (hf1:TyE.ft g.types vs ⟨ak,an,ap,aks⟩=(0,0))=>fin L1 H2 A x e1 e2 e3 e4 hx (by rw [if_pos rfl]; exact hf1)
  clear fin k1 k2
  generalize TyE.ty vs (.mk ak an ap aks)=tc at fin' ⊢
  generalize TyE.ft g.types vs (.mk ak an ap aks)=fc at fin' hz k1' ⊢
  obtain ⟨f1,f2⟩:=fc
  by_cases h0:f1=0
  ·subst h0
   have h0':f2=0:=by have:=hz rfl; simpa using this
   subst h0'
   obtain ⟨tk,tn,tS,tks⟩:=tc
   simp only [go_sem,reduceIte,↓reduceIte,sevalprocAttr,Z0,Z1,bytesOf,tyR,TyD.cells,Ft.cells,eget_same,eget_ne]
   refine fin' _ _ [_,_] ([.s cn,.b true]++(TyD.mk tk tn tS tks).cells) rfl (fun t a1 a2 a3 a4 a5 a6=>?_) ?_ ?_ rfl rfl
   ·simp only [go_sem,reduceIte,↓reduceIte,sevalprocAttr,Z0,Z1,bytesOf,eget_ne (Ne.symm a1),eget_ne (Ne.symm a2),eget_ne (Ne.symm a3),eget_ne (Ne.symm a4),eget_ne (Ne.symm a5),eget_ne (Ne.symm a6)]
   ·simp only [go_sem,reduceIte,↓reduceIte,sevalprocAttr,Z0,Z1,bytesOf,eget_ne,eget_same]
   ·simp only [go_sem,reduceIte,↓reduceIte,sevalprocAttr,Z0,Z1,bytesOf,eget_ne,eget_same]
  ·have o1:=fun A=>get_ext (kp _ _ hM.o1 (by omega)) A
   have o2:=fun A=>get_ext (kp _ _ hM.o2 (by omega)) A
   simp only [go_sem,reduceIte,↓reduceIte,sevalprocAttr,Z0,Z1,bytesOf,tyR,h0,tyZ,TyD.cells,TyD.cellsL,Ft.cells,eget_same,eget_ne,dF h0]
   refine drw_same ?_
   simp only [go_sem,reduceIte,↓reduceIte,sevalprocAttr,Z0,Z1,bytesOf,eget_same,eget_ne,h3,h4,o1]
   refine k1' h0 _ _ ?_ ?_ (set_get (o1 _)) (get_set (o2 _) (by omega))
   ·simp only [go_sem,reduceIte,↓reduceIte,sevalprocAttr,Z0,Z1,bytesOf,eget_ne,eget_same]
   ·simp only [go_sem,reduceIte,↓reduceIte,sevalprocAttr,Z0,Z1,bytesOf,eget_ne,eget_same,h3]
end Go.Proofs.YtnelfbcgplooiaaGreat.Pg
/- The reference's table: a datatype's constructors. -/
set_option linter.all false
namespace Go.Proofs.YtnelfbcgplooiaaGreat.Pg
open Go.AM Mc
theorem ctorsF_none {types : List DataD} {vs : List (List UInt8)} {seen : List (List UInt8)} {l : List CtorD} {x : Nat} (h : (ctorsF types vs seen (l.take x)).1 ≠ 0) : ctorsF types vs seen l = ctorsF types vs seen (l.take x) := by
  induction l generalizing x seen with
  | nil => simp
  | cons t l ih =>
    cases x with
    | zero => simp [ctorsF] at h
    | succ x =>
      simp only [List.take_succ_cons, ctorsF] at h ⊢
      generalize (if t.name ∈ seen then ((23, t.pos) : Ft) else (0, 0)) = A at h ⊢
      generalize (if t.has = true then TyE.ft types vs t.arg else (0, 0)) = B at h ⊢
      by_cases e : A.1 = 0
      · by_cases e2 : B.1 = 0
        · simp only [firstF, e, e2, if_true] at h ⊢
          exact ih h
        · simp only [firstF, e, e2, if_true, if_false]
      · rw [firstF_ne e, firstF_ne e]
theorem eL {g:ProgD} {d:DataD} (hc:∀ c∈d.ctors,c.has=true→TyS g d c.arg) (hn:d.ctors.length≤1048576) {L:En} {H:List AO} {b v4 v5:Nat} {seen:List (List UInt8)} {out:List (List AV)} {Q:Ex→St→Prop} {FT:Ft} (hFT:FT=ctorsF g.types d.vars seen d.ctors)
  (h1:eget L 1=.ptr 0 0) (h3:eget L 3=.ptr 1 0) (h4:eget L 4=.gs 2 0 0 0) (h6:eget L 6=.gs 4 v4 0 out.length) (h7:eget L 7=.gs 5 v5 0 seen.length) (h9:eget L 9=.ptr b 0) (h11:eget L 11=.ptr (b+1) 0) (hM:SpH g H seen v5)
  (hb:H[b]?=some (.var (d.cells.map .p))) (hq:H[b+1]?=some (.var [.p (.s d.name),.p (.i .i64 d.vars.length),.p .nl])) (hb5:5<b) (hbl:b+2=H.length) (h4o:H[4]?=some (.rows 3 v4 out)) (hol:out.length≤1048576) (hs:seen.length+d.ctors.length≤4194304)
  (k1:FT.1≠0→∀ L' H',eget L' 2=.gs 2 0 0 0→eget L' 3=.ptr 1 0→H'[1]?=some (.var (FT.cells.map .p))→H'[2]?=some (.rows 3 0 [])→Q .rt ⟨L',[],H'⟩)
  (k2:FT=(0,0)→∀ L' H' iv v4' v5',(∀ t,t=1∨t=3∨t=4∨t=8→eget L' t=eget L t)→eget L' 6=.gs 4 v4' 0 (out.length+1)→eget L' 7=.gs 5 v5' 0 (seen++d.ctors.map CtorD.name).length→SpH g H' (seen++d.ctors.map CtorD.name) v5' →
   H'[4]?=some (.rows 3 v4' (out++[[.p (.s d.name),.p (.i .i64 d.vars.length),iv]]))→OwnAt H' iv 6 (d.ctors.map fun c=>(rawC d.vars c).map .p) (b+2) H'.length→(∀ (i:Nat) o,H[i]?=some o→i<b→i≠4→i≠5→H'[i]?=some o)→H.length≤H'.length→Q .nm ⟨L',[],H'⟩):wpm (ACall Tryz.prog) mc11l Q ⟨L,[],H⟩:=by
 obtain ⟨dn,vs,cs,dp⟩:=d
 have hb':H[b]?=some (.var [.p (.s dn),.p (.l (namesC vs)),.p (.l (cs.map CtorD.cells)),.p (.i .i64 dp)]):=hb
 simp only at hc hn hs hFT hq k2
 simp only [go_sem,reduceIte,↓reduceIte,sevalprocAttr,Z0,Z1,bytesOf,mc11l]
 refine ⟨Nat × Nat × AV × List AO,[1,3,4,6,7,8,9,11,12],fun x st=>st.T=[]∧st.H=x.2.2.2∧eget st.L 1=.ptr 0 0∧eget st.L 3=.ptr 1 0∧eget st.L 4=.gs 2 0 0 0∧eget st.L 6=.gs 4 v4 0 out.length∧eget st.L 7=.gs 5 x.2.1 0 (seen.length+x.1)∧eget st.L 8=eget L 8∧eget st.L 9=.ptr b 0∧eget st.L 11=.ptr (b+1) 0∧eget st.L 12=.p (.i .i64 x.1) ∧
  x.1≤cs.length∧ctorsF g.types vs seen (cs.take x.1)=(0,0)∧SpH g x.2.2.2 (seen++(cs.take x.1).map CtorD.name) x.2.1∧x.2.2.2[b]?=some (.var [.p (.s dn),.p (.l (namesC vs)),.p (.l (cs.map CtorD.cells)),.p (.i .i64 dp)])∧x.2.2.2[b+1]?=some (.var [.p (.s dn),.p (.i .i64 vs.length),x.2.2.1]) ∧
  OwnAt x.2.2.2 x.2.2.1 6 ((cs.take x.1).map fun c=>(rawC vs c).map .p) (b+2) x.2.2.2.length∧(∀ (i:Nat) o,H[i]?=some o→i≤b→i≠5→x.2.2.2[i]?=some o)∧H.length≤x.2.2.2.length,fun x=>cs.length - x.1,⟨(0,v5,.p .nl,H),?_⟩,?_⟩
 ·simp only [go_sem,reduceIte,↓reduceIte,sevalprocAttr,Z0,Z1,bytesOf,eget_keep,eget_same,eget_ne,h1,h3,h4,h6,h7,h9,h11,hb',hq]
  exact ⟨rfl,Nat.zero_le _,rfl,hM,.inl ⟨rfl,rfl⟩,fun i o h _ _=>h,Nat.le_refl _⟩
 rintro ⟨x,w5,iv,HG⟩ st ⟨hT,hH,q1,q3,q4,q6,q7,q8,q9,q11,q12,hx,hz,hMG,gb,gq,hown,hkp,hlen⟩
 obtain ⟨SL,ST,SH⟩:=st
 simp only at hT hH q1 q3 q4 q6 q7 q8 q9 q11 q12 hx hz hMG gb gq hown hkp hlen
 subst hT hH
 simp only [go_sem,reduceIte,↓reduceIte,sevalprocAttr,Z0,Z1,bytesOf,q9,q12,gb,eget_same,eget_ne,List.length_map]
 intro hl
 by_cases hlt:x<cs.length
 ·have d1:decide ((x:Int)<(cs.length:Int))=true:=by simp; omega
  have hlt':((x:Int)<(cs.length:Int)):=by omega
  have ex:=wrN x (by omega)
  have hg:(cs.map CtorD.cells)[x]?=some (CtorD.cells cs[x]):=by simp [hlt]
  have hcall:=hc cs[x] (List.getElem_mem hlt)
  have hft:=ctorsF_step (types:=g.types) (vs:=vs) (seen:=seen) hlt
  rw [hz,firstF_z] at hft
  have hnone:=fun h=>ctorsF_none (types:=g.types) (vs:=vs) (seen:=seen) (l:=cs) (x:=x+1) h
  have hnm:(cs.take (x+1)).map CtorD.name=(cs.take x).map CtorD.name++[cs[x].name]:=by rw [List.take_succ,List.getElem?_eq_getElem hlt,List.map_append]; rfl
  have hrw:(cs.take (x+1)).map (fun c=>(rawC vs c).map AV.p)=(cs.take x).map (fun c=>(rawC vs c).map AV.p)++[(rawC vs cs[x]).map AV.p]:=by rw [List.take_succ,List.getElem?_eq_getElem hlt,List.map_append]; rfl
  generalize cs[x]=c at hg hcall hft hnm hrw
  have hSl:((cs.take x).map CtorD.name).length=x:=by rw [List.length_map,List.length_take]; omega
  have hRl:((cs.take x).map fun c=>(rawC vs c).map AV.p).length=x:=by rw [List.length_map,List.length_take]; omega
  generalize hS:seen++(cs.take x).map CtorD.name=S at hMG hft
  have hSlen:S.length=seen.length+x:=by rw [← hS,List.length_append,hSl]
  obtain ⟨cn,ch,⟨ak,an,ap,aks⟩,cp⟩:=c
  simp only at hft hnm hcall
  have hXl:=fun A=>get_ext hMG.o5 A
  rw [← hSlen] at q7
  simp only [go_sem,reduceIte,↓reduceIte,sevalprocAttr,Z0,Z1,bytesOf,q7,q9,q12,d1,hlt',hg,gb,eget_same,eget_ne,CtorD.cells,TyE.cells,List.length_map,zl6_0]
  refine acall_pure (l5FindO (hXl _)) ?_
  simp only [go_sem,reduceIte,↓reduceIte,sevalprocAttr,Z0,Z1,bytesOf,idxI_nonneg]
  have hyX:(SH++[AO.var [.p (.s cn),.p (.b ch),.p (.i .i64 ak),.p (.s an),.p (.i .i64 ap),.p (.l (TyE.cellsL aks)),.p (.i .i64 cp)]])[SH.length]?=some (AO.var [.p (.s cn),.p (.b ch),.p (.i .i64 ak),.p (.s an),.p (.i .i64 ap),.p (.l (TyE.cellsL aks)),.p (.i .i64 cp)]):=by rw [get_off0]; rfl
  have kX:∀ (i:Nat) o,SH[i]?=some o→(SH++[AO.var [.p (.s cn),.p (.b ch),.p (.i .i64 ak),.p (.s an),.p (.i .i64 ap),.p (.l (TyE.cellsL aks)),.p (.i .i64 cp)]])[i]?=some o:=fun i o h=>get_ext h _
  have hoX:=own_up hown [AO.var [.p (.s cn),.p (.b ch),.p (.i .i64 ak),.p (.s an),.p (.i .i64 ap),.p (.l (TyE.cellsL aks)),.p (.i .i64 cp)]]
  rw [← List.length_append] at hoX
  have hlX:(SH++[AO.var [.p (.s cn),.p (.b ch),.p (.i .i64 ak),.p (.s an),.p (.i .i64 ap),.p (.l (TyE.cellsL aks)),.p (.i .i64 cp)]]).length=SH.length+1:=by simp
  generalize SH++[AO.var [.p (.s cn),.p (.b ch),.p (.i .i64 ak),.p (.s an),.p (.i .i64 ap),.p (.l (TyE.cellsL aks)),.p (.i .i64 cp)]]=H1 at hyX kX hoX hlX ⊢
  have hMX:SpH g H1 S w5:=hMG.step fun i o _ h=>kX i o h
  by_cases hm:cn∈S
  ·rw [if_pos hm,firstF_ne (by simp)] at hft
   have e0:FT=(23,cp):=by rw [hFT,hnone (by rw [hft]; simp),hft]
   simp only [go_sem,reduceIte,↓reduceIte,sevalprocAttr,Z0,Z1,bytesOf,dT hm,eget_same]
   refine drw_same ?_
   simp only [go_sem,reduceIte,↓reduceIte,sevalprocAttr,Z0,Z1,bytesOf,eget_same,eget_ne,q3,q4,hyX,hMX.o1]
   subst e0
   refine k1 (by simp) _ _ ?_ ?_ (set_get hMX.o1) (get_set hMX.o2 (by omega))
   ·simp only [go_sem,reduceIte,↓reduceIte,sevalprocAttr,Z0,Z1,bytesOf,eget_ne,eget_same]
   ·simp only [go_sem,reduceIte,↓reduceIte,sevalprocAttr,Z0,Z1,bytesOf,eget_ne,eget_same,q3]
  ·rw [if_neg hm,firstF_z] at hft
   simp only [go_sem,reduceIte,↓reduceIte,sevalprocAttr,Z0,Z1,bytesOf,dF hm,eget_same]
   refine eN (d:=⟨dn,vs,cs,dp⟩) (c:=⟨cn,ch,⟨ak,an,ap,aks⟩,cp⟩) (y:=SH.length) (lo:=b+2) hcall ?_ ?_ ?_ ?_ ?_ ?_ ?_ hMX (kX _ _ gb) hyX (kX _ _ gq) hoX (by rw [hRl]; omega) (by omega) (by omega) (by omega) (by omega) (by have:=get_lt gq; omega) ?_ ?_
   ·simp only [go_sem,reduceIte,↓reduceIte,sevalprocAttr,Z0,Z1,bytesOf,eget_same,eget_ne,q1]
   ·simp only [go_sem,reduceIte,↓reduceIte,sevalprocAttr,Z0,Z1,bytesOf,eget_same,eget_ne,q3]
   ·simp only [go_sem,reduceIte,↓reduceIte,sevalprocAttr,Z0,Z1,bytesOf,eget_same,eget_ne,q4]
   ·simp only [go_sem,reduceIte,↓reduceIte,sevalprocAttr,Z0,Z1,bytesOf,eget_same,eget_ne,q7]
   ·simp only [go_sem,reduceIte,↓reduceIte,sevalprocAttr,Z0,Z1,bytesOf,eget_same,eget_ne,q9]
   ·simp only [go_sem,reduceIte,↓reduceIte,sevalprocAttr,Z0,Z1,bytesOf,eget_same,eget_ne,q11]
   ·simp only [go_sem,reduceIte,↓reduceIte,sevalprocAttr,Z0,Z1,bytesOf,eget_same,eget_ne]
   ·intro hch hne L' H' r2 r3 r4 r5
    simp only at hch hne r4
    rw [if_pos hch] at hft
    have e0:FT=TyE.ft g.types vs (.mk ak an ap aks):=by rw [hFT,hnone (by rw [hft]; exact hne),hft]
    simp only [go_sem,reduceIte,↓reduceIte,sevalprocAttr,Z0,Z1,bytesOf]
    rw [← e0] at hne r4
    exact k1 hne L' H' r2 r3 r4 r5
   ·intro hz0 L' H' iv' w5' hL h7' hM' hq' ho' hk' hl'
    simp only at hz0
    rw [hz0] at hft
    simp only [go_sem,reduceIte,↓reduceIte,sevalprocAttr,Z0,Z1,bytesOf,eget_same,eget_ne,eget_keep,hL,q1,q3,q4,q6,q8,q9,q11,q12,ex,h7']
    refine ⟨(x+1,w5',iv',H'),⟨rfl,?_,rfl,by simp only; omega,hft,?_,hk' _ _ (kX _ _ gb) (by omega) (by omega) (own_ne hoX (kX _ _ gb)),hq',?_,?_,?_⟩,by simp only; omega⟩
    ·rw [hSlen]; rfl
    ·simp only
     rw [hnm,← List.append_assoc,hS]
     exact hM'
    ·simp only
     rw [hrw]
     exact ho'
    ·intro i o hi hib hi5
     exact hk' _ _ (kX _ _ (hkp i o hi hib hi5)) hi5 (by omega) (own_lo hoX (by omega))
    ·simp only; omega
 ·have:x=cs.length:=by omega
  subst this
  have d1:decide ((cs.length:Int)<(cs.length:Int))=false:=by simp
  rw [List.take_length] at hz hMG hown
  have e0:FT=(0,0):=by rw [hFT,hz]
  have g4:=hkp _ _ h4o (by omega) (by omega)
  have g4X:=fun A=>get_ext g4 A
  have htk:out.take out.length=out:=List.take_length
  simp only [go_sem,reduceIte,↓reduceIte,sevalprocAttr,Z0,Z1,bytesOf,q6,q11,q12,gq,d1,eget_same,eget_ne,g4,g4X]
  refine ⟨by intro r hr; simp at hr; subst hr; rfl,by omega,by omega,by omega,?_⟩
  rw [htk]
  have kX:∀ (i:Nat) o,SH[i]?=some o→i≠4→((SH++[AO.rows 3 0 [[.p (.s dn),.p (.i .i64 vs.length),iv]]]).set 4 (.rows 3 (v4+1) (out++[[.p (.s dn),.p (.i .i64 vs.length),iv]])))[i]?=some o:=fun i o h hne=>get_set (get_ext h _) (Ne.symm hne)
  have lX:((SH++[AO.rows 3 0 [[.p (.s dn),.p (.i .i64 vs.length),iv]]]).set 4 (.rows 3 (v4+1) (out++[[.p (.s dn),.p (.i .i64 vs.length),iv]]))).length=SH.length+1:=by simp
  have k4:=set_get (o':=AO.rows 3 (v4+1) (out++[[.p (.s dn),.p (.i .i64 vs.length),iv]])) (g4X [AO.rows 3 0 [[.p (.s dn),.p (.i .i64 vs.length),iv]]])
  generalize (SH++[AO.rows 3 0 [[.p (.s dn),.p (.i .i64 vs.length),iv]]]).set 4 (.rows 3 (v4+1) (out++[[.p (.s dn),.p (.i .i64 vs.length),iv]]))=H2 at kX lX k4 ⊢
  refine k2 e0 _ H2 iv (v4+1) w5 ?_ ?_ ?_ ⟨kX _ _ hMG.o0 (by omega),kX _ _ hMG.o1 (by omega),kX _ _ hMG.o2 (by omega),kX _ _ hMG.o5 (by omega)⟩ k4 (ownAt_keep hown (fun id v q n e o ho=>kX _ _ ho (by rintro rfl; exact own_lo hown (by omega) _ _ _ e)) (by omega)) ?_ (by omega)
  ·rintro t (rfl | rfl | rfl | rfl)
   ·simp only [go_sem,reduceIte,↓reduceIte,sevalprocAttr,Z0,Z1,bytesOf,eget_ne,eget_same,q1,h1]
   ·simp only [go_sem,reduceIte,↓reduceIte,sevalprocAttr,Z0,Z1,bytesOf,eget_ne,eget_same,q3,h3]
   ·simp only [go_sem,reduceIte,↓reduceIte,sevalprocAttr,Z0,Z1,bytesOf,eget_ne,eget_same,q4,h4]
   ·simp only [go_sem,reduceIte,↓reduceIte,sevalprocAttr,Z0,Z1,bytesOf,eget_ne,eget_same,q8]
  ·simp only [go_sem,reduceIte,↓reduceIte,sevalprocAttr,Z0,Z1,bytesOf,eget_ne,eget_same]
  ·simp only [go_sem,reduceIte,↓reduceIte,sevalprocAttr,Z0,Z1,bytesOf,eget_ne,eget_same,q7,List.length_append,List.length_map]
  ·intro i o hi hib hi4 hi5
   exact kX _ _ (hkp i o hi (by omega) hi5) hi4
end Go.Proofs.YtnelfbcgplooiaaGreat.Pg
/- The reference's table. -/
set_option linter.all false
namespace Go.Proofs.YtnelfbcgplooiaaGreat.Pg
open Go.AM Mc
theorem lent_rawL {H : List AO} {vs : List (List UInt8)} {cs : List CtorD} {iv : AV} (h : OwnR H iv 6 (cs.map fun c => (rawC vs c).map .p)) : Lent H iv (.p (.l ((cs.map (CtorD.info vs)).map InfoC.cells))) := by
  rcases h with ⟨rfl, hk⟩ | ⟨id, ver, rfl, h2⟩
  · have : cs = [] := by simpa using hk
    subst this
    exact .nl
  · refine .gs _ _ _ _ 6 _ _ h2 (by simp) (by simp) ?_ ?_
    · intro y hy
      obtain ⟨c, hc, rfl⟩ := List.mem_map.1 hy
      exact InfoC.cells_len c
    · intro i r y q c p hr hy hq hp
      simp only [Nat.zero_add, List.getElem?_map] at hr hy
      cases hci : cs[i]? with
      | none => rw [hci] at hr; cases hr
      | some ci =>
        rw [hci] at hr hy
        cases hr
        simp only [Option.map_some, Option.some.injEq] at hy
        subst hy
        exact lent_rawC _ vs ci q c p hq hp
def RowsOk (H:List AO) (hi:Nat) (ds:List DataD) (rs:List (List AV)):Prop :=
 rs.length=ds.length∧∀ (i:Nat) d r,ds[i]?=some d→rs[i]?=some r→∃ iv,r=[.p (.s d.name),.p (.i .i64 d.vars.length),iv]∧OwnAt H iv 6 (d.ctors.map fun c=>(rawC d.vars c).map .p) 6 hi
theorem RowsOk.step {H H':List AO} {hi hi':Nat} {ds:List DataD} {rs:List (List AV)} (h:RowsOk H hi ds rs) (hk:∀ (i:Nat) o,6≤i→i<hi→H[i]?=some o→H'[i]?=some o) (hl:hi≤hi'):RowsOk H' hi' ds rs:=by
 refine ⟨h.1,fun i d r hd hr=>?_⟩
 obtain ⟨iv,e,ho⟩:=h.2 i d r hd hr
 refine ⟨iv,e,?_⟩
 rcases ho with ho | ⟨id,ver,h0,h1,h2,h3⟩
 ·exact .inl ho
 ·exact .inr ⟨id,ver,h0,by omega,h2,hk _ _ h0 h1 h3⟩
theorem RowsOk.snoc {H:List AO} {hi:Nat} {ds:List DataD} {rs:List (List AV)} (h:RowsOk H hi ds rs) {d:DataD} {iv:AV} (ho:OwnAt H iv 6 (d.ctors.map fun c=>(rawC d.vars c).map .p) 6 hi):RowsOk H hi (ds++[d]) (rs++[[.p (.s d.name),.p (.i .i64 d.vars.length),iv]]):=by
 refine ⟨by simp [h.1],fun i e r hd hr=>?_⟩
 by_cases hlt:i<ds.length
 ·rw [List.getElem?_append_left hlt] at hd
  rw [List.getElem?_append_left (by rw [h.1]; exact hlt)] at hr
  exact h.2 i e r hd hr
 ·rw [List.getElem?_append_right (by omega)] at hd
  rw [List.getElem?_append_right (by rw [h.1]; omega),h.1] at hr
  cases hi':i - ds.length with
  | zero=>rw [hi'] at hd hr; cases hd; cases hr; exact ⟨iv,rfl,ho⟩
  | succ m=>rw [hi'] at hd; simp at hd
theorem lent_out {H : List AO} {hi : Nat} {ds : List DataD} {rs : List (List AV)} (h : RowsOk H hi ds rs) {id ver : Nat} (hid : H[id]? = some (.rows 3 ver rs)) : Lent H (.gs id ver 0 rs.length) (.p (.l ((ds.map DataD.info).map InfoD.cells))) := by
  refine .gs _ _ _ _ 3 rs _ hid (by simp) (by simp [h.1]) ?_ ?_
  · intro y hy
    obtain ⟨c, hc, rfl⟩ := List.mem_map.1 hy
    rfl
  · intro i r y q c p hr hy hq hp
    simp only [Nat.zero_add, List.getElem?_map] at hr hy
    cases hci : ds[i]? with
    | none => rw [hci] at hy; cases hy
    | some d =>
      rw [hci] at hy
      simp only [Option.map_some, Option.some.injEq] at hy
      subst hy
      obtain ⟨iv, rfl, ho⟩ := h.2 i d r hci hr
      match q, hq, hp with
      | 0, hq, hp => cases hq; cases hp; exact .pure _
      | 1, hq, hp => cases hq; cases hp; exact .pure _
      | 2, hq, hp => cases hq; cases hp; exact lent_rawL ho.own
      | q + 3, hq, hp => simp at hq
theorem lent_tab {H : List AO} {a : AV} {x : List InfoD × Ft} (h : Lent H a (.p (.l (x.1.map InfoD.cells)))) : Lent H (.tup [a, av (Ft.cells x.2)]) (tabAV x) := by
  refine .tup _ _ rfl fun j y z hy hz => ?_
  match j with
  | 0 => cases hy; cases hz; exact h
  | 1 =>
    cases hy; cases hz
    refine .st _ _ rfl fun j y z hy hz => ?_
    match j with
    | 0 => cases hy; cases hz; exact .pure _
    | 1 => cases hy; cases hz; exact .pure _
    | j + 2 => simp [Ft.cells] at hy
  | j + 2 => simp at hy
theorem lent_none {H:List AO} (h:H[2]?=some (.rows 3 0 [])) (f:Ft):Lent H (.tup [.gs 2 0 0 0,av (Ft.cells f)]) (tabAV ([],f)) :=
 lent_tab (x:=([],f)) (.gs _ _ _ _ 3 [] [] h (by simp) rfl (by simp) (by intro i r y q c p hr; simp at hr))
theorem datasF_none {types : List DataD} {seen : List (List UInt8)} {l : List DataD} {x : Nat} (h : (datasF types seen (l.take x)).1 ≠ 0) : datasF types seen l = datasF types seen (l.take x) := by
  induction l generalizing x seen with
  | nil => simp
  | cons t l ih =>
    cases x with
    | zero => simp [datasF] at h
    | succ x =>
      simp only [List.take_succ_cons, datasF] at h ⊢
      generalize dataF types seen t = A at h ⊢
      by_cases e : A.1 = 0
      · simp only [firstF, e, if_true] at h ⊢
        exact ih h
      · rw [firstF_ne e, firstF_ne e]
theorem varsF_none {p : Int} {ah l : List (List UInt8)} {x : Nat} (h : (varsF p ah (l.take x)).1 ≠ 0) : varsF p ah l = varsF p ah (l.take x) := by
  induction l generalizing x ah with
  | nil => simp
  | cons t l ih =>
    cases x with
    | zero => simp [varsF] at h
    | succ x =>
      simp only [List.take_succ_cons, varsF] at h ⊢
      split
      · rfl
      · rename_i hn
        rw [if_neg hn] at h
        exact ih h
theorem tableS (g:ProgD) (hb:g.sz≤1048576) (H:List AO):ACall Tryz.prog 11 [av g.cells] H (pureQ (tabAV (tableR g)) H):=by
 refine (acall_fresh (R:=fun r=>r=tabAV (tableR g)) (Q:=fun r H'=>Lent H' r (tabAV (tableR g))) ?_ ?_ (fun r H' h=>⟨_,h,rfl⟩)).mono (fun r H' ⟨h1,h2⟩=>⟨h2,h1⟩)
 rotate_left
 ·intro b hb
  simp only [List.mem_cons,List.not_mem_nil,or_false] at hb
  subst hb
  exact noid_st _ (by intro a ha; obtain ⟨p,_,rfl⟩:=List.mem_map.1 ha; exact noid_p p)
 rw [ProgD.sz,datasSz_eq] at hb
 have htl:=sumSz_len DataD.sz g.types
 have hgc:∃ b0 b1 b2 b3 b4 b5 b6,g.body.cells=[b0,b1,b2,b3,b4,b5,b6]:=by
  obtain ⟨ts,⟨k,n,u,t,p,ks,as'⟩⟩:=g
  exact ⟨_,_,_,_,_,_,_,rfl⟩
 obtain ⟨b0,b1,b2,b3,b4,b5,b6,hgc⟩:=hgc
 have hgg:g.cells=[.l (g.types.map DataD.cells),b0,b1,b2,b3,b4,b5,b6]:=by rw [ProgD.cells,hgc]
 have hok:=progOkS g
 have hmany:=l5ManyC g
 rw [hgg] at hok hmany ⊢
 refine call11 (by simp) ?_
 simp only [go_sem,reduceIte,↓reduceIte,sevalprocAttr,Z0,Z1,bytesOf,mc11,mr11]
 refine acall_pure (hok _) ?_
 cases h1:g.ok
 ·have e:tableR g=([],(20,0)):=by rw [tableR,h1]; rfl
  simp only [go_sem,reduceIte,↓reduceIte,sevalprocAttr,Z0,Z1,bytesOf,h1]
  rw [e]
  exact lent_none rfl (20,0)
 have e:tableR g=(if (tableF g.types).1=0 then (tableV g.types,(0,0)) else ([],tableF g.types)):=by rw [tableR,h1]; rfl
 simp only [go_sem,reduceIte,↓reduceIte,sevalprocAttr,Z0,Z1,bytesOf,h1]
 refine acall_pure (hmany _) ?_
 have hmz:=firstF_zz (manyF_z 0 g.types) (typesF_z [] g.types)
 have htf:tableF g.types=firstF (firstF (manyF 0 g.types) (typesF [] g.types)) (datasF g.types [] g.types):=by rw [tableF,firstF_assoc]
 generalize hm1:firstF (manyF 0 g.types) (typesF [] g.types)=m1 at hmz htf ⊢
 obtain ⟨m1,m2⟩:=m1
 by_cases hm0:m1=0
 case neg =>
  have et:tableF g.types=(m1,m2):=by rw [htf,firstF_ne hm0]
  simp only [go_sem,reduceIte,↓reduceIte,sevalprocAttr,Z0,Z1,bytesOf,Ft.cells,dF hm0]
  refine drw_same ?_
  simp only [go_sem,reduceIte,↓reduceIte,sevalprocAttr,Z0,Z1,bytesOf]
  rw [e,et,if_neg hm0]
  exact lent_none rfl (m1,m2)
 subst hm0
 have:m2=0:=by have:=hmz rfl; simpa using this
 subst this
 rw [firstF_z] at htf
 have hty0:typesF [] g.types=(0,0):=by
  have:=hm1
  unfold firstF at this
  split at this
  ·exact this
  ·rename_i h; rw [this] at h; exact (h rfl).elim
 have hA:=(typesF_apart [] g.types hty0).1
 have hoks:∀ d∈g.types,d.ok=true:=by
  rw [ProgD.ok,Bool.and_eq_true] at h1
  exact List.all_eq_true.1 h1.1
 simp only [go_sem,reduceIte,↓reduceIte,sevalprocAttr,Z0,Z1,bytesOf,Ft.cells]
 have hM0:SpH g [AO.var [.p (.l (g.types.map DataD.cells)),.p b0,.p b1,.p b2,.p b3,.p b4,.p b5,.p b6],AO.var [.p (.i .i64 0),.p (.i .i64 0)],AO.rows 3 0 [],AO.var [.p (.i .i64 0),.p (.i .i64 0)],AO.rows 3 0 [],AO.rows 1 0 []] [] 0:=⟨by rw [hgg]; rfl,rfl,rfl,rfl⟩
 have h40:[AO.var [.p (.l (g.types.map DataD.cells)),.p b0,.p b1,.p b2,.p b3,.p b4,.p b5,.p b6],AO.var [.p (.i .i64 0),.p (.i .i64 0)],AO.rows 3 0 [],AO.var [.p (.i .i64 0),.p (.i .i64 0)],AO.rows 3 0 [],AO.rows 1 0 []][4]?=some (AO.rows 3 0 []):=rfl
 have hl0:6≤[AO.var [.p (.l (g.types.map DataD.cells)),.p b0,.p b1,.p b2,.p b3,.p b4,.p b5,.p b6],AO.var [.p (.i .i64 0),.p (.i .i64 0)],AO.rows 3 0 [],AO.var [.p (.i .i64 0),.p (.i .i64 0)],AO.rows 3 0 [],AO.rows 1 0 []].length:=by simp
 generalize [AO.var [.p (.l (g.types.map DataD.cells)),.p b0,.p b1,.p b2,.p b3,.p b4,.p b5,.p b6],AO.var [.p (.i .i64 0),.p (.i .i64 0)],AO.rows 3 0 [],AO.var [.p (.i .i64 0),.p (.i .i64 0)],AO.rows 3 0 [],AO.rows 1 0 []]=HZ at hM0 h40 hl0 ⊢
 refine ⟨Nat × Nat × Nat × List (List AV) × List AO,[1,3,4,6,7,8],fun x st=>(x.1≤g.types.length∧datasF g.types [] (g.types.take x.1)=(0,0)∧SpH g x.2.2.2.2 ((g.types.take x.1).flatMap fun d=>d.ctors.map CtorD.name) x.2.2.1∧x.2.2.2.2[4]?=some (.rows 3 x.2.1 x.2.2.2.1)∧RowsOk x.2.2.2.2 x.2.2.2.2.length (g.types.take x.1) x.2.2.2.1∧6≤x.2.2.2.2.length) ∧
  st.T=[]∧st.H=x.2.2.2.2∧eget st.L 1=.ptr 0 0∧eget st.L 3=.ptr 1 0∧eget st.L 4=.gs 2 0 0 0∧eget st.L 6=.gs 4 x.2.1 0 x.2.2.2.1.length∧eget st.L 7=.gs 5 x.2.2.1 0 ((g.types.take x.1).flatMap fun d=>d.ctors.map CtorD.name).length∧eget st.L 8=.p (.i .i64 x.1),fun x=>g.types.length - x.1,⟨(0,0,0,[],HZ),?_⟩,?_⟩
 ·simp only [go_sem,reduceIte,↓reduceIte,sevalprocAttr,Z0,Z1,bytesOf,List.take_zero,List.flatMap_nil,datasF]
  exact ⟨Nat.zero_le _,hM0,h40,⟨rfl,fun i d r hd=>by simp at hd⟩,hl0⟩
 rintro ⟨x,v4,v5,out,HG⟩ st ⟨⟨hx,hz,hM,h4,hR,hl6⟩,hT,hH,q1,q3,q4,q6,q7,q8⟩
 obtain ⟨SL,ST,SH⟩:=st
 simp only at hx hz hM h4 hR hl6 hT hH q1 q3 q4 q6 q7 q8
 subst hT hH
 have g0:=hM.o0
 rw [hgg] at g0
 simp only [List.map_cons,List.map_nil] at g0
 simp only [go_sem,reduceIte,↓reduceIte,sevalprocAttr,Z0,Z1,bytesOf,g0,q1,q8,eget_same,eget_ne,List.length_map]
 intro hl
 rw [maxLe] at hl
 by_cases hlt:x<g.types.length
 ·have d1:decide ((x:Int)<(g.types.length:Int))=true:=by simp; omega
  have hlt':((x:Int)<(g.types.length:Int)):=by omega
  have ex:=wrN x (by omega)
  have hg:(g.types.map DataD.cells)[x]?=some (DataD.cells g.types[x]):=by simp [hlt]
  have hvf:=datasF_step (types:=g.types) (seen:=[]) hlt
  rw [List.nil_append,hz,firstF_z] at hvf
  have hnone:=fun h=>datasF_none (types:=g.types) (seen:=[]) (l:=g.types) (x:=x+1) h
  have hnm:((g.types.take (x+1)).flatMap fun d=>d.ctors.map CtorD.name)=((g.types.take x).flatMap fun d=>d.ctors.map CtorD.name)++g.types[x].ctors.map CtorD.name:=by
   rw [List.take_succ,List.getElem?_eq_getElem hlt,List.flatMap_append]; simp
  have htk:g.types.take (x+1)=g.types.take x++[g.types[x]]:=by rw [List.take_succ,List.getElem?_eq_getElem hlt]; rfl
  have hsl:((g.types.take x).flatMap fun d=>d.ctors.map CtorD.name).length≤2097152:=by
   have:=namesLen (l:=g.types.take x)
   have:=sumSz_take DataD.sz g.types x
   omega
  have hdz:g.types[x].sz≤1048576:=by have:=sumSz_mem DataD.sz (List.getElem_mem hlt); omega
  have hdok:=hoks _ (List.getElem_mem hlt)
  have hol:out.length=x:=by rw [hR.1,List.length_take]; omega
  generalize g.types[x]=d at hg hvf hnm htk hdz hdok
  generalize (g.types.take x).flatMap (fun d=>d.ctors.map CtorD.name)=S at hM hvf hnm hsl q7 ⊢
  obtain ⟨dn,vs,cs,dp⟩:=d
  rw [DataD.sz,namesSz_eq,ctorsSz_eq] at hdz
  simp only at hnm hdz
  have hcl:=sumSz_len CtorD.sz cs
  have hvl:=sumSz_len List.length vs
  have hc:∀ c∈cs,c.has=true→TyS g ⟨dn,vs,cs,dp⟩ c.arg:=fun c hc hch=>tyS g hA _ _ c.arg (Nat.lt_succ_self _) (by have:=sumSz_mem CtorD.sz hc; rw [CtorD.sz] at this; omega) (by
   rw [DataD.ok,Bool.and_eq_true] at hdok
   have:=List.all_eq_true.1 hdok.1 c hc
   rw [CtorD.ok,hch] at this
   simp at this
   exact this.2.2)
  simp only [go_sem,reduceIte,↓reduceIte,sevalprocAttr,Z0,Z1,bytesOf,d1,hlt',hg,g0,q1,q8,eget_same,eget_ne,DataD.cells,List.length_map]
  have kX:∀ (i:Nat) o,SH[i]?=some o→(SH++[AO.var [.p (.s dn),.p (.l (namesC vs)),.p (.l (cs.map CtorD.cells)),.p (.i .i64 dp)]])[i]?=some o:=fun i o h=>get_ext h _
  have bX:(SH++[AO.var [.p (.s dn),.p (.l (namesC vs)),.p (.l (cs.map CtorD.cells)),.p (.i .i64 dp)]])[SH.length]?=some (AO.var [.p (.s dn),.p (.l (namesC vs)),.p (.l (cs.map CtorD.cells)),.p (.i .i64 dp)]):=by rw [get_off0]; rfl
  have lX:(SH++[AO.var [.p (.s dn),.p (.l (namesC vs)),.p (.l (cs.map CtorD.cells)),.p (.i .i64 dp)]]).length=SH.length+1:=by simp
  generalize SH++[AO.var [.p (.s dn),.p (.l (namesC vs)),.p (.l (cs.map CtorD.cells)),.p (.i .i64 dp)]]=H1 at kX bX lX ⊢
  have hM1:SpH g H1 S v5:=hM.step fun i o _ h=>kX i o h
  rw [dataF] at hvf
  refine ⟨Nat,[1,3,4,6,7,8,9,10],fun y st=>(y≤vs.length∧varsF dp [] (vs.take y)=(0,0))∧st.T=[]∧st.H=H1∧eget st.L 1=.ptr 0 0∧eget st.L 3=.ptr 1 0∧eget st.L 4=.gs 2 0 0 0∧eget st.L 6=.gs 4 v4 0 out.length∧eget st.L 7=.gs 5 v5 0 S.length∧eget st.L 8=.p (.i .i64 x)∧eget st.L 9=.ptr SH.length 0∧eget st.L 10=.p (.i .i64 y),fun y=>vs.length - y,⟨0,?_⟩,?_⟩
  ·simp only [go_sem,reduceIte,↓reduceIte,sevalprocAttr,Z0,Z1,bytesOf,List.take_zero,varsF,eget_keep,eget_same,eget_ne,q1,q3,q4,q6,q7,q8]
   exact Nat.zero_le _
  rintro y st ⟨⟨hy,hv⟩,hT,hH,w1,w3,w4,w6,w7,w8,w9,w10⟩
  obtain ⟨TL,TT,TH⟩:=st
  simp only at hT hH w1 w3 w4 w6 w7 w8 w9 w10
  subst hT hH
  simp only [go_sem,reduceIte,↓reduceIte,sevalprocAttr,Z0,Z1,bytesOf,bX,w9,w10,eget_same,eget_ne,namesC_len]
  intro hl2
  by_cases hylt:y<vs.length
  ·have d2:decide ((y:Int)<(vs.length:Int))=true:=by simp; omega
   have hylt':((y:Int)<(vs.length:Int)):=by omega
   have ey:=wrN y (by omega)
   have hgv:=namesC_get vs hylt
   have hstep:=varsF_step (p:=dp) (ah:=[]) hylt
   rw [List.nil_append,hv,firstF_z] at hstep
   have hvn:=fun h=>varsF_none (p:=dp) (ah:=[]) (l:=vs) (x:=y+1) h
   have hil:=idxLt (l:=vs) (x:=y) (s:=vs[y]) (by simp [hylt])
   generalize vs[y]=v at hgv hstep hil
   simp only [go_sem,reduceIte,↓reduceIte,sevalprocAttr,Z0,Z1,bytesOf,d2,eget_same]
   refine drw_same ?_
   simp only [go_sem,reduceIte,↓reduceIte,sevalprocAttr,Z0,Z1,bytesOf,bX,w9,w10,eget_same,eget_ne,hylt',hgv,namesC_len]
   refine pcall_pure (fun A=>l5FindC vs v _) (Hext.refl _) ?_
   simp only [go_sem,reduceIte,↓reduceIte,sevalprocAttr,Z0,Z1,bytesOf,hil,eget_same,eget_ne,w10]
   by_cases hmv:v∈vs.take y
   ·rw [if_pos hmv] at hstep
    have et:tableF g.types=(22,dp):=by
     have e1:varsF dp [] vs=(22,dp):=by rw [hvn (by rw [hstep]; simp),hstep]
     rw [htf,hnone (by rw [hvf,e1]; simp [firstF]),hvf,e1,firstF_ne (by simp)]
    simp only [go_sem,reduceIte,↓reduceIte,sevalprocAttr,Z0,Z1,bytesOf,dT hmv,eget_same]
    refine drw_same ?_
    simp only [go_sem,reduceIte,↓reduceIte,sevalprocAttr,Z0,Z1,bytesOf,bX,w3,w4,w9,hM1.o1,eget_same,eget_ne]
    rw [set_get hM1.o1]
    simp only [go_sem,reduceIte,↓reduceIte,sevalprocAttr,Z0,Z1,bytesOf,eget_same,eget_ne,w4]
    rw [e,et,if_neg (by simp)]
    exact lent_none (get_set hM1.o2 (by omega)) (22,dp)
   ·rw [if_neg hmv] at hstep
    simp only [go_sem,reduceIte,↓reduceIte,sevalprocAttr,Z0,Z1,bytesOf,dF hmv,ey,eget_same,eget_ne,eget_keep,w1,w3,w4,w6,w7,w8,w9,w10]
    exact ⟨y+1,⟨⟨by omega,hstep⟩,rfl⟩,by omega⟩
  ·have:y=vs.length:=by omega
   subst this
   have d2:decide ((vs.length:Int)<(vs.length:Int))=false:=by simp
   rw [List.take_length] at hv
   rw [hv,firstF_z] at hvf
   simp only [go_sem,reduceIte,↓reduceIte,sevalprocAttr,Z0,Z1,bytesOf,d2,bX,w9,eget_same,eget_ne,namesC_len]
   intro _
   refine eL (d:=⟨dn,vs,cs,dp⟩) (b:=SH.length) (v4:=v4) (v5:=v5) (seen:=S) (out:=out) (g:=g) hc (by simp only; omega) rfl ?_ ?_ ?_ ?_ ?_ ?_ ?_ (hM1.step fun i o _ h=>get_ext h _) (get_ext bX _) ?_ (by omega) (by simp [lX]) (get_ext (kX _ _ h4) _) (by omega) (by simp only; omega) ?_ ?_
   ·simp only [go_sem,reduceIte,↓reduceIte,sevalprocAttr,Z0,Z1,bytesOf,eget_same,eget_ne,w1]
   ·simp only [go_sem,reduceIte,↓reduceIte,sevalprocAttr,Z0,Z1,bytesOf,eget_same,eget_ne,w3]
   ·simp only [go_sem,reduceIte,↓reduceIte,sevalprocAttr,Z0,Z1,bytesOf,eget_same,eget_ne,w4]
   ·simp only [go_sem,reduceIte,↓reduceIte,sevalprocAttr,Z0,Z1,bytesOf,eget_same,eget_ne,w6]
   ·simp only [go_sem,reduceIte,↓reduceIte,sevalprocAttr,Z0,Z1,bytesOf,eget_same,eget_ne,w7]
   ·simp only [go_sem,reduceIte,↓reduceIte,sevalprocAttr,Z0,Z1,bytesOf,eget_same,eget_ne,w9]
   ·simp only [go_sem,reduceIte,↓reduceIte,sevalprocAttr,Z0,Z1,bytesOf,eget_same,eget_ne,lX]
   ·rw [← lX,get_off0]; rfl
   ·intro hne L' H' r2 r3 r1 rn
    have et:tableF g.types=ctorsF g.types vs S cs:=by rw [htf,hnone (by rw [hvf]; exact hne),hvf]
    have hne':(ctorsF g.types vs S cs).1≠0:=hne
    simp only [go_sem,reduceIte,↓reduceIte,sevalprocAttr,Z0,Z1,bytesOf,r2,r3]
    rw [r1]
    simp only [go_sem,reduceIte,↓reduceIte,sevalprocAttr,Z0,Z1,bytesOf,Ft.cells]
    rw [e,et,if_neg hne']
    exact lent_none rn _
   ·intro hFz L' H' iv v4' v5' hL' h6' h7' hM' h4' ho' hk' hl'
    simp only at hFz hM' h4' ho' h7'
    have r1:eget L' 1=.ptr 0 0:=by rw [hL' 1 (by simp)]; simp only [go_sem,reduceIte,↓reduceIte,sevalprocAttr,Z0,Z1,bytesOf,eget_same,eget_ne,w1]
    have r3:eget L' 3=.ptr 1 0:=by rw [hL' 3 (by simp)]; simp only [go_sem,reduceIte,↓reduceIte,sevalprocAttr,Z0,Z1,bytesOf,eget_same,eget_ne,w3]
    have r4:eget L' 4=.gs 2 0 0 0:=by rw [hL' 4 (by simp)]; simp only [go_sem,reduceIte,↓reduceIte,sevalprocAttr,Z0,Z1,bytesOf,eget_same,eget_ne,w4]
    have r8:eget L' 8=.p (.i .i64 x):=by rw [hL' 8 (by simp)]; simp only [go_sem,reduceIte,↓reduceIte,sevalprocAttr,Z0,Z1,bytesOf,eget_same,eget_ne,w8]
    simp only [go_sem,reduceIte,↓reduceIte,sevalprocAttr,Z0,Z1,bytesOf,eget_same,eget_ne,eget_keep,r1,r3,r4,r8,h6',h7',ex]
    refine ⟨(x+1,v4',v5',_,H'),⟨⟨by simp only; omega,?_,?_,h4',?_,by simp only; rw [List.length_append] at hl'; omega⟩,rfl,?_,?_,rfl⟩,by simp only; omega⟩
    ·simp only
     rw [hvf]; exact hFz
    ·simp only
     rw [hnm]; exact hM'
    ·simp only
     rw [htk]
     refine RowsOk.snoc (hR.step (fun i o h1 h2 h3=>hk' i o (get_ext (kX _ _ h3) _) h2 (by omega) (by omega)) ?_) ?_
     ·rw [List.length_append] at hl'; omega
     ·rcases ho' with h | ⟨id,ver,h0,h1,h2,h3⟩
      ·exact .inl h
      ·exact .inr ⟨id,ver,by omega,h1,h2,h3⟩
    ·simp
    ·simp only [hnm,List.length_append]
 ·have:x=g.types.length:=by omega
  subst this
  have d1:decide ((g.types.length:Int)<(g.types.length:Int))=false:=by simp
  rw [List.take_length] at hz hR
  simp only [go_sem,reduceIte,↓reduceIte,sevalprocAttr,Z0,Z1,bytesOf,d1,hM.o1,q3,q6,eget_same,eget_ne]
  rw [set_get hM.o1]
  simp only [go_sem,reduceIte,↓reduceIte,sevalprocAttr,Z0,Z1,bytesOf,eget_same,eget_ne,q6]
  rw [e,htf,hz,if_pos rfl]
  have:=lent_out (hR.step (H':=SH.set 1 (.var [.p (.i .i64 0),.p (.i .i64 0)])) (fun i o h1 h2 h3=>get_set h3 (by omega)) (Nat.le_refl _)) (id:=4) (ver:=v4) (get_set h4 (by omega))
  exact lent_tab (x:=(tableV g.types,(0,0))) this
end Go.Proofs.YtnelfbcgplooiaaGreat.Pg
/- Table: the law on the abstract machine. -/
set_option linter.all false
namespace Go.Proofs.YtnelfbcgplooiaaGreat.Pg
open Go.AM Mc
theorem eqFaultT (f:Ft) (H:List AO):ACall Tryz.prog 9 [av f.cells,av f.cells] H (pureQ (.p (.b true)) H):=by
 refine acall_drop1 ?_ (tf_p _)
 refine call9 (by simp) ?_
 simp only [go_sem,reduceIte,↓reduceIte,sevalprocAttr,Z0,Z1,bytesOf,mc9,mr9,Ft.cells,decide_true,Bool.not_true,Bool.and_self]
 exact ⟨_,rfl⟩
theorem len8 {r:List AV} (h:r.length=8):∃ a b c d e f g i,r=[a,b,c,d,e,f,g,i]:=by match r,h with | [a,b,c,d,e,f,g,i],_=>exact ⟨_,_,_,_,_,_,_,_,rfl⟩
theorem tableO (g:ProgD) (hb:g.sz≤1048576) {H:List AO} {x:AV} (hl:Lent H x (av g.cells)) :
  ACall Tryz.prog 12 [x] H (fun r H'=>∃ a ids,r=.tup [a,av (Ft.cells (tableR g).2)]∧Own H' (.s 3 (tabTV g)) a ids∧ids.Nodup∧(∀ i∈ids,H.length≤i)∧∃ G,H'=H++G):=by
 refine acall_tree (mk:=fun a=>.tup [a,av (Ft.cells (tableR g).2)]) ((tableN g hb []).mono ?_) (lentAll_cons hl (lentAll_nil _)) (grTab g) ?_
 ·rintro r H' ⟨ov,ids,h1,h2,h3,_,_⟩
  exact ⟨ov,ids,h1,h2,h3⟩
 ·intro ids b a a' h
  refine .tup _ _ rfl fun j x y hx hy=>?_
  match j with
  | 0=>cases hx; cases hy; exact h
  | 1=>cases hx; cases hy; exact .g _ (grnd_st _ (by intro c hc; simp [Ft.cells] at hc; rcases hc with rfl | rfl <;> exact grnd_i _ _))
  | j+2=>simp at hx
theorem noid_av (l:List PV):Noid (av l):=noid_st _ (by intro c hc; obtain ⟨x,_,rfl⟩:=List.mem_map.1 hc; exact noid_p x)
theorem noid_one {x:AV} (h:Noid x):∀ b∈[x],Noid b:=by intro b hb; rw [List.mem_singleton] at hb; rw [hb]; exact h
theorem toProgP (g:ProgD) (hb:g.sz≤1048576) (H:List AO):ACall Tryz.prog 7 [av g.cells] H (pureQ (av g.cells) H) :=
 (acall_fresh (R:=fun r=>r=av g.cells) (Q:=fun r H'=>Lent H' r (av g.cells)) ((toProgN g hb []).mono (by rintro r H' ⟨cs,js,rfl,h,_⟩; exact lentProg h)) (noid_one (noid_av _)) (fun r H' h=>⟨_,h,rfl⟩)).mono fun r H' ⟨h1,h2⟩=>⟨h2,h1⟩
theorem tableP (g:ProgD) (hb:g.sz≤1048576) (H:List AO):ACall Tryz.prog 12 [av g.cells] H (pureQ (tabAV (tableR g)) H) :=
 (acall_fresh (R:=fun r=>r=tabAV (tableR g)) (Q:=fun r H'=>Lent H' r (tabAV (tableR g))) ((tableN g hb []).mono (by
  rintro r H' ⟨ov,ids,rfl,h,_⟩
  refine .tup _ _ rfl fun j x y hx hy=>?_
  match j with
  | 0=>cases hx; cases hy; exact pvTab g ▸ h.lent
  | 1=>cases hx; cases hy; exact .same _ (grnd_st _ (by intro c hc; simp [Ft.cells] at hc; rcases hc with rfl | rfl <;> exact grnd_i _ _))
  | j+2=>simp at hx)) (noid_one (noid_av _)) (fun r H' h=>⟨_,h,rfl⟩)).mono fun r H' ⟨h1,h2⟩=>⟨h2,h1⟩
theorem lawTable (g:ProgD):ACall Tryz.prog 4 [av g.cells] [] (fun r _=>r=.p (.b true)):=by
 have hsz:=szProgC g
 have hgc:∃ c0 c1 c2 c3 c4 c5 c6 c7,g.cells=[c0,c1,c2,c3,c4,c5,c6,c7]:=by
  obtain ⟨ts,⟨k,n,u,t,p,ks,as'⟩⟩:=g
  exact ⟨_,_,_,_,_,_,_,_,rfl⟩
 obtain ⟨c0,c1,c2,c3,c4,c5,c6,c7,hgc⟩:=hgc
 have hto:=toProgP g
 have htoN:=toProgN g
 have heq:=eqProgC g
 have hS:=tableS g
 have hC:=tableP g
 have hO:=fun (hb:g.sz≤1048576) (H:List AO) (x:AV) (hl:Lent H x (av g.cells))=>tableO g hb hl
 have hLP:=fun (H:List AO) (cs:List AV) (ids:List Nat) (h:OwnCs H g.tv cs ids)=>lentProg h
 rw [hgc] at hsz hto htoN heq hS hC hO hLP ⊢
 have hfe:∃ f1 f2,Ft.cells (tableR g).2=[.i .i64 f1,.i .i64 f2]:=⟨_,_,rfl⟩
 have hef:=eqFaultT (tableR g).2
 have htab:tabAV (tableR g)=.tup [.p (.l ((tableR g).1.map InfoD.cells)),av (Ft.cells (tableR g).2)]:=rfl
 have hei:=eqInfos (tableR g).1
 have hpv:=pvTab g
 obtain ⟨f1,f2,hfe⟩:=hfe
 rw [hfe] at hef htab hO
 rw [htab] at hS hC
 generalize (tableR g).1.map InfoD.cells=W at hS hC hei hpv
 refine call4 (by simp) ?_
 simp only [go_sem,reduceIte,↓reduceIte,sevalprocAttr,Z0,Z1,bytesOf,mc4,mr4]
 refine acall_pure (hsz 1048576 (by decide) (by decide) _) ?_
 by_cases hb:((g.sz:Nat):Int)≤1048576
 ·have hle:g.sz≤1048576:=by omega
  have h0:decide ((1048576:Int) - (g.sz:Int)<0)=false:=decide_eq_false (by omega)
  obtain ⟨mT,hT,bT,lT⟩:=markTable g hle
  rw [szR_le hb]
  simp only [go_sem,reduceIte,↓reduceIte,sevalprocAttr,Z0,Z1,bytesOf,h0]
  refine acall_pure (hto hle _) ?_
  simp only [go_sem,reduceIte,↓reduceIte,sevalprocAttr,Z0,Z1,bytesOf]
  refine acall_pure (hS hle _) ?_
  simp only [go_sem,reduceIte,↓reduceIte,sevalprocAttr,Z0,Z1,bytesOf]
  refine (htoN hle _).mono ?_
  rintro _ _ ⟨cs,jx,rfl,hx,hxn,hxf,G1,rfl⟩
  have hcl:cs.length=8:=by rw [hx.len]; show (ProgD.tv g).length=8; rw [ProgD.tv,List.length_cons,ExpD.tv_len]
  obtain ⟨x0,x1,x2,x3,x4,x5,x6,x7,rfl⟩:=len8 hcl
  simp only [go_sem,reduceIte,↓reduceIte,sevalprocAttr,Z0,Z1,bytesOf,zl13_0]
  have hjx:∀ i∈jx,2≤i∧i<G1.length+1+1:=fun i hi=>by
   obtain ⟨_,_,_,h⟩:=hx.rows i hi
   have h1:=get_lt h
   have h2:=hxf i hi
   simp at h1 h2
   omega
  have hx1:OwnCs (AO.var [AV.p c0,AV.p c1,AV.p c2,AV.p c3,AV.p c4,AV.p c5,AV.p c6,AV.p c7] :: AO.var [AV.p (PV.i IntKind.i64 f1),AV.p (PV.i IntKind.i64 f2)] :: (G1++[AO.var [x0,x1,x2,x3,x4,x5,x6,x7]])) g.tv [x0,x1,x2,x3,x4,x5,x6,x7] jx:=hx.keep fun i _ o h=>get_ext (A:=[AO.var [x0,x1,x2,x3,x4,x5,x6,x7]]) h
  have hA1:(AO.var [AV.p c0,AV.p c1,AV.p c2,AV.p c3,AV.p c4,AV.p c5,AV.p c6,AV.p c7] :: AO.var [AV.p (PV.i IntKind.i64 f1),AV.p (PV.i IntKind.i64 f2)] :: (G1++[AO.var [x0,x1,x2,x3,x4,x5,x6,x7]]))[0]?=some (AO.var [AV.p c0,AV.p c1,AV.p c2,AV.p c3,AV.p c4,AV.p c5,AV.p c6,AV.p c7]):=rfl
  have hF1:(AO.var [AV.p c0,AV.p c1,AV.p c2,AV.p c3,AV.p c4,AV.p c5,AV.p c6,AV.p c7] :: AO.var [AV.p (PV.i IntKind.i64 f1),AV.p (PV.i IntKind.i64 f2)] :: (G1++[AO.var [x0,x1,x2,x3,x4,x5,x6,x7]]))[1]?=some (AO.var [AV.p (PV.i IntKind.i64 f1),AV.p (PV.i IntKind.i64 f2)]):=rfl
  have hX1:(AO.var [AV.p c0,AV.p c1,AV.p c2,AV.p c3,AV.p c4,AV.p c5,AV.p c6,AV.p c7] :: AO.var [AV.p (PV.i IntKind.i64 f1),AV.p (PV.i IntKind.i64 f2)] :: (G1++[AO.var [x0,x1,x2,x3,x4,x5,x6,x7]]))[G1.length+1+1]?=some (AO.var [x0,x1,x2,x3,x4,x5,x6,x7]):=by simp
  generalize G1.length+1+1=p6 at hjx hX1 ⊢
  generalize (AO.var [AV.p c0,AV.p c1,AV.p c2,AV.p c3,AV.p c4,AV.p c5,AV.p c6,AV.p c7] :: AO.var [AV.p (PV.i IntKind.i64 f1),AV.p (PV.i IntKind.i64 f2)] :: (G1++[AO.var [x0,x1,x2,x3,x4,x5,x6,x7]]))=H1 at hx1 hA1 hF1 hX1 ⊢
  refine (hO hle H1 _ (hLP _ _ _ hx1)).mono ?_
  rintro _ _ ⟨a0,ia,rfl,ha,han,haf,G2,rfl⟩
  have haL:=own_ltI ha
  have hxL:∀ i∈jx,i<H1.length:=fun i hi=>by obtain ⟨_,_,_,h⟩:=hx1.rows i hi; exact get_lt h
  simp only [go_sem,reduceIte,↓reduceIte,sevalprocAttr,Z0,Z1,bytesOf]
  have hE:∀ H3:List AO,Own H3 (.s 3 (tabTV g)) a0 ia→ACall Tryz.prog 13 [a0,.p (.l W)] H3 (pureQ (.p (.b true)) H3):=fun H3 h =>
   acall_lendP hei (grnd_b _) (lentAll_cons (hpv ▸ h.lent) (lentAll_cons (.pure _) (lentAll_nil _)))
  have hA2:=get_ext hA1 (G2++[AO.var [AV.p (PV.i IntKind.i64 f1),AV.p (PV.i IntKind.i64 f2)]])
  have hF2:=get_ext hF1 (G2++[AO.var [AV.p (PV.i IntKind.i64 f1),AV.p (PV.i IntKind.i64 f2)]])
  have hX2:=get_ext hX1 (G2++[AO.var [AV.p (PV.i IntKind.i64 f1),AV.p (PV.i IntKind.i64 f2)]])
  have hP2:(H1++(G2++[AO.var [AV.p (PV.i IntKind.i64 f1),AV.p (PV.i IntKind.i64 f2)]]))[H1.length+G2.length]?=some (AO.var [AV.p (PV.i IntKind.i64 f1),AV.p (PV.i IntKind.i64 f2)]):=by
   rw [← List.append_assoc,← List.length_append]; exact get_off0 _ _
  have ha2:Own (H1++(G2++[AO.var [AV.p (PV.i IntKind.i64 f1),AV.p (PV.i IntKind.i64 f2)]])) (.s 3 (tabTV g)) a0 ia:=by
   rw [← List.append_assoc]; exact ha.keep fun i _ o h=>get_ext h _
  have hx2:=hx1.keep (H':=H1++(G2++[AO.var [AV.p (PV.i IntKind.i64 f1),AV.p (PV.i IntKind.i64 f2)]])) fun i _ o h=>get_ext h _
  have hp8:∀ i∈ia,i<H1.length+G2.length:=fun i hi=>by have:=haL i hi; simpa using this
  have hp8x:H1.length≤H1.length+G2.length:=Nat.le_add_right _ _
  generalize H1.length+G2.length=p8 at hP2 hp8 hp8x ⊢
  generalize H1++(G2++[AO.var [AV.p (PV.i IntKind.i64 f1),AV.p (PV.i IntKind.i64 f2)]])=H2 at hA2 hF2 hX2 hP2 ha2 hx2 ⊢
  refine acall_pure (hE _ ha2) ?_
  simp only [go_sem,reduceIte,↓reduceIte,sevalprocAttr,Z0,Z1,bytesOf,hP2,hF2,Bool.not_true]
  refine acall_pure (hef _) ?_
  simp only [go_sem,reduceIte,↓reduceIte,sevalprocAttr,Z0,Z1,bytesOf,Bool.not_true]
  refine drw_same ?_
  simp only [go_sem,reduceIte,↓reduceIte,sevalprocAttr,Z0,Z1,bytesOf,hX2,hA2]
  refine pcall_pure (fun A=>hto hle _) (Hext.refl _) ?_
  simp only [go_sem,reduceIte,↓reduceIte,sevalprocAttr,Z0,Z1,bytesOf]
  refine acall_pure (acall_lendP heq (grnd_b _) (lentAll_cons (hLP _ _ _ hx2) (lentAll_cons ?_ (lentAll_nil _)))) ?_
  ·exact .st _ _ rfl fun j a b ha hb=>by
    simp only [List.map_cons,List.map_nil] at hb
    match j with
    | 0=>cases ha; cases hb; exact .pure _
    | 1=>cases ha; cases hb; exact .pure _
    | 2=>cases ha; cases hb; exact .pure _
    | 3=>cases ha; cases hb; exact .pure _
    | 4=>cases ha; cases hb; exact .pure _
    | 5=>cases ha; cases hb; exact .pure _
    | 6=>cases ha; cases hb; exact .pure _
    | 7=>cases ha; cases hb; exact .pure _
    | j+8=>simp at ha
  simp only [go_sem,reduceIte,↓reduceIte,sevalprocAttr,Z0,Z1,bytesOf,Bool.not_true,hX2]
  refine (markProgN g hle hx2 hxn (by decide) ?_).mono ?_
  ·have h1:=mcDatas g.types
   have h2:=mcExp g.body
   rw [ProgD.sz] at hle
   rw [ProgD.tv,mcC,mcT]
   omega
  rintro _ H3 ⟨q,rfl,hq0,hq1,hk3⟩
  have dq:decide (q<0)=false:=decide_eq_false (by omega)
  have hA3:=hk3 _ _ hA2 (fun h=>by have:=(hjx _ h).1; omega)
  have hF3:=hk3 _ _ hF2 (fun h=>by have:=(hjx _ h).1; omega)
  have hP3:=hk3 _ _ hP2 (fun h=>by have:=hxL _ h; omega)
  have ha3:=ha2.keep (H':=H3) fun i hi o h=>hk3 _ _ h (fun h'=>by have:=hxL _ h'; have:=haf i hi; omega)
  simp only [go_sem,reduceIte,↓reduceIte,sevalprocAttr,Z0,Z1,bytesOf,dq]
  refine acall_pure (hE _ ha3) ?_
  simp only [go_sem,reduceIte,↓reduceIte,sevalprocAttr,Z0,Z1,bytesOf,hP3,hF3,Bool.not_true]
  refine acall_pure (hef _) ?_
  simp only [go_sem,reduceIte,↓reduceIte,sevalprocAttr,Z0,Z1,bytesOf,Bool.not_true]
  refine (mT H3 a0 ia 1 ha3 han (by decide) (by omega) lT).mono ?_
  rintro _ H4 ⟨rfl,hl4,ha4,hk4⟩
  have hA4:H4[0]?=_:=(hk4 0 (fun h=>by have:=haf _ h; have:=get_lt hA1; omega)).trans hA3
  have hF4:H4[1]?=_:=(hk4 1 (fun h=>by have:=haf _ h; have:=get_lt hF1; omega)).trans hF3
  have hd4:decide ((1:Int)+(mcR (tabTV g):Int)<0)=false:=decide_eq_false (by omega)
  simp only [go_sem,reduceIte,↓reduceIte,sevalprocAttr,Z0,Z1,bytesOf]
  refine acall_pure (hT H4 a0 ia 1 ha4 (by decide) (by omega) lT) ?_
  simp only [go_sem,reduceIte,↓reduceIte,sevalprocAttr,Z0,Z1,bytesOf,hd4,hA4]
  refine acall_pure (hto hle _) ?_
  simp only [go_sem,reduceIte,↓reduceIte,sevalprocAttr,Z0,Z1,bytesOf]
  refine acall_pure (hC hle _) ?_
  simp only [go_sem,reduceIte,↓reduceIte,sevalprocAttr,Z0,Z1,bytesOf]
  refine acall_pure (hei _) ?_
  have hF5:=get_ext hF4 [AO.var [AV.p (PV.i IntKind.i64 f1),AV.p (PV.i IntKind.i64 f2)]]
  have ha5:=ha4.keep (H':=H4++[AO.var [AV.p (PV.i IntKind.i64 f1),AV.p (PV.i IntKind.i64 f2)]]) fun i _ o h=>get_ext h _
  simp only [go_sem,reduceIte,↓reduceIte,sevalprocAttr,Z0,Z1,bytesOf,hF5,Bool.not_true]
  refine acall_pure (hef _) ?_
  simp only [go_sem,reduceIte,↓reduceIte,sevalprocAttr,Z0,Z1,bytesOf,Bool.not_true]
  refine acall_pure (hT _ a0 ia 1 ha5 (by decide) (by omega) lT) ?_
  simp only [go_sem,reduceIte,↓reduceIte,sevalprocAttr,Z0,Z1,bytesOf,hd4]
 ·rw [szR_gt hb]
  simp only [go_sem,reduceIte,↓reduceIte,sevalprocAttr,Z0,Z1,bytesOf]
end Go.Proofs.YtnelfbcgplooiaaGreat.Pg