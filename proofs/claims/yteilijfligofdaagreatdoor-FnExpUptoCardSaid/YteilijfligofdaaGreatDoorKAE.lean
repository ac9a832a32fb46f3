/- Texts QiQ QiR QfB QfD QfE QfF QfC QfQ QfR QfS QfT, merged. -/
import Derived.Test.YteilijfligofdaaGreatDoorKAD
import Derived.Test.YteilijfligofdaaGreatDoorChecked
import Derived.KernelRfl
set_option linter.all false
namespace Go.Proofs.YteilijfligofdaaGreatDoor.Pg
open Go.AM Mc Qp
theorem eqfPat {f:Nat} {l m:List PatD} (hlen:l.length=m.length) (hf:∀ (i:Nat) x y,l[i]?=some x->m[i]?=some y->∀ H,ACall Tryz.prog f [.st (x.cells.map .p),.st (y.cells.map .p)] H (pureQ (.p (.b true)) H)) (H:List AO) :
  ACall Tryz.prog 146 [.p (.l (l.map PatD.cells)),.p (.l (m.map PatD.cells)),.clo f []] H (pureQ (.p (.b true)) H):=by
 refine acall_drop1 ?_ (tf_p _)
 refine call146 (by simp) ?_
 simp only [go_sem,simprocAttr,mc146,mr146,List.length_map,hlen]
 intro hl _ _
 rw [maxLe] at hl
 refine ⟨Nat × List AO,[0,1,2,6,15,16,17],fun x st=>x.1<=m.length/\st=⟨[(0,.p (.l (l.map PatD.cells))),(1,.p (.l (m.map PatD.cells))),(2,.clo f []),(6,.p (.b false)),(15,.p (.l (l.map PatD.cells))),(16,.p (.i .i64 m.length)),(17,.p (.i .i64 x.1))],[],H++x.2⟩,fun x=>m.length - x.1,⟨(0,[]),?_⟩,?_⟩
 ·simp only [go_sem,simprocAttr]
  exact Nat.zero_le _
 rintro ⟨x,A⟩ _ ⟨hx,rfl⟩
 simp only at hx
 by_cases hlt:x<m.length
 ·have d1:decide ((x:Int)<(m.length:Int))=true:=by simp; omega
  have d2:(x:Int)<(m.length:Int):=by omega
  have g1:(l.map PatD.cells)[x]?=some (PatD.cells l[x]):=by simp [show x<l.length by omega]
  have g2:(m.map PatD.cells)[x]?=some (PatD.cells m[x]):=by simp [hlt]
  have hc:=hf x l[x] m[x] (by simp) (by simp)
  generalize l[x]=c at g1 hc
  generalize m[x]=d at g2 hc
  obtain ⟨k1,n1,u1,p1,s1⟩:=c; obtain ⟨k2,n2,u2,p2,s2⟩:=d
  simp only [go_sem,simprocAttr,d1,d2,g1,g2,List.length_map,hlen,PatD.cells]
  refine acall_pure (hc _) ?_
  simp only [go_sem,simprocAttr,wrN x (by omega),Bool.not_true]
  exact ⟨(x+1,_),⟨by simp only; omega,rfl⟩,by simp only; omega⟩
 ·have d1:decide ((x:Int)<(m.length:Int))=false:=by simp; omega
  simp only [go_sem,simprocAttr,d1]
  exact ⟨_,rfl⟩
theorem eqfExp {f:Nat} {l m:List ExpD} (hlen:l.length=m.length) (hf:∀ (i:Nat) x y,l[i]?=some x->m[i]?=some y->∀ H,ACall Tryz.prog f [.st (x.cells.map .p),.st (y.cells.map .p)] H (pureQ (.p (.b true)) H)) (H:List AO) :
  ACall Tryz.prog 101 [.p (.l (l.map ExpD.cells)),.p (.l (m.map ExpD.cells)),.clo f []] H (pureQ (.p (.b true)) H):=by
 refine acall_drop1 ?_ (tf_p _)
 refine call101 (by simp) ?_
 simp only [go_sem,simprocAttr,mc101,mr101,List.length_map,hlen]
 intro hl _ _
 rw [maxLe] at hl
 refine ⟨Nat × List AO,[0,1,2,6,15,16,17],fun x st=>x.1<=m.length/\st=⟨[(0,.p (.l (l.map ExpD.cells))),(1,.p (.l (m.map ExpD.cells))),(2,.clo f []),(6,.p (.b false)),(15,.p (.l (l.map ExpD.cells))),(16,.p (.i .i64 m.length)),(17,.p (.i .i64 x.1))],[],H++x.2⟩,fun x=>m.length - x.1,⟨(0,[]),?_⟩,?_⟩
 ·simp only [go_sem,simprocAttr]
  exact Nat.zero_le _
 rintro ⟨x,A⟩ _ ⟨hx,rfl⟩
 simp only at hx
 by_cases hlt:x<m.length
 ·have d1:decide ((x:Int)<(m.length:Int))=true:=by simp; omega
  have d2:(x:Int)<(m.length:Int):=by omega
  have g1:(l.map ExpD.cells)[x]?=some (ExpD.cells l[x]):=by simp [show x<l.length by omega]
  have g2:(m.map ExpD.cells)[x]?=some (ExpD.cells m[x]):=by simp [hlt]
  have hc:=hf x l[x] m[x] (by simp) (by simp)
  generalize l[x]=c at g1 hc
  generalize m[x]=d at g2 hc
  obtain ⟨k1,n1,u1,t1,p1,s1,a1⟩:=c; obtain ⟨k2,n2,u2,t2,p2,s2,a2⟩:=d
  simp only [go_sem,simprocAttr,d1,d2,g1,g2,List.length_map,hlen,ExpD.cells]
  refine acall_pure (hc _) ?_
  simp only [go_sem,simprocAttr,wrN x (by omega),Bool.not_true]
  exact ⟨(x+1,_),⟨by simp only; omega,rfl⟩,by simp only; omega⟩
 ·have d1:decide ((x:Int)<(m.length:Int))=false:=by simp; omega
  simp only [go_sem,simprocAttr,d1]
  exact ⟨_,rfl⟩
theorem eqfArm {f:Nat} {l m:List ArmD} (hlen:l.length=m.length) (hf:∀ (i:Nat) x y,l[i]?=some x->m[i]?=some y->∀ H,ACall Tryz.prog f [.st (x.cells.map .p),.st (y.cells.map .p)] H (pureQ (.p (.b true)) H)) (H:List AO) :
  ACall Tryz.prog 102 [.p (.l (l.map ArmD.cells)),.p (.l (m.map ArmD.cells)),.clo f []] H (pureQ (.p (.b true)) H):=by
 refine acall_drop1 ?_ (tf_p _)
 refine call102 (by simp) ?_
 simp only [go_sem,simprocAttr,mc102,mr102,List.length_map,hlen]
 intro hl _ _
 rw [maxLe] at hl
 refine ⟨Nat × List AO,[0,1,2,6,15,16,17],fun x st=>x.1<=m.length/\st=⟨[(0,.p (.l (l.map ArmD.cells))),(1,.p (.l (m.map ArmD.cells))),(2,.clo f []),(6,.p (.b false)),(15,.p (.l (l.map ArmD.cells))),(16,.p (.i .i64 m.length)),(17,.p (.i .i64 x.1))],[],H++x.2⟩,fun x=>m.length - x.1,⟨(0,[]),?_⟩,?_⟩
 ·simp only [go_sem,simprocAttr]
  exact Nat.zero_le _
 rintro ⟨x,A⟩ _ ⟨hx,rfl⟩
 simp only at hx
 by_cases hlt:x<m.length
 ·have d1:decide ((x:Int)<(m.length:Int))=true:=by simp; omega
  have d2:(x:Int)<(m.length:Int):=by omega
  have g1:(l.map ArmD.cells)[x]?=some (ArmD.cells l[x]):=by simp [show x<l.length by omega]
  have g2:(m.map ArmD.cells)[x]?=some (ArmD.cells m[x]):=by simp [hlt]
  have hc:=hf x l[x] m[x] (by simp) (by simp)
  generalize l[x]=c at g1 hc
  generalize m[x]=d at g2 hc
  obtain ⟨⟨kk1,nn1,uu1,pp1,ss1⟩,⟨k1,n1,u1,t1,p1,s1,a1⟩⟩:=c; obtain ⟨⟨kk2,nn2,uu2,pp2,ss2⟩,⟨k2,n2,u2,t2,p2,s2,a2⟩⟩:=d
  simp only [go_sem,simprocAttr,d1,d2,g1,g2,List.length_map,hlen,ArmD.cells,ExpD.cells,PatD.cells]
  refine acall_pure (hc _) ?_
  simp only [go_sem,simprocAttr,wrN x (by omega),Bool.not_true]
  exact ⟨(x+1,_),⟨by simp only; omega,rfl⟩,by simp only; omega⟩
 ·have d1:decide ((x:Int)<(m.length:Int))=false:=by simp; omega
  simp only [go_sem,simprocAttr,d1]
  exact ⟨_,rfl⟩
theorem map_at {α β:Type} {f:α->β} {l m:List α} (h:l.map f=m.map f):l.length=m.length/\∀ (i:Nat) x y,l[i]?=some x->m[i]?=some y->x∈l/\f x=f y:=by
 refine ⟨by simpa using congrArg List.length h,fun i x y hx hy=>⟨List.mem_of_getElem? hx,?_⟩⟩
 have:=congrArg (fun z=>z[i]?) h
 simpa [List.getElem?_map,hx,hy] using this
theorem samePatC : ∀ (a b : PatD) (h : a.er = b.er) (H : List AO), ACall Tryz.prog 100 [.st (a.cells.map .p), .st (b.cells.map .p)] H (pureQ (.p (.b true)) H)
  | .mk k n u p ks, .mk k2 n2 u2 p2 ms, h, H => by
    simp only [PatD.er, PatD.mk.injEq, true_and, PatD.erL_eq] at h
    obtain ⟨rfl, rfl, rfl, h⟩ := h
    obtain ⟨hl, hi⟩ := map_at h
    refine acall_drop1 ?_ (tf_p _)
    refine call100 (by simp) ?_
    simp only [go_sem, simprocAttr, mc100, mr100, PatD.cells, decide_true, PatD.cellsL_eq]
    refine acall_pure (eqfPat hl (fun i x y hx hy H => samePatC x y (hi i x y hx hy).2 H) _) ?_
    simp only [go_sem, simprocAttr]
    exact ⟨_, rfl⟩
termination_by a=>SizeOf.sizeOf a
decreasing_by
 have:=List.sizeOf_lt_of_mem (hi i x y hx hy).1
 simp
 omega
theorem sameArmC {p q:PatD} {a b:ExpD} (hp:p.er=q.er) (he:∀ H,ACall Tryz.prog 43 [.st (a.cells.map .p),.st (b.cells.map .p)] H (pureQ (.p (.b true)) H)) (H:List AO):ACall Tryz.prog 99 [.st ((ArmD.cells (.mk p a)).map .p),.st ((ArmD.cells (.mk q b)).map .p)] H (pureQ (.p (.b true)) H):=by
 have hpc:=samePatC p q hp
 obtain ⟨kk,nn,uu,pp,ss⟩:=p
 obtain ⟨kk2,nn2,uu2,pp2,ss2⟩:=q
 obtain ⟨k,n,u,t,p,ks,as'⟩:=a
 obtain ⟨k2,n2,u2,t2,p2,ks2,as2⟩:=b
 refine acall_drop1 ?_ (tf_p _)
 refine call99 (by simp) ?_
 simp only [go_sem,simprocAttr,mc99,mr99,ArmD.cells,PatD.cells,ExpD.cells]
 refine acall_pure (hpc _) ?_
 simp only [go_sem,simprocAttr]
 refine acall_pure (he _) ?_
 simp only [go_sem,simprocAttr]
 exact ⟨_,rfl⟩
theorem sameExpC : ∀ (a b : ExpD) (h : a.er = b.er) (H : List AO), ACall Tryz.prog 43 [.st (a.cells.map .p), .st (b.cells.map .p)] H (pureQ (.p (.b true)) H)
  | .mk k n u t p ks as', .mk k2 n2 u2 t2 p2 ms bs, h, H => by
    simp only [ExpD.er, ExpD.mk.injEq, true_and, ExpD.erL_eq, ExpD.erA_eq] at h
    obtain ⟨rfl, rfl, rfl, rfl, h, h2⟩ := h
    obtain ⟨hl, hi⟩ := map_at h
    obtain ⟨hl2, hi2⟩ := map_at h2
    refine acall_drop1 ?_ (tf_p _)
    refine call43 (by simp) ?_
    simp only [go_sem, simprocAttr, mc43, mr43, ExpD.cells, decide_true, ExpD.cellsL_eq, ExpD.cellsA_eq]
    refine acall_pure (eqfExp hl (fun i x y hx hy H => sameExpC x y (hi i x y hx hy).2 H) _) ?_
    simp only [go_sem, simprocAttr]
    refine acall_pure (eqfArm hl2 (fun i x y hx hy H => by
      obtain ⟨h3, h4⟩ := hi2 i x y hx hy
      obtain ⟨px, ex⟩ := x
      obtain ⟨py, ey⟩ := y
      simp only [ArmD.er, ArmD.mk.injEq] at h4
      exact sameArmC h4.1 (fun H => sameExpC ex ey h4.2 H) H) _) ?_
    simp only [go_sem, simprocAttr]
    exact ⟨_, rfl⟩
termination_by a=>SizeOf.sizeOf a
decreasing_by
 ·have:=List.sizeOf_lt_of_mem (hi i x y hx hy).1
  simp
  omega
 ·have:=List.sizeOf_lt_of_mem h3
  simp at this ⊢
  omega
theorem eqfData0 (v:AV) (H:List AO):ACall Tryz.prog 42 [.p .nl,.p .nl,v] H (pureQ (.p (.b true)) H):=by
 refine acall_drop1 ?_ (tf_p _)
 refine call42 (by simp) ?_
 simp only [go_sem,simprocAttr,mc42,mr42]
 refine ⟨Unit,[0,1,2,6,15,16,17],fun x st=>st=⟨[(0,.p .nl),(1,.p .nl),(2,v),(6,.p (.b false)),(15,.p .nl),(16,.p (.i .i64 0)),(17,.p (.i .i64 0))],[],H⟩,fun _=>0,⟨(),?_⟩,?_⟩
 ·simp only [go_sem,simprocAttr]
 rintro _ _ rfl
 simp only [go_sem,simprocAttr]
 exact ⟨[],by simp⟩
theorem sameBodyC (a b:ExpD) (h:a.er=b.er) (H:List AO):ACall Tryz.prog 12 [.st (.p .nl :: a.cells.map .p),.st (.p .nl :: b.cells.map .p)] H (pureQ (.p (.b true)) H):=by
 have hs:=sameExpC a b h
 obtain ⟨k,n,u,t,p,ks,as'⟩:=a
 obtain ⟨k2,n2,u2,t2,p2,ms,bs⟩:=b
 refine acall_drop1 ?_ (tf_p _)
 refine call12 (by simp) ?_
 simp only [go_sem,simprocAttr,mc12,mr12,ExpD.cells]
 refine acall_pure (eqfData0 _ _) ?_
 simp only [go_sem,simprocAttr]
 refine acall_pure (hs _) ?_
 simp only [go_sem,simprocAttr]
 exact ⟨_,rfl⟩
theorem cnt_take {α : Type} {c : α → Nat} {s : List α → Nat} (h0 : s [] = 0) (h1 : ∀ t l, s (t :: l) = c t + s l) : ∀ (l : List α) (i : Nat) x, l[i]? = some x → s (l.take (i + 1)) = s (l.take i) + c x ∧ s (l.take i) + c x ≤ s l
  | t :: l, 0, x, h => by cases h; simp [h0, h1]
  | t :: l, i + 1, x, h => by
    have := cnt_take h0 h1 l i x (by simpa using h)
    rw [List.take_succ_cons, List.take_succ_cons, h1, h1, h1]; omega
theorem patSizeC : ∀ (a : PatD) (_ : a.cnt ≤ 1000000) (H : List AO), ACall Tryz.prog 44 [.st (a.cells.map .p)] H (pureQ (iV a.cnt) H)
  | .mk k n u p ks, hc, H => by
    rw [PatD.cnt] at hc
    rw [PatD.cnt]
    have hstep := cnt_take (c := PatD.cnt) (s := PatD.cntL) rfl (fun _ _ => rfl) ks
    refine acall_drop1 ?_ (tf_p _)
    refine call44 (by simp) ?_
    simp only [go_sem, simprocAttr, mc44, mr44, PatD.cells, PatD.cellsL_eq, List.length_map]
    intro hl
    rw [maxLe] at hl
    refine ⟨Nat × List AO, [0, 1, 2, 3, 7, 8, 9], fun x st => x.1 ≤ ks.length ∧ st = ⟨[(0, .st [iV k, sV n, iV u, iV p, .p (.l (ks.map PatD.cells))]), (1, .ptr H.length 0), (2, iV 0), (3, iV (1 + PatD.cntL (ks.take x.1) : Nat)), (7, .p (.l (ks.map PatD.cells))), (8, iV ks.length), (9, iV x.1)], [], H ++ .var [iV k, sV n, iV u, iV p, .p (.l (ks.map PatD.cells))] :: x.2⟩, fun x => ks.length - x.1, ⟨(0, []), ?_⟩, ?_⟩
    · simp only [go_sem, simprocAttr]
      exact ⟨Nat.zero_le _, rfl⟩
    rintro ⟨x, A⟩ _ ⟨hx, rfl⟩
    simp only at hx
    by_cases hlt : x < ks.length
    · have d1 : decide ((x : Int) < (ks.length : Int)) = true := by simp; omega
      have d2 : (x : Int) < (ks.length : Int) := by omega
      have g1 : (ks.map PatD.cells)[x]? = some (PatD.cells ks[x]) := by simp [hlt]
      obtain ⟨s1, s2⟩ := hstep x ks[x] (by simp)
      have hrec := patSizeC ks[x] (by omega)
      generalize ks[x] = c at g1 s1 s2 hrec
      have e1 : wr .i64 (((1 + PatD.cntL (ks.take x) : Nat) : Int) + c.cnt) = ((1 + PatD.cntL (ks.take (x + 1)) : Nat) : Int) := by rw [wr64 (by omega) (by omega), s1]; omega
      obtain ⟨k1, n1, u1, p1, l1⟩ := c
      simp only [go_sem, simprocAttr, d1, d2, g1, List.length_map, PatD.cells]
      refine acall_pure (hrec _) ?_
      simp only [go_sem, simprocAttr, e1, wrN x (by omega)]
      exact ⟨(x + 1, _), ⟨by simp only; omega, rfl⟩, by simp only; omega⟩
    · have d1 : decide ((x : Int) < (ks.length : Int)) = false := by simp; omega
      obtain rfl : x = ks.length := by omega
      rw [List.take_length]
      simp only [go_sem, simprocAttr, d1]
      exact ⟨_, rfl⟩
termination_by a=>SizeOf.sizeOf a
decreasing_by
 have:=List.sizeOf_lt_of_mem (List.getElem_mem hlt)
 simp
 omega
theorem expSizeC : ∀ (a : ExpD) (_ : a.cnt ≤ 1000000) (H : List AO), ACall Tryz.prog 13 [.st (a.cells.map .p)] H (pureQ (iV a.cnt) H)
  | .mk k n u t p ks as', hc, H => by
    rw [ExpD.cnt] at hc
    rw [ExpD.cnt]
    have hstep := cnt_take (c := ExpD.cnt) (s := ExpD.cntL) rfl (fun _ _ => rfl) ks
    have hstep2 := cnt_take (c := ArmD.cnt) (s := ExpD.cntA) rfl (fun _ _ => rfl) as'
    refine acall_drop1 ?_ (tf_p _)
    refine call13 (by simp) ?_
    simp only [go_sem, simprocAttr, mc13, mr13, ExpD.cells, ExpD.cellsL_eq, ExpD.cellsA_eq, List.length_map]
    intro hl
    rw [maxLe] at hl
    refine ⟨Nat × List AO, [0, 1, 2, 3, 9, 10, 11], fun x st => x.1 ≤ ks.length ∧ st = ⟨[(0, .st [iV k, sV n, iV u, sV t, iV p, .p (.l (ks.map ExpD.cells)), .p (.l (as'.map ArmD.cells))]), (1, .ptr H.length 0), (2, iV 0), (3, iV (1 + ExpD.cntL (ks.take x.1) : Nat)), (9, .p (.l (ks.map ExpD.cells))), (10, iV ks.length), (11, iV x.1)], [], H ++ .var [iV k, sV n, iV u, sV t, iV p, .p (.l (ks.map ExpD.cells)), .p (.l (as'.map ArmD.cells))] :: x.2⟩, fun x => ks.length - x.1, ⟨(0, []), ?_⟩, ?_⟩
    · simp only [go_sem, simprocAttr]
      exact ⟨Nat.zero_le _, rfl⟩
    rintro ⟨x, A⟩ _ ⟨hx, rfl⟩
    simp only at hx
    by_cases hlt : x < ks.length
    · have d1 : decide ((x : Int) < (ks.length : Int)) = true := by simp; omega
      have d2 : (x : Int) < (ks.length : Int) := by omega
      have g1 : (ks.map ExpD.cells)[x]? = some (ExpD.cells ks[x]) := by simp [hlt]
      obtain ⟨s1, s2⟩ := hstep x ks[x] (by simp)
      have hrec := expSizeC ks[x] (by omega)
      generalize ks[x] = c at g1 s1 s2 hrec
      have e1 : wr .i64 (((1 + ExpD.cntL (ks.take x) : Nat) : Int) + c.cnt) = ((1 + ExpD.cntL (ks.take (x + 1)) : Nat) : Int) := by rw [wr64 (by omega) (by omega), s1]; omega
      obtain ⟨k1, n1, u1, t1, p1, l1, m1⟩ := c
      simp only [go_sem, simprocAttr, d1, d2, g1, List.length_map, ExpD.cells]
      refine acall_pure (hrec _) ?_
      simp only [go_sem, simprocAttr, e1, wrN x (by omega)]
      exact ⟨(x + 1, _), ⟨by simp only; omega, rfl⟩, by simp only; omega⟩
    · have d1 : decide ((x : Int) < (ks.length : Int)) = false := by simp; omega
      obtain rfl : x = ks.length := by omega
      rw [List.take_length]
      simp only [go_sem, simprocAttr, d1, List.length_map]
      intro hl2
      rw [maxLe] at hl2
      refine ⟨Nat × List AO, [2, 3, 21, 22, 23], fun x st => x.1 ≤ as'.length ∧ st = ⟨[(2, iV 0), (3, iV (1 + ExpD.cntL ks + ExpD.cntA (as'.take x.1) : Nat)), (21, .p (.l (as'.map ArmD.cells))), (22, iV as'.length), (23, iV x.1)], [], H ++ .var [iV k, sV n, iV u, sV t, iV p, .p (.l (ks.map ExpD.cells)), .p (.l (as'.map ArmD.cells))] :: x.2⟩, fun x => as'.length - x.1, ⟨(0, A), ?_⟩, ?_⟩
      · simp only [go_sem, simprocAttr]
        exact ⟨Nat.zero_le _, rfl⟩
      rintro ⟨x, A⟩ _ ⟨hx, rfl⟩
      simp only at hx
      by_cases hlt : x < as'.length
      · have d1 : decide ((x : Int) < (as'.length : Int)) = true := by simp; omega
        have d2 : (x : Int) < (as'.length : Int) := by omega
        have g1 : (as'.map ArmD.cells)[x]? = some (ArmD.cells as'[x]) := by simp [hlt]
        obtain ⟨s1, s2⟩ := hstep2 x as'[x] (by simp)
        have hmem := List.getElem_mem hlt
        generalize as'[x] = c at g1 s1 s2 hmem
        obtain ⟨pt, ex⟩ := c
        rw [ArmD.cnt] at s1 s2
        have hrp := patSizeC pt (by omega)
        have hrec := expSizeC ex (by omega)
        have e1 : wr .i64 ((pt.cnt : Int) + ex.cnt) = (pt.cnt : Int) + ex.cnt := wr64 (by omega) (by omega)
        have e2 : wr .i64 (((1 + ExpD.cntL ks + ExpD.cntA (as'.take x) : Nat) : Int) + ((pt.cnt : Int) + ex.cnt)) = ((1 + ExpD.cntL ks + ExpD.cntA (as'.take (x + 1)) : Nat) : Int) := by rw [wr64 (by omega) (by omega), s1]; omega
        clear s1 s2
        obtain ⟨k1, n1, u1, t1, p1, l1, m1⟩ := ex
        obtain ⟨kk, nn, uu, pp, ss⟩ := pt
        simp only [go_sem, simprocAttr, d1, d2, g1, List.length_map, ArmD.cells, PatD.cells, ExpD.cells]
        refine drw_same ?_
        simp only [go_sem, simprocAttr]
        refine pcall_pure (fun _ => hrp _) (Hext.refl _) ?_
        simp only [go_sem, simprocAttr]
        refine pcall_pure (fun _ => hrec _) (Hext.refl _) ?_
        simp only [go_sem, simprocAttr, e1, e2, wrN x (by omega)]
        exact ⟨(x + 1, _), ⟨by simp only; omega, rfl⟩, by simp only; omega⟩
      · have d1 : decide ((x : Int) < (as'.length : Int)) = false := by simp; omega
        obtain rfl : x = as'.length := by omega
        rw [List.take_length]
        simp only [go_sem, simprocAttr, d1]
        exact ⟨_, rfl⟩
termination_by a=>SizeOf.sizeOf a
decreasing_by
 ·have:=List.sizeOf_lt_of_mem (List.getElem_mem hlt)
  simp only [ExpD.mk.sizeOf_spec]
  omega
 ·have:=List.sizeOf_lt_of_mem hmem
  simp only [ExpD.mk.sizeOf_spec,ArmD.mk.sizeOf_spec] at this ⊢
  omega
end Go.Proofs.YteilijfligofdaaGreatDoor.Pg
set_option linter.all false
set_option maxRecDepth 100000
namespace Go.Proofs.YteilijfligofdaaGreatDoor.Mc
open Go.AM
def mc24:Got (Tryz.f24.body.map (compile [0,1,2,4,5,6,7,8,10,11,16,21,26,28,32,39,69,75,89,110] Tryz.prog 128)):=⟨_,by conv=>lhs; cbv⟩
def mr24:List MR:=[.t 4]
theorem call24:CallT Tryz.prog 24 128 mc24.m mr24:=mc24.call Tryz.func24 (by kernel_rfl)
def mc9:Got (Tryz.f9.body.map (compile [0,1,2,4,6,9,11,12,13,14,19,22,23,24,25,37] Tryz.prog 39)):=⟨_,by conv=>lhs; cbv⟩
def mr9:List MR:=[.t 2]
theorem call9:CallT Tryz.prog 9 39 mc9.m mr9:=mc9.call Tryz.func9 (by kernel_rfl)
def mc62:Got (Tryz.f62.body.map (compile [0,2,3,4,9,14,21,26] Tryz.prog 39)):=⟨_,by conv=>lhs; cbv⟩
def mr62:List MR:=[.t 2]
theorem call62:CallT Tryz.prog 62 39 mc62.m mr62:=mc62.call Tryz.func62 (by kernel_rfl)
def mc63:Got (Tryz.f63.body.map (compile [0,2,4] Tryz.prog 5)):=⟨_,by conv=>lhs; cbv⟩
def mr63:List MR:=[.t 2]
theorem call63:CallT Tryz.prog 63 5 mc63.m mr63:=mc63.call Tryz.func63 (by kernel_rfl)
def mc64:Got (Tryz.f64.body.map (compile [0,1,2,3,8,9,11,12,13,14,15] Tryz.prog 29)):=⟨_,by conv=>lhs; cbv⟩
def mr64:List MR:=[.t 8]
theorem call64:CallT Tryz.prog 64 29 mc64.m mr64:=mc64.call Tryz.func64 (by kernel_rfl)
def mc65:Got (Tryz.f65.body.map (compile [0,2,3,4,5,6,8,11] Tryz.prog 13)):=⟨_,by conv=>lhs; cbv⟩
def mr65:List MR:=[.t 2,.t 3,.t 4]
theorem call65:CallT Tryz.prog 65 13 mc65.m mr65:=mc65.call Tryz.func65 (by kernel_rfl)
def mc66:Got (Tryz.f66.body.map (compile [0,1,2,6,9] Tryz.prog 14)):=⟨_,by conv=>lhs; cbv⟩
def mr66:List MR:=[.t 6]
theorem call66:CallT Tryz.prog 66 14 mc66.m mr66:=mc66.call Tryz.func66 (by kernel_rfl)
def mc67:Got (Tryz.f67.body.map (compile [0,1,2,3,4,6,9,10,23,40,49,67,68,69,70] Tryz.prog 87)):=⟨_,by conv=>lhs; cbv⟩
def mr67:List MR:=[.t 2]
theorem call67:CallT Tryz.prog 67 87 mc67.m mr67:=mc67.call Tryz.func67 (by kernel_rfl)
def mc27:Got (Tryz.f27.body.map (compile [0,1,2,3,4,5,6,21,22,27,32,37,39,44,53,59,68,74,83,95,101,107,116] Tryz.prog 150)):=⟨_,by conv=>lhs; cbv⟩
def mr27:List MR:=[.t 2]
theorem call27:CallT Tryz.prog 27 150 mc27.m mr27:=mc27.call Tryz.func27 (by kernel_rfl)
def mc28:Got (Tryz.f28.body.map (compile [0,1,2,3,4,5,17,18,21,26,31,36,42] Tryz.prog 69)):=⟨_,by conv=>lhs; cbv⟩
def mr28:List MR:=[.t 2]
theorem call28:CallT Tryz.prog 28 69 mc28.m mr28:=mc28.call Tryz.func28 (by kernel_rfl)
def mc78:Got (Tryz.f78.body.map (compile [0,2] Tryz.prog 5)):=⟨_,by conv=>lhs; cbv⟩
def mr78:List MR:=[.t 2]
theorem call78:CallT Tryz.prog 78 5 mc78.m mr78:=mc78.call Tryz.func78 (by kernel_rfl)
def mc77:Got (Tryz.f77.body.map (compile [0,2] Tryz.prog 10)):=⟨_,by conv=>lhs; cbv⟩
def mr77:List MR:=[.t 2]
theorem call77:CallT Tryz.prog 77 10 mc77.m mr77:=mc77.call Tryz.func77 (by kernel_rfl)
def mc119:Got (Tryz.f119.body.map (compile [0,1,4] Tryz.prog 21)):=⟨_,by conv=>lhs; cbv⟩
def mr119:List MR:=[.t 4]
theorem call119:CallT Tryz.prog 119 21 mc119.m mr119:=mc119.call Tryz.func119 (by kernel_rfl)
def mc122:Got (Tryz.f122.body.map (compile [0,1,3] Tryz.prog 10)):=⟨_,by conv=>lhs; cbv⟩
def mr122:List MR:=[.t 3]
theorem call122:CallT Tryz.prog 122 10 mc122.m mr122:=mc122.call Tryz.func122 (by kernel_rfl)
def mc123:Got (Tryz.f123.body.map (compile [0,1,2,4,6,7,11,16,21,23,30,35] Tryz.prog 49)):=⟨_,by conv=>lhs; cbv⟩
def mr123:List MR:=[.t 4]
theorem call123:CallT Tryz.prog 123 49 mc123.m mr123:=mc123.call Tryz.func123 (by kernel_rfl)
def mc75:Got (Tryz.f75.body.map (compile [0,2,3,7,21] Tryz.prog 22)):=⟨_,by conv=>lhs; cbv⟩
def mr75:List MR:=[.t 2]
theorem call75:CallT Tryz.prog 75 22 mc75.m mr75:=mc75.call Tryz.func75 (by kernel_rfl)
def mc79:Got (Tryz.f79.body.map (compile [0,2] Tryz.prog 6)):=⟨_,by conv=>lhs; cbv⟩
def mr79:List MR:=[.t 2]
theorem call79:CallT Tryz.prog 79 6 mc79.m mr79:=mc79.call Tryz.func79 (by kernel_rfl)
def mc80:Got (Tryz.f80.body.map (compile [0,2,3,4,6] Tryz.prog 12)):=⟨_,by conv=>lhs; cbv⟩
def mr80:List MR:=[.t 2]
theorem call80:CallT Tryz.prog 80 12 mc80.m mr80:=mc80.call Tryz.func80 (by kernel_rfl)
def mc81:Got (Tryz.f81.body.map (compile [0,1,4] Tryz.prog 9)):=⟨_,by conv=>lhs; cbv⟩
def mr81:List MR:=[.t 4]
theorem call81:CallT Tryz.prog 81 9 mc81.m mr81:=mc81.call Tryz.func81 (by kernel_rfl)
def mc82:Got (Tryz.f82.body.map (compile [0,1,2] Tryz.prog 6)):=⟨_,by conv=>lhs; cbv⟩
def mr82:List MR:=[.t 2]
theorem call82:CallT Tryz.prog 82 6 mc82.m mr82:=mc82.call Tryz.func82 (by kernel_rfl)
def mc163:Got (Tryz.f163.body.map (compile [0,1,2,3,8,9,11,12,13,14,15] Tryz.prog 29)):=⟨_,by conv=>lhs; cbv⟩
def mr163:List MR:=[.t 8]
theorem call163:CallT Tryz.prog 163 29 mc163.m mr163:=mc163.call Tryz.func163 (by kernel_rfl)
def mc131:Got (Tryz.f131.body.map (compile [0,1,4,5,7,8,9,16] Tryz.prog 19)):=⟨_,by conv=>lhs; cbv⟩
def mr131:List MR:=[.t 4]
theorem call131:CallT Tryz.prog 131 19 mc131.m mr131:=mc131.call Tryz.func131 (by kernel_rfl)
end Go.Proofs.YteilijfligofdaaGreatDoor.Mc
namespace Go.Proofs.YteilijfligofdaaGreatDoor.Qp
open Go.AM Mc Pg
theorem LL.{u}:(∀ (α:Type u) (a b:List α),(a++b).length=a.length+b.length)/\(∀ (α:Type u) (a:α) (l:List α),(a :: l).length=l.length+1)/\(∀ α:Type u,([]:List α).length=0):=⟨fun _ _ _=>List.length_append,fun _ _ _=>rfl,fun _=>rfl⟩
attribute [go_sem] Bool.not_not
abbrev avC (cs:List PV):AV:=.st (cs.map .p)
theorem nameBC {f : Nat} {q : UInt8 → Bool} (hf : TestC f q) {s : List UInt8} (hs : s.length ≤ 1073741824) (H : List AO) : ACall Tryz.prog 119 [.p (.s s), .clo f []] H (pureQ (.p (.b (nmB q s))) H) := by
  refine call119 (by simp) ?_
  simp only [go_sem, simprocAttr, mc119, mr119]
  intro _
  refine acall_pure (withinC _ _ _ _) ?_
  generalize hb : (decide ((1 : Int) ≤ _) && decide (_ ≤ (12 : Int))) = b
  cases b
  · simp only [go_sem, simprocAttr]
    refine ⟨?_, rfl⟩
    cases s with
    | nil => rfl
    | cons c l =>
      have h12 : ¬ (c :: l).length ≤ 12 := by simp at hb ⊢; omega
      simp only [nmB, dF h12, Bool.false_and]
  · simp only [Bool.and_eq_true, decide_eq_true_eq] at hb
    have h0 : 0 < s.length := by omega
    have hg : s[0]? = some s[0] := by simp [h0]
    have en : nmB q s = (q s[0] && decide (runAt isNm s 0 = s.length)) := by
      cases s with
      | nil => simp at h0
      | cons c l => rw [nmB, dT (show (c :: l).length ≤ 12 by omega)]; rfl
    simp only [go_sem, simprocAttr, hg]
    refine acall_pure (hf s[0] H) ?_
    cases hq : q s[0]
    · simp only [go_sem, simprocAttr, hq]
      exact ⟨by rw [en, hq]; rfl, rfl⟩
    · simp only [go_sem, simprocAttr, hq]
      refine acall_pure (runC nameC (by omega) (i := 0) (by omega) _) ?_
      simp only [go_sem, simprocAttr]
      intro _
      refine ⟨?_, rfl⟩
      rw [en, hq]
      simp
      omega
theorem lowC {s:List UInt8} (hs:s.length<=1073741824) (H:List AO):ACall Tryz.prog 77 [.p (.s s)] H (pureQ (.p (.b (lowB s))) H):=by
 refine call77 (by simp) ?_
 simp only [go_sem,simprocAttr,mc77,mr77]
 refine acall_pure (nameBC smallC hs _) ?_
 cases h:nmB isSm s
 ·simp only [go_sem,simprocAttr,h]
  exact ⟨by simp [lowB,h],rfl⟩
 ·simp only [go_sem,simprocAttr,h]
  refine acall_pure (keyC _ _) ?_
  simp only [go_sem,simprocAttr]
  exact ⟨by simp [lowB,h],rfl⟩
theorem upC {s:List UInt8} (hs:s.length<=1073741824) (H:List AO):ACall Tryz.prog 78 [.p (.s s)] H (pureQ (.p (.b (upB s))) H):=by
 refine call78 (by simp) ?_
 simp only [go_sem,simprocAttr,mc78,mr78]
 refine acall_pure (nameBC greatC hs _) ?_
 simp only [go_sem,simprocAttr]
 exact ⟨rfl,rfl⟩
def ElemC {α:Type} (f:Nat) (c:α->AV) (q:α->Bool) (l:List α):Prop:=∀ x∈l,∀ H:List AO,ACall Tryz.prog f [c x] H (pureQ (.p (.b (q x))) H)
theorem any_drop {α:Type} {q:α->Bool} {l:List α} {x:Nat} (h:x<l.length):(l.drop x).any q=(q l[x] || (l.drop (x+1)).any q):=by rw [List.drop_eq_getElem_cons h,List.any_cons]
theorem ixPatC {f:Nat} {q:PatD->Bool} {l:List PatD} (hf:ElemC f (fun x=>avC x.cells) q l) (H:List AO) :
  ACall Tryz.prog 131 [.p (.l (l.map PatD.cells)),.clo f []] H (fun r H'=>H'=H/\∃ z:Int,r=.p (.i .i64 z)/\decide (0<=z)=l.any q):=by
 refine call131 (by simp) ?_
 simp only [go_sem,simprocAttr,mc131,mr131,List.length_map]
 intro hl
 rw [maxLe] at hl
 refine ⟨Nat,[0,1,4,7,8],fun x st=>(x<=l.length/\l.any q=(l.drop x).any q)/\st=⟨[(0,.p (.l (l.map PatD.cells))),(1,.clo f []),(4,.p (.i .i64 0)),(7,.p (.i .i64 l.length)),(8,.p (.i .i64 x))],[],H⟩,fun x=>l.length - x,⟨0,?_⟩,?_⟩
 ·simp only [go_sem,simprocAttr]
  simp
 rintro x _ ⟨⟨hx,hn⟩,rfl⟩
 by_cases hlt:x<l.length
 ·have d1:decide ((x:Int)<(l.length:Int))=true:=by simp; omega
  have hlt':(x:Int)<(l.length:Int):=by omega
  have hg:(l.map PatD.cells)[x]?=some (PatD.cells l[x]):=by simp [hlt]
  have hc:=hf l[x] (List.getElem_mem hlt) H
  rw [any_drop hlt] at hn
  generalize l[x]=c at hg hc hn
  obtain ⟨ck,cn,cu,cp,cks⟩:=c
  simp only [PatD.cells,avC,List.map_cons,List.map_nil] at hg hc
  simp only [go_sem,simprocAttr,d1,hlt',hg,List.length_map]
  refine acall_pure hc ?_
  generalize q _=b at hn
  cases b
  ·simp only [go_sem,simprocAttr,wrN x (by omega)]
   exact ⟨x+1,⟨⟨by omega,by simpa using hn⟩,rfl⟩,by omega⟩
  ·simp only [go_sem,simprocAttr]
   exact ⟨(x:Int),rfl,by rw [hn,Bool.true_or]; exact decide_eq_true (by omega)⟩
 ·have d1:decide ((x:Int)<(l.length:Int))=false:=by simp; omega
  simp only [go_sem,simprocAttr,d1]
  refine ⟨-1,rfl,?_⟩
  rw [hn,List.drop_of_length_le (by omega)]
  rfl
theorem anyPatC {f:Nat} {q:PatD->Bool} {l:List PatD} (hf:ElemC f (fun x=>avC x.cells) q l) (H:List AO) :
  ACall Tryz.prog 81 [.p (.l (l.map PatD.cells)),.clo f []] H (pureQ (.p (.b (l.any q))) H):=by
 refine call81 (by simp) ?_
 simp only [go_sem,simprocAttr,mc81,mr81]
 refine (ixPatC hf H).mono ?_
 rintro r H' ⟨rfl,z,rfl,hz⟩
 simp only [go_sem,simprocAttr,hz]
 exact ⟨rfl,rfl⟩
theorem b2 {a b:Bool} (h:a=b):AV.p (.b a)=AV.p (.b b):=by rw [h]
theorem any_not {α:Type} (q:α->Bool) (l:List α):(l.any fun x=>!q x)=!l.all q:=by
 induction l with
 | nil=>rfl
 | cons a l ih=>rw [List.any_cons,List.all_cons,ih,Bool.not_and]
def PatOkC (x:PatD):Prop:=∀ H:List AO,ACall Tryz.prog 28 [avC x.cells] H (pureQ (.p (.b x.okB)) H)
theorem patNotC {ks:List PatD} (hk:∀ x∈ks,PatOkC x):ElemC 82 (fun x:PatD=>avC x.cells) (fun x=>!x.okB) ks:=by
 intro x hx H
 refine acall_drop1 ?_ (tf_p _)
 refine call82 (by simp) ?_
 have hc:=hk x hx
 obtain ⟨k,n,u,p,ks⟩:=x
 simp only [PatD.cells,avC,List.map_cons,List.map_nil,PatOkC] at hc ⊢
 simp only [go_sem,simprocAttr,mc82,mr82]
 refine acall_pure (hc _) ?_
 simp only [go_sem,simprocAttr]
 exact ⟨_,rfl⟩
theorem pat_okC (k:Int) (n:List UInt8) (u p:Int) (ks:List PatD) (hn:n.length<=1073741824) (hk:∀ x∈ks,PatOkC x):PatOkC (.mk k n u p ks):=by
 intro H
 have hc:=anyPatC (patNotC hk)
 rw [any_not,<- PatD.okL_eq] at hc
 refine acall_drop1 ?_ (tf_p _)
 refine call28 (by simp) ?_
 simp only [go_sem,simprocAttr,mc28,mr28,PatD.cells,PatD.cellsL_eq,avC,List.length_map]
 repeat' first
  | (with_reducible refine condK_split _ (fun h=>?_) (fun h=>?_) <;> simp only [go_sem,simprocAttr,h,List.length_map])
  | (with_reducible refine acall_pure (lowC hn _) ?_; simp only [go_sem,simprocAttr,List.length_map])
  | (with_reducible refine acall_pure (hc _) ?_; simp only [go_sem,simprocAttr,List.length_map])
  | (with_reducible refine acall_pure (withinC _ _ _ _) ?_; simp only [go_sem,simprocAttr,List.length_map])
  | (with_reducible refine pcall_pure (fun A=>upC hn _) (Hext.refl _) ?_; simp only [go_sem,simprocAttr,List.length_map])
  | (refine drw_same ?_; simp only [go_sem,simprocAttr,List.length_map])
  | (refine And.intro (by (try simp only [maxLe,LL]); omega) ?_; try simp only [go_sem,simprocAttr,List.length_map])
  | (intro _)
 all_goals refine ⟨b2 ?_,_,rfl⟩
 all_goals rw [PatD.okB,patH]
 all_goals generalize (ks.length:Int)=m at *
 all_goals simp only [decide_eq_true_eq,decide_eq_false_iff_not,Bool.and_eq_true] at *
 all_goals (simp [*]; done)
theorem patOkC (p : PatD) (h : p.sz ≤ 1073741824) : PatOkC p := by
  have : ∀ (m : Nat) (p : PatD), p.sz < m → p.sz ≤ 1073741824 → PatOkC p := by
    intro m
    induction m with
    | zero => intro p h; omega
    | succ m ih =>
      intro p h h2
      obtain ⟨k, n, u, q, ks⟩ := p
      rw [PatD.sz, PatD.szL_eq] at h h2
      exact pat_okC _ _ _ _ _ (by omega) fun a ha => ih a (by have := sumSz_mem PatD.sz ha; omega) (by have := sumSz_mem PatD.sz ha; omega)
  exact this _ p (Nat.lt_succ_self _) h
theorem plainC {s:List UInt8} (hs:s.length<=1073741824) (H:List AO):ACall Tryz.prog 75 [.p (.s s)] H (pureQ (.p (.b (plainB s))) H):=by
 refine call75 (by simp) ?_
 simp only [go_sem,simprocAttr,mc75,mr75]
 refine ⟨Nat,[0,2,3],fun x st=>(x<=s.length/\s.all chB=(s.drop x).all chB)/\st=⟨[(0,.p (.s s)),(2,.p (.b false)),(3,.p (.i .i64 x))],[],H⟩,fun x=>s.length - x,⟨0,?_⟩,?_⟩
 ·simp only [go_sem,simprocAttr]
  simp
 rintro x _ ⟨⟨hx,hn⟩,rfl⟩
 by_cases hlt:x<s.length
 ·have d1:decide ((x:Int)<(s.length:Int))=true:=by simp; omega
  have hg:s[x]?=some s[x]:=by simp [hlt]
  rw [all_drop hlt] at hn
  generalize s[x]=c at hg hn
  simp only [go_sem,simprocAttr,d1,hg]
  intro _
  refine acall_pure (withinC _ _ _ _) ?_
  have ew:wr .i64 (c.toNat:Int)=c.toNat:=wr64 (by omega) (by have:=c.toNat_lt; omega)
  simp only [go_sem,simprocAttr,ew]
  have e1:isPl c=(decide ((32:Int)<=(c.toNat:Int)) && decide ((c.toNat:Int)<=126)):=rfl
  rw [<- e1]
  cases h1:isPl c
  ·simp only [go_sem,simprocAttr,h1,hg]
   cases h2:decide ((c.toNat:Int)=10)
   ·simp only [go_sem,simprocAttr,h2]
    refine ⟨b2 ?_,rfl⟩
    rw [plainB,hn,chB,h1,h2]; rfl
   ·simp only [go_sem,simprocAttr,h2,wrN x (by omega)]
    exact ⟨x+1,⟨⟨by omega,by rw [hn,chB,h1,h2]; rfl⟩,rfl⟩,by omega⟩
  ·simp only [go_sem,simprocAttr,h1,wrN x (by omega)]
   exact ⟨x+1,⟨⟨by omega,by rw [hn,chB,h1]; rfl⟩,rfl⟩,by omega⟩
 ·have d1:decide ((x:Int)<(s.length:Int))=false:=by simp; omega
  simp only [go_sem,simprocAttr,d1]
  intro _
  refine ⟨b2 ?_,rfl⟩
  rw [plainB,hn,List.drop_of_length_le (by omega)]; rfl
theorem binSC (s:List UInt8) (H:List AO):ACall Tryz.prog 79 [.p (.s s)] H (pureQ (.p (.b (binB s))) H):=by
 refine acall_drop1 ?_ (tf_p _)
 refine call79 (by simp) ?_
 simp only [go_sem,simprocAttr,mc79,mr79]
 refine acall_pure (containsC (L:=[[43],[45],[42],[94],[61],[60],[58,61]]) (t:=s) (by rw [gx0]; rfl) (by decide)) ?_
 simp only [go_sem,simprocAttr]
 exact ⟨rfl,_,rfl⟩
theorem arityC (s:List UInt8) (H:List AO):ACall Tryz.prog 80 [.p (.s s)] H (pureQ (.p (.i .i64 (arity s))) H):=by
 refine call80 (by simp) ?_
 simp only [go_sem,simprocAttr,mc80,mr80]
 repeat' first
  | (with_reducible refine condK_split _ (fun h=>?_) (fun h=>?_) <;> simp only [go_sem,simprocAttr,h])
  | (refine drw_same ?_; simp only [go_sem,simprocAttr])
  | (refine And.intro (by (try simp only [maxLe,LL]); omega) ?_; try simp only [go_sem,simprocAttr])
  | (intro _)
 all_goals refine ⟨?_,rfl⟩
 all_goals simp only [decide_eq_true_eq,decide_eq_false_iff_not] at *
 all_goals (simp [arity,primB, *]; done)
theorem headC (k:Int) (n:List UInt8) (u:Int) (t:List UInt8) (p:Int) (ks:List ExpD) (as':List ArmD) (hn:n.length<=1073741824) (ht:t.length<=1073741824) (H:List AO) :
  ACall Tryz.prog 27 [avC (ExpD.cells (.mk k n u t p ks as'))] H (pureQ (.p (.b (expH k n u t p ks.length as'.length))) H):=by
 refine acall_drop1 ?_ (tf_p _)
 refine call27 (by simp) ?_
 simp only [go_sem,simprocAttr,mc27,mr27,ExpD.cells,ExpD.cellsL_eq,ExpD.cellsA_eq,avC,List.length_map]
 repeat' first
  | (with_reducible refine condK_split _ (fun h=>?_) (fun h=>?_) <;> simp only [go_sem,simprocAttr,h,List.length_map])
  | (with_reducible refine acall_pure (lowC hn _) ?_; simp only [go_sem,simprocAttr,List.length_map])
  | (with_reducible refine acall_pure (withinC _ _ _ _) ?_; simp only [go_sem,simprocAttr,List.length_map])
  | (with_reducible refine acall_pure (plainC ht _) ?_; simp only [go_sem,simprocAttr,List.length_map])
  | (with_reducible refine pcall_pure (fun A=>upC hn _) (Hext.refl _) ?_; simp only [go_sem,simprocAttr,List.length_map])
  | (with_reducible refine pcall_pure (fun A=>lowC hn _) (Hext.refl _) ?_; simp only [go_sem,simprocAttr,List.length_map])
  | (with_reducible refine pcall_pure (fun A=>lowC ht _) (Hext.refl _) ?_; simp only [go_sem,simprocAttr,List.length_map])
  | (with_reducible refine pcall_pure (fun A=>binSC n _) (Hext.refl _) ?_; simp only [go_sem,simprocAttr,List.length_map])
  | (with_reducible refine pcall_pure (fun A=>arityC n _) (Hext.refl _) ?_; simp only [go_sem,simprocAttr,List.length_map])
  | (refine drw_same ?_; simp only [go_sem,simprocAttr,List.length_map])
  | (refine And.intro (by (try simp only [maxLe,LL]); omega) ?_; try simp only [go_sem,simprocAttr,List.length_map])
  | (intro _)
 all_goals refine ⟨b2 ?_,_,rfl⟩
 all_goals rw [expH]
 all_goals generalize (ks.length:Int)=m at *
 all_goals generalize (as'.length:Int)=a at *
 all_goals simp only [decide_eq_true_eq,decide_eq_false_iff_not,Bool.and_eq_true] at *
 all_goals (simp [*]; done)
def ExpOkC (x:ExpD):Prop:=∀ H:List AO,ACall Tryz.prog 9 [avC x.cells] H (pureQ (.p (.b x.okB)) H)
def Bh (H:List AO) (V:AO) (X:List AO):Prop:=∃ G,X=H++V :: G
theorem Bh.at0 {H X:List AO} {V:AO} (h:Bh H V X):X[H.length]?=some V:=by obtain ⟨G,rfl⟩:=h; simp
theorem Bh.ext {H X:List AO} {V:AO} (h:Bh H V X) (A:List AO):Bh H V (X++A):=by obtain ⟨G,rfl⟩:=h; exact ⟨G++A,by simp⟩
theorem Bh.nil (H:List AO) (V:AO):Bh H V (H++[V]):=⟨[],rfl⟩
theorem Bh.ends {H X:List AO} {V:AO} (h:Bh H V X):∃ G,X=H++G:=by obtain ⟨G,rfl⟩:=h; exact ⟨_,rfl⟩
theorem armC (q:PatD) (e:ExpD):ArmD.cells (.mk q e)=q.cells++e.cells:=by rw [ArmD.cells]
theorem expOk_C (k:Int) (n:List UInt8) (u:Int) (t:List UInt8) (p:Int) (ks:List ExpD) (as':List ArmD) (hn:n.length<=1073741824) (ht:t.length<=1073741824) (hk:∀ x∈ks,ExpOkC x) (ha:∀ q e,ArmD.mk q e∈as'->PatOkC q/\ExpOkC e):ExpOkC (.mk k n u t p ks as'):=by
 intro H
 refine acall_drop1 ?_ (tf_p _)
 refine call9 (by simp) ?_
 have hh:=headC k n u t p ks as' hn ht
 simp only [ExpD.cells,ExpD.cellsL_eq,ExpD.cellsA_eq,avC,List.map_cons,List.map_nil] at hh
 rw [ExpD.okB,ExpD.okL_eq,ExpD.okA_eq]
 simp only [go_sem,simprocAttr,mc9,mr9,ExpD.cells,ExpD.cellsL_eq,ExpD.cellsA_eq,avC,List.length_map]
 refine acall_pure (hh _) ?_
 simp only [go_sem,simprocAttr]
 generalize expH k n u t p ks.length as'.length=b
 cases b
 ·simp only [go_sem,simprocAttr]
  exact ⟨b2 rfl,_,rfl⟩
 simp only [go_sem,simprocAttr,List.length_map,Bool.true_and]
 intro hl
 rw [maxLe] at hl
 have hB:=Bh.nil H (.var [.p (.i .i64 k),.p (.s n),.p (.i .i64 u),.p (.s t),.p (.i .i64 p),.p (.l (ks.map ExpD.cells)),.p (.l (as'.map ArmD.cells))])
 generalize hV:AO.var [.p (.i .i64 k),.p (.s n),.p (.i .i64 u),.p (.s t),.p (.i .i64 p),.p (.l (ks.map ExpD.cells)),.p (.l (as'.map ArmD.cells))]=V at hB
 generalize H++[V]=X at hB
 refine ⟨Nat × List AO,[1,2,11,12,13],fun x st=>(x.1<=ks.length/\ks.all ExpD.okB=(ks.drop x.1).all ExpD.okB/\Bh H V x.2)/\st=⟨[(1,.ptr H.length 0),(2,.p (.b false)),(11,.p (.l (ks.map ExpD.cells))),(12,.p (.i .i64 ks.length)),(13,.p (.i .i64 x.1))],[],x.2⟩,fun x=>ks.length - x.1,⟨(0,X),?_⟩,?_⟩
 ·simp only [go_sem,simprocAttr]
  exact ⟨by simp,hB⟩
 rintro ⟨x,Y⟩ _ ⟨⟨hx,hn,hY⟩,rfl⟩
 simp only at hx hn hY
 by_cases hlt:x<ks.length
 ·have d1:decide ((x:Int)<(ks.length:Int))=true:=by simp; omega
  have hlt':(x:Int)<(ks.length:Int):=by omega
  have hg:(ks.map ExpD.cells)[x]?=some (ExpD.cells ks[x]):=by simp [hlt]
  have hc:=fun H=>hk ks[x] (List.getElem_mem hlt) H
  rw [all_drop hlt] at hn
  generalize ks[x]=c at hg hc hn
  obtain ⟨ck,cn,cu,ct,cp,cks,cas⟩:=c
  simp only [ExpD.cells,avC,List.map_cons,List.map_nil,ExpOkC] at hg hc
  simp only [go_sem,simprocAttr,d1,hlt',hg,List.length_map]
  refine acall_pure (hc _) ?_
  generalize ExpD.okB _=b at hn
  cases b
  ·simp only [go_sem,simprocAttr]
   exact ⟨b2 (by rw [hn]; rfl),(hY.ext _).ends⟩
  ·simp only [go_sem,simprocAttr,wrN x (by omega)]
   exact ⟨(x+1,_),⟨⟨by omega,by simpa using hn,hY.ext _⟩,rfl⟩,by simp only; omega⟩
 ·have d1:decide ((x:Int)<(ks.length:Int))=false:=by simp; omega
  rw [List.drop_of_length_le (by omega),List.all_nil] at hn
  rw [hn,Bool.true_and]
  have hz:=hY.at0
  rw [<- hV] at hz
  simp only [go_sem,simprocAttr,d1,hz,List.length_map]
  intro hl2
  rw [maxLe] at hl2
  refine ⟨Nat × List AO,[2,22,23,24],fun x st=>(x.1<=as'.length/\as'.all ArmD.okB=(as'.drop x.1).all ArmD.okB/\∃ G,x.2=H++G)/\st=⟨[(2,.p (.b false)),(22,.p (.l (as'.map ArmD.cells))),(23,.p (.i .i64 as'.length)),(24,.p (.i .i64 x.1))],[],x.2⟩,fun x=>as'.length - x.1,⟨(0,Y),?_⟩,?_⟩
  ·simp only [go_sem,simprocAttr]
   exact ⟨by simp,hY.ends⟩
  rintro ⟨y,Z⟩ _ ⟨⟨hy,hm,hZ⟩,rfl⟩
  simp only at hy hm hZ
  by_cases hlt:y<as'.length
  ·have d2:decide ((y:Int)<(as'.length:Int))=true:=by simp; omega
   have hlt':(y:Int)<(as'.length:Int):=by omega
   have hg:(as'.map ArmD.cells)[y]?=some (ArmD.cells as'[y]):=by simp [hlt]
   have hc:∀ q e,as'[y]=ArmD.mk q e->PatOkC q/\ExpOkC e:=fun q e he=>ha q e (by rw [<- he]; exact List.getElem_mem hlt)
   rw [all_drop hlt] at hm
   generalize as'[y]=c at hg hc hm
   obtain ⟨⟨qk,qn,qu,qp,qks⟩,⟨ck,cn,cu,ct,cp,cks,cas⟩⟩:=c
   obtain ⟨h1,h2⟩:=hc _ _ rfl
   simp only [armC,PatD.cells,ExpD.cells,avC,List.map_cons,List.map_nil,ExpOkC,PatOkC,List.cons_append,List.nil_append] at hg h1 h2
   have hZ':∀ A,∃ G,Z++A=H++G:=fun A=>by obtain ⟨G,rfl⟩:=hZ; exact ⟨G++A,by simp⟩
   rw [ArmD.okB] at hm
   generalize PatD.okB _=b1 at hm h1
   generalize ExpD.okB _=b2' at hm h2
   simp only [go_sem,simprocAttr,d2,hlt',hg,List.length_map]
   refine acall_pure (h1 _) ?_
   cases b1
   ·simp only [go_sem,simprocAttr]
    exact ⟨b2 (by rw [hm]; rfl),hZ' _⟩
   simp only [go_sem,simprocAttr]
   refine acall_pure (h2 _) ?_
   cases b2'
   ·simp only [go_sem,simprocAttr]
    exact ⟨b2 (by rw [hm]; rfl),hZ' _⟩
   simp only [go_sem,simprocAttr,wrN y (by omega)]
   exact ⟨(y+1,_),⟨⟨by omega,by simpa using hm,hZ' _⟩,rfl⟩,by simp only; omega⟩
  ·have d2:decide ((y:Int)<(as'.length:Int))=false:=by simp; omega
   rw [List.drop_of_length_le (by omega),List.all_nil] at hm
   simp only [go_sem,simprocAttr,d2]
   exact ⟨b2 (by rw [hm]),hZ⟩
theorem expOkC (p : ExpD) (h : p.sz ≤ 1073741824) : ExpOkC p := by
  have : ∀ (m : Nat) (p : ExpD), p.sz < m → p.sz ≤ 1073741824 → ExpOkC p := by
    intro m
    induction m with
    | zero => intro p h; omega
    | succ m ih =>
      intro p h h2
      obtain ⟨k, n, u, t, q, ks, as'⟩ := p
      rw [ExpD.sz, ExpD.szL_eq, ExpD.szA_eq] at h h2
      refine expOk_C _ _ _ _ _ _ _ (by omega) (by omega) (fun a ha => ih a (by have := sumSz_mem ExpD.sz ha; omega) (by have := sumSz_mem ExpD.sz ha; omega)) fun q e ha => ?_
      have := sumSz_mem ArmD.sz ha
      rw [ArmD.sz] at this
      exact ⟨patOkC q (by omega), ih e (by omega) (by omega)⟩
  exact this _ p (Nat.lt_succ_self _) h
end Go.Proofs.YteilijfligofdaaGreatDoor.Qp
set_option linter.all false
set_option maxRecDepth 100000
namespace Go.Proofs.YteilijfligofdaaGreatDoor.Mc
open Go.AM
def mc71:Got (Tryz.f71.body.map (compile [0,2] Tryz.prog 10)):=⟨_,by conv=>lhs; cbv⟩
def mr71:List MR:=[.t 2]
theorem call71:CallT Tryz.prog 71 10 mc71.m mr71:=mc71.call Tryz.func71 (by kernel_rfl)
def mc72:Got (Tryz.f72.body.map (compile [0,1,4,5,28,32,40] Tryz.prog 41)):=⟨_,by conv=>lhs; cbv⟩
def mr72:List MR:=[.t 4]
theorem call72:CallT Tryz.prog 72 41 mc72.m mr72:=mc72.call Tryz.func72 (by kernel_rfl)
def mc8:Got (Tryz.f8.body.map (compile [0,1,2,3,4,7,12,21,26,46] Tryz.prog 47)):=⟨_,by conv=>lhs; cbv⟩
def mr8:List MR:=[.t 2]
theorem call8:CallT Tryz.prog 8 47 mc8.m mr8:=mc8.call Tryz.func8 (by kernel_rfl)
def mc25:Got (Tryz.f25.body.map (compile [0,1,2,3,8,9,22,35,48,56,69,82,90,103,111,124,142,150,164,177] Tryz.prog 199)):=⟨_,by conv=>lhs; cbv⟩
def mr25:List MR:=[.t 2]
theorem call25:CallT Tryz.prog 25 199 mc25.m mr25:=mc25.call Tryz.func25 (by kernel_rfl)
def mc26:Got (Tryz.f26.body.map (compile [0,1,2,3,4,5,6,7,21,22,36,51,66,81,94,114] Tryz.prog 124)):=⟨_,by conv=>lhs; cbv⟩
def mr26:List MR:=[.t 2]
theorem call26:CallT Tryz.prog 26 124 mc26.m mr26:=mc26.call Tryz.func26 (by kernel_rfl)
def mc68:Got (Tryz.f68.body.map (compile [0,1,2,4,5,6,7,8,12] Tryz.prog 74)):=⟨_,by conv=>lhs; cbv⟩
def mr68:List MR:=[.t 4]
theorem call68:CallT Tryz.prog 68 74 mc68.m mr68:=mc68.call Tryz.func68 (by kernel_rfl)
def mc69:Got (Tryz.f69.body.map (compile [0,2,3,7,21] Tryz.prog 22)):=⟨_,by conv=>lhs; cbv⟩
def mr69:List MR:=[.t 2]
theorem call69:CallT Tryz.prog 69 22 mc69.m mr69:=mc69.call Tryz.func69 (by kernel_rfl)
end Go.Proofs.YteilijfligofdaaGreatDoor.Mc
namespace Go.Proofs.YteilijfligofdaaGreatDoor.Qp
open Go.AM Mc Pg
theorem runL_iff (q : UInt8 → Bool) : ∀ l : List UInt8, decide (runL q l = l.length) = l.all q
  | [] => rfl
  | c :: l => by
    have ih := runL_iff q l
    rw [runL, List.all_cons]
    cases hq : q c
    · simp
    · rw [if_pos rfl, Bool.true_and, ← ih]; simp
theorem runAt_iff (q:UInt8->Bool) (s:List UInt8):decide (runAt q s 0=s.length)=s.all q:=by
 unfold runAt
 rw [Nat.zero_add,List.drop_zero,runL_iff]
theorem sm_gr {c:UInt8} (h:isGr c=true):isSm c=false:=by
 simp only [isGr,isSm,Bool.and_eq_true,decide_eq_true_eq,Bool.and_eq_false_iff,decide_eq_false_iff_not] at *
 omega
theorem bq1:(false == true)=false:=rfl
theorem bq2:(true == false)=false:=rfl
theorem bq3:(true == true)=true:=rfl
theorem bq4:(false == false)=true:=rfl
attribute [go_sem] bq1 bq2 bq3 bq4 Bool.not_true Bool.not_false
theorem nameSC (g : Bool) {s : List UInt8} (hs : s.length ≤ 1073741824) (H : List AO) : ACall Tryz.prog 72 [.p (.s s), .p (.b g)] H (pureQ (.p (.b (nmB (if g then isGr else isSm) s))) H) := by
  refine call72 (by simp) ?_
  obtain ⟨T, hT, hm⟩ : ∃ T, T = mc72.m.b.b ∧ mc72.m = .seq mc72.m.a (.seq mc72.m.b.a T) := ⟨_, rfl, rfl⟩
  rw [hm]
  clear hm
  simp only [go_sem, simprocAttr, mc72, mr72]
  intro _
  refine acall_pure (inC _ _ _ _) ?_
  generalize hb : (decide ((1 : Int) ≤ _) && decide (_ ≤ (12 : Int))) = b
  cases b
  · simp only [go_sem, simprocAttr]
    refine ⟨?_, rfl⟩
    cases s with
    | nil => rfl
    | cons c l =>
      have h12 : ¬ (c :: l).length ≤ 12 := by simp at hb ⊢; omega
      simp only [nmB, dF h12, Bool.false_and]
  simp only [Bool.and_eq_true, decide_eq_true_eq] at hb
  have h0 : 0 < s.length := by omega
  have hg : s[0]? = some s[0] := by simp [h0]
  have en : nmB (if g then isGr else isSm) s = ((if g then isGr else isSm) s[0] && s.all isNm) := by
    rw [← runAt_iff]
    cases s with
    | nil => simp at h0
    | cons c l => rw [nmB, dT (show (c :: l).length ≤ 12 by omega)]; rfl
  rw [en]
  clear en
  generalize s[0] = c at hg ⊢
  have main : wpm (ACall Tryz.prog) T (finK mr72 (pureQ (.p (.b (s.all isNm))) H)) ⟨[(0, .p (.s s)), (1, .p (.b g)), (4, .p (.b false)), (28, .p (.b false))], [], H⟩ := by
    subst hT
    clear hg
    simp only [go_sem, simprocAttr, mc72, mr72, Bool.true_and]
    refine ⟨Nat, [0, 4, 5], fun x st => (x ≤ s.length ∧ s.all isNm = (s.drop x).all isNm) ∧ st = ⟨[(0, .p (.s s)), (4, .p (.b false)), (5, .p (.i .i64 x))], [], H⟩, fun x => s.length - x, ⟨0, ?_⟩, ?_⟩
    · simp only [go_sem, simprocAttr]
      simp
    rintro x _ ⟨⟨hx, hn⟩, rfl⟩
    by_cases hlt : x < s.length
    · have d1 : decide ((x : Int) < (s.length : Int)) = true := by simp; omega
      have hg : s[x]? = some s[x] := by simp [hlt]
      rw [all_drop hlt] at hn
      generalize s[x] = c at hg hn
      simp only [go_sem, simprocAttr, d1, hg, byW]
      intro _
      refine acall_pure (nameIC c H) ?_
      cases hc : isNm c
      · simp only [go_sem, simprocAttr, hc]
        exact ⟨b2 (by rw [hn, hc]; rfl), rfl⟩
      · simp only [go_sem, simprocAttr, hc, wrN x (by omega)]
        exact ⟨x + 1, ⟨⟨by omega, by rw [hn, hc]; rfl⟩, rfl⟩, by omega⟩
    · have d1 : decide ((x : Int) < (s.length : Int)) = false := by simp; omega
      rw [List.drop_of_length_le (by omega), List.all_nil] at hn
      simp only [go_sem, simprocAttr, d1]
      intro _
      exact ⟨b2 hn.symm, rfl⟩
  clear hT
  simp only [go_sem, simprocAttr, hg, byW]
  refine acall_pure (upperC c H) ?_
  cases g
  · cases h1 : isGr c
    · simp only [go_sem, simprocAttr, h1, hg, byW]
      refine acall_pure (lowerC c H) ?_
      cases h2 : isSm c
      · simp only [go_sem, simprocAttr, h2]
        exact ⟨by simp [h2], rfl⟩
      · simp only [go_sem, simprocAttr, h2]
        simpa [h2, finK, mr72] using main
    · simp only [go_sem, simprocAttr, h1]
      exact ⟨by simp [sm_gr h1], rfl⟩
  · cases h1 : isGr c
    · simp only [go_sem, simprocAttr, h1]
      exact ⟨by simp [h1], rfl⟩
    · simp only [go_sem, simprocAttr, h1]
      simpa [h1, finK, mr72] using main
theorem lowSC {s:List UInt8} (hs:s.length<=1073741824) (H:List AO):ACall Tryz.prog 71 [.p (.s s)] H (pureQ (.p (.b (lowB s))) H):=by
 refine call71 (by simp) ?_
 simp only [go_sem,simprocAttr,mc71,mr71]
 have h1:=nameSC false hs H
 simp only [Bool.false_eq_true,if_false] at h1
 refine acall_pure h1 ?_
 cases h:nmB isSm s
 ·simp only [go_sem,simprocAttr,h]
  exact ⟨by simp [lowB,h],rfl⟩
 ·simp only [go_sem,simprocAttr,h]
  refine acall_pure (keyIC _ _) ?_
  simp only [go_sem,simprocAttr]
  exact ⟨by simp [lowB,h],rfl⟩
theorem charsC {s:List UInt8} (hs:s.length<=1073741824) (H:List AO):ACall Tryz.prog 69 [.p (.s s)] H (pureQ (.p (.b (plainB s))) H):=by
 refine call69 (by simp) ?_
 simp only [go_sem,simprocAttr,mc69,mr69]
 refine ⟨Nat,[0,2,3],fun x st=>(x<=s.length/\s.all chB=(s.drop x).all chB)/\st=⟨[(0,.p (.s s)),(2,.p (.b false)),(3,.p (.i .i64 x))],[],H⟩,fun x=>s.length - x,⟨0,?_⟩,?_⟩
 ·simp only [go_sem,simprocAttr]
  simp
 rintro x _ ⟨⟨hx,hn⟩,rfl⟩
 by_cases hlt:x<s.length
 ·have d1:decide ((x:Int)<(s.length:Int))=true:=by simp; omega
  have hg:s[x]?=some s[x]:=by simp [hlt]
  rw [all_drop hlt] at hn
  generalize s[x]=c at hg hn
  have e1:isPl c=(decide ((32:Int)<=(c.toNat:Int)) && decide ((c.toNat:Int)<=126)):=rfl
  simp only [go_sem,simprocAttr,d1,hg]
  intro _
  cases h2:decide ((c.toNat:Int)=10)
  ·simp only [go_sem,simprocAttr,h2,hg,byW]
   refine acall_pure (inC _ _ _ _) ?_
   rw [<- e1]
   cases h1:isPl c
   ·simp only [go_sem,simprocAttr,h1]
    exact ⟨b2 (by rw [plainB,hn,chB,h1,h2]; rfl),rfl⟩
   ·simp only [go_sem,simprocAttr,h1,wrN x (by omega)]
    exact ⟨x+1,⟨⟨by omega,by rw [hn,chB,h1]; rfl⟩,rfl⟩,by omega⟩
  ·simp only [go_sem,simprocAttr,h2,wrN x (by omega)]
   exact ⟨x+1,⟨⟨by omega,by rw [hn,chB,h2,Bool.or_true]; rfl⟩,rfl⟩,by omega⟩
 ·have d1:decide ((x:Int)<(s.length:Int))=false:=by simp; omega
  simp only [go_sem,simprocAttr,d1]
  intro _
  refine ⟨b2 ?_,rfl⟩
  rw [plainB,hn,List.drop_of_length_le (by omega)]; rfl
def hasB (z:Int) (w:List UInt8):Bool:=w.any fun c=>decide ((c.toNat:Int)=z)
theorem has_take (z:Int) {w:List UInt8} {x:Nat} (h:x<w.length):hasB z (w.take (x+1))=(hasB z (w.take x) || decide ((w[x].toNat:Int)=z)):=by
 rw [hasB,List.take_succ_eq_append_getElem h,List.any_append]
 simp [hasB]
def plainF (k:Int) (n:List UInt8) (u:Int) (t:List UInt8) (p a:Int) (w:List UInt8):Bool :=
 decide (0<=p) && ((hasB 110 w || decide (n=[])) && ((hasB 117 w || decide (u=0)) && ((hasB 116 w || decide (t=[])) && (decide (k=13) || decide (a=0)))))
theorem plainSC (w:List UInt8) (hw:w.length<=100) (k:Int) (n:List UInt8) (u:Int) (t:List UInt8) (p:Int) (ks:List ExpD) (as':List ArmD) (H:List AO) :
  ACall Tryz.prog 68 [avC (ExpD.cells (.mk k n u t p ks as')),.p (.s w)] H (pureQ (.p (.b (plainF k n u t p as'.length w))) H):=by
 refine acall_drop1 ?_ (tf_p _)
 refine call68 (by simp) ?_
 simp only [go_sem,simprocAttr,mc68,mr68,ExpD.cells,ExpD.cellsL_eq,ExpD.cellsA_eq,avC]
 have hX0:∀ A,(H++AO.var [.p (.i .i64 k),.p (.s n),.p (.i .i64 u),.p (.s t),.p (.i .i64 p),.p (.l (ks.map ExpD.cells)),.p (.l (as'.map ArmD.cells))] :: A)[H.length]?=some (.var [.p (.i .i64 k),.p (.s n),.p (.i .i64 u),.p (.s t),.p (.i .i64 p),.p (.l (ks.map ExpD.cells)),.p (.l (as'.map ArmD.cells))]):=by simp
 refine ⟨Nat,[1,2,5,6,7,8],fun x st=>x<=w.length/\st=⟨[(1,.p (.s w)),(2,.ptr H.length 0),(5,.p (.b (hasB 110 (w.take x)))),(6,.p (.b (hasB 117 (w.take x)))),(7,.p (.b (hasB 116 (w.take x)))),(8,.p (.i .i64 x))],[],H++[AO.var [.p (.i .i64 k),.p (.s n),.p (.i .i64 u),.p (.s t),.p (.i .i64 p),.p (.l (ks.map ExpD.cells)),.p (.l (as'.map ArmD.cells))]]⟩,fun x=>w.length - x,⟨0,?_⟩,?_⟩
 ·simp only [go_sem,simprocAttr]
  exact ⟨Nat.zero_le _,by simp [hasB]⟩
 rintro x _ ⟨hx,rfl⟩
 by_cases hlt:x<w.length
 ·have d1:decide ((x:Int)<(w.length:Int))=true:=by simp; omega
  have hg:w[x]?=some w[x]:=by simp [hlt]
  have t1:=has_take 110 hlt
  have t2:=has_take 117 hlt
  have t3:=has_take 116 hlt
  generalize w[x]=c at hg t1 t2 t3
  generalize hasB 110 (w.take x)=f1 at *
  generalize hasB 117 (w.take x)=f2 at *
  generalize hasB 116 (w.take x)=f3 at *
  simp only [go_sem,simprocAttr,d1,hg]
  intro _
  cases f1 <;> cases f2 <;> cases f3
  all_goals
   simp only [go_sem,simprocAttr,hg,wrN x (by omega)]
   exact ⟨x+1,⟨by omega,by rw [t1,t2,t3]; rfl⟩,by omega⟩
 ·have d1:decide ((x:Int)<(w.length:Int))=false:=by simp; omega
  rw [List.take_of_length_le (by omega)]
  unfold plainF
  generalize hasB 110 w=f1 at *
  generalize hasB 117 w=f2 at *
  generalize hasB 116 w=f3 at *
  simp only [go_sem,simprocAttr,d1,List.length_map]
  intro _
  cases f1 <;> cases f2 <;> cases f3
  all_goals
   (try simp only [go_sem,simprocAttr])
   repeat' first
    | (with_reducible refine condK_split _ (fun h=>?_) (fun h=>?_) <;> simp only [go_sem,simprocAttr,h,List.length_map])
    | (refine drw_same ?_; simp only [go_sem,simprocAttr,List.length_map])
    | (refine And.intro (by (try simp only [maxLe,LL]); omega) ?_; try simp only [go_sem,simprocAttr,List.length_map])
    | (intro _)
  all_goals refine ⟨b2 ?_,_,rfl⟩
  all_goals simp
theorem opB_eq (s:List UInt8):opB s=binB s:=by
 unfold opB binB
 simp [List.mem_cons,Bool.or_assoc]
theorem primB_eq (s:List UInt8):(decide (s=[112,114,105,110,116]) || decide (s=[101,120,105,116]) || decide (s=[115,105,122,101]) || decide (s=[114,101,102]) || decide (s=[33]))=primB s:=by
 unfold primB
 simp [List.mem_cons,Bool.or_assoc]
theorem tok1:ToksOk [(⟨8,[],0,0⟩:Tok)]:=by
 refine ⟨by simp,fun i x h=>?_,fun x h hk=>?_⟩
 ·cases i with
  | zero=>cases h; simp
  | succ i=>simp at h
 ·simp at h; subst h; simp at hk
theorem nodeSC (k:Int) (n:List UInt8) (u:Int) (t:List UInt8) (p:Int) (ks:List ExpD) (as':List ArmD) (hn:n.length<=1073741824) (ht:t.length<=1073741824) (H:List AO) :
  ACall Tryz.prog 25 [avC (ExpD.cells (.mk k n u t p ks as'))] H (pureQ (.p (.b (expH k n u t p ks.length as'.length))) H):=by
 refine acall_drop1 ?_ (tf_p _)
 refine call25 (by simp) ?_
 have hp:=fun w (hw:w.length<=100)=>plainSC w hw k n u t p ks as'
 simp only [ExpD.cells,ExpD.cellsL_eq,ExpD.cellsA_eq,avC,List.map_cons,List.map_nil] at hp
 have hup:=fun H=>nameSC true hn H
 simp only [if_true] at hup
 have hop:=opBC n
 rw [opB_eq] at hop
 have hpr:=primC tok1 (by simp) n
 rw [primB_eq] at hpr
 simp only [go_sem,simprocAttr,mc25,mr25,ExpD.cells,ExpD.cellsL_eq,ExpD.cellsA_eq,avC,List.length_map]
 repeat' first
  | (with_reducible refine condK_split _ (fun h=>?_) (fun h=>?_) <;> simp only [go_sem,simprocAttr,h,List.length_map])
  | (with_reducible refine acall_pure (hp _ (by decide) _) ?_; simp only [go_sem,simprocAttr,List.length_map])
  | (with_reducible refine acall_pure (lowSC hn _) ?_; simp only [go_sem,simprocAttr,List.length_map])
  | (with_reducible refine acall_pure (lowSC ht _) ?_; simp only [go_sem,simprocAttr,List.length_map])
  | (with_reducible refine acall_pure (inC _ _ _ _) ?_; simp only [go_sem,simprocAttr,List.length_map])
  | (with_reducible refine acall_pure (charsC ht _) ?_; simp only [go_sem,simprocAttr,List.length_map])
  | (with_reducible refine acall_pure (hup _) ?_; simp only [go_sem,simprocAttr,List.length_map])
  | (with_reducible refine acall_pure (hop _) ?_; simp only [go_sem,simprocAttr,List.length_map])
  | (with_reducible refine acall_pure (hpr _) ?_; simp only [go_sem,simprocAttr,List.length_map])
  | (refine drw_same ?_; simp only [go_sem,simprocAttr,List.length_map])
  | (refine And.intro (by (try simp only [maxLe,LL]); omega) ?_; try simp only [go_sem,simprocAttr,List.length_map])
  | (intro _)
 all_goals refine ⟨b2 ?_,_,rfl⟩
 all_goals rw [expH]
 all_goals have ha:decide ((0:Int)<(as'.length:Int))=!decide ((as'.length:Int)=0):=by rw [<- decide_not]; exact decide_eq_decide.2 ⟨by omega,by omega⟩
 all_goals have hm:((ks.length:Int) = -1)=False:=by simp
 all_goals rw [ha]
 all_goals generalize (ks.length:Int)=m at *
 all_goals generalize (as'.length:Int)=a at *
 all_goals clear ha hup hop hpr hp
 all_goals simp only [decide_eq_true_eq,decide_eq_false_iff_not,Bool.and_eq_true,Bool.or_eq_true] at *
 all_goals simp [plainF,hasB,upB,arity, *] at *
 all_goals first | done | (split <;> simp_all; done) | skip
 all_goals try (intros; simp_all; done)
 all_goals try grind
 all_goals exact absurd ‹primB [114,101,97,100]=true› (by decide)
theorem inC1 {u:Int} (H:List AO):ACall Tryz.prog 70 [.p (.i .i64 u),.p (.i .i64 0),.p (.i .i64 1)] H (pureQ (.p (.b (decide (0<=u) && decide (u<=1)))) H):=inC _ _ _ _
def patOkS (x:PatD):Prop:=∀ H:List AO,ACall Tryz.prog 26 [avC x.cells] H (pureQ (.p (.b x.okB)) H)
theorem pat_okS (k:Int) (n:List UInt8) (u p:Int) (ks:List PatD) (hn:n.length<=1073741824) (hk:∀ x∈ks,patOkS x):patOkS (.mk k n u p ks):=by
 intro H
 refine acall_drop1 ?_ (tf_p _)
 refine call26 (by simp) ?_
 have hup:=fun H=>nameSC true hn H
 have hlo:=fun H=>nameSC false hn H
 simp only [if_true,Bool.false_eq_true,if_false] at hup hlo
 obtain ⟨T,hT,hm⟩:∃ T,T=mc26.m.b.b.b.b.b.b/\mc26.m=.seq mc26.m.a (.seq mc26.m.b.a (.seq mc26.m.b.b.a (.seq mc26.m.b.b.b.a (.seq mc26.m.b.b.b.b.a (.seq mc26.m.b.b.b.b.b.a  T))))):=⟨_,rfl,rfl⟩
 rw [hm]
 clear hm
 have main:∀ (b:Bool) (v5:AV) (v6:AV) (v21:AV) (W:List (Nat × AV)) (o:Bool),ks.length<=maxL->o=(b && ks.all PatD.okB)->ekeep [1,2,3,4,7] (eset W 7 (.p (.i .i64 0)))=[(7,.p (.i .i64 0))]->wpm (ACall Tryz.prog) T (finK mr26 (fun r H'=>r=.p (.b o)/\∃ G,H'=H++G)) ⟨(0,.st [.p (.i .i64 k),.p (.s n),.p (.i .i64 u),.p (.i .i64 p),.p (.l (ks.map PatD.cells))]) :: (1,.ptr H.length 0) :: (2,.p (.b false)) :: (3,.p (.i .i64 ks.length)) :: (4,.p (.b b)) :: (5,v5) :: (6,v6) :: (21,v21) :: W,[],H++[.var [.p (.i .i64 k),.p (.s n),.p (.i .i64 u),.p (.i .i64 p),.p (.l (ks.map PatD.cells))]]⟩:=by
  intro b  v5  v6  v21 W o hl ho hW
  subst ho
  rw [maxLe] at hl
  subst hT
  have hV0:∃ G,H++[.var [.p (.i .i64 k),.p (.s n),.p (.i .i64 u),.p (.i .i64 p),.p (.l (ks.map PatD.cells))]]=H++.var [.p (.i .i64 k),.p (.s n),.p (.i .i64 u),.p (.i .i64 p),.p (.l (ks.map PatD.cells))] :: G:=⟨[],rfl⟩
  generalize H++[.var [.p (.i .i64 k),.p (.s n),.p (.i .i64 u),.p (.i .i64 p),.p (.l (ks.map PatD.cells))]]=X at hV0
  simp only [go_sem,simprocAttr,mc26,mr26,hW]
  refine ⟨Nat × Bool × List AO,[1,2,3,4,7],fun x st=>(x.1<=ks.length/\(b && ks.all PatD.okB)=(x.2.1 && (ks.drop x.1).all PatD.okB)/\∃ G,x.2.2=H++.var [.p (.i .i64 k),.p (.s n),.p (.i .i64 u),.p (.i .i64 p),.p (.l (ks.map PatD.cells))] :: G)/\st=⟨[(1,.ptr H.length 0),(2,.p (.b false)),(3,.p (.i .i64 ks.length)),(4,.p (.b x.2.1)),(7,.p (.i .i64 x.1))],[],x.2.2⟩,fun x=>ks.length - x.1,⟨(0,b,X),?_⟩,?_⟩
  ·simp only [go_sem,simprocAttr,hW]
   exact ⟨by simp,hV0⟩
  rintro ⟨x,b,Y⟩ _ ⟨⟨hx,hn,hY⟩,rfl⟩
  simp only at hx hn hY
  by_cases hlt:x<ks.length
  ·have d1:decide ((x:Int)<(ks.length:Int))=true:=by simp; omega
   have hlt':(x:Int)<(ks.length:Int):=by omega
   have hg:(ks.map PatD.cells)[x]?=some (PatD.cells ks[x]):=by simp [hlt]
   have hc:=fun H=>hk ks[x] (List.getElem_mem hlt) H
   rw [all_drop hlt] at hn
   generalize ks[x]=c at hg hc hn
   obtain ⟨ck,cn,cu,cp,cks⟩:=c
   simp only [PatD.cells,avC,List.map_cons,List.map_nil,patOkS] at hg hc
   obtain ⟨G,rfl⟩:=hY
   cases b
   ·simp only [go_sem,simprocAttr,d1]
    exact ⟨b2 (by rw [hn]; rfl),_,rfl⟩
   simp only [go_sem,simprocAttr,d1,hlt',hg,List.length_map]
   refine acall_pure (hc _) ?_
   generalize PatD.okB _=b at hn ⊢
   simp only [go_sem,simprocAttr,wrN x (by omega)]
   exact ⟨(x+1,b,_),⟨⟨by omega,by simpa using hn,_,rfl⟩,rfl⟩,by simp only; omega⟩
  ·have d1:decide ((x:Int)<(ks.length:Int))=false:=by simp; omega
   rw [List.drop_of_length_le (by omega),List.all_nil,Bool.and_true] at hn
   obtain ⟨G,rfl⟩:=hY
   simp only [go_sem,simprocAttr,d1]
   exact ⟨b2 hn.symm,_,rfl⟩
 clear hT
 simp only [go_sem,simprocAttr,mc26,mr26,PatD.cells,PatD.cellsL_eq,avC,List.length_map]
 intro hl
 simp only [mr26] at main
 replace main:=fun b v5 v6 v21 W o=>main b v5 v6 v21 W o hl
 clear hl
 repeat' first
  | (with_reducible refine condK_split _ (fun h=>?_) (fun h=>?_) <;> simp only [go_sem,simprocAttr,h,List.length_map])
  | (with_reducible refine acall_pure (lowSC hn _) ?_; simp only [go_sem,simprocAttr,List.length_map])
  | (with_reducible refine acall_pure (inC1 _) ?_; simp only [go_sem,simprocAttr,List.length_map])
  | (with_reducible refine acall_pure (hup _) ?_; simp only [go_sem,simprocAttr,List.length_map])
  | (with_reducible refine acall_pure (hlo _) ?_; simp only [go_sem,simprocAttr,List.length_map])
  | (refine drw_same ?_; simp only [go_sem,simprocAttr,List.length_map])
  | (refine And.intro (by (try simp only [maxLe,LL]); omega) ?_; try simp only [go_sem,simprocAttr,List.length_map])
  | (intro _)
 all_goals clear hup hlo
 all_goals rw [PatD.okB,PatD.okL_eq,patH]
 all_goals generalize ks.all PatD.okB=ob at *
 all_goals generalize (ks.length:Int)=m at *
 all_goals simp only [decide_eq_true_eq,decide_eq_false_iff_not,Bool.and_eq_true,Bool.or_eq_true] at *
 all_goals first
  | (refine ⟨b2 ?_,_,rfl⟩; simp [*]; done)
  | (refine main _ _ _ _ _ _ ?_ ?_ <;> clear main <;> simp [upB,eset,ekeep,lmem, *]; done)
  | trace_state
theorem patOkSC (p : PatD) (h : p.sz ≤ 1073741824) : patOkS p := by
  have : ∀ (m : Nat) (p : PatD), p.sz < m → p.sz ≤ 1073741824 → patOkS p := by
    intro m
    induction m with
    | zero => intro p h; omega
    | succ m ih =>
      intro p h h2
      obtain ⟨ck, cn, cu, cp, cks⟩ := p
      rw [PatD.sz, PatD.szL_eq] at h h2
      exact pat_okS _ _ _ _ _ (by omega) fun a ha => ih a (by have := sumSz_mem PatD.sz ha; omega) (by have := sumSz_mem PatD.sz ha; omega)
  exact this _ p (Nat.lt_succ_self _) h
def ExpOkS (x:ExpD):Prop:=∀ H:List AO,ACall Tryz.prog 8 [avC x.cells] H (pureQ (.p (.b x.okB)) H)
theorem expOk_S (k:Int) (n:List UInt8) (u:Int) (t:List UInt8) (p:Int) (ks:List ExpD) (as':List ArmD) (hn:n.length<=1073741824) (ht:t.length<=1073741824) (hk:∀ x∈ks,ExpOkS x) (ha:∀ q e,ArmD.mk q e∈as'->patOkS q/\ExpOkS e):ExpOkS (.mk k n u t p ks as'):=by
 intro H
 refine acall_drop1 ?_ (tf_p _)
 refine call8 (by simp) ?_
 have hh:=nodeSC k n u t p ks as' hn ht
 simp only [ExpD.cells,ExpD.cellsL_eq,ExpD.cellsA_eq,avC,List.map_cons,List.map_nil] at hh
 rw [ExpD.okB,ExpD.okL_eq,ExpD.okA_eq]
 simp only [go_sem,simprocAttr,mc8,mr8,ExpD.cells,ExpD.cellsL_eq,ExpD.cellsA_eq,avC,List.length_map]
 refine acall_pure (hh _) ?_
 simp only [go_sem,simprocAttr]
 generalize expH k n u t p ks.length as'.length=b
 cases b
 ·simp only [go_sem,simprocAttr]
  exact ⟨b2 rfl,_,rfl⟩
 simp only [go_sem,simprocAttr,List.length_map,Bool.true_and]
 have hB:=Bh.nil H (.var [.p (.i .i64 k),.p (.s n),.p (.i .i64 u),.p (.s t),.p (.i .i64 p),.p (.l (ks.map ExpD.cells)),.p (.l (as'.map ArmD.cells))])
 generalize hV:AO.var [.p (.i .i64 k),.p (.s n),.p (.i .i64 u),.p (.s t),.p (.i .i64 p),.p (.l (ks.map ExpD.cells)),.p (.l (as'.map ArmD.cells))]=V at hB
 generalize H++[V]=X at hB
 refine ⟨Nat × List AO,[1,2,3],fun x st=>(x.1<=ks.length/\ks.all ExpD.okB=(ks.drop x.1).all ExpD.okB/\Bh H V x.2)/\st=⟨[(1,.ptr H.length 0),(2,.p (.b false)),(3,.p (.i .i64 x.1))],[],x.2⟩,fun x=>ks.length - x.1,⟨(0,X),?_⟩,?_⟩
 ·simp only [go_sem,simprocAttr]
  exact ⟨by simp,hB⟩
 rintro ⟨x,Y⟩ _ ⟨⟨hx,hn,hY⟩,rfl⟩
 simp only at hx hn hY
 have hz0:=hY.at0
 rw [<- hV] at hz0
 by_cases hlt:x<ks.length
 ·have d1:decide ((x:Int)<(ks.length:Int))=true:=by simp; omega
  have hlt':(x:Int)<(ks.length:Int):=by omega
  have hg:(ks.map ExpD.cells)[x]?=some (ExpD.cells ks[x]):=by simp [hlt]
  have hc:=fun H=>hk ks[x] (List.getElem_mem hlt) H
  rw [all_drop hlt] at hn
  generalize ks[x]=c at hg hc hn
  obtain ⟨ck,cn,cu,ct,cp,cks,cas⟩:=c
  simp only [ExpD.cells,avC,List.map_cons,List.map_nil,ExpOkS] at hg hc
  simp only [go_sem,simprocAttr,d1,hlt',hg,hz0,List.length_map]
  intro hl
  rw [maxLe] at hl
  refine acall_pure (hc _) ?_
  generalize ExpD.okB _=b at hn
  cases b
  ·simp only [go_sem,simprocAttr]
   exact ⟨b2 (by rw [hn]; rfl),hY.ends⟩
  ·simp only [go_sem,simprocAttr,wrN x (by omega)]
   exact ⟨(x+1,_),⟨⟨by omega,by simpa using hn,hY⟩,rfl⟩,by simp only; omega⟩
 ·have d1:decide ((x:Int)<(ks.length:Int))=false:=by simp; omega
  rw [List.drop_of_length_le (by omega),List.all_nil] at hn
  rw [hn,Bool.true_and]
  simp only [go_sem,simprocAttr,d1,hz0,List.length_map]
  intro hl
  rw [maxLe] at hl
  refine ⟨Nat,[1,2,4],fun x st=>(x<=as'.length/\as'.all ArmD.okB=(as'.drop x).all ArmD.okB)/\st=⟨[(1,.ptr H.length 0),(2,.p (.b false)),(4,.p (.i .i64 x))],[],Y⟩,fun x=>as'.length - x,⟨0,?_⟩,?_⟩
  ·simp only [go_sem,simprocAttr]
   simp
  rintro y _ ⟨⟨hy,hm⟩,rfl⟩
  by_cases hlt:y<as'.length
  ·have d2:decide ((y:Int)<(as'.length:Int))=true:=by simp; omega
   have hlt':(y:Int)<(as'.length:Int):=by omega
   have hg:(as'.map ArmD.cells)[y]?=some (ArmD.cells as'[y]):=by simp [hlt]
   have hc:∀ q e,as'[y]=ArmD.mk q e->patOkS q/\ExpOkS e:=fun q e he=>ha q e (by rw [<- he]; exact List.getElem_mem hlt)
   rw [all_drop hlt] at hm
   generalize as'[y]=c at hg hc hm
   obtain ⟨⟨qk,qn,qu,qp,qks⟩,⟨ck,cn,cu,ct,cp,cks,cas⟩⟩:=c
   obtain ⟨h1,h2⟩:=hc _ _ rfl
   simp only [armC,PatD.cells,ExpD.cells,avC,List.map_cons,List.map_nil,ExpOkS,patOkS,List.cons_append,List.nil_append] at hg h1 h2
   rw [ArmD.okB] at hm
   generalize PatD.okB _=b1 at hm h1
   generalize ExpD.okB _=b2' at hm h2
   simp only [go_sem,simprocAttr,d2,hlt',hg,hz0,List.length_map]
   intro hl2
   rw [maxLe] at hl2
   refine acall_pure (h1 _) ?_
   cases b1
   ·simp only [go_sem,simprocAttr,hz0]
    exact ⟨b2 (by rw [hm]; rfl),hY.ends⟩
   simp only [go_sem,simprocAttr,hlt',hg,hz0,List.length_map]
   refine acall_pure (h2 _) ?_
   cases b2'
   ·simp only [go_sem,simprocAttr]
    exact ⟨b2 (by rw [hm]; rfl),hY.ends⟩
   simp only [go_sem,simprocAttr,wrN y (by omega)]
   exact ⟨y+1,⟨⟨by omega,by simpa using hm⟩,rfl⟩,by omega⟩
  ·have d2:decide ((y:Int)<(as'.length:Int))=false:=by simp; omega
   rw [List.drop_of_length_le (by omega),List.all_nil] at hm
   simp only [go_sem,simprocAttr,d2,hz0,List.length_map]
   intro hl2
   exact ⟨b2 hm.symm,hY.ends⟩
theorem expOkSC (p : ExpD) (h : p.sz ≤ 1073741824) : ExpOkS p := by
  have : ∀ (m : Nat) (p : ExpD), p.sz < m → p.sz ≤ 1073741824 → ExpOkS p := by
    intro m
    induction m with
    | zero => intro p h; omega
    | succ m ih =>
      intro p h h2
      obtain ⟨k, n, u, t, q, ks, as'⟩ := p
      rw [ExpD.sz, ExpD.szL_eq, ExpD.szA_eq] at h h2
      refine expOk_S _ _ _ _ _ _ _ (by omega) (by omega) (fun a ha => ih a (by have := sumSz_mem ExpD.sz ha; omega) (by have := sumSz_mem ExpD.sz ha; omega)) fun q e ha => ?_
      have := sumSz_mem ArmD.sz ha
      rw [ArmD.sz] at this
      exact ⟨patOkSC q (by omega), ih e (by omega) (by omega)⟩
  exact this _ p (Nat.lt_succ_self _) h
end Go.Proofs.YteilijfligofdaaGreatDoor.Qp