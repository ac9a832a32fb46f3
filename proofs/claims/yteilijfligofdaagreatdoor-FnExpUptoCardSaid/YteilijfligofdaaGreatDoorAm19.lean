/- Regions whose order is drawn: one evaluation in the order of the text serves every order. -/
import Derived.Test.YteilijfligofdaaGreatDoorAm18
set_option linter.all false
namespace Go.AM
variable {lv:List Nat} {P:Program} {N:Nat} {K:St->Prop} {θ:Th} {W:Im} {C:CallP}
theorem ACall.mono {f:Nat} {args:List AV} {H:List AO} {R R':AV->List AO->Prop} (h:ACall P f args H R) (hr:∀ r H',R r H'->R' r H'):ACall P f args H R' :=
 ⟨h.1,fun w θ W vs hm ha=>(h.2 w θ W vs hm ha).mono fun e w' ⟨v,r,H',θ',W',h1,h2,h3⟩=>⟨v,r,H',θ',W',h1,hr _ _ h2,h3⟩⟩
inductive Out where
 | val (v:AV)
 | new (ob:AO) (mk:Nat->AV)
 | chn (v:AV) (Hc:List AO)
 | upd (k:Nat) (v:AV) (ob:AO)
def outPut (s:List AO × St) (d:MD):Out->List AO × St
 | .val v=>(s.1,s.2.put d v)
 | .new ob mk=>(s.1,St.put ⟨s.2.L,s.2.T,s.2.H++[ob]⟩ d (mk (s.1.length+s.2.H.length)))
 | .chn v Hc=>(Hc,s.2.put d v)
 | .upd k v ob=>(s.1,St.put ⟨s.2.L,s.2.T,s.2.H.set k ob⟩ d v)
def sts (pre : List MI) (outs : Nat → Out) (s : List AO × St) : Nat → List AO × St
  | 0 => s
  | i + 1 => match pre[i]? with
    | some o => outPut (sts pre outs s i) o.dst (outs i)
    | none => sts pre outs s i
def Fill (op:MO) (N A:List AO) (b:Nat) (s':St):Prop:=∀ y∈op.args,∀ id ob,idOf (s'.get y)=some id->b<=id->N[id - b]?=some ob->A[id - b]?=some ob
def SrcOk (Hm:List AO) (s:List AO × St) (sz b:Nat) (y:MA) (ys:List (List AV)):Prop :=
 y.isC=false/\srcN Hm s.1 s.2.H sz (s.2.get y)=some ys/\∀ r∈ys,r.length=sz
def AppNew (Hm:List AO) (op:MO) (s:List AO × St) (ob:AO) (mk:Nat->AV):Prop :=
 ∃ sz b x y ys,op=.appn sz b x y/\s.2.get x=.p .nl/\SrcOk Hm s sz b y ys/\ys≠[] /\
  ys.length * b<=140737488355328/\ys.length<=140737488355328/\ob=.rows sz 0 ys/\mk=fun id=>.gs id 0 0 ys.length
def AppUpd (Hm:List AO) (op:MO) (s:List AO × St) (k:Nat) (v:AV) (ob:AO):Prop :=
 ∃ sz b x y ys id ver n rs,op=.appn sz b x y/\x.isC=false/\s.2.get x=.gs id ver 0 n/\s.1.length<=id/\k=id - s.1.length/\s.2.H[k]?=some (.rows sz ver rs)/\n<=rs.length/\SrcOk Hm s sz b y ys /\
  (n+ys.length) * b<=140737488355328/\n+ys.length<=140737488355328/\v=.gs id (ver+1) 0 (n+ys.length)/\ob=.rows sz (ver+1) (rs.take n++ys)
def StoUpd (op:MO) (s:List AO × St) (k:Nat) (v:AV) (ob:AO):Prop :=
 ∃ n x w id off cs us cs',op=.ston n x w/\x.isC=false/\s.2.get x=.ptr id off/\s.1.length<=id/\k=id - s.1.length/\s.2.H[k]?=some (.var cs)/\stonU n (s.2.get w)=some us/\splice cs off us=some cs'/\v=.any/\ob=.var cs'
def RdnOk (op:MO) (s:List AO × St) (v:AV):Prop :=
 ∃ x id ver off n ob,op=.b2sn x/\x.isC=false/\s.2.get x=.gs id ver off n/\s.1.length<=id/\s.2.H[id - s.1.length]?=some ob/\b2sR (srcR 1 ver off n (some ob))=some v
def GoodU (P:Program) (Hm:List AO) (op:MO) (d:MD) (s:List AO × St):Out->Prop
 | .val v=>(∀ s',Agree op.args s.2 s'->Hext Hm s'.H->stepU (ACall P) op d (fun t=>t=s'.put d v) s')\/RdnOk op s v
 | .new ob mk=>(kindOf op=.new/\NewOk op s.2 ob mk)\/AppNew Hm op s ob mk\/((chainM op=true)/\∀ s' j,Agree op.args s.2 s'->Hext Hm s'.H->s'.H[j]?=some .rsv->stepU (ACall P) op d (fun t=>t=St.put ⟨s'.L,s'.T,s'.H.set j ob⟩ d (mk j)) s')
 | .chn v Hc=>chainM op=true/\Hc.length=s.1.length/\Hext Hm Hc/\∀ s' A,Agree op.args s.2 s'->s'.H=s.1++A->Hext Hm s'.H->Fill op s.2.H A s.1.length s'->stepU (ACall P) op d (fun t=>t=⟨(s'.put d v).L,(s'.put d v).T,Hc++A⟩) s'
 | .upd k v ob=>AppUpd Hm op s k v ob\/StoUpd op s k v ob
def GoodI (P:Program) (Hm:List AO) (o:MI) (s:List AO × St) (out:Out):Prop :=
 match o.guard with
 | none=>GoodU P Hm o.op o.dst s out
 | some (t,want)=>(s.2.get t=.tup []/\out=.val (.tup []))\/∃ b,s.2.get t=.p (.b b)/\(b=want->GoodU P Hm o.op o.dst s out)/\(b≠want->out=.val (.tup []))
theorem src_same {Hm : List AO} {s : List AO × St} {sz : Nat} {y : MA} {ys : List (List AV)} (hyc : y.isC = false) (hys : srcN Hm s.1 s.2.H sz (s.2.get y) = some ys) {s' : St} {A : List AO} (ey : s.2.get y = s'.get y) (hA : s'.H = s.1 ++ A) (hx : Hext Hm s'.H)
    (hf : ∀ id v o n ob, s'.get y = .gs id v o n → s.1.length ≤ id → s.2.H[id - s.1.length]? = some ob → A[id - s.1.length]? = some ob) : srcRows s'.H sz (s'.get y) = some ys := by
  rw [ey] at hys
  cases hv : s'.get y with
  | gs id v o n =>
    rw [hv] at hys
    show srcR sz v o n s'.H[id]? = some ys
    unfold srcN at hys
    simp only at hys
    split at hys
    · rename_i hle
      rw [hA, List.getElem?_append_right hle]
      cases hN : s.2.H[id - s.1.length]? with
      | none => rw [hN] at hys; cases hys
      | some ob => rw [hf id v o n ob hv hle hN, ← hN]; exact hys
    · cases hN : Hm[id]? with
      | none => rw [hN] at hys; cases hys
      | some ob =>
        rw [hN] at hys
        have hnd : ob ≠ .dead := by rintro rfl; cases hys
        rw [hx id ob hN hnd]; exact hys
  | p x =>
    rw [hv] at hys
    exact srcRows_ext (H := []) (fun id o h _ => by simp at h) hys
  | _ => rw [hv] at hys; cases hys
theorem get_H (L T:En) (H H':List AO) (x:MA):St.get ⟨L,T,H⟩ x=St.get ⟨L,T,H'⟩ x:=by cases x <;> rfl
theorem preU_inv {J : PK} {Hm Hc : List AO} {op : MO} {d : MD} {s : St} (h : preU (ACall P) Hm Hc op d J s) : ∃ out, GoodU P Hm op d (Hc, s) out ∧ J (outPut (Hc, s) d out).1 (outPut (Hc, s) d out).2 := by
  unfold preU at h
  split at h
  · rename_i hq
    obtain ⟨v, h1, h2⟩ := quiet_val hq h
    refine ⟨.val v, .inl fun s' ha he => h2 s' (fun x hx => by rw [get_H _ _ Hm s.H]; exact ha x hx) he, ?_⟩
    cases d <;> exact h1
  · rename_i hq
    have fin : ∀ (N : List AO) (f : Nat) (xs : List AV), (∀ s' : St, Agree op.args s s' → ∀ K : St → Prop, ACall P f xs s'.H (callK d K s') → stepU (ACall P) op d K s') → chainM op = true → (∀ (s' : St) A, Agree op.args s s' → Fill op s.H A Hc.length s' → FillA xs N A Hc.length) → pcallK (ACall P) Hm Hc N f xs d J s →
        ∃ out, GoodU P Hm op d (Hc, s) out ∧ J (outPut (Hc, s) d out).1 (outPut (Hc, s) d out).2 := by
      rintro N f xs hstep hch hfa (⟨r, Hc', h1, h2, h3, h4⟩ | ⟨ob, mk, h3, h4⟩)
      rotate_left
      · refine ⟨.new ob mk, .inr (.inr ⟨hch, fun s' j ha he hj => hstep s' ha _ ?_⟩), h4⟩
        refine (h3 s'.H j he hj).mono ?_
        rintro r' H' ⟨rfl, rfl⟩
        rfl
      refine ⟨.chn r Hc', ⟨hch, h1, h2, fun s' A ha hA _ hf => hstep s' ha _ ?_⟩, h4⟩
      rw [hA]
      refine (h3 A (hfa s' A ha hf)).mono ?_
      rintro r' H' ⟨rfl, rfl⟩
      show St.put ⟨s'.L, s'.T, Hc' ++ A⟩ d r' = _
      rw [put_TH]
    cases op with
    | call f args =>
      refine fin s.H f (gets s args) (fun s' ha K hc => ?_) rfl (fun s' A ha hf => ?_) h
      · show ACall P f (gets s' args) s'.H (callK d K s')
        rw [← Agree.gets (l := args) ha]; exact hc
      · rw [Agree.gets (l := args) ha]
        intro x hx id ob hid hle hN
        have : ∃ y ∈ args, s'.get y = x := by
          clear hf hid hN fin h hq
          have key : ∀ l : List MA, x ∈ gets s' l → ∃ y ∈ l, s'.get y = x := by
            intro l
            induction l with
            | nil => intro h; cases h
            | cons y l ih =>
              intro h
              rcases List.mem_cons.1 h with e | e
              · exact ⟨y, by simp, e.symm⟩
              · obtain ⟨z, hz, hz2⟩ := ih e
                exact ⟨z, List.mem_cons_of_mem _ hz, hz2⟩
          exact key args hx
        obtain ⟨y, hy, rfl⟩ := this
        exact hf y hy id ob hid hle hN
    | calv x args =>
      change (match s.get x with | .clo f caps => pcallK (ACall P) Hm Hc [] f (gets s args ++ caps) d J s | _ => False) at h
      split at h
      · rename_i f caps e
        refine fin [] f (gets s args ++ caps) (fun s' ha K hc => ?_) rfl (fun s' A ha hf x hx id ob hid hle hN => by simp at hN) h
        show calvK (ACall P) (s'.get x) (gets s' args) d K s'
        rw [← ha x (by simp [MO.args]), e, ← Agree.gets (l := args) (fun y hy => ha y (by simp [MO.args, hy]))]
        exact hc
      · exact h.elim
    | _ => cases hq
  · rename_i hq
    obtain ⟨ob, mk, h1, h2⟩ := new_val hq h
    exact ⟨.new ob mk, .inl ⟨hq, h1⟩, h2⟩
  · rename_i hq
    obtain ⟨v, H', ⟨h1, h2, h3⟩, h4⟩ := eff_val hq h
    refine ⟨.chn v H', ⟨(by cases op <;> first | rfl | (cases hq; done)), h1, h2, fun s' A ha hA _ _ => h4 h1 s' A (fun x hx => by rw [get_H _ _ Hc s.H]; exact ha x hx) hA⟩, ?_⟩
    cases d <;> exact h3
  · rename_i hq
    cases op with
    | appn sz b x y =>
      change (if x.isC || y.isC then False else appnY Hm Hc sz b (s.get x) (srcN Hm Hc s.H sz (s.get y)) d J s) at h
      split at h
      · exact h.elim
      rename_i hcc
      simp only [Bool.or_eq_true, not_or, Bool.not_eq_true] at hcc
      obtain ⟨hxc, hyc⟩ := hcc
      unfold appnY at h
      split at h
      case h_2 => exact h.elim
      case h_1 ys hys =>
      obtain ⟨hyr, ⟨hx, hne, hb, hb63, hK⟩ | h2 | ⟨id, ver, n, hx, hle, h2⟩⟩ := h
      · exact ⟨.new (.rows sz 0 ys) (fun id => .gs id 0 0 ys.length), .inr (.inl ⟨sz, b, x, y, ys, rfl, hx, ⟨hyc, hys, hyr⟩, hne, hb, hb63, rfl, rfl⟩), hK⟩
      · unfold appX at h2
        split at h2
        · obtain ⟨q1, q2, h2⟩ := h2
          rw [put_TH] at h2
          have := h2.1
          simp at this
        · rename_i id2 ver2 off2 n2 e2
          unfold appR at h2
          split at h2
          · rename_i sz' ver' rs hid
            obtain ⟨rfl, rfl, rfl, q4, q5, q6, h2⟩ := h2
            have hlt := (List.getElem?_eq_some_iff.1 hid).1
            have h2' : effK Hm Hc s.H J ⟨(St.put s d (.gs id2 (ver' + 1) 0 (n2 + ys.length))).L, (St.put s d (.gs id2 (ver' + 1) 0 (n2 + ys.length))).T, Hc.set id2 (.rows sz' (ver' + 1) (rs.take n2 ++ ys))⟩ := by
              rw [put_TH] at h2
              cases d <;> exact h2
            obtain ⟨k1, k2, k3⟩ := h2'
            refine ⟨.chn (.gs id2 (ver' + 1) 0 (n2 + ys.length)) (Hc.set id2 (.rows sz' (ver' + 1) (rs.take n2 ++ ys))), ⟨rfl, k1, k2, fun s' A ha hA hx hf => ?_⟩, ?_⟩
            · have ex := ha x (by simp [MO.args])
              have ey := ha y (by simp [MO.args])
              have hs' := src_same (s := (Hc, s)) hyc hys ey hA hx (fun id v o n ob h1 h2 h3 => hf y (by simp [MO.args]) id ob (by rw [h1]; rfl) h2 h3)
              show appY sz' b (s'.get x) (srcRows s'.H sz' (s'.get y)) d _ s'
              rw [hs', ← ex]
              refine ⟨hyr, ?_⟩
              have e2' : s.get x = .gs id2 ver' 0 n2 := e2
              rw [e2', appX_gs', hA, List.getElem?_append_left hlt, hid]
              refine ⟨rfl, rfl, rfl, q4, q5, q6, ?_⟩
              rw [hA, List.set_append_left _ _ hlt]
              exact put_TH s' _ d _
            · cases d <;> exact k3
          · exact h2.elim
        · exact h2.elim
      · unfold appnN at h2
        split at h2
        · rename_i sz' ver' rs hid
          obtain ⟨rfl, rfl, q4, q5, q6, h2⟩ := h2
          exact ⟨.upd (id - Hc.length) (.gs id (ver' + 1) 0 (n + ys.length)) (.rows sz' (ver' + 1) (rs.take n ++ ys)), .inl ⟨sz', b, x, y, ys, id, ver', n, rs, rfl, hxc, hx, hle, rfl, hid, q4, ⟨hyc, hys, hyr⟩, q5, q6, rfl, rfl⟩, h2⟩
        · exact h2.elim
    | ston n x w =>
      change (if x.isC then False else stonK Hc n (s.get x) (s.get w) d J s) at h
      split at h
      · exact h.elim
      rename_i hxc
      simp only [Bool.not_eq_true] at hxc
      unfold stonK at h
      split at h
      case h_2 => exact h.elim
      case h_1 id off hx =>
      obtain ⟨hle, h⟩ := h
      unfold stonR at h
      split at h
      case h_2 => exact h.elim
      case h_1 cs hid =>
      cases hu : stonU n (s.get w) with
      | none => rw [hu] at h; exact h.elim
      | some us =>
        rw [hu, Option.bind_some] at h
        cases hs : splice cs off us with
        | none => rw [hs] at h; exact h.elim
        | some cs' =>
          rw [hs] at h
          exact ⟨.upd (id - Hc.length) .any (.var cs'), .inr ⟨n, x, w, id, off, cs, us, cs', rfl, hxc, hx, hle, rfl, hid, hu, hs, rfl, rfl⟩, h⟩
    | _ => cases hq
  · rename_i hq
    cases op with
    | b2sn x =>
      change (if x.isC then False else rdnX Hc (s.get x) d J s) at h
      split at h
      · exact h.elim
      rename_i hxc
      simp only [Bool.not_eq_true] at hxc
      unfold rdnX at h
      split at h
      case h_2 => exact h.elim
      case h_1 id ver off n hx =>
      obtain ⟨hle, h⟩ := h
      obtain ⟨v, hv, h⟩ := withV_inv h
      cases hob : s.H[id - Hc.length]? with
      | none => rw [hob] at hv; simp [srcR, b2sR] at hv
      | some ob =>
        rw [hob] at hv
        refine ⟨.val v, .inr ⟨x, id, ver, off, n, ob, rfl, hxc, hx, hle, hob, hv⟩, ?_⟩
        cases d <;> exact h
    | _ => cases hq
  · exact h.elim
theorem condK_inv {v:AV} {A B:St->Prop} {s:St} (h:condK v A B s):∃ b,v=.p (.b b)/\(b=true->A s)/\(b=false->B s):=by
 unfold condK at h
 split at h
 ·rename_i b; exact ⟨b,rfl,h.1,fun hb=>h.2 (by simp [hb])⟩
 ·exact h.elim
theorem preI_inv {J : PK} {Hm Hc : List AO} {o : MI} {s : St} (h : preI (ACall P) Hm Hc o J s) : ∃ out, GoodI P Hm o (Hc, s) out ∧ J (outPut (Hc, s) o.dst out).1 (outPut (Hc, s) o.dst out).2 := by
  obtain ⟨d, op, g⟩ := o
  cases g with
  | none => exact preU_inv h
  | some tw =>
    obtain ⟨t, want⟩ := tw
    rw [preI_some] at h
    rcases guardK_inv h with ⟨e, h3⟩ | ⟨b, hb, h1, h2⟩
    · exact ⟨.val (.tup []), .inl ⟨e, rfl⟩, h3⟩
    · by_cases e : b = want
      · obtain ⟨out, q1, q2⟩ := preU_inv (h1 e)
        exact ⟨out, .inr ⟨b, hb, fun _ => q1, fun hne => (hne e).elim⟩, q2⟩
      · exact ⟨.val (.tup []), .inr ⟨b, hb, fun he => (e he).elim, fun _ => rfl⟩, h2 e⟩
def consOut (o:Out) (f:Nat->Out):Nat->Out
 | 0=>o
 | i+1=>f i
theorem sts_cons (o : MI) (os : List MI) (out : Out) (outs : Nat → Out) (s : List AO × St) : ∀ i, sts (o :: os) (consOut out outs) s (i + 1) = sts os outs (outPut s o.dst out) i
  | 0 => rfl
  | i + 1 => by
    rw [sts, sts_cons o os out outs s i]
    simp only [List.getElem?_cons_succ, sts]
    rfl
theorem trace {J : PK} {Hm : List AO} : ∀ (pre : List MI) (s : List AO × St), preK (ACall P) Hm pre J s.1 s.2 → ∃ outs : Nat → Out, (∀ i o, pre[i]? = some o → GoodI P Hm o (sts pre outs s i) (outs i)) ∧ J (sts pre outs s pre.length).1 (sts pre outs s pre.length).2
  | [], s, h => ⟨fun _ => .val .any, fun i o hi => by simp at hi, h⟩
  | o :: os, s, h => by
    rw [preK_cons] at h
    obtain ⟨out, h1, h2⟩ := preI_inv h
    obtain ⟨outs, h3, h4⟩ := trace os _ h2
    refine ⟨consOut out outs, ?_, ?_⟩
    · intro i o' hi
      cases i with
      | zero => simp at hi; subst hi; exact h1
      | succ i => rw [sts_cons]; exact h3 i o' (by simpa using hi)
    · rw [List.length_cons, sts_cons]; exact h4
theorem get_put (s : St) (d : Option Nat) (v : AV) (t : Nat) : (St.put s (cDst lv d) v).get (cTmp lv t) = if d = some t then v else s.get (cTmp lv t) := by
  cases d with
  | none => rfl
  | some d =>
    unfold cDst cTmp
    by_cases h1 : lmem lv d = true <;> by_cases h2 : lmem lv t = true
    · simp only [h1, h2, if_true, St.put, St.get, eget_eset, Option.some.injEq]
    · simp only [h1, h2, Bool.false_eq_true, if_true, if_false, St.put, St.get, Option.some.injEq]
      have hne : ¬ d = t := fun e => h2 (e ▸ h1)
      rw [if_neg hne]
    · simp only [h1, h2, Bool.false_eq_true, if_true, if_false, St.put, St.get, Option.some.injEq]
      have hne : ¬ d = t := fun e => h1 (e ▸ h2)
      rw [if_neg hne]
    · simp only [h1, h2, Bool.false_eq_true, if_false, St.put, St.get, eget_cons, Option.some.injEq]
theorem put_H (s:St) (d:MD) (v:AV):(St.put s d v).H=s.H:=by cases d <;> rfl
theorem Rl.congr {s s':St} {a:Act} {w:World} (h:Rl lv N s a w θ W) (hg:∀ t,s.get (cTmp lv t)=s'.get (cTmp lv t)) (hH:s.H=s'.H):Rl lv N s' a w θ W:=by
 refine ⟨h.defers,h.size,fun t ht=>?_,fun t ht=>?_,hH ▸ h.mem⟩
 ·have:=hg t
  simp only [cTmp,ht,if_true,St.get] at this
  rw [<- this]; exact h.loc t ht
 ·have:=hg t
  simp only [cTmp,ht,Bool.false_eq_true,if_false,St.get] at this
  rw [<- this]; exact h.tmp t ht
def FromOps (lv:List Nat) (l:List Operand) (x:MA):Prop:=(∃ v,x=.c v/\idOf v=none)\/∃ t,x=cTmp lv t/\Operand.tmp t∈l
theorem ofVal1_id {v:Value} {a:AV} (h:ofVal1 v=some a):idOf a=none:=by
 unfold ofVal1 at h
 (repeat' split at h) <;> first | (cases h; rfl) | (cases h; done)
theorem ofVal_id {v:Value} {a:AV} (h:ofVal v=some a):idOf a=none:=by
 unfold ofVal at h
 split at h
 ·obtain ⟨l,_,rfl⟩:=map_some_inv h; rfl
 ·exact ofVal1_id h
theorem cArg_from {y:Operand} {x:MA} (h:cArg lv y=some x) {l:List Operand} (hy:y∈l):FromOps lv l x:=by
 cases y with
 | tmp t=>cases h; exact .inr ⟨t,rfl,hy⟩
 | const v=>obtain ⟨a,h2,rfl⟩:=map_some_inv h; exact .inl ⟨a,rfl,ofVal_id h2⟩
 | global g=>cases h
 | func f=>cases h; exact .inl ⟨_,rfl,rfl⟩
theorem cArgs_from {ys : List Operand} {xs : List MA} (h : cArgs lv ys = some xs) {l : List Operand} (hy : ∀ y ∈ ys, y ∈ l) : ∀ x ∈ xs, FromOps lv l x := by
  induction ys generalizing xs with
  | nil => cases h; intro x hx; cases hx
  | cons y ys ih =>
    simp only [cArgs] at h
    split at h
    · rename_i a l' h1 h2
      cases h
      intro x hx
      rcases List.mem_cons.1 hx with rfl | hx
      · exact cArg_from h1 (hy y (by simp))
      · exact ih h2 (fun z hz => hy z (List.mem_cons_of_mem _ hz)) x hx
    · cases h
theorem cParts_from {t : TypeId} {ps : List (Nat × Operand)} {ms : List (Nat × Nat × MA)} (h : cParts lv P t ps = some ms) {l : List Operand} (hy : ∀ p ∈ ps, p.2 ∈ l) : ∀ x ∈ ms.map (·.2.2), FromOps lv l x := by
  induction ps generalizing ms with
  | nil => cases h; intro x hx; cases hx
  | cons p ps ih =>
    obtain ⟨f, y⟩ := p
    simp only [cParts] at h
    split at h
    · rename_i off ft n a l' h1 h2 h3
      cases h
      intro x hx
      rcases List.mem_cons.1 hx with rfl | hx
      · exact cArg_from h2 (hy (f, y) (by simp))
      · exact ih h3 (fun z hz => hy z (List.mem_cons_of_mem _ hz)) x hx
    · cases h
theorem cElems_from {ps : List (Nat × Operand)} {ms : List (Nat × MA)} (h : cElems lv ps = some ms) {l : List Operand} (hy : ∀ p ∈ ps, p.2 ∈ l) : ∀ x ∈ ms.map (·.2), FromOps lv l x := by
  induction ps generalizing ms with
  | nil => cases h; intro x hx; cases hx
  | cons p ps ih =>
    obtain ⟨f, y⟩ := p
    simp only [cElems] at h
    split at h
    · rename_i a l' h1 h2
      cases h
      intro x hx
      rcases List.mem_cons.1 hx with rfl | hx
      · exact cArg_from h1 (hy (f, y) (by simp))
      · exact ih h2 (fun z hz => hy z (List.mem_cons_of_mem _ hz)) x hx
    · cases h
theorem cOpt_from {y : Option Operand} {x : Option MA} (h : cOpt lv y = some x) {l : List Operand} (hy : ∀ z, y = some z → z ∈ l) : ∀ z ∈ x.toList, FromOps lv l z := by
  cases y with
  | none => cases h; intro z hz; cases hz
  | some y =>
    obtain ⟨a, h1, rfl⟩ := map_some_inv h
    intro z hz
    simp at hz
    subst hz
    exact cArg_from h1 (hy y rfl)
theorem cCall_from {c:Call} {m:MO} (h:cCall lv P c=some m):∀ x∈m.args,FromOps lv c.operands.toList x:=by
 have hargs:∀ y∈c.args.toList,y∈c.operands.toList:=by
  intro y hy
  simp only [Call.operands,Array.toList_append,List.mem_append]
  exact .inr hy
 unfold cCall at h
 split at h
 ·rename_i f as hc ha
  split at h
  ·split at h
   ·cases h; exact cArgs_from ha hargs
   ·cases h
  ·cases h
 ·rename_i t as hc ha
  cases h
  intro x hx
  rcases List.mem_cons.1 hx with rfl | hx
  ·exact .inr ⟨t,rfl,by simp [Call.operands,hc]⟩
  ·exact cArgs_from ha hargs x hx
 ·rename_i x hc ha
  have:=cArgs_from ha hargs
  (repeat' split at h) <;> first | (cases h; done) | (cases h; exact this)
 ·rename_i x hc ha
  have:=cArgs_from ha hargs
  (repeat' split at h) <;> first | (cases h; done) | (cases h; exact this)
 ·rename_i x y hc ha
  have:=cArgs_from ha hargs
  (repeat' split at h) <;> first | (cases h; done) | (cases h; exact this)
 ·rename_i x y hc ha
  cases h; exact cArgs_from ha hargs
 ·rename_i x y hc ha
  cases h; exact cArgs_from ha hargs
 ·cases h
theorem cOp_from {op : Op} {m : MO} (h : cOp lv P op = some m) : ∀ x ∈ m.args, FromOps lv op.operands.toList x := by
  cases op with
  | move y => obtain ⟨a, h1, rfl⟩ := map_some_inv h; intro x hx; simp only [MO.args, List.mem_singleton] at hx; subst hx; exact cArg_from h1 (by simp [Op.operands])
  | assign y => obtain ⟨a, h1, rfl⟩ := map_some_inv h; intro x hx; simp only [MO.args, List.mem_singleton] at hx; subst hx; exact cArg_from h1 (by simp [Op.operands])
  | pick c a b =>
    simp only [cOp] at h
    split at h
    · rename_i h1 h2 h3
      cases h
      intro x hx
      simp only [MO.args, List.mem_cons, List.not_mem_nil, or_false] at hx
      rcases hx with rfl | rfl | rfl
      · exact cArg_from h1 (by simp [Op.operands])
      · exact cArg_from h2 (by simp [Op.operands])
      · exact cArg_from h3 (by simp [Op.operands])
    · cases h
  | alloc t => obtain ⟨a, h1, rfl⟩ := map_some_inv h; intro x hx; cases hx
  | box t y =>
    simp only [cOp] at h
    split at h
    · rename_i h1 h2; cases h; intro x hx; simp only [MO.args, List.mem_singleton] at hx; subst hx; exact cArg_from h1 (by simp [Op.operands])
    · cases h
  | build t ps =>
    simp only [cOp] at h
    split at h
    · split at h
      · rename_i h1 h2
        split at h
        · cases h; exact cParts_from h2 (fun p hp => by simp [Op.operands]; exact ⟨p.1, by simpa using hp⟩)
        · cases h
      · cases h
    · cases h
  | buildSlice t n ps =>
    simp only [cOp] at h
    split at h
    · split at h
      · rename_i h1 h2 h3
        split at h
        · cases h; exact cElems_from h3 (fun p hp => by simp [Op.operands]; exact ⟨p.1, by simpa using hp⟩)
        · cases h
      · cases h
    · cases h
  | load t y =>
    simp only [cOp] at h
    split at h
    · rename_i h1 h2 h3; cases h; intro x hx; simp only [MO.args, List.mem_singleton] at hx; subst hx; exact cArg_from h1 (by simp [Op.operands])
    · cases h
  | store t y v =>
    simp only [cOp] at h
    split at h
    · rename_i h1 h2 h3
      split at h
      · cases h
        intro x hx
        simp only [MO.args, List.mem_cons, List.not_mem_nil, or_false] at hx
        rcases hx with rfl | rfl
        · exact cArg_from h1 (by simp [Op.operands])
        · exact cArg_from h2 (by simp [Op.operands])
      · cases h
    · cases h
  | nilCheck y => obtain ⟨a, h1, rfl⟩ := map_some_inv h; intro x hx; simp only [MO.args, List.mem_singleton] at hx; subst hx; exact cArg_from h1 (by simp [Op.operands])
  | binOp bop t y z u =>
    simp only [cOp] at h
    split at h
    · rename_i h1 h2 h3
      cases h
      intro x hx
      simp only [MO.args, List.mem_cons, List.not_mem_nil, or_false] at hx
      rcases hx with rfl | rfl
      · exact cArg_from h1 (by simp [Op.operands])
      · exact cArg_from h2 (by simp [Op.operands])
    · rename_i h1 h2 h3
      cases h
      intro x hx
      simp only [MO.args, List.mem_cons, List.not_mem_nil, or_false] at hx
      rcases hx with rfl | rfl
      · exact cArg_from h1 (by simp [Op.operands])
      · exact cArg_from h2 (by simp [Op.operands])
    · rename_i h1 h2 h3
      have fin : ∀ a b : MA, cArg lv y = some a → cArg lv z = some b → ∀ x ∈ [a, b], FromOps lv (Op.binOp bop t y z u).operands.toList x := by
        intro a b ha hb x hx
        simp only [List.mem_cons, List.not_mem_nil, or_false] at hx
        rcases hx with rfl | rfl
        · exact cArg_from ha (by simp [Op.operands])
        · exact cArg_from hb (by simp [Op.operands])
      split at h
      · cases h; exact fin _ _ h1 h2
      · cases h; exact fin _ _ h1 h2
      · cases h
    · rename_i h1 h2 h3
      have fin : ∀ a b : MA, cArg lv y = some a → cArg lv z = some b → ∀ x ∈ [a, b], FromOps lv (Op.binOp bop t y z u).operands.toList x := by
        intro a b ha hb x hx
        simp only [List.mem_cons, List.not_mem_nil, or_false] at hx
        rcases hx with rfl | rfl
        · exact cArg_from ha (by simp [Op.operands])
        · exact cArg_from hb (by simp [Op.operands])
      unfold cSq at h
      split at h
      · split at h
        · cases h; exact fin _ _ h1 h2
        · cases h; exact fin _ _ h1 h2
        · cases h
      · cases h
    · rename_i h1 h2 h3
      unfold cNii at h
      split at h
      · cases h; intro x hx; simp only [MO.args, List.mem_singleton] at hx; subst hx; exact cArg_from h1 (by simp [Op.operands])
      · cases h; intro x hx; simp only [MO.args, List.mem_singleton] at hx; subst hx; exact cArg_from h1 (by simp [Op.operands])
      · cases h
    · rename_i h1 h2 h3
      unfold cNilq at h
      split at h
      · cases h; intro x hx; simp only [MO.args, List.mem_singleton] at hx; subst hx; exact cArg_from h1 (by simp [Op.operands])
      · cases h; intro x hx; simp only [MO.args, List.mem_singleton] at hx; subst hx; exact cArg_from h1 (by simp [Op.operands])
      · cases h
    · rename_i h1 h2 h3
      unfold cNilq at h
      split at h
      · cases h; intro x hx; simp only [MO.args, List.mem_singleton] at hx; subst hx; exact cArg_from h1 (by simp [Op.operands])
      · cases h; intro x hx; simp only [MO.args, List.mem_singleton] at hx; subst hx; exact cArg_from h1 (by simp [Op.operands])
      · cases h
    · cases h
  | unOp uop t y => obtain ⟨a, h1, rfl⟩ := map_some_inv h; intro x hx; simp only [MO.args, List.mem_singleton] at hx; subst hx; exact cArg_from h1 (by simp [Op.operands])
  | convert s t y =>
    simp only [cOp] at h
    split at h
    · rename_i h1 h2 h3; cases h; intro x hx; simp only [MO.args, List.mem_singleton] at hx; subst hx; exact cArg_from h1 (by simp [Op.operands])
    · rename_i h1 h2 h3
      split at h
      · cases h; intro x hx; simp only [MO.args, List.mem_singleton] at hx; subst hx; exact cArg_from h1 (by simp [Op.operands])
      · cases h
    · cases h
  | makeFunc fn first caps =>
    cases fn with
    | func f =>
      simp only [cOp] at h
      split at h
      · obtain ⟨a, h1, rfl⟩ := map_some_inv h
        exact cArgs_from h1 (fun y hy => by simp only [Op.operands, Array.toList_append, List.mem_append]; exact .inr hy)
      · cases h
    | _ => cases h
  | makeSlice t l c =>
    simp only [cOp] at h
    split at h
    · rename_i h1 h2 h3
      split at h
      · split at h
        · cases h
          intro x hx
          simp only [MO.args, List.mem_cons, List.not_mem_nil, or_false] at hx
          rcases hx with rfl | rfl
          · exact cArg_from h2 (by simp [Op.operands])
          · exact cArg_from h3 (by simp [Op.operands])
        · cases h
      · cases h
    · cases h
  | slice t y lo hi mx =>
    cases mx with
    | some _ => cases h
    | none =>
      have fin : ∀ k a b c, cArg lv y = some a → cOpt lv lo = some b → cOpt lv hi = some c → ∀ x ∈ MO.args (.slc k a b c), FromOps lv (Op.slice t y lo hi none).operands.toList x := by
        intro k a b c h1 h2 h3 x hx
        simp only [MO.args, List.mem_cons, List.mem_append] at hx
        rcases hx with rfl | hx | hx
        · exact cArg_from h1 (by simp [Op.operands])
        · exact cOpt_from h2 (fun z hz => by subst hz; simp [Op.operands]) x hx
        · exact cOpt_from h3 (fun z hz => by subst hz; simp [Op.operands]) x hx
      simp only [cOp] at h
      split at h
      · rename_i h1 h2 h3 h4; cases h; exact fin _ _ _ _ h2 h3 h4
      · rename_i h1 h2 h3 h4; obtain ⟨n, _, rfl⟩ := map_some_inv h; exact fin _ _ _ _ h2 h3 h4
      · cases h
  | fieldAddr s y f =>
    simp only [cOp] at h
    split at h
    · rename_i h1 h2
      split at h
      · cases h; intro x hx; simp only [MO.args, List.mem_singleton] at hx; subst hx; exact cArg_from h2 (by simp [Op.operands])
      · cases h
    · cases h
  | field s y f =>
    simp only [cOp] at h
    split at h
    · rename_i h1 h2
      obtain ⟨n, _, rfl⟩ := map_some_inv h
      intro x hx; simp only [MO.args, List.mem_singleton] at hx; subst hx; exact cArg_from h2 (by simp [Op.operands])
    · cases h
  | indexAddr t y i =>
    have fin : ∀ a b, cArg lv y = some a → cArg lv i = some b → ∀ x ∈ [a, b], FromOps lv (Op.indexAddr t y i).operands.toList x := by
      intro a b ha hb x hx
      simp only [List.mem_cons, List.not_mem_nil, or_false] at hx
      rcases hx with rfl | rfl
      · exact cArg_from ha (by simp [Op.operands])
      · exact cArg_from hb (by simp [Op.operands])
    simp only [cOp] at h
    split at h
    · rename_i h1 h2 h3
      simp only [Option.bind_eq_some_iff] at h
      obtain ⟨n, _, h⟩ := h
      split at h
      · cases h; exact fin _ _ h2 h3
      · cases h
    · rename_i h1 h2 h3
      obtain ⟨n, _, rfl⟩ := map_some_inv h
      exact fin _ _ h2 h3
    · cases h
  | index t y i =>
    simp only [cOp] at h
    split at h
    · rename_i h1 h2 h3
      cases h
      intro x hx
      simp only [MO.args, List.mem_cons, List.not_mem_nil, or_false] at hx
      rcases hx with rfl | rfl
      · exact cArg_from h2 (by simp [Op.operands])
      · exact cArg_from h3 (by simp [Op.operands])
    · cases h
  | extract y n => obtain ⟨a, h1, rfl⟩ := map_some_inv h; intro x hx; simp only [MO.args, List.mem_singleton] at hx; subst hx; exact cArg_from h1 (by simp [Op.operands])
  | call c => exact cCall_from h
  | _ => cases h
end Go.AM
