/- Regions whose order is drawn: the theorem. -/
import Derived.Test.YteilijfligofdaaGreatDoorAm20
set_option linter.all false
namespace Go.AM
variable {lv:List Nat} {P:Program} {N:Nat} {K:St->Prop} {θ:Th} {W:Im}
theorem unl_args (ops:Array Oper) (m:MO):(unl ops m).args=m.args:=by
 cases m with
 | app sz b x y=>simp only [unl]; split <;> rfl
 | sto n x v=>simp only [unl]; split <;> rfl
 | b2s x=>simp only [unl]; split <;> rfl
 | _=>rfl
theorem unlen_eq (ops:Array Oper) (d:MD) (m:MO) (g:Option (MA × Bool)):unlen ops ⟨d,m,g⟩=⟨d,unl ops m,g⟩:=rfl
theorem unl_app {ops : Array Oper} {m : MO} {sz b : Nat} {x y : MA} (h : unl ops m = .appn sz b x y) : m = .app sz b x y ∨ m = .appn sz b x y := by
  cases m with
  | app sz' b' x' y' =>
    simp only [unl] at h
    split at h
    · cases h; exact .inl rfl
    · cases h
  | len s x => cases h
  | sto n x v => simp only [unl] at h; split at h <;> cases h
  | b2s x => simp only [unl] at h; split at h <;> cases h
  | _ => exact .inr h
theorem unl_ston {ops : Array Oper} {m : MO} {n : Nat} {x v : MA} (h : unl ops m = .ston n x v) : m = .sto n x v ∨ m = .ston n x v := by
  cases m with
  | app sz' b' x' y' => simp only [unl] at h; split at h <;> cases h
  | len s x => cases h
  | sto n' x' v' =>
    simp only [unl] at h
    split at h
    · cases h; exact .inl rfl
    · cases h
  | b2s x => simp only [unl] at h; split at h <;> cases h
  | _ => exact .inr h
theorem unl_b2sn {ops : Array Oper} {m : MO} {x : MA} (h : unl ops m = .b2sn x) : m = .b2sn x ∨ noUpd ops = true := by
  cases m with
  | app sz' b' x' y' => simp only [unl] at h; split at h <;> cases h
  | len s x => cases h
  | sto n x v => simp only [unl] at h; split at h <;> cases h
  | b2s x =>
    simp only [unl] at h
    split at h
    · rename_i hc
      rw [Bool.and_eq_true] at hc
      exact .inr hc.2
    · cases h
  | _ => exact .inl h
theorem unl_step {ops : Array Oper} {C : CallP} {m : MO} {d : MD} {s : St} (h : stepU C (unl ops m) d K s) : stepU C m d K s := by
  cases m with
  | len t x =>
    change withV (lenqV t (s.get x)) d K s at h
    rw [su_len]
    obtain ⟨v, hv, h⟩ := withV_inv h
    unfold lenqV at hv
    unfold lenK
    split at hv
    · cases hv; exact fun _ => h
    · cases hv; exact h
    · cases hv; exact fun _ => h
    · cases hv; exact fun _ => h
    · cases hv
  | app sz b x y =>
    simp only [unl] at h
    split at h <;> exact h
  | sto n x v =>
    simp only [unl] at h
    split at h <;> exact h
  | b2s x =>
    simp only [unl] at h
    split at h <;> exact h
  | _ => exact h
structure DrwFacts (lv:List Nat) (P:Program) (ops:Array Oper) (m:Nat):Prop where
 le:m<=ops.size
 chain:∀ i j,i<j->j<m->chainO lv P ops i=true->chainO lv P ops j=true->waitsT (closOf ops) j i=true
 apart:∀ i j,i<m->j<m->apartOk (closOf ops) ops i j=true
 lt:∀ j o,ops[j]?=some o->∀ e∈waitsOn o,e<j
 tail:∀ j,m<=j->j<ops.size->∀ i,i<j->waitsT (closOf ops) j i=true
theorem pairs_facts {cl : List Nat} : ∀ {l : List Nat}, pairsOk cl l = true → l.Pairwise (fun i j => waitsT cl j i = true)
  | [], _ => List.Pairwise.nil
  | i :: is, h => by
    unfold pairsOk at h
    simp only [Bool.and_eq_true, List.all_eq_true] at h
    exact List.Pairwise.cons h.1 (pairs_facts h.2)
theorem drwOk_facts {ops:Array Oper} {m:Nat} (h:drwOk (closOf ops) ops m (chains lv P ops m)=true):DrwFacts lv P ops m:=by
 unfold drwOk at h
 simp only [Bool.and_eq_true,decide_eq_true_eq,List.all_eq_true,List.mem_range] at h
 obtain ⟨⟨⟨h1,h0⟩,h2⟩,h3⟩:=h
 refine ⟨h1,?_,fun i j hi hj=>h2 i hi j hj,?_,?_⟩
 ·intro i j hij hj hi' hj'
  have hp:=List.pairwise_filter.1 (pairs_facts h0)
  have:=(List.pairwise_iff_getElem.1 hp) i j (by simp; omega) (by simp; omega) hij
  simp only [List.getElem_range] at this
  exact this hi' hj'
 ·intro j o ho e he
  have hj:j<ops.size:=(Array.getElem?_eq_some_iff.1 ho).1
  have:=h3 j hj
  rw [ho] at this
  simp only [Bool.and_eq_true,List.all_eq_true,decide_eq_true_eq] at this
  exact this.1 e he
 ·intro j hm hj i hi
  have:=h3 j hj
  have ho:ops[j]?=some ops[j]:=by simp [hj]
  rw [ho] at this
  simp only [Bool.and_eq_true,Bool.or_eq_true,decide_eq_true_eq] at this
  rcases this.2 with h' | h'
  ·omega
  ·unfold waitsAll at h'
   simp only [List.all_eq_true,List.mem_range] at h'
   exact h' i hi
theorem DrwFacts.uniq {ops : Array Oper} {m : Nat} (h : DrwFacts lv P ops m) : Uniq ops m := by
  intro i j t hi hj h1 h2
  have := h.apart i j hi hj
  unfold apartOk at this
  unfold dstOf at h1 h2
  cases hx : ops[i]? with
  | none => rw [hx] at h1; cases h1
  | some x =>
    cases hy : ops[j]? with
    | none => rw [hy] at h2; cases h2
    | some y =>
      rw [hx] at h1; rw [hy] at h2
      simp only [Option.bind_some] at h1 h2
      rw [hx, hy] at this
      simp only [Bool.and_eq_true, Bool.or_eq_true, beq_iff_eq, bne_iff_ne] at this
      rcases this.2 with (h' | h') | h'
      · exact h'
      · rw [h1] at h'; simp at h'
      · rw [h1, h2] at h'; exact (h' rfl).elim
theorem cOp_appn {op : Op} {sz b : Nat} {x y : MA} : ¬ cOp lv P op = some (.appn sz b x y) := by
  intro hm
  cases op with
  | call c =>
    simp only [cOp, cCall] at hm
    (repeat' split at hm) <;> first | (cases hm; done)
  | slice t x lo hi mx =>
    cases mx with
    | some _ => cases hm
    | none =>
      simp only [cOp] at hm
      split at hm
      · cases hm
      · obtain ⟨n, _, h⟩ := map_some_inv hm; cases h
      · cases hm
  | makeFunc fn first caps =>
    cases fn with
    | func f =>
      simp only [cOp] at hm
      split at hm
      · obtain ⟨x, _, h⟩ := map_some_inv hm; cases h
      · cases hm
    | _ => cases hm
  | _ =>
    simp only [cOp, cNilq, cNii, cSq, Option.map_eq_some_iff] at hm
    first
      | (cases hm; done)
      | (obtain ⟨x, _, hm⟩ := hm; cases hm; done)
      | ((repeat' split at hm) <;> first | (cases hm; done) | (simp only [Option.map_eq_some_iff, Option.bind_eq_some_iff] at hm; obtain ⟨x, _, hm⟩ := hm; first | (cases hm; done) | (split at hm <;> cases hm)))
theorem cOp_ston {op : Op} {n : Nat} {x v : MA} : ¬ cOp lv P op = some (.ston n x v) := by
  intro hm
  cases op with
  | call c =>
    simp only [cOp, cCall] at hm
    (repeat' split at hm) <;> first | (cases hm; done)
  | slice t x lo hi mx =>
    cases mx with
    | some _ => cases hm
    | none =>
      simp only [cOp] at hm
      split at hm
      · cases hm
      · obtain ⟨n, _, h⟩ := map_some_inv hm; cases h
      · cases hm
  | makeFunc fn first caps =>
    cases fn with
    | func f =>
      simp only [cOp] at hm
      split at hm
      · obtain ⟨x, _, h⟩ := map_some_inv hm; cases h
      · cases hm
    | _ => cases hm
  | _ =>
    simp only [cOp, cNilq, cNii, cSq, Option.map_eq_some_iff] at hm
    first
      | (cases hm; done)
      | (obtain ⟨x, _, hm⟩ := hm; cases hm; done)
      | ((repeat' split at hm) <;> first | (cases hm; done) | (simp only [Option.map_eq_some_iff, Option.bind_eq_some_iff] at hm; obtain ⟨x, _, hm⟩ := hm; first | (cases hm; done) | (split at hm <;> cases hm)))
theorem su_b2sn' {C:CallP} (st:St) (d:MD) (x):stepU C (.b2sn x) d K st=withV (b2sV st.H (st.get x)) d K st:=rfl
theorem cOp_b2sn {op : Op} {x : MA} : ¬ cOp lv P op = some (.b2sn x) := by
  intro hm
  cases op with
  | call c =>
    simp only [cOp, cCall] at hm
    (repeat' split at hm) <;> first | (cases hm; done)
  | slice t x lo hi mx =>
    cases mx with
    | some _ => cases hm
    | none =>
      simp only [cOp] at hm
      split at hm
      · cases hm
      · obtain ⟨n, _, h⟩ := map_some_inv hm; cases h
      · cases hm
  | makeFunc fn first caps =>
    cases fn with
    | func f =>
      simp only [cOp] at hm
      split at hm
      · obtain ⟨x, _, h⟩ := map_some_inv hm; cases h
      · cases hm
    | _ => cases hm
  | _ =>
    simp only [cOp, cNilq, cNii, cSq, Option.map_eq_some_iff] at hm
    first
      | (cases hm; done)
      | (obtain ⟨x, _, hm⟩ := hm; cases hm; done)
      | ((repeat' split at hm) <;> first | (cases hm; done) | (simp only [Option.map_eq_some_iff, Option.bind_eq_some_iff] at hm; obtain ⟨x, _, hm⟩ := hm; first | (cases hm; done) | (split at hm <;> cases hm)))
theorem cOp_app_call {op : Op} {sz b : Nat} {x y : MA} (hm : cOp lv P op = some (.app sz b x y)) : ∃ c, op = .call c ∧ c.callee = .builtin .append := by
  cases op with
  | call c =>
    simp only [cOp, cCall] at hm
    (repeat' split at hm) <;> first | (cases hm; done) | exact ⟨_, rfl, by assumption⟩
  | slice t x lo hi mx =>
    cases mx with
    | some _ => cases hm
    | none =>
      simp only [cOp] at hm
      split at hm
      · cases hm
      · obtain ⟨n, _, h⟩ := map_some_inv hm; cases h
      · cases hm
  | makeFunc fn first caps =>
    cases fn with
    | func f =>
      simp only [cOp] at hm
      split at hm
      · obtain ⟨x, _, h⟩ := map_some_inv hm; cases h
      · cases hm
    | _ => cases hm
  | _ =>
    simp only [cOp, cNilq, cNii, cSq, Option.map_eq_some_iff] at hm
    first
      | (cases hm; done)
      | (obtain ⟨x, _, hm⟩ := hm; cases hm; done)
      | ((repeat' split at hm) <;> first | (cases hm; done) | (simp only [Option.map_eq_some_iff, Option.bind_eq_some_iff] at hm; obtain ⟨x, _, hm⟩ := hm; first | (cases hm; done) | (split at hm <;> cases hm)))
theorem cOp_sto_store {op : Op} {n : Nat} {x v : MA} (hm : cOp lv P op = some (.sto n x v)) : ∃ t y z, op = .store t y z := by
  cases op with
  | call c =>
    simp only [cOp, cCall] at hm
    (repeat' split at hm) <;> first | (cases hm; done)
  | slice t x lo hi mx =>
    cases mx with
    | some _ => cases hm
    | none =>
      simp only [cOp] at hm
      split at hm
      · cases hm
      · obtain ⟨n, _, h⟩ := map_some_inv hm; cases h
      · cases hm
  | store t y z => exact ⟨_, _, _, rfl⟩
  | makeFunc fn first caps =>
    cases fn with
    | func f =>
      simp only [cOp] at hm
      split at hm
      · obtain ⟨x, _, h⟩ := map_some_inv hm; cases h
      · cases hm
    | _ => cases hm
  | _ =>
    simp only [cOp, cNilq, cNii, cSq, Option.map_eq_some_iff] at hm
    first
      | (cases hm; done)
      | (obtain ⟨x, _, hm⟩ := hm; cases hm; done)
      | ((repeat' split at hm) <;> first | (cases hm; done) | (simp only [Option.map_eq_some_iff, Option.bind_eq_some_iff] at hm; obtain ⟨x, _, hm⟩ := hm; first | (cases hm; done) | (split at hm <;> cases hm)))
theorem noUpd_app {ops:Array Oper} {o:Oper} (hn:noUpd ops=true) (ho:o∈ops.toList) {sz b:Nat} {x y:MA}:¬ cOp lv P o.op=some (.app sz b x y):=by
 intro hm
 have h:=List.all_eq_true.1 hn o ho
 obtain ⟨c,e,e2⟩:=cOp_app_call hm
 rw [e] at h
 simp only [e2] at h
 cases h
theorem noUpd_sto {ops:Array Oper} {o:Oper} (hn:noUpd ops=true) (ho:o∈ops.toList) {n:Nat} {x v:MA}:¬ cOp lv P o.op=some (.sto n x v):=by
 intro hm
 have h:=List.all_eq_true.1 hn o ho
 obtain ⟨t,y,z,e⟩:=cOp_sto_store hm
 rw [e] at h
 cases h
section
variable {ops:Array Oper} {m:Nat} {outs:Nat->Out} {s0:St}
theorem op_agree (hf : DrwFacts lv P ops m) {D : Nat → Bool} (hc : Closed ops D) {i : Nat} (hi : i < m) {o : Oper} (ho : ops[i]? = some o) (hDi : D i = false) (hready : ∀ e ∈ waitsOn o, D e = true) {t : Nat} (ht : t ∈ looks ops o) :
    eD lv ops m outs s0 (below i) t = eD lv ops m outs s0 D t := by
  unfold eD
  cases hw : wrOf ops m t with
  | none => rfl
  | some j =>
    obtain ⟨hj, hdj⟩ := wr_inv hw
    have hap := hf.apart i j hi hj
    unfold apartOk at hap
    unfold dstOf at hdj
    cases hy : ops[j]? with
    | none => rw [hy] at hdj; cases hdj
    | some y =>
      rw [hy] at hdj
      simp only [Option.bind_some] at hdj
      rw [ho, hy] at hap
      simp only [hdj, Bool.and_eq_true, Bool.or_eq_true, Bool.not_eq_true', decide_eq_true_eq] at hap
      have h1 := hap.1
      have hct : (looks ops o).contains t = true := by simpa using ht
      rcases h1 with (h1 | ⟨h1, h2⟩) | ⟨h1, h2⟩
      · rw [hct] at h1; cases h1
      · have hD := waitsT_closed hf.lt hc i j o ho hready h2
        simp [below, h1, hD]
      · have hD : D j = false := by
          cases e : D j with
          | false => rfl
          | true =>
            have := waitsT_closed hf.lt hc j i y hy (hc j y e hy) h2
            rw [hDi] at this; cases this
        have hnb : ¬ j < i := by omega
        simp [below, hnb, hD]
def PreOk (lv:List Nat) (P:Program) (N:Nat) (ops:Array Oper) (m:Nat) (outs:Nat->Out) (Hm:List AO) (s0:St) (pre:List MI):Prop :=
 ∀ i o,i<m->ops[i]?=some o->∃ m' g,cOp lv P o.op=some m'/\cGuard lv ops o.guard=some g/\o.dst.all (decide <| ·<N)=true/\pre[i]?=some ⟨cDst lv o.dst,unl ops m',g⟩ /\
  GoodI P Hm ⟨cDst lv o.dst,unl ops m',g⟩ (sts pre outs (s0.H,⟨s0.L,s0.T,[]⟩) i) (outs i)
theorem preOk_of {Hm : List AO} {pre : List MI} (hpre : pre = (ops.toList.take m).map fun o => unlen ops (cOper lv P N ops o)) (hg : ∀ i o, pre[i]? = some o → GoodI P Hm o (sts pre outs (s0.H, ⟨s0.L, s0.T, []⟩) i) (outs i)) : PreOk lv P N ops m outs Hm s0 pre := by
  intro i o hi ho
  have hp : pre[i]? = some (unlen ops (cOper lv P N ops o)) := by
    rw [hpre, List.getElem?_map, List.getElem?_take, if_pos hi]
    simp [ho]
  have hgood := hg i _ hp
  have hstop : ∀ s out, ¬ GoodI P Hm (unlen ops ⟨.no, .stop, none⟩) s out := by
    intro s out hh
    cases out with
    | val v =>
      rcases hh with hh | ⟨_, _, _, _, _, _, e, _⟩
      · exact hh ⟨s.2.L, s.2.T, Hm⟩ (fun x hx => by cases hx) (Hext.refl Hm)
      · cases e
    | new ob mk => rcases hh with hh | ⟨_, _, _, _, _, e, _⟩ | hh; cases hh.1; cases e; cases hh.1
    | upd k v ob =>
      rcases hh with ⟨_, _, _, _, _, _, _, _, _, e, _⟩ | ⟨_, _, _, _, _, _, _, _, e, _⟩
      · cases e
      · cases e
    | chn v Hc => cases hh.1
  unfold cOper at hgood hp
  split at hgood
  · rename_i m' g hm hgd
    rw [hm, hgd] at hp
    simp only at hp
    split at hgood
    · rename_i hd
      rw [if_pos hd, unlen_eq] at hp
      rw [unlen_eq] at hgood
      exact ⟨m', g, hm, hgd, hd, hp, hgood⟩
    · exact (hstop _ _ hgood).elim
  · exact (hstop _ _ hgood).elim
theorem goodI_chn {Hm:List AO} {o:MI} {s:List AO × St} {v:AV} {Hc:List AO} (h:GoodI P Hm o s (.chn v Hc)):GoodU P Hm o.op o.dst s (.chn v Hc):=by
 unfold GoodI at h
 split at h
 ·exact h
 ·rename_i t want e
  rcases h with ⟨_,h⟩ | ⟨b,h1,h2,h3⟩
  ·cases h
  ·by_cases e:b=want
   ·exact h2 e
   ·cases h3 e
theorem PreOk.chn {Hm:List AO} {pre:List MI} (hm:m<=ops.size) (hp:PreOk lv P N ops m outs Hm s0 pre) {i:Nat} {v:AV} {Hc:List AO} (hi:i<m) (ho:outs i=.chn v Hc) :
  chainO lv P ops i=true/\Hc.length=(sts pre outs (s0.H,⟨s0.L,s0.T,[]⟩) i).1.length/\Hext Hm Hc:=by
 have his:i<ops.size:=Nat.lt_of_lt_of_le hi hm
 have hoi:ops[i]?=some ops[i]:=by simp [his]
 obtain ⟨m',g,h1,h2,h3,h4,h5⟩:=hp i ops[i] hi hoi
 rw [ho] at h5
 obtain ⟨q1,q2,q3,_⟩:=goodI_chn h5
 refine ⟨?_,q2,q3⟩
 unfold chainO
 rw [hoi]
 simp only [h1]
 cases m' <;> first | exact q1 | rfl | (cases q1; done) | (change chainM (unl ops (.b2s _))=true at q1; simp only [unl] at q1; split at q1 <;> cases q1)
theorem goodI_upd {Hm:List AO} {o:MI} {s:List AO × St} {k:Nat} {v:AV} {ob:AO} (h:GoodI P Hm o s (.upd k v ob)):AppUpd Hm o.op s k v ob\/StoUpd o.op s k v ob:=by
 unfold GoodI at h
 split at h
 ·exact h
 ·rename_i t want e
  rcases h with ⟨_,h⟩ | ⟨b,h1,h2,h3⟩
  ·cases h
  ·by_cases e:b=want
   ·exact h2 e
   ·cases h3 e
theorem PreOk.upd {Hm:List AO} {pre:List MI} (hm:m<=ops.size) (hp:PreOk lv P N ops m outs Hm s0 pre) {i k:Nat} {v:AV} {ob:AO} (hi:i<m) (ho:outs i=.upd k v ob):chainO lv P ops i=true:=by
 have his:i<ops.size:=Nat.lt_of_lt_of_le hi hm
 have hoi:ops[i]?=some ops[i]:=by simp [his]
 obtain ⟨m',g,h1,h2,h3,h4,h5⟩:=hp i ops[i] hi hoi
 rw [ho] at h5
 unfold chainO
 rw [hoi]
 simp only [h1]
 rcases goodI_upd h5 with ⟨_,_,_,_,_,_,_,_,_,e,_⟩ | ⟨_,_,_,_,_,_,_,_,e,_⟩
 ·rcases unl_app e with e | e <;> rw [e] <;> rfl
 ·rcases unl_ston e with e | e <;> rw [e] <;> rfl
theorem PreOk.noupd {Hm:List AO} {pre:List MI} (hm:m<=ops.size) (hp:PreOk lv P N ops m outs Hm s0 pre) (hn:noUpd ops=true) {i:Nat} (hi:i<m) (hu:isUpd outs i=true):False:=by
 have his:i<ops.size:=Nat.lt_of_lt_of_le hi hm
 have hoi:ops[i]?=some ops[i]:=by simp [his]
 have hmem:ops[i]∈ops.toList:=by simp
 unfold isUpd at hu
 split at hu
 case h_2=>cases hu
 rename_i k v ob ho
 obtain ⟨m',g,h1,h2,h3,h4,h5⟩:=hp i ops[i] hi hoi
 rw [ho] at h5
 rcases goodI_upd h5 with ⟨_,_,_,_,_,_,_,_,_,e,_⟩ | ⟨_,_,_,_,_,_,_,_,e,_⟩
 ·rcases unl_app e with e | e
  ·rw [e] at h1; exact noUpd_app hn hmem h1
  ·rw [e] at h1; exact cOp_appn h1
 ·rcases unl_ston e with e | e
  ·rw [e] at h1; exact noUpd_sto hn hmem h1
  ·rw [e] at h1; exact cOp_ston h1
theorem PreOk.lens {Hm : List AO} {pre : List MI} (hm : m ≤ ops.size) (hp : PreOk lv P N ops m outs Hm s0 pre) : ∀ i, i ≤ m → (sts pre outs (s0.H, ⟨s0.L, s0.T, []⟩) i).1.length = s0.H.length
  | 0, _ => rfl
  | i + 1, hi => by
    have ih := hp.lens hm i (by omega)
    have his : i < ops.size := Nat.lt_of_lt_of_le (show i < m by omega) hm
    obtain ⟨m', g, h1, h2, h3, h4, h5⟩ := hp i ops[i] (by omega) (by simp [his])
    simp only [sts, h4]
    cases ho : outs i with
    | val v => exact ih
    | new ob mk => exact ih
    | upd k v ob => exact ih
    | chn v Hc => exact ((hp.chn hm (by omega) ho).2.1).trans ih
theorem PreOk.len {Hm:List AO} {pre:List MI} (hm:m<=ops.size) (hp:PreOk lv P N ops m outs Hm s0 pre) (i:Nat) (v:AV) (Hc:List AO) (hi:i<m) (ho:outs i=.chn v Hc):Hc.length=s0.H.length :=
 ((hp.chn hm hi ho).2.1).trans (hp.lens hm i (by omega))
theorem hcD_len {Hm:List AO} {pre:List MI} (hm:m<=ops.size) (hp:PreOk lv P N ops m outs Hm s0 pre) (D:Nat->Bool) {n:Nat} (hn:n<=m):(hcD outs s0.H D n).length=s0.H.length :=
 hcD_ind (p:=fun l=>l.length=s0.H.length) rfl (fun j v Hc hj ho=>hp.len hm j v Hc (by omega) ho)
theorem slots_same {D : Nat → Bool} {i : Nat} (hn : isNew outs i = false) (hu : isUpd outs i = false) : slots m outs (with1 D i) = slots m outs D := by
  have key : ∀ n, nD outs (with1 D i) n = nD outs D n := by
    intro n
    induction n with
    | zero => rfl
    | succ n ih =>
      unfold nD
      rw [ih]
      by_cases e : n = i
      · subst e
        cases ho : outs n with
        | new ob mk => simp [isNew, ho] at hn
        | upd k v ob => simp [isUpd, ho] at hu
        | _ => rfl
      · rw [show with1 D i n = D n by simp [with1, e]]
  exact key m
theorem draw_step {Hm : List AO} {pre : List MI} (hf : DrwFacts lv P ops m) (hHm : Hext Hm s0.H) (hp : PreOk lv P N ops m outs Hm s0 pre) {D : Nat → Bool} (hc : Closed ops D) {i : Nat} (hi : i < m) {o : Oper} (ho : ops[i]? = some o) (hDi : D i = false) (hU : UpdOk outs D) (hready : ∀ e ∈ waitsOn o, D e = true)
    {a : Act} {w : World} {next : Act → World → Prop} {Q : Exit → Act → World → Prop} (hR : Rl lv N (SD ops m outs s0 D) a w θ W)
    (hk : ∀ a' w' θ' W', Rl lv N (SD ops m outs s0 (with1 D i)) a' w' θ' W' → UpdOk outs (with1 D i) → Stp θ W w θ' W' w' → next a' w') :
    if Region.wanted o (yielded ops a.tmps) then o.wp P a w next Q else next (a.put o.dst undef) w := by
  have hu := hf.uniq
  obtain ⟨m', g, hm, hg, hdN, hpi, hgood⟩ := hp i o hi ho
  have hdst : ∀ k, k < m → ∃ o, pre[k]? = some o ∧ o.dst = cDst lv (dstOf ops k) := by
    intro k hk'
    have hks : k < ops.size := Nat.lt_of_lt_of_le hk' hf.le
    obtain ⟨m2, g2, _, _, _, hp2, _⟩ := hp k ops[k] hk' (by simp [hks])
    exact ⟨_, hp2, by simp [dstOf, hks]⟩
  have hdo : dstOf ops i = o.dst := by simp [dstOf, ho]
  obtain ⟨hcH, hcL, hcN, hcG⟩ := canon (lv := lv) (outs := outs) (s0 := s0) pre hu hdst (hp.len hf.le) i (by omega)
  have hag : ∀ t, t ∈ looks ops o → (sts pre outs (s0.H, ⟨s0.L, s0.T, []⟩) i).2.get (cTmp lv t) = (SD ops m outs s0 D).get (cTmp lv t) := by
    intro t ht
    rw [hcG t, SD_get hu, op_agree hf hc hi ho hDi hready ht]
  have hops : ∀ t, Operand.tmp t ∈ o.op.operands.toList → t ∈ looks ops o := by
    intro t ht
    unfold looks
    refine List.mem_append.2 (.inl ?_)
    exact List.mem_filterMap.2 ⟨_, ht, rfl⟩
  have hA : Agree m'.args (sts pre outs (s0.H, ⟨s0.L, s0.T, []⟩) i).2 (SD ops m outs s0 D) := by
    intro x hx
    rcases cOp_from hm x hx with ⟨v, rfl, _⟩ | ⟨t, rfl, ht⟩
    · rfl
    · exact hag t (hops t ht)
  have hA' : Agree (unl ops m').args (sts pre outs (s0.H, ⟨s0.L, s0.T, []⟩) i).2 (SD ops m outs s0 D) := by rw [unl_args]; exact hA
  have hext : Hext Hm (SD ops m outs s0 D).H := by
    have h1 : Hext Hm (hcD outs s0.H D m) := hcD_ind (p := Hext Hm) hHm (fun j v Hc hj hoj => (hp.chn hf.le hj hoj).2.2)
    intro id ob hid hn
    exact hext_app _ _ id ob (h1 id ob hid hn) hn
  have hcSame : isChn outs i = false → hcD outs s0.H (with1 D i) m = hcD outs s0.H D m := by
    intro hn
    refine hcD_congr (fun j hj hcj => ?_)
    have hne : j ≠ i := by rintro rfl; rw [hn] at hcj; cases hcj
    simp [with1, hne]
  have hUn : isUpd outs i = false → UpdOk outs (with1 D i) := by
    intro hn j k v ob hj hDj i0 h0 hr
    have hne : j ≠ i := by rintro rfl; simp [isUpd, hj] at hn
    have : D j = true := by simpa [with1, hne] using hDj
    simp [with1, hU j k v ob hj this i0 h0 hr]
  have toNext : ∀ v, outs i = .val v → ∀ st' a' w' θ' W', st' = (SD ops m outs s0 D).put (cDst lv o.dst) v → Rl lv N st' a' w' θ' W' → Stp θ W w θ' W' w' → next a' w' := by
    intro v hv st' a' w' θ' W' hst hR' hs'
    subst hst
    refine hk a' w' θ' W' (hR'.congr (fun t => ?_) ?_) (hUn (by simp [isUpd, hv])) hs'
    · rw [get_put, SD_get hu, SD_get hu, eD_with hu hi, hdo]
      simp [valOf, hv]
    · rw [put_H]
      show hcD outs s0.H D m ++ slots m outs D = hcD outs s0.H (with1 D i) m ++ slots m outs (with1 D i)
      rw [slots_same (by simp [isNew, hv]) (by simp [isUpd, hv]), hcSame (by simp [isChn, hv])]
  have hchain : chainO lv P ops i = true → ∀ j, j < m → chainO lv P ops j = true → D j = below i j := by
    intro hci j hj hcj'
    have hjs : j < ops.size := Nat.lt_of_lt_of_le hj hf.le
    rcases Nat.lt_trichotomy j i with hlt | he | hgt
    · rw [waitsT_closed hf.lt hc i j o ho hready (hf.chain j i hlt hi hcj' hci)]
      simp [below, hlt]
    · subst he; rw [hDi]; simp [below]
    · have hnb : ¬ j < i := by omega
      cases e : D j with
      | false => simp [below, hnb]
      | true =>
        have hoj : ops[j]? = some ops[j] := by simp [hjs]
        have := waitsT_closed hf.lt hc j i _ hoj (hc j _ e hoj) (hf.chain i j hgt hj hci hcj')
        rw [hDi] at this; cases this
  have chnO : ∀ j, j < m → isChn outs j = true → chainO lv P ops j = true := by
    intro j hj hcj
    unfold isChn at hcj
    split at hcj
    · rename_i v' Hc' e; exact (hp.chn hf.le hj e).1
    · cases hcj
  have updO : ∀ j, j < m → isUpd outs j = true → chainO lv P ops j = true := by
    intro j hj hcj
    unfold isUpd at hcj
    split at hcj
    · rename_i k' v' ob' e; exact hp.upd hf.le hj e
    · cases hcj
  have hHc : chainO lv P ops i = true → hcD outs s0.H D m = (sts pre outs (s0.H, ⟨s0.L, s0.T, []⟩) i).1 := by
    intro hci
    rw [hcH, hcD_congr (n := m) (fun j hj hcj => hchain hci j hj (chnO j hj hcj)), hcD_cut (Nat.le_of_lt hi) (fun j h1 h2 _ => by simp [below]; omega)]
    exact hcD_congr (fun j hj _ => by simp [below, hj])
  have hfill : chainO lv P ops i = true → Fill (unl ops m') (sts pre outs (s0.H, ⟨s0.L, s0.T, []⟩) i).2.H (slots m outs D) (sts pre outs (s0.H, ⟨s0.L, s0.T, []⟩) i).1.length (SD ops m outs s0 D) := by
    intro hci y hym id ob hg hle hN
    have hl1 := hp.lens hf.le i (by omega)
    rw [hl1] at hle hN ⊢
    rw [hcN] at hN
    rw [unl_args] at hym
    have hlD := hcD_len hf.le hp D (Nat.le_refl m)
    obtain ⟨t', et, _⟩ : ∃ t', y = cTmp lv t' ∧ Operand.tmp t' ∈ o.op.operands.toList := by
      rcases cOp_from hm _ hym with ⟨v, e, hv⟩ | h
      · rw [e] at hg
        change idOf v = some id at hg
        rw [hv] at hg; cases hg
      · exact h
    have hrel := hR.tmpArg t'
    rw [← et] at hrel
    have key : ∀ av vv, idOf av = some id → ARel θ W av vv → ∃ ver, θ id ver ≠ .no := by
      intro av vv hid hv
      cases hv with
      | gsDead _ ver _ _ _ _ h => cases hid; exact ⟨ver, by rw [h]; exact fun e => by cases e⟩
      | gsNil _ ver h => cases hid; exact ⟨ver, by rw [h]; exact fun e => by cases e⟩
      | gs _ ver _ _ _ _ _ _ _ h => cases hid; exact ⟨ver, by rw [h]; exact fun e => by cases e⟩
      | ptr _ _ _ _ _ h => cases hid; exact ⟨0, by rw [h]; exact fun e => by cases e⟩
      | ptrDead _ _ _ h => cases hid; exact ⟨0, by rw [h]; exact fun e => by cases e⟩
      | _ => cases hid
    obtain ⟨ver, hno⟩ := key _ _ hg hrel
    rcases slots_as (Nat.le_of_lt hi) (fun j hj hu' => hchain hci j hj (updO j hj hu')) hN with h | h
    · exact h
    · have hrs : (SD ops m outs s0 D).H[id]? = some .rsv := by
        show (hcD outs s0.H D m ++ slots m outs D)[id]? = _
        rw [List.getElem?_append_right (by omega), hlD, h]
      exact absurd (hR.mem.obj id _ hrs ver) hno
  have main : GoodU P Hm (unl ops m') (cDst lv o.dst) (sts pre outs (s0.H, ⟨s0.L, s0.T, []⟩) i) (outs i) → o.wp P a w next Q := by
    intro hGU
    cases hout : outs i with
    | val v =>
      rw [hout] at hGU
      rcases hGU with hGU | ⟨x, id, ver, off, n, ob, eop, hxc, ex, hle, hrs, hv⟩
      · exact step_ok hm hdN (unl_step (hGU _ hA' hext)) a w θ W next Q hR (toNext v hout)
      have hnu : noUpd ops = true := by
        rcases unl_b2sn eop with e | e
        · rw [e] at hm; exact absurd hm (cOp_b2sn)
        · exact e
      have hxm : x ∈ (unl ops m').args := by rw [eop]; simp [MO.args]
      have ex' : (SD ops m outs s0 D).get x = .gs id ver off n := by rw [← hA' x hxm]; exact ex
      have hl1 := hp.lens hf.le i (by omega)
      have hlD := hcD_len hf.le hp D (Nat.le_refl m)
      rw [hl1] at hle hrs
      rw [hcN] at hrs
      have hsl : (slots m outs D)[id - s0.H.length]? = some ob := by
        rcases slots_as (Nat.le_of_lt hi) (fun j hj hu' => (hp.noupd hf.le hnu hj hu').elim) hrs with h | h
        · exact h
        · have hrsv : (SD ops m outs s0 D).H[id]? = some .rsv := by
            show (hcD outs s0.H D m ++ slots m outs D)[id]? = _
            rw [List.getElem?_append_right (by omega), hlD, h]
          obtain ⟨t', et, _⟩ : ∃ t', x = cTmp lv t' ∧ Operand.tmp t' ∈ o.op.operands.toList := by
            rcases cOp_from hm x (by rw [← unl_args ops]; exact hxm) with ⟨v, e, _⟩ | h
            · rw [e] at hxc; cases hxc
            · exact h
          have hrel := hR.tmpArg t'
          rw [← et, ex'] at hrel
          have hno : θ id ver ≠ .no := by
            generalize Act.eval a (.tmp t') = vv at hrel
            cases hrel with
            | gsDead _ _ _ _ _ _ h => rw [h]; exact fun e => by cases e
            | gsNil _ _ h => rw [h]; exact fun e => by cases e
            | gs _ _ _ _ _ _ _ _ _ h => rw [h]; exact fun e => by cases e
          exact absurd (hR.mem.obj id _ hrsv ver) hno
      have hHid : (SD ops m outs s0 D).H[id]? = some ob := by
        show (hcD outs s0.H D m ++ slots m outs D)[id]? = _
        rw [List.getElem?_append_right (by omega), hlD]; exact hsl
      have h2 : stepU (ACall P) (unl ops m') (cDst lv o.dst) (fun t => t = (SD ops m outs s0 D).put (cDst lv o.dst) v) (SD ops m outs s0 D) := by
        rw [eop]
        rw [su_b2sn', ex']
        show withV (b2sR (srcR 1 ver off n (SD ops m outs s0 D).H[id]?)) _ _ _
        rw [hHid, hv]
        rfl
      exact step_ok hm hdN (unl_step h2) a w θ W next Q hR (toNext v hout)
    | chn v Hc =>
      rw [hout] at hGU
      obtain ⟨hq, hl, hx, h1⟩ := hGU
      have hci := (hp.chn hf.le hi hout).1
      have hchain' : ∀ j, j < m → isChn outs j = true → D j = below i j := fun j hj hcj => hchain hci j hj (chnO j hj hcj)
      have hHc' : hcD outs s0.H (with1 D i) m = Hc := by
        rw [hcD_cut (i := i + 1) (show i + 1 ≤ m by omega) (fun j h1 h2 h3 => by
          have hb := hchain' j h2 h3
          have hnb : ¬ j < i := by omega
          have hne : ¬ j = i := by omega
          simp [with1, hb, below, hnb, hne])]
        simp [hcD, hout, with1]
      have h2 := h1 (SD ops m outs s0 D) (slots m outs D) hA' (by rw [← hHc hci]; rfl) hext (hfill hci)
      refine step_ok hm hdN (unl_step h2) a w θ W next Q hR ?_
      intro st' a' w' θ' W' hst hR' hs'
      subst hst
      refine hk a' w' θ' W' (hR'.congr (fun t => ?_) ?_) (hUn (by simp [isUpd, hout])) hs'
      · rw [get_H _ _ _ ((SD ops m outs s0 D).put (cDst lv o.dst) v).H]
        have e1 : (⟨((SD ops m outs s0 D).put (cDst lv o.dst) v).L, ((SD ops m outs s0 D).put (cDst lv o.dst) v).T, ((SD ops m outs s0 D).put (cDst lv o.dst) v).H⟩ : St).get (cTmp lv t) = ((SD ops m outs s0 D).put (cDst lv o.dst) v).get (cTmp lv t) := rfl
        rw [e1, get_put, SD_get hu, SD_get hu, eD_with hu hi, hdo]
        simp [valOf, hout]
      · show Hc ++ slots m outs D = hcD outs s0.H (with1 D i) m ++ slots m outs (with1 D i)
        rw [slots_same (by simp [isNew, hout]) (by simp [isUpd, hout]), hHc']
    | new ob mk =>
      rw [hout] at hGU
      have hnew : isNew outs i = true := by simp [isNew, hout]
      have hlD := hcD_len hf.le hp D (Nat.le_refl m)
      have hrsv : (SD ops m outs s0 D).H[s0.H.length + rankNew outs i]? = some .rsv := by
        show (hcD outs s0.H D m ++ slots m outs D)[s0.H.length + rankNew outs i]? = _
        rw [List.getElem?_append_right (by omega), show s0.H.length + rankNew outs i - (hcD outs s0.H D m).length = rankNew outs i by omega, slots_get hi hnew hDi hU]
      have fin : ∀ a' w' θ' W', Rl lv N (St.put ⟨(SD ops m outs s0 D).L, (SD ops m outs s0 D).T, (SD ops m outs s0 D).H.set (s0.H.length + rankNew outs i) ob⟩ (cDst lv o.dst) (mk (s0.H.length + rankNew outs i))) a' w' θ' W' → Stp θ W w θ' W' w' → next a' w' := by
        intro a' w' θ' W' hR' hs'
        refine hk a' w' θ' W' (hR'.congr (fun t => ?_) ?_) (hUn (by simp [isUpd, hout])) hs'
        · rw [get_put, SD_get hu, eD_with hu hi, hdo]
          rw [get_H _ _ _ (SD ops m outs s0 D).H]
          have e1 : (⟨(SD ops m outs s0 D).L, (SD ops m outs s0 D).T, (SD ops m outs s0 D).H⟩ : St).get (cTmp lv t) = eD lv ops m outs s0 D t := SD_get hu D t
          rw [e1]
          simp [valOf, hout]
        · rw [put_H]
          show (hcD outs s0.H D m ++ slots m outs D).set (s0.H.length + rankNew outs i) ob = hcD outs s0.H (with1 D i) m ++ slots m outs (with1 D i)
          rw [List.set_append_right _ _ (by omega), show s0.H.length + rankNew outs i - (hcD outs s0.H D m).length = rankNew outs i by omega, ← slots_set hi hout hDi hU, hcSame (by simp [isChn, hout])]
      rcases hGU with ⟨hq, hn⟩ | ⟨sz, b, x, y, ys, eop, ex, ⟨hyc, hys, hyr⟩, hne, hb, hb63, rfl, rfl⟩ | ⟨hq, hn⟩
      rotate_left
      · have em : m' = .app sz b x y := by
          rcases unl_app eop with e | e
          · exact e
          · rw [e] at hm; exact absurd hm (cOp_appn)
        have hci : chainO lv P ops i = true := by
          unfold chainO
          rw [ho]
          simp only [hm, em]; rfl
        have ex' : (SD ops m outs s0 D).get x = .p .nl := by rw [← hA' x (by rw [eop]; simp [MO.args])]; exact ex
        have hys' := src_same (s' := SD ops m outs s0 D) (A := slots m outs D) hyc hys (hA' y (by rw [eop]; simp [MO.args])) (by rw [← hHc hci]; rfl) hext (fun id v o n ob h1 h2 h3 => hfill hci y (by rw [eop]; simp [MO.args]) id ob (by rw [h1]; rfl) h2 h3)
        rw [em] at hm
        exact app_new_at hm hdN hR ex' hys' hyr hne hb hb63 _ hrsv fin
      rotate_left
      · have hn' := hn.agree hA'
        have hmm : unl ops m' = m' := by
          cases m' with
          | app sz b x y => simp only [unl] at hq; split at hq <;> cases hq
          | sto n x v => simp only [unl] at hq; split at hq <;> cases hq
          | b2s x => simp only [unl] at hq; split at hq <;> cases hq
          | _ => first | rfl | cases hq
        rw [hmm] at hn'
        exact new_at hm hdN hn' hR _ hrsv fin
      · refine step_ok hm hdN (unl_step (hn _ _ hA' hext hrsv)) a w θ W next Q hR ?_
        intro st' a' w' θ' W' hst hR' hs'
        subst hst
        exact fin _ _ _ _ hR' hs'
    | upd k v ob =>
      rw [hout] at hGU
      rcases hGU with hGU | hGU
      rotate_left
      · obtain ⟨n, x, w2, id, off, cs, us, cs', eop, hxc, ex, hle, hkk, hrs, hus, hsp, rfl, rfl⟩ := hGU
        have em : m' = .sto n x w2 := by
          rcases unl_ston eop with e | e
          · exact e
          · rw [e] at hm; exact absurd hm (cOp_ston)
        have hci := hp.upd hf.le hi hout
        have hxm : x ∈ (unl ops m').args := by rw [eop]; simp [MO.args]
        have hym : w2 ∈ (unl ops m').args := by rw [eop]; simp [MO.args]
        have ex' : (SD ops m outs s0 D).get x = .ptr id off := by rw [← hA' x hxm]; exact ex
        have ey' : stonU n ((SD ops m outs s0 D).get w2) = some us := by rw [← hA' w2 hym]; exact hus
        have hl1 := hp.lens hf.le i (by omega)
        have hlD := hcD_len hf.le hp D (Nat.le_refl m)
        have hklt : k < rankNew outs i := by
          rw [← nD_len outs (fun _ => true), ← hcN]; exact (List.getElem?_eq_some_iff.1 hrs).1
        rw [hl1] at hle hkk
        rw [hcN] at hrs
        have hsl : (slots m outs D)[id - s0.H.length]? = some (.var cs) := by
          rw [← hkk]
          rcases slots_as (Nat.le_of_lt hi) (fun j hj hu' => hchain hci j hj (updO j hj hu')) hrs with h | h
          · exact h
          · have hrsv : (SD ops m outs s0 D).H[id]? = some .rsv := by
              show (hcD outs s0.H D m ++ slots m outs D)[id]? = _
              rw [List.getElem?_append_right (by omega), hlD, ← hkk, h]
            obtain ⟨t', et, _⟩ : ∃ t', x = cTmp lv t' ∧ Operand.tmp t' ∈ o.op.operands.toList := by
              rcases cOp_from hm x (by rw [← unl_args ops]; exact hxm) with ⟨v, e, _⟩ | h
              · rw [e] at hxc; cases hxc
              · exact h
            have hrel := hR.tmpArg t'
            rw [← et, ex'] at hrel
            have hno : θ id 0 ≠ .no := by
              generalize Act.eval a (.tmp t') = vv at hrel
              cases hrel with
              | ptr _ _ _ _ _ h => rw [h]; exact fun e => by cases e
              | ptrDead _ _ _ h => rw [h]; exact fun e => by cases e
            exact absurd (hR.mem.obj id _ hrsv 0) hno
        have hHid : (SD ops m outs s0 D).H[id]? = some (.var cs) := by
          show (hcD outs s0.H D m ++ slots m outs D)[id]? = _
          rw [List.getElem?_append_right (by omega), hlD]; exact hsl
        have h2 : stepU (ACall P) m' (cDst lv o.dst) (fun t => t = St.put ⟨(SD ops m outs s0 D).L, (SD ops m outs s0 D).T, (SD ops m outs s0 D).H.set id (.var cs')⟩ (cDst lv o.dst) .any) (SD ops m outs s0 D) := by
          rw [em, su_sto', ex']
          unfold stonU at ey'
          split at ey'
          · rename_i hc
            cases ey'
            unfold stoH
            rw [if_pos hc]
            simp only [hHid, hsp, Option.map_some]
            rfl
          · cases ey'
        refine step_ok hm hdN h2 a w θ W next Q hR ?_
        intro st' a' w' θ' W' hst hR' hs'
        subst hst
        refine hk a' w' θ' W' (hR'.congr (fun t => ?_) ?_) ?_ hs'
        · rw [get_put, SD_get hu, eD_with hu hi, hdo]
          rw [get_H _ _ _ (SD ops m outs s0 D).H]
          have e1 : (⟨(SD ops m outs s0 D).L, (SD ops m outs s0 D).T, (SD ops m outs s0 D).H⟩ : St).get (cTmp lv t) = eD lv ops m outs s0 D t := SD_get hu D t
          rw [e1]
          simp [valOf, hout]
        · rw [put_H]
          show (hcD outs s0.H D m ++ slots m outs D).set id _ = hcD outs s0.H (with1 D i) m ++ slots m outs (with1 D i)
          rw [List.set_append_right _ _ (by omega), hlD, ← hkk, slots_upd hi hout hDi hklt (fun j h1 h2 h3 => by
            have := hchain hci j h2 (updO j h2 h3)
            rw [this]; simp [below]; omega), hcSame (by simp [isChn, hout])]
        · intro j k' v' ob' hj hDj i0 h0 hr
          by_cases hne : j = i
          · subst hne
            rw [hout] at hj
            cases hj
            have hi0 : i0 < j := by
              rcases Nat.lt_or_ge i0 j with h | h
              · exact h
              · have := rankNew_mono outs h; omega
            cases e : D i0 with
            | true => simp [with1, e]
            | false =>
              have := slots_get (m := m) (show i0 < m by omega) h0 e hU
              rw [hr, hkk, hsl] at this
              cases this
          · have : D j = true := by simpa [with1, hne] using hDj
            simp [with1, hU j k' v' ob' hj this i0 h0 hr]
      obtain ⟨sz, b, x, y, ys, id, ver, n, rs, eop, hxc, ex, hle, hkk, hrs, hn, ⟨hyc, hys, hyr⟩, hb, hb63, rfl, rfl⟩ := hGU
      have em : m' = .app sz b x y := by
        rcases unl_app eop with e | e
        · exact e
        · rw [e] at hm; exact absurd hm (cOp_appn)
      have hci := hp.upd hf.le hi hout
      have hxm : x ∈ (unl ops m').args := by rw [eop]; simp [MO.args]
      have hym : y ∈ (unl ops m').args := by rw [eop]; simp [MO.args]
      have ex' : (SD ops m outs s0 D).get x = .gs id ver 0 n := by rw [← hA' x hxm]; exact ex
      have hys' := src_same (s' := SD ops m outs s0 D) (A := slots m outs D) hyc hys (hA' y hym) (by rw [← hHc hci]; rfl) hext (fun id v o n ob h1 h2 h3 => hfill hci y hym id ob (by rw [h1]; rfl) h2 h3)
      have hl1 := hp.lens hf.le i (by omega)
      have hlD := hcD_len hf.le hp D (Nat.le_refl m)
      have hsl := hfill hci x hxm id _ (by rw [ex']; rfl) hle (by rw [← hkk]; exact hrs)
      have hklt : k < rankNew outs i := by
        rw [← nD_len outs (fun _ => true), ← hcN]; exact (List.getElem?_eq_some_iff.1 hrs).1
      rw [hl1] at hle hkk hsl
      have hHid : (SD ops m outs s0 D).H[id]? = some (.rows sz ver rs) := by
        show (hcD outs s0.H D m ++ slots m outs D)[id]? = _
        rw [List.getElem?_append_right (by omega), hlD]; exact hsl
      have h2 : stepU (ACall P) m' (cDst lv o.dst) (fun t => t = St.put ⟨(SD ops m outs s0 D).L, (SD ops m outs s0 D).T, (SD ops m outs s0 D).H.set id (.rows sz (ver + 1) (rs.take n ++ ys))⟩ (cDst lv o.dst) (.gs id (ver + 1) 0 (n + ys.length))) (SD ops m outs s0 D) := by
        rw [em]
        show appY sz b ((SD ops m outs s0 D).get x) (srcRows (SD ops m outs s0 D).H sz ((SD ops m outs s0 D).get y)) _ _ _
        rw [hys', ex']
        refine ⟨hyr, ?_⟩
        rw [appX_gs', hHid]
        exact ⟨rfl, rfl, rfl, hn, hb, hb63, rfl⟩
      refine step_ok hm hdN h2 a w θ W next Q hR ?_
      intro st' a' w' θ' W' hst hR' hs'
      subst hst
      refine hk a' w' θ' W' (hR'.congr (fun t => ?_) ?_) ?_ hs'
      · rw [get_put, SD_get hu, eD_with hu hi, hdo]
        rw [get_H _ _ _ (SD ops m outs s0 D).H]
        have e1 : (⟨(SD ops m outs s0 D).L, (SD ops m outs s0 D).T, (SD ops m outs s0 D).H⟩ : St).get (cTmp lv t) = eD lv ops m outs s0 D t := SD_get hu D t
        rw [e1]
        simp [valOf, hout]
      · rw [put_H]
        show (hcD outs s0.H D m ++ slots m outs D).set id _ = hcD outs s0.H (with1 D i) m ++ slots m outs (with1 D i)
        rw [List.set_append_right _ _ (by omega), hlD, ← hkk, slots_upd hi hout hDi hklt (fun j h1 h2 h3 => by
          have := hchain hci j h2 (updO j h2 h3)
          rw [this]; simp [below]; omega), hcSame (by simp [isChn, hout])]
      · intro j k' v' ob' hj hDj i0 h0 hr
        by_cases hne : j = i
        · subst hne
          rw [hout] at hj
          cases hj
          have hi0 : i0 < j := by
            rcases Nat.lt_or_ge i0 j with h | h
            · exact h
            · have := rankNew_mono outs h; omega
          cases e : D i0 with
          | true => simp [with1, e]
          | false =>
            have := slots_get (m := m) (show i0 < m by omega) h0 e hU
            rw [hr, hkk, hsl] at this
            cases this
        · have : D j = true := by simpa [with1, hne] using hDj
          simp [with1, hU j k' v' ob' hj this i0 h0 hr]
  unfold GoodI at hgood
  cases hgd : o.guard with
  | none =>
    rw [hgd] at hg
    cases hg
    have hw : Region.wanted o (yielded ops a.tmps) = true := by simp [Region.wanted, hgd]
    rw [if_pos hw]
    exact main hgood
  | some jw =>
    obtain ⟨j, want⟩ := jw
    rw [hgd] at hg
    simp only [cGuard] at hg
    split at hg
    case h_2 => cases hg
    case h_1 t ht =>
    cases hg
    have htl : t ∈ looks ops o := by
      unfold looks
      refine List.mem_append.2 (.inr ?_)
      rw [hgd]
      simp only [ht]
      simp
    have hrel := hR.tmpArg t
    have skip : yielded ops a.tmps j ≠ some want → outs i = .val (.tup []) → if Region.wanted o (yielded ops a.tmps) then o.wp P a w next Q else next (a.put o.dst undef) w := by
      intro hy hout
      have hw : ¬ Region.wanted o (yielded ops a.tmps) = true := by simpa [Region.wanted, hgd] using hy
      rw [if_neg hw]
      exact toNext (.tup []) hout _ _ _ _ _ rfl (hR.put hdN (undef_rel _ _) hR.mem (Stp.refl _ _ _)) (Stp.refl _ _ _)
    rcases hgood with ⟨hb, hout⟩ | ⟨b, hb, h1, h2⟩
    · rw [hag t htl] at hb
      rw [hb] at hrel
      refine skip ?_ hout
      have e1 := tup0_inv hrel
      simp only [Act.eval] at e1
      unfold yielded
      rw [ht]
      simp only [Option.bind_some]
      by_cases hlt : t < a.tmps.size
      · simp [Array.getD, hlt] at e1; simp [hlt, e1]
      · simp [hlt]
    · rw [hag t htl] at hb
      rw [hb] at hrel
      have e1 := hrel.b_inv
      simp only [Act.eval] at e1
      have hyield : yielded ops a.tmps j = some b := by
        have : a.tmps[t]? = some (.bool b) := by
          by_cases hlt : t < a.tmps.size
          · simp [Array.getD, hlt] at e1; simp [hlt, e1]
          · simp [Array.getD, hlt, undef] at e1
        simp [yielded, ht, this]
      by_cases e : b = want
      · have hw : Region.wanted o (yielded ops a.tmps) = true := by simp [Region.wanted, hgd, hyield, e]
        rw [if_pos hw]
        exact main (h1 e)
      · exact skip (by rw [hyield]; simp [e]) (h2 e)
end
end Go.AM
