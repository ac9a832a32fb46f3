/- Regions whose order is drawn: new objects at places that are kept for them; calls that leave the objects alone. -/
import Derived.Test.YteilijfligofdaaGreatDoorAm17
set_option linter.all false
namespace Go.AM
variable {lv:List Nat} {P:Program} {N:Nat} {K:St->Prop} {θ:Th} {W:Im} {ops:Array Oper} {C:CallP} {o:Oper}
theorem SR.reserve {H:List AO} {w:World} (h:SR θ W H w) (k:Nat):SR θ W (H++List.replicate k .rsv) w:=by
 refine ⟨h.imm,fun id o' hid=>?_,fun id ver hid=>h.out id ver (by simp at hid; omega),h.own,h.inj⟩
 rcases Nat.lt_or_ge id H.length with hlt | hge
 ·rw [List.getElem?_append_left hlt] at hid
  exact h.obj id o' hid
 ·rw [List.getElem?_append_right hge,List.getElem?_replicate] at hid
  split at hid
  ·cases hid; exact fun ver=>h.out id ver hge
  ·cases hid
theorem SR.fill {H:List AO} {w w':World} (h:SR θ W H w) (id:Nat) (hid:H[id]?=some .rsv) (o:AO) (pl:Pl)
  (hos:w'.os=w.os) (htp:w'.tape=w.tape) (hou:w'.output=w.output) (hsz:w.heap.size<=w'.heap.size)
  (hold:∀ b,b<w.heap.size->w'.heap[b]?=w.heap[b]?)
  (hpl:∀ b sz tot,pl=.at b sz tot->b=w.heap.size)
  (hno:pl≠.no)
  (ho:(∀ x v,ARel θ W x v->ARel (thSet θ id 0 pl) W x v)->OR (thSet θ id 0 pl) W w' id o) :
  SR (thSet θ id 0 pl) W (H.set id o) w'/\Stp θ W w (thSet θ id 0 pl) W w':=by
 have hidl:id<H.length:=by
  rcases Nat.lt_or_ge id H.length with h' | h'
  ·exact h'
  ·rw [List.getElem?_eq_none h'] at hid; cases hid
 have hnone:∀ ver,θ id ver=.no:=h.obj id _ hid
 have hθ:∀ i ver,θ i ver≠.no->thSet θ id 0 pl i ver=θ i ver:=by
  intro i ver hn
  refine thSet_other fun ⟨e,_⟩=>hn ?_
  rw [e]; exact hnone ver
 have hr:∀ x v,ARel θ W x v->ARel (thSet θ id 0 pl) W x v:=fun x v hx=>hx.mono (fun _ _ _ h=>h) (fun i ver hn=>.inl (hθ i ver hn))
 have hown:∀ b,Owned (thSet θ id 0 pl) b->Owned θ b\/w.heap.size=b:=by
  rintro b ⟨i,ver,sz,tot,hb⟩
  by_cases e:i=id/\ver=0
  ·obtain ⟨rfl,rfl⟩:=e
   rw [thSet_same] at hb
   exact .inr (hpl b sz tot hb).symm
  ·rw [thSet_other e] at hb
   exact .inl ⟨i,ver,sz,tot,hb⟩
 refine ⟨⟨?_,?_,?_,?_,?_⟩,⟨hos,htp,hou,hsz,fun b hb _=>hold b hb,fun _ _ _ h=>h,fun _ _ _ _=>rfl,fun i ver hn=>.inl (hθ i ver hn),fun b hb=>(hown b hb).imp (fun a=>a) (fun e=>by omega)⟩⟩
 ·intro b o' v hv
  have hb:=h.imm b o' v hv
  rw [<- hb]
  exact World.cell?_of_block (hold b (cell_old hb))
 ·intro i o' hi
  by_cases e:i=id
  ·subst e
   rw [List.getElem?_set_self hidl] at hi
   cases hi
   exact ho hr
  ·rw [List.getElem?_set_ne (Ne.symm e)] at hi
   exact (h.obj i o' hi).mono (fun ver=>thSet_other (by omega)) (fun ver b sz tot hb=>hold b (h.ownedLt hb)) hr (ht:=fun b v o hv ho=>by rw [hold b (h.lt hv)]; exact ho)
 ·intro i ver hi
  simp at hi
  rw [thSet_other (by omega)]
  exact h.out i ver hi
 ·intro b hb o'
  rcases hown b hb with hb | hb
  ·exact h.own b hb o'
  ·cases e:W b o' with
   | none=>rfl
   | some v=>have:=h.lt e; omega
 ·intro b i ver sz tot i' ver' sz' tot' h1 h2
  by_cases e:i=id/\ver=0 <;> by_cases e':i'=id/\ver'=0
  ·exact ⟨by omega,by omega⟩
  ·obtain ⟨rfl,rfl⟩:=e
   rw [thSet_same] at h1
   rw [thSet_other e'] at h2
   have:=hpl _ _ _ h1
   have:=h.ownedLt h2
   omega
  ·obtain ⟨rfl,rfl⟩:=e'
   rw [thSet_same] at h2
   rw [thSet_other e] at h1
   have:=hpl _ _ _ h2
   have:=h.ownedLt h1
   omega
  ·rw [thSet_other e] at h1
   rw [thSet_other e'] at h2
   exact h.inj b _ _ _ _ _ _ _ _ h1 h2
theorem newvarAt {H:List AO} {w:World} (h:SR θ W H w) (id:Nat) (hid:H[id]?=some .rsv) (cs:List AV) (vs:Array Value) (ty:TypeId) (hc:CRel θ W cs vs) :
  ∃ θ',SR θ' W (H.set id (.var cs)) (w.alloc (.cells vs ty))/\Stp θ W w θ' W (w.alloc (.cells vs ty))/\ARel θ' W (.ptr id 0) (.pointer (some ⟨w.heap.size,0,none⟩)):=by
 have hnone:∀ ver,θ id ver=.no:=h.obj id _ hid
 obtain ⟨a,b⟩:=h.fill (w':=w.alloc (.cells vs ty)) id hid (.var cs) (.at w.heap.size 1 0) rfl rfl rfl (by simp) (fun k hb=>RowKit.Below.heap_alloc w _ k hb) (fun b sz tot e=>by cases e; rfl) (fun e=>by cases e)
  (fun hr=>⟨⟨w.heap.size,1,0,ty,vs,thSet_same _ _ _ _,heap_alloc_new w _,hc.size,fun j c v hj hv=>hr _ _ (hc.rel j c v hj hv),hc.one⟩,fun ver hv=>by
   rw [thSet_other (by omega)]; exact hnone ver⟩)
 exact ⟨_,a,b,.ptr _ 0 w.heap.size 1 0 (thSet_same _ _ _ _)⟩
theorem newrowsAt {H:List AO} {w:World} (h:SR θ W H w) (id:Nat) (hid:H[id]?=some .rsv) (sz:Nat) (rs:List (List AV)) (vs:Array Value) (ty:TypeId) (tot:Nat)
  (hs:vs.size=tot * sz) (hl:rs.length<=tot) (hr:∀ r∈rs,r.length=sz)
  (hc:∀ (i:Nat) (r:List AV) (j:Nat) (c:AV) (u:Value),rs[i]?=some r->r[j]?=some c->vs[i * sz+j]?=some u->ARel θ W c u) (h1:∀ (j:Nat) (u:Value),vs[j]?=some u->u.oneCell'=true) :
  ∃ θ',SR θ' W (H.set id (.rows sz 0 rs)) (w.alloc (.cells vs ty))/\Stp θ W w θ' W (w.alloc (.cells vs ty))/\θ' id 0=.at w.heap.size sz tot:=by
 have hnone:∀ ver,θ id ver=.no:=h.obj id _ hid
 obtain ⟨a,b⟩:=h.fill (w':=w.alloc (.cells vs ty)) id hid (.rows sz 0 rs) (.at w.heap.size sz tot) rfl rfl rfl (by simp) (fun k hb=>RowKit.Below.heap_alloc w _ k hb) (fun b sz tot e=>by cases e; rfl) (fun e=>by cases e)
  (fun hrel=>⟨.inr ⟨w.heap.size,tot,ty,vs,thSet_same _ _ _ _,heap_alloc_new w _,hs,hl,hr,fun i r j c u hi hj hu=>hrel _ _ (hc i r j c u hi hj hu),h1⟩,fun v' hv=>by
   rw [thSet_other (by omega)]; exact hnone v',fun v' hv=>by omega⟩)
 exact ⟨_,a,b,thSet_same _ _ _ _⟩
theorem newrowsAt2 {H:List AO} {w w0:World} (h:SR θ W H w) (id:Nat) (hid:H[id]?=some .rsv) (sz:Nat) (rs:List (List AV)) (vs:Array Value) (ty:TypeId) (tot:Nat) (hw:w0.heap=w.heap) (hos:w0.os=w.os) (htp:w0.tape=w.tape) (hou:w0.output=w.output)
  (hs:vs.size=tot * sz) (hl:rs.length<=tot) (hr:∀ r∈rs,r.length=sz)
  (hc:∀ (i:Nat) (r:List AV) (j:Nat) (c:AV) (u:Value),rs[i]?=some r->r[j]?=some c->vs[i * sz+j]?=some u->ARel θ W c u) (h1:∀ (j:Nat) (u:Value),vs[j]?=some u->u.oneCell'=true) :
  ∃ θ',SR θ' W (H.set id (.rows sz 0 rs)) (w0.alloc (.cells vs ty))/\Stp θ W w θ' W (w0.alloc (.cells vs ty))/\θ' id 0=.at w.heap.size sz tot:=by
 have hnone:∀ ver,θ id ver=.no:=h.obj id _ hid
 obtain ⟨a,b⟩:=h.fill (w':=w0.alloc (.cells vs ty)) id hid (.rows sz 0 rs) (.at w.heap.size sz tot) hos htp hou (by simp [hw]) (fun k hb=>by rw [RowKit.Below.heap_alloc w0 _ k (by rw [hw]; exact hb),hw]) (fun b sz tot e=>by cases e; rfl) (fun e=>by cases e)
  (fun hrel=>⟨.inr ⟨w.heap.size,tot,ty,vs,thSet_same _ _ _ _,by rw [<- hw]; exact heap_alloc_new w0 _,hs,hl,hr,fun i r j c u hi hj hu=>hrel _ _ (hc i r j c u hi hj hu),h1⟩,fun v' hv=>by
   rw [thSet_other (by omega)]; exact hnone v',fun v' hv=>by omega⟩)
 exact ⟨_,a,b,thSet_same _ _ _ _⟩
def NewOk (o:MO) (s:St) (ob:AO) (mk:Nat->AV):Prop :=
 match o with
 | .alloc z=>ob=.var z/\mk=fun id=>.ptr id 0
 | .box n x=>((s.get x).allOne && (s.get x).cells.length == n)=true/\ob=.var (s.get x).cells/\mk=fun id=>.ptr id 0
 | .bsl sz z n ps=>∃ rs,rowsV s sz ps (List.replicate n z)=some rs/\ob=.rows sz 0 rs/\mk=fun id=>.gs id 0 0 n
 | .mks sz bytes z l c=>∃ n c':Int,s.get l=.p (.i .i64 n)/\s.get c=.p (.i .i64 c')/\(0<=n/\n<=c'/\c' * bytes<=140737488355328/\c'<=140737488355328)/\ob=.rows sz 0 (List.replicate n.toNat z)/\mk=fun id=>.gs id 0 0 n.toNat
 | _=>False
theorem new_val {J : PK} {Hc : List AO} {m : MO} {d : MD} {s : St} (hq : kindOf m = .new) (h : preN Hc m d J s) : ∃ ob mk, NewOk m s ob mk ∧ J Hc (St.put ⟨s.L, s.T, s.H ++ [ob]⟩ d (mk (Hc.length + s.H.length))) := by
  cases m with
  | alloc z => exact ⟨_, _, ⟨rfl, rfl⟩, h⟩
  | box n x =>
    change nwK Hc (if (s.get x).allOne && (s.get x).cells.length == n then some (.var (s.get x).cells) else none) (fun id => .ptr id 0) d J s at h
    split at h
    · rename_i hc; exact ⟨_, _, ⟨hc, rfl, rfl⟩, h⟩
    · exact h.elim
  | bsl sz z n ps =>
    change nwK Hc ((rowsV s sz ps (List.replicate n z)).map fun rs => .rows sz 0 rs) (fun id => .gs id 0 0 n) d J s at h
    cases hr : rowsV s sz ps (List.replicate n z) with
    | none => rw [hr] at h; exact h.elim
    | some rs => rw [hr] at h; exact ⟨_, _, ⟨rs, hr, rfl, rfl⟩, h⟩
  | mks sz b z l c =>
    change mksN Hc sz b z (s.get l) (s.get c) d J s at h
    unfold mksN at h
    split at h
    · rename_i n c' e1 e2
      obtain ⟨h1, h2, h3, h4, h5⟩ := h
      exact ⟨_, _, ⟨n, c', e1, e2, ⟨h1, h2, h3, h4⟩, rfl, rfl⟩, h5⟩
    · exact h.elim
  | _ => cases hq
theorem NewOk.agree {m : MO} {s s' : St} {ob : AO} {mk : Nat → AV} (h : NewOk m s ob mk) (ha : Agree m.args s s') : NewOk m s' ob mk := by
  cases m with
  | alloc z => exact h
  | box n x =>
    have e := ha x (by simp [MO.args])
    simp only [NewOk] at h ⊢
    rw [← e]
    exact h
  | bsl sz z n ps =>
    obtain ⟨rs, h1, h2⟩ := h
    exact ⟨rs, by rw [← Agree.rows (ps := ps) ha]; exact h1, h2⟩
  | mks sz b z l c =>
    obtain ⟨n, c', h1, h2, h3⟩ := h
    exact ⟨n, c', by rw [← ha l (by simp [MO.args])]; exact h1, by rw [← ha c (by simp [MO.args])]; exact h2, h3⟩
  | _ => exact h.elim
theorem cOp_app_inv {op : Op} {sz b : Nat} {mx my : MA} (hm : cOp lv P op = some (.app sz b mx my)) :
    ∃ (c : Call) (x y : Operand) (t u e : TypeId) (i : TypeInfo) (zl : List AV) (du : TypeDesc), op = .call c ∧ c.callee = .builtin .append ∧ c.args = #[x, y] ∧ c.argTypes = #[t, u] ∧ P.underlying t = some (.slice e) ∧ P.underlying u = some du ∧ ((∃ e', du = .slice e') ∨ du = .string) ∧ P.info? e = some i ∧
      zeroOf P e = some zl ∧ zl.length = i.size ∧ 0 < i.size ∧ cArg lv x = some mx ∧ cArg lv y = some my ∧ sz = i.size ∧ b = i.bytes := by
  cases op with
  | call c =>
    simp only [cOp] at hm
    unfold cCall at hm
    split at hm
    · split at hm
      · split at hm
        · cases hm
        · cases hm
      · cases hm
    · cases hm
    · rename_i x hc ha
      cases ht : c.argTypes[0]? with
      | none => rw [ht] at hm; cases hm
      | some t =>
        rw [ht] at hm
        simp only [Option.bind_some] at hm
        split at hm <;> cases hm
    · rename_i x hc ha
      cases ht : c.argTypes[0]? with
      | none => rw [ht] at hm; cases hm
      | some t =>
        rw [ht] at hm
        simp only [Option.bind_some] at hm
        split at hm <;> cases hm
    · rename_i x y hc ha
      obtain ⟨x', y', hy, hx1, hx2⟩ := args_two ha
      split at hm
      case h_2 => cases hm
      case h_1 t u0 htu =>
      have hty : c.argTypes = #[t, u0] := by apply Array.ext'; simpa using htu
      split at hm
      case h_1 => cases hm
      case h_2 u hu =>
      split at hm
      case h_2 => cases hm
      case h_1 e he =>
      split at hm
      case h_2 => cases hm
      case h_1 i hi =>
      have he' : P.underlying t = some (.slice e) := by
        unfold elemT at he
        split at he
        · rename_i e' h'; cases he; exact h'
        · cases he
      split at hm
      · rename_i z e' hz
        split at hm
        · rename_i hcc
          simp only [Bool.and_eq_true, beq_iff_eq, decide_eq_true_eq] at hcc
          cases hm
          exact ⟨c, x', y', t, u0, e, i, z, _, rfl, hc, hy, hty, he', hu, .inl ⟨e', rfl⟩, hi, hz, hcc.1, hcc.2, hx1, hx2, rfl, rfl⟩
        · cases hm
      · rename_i z hz
        split at hm
        · rename_i hcc
          simp only [Bool.and_eq_true, beq_iff_eq, decide_eq_true_eq] at hcc
          cases hm
          exact ⟨c, x', y', t, u0, e, i, z, _, rfl, hc, hy, hty, he', hu, .inr rfl, hi, hz, hcc.1, hcc.2, hx1, hx2, rfl, rfl⟩
        · cases hm
      · split at hm
        · cases hm
        · cases hm
      · cases hm
    · rename_i x y hc ha
      cases hm
    · rename_i x y hc ha
      cases hm
    · cases hm
  | slice t x lo hi mx =>
    cases mx with
    | some _ => cases hm
    | none =>
      simp only [cOp] at hm
      split at hm
      · cases hm
      · obtain ⟨n, _, h⟩ := map_some_inv hm; cases h
      · cases hm
  | makeFunc fn first caps =>
    cases fn with
    | func f =>
      simp only [cOp] at hm
      split at hm
      · obtain ⟨x, _, h⟩ := map_some_inv hm; cases h
      · cases hm
    | _ => cases hm
  | _ =>
    simp only [cOp, cNilq, cNii, cSq, Option.map_eq_some_iff] at hm
    first
      | (cases hm; done)
      | (obtain ⟨x, _, hm⟩ := hm; cases hm; done)
      | ((repeat' split at hm) <;> first | (cases hm; done) | (simp only [Option.map_eq_some_iff, Option.bind_eq_some_iff] at hm; obtain ⟨x, _, hm⟩ := hm; first | (cases hm; done) | (split at hm <;> cases hm)))
theorem end_at {a:Act} {w w':World} {next:Act->World->Prop} {Q:Exit->Act->World->Prop} {s:St} {θ':Th} {H':List AO} {v:Value} {r:AV}
  (hR:Rl lv N s a w θ W) (hd:o.dst.all (decide <| ·<N)=true)
  (hk:∀ a' w' θ' W',Rl lv N (St.put ⟨s.L,s.T,H'⟩ (cDst lv o.dst) r) a' w' θ' W'->Stp θ W w θ' W' w'->next a' w')
  (hrun:(execOp a.eval o).run P w=.ok (.value v) w') (hr:ARel θ' W r v) (hm:SR θ' W H' w') (hs:Stp θ W w θ' W w'):o.wp P a w next Q:=by
 unfold Oper.wp
 rw [hrun]
 exact hk _ _ _ _ (hR.put hd hr hm hs) hs
theorem new_at {m : MO} {s : St} {ob : AO} {mk : Nat → AV} (hm : cOp lv P o.op = some m) (hd : o.dst.all (decide <| · < N) = true) (hn : NewOk m s ob mk) {a : Act} {w : World} {next : Act → World → Prop} {Q : Exit → Act → World → Prop}
    (hR : Rl lv N s a w θ W) (id : Nat) (hid : s.H[id]? = some .rsv)
    (hk : ∀ a' w' θ' W', Rl lv N (St.put ⟨s.L, s.T, s.H.set id ob⟩ (cDst lv o.dst) (mk id)) a' w' θ' W' → Stp θ W w θ' W' w' → next a' w') : o.wp P a w next Q := by
  cases ho : o.op with
  | alloc t =>
    rw [ho] at hm
    obtain ⟨z, hz, rfl⟩ := map_some_inv hm
    obtain ⟨rfl, rfl⟩ := hn
    obtain ⟨i, zv, hi, hzv, hv⟩ := zeroOf_inv hz
    obtain ⟨h1, h2, h3⟩ := ofVals1_rel hv θ W
    obtain ⟨θ', a1, a2, a3⟩ := newvarAt hR.mem id hid z zv.cells t ⟨by simpa using h1, fun j c u hj hu => h2 j c u hj (by simpa using hu), fun j u hu => h3 j u (by simpa using hu)⟩
    refine end_at hR hd hk (v := .pointer (some ⟨w.heap.size, 0, none⟩)) ?_ a3 a1 a2
    simp [execOp, ho, Instr.alloc, zeroValue, typeInfo, hi, hzv, newVar, newRow]
  | box t x =>
    rw [ho] at hm
    simp only [cOp] at hm
    split at hm
    case h_2 => cases hm
    case h_1 hx hsz =>
    cases hm
    obtain ⟨hc, rfl, rfl⟩ := hn
    simp only [Bool.and_eq_true] at hc
    obtain ⟨θ', a1, a2, a3⟩ := newvarAt hR.mem id hid _ (a.eval x).cells t (cells_crel (hR.arg hx) hc.1)
    refine end_at hR hd hk (v := .pointer (some ⟨w.heap.size, 0, none⟩)) ?_ a3 a1 a2
    simp [execOp, ho, Instr.box, newVar, newRow]
  | buildSlice t n ps =>
    rw [ho] at hm
    simp only [cOp] at hm
    split at hm
    case h_2 => cases hm
    case h_1 e he =>
    have ht : P.underlying t = some (.slice e) := by
      unfold elemT at he
      split at he
      · rename_i e' h'; cases he; exact h'
      · cases he
    split at hm
    case h_2 => cases hm
    case h_1 sz z ms hsz hz hps =>
    split at hm
    case isFalse => cases hm
    case isTrue hcc =>
    simp only [Bool.and_eq_true, beq_iff_eq, decide_eq_true_eq] at hcc
    obtain ⟨⟨hzl, h0⟩, hmax⟩ := hcc
    cases hm
    obtain ⟨rs, hrs, rfl, rfl⟩ := hn
    obtain ⟨i, zv, hi, hzv, hz1⟩ := zeroOf_inv hz
    obtain ⟨z1, z2, z3⟩ := ofVals1_rel hz1 θ W
    obtain ⟨i', hi', hisz⟩ := sizeT_inv hsz
    rw [hi] at hi'
    cases hi'
    have hzs : zv.cells.size = sz := by rw [← hzl, ← z1]; simp
    have hcell : ∀ k, k < n * sz → (madeCells zv.cells (n * sz))[k]? = zv.cells[k % sz]? := by
      intro k hk'
      have hm : k % sz < zv.cells.size := by rw [hzs]; exact Nat.mod_lt _ h0
      simp [madeCells, hk', hzs, hm, Nat.mod_lt _ h0]
    have hrr : RRel θ W sz (List.replicate n z) (madeCells zv.cells (n * sz)) := by
      refine ⟨by rw [size_madeCells]; simp, by simp; intro _; exact hzl, ?_, ?_⟩
      · intro p r j q u hp hj hu
        rw [List.getElem?_replicate] at hp
        split at hp
        · rename_i hlt
          cases hp
          have hj' : j < z.length := by
            rcases Nat.lt_or_ge j z.length with h' | h'
            · exact h'
            · rw [List.getElem?_eq_none h'] at hj; cases hj
          have hlt2 : p * sz + j < n * sz := by
            have : (p + 1) * sz ≤ n * sz := Nat.mul_le_mul_right _ (by omega)
            rw [Nat.add_mul] at this
            omega
          rw [hcell _ hlt2, Nat.mul_comm, Nat.mul_add_mod, Nat.mod_eq_of_lt (by omega)] at hu
          exact z2 j q u hj (by simpa using hu)
        · cases hp
      · intro j u hu
        have hlt : j < n * sz := by
          rcases Nat.lt_or_ge j (n * sz) with h' | h'
          · exact h'
          · rw [Array.getElem?_eq_none (by rw [size_madeCells]; exact h')] at hu; cases hu
        rw [hcell _ hlt] at hu
        exact z3 _ u (by simpa using hu)
    obtain ⟨vs', f1, f2, f3⟩ := fill_rows hR ps.toList ms _ rs _ hps hrs hrr
    have hrl : rs.length = n := by rw [f3]; simp
    obtain ⟨θ', a1, a2, a3⟩ := newrowsAt hR.mem id hid sz rs vs' e n (by rw [f2.size, hrl]) (by omega) f2.len f2.rel f2.one
    have hn1 : n ≤ n * sz := Nat.le_mul_of_pos_right n h0
    refine end_at hR hd hk (v := .slice (some ⟨w.heap.size, 0, none⟩) n n) ?_ (.gs _ 0 0 n w.heap.size sz n 0 n a3 (Nat.le_refl _) (by unfold maxL; omega) (by omega) (fun _ => by simp) (fun _ => rfl)) a1 a2
    have hnm : ¬ 16777216 < n * i.size := by rw [hisz]; omega
    have e2 : Array.map (fun x => zv.cells[x % zv.cells.size]!) (Array.range (n * sz)) = madeCells zv.cells (n * sz) := rfl
    have f1' : Instr.fill (fun i => some (i * sz, sz)) (madeCells zv.cells (n * sz)) (List.map (fun x => (x.1, a.eval x.2)) ps.toList) = some vs' := by simpa using f1
    by_cases hn0 : n = 0
    · subst hn0
      have e3 : Array.map (fun _ => (default : Value)) (Array.range 0) = madeCells zv.cells (0 * sz) := by
        apply Array.ext'
        simp [madeCells]
      simp [execOp, ho, Instr.buildSlice, run_underlying ht, sizeOf, typeInfo, hi, newRow]
      rw [hisz, e3, f1']
      rfl
    · have hne : ¬ n * i.size = 0 := by rw [hisz]; exact fun e => by rcases Nat.mul_eq_zero.1 e with e | e <;> omega
      simp [execOp, ho, Instr.buildSlice, run_underlying ht, sizeOf, typeInfo, zeroValue, hi, hzv, hnm, newRow, hn0]
      rw [if_neg (by omega)]
      rw [hisz, e2, f1']
      rfl
  | makeSlice t l c =>
    rw [ho] at hm
    simp only [cOp] at hm
    split at hm
    case h_2 => cases hm
    case h_1 e ml mc he hl hc =>
    have ht : P.underlying t = some (.slice e) := by
      unfold elemT at he
      split at he
      · rename_i e' h'; cases he; exact h'
      · cases he
    split at hm
    case h_2 => cases hm
    case h_1 i z hi hz =>
    split at hm
    case isFalse => cases hm
    case isTrue hcc =>
    simp only [Bool.and_eq_true, beq_iff_eq, decide_eq_true_eq] at hcc
    obtain ⟨hzl, h0⟩ := hcc
    cases hm
    obtain ⟨n, c', e1, e2, ⟨hn, hnc, hb, hc63⟩, rfl, rfl⟩ := hn
    have h1 := hR.arg hl
    have h2 := hR.arg hc
    rw [e1] at h1
    rw [e2] at h2
    have e3 := h1.i_inv
    have e4 := h2.i_inv
    obtain ⟨i', zv, hi', hzv, hv⟩ := zeroOf_inv hz
    rw [hi] at hi'
    cases hi'
    obtain ⟨z1, z2, z3⟩ := ofVals1_rel hv θ W
    have hrun := run_make (P := P) w t e i zv ht hi hzv .i64 .i64 n c' hn hnc (by rw [Int.mul_comm]; omega) (by omega)
    have hzs : zv.cells.size = i.size := by rw [← hzl, ← z1]; simp
    have hcell : ∀ k, k < c'.toNat * i.size → (madeCells zv.cells (c'.toNat * i.size))[k]? = zv.cells[k % i.size]? := by
      intro k hk'
      have hm : k % i.size < zv.cells.size := by rw [hzs]; exact Nat.mod_lt _ h0
      simp [madeCells, hk', hzs, hm, Nat.mod_lt _ h0]
    obtain ⟨θ', a1, a2, a3⟩ := newrowsAt hR.mem id hid i.size (List.replicate n.toNat z) (madeCells zv.cells (c'.toNat * i.size)) e c'.toNat (size_madeCells _ _) (by simp; omega) (by simp; intro _; exact hzl)
      (fun p r j q u hp hj hu => by
        rw [List.getElem?_replicate] at hp
        split at hp
        · rename_i hlt
          cases hp
          have hj' : j < z.length := by
            rcases Nat.lt_or_ge j z.length with h' | h'
            · exact h'
            · rw [List.getElem?_eq_none h'] at hj; cases hj
          have hlt2 : p * i.size + j < c'.toNat * i.size := by
            have : (p + 1) * i.size ≤ c'.toNat * i.size := Nat.mul_le_mul_right _ (by omega)
            rw [Nat.add_mul] at this
            omega
          rw [hcell _ hlt2, Nat.mul_comm, Nat.mul_add_mod, Nat.mod_eq_of_lt (by omega)] at hu
          exact z2 j q u hj (by simpa using hu)
        · cases hp)
      (fun j u hu => by
        have hlt : j < c'.toNat * i.size := by
          rcases Nat.lt_or_ge j (c'.toNat * i.size) with h' | h'
          · exact h'
          · rw [Array.getElem?_eq_none (by rw [size_madeCells]; exact h')] at hu; cases hu
        rw [hcell _ hlt] at hu
        exact z3 _ u (by simpa using hu))
    refine end_at hR hd hk (v := .slice (some ⟨w.heap.size, 0, none⟩) n.toNat c'.toNat) ?_ (.gs _ 0 0 n.toNat w.heap.size i.size c'.toNat 0 c'.toNat a3 (by omega) (by unfold maxL; omega) (by omega) (fun _ => by simp) (fun _ => rfl)) a1 a2
    simp [execOp, ho, e3, e4, hrun]
  | makeFunc fn first caps =>
    rw [ho] at hm
    cases fn with
    | func f =>
      simp only [cOp] at hm
      split at hm
      · obtain ⟨x, _, rfl⟩ := map_some_inv hm; exact hn.elim
      · cases hm
    | _ => cases hm
  | slice t x lo hi mx =>
    rw [ho] at hm
    cases mx with
    | some _ => cases hm
    | none =>
      simp only [cOp] at hm
      split at hm
      · cases hm; exact hn.elim
      · obtain ⟨n, _, rfl⟩ := map_some_inv hm; exact hn.elim
      · cases hm
  | call c =>
    rw [ho] at hm
    simp only [cOp, cCall] at hm
    (repeat' split at hm) <;> first | (cases hm; done) | (cases hm; exact hn.elim)
  | _ =>
    rw [ho] at hm
    simp only [cOp, cNilq, cNii, cSq, Option.map_eq_some_iff] at hm
    first
      | (cases hm; done)
      | (obtain ⟨x, _, rfl⟩ := hm; exact hn.elim)
      | ((repeat' split at hm) <;> first | (cases hm; done) | (cases hm; exact hn.elim) | (simp only [Option.map_eq_some_iff, Option.bind_eq_some_iff] at hm; obtain ⟨x, _, hm⟩ := hm; first | (cases hm; exact hn.elim) | (split at hm <;> cases hm <;> exact hn.elim)))
      | skip
theorem app_new_at {sz b:Nat} {mx my:MA} {s:St} (hm:cOp lv P o.op=some (.app sz b mx my)) (hd:o.dst.all (decide <| ·<N)=true) {a:Act} {w:World} {next:Act->World->Prop} {Q:Exit->Act->World->Prop}
  (hR:Rl lv N s a w θ W) (hx0:s.get mx=.p .nl) {ys:List (List AV)} (hys:srcRows s.H sz (s.get my)=some ys) (hyr:∀ r∈ys,r.length=sz) (hne:ys≠[]) (hb:ys.length * b<=140737488355328) (hb63:ys.length<=140737488355328)
  (id:Nat) (hid:s.H[id]?=some .rsv)
  (hk:∀ a' w' θ' W',Rl lv N (St.put ⟨s.L,s.T,s.H.set id (.rows sz 0 ys)⟩ (cDst lv o.dst) (.gs id 0 0 ys.length)) a' w' θ' W'->Stp θ W w θ' W' w'->next a' w'):o.wp P a w next Q:=by
 obtain ⟨c,x,y,t,u,e,i,zl,du,ho,hc,hargs,hty,ht,hu,hdu,hi,hz,hzl,h0,hx,hy,rfl,rfl⟩:=cOp_app_inv hm
 have h1:=hR.arg hx
 have h2:=hR.arg hy
 have hrun:=run_app_op (P:=P) ho hc hargs hty a w
 obtain ⟨i',zv,hi',hzv,hv⟩:=zeroOf_inv hz
 rw [hi] at hi'
 cases hi'
 obtain ⟨z1,z2,z3⟩:=ofVals1_rel hv θ W
 have hzs:zv.cells.size=i.size:=by rw [<- hzl,<- z1]; simp
 have hz3:∀ (j:Nat) (u:Value),zv.cells[j]?=some u->u.oneCell'=true:=fun j u hj=>z3 j u (by simpa using hj)
 obtain ⟨news,s1,s2,s3,s4,s5⟩:=src_ok (P:=P) hR.mem h0 h2 hys hyr
 have hm:ys.length≠0:=fun e=>hne (List.eq_nil_of_length_eq_zero e)
 rw [hx0] at h1
 generalize hva:a.eval x=v at h1 hrun
 cases h1.p_inv
 have hr2:=run_app_grow (P:=P) (ty:=o.type) ht hu hdu hi hzv (w:=w) (base:=none) (n:=0) (cap:=0) (olds:=[]) s2 s3 (fun w' _=>rfl) (by omega) (by omega) (by rw [Nat.zero_add]; exact hb)
 rw [hr2] at hrun
 have hge:=grownCap_ge w (0+ys.length) 0 e
 obtain ⟨θ',a1,a2,a3⟩:=newrowsAt2 (w0:=w.drew) hR.mem id hid i.size ys _ e (grownCap w (0+ys.length) 0 e) rfl rfl rfl rfl (size_join (n:=0) (m:=ys.length) (olds:=[]) hzs (by simp) s1 hge) (by omega) hyr
  (fun p r j q u hp hj hu'=>rows_join (θ:=θ) (W:=W) (rs:=[]) (olds:=[]) (n:=0) (zs:=Builtin.zeroCells zv.cells (grownCap w (0+ys.length) 0 e - (0+ys.length))) h0 (by simp) (by simp) s1 rfl (by simp) hyr (fun i r j c u hlt=>by omega) s5 p r j q u (by simpa using hp) hj (by rw [<- arr3]; exact hu'))
  (one_join (olds:=[]) (by omega) (by simp) s4 hz3)
 refine end_at hR hd hk hrun ?_ a1 a2
 rw [Nat.zero_add] at hge a3 ⊢
 exact .gs _ 0 0 _ w.heap.size i.size _ 0 _ a3 hge (by unfold maxL; omega) (by omega) (fun _=>by simp) (fun _=>rfl)
end Go.AM
