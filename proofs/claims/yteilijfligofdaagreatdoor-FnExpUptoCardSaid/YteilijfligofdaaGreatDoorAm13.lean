/- The operations, at their end: appends, structs and slices that are written out, bytes to a string. -/
import Derived.Test.YteilijfligofdaaGreatDoorAm12
set_option linter.all false
namespace Go.AM
variable {lv:List Nat} {P:Program} {N:Nat} {o:Oper} {st:St} {K:St->Prop} {θ:Th} {W:Im}
theorem zeroCells_mem {z:Array Value} {n j:Nat} {u:Value} (h0:0<z.size) (h:(Builtin.zeroCells z n)[j]?=some u):∃ k:Nat,z[k]?=some u:=by
 have hlt:j<n * z.size:=by
  rcases Nat.lt_or_ge j (n * z.size) with h' | h'
  ·exact h'
  ·rw [Array.getElem?_eq_none (by rw [size_zeroCells]; exact h')] at h; cases h
 have hm:=Nat.mod_lt j h0
 refine ⟨j % z.size,?_⟩
 simp [Builtin.zeroCells,hlt,hm] at h
 simp [hm,h]
theorem rows_join {sz n m:Nat} {rs ys:List (List AV)} {olds news:List Value} {zs:Array Value} (hsz:0<sz) (hn:n<=rs.length) (ho:olds.length=n * sz) (hl:news.length=m * sz) (hm:ys.length=m)
  (hr:∀ r∈rs,r.length=sz) (hy:∀ r∈ys,r.length=sz)
  (h1:∀ (i:Nat) (r:List AV) (j:Nat) (c:AV) (u:Value),i<n->rs[i]?=some r->r[j]?=some c->olds[i * sz+j]?=some u->ARel θ W c u)
  (h2:∀ (i:Nat) (r:List AV) (j:Nat) (c:AV) (u:Value),ys[i]?=some r->r[j]?=some c->news[i * sz+j]?=some u->ARel θ W c u) :
  ∀ (i:Nat) (r:List AV) (j:Nat) (c:AV) (u:Value),(rs.take n++ys)[i]?=some r->r[j]?=some c->(olds++news++zs.toList)[i * sz+j]?=some u->ARel θ W c u:=by
 intro i r j c u hi hj hu
 have htl:(rs.take n).length=n:=by simp; omega
 rcases Nat.lt_or_ge i n with hlt | hge
 ·rw [List.getElem?_append_left (by omega),List.getElem?_take,if_pos hlt] at hi
  have hrl:r.length=sz:=hr r (List.mem_of_getElem? hi)
  have hjl:j<r.length:=by
   rcases Nat.lt_or_ge j r.length with h' | h'
   ·exact h'
   ·rw [List.getElem?_eq_none h'] at hj; cases hj
  have:(i+1) * sz<=n * sz:=Nat.mul_le_mul_right _ hlt
  rw [Nat.add_mul] at this
  rw [List.append_assoc,List.getElem?_append_left (by omega)] at hu
  exact h1 i r j c u hlt hi hj hu
 ·rw [List.getElem?_append_right (by omega),htl] at hi
  have hrl:r.length=sz:=hy r (List.mem_of_getElem? hi)
  have hjl:j<r.length:=by
   rcases Nat.lt_or_ge j r.length with h' | h'
   ·exact h'
   ·rw [List.getElem?_eq_none h'] at hj; cases hj
  have hil:i - n<ys.length:=by
   rcases Nat.lt_or_ge (i - n) ys.length with h' | h'
   ·exact h'
   ·rw [List.getElem?_eq_none h'] at hi; cases hi
  have e1:i * sz=n * sz+(i - n) * sz:=by rw [<- Nat.add_mul]; congr 1; omega
  have e2:(i - n+1) * sz<=m * sz:=Nat.mul_le_mul_right _ (by omega)
  rw [Nat.add_mul] at e2
  rw [List.append_assoc,List.getElem?_append_right (by omega),List.getElem?_append_left (by omega)] at hu
  rw [show i * sz+j - olds.length=(i - n) * sz+j by omega] at hu
  exact h2 (i - n) r j c u hi hj hu
theorem arr3 (a b:List Value) (z:Array Value) (j:Nat):(a.toArray++b.toArray++z)[j]?=(a++b++z.toList)[j]?:=by
 rw [<- Array.getElem?_toList]
 simp
theorem one_join {z:Array Value} {k:Nat} {olds news:List Value} (h0:0<z.size) (h1:∀ u∈olds,u.oneCell'=true) (h2:∀ u∈news,u.oneCell'=true) (h3:∀ (j:Nat) (u:Value),z[j]?=some u->u.oneCell'=true) :
  ∀ (j:Nat) (u:Value),(olds.toArray++news.toArray++Builtin.zeroCells z k)[j]?=some u->u.oneCell'=true:=by
 intro j u hu
 have hu':(olds++news++(Builtin.zeroCells z k).toList)[j]?=some u:=by rw [<- arr3]; exact hu
 have hmem:=List.mem_of_getElem? hu'
 simp only [List.mem_append] at hmem
 rcases hmem with (h | h) | h
 ·exact h1 u h
 ·exact h2 u h
 ·obtain ⟨j',hj'⟩:=List.getElem?_of_mem h
  obtain ⟨k',hk'⟩:=zeroCells_mem h0 (by simpa using hj')
  exact h3 k' u hk'
theorem size_join {z:Array Value} {sz n m nc:Nat} {olds news:List Value} (hz:z.size=sz) (ho:olds.length=n * sz) (hl:news.length=m * sz) (hc:n+m<=nc) :
  (olds.toArray++news.toArray++Builtin.zeroCells z (nc - (n+m))).size=nc * sz:=by
 simp only [Array.size_append,List.size_toArray,size_zeroCells,hz,ho,hl,<- Nat.add_mul]
 congr 1
 omega
theorem run_app_op {c:Call} {x y:Operand} {t u:TypeId} (ho:o.op=.call c) (hc:c.callee=.builtin .append) (hargs:c.args=#[x,y]) (hty:c.argTypes=#[t,u]) (a:Act) (w:World) :
  (execOp a.eval o).run P w=((Builtin.append_ #[t,u] o.type #[a.eval x,a.eval y]).run P w).andThen fun v w=>.ok (.value v) w:=by
 simp [execOp,ho,resolve,hc,hargs,hty,invoke,builtin]
theorem ok_app {c : Call} {x y : Operand} {t u e : TypeId} {i : TypeInfo} {zl : List AV} {du : TypeDesc} {mx my : MA} (ho : o.op = .call c) (hc : c.callee = .builtin .append) (hargs : c.args = #[x, y]) (hty : c.argTypes = #[t, u])
    (ht : P.underlying t = some (.slice e)) (hu : P.underlying u = some du) (hdu : (∃ e', du = .slice e') ∨ du = .string) (hi : P.info? e = some i) (hz : zeroOf P e = some zl) (hzl : zl.length = i.size) (h0 : 0 < i.size)
    (hx : cArg lv x = some mx) (hy : cArg lv y = some my)
    (hd : o.dst.all (decide <| · < N) = true) (h : appK i.size i.bytes (st.get mx) (st.get my) (cDst lv o.dst) K st) : OpOk lv P N o st K := by
  intro a w θ W next Q hR hk
  have h1 := hR.arg hx
  have h2 := hR.arg hy
  have hrun := run_app_op (P := P) ho hc hargs hty a w
  obtain ⟨i', zv, hi', hzv, hv⟩ := zeroOf_inv hz
  rw [hi] at hi'
  cases hi'
  obtain ⟨z1, z2, z3⟩ := ofVals1_rel hv θ W
  have hzs : zv.cells.size = i.size := by rw [← hzl, ← z1]; simp
  have hz3 : ∀ (j : Nat) (u : Value), zv.cells[j]? = some u → u.oneCell' = true := fun j u hj => z3 j u (by simpa using hj)
  unfold appK appY at h
  split at h
  case h_2 => exact h.elim
  case h_1 ys hys =>
  obtain ⟨hyr, h⟩ := h
  obtain ⟨news, s1, s2, s3, s4, s5⟩ := src_ok (P := P) hR.mem h0 h2 hys hyr
  unfold appX at h
  split at h
  case h_3 => exact h.elim
  case h_1 e1 =>
    obtain ⟨hb, hb63, hK⟩ := h
    rw [e1] at h1
    generalize hva : a.eval x = v at h1 hrun
    cases h1.p_inv
    by_cases hm : ys.length = 0
    · have hys0 : ys = [] := List.eq_nil_of_length_eq_zero hm
      subst hys0
      have hr2 := run_app_none (P := P) (ty := o.type) ht hu hdu hi (w := w) (news := news) s2 s3
      rw [hr2] at hrun
      obtain ⟨a1, a2⟩ := hR.mem.push (w' := w) (.rows i.size 0 []) .nil rfl rfl rfl (Nat.le_refl _) (fun _ _ => rfl) (fun b sz tot e => by cases e) (fun e => by cases e)
        (fun _ => ⟨.inl ⟨thSet_same _ _ _ _, rfl⟩, fun v' hv' => by rw [thSet_other (by omega)]; exact hR.mem.out _ _ (Nat.le_refl _), fun v' hv' => by omega⟩)
      exact end_value hR hd hk hrun (.gsNil _ 0 (thSet_same _ _ _ _)) a1 a2 hK
    · have hr2 := run_app_grow (P := P) (ty := o.type) ht hu hdu hi hzv (w := w) (base := none) (n := 0) (cap := 0) (olds := []) s2 s3 (fun w' _ => rfl) (by omega) (by omega) (by rw [Nat.zero_add]; exact hb)
      rw [hr2] at hrun
      have hge := grownCap_ge w (0 + ys.length) 0 e
      obtain ⟨θ', a1, a2, a3⟩ := newrows (w0 := w.drew) hR.mem i.size ys _ e (grownCap w (0 + ys.length) 0 e) rfl rfl rfl rfl (size_join (n := 0) (m := ys.length) (olds := []) hzs (by simp) s1 hge) (by omega) hyr
        (fun p r j q u hp hj hu' => rows_join (θ := θ) (W := W) (rs := []) (olds := []) (n := 0) (zs := Builtin.zeroCells zv.cells (grownCap w (0 + ys.length) 0 e - (0 + ys.length))) h0 (by simp) (by simp) s1 rfl (by simp) hyr (fun i r j c u hlt => by omega) s5 p r j q u (by simpa using hp) hj (by rw [← arr3]; exact hu'))
        (one_join (olds := []) (by omega) (by simp) s4 hz3)
      refine end_value hR hd hk hrun ?_ a1 a2 hK
      rw [Nat.zero_add] at hge a3 ⊢
      exact .gs _ 0 0 _ w.heap.size i.size _ 0 _ a3 hge (by unfold maxL; omega) (by omega) (fun _ => by simp) (fun _ => rfl)
  case h_2 id ver off n e1 =>
    unfold appR at h
    split at h
    case h_2 => exact h.elim
    case h_1 sz' ver' rs hid =>
    obtain ⟨rfl, rfl, rfl, hnr, hb, hb63, hK⟩ := h
    rw [e1] at h1
    generalize hva : a.eval x = v at h1 hrun
    have hidl : id < st.H.length := by
      rcases Nat.lt_or_ge id st.H.length with h' | h'
      · exact h'
      · rw [List.getElem?_eq_none h'] at hid; cases hid
    obtain ⟨q1, q2, q3⟩ := hR.mem.obj id _ hid
    have grown : ∀ (base : Option Addr) (cap : Nat) (olds : List Value), v = .slice base n cap → θ id ver' ≠ .no → (∀ k sz tot, θ id ver' = .at k sz tot → True) → olds.length = n * i.size → (∀ u ∈ olds, u.oneCell' = true) → (∀ r ∈ rs, r.length = i.size) →
        (∀ w' : World, w'.heap = w.heap → (Builtin.firstCells i.size n (.slice base n cap)).run P w' = .ok olds.toArray w') →
        (∀ (p : Nat) (r : List AV) (j : Nat) (q : AV) (u : Value), p < n → rs[p]? = some r → r[j]? = some q → olds[p * i.size + j]? = some u → ARel θ W q u) → cap < n + ys.length → o.wp P a w next Q := by
      intro base cap olds hvv hno _ hol ho1 hrl hold hor hgt
      have hr2 := run_app_grow (P := P) (ty := o.type) ht hu hdu hi hzv (w := w) (base := base) (n := n) (cap := cap) (olds := olds) s2 s3 hold hgt hb63 hb
      rw [hvv, hr2] at hrun
      have hge := grownCap_ge w (n + ys.length) cap e
      obtain ⟨a1, a2⟩ := hR.mem.grow (w' := w.drew.alloc (.cells (olds.toArray ++ news.toArray ++ Builtin.zeroCells zv.cells (grownCap w (n + ys.length) cap e - (n + ys.length))) e)) id ver' (.rows i.size (ver' + 1) (rs.take n ++ ys)) (.at w.heap.size i.size (grownCap w (n + ys.length) cap e)) hidl hno (q2 _ (by omega)) rfl rfl rfl (by simp)
        (fun k hk' _ => RowKit.Below.heap_alloc w.drew _ k hk') (fun b sz tot e' => by cases e'; exact .inr rfl)
        (fun hrel => ⟨.inr ⟨w.heap.size, _, e, _, thSet_same _ _ _ _, heap_alloc_new w.drew _, size_join hzs hol s1 hge, by simp; omega, fun r hr => by
            rcases List.mem_append.1 hr with hr | hr
            · exact hrl r (List.mem_of_mem_take hr)
            · exact hyr r hr,
          fun p r j q u hp hj hu' => hrel _ _ (rows_join (θ := θ) (W := W) (zs := Builtin.zeroCells zv.cells (grownCap w (n + ys.length) cap e - (n + ys.length))) h0 hnr hol s1 rfl hrl hyr hor s5 p r j q u hp hj (by rw [← arr3]; exact hu')),
          one_join (by omega) ho1 s4 hz3⟩, fun v' hv' => by rw [thSet_other (by omega), thSet_other (by omega)]; exact q2 v' (by omega), fun v' hv' => by
            rw [thSet_other (by omega)]
            by_cases ev : v' = ver'
            · subst ev; exact thSet_same _ _ _ _
            · rw [thSet_other (by omega)]; exact q3 v' (by omega)⟩)
      exact end_value hR hd hk hrun (.gs id _ 0 _ w.heap.size i.size _ 0 _ (thSet_same _ _ _ _) hge (by unfold maxL; omega) (by omega) (fun _ => by simp) (fun _ => rfl)) a1 a2 hK
    cases h1 with
    | gsDead _ _ _ _ ad cap hdead => rcases q1 with ⟨q1, _⟩ | ⟨b, tot, ty, vs, q1, _⟩ <;> (rw [hdead] at q1; cases q1)
    | gsNil _ _ hn =>
      rcases q1 with ⟨_, rfl⟩ | ⟨b, tot, ty, vs, q1, _⟩
      · by_cases hm : ys.length = 0
        · have hys0 : ys = [] := List.eq_nil_of_length_eq_zero hm
          subst hys0
          have hr2 := run_app_none (P := P) (ty := o.type) ht hu hdu hi (w := w) (news := news) s2 s3
          rw [hr2] at hrun
          obtain ⟨a1, a2⟩ := hR.mem.grow (w' := w) id ver' (.rows i.size (ver' + 1) (List.take 0 [] ++ [])) .nil hidl (by rw [hn]; exact fun e' => by cases e') (q2 _ (by omega)) rfl rfl rfl (Nat.le_refl _) (fun _ _ _ => rfl) (fun b sz tot e' => by cases e')
            (fun _ => ⟨.inl ⟨thSet_same _ _ _ _, rfl⟩, fun v' hv' => by rw [thSet_other (by omega), thSet_other (by omega)]; exact q2 v' (by omega), fun v' hv' => by
              rw [thSet_other (by omega)]
              by_cases ev : v' = ver'
              · subst ev; exact thSet_same _ _ _ _
              · rw [thSet_other (by omega)]; exact q3 v' (by omega)⟩)
          exact end_value hR hd hk hrun (.gsNil _ _ (thSet_same _ _ _ _)) a1 a2 hK
        · exact grown none 0 [] rfl (by rw [hn]; exact fun e' => by cases e') (fun _ _ _ _ => trivial) (by simp) (by simp) (by simp) (fun w' _ => rfl) (fun p r j q u hp => by omega) (by omega)
      · rw [hn] at q1; cases q1
    | gs _ _ _ _ b sz tot o' cap hat hnc hmm hcap ho' h0' =>
      rcases q1 with ⟨q1, _⟩ | ⟨b', tot', ty, vs, q1, g1, g2, g3, g4, g5, g6⟩
      · rw [hat] at q1; cases q1
      rw [hat] at q1
      cases q1
      have e0 : o' = 0 := h0' rfl
      subst e0
      have hct : cap = tot := by omega
      subst hct
      by_cases hroom : n + ys.length ≤ cap
      · have hfit : n * i.size + news.length ≤ vs.size := by rw [s1, g2, ← Nat.add_mul]; exact Nat.mul_le_mul_right _ hroom
        have hr2 := run_app_room (P := P) (ty := o.type) ht hu hdu hi (w := w) (n := n) (cap := cap) g1 s1 s2 s3 s4 hroom hfit
        rw [hr2] at hrun
        have hfit' : n * i.size + news.length ≤ vs.toList.length := by simpa using hfit
        obtain ⟨a1, a2⟩ := hR.mem.grow (w' := w.setRow b (vs.toList.take (n * i.size) ++ news ++ vs.toList.drop (n * i.size + news.length)).toArray) id ver' (.rows i.size (ver' + 1) (rs.take n ++ ys)) (.at b i.size cap) hidl (by rw [hat]; exact fun e' => by cases e') (q2 _ (by omega)) rfl rfl rfl (Nat.le_of_eq (size_setRow' _ _ _).symm)
          (fun k hk' hne => setRow_other _ _ _ _ (fun e' => hne _ _ (e' ▸ hat))) (fun b' sz' tot' e' => by cases e'; exact .inl ⟨_, _, hat⟩)
          (fun hrel => ⟨.inr ⟨b, cap, ty, _, thSet_same _ _ _ _, setRow_heap w b vs _ ty _ g1, by simp; omega, by simp; omega, fun r hr => by
              rcases List.mem_append.1 hr with hr | hr
              · exact g4 r (List.mem_of_mem_take hr)
              · exact hyr r hr,
            fun p r j q u hp hj hu' => hrel _ _ (by
              have hol : (vs.toList.take (n * i.size)).length = n * i.size := by simp; omega
              refine rows_join (θ := θ) (W := W) (zs := (vs.toList.drop (n * i.size + news.length)).toArray) h0 hnr hol s1 rfl g4 hyr ?_ s5 p r j q u hp hj (by simpa using hu')
              intro p' r' j' c' u' hlt hp' hj' hu2
              rw [List.getElem?_take] at hu2
              split at hu2
              · exact g5 p' r' j' c' u' hp' hj' (by simpa using hu2)
              · cases hu2),
            fun j u hu' => by
              have hu'' : (vs.toList.take (n * i.size) ++ news ++ vs.toList.drop (n * i.size + news.length))[j]? = some u := by simpa using hu'
              rw [getElem?_over _ _ _ _ hfit'] at hu''
              split at hu''
              · exact g6 j u (by simpa using hu'')
              · split at hu''
                · exact s4 u (List.mem_of_getElem? hu'')
                · exact g6 j u (by simpa using hu'')⟩, fun v' hv' => by rw [thSet_other (by omega), thSet_other (by omega)]; exact q2 v' (by omega), fun v' hv' => by
              rw [thSet_other (by omega)]
              by_cases ev : v' = ver'
              · subst ev; exact thSet_same _ _ _ _
              · rw [thSet_other (by omega)]; exact q3 v' (by omega)⟩)
        exact end_value hR hd hk hrun (.gs id _ 0 _ b i.size cap 0 _ (thSet_same _ _ _ _) hroom (by unfold maxL; omega) (by omega) (fun _ => by simp) (fun _ => rfl)) a1 a2 hK
      · refine grown (some ⟨b, 0, none⟩) cap (vs.toList.take (n * i.size)) rfl (by rw [hat]; exact fun e' => by cases e') (fun _ _ _ _ => trivial) ?_ ?_ g4 ?_ ?_ (by omega)
        · have : n * i.size ≤ cap * i.size := Nat.mul_le_mul_right _ (by omega)
          simp; omega
        · intro u hu'
          obtain ⟨j, hj⟩ := List.getElem?_of_mem (List.mem_of_mem_take hu')
          exact g6 j u (by simpa using hj)
        · intro w' hw'
          refine run_firstCells_some (P := P) w' i.size n _ n cap _ ?_ ?_
          · have : n * i.size ≤ cap * i.size := Nat.mul_le_mul_right _ (by omega)
            simp; omega
          · intro j v hj
            rw [cell_heap hw', Addr.add_lit]
            rw [List.getElem?_take] at hj
            split at hj
            · simpa [World.cell?, g1] using hj
            · cases hj
        · intro p r j q u hlt hp hj hu'
          rw [List.getElem?_take] at hu'
          split at hu'
          · exact g5 p r j q u hp hj (by simpa using hu')
          · cases hu'
theorem ok_appz {c:Call} {x y:Operand} {t u e:TypeId} {i:TypeInfo} {zl:List AV} {mx my:MA} (ho:o.op=.call c) (hc:c.callee=.builtin .append) (hargs:c.args=#[x,y]) (hty:c.argTypes=#[t,u])
  (ht:P.underlying t=some (.slice e)) (hu:P.underlying u=some (.int .i64)) (hi:P.info? e=some i) (hz:zeroOf P e=some zl) (hzl:zl.length=i.size) (h0:0<i.size)
  (hx:cArg lv x=some mx) (hy:cArg lv y=some my)
  (hd:o.dst.all (decide <| ·<N)=true) (h:appzK i.size i.bytes (st.get mx) (st.get my) (cDst lv o.dst) K st):OpOk lv P N o st K:=by
 intro a w θ W next Q hR hk
 have h1:=hR.arg hx
 have h2:=hR.arg hy
 have hrun:=run_app_op (P:=P) ho hc hargs hty a w
 obtain ⟨i',zv,hi',hzv,hv⟩:=zeroOf_inv hz
 rw [hi] at hi'
 cases hi'
 obtain ⟨z1,z2,z3⟩:=ofVals1_rel hv θ W
 have hzs:zv.cells.size=i.size:=by rw [<- hzl,<- z1]; simp
 have hz3:∀ (j:Nat) (u:Value),zv.cells[j]?=some u->u.oneCell'=true:=fun j u hj=>z3 j u (by simpa using hj)
 unfold appzK at h
 split at h
 case h_2=>exact h.elim
 case h_1 k e1 e2 =>
 obtain ⟨hk0,hb,h63,hK⟩:=h
 rw [e1] at h1
 rw [e2] at h2
 have e4:=h2.i_inv
 generalize hva:a.eval x=v at h1 hrun
 cases h1.p_inv
 rw [e4,run_app_zero (P:=P) (ty:=o.type) ht hu hi hzv h0 hk0 h63 hb] at hrun
 have hge:=grownCap_ge w k.toNat 0 e
 have hcs:∀ (j:Nat) (u:Value),(Builtin.zeroCells zv.cells k.toNat++Builtin.zeroCells zv.cells (grownCap w k.toNat 0 e - k.toNat))[j]?=some u->u.oneCell'=true:=by
  intro j u hu
  rw [Array.getElem?_append] at hu
  split at hu
  ·obtain ⟨k,hk⟩:=zeroCells_mem (by omega) hu; exact hz3 _ _ hk
  ·obtain ⟨k,hk⟩:=zeroCells_mem (by omega) hu; exact hz3 _ _ hk
 have hsz:(Builtin.zeroCells zv.cells k.toNat++Builtin.zeroCells zv.cells (grownCap w k.toNat 0 e - k.toNat)).size=grownCap w k.toNat 0 e * i.size:=by
  simp only [Array.size_append,Builtin.zeroCells,Array.size_map,Array.size_range,hzs]
  rw [<- Nat.add_mul]
  congr 1
  omega
 obtain ⟨θ',a1,a2,a3⟩:=newrows (w0:=w.drew) hR.mem i.size [] _ e (grownCap w k.toNat 0 e) rfl rfl rfl rfl hsz (by simp) (by simp) (fun p r j q u hp=>by simp at hp) hcs
 exact end_value hR hd hk hrun (.gs _ 0 0 _ w.heap.size i.size _ 0 _ a3 hge (by unfold maxL; omega) (by omega) (fun _=>by simp) (fun _=>rfl)) a1 a2 hK
end Go.AM
