/- The operations, continued: lengths, indexes, slices, parts of structs, calls. -/
import Derived.Test.YteilijfligofdaaGreatDoorAm9
set_option linter.all false
namespace Go.AM
variable {lv:List Nat} {P:Program} {N:Nat} {o:Oper} {st:St} {K:St->Prop} {θ:Th} {W:Im}
theorem ok_len {c : Call} {t : TypeId} {s : Bool} {x : Operand} {m : MA} (ho : o.op = .call c) (hc : c.callee = .builtin .len) (hargs : c.args = #[x]) (ht : c.argTypes[0]? = some t)
    (hu : if s then P.underlying t = some .string else ∃ e, P.underlying t = some (.slice e)) (hx : cArg lv x = some m)
    (hd : o.dst.all (decide <| · < N) = true) (h : lenK s (st.get m) (cDst lv o.dst) K st) : OpOk lv P N o st K := by
  intro a w θ W next Q hR hk
  have h1 := hR.arg hx
  unfold lenK at h
  generalize hv : a.eval x = v at h1
  split at h
  · rename_i xs e1
    obtain ⟨e, hu⟩ := hu
    rw [e1] at h1
    cases h1.p_inv with
    | l _ _ _ _ _ _ hm => exact end_same hR hd hk (run_len_slice ho hc hargs ht hu hv) (.p _ _ (.i _ _)) (h hm)
  · rename_i e1
    obtain ⟨e, hu⟩ := hu
    rw [e1] at h1
    cases h1.p_inv
    exact end_same hR hd hk (run_len_slice ho hc hargs ht hu hv) (.p _ _ (.i _ _)) h
  · rename_i y e1
    rw [e1] at h1
    cases h1.p_inv with
    | s _ hm =>
      refine end_same hR hd hk (run_len_string ho hc hargs ht hu hv) (.p _ _ ?_) (h hm)
      have : (ByteArray.mk y.toArray).size = y.length := by show y.toArray.size = _; simp
      rw [this]
      exact .i _ _
  · rename_i id ver off n' e1
    obtain ⟨e, hu⟩ := hu
    rw [e1] at h1
    cases h1 with
    | gsDead _ _ _ _ _ _ _ _ hm => exact end_same hR hd hk (run_len_slice ho hc hargs ht hu hv) (.p _ _ (.i _ _)) (h hm)
    | gsNil => exact end_same hR hd hk (run_len_slice ho hc hargs ht hu hv) (.p _ _ (.i _ _)) (h (Nat.zero_le _))
    | gs _ _ _ _ _ _ _ _ _ _ _ hm => exact end_same hR hd hk (run_len_slice ho hc hargs ht hu hv) (.p _ _ (.i _ _)) (h hm)
  · exact h.elim
theorem ok_cap {c:Call} {t e:TypeId} {x:Operand} {m:MA} (ho:o.op=.call c) (hc:c.callee=.builtin .cap) (hargs:c.args=#[x]) (ht:c.argTypes[0]?=some t)
  (hu:P.underlying t=some (.slice e)) (hx:cArg lv x=some m)
  (hd:o.dst.all (decide <| ·<N)=true) (h:withV (capV (st.get m)) (cDst lv o.dst) K st):OpOk lv P N o st K:=by
 intro a w θ W next Q hR hk
 have h1:=hR.arg hx
 obtain ⟨v,hv,h⟩:=withV_inv h
 unfold capV at hv
 generalize hv2:a.eval x=v2 at h1
 split at hv
 ·rename_i e1
  cases hv
  rw [e1] at h1
  cases h1.p_inv
  exact end_same hR hd hk (run_cap_slice ho hc hargs ht hu hv2) (.p _ _ (.i _ _)) h
 ·cases hv
theorem add_lit' (ad:Addr) (h:ad.spot=none) (n:Nat):ad.add n=⟨ad.block,ad.off+n,none⟩:=by
 cases ad
 simp only at h
 subst h
 exact Addr.add_lit _ _ _
theorem ok_ixs {t e : TypeId} {sz : Nat} {x i : Operand} {mx mi : MA} (ho : o.op = .indexAddr t x i) (ht : P.underlying t = some (.slice e)) (hsz : sizeT P e = some sz) (h0 : 0 < sz) (hx : cArg lv x = some mx) (hi : cArg lv i = some mi)
    (hd : o.dst.all (decide <| · < N) = true) (h : ixsK sz (st.get mx) (st.get mi) (cDst lv o.dst) K st) : OpOk lv P N o st K := by
  intro a w θ W next Q hR hk
  have h1 := hR.arg hx
  have h2 := hR.arg hi
  obtain ⟨inf, hinf, hisz⟩ := sizeT_inv hsz
  unfold ixsK at h
  split at h
  case h_2 => exact h.elim
  case h_1 k n e2 =>
  rw [e2] at h2
  have e3 := h2.i_inv
  have run : ∀ (ad : Addr) (len cap : Nat), a.eval x = .slice (some ad) len cap → 0 ≤ n → n < (len : Int) → (execOp a.eval o).run P w = .ok (.value (.pointer (some (ad.add (n.toNat * sz))))) w := by
    intro ad len cap e h3 h4
    simp [execOp, ho, Instr.indexAt, e, e3, asIntOf, run_underlying ht, h3, h4, sizeOf, typeInfo, hinf, hisz]
  split at h
  · rename_i xs e1
    obtain ⟨hn, r, hr, hrl, hK⟩ := h
    rw [e1] at h1
    generalize hv : a.eval x = v at h1
    have hlt : n.toNat < xs.length := by
      rcases Nat.lt_or_ge n.toNat xs.length with h' | h'
      · exact h'
      · rw [List.getElem?_eq_none h'] at hr; cases hr
    cases h1.p_inv with
    | l _ ad cap sz' f hlen hmax hnil hsp hrow hcell hrel =>
      cases ad with
      | none => have := hnil rfl; omega
      | some ad =>
        have e4 : r.length = sz' := hrow r (List.mem_of_getElem? hr)
        refine end_same hR hd hk (run ad _ cap hv hn (by omega)) ?_ hK
        rw [add_lit' ad (hsp (List.ne_nil_of_mem (List.mem_of_getElem? hr)) ad rfl)]
        exact .ip r ad.block _ (f n.toNat) (fun j q hj => by
          have := hcell n.toNat r j q hr hj ad rfl
          rw [← e4, hrl] at this
          rw [Nat.add_assoc]
          exact this) (fun j q hj => hrel n.toNat r j q hr hj)
  · rename_i id ver off m e1
    obtain ⟨hn, hm, h⟩ := h
    split at h
    · rename_i sz' ver' rs hid
      obtain ⟨rfl, rfl, hK⟩ := h
      rw [e1] at h1
      generalize hv : a.eval x = v at h1
      obtain ⟨q1, q2, q3⟩ := hR.mem.obj id _ hid
      cases h1 with
      | gsDead _ _ _ _ _ _ hdead => rcases q1 with ⟨q1, _⟩ | ⟨b, tot, ty, vs, q1, _⟩ <;> (rw [hdead] at q1; cases q1)
      | gsNil => omega
      | gs _ _ _ _ b sz tot o' cap hat hnc hmm hcap ho' h0' =>
        rcases q1 with ⟨q1, _⟩ | ⟨b', tot', ty, vs, q1, _⟩
        · rw [hat] at q1; cases q1
        · rw [hat] at q1
          cases q1
          refine end_same hR hd hk (run _ _ cap hv hn hm) ?_ hK
          rw [Addr.add_lit, ho' (by omega), ← Nat.add_mul]
          exact .ep id _ (off + n.toNat) 0 b _ tot hat
    · exact h.elim
  · exact h.elim
theorem ok_ixa {t e:TypeId} {len sz:Nat} {x i:Operand} {mx mi:MA} (ho:o.op=.indexAddr t x i) (ht:P.underlying t=some (.array len e)) (hsz:sizeT P e=some sz) (hx:cArg lv x=some mx) (hi:cArg lv i=some mi)
  (hd:o.dst.all (decide <| ·<N)=true) (h:ixaK len sz (st.get mx) (st.get mi) (cDst lv o.dst) K st):OpOk lv P N o st K:=by
 intro a w θ W next Q hR hk
 have h1:=hR.arg hx
 have h2:=hR.arg hi
 obtain ⟨inf,hinf,hisz⟩:=sizeT_inv hsz
 unfold ixaK at h
 split at h
 case h_2=>exact h.elim
 case h_1 k n e2 =>
 rw [e2] at h2
 have e3:=h2.i_inv
 split at h
 ·rename_i id off e1
  obtain ⟨hn,hm,hK⟩:=h
  have run:∀ (ad:Addr),a.eval x=.pointer (some ad)->(execOp a.eval o).run P w=.ok (.value (.pointer (some (ad.add (n.toNat * sz))))) w:=by
   intro ad e
   simp [execOp,ho,Instr.indexAt,Instr.sureAddr,e,e3,asIntOf,run_underlying ht,hn,hm,sizeOf,typeInfo,hinf,hisz]
  rw [e1] at h1
  generalize hv:a.eval x=v at h1
  cases h1 with
  | ptr _ _ b s tot hat=>exact end_same hR hd hk (run _ hv) (by rw [Addr.add_lit]; exact .ptr _ _ b s tot hat) hK
  | ptrDead _ _ ad hat=>exact end_same hR hd hk (run _ hv) (.ptrDead _ _ _ hat) hK
 ·exact h.elim
theorem ok_ixt {t:TypeId} {x i:Operand} {mx mi:MA} (ho:o.op=.index t x i) (ht:P.underlying t=some .string) (hx:cArg lv x=some mx) (hi:cArg lv i=some mi)
  (hd:o.dst.all (decide <| ·<N)=true) (h:ixtK (st.get mx) (st.get mi) (cDst lv o.dst) K st):OpOk lv P N o st K:=by
 intro a w θ W next Q hR hk
 have h1:=hR.arg hx
 have h2:=hR.arg hi
 unfold ixtK at h
 split at h
 case h_2=>exact h.elim
 case h_1 k n e2 =>
 rw [e2] at h2
 have e3:=h2.i_inv
 split at h
 ·rename_i y e1
  obtain ⟨hn,c,hc,hK⟩:=h
  rw [e1] at h1
  obtain ⟨e4,_⟩:=h1.s_inv
  refine end_same hR hd hk (v:=.int .u8 c.toNat) ?_ (.p _ _ (.i _ _)) hK
  have:(ByteArray.mk y.toArray)[n.toNat]?=some c:=by
   have hlt:n.toNat<y.length:=by
    rcases Nat.lt_or_ge n.toNat y.length with h' | h'
    ·exact h'
    ·rw [List.getElem?_eq_none h'] at hc; cases hc
   have hsz:n.toNat<(ByteArray.mk y.toArray).size:=by show n.toNat<y.toArray.size; simpa using hlt
   rw [getElem?_pos (ByteArray.mk y.toArray) n.toNat hsz]
   rw [List.getElem?_eq_getElem hlt] at hc
   cases hc
   rfl
  simp [execOp,ho,Instr.index,e3,e4,asIntOf,run_underlying ht,hn,this]
 ·exact h.elim
theorem ok_ext {x : Operand} {n : Nat} {m : MA} (ho : o.op = .extract x n) (hx : cArg lv x = some m)
    (hd : o.dst.all (decide <| · < N) = true) (h : withV (extV n (st.get m)) (cDst lv o.dst) K st) : OpOk lv P N o st K := by
  intro a w θ W next Q hR hk
  have h1 := hR.arg hx
  obtain ⟨v, hv, hK⟩ := withV_inv h
  unfold extV at hv
  split at hv
  · rename_i vs e
    rw [e] at h1
    generalize hu : a.eval x = u at h1
    cases h1 with
    | tup _ us hs hc =>
      have hlt : n < us.size := by
        rcases Nat.lt_or_ge n vs.length with h' | h'
        · omega
        · rw [List.getElem?_eq_none h'] at hv; cases hv
      refine end_same hR hd hk (v := us[n]) ?_ (hc n _ _ hv (by simp [hlt])) hK
      simp [execOp, ho, hu, Instr.extract, hlt]
  · cases hv
theorem ok_mkf {f:FuncId} {first caps:Array Operand} {ms:List MA} (ho:o.op=.makeFunc (.func f) first caps) (hf:first=#[]) (hc:cArgs lv caps.toList=some ms)
  (hd:o.dst.all (decide <| ·<N)=true) (h:K (st.put (cDst lv o.dst) (.clo f (gets st ms)))):OpOk lv P N o st K:=by
 intro a w θ W next Q hR hk
 obtain ⟨h1,h2⟩:=hR.args hc
 subst hf
 refine end_same hR hd hk (v:=.func (.func f) #[] (caps.map a.eval)) ?_ ?_ h
 ·simp [execOp,ho,Instr.makeFunc]
 ·have e:caps.map a.eval=(caps.toList.map a.eval).toArray:=by apply Array.ext'; simp
  rw [e]
  exact .clo f _ _ h1 h2
theorem ok_fld {s : TypeId} {f off n : Nat} {t : TypeId} {g : Bool} {x : Operand} {m : MA} (ho : o.op = .field s x f) (hx : cArg lv x = some m) (hf : fieldOf P s f = some (off, t, n)) (hg : aggT P t = some g)
    (hd : o.dst.all (decide <| · < N) = true) (h : withV (fldV g off n (st.get m)) (cDst lv o.dst) K st) : OpOk lv P N o st K := by
  intro a w θ W next Q hR hk
  have h1 := hR.arg hx
  obtain ⟨v, hv, hK⟩ := withV_inv h
  unfold fldV at hv
  split at hv
  · rename_i cs e
    rw [e] at h1
    generalize hu : a.eval x = u at h1
    cases h1 with
    | st _ vs hs hc h1c =>
      unfold fieldOf at hf
      split at hf
      · rename_i fs hfs
        split at hf
        · rename_i fd hfd
          cases hz : sizeT P fd.type with
          | none => rw [hz] at hf; cases hf
          | some n' =>
            rw [hz] at hf
            cases hf
            obtain ⟨i, hi, rfl⟩ := sizeT_inv hz
            have hag : ∃ d, P.underlying fd.type = some d ∧ (isAgg fd.type).run P w = .ok g w := by
              unfold aggT at hg
              split at hg
              · rename_i fs' e'; cases hg; exact ⟨_, e', by simp [isAgg, run_underlying e']⟩
              · rename_i k e' e''; cases hg; exact ⟨_, e'', by simp [isAgg, run_underlying e'']⟩
              · rename_i d n1 n2 e'
                cases hg
                refine ⟨d, e', ?_⟩
                simp only [isAgg, Sem.run_bind, run_underlying e', Result.andThen_ok]
                cases d <;> first | rfl | (exact (n1 _ rfl).elim) | (exact (n2 _ _ rfl).elim)
              · cases hg
            obtain ⟨d, hd', hrun⟩ := hag
            cases g with
            | false =>
              simp only [ldV, Bool.false_eq_true, if_false] at hv
              have hcell : cs[fd.offset]? = some v := by
                rw [List.head?_drop] at hv
                exact hv
              have hlt : fd.offset < vs.size := by
                rcases Nat.lt_or_ge fd.offset cs.length with h' | h'
                · omega
                · rw [List.getElem?_eq_none h'] at hcell; cases hcell
              refine end_same hR hd hk (v := vs[fd.offset]) ?_ (hc _ _ _ hcell (by simp [hlt])) hK
              simp [execOp, ho, hu, Instr.field, run_underlying hfs, hfd, asAgg, part, hrun, hlt]
            | true =>
              simp only [ldV, if_true] at hv
              cases hus : takeN i.size (cs.drop fd.offset) with
              | none => rw [hus] at hv; cases hv
              | some us =>
                rw [hus] at hv
                cases hv
                obtain ⟨l1, l2⟩ := takeN_len hus
                have hlast : us.length = 0 ∨ fd.offset + us.length ≤ cs.length := by
                  rcases Nat.eq_zero_or_pos us.length with h' | h'
                  · exact .inl h'
                  · have : us[us.length - 1]? = some us[us.length - 1] := by simp [h']
                    have := l2 _ _ this
                    simp only [List.getElem?_drop] at this
                    rcases Nat.lt_or_ge (fd.offset + (us.length - 1)) cs.length with h'' | h''
                    · exact .inr (by omega)
                    · rw [List.getElem?_eq_none h''] at this; cases this
                refine end_same hR hd hk (v := .agg (vs.extract fd.offset (fd.offset + i.size))) ?_ (.st us _ ?_ ?_ ?_) hK
                · simp [execOp, ho, hu, Instr.field, run_underlying hfs, hfd, asAgg, part, hrun, sizeOf, typeInfo, hi]
                · simp only [Array.size_extract]; omega
                · intro j c u hj hu'
                  have := l2 j c hj
                  simp only [List.getElem?_drop] at this
                  simp only [Array.getElem?_extract] at hu'
                  split at hu'
                  · exact hc _ _ _ this hu'
                  · cases hu'
                · intro j u hu'
                  simp only [Array.getElem?_extract] at hu'
                  split at hu'
                  · exact h1c _ _ hu'
                  · cases hu'
        · cases hf
      · cases hf
  · cases hv
theorem ok_mnx {c:Call} {mx:Bool} {x y:Operand} {m1 m2:MA} (ho:o.op=.call c) (hc:c.callee=.builtin (if mx then .max else .min)) (hargs:c.args=#[x,y]) (hx:cArg lv x=some m1) (hy:cArg lv y=some m2)
  (hd:o.dst.all (decide <| ·<N)=true) (h:withV (mnxV mx (st.get m1) (st.get m2)) (cDst lv o.dst) K st):OpOk lv P N o st K:=by
 intro a w θ W next Q hR hk
 have h1:=hR.arg hx
 have h2:=hR.arg hy
 obtain ⟨v,hv,hK⟩:=withV_inv h
 unfold mnxV at hv
 split at hv
 ·rename_i k p k' q e1 e2
  split at hv
  ·rename_i e; subst e
   cases hv
   rw [e1] at h1; rw [e2] at h2
   have e3:=h1.i_inv
   have e4:=h2.i_inv
   cases mx
   ·refine end_same hR hd hk (v:=.int k (if q<p then q else p)) ?_ (.p _ _ (.i _ _)) hK
    simp [execOp,ho,resolve,hc,hargs,invoke,builtin,Builtin.min_,Builtin.min2,e3,e4]
   ·refine end_same hR hd hk (v:=.int k (if q > p then q else p)) ?_ (.p _ _ (.i _ _)) hK
    simp [execOp,ho,resolve,hc,hargs,invoke,builtin,Builtin.max_,Builtin.max2,e3,e4]
  ·cases hv
 ·cases hv
theorem run_callFunc {f:Nat} (hf:HasBody P f) (args:Array Value) (w:World):(callFunc f args).run P w=.ok (.enter f args) w:=by
 obtain ⟨fn,h1,h2,h3⟩:=hf
 have h4:fn.body.isNone=false:=by cases hb:fn.body <;> simp_all
 have h5:¬ fn.name= "runtime.NumGoroutine":=by simpa using h3
 have h6:¬ fn.body=none:=fun e=>by rw [e] at h4; cases h4
 simp [callFunc,h1,h5,h6]
theorem end_call {f:Nat} {args:List AV} {vs:Array Value} {a:Act} {w:World} {next:Act->World->Prop} {Q:Exit->Act->World->Prop} (hR:Rl lv N st a w θ W)
  (hd:o.dst.all (decide <| ·<N)=true) (hk:∀ st' a' w' θ' W',K st'->Rl lv N st' a' w' θ' W'->Stp θ W w θ' W' w'->next a' w')
  (hrun:(execOp a.eval o).run P w=.ok (.enter f vs) w) (hargs:Rels θ W args vs) (h:ACall P f args st.H (callK (cDst lv o.dst) K st)):o.wp P a w next Q:=by
 unfold Oper.wp
 rw [hrun]
 refine (h.2 w θ W vs hR.mem hargs).mono ?_
 rintro e w' ⟨v,r,H',θ',W',rfl,hK,hm,hr,hs⟩
 exact hk _ _ _ _ _ hK (hR.put hd hr hm hs) hs
theorem ok_call {c:Call} {f:FuncId} {ms:List MA} (ho:o.op=.call c) (hc:c.callee=.value (.func f)) (hargs:cArgs lv c.args.toList=some ms)
  (hd:o.dst.all (decide <| ·<N)=true) (h:ACall P f (gets st ms) st.H (callK (cDst lv o.dst) K st)):OpOk lv P N o st K:=by
 intro a w θ W next Q hR hk
 refine end_call hR hd hk (vs:=(c.args.toList.map a.eval).toArray) ?_ (hR.args hargs) h
 have e:c.args.map a.eval=(c.args.toList.map a.eval).toArray:=by apply Array.ext'; simp
 simp [execOp,ho,resolve,hc,Act.eval,Deferred.ofValue,invoke,run_callFunc h.1]
 exact e
theorem ok_calv {c : Call} {t : Tmp} {ms : List MA} (ho : o.op = .call c) (hc : c.callee = .value (.tmp t)) (hargs : cArgs lv c.args.toList = some ms)
    (hd : o.dst.all (decide <| · < N) = true) (h : calvK (ACall P) (st.get (cTmp lv t)) (gets st ms) (cDst lv o.dst) K st) : OpOk lv P N o st K := by
  intro a w θ W next Q hR hk
  have h1 := hR.tmpArg t
  unfold calvK at h
  split at h
  · rename_i f caps e
    rw [e] at h1
    generalize hu : a.eval (.tmp t) = u at h1
    cases h1 with
    | clo _ _ vs hs hcc =>
      obtain ⟨r1, r2⟩ := hR.args hargs
      refine end_call hR hd hk (vs := (c.args.toList.map a.eval).toArray ++ vs) ?_ ?_ h
      · have e : c.args.map a.eval = (c.args.toList.map a.eval).toArray := by apply Array.ext'; simp
        simp [execOp, ho, resolve, hc, hu, Deferred.ofValue, invoke, run_callFunc h.1]
        rw [e]
      · refine ⟨by simp at r1 ⊢; omega, fun j c' v hj hv => ?_⟩
        rcases Nat.lt_or_ge j (gets st ms).length with hlt | hge
        · rw [List.getElem?_append_left hlt] at hj
          rw [Array.getElem?_append_left (by omega)] at hv
          exact r2 j c' v hj hv
        · rw [List.getElem?_append_right hge] at hj
          rw [Array.getElem?_append_right (by omega), r1] at hv
          exact hcc _ _ _ hj hv
  · exact h.elim
end Go.AM
