/- Texts NxC NxD NxE NxF, merged. -/
import Derived.Test.YtmbggdfceecojaaKnB
import Derived.Shelf.Sort.Plain
import Derived.Shelf.Slices.In.SortNone
import Derived.Shelf.Slices.CompactI
import Derived.Sort.Grow
/- The library's sort and compaction of a slice that is owned: the kit's contracts, at this program. -/
set_option linter.all false
namespace Go.Proofs.Ytmbggdfceecojaa.Cd
open Go.AM Go.Shelf Mc

def rhoSort : Ren := ⟨fun x => match x with | 189 => 125 | 125 => 161 | 257 => 160 | 128 => 212 | 129 => 213 | 294 => 203 | 295 => 204 | 296 => 205 | 297 => 206 | 298 => 207 | 299 => 208 | 216 => 209 | 300 => 210 | 301 => 211 | 328 => 229 | 329 => 230 | 330 => 231 | 331 => 232 | 332 => 233 | 215 => 234 | 343 => 239 | n => n,
  fun x => match x with | 28 => 22 | 46 => 165 | 51 => 241 | 53 => 164 | 183 => 233 | 182 => 232 | 131 => 238 | 218 => 254 | 222 => 258 | 228 => 262 | 229 => 23 | n => n, fun n => n⟩
theorem laysSort : Lays.n189 Try.prog rhoSort where
  mixed := by kernel_rfl
  f125 := Eq.trans Try.func161 (by kernel_rfl)
  f128 := Eq.trans Try.func212 (by kernel_rfl)
  f129 := Eq.trans Try.func213 (by kernel_rfl)
  f189 := Eq.trans Try.func125 (by kernel_rfl)
  f215 := Eq.trans Try.func234 (by kernel_rfl)
  f216 := Eq.trans Try.func209 (by kernel_rfl)
  f257 := Eq.trans Try.func160 (by kernel_rfl)
  f294 := Eq.trans Try.func203 (by kernel_rfl)
  f295 := Eq.trans Try.func204 (by kernel_rfl)
  f296 := Eq.trans Try.func205 (by kernel_rfl)
  f297 := Eq.trans Try.func206 (by kernel_rfl)
  f298 := Eq.trans Try.func207 (by kernel_rfl)
  f299 := Eq.trans Try.func208 (by kernel_rfl)
  f300 := Eq.trans Try.func210 (by kernel_rfl)
  f301 := Eq.trans Try.func211 (by kernel_rfl)
  f328 := Eq.trans Try.func229 (by kernel_rfl)
  f329 := Eq.trans Try.func230 (by kernel_rfl)
  f330 := Eq.trans Try.func231 (by kernel_rfl)
  f331 := Eq.trans Try.func232 (by kernel_rfl)
  f332 := Eq.trans Try.func233 (by kernel_rfl)
  f343 := Eq.trans Try.func239 (by kernel_rfl)
  t0 := Try.underlying0
  a0 := Try.isAgg0
  z0 := Try.sizeOf0
  v0 := Try.zeroValue0
  t3 := Try.underlying3
  a3 := Try.isAgg3
  z3 := Try.sizeOf3
  v3 := Try.zeroValue3
  t4 := Try.underlying4
  a4 := Try.isAgg4
  z4 := Try.sizeOf4
  v4 := Try.zeroValue4
  t5 := Try.underlying5
  a5 := Try.isAgg5
  z5 := Try.sizeOf5
  v5 := Try.zeroValue5
  t9 := Try.underlying9
  a9 := Try.isAgg9
  z9 := Try.sizeOf9
  v9 := Try.zeroValue9
  t28 := Try.underlying22
  a28 := Try.isAgg22
  z28 := Try.sizeOf22
  v28 := Try.zeroValue22
  t46 := Try.underlying165
  a46 := Try.isAgg165
  z46 := Try.sizeOf165
  v46 := Try.zeroValue165
  t51 := Try.underlying241
  a51 := Try.isAgg241
  z51 := Try.sizeOf241
  v51 := Try.zeroValue241
  t53 := Try.underlying164
  a53 := Try.isAgg164
  z53 := Try.sizeOf164
  v53 := Try.zeroValue164
  t131 := Try.underlying238
  a131 := Try.isAgg238
  z131 := Try.sizeOf238
  v131 := Try.zeroValue238
  t182 := Try.underlying232
  a182 := Try.isAgg232
  z182 := Try.sizeOf232
  v182 := Try.zeroValue232
  t183 := Try.underlying233
  a183 := Try.isAgg233
  z183 := Try.sizeOf233
  v183 := Try.zeroValue233
  t218 := Try.underlying254
  a218 := Try.isAgg254
  z218 := Try.sizeOf254
  v218 := Try.zeroValue254
  t222 := Try.underlying258
  a222 := Try.isAgg258
  z222 := Try.sizeOf258
  v222 := Try.zeroValue258
  t228 := Try.underlying262
  a228 := Try.isAgg262
  z228 := Try.sizeOf262
  v228 := Try.zeroValue262
  t229 := Try.underlying23
  a229 := Try.isAgg23
  z229 := Try.sizeOf23
  v229 := Try.zeroValue23

def rhoComp : Ren := ⟨fun x => match x with | 20 => 126 | n => n, fun n => n, fun n => n⟩
theorem laysComp : Lays2.n20 Try.prog rhoComp where
  mixed := by kernel_rfl
  f20 := Eq.trans Try.func126 (by kernel_rfl)
  t0 := Try.underlying0
  a0 := Try.isAgg0
  z0 := Try.sizeOf0
  v0 := Try.zeroValue0
  t3 := Try.underlying3
  a3 := Try.isAgg3
  z3 := Try.sizeOf3
  v3 := Try.zeroValue3
  t4 := Try.underlying4
  a4 := Try.isAgg4
  z4 := Try.sizeOf4
  v4 := Try.zeroValue4
  t22 := Try.underlying22
  a22 := Try.isAgg22
  z22 := Try.sizeOf22
  v22 := Try.zeroValue22
  i3 := by kernel_rfl

/-- the world with more blocks behind -/
theorem sr_grown {θ : Th} {W : Im} {H : List AO} {w : World} (h : SR θ W H w) (os : Array Obj) : SR θ W H (Sort.grow w os) ∧ Stp θ W w θ W (Sort.grow w os) := by
  have hold : ∀ k, k < w.heap.size → (Sort.grow w os).heap[k]? = w.heap[k]? := fun k hk => by
    show (w.heap ++ os)[k]? = _
    rw [Array.getElem?_append_left hk]
  refine ⟨⟨?_, ?_, h.out, h.own, h.inj⟩, ⟨rfl, rfl, rfl, ?_, fun k hk _ => hold k hk, fun _ _ _ h => h, fun _ _ _ _ => rfl, fun _ _ _ => .inl rfl, fun _ h => .inl h⟩⟩
  · intro b o v hv
    rw [← h.imm b o v hv]
    exact World.cell?_of_block (hold b (h.lt hv))
  · intro i o hi
    exact (h.obj i o hi).mono (fun _ => rfl) (fun v k s t hk => hold k (h.ownedLt hk)) (fun _ _ h => h)
  · show w.heap.size ≤ (w.heap ++ os).size
    simp

def rowI (zs : List Int) : List (List AV) := zs.map fun z => [.p (.i .i64 z)]

/-- a call that writes the numbers of one slice anew -/
theorem acall_row {P : Program} {f id ver : Nat} {H : List AO} {zs news : List Int} {r : AV} {rv : Nat → Nat → Value} (hb : HasBody P f) (hid : H[id]? = some (.rows 1 ver (rowI zs))) (hne : 0 < zs.length) (hlen : news.length = zs.length)
    (hc : ∀ blk cap w, Sort.Holds (Value.int .i64) w blk 0 zs.toArray → blk < w.heap.size → zs.length ≤ cap → Calls P f #[.slice (some ⟨blk, 0, none⟩) zs.length cap] w fun e w' => e = .returned (rv blk cap) ∧ ∃ q os, w' = Sort.grow (Sort.putRow (Value.int .i64) (Sort.ahead w q) blk 0 news.toArray) os)
    (hr : ∀ θ W blk cap, θ id ver = .at blk 1 cap → zs.length ≤ cap → zs.length ≤ maxL → ARel θ W r (rv blk cap)) :
    ACall P f [.gs id ver 0 zs.length] H (pureQ r (H.set id (.rows 1 ver (rowI news)))) := by
  refine ⟨hb, fun w θ W vs hSR hrel => ?_⟩
  obtain ⟨hr1, hr2⟩ := hrel
  have hlt := get_lt hid
  have hob := hSR.obj id _ hid
  obtain ⟨hob1, hob2, hob3⟩ := hob
  rcases hob1 with ⟨_, he⟩ | ⟨b, tot, ty, cs, hth, hheap, hsz, hle, hrl, hcell, hone⟩
  · have : (rowI zs).length = 0 := by rw [he]; rfl
    rw [rowI, List.length_map] at this; omega
  have key : ∀ (n : Nat) (a : Value), 0 < n → ARel θ W (.gs id ver 0 n) a → ∃ cap, a = .slice (some ⟨b, 0, none⟩) n cap ∧ n ≤ cap ∧ n ≤ maxL ∧ cap = tot := by
    intro n a hn0 ha
    cases ha with
    | gsDead _ _ _ _ _ _ h0 => rw [hth] at h0; cases h0
    | gsNil _ _ h0 => rw [hth] at h0; cases h0
    | gs _ _ _ _ b' sz' tot' o cap h0 hn hm hcp ho h00 =>
      rw [hth] at h0; cases h0
      have : o = 0 := h00 rfl
      subst this
      exact ⟨cap, rfl, hn, hm, by omega⟩
  have hv : ∃ cap, vs = #[.slice (some ⟨b, 0, none⟩) zs.length cap] ∧ zs.length ≤ cap ∧ zs.length ≤ maxL ∧ cap = tot := by
    have hs : vs.toList.length = 1 := by simpa using hr1
    match hl : vs.toList, hs with
    | [a], _ =>
      obtain ⟨cap, rfl, h1, h2, h3⟩ := key _ a hne (hr2 0 _ a rfl (by rw [← Array.getElem?_toList, hl]; rfl))
      exact ⟨cap, by rw [← Array.toList_inj]; exact hl, h1, h2, h3⟩
  obtain ⟨cap, rfl, hcap, hmax, rfl⟩ := hv
  have hzl : (rowI zs).length = zs.length := by simp [rowI]
  have hcs : ∀ j, j < zs.length → cs[j]? = some (.int .i64 (zs.getD j 0)) := by
    intro j hj
    have hjs : j < cs.size := by rw [hsz]; omega
    have h1 := hcell j [.p (.i .i64 (zs.getD j 0))] 0 (.p (.i .i64 (zs.getD j 0))) (cs[j]) (by simp [rowI, hj]) rfl (by rw [Nat.mul_one, Nat.add_zero]; simp [hjs])
    rw [← h1.i_inv]
    simp [hjs]
  have hH : Sort.Holds (Value.int .i64) w b 0 zs.toArray := by
    intro j hj
    have hj' : j < zs.length := by simpa using hj
    refine ⟨?_, ?_⟩
    · rw [Nat.zero_add]
      have e : zs.toArray[j]! = zs.getD j 0 := by simp [getElem!_pos, hj']
      rw [e, ← hcs j hj']
      simp [World.cell?, hheap]
    · simp [World.frozen?, hheap]
  have hblk : b < w.heap.size := by
    have := hSR.ownedLt hth; exact this
  refine (hc b cap w hH hblk hcap).mono ?_
  rintro e w' ⟨rfl, q, os, rfl⟩
  have hSR1 : SR θ W H (Sort.ahead w q) := hSR.drawn _
  have hheap1 : (Sort.putRow (Value.int .i64) (Sort.ahead w q) b 0 news.toArray).heap[b]? = some (.cells (Sort.putCells (Value.int .i64) 0 news.toArray cs) ty (0, 0)) := by
    show ((w.heap.modify b _))[b]? = _
    rw [Array.getElem?_modify, if_pos rfl, hheap]; rfl
  have hpc : ∀ j, (Sort.putCells (Value.int .i64) 0 news.toArray cs)[j]? = if j < news.length then (cs[j]?).map fun _ => .int .i64 (news.getD j 0) else cs[j]? := by
    intro j
    unfold Sort.putCells
    rw [Array.getElem?_mapIdx]
    by_cases h : j < news.length
    · rw [if_pos h]
      cases hcj : cs[j]? with
      | none => rfl
      | some v =>
        simp [h, getElem!_pos]
    · rw [if_neg h]
      cases hcj : cs[j]? with
      | none => rfl
      | some v => simp [h]
  have hnl : (rowI news).length = zs.length := by simp [rowI, hlen]
  have hw1 := hSR1.write (w' := Sort.putRow (Value.int .i64) (Sort.ahead w q) b 0 news.toArray) id ver b 1 cap (.rows 1 ver (rowI news)) hlt hth rfl rfl rfl (by show (w.heap.modify b _).size = _; simp) (by
    intro k hk
    show (w.heap.modify b _)[k]? = _
    rw [Array.getElem?_modify, if_neg (fun e => hk e.symm)]; rfl) ⟨.inr ⟨b, cap, ty, _, hth, hheap1, ?_, by rw [hnl]; exact hcap, ?_, ?_, ?_⟩, hob2, hob3⟩
  · obtain ⟨hSR2, hSt2⟩ := hw1
    obtain ⟨hSR3, hSt3⟩ := sr_grown hSR2 os
    have hSt1 : Stp θ W w θ W (Sort.ahead w q) := ⟨rfl, rfl, rfl, Nat.le_refl _, fun _ _ _ => rfl, fun _ _ _ h => h, fun _ _ _ _ => rfl, fun _ _ _ => .inl rfl, fun _ h => .inl h⟩
    exact ⟨_, r, _, θ, W, rfl, ⟨rfl, rfl⟩, hSR3, hr θ W b cap hth hcap hmax, (hSt1.trans hSt2).trans hSt3⟩
  · simp [Sort.putCells, hsz]
  · intro r' hr'
    obtain ⟨z, _, rfl⟩ := List.mem_map.1 hr'
    rfl
  · intro i r' j c v h1 h2 h3
    rw [rowI, List.getElem?_map] at h1
    cases hz : news[i]? with
    | none => rw [hz] at h1; cases h1
    | some z =>
      rw [hz] at h1; cases h1
      cases j with
      | succ j => simp at h2
      | zero =>
        cases h2
        rw [Nat.mul_one, Nat.add_zero, hpc] at h3
        have hi : i < news.length := (List.getElem?_eq_some_iff.1 hz).1
        rw [if_pos hi, hcs i (by omega)] at h3
        have e : news.getD i 0 = z := by rw [List.getD_eq_getElem?_getD, hz]; rfl
        rw [e] at h3
        cases h3
        exact .p _ _ (.i _ _)
  · intro j v hv
    rw [hpc] at hv
    split at hv
    · cases hcj : cs[j]? with
      | none => rw [hcj] at hv; cases hv
      | some u => rw [hcj] at hv; cases hv; rfl
    · exact hone j v hv
end Go.Proofs.Ytmbggdfceecojaa.Cd

/- Next, by the program. -/
set_option linter.all false
namespace Go.Proofs.Ytmbggdfceecojaa.Cd
open Go.AM Go.Shelf Mc Ho

/-- slices.Sort of numbers that are owned -/
theorem sortRow {id ver : Nat} {H : List AO} {zs : List Int} (hid : H[id]? = some (.rows 1 ver (intR .i64 zs))) (hne : 0 < zs.length) (hl : zs.length ≤ 1000000) :
    ACall Try.prog 125 [.gs id ver 0 zs.length] H (pureQ (.tup []) (H.set id (.rows 1 ver (intR .i64 (zs.mergeSort fun x y => decide (x ≤ y)))))) := by
  refine acall_row (rv := fun _ _ => .tuple #[]) ⟨Try.f125, Try.func125, by kernel_rfl, by kernel_rfl⟩ hid hne (by simp) (fun blk cap w hH hb _ => ?_) (fun θ W blk cap _ _ _ => .tup [] #[] rfl fun j c v h => by simp at h)
  exact Any.slices_Sort_int laysSort blk 0 cap zs w hH hb (by omega)
theorem compRow {id ver : Nat} {H : List AO} {zs : List Int} (hid : H[id]? = some (.rows 1 ver (intR .i64 zs))) (hne : 0 < zs.length) (hl : zs.length ≤ 1000000) :
    ACall Try.prog 126 [.gs id ver 0 zs.length] H (pureQ (.gs id ver 0 (Lib.compact zs).length) (H.set id (.rows 1 ver (intR .i64 (Lib.compact zs ++ List.replicate (zs.length - (Lib.compact zs).length) 0))))) := by
  have hcl := Lib.compact_length_le zs
  refine acall_row (rv := fun blk cap => .slice (some ⟨blk, 0, none⟩) (Lib.compact zs).length cap) ⟨Try.f126, Try.func126, by kernel_rfl, by kernel_rfl⟩ hid hne (by simp; omega) (fun blk cap w hH hb hc => ?_) (fun θ W blk cap hth h1 h2 => .gs id ver 0 _ blk 1 cap 0 cap hth (by omega) (by omega) (by omega) (fun _ => by simp) (fun _ => rfl))
  refine (Any.slices_Compact_int laysComp blk 0 cap zs w hH (by omega) hc).mono ?_
  rintro e w' ⟨rfl, q, rfl⟩
  exact ⟨rfl, q, #[], by simp⟩

/-- no elements -/
theorem sortNone {H : List AO} : ACall Try.prog 125 [.p .nl] H (pureQ (.tup []) H) := by
  refine acall_kept ⟨Try.f125, Try.func125, by kernel_rfl, by kernel_rfl⟩ fun w θ W vs hr => ?_
  obtain ⟨h1, h2⟩ := hr
  have hs : vs.toList.length = 1 := by simpa using h1
  match hl : vs.toList, hs with
  | [a], _ =>
    have ha := h2 0 _ a rfl (by rw [← Array.getElem?_toList, hl]; rfl)
    have hva : vs = #[a] := by rw [← Array.toList_inj]; exact hl
    have ea : a = .slice none 0 0 := by cases ha with | p _ _ h => cases h; rfl
    subst hva; subst ea
    exact ⟨.tuple #[], .tup [], Any.slices_Sort_int_none laysSort none 0 w, ⟨rfl, rfl⟩, .tup [] #[] rfl fun j c v h => by simp at h⟩
theorem compNone {H : List AO} : ACall Try.prog 126 [.p .nl] H (pureQ (.p .nl) H) := by
  refine acall_kept ⟨Try.f126, Try.func126, by kernel_rfl, by kernel_rfl⟩ fun w θ W vs hr => ?_
  obtain ⟨h1, h2⟩ := hr
  have hs : vs.toList.length = 1 := by simpa using h1
  match hl : vs.toList, hs with
  | [a], _ =>
    have ha := h2 0 _ a rfl (by rw [← Array.getElem?_toList, hl]; rfl)
    have hva : vs = #[a] := by rw [← Array.toList_inj]; exact hl
    have ea : a = .slice none 0 0 := by cases ha with | p _ _ h => cases h; rfl
    subst hva; subst ea
    exact ⟨_, .p .nl, Any.slices_Compact_int_empty laysComp none 0 w, ⟨rfl, rfl⟩, ha⟩
theorem sl0 {θ : Th} {W : Im} {id ver n : Nat} {a : Value} (hn : n = 0) (ha : ARel θ W (.gs id ver 0 n) a) : ∃ p cap, a = .slice p 0 cap := by
  cases ha with
  | gsDead _ _ _ _ p cap h0 _ _ => exact ⟨p, cap, by rw [hn]⟩
  | gsNil _ _ h0 => exact ⟨none, 0, rfl⟩
  | gs _ _ _ _ b' sz' tot' o cap h0 hn' hm hcp ho h00 => exact ⟨_, _, by rw [hn]⟩
theorem sortZero {H : List AO} {id ver : Nat} : ACall Try.prog 125 [.gs id ver 0 0] H (pureQ (.tup []) H) := by
  refine acall_kept ⟨Try.f125, Try.func125, by kernel_rfl, by kernel_rfl⟩ fun w θ W vs hr => ?_
  obtain ⟨h1, h2⟩ := hr
  have hs : vs.toList.length = 1 := by simpa using h1
  match hl : vs.toList, hs with
  | [a], _ =>
    have ha := h2 0 _ a rfl (by rw [← Array.getElem?_toList, hl]; rfl)
    have hva : vs = #[a] := by rw [← Array.toList_inj]; exact hl
    obtain ⟨p, cap, ea⟩ := sl0 rfl ha
    subst hva; subst ea
    exact ⟨.tuple #[], .tup [], Any.slices_Sort_int_none laysSort p cap w, ⟨rfl, rfl⟩, .tup [] #[] rfl fun j c v h => by simp at h⟩
theorem compZero {H : List AO} {id ver : Nat} : ACall Try.prog 126 [.gs id ver 0 0] H (pureQ (.gs id ver 0 0) H) := by
  refine acall_kept ⟨Try.f126, Try.func126, by kernel_rfl, by kernel_rfl⟩ fun w θ W vs hr => ?_
  obtain ⟨h1, h2⟩ := hr
  have hs : vs.toList.length = 1 := by simpa using h1
  match hl : vs.toList, hs with
  | [a], _ =>
    have ha := h2 0 _ a rfl (by rw [← Array.getElem?_toList, hl]; rfl)
    have hva : vs = #[a] := by rw [← Array.toList_inj]; exact hl
    obtain ⟨p, cap, ea⟩ := sl0 rfl ha
    subst hva; subst ea
    exact ⟨_, .gs id ver 0 0, Any.slices_Compact_int_empty laysComp p cap w, ⟨rfl, rfl⟩, ha⟩

/-- numbers that lie at the front of what is owned -/
def OwnF (H : List AO) (a : AV) (zs : List Int) : Prop :=
  (a = .p .nl ∧ zs = []) ∨ ∃ id ver tl, a = .gs id ver 0 zs.length ∧ H[id]? = some (.rows 1 ver (intR .i64 (zs ++ tl)))

/-- sorted, and each once -/
theorem sortComp {a : AV} {H : List AO} {zs : List Int} (ha : OwnR H a 1 (intR .i64 zs)) (hl : zs.length ≤ 1000000) :
    ACall Try.prog 125 [a] H (fun r H1 => r = .tup [] ∧ ACall Try.prog 126 [a] H1 (fun r H' => OwnF H' r (canonD zs))) := by
  rcases ha with ⟨rfl, e⟩ | ⟨id, ver, rfl, hid⟩
  · have ez : zs = [] := by simpa [intR] using e
    subst ez
    refine sortNone.mono ?_
    rintro r H1 ⟨rfl, rfl⟩
    refine ⟨rfl, compNone.mono ?_⟩
    rintro r H' ⟨rfl, rfl⟩
    exact .inl ⟨rfl, canon_nil⟩
  · by_cases h0 : 0 < zs.length
    · rw [intR_len]
      refine (sortRow hid h0 hl).mono ?_
      rintro r H1 ⟨rfl, rfl⟩
      refine ⟨rfl, ?_⟩
      have hm : (zs.mergeSort fun x y => decide (x ≤ y)).length = zs.length := by simp
      have := compRow (id := id) (ver := ver) (H := H.set id (.rows 1 ver (intR .i64 (zs.mergeSort fun x y => decide (x ≤ y))))) (zs := zs.mergeSort fun x y => decide (x ≤ y)) (set_get hid) (by omega) (by omega)
      rw [hm] at this
      refine this.mono ?_
      rintro r H' ⟨rfl, rfl⟩
      exact .inr ⟨id, ver, _, rfl, set_get (set_get hid)⟩
    · have ez : zs = [] := List.length_eq_zero_iff.1 (by omega)
      subst ez
      refine sortZero.mono ?_
      rintro r H1 ⟨rfl, rfl⟩
      refine ⟨rfl, compZero.mono ?_⟩
      rintro r H' ⟨rfl, rfl⟩
      refine .inr ⟨id, ver, [], ?_, ?_⟩
      · rw [canon_nil]; rfl
      · rw [canon_nil]; exact hid
end Go.Proofs.Ytmbggdfceecojaa.Cd

/- Next, of both. -/
set_option linter.all false
namespace Go.Proofs.Ytmbggdfceecojaa.Cd
open Go.AM Mc Ho

def nextD (c : CodeD) (p : Int) : List Int :=
  if codeOk c = true ∧ inD p 0 ((c.ins.length : Int) - 1) = true then
    (if (insAt c p).op = 11 then canonD [p + 1, (insAt c p).n] else if (insAt c p).op = 12 then [(insAt c p).n] else if (insAt c p).op = 13 then canonD c.starts else if (insAt c p).op = 14 ∨ (insAt c p).op = 15 then [] else [p + 1])
  else []

theorem sSorted (zs : List Int) (hz : zs.length ≤ 1000000) {H : List AO} {a : AV} (ha : Lent H a (.p (.l (ints zs)))) : ACall Try.prog 123 [a] H (fun r H' => ∃ A, H' = H ++ A ∧ OwnAt H' r 1 (intR .i64 (canonD zs)) H.length H'.length) :=
  acall_ownAt (sSorted0 zs hz) (lentAll_cons ha (lentAll_nil _)) (grnd_intR _ _)

set_option maxHeartbeats 2000000 in
theorem specNext0 (c : CodeD) (hok : okCode c) (p : Int) : ACall Try.prog 64 [.st (c.cells.map .p), .p (.i .i64 p)] [] (fun r H => OwnR H r 1 (intR .i64 (nextD c p))) := by
  have hlm := hok.1.1
  refine call64 (by simp) ?_
  simp only [go_sem, Nat.reduceEqDiff, reduceIte, ↓reduceIte, Nat.reduceAdd, Z0, Z1, Z2, Z3, Z4, Z5, Nat.reduceLT, Z6, Z7, Int.reduceEq, Z8, Z9, Nat.reduceLeDiff, Za, Zb, Zc, Zd, Ze, Zf, bytesOf, Zg, Zh, Zi, Zj, Zk, Zl, Int.reduceLT, Int.reduceLE, Zm, Int.reduceToNat, Zn, Zo, Zp, Int.reduceAdd, Zq, Zr, mc64, mr64, CodeD.cells]
  refine acall_pure (specCodeOk_any c hok _) ?_
  cases h1 : codeOk c
  · simp only [go_sem, Nat.reduceEqDiff, reduceIte, ↓reduceIte, Nat.reduceAdd, Z0, Z1, Z2, Z3, Z4, Z5, Nat.reduceLT, Z6, Z7, Int.reduceEq, Z8, Z9, Nat.reduceLeDiff, Za, Zb, Zc, Zd, Ze, Zf, bytesOf, Zg, Zh, Zi, Zj, Zk, Zl, Int.reduceLT, Int.reduceLE, Zm, Int.reduceToNat, Zn, Zo, Zp, Int.reduceAdd, Zq, Zr, Bool.not_false]
    rw [nextD, if_neg (by simp [h1])]
    exact .inr ⟨1, 0, rfl, rfl⟩
  have hc := codeOk_facts h1
  have hle := hc.len
  have ew : wr .i64 ((c.ins.length : Int) - 1) = (c.ins.length : Int) - 1 := wr64 (by omega) (by omega)
  simp only [go_sem, Nat.reduceEqDiff, reduceIte, ↓reduceIte, Nat.reduceAdd, Z0, Z1, Z2, Z3, Z4, Z5, Nat.reduceLT, Z6, Z7, Int.reduceEq, Z8, Z9, Nat.reduceLeDiff, Za, Zb, Zc, Zd, Ze, Zf, bytesOf, Zg, Zh, Zi, Zj, Zk, Zl, Int.reduceLT, Int.reduceLE, Zm, Int.reduceToNat, Zn, Zo, Zp, Int.reduceAdd, Zq, Zr, Bool.not_true, inss_len]
  intro _
  simp only [go_sem, Nat.reduceEqDiff, reduceIte, ↓reduceIte, Nat.reduceAdd, Z0, Z1, Z2, Z3, Z4, Z5, Nat.reduceLT, Z6, Z7, Int.reduceEq, Z8, Z9, Nat.reduceLeDiff, Za, Zb, Zc, Zd, Ze, Zf, bytesOf, Zg, Zh, Zi, Zj, Zk, Zl, Int.reduceLT, Int.reduceLE, Zm, Int.reduceToNat, Zn, Zo, Zp, Int.reduceAdd, Zq, Zr, ew]
  refine acall_pure (l1In_p _ _ _ _) ?_
  cases h2 : inD p 0 ((c.ins.length : Int) - 1)
  · simp only [go_sem, Nat.reduceEqDiff, reduceIte, ↓reduceIte, Nat.reduceAdd, Z0, Z1, Z2, Z3, Z4, Z5, Nat.reduceLT, Z6, Z7, Int.reduceEq, Z8, Z9, Nat.reduceLeDiff, Za, Zb, Zc, Zd, Ze, Zf, bytesOf, Zg, Zh, Zi, Zj, Zk, Zl, Int.reduceLT, Int.reduceLE, Zm, Int.reduceToNat, Zn, Zo, Zp, Int.reduceAdd, Zq, Zr, Bool.not_false]
    rw [nextD, if_neg (by simp [h2])]
    exact .inr ⟨1, 0, rfl, rfl⟩
  have hp : 0 ≤ p ∧ p < c.ins.length := by
    simp only [inD, Bool.and_eq_true, decide_eq_true_eq] at h2; omega
  obtain ⟨p0, p1⟩ := hp
  have p1' : p < (c.ins.length : Int) := p1
  have hg : (inss c.ins)[p.toNat]? = some (insAt c p).cells := by rw [inss, List.getElem?_map, insAt_get p0 p1]; rfl
  have hx := hc.ins _ (insAt_mem p0 p1)
  have ewp : wr .i64 (p + 1) = p + 1 := wr64 (by omega) (by omega)
  have en : nextD c p = (if (insAt c p).op = 11 then canonD [p + 1, (insAt c p).n] else if (insAt c p).op = 12 then [(insAt c p).n] else if (insAt c p).op = 13 then canonD c.starts else if (insAt c p).op = 14 ∨ (insAt c p).op = 15 then [] else [p + 1]) := by rw [nextD, if_pos ⟨h1, h2⟩]
  rw [en]
  clear en
  generalize insAt c p = x at hg hx ⊢
  rw [InsD.cells] at hg
  simp only [go_sem, Nat.reduceEqDiff, reduceIte, ↓reduceIte, Nat.reduceAdd, Z0, Z1, Z2, Z3, Z4, Z5, Nat.reduceLT, Z6, Z7, Int.reduceEq, Z8, Z9, Nat.reduceLeDiff, Za, Zb, Zc, Zd, Ze, Zf, bytesOf, Zg, Zh, Zi, Zj, Zk, Zl, Int.reduceLT, Int.reduceLE, Zm, Int.reduceToNat, Zn, Zo, Zp, Int.reduceAdd, Zq, Zr, Bool.not_true, p0, hg, zl14_0]
  by_cases e1 : x.op = 11
  · have d1 : decide (x.op = 11) = true := by simp [e1]
    simp only [go_sem, Nat.reduceEqDiff, reduceIte, ↓reduceIte, Nat.reduceAdd, Z0, Z1, Z2, Z3, Z4, Z5, Nat.reduceLT, Z6, Z7, Int.reduceEq, Z8, Z9, Nat.reduceLeDiff, Za, Zb, Zc, Zd, Ze, Zf, bytesOf, Zg, Zh, Zi, Zj, Zk, Zl, Int.reduceLT, Int.reduceLE, Zm, Int.reduceToNat, Zn, Zo, Zp, Int.reduceAdd, Zq, Zr, d1, ewp]
    refine (sSorted [p + 1, x.n] (by simp) (ownZ_lent (a := .gs 2 0 0 2) (.inr ⟨2, 0, rfl, rfl⟩))).mono ?_
    rintro r H' ⟨A, rfl, hw⟩
    rw [if_pos e1]
    simp only [go_sem, Nat.reduceEqDiff, reduceIte, ↓reduceIte, Nat.reduceAdd, Z0, Z1, Z2, Z3, Z4, Z5, Nat.reduceLT, Z6, Z7, Int.reduceEq, Z8, Z9, Nat.reduceLeDiff, Za, Zb, Zc, Zd, Ze, Zf, bytesOf, Zg, Zh, Zi, Zj, Zk, Zl, Int.reduceLT, Int.reduceLE, Zm, Int.reduceToNat, Zn, Zo, Zp, Int.reduceAdd, Zq, Zr]
    exact hw.own
  have d1 : decide (x.op = 11) = false := by simp [e1]
  rw [if_neg e1]
  by_cases e2 : x.op = 12
  · have d2 : decide (x.op = 12) = true := by simp [e2]
    simp only [go_sem, Nat.reduceEqDiff, reduceIte, ↓reduceIte, Nat.reduceAdd, Z0, Z1, Z2, Z3, Z4, Z5, Nat.reduceLT, Z6, Z7, Int.reduceEq, Z8, Z9, Nat.reduceLeDiff, Za, Zb, Zc, Zd, Ze, Zf, bytesOf, Zg, Zh, Zi, Zj, Zk, Zl, Int.reduceLT, Int.reduceLE, Zm, Int.reduceToNat, Zn, Zo, Zp, Int.reduceAdd, Zq, Zr, d1, d2]
    rw [if_pos e2]
    exact .inr ⟨2, 0, rfl, rfl⟩
  have d2 : decide (x.op = 12) = false := by simp [e2]
  rw [if_neg e2]
  by_cases e3 : x.op = 13
  · have d3 : decide (x.op = 13) = true := by simp [e3]
    simp only [go_sem, Nat.reduceEqDiff, reduceIte, ↓reduceIte, Nat.reduceAdd, Z0, Z1, Z2, Z3, Z4, Z5, Nat.reduceLT, Z6, Z7, Int.reduceEq, Z8, Z9, Nat.reduceLeDiff, Za, Zb, Zc, Zd, Ze, Zf, bytesOf, Zg, Zh, Zi, Zj, Zk, Zl, Int.reduceLT, Int.reduceLE, Zm, Int.reduceToNat, Zn, Zo, Zp, Int.reduceAdd, Zq, Zr, d1, d2, d3]
    refine (sSorted c.starts (by have := hc.slen; omega) (.pure _)).mono ?_
    rintro r H' ⟨A, rfl, hw⟩
    rw [if_pos e3]
    simp only [go_sem, Nat.reduceEqDiff, reduceIte, ↓reduceIte, Nat.reduceAdd, Z0, Z1, Z2, Z3, Z4, Z5, Nat.reduceLT, Z6, Z7, Int.reduceEq, Z8, Z9, Nat.reduceLeDiff, Za, Zb, Zc, Zd, Ze, Zf, bytesOf, Zg, Zh, Zi, Zj, Zk, Zl, Int.reduceLT, Int.reduceLE, Zm, Int.reduceToNat, Zn, Zo, Zp, Int.reduceAdd, Zq, Zr]
    exact hw.own
  have d3 : decide (x.op = 13) = false := by simp [e3]
  rw [if_neg e3]
  by_cases e4 : x.op = 14
  · have d4 : decide (x.op = 14) = true := by simp [e4]
    simp only [go_sem, Nat.reduceEqDiff, reduceIte, ↓reduceIte, Nat.reduceAdd, Z0, Z1, Z2, Z3, Z4, Z5, Nat.reduceLT, Z6, Z7, Int.reduceEq, Z8, Z9, Nat.reduceLeDiff, Za, Zb, Zc, Zd, Ze, Zf, bytesOf, Zg, Zh, Zi, Zj, Zk, Zl, Int.reduceLT, Int.reduceLE, Zm, Int.reduceToNat, Zn, Zo, Zp, Int.reduceAdd, Zq, Zr, d1, d2, d3, d4]
    rw [if_pos (.inl e4)]
    exact .inr ⟨2, 0, rfl, rfl⟩
  have d4 : decide (x.op = 14) = false := by simp [e4]
  by_cases e5 : x.op = 15
  · have d5 : decide (x.op = 15) = true := by simp [e5]
    simp only [go_sem, Nat.reduceEqDiff, reduceIte, ↓reduceIte, Nat.reduceAdd, Z0, Z1, Z2, Z3, Z4, Z5, Nat.reduceLT, Z6, Z7, Int.reduceEq, Z8, Z9, Nat.reduceLeDiff, Za, Zb, Zc, Zd, Ze, Zf, bytesOf, Zg, Zh, Zi, Zj, Zk, Zl, Int.reduceLT, Int.reduceLE, Zm, Int.reduceToNat, Zn, Zo, Zp, Int.reduceAdd, Zq, Zr, d1, d2, d3, d4, d5]
    rw [if_pos (.inr e5)]
    exact .inr ⟨2, 0, rfl, rfl⟩
  have d5 : decide (x.op = 15) = false := by simp [e5]
  simp only [go_sem, Nat.reduceEqDiff, reduceIte, ↓reduceIte, Nat.reduceAdd, Z0, Z1, Z2, Z3, Z4, Z5, Nat.reduceLT, Z6, Z7, Int.reduceEq, Z8, Z9, Nat.reduceLeDiff, Za, Zb, Zc, Zd, Ze, Zf, bytesOf, Zg, Zh, Zi, Zj, Zk, Zl, Int.reduceLT, Int.reduceLE, Zm, Int.reduceToNat, Zn, Zo, Zp, Int.reduceAdd, Zq, Zr, d1, d2, d3, d4, d5, ewp]
  rw [if_neg (by omega)]
  exact .inr ⟨2, 0, rfl, rfl⟩

set_option maxHeartbeats 2000000 in
theorem implNext0 (c : CodeD) (hok : okCode c) (p : Int) : ACall Try.prog 65 [.st (c.cells.map .p), .p (.i .i64 p)] [] (fun r H => OwnF H r (nextD c p)) := by
  have hlm := hok.1.1
  refine call65 (by simp) ?_
  simp only [go_sem, Nat.reduceEqDiff, reduceIte, ↓reduceIte, Nat.reduceAdd, Z0, Z1, Z2, Z3, Z4, Z5, Nat.reduceLT, Z6, Z7, Int.reduceEq, Z8, Z9, Nat.reduceLeDiff, Za, Zb, Zc, Zd, Ze, Zf, bytesOf, Zg, Zh, Zi, Zj, Zk, Zl, Int.reduceLT, Int.reduceLE, Zm, Int.reduceToNat, Zn, Zo, Zp, Int.reduceAdd, Zq, Zr, mc65, mr65, CodeD.cells]
  refine acall_pure (implCodeOk_any c hok _) ?_
  cases h1 : codeOk c
  · simp only [go_sem, Nat.reduceEqDiff, reduceIte, ↓reduceIte, Nat.reduceAdd, Z0, Z1, Z2, Z3, Z4, Z5, Nat.reduceLT, Z6, Z7, Int.reduceEq, Z8, Z9, Nat.reduceLeDiff, Za, Zb, Zc, Zd, Ze, Zf, bytesOf, Zg, Zh, Zi, Zj, Zk, Zl, Int.reduceLT, Int.reduceLE, Zm, Int.reduceToNat, Zn, Zo, Zp, Int.reduceAdd, Zq, Zr, Bool.not_false]
    exact .inl ⟨rfl, by rw [nextD, if_neg (by simp [h1])]⟩
  have hc := codeOk_facts h1
  have hle := hc.len
  have hsl := hc.slen
  have ew : wr .i64 ((c.ins.length : Int) - 1) = (c.ins.length : Int) - 1 := wr64 (by omega) (by omega)
  simp only [go_sem, Nat.reduceEqDiff, reduceIte, ↓reduceIte, Nat.reduceAdd, Z0, Z1, Z2, Z3, Z4, Z5, Nat.reduceLT, Z6, Z7, Int.reduceEq, Z8, Z9, Nat.reduceLeDiff, Za, Zb, Zc, Zd, Ze, Zf, bytesOf, Zg, Zh, Zi, Zj, Zk, Zl, Int.reduceLT, Int.reduceLE, Zm, Int.reduceToNat, Zn, Zo, Zp, Int.reduceAdd, Zq, Zr, Bool.not_true, inss_len]
  intro _
  simp only [go_sem, Nat.reduceEqDiff, reduceIte, ↓reduceIte, Nat.reduceAdd, Z0, Z1, Z2, Z3, Z4, Z5, Nat.reduceLT, Z6, Z7, Int.reduceEq, Z8, Z9, Nat.reduceLeDiff, Za, Zb, Zc, Zd, Ze, Zf, bytesOf, Zg, Zh, Zi, Zj, Zk, Zl, Int.reduceLT, Int.reduceLE, Zm, Int.reduceToNat, Zn, Zo, Zp, Int.reduceAdd, Zq, Zr, ew]
  refine acall_pure (within_p _ _ _ _) ?_
  cases h2 : inD p 0 ((c.ins.length : Int) - 1)
  · simp only [go_sem, Nat.reduceEqDiff, reduceIte, ↓reduceIte, Nat.reduceAdd, Z0, Z1, Z2, Z3, Z4, Z5, Nat.reduceLT, Z6, Z7, Int.reduceEq, Z8, Z9, Nat.reduceLeDiff, Za, Zb, Zc, Zd, Ze, Zf, bytesOf, Zg, Zh, Zi, Zj, Zk, Zl, Int.reduceLT, Int.reduceLE, Zm, Int.reduceToNat, Zn, Zo, Zp, Int.reduceAdd, Zq, Zr, Bool.not_false]
    exact .inl ⟨rfl, by rw [nextD, if_neg (by simp [h2])]⟩
  have hp : 0 ≤ p ∧ p < c.ins.length := by
    simp only [inD, Bool.and_eq_true, decide_eq_true_eq] at h2; omega
  obtain ⟨p0, p1⟩ := hp
  have p1' : p < (c.ins.length : Int) := p1
  have hg : (inss c.ins)[p.toNat]? = some (insAt c p).cells := by rw [inss, List.getElem?_map, insAt_get p0 p1]; rfl
  have hx := hc.ins _ (insAt_mem p0 p1)
  have ewp : wr .i64 (p + 1) = p + 1 := wr64 (by omega) (by omega)
  have en : nextD c p = (if (insAt c p).op = 11 then canonD [p + 1, (insAt c p).n] else if (insAt c p).op = 12 then [(insAt c p).n] else if (insAt c p).op = 13 then canonD c.starts else if (insAt c p).op = 14 ∨ (insAt c p).op = 15 then [] else [p + 1]) := by rw [nextD, if_pos ⟨h1, h2⟩]
  rw [en]
  clear en
  generalize insAt c p = x at hg hx ⊢
  rw [InsD.cells] at hg
  simp only [go_sem, Nat.reduceEqDiff, reduceIte, ↓reduceIte, Nat.reduceAdd, Z0, Z1, Z2, Z3, Z4, Z5, Nat.reduceLT, Z6, Z7, Int.reduceEq, Z8, Z9, Nat.reduceLeDiff, Za, Zb, Zc, Zd, Ze, Zf, bytesOf, Zg, Zh, Zi, Zj, Zk, Zl, Int.reduceLT, Int.reduceLE, Zm, Int.reduceToNat, Zn, Zo, Zp, Int.reduceAdd, Zq, Zr, Bool.not_true, p0, hg, zl14_0]
  by_cases e1 : x.op = 11
  · have d1 : decide (x.op = 11) = true := by simp [e1]
    simp only [go_sem, Nat.reduceEqDiff, reduceIte, ↓reduceIte, Nat.reduceAdd, Z0, Z1, Z2, Z3, Z4, Z5, Nat.reduceLT, Z6, Z7, Int.reduceEq, Z8, Z9, Nat.reduceLeDiff, Za, Zb, Zc, Zd, Ze, Zf, bytesOf, Zg, Zh, Zi, Zj, Zk, Zl, Int.reduceLT, Int.reduceLE, Zm, Int.reduceToNat, Zn, Zo, Zp, Int.reduceAdd, Zq, Zr, d1, ewp]
    refine (sortComp (a := .gs 2 0 0 2) (zs := [p + 1, x.n]) (.inr ⟨2, 0, rfl, rfl⟩) (by simp)).mono ?_
    rintro r H1 ⟨rfl, hcp⟩
    simp only [go_sem, Nat.reduceEqDiff, reduceIte, ↓reduceIte, Nat.reduceAdd, Z0, Z1, Z2, Z3, Z4, Z5, Nat.reduceLT, Z6, Z7, Int.reduceEq, Z8, Z9, Nat.reduceLeDiff, Za, Zb, Zc, Zd, Ze, Zf, bytesOf, Zg, Zh, Zi, Zj, Zk, Zl, Int.reduceLT, Int.reduceLE, Zm, Int.reduceToNat, Zn, Zo, Zp, Int.reduceAdd, Zq, Zr]
    refine hcp.mono ?_
    rintro r H' hw
    rw [if_pos e1]
    simp only [go_sem, Nat.reduceEqDiff, reduceIte, ↓reduceIte, Nat.reduceAdd, Z0, Z1, Z2, Z3, Z4, Z5, Nat.reduceLT, Z6, Z7, Int.reduceEq, Z8, Z9, Nat.reduceLeDiff, Za, Zb, Zc, Zd, Ze, Zf, bytesOf, Zg, Zh, Zi, Zj, Zk, Zl, Int.reduceLT, Int.reduceLE, Zm, Int.reduceToNat, Zn, Zo, Zp, Int.reduceAdd, Zq, Zr]
    exact hw
  have d1 : decide (x.op = 11) = false := by simp [e1]
  rw [if_neg e1]
  by_cases e2 : x.op = 12
  · have d2 : decide (x.op = 12) = true := by simp [e2]
    simp only [go_sem, Nat.reduceEqDiff, reduceIte, ↓reduceIte, Nat.reduceAdd, Z0, Z1, Z2, Z3, Z4, Z5, Nat.reduceLT, Z6, Z7, Int.reduceEq, Z8, Z9, Nat.reduceLeDiff, Za, Zb, Zc, Zd, Ze, Zf, bytesOf, Zg, Zh, Zi, Zj, Zk, Zl, Int.reduceLT, Int.reduceLE, Zm, Int.reduceToNat, Zn, Zo, Zp, Int.reduceAdd, Zq, Zr, d1, d2]
    refine (sortComp (a := .gs 2 0 0 1) (zs := [x.n]) (.inr ⟨2, 0, rfl, rfl⟩) (by simp)).mono ?_
    rintro r H1 ⟨rfl, hcp⟩
    simp only [go_sem, Nat.reduceEqDiff, reduceIte, ↓reduceIte, Nat.reduceAdd, Z0, Z1, Z2, Z3, Z4, Z5, Nat.reduceLT, Z6, Z7, Int.reduceEq, Z8, Z9, Nat.reduceLeDiff, Za, Zb, Zc, Zd, Ze, Zf, bytesOf, Zg, Zh, Zi, Zj, Zk, Zl, Int.reduceLT, Int.reduceLE, Zm, Int.reduceToNat, Zn, Zo, Zp, Int.reduceAdd, Zq, Zr]
    refine hcp.mono ?_
    rintro r H' hw
    rw [if_pos e2]
    rw [canon_one] at hw
    simp only [go_sem, Nat.reduceEqDiff, reduceIte, ↓reduceIte, Nat.reduceAdd, Z0, Z1, Z2, Z3, Z4, Z5, Nat.reduceLT, Z6, Z7, Int.reduceEq, Z8, Z9, Nat.reduceLeDiff, Za, Zb, Zc, Zd, Ze, Zf, bytesOf, Zg, Zh, Zi, Zj, Zk, Zl, Int.reduceLT, Int.reduceLE, Zm, Int.reduceToNat, Zn, Zo, Zp, Int.reduceAdd, Zq, Zr]
    exact hw
  have d2 : decide (x.op = 12) = false := by simp [e2]
  rw [if_neg e2]
  by_cases e3 : x.op = 13
  · have d3 : decide (x.op = 13) = true := by simp [e3]
    simp only [go_sem, Nat.reduceEqDiff, reduceIte, ↓reduceIte, Nat.reduceAdd, Z0, Z1, Z2, Z3, Z4, Z5, Nat.reduceLT, Z6, Z7, Int.reduceEq, Z8, Z9, Nat.reduceLeDiff, Za, Zb, Zc, Zd, Ze, Zf, bytesOf, Zg, Zh, Zi, Zj, Zk, Zl, Int.reduceLT, Int.reduceLE, Zm, Int.reduceToNat, Zn, Zo, Zp, Int.reduceAdd, Zq, Zr, d1, d2, d3, ints_map]
    refine ⟨intR_len1 _ _, by rw [intR_len]; omega, by rw [intR_len]; omega, ?_⟩
    refine (sortComp (a := .gs 2 0 0 (intR .i64 c.starts).length) (zs := c.starts) (.inr ⟨2, 0, rfl, rfl⟩) (by omega)).mono ?_
    rintro r H1 ⟨rfl, hcp⟩
    simp only [go_sem, Nat.reduceEqDiff, reduceIte, ↓reduceIte, Nat.reduceAdd, Z0, Z1, Z2, Z3, Z4, Z5, Nat.reduceLT, Z6, Z7, Int.reduceEq, Z8, Z9, Nat.reduceLeDiff, Za, Zb, Zc, Zd, Ze, Zf, bytesOf, Zg, Zh, Zi, Zj, Zk, Zl, Int.reduceLT, Int.reduceLE, Zm, Int.reduceToNat, Zn, Zo, Zp, Int.reduceAdd, Zq, Zr]
    refine hcp.mono ?_
    rintro r H' hw
    rw [if_pos e3]
    simp only [go_sem, Nat.reduceEqDiff, reduceIte, ↓reduceIte, Nat.reduceAdd, Z0, Z1, Z2, Z3, Z4, Z5, Nat.reduceLT, Z6, Z7, Int.reduceEq, Z8, Z9, Nat.reduceLeDiff, Za, Zb, Zc, Zd, Ze, Zf, bytesOf, Zg, Zh, Zi, Zj, Zk, Zl, Int.reduceLT, Int.reduceLE, Zm, Int.reduceToNat, Zn, Zo, Zp, Int.reduceAdd, Zq, Zr]
    exact hw
  have d3 : decide (x.op = 13) = false := by simp [e3]
  rw [if_neg e3]
  by_cases e45 : x.op = 14 ∨ x.op = 15
  · have fin : ∀ (H : List AO), ACall Try.prog 125 [.p .nl] H (fun r H1 => r = .tup [] ∧ ACall Try.prog 126 [.p .nl] H1 (fun r H' => OwnF H' r [])) := fun H => by
      have := sortComp (a := .p .nl) (H := H) (zs := []) (.inl ⟨rfl, rfl⟩) (by simp)
      rw [canon_nil] at this
      exact this
    rw [if_pos e45]
    rcases e45 with e4 | e5
    · have d4 : decide (x.op = 14) = true := by simp [e4]
      simp only [go_sem, Nat.reduceEqDiff, reduceIte, ↓reduceIte, Nat.reduceAdd, Z0, Z1, Z2, Z3, Z4, Z5, Nat.reduceLT, Z6, Z7, Int.reduceEq, Z8, Z9, Nat.reduceLeDiff, Za, Zb, Zc, Zd, Ze, Zf, bytesOf, Zg, Zh, Zi, Zj, Zk, Zl, Int.reduceLT, Int.reduceLE, Zm, Int.reduceToNat, Zn, Zo, Zp, Int.reduceAdd, Zq, Zr, d1, d2, d3, d4]
      refine (fin _).mono ?_
      rintro r H1 ⟨rfl, hcp⟩
      simp only [go_sem, Nat.reduceEqDiff, reduceIte, ↓reduceIte, Nat.reduceAdd, Z0, Z1, Z2, Z3, Z4, Z5, Nat.reduceLT, Z6, Z7, Int.reduceEq, Z8, Z9, Nat.reduceLeDiff, Za, Zb, Zc, Zd, Ze, Zf, bytesOf, Zg, Zh, Zi, Zj, Zk, Zl, Int.reduceLT, Int.reduceLE, Zm, Int.reduceToNat, Zn, Zo, Zp, Int.reduceAdd, Zq, Zr]
      refine hcp.mono ?_
      rintro r H' hw
      simp only [go_sem, Nat.reduceEqDiff, reduceIte, ↓reduceIte, Nat.reduceAdd, Z0, Z1, Z2, Z3, Z4, Z5, Nat.reduceLT, Z6, Z7, Int.reduceEq, Z8, Z9, Nat.reduceLeDiff, Za, Zb, Zc, Zd, Ze, Zf, bytesOf, Zg, Zh, Zi, Zj, Zk, Zl, Int.reduceLT, Int.reduceLE, Zm, Int.reduceToNat, Zn, Zo, Zp, Int.reduceAdd, Zq, Zr]
      exact hw
    · have d4 : decide (x.op = 14) = false := by simp [e5]
      have d5 : decide (x.op = 15) = true := by simp [e5]
      simp only [go_sem, Nat.reduceEqDiff, reduceIte, ↓reduceIte, Nat.reduceAdd, Z0, Z1, Z2, Z3, Z4, Z5, Nat.reduceLT, Z6, Z7, Int.reduceEq, Z8, Z9, Nat.reduceLeDiff, Za, Zb, Zc, Zd, Ze, Zf, bytesOf, Zg, Zh, Zi, Zj, Zk, Zl, Int.reduceLT, Int.reduceLE, Zm, Int.reduceToNat, Zn, Zo, Zp, Int.reduceAdd, Zq, Zr, d1, d2, d3, d4, d5]
      refine (fin _).mono ?_
      rintro r H1 ⟨rfl, hcp⟩
      simp only [go_sem, Nat.reduceEqDiff, reduceIte, ↓reduceIte, Nat.reduceAdd, Z0, Z1, Z2, Z3, Z4, Z5, Nat.reduceLT, Z6, Z7, Int.reduceEq, Z8, Z9, Nat.reduceLeDiff, Za, Zb, Zc, Zd, Ze, Zf, bytesOf, Zg, Zh, Zi, Zj, Zk, Zl, Int.reduceLT, Int.reduceLE, Zm, Int.reduceToNat, Zn, Zo, Zp, Int.reduceAdd, Zq, Zr]
      refine hcp.mono ?_
      rintro r H' hw
      simp only [go_sem, Nat.reduceEqDiff, reduceIte, ↓reduceIte, Nat.reduceAdd, Z0, Z1, Z2, Z3, Z4, Z5, Nat.reduceLT, Z6, Z7, Int.reduceEq, Z8, Z9, Nat.reduceLeDiff, Za, Zb, Zc, Zd, Ze, Zf, bytesOf, Zg, Zh, Zi, Zj, Zk, Zl, Int.reduceLT, Int.reduceLE, Zm, Int.reduceToNat, Zn, Zo, Zp, Int.reduceAdd, Zq, Zr]
      exact hw
  have d4 : decide (x.op = 14) = false := by simp; omega
  have d5 : decide (x.op = 15) = false := by simp; omega
  simp only [go_sem, Nat.reduceEqDiff, reduceIte, ↓reduceIte, Nat.reduceAdd, Z0, Z1, Z2, Z3, Z4, Z5, Nat.reduceLT, Z6, Z7, Int.reduceEq, Z8, Z9, Nat.reduceLeDiff, Za, Zb, Zc, Zd, Ze, Zf, bytesOf, Zg, Zh, Zi, Zj, Zk, Zl, Int.reduceLT, Int.reduceLE, Zm, Int.reduceToNat, Zn, Zo, Zp, Int.reduceAdd, Zq, Zr, d1, d2, d3, d4, d5, ewp]
  rw [if_neg e45]
  refine (sortComp (a := .gs 2 0 0 1) (zs := [p + 1]) (.inr ⟨2, 0, rfl, rfl⟩) (by simp)).mono ?_
  rintro r H1 ⟨rfl, hcp⟩
  simp only [go_sem, Nat.reduceEqDiff, reduceIte, ↓reduceIte, Nat.reduceAdd, Z0, Z1, Z2, Z3, Z4, Z5, Nat.reduceLT, Z6, Z7, Int.reduceEq, Z8, Z9, Nat.reduceLeDiff, Za, Zb, Zc, Zd, Ze, Zf, bytesOf, Zg, Zh, Zi, Zj, Zk, Zl, Int.reduceLT, Int.reduceLE, Zm, Int.reduceToNat, Zn, Zo, Zp, Int.reduceAdd, Zq, Zr]
  refine hcp.mono ?_
  rintro r H' hw
  rw [canon_one] at hw
  simp only [go_sem, Nat.reduceEqDiff, reduceIte, ↓reduceIte, Nat.reduceAdd, Z0, Z1, Z2, Z3, Z4, Z5, Nat.reduceLT, Z6, Z7, Int.reduceEq, Z8, Z9, Nat.reduceLeDiff, Za, Zb, Zc, Zd, Ze, Zf, bytesOf, Zg, Zh, Zi, Zj, Zk, Zl, Int.reduceLT, Int.reduceLE, Zm, Int.reduceToNat, Zn, Zo, Zp, Int.reduceAdd, Zq, Zr]
  exact hw
end Go.Proofs.Ytmbggdfceecojaa.Cd

/- Next: the law. -/
set_option linter.all false
namespace Go.Proofs.Ytmbggdfceecojaa.Cd
open Go.AM Mc Ho

def OwnFA (H : List AO) (a : AV) (zs : List Int) (lo hi : Nat) : Prop :=
  (a = .p .nl ∧ zs = []) ∨ ∃ id ver tl, lo ≤ id ∧ id < hi ∧ a = .gs id ver 0 zs.length ∧ H[id]? = some (.rows 1 ver (intR .i64 (zs ++ tl)))
theorem OwnFA.kp {H H' : List AO} {a : AV} {zs : List Int} {lo hi : Nat} (h : OwnFA H a zs lo hi) (k : ∀ (j : Nat) o, H[j]? = some o → lo ≤ j → j < hi → H'[j]? = some o) : OwnFA H' a zs lo hi := by
  rcases h with h | ⟨id, ver, tl, h0, h1, h2, h3⟩
  · exact .inl h
  · exact .inr ⟨id, ver, tl, h0, h1, h2, k _ _ h3 h0 h1⟩
theorem OwnFA.ext {H : List AO} {a : AV} {zs : List Int} {lo hi : Nat} (h : OwnFA H a zs lo hi) (A : List AO) : OwnFA (H ++ A) a zs lo hi := h.kp fun j o hj _ _ => get_ext hj A
theorem OwnFA.lo {H : List AO} {a : AV} {zs : List Int} {lo lo' hi : Nat} (h : OwnFA H a zs lo hi) (hl : lo' ≤ lo) : OwnFA H a zs lo' hi := by
  rcases h with h | ⟨id, ver, tl, h0, h1, h2, h3⟩
  · exact .inl h
  · exact .inr ⟨id, ver, tl, by omega, h1, h2, h3⟩
theorem OwnFA.lent {H : List AO} {a : AV} {zs : List Int} {lo hi : Nat} (h : OwnFA H a zs lo hi) : Lent H a (.p (.l (ints zs))) := by
  rcases h with ⟨rfl, rfl⟩ | ⟨id, ver, tl, _, _, rfl, hid⟩
  · exact .nl
  · refine .gs id ver 0 _ 1 _ (ints zs) hid (by simp [intR]) (ints_len zs) (fun y hy => by obtain ⟨z, _, rfl⟩ := List.mem_map.1 hy; rfl) ?_
    intro i r y j c q hr hy hc hq
    rw [ints, List.getElem?_map] at hy
    cases hz : zs[i]? with
    | none => rw [hz] at hy; cases hy
    | some z =>
      rw [Nat.zero_add, intR, List.getElem?_map, List.getElem?_append_left (List.getElem?_eq_some_iff.1 hz).1, hz] at hr
      rw [hz] at hy
      cases hr; cases hy
      cases j with
      | zero => cases hc; cases hq; exact .pure _
      | succ j => simp at hc
theorem acall_ownF {f : Nat} {xs bs : List AV} {H : List AO} {zs : List Int} (h : ACall Try.prog f bs [] (fun r H' => OwnF H' r zs)) (hl : LentAll H xs bs) :
    ACall Try.prog f xs H (fun r H' => ∃ A, H' = H ++ A ∧ OwnFA H' r zs H.length H'.length) := by
  refine acall_own h hl ?_
  rintro r H0 (⟨rfl, he⟩ | ⟨id, ver, tl, rfl, hid⟩)
  · exact own_g (H := H) (R := fun (r : AV) (H' : List AO) => ∃ A, H' = H ++ A ∧ OwnFA H' r zs H.length H'.length) grnd_nl ⟨[], by simp, .inl ⟨rfl, he⟩⟩
  · exact own_gs (H := H) (R := fun (r : AV) (H' : List AO) => ∃ A, H' = H ++ A ∧ OwnFA H' r zs H.length H'.length) hid (grnd_intR _ _) ⟨_, rfl, .inr ⟨H.length, ver, tl, Nat.le_refl _, by simp, rfl, get_off0 _ _⟩⟩

theorem markIntP {H : List AO} {id ver : Nat} (old : List (List AV)) (n : Nat) (hnl : n ≤ old.length) (hid : H[id]? = some (.rows 1 ver old)) (h1 : ∀ r ∈ old, r.length = 1) (hn : n ≤ 100000000) (k : Int) (hk0 : 0 ≤ k) (hk : k ≤ 100000000) :
    ACall Try.prog 48 [.gs id ver 0 n, .p (.i .i64 k)] H (fun r H' => r = .p (.i .i64 (k + n)) ∧ H' = H.set id (.rows 1 ver (intR .i64 (patZ k n) ++ old.drop n))) := by
  have hm : n ≤ maxL := by unfold maxL; omega
  refine call48 (by simp) ?_
  simp only [go_sem, Nat.reduceEqDiff, reduceIte, ↓reduceIte, Nat.reduceAdd, mc48, mr48]
  refine ⟨Nat, [0, 1, 4, 5], fun i st => i ≤ n ∧ st = ⟨[(0, .gs id ver 0 n), (1, .p (.i .i64 (k + i))), (4, .p (.i .i64 0)), (5, .p (.i .i64 i))], [], H.set id (.rows 1 ver (over (fun j => [.p (.i .i64 (k + j))]) old i))⟩, fun i => n - i, ⟨0, ?_⟩, ?_⟩
  · simp only [go_sem, Nat.reduceEqDiff, reduceIte, ↓reduceIte, Nat.reduceAdd]
    refine ⟨Nat.zero_le _, ?_⟩
    rw [over_zero]
    rw [set_same hid]; simp
  · rintro i st ⟨hi, rfl⟩
    simp only [go_sem, Nat.reduceEqDiff, reduceIte, ↓reduceIte, Nat.reduceAdd]
    intro _
    refine condK_split _ (fun hc => ?_) (fun hc => ?_)
    · have hil : i < n := by simpa using hc
      have hio : i < old.length := by omega
      simp only [go_sem, Nat.reduceEqDiff, reduceIte, ↓reduceIte, Nat.reduceAdd, set_get hid, over_get _ _ hio]
      refine ⟨by simpa using hc, ?_⟩
      rw [stoR_at (over_get _ _ hio) (splice_one (h1 _ (List.getElem_mem hio)) _)]
      simp only [go_sem, Nat.reduceEqDiff, reduceIte, ↓reduceIte, Nat.reduceAdd]
      refine ⟨i + 1, ⟨hil, ?_⟩, by omega⟩
      rw [wr1 hil hm, wr64 (by omega) (by omega), List.set_set, over_set _ _ hio]
      simp only [Int.natCast_add, Int.natCast_one, Int.add_assoc]
    · have hil : i = n := by simp at hc; omega
      simp only [go_sem, Nat.reduceEqDiff, reduceIte, ↓reduceIte, Nat.reduceAdd]
      subst hil
      refine ⟨rfl, ?_⟩
      simp only [over, intR, patZ, List.map_map]
      rfl
theorem heldIntP {H : List AO} {id ver : Nat} (n : Nat) (tl : List (List AV)) (k : Int) (hid : H[id]? = some (.rows 1 ver (intR .i64 (patZ k n) ++ tl))) (hn : n ≤ 100000000) (hk0 : 0 ≤ k) (hk : k ≤ 100000000) :
    ACall Try.prog 49 [.gs id ver 0 n, .p (.i .i64 k)] H (fun r H' => r = .p (.i .i64 (k + n)) ∧ H' = H) := by
  have hm : n ≤ maxL := by unfold maxL; omega
  refine call49 (by simp) ?_
  simp only [go_sem, Nat.reduceEqDiff, reduceIte, ↓reduceIte, Nat.reduceAdd, mc49, mr49]
  refine ⟨Nat, [0, 1, 4, 5], fun i st => i ≤ n ∧ st = ⟨[(0, .gs id ver 0 n), (1, .p (.i .i64 (k + i))), (4, .p (.i .i64 0)), (5, .p (.i .i64 i))], [], H⟩, fun i => n - i, ⟨0, ?_⟩, ?_⟩
  · simp only [go_sem, Nat.reduceEqDiff, reduceIte, ↓reduceIte, Nat.reduceAdd]
    exact ⟨Nat.zero_le _, by simp⟩
  · rintro i st ⟨hi, rfl⟩
    simp only [go_sem, Nat.reduceEqDiff, reduceIte, ↓reduceIte, Nat.reduceAdd]
    intro _
    refine condK_split _ (fun hc => ?_) (fun hc => ?_)
    · have hil : i < n := by simpa using hc
      have hci : (i : Int) < (n : Int) := by omega
      have eg : (intR .i64 (patZ k n) ++ tl)[i]? = some [.p (.i .i64 (k + i))] := by
        rw [List.getElem?_append_left (by rw [intR_len, patZ_len]; exact hil)]; exact patZ_get k n hil
      simp only [go_sem, Nat.reduceEqDiff, reduceIte, ↓reduceIte, Nat.reduceAdd, Z0, Z1, Z2, Z3, Z4, Z5, Nat.reduceLT, Z6, Z7, Int.reduceEq, Z8, Z9, Nat.reduceLeDiff, Za, Zb, Zc, Zd, Ze, Zf, bytesOf, Zg, Zh, Zi, Zj, Zk, Zl, Int.reduceLT, Int.reduceLE, Zm, Int.reduceToNat, Zn, Zo, Zp, Int.reduceAdd, Zq, Zr, hid, eg, hci]
      refine ⟨i + 1, ⟨hil, ?_⟩, by omega⟩
      rw [wr1 hil hm, wr64 (by omega) (by omega)]
      simp only [Int.natCast_add, Int.natCast_one, Int.add_assoc]
    · have hil : i = n := by simp at hc; omega
      simp only [go_sem, Nat.reduceEqDiff, reduceIte, ↓reduceIte, Nat.reduceAdd]
      subst hil
      rfl
theorem intR_append (k : IntKind) (a b : List Int) : intR k (a ++ b) = intR k a ++ intR k b := by simp [intR]
theorem markF {H : List AO} {a : AV} {zs : List Int} {lo hi : Nat} (h : OwnFA H a zs lo hi) (hn : zs.length ≤ 1000000) :
    ACall Try.prog 48 [a, .p (.i .i64 1)] H (fun r H' => r = .p (.i .i64 (1 + zs.length)) ∧ OwnFA H' a (patZ 1 zs.length) lo hi ∧ KeptO a H H') := by
  rcases h with ⟨rfl, rfl⟩ | ⟨id, ver, tl, h0, h1, rfl, h3⟩
  · refine (markIntS_own (lo := lo) (hi := hi) (.inl ⟨rfl, rfl⟩) (fun r h => by cases h) (by simp) 1 (by omega) (by omega)).mono ?_
    rintro r H' ⟨rfl, h2, h4⟩
    exact ⟨rfl, .inl ⟨rfl, rfl⟩, h4⟩
  · refine (markIntP (intR .i64 (zs ++ tl)) zs.length (by rw [intR_len]; simp) h3 (intR_len1 _ _) (by omega) 1 (by omega) (by omega)).mono ?_
    rintro r H' ⟨rfl, rfl⟩
    refine ⟨rfl, .inr ⟨id, ver, tl, h0, h1, by rw [patZ_len], ?_⟩, by simp, fun j o h hj => ?_⟩
    · rw [set_get h3, intR_append, intR_append, ← intR_len .i64 zs, List.drop_left]
    · rw [List.getElem?_set_ne (by rintro rfl; exact hj _ _ _ rfl)]; exact h
theorem heldF {H : List AO} {a : AV} {n lo hi : Nat} (h : OwnFA H a (patZ 1 n) lo hi) (hn : n ≤ 1000000) :
    ACall Try.prog 49 [a, .p (.i .i64 1)] H (fun r H' => r = .p (.i .i64 (1 + n)) ∧ H' = H) := by
  rcases h with ⟨rfl, he⟩ | ⟨id, ver, tl, h0, h1, rfl, h3⟩
  · have hz : n = 0 := by have := patZ_len 1 n; rw [he] at this; exact this.symm
    subst hz
    exact heldIntS_own (lo := 0) (hi := 0) 1 (.inl ⟨rfl, rfl⟩) (by omega) (by omega) (by omega)
  · rw [patZ_len]
    rw [intR_append] at h3
    exact heldIntP n _ 1 h3 (by omega) (by omega) (by omega)

theorem next_args {H : List AO} {c : CodeD} {p : Int} {a : AV} (ha : Lent H a (.st (c.cells.map .p))) : LentAll H [a, .p (.i .i64 p)] [.st (c.cells.map .p), .p (.i .i64 p)] := lentAll_cons ha (lentAll_cons (.pure _) (lentAll_nil _))
theorem specNext (c : CodeD) (hok : okCode c) (p : Int) {H : List AO} {a : AV} (ha : Lent H a (.st (c.cells.map .p))) : ACall Try.prog 64 [a, .p (.i .i64 p)] H (fun r H' => ∃ A, H' = H ++ A ∧ OwnAt H' r 1 (intR .i64 (nextD c p)) H.length H'.length) :=
  acall_ownAt (specNext0 c hok p) (next_args ha) (grnd_intR _ _)
theorem implNext (c : CodeD) (hok : okCode c) (p : Int) {H : List AO} {a : AV} (ha : Lent H a (.st (c.cells.map .p))) : ACall Try.prog 65 [a, .p (.i .i64 p)] H (fun r H' => ∃ A, H' = H ++ A ∧ OwnFA H' r (nextD c p) H.length H'.length) :=
  acall_ownF (implNext0 c hok p) (next_args ha)
theorem nextD_len {c : CodeD} {p : Int} : (nextD c p).length ≤ 500 := by
  unfold nextD
  split
  · rename_i h
    have hs := (codeOk_facts h.1).slen
    split
    · have := canon_len [p + 1, (insAt c p).n]; simp at this; omega
    split
    · simp
    split
    · have := canon_len c.starts; omega
    split <;> simp
  · simp

set_option maxHeartbeats 4000000 in
theorem lawNext (c : CodeD) (hok : okCode c) (p : Int) : ACall Try.prog 14 [.st (c.cells.map .p), .p (.i .i64 p)] [] (fun r _ => r = .p (.b true)) := by
  refine call14 (by simp) ?_
  simp only [go_sem, Nat.reduceEqDiff, reduceIte, ↓reduceIte, Nat.reduceAdd, Z0, Z1, Z2, Z3, Z4, Z5, Nat.reduceLT, Z6, Z7, Int.reduceEq, Z8, Z9, Nat.reduceLeDiff, Za, Zb, Zc, Zd, Ze, Zf, bytesOf, Zg, Zh, Zi, Zj, Zk, Zl, Int.reduceLT, Int.reduceLE, Zm, Int.reduceToNat, Zn, Zo, Zp, Int.reduceAdd, Zq, Zr, mc14, mr14, CodeD.cells]
  rw [code_eta]
  refine (szCode_any c hok).mono ?_
  rintro r H' ⟨⟨q, rfl, hq⟩, rfl⟩
  simp only [go_sem, Nat.reduceEqDiff, reduceIte, ↓reduceIte, Nat.reduceAdd, Z0, Z1, Z2, Z3, Z4, Z5, Nat.reduceLT, Z6, Z7, Int.reduceEq, Z8, Z9, Nat.reduceLeDiff, Za, Zb, Zc, Zd, Ze, Zf, bytesOf, Zg, Zh, Zi, Zj, Zk, Zl, Int.reduceLT, Int.reduceLE, Zm, Int.reduceToNat, Zn, Zo, Zp, Int.reduceAdd, Zq, Zr]
  refine condK_split _ (fun hq0 => ?_) (fun hq0 => ?_)
  · simp only [go_sem, Nat.reduceEqDiff, reduceIte, ↓reduceIte, Nat.reduceAdd, Z0, Z1, Z2, Z3, Z4, Z5, Nat.reduceLT, Z6, Z7, Int.reduceEq, Z8, Z9, Nat.reduceLeDiff, Za, Zb, Zc, Zd, Ze, Zf, bytesOf, Zg, Zh, Zi, Zj, Zk, Zl, Int.reduceLT, Int.reduceLE, Zm, Int.reduceToNat, Zn, Zo, Zp, Int.reduceAdd, Zq, Zr]
  have hq1 : ¬ q < 0 := by simpa using hq0
  have hsm : small c := by rcases hq with h | h; exact (hq1 h).elim; exact h.2
  have hsm' := hsm
  unfold small at hsm'
  have hrl := @nextD_len c p
  have hrm : (nextD c p).length ≤ maxL := by unfold maxL; omega
  simp only [go_sem, Nat.reduceEqDiff, reduceIte, ↓reduceIte, Nat.reduceAdd, Z0, Z1, Z2, Z3, Z4, Z5, Nat.reduceLT, Z6, Z7, Int.reduceEq, Z8, Z9, Nat.reduceLeDiff, Za, Zb, Zc, Zd, Ze, Zf, bytesOf, Zg, Zh, Zi, Zj, Zk, Zl, Int.reduceLT, Int.reduceLE, Zm, Int.reduceToNat, Zn, Zo, Zp, Int.reduceAdd, Zq, Zr, code_take]
  refine acall_pure (toCode' c hok hsm _) ?_
  simp only [go_sem, Nat.reduceEqDiff, reduceIte, ↓reduceIte, Nat.reduceAdd, Z0, Z1, Z2, Z3, Z4, Z5, Nat.reduceLT, Z6, Z7, Int.reduceEq, Z8, Z9, Nat.reduceLeDiff, Za, Zb, Zc, Zd, Ze, Zf, bytesOf, Zg, Zh, Zi, Zj, Zk, Zl, Int.reduceLT, Int.reduceLE, Zm, Int.reduceToNat, Zn, Zo, Zp, Int.reduceAdd, Zq, Zr]
  refine (specNext c hok p (lent_code' c rfl rfl rfl)).mono ?_
  rintro w H1 ⟨A1, hH1, hw⟩
  have hv1 : H1[0]? = some (.var (c.cells.map .p)) := by rw [hH1]; rfl
  have hw1 := own_lo hw (lo' := 1) (by simp)
  have hi1 : 0 < H1.length := get_lt hv1
  clear hH1 hw
  simp only [go_sem, Nat.reduceEqDiff, reduceIte, ↓reduceIte, Nat.reduceAdd, Z0, Z1, Z2, Z3, Z4, Z5, Nat.reduceLT, Z6, Z7, Int.reduceEq, Z8, Z9, Nat.reduceLeDiff, Za, Zb, Zc, Zd, Ze, Zf, bytesOf, Zg, Zh, Zi, Zj, Zk, Zl, Int.reduceLT, Int.reduceLE, Zm, Int.reduceToNat, Zn, Zo, Zp, Int.reduceAdd, Zq, Zr, hv1, code_take]
  refine acall_pure (toCode' c hok hsm _) ?_
  simp only [go_sem, Nat.reduceEqDiff, reduceIte, ↓reduceIte, Nat.reduceAdd, Z0, Z1, Z2, Z3, Z4, Z5, Nat.reduceLT, Z6, Z7, Int.reduceEq, Z8, Z9, Nat.reduceLeDiff, Za, Zb, Zc, Zd, Ze, Zf, bytesOf, Zg, Zh, Zi, Zj, Zk, Zl, Int.reduceLT, Int.reduceLE, Zm, Int.reduceToNat, Zn, Zo, Zp, Int.reduceAdd, Zq, Zr]
  refine (implNext c hok p (lent_code' c (by rw [get_off0]; rfl) (by rw [get_off]; rfl) rfl)).mono ?_
  rintro g H3 ⟨A3, hH3, hg⟩
  have hv3 : H3[0]? = some (.var (c.cells.map .p)) := by rw [hH3]; exact get_ext (get_ext hv1 _) _
  have hw3 := (hw1.ext [AO.rows 6 0 (insR c.ins), .rows 1 0 (intR .i64 c.starts), .var [.gs H1.length 0 0 c.ins.length, .gs (H1.length + 1) 0 0 c.starts.length]]).ext A3
  rw [← hH3] at hw3
  have h60 : H3[H1.length]? = some (.rows 6 0 (insR c.ins)) := by rw [hH3]; refine get_ext ?_ _; rw [get_off0]; rfl
  have h61 : H3[H1.length + 1]? = some (.rows 1 0 (intR .i64 c.starts)) := by rw [hH3]; refine get_ext ?_ _; rw [get_off]; rfl
  have hx3 : H3[H1.length + 2]? = some (.var [.gs H1.length 0 0 c.ins.length, .gs (H1.length + 1) 0 0 c.starts.length]) := by rw [hH3]; refine get_ext ?_ _; rw [get_off]; rfl
  have hg3 := hg.lo (lo' := H1.length + 3) (by simp)
  have hl3 : H1.length + 2 < H3.length := get_lt hx3
  clear hg hH3 hw1 hv1
  generalize H1.length = ix at *
  generalize hig : H3.length = ig at *
  simp only [go_sem, Nat.reduceEqDiff, reduceIte, ↓reduceIte, Nat.reduceAdd, Z0, Z1, Z2, Z3, Z4, Z5, Nat.reduceLT, Z6, Z7, Int.reduceEq, Z8, Z9, Nat.reduceLeDiff, Za, Zb, Zc, Zd, Ze, Zf, bytesOf, Zg, Zh, Zi, Zj, Zk, Zl, Int.reduceLT, Int.reduceLE, Zm, Int.reduceToNat, Zn, Zo, Zp, Int.reduceAdd, Zq, Zr]
  refine acall_pure (eqIntS_any _ _ hrm hrm hg3.lent (ownZ_lent hw3.own)) ?_
  simp only [go_sem, Nat.reduceEqDiff, reduceIte, ↓reduceIte, Nat.reduceAdd, Z0, Z1, Z2, Z3, Z4, Z5, Nat.reduceLT, Z6, Z7, Int.reduceEq, Z8, Z9, Nat.reduceLeDiff, Za, Zb, Zc, Zd, Ze, Zf, bytesOf, Zg, Zh, Zi, Zj, Zk, Zl, Int.reduceLT, Int.reduceLE, Zm, Int.reduceToNat, Zn, Zo, Zp, Int.reduceAdd, Zq, Zr]
  refine drw_same ?_
  simp only [go_sem, Nat.reduceEqDiff, reduceIte, ↓reduceIte, Nat.reduceAdd, Z0, Z1, Z2, Z3, Z4, Z5, Nat.reduceLT, Z6, Z7, Int.reduceEq, Z8, Z9, Nat.reduceLeDiff, Za, Zb, Zc, Zd, Ze, Zf, bytesOf, Zg, Zh, Zi, Zj, Zk, Zl, Int.reduceLT, Int.reduceLE, Zm, Int.reduceToNat, Zn, Zo, Zp, Int.reduceAdd, Zq, Zr, hx3, hv3, code_take]
  refine pcall_pure (fun A => (toCode_fresh c hok hsm).mono fun r H' ⟨h1, h2⟩ => ⟨h2, h1⟩) (Hext.refl _) ?_
  simp only [go_sem, Nat.reduceEqDiff, reduceIte, ↓reduceIte, Nat.reduceAdd, Z0, Z1, Z2, Z3, Z4, Z5, Nat.reduceLT, Z6, Z7, Int.reduceEq, Z8, Z9, Nat.reduceLeDiff, Za, Zb, Zc, Zd, Ze, Zf, bytesOf, Zg, Zh, Zi, Zj, Zk, Zl, Int.reduceLT, Int.reduceLE, Zm, Int.reduceToNat, Zn, Zo, Zp, Int.reduceAdd, Zq, Zr]
  refine (eqCode_any c c hok hok (lent_code' c h60 h61 rfl) (code_lent c)).mono ?_
  rintro r H' ⟨rfl, rfl⟩
  simp only [go_sem, Nat.reduceEqDiff, reduceIte, ↓reduceIte, Nat.reduceAdd, Z0, Z1, Z2, Z3, Z4, Z5, Nat.reduceLT, Z6, Z7, Int.reduceEq, Z8, Z9, Nat.reduceLeDiff, Za, Zb, Zc, Zd, Ze, Zf, bytesOf, Zg, Zh, Zi, Zj, Zk, Zl, Int.reduceLT, Int.reduceLE, Zm, Int.reduceToNat, Zn, Zo, Zp, Int.reduceAdd, Zq, Zr, hx3]
  refine (markCodeO hsm (hi := ix + 2) (by omega) (codeC_at h60 h61 (Nat.le_refl ix) (by omega) (by omega) (by omega))).mono ?_
  rintro r H5 ⟨rfl, _, hl5, hk5⟩
  have hv5 := hk5 _ _ hv3 (.inl (by omega))
  have hw5 := own_kp hw3 (H' := H5) fun j o hj h0 h1 => hk5 j o hj (.inl (by omega))
  have hg5 := hg3.kp (H' := H5) fun j o hj h0 h1 => hk5 j o hj (.inr (by omega))
  clear hk5 hv3 hw3 hg3 hx3 h60 h61
  have hkf : decide (1 + 6 * (c.ins.length : Int) + (c.starts.length : Int) < 0) = false := by simp; omega
  simp only [go_sem, Nat.reduceEqDiff, reduceIte, ↓reduceIte, Nat.reduceAdd, Z0, Z1, Z2, Z3, Z4, Z5, Nat.reduceLT, Z6, Z7, Int.reduceEq, Z8, Z9, Nat.reduceLeDiff, Za, Zb, Zc, Zd, Ze, Zf, bytesOf, Zg, Zh, Zi, Zj, Zk, Zl, Int.reduceLT, Int.reduceLE, Zm, Int.reduceToNat, Zn, Zo, Zp, Int.reduceAdd, Zq, Zr, hkf]
  refine acall_pure (eqIntS_any _ _ hrm hrm hg5.lent (ownZ_lent hw5.own)) ?_
  simp only [go_sem, Nat.reduceEqDiff, reduceIte, ↓reduceIte, Nat.reduceAdd, Z0, Z1, Z2, Z3, Z4, Z5, Nat.reduceLT, Z6, Z7, Int.reduceEq, Z8, Z9, Nat.reduceLeDiff, Za, Zb, Zc, Zd, Ze, Zf, bytesOf, Zg, Zh, Zi, Zj, Zk, Zl, Int.reduceLT, Int.reduceLE, Zm, Int.reduceToNat, Zn, Zo, Zp, Int.reduceAdd, Zq, Zr, hkf]
  refine (markF hg5 (by omega)).mono ?_
  rintro r H7 ⟨rfl, hg7, hk7⟩
  have hgid : ∀ (j : Nat), (∃ v o n, g = .gs j v o n) → ix + 3 ≤ j := by
    rintro j ⟨v, o, n, rfl⟩
    rcases hg5 with ⟨e, _⟩ | ⟨id, ver, tl, h0, h1, e, _⟩
    · cases e
    · cases e; exact h0
  have hv7 : H7[0]? = some (.var (c.cells.map .p)) := hk7.2 _ _ hv5 fun v o' n e => by have := hgid 0 ⟨_, _, _, e⟩; omega
  have hw7 := own_kp hw5 (H' := H7) fun j o hj h0 h1 => hk7.2 j o hj fun v o' n e => by have := hgid j ⟨_, _, _, e⟩; omega
  clear hk7 hv5 hw5
  simp only [go_sem, Nat.reduceEqDiff, reduceIte, ↓reduceIte, Nat.reduceAdd, Z0, Z1, Z2, Z3, Z4, Z5, Nat.reduceLT, Z6, Z7, Int.reduceEq, Z8, Z9, Nat.reduceLeDiff, Za, Zb, Zc, Zd, Ze, Zf, bytesOf, Zg, Zh, Zi, Zj, Zk, Zl, Int.reduceLT, Int.reduceLE, Zm, Int.reduceToNat, Zn, Zo, Zp, Int.reduceAdd, Zq, Zr]
  refine (heldF hg7 (by omega)).mono ?_
  rintro r H8 ⟨rfl, rfl⟩
  have hnn : decide (1 + ((nextD c p).length : Int) < 0) = false := by simp; omega
  simp only [go_sem, Nat.reduceEqDiff, reduceIte, ↓reduceIte, Nat.reduceAdd, Z0, Z1, Z2, Z3, Z4, Z5, Nat.reduceLT, Z6, Z7, Int.reduceEq, Z8, Z9, Nat.reduceLeDiff, Za, Zb, Zc, Zd, Ze, Zf, bytesOf, Zg, Zh, Zi, Zj, Zk, Zl, Int.reduceLT, Int.reduceLE, Zm, Int.reduceToNat, Zn, Zo, Zp, Int.reduceAdd, Zq, Zr, hnn, hv7, code_take]
  refine acall_pure (toCode' c hok hsm _) ?_
  simp only [go_sem, Nat.reduceEqDiff, reduceIte, ↓reduceIte, Nat.reduceAdd, Z0, Z1, Z2, Z3, Z4, Z5, Nat.reduceLT, Z6, Z7, Int.reduceEq, Z8, Z9, Nat.reduceLeDiff, Za, Zb, Zc, Zd, Ze, Zf, bytesOf, Zg, Zh, Zi, Zj, Zk, Zl, Int.reduceLT, Int.reduceLE, Zm, Int.reduceToNat, Zn, Zo, Zp, Int.reduceAdd, Zq, Zr]
  refine (implNext c hok p (lent_code' c (by rw [get_off0]; rfl) (by rw [get_off]; rfl) rfl)).mono ?_
  rintro g1 H9 ⟨A9, hH9, hg9⟩
  have hw9 := (hw7.ext [AO.rows 6 0 (insR c.ins), .rows 1 0 (intR .i64 c.starts)]).ext A9
  have hp9 := (hg7.ext [AO.rows 6 0 (insR c.ins), .rows 1 0 (intR .i64 c.starts)]).ext A9
  rw [← hH9] at hw9 hp9
  simp only [go_sem, Nat.reduceEqDiff, reduceIte, ↓reduceIte, Nat.reduceAdd, Z0, Z1, Z2, Z3, Z4, Z5, Nat.reduceLT, Z6, Z7, Int.reduceEq, Z8, Z9, Nat.reduceLeDiff, Za, Zb, Zc, Zd, Ze, Zf, bytesOf, Zg, Zh, Zi, Zj, Zk, Zl, Int.reduceLT, Int.reduceLE, Zm, Int.reduceToNat, Zn, Zo, Zp, Int.reduceAdd, Zq, Zr]
  refine acall_pure (eqIntS_any _ _ hrm hrm hg9.lent (ownZ_lent hw9.own)) ?_
  simp only [go_sem, Nat.reduceEqDiff, reduceIte, ↓reduceIte, Nat.reduceAdd, Z0, Z1, Z2, Z3, Z4, Z5, Nat.reduceLT, Z6, Z7, Int.reduceEq, Z8, Z9, Nat.reduceLeDiff, Za, Zb, Zc, Zd, Ze, Zf, bytesOf, Zg, Zh, Zi, Zj, Zk, Zl, Int.reduceLT, Int.reduceLE, Zm, Int.reduceToNat, Zn, Zo, Zp, Int.reduceAdd, Zq, Zr]
  refine (heldF hp9 (by omega)).mono ?_
  rintro r H11 ⟨rfl, rfl⟩
  simp only [go_sem, Nat.reduceEqDiff, reduceIte, ↓reduceIte, Nat.reduceAdd, Z0, Z1, Z2, Z3, Z4, Z5, Nat.reduceLT, Z6, Z7, Int.reduceEq, Z8, Z9, Nat.reduceLeDiff, Za, Zb, Zc, Zd, Ze, Zf, bytesOf, Zg, Zh, Zi, Zj, Zk, Zl, Int.reduceLT, Int.reduceLE, Zm, Int.reduceToNat, Zn, Zo, Zp, Int.reduceAdd, Zq, Zr, hnn]
end Go.Proofs.Ytmbggdfceecojaa.Cd
