/- Texts Am14b Am14c Am15 Am16 Am17 Am18 Am19, merged. -/
import Derived.Test.YtiehnbbbhcaacaaGreatDoorKAMB
import Derived.LaidEqlPtr
import Derived.MapKept
import Derived.Carry
import Derived.Lib.ConvBytes
import Derived.Orders
set_option linter.all false
namespace Go.AM
variable {lv:List Nat} {P:Program} {N:Nat} {o:Oper} {st:St} {K:St->Prop} {θ:Th} {W:Im}
theorem alive_inv {H:List AO} {w:World} (hS:SR θ W H w) {a:AV} {v:Value} (hv:ARel θ W a v) (h:aliveV H a=true) :
  ∃ id off b sz tot vs ty,a=.ptr id off/\θ id 0=.at b sz tot/\v=.pointer (some ⟨b,off,none⟩)/\w.heap[b]?=some (.cells vs ty (0,0)):=by
 unfold aliveV at h
 split at h
 ·rename_i id off
  split at h
  ·rename_i cs e
   obtain ⟨⟨b,sz,tot,ty,vs,h1,h2,_⟩,_⟩:=hS.obj id _ e
   cases hv with
   | ptr _ _ b' sz' tot' h'=>rw [h1] at h'; cases h'; exact ⟨id,off,b,sz,tot,vs,ty,rfl,h1,rfl,h2⟩
   | ptrDead _ _ _ h'=>rw [h1] at h'; cases h'
  ·cases h
 ·cases h
theorem alive_eq {H:List AO} {w:World} (hS:SR θ W H w) {x y:AV} {u v:Value} (hx:ARel θ W x u) (hy:ARel θ W y v) (ax:aliveV H x=true) (ay:aliveV H y=true) :
  ∃ (p q:Addr) (ca cb:Array Value) (ta tb:TypeId),u=.pointer (some p)/\v=.pointer (some q)/\w.heap[p.block]?=some (.cells ca ta (0,0))/\w.heap[q.block]?=some (.cells cb tb (0,0))/\keyEq x y=some (decide (p=q)):=by
 obtain ⟨id,off,b,sz,tot,vs,ty,rfl,h1,rfl,h2⟩:=alive_inv hS hx ax
 obtain ⟨id',off',b',sz',tot',vs',ty',rfl,h1',rfl,h2'⟩:=alive_inv hS hy ay
 refine ⟨_,_,_,_,_,_,rfl,rfl,h2,h2',?_⟩
 show some (decide (id=id') && decide (off=off'))=_
 congr 1
 rw [<- Bool.decide_and,decide_eq_decide]
 constructor
 ·rintro ⟨rfl,rfl⟩
  rw [h1] at h1'; cases h1'; rfl
 ·intro h
  injection h with h3 h4
  subst h3
  exact ⟨(hS.inj b id 0 sz tot id' 0 sz' tot' h1 h1').1,h4⟩
theorem run_equal_ptr {w:World} {tp te:TypeId} {j:TypeInfo} {a b:Addr} {ca cb:Array Value} {ta tb:TypeId} (hp:P.underlying tp=some (.pointer te)) (hte:P.info? te=some j) (hsz:j.size≠0)
  (ha:w.heap[a.block]?=some (.cells ca ta (0,0))) (hb:w.heap[b.block]?=some (.cells cb tb (0,0))):(Op.equal tp (.pointer (some a)) (.pointer (some b))).run P w=.ok (decide (a=b)) w:=by
 by_cases h:a=b
 ·subst h
  have:∀ d:Nat,(Op.equalIn (d+1) tp (.pointer (some a)) (.pointer (some a))).run P w=.ok true w:=fun d=>by
   simp [Op.equalIn,run_underlying hp,sizeOf,typeInfo,hte,run_sameAddr_same]
  simp [Op.equal,Op.maxDepth,this 9999]
 ·have:∀ d:Nat,(Op.equalIn (d+1) tp (.pointer (some a)) (.pointer (some b))).run P w=.ok false w:=fun d=>by
   simp [Op.equalIn,run_underlying hp,sizeOf,typeInfo,hte,hsz,run_sameAddr_other w h ha hb]
  simp [Op.equal,Op.maxDepth,this 9999,h]
theorem ok_peq {ne:Bool} {t u e:TypeId} {n:Nat} {x y:Operand} {mx my:MA} (ho:o.op=.binOp (if ne then .neq else .eql) t x y u) (ht:P.underlying t=some (.pointer e)) (hn:sizeT P e=some n) (hn0:0<n)
  (hx:cArg lv x=some mx) (hy:cArg lv y=some my) (hd:o.dst.all (decide <| ·<N)=true) (h:withV (peqV st.H ne (st.get mx) (st.get my)) (cDst lv o.dst) K st):OpOk lv P N o st K:=by
 intro a w θ W next Q hR hk
 obtain ⟨v,hv,h⟩:=withV_inv h
 unfold peqV at hv
 split at hv
 rotate_left
 ·cases hv
 rename_i hal
 rw [Bool.and_eq_true] at hal
 obtain ⟨p,q,ca,cb,ta,tb,e1,e2,h1,h2,h3⟩:=alive_eq hR.mem (hR.arg hx) (hR.arg hy) hal.1 hal.2
 rw [h3] at hv
 cases hv
 obtain ⟨i,hi,his⟩:=sizeT_inv hn
 have hr:=run_equal_ptr (w:=w) ht hi (by omega) h1 h2
 refine end_same hR hd hk (v:=.bool (if ne then !decide (p=q) else decide (p=q))) ?_ (.p _ _ (.b _)) h
 have hg:=eqGuard_plain (P:=P) (if ne then .neq else .eql) t x y (a.eval x) (a.eval y) (by rw [e1]; simp) (by rw [e1]; simp) w
 cases ne
 ·simp only [Bool.false_eq_true,if_false] at hg ho ⊢
  simp [execOp,ho,hg]
  rw [e1,e2]
  simp [binOp,hr]
 ·simp only [if_true] at hg ho ⊢
  simp [execOp,ho,hg]
  rw [e1,e2]
  simp [binOp,hr]
theorem ok_mkm {t:TypeId} (ho:o.op=.makeMap t none) (hd:o.dst.all (decide <| ·<N)=true)
  (h:newK (some (.mapo [])) (fun id=>.mp id) (cDst lv o.dst) K st):OpOk lv P N o st K:=by
 intro a w θ W next Q hR hk
 obtain ⟨a1,a2⟩:=hR.mem.push (w':=w.alloc (.map #[] 0)) (.mapo []) (.at w.heap.size 0 0) rfl rfl rfl (by simp) (fun k hb=>RowKit.Below.heap_alloc w _ k hb) (fun b sz tot e=>by cases e; rfl) (fun e=>by cases e)
  (fun hr=>⟨⟨w.heap.size,#[],0,thSet_same _ _ _ _,heap_alloc_new w _,⟨rfl,by simp⟩,fun j e e' hj _=>by simp at hj⟩,fun ver hv=>by
   rw [thSet_other (by omega)]; exact hR.mem.out _ _ (Nat.le_refl _)⟩)
 refine end_value hR hd hk (v:=.map (some w.heap.size)) ?_ (.mp _ w.heap.size (thSet_same _ _ _ _)) a1 a2 h
 simp [execOp,ho,RowKit.run_makeMap]
inductive KD (P:Program) (kt:TypeId):Option IntKind->Prop
 | int (k:IntKind) (h:P.underlying kt=some (.int k)):KD P kt (some k)
 | ptr (e:TypeId) (i:TypeInfo) (h:P.underlying kt=some (.pointer e)) (hi:P.info? e=some i) (hs:i.size≠0):KD P kt none
theorem cKey_inv {kt:TypeId} {kd:Option IntKind} (h:cKey P kt=some kd):KD P kt kd:=by
 unfold cKey at h
 split at h
 ·rename_i k e; cases h; exact .int k e
 ·rename_i te e
  split at h
  ·rename_i n hn
   split at h
   ·rename_i h0
    cases h
    obtain ⟨i,hi,hs⟩:=sizeT_inv hn
    have:=of_decide_eq_true h0
    exact .ptr te i e hi (by omega)
   ·cases h
  ·cases h
 ·cases h
theorem int_key {H:List AO} {k:IntKind} {x:AV} (h:keyOk (some k) H x=true):∃ z,x=.p (.i k z):=by
 unfold keyOk at h
 split at h
 ·rename_i e1
  cases e1
  have:=of_decide_eq_true h
  subst this
  exact ⟨_,rfl⟩
 ·rename_i e1; cases e1
 ·cases h
theorem key_eq {H : List AO} {w : World} (hS : SR θ W H w) {kt : TypeId} {kd : Option IntKind} (hd : KD P kt kd) {x y : AV} {u v : Value} (hx : ARel θ W x u) (hy : ARel θ W y v) (kx : keyOk kd H x = true) (ky : keyOk kd H y = true) :
    ∃ b, keyEq x y = some b ∧ (b = true → u = v) ∧ (∀ k, kd = some k → Instr.sameNow (.int k) u v = some b) ∧ (kd = none → (Op.equal kt u v).run P w = .ok b w) := by
  cases hd with
  | int k h =>
    obtain ⟨z, rfl⟩ := int_key kx
    obtain ⟨z', rfl⟩ := int_key ky
    cases hx with | p _ _ hx =>
    cases hy with | p _ _ hy =>
    cases hx
    cases hy
    exact ⟨decide (z = z'), by simp [keyEq], fun h => by rw [of_decide_eq_true h], fun k' e => by cases e; simp [Instr.sameNow]; rfl, fun e => by cases e⟩
  | ptr e i h hi hs =>
    have kx : aliveV H x = true := by simpa [keyOk] using kx
    have ky : aliveV H y = true := by simpa [keyOk] using ky
    obtain ⟨p, q, ca, cb, ta, tb, rfl, rfl, h1, h2, h3⟩ := alive_eq hS hx hy kx ky
    exact ⟨_, h3, fun h => by rw [of_decide_eq_true h], fun k e => (by cases e), fun _ => run_equal_ptr h hi hs h1 h2⟩
theorem key_check {kt:TypeId} {kd:Option IntKind} (hd:KD P kt kd) (w:World) (v:Value) (e:Bool) (n:Nat):(Instr.checkKey e (n+1) kt v).run P w=.ok () w:=by
 unfold Instr.checkKey
 cases hd with
 | int k h=>simp only [Sem.run_bind,run_underlying h,Result.andThen]; cases v <;> rfl
 | ptr e i h hi hs=>simp only [Sem.run_bind,run_underlying h,Result.andThen]; cases v <;> rfl
def MpR (θ:Th) (W:Im):List (AV × AV)->List MapEntry->Prop
 | [],[]=>True
 | e :: es,e' :: l=>ARel θ W e.1 e'.key/\ARel θ W e.2 e'.val/\MpR θ W es l
 | _,_=>False
theorem MpR.of:∀ {es:List (AV × AV)} {l:List MapEntry},l.length=es.length->(∀ (j:Nat) (e:AV × AV) (e':MapEntry),es[j]?=some e->l[j]?=some e'->ARel θ W e.1 e'.key/\ARel θ W e.2 e'.val)->MpR θ W es l
 | [],[],_,_=>trivial
 | [],_ :: _,h,_=>by simp at h
 | _ :: _,[],h,_=>by simp at h
 | e :: es,e' :: l,h,hc=>⟨(hc 0 e e' rfl rfl).1,(hc 0 e e' rfl rfl).2,MpR.of (by simpa using h) fun j x x' hj hx=>hc (j+1) x x' (by simpa using hj) (by simpa using hx)⟩
def FR (θ:Th) (W:Im) (u:Value) (l:List MapEntry) (i:Nat):Option (Nat × AV)->Option (Nat × Value)->Prop
 | none,none=>True
 | some (j,v),some (j',v')=>j'=i+j/\ARel θ W v v'/\∃ e',l[j]?=some e'/\e'.key=u
 | _,_=>False
theorem FR.next {u : Value} {e : MapEntry} {l : List MapEntry} {i : Nat} {r : Option (Nat × AV)} {r' : Option (Nat × Value)} (h : FR θ W u l (i + 1) r r') : FR θ W u (e :: l) i (r.map fun x => (x.1 + 1, x.2)) r' := by
  cases r with
  | none => cases r' with
    | none => trivial
    | some _ => exact h.elim
  | some x => cases r' with
    | none => exact h.elim
    | some y =>
      obtain ⟨h1, h2, h3⟩ := h
      exact ⟨by show y.1 = i + (x.1 + 1); rw [h1]; omega, h2, h3⟩
theorem mfind_cons {k : AV} {e : AV × AV} {es : List (AV × AV)} {r : Option (Nat × AV)} (h : mfind k (e :: es) = some r) {b : Bool} (hb : keyEq k e.1 = some b) :
    (b = true ∧ r = some (0, e.2)) ∨ (b = false ∧ ∃ r0, mfind k es = some r0 ∧ r = r0.map fun x => (x.1 + 1, x.2)) := by
  rw [mfind, hb] at h
  cases b with
  | true => cases h; exact .inl ⟨rfl, rfl⟩
  | false =>
    refine .inr ⟨rfl, ?_⟩
    cases hm : mfind k es with
    | none => simp [hm] at h
    | some r0 => cases r0 with
      | none => simp [hm] at h; exact ⟨none, rfl, h.symm⟩
      | some x => simp [hm] at h; exact ⟨some x, rfl, h.symm⟩
theorem find_int {H : List AO} {w : World} (hS : SR θ W H w) {kt : TypeId} {k : IntKind} (hd : KD P kt (some k)) {x : AV} {u : Value} (hx : ARel θ W x u) (kx : keyOk (some k) H x = true) :
    ∀ (es : List (AV × AV)) (l : List MapEntry) (i : Nat) (r : Option (Nat × AV)), MpR θ W es l → es.all (fun y => keyOk (some k) H y.1) = true → mfind x es = some r →
      ∃ r', Instr.findNow (.int k) u l i = some r' ∧ FR θ W u l i r r'
  | [], [], i, r, _, _, hf => by cases hf; exact ⟨none, rfl, trivial⟩
  | [], _ :: _, _, _, h, _, _ => h.elim
  | _ :: _, [], _, _, h, _, _ => h.elim
  | e :: es, e' :: l, i, r, hm, hk, hf => by
    simp only [List.all_cons, Bool.and_eq_true] at hk
    obtain ⟨b, hb, b1, b2, _⟩ := key_eq hS hd hx hm.1 kx hk.1
    rcases mfind_cons hf hb with ⟨rfl, rfl⟩ | ⟨rfl, r0, h0, rfl⟩
    · exact ⟨some (i, e'.val), by simp [Instr.findNow, b2 k rfl], rfl, hm.2.1, e', rfl, (b1 rfl).symm⟩
    · obtain ⟨r', h1, h2⟩ := find_int hS hd hx kx es l (i + 1) r0 hm.2.2 hk.2 h0
      exact ⟨r', by simp [Instr.findNow, b2 k rfl, h1], h2.next⟩
theorem find_ptr {H : List AO} {w : World} (hS : SR θ W H w) {kt : TypeId} (hd : KD P kt none) {x : AV} {u : Value} (hx : ARel θ W x u) (kx : keyOk none H x = true) :
    ∀ (es : List (AV × AV)) (l : List MapEntry) (i : Nat) (r : Option (Nat × AV)), MpR θ W es l → es.all (fun y => keyOk none H y.1) = true → mfind x es = some r →
      ∃ r', (Instr.findAsking kt u l i).run P w = .ok r' w ∧ FR θ W u l i r r'
  | [], [], i, r, _, _, hf => by cases hf; exact ⟨none, rfl, trivial⟩
  | [], _ :: _, _, _, h, _, _ => h.elim
  | _ :: _, [], _, _, h, _, _ => h.elim
  | e :: es, e' :: l, i, r, hm, hk, hf => by
    simp only [List.all_cons, Bool.and_eq_true] at hk
    obtain ⟨b, hb, b1, _, b2⟩ := key_eq hS hd hx hm.1 kx hk.1
    rcases mfind_cons hf hb with ⟨rfl, rfl⟩ | ⟨rfl, r0, h0, rfl⟩
    · exact ⟨some (i, e'.val), by simp [Instr.findAsking, b2 rfl, Result.andThen], rfl, hm.2.1, e', rfl, (b1 rfl).symm⟩
    · obtain ⟨r', h1, h2⟩ := find_ptr hS hd hx kx es l (i + 1) r0 hm.2.2 hk.2 h0
      exact ⟨r', by simp [Instr.findAsking, b2 rfl, h1, Result.andThen], h2.next⟩
theorem find_ok {H : List AO} {w : World} (hS : SR θ W H w) {kt : TypeId} {kd : Option IntKind} (hd : KD P kt kd) {x : AV} {u : Value} (hx : ARel θ W x u) (kx : keyOk kd H x = true)
    {es : List (AV × AV)} {l : List MapEntry} {r : Option (Nat × AV)} (hm : MpR θ W es l) (hk : es.all (fun y => keyOk kd H y.1) = true) (hf : mfind x es = some r) :
    ∃ r', (Instr.findKey kt u l).run P w = .ok r' w ∧ FR θ W u l 0 r r' := by
  have hd0 := hd
  cases hd with
  | int k h =>
    obtain ⟨r', h1, h2⟩ := find_int hS hd0 hx kx es l 0 r hm hk hf
    exact ⟨r', by simp [Instr.findKey, run_underlying h, h1, Result.andThen], h2⟩
  | ptr e i h hi hs =>
    obtain ⟨r', h1, h2⟩ := find_ptr hS hd0 hx kx es l 0 r hm hk hf
    refine ⟨r', ?_, h2⟩
    cases l with
    | nil =>
      cases es with
      | nil => cases hf; cases r' with
        | none => simp [Instr.findKey, run_underlying h, Instr.findNow, Result.andThen]
        | some _ => exact h2.elim
      | cons _ _ => exact hm.elim
    | cons y ys => simp [Instr.findKey, run_underlying h, Instr.findNow, Instr.sameNow, h1, Result.andThen]
theorem cMap_inv {t:TypeId} {kd:Option IntKind} {z:AV} (h:cMap P t=some (kd,z)):∃ kt et,P.underlying t=some (.map kt et)/\KD P kt kd/\∃ i zv,P.info? et=some i/\i.zero=some zv/\∀ θ W,ARel θ W z zv:=by
 unfold cMap at h
 split at h
 ·rename_i kt et e
  split at h
  ·rename_i kd' z' h1 h2
   cases h
   refine ⟨kt,et,e,cKey_inv h1,?_⟩
   unfold zero1 at h2
   split at h2
   ·rename_i i hi
    split at h2
    ·cases h2
    ·rename_i zv _ hz
     split at h2
     ·rename_i c hc
      cases h2
      exact ⟨i,zv,hi,hz,fun θ W=>(ofVals1_rel hc θ W).2.1 0 _ _ rfl rfl⟩
     ·cases h2
    ·cases h2
   ·cases h2
  ·cases h
 ·cases h
theorem mok_rel {ok b:Bool} {v:AV} {u:Value} (h:ARel θ W v u):ARel θ W (mokV ok v b) (if ok=true then .tuple #[u,.bool b] else u):=by
 cases ok
 ·exact h
 ·refine .tup [v,.p (.b b)] #[u,.bool b] rfl fun j c x hj hx=>?_
  match j with
  | 0=>cases hj; cases hx; exact h
  | 1=>cases hj; cases hx; exact .p _ _ (.b _)
  | j+2=>simp at hj
theorem mapo_inv {H:List AO} {w:World} (hS:SR θ W H w) {id:Nat} {es:List (AV × AV)} (h:H[id]?=some (.mapo es)) {v:Value} (hv:ARel θ W (.mp id) v) :
  ∃ b es' ck,v=.map (some b)/\θ id 0=.at b 0 0/\w.heap[b]?=some (.map es' ck)/\(es'.size=es.length/\∀ x∈es'.toList,x.born<ck)/\MpR θ W es es'.toList /\
   (∀ (j:Nat) (e:AV × AV) (e':MapEntry),es[j]?=some e->es'[j]?=some e'->ARel θ W e.1 e'.key/\ARel θ W e.2 e'.val)/\∀ ver,0<ver->θ id ver=.no:=by
 obtain ⟨⟨b,es',ck,h1,h2,h3,h4⟩,h5⟩:=hS.obj id _ h
 refine ⟨b,es',ck,?_,h1,h2,h3,.of (by simpa using h3.1) fun j e e' hj he=>h4 j e e' hj (by simpa using he),h4,h5⟩
 cases hv with
 | mp _ b' h'=>rw [h1] at h'; cases h'; rfl
 | mpDead _ _ h'=>rw [h1] at h'; cases h'
theorem ok_mget {t : TypeId} {x y : Operand} {kd : Option IntKind} {z : AV} {ok : Bool} {mx my : MA} (ho : o.op = .lookup t x y ok) (hm : cMap P t = some (kd, z)) (hx : cArg lv x = some mx) (hy : cArg lv y = some my)
    (hd : o.dst.all (decide <| · < N) = true) (h : withV (mgetV st.H kd z ok (st.get mx) (st.get my)) (cDst lv o.dst) K st) : OpOk lv P N o st K := by
  intro a w θ W next Q hR hk
  obtain ⟨r, hv, h⟩ := withV_inv h
  obtain ⟨kt, et, ht, hkd, i, zv, hi, hz, hzr⟩ := cMap_inv hm
  have hcheck := key_check hkd w (a.eval y)
  have hzero : (zeroValue et).run P w = .ok zv w := by simp [zeroValue, typeInfo, hi, hz]
  have ha := hR.arg hx
  have hb := hR.arg hy
  unfold mgetV at hv
  split at hv
  · rename_i e
    split at hv
    · rename_i hkk
      cases hv
      rw [e] at ha
      obtain ⟨r', h1, h2⟩ := find_ok (es := []) (l := []) (r := none) hR.mem hkd hb hkk trivial rfl rfl
      cases r' with
      | some _ => exact h2.elim
      | none =>
        generalize hva : a.eval x = va at ha
        cases ha with | p _ _ ha =>
        cases ha
        refine end_same hR hd hk (v := if ok = true then .tuple #[zv, .bool false] else zv) ?_ (mok_rel (hzr θ W)) h
        have hc := hcheck true 9999
        cases ok <;> simp [execOp, ho, hva, Instr.lookup, run_underlying ht, hc, h1, hzero, Result.andThen]
    · cases hv
  · rename_i id e
    rw [e] at ha
    split at hv
    · rename_i es he
      split at hv
      · rename_i hkk
        simp only [Bool.and_eq_true] at hkk
        obtain ⟨b, es', ck, hva, hth, hw, hsz, hmr, _, _⟩ := mapo_inv hR.mem he ha
        have hg : (getObj b).run P w = .ok (.map es' ck) w := by simp [getObj, Sem.run, hw]
        have hc := hcheck es'.isEmpty 9999
        split at hv
        · rename_i j v hf
          cases hv
          obtain ⟨r', h1, h2⟩ := find_ok hR.mem hkd hb hkk.1 hmr hkk.2 hf
          cases r' with
          | none => exact h2.elim
          | some y =>
            refine end_same hR hd hk (v := if ok = true then .tuple #[y.2, .bool true] else y.2) ?_ (mok_rel h2.2.1) h
            cases ok <;> simp [execOp, ho, hva, Instr.lookup, run_underlying ht, hg, hc, h1, Result.andThen]
        · rename_i hf
          cases hv
          obtain ⟨r', h1, h2⟩ := find_ok hR.mem hkd hb hkk.1 hmr hkk.2 hf
          cases r' with
          | some _ => exact h2.elim
          | none =>
            refine end_same hR hd hk (v := if ok = true then .tuple #[zv, .bool false] else zv) ?_ (mok_rel (hzr θ W)) h
            cases ok <;> simp [execOp, ho, hva, Instr.lookup, run_underlying ht, hg, hc, h1, hzero, Result.andThen]
        · cases hv
      · cases hv
    · cases hv
  · cases hv
theorem key_bits {H : List AO} {w : World} (hS : SR θ W H w) {kd : Option IntKind} {x : AV} {u : Value} (hx : ARel θ W x u) (kx : keyOk kd H x = true) : Instr.sameBits 10000 u u = true := by
  cases kd with
  | some k =>
    obtain ⟨z, rfl⟩ := int_key kx
    cases hx with | p _ _ hx =>
    cases hx
    simp [Instr.sameBits]
  | none =>
    obtain ⟨id, off, b, sz, tot, vs, ty, rfl, h1, rfl, h2⟩ := alive_inv hS hx (by simpa [keyOk] using kx)
    simp [Instr.sameBits]
theorem ok_mset {t : TypeId} {x y v : Operand} {kd : Option IntKind} {z : AV} {mx my mv : MA} (ho : o.op = .mapUpdate t x y v) (hm : cMap P t = some (kd, z)) (hx : cArg lv x = some mx) (hy : cArg lv y = some my) (hv : cArg lv v = some mv)
    (hd : o.dst.all (decide <| · < N) = true) (h : withH (msetH st.H kd (st.get mx) (st.get my) (st.get mv)) (cDst lv o.dst) K st) : OpOk lv P N o st K := by
  intro a w θ W next Q hR hk
  cases hH : msetH st.H kd (st.get mx) (st.get my) (st.get mv) with
  | none => rw [hH] at h; exact h.elim
  | some H' =>
  rw [hH] at h
  obtain ⟨kt, et, ht, hkd, i, zv, hi, hz, hzr⟩ := cMap_inv hm
  have ha := hR.arg hx
  have hb := hR.arg hy
  have hvv := hR.arg hv
  have hc := key_check hkd w (a.eval y) false 9999
  unfold msetH at hH
  split at hH
  rotate_left
  · cases hH
  rename_i id e
  rw [e] at ha
  split at hH
  rotate_left
  · cases hH
  rename_i es he
  split at hH
  rotate_left
  · cases hH
  rename_i hkk
  simp only [Bool.and_eq_true] at hkk
  obtain ⟨b, es', ck, hva, hth, hw, hsz, hmr, hrel, hno⟩ := mapo_inv hR.mem he ha
  have hg : (getObj b).run P w = .ok (.map es' ck) w := by simp [getObj, Sem.run, hw]
  have hset : ∀ ob : Obj, (setObj b ob).run P w = .ok () { w with heap := w.heap.setIfInBounds b ob } := fun ob => by simp [setObj, Sem.run, hw]
  have hidl : id < st.H.length := (List.getElem?_eq_some_iff.1 he).1
  have hbl : b < w.heap.size := (Array.getElem?_eq_some_iff.1 hw).1
  have fin : ∀ (fs : List (AV × AV)) (fs' : Array MapEntry) (ck' : Nat), (fs'.size = fs.length ∧ ∀ x ∈ fs'.toList, x.born < ck') → (∀ (j : Nat) (e : AV × AV) (e' : MapEntry), fs[j]? = some e → fs'[j]? = some e' → ARel θ W e.1 e'.key ∧ ARel θ W e.2 e'.val) →
      (execOp a.eval o).run P w = .ok .skip { w with heap := w.heap.setIfInBounds b (.map fs' ck') } → K (St.put ⟨st.L, st.T, st.H.set id (.mapo fs)⟩ (cDst lv o.dst) .any) → o.wp P a w next Q := by
    intro fs fs' ck' f1 f2 hrun hK
    obtain ⟨s1, s2⟩ := hR.mem.write (w' := { w with heap := w.heap.setIfInBounds b (.map fs' ck') }) id 0 b 0 0 (.mapo fs) hidl hth rfl rfl rfl (by simp) (fun k hk' => by simp [Ne.symm hk'])
      ⟨⟨b, fs', ck', hth, by simp [hbl], f1, f2⟩, hno⟩
    exact end_skip hR hd hk hrun s1 s2 hK
  split at hH
  · rename_i j v' hf
    cases hH
    obtain ⟨r', h1, h2⟩ := find_ok hR.mem hkd hb hkk.1 hmr hkk.2 hf
    cases r' with
    | none => exact h2.elim
    | some q =>
      obtain ⟨q1, q2, e', q3, q4⟩ := h2
      have q1 : q.1 = j := by omega
      have q3 : es'[j]? = some e' := by simpa using q3
      have hkeep : (Instr.keyThatStays (a.eval y) (a.eval y)).run P w = .ok (a.eval y) w := by simp [Instr.keyThatStays, key_bits hR.mem hb hkk.1]
      refine fin (es.set j (st.get my, st.get mv)) (es'.modify j fun e => { e with key := a.eval y, val := a.eval v }) ck ⟨by simp [hsz.1], fun x hx => ?_⟩ (fun k c c' hk1 hk2 => ?_) ?_ h
      · obtain ⟨i, hi⟩ := List.getElem?_of_mem hx
        rw [Array.getElem?_toList, Array.getElem?_modify] at hi
        split at hi
        · obtain ⟨y, hy, rfl⟩ := Option.map_eq_some_iff.1 hi
          exact hsz.2 y (List.mem_of_getElem? (i := i) (by rw [Array.getElem?_toList]; exact hy))
        · exact hsz.2 x (List.mem_of_getElem? (i := i) (by rw [Array.getElem?_toList]; exact hi))
      · by_cases ek : j = k
        · subst ek
          have hjl : j < es.length := by rw [← hsz.1]; exact (Array.getElem?_eq_some_iff.1 q3).1
          rw [List.getElem?_set_self hjl] at hk1
          cases hk1
          simp [Array.getElem?_modify, q3] at hk2
          subst hk2
          exact ⟨hb, hvv⟩
        · rw [List.getElem?_set_ne ek] at hk1
          simp [Array.getElem?_modify, ek] at hk2
          exact hrel k c c' hk1 hk2
      · simp [execOp, ho, hva, Instr.mapUpdate, run_underlying ht, hg, hc, h1, q1, q3, q4, hkeep, hset, Result.andThen]
  · rename_i hf
    cases hH
    obtain ⟨r', h1, h2⟩ := find_ok hR.mem hkd hb hkk.1 hmr hkk.2 hf
    cases r' with
    | some _ => exact h2.elim
    | none =>
      refine fin (es ++ [(st.get my, st.get mv)]) (es'.push { key := a.eval y, val := a.eval v, born := ck }) (ck + 1) ⟨by simp [hsz.1], fun x hx => ?_⟩ (fun k c c' hk1 hk2 => ?_) ?_ h
      · rw [Array.toList_push, List.mem_append] at hx
        rcases hx with hx | hx
        · exact Nat.lt_succ_of_lt (hsz.2 x hx)
        · cases List.mem_singleton.1 hx; exact Nat.lt_succ_self _
      · rcases Nat.lt_or_ge k es.length with hl | hl
        · rw [List.getElem?_append_left hl] at hk1
          rw [Array.getElem?_push, if_neg (by omega)] at hk2
          exact hrel k c c' hk1 hk2
        · rw [List.getElem?_append_right hl] at hk1
          have : k - es.length = 0 := by
            have := (List.getElem?_eq_some_iff.1 hk1).1
            simp at this; omega
          have hk : k = es'.size := by omega
          rw [this] at hk1
          cases hk1
          rw [Array.getElem?_push, if_pos hk] at hk2
          cases hk2
          exact ⟨hb, hvv⟩
      · simp [execOp, ho, hva, Instr.mapUpdate, run_underlying ht, hg, hc, h1, hset, Result.andThen]
  · cases hH
end Go.AM
set_option linter.all false
namespace Go.AM
variable {lv:List Nat} {P:Program} {N:Nat} {o:Oper} {st:St} {K:St->Prop} {θ:Th} {W:Im}
theorem SR.immNew {H:List AO} {w w':World} (h:SR θ W H w) (f:Nat->Option Value) (hos:w'.os=w.os) (htp:w'.tape=w.tape) (hou:w'.output=w.output) (hsz:w.heap.size<=w'.heap.size)
  (hold:∀ b,b<w.heap.size->w'.heap[b]?=w.heap[b]?) (hf:∀ o v,f o=some v->w'.cell? ⟨w.heap.size,o,none⟩=some v) :
  SR θ (fun b o=>if b=w.heap.size then f o else W b o) H w'/\Stp θ W w θ (fun b o=>if b=w.heap.size then f o else W b o) w':=by
 have hlt:∀ b o v,W b o=some v->b<w.heap.size:=fun b o v hb=>by
  have:=h.imm b o v hb
  rcases Nat.lt_or_ge b w.heap.size with h1 | h1
  ·exact h1
  ·simp [World.cell?,Array.getElem?_eq_none h1] at this
 have hW:∀ b o v,W b o=some v->(if b=w.heap.size then f o else W b o)=some v:=fun b o v hb=>by
  rw [if_neg (by have:=hlt b o v hb; omega)]; exact hb
 have hcell:∀ b o,b<w.heap.size->w'.cell? ⟨b,o,none⟩=w.cell? ⟨b,o,none⟩:=fun b o hb=>by simp [World.cell?,hold b hb]
 refine ⟨⟨fun b o v hv=>?_,fun id ob hid=>?_,h.out,fun b hb o=>?_,h.inj⟩,⟨hos,htp,hou,hsz,fun b hb _=>hold b hb,hW,fun b hb _ o=>?_,fun _ _ _=>.inl rfl,fun b hb=>.inl hb⟩⟩
 ·have hv:(if b=w.heap.size then f o else W b o)=some v:=hv
  by_cases e:b=w.heap.size
  ·rw [if_pos e] at hv
   rw [e]; exact hf o v hv
  ·rw [if_neg e] at hv
   rw [hcell b o (hlt b o v hv)]; exact h.imm b o v hv
 ·exact (h.obj id ob hid).mono (fun ver=>rfl) (fun ver b sz tot hb=>hold b (h.ownedLt hb)) (fun x v hx=>hx.mono hW fun _ _ _=>.inl rfl) hW (fun b v o' hb ho=>by rw [hold b (h.lt hb)]; exact ho)
 ·show (if b=w.heap.size then f o else W b o)=none
  obtain ⟨id,ver,sz,tot,hb2⟩:=hb
  rw [if_neg (by have:=h.ownedLt hb2; omega)]
  exact h.own b ⟨id,ver,sz,tot,hb2⟩ o
 ·show (if b=w.heap.size then f o else W b o)=W b o
  rw [if_neg (by omega)]
theorem ok_s2b {s t e:TypeId} {x:Operand} {m:MA} (ho:o.op=.convert s t x) (hs:P.underlying s=some .string) (ht:P.underlying t=some (.slice e)) (he:P.underlying e=some (.int .u8)) (hx:cArg lv x=some m)
  (hd:o.dst.all (decide <| ·<N)=true) (h:withV (s2bV (st.get m)) (cDst lv o.dst) K st):OpOk lv P N o st K:=by
 intro a w θ W next Q hR hk
 have h1:=hR.arg hx
 obtain ⟨v,hv,hK⟩:=withV_inv h
 unfold s2bV at hv
 split at hv
 rotate_left
 ·cases hv
 rename_i l hl
 cases hv
 rw [hl] at h1
 generalize hva:a.eval x=va at h1
 have h2:=h1.p_inv
 cases h2 with
 | s _ hlen =>
 have hc:=Lib.run_convert_string_bytes (P:=P) w s t e ⟨l.toArray⟩ hs ht he
 have hsz:(⟨l.toArray⟩:ByteArray).size=l.length:=by simp [ByteArray.size]
 have hrun:(execOp a.eval o).run P w=.ok (.value (.slice (some ⟨w.heap.size,0,none⟩) l.length (grownCap w l.length 0 e))) (Lib.bytesWorld w e ⟨l.toArray⟩):=by
  simp only [execOp,ho,hva]
  rw [hsz] at hc
  simp [hc,Result.andThen]
 obtain ⟨a1,a2⟩:=hR.mem.immNew (w':=Lib.bytesWorld w e ⟨l.toArray⟩) (fun o=>if o<l.length then some (.int .u8 (l.getD o 0).toNat) else none) rfl rfl rfl (by rw [Lib.bytesWorld_size]; omega) (fun b hb=>Lib.bytesWorld_at_old w e _ b hb) (fun o v hv=>by
  split at hv
  ·rename_i hlt
   cases hv
   exact Lib.bytesWorld_cell w e ⟨l.toArray⟩ o (by rw [hsz]; exact hlt)
  ·cases hv)
 refine end_value hR hd hk hrun ?_ a1 a2 hK
 have hge:=grownCap_ge w l.length 0 e
 have:=PRel.l (W:=fun b o=>if b=w.heap.size then (if o<l.length then some (.int .u8 (l.getD o 0).toNat) else none) else W b o) (l.map fun c=>[PV.i .u8 c.toNat]) (some ⟨w.heap.size,0,none⟩) (grownCap w l.length 0 e) 1 (fun i _=>.int .u8 (l.getD i 0).toNat)
  (by simpa using hge) (by simpa using hlen) (fun e=>by cases e) (fun _ x hx=>by cases hx; rfl) (fun r hr=>by obtain ⟨c,_,rfl⟩:=List.mem_map.1 hr; rfl)
  (fun i r j q hi hj x hx=>by
   cases hx
   rw [List.getElem?_map] at hi
   obtain ⟨c,hc,rfl⟩:=Option.map_eq_some_iff.1 hi
   have hlt:=(List.getElem?_eq_some_iff.1 hc).1
   have hj0:j=0:=by
    have:=(List.getElem?_eq_some_iff.1 hj).1
    simp at this; omega
   subst hj0
   simp [hlt])
  (fun i r j q hi hj=>by
   rw [List.getElem?_map] at hi
   obtain ⟨c,hc,rfl⟩:=Option.map_eq_some_iff.1 hi
   have hj0:j=0:=by
    have:=(List.getElem?_eq_some_iff.1 hj).1
    simp at this; omega
   subst hj0
   cases hj
   have:l.getD i 0=c:=by simp [hc]
   rw [this]
   exact .i _ _)
 rw [List.length_map] at this
 exact .p _ _ this
theorem pureR_spec : ∀ {r : List AV} {y : List PV}, pureR r = some y → y.length = r.length ∧ ∀ (j : Nat) q, y[j]? = some q → r[j]? = some (.p q)
  | [], y, h => by cases h; exact ⟨rfl, fun j q h => by simp at h⟩
  | a :: r, y, h => by
    cases a with
    | p q0 =>
      obtain ⟨l, h1, rfl⟩ := Option.map_eq_some_iff.1 h
      obtain ⟨a1, a2⟩ := pureR_spec h1
      refine ⟨by simp [a1], fun j q hq => ?_⟩
      cases j with
      | zero => cases hq; rfl
      | succ j => exact a2 j q (by simpa using hq)
    | _ => cases h
theorem pureRs_spec : ∀ {rs : List (List AV)} {ys : List (List PV)}, pureRs rs = some ys → ys.length = rs.length ∧ ∀ (i : Nat) y, ys[i]? = some y → ∃ r, rs[i]? = some r ∧ pureR r = some y
  | [], ys, h => by cases h; exact ⟨rfl, fun i y h => by simp at h⟩
  | r :: rs, ys, h => by
    rw [pureRs] at h
    split at h
    · rename_i y0 l h1 h2
      cases h
      obtain ⟨a1, a2⟩ := pureRs_spec h2
      refine ⟨by simp [a1], fun i y hy => ?_⟩
      cases i with
      | zero => cases hy; exact ⟨r, rfl, h1⟩
      | succ i => obtain ⟨r', q1, q2⟩ := a2 i y (by simpa using hy); exact ⟨r', by simpa using q1, q2⟩
    · cases h
theorem ok_bslk {t e : TypeId} {n sz : Nat} {ps : Array (Nat × Operand)} {z : List AV} {ms : List (Nat × MA)} (ho : o.op = .buildSlice t n ps) (ht : P.underlying t = some (.slice e)) (hsz : sizeT P e = some sz) (hz : zeroOf P e = some z) (hzl : z.length = sz) (h0 : 0 < sz) (hmax : n * sz ≤ 16777216)
    (hps : cElems lv ps.toList = some ms) (hd : o.dst.all (decide <| · < N) = true) (h : withV (bslkV st sz z n ms) (cDst lv o.dst) K st) : OpOk lv P N o st K := by
  intro a w θ W next Q hR hk
  obtain ⟨v, hv, hK⟩ := withV_inv h
  unfold bslkV at hv
  cases hrs : rowsV st sz ms (List.replicate n z) with
  | none => rw [hrs] at hv; cases hv
  | some rs =>
    rw [hrs, Option.bind_some] at hv
    obtain ⟨ys, hys, rfl⟩ := Option.map_eq_some_iff.1 hv
    obtain ⟨b1, b2⟩ := pureRs_spec hys
    obtain ⟨vs', hrun, f2, hrl⟩ := bsl_run ho ht hsz hz hzl h0 hmax hps hR hrs
    have hyl : ys.length = n := by rw [b1, hrl]
    obtain ⟨a1, a2⟩ := hR.mem.immNew (w' := w.alloc (.cells vs' e)) (fun o => vs'[o]?) rfl rfl rfl (by simp) (fun b hb => RowKit.Below.heap_alloc w _ b hb) (fun o v hv => by
      have := heap_alloc_new w (.cells vs' e)
      simp only [World.cell?, this]
      simpa using hv)
    have hn1 : n ≤ n * sz := Nat.le_mul_of_pos_right n h0
    have cell : ∀ (i : Nat) (y : List PV) (j : Nat) (q : PV), ys[i]? = some y → y[j]? = some q → ∃ u, vs'[i * sz + j]? = some u ∧ PRel W q u := fun i y j q hi hj => by
      obtain ⟨r, q1, q2⟩ := b2 i y hi
      obtain ⟨q3, q4⟩ := pureR_spec q2
      have hrn : r.length = sz := f2.len r (List.mem_of_getElem? q1)
      have hj2 : j < sz := by have := (List.getElem?_eq_some_iff.1 hj).1; omega
      have hi2 : i < n := by have := (List.getElem?_eq_some_iff.1 hi).1; omega
      have hlt : i * sz + j < vs'.size := by
        rw [f2.size, hrl]
        have : (i + 1) * sz ≤ n * sz := Nat.mul_le_mul_right _ (by omega)
        rw [Nat.add_mul] at this
        omega
      exact ⟨vs'[i * sz + j], Array.getElem?_eq_getElem hlt, (f2.rel i r j _ _ q1 (q4 j q hj) (Array.getElem?_eq_getElem hlt)).p_inv⟩
    have hWW : ∀ b o v, W b o = some v → (fun b o => if b = w.heap.size then vs'[o]? else W b o) b o = some v := fun b o v hb => a2.imm b o v hb
    refine end_value hR hd hk hrun ?_ a1 a2 hK
    have := PRel.l (W := fun b o => if b = w.heap.size then vs'[o]? else W b o) ys (some ⟨w.heap.size, 0, none⟩) n sz (fun i j => (vs'[i * sz + j]?).getD (.bool false)) (by omega) (by unfold maxL; omega) (fun e => by cases e) (fun _ x hx => by cases hx; rfl)
      (fun y hy => by
        obtain ⟨i, hi⟩ := List.getElem?_of_mem hy
        obtain ⟨r, q1, q2⟩ := b2 i y hi
        rw [(pureR_spec q2).1]; exact f2.len r (List.mem_of_getElem? q1))
      (fun i y j q hi hj x hx => by
        cases hx
        obtain ⟨u, hu, _⟩ := cell i y j q hi hj
        simp [hu])
      (fun i y j q hi hj => by
        obtain ⟨u, hu, hr⟩ := cell i y j q hi hj
        rw [hu]
        exact hr.mono hWW)
    rw [hyl] at this
    exact .p _ _ this
end Go.AM
set_option linter.all false
namespace Go.AM
variable {lv:List Nat} {P:Program} {N:Nat} {o:Oper} {st:St} {K:St->Prop} {θ:Th} {W:Im}
theorem map_some_inv {α β:Type} {f:α->β} {x:Option α} {y:β} (h:x.map f=some y):∃ a,x=some a/\f a=y:=by
 cases x with
 | none=>cases h
 | some a=>exact ⟨a,rfl,by simpa using h⟩
theorem args_one {c : Call} {m : MA} (h : cArgs lv c.args.toList = some [m]) : ∃ x, c.args = #[x] ∧ cArg lv x = some m := by
  cases hl : c.args.toList with
  | nil => rw [hl] at h; cases h
  | cons x xs =>
    rw [hl] at h
    simp only [cArgs] at h
    split at h
    · rename_i a l h1 h2
      cases h
      cases xs with
      | nil => exact ⟨x, by apply Array.ext'; simpa using hl, h1⟩
      | cons y ys =>
        simp only [cArgs] at h2
        split at h2
        · cases h2
        · cases h2
    · cases h
theorem args_two {c : Call} {m n : MA} (h : cArgs lv c.args.toList = some [m, n]) : ∃ x y, c.args = #[x, y] ∧ cArg lv x = some m ∧ cArg lv y = some n := by
  cases hl : c.args.toList with
  | nil => rw [hl] at h; cases h
  | cons x xs =>
    rw [hl] at h
    simp only [cArgs] at h
    split at h
    · rename_i a l h1 h2
      cases h
      cases xs with
      | nil => cases h2
      | cons y ys =>
        simp only [cArgs] at h2
        split at h2
        · rename_i b l h3 h4
          cases h2
          cases ys with
          | nil => exact ⟨x, y, by apply Array.ext'; simpa using hl, h1, h3⟩
          | cons z zs =>
            simp only [cArgs] at h4
            split at h4
            · cases h4
            · cases h4
        · cases h2
    · cases h
theorem call_ok {c : Call} {m : MO} (ho : o.op = .call c) (hm : cCall lv P c = some m) (hd : o.dst.all (decide <| · < N) = true) (h : stepU (ACall P) m (cDst lv o.dst) K st) : OpOk lv P N o st K := by
  unfold cCall at hm
  split at hm
  · rename_i f as hc ha
    split at hm
    · split at hm
      · cases hm; exact ok_call ho hc ha hd h
      · cases hm
    · cases hm
  · rename_i t as hc ha
    cases hm
    exact ok_calv ho hc ha hd h
  · rename_i x hc ha
    obtain ⟨y, hy, hx⟩ := args_one ha
    cases ht : c.argTypes[0]? with
    | none => rw [ht] at hm; cases hm
    | some t =>
      rw [ht] at hm
      simp only [Option.bind_some] at hm
      split at hm
      · rename_i e he; cases hm; exact ok_len (s := false) ho hc hy ht ⟨e, he⟩ hx hd h
      · rename_i he; cases hm; exact ok_len (s := true) ho hc hy ht he hx hd h
      · cases hm
  · rename_i x hc ha
    obtain ⟨y, hy, hx⟩ := args_one ha
    cases ht : c.argTypes[0]? with
    | none => rw [ht] at hm; cases hm
    | some t =>
      rw [ht] at hm
      simp only [Option.bind_some] at hm
      split at hm
      · rename_i e he; cases hm; exact ok_cap ho hc hy ht he hx hd h
      · cases hm
  · rename_i x y hc ha
    obtain ⟨x', y', hy, hx1, hx2⟩ := args_two ha
    split at hm
    case h_2 => cases hm
    case h_1 t u0 htu =>
    have hty : c.argTypes = #[t, u0] := by apply Array.ext'; simpa using htu
    split at hm
    case h_1 => cases hm
    case h_2 u hu =>
    split at hm
    case h_2 => cases hm
    case h_1 e he =>
    split at hm
    case h_2 => cases hm
    case h_1 i hi =>
    have he' : P.underlying t = some (.slice e) := by
      unfold elemT at he
      split at he
      · rename_i e' h'; cases he; exact h'
      · cases he
    split at hm
    · rename_i z e' hz
      split at hm
      · rename_i hcc
        simp only [Bool.and_eq_true, beq_iff_eq, decide_eq_true_eq] at hcc
        cases hm
        exact ok_app ho hc hy hty he' hu (.inl ⟨e', rfl⟩) hi hz hcc.1 hcc.2 hx1 hx2 hd h
      · cases hm
    · rename_i z hz
      split at hm
      · rename_i hcc
        simp only [Bool.and_eq_true, beq_iff_eq, decide_eq_true_eq] at hcc
        cases hm
        exact ok_app ho hc hy hty he' hu (.inr rfl) hi hz hcc.1 hcc.2 hx1 hx2 hd h
      · cases hm
    · rename_i z hz
      split at hm
      · rename_i hcc
        simp only [Bool.and_eq_true, beq_iff_eq, decide_eq_true_eq] at hcc
        cases hm
        exact ok_appz ho hc hy hty he' hu hi hz hcc.1 hcc.2 hx1 hx2 hd h
      · cases hm
    · cases hm
  · rename_i x y hc ha
    obtain ⟨x', y', hy, hx1, hx2⟩ := args_two ha
    cases hm
    exact ok_mnx (mx := false) ho hc hy hx1 hx2 hd h
  · rename_i x y hc ha
    obtain ⟨x', y', hy, hx1, hx2⟩ := args_two ha
    cases hm
    exact ok_mnx (mx := true) ho hc hy hx1 hx2 hd h
  · cases hm
theorem cOp_bsl {op : Op} {sz n : Nat} {z : List AV} {ms : List (Nat × MA)} (hm : cOp lv P op = some (.bsl sz z n ms)) : ∃ t e ps, op = .buildSlice t n ps ∧ P.underlying t = some (.slice e) ∧ sizeT P e = some sz ∧ zeroOf P e = some z ∧ cElems lv ps.toList = some ms ∧ z.length = sz ∧ 0 < sz ∧ n * sz ≤ 16777216 := by
  cases op with
  | buildSlice t n' ps =>
    simp only [cOp] at hm
    split at hm
    · rename_i e he
      have he' : P.underlying t = some (.slice e) := by
        unfold elemT at he
        split at he
        · rename_i e' h'; cases he; exact h'
        · cases he
      split at hm
      · rename_i sz z ms hsz hz hps
        split at hm
        · rename_i hcc
          simp only [Bool.and_eq_true, beq_iff_eq, decide_eq_true_eq] at hcc
          cases hm
          exact ⟨t, e, ps, rfl, he', hsz, hz, hps, hcc.1.1, hcc.1.2, hcc.2⟩
        · cases hm
      · cases hm
    · cases hm
  | call c =>
    simp only [cOp, cCall] at hm
    (repeat' split at hm) <;> first | (cases hm; done)
  | slice t x lo hi mx =>
    cases mx with
    | some _ => cases hm
    | none =>
      simp only [cOp] at hm
      split at hm
      · cases hm
      · obtain ⟨n, _, h⟩ := map_some_inv hm; cases h
      · cases hm
  | makeFunc fn first caps =>
    cases fn with
    | func f =>
      simp only [cOp] at hm
      split at hm
      · obtain ⟨x, _, h⟩ := map_some_inv hm; cases h
      · cases hm
    | _ => cases hm
  | makeMap t hint =>
    cases hint with
    | none => cases hm
    | some _ => cases hm
  | _ =>
    simp only [cOp, cNilq, cNii, cSq, cPeq, Option.map_eq_some_iff] at hm
    first
      | (cases hm; done)
      | (obtain ⟨x, _, hm⟩ := hm; cases hm; done)
      | ((repeat' split at hm) <;> first | (cases hm; done) | (simp only [Option.map_eq_some_iff, Option.bind_eq_some_iff] at hm; obtain ⟨x, _, hm⟩ := hm; first | (cases hm; done) | (split at hm <;> cases hm)))
theorem step_bslk {sz n:Nat} {z:List AV} {ms:List (Nat × MA)} (hm:cOp lv P o.op=some (.bsl sz z n ms)) (hd:o.dst.all (decide <| ·<N)=true) (h:withV (bslkV st sz z n ms) (cDst lv o.dst) K st):OpOk lv P N o st K:=by
 obtain ⟨t,e,ps,ho,ht,hsz,hz,hps,hzl,h0,hmax⟩:=cOp_bsl hm
 exact ok_bslk ho ht hsz hz hzl h0 hmax hps hd h
theorem step_ok {m : MO} (hm : cOp lv P o.op = some m) (hd : o.dst.all (decide <| · < N) = true) (h : stepU (ACall P) m (cDst lv o.dst) K st) : OpOk lv P N o st K := by
  cases ho : o.op with
  | move x => rw [ho] at hm; obtain ⟨a, ha, rfl⟩ := map_some_inv hm; exact ok_mv (.inl ho) ha hd h
  | assign x => rw [ho] at hm; obtain ⟨a, ha, rfl⟩ := map_some_inv hm; exact ok_mv (.inr ho) ha hd h
  | pick c x y =>
    rw [ho] at hm
    simp only [cOp] at hm
    split at hm
    · rename_i h1 h2 h3; cases hm; exact ok_pick ho h1 h2 h3 hd h
    · cases hm
  | alloc t => rw [ho] at hm; obtain ⟨z, hz, rfl⟩ := map_some_inv hm; exact ok_alloc ho hz hd h
  | box t x =>
    rw [ho] at hm
    simp only [cOp] at hm
    split at hm
    · rename_i h1 h2; cases hm; exact ok_box ho h1 hd h
    · cases hm
  | build t ps =>
    rw [ho] at hm
    simp only [cOp] at hm
    split at hm
    · rename_i fs hfs
      split at hm
      · rename_i z ms hz hps
        split at hm
        · rename_i hcc
          simp only [Bool.and_eq_true, List.all_eq_true, decide_eq_true_eq] at hcc
          cases hm
          exact ok_build ho hfs (fun f hf => Option.isSome_iff_exists.1 (hcc.1 f (by simpa using hf))) hz hps hcc.2 hd h
        · cases hm
      · cases hm
    · cases hm
  | buildSlice t n ps =>
    rw [ho] at hm
    simp only [cOp] at hm
    split at hm
    · rename_i e he
      have he' : P.underlying t = some (.slice e) := by
        unfold elemT at he
        split at he
        · rename_i e' h'; cases he; exact h'
        · cases he
      split at hm
      · rename_i sz z ms hsz hz hps
        split at hm
        · rename_i hcc
          simp only [Bool.and_eq_true, beq_iff_eq, decide_eq_true_eq] at hcc
          cases hm
          exact ok_bsl ho he' hsz hz hcc.1.1 hcc.1.2 hcc.2 hps hd h
        · cases hm
      · cases hm
    · cases hm
  | load t x =>
    rw [ho] at hm
    simp only [cOp] at hm
    split at hm
    · rename_i h1 h2 h3; cases hm; exact ok_ld ho h1 h2 h3 hd h
    · cases hm
  | store t x v =>
    rw [ho] at hm
    simp only [cOp] at hm
    split at hm
    · rename_i h1 h2 h3
      split at hm
      · rename_i hn; cases hm; exact ok_sto ho h1 h2 h3 (by simpa using hn) hd h
      · cases hm
    · cases hm
  | nilCheck x => rw [ho] at hm; obtain ⟨a, ha, rfl⟩ := map_some_inv hm; exact ok_nilc ho ha hd h
  | binOp op t x y u =>
    rw [ho] at hm
    simp only [cOp] at hm
    split at hm
    · rename_i h1 h2 h3; cases hm; exact ok_bin ho h1 h2 hd h
    · rename_i h1 h2 h3; cases hm; exact ok_bin ho h1 h2 hd h
    · rename_i h1 h2 h3
      split at hm
      · cases hm; exact ok_beq (ne := false) ho h3 h1 h2 hd h
      · cases hm; exact ok_beq (ne := true) ho h3 h1 h2 hd h
      · cases hm
    · rename_i h1 h2 h3
      unfold cSq at hm
      split at hm
      · rename_i hc
        simp only [Bool.and_eq_true, Bool.not_eq_true'] at hc
        split at hm
        · cases hm; exact ok_sq (ne := false) ho h3 hc.1.1 hc.1.2 hc.2 h1 h2 hd h
        · cases hm; exact ok_sq (ne := true) ho h3 hc.1.1 hc.1.2 hc.2 h1 h2 hd h
        · cases hm
      · cases hm
    · rename_i h1 h2 h3
      unfold cNii at hm
      split at hm
      · cases hm; exact ok_nii (ne := false) ho h3 h1 h2 hd h
      · cases hm; exact ok_nii (ne := true) ho h3 h1 h2 hd h
      · cases hm
    · rename_i h1 h2 h3
      unfold cNilq at hm
      split at hm
      · cases hm; exact ok_nilq_s (ne := false) ho h3 h1 h2 hd h
      · cases hm; exact ok_nilq_s (ne := true) ho h3 h1 h2 hd h
      · cases hm
    · rename_i h1 h2 h3
      unfold cNilq at hm
      split at hm
      · cases hm; exact ok_nilq_p (ne := false) ho h3 h1 h2 hd h
      · cases hm; exact ok_nilq_p (ne := true) ho h3 h1 h2 hd h
      · cases hm
    · rename_i h1 h2 h3
      unfold cPeq at hm
      split at hm
      · rename_i n hn
        split at hm
        · rename_i h0
          split at hm
          · cases hm; exact ok_peq (ne := false) ho h3 hn (of_decide_eq_true h0) h1 h2 hd h
          · cases hm; exact ok_peq (ne := true) ho h3 hn (of_decide_eq_true h0) h1 h2 hd h
          · cases hm
        · cases hm
      · cases hm
    · cases hm
  | makeMap t hint =>
    rw [ho] at hm
    cases hint with
    | none => cases hm; exact ok_mkm ho hd h
    | some _ => cases hm
  | lookup t x y ok =>
    rw [ho] at hm
    simp only [cOp] at hm
    split at hm
    · rename_i h1 h2 h3; cases hm; exact ok_mget ho h1 h2 h3 hd h
    · cases hm
  | mapUpdate t x y v =>
    rw [ho] at hm
    simp only [cOp] at hm
    split at hm
    · rename_i h1 h2 h3 h4; cases hm; exact ok_mset ho h1 h2 h3 h4 hd h
    · cases hm
  | unOp op t x => rw [ho] at hm; obtain ⟨a, ha, rfl⟩ := map_some_inv hm; exact ok_un ho ha hd h
  | convert s t x =>
    rw [ho] at hm
    simp only [cOp] at hm
    split at hm
    · rename_i h1 h2 h3; cases hm; exact ok_conv ho h2 h3 h1 hd h
    · rename_i h1 h2 h3
      split at hm
      · rename_i h4; cases hm; exact ok_b2s ho h2 h4 h3 h1 hd h
      · cases hm
    · rename_i h1 h2 h3
      split at hm
      · rename_i h4; cases hm; exact ok_s2b ho h2 h3 h4 h1 hd h
      · cases hm
    · cases hm
  | makeFunc fn first caps =>
    rw [ho] at hm
    cases fn with
    | func f =>
      simp only [cOp] at hm
      split at hm
      · rename_i hf
        obtain ⟨a, ha, rfl⟩ := map_some_inv hm
        exact ok_mkf ho (by simpa using hf) ha hd h
      · cases hm
    | _ => cases hm
  | makeSlice t l c =>
    rw [ho] at hm
    simp only [cOp] at hm
    split at hm
    · rename_i e l' c' he h1 h2
      have he' : P.underlying t = some (.slice e) := by
        unfold elemT at he
        split at he
        · rename_i e' h'; cases he; exact h'
        · cases he
      split at hm
      · rename_i i z hi hz
        split at hm
        · rename_i hcc
          simp only [Bool.and_eq_true, beq_iff_eq, decide_eq_true_eq] at hcc
          cases hm
          exact ok_mks ho he' hi hz hcc.1 hcc.2 h1 h2 hd h
        · cases hm
      · cases hm
    · cases hm
  | slice t x lo hi mx =>
    rw [ho] at hm
    cases mx with
    | some _ => cases hm
    | none =>
      simp only [cOp] at hm
      split at hm
      · rename_i h1 h2 h3 h4; cases hm; exact ok_slc_string ho h1 h2 h3 h4 hd h
      · rename_i h1 h2 h3 h4
        obtain ⟨n, hn, rfl⟩ := map_some_inv hm
        exact ok_slc ho h1 hn h2 h3 h4 hd h
      · cases hm
  | fieldAddr s x f =>
    rw [ho] at hm
    simp only [cOp] at hm
    split at hm
    · rename_i h1 h2
      split at hm
      · rename_i hn; cases hm; exact ok_fad ho h2 h1 (by simpa using hn) hd h
      · cases hm
    · cases hm
  | field s x f =>
    rw [ho] at hm
    simp only [cOp] at hm
    split at hm
    · rename_i h1 h2
      obtain ⟨g, hg, rfl⟩ := map_some_inv hm
      exact ok_fld ho h2 h1 hg hd (by rw [← su_fld (C := ACall P)]; exact h)
    · cases hm
  | indexAddr t x i =>
    rw [ho] at hm
    simp only [cOp] at hm
    split at hm
    · rename_i e x' i' h1 h2 h3
      cases hs : sizeT P e with
      | none => rw [hs] at hm; cases hm
      | some n =>
        rw [hs] at hm
        simp only [Option.bind_some] at hm
        split at hm
        · rename_i hn; cases hm; exact ok_ixs ho h1 hs (by simpa using hn) h2 h3 hd h
        · cases hm
    · rename_i h1 h2 h3
      obtain ⟨n, hn, rfl⟩ := map_some_inv hm
      exact ok_ixa ho h1 hn h2 h3 hd h
    · cases hm
  | index t x i =>
    rw [ho] at hm
    simp only [cOp] at hm
    split at hm
    · rename_i h1 h2 h3; cases hm; exact ok_ixt ho h1 h2 h3 hd h
    · cases hm
  | extract x n => rw [ho] at hm; obtain ⟨a, ha, rfl⟩ := map_some_inv hm; exact ok_ext ho ha hd h
  | call c => rw [ho] at hm; exact call_ok ho hm hd h
  | _ => rw [ho] at hm; cases hm
end Go.AM
set_option linter.all false
namespace Go.AM
variable {lv:List Nat} {P:Program} {N:Nat} {st:St} {K:St->Prop} {θ:Th} {W:Im} {ops:Array Oper}
theorem Rl.clear {a:Act} {w:World} (h:Rl lv N st a w θ W):Rl lv N ⟨st.L,[],st.H⟩ a w θ W :=
 ⟨h.defers,h.size,h.loc,fun t ht=>.any _,h.mem⟩
theorem eget_ekeep (kl : List Nat) (L : En) (t : Nat) : eget (ekeep kl L) t = if lmem kl t = true then eget L t else .any := by
  induction L with
  | nil => simp [ekeep, eget]
  | cons kv L ih =>
    obtain ⟨k, v⟩ := kv
    simp only [ekeep]
    by_cases hk : lmem kl k = true
    · simp only [hk, if_true, eget, ih]
      by_cases e : k = t
      · subst e; simp [hk]
      · simp [e]
    · simp only [hk, Bool.false_eq_true, if_false, eget, ih]
      by_cases e : k = t
      · subst e; simp [hk]
      · simp [e]
theorem Rl.keep {a:Act} {w:World} (h:Rl lv N st a w θ W) (kl:List Nat):Rl lv N ⟨ekeep kl st.L,[],st.H⟩ a w θ W :=
 ⟨h.defers,h.size,fun t ht=>by
  show ARel θ W (eget (ekeep kl st.L) t) _
  rw [eget_ekeep]
  split
  ·exact h.loc t ht
  ·exact .any _,fun t ht=>.any _,h.mem⟩
theorem undef_rel (θ:Th) (W:Im):ARel θ W (.tup []) undef:=.tup [] #[] rfl (fun j c v hj=>by simp at hj)
theorem tup0_inv {v : Value} (h : ARel θ W (.tup []) v) : v = .tuple #[] := by
  cases h with
  | tup _ us hs hc =>
    have : us = #[] := by cases us; simp at hs; simp [hs]
    rw [this]
theorem oper_ok (o : Oper) (h : stepI (ACall P) (cOper lv P N ops o) K st) {a : Act} {w : World} {next : Act → World → Prop} {Q : Exit → Act → World → Prop} (hR : Rl lv N st a w θ W)
    (hk : ∀ st' a' w' θ' W', K st' → Rl lv N st' a' w' θ' W' → Stp θ W w θ' W' w' → next a' w') :
    if Region.wanted o (yielded ops a.tmps) then o.wp P a w next Q else next (a.put o.dst undef) w := by
  unfold cOper at h
  split at h
  case h_2 => exact h.elim
  case h_1 m g hm hg =>
  split at h
  case isFalse => exact h.elim
  case isTrue hd =>
  cases hgd : o.guard with
  | none =>
    rw [hgd] at hg
    cases hg
    have hw : Region.wanted o (yielded ops a.tmps) = true := by simp [Region.wanted, hgd]
    rw [if_pos hw]
    exact step_ok hm hd h a w θ W next Q hR hk
  | some jw =>
    obtain ⟨j, want⟩ := jw
    rw [hgd] at hg
    simp only [cGuard] at hg
    split at hg
    case h_2 => cases hg
    case h_1 t ht =>
    cases hg
    have h1 := hR.tmpArg t
    have h' : guardK (st.get (cTmp lv t)) want (stepU (ACall P) m (cDst lv o.dst) K) (skipK (cDst lv o.dst) K) st := h
    rcases guardK_inv h' with ⟨e, h3⟩ | ⟨b, e, h2, h3⟩
    · rw [e] at h1
      have hu : yielded ops a.tmps j = none := by
        have e1 := tup0_inv h1
        simp only [Act.eval] at e1
        unfold yielded
        rw [ht]
        simp only [Option.bind_some]
        by_cases hlt : t < a.tmps.size
        · simp [Array.getD, hlt] at e1; simp [hlt, e1]
        · simp [hlt]
      have hw : ¬ Region.wanted o (yielded ops a.tmps) = true := by simp [Region.wanted, hgd, hu]
      rw [if_neg hw]
      exact hk _ _ _ _ _ h3 (hR.put hd (undef_rel _ _) hR.mem (Stp.refl _ _ _)) (Stp.refl _ _ _)
    · rw [e] at h1
      have e1 := h1.b_inv
      simp only [Act.eval] at e1
      have hb : a.tmps[t]? = some (.bool b) := by
        by_cases hlt : t < a.tmps.size
        · simp [Array.getD, hlt] at e1; simp [hlt, e1]
        · simp [Array.getD, hlt, undef] at e1
      have hyield : yielded ops a.tmps j = some b := by simp [yielded, ht, hb]
      by_cases e : b = want
      · have hw : Region.wanted o (yielded ops a.tmps) = true := by simp [Region.wanted, hgd, hyield, e]
        rw [if_pos hw]
        exact step_ok hm hd (h2 e) a w θ W next Q hR hk
      · have hw : ¬ Region.wanted o (yielded ops a.tmps) = true := by simp [Region.wanted, hgd, hyield, e]
        rw [if_neg hw]
        exact hk _ _ _ _ _ (h3 e) (hR.put hd (undef_rel _ _) hR.mem (Stp.refl _ _ _)) (Stp.refl _ _ _)
theorem ops_ok {Q : Exit → Act → World → Prop} (l : List Oper) : ∀ (st : St) (a : Act) (w : World) (θ : Th) (W : Im), runOps (ACall P) (l.map (cOper lv P N ops)) K st → Rl lv N st a w θ W →
    (∀ st' a' w' θ' W', K st' → Rl lv N st' a' w' θ' W' → Stp θ W w θ' W' w' → Q .normal a' w') → wpList P ops Q l a w := by
  induction l with
  | nil => intro st a w θ W h hR hk; exact hk _ _ _ _ _ h hR (Stp.refl _ _ _)
  | cons o l ih =>
    intro st a w θ W h hR hk
    have key := oper_ok (Q := Q) (next := wpList P ops Q l) o h hR (fun st' a' w' θ' W' hst' hR' hs' => ih st' a' w' θ' W' hst' hR' (fun st2 a2 w2 θ2 W2 h2 hR2 hs2 => hk st2 a2 w2 θ2 W2 h2 hR2 (hs'.trans hs2)))
    unfold wpList
    split
    · rename_i hw; rw [if_pos hw] at key; exact .inl key
    · rename_i hw; rw [if_neg hw] at key; exact key
def Cq (lv:List Nat) (N:Nat) (Qs:Ex->St->Prop) (θ:Th) (W:Im) (w:World):Exit->Act->World->Prop:=fun e a' w' =>
 match e with
 | .normal=>∃ st' θ' W',Rl lv N st' a' w' θ' W'/\Stp θ W w θ' W' w'/\Qs .nm st'
 | .exit id=>∃ st' θ' W',Rl lv N st' a' w' θ' W'/\Stp θ W w θ' W' w'/\Qs (.ex id) st'
 | .ret=>∃ st' θ' W',Rl lv N st' a' w' θ' W'/\Stp θ W w θ' W' w'/\Qs .rt st'
 | _=>False
theorem Cq.trans {Qs:Ex->St->Prop} {θ':Th} {W':Im} {w w':World} (hs:Stp θ W w θ' W' w') {e:Exit} {a:Act} {w2:World} (h:Cq lv N Qs θ' W' w' e a w2):Cq lv N Qs θ W w e a w2:=by
 cases e with
 | normal=>obtain ⟨s,t,u,h1,h2,h3⟩:=h; exact ⟨s,t,u,h1,hs.trans h2,h3⟩
 | exit id=>obtain ⟨s,t,u,h1,h2,h3⟩:=h; exact ⟨s,t,u,h1,hs.trans h2,h3⟩
 | ret=>obtain ⟨s,t,u,h1,h2,h3⟩:=h; exact ⟨s,t,u,h1,hs.trans h2,h3⟩
 | goto l=>exact h.elim
 | panic c=>exact h.elim
 | outgrown=>exact h.elim
theorem wp_loop_ghost {α : Type} {c : Code} {Q : Exit → Act → World → Prop} {a : Act} {w : World} (I : α → Act → World → Prop) (μ : α → Nat) (x : α) (h₀ : I x a w)
    (round : ∀ x a w, I x a w → c.wp P (Exit.then (fun a' w' => ∃ y, I y a' w' ∧ μ y < μ x) Q) a w) : (Code.loop c).wp P Q a w := by
  intro b k cs
  have key : ∀ n x a w, μ x = n → I x a w →
      ∃ e a' w', Q e a' w' ∧ Arrives P (lone (b.at a (.code c :: .inLoop c :: k)) cs w) b k cs e a' w' := by
    intro n
    induction n using Nat.strongRecOn with
    | _ n ih =>
      intro x a w hn hI
      obtain ⟨e, a₁, w₁, hq, harr⟩ := round x a w hI b (.inLoop c :: k) cs
      cases e with
      | normal =>
        obtain ⟨y, hI₁, hlt⟩ := hq
        obtain ⟨e₂, a₂, w₂, hq₂, harr₂⟩ := ih (μ y) (hn ▸ hlt) y a₁ w₁ rfl hI₁
        exact ⟨e₂, a₂, w₂, hq₂, .of_steps (Steps.trans harr (.one step_inLoop)) harr₂⟩
      | exit id => exact ⟨_, a₁, w₁, hq, .pass (x := .inLoop c) rfl (fun _ _ => .inl (by simp)) harr⟩
      | goto l => exact ⟨_, a₁, w₁, hq, .pass (x := .inLoop c) rfl (fun _ _ => .inl (by simp)) harr⟩
      | ret => exact ⟨_, a₁, w₁, hq, .pass (x := .inLoop c) rfl (fun _ _ => .inl (by simp)) harr⟩
      | panic ch => exact ⟨_, a₁, w₁, hq, .pass (x := .inLoop c) rfl (fun _ _ => .inl (by simp)) harr⟩
      | outgrown => exact ⟨_, a₁, w₁, hq, .pass (x := .inLoop c) rfl (fun _ _ => .inl (by simp)) harr⟩
  obtain ⟨e, a', w', hq, harr⟩ := key _ x a w rfl h₀
  exact ⟨e, a', w', hq, .of_steps (.one step_loop) harr⟩
end Go.AM
set_option linter.all false
namespace Go.AM
variable {lv:List Nat} {P:Program} {N:Nat} {K:St->Prop} {θ:Th} {W:Im} {ops:Array Oper} {C:CallP}
def MO.args:MO->List MA
 | .mv x=>[x] | .pick a b c=>[a,b,c] | .alloc _=>[] | .box _ x=>[x]
 | .build _ ps=>ps.map (·.2.2) | .bsl _ _ _ ps=>ps.map (·.2) | .bslk _ _ _ ps=>ps.map (·.2)
 | .ld _ _ x=>[x] | .sto _ x v=>[x,v] | .nilc x=>[x] | .bin _ x y=>[x,y] | .un _ x=>[x] | .conv _ x=>[x] | .b2s x=>[x] | .b2sn x=>[x]
 | .mkf _ cs=>cs | .mks _ _ _ l c=>[l,c] | .slc _ x lo hi=>x :: (lo.toList++hi.toList) | .fad _ x=>[x] | .fld _ _ _ x=>[x]
 | .ixs _ x i=>[x,i] | .ixa _ _ x i=>[x,i] | .ixt x i=>[x,i] | .ext x _=>[x] | .call _ as=>as | .calv x as=>x :: as
 | .app _ _ x y=>[x,y] | .appn _ _ x y=>[x,y] | .ston _ x v=>[x,v] | .len _ x=>[x] | .lenq _ x=>[x] | .cap x=>[x] | .appz _ _ x n=>[x,n] | .mnx _ x y=>[x,y] | .beq _ x y=>[x,y] | .nilq _ _ x=>[x] | .sq _ _ x y=>[x,y] | .nii _ x=>[x] | .mkm=>[] | .mget _ _ _ m k=>[m,k] | .mset _ m k v=>[m,k,v] | .peq _ x y=>[x,y] | .lde _ _ x=>[x] | .ixse _ x i=>[x,i] | .s2b x=>[x] | .stop=>[]
def Agree (l:List MA) (s s':St):Prop:=∀ x∈l,s.get x=s'.get x
theorem Agree.gets {l : List MA} {s s' : St} (h : Agree l s s') : gets s l = gets s' l := by
  induction l with
  | nil => rfl
  | cons x l ih =>
    rw [gets_cons, gets_cons, h x (by simp), ih (fun y hy => h y (List.mem_cons_of_mem _ hy))]
theorem Agree.parts {ps : List (Nat × Nat × MA)} {s s' : St} (h : Agree (ps.map (·.2.2)) s s') : ∀ z, partsV s ps z = partsV s' ps z := by
  induction ps with
  | nil => intro z; rfl
  | cons p ps ih =>
    obtain ⟨o, n, x⟩ := p
    intro z
    have h1 : s.get x = s'.get x := h x (by simp)
    have h2 := ih (fun y hy => h y (List.mem_cons_of_mem _ hy))
    rw [partsV_cons, partsV_cons, h1]
    split
    · congr 1
      funext z'
      exact h2 z'
    · rfl
theorem Agree.rows {sz : Nat} {ps : List (Nat × MA)} {s s' : St} (h : Agree (ps.map (·.2)) s s') : ∀ rs, rowsV s sz ps rs = rowsV s' sz ps rs := by
  induction ps with
  | nil => intro z; rfl
  | cons p ps ih =>
    obtain ⟨n, x⟩ := p
    intro rs
    have h1 : s.get x = s'.get x := h x (by simp)
    have h2 := ih (fun y hy => h y (List.mem_cons_of_mem _ hy))
    rw [rowsV_cons, rowsV_cons, h1]
    split
    · exact h2 _
    · rfl
theorem withV_put {x:Option AV} {d:MD} {s:St} (h:withV x d K s):∃ v,K (s.put d v)/\∀ s',withV x d (fun t=>t=s'.put d v) s':=by
 obtain ⟨v,rfl,h⟩:=withV_inv h
 exact ⟨v,h,fun s'=>rfl⟩
theorem bndK_mono {lo hi:Option AV} {n:Nat} {R:Nat->Nat->Prop} (h:bndK lo hi n R):∃ a b,R a b/\∀ R':Nat->Nat->Prop,R' a b->bndK lo hi n R':=by
 unfold bndK at h
 split at h
 ·exact ⟨_,_,h,fun R' h'=>h'⟩
 ·obtain ⟨h1,h2,h3⟩:=h; exact ⟨_,_,h3,fun R' h'=>⟨h1,h2,h'⟩⟩
 ·obtain ⟨h1,h2,h3⟩:=h; exact ⟨_,_,h3,fun R' h'=>⟨h1,h2,h'⟩⟩
 ·obtain ⟨h1,h2,h3,h4⟩:=h; exact ⟨_,_,h4,fun R' h'=>⟨h1,h2,h3,h'⟩⟩
 ·exact h.elim
theorem su_ld' (st:St) (d:MD) (g n x):stepU C (.ld g n x) d K st=withV (ldV g n (ldAt st.H (st.get x))) d K st:=rfl
theorem su_b2s' (st:St) (d:MD) (x):stepU C (.b2s x) d K st=withV (b2sV st.H (st.get x)) d K st:=rfl
theorem su_slc' (st:St) (d:MD) (k x lo hi):stepU C (.slc k x lo hi) d K st=slcK k (st.get x) (lo.map st.get) (hi.map st.get) d K st:=rfl
theorem ldAt_ext {H H':List AO} (h:Hext H H') {x:AV} {cs:List AV} (hl:ldAt H x=some cs):ldAt H' x=some cs:=by
 unfold ldAt at hl ⊢
 split at hl
 ·split at hl
  ·rename_i hid; rw [h _ _ hid (fun e=>by cases e)]; exact hl
  ·cases hl
 ·split at hl
  ·rename_i hid; rw [h _ _ hid (fun e=>by cases e)]; exact hl
  ·cases hl
 ·exact hl
 ·cases hl
theorem srcRows_ext {H H':List AO} (h:Hext H H') {sz:Nat} {x:AV} {ys:List (List AV)} (hl:srcRows H sz x=some ys):srcRows H' sz x=some ys:=by
 unfold srcRows at hl ⊢
 split at hl
 ·exact hl
 ·exact hl
 ·exact hl
 ·unfold srcR at hl ⊢
  split at hl
  ·rename_i hid; rw [h _ _ hid (fun e=>by cases e)]; exact hl
  ·cases hl
 ·cases hl
theorem b2sV_ext {H H':List AO} (h:Hext H H') {x v:AV} (hl:b2sV H x=some v):b2sV H' x=some v:=by
 have inv:∀ y,b2sR (srcRows H 1 y)=some v->b2sR (srcRows H' 1 y)=some v:=by
  intro y hy
  cases hs:srcRows H 1 y with
  | none=>rw [hs] at hy; cases hy
  | some ys=>rw [hs] at hy; rw [srcRows_ext h hs]; exact hy
 unfold b2sV at hl ⊢
 split at hl
 ·exact inv _ hl
 ·exact hl
 ·exact inv _ hl
 ·cases hl
theorem quiet_val {o : MO} {d : MD} {s : St} (hq : kindOf o = .quiet) (h : stepU C o d K s) :
    ∃ v, K (s.put d v) ∧ ∀ s', Agree o.args s s' → Hext s.H s'.H → stepU C o d (fun t => t = s'.put d v) s' := by
  cases o with
  | mv x => exact ⟨s.get x, h, fun s' ha _ => by rw [su_mv, ha x (by simp [MO.args])]⟩
  | pick c x y =>
    obtain ⟨v, h1, h2⟩ := withV_put h
    refine ⟨v, h1, fun s' ha _ => ?_⟩
    rw [su_pick, ← ha c (by simp [MO.args]), ← ha x (by simp [MO.args]), ← ha y (by simp [MO.args])]
    exact h2 s'
  | build z ps =>
    obtain ⟨v, h1, h2⟩ := withV_put h
    refine ⟨v, h1, fun s' ha _ => ?_⟩
    have e : buildV s' z ps = buildV s z ps := by rw [buildV_eq, buildV_eq, Agree.parts ha]
    rw [su_build, e]
    exact h2 s'
  | ld g n x =>
    obtain ⟨v, hv, h1⟩ := withV_inv h
    refine ⟨v, h1, fun s' ha he => ?_⟩
    rw [su_ld', ← ha x (by simp [MO.args])]
    cases hl : ldAt s.H (s.get x) with
    | none => rw [hl] at hv; cases hv
    | some cs => rw [ldAt_ext he hl, ← hl, hv]; rfl
  | nilc x =>
    obtain ⟨v, h1, h2⟩ := withV_put h
    refine ⟨v, h1, fun s' ha _ => ?_⟩
    rw [su_nilc, ← ha x (by simp [MO.args])]
    exact h2 s'
  | bin op x y =>
    rw [su_bin] at h
    have hx : ∀ s', Agree (MO.args (.bin op x y)) s s' → s'.get x = s.get x ∧ s'.get y = s.get y := fun s' ha => ⟨(ha x (by simp [MO.args])).symm, (ha y (by simp [MO.args])).symm⟩
    unfold binK at h
    split at h
    · rename_i v hv
      refine ⟨v, h, fun s' ha _ => ?_⟩
      rw [su_bin, (hx s' ha).1, (hx s' ha).2]
      unfold binK
      rw [hv]
    · rename_i hv
      unfold bin2K at h
      split at h
      · rename_i a b e1 e2
        refine ⟨_, h.2, fun s' ha _ => ?_⟩
        rw [su_bin, (hx s' ha).1, (hx s' ha).2]
        unfold binK
        rw [hv]
        rw [e1, e2]
        exact ⟨h.1, rfl⟩
      · rename_i k a k' b e1 e2
        refine ⟨_, h.2.2, fun s' ha _ => ?_⟩
        rw [su_bin, (hx s' ha).1, (hx s' ha).2]
        unfold binK
        rw [hv]
        rw [e1, e2]
        exact ⟨h.1, h.2.1, rfl⟩
      · rename_i k a k' b e1 e2
        refine ⟨_, h.2.2, fun s' ha _ => ?_⟩
        rw [su_bin, (hx s' ha).1, (hx s' ha).2]
        unfold binK
        rw [hv]
        rw [e1, e2]
        exact ⟨h.1, h.2.1, rfl⟩
      · rename_i k a k' b e1 e2
        refine ⟨_, h.2, fun s' ha _ => ?_⟩
        rw [su_bin, (hx s' ha).1, (hx s' ha).2]
        unfold binK
        rw [hv]
        rw [e1, e2]
        exact ⟨h.1, rfl⟩
      · rename_i k a k' b e1 e2
        refine ⟨_, h.2, fun s' ha _ => ?_⟩
        rw [su_bin, (hx s' ha).1, (hx s' ha).2]
        unfold binK
        rw [hv]
        rw [e1, e2]
        exact ⟨h.1, rfl⟩
      · exact h.elim
  | un op x =>
    obtain ⟨v, h1, h2⟩ := withV_put h
    refine ⟨v, h1, fun s' ha _ => ?_⟩
    rw [su_un, ← ha x (by simp [MO.args])]
    exact h2 s'
  | conv k x =>
    obtain ⟨v, h1, h2⟩ := withV_put h
    refine ⟨v, h1, fun s' ha _ => ?_⟩
    rw [su_conv, ← ha x (by simp [MO.args])]
    exact h2 s'
  | bslk sz z n ps =>
    obtain ⟨v, h1, h2⟩ := withV_put h
    refine ⟨v, h1, fun s' ha _ => ?_⟩
    have e : bslkV s' sz z n ps = bslkV s sz z n ps := by unfold bslkV; rw [Agree.rows ha]
    rw [su_bslk, e]
    exact h2 s'
  | s2b x =>
    obtain ⟨v, h1, h2⟩ := withV_put h
    refine ⟨v, h1, fun s' ha _ => ?_⟩
    rw [su_s2b, ← ha x (by simp [MO.args])]
    exact h2 s'
  | b2s x =>
    obtain ⟨v, hv, h1⟩ := withV_inv h
    refine ⟨v, h1, fun s' ha he => ?_⟩
    rw [su_b2s', ← ha x (by simp [MO.args]), b2sV_ext he hv]
    rfl
  | mkf f cs => exact ⟨.clo f (gets s cs), h, fun s' ha _ => by rw [su_mkf, Agree.gets (l := cs) ha]⟩
  | slc k x lo hi =>
    have hx : ∀ s', Agree (MO.args (.slc k x lo hi)) s s' → s'.get x = s.get x ∧ lo.map s'.get = lo.map s.get ∧ hi.map s'.get = hi.map s.get := by
      intro s' ha
      refine ⟨(ha x (by simp [MO.args])).symm, ?_, ?_⟩
      · cases lo with
        | none => rfl
        | some y => simp [(ha y (by simp [MO.args])).symm]
      · cases hi with
        | none => rfl
        | some y => simp [(ha y (by simp [MO.args])).symm]
    change slcK k (s.get x) (lo.map s.get) (hi.map s.get) d K s at h
    have fin : ∀ v, (∀ s', Hext s.H s'.H → slcK k (s.get x) (lo.map s.get) (hi.map s.get) d (fun t => t = s'.put d v) s') → ∀ s', Agree (MO.args (.slc k x lo hi)) s s' → Hext s.H s'.H → stepU C (.slc k x lo hi) d (fun t => t = s'.put d v) s' := by
      intro v hv s' ha he
      obtain ⟨e1, e2, e3⟩ := hx s' ha
      rw [su_slc', e1, e2, e3]
      exact hv s' he
    generalize s.get x = y at h fin
    unfold slcK at h
    split at h
    · obtain ⟨a, b, h1, h2⟩ := bndK_mono h.2
      exact ⟨_, h1, fin _ (fun s' _ => ⟨h.1, h2 _ rfl⟩)⟩
    · obtain ⟨a, b, h1, h2⟩ := bndK_mono h
      exact ⟨_, h1, fin _ (fun s' _ => by rw [slcK_s]; exact h2 _ rfl)⟩
    · obtain ⟨a, b, h1, h2⟩ := bndK_mono h
      exact ⟨_, h1, fin _ (fun s' _ => by rw [slcK_nl]; exact h2 _ rfl)⟩
    · unfold slcR at h
      split at h
      · rename_i hid
        obtain ⟨q1, q2, h⟩ := h
        obtain ⟨a, b, h1, h2⟩ := bndK_mono h
        refine ⟨_, h1, fin _ (fun s' he => ?_)⟩
        simp only [slcK, slcR]
        rw [he _ _ hid (fun e => by cases e)]
        exact ⟨q1, q2, h2 _ rfl⟩
      · exact h.elim
    · exact h.elim
  | fad off x =>
    obtain ⟨v, h1, h2⟩ := withV_put h
    refine ⟨v, h1, fun s' ha _ => ?_⟩
    rw [su_fad, ← ha x (by simp [MO.args])]
    exact h2 s'
  | fld g off n x =>
    rw [su_fld] at h
    obtain ⟨v, h1, h2⟩ := withV_put h
    refine ⟨v, h1, fun s' ha _ => ?_⟩
    rw [su_fld, ← ha x (by simp [MO.args])]
    exact h2 s'
  | ixs sz x i =>
    have hx : ∀ s', Agree (MO.args (.ixs sz x i)) s s' → s'.get x = s.get x ∧ s'.get i = s.get i := fun s' ha => ⟨(ha x (by simp [MO.args])).symm, (ha i (by simp [MO.args])).symm⟩
    rw [su_ixs] at h
    have fin : ∀ v, (∀ s', Hext s.H s'.H → ixsK sz (s.get x) (s.get i) d (fun t => t = s'.put d v) s') → ∀ s', Agree (MO.args (.ixs sz x i)) s s' → Hext s.H s'.H → stepU C (.ixs sz x i) d (fun t => t = s'.put d v) s' := by
      intro v hv s' ha he
      obtain ⟨e1, e2⟩ := hx s' ha
      rw [su_ixs, e1, e2]
      exact hv s' he
    generalize s.get x = y at h fin
    generalize s.get i = z at h fin
    unfold ixsK at h
    split at h
    · split at h
      · obtain ⟨q1, r, q2, q3, h⟩ := h
        exact ⟨_, h, fin _ (fun s' _ => ⟨q1, r, q2, q3, rfl⟩)⟩
      · obtain ⟨q1, q2, h⟩ := h
        split at h
        · rename_i hid
          refine ⟨_, h.2.2, fin _ (fun s' he => ⟨q1, q2, ?_⟩)⟩
          rw [he _ _ hid (fun e => by cases e)]
          exact ⟨h.1, h.2.1, rfl⟩
        · exact h.elim
      · exact h.elim
    · exact h.elim
  | ixa len sz x i =>
    have hx : ∀ s', Agree (MO.args (.ixa len sz x i)) s s' → s'.get x = s.get x ∧ s'.get i = s.get i := fun s' ha => ⟨(ha x (by simp [MO.args])).symm, (ha i (by simp [MO.args])).symm⟩
    rw [su_ixa] at h
    have fin : ∀ v, (∀ s' : St, ixaK len sz (s.get x) (s.get i) d (fun t => t = s'.put d v) s') → ∀ s', Agree (MO.args (.ixa len sz x i)) s s' → Hext s.H s'.H → stepU C (.ixa len sz x i) d (fun t => t = s'.put d v) s' := by
      intro v hv s' ha he
      obtain ⟨e1, e2⟩ := hx s' ha
      rw [su_ixa, e1, e2]
      exact hv s'
    generalize s.get x = y at h fin
    generalize s.get i = z at h fin
    unfold ixaK at h
    split at h
    · split at h
      · exact ⟨_, h.2.2, fin _ (fun s' => ⟨h.1, h.2.1, rfl⟩)⟩
      · exact h.elim
    · exact h.elim
  | ixt x i =>
    have hx : ∀ s', Agree (MO.args (.ixt x i)) s s' → s'.get x = s.get x ∧ s'.get i = s.get i := fun s' ha => ⟨(ha x (by simp [MO.args])).symm, (ha i (by simp [MO.args])).symm⟩
    rw [su_ixt] at h
    have fin : ∀ v, (∀ s' : St, ixtK (s.get x) (s.get i) d (fun t => t = s'.put d v) s') → ∀ s', Agree (MO.args (.ixt x i)) s s' → Hext s.H s'.H → stepU C (.ixt x i) d (fun t => t = s'.put d v) s' := by
      intro v hv s' ha he
      obtain ⟨e1, e2⟩ := hx s' ha
      rw [su_ixt, e1, e2]
      exact hv s'
    generalize s.get x = y at h fin
    generalize s.get i = z at h fin
    unfold ixtK at h
    split at h
    · split at h
      · obtain ⟨q1, c, q2, h⟩ := h
        exact ⟨_, h, fin _ (fun s' => ⟨q1, c, q2, rfl⟩)⟩
      · exact h.elim
    · exact h.elim
  | ext x n =>
    obtain ⟨v, h1, h2⟩ := withV_put h
    refine ⟨v, h1, fun s' ha _ => ?_⟩
    rw [su_ext, ← ha x (by simp [MO.args])]
    exact h2 s'
  | lenq t x =>
    obtain ⟨v, h1, h2⟩ := withV_put h
    refine ⟨v, h1, fun s' ha _ => ?_⟩
    rw [su_lenq, ← ha x (by simp [MO.args])]
    exact h2 s'
  | cap x =>
    obtain ⟨v, h1, h2⟩ := withV_put h
    refine ⟨v, h1, fun s' ha _ => ?_⟩
    rw [su_cap, ← ha x (by simp [MO.args])]
    exact h2 s'
  | mnx m x y =>
    obtain ⟨v, h1, h2⟩ := withV_put h
    refine ⟨v, h1, fun s' ha _ => ?_⟩
    rw [su_mnx, ← ha x (by simp [MO.args]), ← ha y (by simp [MO.args])]
    exact h2 s'
  | beq m x y =>
    obtain ⟨v, h1, h2⟩ := withV_put h
    refine ⟨v, h1, fun s' ha _ => ?_⟩
    rw [su_beq, ← ha x (by simp [MO.args]), ← ha y (by simp [MO.args])]
    exact h2 s'
  | nii m x =>
    obtain ⟨v, h1, h2⟩ := withV_put h
    refine ⟨v, h1, fun s' ha _ => ?_⟩
    rw [su_nii, ← ha x (by simp [MO.args])]
    exact h2 s'
  | sq m n x y =>
    obtain ⟨v, h1, h2⟩ := withV_put h
    refine ⟨v, h1, fun s' ha _ => ?_⟩
    rw [su_sq, ← ha x (by simp [MO.args]), ← ha y (by simp [MO.args])]
    exact h2 s'
  | nilq sl m x =>
    change nilqK sl m (s.get x) d K s at h
    have fin : ∀ v, (∀ s', Hext s.H s'.H → nilqK sl m (s.get x) d (fun t => t = s'.put d v) s') → ∀ s', Agree (MO.args (.nilq sl m x)) s s' → Hext s.H s'.H → stepU C (.nilq sl m x) d (fun t => t = s'.put d v) s' := by
      intro v hv s' ha he
      rw [su_nilq, ← ha x (by simp [MO.args])]
      exact hv s' he
    generalize s.get x = y at h fin
    unfold nilqK at h
    split at h
    · exact ⟨_, h, fin _ (fun s' _ => rfl)⟩
    · exact ⟨_, h.2, fin _ (fun s' _ => ⟨h.1, rfl⟩)⟩
    · unfold nilqR at h
      split at h
      · rename_i hid
        refine ⟨_, h.2.2, fin _ (fun s' he => ?_)⟩
        simp only [nilqK, nilqR]
        rw [he _ _ hid (fun e => by cases e)]
        exact ⟨h.1, h.2.1, trivial⟩
      · exact h.elim
    · exact ⟨_, h, fin _ (fun s' _ => rfl)⟩
    · exact ⟨_, h, fin _ (fun s' _ => rfl)⟩
    · exact ⟨_, h, fin _ (fun s' _ => rfl)⟩
    · exact ⟨_, h, fin _ (fun s' _ => rfl)⟩
    · exact h.elim
  | _ => cases hq
theorem put_TH (s:St) (H:List AO) (d:MD) (v:AV):St.put ⟨s.L,s.T,H⟩ d v=⟨(s.put d v).L,(s.put d v).T,H⟩:=by cases d <;> rfl
theorem hext_app (H A:List AO):Hext H (H++A):=fun id o h _=>by
 rw [List.getElem?_append_left (List.getElem?_eq_some_iff.1 h).1]; exact h
theorem stoH_frame {H H':List AO} {n:Nat} {x v:AV} (A:List AO) (h:stoH H n x v=some H'):stoH (H++A) n x v=some (H'++A):=by
 unfold stoH at h ⊢
 split at h
 ·rename_i hc
  rw [if_pos hc]
  split at h
  ·rename_i id off
   split at h
   ·rename_i cs hid
    have hlt:=(List.getElem?_eq_some_iff.1 hid).1
    rw [Option.map_eq_some_iff] at h
    obtain ⟨cs',h1,rfl⟩:=h
    simp only [List.getElem?_append_left hlt,hid,h1,Option.map_some,List.set_append_left _ _ hlt]
   ·cases h
  ·rename_i id ver row col
   split at h
   ·rename_i sz ver' rs hid
    have hlt:=(List.getElem?_eq_some_iff.1 hid).1
    split at h
    ·rename_i hv
     split at h
     ·rename_i r hr
      rw [Option.map_eq_some_iff] at h
      obtain ⟨r',h1,rfl⟩:=h
      simp only [List.getElem?_append_left hlt,hid,hr,h1,Option.map_some,List.set_append_left _ _ hlt,if_pos hv]
     ·cases h
    ·cases h
   ·cases h
  ·cases h
 ·cases h
theorem su_sto' (st:St) (d:MD) (n x v):stepU C (.sto n x v) d K st=withH (stoH st.H n (st.get x) (st.get v)) d K st:=rfl
theorem su_app' (st:St) (d:MD) (sz b x y):stepU C (.app sz b x y) d K st=appY sz b (st.get x) (srcRows st.H sz (st.get y)) d K st:=rfl
theorem appX_gs' (st:St) (d:MD) (sz b id ver off n ys):appX sz b (.gs id ver off n) ys d K st=appR sz b id ver off n ys d K st st.H[id]?:=rfl
theorem withH_some' (st:St) (d:MD) (h):withH (some h) d K st=K (St.put ⟨st.L,st.T,h⟩ d .any):=rfl
theorem eff_val {o : MO} {d : MD} {s : St} (hq : kindOf o = .eff) (h : stepU C o d K s) :
    ∃ v H', K ⟨(s.put d v).L, (s.put d v).T, H'⟩ ∧ (H'.length = s.H.length → ∀ s' A, Agree o.args s s' → s'.H = s.H ++ A → stepU C o d (fun t => t = ⟨(s'.put d v).L, (s'.put d v).T, H' ++ A⟩) s') := by
  cases o with
  | sto n x v =>
    change withH (stoH s.H n (s.get x) (s.get v)) d K s at h
    cases hs : stoH s.H n (s.get x) (s.get v) with
    | none => rw [hs] at h; exact h.elim
    | some H' =>
      rw [hs] at h
      refine ⟨.any, H', by rw [← put_TH]; exact h, fun _ s' A ha hA => ?_⟩
      rw [su_sto', ← ha x (by simp [MO.args]), ← ha v (by simp [MO.args]), hA, stoH_frame A hs, withH_some', put_TH]
  | app sz b x y =>
    change appY sz b (s.get x) (srcRows s.H sz (s.get y)) d K s at h
    cases hy : srcRows s.H sz (s.get y) with
    | none => rw [hy] at h; exact h.elim
    | some ys =>
      rw [hy] at h
      obtain ⟨h1, h2⟩ := h
      unfold appX at h2
      split at h2
      · rename_i e
        obtain ⟨q1, q2, h2⟩ := h2
        rw [put_TH] at h2
        refine ⟨_, _, h2, fun hl => ?_⟩
        simp at hl
      · rename_i id ver off n e
        unfold appR at h2
        split at h2
        · rename_i sz' ver' rs hid
          obtain ⟨q1, q2, q3, q4, q5, q6, h2⟩ := h2
          rw [put_TH] at h2
          have hlt := (List.getElem?_eq_some_iff.1 hid).1
          refine ⟨_, _, h2, fun _ s' A ha hA => ?_⟩
          rw [su_app', ← ha x (by simp [MO.args]), ← ha y (by simp [MO.args]), hA, srcRows_ext (hext_app _ A) hy, e]
          refine ⟨h1, ?_⟩
          rw [appX_gs', hA, List.getElem?_append_left hlt, hid]
          refine ⟨q1, q2, q3, q4, q5, q6, ?_⟩
          rw [hA, List.set_append_left _ _ hlt]
          exact put_TH s' _ d _
        · exact h2.elim
      · exact h2.elim
  | _ => cases hq
end Go.AM
set_option linter.all false
namespace Go.AM
variable {lv:List Nat} {P:Program} {N:Nat} {K:St->Prop} {θ:Th} {W:Im} {ops:Array Oper} {C:CallP} {o:Oper}
theorem SR.reserve {H:List AO} {w:World} (h:SR θ W H w) (k:Nat):SR θ W (H++List.replicate k .rsv) w:=by
 refine ⟨h.imm,fun id o' hid=>?_,fun id ver hid=>h.out id ver (by simp at hid; omega),h.own,h.inj⟩
 rcases Nat.lt_or_ge id H.length with hlt | hge
 ·rw [List.getElem?_append_left hlt] at hid
  exact h.obj id o' hid
 ·rw [List.getElem?_append_right hge,List.getElem?_replicate] at hid
  split at hid
  ·cases hid; exact fun ver=>h.out id ver hge
  ·cases hid
theorem SR.fill {H:List AO} {w w':World} (h:SR θ W H w) (id:Nat) (hid:H[id]?=some .rsv) (o:AO) (pl:Pl)
  (hos:w'.os=w.os) (htp:w'.tape=w.tape) (hou:w'.output=w.output) (hsz:w.heap.size<=w'.heap.size)
  (hold:∀ b,b<w.heap.size->w'.heap[b]?=w.heap[b]?)
  (hpl:∀ b sz tot,pl=.at b sz tot->b=w.heap.size)
  (hno:pl≠.no)
  (ho:(∀ x v,ARel θ W x v->ARel (thSet θ id 0 pl) W x v)->OR (thSet θ id 0 pl) W w' id o) :
  SR (thSet θ id 0 pl) W (H.set id o) w'/\Stp θ W w (thSet θ id 0 pl) W w':=by
 have hidl:id<H.length:=by
  rcases Nat.lt_or_ge id H.length with h' | h'
  ·exact h'
  ·rw [List.getElem?_eq_none h'] at hid; cases hid
 have hnone:∀ ver,θ id ver=.no:=h.obj id _ hid
 have hθ:∀ i ver,θ i ver≠.no->thSet θ id 0 pl i ver=θ i ver:=by
  intro i ver hn
  refine thSet_other fun ⟨e,_⟩=>hn ?_
  rw [e]; exact hnone ver
 have hr:∀ x v,ARel θ W x v->ARel (thSet θ id 0 pl) W x v:=fun x v hx=>hx.mono (fun _ _ _ h=>h) (fun i ver hn=>.inl (hθ i ver hn))
 have hown:∀ b,Owned (thSet θ id 0 pl) b->Owned θ b\/w.heap.size=b:=by
  rintro b ⟨i,ver,sz,tot,hb⟩
  by_cases e:i=id/\ver=0
  ·obtain ⟨rfl,rfl⟩:=e
   rw [thSet_same] at hb
   exact .inr (hpl b sz tot hb).symm
  ·rw [thSet_other e] at hb
   exact .inl ⟨i,ver,sz,tot,hb⟩
 refine ⟨⟨?_,?_,?_,?_,?_⟩,⟨hos,htp,hou,hsz,fun b hb _=>hold b hb,fun _ _ _ h=>h,fun _ _ _ _=>rfl,fun i ver hn=>.inl (hθ i ver hn),fun b hb=>(hown b hb).imp (fun a=>a) (fun e=>by omega)⟩⟩
 ·intro b o' v hv
  have hb:=h.imm b o' v hv
  rw [<- hb]
  exact World.cell?_of_block (hold b (cell_old hb))
 ·intro i o' hi
  by_cases e:i=id
  ·subst e
   rw [List.getElem?_set_self hidl] at hi
   cases hi
   exact ho hr
  ·rw [List.getElem?_set_ne (Ne.symm e)] at hi
   exact (h.obj i o' hi).mono (fun ver=>thSet_other (by omega)) (fun ver b sz tot hb=>hold b (h.ownedLt hb)) hr (ht:=fun b v o hv ho=>by rw [hold b (h.lt hv)]; exact ho)
 ·intro i ver hi
  simp at hi
  rw [thSet_other (by omega)]
  exact h.out i ver hi
 ·intro b hb o'
  rcases hown b hb with hb | hb
  ·exact h.own b hb o'
  ·cases e:W b o' with
   | none=>rfl
   | some v=>have:=h.lt e; omega
 ·intro b i ver sz tot i' ver' sz' tot' h1 h2
  by_cases e:i=id/\ver=0 <;> by_cases e':i'=id/\ver'=0
  ·exact ⟨by omega,by omega⟩
  ·obtain ⟨rfl,rfl⟩:=e
   rw [thSet_same] at h1
   rw [thSet_other e'] at h2
   have:=hpl _ _ _ h1
   have:=h.ownedLt h2
   omega
  ·obtain ⟨rfl,rfl⟩:=e'
   rw [thSet_same] at h2
   rw [thSet_other e] at h1
   have:=hpl _ _ _ h2
   have:=h.ownedLt h1
   omega
  ·rw [thSet_other e] at h1
   rw [thSet_other e'] at h2
   exact h.inj b _ _ _ _ _ _ _ _ h1 h2
theorem newvarAt {H:List AO} {w:World} (h:SR θ W H w) (id:Nat) (hid:H[id]?=some .rsv) (cs:List AV) (vs:Array Value) (ty:TypeId) (hc:CRel θ W cs vs) :
  ∃ θ',SR θ' W (H.set id (.var cs)) (w.alloc (.cells vs ty))/\Stp θ W w θ' W (w.alloc (.cells vs ty))/\ARel θ' W (.ptr id 0) (.pointer (some ⟨w.heap.size,0,none⟩)):=by
 have hnone:∀ ver,θ id ver=.no:=h.obj id _ hid
 obtain ⟨a,b⟩:=h.fill (w':=w.alloc (.cells vs ty)) id hid (.var cs) (.at w.heap.size 1 0) rfl rfl rfl (by simp) (fun k hb=>RowKit.Below.heap_alloc w _ k hb) (fun b sz tot e=>by cases e; rfl) (fun e=>by cases e)
  (fun hr=>⟨⟨w.heap.size,1,0,ty,vs,thSet_same _ _ _ _,heap_alloc_new w _,hc.size,fun j c v hj hv=>hr _ _ (hc.rel j c v hj hv),hc.one⟩,fun ver hv=>by
   rw [thSet_other (by omega)]; exact hnone ver⟩)
 exact ⟨_,a,b,.ptr _ 0 w.heap.size 1 0 (thSet_same _ _ _ _)⟩
theorem newrowsAt {H:List AO} {w:World} (h:SR θ W H w) (id:Nat) (hid:H[id]?=some .rsv) (sz:Nat) (rs:List (List AV)) (vs:Array Value) (ty:TypeId) (tot:Nat)
  (hs:vs.size=tot * sz) (hl:rs.length<=tot) (hr:∀ r∈rs,r.length=sz)
  (hc:∀ (i:Nat) (r:List AV) (j:Nat) (c:AV) (u:Value),rs[i]?=some r->r[j]?=some c->vs[i * sz+j]?=some u->ARel θ W c u) (h1:∀ (j:Nat) (u:Value),vs[j]?=some u->u.oneCell'=true) :
  ∃ θ',SR θ' W (H.set id (.rows sz 0 rs)) (w.alloc (.cells vs ty))/\Stp θ W w θ' W (w.alloc (.cells vs ty))/\θ' id 0=.at w.heap.size sz tot:=by
 have hnone:∀ ver,θ id ver=.no:=h.obj id _ hid
 obtain ⟨a,b⟩:=h.fill (w':=w.alloc (.cells vs ty)) id hid (.rows sz 0 rs) (.at w.heap.size sz tot) rfl rfl rfl (by simp) (fun k hb=>RowKit.Below.heap_alloc w _ k hb) (fun b sz tot e=>by cases e; rfl) (fun e=>by cases e)
  (fun hrel=>⟨.inr ⟨w.heap.size,tot,ty,vs,thSet_same _ _ _ _,heap_alloc_new w _,hs,hl,hr,fun i r j c u hi hj hu=>hrel _ _ (hc i r j c u hi hj hu),h1⟩,fun v' hv=>by
   rw [thSet_other (by omega)]; exact hnone v',fun v' hv=>by omega⟩)
 exact ⟨_,a,b,thSet_same _ _ _ _⟩
theorem newrowsAt2 {H:List AO} {w w0:World} (h:SR θ W H w) (id:Nat) (hid:H[id]?=some .rsv) (sz:Nat) (rs:List (List AV)) (vs:Array Value) (ty:TypeId) (tot:Nat) (hw:w0.heap=w.heap) (hos:w0.os=w.os) (htp:w0.tape=w.tape) (hou:w0.output=w.output)
  (hs:vs.size=tot * sz) (hl:rs.length<=tot) (hr:∀ r∈rs,r.length=sz)
  (hc:∀ (i:Nat) (r:List AV) (j:Nat) (c:AV) (u:Value),rs[i]?=some r->r[j]?=some c->vs[i * sz+j]?=some u->ARel θ W c u) (h1:∀ (j:Nat) (u:Value),vs[j]?=some u->u.oneCell'=true) :
  ∃ θ',SR θ' W (H.set id (.rows sz 0 rs)) (w0.alloc (.cells vs ty))/\Stp θ W w θ' W (w0.alloc (.cells vs ty))/\θ' id 0=.at w.heap.size sz tot:=by
 have hnone:∀ ver,θ id ver=.no:=h.obj id _ hid
 obtain ⟨a,b⟩:=h.fill (w':=w0.alloc (.cells vs ty)) id hid (.rows sz 0 rs) (.at w.heap.size sz tot) hos htp hou (by simp [hw]) (fun k hb=>by rw [RowKit.Below.heap_alloc w0 _ k (by rw [hw]; exact hb),hw]) (fun b sz tot e=>by cases e; rfl) (fun e=>by cases e)
  (fun hrel=>⟨.inr ⟨w.heap.size,tot,ty,vs,thSet_same _ _ _ _,by rw [<- hw]; exact heap_alloc_new w0 _,hs,hl,hr,fun i r j c u hi hj hu=>hrel _ _ (hc i r j c u hi hj hu),h1⟩,fun v' hv=>by
   rw [thSet_other (by omega)]; exact hnone v',fun v' hv=>by omega⟩)
 exact ⟨_,a,b,thSet_same _ _ _ _⟩
def NewOk (o:MO) (s:St) (ob:AO) (mk:Nat->AV):Prop :=
 match o with
 | .alloc z=>ob=.var z/\mk=fun id=>.ptr id 0
 | .box n x=>((s.get x).allOne && (s.get x).cells.length == n)=true/\ob=.var (s.get x).cells/\mk=fun id=>.ptr id 0
 | .bsl sz z n ps=>∃ rs,rowsV s sz ps (List.replicate n z)=some rs/\ob=.rows sz 0 rs/\mk=fun id=>.gs id 0 0 n
 | .mks sz bytes z l c=>∃ n c':Int,s.get l=.p (.i .i64 n)/\s.get c=.p (.i .i64 c')/\(0<=n/\n<=c'/\c' * bytes<=140737488355328/\c'<=140737488355328)/\ob=.rows sz 0 (List.replicate n.toNat z)/\mk=fun id=>.gs id 0 0 n.toNat
 | _=>False
theorem new_val {J : PK} {Hc : List AO} {m : MO} {d : MD} {s : St} (hq : kindOf m = .new) (h : preN Hc m d J s) : ∃ ob mk, NewOk m s ob mk ∧ J Hc (St.put ⟨s.L, s.T, s.H ++ [ob]⟩ d (mk (Hc.length + s.H.length))) := by
  cases m with
  | alloc z => exact ⟨_, _, ⟨rfl, rfl⟩, h⟩
  | box n x =>
    change nwK Hc (if (s.get x).allOne && (s.get x).cells.length == n then some (.var (s.get x).cells) else none) (fun id => .ptr id 0) d J s at h
    split at h
    · rename_i hc; exact ⟨_, _, ⟨hc, rfl, rfl⟩, h⟩
    · exact h.elim
  | bsl sz z n ps =>
    change nwK Hc ((rowsV s sz ps (List.replicate n z)).map fun rs => .rows sz 0 rs) (fun id => .gs id 0 0 n) d J s at h
    cases hr : rowsV s sz ps (List.replicate n z) with
    | none => rw [hr] at h; exact h.elim
    | some rs => rw [hr] at h; exact ⟨_, _, ⟨rs, hr, rfl, rfl⟩, h⟩
  | mks sz b z l c =>
    change mksN Hc sz b z (s.get l) (s.get c) d J s at h
    unfold mksN at h
    split at h
    · rename_i n c' e1 e2
      obtain ⟨h1, h2, h3, h4, h5⟩ := h
      exact ⟨_, _, ⟨n, c', e1, e2, ⟨h1, h2, h3, h4⟩, rfl, rfl⟩, h5⟩
    · exact h.elim
  | _ => cases hq
theorem NewOk.agree {m : MO} {s s' : St} {ob : AO} {mk : Nat → AV} (h : NewOk m s ob mk) (ha : Agree m.args s s') : NewOk m s' ob mk := by
  cases m with
  | alloc z => exact h
  | box n x =>
    have e := ha x (by simp [MO.args])
    simp only [NewOk] at h ⊢
    rw [← e]
    exact h
  | bsl sz z n ps =>
    obtain ⟨rs, h1, h2⟩ := h
    exact ⟨rs, by rw [← Agree.rows (ps := ps) ha]; exact h1, h2⟩
  | mks sz b z l c =>
    obtain ⟨n, c', h1, h2, h3⟩ := h
    exact ⟨n, c', by rw [← ha l (by simp [MO.args])]; exact h1, by rw [← ha c (by simp [MO.args])]; exact h2, h3⟩
  | _ => exact h.elim
theorem cOp_app_inv {op : Op} {sz b : Nat} {mx my : MA} (hm : cOp lv P op = some (.app sz b mx my)) :
    ∃ (c : Call) (x y : Operand) (t u e : TypeId) (i : TypeInfo) (zl : List AV) (du : TypeDesc), op = .call c ∧ c.callee = .builtin .append ∧ c.args = #[x, y] ∧ c.argTypes = #[t, u] ∧ P.underlying t = some (.slice e) ∧ P.underlying u = some du ∧ ((∃ e', du = .slice e') ∨ du = .string) ∧ P.info? e = some i ∧
      zeroOf P e = some zl ∧ zl.length = i.size ∧ 0 < i.size ∧ cArg lv x = some mx ∧ cArg lv y = some my ∧ sz = i.size ∧ b = i.bytes := by
  cases op with
  | call c =>
    simp only [cOp] at hm
    unfold cCall at hm
    split at hm
    · split at hm
      · split at hm
        · cases hm
        · cases hm
      · cases hm
    · cases hm
    · rename_i x hc ha
      cases ht : c.argTypes[0]? with
      | none => rw [ht] at hm; cases hm
      | some t =>
        rw [ht] at hm
        simp only [Option.bind_some] at hm
        split at hm <;> cases hm
    · rename_i x hc ha
      cases ht : c.argTypes[0]? with
      | none => rw [ht] at hm; cases hm
      | some t =>
        rw [ht] at hm
        simp only [Option.bind_some] at hm
        split at hm <;> cases hm
    · rename_i x y hc ha
      obtain ⟨x', y', hy, hx1, hx2⟩ := args_two ha
      split at hm
      case h_2 => cases hm
      case h_1 t u0 htu =>
      have hty : c.argTypes = #[t, u0] := by apply Array.ext'; simpa using htu
      split at hm
      case h_1 => cases hm
      case h_2 u hu =>
      split at hm
      case h_2 => cases hm
      case h_1 e he =>
      split at hm
      case h_2 => cases hm
      case h_1 i hi =>
      have he' : P.underlying t = some (.slice e) := by
        unfold elemT at he
        split at he
        · rename_i e' h'; cases he; exact h'
        · cases he
      split at hm
      · rename_i z e' hz
        split at hm
        · rename_i hcc
          simp only [Bool.and_eq_true, beq_iff_eq, decide_eq_true_eq] at hcc
          cases hm
          exact ⟨c, x', y', t, u0, e, i, z, _, rfl, hc, hy, hty, he', hu, .inl ⟨e', rfl⟩, hi, hz, hcc.1, hcc.2, hx1, hx2, rfl, rfl⟩
        · cases hm
      · rename_i z hz
        split at hm
        · rename_i hcc
          simp only [Bool.and_eq_true, beq_iff_eq, decide_eq_true_eq] at hcc
          cases hm
          exact ⟨c, x', y', t, u0, e, i, z, _, rfl, hc, hy, hty, he', hu, .inr rfl, hi, hz, hcc.1, hcc.2, hx1, hx2, rfl, rfl⟩
        · cases hm
      · split at hm
        · cases hm
        · cases hm
      · cases hm
    · rename_i x y hc ha
      cases hm
    · rename_i x y hc ha
      cases hm
    · cases hm
  | slice t x lo hi mx =>
    cases mx with
    | some _ => cases hm
    | none =>
      simp only [cOp] at hm
      split at hm
      · cases hm
      · obtain ⟨n, _, h⟩ := map_some_inv hm; cases h
      · cases hm
  | makeFunc fn first caps =>
    cases fn with
    | func f =>
      simp only [cOp] at hm
      split at hm
      · obtain ⟨x, _, h⟩ := map_some_inv hm; cases h
      · cases hm
    | _ => cases hm
  | makeMap t hint =>
    cases hint with
    | none => cases hm
    | some _ => cases hm
  | _ =>
    simp only [cOp, cNilq, cNii, cSq, cPeq, Option.map_eq_some_iff] at hm
    first
      | (cases hm; done)
      | (obtain ⟨x, _, hm⟩ := hm; cases hm; done)
      | ((repeat' split at hm) <;> first | (cases hm; done) | (simp only [Option.map_eq_some_iff, Option.bind_eq_some_iff] at hm; obtain ⟨x, _, hm⟩ := hm; first | (cases hm; done) | (split at hm <;> cases hm)))
theorem end_at {a:Act} {w w':World} {next:Act->World->Prop} {Q:Exit->Act->World->Prop} {s:St} {θ':Th} {H':List AO} {v:Value} {r:AV}
  (hR:Rl lv N s a w θ W) (hd:o.dst.all (decide <| ·<N)=true)
  (hk:∀ a' w' θ' W',Rl lv N (St.put ⟨s.L,s.T,H'⟩ (cDst lv o.dst) r) a' w' θ' W'->Stp θ W w θ' W' w'->next a' w')
  (hrun:(execOp a.eval o).run P w=.ok (.value v) w') (hr:ARel θ' W r v) (hm:SR θ' W H' w') (hs:Stp θ W w θ' W w'):o.wp P a w next Q:=by
 unfold Oper.wp
 rw [hrun]
 exact hk _ _ _ _ (hR.put hd hr hm hs) hs
theorem new_at {m : MO} {s : St} {ob : AO} {mk : Nat → AV} (hm : cOp lv P o.op = some m) (hd : o.dst.all (decide <| · < N) = true) (hn : NewOk m s ob mk) {a : Act} {w : World} {next : Act → World → Prop} {Q : Exit → Act → World → Prop}
    (hR : Rl lv N s a w θ W) (id : Nat) (hid : s.H[id]? = some .rsv)
    (hk : ∀ a' w' θ' W', Rl lv N (St.put ⟨s.L, s.T, s.H.set id ob⟩ (cDst lv o.dst) (mk id)) a' w' θ' W' → Stp θ W w θ' W' w' → next a' w') : o.wp P a w next Q := by
  cases ho : o.op with
  | alloc t =>
    rw [ho] at hm
    obtain ⟨z, hz, rfl⟩ := map_some_inv hm
    obtain ⟨rfl, rfl⟩ := hn
    obtain ⟨i, zv, hi, hzv, hv⟩ := zeroOf_inv hz
    obtain ⟨h1, h2, h3⟩ := ofVals1_rel hv θ W
    obtain ⟨θ', a1, a2, a3⟩ := newvarAt hR.mem id hid z zv.cells t ⟨by simpa using h1, fun j c u hj hu => h2 j c u hj (by simpa using hu), fun j u hu => h3 j u (by simpa using hu)⟩
    refine end_at hR hd hk (v := .pointer (some ⟨w.heap.size, 0, none⟩)) ?_ a3 a1 a2
    simp [execOp, ho, Instr.alloc, zeroValue, typeInfo, hi, hzv, newVar, newRow]
  | box t x =>
    rw [ho] at hm
    simp only [cOp] at hm
    split at hm
    case h_2 => cases hm
    case h_1 hx hsz =>
    cases hm
    obtain ⟨hc, rfl, rfl⟩ := hn
    simp only [Bool.and_eq_true] at hc
    obtain ⟨θ', a1, a2, a3⟩ := newvarAt hR.mem id hid _ (a.eval x).cells t (cells_crel (hR.arg hx) hc.1)
    refine end_at hR hd hk (v := .pointer (some ⟨w.heap.size, 0, none⟩)) ?_ a3 a1 a2
    simp [execOp, ho, Instr.box, newVar, newRow]
  | buildSlice t n ps =>
    rw [ho] at hm
    simp only [cOp] at hm
    split at hm
    case h_2 => cases hm
    case h_1 e he =>
    have ht : P.underlying t = some (.slice e) := by
      unfold elemT at he
      split at he
      · rename_i e' h'; cases he; exact h'
      · cases he
    split at hm
    case h_2 => cases hm
    case h_1 sz z ms hsz hz hps =>
    split at hm
    case isFalse => cases hm
    case isTrue hcc =>
    simp only [Bool.and_eq_true, beq_iff_eq, decide_eq_true_eq] at hcc
    obtain ⟨⟨hzl, h0⟩, hmax⟩ := hcc
    cases hm
    obtain ⟨rs, hrs, rfl, rfl⟩ := hn
    obtain ⟨i, zv, hi, hzv, hz1⟩ := zeroOf_inv hz
    obtain ⟨z1, z2, z3⟩ := ofVals1_rel hz1 θ W
    obtain ⟨i', hi', hisz⟩ := sizeT_inv hsz
    rw [hi] at hi'
    cases hi'
    have hzs : zv.cells.size = sz := by rw [← hzl, ← z1]; simp
    have hcell : ∀ k, k < n * sz → (madeCells zv.cells (n * sz))[k]? = zv.cells[k % sz]? := by
      intro k hk'
      have hm : k % sz < zv.cells.size := by rw [hzs]; exact Nat.mod_lt _ h0
      simp [madeCells, hk', hzs, hm, Nat.mod_lt _ h0]
    have hrr : RRel θ W sz (List.replicate n z) (madeCells zv.cells (n * sz)) := by
      refine ⟨by rw [size_madeCells]; simp, by simp; intro _; exact hzl, ?_, ?_⟩
      · intro p r j q u hp hj hu
        rw [List.getElem?_replicate] at hp
        split at hp
        · rename_i hlt
          cases hp
          have hj' : j < z.length := by
            rcases Nat.lt_or_ge j z.length with h' | h'
            · exact h'
            · rw [List.getElem?_eq_none h'] at hj; cases hj
          have hlt2 : p * sz + j < n * sz := by
            have : (p + 1) * sz ≤ n * sz := Nat.mul_le_mul_right _ (by omega)
            rw [Nat.add_mul] at this
            omega
          rw [hcell _ hlt2, Nat.mul_comm, Nat.mul_add_mod, Nat.mod_eq_of_lt (by omega)] at hu
          exact z2 j q u hj (by simpa using hu)
        · cases hp
      · intro j u hu
        have hlt : j < n * sz := by
          rcases Nat.lt_or_ge j (n * sz) with h' | h'
          · exact h'
          · rw [Array.getElem?_eq_none (by rw [size_madeCells]; exact h')] at hu; cases hu
        rw [hcell _ hlt] at hu
        exact z3 _ u (by simpa using hu)
    obtain ⟨vs', f1, f2, f3⟩ := fill_rows hR ps.toList ms _ rs _ hps hrs hrr
    have hrl : rs.length = n := by rw [f3]; simp
    obtain ⟨θ', a1, a2, a3⟩ := newrowsAt hR.mem id hid sz rs vs' e n (by rw [f2.size, hrl]) (by omega) f2.len f2.rel f2.one
    have hn1 : n ≤ n * sz := Nat.le_mul_of_pos_right n h0
    refine end_at hR hd hk (v := .slice (some ⟨w.heap.size, 0, none⟩) n n) ?_ (.gs _ 0 0 n w.heap.size sz n 0 n a3 (Nat.le_refl _) (by unfold maxL; omega) (by omega) (fun _ => by simp) (fun _ => rfl)) a1 a2
    have hnm : ¬ 16777216 < n * i.size := by rw [hisz]; omega
    have e2 : Array.map (fun x => zv.cells[x % zv.cells.size]!) (Array.range (n * sz)) = madeCells zv.cells (n * sz) := rfl
    have f1' : Instr.fill (fun i => some (i * sz, sz)) (madeCells zv.cells (n * sz)) (List.map (fun x => (x.1, a.eval x.2)) ps.toList) = some vs' := by simpa using f1
    by_cases hn0 : n = 0
    · subst hn0
      have e3 : Array.map (fun _ => (default : Value)) (Array.range 0) = madeCells zv.cells (0 * sz) := by
        apply Array.ext'
        simp [madeCells]
      simp [execOp, ho, Instr.buildSlice, run_underlying ht, sizeOf, typeInfo, hi, newRow]
      rw [hisz, e3, f1']
      rfl
    · have hne : ¬ n * i.size = 0 := by rw [hisz]; exact fun e => by rcases Nat.mul_eq_zero.1 e with e | e <;> omega
      simp [execOp, ho, Instr.buildSlice, run_underlying ht, sizeOf, typeInfo, zeroValue, hi, hzv, hnm, newRow, hn0]
      rw [if_neg (by omega)]
      rw [hisz, e2, f1']
      rfl
  | makeSlice t l c =>
    rw [ho] at hm
    simp only [cOp] at hm
    split at hm
    case h_2 => cases hm
    case h_1 e ml mc he hl hc =>
    have ht : P.underlying t = some (.slice e) := by
      unfold elemT at he
      split at he
      · rename_i e' h'; cases he; exact h'
      · cases he
    split at hm
    case h_2 => cases hm
    case h_1 i z hi hz =>
    split at hm
    case isFalse => cases hm
    case isTrue hcc =>
    simp only [Bool.and_eq_true, beq_iff_eq, decide_eq_true_eq] at hcc
    obtain ⟨hzl, h0⟩ := hcc
    cases hm
    obtain ⟨n, c', e1, e2, ⟨hn, hnc, hb, hc63⟩, rfl, rfl⟩ := hn
    have h1 := hR.arg hl
    have h2 := hR.arg hc
    rw [e1] at h1
    rw [e2] at h2
    have e3 := h1.i_inv
    have e4 := h2.i_inv
    obtain ⟨i', zv, hi', hzv, hv⟩ := zeroOf_inv hz
    rw [hi] at hi'
    cases hi'
    obtain ⟨z1, z2, z3⟩ := ofVals1_rel hv θ W
    have hrun := run_make (P := P) w t e i zv ht hi hzv .i64 .i64 n c' hn hnc (by rw [Int.mul_comm]; omega) (by omega)
    have hzs : zv.cells.size = i.size := by rw [← hzl, ← z1]; simp
    have hcell : ∀ k, k < c'.toNat * i.size → (madeCells zv.cells (c'.toNat * i.size))[k]? = zv.cells[k % i.size]? := by
      intro k hk'
      have hm : k % i.size < zv.cells.size := by rw [hzs]; exact Nat.mod_lt _ h0
      simp [madeCells, hk', hzs, hm, Nat.mod_lt _ h0]
    obtain ⟨θ', a1, a2, a3⟩ := newrowsAt hR.mem id hid i.size (List.replicate n.toNat z) (madeCells zv.cells (c'.toNat * i.size)) e c'.toNat (size_madeCells _ _) (by simp; omega) (by simp; intro _; exact hzl)
      (fun p r j q u hp hj hu => by
        rw [List.getElem?_replicate] at hp
        split at hp
        · rename_i hlt
          cases hp
          have hj' : j < z.length := by
            rcases Nat.lt_or_ge j z.length with h' | h'
            · exact h'
            · rw [List.getElem?_eq_none h'] at hj; cases hj
          have hlt2 : p * i.size + j < c'.toNat * i.size := by
            have : (p + 1) * i.size ≤ c'.toNat * i.size := Nat.mul_le_mul_right _ (by omega)
            rw [Nat.add_mul] at this
            omega
          rw [hcell _ hlt2, Nat.mul_comm, Nat.mul_add_mod, Nat.mod_eq_of_lt (by omega)] at hu
          exact z2 j q u hj (by simpa using hu)
        · cases hp)
      (fun j u hu => by
        have hlt : j < c'.toNat * i.size := by
          rcases Nat.lt_or_ge j (c'.toNat * i.size) with h' | h'
          · exact h'
          · rw [Array.getElem?_eq_none (by rw [size_madeCells]; exact h')] at hu; cases hu
        rw [hcell _ hlt] at hu
        exact z3 _ u (by simpa using hu))
    refine end_at hR hd hk (v := .slice (some ⟨w.heap.size, 0, none⟩) n.toNat c'.toNat) ?_ (.gs _ 0 0 n.toNat w.heap.size i.size c'.toNat 0 c'.toNat a3 (by omega) (by unfold maxL; omega) (by omega) (fun _ => by simp) (fun _ => rfl)) a1 a2
    simp [execOp, ho, e3, e4, hrun]
  | makeFunc fn first caps =>
    rw [ho] at hm
    cases fn with
    | func f =>
      simp only [cOp] at hm
      split at hm
      · obtain ⟨x, _, rfl⟩ := map_some_inv hm; exact hn.elim
      · cases hm
    | _ => cases hm
  | slice t x lo hi mx =>
    rw [ho] at hm
    cases mx with
    | some _ => cases hm
    | none =>
      simp only [cOp] at hm
      split at hm
      · cases hm; exact hn.elim
      · obtain ⟨n, _, rfl⟩ := map_some_inv hm; exact hn.elim
      · cases hm
  | call c =>
    rw [ho] at hm
    simp only [cOp, cCall] at hm
    (repeat' split at hm) <;> first | (cases hm; done) | (cases hm; exact hn.elim)
  | makeMap t hint =>
    rw [ho] at hm
    cases hint with
    | none => cases hm; exact hn.elim
    | some _ => cases hm
  | _ =>
    rw [ho] at hm
    simp only [cOp, cNilq, cNii, cSq, cPeq, Option.map_eq_some_iff] at hm
    first
      | (cases hm; done)
      | (obtain ⟨x, _, rfl⟩ := hm; exact hn.elim)
      | ((repeat' split at hm) <;> first | (cases hm; done) | (cases hm; exact hn.elim) | (simp only [Option.map_eq_some_iff, Option.bind_eq_some_iff] at hm; obtain ⟨x, _, hm⟩ := hm; first | (cases hm; exact hn.elim) | (split at hm <;> cases hm <;> exact hn.elim)))
      | skip
theorem app_new_at {sz b:Nat} {mx my:MA} {s:St} (hm:cOp lv P o.op=some (.app sz b mx my)) (hd:o.dst.all (decide <| ·<N)=true) {a:Act} {w:World} {next:Act->World->Prop} {Q:Exit->Act->World->Prop}
  (hR:Rl lv N s a w θ W) (hx0:s.get mx=.p .nl) {ys:List (List AV)} (hys:srcRows s.H sz (s.get my)=some ys) (hyr:∀ r∈ys,r.length=sz) (hne:ys≠[]) (hb:ys.length * b<=140737488355328) (hb63:ys.length<=140737488355328)
  (id:Nat) (hid:s.H[id]?=some .rsv)
  (hk:∀ a' w' θ' W',Rl lv N (St.put ⟨s.L,s.T,s.H.set id (.rows sz 0 ys)⟩ (cDst lv o.dst) (.gs id 0 0 ys.length)) a' w' θ' W'->Stp θ W w θ' W' w'->next a' w'):o.wp P a w next Q:=by
 obtain ⟨c,x,y,t,u,e,i,zl,du,ho,hc,hargs,hty,ht,hu,hdu,hi,hz,hzl,h0,hx,hy,rfl,rfl⟩:=cOp_app_inv hm
 have h1:=hR.arg hx
 have h2:=hR.arg hy
 have hrun:=run_app_op (P:=P) ho hc hargs hty a w
 obtain ⟨i',zv,hi',hzv,hv⟩:=zeroOf_inv hz
 rw [hi] at hi'
 cases hi'
 obtain ⟨z1,z2,z3⟩:=ofVals1_rel hv θ W
 have hzs:zv.cells.size=i.size:=by rw [<- hzl,<- z1]; simp
 have hz3:∀ (j:Nat) (u:Value),zv.cells[j]?=some u->u.oneCell'=true:=fun j u hj=>z3 j u (by simpa using hj)
 obtain ⟨news,s1,s2,s3,s4,s5⟩:=src_ok (P:=P) hR.mem h0 h2 hys hyr
 have hm:ys.length≠0:=fun e=>hne (List.eq_nil_of_length_eq_zero e)
 rw [hx0] at h1
 generalize hva:a.eval x=v at h1 hrun
 cases h1.p_inv
 have hr2:=run_app_grow (P:=P) (ty:=o.type) ht hu hdu hi hzv (w:=w) (base:=none) (n:=0) (cap:=0) (olds:=[]) s2 s3 (fun w' _=>rfl) (by omega) (by omega) (by rw [Nat.zero_add]; exact hb)
 rw [hr2] at hrun
 have hge:=grownCap_ge w (0+ys.length) 0 e
 obtain ⟨θ',a1,a2,a3⟩:=newrowsAt2 (w0:=w.drew) hR.mem id hid i.size ys _ e (grownCap w (0+ys.length) 0 e) rfl rfl rfl rfl (size_join (n:=0) (m:=ys.length) (olds:=[]) hzs (by simp) s1 hge) (by omega) hyr
  (fun p r j q u hp hj hu'=>rows_join (θ:=θ) (W:=W) (rs:=[]) (olds:=[]) (n:=0) (zs:=Builtin.zeroCells zv.cells (grownCap w (0+ys.length) 0 e - (0+ys.length))) h0 (by simp) (by simp) s1 rfl (by simp) hyr (fun i r j c u hlt=>by omega) s5 p r j q u (by simpa using hp) hj (by rw [<- arr3]; exact hu'))
  (one_join (olds:=[]) (by omega) (by simp) s4 hz3)
 refine end_at hR hd hk hrun ?_ a1 a2
 rw [Nat.zero_add] at hge a3 ⊢
 exact .gs _ 0 0 _ w.heap.size i.size _ 0 _ a3 hge (by unfold maxL; omega) (by omega) (fun _=>by simp) (fun _=>rfl)
end Go.AM
set_option linter.all false
namespace Go.AM
variable {lv:List Nat} {P:Program} {N:Nat} {K:St->Prop} {θ:Th} {W:Im} {C:CallP}
theorem ACall.mono {f:Nat} {args:List AV} {H:List AO} {R R':AV->List AO->Prop} (h:ACall P f args H R) (hr:∀ r H',R r H'->R' r H'):ACall P f args H R' :=
 ⟨h.1,fun w θ W vs hm ha=>(h.2 w θ W vs hm ha).mono fun e w' ⟨v,r,H',θ',W',h1,h2,h3⟩=>⟨v,r,H',θ',W',h1,hr _ _ h2,h3⟩⟩
inductive Out where
 | val (v:AV)
 | new (ob:AO) (mk:Nat->AV)
 | chn (v:AV) (Hc:List AO)
 | upd (k:Nat) (v:AV) (ob:AO)
def outPut (s:List AO × St) (d:MD):Out->List AO × St
 | .val v=>(s.1,s.2.put d v)
 | .new ob mk=>(s.1,St.put ⟨s.2.L,s.2.T,s.2.H++[ob]⟩ d (mk (s.1.length+s.2.H.length)))
 | .chn v Hc=>(Hc,s.2.put d v)
 | .upd k v ob=>(s.1,St.put ⟨s.2.L,s.2.T,s.2.H.set k ob⟩ d v)
def sts (pre : List MI) (outs : Nat → Out) (s : List AO × St) : Nat → List AO × St
  | 0 => s
  | i + 1 => match pre[i]? with
    | some o => outPut (sts pre outs s i) o.dst (outs i)
    | none => sts pre outs s i
theorem OR.val {θ : Th} {W : Im} {w : World} {id : Nat} {o : AO} (h : OR θ W w id o) : ∀ c, InO c o → ∃ v, ARel θ W c v := by
  intro c hc
  cases o with
  | var cs =>
    obtain ⟨⟨b, sz, tot, ty, vs, h1, h2, h3, h4, h5⟩, h6⟩ := h
    obtain ⟨j, hj⟩ := List.getElem?_of_mem hc
    have hj' : j < vs.size := by rw [h3]; exact (List.getElem?_eq_some_iff.1 hj).1
    exact ⟨_, h4 j c vs[j] hj (Array.getElem?_eq_getElem hj')⟩
  | rows sz ver rs =>
    obtain ⟨r, hr, hc⟩ := hc
    obtain ⟨h0, h8, h9⟩ := h
    rcases h0 with ⟨h1, rfl⟩ | ⟨b, tot, ty, vs, h1, h2, h3, h4, h5, h6, h7⟩
    · cases hr
    · obtain ⟨i, hi⟩ := List.getElem?_of_mem hr
      obtain ⟨j, hj⟩ := List.getElem?_of_mem hc
      have hil := (List.getElem?_eq_some_iff.1 hi).1
      have hjl := (List.getElem?_eq_some_iff.1 hj).1
      have hlen := h5 r hr
      have hlt : i * sz + j < vs.size := by
        have : (i + 1) * sz ≤ tot * sz := Nat.mul_le_mul_right _ (by omega)
        rw [Nat.succ_mul] at this
        omega
      exact ⟨_, h6 i r j c vs[i * sz + j] hi hj (Array.getElem?_eq_getElem hlt)⟩
  | mapo es =>
    obtain ⟨x, hx, hc⟩ := hc
    obtain ⟨⟨b, es', ck, h1, h2, h3, h4⟩, h5⟩ := h
    obtain ⟨j, hj⟩ := List.getElem?_of_mem hx
    have hj' : j < es'.size := by rw [h3.1]; exact (List.getElem?_eq_some_iff.1 hj).1
    have := h4 j x es'[j] hj (Array.getElem?_eq_getElem hj')
    rcases hc with rfl | rfl
    · exact ⟨_, this.1⟩
    · exact ⟨_, this.2⟩
  | _ => exact hc.elim
def Fill (op:MO) (N A:List AO) (b:Nat) (s':St):Prop:=∀ id ob,Rch N b (fun i=>∃ y∈op.args,idOf (s'.get y)=some i) id->N[id - b]?=some ob->A[id - b]?=some ob
def SrcOk (Hm:List AO) (s:List AO × St) (sz b:Nat) (y:MA) (ys:List (List AV)):Prop :=
 y.isC=false/\srcN Hm s.1 s.2.H sz (s.2.get y)=some ys/\∀ r∈ys,r.length=sz
def AppNew (Hm:List AO) (op:MO) (s:List AO × St) (ob:AO) (mk:Nat->AV):Prop :=
 ∃ sz b x y ys,op=.appn sz b x y/\s.2.get x=.p .nl/\SrcOk Hm s sz b y ys/\ys≠[] /\
  ys.length * b<=140737488355328/\ys.length<=140737488355328/\ob=.rows sz 0 ys/\mk=fun id=>.gs id 0 0 ys.length
def AppUpd (Hm:List AO) (op:MO) (s:List AO × St) (k:Nat) (v:AV) (ob:AO):Prop :=
 ∃ sz b x y ys id ver n rs,op=.appn sz b x y/\x.isC=false/\s.2.get x=.gs id ver 0 n/\s.1.length<=id/\k=id - s.1.length/\s.2.H[k]?=some (.rows sz ver rs)/\n<=rs.length/\SrcOk Hm s sz b y ys /\
  (n+ys.length) * b<=140737488355328/\n+ys.length<=140737488355328/\v=.gs id (ver+1) 0 (n+ys.length)/\ob=.rows sz (ver+1) (rs.take n++ys)
def StoUpd (op:MO) (s:List AO × St) (k:Nat) (v:AV) (ob:AO):Prop :=
 ∃ n x w id off cs us cs',op=.ston n x w/\x.isC=false/\s.2.get x=.ptr id off/\s.1.length<=id/\k=id - s.1.length/\s.2.H[k]?=some (.var cs)/\stonU n (s.2.get w)=some us/\splice cs off us=some cs'/\v=.any/\ob=.var cs'
def RdnOk (op:MO) (s:List AO × St) (v:AV):Prop :=
 ∃ x id ver off n ob,op=.b2sn x/\x.isC=false/\s.2.get x=.gs id ver off n/\s.1.length<=id/\s.2.H[id - s.1.length]?=some ob/\b2sR (srcR 1 ver off n (some ob))=some v
def EarOk (P:Program) (op:MO) (d:MD) (s:List AO × St) (v:AV):Prop :=
 kindOf op=.ear/\∀ s' A,Agree op.args s.2 s'->s'.H=s.1++A->stepU (ACall P) op d (fun t=>t=s'.put d v) s'
def GoodU (P:Program) (Hm:List AO) (op:MO) (d:MD) (s:List AO × St):Out->Prop
 | .val v=>(∀ s',Agree op.args s.2 s'->Hext Hm s'.H->stepU (ACall P) op d (fun t=>t=s'.put d v) s')\/RdnOk op s v\/EarOk P op d s v
 | .new ob mk=>(kindOf op=.new/\NewOk op s.2 ob mk)\/AppNew Hm op s ob mk\/((chainM op=true)/\∀ s' j,Agree op.args s.2 s'->Hext Hm s'.H->s'.H[j]?=some .rsv->stepU (ACall P) op d (fun t=>t=St.put ⟨s'.L,s'.T,s'.H.set j ob⟩ d (mk j)) s')
 | .chn v Hc=>chainM op=true/\Hc.length=s.1.length/\Hext Hm Hc/\∀ s' A,Agree op.args s.2 s'->s'.H=s.1++A->Hext Hm s'.H->Fill op s.2.H A s.1.length s'->stepU (ACall P) op d (fun t=>t=⟨(s'.put d v).L,(s'.put d v).T,Hc++A⟩) s'
 | .upd k v ob=>AppUpd Hm op s k v ob\/StoUpd op s k v ob
def GoodI (P:Program) (Hm:List AO) (o:MI) (s:List AO × St) (out:Out):Prop :=
 match o.guard with
 | none=>GoodU P Hm o.op o.dst s out
 | some (t,want)=>(s.2.get t=.tup []/\out=.val (.tup []))\/∃ b,s.2.get t=.p (.b b)/\(b=want->GoodU P Hm o.op o.dst s out)/\(b≠want->out=.val (.tup []))
theorem src_same {Hm : List AO} {s : List AO × St} {sz : Nat} {y : MA} {ys : List (List AV)} (hyc : y.isC = false) (hys : srcN Hm s.1 s.2.H sz (s.2.get y) = some ys) {s' : St} {A : List AO} (ey : s.2.get y = s'.get y) (hA : s'.H = s.1 ++ A) (hx : Hext Hm s'.H)
    (hf : ∀ id v o n ob, s'.get y = .gs id v o n → s.1.length ≤ id → s.2.H[id - s.1.length]? = some ob → A[id - s.1.length]? = some ob) : srcRows s'.H sz (s'.get y) = some ys := by
  rw [ey] at hys
  cases hv : s'.get y with
  | gs id v o n =>
    rw [hv] at hys
    show srcR sz v o n s'.H[id]? = some ys
    unfold srcN at hys
    simp only at hys
    split at hys
    · rename_i hle
      rw [hA, List.getElem?_append_right hle]
      cases hN : s.2.H[id - s.1.length]? with
      | none => rw [hN] at hys; cases hys
      | some ob => rw [hf id v o n ob hv hle hN, ← hN]; exact hys
    · cases hN : Hm[id]? with
      | none => rw [hN] at hys; cases hys
      | some ob =>
        rw [hN] at hys
        have hnd : ob ≠ .dead := by rintro rfl; cases hys
        rw [hx id ob hN hnd]; exact hys
  | p x =>
    rw [hv] at hys
    exact srcRows_ext (H := []) (fun id o h _ => by simp at h) hys
  | _ => rw [hv] at hys; cases hys
theorem get_H (L T:En) (H H':List AO) (x:MA):St.get ⟨L,T,H⟩ x=St.get ⟨L,T,H'⟩ x:=by cases x <;> rfl
theorem preU_inv {J : PK} {Hm Hc : List AO} {op : MO} {d : MD} {s : St} (h : preU (ACall P) Hm Hc op d J s) : ∃ out, GoodU P Hm op d (Hc, s) out ∧ J (outPut (Hc, s) d out).1 (outPut (Hc, s) d out).2 := by
  unfold preU at h
  split at h
  · rename_i hq
    obtain ⟨v, h1, h2⟩ := quiet_val hq h
    refine ⟨.val v, .inl fun s' ha he => h2 s' (fun x hx => by rw [get_H _ _ Hm s.H]; exact ha x hx) he, ?_⟩
    cases d <;> exact h1
  · rename_i hq
    have fin : ∀ (N : List AO) (f : Nat) (xs : List AV), (∀ s' : St, Agree op.args s s' → ∀ K : St → Prop, ACall P f xs s'.H (callK d K s') → stepU (ACall P) op d K s') → chainM op = true → (∀ (s' : St) A, Agree op.args s s' → Fill op s.H A Hc.length s' → FillA xs N A Hc.length) → pcallK (ACall P) Hm Hc N f xs d J s →
        ∃ out, GoodU P Hm op d (Hc, s) out ∧ J (outPut (Hc, s) d out).1 (outPut (Hc, s) d out).2 := by
      rintro N f xs hstep hch hfa (⟨r, Hc', h1, h2, h3, h4⟩ | ⟨ob, mk, h3, h4⟩)
      rotate_left
      · refine ⟨.new ob mk, .inr (.inr ⟨hch, fun s' j ha he hj => hstep s' ha _ ?_⟩), h4⟩
        refine (h3 s'.H j he hj).mono ?_
        rintro r' H' ⟨rfl, rfl⟩
        rfl
      refine ⟨.chn r Hc', ⟨hch, h1, h2, fun s' A ha hA _ hf => hstep s' ha _ ?_⟩, h4⟩
      rw [hA]
      refine (h3 A (hfa s' A ha hf)).mono ?_
      rintro r' H' ⟨rfl, rfl⟩
      show St.put ⟨s'.L, s'.T, Hc' ++ A⟩ d r' = _
      rw [put_TH]
    cases op with
    | call f args =>
      refine fin s.H f (gets s args) (fun s' ha K hc => ?_) rfl (fun s' A ha hf => ?_) h
      · show ACall P f (gets s' args) s'.H (callK d K s')
        rw [← Agree.gets (l := args) ha]; exact hc
      · rw [Agree.gets (l := args) ha]
        intro id ob hr hN
        refine hf id ob (hr.mono fun i hi => ?_) hN
        obtain ⟨x, hx, hid⟩ := hi
        have : ∃ y ∈ args, s'.get y = x := by
          clear hf hid hN hr fin h hq
          have key : ∀ l : List MA, x ∈ gets s' l → ∃ y ∈ l, s'.get y = x := by
            intro l
            induction l with
            | nil => intro h; cases h
            | cons y l ih =>
              intro h
              rcases List.mem_cons.1 h with e | e
              · exact ⟨y, by simp, e.symm⟩
              · obtain ⟨z, hz, hz2⟩ := ih e
                exact ⟨z, List.mem_cons_of_mem _ hz, hz2⟩
          exact key args hx
        obtain ⟨y, hy, rfl⟩ := this
        exact ⟨y, hy, hid⟩
    | calv x args =>
      change (match s.get x with | .clo f caps => pcallK (ACall P) Hm Hc [] f (gets s args ++ caps) d J s | _ => False) at h
      split at h
      · rename_i f caps e
        refine fin [] f (gets s args ++ caps) (fun s' ha K hc => ?_) rfl (fun s' A ha hf id ob hr hN => by simp at hN) h
        show calvK (ACall P) (s'.get x) (gets s' args) d K s'
        rw [← ha x (by simp [MO.args]), e, ← Agree.gets (l := args) (fun y hy => ha y (by simp [MO.args, hy]))]
        exact hc
      · exact h.elim
    | _ => cases hq
  · rename_i hq
    obtain ⟨ob, mk, h1, h2⟩ := new_val hq h
    exact ⟨.new ob mk, .inl ⟨hq, h1⟩, h2⟩
  · rename_i hq
    obtain ⟨v, H', ⟨h1, h2, h3⟩, h4⟩ := eff_val hq h
    refine ⟨.chn v H', ⟨(by cases op <;> first | rfl | (cases hq; done)), h1, h2, fun s' A ha hA _ _ => h4 h1 s' A (fun x hx => by rw [get_H _ _ Hc s.H]; exact ha x hx) hA⟩, ?_⟩
    cases d <;> exact h3
  · rename_i hq
    cases op with
    | appn sz b x y =>
      change (if x.isC || y.isC then False else appnY Hm Hc sz b (s.get x) (srcN Hm Hc s.H sz (s.get y)) d J s) at h
      split at h
      · exact h.elim
      rename_i hcc
      simp only [Bool.or_eq_true, not_or, Bool.not_eq_true] at hcc
      obtain ⟨hxc, hyc⟩ := hcc
      unfold appnY at h
      split at h
      case h_2 => exact h.elim
      case h_1 ys hys =>
      obtain ⟨hyr, ⟨hx, hne, hb, hb63, hK⟩ | h2 | ⟨id, ver, n, hx, hle, h2⟩⟩ := h
      · exact ⟨.new (.rows sz 0 ys) (fun id => .gs id 0 0 ys.length), .inr (.inl ⟨sz, b, x, y, ys, rfl, hx, ⟨hyc, hys, hyr⟩, hne, hb, hb63, rfl, rfl⟩), hK⟩
      · unfold appX at h2
        split at h2
        · obtain ⟨q1, q2, h2⟩ := h2
          rw [put_TH] at h2
          have := h2.1
          simp at this
        · rename_i id2 ver2 off2 n2 e2
          unfold appR at h2
          split at h2
          · rename_i sz' ver' rs hid
            obtain ⟨rfl, rfl, rfl, q4, q5, q6, h2⟩ := h2
            have hlt := (List.getElem?_eq_some_iff.1 hid).1
            have h2' : effK Hm Hc s.H J ⟨(St.put s d (.gs id2 (ver' + 1) 0 (n2 + ys.length))).L, (St.put s d (.gs id2 (ver' + 1) 0 (n2 + ys.length))).T, Hc.set id2 (.rows sz' (ver' + 1) (rs.take n2 ++ ys))⟩ := by
              rw [put_TH] at h2
              cases d <;> exact h2
            obtain ⟨k1, k2, k3⟩ := h2'
            refine ⟨.chn (.gs id2 (ver' + 1) 0 (n2 + ys.length)) (Hc.set id2 (.rows sz' (ver' + 1) (rs.take n2 ++ ys))), ⟨rfl, k1, k2, fun s' A ha hA hx hf => ?_⟩, ?_⟩
            · have ex := ha x (by simp [MO.args])
              have ey := ha y (by simp [MO.args])
              have hs' := src_same (s := (Hc, s)) hyc hys ey hA hx (fun id v o n ob h1 h2 h3 => hf id ob (.arg ⟨y, by simp [MO.args], by rw [h1]; rfl⟩ h2) h3)
              show appY sz' b (s'.get x) (srcRows s'.H sz' (s'.get y)) d _ s'
              rw [hs', ← ex]
              refine ⟨hyr, ?_⟩
              have e2' : s.get x = .gs id2 ver' 0 n2 := e2
              rw [e2', appX_gs', hA, List.getElem?_append_left hlt, hid]
              refine ⟨rfl, rfl, rfl, q4, q5, q6, ?_⟩
              rw [hA, List.set_append_left _ _ hlt]
              exact put_TH s' _ d _
            · cases d <;> exact k3
          · exact h2.elim
        · exact h2.elim
      · unfold appnN at h2
        split at h2
        · rename_i sz' ver' rs hid
          obtain ⟨rfl, rfl, q4, q5, q6, h2⟩ := h2
          exact ⟨.upd (id - Hc.length) (.gs id (ver' + 1) 0 (n + ys.length)) (.rows sz' (ver' + 1) (rs.take n ++ ys)), .inl ⟨sz', b, x, y, ys, id, ver', n, rs, rfl, hxc, hx, hle, rfl, hid, q4, ⟨hyc, hys, hyr⟩, q5, q6, rfl, rfl⟩, h2⟩
        · exact h2.elim
    | ston n x w =>
      change (if x.isC then False else stonK Hc n (s.get x) (s.get w) d J s) at h
      split at h
      · exact h.elim
      rename_i hxc
      simp only [Bool.not_eq_true] at hxc
      unfold stonK at h
      split at h
      case h_2 => exact h.elim
      case h_1 id off hx =>
      obtain ⟨hle, h⟩ := h
      unfold stonR at h
      split at h
      case h_2 => exact h.elim
      case h_1 cs hid =>
      cases hu : stonU n (s.get w) with
      | none => rw [hu] at h; exact h.elim
      | some us =>
        rw [hu, Option.bind_some] at h
        cases hs : splice cs off us with
        | none => rw [hs] at h; exact h.elim
        | some cs' =>
          rw [hs] at h
          exact ⟨.upd (id - Hc.length) .any (.var cs'), .inr ⟨n, x, w, id, off, cs, us, cs', rfl, hxc, hx, hle, rfl, hid, hu, hs, rfl, rfl⟩, h⟩
    | _ => cases hq
  · rename_i hq
    cases op with
    | b2sn x =>
      change (if x.isC then False else rdnX Hc (s.get x) d J s) at h
      split at h
      · exact h.elim
      rename_i hxc
      simp only [Bool.not_eq_true] at hxc
      unfold rdnX at h
      split at h
      case h_2 => exact h.elim
      case h_1 id ver off n hx =>
      obtain ⟨hle, h⟩ := h
      obtain ⟨v, hv, h⟩ := withV_inv h
      cases hob : s.H[id - Hc.length]? with
      | none => rw [hob] at hv; simp [srcR, b2sR] at hv
      | some ob =>
        rw [hob] at hv
        refine ⟨.val v, .inr (.inl ⟨x, id, ver, off, n, ob, rfl, hxc, hx, hle, hob, hv⟩), ?_⟩
        cases d <;> exact h
    | _ => cases hq
  · rename_i hq
    have key : ∀ {op2 : MO}, kindOf op2 = .quiet → op2.args = op.args → (∀ (K : St → Prop) st, stepU (ACall P) op d K st = stepU (ACall P) op2 d K st) → ∃ out, GoodU P Hm op d (Hc, s) out ∧ J (outPut (Hc, s) d out).1 (outPut (Hc, s) d out).2 := by
      intro op2 hq2 ha2 he2
      rw [he2] at h
      obtain ⟨v, h1, h2⟩ := quiet_val hq2 h
      refine ⟨.val v, .inr (.inr ⟨hq, fun s' A ha hA => ?_⟩), ?_⟩
      · rw [he2]
        refine h2 s' (fun x hx => ?_) ?_
        · rw [get_H _ _ Hc s.H]; exact ha x (by rw [← ha2]; exact hx)
        · rw [hA]; exact hext_app _ _
      · cases d <;> exact h1
    cases op with
    | lde g n x => exact key (op2 := .ld g n x) rfl rfl fun K st => rfl
    | ixse sz x i => exact key (op2 := .ixs sz x i) rfl rfl fun K st => rfl
    | _ => cases hq
  · exact h.elim
theorem condK_inv {v:AV} {A B:St->Prop} {s:St} (h:condK v A B s):∃ b,v=.p (.b b)/\(b=true->A s)/\(b=false->B s):=by
 unfold condK at h
 split at h
 ·rename_i b; exact ⟨b,rfl,h.1,fun hb=>h.2 (by simp [hb])⟩
 ·exact h.elim
theorem preI_inv {J : PK} {Hm Hc : List AO} {o : MI} {s : St} (h : preI (ACall P) Hm Hc o J s) : ∃ out, GoodI P Hm o (Hc, s) out ∧ J (outPut (Hc, s) o.dst out).1 (outPut (Hc, s) o.dst out).2 := by
  obtain ⟨d, op, g⟩ := o
  cases g with
  | none => exact preU_inv h
  | some tw =>
    obtain ⟨t, want⟩ := tw
    rw [preI_some] at h
    rcases guardK_inv h with ⟨e, h3⟩ | ⟨b, hb, h1, h2⟩
    · exact ⟨.val (.tup []), .inl ⟨e, rfl⟩, h3⟩
    · by_cases e : b = want
      · obtain ⟨out, q1, q2⟩ := preU_inv (h1 e)
        exact ⟨out, .inr ⟨b, hb, fun _ => q1, fun hne => (hne e).elim⟩, q2⟩
      · exact ⟨.val (.tup []), .inr ⟨b, hb, fun he => (e he).elim, fun _ => rfl⟩, h2 e⟩
def consOut (o:Out) (f:Nat->Out):Nat->Out
 | 0=>o
 | i+1=>f i
theorem sts_cons (o : MI) (os : List MI) (out : Out) (outs : Nat → Out) (s : List AO × St) : ∀ i, sts (o :: os) (consOut out outs) s (i + 1) = sts os outs (outPut s o.dst out) i
  | 0 => rfl
  | i + 1 => by
    rw [sts, sts_cons o os out outs s i]
    simp only [List.getElem?_cons_succ, sts]
    rfl
theorem trace {J : PK} {Hm : List AO} : ∀ (pre : List MI) (s : List AO × St), preK (ACall P) Hm pre J s.1 s.2 → ∃ outs : Nat → Out, (∀ i o, pre[i]? = some o → GoodI P Hm o (sts pre outs s i) (outs i)) ∧ J (sts pre outs s pre.length).1 (sts pre outs s pre.length).2
  | [], s, h => ⟨fun _ => .val .any, fun i o hi => by simp at hi, h⟩
  | o :: os, s, h => by
    rw [preK_cons] at h
    obtain ⟨out, h1, h2⟩ := preI_inv h
    obtain ⟨outs, h3, h4⟩ := trace os _ h2
    refine ⟨consOut out outs, ?_, ?_⟩
    · intro i o' hi
      cases i with
      | zero => simp at hi; subst hi; exact h1
      | succ i => rw [sts_cons]; exact h3 i o' (by simpa using hi)
    · rw [List.length_cons, sts_cons]; exact h4
theorem get_put (s : St) (d : Option Nat) (v : AV) (t : Nat) : (St.put s (cDst lv d) v).get (cTmp lv t) = if d = some t then v else s.get (cTmp lv t) := by
  cases d with
  | none => rfl
  | some d =>
    unfold cDst cTmp
    by_cases h1 : lmem lv d = true <;> by_cases h2 : lmem lv t = true
    · simp only [h1, h2, if_true, St.put, St.get, eget_eset, Option.some.injEq]
    · simp only [h1, h2, Bool.false_eq_true, if_true, if_false, St.put, St.get, Option.some.injEq]
      have hne : ¬ d = t := fun e => h2 (e ▸ h1)
      rw [if_neg hne]
    · simp only [h1, h2, Bool.false_eq_true, if_true, if_false, St.put, St.get, Option.some.injEq]
      have hne : ¬ d = t := fun e => h1 (e ▸ h2)
      rw [if_neg hne]
    · simp only [h1, h2, Bool.false_eq_true, if_false, St.put, St.get, eget_cons, Option.some.injEq]
theorem put_H (s:St) (d:MD) (v:AV):(St.put s d v).H=s.H:=by cases d <;> rfl
theorem Rl.congr {s s':St} {a:Act} {w:World} (h:Rl lv N s a w θ W) (hg:∀ t,s.get (cTmp lv t)=s'.get (cTmp lv t)) (hH:s.H=s'.H):Rl lv N s' a w θ W:=by
 refine ⟨h.defers,h.size,fun t ht=>?_,fun t ht=>?_,hH ▸ h.mem⟩
 ·have:=hg t
  simp only [cTmp,ht,if_true,St.get] at this
  rw [<- this]; exact h.loc t ht
 ·have:=hg t
  simp only [cTmp,ht,Bool.false_eq_true,if_false,St.get] at this
  rw [<- this]; exact h.tmp t ht
def FromOps (lv:List Nat) (l:List Operand) (x:MA):Prop:=(∃ v,x=.c v/\idOf v=none)\/∃ t,x=cTmp lv t/\Operand.tmp t∈l
theorem ofVal1_id {v:Value} {a:AV} (h:ofVal1 v=some a):idOf a=none:=by
 unfold ofVal1 at h
 (repeat' split at h) <;> first | (cases h; rfl) | (cases h; done)
theorem ofVal_id {v:Value} {a:AV} (h:ofVal v=some a):idOf a=none:=by
 unfold ofVal at h
 split at h
 ·obtain ⟨l,_,rfl⟩:=map_some_inv h; rfl
 ·exact ofVal1_id h
theorem cArg_from {y:Operand} {x:MA} (h:cArg lv y=some x) {l:List Operand} (hy:y∈l):FromOps lv l x:=by
 cases y with
 | tmp t=>cases h; exact .inr ⟨t,rfl,hy⟩
 | const v=>obtain ⟨a,h2,rfl⟩:=map_some_inv h; exact .inl ⟨a,rfl,ofVal_id h2⟩
 | global g=>cases h
 | func f=>cases h; exact .inl ⟨_,rfl,rfl⟩
theorem cArgs_from {ys : List Operand} {xs : List MA} (h : cArgs lv ys = some xs) {l : List Operand} (hy : ∀ y ∈ ys, y ∈ l) : ∀ x ∈ xs, FromOps lv l x := by
  induction ys generalizing xs with
  | nil => cases h; intro x hx; cases hx
  | cons y ys ih =>
    simp only [cArgs] at h
    split at h
    · rename_i a l' h1 h2
      cases h
      intro x hx
      rcases List.mem_cons.1 hx with rfl | hx
      · exact cArg_from h1 (hy y (by simp))
      · exact ih h2 (fun z hz => hy z (List.mem_cons_of_mem _ hz)) x hx
    · cases h
theorem cParts_from {t : TypeId} {ps : List (Nat × Operand)} {ms : List (Nat × Nat × MA)} (h : cParts lv P t ps = some ms) {l : List Operand} (hy : ∀ p ∈ ps, p.2 ∈ l) : ∀ x ∈ ms.map (·.2.2), FromOps lv l x := by
  induction ps generalizing ms with
  | nil => cases h; intro x hx; cases hx
  | cons p ps ih =>
    obtain ⟨f, y⟩ := p
    simp only [cParts] at h
    split at h
    · rename_i off ft n a l' h1 h2 h3
      cases h
      intro x hx
      rcases List.mem_cons.1 hx with rfl | hx
      · exact cArg_from h2 (hy (f, y) (by simp))
      · exact ih h3 (fun z hz => hy z (List.mem_cons_of_mem _ hz)) x hx
    · cases h
theorem cElems_from {ps : List (Nat × Operand)} {ms : List (Nat × MA)} (h : cElems lv ps = some ms) {l : List Operand} (hy : ∀ p ∈ ps, p.2 ∈ l) : ∀ x ∈ ms.map (·.2), FromOps lv l x := by
  induction ps generalizing ms with
  | nil => cases h; intro x hx; cases hx
  | cons p ps ih =>
    obtain ⟨f, y⟩ := p
    simp only [cElems] at h
    split at h
    · rename_i a l' h1 h2
      cases h
      intro x hx
      rcases List.mem_cons.1 hx with rfl | hx
      · exact cArg_from h1 (hy (f, y) (by simp))
      · exact ih h2 (fun z hz => hy z (List.mem_cons_of_mem _ hz)) x hx
    · cases h
theorem cOpt_from {y : Option Operand} {x : Option MA} (h : cOpt lv y = some x) {l : List Operand} (hy : ∀ z, y = some z → z ∈ l) : ∀ z ∈ x.toList, FromOps lv l z := by
  cases y with
  | none => cases h; intro z hz; cases hz
  | some y =>
    obtain ⟨a, h1, rfl⟩ := map_some_inv h
    intro z hz
    simp at hz
    subst hz
    exact cArg_from h1 (hy y rfl)
theorem cCall_from {c:Call} {m:MO} (h:cCall lv P c=some m):∀ x∈m.args,FromOps lv c.operands.toList x:=by
 have hargs:∀ y∈c.args.toList,y∈c.operands.toList:=by
  intro y hy
  simp only [Call.operands,Array.toList_append,List.mem_append]
  exact .inr hy
 unfold cCall at h
 split at h
 ·rename_i f as hc ha
  split at h
  ·split at h
   ·cases h; exact cArgs_from ha hargs
   ·cases h
  ·cases h
 ·rename_i t as hc ha
  cases h
  intro x hx
  rcases List.mem_cons.1 hx with rfl | hx
  ·exact .inr ⟨t,rfl,by simp [Call.operands,hc]⟩
  ·exact cArgs_from ha hargs x hx
 ·rename_i x hc ha
  have:=cArgs_from ha hargs
  (repeat' split at h) <;> first | (cases h; done) | (cases h; exact this)
 ·rename_i x hc ha
  have:=cArgs_from ha hargs
  (repeat' split at h) <;> first | (cases h; done) | (cases h; exact this)
 ·rename_i x y hc ha
  have:=cArgs_from ha hargs
  (repeat' split at h) <;> first | (cases h; done) | (cases h; exact this)
 ·rename_i x y hc ha
  cases h; exact cArgs_from ha hargs
 ·rename_i x y hc ha
  cases h; exact cArgs_from ha hargs
 ·cases h
theorem cOp_from {op : Op} {m : MO} (h : cOp lv P op = some m) : ∀ x ∈ m.args, FromOps lv op.operands.toList x := by
  cases op with
  | move y => obtain ⟨a, h1, rfl⟩ := map_some_inv h; intro x hx; simp only [MO.args, List.mem_singleton] at hx; subst hx; exact cArg_from h1 (by simp [Op.operands])
  | assign y => obtain ⟨a, h1, rfl⟩ := map_some_inv h; intro x hx; simp only [MO.args, List.mem_singleton] at hx; subst hx; exact cArg_from h1 (by simp [Op.operands])
  | pick c a b =>
    simp only [cOp] at h
    split at h
    · rename_i h1 h2 h3
      cases h
      intro x hx
      simp only [MO.args, List.mem_cons, List.not_mem_nil, or_false] at hx
      rcases hx with rfl | rfl | rfl
      · exact cArg_from h1 (by simp [Op.operands])
      · exact cArg_from h2 (by simp [Op.operands])
      · exact cArg_from h3 (by simp [Op.operands])
    · cases h
  | alloc t => obtain ⟨a, h1, rfl⟩ := map_some_inv h; intro x hx; cases hx
  | box t y =>
    simp only [cOp] at h
    split at h
    · rename_i h1 h2; cases h; intro x hx; simp only [MO.args, List.mem_singleton] at hx; subst hx; exact cArg_from h1 (by simp [Op.operands])
    · cases h
  | build t ps =>
    simp only [cOp] at h
    split at h
    · split at h
      · rename_i h1 h2
        split at h
        · cases h; exact cParts_from h2 (fun p hp => by simp [Op.operands]; exact ⟨p.1, by simpa using hp⟩)
        · cases h
      · cases h
    · cases h
  | buildSlice t n ps =>
    simp only [cOp] at h
    split at h
    · split at h
      · rename_i h1 h2 h3
        split at h
        · cases h; exact cElems_from h3 (fun p hp => by simp [Op.operands]; exact ⟨p.1, by simpa using hp⟩)
        · cases h
      · cases h
    · cases h
  | load t y =>
    simp only [cOp] at h
    split at h
    · rename_i h1 h2 h3; cases h; intro x hx; simp only [MO.args, List.mem_singleton] at hx; subst hx; exact cArg_from h1 (by simp [Op.operands])
    · cases h
  | store t y v =>
    simp only [cOp] at h
    split at h
    · rename_i h1 h2 h3
      split at h
      · cases h
        intro x hx
        simp only [MO.args, List.mem_cons, List.not_mem_nil, or_false] at hx
        rcases hx with rfl | rfl
        · exact cArg_from h1 (by simp [Op.operands])
        · exact cArg_from h2 (by simp [Op.operands])
      · cases h
    · cases h
  | nilCheck y => obtain ⟨a, h1, rfl⟩ := map_some_inv h; intro x hx; simp only [MO.args, List.mem_singleton] at hx; subst hx; exact cArg_from h1 (by simp [Op.operands])
  | binOp bop t y z u =>
    simp only [cOp] at h
    split at h
    · rename_i h1 h2 h3
      cases h
      intro x hx
      simp only [MO.args, List.mem_cons, List.not_mem_nil, or_false] at hx
      rcases hx with rfl | rfl
      · exact cArg_from h1 (by simp [Op.operands])
      · exact cArg_from h2 (by simp [Op.operands])
    · rename_i h1 h2 h3
      cases h
      intro x hx
      simp only [MO.args, List.mem_cons, List.not_mem_nil, or_false] at hx
      rcases hx with rfl | rfl
      · exact cArg_from h1 (by simp [Op.operands])
      · exact cArg_from h2 (by simp [Op.operands])
    · rename_i h1 h2 h3
      have fin : ∀ a b : MA, cArg lv y = some a → cArg lv z = some b → ∀ x ∈ [a, b], FromOps lv (Op.binOp bop t y z u).operands.toList x := by
        intro a b ha hb x hx
        simp only [List.mem_cons, List.not_mem_nil, or_false] at hx
        rcases hx with rfl | rfl
        · exact cArg_from ha (by simp [Op.operands])
        · exact cArg_from hb (by simp [Op.operands])
      split at h
      · cases h; exact fin _ _ h1 h2
      · cases h; exact fin _ _ h1 h2
      · cases h
    · rename_i h1 h2 h3
      have fin : ∀ a b : MA, cArg lv y = some a → cArg lv z = some b → ∀ x ∈ [a, b], FromOps lv (Op.binOp bop t y z u).operands.toList x := by
        intro a b ha hb x hx
        simp only [List.mem_cons, List.not_mem_nil, or_false] at hx
        rcases hx with rfl | rfl
        · exact cArg_from ha (by simp [Op.operands])
        · exact cArg_from hb (by simp [Op.operands])
      unfold cSq at h
      split at h
      · split at h
        · cases h; exact fin _ _ h1 h2
        · cases h; exact fin _ _ h1 h2
        · cases h
      · cases h
    · rename_i h1 h2 h3
      unfold cNii at h
      split at h
      · cases h; intro x hx; simp only [MO.args, List.mem_singleton] at hx; subst hx; exact cArg_from h1 (by simp [Op.operands])
      · cases h; intro x hx; simp only [MO.args, List.mem_singleton] at hx; subst hx; exact cArg_from h1 (by simp [Op.operands])
      · cases h
    · rename_i h1 h2 h3
      unfold cNilq at h
      split at h
      · cases h; intro x hx; simp only [MO.args, List.mem_singleton] at hx; subst hx; exact cArg_from h1 (by simp [Op.operands])
      · cases h; intro x hx; simp only [MO.args, List.mem_singleton] at hx; subst hx; exact cArg_from h1 (by simp [Op.operands])
      · cases h
    · rename_i h1 h2 h3
      unfold cNilq at h
      split at h
      · cases h; intro x hx; simp only [MO.args, List.mem_singleton] at hx; subst hx; exact cArg_from h1 (by simp [Op.operands])
      · cases h; intro x hx; simp only [MO.args, List.mem_singleton] at hx; subst hx; exact cArg_from h1 (by simp [Op.operands])
      · cases h
    · rename_i h1 h2 h3
      have fin : ∀ (ne : Bool) (a b : MA), cArg lv y = some a → cArg lv z = some b → ∀ x ∈ MO.args (.peq ne a b), FromOps lv (Op.binOp bop t y z u).operands.toList x := by
        intro ne a b ha hb x hx
        simp only [MO.args, List.mem_cons, List.not_mem_nil, or_false] at hx
        rcases hx with rfl | rfl
        · exact cArg_from ha (by simp [Op.operands])
        · exact cArg_from hb (by simp [Op.operands])
      unfold cPeq at h
      split at h
      · split at h
        · split at h
          · cases h; exact fin _ _ _ h1 h2
          · cases h; exact fin _ _ _ h1 h2
          · cases h
        · cases h
      · cases h
    · cases h
  | makeMap t hint =>
    cases hint with
    | none => cases h; intro x hx; simp [MO.args] at hx
    | some _ => cases h
  | lookup t y z ok =>
    simp only [cOp] at h
    split at h
    · rename_i h1 h2 h3
      cases h
      intro x hx
      simp only [MO.args, List.mem_cons, List.not_mem_nil, or_false] at hx
      rcases hx with rfl | rfl
      · exact cArg_from h2 (by simp [Op.operands])
      · exact cArg_from h3 (by simp [Op.operands])
    · cases h
  | mapUpdate t y z v =>
    simp only [cOp] at h
    split at h
    · rename_i h1 h2 h3 h4
      cases h
      intro x hx
      simp only [MO.args, List.mem_cons, List.not_mem_nil, or_false] at hx
      rcases hx with rfl | rfl | rfl
      · exact cArg_from h2 (by simp [Op.operands])
      · exact cArg_from h3 (by simp [Op.operands])
      · exact cArg_from h4 (by simp [Op.operands])
    · cases h
  | unOp uop t y => obtain ⟨a, h1, rfl⟩ := map_some_inv h; intro x hx; simp only [MO.args, List.mem_singleton] at hx; subst hx; exact cArg_from h1 (by simp [Op.operands])
  | convert s t y =>
    simp only [cOp] at h
    split at h
    · rename_i h1 h2 h3; cases h; intro x hx; simp only [MO.args, List.mem_singleton] at hx; subst hx; exact cArg_from h1 (by simp [Op.operands])
    · rename_i h1 h2 h3
      split at h
      · cases h; intro x hx; simp only [MO.args, List.mem_singleton] at hx; subst hx; exact cArg_from h1 (by simp [Op.operands])
      · cases h
    · rename_i h1 h2 h3
      split at h
      · cases h; intro x hx; simp only [MO.args, List.mem_singleton] at hx; subst hx; exact cArg_from h1 (by simp [Op.operands])
      · cases h
    · cases h
  | makeFunc fn first caps =>
    cases fn with
    | func f =>
      simp only [cOp] at h
      split at h
      · obtain ⟨a, h1, rfl⟩ := map_some_inv h
        exact cArgs_from h1 (fun y hy => by simp only [Op.operands, Array.toList_append, List.mem_append]; exact .inr hy)
      · cases h
    | _ => cases h
  | makeSlice t l c =>
    simp only [cOp] at h
    split at h
    · rename_i h1 h2 h3
      split at h
      · split at h
        · cases h
          intro x hx
          simp only [MO.args, List.mem_cons, List.not_mem_nil, or_false] at hx
          rcases hx with rfl | rfl
          · exact cArg_from h2 (by simp [Op.operands])
          · exact cArg_from h3 (by simp [Op.operands])
        · cases h
      · cases h
    · cases h
  | slice t y lo hi mx =>
    cases mx with
    | some _ => cases h
    | none =>
      have fin : ∀ k a b c, cArg lv y = some a → cOpt lv lo = some b → cOpt lv hi = some c → ∀ x ∈ MO.args (.slc k a b c), FromOps lv (Op.slice t y lo hi none).operands.toList x := by
        intro k a b c h1 h2 h3 x hx
        simp only [MO.args, List.mem_cons, List.mem_append] at hx
        rcases hx with rfl | hx | hx
        · exact cArg_from h1 (by simp [Op.operands])
        · exact cOpt_from h2 (fun z hz => by subst hz; simp [Op.operands]) x hx
        · exact cOpt_from h3 (fun z hz => by subst hz; simp [Op.operands]) x hx
      simp only [cOp] at h
      split at h
      · rename_i h1 h2 h3 h4; cases h; exact fin _ _ _ _ h2 h3 h4
      · rename_i h1 h2 h3 h4; obtain ⟨n, _, rfl⟩ := map_some_inv h; exact fin _ _ _ _ h2 h3 h4
      · cases h
  | fieldAddr s y f =>
    simp only [cOp] at h
    split at h
    · rename_i h1 h2
      split at h
      · cases h; intro x hx; simp only [MO.args, List.mem_singleton] at hx; subst hx; exact cArg_from h2 (by simp [Op.operands])
      · cases h
    · cases h
  | field s y f =>
    simp only [cOp] at h
    split at h
    · rename_i h1 h2
      obtain ⟨n, _, rfl⟩ := map_some_inv h
      intro x hx; simp only [MO.args, List.mem_singleton] at hx; subst hx; exact cArg_from h2 (by simp [Op.operands])
    · cases h
  | indexAddr t y i =>
    have fin : ∀ a b, cArg lv y = some a → cArg lv i = some b → ∀ x ∈ [a, b], FromOps lv (Op.indexAddr t y i).operands.toList x := by
      intro a b ha hb x hx
      simp only [List.mem_cons, List.not_mem_nil, or_false] at hx
      rcases hx with rfl | rfl
      · exact cArg_from ha (by simp [Op.operands])
      · exact cArg_from hb (by simp [Op.operands])
    simp only [cOp] at h
    split at h
    · rename_i h1 h2 h3
      simp only [Option.bind_eq_some_iff] at h
      obtain ⟨n, _, h⟩ := h
      split at h
      · cases h; exact fin _ _ h2 h3
      · cases h
    · rename_i h1 h2 h3
      obtain ⟨n, _, rfl⟩ := map_some_inv h
      exact fin _ _ h2 h3
    · cases h
  | index t y i =>
    simp only [cOp] at h
    split at h
    · rename_i h1 h2 h3
      cases h
      intro x hx
      simp only [MO.args, List.mem_cons, List.not_mem_nil, or_false] at hx
      rcases hx with rfl | rfl
      · exact cArg_from h2 (by simp [Op.operands])
      · exact cArg_from h3 (by simp [Op.operands])
    · cases h
  | extract y n => obtain ⟨a, h1, rfl⟩ := map_some_inv h; intro x hx; simp only [MO.args, List.mem_singleton] at hx; subst hx; exact cArg_from h1 (by simp [Op.operands])
  | call c => exact cCall_from h
  | _ => cases h
end Go.AM