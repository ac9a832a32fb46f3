/- Marks that laws write into trees. -/
import Derived.Test.YtghcmccjchdgeaaGreatDoorAm36
set_option linter.all false
namespace Go.AM
def mdigit (n:Int):UInt8:=UInt8.ofNat (wr .u8 (wr .i64 (48+n.tmod 10))).toNat
def mdigs:Nat→Int→List UInt8→List UInt8
 | 0,_,s=>s
 | f+1,n,s=>if 0<n then mdigs f (n.tdiv 10) (mdigit n :: s) else s
theorem mdigs_zero (f:Nat) (s:List UInt8):mdigs f 0 s=s:=by cases f <;> rfl
def textM (k:Int):List UInt8:=if k≤0 then [109,48] else 109 :: mdigs k.toNat k []
mutual
def mkT : TV → Int → TV × Int
  | .p x, k => match x with
    | .s _ => (.p (.s (textM k)), k + 1)
    | .i kd _ => (.p (.i kd k), k + 1)
    | .b _ => (.p (.b (decide (k.tmod 3 = 0))), k + 1)
    | x => (.p x, k)
  | .s sz rows, k => (.s sz (mkR rows k).1, (mkR rows k).2)
def mkC:List TV→Int→List TV × Int
 | [],k=>([],k)
 | t :: l,k=>((mkT t k).1 :: (mkC l (mkT t k).2).1,(mkC l (mkT t k).2).2)
def mkR:List (List TV)→Int→List (List TV) × Int
 | [],k=>([],k)
 | r :: l,k=>((mkC r k).1 :: (mkR l (mkC r k).2).1,(mkR l (mkC r k).2).2)
end
mutual
def mcT : TV → Nat
  | .p x => match x with
    | .s _ => 1
    | .i _ _ => 1
    | .b _ => 1
    | _ => 0
  | .s _ rows => mcR rows
def mcC:List TV→Nat
 | []=>0
 | t :: l=>mcT t+mcC l
def mcR:List (List TV)→Nat
 | []=>0
 | r :: l=>mcC r+mcR l
end
mutual
theorem mkT_cnt:∀ (t:TV) (k:Int),(mkT t k).2=k+mcT t
 | .p x,k=>by cases x <;> simp [mkT,mcT]
 | .s sz rows,k=>by rw [mkT,mcT]; exact mkR_cnt rows k
theorem mkC_cnt:∀ (l:List TV) (k:Int),(mkC l k).2=k+mcC l
 | [],k=>by simp [mkC,mcC]
 | t :: l,k=>by rw [mkC,mcC]; simp only [mkC_cnt l,mkT_cnt t]; omega
theorem mkR_cnt:∀ (l:List (List TV)) (k:Int),(mkR l k).2=k+mcR l
 | [],k=>by simp [mkR,mcR]
 | r :: l,k=>by rw [mkR,mcR]; simp only [mkR_cnt l,mkC_cnt r]; omega
end
theorem mkR_len (l:List (List TV)):∀ k,(mkR l k).1.length=l.length:=by
 induction l with
 | nil=>intro k; rw [mkR]
 | cons r l ih=>intro k; rw [mkR]; simp [ih]
theorem mkR_step : ∀ (l : List (List TV)) (x : Nat) (h : x < l.length) (k : Int), mkR (l.take (x + 1)) k = ((mkR (l.take x) k).1 ++ [(mkC l[x] (mkR (l.take x) k).2).1], (mkC l[x] (mkR (l.take x) k).2).2)
  | [], x, h, k => by simp at h
  | r :: l, 0, h, k => by simp [mkR]
  | r :: l, x + 1, h, k => by
    have ih := mkR_step l x (by simpa using h) (mkC r k).2
    simp only [List.take_succ_cons, List.getElem_cons_succ]
    rw [mkR, ih, mkR]
    simp
theorem mcR_take (l : List (List TV)) : ∀ x, mcR (l.take x) ≤ mcR l := by
  induction l with
  | nil => intro x; simp
  | cons r l ih =>
    intro x
    cases x with
    | zero => rw [List.take_zero, mcR]; omega
    | succ x => rw [List.take_succ_cons, mcR, mcR]; have := ih x; omega
theorem mcR_step : ∀ (l : List (List TV)) (x : Nat) (h : x < l.length), mcR (l.take (x + 1)) = mcR (l.take x) + mcC l[x]
  | [], x, h => by simp at h
  | r :: l, 0, h => by simp [mcR]
  | r :: l, x + 1, h => by
    have ih := mcR_step l x (by simpa using h)
    simp only [List.take_succ_cons, List.getElem_cons_succ]
    rw [mcR, ih, mcR]; omega
structure MkI (H0 H:List AO) (sz id ver:Nat) (n:Nat) (rows:List (List TV)) (ids:List Nat):Prop where
 own:Own H (.s sz rows) (.gs id ver 0 n) ids
 nd:ids.Nodup
 len:H.length=H0.length
 fr:∀ i,i ∉ ids→H[i]?=H0[i]?
theorem splice_set : ∀ (r : List AV) (c : Nat) (v : AV), c < r.length → splice r c [v] = some (r.set c v)
  | [], c, v, h => by simp at h
  | u :: r, 0, v, h => by
    show (splice r 0 []).map (v :: ·) = _
    have : splice r 0 [] = some r := by cases r <;> rfl
    rw [this]; rfl
  | u :: r, c + 1, v, h => by
    show (splice r c [v]).map (u :: ·) = _
    rw [splice_set r c v (by simpa using h)]; rfl
theorem mk_sto {H0 H:List AO} {sz id ver n:Nat} {rows:List (List TV)} {ids:List Nat} (M:MkI H0 H sz id ver n rows ids) {x c:Nat} {row:List TV} {w:PV} (hx:rows[x]?=some row) (hc:row[c]?=some (.p w)) (v:PV) :
  ∃ rs H',H[id]?=some (.rows sz ver rs)∧stoR H id ver x c [.p v] (some (.rows sz ver rs))=some H'∧MkI H0 H' sz id ver n (rows.set x (row.set c (.p v))) ids∧(rows.set x (row.set c (.p v)))[x]?=some (row.set c (.p v)):=by
 obtain ⟨id',ver',rs,r,a,js,K⟩:=M.own.cell M.nd hx hc
 have ha:=K.ha
 cases ha
 have how:=K.own
 rw [Own] at how
 obtain ⟨rfl,rfl⟩:=how
 have hcl:c<r.length:=(List.getElem?_eq_some_iff.1 K.hc).1
 refine ⟨rs,_,K.ho,stoR_at K.hr (splice_set r c _ hcl),⟨K.sto rfl v row hx,M.nd,by rw [List.length_set]; exact M.len,fun i hi=>?_⟩,List.getElem?_set_self (List.getElem?_eq_some_iff.1 hx).1⟩
 rw [List.getElem?_set_ne (by rintro rfl; exact hi K.mem)]
 exact M.fr i hi
theorem mk_call {H0 H:List AO} {sz id ver n:Nat} {rows:List (List TV)} {ids:List Nat} (M:MkI H0 H sz id ver n rows ids) {x c sz':Nat} {row:List TV} {rows':List (List TV)} (hx:rows[x]?=some row) (hc:row[c]?=some (.s sz' rows')) :
  ∃ rs r kv js,H[id]?=some (.rows sz ver rs)∧rs[x]?=some r∧r.length=sz∧r[c]?=some kv∧Own H (.s sz' rows') kv js∧js.Nodup ∧
   ∀ H' rows'',H'.length=H.length→Own H' (.s sz' rows'') kv js→(∀ i,i ∉ js→H'[i]?=H[i]?)→MkI H0 H' sz id ver n (rows.set x (row.set c (.s sz' rows''))) ids∧(rows.set x (row.set c (.s sz' rows'')))[x]?=some (row.set c (.s sz' rows'')):=by
 obtain ⟨id',ver',rs,r,a,js,K⟩:=M.own.cell M.nd hx hc
 have ha:=K.ha
 cases ha
 refine ⟨rs,r,a,js,K.ho,K.hr,K.hrl,K.hc,K.own,K.nd,fun H' rows'' hl ho hf=>⟨⟨?_,M.nd,hl.trans M.len,fun i hi=>?_⟩,List.getElem?_set_self (List.getElem?_eq_some_iff.1 hx).1⟩⟩
 ·exact K.put ho (fun i _ hi o h=>(hf i hi).trans h) row hx
 ·rw [hf i (fun h=>hi (K.sub i h))]
  exact M.fr i hi
theorem mk_rows {rows:List (List TV)} {x:Nat} (h:x<rows.length) (k:Int):((mkR (rows.take x) k).1++rows.drop x).set x (mkC rows[x] (k+mcR (rows.take x))).1=(mkR (rows.take (x+1)) k).1++rows.drop (x+1):=by
 have hl:(mkR (rows.take x) k).1.length=x:=by rw [mkR_len,List.length_take]; omega
 rw [List.set_append_right _ _ (by omega),hl,Nat.sub_self,List.drop_eq_getElem_cons h,List.set_cons_zero,mkR_step rows x h k,mkR_cnt]
 simp
theorem mk_row {rows:List (List TV)} {x:Nat} (h:x<rows.length) (k:Int):((mkR (rows.take x) k).1++rows.drop x)[x]?=some rows[x]:=by
 rw [List.getElem?_append_right (by rw [mkR_len,List.length_take]; omega),mkR_len,List.length_take,Nat.min_eq_left (by omega),Nat.sub_self,List.getElem?_drop,Nat.add_zero,List.getElem?_eq_getElem h]
def MarkC (P:Program) (f sz:Nat) (rows:List (List TV)):Prop:=∀ (H:List AO) (a:AV) (ids:List Nat) (k:Int),Own H (.s sz rows) a ids→ids.Nodup→0≤k→k+mcR rows≤1000000000→rows.length≤1048576 →
 ACall P f [a,.p (.i .i64 k)] H (fun r H'=>r=.p (.i .i64 (k+mcR rows))∧H'.length=H.length∧Own H' (.s sz (mkR rows k).1) a ids∧∀ i,i ∉ ids→H'[i]?=H[i]?)
def HeldC (P:Program) (f sz:Nat) (rows:List (List TV)):Prop:=∀ (H:List AO) (a:AV) (ids:List Nat) (k:Int),Own H (.s sz (mkR rows k).1) a ids→0≤k→k+mcR rows≤1000000000→rows.length≤1048576 →
 ACall P f [a,.p (.i .i64 k)] H (pureQ (.p (.i .i64 (k+mcR rows))) H)
end Go.AM
