/- More equations for simp. -/
import Derived.Test.YtjkbbnfdbfcebaaGreatDoorAm27
set_option linter.all false
namespace Go.AM
@[go_sem] theorem agl (G l:List AO) (k:Nat):(G++l)[G.length+k]?=l[k]?:=by rw[List.getElem?_append_right (by omega),Nat.add_sub_cancel_left]
@[go_sem] theorem aeZ (G l:List AO):(G++l)[G.length]?=l[0]?:=by rw[List.getElem?_append_right (by omega),Nat.sub_self]
@[go_sem] theorem agm (G l:List AO) (k:Nat) (o:AO):(G++l).set (G.length+k) o=G++l.set k o:=by rw[List.set_append_right _ _ (by omega),Nat.add_sub_cancel_left]
@[go_sem] theorem ae0 (G l:List AO) (o:AO):(G++l).set G.length o=G++l.set 0 o:=by rw[List.set_append_right _ _ (by omega),Nat.sub_self]
attribute [go_sem] List.getElem?_cons_zero List.getElem?_cons_succ
theorem bg {H:List AO} {i:Nat} {o o':AO} (h:H[i]?=some o):(H.set i o')[i]?=some o':=by
 rw[List.getElem?_set];simp[(List.getElem?_eq_some_iff.1 h).1]
def jr (H:List AO) (a:AV) (sz:Nat) (rs:List (List AV)):Prop :=
 (a=.p .nl/\rs=[])\/∃id ver,a=.gs id ver 0 rs.length/\H[id]?=some (.rows sz ver rs)
theorem jr.ext {H A:List AO} {a:AV} {sz:Nat} {rs:List (List AV)} (h:jr H a sz rs):jr (H++A) a sz rs:=by
 rcases h with h|⟨id,ver,h1,h2⟩
 ·exact .inl h
 ·exact .inr ⟨id,ver,h1,by rw[List.getElem?_append_left (List.getElem?_eq_some_iff.1 h2).1];exact h2⟩
end Go.AM
