/- Slices that are owned, as the laws hold them: where they lie, what keeps them. -/
import Derived.Test.YtghcmccjchdgeaaGreatDoorAm28
set_option linter.all false
namespace Go.AM
variable {P:Program}
def OwnAt (H:List AO) (a:AV) (sz:Nat) (rs:List (List AV)) (lo hi:Nat):Prop :=
 (a=.p .nl∧rs=[])∨∃ id ver,lo≤id∧id<hi∧a=.gs id ver 0 rs.length∧H[id]?=some (.rows sz ver rs)
theorem OwnAt.own {H:List AO} {a:AV} {sz:Nat} {rs:List (List AV)} {lo hi:Nat} (h:OwnAt H a sz rs lo hi):OwnR H a sz rs:=by
 rcases h with h | ⟨id,ver,_,_,h1,h2⟩
 ·exact .inl h
 ·exact .inr ⟨id,ver,h1,h2⟩
theorem OwnAt.ext {H:List AO} {a:AV} {sz:Nat} {rs:List (List AV)} {lo hi:Nat} (h:OwnAt H a sz rs lo hi) (A:List AO):OwnAt (H++A) a sz rs lo hi:=by
 rcases h with h | ⟨id,ver,h0,h1,h2,h3⟩
 ·exact .inl h
 ·exact .inr ⟨id,ver,h0,h1,h2,by rw [List.getElem?_append_left (List.getElem?_eq_some_iff.1 h3).1]; exact h3⟩
theorem OwnAt.set {H:List AO} {a:AV} {sz:Nat} {rs:List (List AV)} {lo hi j:Nat} (h:OwnAt H a sz rs lo hi) (o:AO) (hj:j<lo∨hi≤j):OwnAt (H.set j o) a sz rs lo hi:=by
 rcases h with h | ⟨id,ver,h0,h1,h2,h3⟩
 ·exact .inl h
 ·exact .inr ⟨id,ver,h0,h1,h2,by rw [List.getElem?_set_ne (by omega)]; exact h3⟩
theorem get_ext {H:List AO} {j:Nat} {o:AO} (h:H[j]?=some o) (A:List AO):(H++A)[j]?=some o:=by
 rw [List.getElem?_append_left (List.getElem?_eq_some_iff.1 h).1]; exact h
theorem get_set {H:List AO} {i j:Nat} {o o':AO} (h:H[j]?=some o) (hne:i≠j):(H.set i o')[j]?=some o:=by
 rw [List.getElem?_set_ne hne]; exact h
theorem get_lt {H:List AO} {j:Nat} {o:AO} (h:H[j]?=some o):j<H.length:=(List.getElem?_eq_some_iff.1 h).1
end Go.AM
