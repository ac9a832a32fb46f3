/- A slice that was made and is not written any more is data; its object is dead. -/
import Derived.Test.YtjkbbnfdbfcebaaGreatDoorAm32
set_option linter.all false
namespace Go.AM
variable {P:Program}
def iD (θ:Th) (id:Nat):Th:=fun i ver=>if i=id then θ i ver else .no
def jL (θ:Th) (id:Nat):Th:=fun i ver=>if i=id then(match θ i ver with| .no=>.no|_=>.dead)else θ i ver
theorem wy {θ:Th} {id b:Nat} (h:gl (iD θ id) b):gl θ b/\∃ver sz tot,θ id ver=.at b sz tot:=by
 obtain⟨i,ver,sz,tot,h⟩:=h;unfold iD at h;split at h
 ·rename_i e;subst e;exact⟨⟨_,_,_,_,h⟩,_,_,_,h⟩
 ·cases h
theorem rS {θ:Th} {id i ver:Nat} (h:i≠id):jL θ id i ver=θ i ver:=by simp[jL,h]
theorem oE {θ:Th} {id:Nat} (i ver:Nat) (h:θ i ver≠.no):jL θ id i ver=θ i ver\/jL θ id i ver=.dead:=by
 unfold jL;split
 ·right;split
  ·rename_i e;exact(h e).elim
  ·rfl
 ·exact .inl rfl
theorem Ap {θ:Th} {id b:Nat} (h:gl (jL θ id) b):∃i ver sz tot,i≠id/\θ i ver=.at b sz tot:=by
 obtain⟨i,ver,sz,tot,h⟩:=h;unfold jL at h;split at h
 ·split at h<;>cases h
 ·rename_i e;exact⟨i,ver,sz,tot,e,h⟩
end Go.AM
