/- What a call makes, laid at places that are kept for it. -/
import Derived.Test.YteilijfligofdaaGreatDoorAm34
set_option linter.all false
namespace Go.AM
variable {P:Program}
theorem acall_ghost {f:Nat} {args:List AV} {H:List AO} {Q:AV->List AO->Prop} (n:Nat) (h:ACall P f args (H++List.replicate n .rsv) Q):ACall P f args H Q :=
 ⟨h.1,fun w θ W vs hSR hrel=>h.2 w θ W vs (hSR.reserve n) hrel⟩
def setL (H:List AO):List Nat->List AO->List AO
 | p :: ps,o :: os=>setL (H.set p o) ps os
 | _,_=>H
theorem setL_e (H:List AO) (os:List AO):setL H [] os=H:=by cases os <;> rfl
theorem setL_len:∀ (ps:List Nat) (os:List AO) (H:List AO),(setL H ps os).length=H.length
 | [],os,H=>by rw [setL_e]
 | p :: ps,[],H=>rfl
 | p :: ps,o :: os,H=>by rw [setL,setL_len ps os]; simp
theorem setL_ne : ∀ (ps : List Nat) (os : List AO) (H : List AO) (i : Nat), i ∉ ps → (setL H ps os)[i]? = H[i]?
  | [], os, H, i, _ => by rw [setL_e]
  | p :: ps, [], H, i, _ => rfl
  | p :: ps, o :: os, H, i, h => by
    simp at h
    rw [setL, setL_ne ps os _ i h.2, List.getElem?_set_ne (fun e => h.1 e.symm)]
theorem setL_set : ∀ (ps : List Nat) (os : List AO) (H : List AO) (i : Nat) (o : AO), i ∉ ps → (setL H ps os).set i o = setL (H.set i o) ps os
  | [], os, H, i, o, _ => by rw [setL_e, setL_e]
  | p :: ps, [], H, i, o, _ => rfl
  | p :: ps, o' :: os, H, i, o, h => by
    simp at h
    rw [setL, setL, setL_set ps os _ i o h.2, List.set_comm _ _ (fun e => h.1 e.symm)]
theorem setL_app : ∀ (ps : List Nat) (os : List AO) (H A : List AO), (∀ p ∈ ps, p < H.length) → setL (H ++ A) ps os = setL H ps os ++ A
  | [], os, H, A, _ => by rw [setL_e, setL_e]
  | p :: ps, [], H, A, _ => rfl
  | p :: ps, o :: os, H, A, h => by
    rw [setL, setL, List.set_append_left _ _ (h p (by simp)), setL_app ps os _ A (fun q hq => by simpa using h q (by simp [hq]))]
theorem setL_get : ∀ (ps : List Nat) (os : List AO) (H : List AO) (k p : Nat) (o : AO), ps.Nodup → (∀ p ∈ ps, p < H.length) → ps[k]? = some p → os[k]? = some o → (setL H ps os)[p]? = some o
  | [], os, H, k, p, o, _, _, h, _ => by simp at h
  | q :: ps, [], H, k, p, o, _, _, _, h => by simp at h
  | q :: ps, o' :: os, H, 0, p, o, hn, hl, h1, h2 => by
    simp at h1 h2
    subst h1 h2
    rw [setL, setL_ne ps os _ _ (List.nodup_cons.1 hn).1, List.getElem?_set_self (hl _ (by simp))]
  | q :: ps, o' :: os, H, k + 1, p, o, hn, hl, h1, h2 => by
    rw [setL]
    exact setL_get ps os _ k p o (List.nodup_cons.1 hn).2 (fun q hq => by simpa using hl q (by simp [hq])) (by simpa using h1) (by simpa using h2)
end Go.AM
