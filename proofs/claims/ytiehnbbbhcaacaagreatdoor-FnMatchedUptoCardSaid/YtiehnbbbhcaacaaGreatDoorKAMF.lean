/- Texts Am48 Am49 Am49b Am50 Am51 Am52 Am53 Am54 Am55, merged. -/
import Derived.Test.YtiehnbbbhcaacaaGreatDoorKAME
set_option linter.all false
namespace Go.AM
noncomputable section
variable {P:Program} {M:Nat}
def rdX (st : St) (o : MO) : List Nat :=
  match lookX o with
  | some x => match idX (st.get x) with
    | some id => [id]
    | none => []
  | none => []
def calR (M:Nat) (cl:Cl) (x:Rx) (d:MD) (f:Nat) (args:List AV) (N:List AO):Option Rx :=
 match callR M cl x.h f args N with
 | some (r,h)=>some (Rx.put ⟨x.L,x.T,h,x.N,x.R⟩ d r)
 | none=>none
def srcRx (M:Nat) (x:Rx) (sz:Nat):AV->Option (List (List AV)) × List Nat
 | .gs id v o n=>bif Nat.ble x.h.n id then (srcR sz v o n x.N[id - x.h.n]?,[]) else (srcR sz v o n (x.h.obj M id),[id])
 | y=>(srcRows [] sz y,[])
def appRx (M:Nat) (x:Rx) (d:MD) (sz bytes:Nat) (a b:AV):Option Rx :=
 match srcRx M x sz b with
 | (some ys,rd)=>if ys.all (fun r=>r.length == sz) then
   match a with
   | .p .nl=>if ys.isEmpty then none else if ys.length * bytes<=140737488355328/\ys.length<=140737488355328 then
     some (Rx.put ⟨x.L,x.T,x.h,x.N++[.rows sz 0 ys],rd++x.R⟩ d (.gs (x.h.n+x.N.length) 0 0 ys.length)) else none
   | .gs id v off n=>bif Nat.ble x.h.n id then
     (if off=0 then match x.N[id - x.h.n]? with
      | some (.rows sz' v' rs)=>if sz'=sz/\v'=v/\n<=rs.length/\(n+ys.length) * bytes<=140737488355328/\n+ys.length<=140737488355328 then
        some (Rx.put ⟨x.L,x.T,x.h,x.N.set (id - x.h.n) (.rows sz (v+1) (rs.take n++ys)),rd++x.R⟩ d (.gs id (v+1) 0 (n+ys.length))) else none
      | _=>none
     else none)
    else match x.h.obj M id with
     | some (.rows sz' v' rs)=>if sz'=sz/\v'=v/\off=0/\n<=rs.length/\(n+ys.length) * bytes<=140737488355328/\n+ys.length<=140737488355328 then
       match x.h.put M id (.rows sz (v+1) (rs.take n++ys)) with
       | some h=>some (Rx.put ⟨x.L,x.T,h,x.N,rd++x.R⟩ d (.gs id (v+1) 0 (n+ys.length)))
       | none=>none
      else none
     | _=>none
   | _=>none
  else none
 | _=>none
def stoRx (x : Rx) (d : MD) (n : Nat) (a v : AV) : Option Rx :=
  match a with
  | .ptr id off => bif Nat.ble x.h.n id then
      match stonU n v, x.N[id - x.h.n]? with
      | some us, some (.var cs) => match splice cs off us with
        | some cs' => some (Rx.put ⟨x.L, x.T, x.h, x.N.set (id - x.h.n) (.var cs'), x.R⟩ d .any)
        | none => none
      | _, _ => none
    else none
  | _ => none
def rdnRx (x:Rx) (d:MD) (a:AV):Option Rx :=
 match a with
 | .gs id ver off n=>bif Nat.ble x.h.n id then
   match b2sR (srcR 1 ver off n x.N[id - x.h.n]?) with
   | some v=>some (x.put d v)
   | none=>none
  else none
 | _=>none
def preX (M : Nat) (cl : Cl) (x : Rx) (d : MD) (o : MO) : Option Rx :=
  match kindOf o with
  | .quiet => match qv x.s0 (obX (x.h.obj M) x.s0 o) o with
    | some v => some (Rx.put ⟨x.L, x.T, x.h, x.N, rdX x.s0 o ++ x.R⟩ d v)
    | none => none
  | .call => match o with
    | .call f args => calR M cl x d f (gets x.s0 args) x.N
    | .calv y args => match x.s0.get y with
      | .clo f caps => calR M cl x d f (gets x.s0 args ++ caps) []
      | _ => none
    | _ => none
  | .new => match acF (fun _ => none) x.s0 o with
    | some (.new ob mk) => some (Rx.put ⟨x.L, x.T, x.h, x.N ++ [ob], x.R⟩ d (mk (x.h.n + x.N.length)))
    | _ => none
  | .eff => match acF (x.h.obj M) x.s0 o with
    | some (.upd id ob v) => match x.h.put M id ob with
      | some h => some (Rx.put ⟨x.L, x.T, h, x.N, x.R⟩ d v)
      | none => none
    | _ => none
  | .apn => match o with
    | .appn sz bytes a b => if a.isC || b.isC then none else appRx M x d sz bytes (x.s0.get a) (x.s0.get b)
    | .ston n a v => if a.isC then none else stoRx x d n (x.s0.get a) (x.s0.get v)
    | _ => none
  | .rdn => match o with
    | .b2sn a => if a.isC then none else rdnRx x d (x.s0.get a)
    | _ => none
  | .ear => match qv x.s0 (obX (x.h.obj M) x.s0 o) o with
    | some v => some (Rx.put ⟨x.L, x.T, x.h, x.N, x.R⟩ d v)
    | none => none
  | .bad => none
theorem rput_h (x:Rx) (d:MD) (v:AV):(x.put d v).h=x.h/\(x.put d v).N=x.N/\(x.put d v).R=x.R:=by cases d <;> exact ⟨rfl,rfl,rfl⟩
theorem rput_st (L T:En) (h:Hp) (N H:List AO) (R:List Nat) (d:MD) (v:AV):(⟨(Rx.put ⟨L,T,h,N,R⟩ d v).L,(Rx.put ⟨L,T,h,N,R⟩ d v).T,H⟩:St)=St.put ⟨L,T,H⟩ d v:=by cases d <;> rfl
def StpR (M:Nat) (x x':Rx) (G:List AO->PK->Prop):Prop :=
 HB M x'.h/\Later M x.h x'.h/\x'.h.n=x.h.n/\(∀ i∈x.R,i∈x'.R) /\
 ∀ (e:Hp) (c0:Nat) (K:PK),Later M x'.h e->c0<=x.h.ck->x'.h.n=e.n->(∀ i∈x'.R,stOk M e c0 i=true)->K (x'.h.toL M) ⟨x'.L,x'.T,x'.N⟩->G (hmL M e c0) K
theorem stpR_put {x:Rx} {L T:En} {h:Hp} {N:List AO} {R:List Nat} {d:MD} {v:AV} {G:List AO->PK->Prop} (hb:HB M h) (hl:Later M x.h h) (hn:h.n=x.h.n) (hr:∀ i∈x.R,i∈R)
  (k:∀ (e:Hp) (c0:Nat) (K:PK),Later M h e->c0<=x.h.ck->h.n=e.n->(∀ i∈R,stOk M e c0 i=true)->K (h.toL M) (St.put ⟨L,T,N⟩ d v)->G (hmL M e c0) K):StpR M x (Rx.put ⟨L,T,h,N,R⟩ d v) G:=by
 obtain ⟨e1,e2,e3⟩:=rput_h ⟨L,T,h,N,R⟩ d v
 unfold StpR
 rw [e1,e2,e3,rput_st]
 exact ⟨hb,hl,hn,hr,k⟩
theorem calR_ok {cl:Cl} (hcl:ClOk M P cl) {x x':Rx} {d:MD} {f:Nat} {args:List AV} {N:List AO} (hb:HB M x.h) (h:calR M cl x d f args N=some x'):StpR M x x' (fun Hm K=>pcallK (ACall P) Hm (x.h.toL M) N f args d K ⟨x.L,x.T,x.N⟩):=by
 unfold calR at h
 split at h
 ·rename_i r h1 e
  cases h
  obtain ⟨a1,a2,a3,a4⟩:=callR_ok hcl hb e
  refine stpR_put a1 a2 a3 (fun i h=>h) fun e c0 K l hc hn hr k=>.inl ⟨r,h1.toL M,by rw [toL_len,toL_len]; exact a3,hm_ext l (Nat.le_trans hc a2.ck) hn,fun A hA=>a4 A (by rw [toL_len] at hA; exact hA),k⟩
 ·cases h
theorem nw_ok {x:Rx} {d:MD} {R:List Nat} {ob:AO} {mk:Nat->AV} (hb:HB M x.h) (hr:∀ i∈x.R,i∈R) {G:List AO->PK->Prop}
  (k:∀ (e:Hp) (c0:Nat) (K:PK),Later M x.h e->c0<=x.h.ck->x.h.n=e.n->(∀ i∈R,stOk M e c0 i=true)->nwK (x.h.toL M) (some ob) mk d K ⟨x.L,x.T,x.N⟩->G (hmL M e c0) K) :
  StpR M x (Rx.put ⟨x.L,x.T,x.h,x.N++[ob],R⟩ d (mk (x.h.n+x.N.length))) G :=
 stpR_put hb Later.rfl rfl hr fun e c0 K l hc hn hR hk=>k e c0 K l hc hn hR (by
  show K (x.h.toL M) (St.put ⟨x.L,x.T,x.N++[ob]⟩ d (mk ((x.h.toL M).length+x.N.length)))
  rw [toL_len]; exact hk)
theorem quiet_ok {cl : Cl} {x : Rx} {d : MD} {o : MO} {v : AV} (hb : HB M x.h) (hq : kindOf o = .quiet) (e : qv x.s0 (obX (x.h.obj M) x.s0 o) o = some v) :
    StpR M x (Rx.put ⟨x.L, x.T, x.h, x.N, rdX x.s0 o ++ x.R⟩ d v) (fun Hm K => preU (ACall P) Hm (x.h.toL M) o d K ⟨x.L, x.T, x.N⟩) := by
  refine stpR_put hb Later.rfl rfl (fun i h => List.mem_append_right _ h) fun en c0 K l hc hn hr k => ?_
  unfold preU
  rw [hq]
  refine qv_ok (v := v) ?_ ?_
  · rw [← e]
    have e1 : obX ((hmL M en c0)[·]?) ⟨x.L, x.T, hmL M en c0⟩ o = obX (x.h.obj M) x.s0 o := by
      rw [obX_H x.L x.T (hmL M en c0) []]
      show obX ((hmL M en c0)[·]?) x.s0 o = _
      unfold obX
      cases hlk : lookX o with
      | none => rfl
      | some y =>
        simp only
        cases hid : idX (x.s0.get y) with
        | none => rfl
        | some id =>
          show (hmL M en c0)[id]? = x.h.obj M id
          exact hm_rd l hc hn (hr id (List.mem_append_left _ (by unfold rdX; rw [hlk]; simp only; rw [hid]; simp)))
    show qv ⟨x.L, x.T, hmL M en c0⟩ (obX ((hmL M en c0)[·]?) ⟨x.L, x.T, hmL M en c0⟩ o) o = _
    rw [e1, qv_H x.L x.T (hmL M en c0) []]
    rfl
  · show reK (x.h.toL M) x.N K (St.put ⟨x.L, x.T, hmL M en c0⟩ d v)
    unfold reK
    cases d <;> exact k
theorem ear_ok {x:Rx} {d:MD} {o:MO} {v:AV} (hb:HB M x.h) (hq:kindOf o=.ear) (e:qv x.s0 (obX (x.h.obj M) x.s0 o) o=some v) :
  StpR M x (Rx.put ⟨x.L,x.T,x.h,x.N,x.R⟩ d v) (fun Hm K=>preU (ACall P) Hm (x.h.toL M) o d K ⟨x.L,x.T,x.N⟩):=by
 refine stpR_put hb Later.rfl rfl (fun i h=>h) fun en c0 K l hc hn hr k=>?_
 unfold preU
 rw [hq]
 refine qv_ok (v:=v) ?_ ?_
 ·rw [<- e]
  have e1:obX ((x.h.toL M)[·]?) ⟨x.L,x.T,x.h.toL M⟩ o=obX (x.h.obj M) x.s0 o:=by
   rw [obX_H x.L x.T (x.h.toL M) [],show ((x.h.toL M)[·]?)=x.h.obj M from funext fun i=>toL_obj x.h i]
   rfl
  show qv ⟨x.L,x.T,x.h.toL M⟩ (obX ((x.h.toL M)[·]?) ⟨x.L,x.T,x.h.toL M⟩ o) o=_
  rw [e1,qv_H x.L x.T (x.h.toL M) []]
  rfl
 ·show reK (x.h.toL M) x.N K (St.put ⟨x.L,x.T,x.h.toL M⟩ d v)
  unfold reK
  cases d <;> exact k
end
end Go.AM
set_option linter.all false
namespace Go.AM
noncomputable section
variable {P:Program} {M:Nat}
theorem eff_k {x:Rx} {h:Hp} {id:Nat} {ob:AO} {v:AV} {d:MD} {R:List Nat} (hb:HB M x.h) (e:x.h.put M id ob=some h) (hr:∀ i∈x.R,i∈R) {G:List AO->PK->Prop}
  (k:∀ (e:Hp) (c0:Nat) (K:PK),Later M x.h e->c0<=x.h.ck->x.h.n=e.n->(∀ i∈R,stOk M e c0 i=true)->effK (hmL M e c0) (x.h.toL M) x.N K (St.put ⟨x.L,x.T,(x.h.toL M).set id ob⟩ d v)->G (hmL M e c0) K) :
  StpR M x (Rx.put ⟨x.L,x.T,h,x.N,R⟩ d v) G:=by
 obtain ⟨a1,a2⟩:=put_ok hb.1 hb.2 e
 have a3:=(put_raw hb.2 e).2.1
 refine stpR_put ⟨a1,by rw [a3]; exact hb.2⟩ a2 a3 hr fun en c0 K l hc hn hR hk=>?_
 refine k en c0 K (a2.trans l) hc (by rw [<- hn,a3]) hR ?_
 rw [<- put_toL hb.2 e]
 unfold effK
 have q:(St.put ⟨x.L,x.T,h.toL M⟩ d v).H=h.toL M:=by cases d <;> rfl
 refine ⟨by rw [q,toL_len,toL_len]; exact a3,by rw [q]; exact hm_ext l (Nat.le_trans hc a2.ck) hn,?_⟩
 rw [q]
 cases d <;> exact hk
theorem preX_ok {cl:Cl} (hcl:ClOk M P cl) {x x':Rx} {d:MD} {o:MO} (hb:HB M x.h) (h:preX M cl x d o=some x'):StpR M x x' (fun Hm K=>preU (ACall P) Hm (x.h.toL M) o d K ⟨x.L,x.T,x.N⟩):=by
 have eU:∀ {kd:Kd},kindOf o=kd->∀ {Hm:List AO} {K:PK} {R:Prop},(R=match kd with
   | .quiet=>stepU (ACall P) o d (reK (x.h.toL M) x.N K) ⟨x.L,x.T,Hm⟩
   | .call=>preC (ACall P) Hm (x.h.toL M) o d K ⟨x.L,x.T,x.N⟩
   | .new=>preN (x.h.toL M) o d K ⟨x.L,x.T,x.N⟩
   | .eff=>stepU (ACall P) o d (effK Hm (x.h.toL M) x.N K) ⟨x.L,x.T,x.h.toL M⟩
   | .apn=>appnK Hm (x.h.toL M) o d K ⟨x.L,x.T,x.N⟩
   | .rdn=>rdnK (x.h.toL M) o d K ⟨x.L,x.T,x.N⟩
   | .ear=>stepU (ACall P) o d (reK (x.h.toL M) x.N K) ⟨x.L,x.T,x.h.toL M⟩
   | .bad=>False)->R->preU (ACall P) Hm (x.h.toL M) o d K ⟨x.L,x.T,x.N⟩:=fun {kd} hk {Hm K R} hR r=>by
  unfold preU; rw [hk]; subst hR; cases kd <;> exact r
 have hg0:∀ y:MA,x.s0.get y=St.get ⟨x.L,x.T,x.N⟩ y:=fun y=>get_H x.L x.T [] x.N y
 have hgs:∀ ys,gets x.s0 ys=gets ⟨x.L,x.T,x.N⟩ ys:=fun ys=>gets_H x.L x.T [] x.N ys
 unfold preX at h
 split at h
 ·rename_i hk
  split at h
  ·rename_i v e
   cases h
   exact quiet_ok (cl:=cl) hb hk e
  ·cases h
 ·rename_i hk
  split at h
  ·rename_i f args
   have:=calR_ok hcl hb h
   refine ⟨this.1,this.2.1,this.2.2.1,this.2.2.2.1,fun e c0 K l hc hn hr k=>eU hk rfl ?_⟩
   show pcallK (ACall P) (hmL M e c0) (x.h.toL M) x.N f (gets ⟨x.L,x.T,x.N⟩ args) d K _
   rw [<- hgs]
   exact this.2.2.2.2 e c0 K l hc hn hr k
  ·rename_i y args
   split at h
   ·rename_i f caps e1
    have:=calR_ok hcl hb h
    refine ⟨this.1,this.2.1,this.2.2.1,this.2.2.2.1,fun e c0 K l hc hn hr k=>eU hk rfl ?_⟩
    show (match St.get ⟨x.L,x.T,x.N⟩ y with
     | .clo f caps=>pcallK (ACall P) (hmL M e c0) (x.h.toL M) [] f (gets ⟨x.L,x.T,x.N⟩ args++caps) d K ⟨x.L,x.T,x.N⟩
     | _=>False)
    rw [<- hgs,<- hg0,e1]
    exact this.2.2.2.2 e c0 K l hc hn hr k
   ·cases h
  ·cases h
 ·rename_i hk
  split at h
  ·rename_i ob mk e
   cases h
   refine nw_ok hb (fun i h=>h) fun en c0 K l hc hn hr k=>eU hk rfl ?_
   cases o <;> first | (cases hk; done) | skip
   ·cases e; exact k
   ·rename_i n y
    simp only [acF] at e
    split at e
    ·rename_i hc2
     cases e
     show nwK (x.h.toL M) (if (St.get ⟨x.L,x.T,x.N⟩ y).allOne && (St.get ⟨x.L,x.T,x.N⟩ y).cells.length == n then some (.var (St.get ⟨x.L,x.T,x.N⟩ y).cells) else none) (fun id=>.ptr id 0) d K ⟨x.L,x.T,x.N⟩
     rw [<- hg0,if_pos hc2]
     exact k
    ·cases e
   ·rename_i sz z n ps
    obtain ⟨rs,h1,h2⟩:=Option.map_eq_some_iff.1 e
    cases h2
    show nwK (x.h.toL M) ((rowsV ⟨x.L,x.T,x.N⟩ sz ps (List.replicate n z)).map fun rs=>.rows sz 0 rs) (fun id=>.gs id 0 0 n) d K ⟨x.L,x.T,x.N⟩
    rw [rowsV_H x.L x.T x.N [] sz ps,show rowsV ⟨x.L,x.T,[]⟩ sz ps (List.replicate n z)=some rs from h1]
    exact k
   ·rename_i sz bytes z lo hi
    simp only [acF,mksF] at e
    show mksN (x.h.toL M) sz bytes z (St.get ⟨x.L,x.T,x.N⟩ lo) (St.get ⟨x.L,x.T,x.N⟩ hi) d K _
    rw [<- hg0,<- hg0]
    unfold mksN
    split at e
    ·rename_i l' c' e1 e2
     split at e
     ·rename_i hc2
      cases e
      rw [e1,e2]
      exact ⟨hc2.1,hc2.2.1,hc2.2.2.1,hc2.2.2.2,k⟩
     ·cases e
    ·cases e
  ·cases h
 ·rename_i hk
  split at h
  ·rename_i id ob v e
   split at h
   ·rename_i h1 e1
    cases h
    refine eff_k hb e1 (fun i h=>h) fun en c0 K l hc hn hr k=>eU hk rfl ?_
    refine acF_ok (a:=.upd id ob v) ?_ k
    unfold Rx.s0 at e
    rw [acF_H x.L x.T [] (x.h.toL M)] at e
    rw [<- e]
    congr 1
    exact funext fun i=>toL_obj x.h i
   ·cases h
  ·cases h
 ·rename_i hk
  split at h
  ·rename_i sz bytes a b
   split at h
   ·cases h
   rename_i hcc
   have key:∀ {x'},appRx M x d sz bytes (x.s0.get a) (x.s0.get b)=some x'->StpR M x x' (fun Hm K=>appnY Hm (x.h.toL M) sz bytes (x.s0.get a) (srcN Hm (x.h.toL M) x.N sz (x.s0.get b)) d K ⟨x.L,x.T,x.N⟩):=by
    intro x' h
    generalize x.s0.get a=av at h ⊢
    generalize x.s0.get b=bv at h ⊢
    unfold appRx at h
    split at h
    rotate_left
    ·cases h
    rename_i ys rd es
    split at h
    rotate_left
    ·cases h
    rename_i hlen
    have hlen2:∀ r∈ys,r.length=sz:=fun r hr=>by simpa using List.all_eq_true.1 hlen r hr
    have src:∀ (e:Hp) (c0:Nat),Later M x.h e->c0<=x.h.ck->x.h.n=e.n->(∀ i∈rd++x.R,stOk M e c0 i=true)->srcN (hmL M e c0) (x.h.toL M) x.N sz bv=some ys:=fun e c0 l hc hn hr=>by
     unfold srcRx at es
     unfold srcN
     split at es
     ·rename_i id v o n
      rw [toL_len]
      rcases Nat.lt_or_ge id x.h.n with hlt | hge
      ·rw [ble_f (by omega)] at es
       simp only [cond_false,Prod.mk.injEq] at es
       simp only
       rw [if_neg (by omega),hm_rd l hc hn (hr id (by rw [<- es.2]; simp))]
       exact es.1
      ·rw [ble_t hge] at es
       simp only [cond_true,Prod.mk.injEq] at es
       simp only
       rw [if_pos hge]
       exact es.1
     ·simp only [Prod.mk.injEq] at es
      rename_i hne
      split
      ·rename_i id v o n; exact (hne id v o n rfl).elim
      ·exact es.1
    split at h
    ·split at h
     ·cases h
     rename_i hne
     split at h
     rotate_left
     ·cases h
     rename_i hbd
     cases h
     refine nw_ok hb (fun i h=>List.mem_append_right _ h) (mk:=fun id=>.gs id 0 0 ys.length) fun en c0 K l hc hn hr k=>?_
     rw [src en c0 l hc hn hr]
     exact ⟨hlen2,.inl ⟨rfl,by cases ys <;> simp at hne ⊢,hbd.1,hbd.2,k⟩⟩
    ·rename_i id v off n
     rcases Nat.lt_or_ge id x.h.n with hlt | hge
     ·rw [ble_f (by omega)] at h
      simp only [cond_false] at h
      split at h
      ·rename_i sz' v' rs e2
       split at h
       ·rename_i hbd
        split at h
        ·rename_i h1 e1
         cases h
         refine eff_k hb e1 (fun i h=>List.mem_append_right _ h) fun en c0 K l hc hn hr k=>?_
         rw [src en c0 l hc hn hr]
         refine ⟨hlen2,.inr (.inl ?_)⟩
         show appR sz bytes id v off n ys d _ _ (x.h.toL M)[id]?
         rw [toL_obj,e2]
         exact ⟨hbd.1,hbd.2.1,hbd.2.2.1,hbd.2.2.2.1,hbd.2.2.2.2.1,hbd.2.2.2.2.2,k⟩
        ·cases h
       ·cases h
      ·cases h
     ·rw [ble_t hge] at h
      simp only [cond_true] at h
      split at h
      ·rename_i hoff
       subst hoff
       split at h
       ·rename_i sz' v' rs e2
        split at h
        ·rename_i hbd
         cases h
         refine stpR_put hb Later.rfl rfl (fun i h=>List.mem_append_right _ h) fun en c0 K l hc hn hr k=>?_
         rw [src en c0 l hc hn hr]
         refine ⟨hlen2,.inr (.inr ⟨id,v,n,rfl,by rw [toL_len]; exact hge,?_⟩)⟩
         show appnN (x.h.toL M) sz bytes id (id - (x.h.toL M).length) v n ys d K _ x.N[id - (x.h.toL M).length]?
         rw [toL_len,e2]
         exact ⟨hbd.1,hbd.2.1,hbd.2.2.1,hbd.2.2.2.1,hbd.2.2.2.2,k⟩
        ·cases h
       ·cases h
      ·cases h
    ·cases h
   have:=key h
   refine ⟨this.1,this.2.1,this.2.2.1,this.2.2.2.1,fun e c0 K l hc hn hr k=>eU hk rfl ?_⟩
   show (if a.isC || b.isC then False else appnY (hmL M e c0) (x.h.toL M) sz bytes (St.get ⟨x.L,x.T,x.N⟩ a) (srcN (hmL M e c0) (x.h.toL M) x.N sz (St.get ⟨x.L,x.T,x.N⟩ b)) d K ⟨x.L,x.T,x.N⟩)
   rw [if_neg hcc,<- hg0,<- hg0]
   exact this.2.2.2.2 e c0 K l hc hn hr k
  ·rename_i n a v
   split at h
   ·cases h
   rename_i hcc
   unfold stoRx at h
   split at h
   ·rename_i id off ea
    rcases Nat.lt_or_ge id x.h.n with hlt | hge
    ·rw [ble_f (by omega)] at h; cases h
    rw [ble_t hge] at h
    simp only [cond_true] at h
    split at h
    ·rename_i us cs e1 e2
     split at h
     ·rename_i cs' e3
      cases h
      refine stpR_put hb Later.rfl rfl (fun i h=>h) fun en c0 K l hc hn hr k=>eU hk rfl ?_
      show (if a.isC then False else stonK (x.h.toL M) n (St.get ⟨x.L,x.T,x.N⟩ a) (St.get ⟨x.L,x.T,x.N⟩ v) d K ⟨x.L,x.T,x.N⟩)
      rw [if_neg hcc,<- hg0,<- hg0,ea]
      refine ⟨by rw [toL_len]; exact hge,?_⟩
      show stonR (x.h.toL M) (id - (x.h.toL M).length) off (stonU n (x.s0.get v)) d K _ x.N[id - (x.h.toL M).length]?
      rw [toL_len,e2,e1]
      unfold stonR
      simp only [Option.bind_some,e3]
      exact k
     ·cases h
    ·cases h
   ·cases h
  ·cases h
 ·rename_i hk
  split at h
  ·rename_i a
   split at h
   ·cases h
   rename_i hcc
   unfold rdnRx at h
   split at h
   ·rename_i id ver off n ea
    rcases Nat.lt_or_ge id x.h.n with hlt | hge
    ·rw [ble_f (by omega)] at h; cases h
    rw [ble_t hge] at h
    simp only [cond_true] at h
    split at h
    ·rename_i v e1
     cases h
     refine stpR_put (L:=x.L) (T:=x.T) (h:=x.h) (N:=x.N) (R:=x.R) hb Later.rfl rfl (fun i h=>h) fun en c0 K l hc hn hr k=>eU hk rfl ?_
     show (if a.isC then False else rdnX (x.h.toL M) (St.get ⟨x.L,x.T,x.N⟩ a) d K ⟨x.L,x.T,x.N⟩)
     rw [if_neg hcc,<- hg0,ea]
     refine ⟨by rw [toL_len]; exact hge,?_⟩
     rw [toL_len]
     show withV (b2sR (srcR 1 ver off n x.N[id - x.h.n]?)) d (K (x.h.toL M)) _
     rw [e1]
     exact k
    ·cases h
   ·cases h
  ·cases h
 ·rename_i hk
  split at h
  ·rename_i v e
   cases h
   exact ear_ok hb hk e
  ·cases h
 ·cases h
end
end Go.AM
set_option linter.all false
namespace Go.AM
variable {lv:List Nat} {P:Program} {N:Nat} {θ:Th} {W:Im}
def rnE (s:Nat->Nat) (L:En):En:=L.map fun kv=>(kv.1,rnA s kv.2)
theorem eget_rnE (s : Nat → Nat) (t : Nat) : ∀ L : En, eget (rnE s L) t = rnA s (eget L t)
  | [] => rfl
  | (k, v) :: L => by
    show (if k = t then rnA s v else eget (rnE s L) t) = rnA s (if k = t then v else eget L t)
    by_cases h : k = t
    · rw [if_pos h, if_pos h]
    · rw [if_neg h, if_neg h, eget_rnE s t L]
structure RenOk (H0 H R:List AO) (s:Nat->Nat) (ps:List Nat):Prop where
 len:H.length=H0.length+ps.length
 nd:ps.Nodup
 rsv:∀ p∈ps,H0[p]?=some .rsv/\H[p]?=some .rsv
 old:∀ i,i<H0.length->s i=i
 new:∀ (k p:Nat),ps[k]?=some p->s (H0.length+k)=p
 r1:∀ i:Nat,i ∉ ps->i<H0.length->R[i]?=(H[i]?).map (rnB s)
 r2:∀ (k p:Nat),ps[k]?=some p->R[p]?=(H[H0.length+k]?).map (rnB s)
 rl:R.length=H0.length
def renK (H0:List AO) (K:St->Prop) (st:St):Prop:=K ⟨st.L,[],st.H⟩\/∃ s ps R,RenOk H0 st.H R s ps/\K ⟨rnE s st.L,[],R⟩
def wpm2 (C:CallP):MC->(Ex->St->Prop)->St->Prop
 | .skip,Q,st=>Q .nm st
 | .reg os,Q,st=>runOps C os (renK st.H (Q .nm)) st
 | .seq a b,Q,st=>wpm2 C a (thenK (wpm2 C b Q) Q) st
 | .cond c a b,Q,st=>condK (st.get c) (wpm2 C a Q) (wpm2 C b Q) st
 | .blk id b,Q,st=>wpm2 C b (blkK id Q) st
 | .loop b,Q,st=>loopK (wpm2 C b) Q st
 | .exit id,Q,st=>Q (.ex id) st
 | .ret,Q,st=>Q .rt st
 | .drw pre tail,Q,st=>drwK C pre (runOps C tail (renK st.H (Q .nm))) st
 | .stop,_,_=>False
theorem ren_fin {Qs:Ex->St->Prop} {st st':St} {a a':Act} {w w':World} {θ':Th} {W':Im} (hR:Rl lv N st a w θ W) (h1:renK st.H (Qs .nm) st') (h2:Rl lv N st' a' w' θ' W') (h3:Stp θ W w θ' W' w'):Cq lv N Qs θ W w .normal a' w':=by
 rcases h1 with h1 | ⟨s,ps,R,h4,h5⟩
 ·exact ⟨_,θ',W',h2.clear,h3,h1⟩
 ·obtain ⟨θs,k1,k2,k3⟩:=sr_ren ps hR.mem h2.mem h3 h4.len h4.nd h4.rsv h4.old h4.new h4.r1 h4.r2 h4.rl
  refine ⟨_,θs,W',⟨h2.defers,h2.size,fun t ht=>?_,fun t _=>.any _,k1⟩,k2,h5⟩
  show ARel θs W' (eget (rnE s st'.L) t) _
  rw [eget_rnE]
  exact k3 _ _ (h2.loc t ht)
theorem code_ok2 (hm : P.follows .mixedOrders = true) : ∀ (c : Code) (Qs : Ex → St → Prop) (st : St) (a : Act) (w : World) (θ : Th) (W : Im), wpm2 (ACall P) (compile lv P N c) Qs st → Rl lv N st a w θ W → c.wp P (Cq lv N Qs θ W w) a w := by
  intro c
  induction c with
  | skip => intro Qs st a w θ W h hR; exact wp_skip ⟨st, θ, W, hR, Stp.refl _ _ _, h⟩
  | region id ops draw =>
    intro Qs st a w θ W h hR
    have fin : ∀ st' a' w' θ' W', renK st.H (Qs .nm) st' → Rl lv N st' a' w' θ' W' → Stp θ W w θ' W' w' → Cq lv N Qs θ W w .normal a' w' :=
      fun st' a' w' θ' W' h1 h2 h3 => ren_fin hR h1 h2 h3
    cases draw with
    | false => exact wp_region_list (ops_ok ops.toList st a w θ W h hR fin)
    | true =>
      have h' : wpm2 (ACall P) (if drwOk (closOf ops) ops (tailAt (closOf ops) ops.size) (chains lv P ops (tailAt (closOf ops) ops.size)) (ears lv P ops (tailAt (closOf ops) ops.size)) then MC.drw ((ops.toList.take (tailAt (closOf ops) ops.size)).map fun o => unlen ops (cOper lv P N ops o)) ((ops.toList.drop (tailAt (closOf ops) ops.size)).map (cOper lv P N ops)) else .stop) Qs st := h
      split at h'
      · rename_i hd; exact drw_ok hm id hd h' hR fin
      · exact h'.elim
  | seq x y ihx ihy =>
    intro Qs st a w θ W h hR
    refine wp_seq (wp_mono (ihx _ st a w θ W h hR) fun e a' w' he => ?_)
    cases e with
    | normal =>
      obtain ⟨st', θ', W', h1, h2, h3⟩ := he
      exact wp_mono (ihy Qs st' a' w' θ' W' h3 h1) fun e a2 w2 h4 => h4.trans h2
    | exit id => exact he
    | ret => exact he
    | goto l => exact he
    | panic c => exact he
    | outgrown => exact he
  | cond c x y ihx ihy =>
    intro Qs st a w θ W h hR
    unfold compile at h
    split at h
    · rename_i m hx
      have h1 := hR.arg hx
      obtain ⟨b, hb, h2, h3⟩ := condK_inv h
      rw [hb] at h1
      exact wp_cond_split h1.b_inv (fun e => ihx Qs st a w θ W (h2 e) hR) (fun e => ihy Qs st a w θ W (h3 e) hR)
    · exact h.elim
  | block id x ih =>
    intro Qs st a w θ W h hR
    refine wp_block (wp_mono (ih _ st a w θ W h hR) fun e a' w' he => ?_)
    cases e with
    | normal => exact he
    | exit i =>
      obtain ⟨st', θ', W', h1, h2, h3⟩ := he
      have h3' : if i = id then Qs .nm st' else Qs (.ex i) st' := h3
      show if i = id then _ else _
      split
      · rename_i e; rw [if_pos e] at h3'; exact ⟨st', θ', W', h1, h2, h3'⟩
      · rename_i e; rw [if_neg e] at h3'; exact ⟨st', θ', W', h1, h2, h3'⟩
    | ret => exact he
    | goto l => exact he
    | panic c => exact he
    | outgrown => exact he
  | loop x ih =>
    intro Qs st a w θ W h hR
    obtain ⟨α, kl, I, μ, ⟨x0, h0⟩, hround⟩ := h
    refine wp_loop_ghost (fun z a' w' => ∃ st' θ' W', I z st' ∧ Rl lv N st' a' w' θ' W' ∧ Stp θ W w θ' W' w') μ x0 ⟨_, θ, W, h0, hR.keep kl, Stp.refl _ _ _⟩ ?_
    rintro z a1 w1 ⟨st1, θ1, W1, hI, hR1, hs1⟩
    refine wp_mono (ih _ st1 a1 w1 θ1 W1 (hround z st1 hI) hR1) fun e a' w' he => ?_
    cases e with
    | normal =>
      obtain ⟨st', θ', W', h1, h2, y, h3, h4⟩ := he
      exact ⟨y, ⟨_, θ', W', h3, h1.keep kl, hs1.trans h2⟩, h4⟩
    | exit id => exact Cq.trans (e := .exit id) hs1 he
    | ret => exact Cq.trans (e := .ret) hs1 he
    | goto l => exact he
    | panic c => exact he
    | outgrown => exact he
  | exit id => intro Qs st a w θ W h hR; exact wp_exit ⟨st, θ, W, hR, Stp.refl _ _ _, h⟩
  | ret => intro Qs st a w θ W h hR; exact wp_ret ⟨st, θ, W, hR, Stp.refl _ _ _, h⟩
  | rangeFunc f ps x y _ _ => intro Qs st a w θ W h hR; exact h.elim
  | scope x _ => intro Qs st a w θ W h hR; exact h.elim
  | label l => intro Qs st a w θ W h hR; exact h.elim
  | goto l => intro Qs st a w θ W h hR; exact h.elim
  | refuse s => intro Qs st a w θ W h hR; exact h.elim
theorem acall_of2 (hm : P.follows .mixedOrders = true) {f : Nat} {fn : Func} {c : Code} (hf : P.funcs[f]? = some fn) (hb : fn.body = some c) (hng : (fn.name == "runtime.NumGoroutine") = false)
    {ms : List MR} (hr : cRess lv P fn.results.toList = some ms) {args : List AV} {H : List AO} {Q : AV → List AO → Prop} (hla : args.length ≤ fn.ntmps)
    (h : wpm2 (ACall P) (compile lv P fn.ntmps c) (finK ms Q) ⟨argEnv 0 args, [], H⟩) : ACall P f args H Q := by
  refine ⟨⟨fn, hf, by simp [hb], hng⟩, fun w θ W vs hSR hrel => ?_⟩
  refine calls_of_wp hf hb ?_
  have hsz : vs.size = args.length := hrel.1
  have hget : ∀ t, ARel θ W (eget (argEnv 0 args) t) ((vs ++ Array.replicate (fn.ntmps - vs.size) undef).getD t undef) := by
    intro t
    rw [eget_argEnv]
    simp only [Nat.zero_le, if_true, Nat.sub_zero]
    cases ht : args[t]? with
    | none => exact .any _
    | some x =>
      have hlt : t < vs.size := by rw [hsz]; exact (List.getElem?_eq_some_iff.1 ht).1
      have hv : vs[t]? = some vs[t] := by simp [hlt]
      have := hrel.2 t x _ ht hv
      simp only [Option.getD_some, Array.getD_eq_getD_getElem?, Array.getElem?_append_left hlt, hv]
      exact this
  have hR : Rl lv fn.ntmps ⟨argEnv 0 args, [], H⟩ { tmps := vs ++ Array.replicate (fn.ntmps - vs.size) undef, defers := [] } w θ W :=
    ⟨rfl, by simp; omega, fun t _ => hget t, fun t _ => .any _, hSR⟩
  refine wp_mono (code_ok2 hm c (finK ms Q) _ _ w θ W h hR) fun e a' w' he => ?_
  have fin : ∀ st' θ' W', Rl lv fn.ntmps st' a' w' θ' W' → Stp θ W w θ' W' w' → retK ms Q st' →
      a'.defers = [] ∧ ∃ v, (results fn a'.tmps).run P w' = .ok v w' ∧ ∃ v1 r H' θ' W', Ending.returned v = .returned v1 ∧ Q r H' ∧ SR θ' W' H' w' ∧ ARel θ' W' r v1 ∧ Stp θ W w θ' W' w' := by
    intro st' θ' W' h1 h2 h3
    unfold retK at h3
    split at h3
    · rename_i x hx
      obtain ⟨v, q1, q2⟩ := results_ok h1 hr hx
      exact ⟨h1.defers, v, q1, v, x, _, θ', W', rfl, h3, h1.mem, q2, h2⟩
    · exact h3.elim
  cases e with
  | normal => obtain ⟨st', θ', W', h1, h2, h3⟩ := he; exact fin st' θ' W' h1 h2 h3
  | ret => obtain ⟨st', θ', W', h1, h2, h3⟩ := he; exact fin st' θ' W' h1 h2 h3
  | exit id => obtain ⟨st', θ', W', h1, h2, h3⟩ := he; exact h3.elim
  | goto l => exact he.elim
  | panic c => exact he.elim
  | outgrown => exact he.elim
def CallT2 (P:Program) (f N:Nat) (m:MC) (rs:List MR):Prop:=∀ {args:List AV} {H:List AO} {Q:AV->List AO->Prop},args.length<=N->wpm2 (ACall P) m (finK rs Q) ⟨argEnv 0 args,[],H⟩->ACall P f args H Q
theorem Got.call2 {P : Program} {f : Nat} {fn : Func} {lv : List Nat} {N : Nat} {ms : List MR} (g : Got (fn.body.map (compile lv P N))) (hf : P.funcs[f]? = some fn)
    (h : (P.follows .mixedOrders, fn.ntmps, fn.name == "runtime.NumGoroutine", cRess lv P fn.results.toList) = (true, N, false, some ms)) : CallT2 P f N g.m ms := by
  obtain ⟨m, hmc⟩ := g
  simp only [Prod.mk.injEq] at h
  obtain ⟨h1, h2, h3, h4⟩ := h
  intro args H Q hla hw
  subst h2
  cases hb : fn.body with
  | none => rw [hb] at hmc; cases hmc
  | some c =>
    rw [hb] at hmc
    cases hmc
    exact acall_of2 h1 hf hb h3 h4 hla hw
end Go.AM
set_option linter.all false
namespace Go.AM
noncomputable section
variable {P:Program} {M:Nat}
def prI (M : Nat) (cl : Cl) (x : Rx) (o : MI) : Option Rx :=
  match o.guard with
  | none => preX M cl x o.dst o.op
  | some (t, want) => match x.s0.get t with
    | .tup [] => some (Rx.put ⟨x.L, x.T, x.h, x.N, x.R⟩ o.dst (.tup []))
    | .p (.b b) => if b = want then preX M cl x o.dst o.op else some (Rx.put ⟨x.L, x.T, x.h, x.N, x.R⟩ o.dst (.tup []))
    | _ => none
def prsX (M : Nat) (cl : Cl) : List MI → Rx → Option Rx
  | [], x => some x
  | o :: os, x => match prI M cl x o with
    | some x' => prsX M cl os x'
    | none => none
theorem prI_ok {cl : Cl} (hcl : ClOk M P cl) {x x' : Rx} {o : MI} (hb : HB M x.h) (h : prI M cl x o = some x') : StpR M x x' (fun Hm K => preI (ACall P) Hm (x.h.toL M) o K ⟨x.L, x.T, x.N⟩) := by
  obtain ⟨d, op, g⟩ := o
  unfold prI at h
  cases g with
  | none => exact preX_ok hcl hb h
  | some tw =>
    obtain ⟨t, want⟩ := tw
    simp only at h
    have eg : x.s0.get t = St.get ⟨x.L, x.T, x.N⟩ t := get_H x.L x.T [] x.N t
    have sk : ∀ {x' : Rx}, some (Rx.put ⟨x.L, x.T, x.h, x.N, x.R⟩ d (.tup [])) = some x' → StpR M x x' (fun Hm K => skipK d (K (x.h.toL M)) ⟨x.L, x.T, x.N⟩) := fun h => by
      cases h
      exact stpR_put hb Later.rfl rfl (fun i h => h) fun e c0 K l hc hn hr k => k
    split at h
    · rename_i e
      obtain ⟨a1, a2, a3, a4, a5⟩ := sk h
      refine ⟨a1, a2, a3, a4, fun en c0 K l hc hn hr k => ?_⟩
      show guardK (St.get ⟨x.L, x.T, x.N⟩ t) want _ _ _
      rw [← eg, e]
      exact a5 en c0 K l hc hn hr k
    · rename_i b e
      split at h
      · rename_i hw
        obtain ⟨a1, a2, a3, a4, a5⟩ := preX_ok hcl hb h
        refine ⟨a1, a2, a3, a4, fun en c0 K l hc hn hr k => ?_⟩
        show guardK (St.get ⟨x.L, x.T, x.N⟩ t) want _ _ _
        rw [← eg, e, ← hw]
        exact guard_t (a5 en c0 K l hc hn hr k)
      · rename_i hw
        obtain ⟨a1, a2, a3, a4, a5⟩ := sk h
        refine ⟨a1, a2, a3, a4, fun en c0 K l hc hn hr k => ?_⟩
        show guardK (St.get ⟨x.L, x.T, x.N⟩ t) want _ _ _
        rw [← eg, e]
        exact guard_f hw (a5 en c0 K l hc hn hr k)
    · cases h
theorem prsX_ok {cl : Cl} (hcl : ClOk M P cl) : ∀ {os : List MI} {x x' : Rx}, HB M x.h → prsX M cl os x = some x' → StpR M x x' (fun Hm K => preK (ACall P) Hm os K (x.h.toL M) ⟨x.L, x.T, x.N⟩)
  | [], x, x', hb, h => by cases h; exact ⟨hb, Later.rfl, rfl, fun i h => h, fun e c0 K l hc hn hr k => k⟩
  | o :: os, x, x', hb, h => by
    rw [prsX] at h
    split at h
    · rename_i x1 e
      obtain ⟨a1, a2, a3, a4, a5⟩ := prI_ok hcl hb e
      obtain ⟨b1, b2, b3, b4, b5⟩ := prsX_ok hcl a1 h
      refine ⟨b1, a2.trans b2, b3.trans a3, fun i h => b4 i (a4 i h), fun en c0 K l hc hn hr k => ?_⟩
      exact a5 en c0 _ (b2.trans l) hc (by rw [← hn, b3]) (fun i hi => hr i (b4 i hi)) (b5 en c0 K l (Nat.le_trans hc a2.ck) hn hr k)
    · cases h
def psX (M:Nat):List AO->Hp->Option Hp
 | [],h=>some h
 | o :: os,h=>bif Nat.ble big (h.n+1) then none else psX M os (h.push M o)
theorem psX_ok : ∀ {os : List AO} {h h' : Hp}, HB M h → psX M os h = some h' → HB M h' ∧ Later M h h' ∧ h'.toL M = h.toL M ++ os
  | [], h, h', hb, e => by cases e; exact ⟨hb, Later.rfl, by simp⟩
  | o :: os, h, h', hb, e => by
    rw [psX] at e
    rcases Nat.lt_or_ge (h.n + 1) big with h1 | h1
    · rw [ble_f (by omega)] at e
      obtain ⟨a1, a2⟩ := push_ok (o := o) hb.1 hb.2
      obtain ⟨b1, b2, b3⟩ := psX_ok (h := h.push M o) ⟨a1, h1⟩ e
      exact ⟨b1, a2.trans b2, by rw [b3, push_toL hb.1 hb.2, List.append_assoc]; rfl⟩
    · rw [ble_t h1] at e; cases e
def rgX (M:Nat) (cl:Cl) (pre tail:List MI) (s:Sx):Option Sx :=
 match prsX M cl pre ⟨s.L,s.T,s.h,[],[]⟩ with
 | some x=>if x.R.all (stOk M x.h s.h.ck) then match psX M x.N x.h with
   | some h=>opsX M cl tail ⟨x.L,x.T,h⟩
   | none=>none
  else none
 | none=>none
theorem rgX_ok {cl:Cl} (hcl:ClOk M P cl) {pre tail:List MI} {s s':Sx} (hb:HB M s.h) (h:rgX M cl pre tail s=some s'):HB M s'.h/\Later M s.h s'.h/\∀ K:St->Prop,K (s'.st M)->drwK (ACall P) pre (runOps (ACall P) tail K) (s.st M):=by
 unfold rgX at h
 split at h
 rotate_left
 ·cases h
 rename_i x e
 obtain ⟨a1,a2,a3,a4,a5⟩:=prsX_ok hcl (x:=⟨s.L,s.T,s.h,[],[]⟩) hb e
 split at h
 rotate_left
 ·cases h
 rename_i hR
 split at h
 ·rename_i h1 e1
  obtain ⟨b1,b2,b3⟩:=psX_ok a1 e1
  obtain ⟨c1,c2,c3⟩:=opsX_ok hcl (s:=⟨x.L,x.T,h1⟩) b1 h
  refine ⟨c1,a2.trans (b2.trans c2),fun K k=>⟨hmL M x.h s.h.ck,hm_ext a2 (Nat.le_refl _) a3.symm,a5 x.h s.h.ck _ Later.rfl (Nat.le_refl _) rfl (fun i hi=>List.all_eq_true.1 hR i hi) ?_⟩⟩
  show runOps (ACall P) tail K ⟨x.L,x.T,x.h.toL M++x.N⟩
  rw [<- b3]
  exact c3 K k
 ·cases h
def mvX (c nx b:Nat):Nat->Tr->Tr->Tr × Tr
 | 0,g,l=>(g,l)
 | k+1,g,l=>mvX c nx b k (Tr.set 64 g (nx+k) (match l.get (b+k) with | some x=>some (x.1,c) | none=>none)) (Tr.set 64 l (b+k) none)
theorem mvX_ok {c nx b:Nat}:∀ {k:Nat} {g l:Tr},g.ok->l.ok->(mvX c nx b k g l).1.ok/\(mvX c nx b k g l).2.ok
 | 0,g,l,hg,hl=>⟨hg,hl⟩
 | k+1,g,l,hg,hl=>by rw [mvX]; exact mvX_ok (Tr.ok_set hg) (Tr.ok_set hl)
def reC (c:Nat):Option (AO × Nat)->Option (AO × Nat)
 | some x=>some (x.1,c)
 | none=>none
theorem mvX_get {c nx b : Nat} : ∀ {k : Nat} {g l : Tr}, nx + k < big → b + k < big →
    (∀ i, (mvX c nx b k g l).1.get i = if nx ≤ i ∧ i < nx + k then reC c (l.get (b + (i - nx))) else g.get i) ∧ ∀ i, (mvX c nx b k g l).2.get i = if b ≤ i ∧ i < b + k then none else l.get i
  | 0, g, l, _, _ => ⟨fun i => by rw [if_neg (by omega)]; rfl, fun i => by rw [if_neg (by omega)]; rfl⟩
  | k + 1, g, l, h1, h2 => by
    rw [mvX]
    obtain ⟨a1, a2⟩ := mvX_get (c := c) (nx := nx) (b := b) (k := k) (g := Tr.set 64 g (nx + k) (match l.get (b + k) with | some x => some (x.1, c) | none => none)) (l := Tr.set 64 l (b + k) none) (by omega) (by omega)
    have e : (match l.get (b + k) with | some x => some (x.1, c) | none => none) = reC c (l.get (b + k)) := by cases l.get (b + k) <;> rfl
    refine ⟨fun i => ?_, fun i => ?_⟩
    · rw [a1, Tr.get_set (big_lt (by omega)), Tr.get_set (big_lt (by omega)), e]
      by_cases q : nx ≤ i ∧ i < nx + k
      · rw [if_pos q, if_neg (show ¬ b + (i - nx) = b + k by omega), if_pos (show nx ≤ i ∧ i < nx + (k + 1) by omega)]
      · rw [if_neg q]
        by_cases q2 : i = nx + k
        · rw [if_pos q2, if_pos ⟨by omega, by omega⟩, show b + (i - nx) = b + k by omega]
        · rw [if_neg q2, if_neg (by omega)]
    · rw [a2, Tr.get_set (big_lt (by omega))]
      by_cases q : b ≤ i ∧ i < b + k
      · rw [if_pos q, if_pos ⟨q.1, by omega⟩]
      · rw [if_neg q]
        by_cases q2 : i = b + k
        · rw [if_pos q2, if_pos ⟨by omega, by omega⟩]
        · rw [if_neg q2, if_neg (by omega)]
def shX (b nx i:Nat):Nat:=bif Nat.ble b i then nx+(i - b) else i
def renX (M:Nat) (h0 h:Hp) (L:En):Option (En × Hp) :=
 bif Nat.beq h.n h0.n then some (L,h) else
 bif Nat.ble h0.g.bd h0.n && Nat.ble h0.l.bd h0.n && Nat.ble (h.nx+(h.n - h0.n)) M then
  match mvX (h.ck+1) h.nx (h0.n - M) (h.n - h0.n) (h.g.rn (shX h0.n h.nx) h0.n) (h.l.rn (shX h0.n h.nx) h0.n) with
  | (g,l)=>some (rnE (shX h0.n h.nx) L,⟨g,l,h0.n,h.nx+(h.n - h0.n),h.ck+1⟩)
 else none
def Lat (M:Nat) (h h':Hp):Prop:=Later M h h'/\h'.n=h.n
theorem Lat.rfl {h:Hp}:Lat M h h:=⟨Later.rfl,Eq.refl _⟩
theorem Lat.trans {h t e:Hp} (a:Lat M h t) (b:Lat M t e):Lat M h e:=⟨a.1.trans b.1,b.2.trans a.2⟩
theorem oO_map (s:Nat->Nat) (x:Option (AO × Nat)):oO (x.map fun y=>(rnB s y.1,y.2))=rnB s (oO x):=by cases x <;> rfl
theorem oO_reC (c:Nat) (x:Option (AO × Nat)):oO (reC c x)=oO x:=by cases x <;> rfl
theorem renX_ok {h0 h h' : Hp} {L L' : En} (hb0 : HB M h0) (hb : HB M h) (hlt : Later M h0 h) (e : renX M h0 h L = some (L', h')) :
    HB M h' ∧ Lat M h0 h' ∧ ∀ (T : En) (K : St → Prop), K ⟨L', [], h'.toL M⟩ → renK (h0.toL M) K ⟨L, T, h.toL M⟩ := by
  unfold renX at e
  have hn := hlt.n
  have hM := hb0.1.le
  cases e1 : Nat.beq h.n h0.n
  rotate_left
  · rw [e1] at e
    cases e
    exact ⟨hb, ⟨hlt, beq_t e1⟩, fun T K k => .inl k⟩
  rw [e1, cond_false] at e
  have hne := beq_f e1
  cases ec : (Nat.ble h0.g.bd h0.n && Nat.ble h0.l.bd h0.n && Nat.ble (h.nx + (h.n - h0.n)) M)
  · rw [ec] at e; cases e
  rw [ec, cond_true] at e
  simp only [Bool.and_eq_true] at ec
  have hg := Nat.le_of_ble_eq_true ec.1.1
  have hl := Nat.le_of_ble_eq_true ec.1.2
  have h1 := Nat.le_of_ble_eq_true ec.2
  have hlo : low ≤ h0.n := Nat.le_trans hb0.1.lo hM
  have hs0 : ∀ i, i < h0.n → shX h0.n h.nx i = i := fun i hi => by unfold shX; rw [ble_f (by omega)]; rfl
  obtain ⟨k, hk⟩ : ∃ k, h.n = h0.n + k := ⟨h.n - h0.n, by omega⟩
  have hk' : h.n - h0.n = k := by omega
  rw [hk'] at e h1
  have bb := hb.2
  obtain ⟨m1, m2⟩ := mvX_get (c := h.ck + 1) (nx := h.nx) (b := h0.n - M) (k := k) (g := h.g.rn (shX h0.n h.nx) h0.n) (l := h.l.rn (shX h0.n h.nx) h0.n) (by omega) (by omega)
  obtain ⟨o1, o2⟩ := mvX_ok (c := h.ck + 1) (nx := h.nx) (b := h0.n - M) (k := k) (Tr.ok_rn (s := shX h0.n h.nx) (v := h0.n) hb.1.gk) (Tr.ok_rn (s := shX h0.n h.nx) (v := h0.n) hb.1.lk)
  generalize mvX (h.ck + 1) h.nx (h0.n - M) k (h.g.rn (shX h0.n h.nx) h0.n) (h.l.rn (shX h0.n h.nx) h0.n) = gl at e m1 m2 o1 o2
  obtain ⟨g, l⟩ := gl
  cases e
  simp only at m1 m2 o1 o2
  have rg : ∀ i, (h.g.rn (shX h0.n h.nx) h0.n).get i = (h.g.get i).map fun x => (rnB (shX h0.n h.nx) x.1, x.2) := fun i => Tr.get_rn hlo hs0 hb.1.gk
  have rl : ∀ i, (h.l.rn (shX h0.n h.nx) h0.n).get i = (h.l.get i).map fun x => (rnB (shX h0.n h.nx) x.1, x.2) := fun i => Tr.get_rn hlo hs0 hb.1.lk
  -- the heap behind
  have R1 : ∀ i, i < h0.n → ¬ (h.nx ≤ i ∧ i < h.nx + k) → (⟨g, l, h0.n, h.nx + k, h.ck + 1⟩ : Hp).raw M i = (h.raw M i).map fun x => (rnB (shX h0.n h.nx) x.1, x.2) := fun i hi hq => by
    rcases Nat.lt_or_ge i M with hm | hm
    · rw [raw_g hm, raw_g hm, ← rg]
      show g.get i = _
      rw [m1, if_neg hq]
    · rw [raw_l hm, raw_l hm, ← rl]
      show l.get (i - M) = _
      rw [m2, if_neg (by omega)]
  have R2 : ∀ j, j < k → (⟨g, l, h0.n, h.nx + k, h.ck + 1⟩ : Hp).raw M (h.nx + j) = reC (h.ck + 1) ((h.raw M (h0.n + j)).map fun x => (rnB (shX h0.n h.nx) x.1, x.2)) := fun j hj => by
    rw [raw_g (by omega), raw_l (by omega), ← rl]
    show g.get (h.nx + j) = _
    rw [m1, if_pos ⟨by omega, by omega⟩, show h0.n - M + (h.nx + j - h.nx) = h0.n + j - M by omega]
  have free0 : ∀ i, h.nx ≤ i → i < M → h0.raw M i = none := fun i h2 h3 => by rw [raw_g h3]; exact hb0.1.free i (Nat.le_trans hlt.nx h2) h3
  have freeh : ∀ i, h.nx ≤ i → i < M → h.raw M i = none := fun i h2 h3 => by rw [raw_g h3]; exact hb.1.free i h2 h3
  refine ⟨⟨⟨hb0.1.lo, hM, h1, fun i h2 h3 => ?_, o1, o2, fun i x hx => ?_, fun j hj => ?_⟩, hb0.2⟩, ⟨⟨Nat.le_refl _, by show h0.nx ≤ h.nx + k; have := hlt.nx; omega, by show h0.ck ≤ h.ck + 1; have := hlt.ck; omega, fun i hi hx => ?_⟩, rfl⟩, fun T K kk => .inr ⟨shX h0.n h.nx, (List.range k).map (h.nx + ·), _, ?_, kk⟩⟩
  · have h2 : h.nx + k ≤ i := h2
    show g.get i = none
    rw [m1, if_neg (by omega), rg, hb.1.free i (by omega) h3]; rfl
  · show x.2 ≤ h.ck + 1
    rcases Nat.lt_or_ge i h0.n with hi | hi
    · by_cases q : h.nx ≤ i ∧ i < h.nx + k
      · have := R2 (i - h.nx) (by omega)
        rw [show h.nx + (i - h.nx) = i by omega] at this
        rw [this] at hx
        cases hh : (h.raw M (h0.n + (i - h.nx))).map fun x => (rnB (shX h0.n h.nx) x.1, x.2) with
        | none => rw [hh] at hx; cases hx
        | some y => rw [hh] at hx; cases hx; exact Nat.le_refl _
      · rw [R1 i hi q] at hx
        obtain ⟨y, hy, rfl⟩ := Option.map_eq_some_iff.1 hx
        exact Nat.le_succ_of_le (hb.1.ck i y hy)
    · rw [raw_l (by omega)] at hx
      change l.get (i - M) = some x at hx
      rw [m2] at hx
      split at hx
      · cases hx
      · rw [rl, hb.1.top (i - M) (by omega)] at hx; cases hx
  · have hj : h0.n ≤ j + M := hj
    show l.get j = none
    rw [m2]
    split
    · rfl
    · rw [rl, hb.1.top j (by omega)]; rfl
  · by_cases q : h.nx ≤ i ∧ i < h.nx + k
    · have e2 := R2 (i - h.nx) (by omega)
      rw [show h.nx + (i - h.nx) = i by omega] at e2
      rw [free0 i q.1 (by omega)]
      cases hh : (h.raw M (h0.n + (i - h.nx))).map fun x => (rnB (shX h0.n h.nx) x.1, x.2) with
      | none => rw [e2, hh]; rfl
      | some y =>
        rw [hh] at e2
        have := hx _ e2
        have := hlt.ck
        simp only at *
        omega
    · rw [R1 i hi q] at hx ⊢
      have hx2 : ∀ x, h.raw M i = some x → x.2 ≤ h0.ck := fun x h5 => hx (rnB (shX h0.n h.nx) x.1, x.2) (by rw [h5]; rfl)
      have := hlt.raw i hi hx2
      rw [this]
      cases h6 : h0.raw M i with
      | none => rfl
      | some y =>
        have hmx : y.1.mx ≤ h0.n := by
          rcases Nat.lt_or_ge i M with hm | hm
          · rw [raw_g hm] at h6; exact Nat.le_trans (Tr.ok_get hb0.1.gk h6) hg
          · rw [raw_l hm] at h6; exact Nat.le_trans (Tr.ok_get hb0.1.lk h6) hl
        show some (rnB (shX h0.n h.nx) y.1, y.2) = some y
        rw [rnB_id hlo hs0 y.1 hmx]
  · have hps : ∀ (j p : Nat), ((List.range k).map (h.nx + ·))[j]? = some p → j < k ∧ p = h.nx + j := fun j p hp => by
      rw [List.getElem?_map] at hp
      obtain ⟨a, ha, rfl⟩ := Option.map_eq_some_iff.1 hp
      obtain ⟨h5, h6⟩ := List.getElem?_eq_some_iff.1 ha
      simp at h5 h6
      exact ⟨h5, by omega⟩
    have hmem : ∀ p, p ∈ (List.range k).map (h.nx + ·) ↔ h.nx ≤ p ∧ p < h.nx + k := fun p => by
      simp only [List.mem_map, List.mem_range]
      constructor
      · rintro ⟨a, ha, rfl⟩; omega
      · rintro ⟨h5, h6⟩; exact ⟨p - h.nx, by omega, by omega⟩
    refine ⟨by rw [toL_len, toL_len]; simpa using hk, ?_, fun p hp => ?_, fun i hi => hs0 i (by rw [toL_len] at hi; exact hi), fun j p hp => ?_, fun i hi hlt2 => ?_, fun j p hp => ?_, by rw [toL_len, toL_len]⟩
    · show List.Pairwise (· ≠ ·) _
      rw [List.pairwise_map]
      exact List.nodup_range.imp fun h e => h (by omega)
    · rw [hmem] at hp
      rw [toL_lt (by omega), toL_lt (by omega), free0 p hp.1 (by omega), freeh p hp.1 (by omega)]
      exact ⟨rfl, rfl⟩
    · obtain ⟨h5, rfl⟩ := hps j p hp
      rw [toL_len]
      unfold shX
      rw [ble_t (by omega)]
      show h.nx + (h0.n + j - h0.n) = h.nx + j
      omega
    · rw [hmem] at hi
      rw [toL_len] at hlt2
      rw [toL_lt (by exact hlt2), toL_lt (by omega), R1 i hlt2 hi, oO_map]; rfl
    · obtain ⟨h5, rfl⟩ := hps j p hp
      rw [toL_len, toL_lt (by show h.nx + j < h0.n; omega), toL_lt (by omega), R2 j h5, oO_reC, oO_map]; rfl
def loopF (b : Sx → Option (Ex × Sx)) (lv : List Nat) : Nat → Sx → Option (Ex × Sx)
  | 0, _ => none
  | k + 1, s => match b ⟨ekeep lv s.L, [], s.h⟩ with
    | some (.nm, s') => loopF b lv k s'
    | r => r
def keysE:En->List Nat
 | []=>[]
 | (k,_) :: e=>k :: keysE e
def mcX (M : Nat) (cl : Cl) : MC → Sx → Option (Ex × Sx)
  | .skip, s => some (.nm, s)
  | .reg os, s => match opsX M cl os s with
    | some s' => match renX M s.h s'.h s'.L with
      | some Lh => some (.nm, ⟨Lh.1, [], Lh.2⟩)
      | none => none
    | none => none
  | .seq a b, s => match mcX M cl a s with
    | some (.nm, s') => mcX M cl b s'
    | r => r
  | .cond c a b, s => match s.s0.get c with
    | .p (.b true) => mcX M cl a s
    | .p (.b false) => mcX M cl b s
    | _ => none
  | .blk id b, s => match mcX M cl b s with
    | some (.ex i, s') => if i = id then some (.nm, s') else some (.ex i, s')
    | r => r
  | .loop b, s => loopF (mcX M cl b) (keysE s.L) 1000000 s
  | .exit id, s => some (.ex id, s)
  | .ret, s => some (.rt, s)
  | .drw pre tail, s => match rgX M cl pre tail s with
    | some s' => match renX M s.h s'.h s'.L with
      | some Lh => some (.nm, ⟨Lh.1, [], Lh.2⟩)
      | none => none
    | none => none
  | .stop, _ => none
def Snd (M:Nat) (P:Program) (m:MC) (s:Sx) (r:Ex × Sx):Prop:=HB M r.2.h/\Lat M s.h r.2.h/\∀ Q:Ex->St->Prop,Q r.1 (r.2.st M)->wpm2 (ACall P) m Q (s.st M)
theorem loopF_h {b : Sx → Option (Ex × Sx)} {lv : List Nat} (hb : ∀ s r, HB M s.h → b s = some r → HB M r.2.h ∧ Lat M s.h r.2.h) : ∀ {k : Nat} {s : Sx} {r : Ex × Sx}, HB M s.h → loopF b lv k s = some r → HB M r.2.h ∧ Lat M s.h r.2.h
  | 0, s, r, _, h => by cases h
  | k + 1, s, r, h0, h => by
    rw [loopF] at h
    split at h
    · rename_i s' e
      obtain ⟨a1, a2⟩ := hb ⟨ekeep lv s.L, [], s.h⟩ _ h0 e
      obtain ⟨b1, b2⟩ := loopF_h hb a1 h
      exact ⟨b1, a2.trans b2⟩
    · exact hb ⟨ekeep lv s.L, [], s.h⟩ r h0 h
theorem mcX_ok {cl : Cl} (hcl : ClOk M P cl) : ∀ (m : MC) {s : Sx} {r : Ex × Sx}, HB M s.h → mcX M cl m s = some r → Snd M P m s r
  | .skip, s, r, hb, h => by cases h; exact ⟨hb, Lat.rfl, fun Q q => q⟩
  | .reg os, s, r, hb, h => by
    rw [mcX] at h
    split at h
    · rename_i s1 e
      obtain ⟨a1, a2, a3⟩ := opsX_ok hcl hb e
      split at h
      · rename_i Lh e2
        cases h
        obtain ⟨b1, b2, b3⟩ := renX_ok hb a1 a2 e2
        exact ⟨b1, b2, fun Q q => a3 (renK (s.h.toL M) (Q .nm)) (b3 s1.T (Q .nm) q)⟩
      · cases h
    · cases h
  | .seq a b, s, r, hb, h => by
    rw [mcX] at h
    split at h
    · rename_i s1 e
      obtain ⟨a1, a2, a3⟩ := mcX_ok hcl a hb e
      obtain ⟨b1, b2, b3⟩ := mcX_ok hcl b a1 h
      exact ⟨b1, a2.trans b2, fun Q q => a3 (thenK (wpm2 (ACall P) b Q) Q) (b3 Q q)⟩
    · rename_i hne
      obtain ⟨a1, a2, a3⟩ := mcX_ok hcl a hb h
      refine ⟨a1, a2, fun Q q => a3 (thenK (wpm2 (ACall P) b Q) Q) ?_⟩
      obtain ⟨e, s1⟩ := r
      cases e with
      | nm => exact (hne s1 h).elim
      | ex i => exact q
      | rt => exact q
  | .cond c a b, s, r, hb, h => by
    rw [mcX] at h
    have eg : s.s0.get c = (s.st M).get c := get_H s.L s.T [] (s.h.toL M) c
    split at h
    · rename_i e
      obtain ⟨a1, a2, a3⟩ := mcX_ok hcl a hb h
      refine ⟨a1, a2, fun Q q => ?_⟩
      show condK ((s.st M).get c) _ _ _
      rw [← eg, e]
      exact ⟨fun _ => a3 Q q, fun h => (h rfl).elim⟩
    · rename_i e
      obtain ⟨a1, a2, a3⟩ := mcX_ok hcl b hb h
      refine ⟨a1, a2, fun Q q => ?_⟩
      show condK ((s.st M).get c) _ _ _
      rw [← eg, e]
      exact ⟨fun h => (by cases h), fun _ => a3 Q q⟩
    · cases h
  | .blk id b, s, r, hb, h => by
    rw [mcX] at h
    split at h
    · rename_i i s1 e
      obtain ⟨a1, a2, a3⟩ := mcX_ok hcl b hb e
      split at h
      · rename_i hi
        cases h
        refine ⟨a1, a2, fun Q q => a3 (blkK id Q) ?_⟩
        show (if i = id then Q .nm _ else Q (.ex i) _)
        rw [if_pos hi]; exact q
      · rename_i hi
        cases h
        refine ⟨a1, a2, fun Q q => a3 (blkK id Q) ?_⟩
        show (if i = id then Q .nm _ else Q (.ex i) _)
        rw [if_neg hi]; exact q
    · rename_i hne
      obtain ⟨a1, a2, a3⟩ := mcX_ok hcl b hb h
      refine ⟨a1, a2, fun Q q => a3 (blkK id Q) ?_⟩
      obtain ⟨e, s1⟩ := r
      cases e with
      | nm => exact q
      | ex i => exact (hne i s1 h).elim
      | rt => exact q
  | .loop b, s, r, hb, h => by
    rw [mcX] at h
    obtain ⟨c1, c2⟩ := loopF_h (fun s r h0 e => let q := mcX_ok hcl b h0 e; ⟨q.1, q.2.1⟩) hb h
    refine ⟨c1, c2, fun Q q => ⟨Nat, keysE s.L, fun k st' => ∃ s1, HB M s1.h ∧ st' = ⟨ekeep (keysE s.L) s1.L, [], s1.h.toL M⟩ ∧ loopF (mcX M cl b) (keysE s.L) k s1 = some r, id, ⟨1000000, s, hb, rfl, h⟩, ?_⟩⟩
    rintro k _ ⟨s1, h1, rfl, h2⟩
    cases k with
    | zero => cases h2
    | succ k =>
      rw [loopF] at h2
      split at h2
      · rename_i s2 e
        obtain ⟨a1, a2, a3⟩ := mcX_ok hcl b (s := ⟨ekeep (keysE s.L) s1.L, [], s1.h⟩) h1 e
        exact a3 _ ⟨k, ⟨s2, a1, rfl, h2⟩, Nat.lt_succ_self k⟩
      · rename_i hne
        obtain ⟨a1, a2, a3⟩ := mcX_ok hcl b (s := ⟨ekeep (keysE s.L) s1.L, [], s1.h⟩) h1 h2
        refine a3 _ ?_
        obtain ⟨e, s2⟩ := r
        cases e with
        | nm => exact (hne s2 h2).elim
        | ex i => exact q
        | rt => exact q
  | .exit id, s, r, hb, h => by cases h; exact ⟨hb, Lat.rfl, fun Q q => q⟩
  | .ret, s, r, hb, h => by cases h; exact ⟨hb, Lat.rfl, fun Q q => q⟩
  | .drw pre tail, s, r, hb, h => by
    rw [mcX] at h
    split at h
    · rename_i s1 e
      obtain ⟨a1, a2, a3⟩ := rgX_ok hcl hb e
      split at h
      · rename_i Lh e2
        cases h
        obtain ⟨b1, b2, b3⟩ := renX_ok hb a1 a2 e2
        exact ⟨b1, b2, fun Q q => a3 (renK (s.h.toL M) (Q .nm)) (b3 s1.T (Q .nm) q)⟩
      · cases h
    · cases h
  | .stop, s, r, hb, h => by cases h
end
end Go.AM
set_option linter.all false
namespace Go.AM
noncomputable section
variable {P:Program} {M:Nat}
def resX (M : Nat) (s : Sx) : MR → Option AV
  | .t n => some (eget s.L n)
  | .cell agg n a => match eget s.L a with
    | .ptr id o => ldV agg n (ldO (s.h.obj M id) (.ptr id o))
    | _ => none
def resXs (M : Nat) (s : Sx) : List MR → Option (List AV)
  | [] => some []
  | r :: rs => match resX M s r, resXs M s rs with
    | some v, some vs => some (v :: vs)
    | _, _ => none
def retX (M:Nat) (s:Sx):List MR->Option AV
 | [r]=>resX M s r
 | rs=>(resXs M s rs).map .tup
theorem resX_eq (s : Sx) (r : MR) : resX M s r = resV (s.st M) r := by
  cases r with
  | t n => rfl
  | cell agg n a =>
    show (match eget s.L a with | .ptr id o => ldV agg n (ldO (s.h.obj M id) (.ptr id o)) | _ => none) = (match eget s.L a with | .ptr id o => ldV agg n (ldAt (s.h.toL M) (.ptr id o)) | _ => none)
    split
    · rw [ldO_eq]
      simp only [idX, Option.bind_some, toL_obj]
    · rfl
theorem resXs_eq (s:Sx):∀ rs:List MR,resXs M s rs=resVs (s.st M) rs
 | []=>rfl
 | r :: rs=>by rw [resXs,resVs,resX_eq,resXs_eq s rs]; cases resV (s.st M) r <;> cases resVs (s.st M) rs <;> rfl
theorem retX_eq (s:Sx) (rs:List MR):retX M s rs=retV (s.st M) rs:=by
 match rs with
 | []=>simp only [retX,retV,resXs_eq]
 | [r]=>simp only [retX,retV,resX_eq]
 | a :: b :: l=>simp only [retX,retV,resXs_eq]
structure Fn where
 N:Nat
 m:MC
 rs:List MR
def callX (M : Nat) (tab : Nat → Option Fn) (ext : Nat → List AV → (Nat → Option AO) → Option AV) : Nat → Cl
  | 0, _, _, _ => none
  | k + 1, f, args, h => match ext f args (h.obj M) with
    | some r => some (r, h)
    | none => match tab f with
      | none => none
      | some F => bif Nat.ble args.length F.N then
          match mcX M (callX M tab ext k) F.m ⟨argEnv 0 args, [], h⟩ with
          | some (.ex _, _) => none
          | some (_, s) => match retX M s F.rs with
            | some r => some (r, s.h)
            | none => none
          | none => none
        else none
theorem callX_ok {tab : Nat → Option Fn} {ext : Nat → List AV → (Nat → Option AO) → Option AV} (ht : ∀ f F, tab f = some F → CallT2 P f F.N F.m F.rs) (hx : ∀ f args r (H : List AO), ext f args (H[·]?) = some r → ACall P f args H (pureQ r H)) : ∀ k, ClOk M P (callX M tab ext k)
  | 0, f, args, h, r, h', hb, e => by cases e
  | k + 1, f, args, h, r, h', hb, e => by
    rw [callX] at e
    split at e
    · rename_i v e1
      cases e
      exact ⟨hb, Later.rfl, rfl, hx f args _ _ (by rw [show ((h.toL M)[·]?) = h.obj M from funext fun i => toL_obj h i]; exact e1)⟩
    split at e
    · cases e
    rename_i F e2
    cases hck : Nat.ble args.length F.N
    · rw [hck] at e; cases e
    rw [hck, cond_true] at e
    have c3 := Nat.le_of_ble_eq_true hck
    split at e
    · cases e
    · rename_i ex s hne e3
      split at e
      rotate_left
      · cases e
      rename_i v e4
      have e' : v = r ∧ s.h = h' := by simpa using e
      obtain ⟨e5, e6⟩ := e'
      subst e5 e6
      obtain ⟨a1, a2, a3⟩ := mcX_ok (callX_ok ht hx k) F.m (s := ⟨argEnv 0 args, [], h⟩) hb e3
      rw [retX_eq] at e4
      refine ⟨a1, a2.1, a2.2, ht f F e2 c3 (a3 (finK F.rs (pureQ v (s.h.toL M))) ?_)⟩
      have fin : retK F.rs (pureQ v (s.h.toL M)) (s.st M) := by
        unfold retK
        rw [e4]
        exact ⟨rfl, rfl⟩
      cases ex with
      | nm => exact fin
      | ex i => exact (hne i rfl).elim
      | rt => exact fin
    · cases e
def hp0 (M:Nat):Hp:=⟨.e,.e,M,0,0⟩
theorem hp0_ok (hlo:low<=M) (h:M<big):HB M (hp0 M) :=
 ⟨⟨hlo,Nat.le_refl _,Nat.zero_le _,fun i _ _=>rfl,trivial,trivial,fun i x hx=>(by
  have:(hp0 M).raw M i=none:=by unfold Hp.raw; cases Nat.ble M i <;> rfl
  rw [this] at hx; cases hx),fun j _=>rfl⟩,h⟩
end
end Go.AM
set_option linter.all false
namespace Go.AM
noncomputable section
abbrev ZO:=Cl->En->En->Hp->Option (En × Hp)
abbrev ZB:=Cl->En->Hp->Option (Ex × En × Hp)
def egK {R:Type} (L:En) (t:Nat) (k:AV->R):R:=List.rec (motive:=fun _=>R) (k .any) (fun kv _ ih=>Prod.rec (fun a v=>Bool.rec ih (k v) (Nat.beq a t)) kv) L
theorem bif_rec {R:Type} {a b:R} (p:Bool):Bool.rec (motive:=fun _=>R) b a p=bif p then a else b:=by cases p <;> rfl
theorem egK_eq {R : Type} (t : Nat) (k : AV → R) : ∀ L : En, egK L t k = k (eget L t)
  | [] => rfl
  | (a, v) :: L => by
    show Bool.rec (egK L t k) (k v) (Nat.beq a t) = k (if a = t then v else eget L t)
    cases e : Nat.beq a t
    · rw [if_neg (beq_f e)]; exact egK_eq t k L
    · rw [if_pos (beq_t e)]
def esK {R:Type} (L:En) (t:Nat) (v:AV) (k:En->R):R :=
 List.rec (motive:=fun _=>(En->R)->R) (fun c=>c [(t,v)]) (fun kv e ih c=>Prod.rec (fun a u=>Bool.rec (ih fun e'=>c ((a,u) :: e')) (c ((t,v) :: e)) (Nat.beq a t)) kv) L k
theorem esK_eq {R : Type} (t : Nat) (v : AV) : ∀ (L : En) (k : En → R), esK L t v k = k (eset L t v)
  | [], k => rfl
  | (a, u) :: L, k => by
    show Bool.rec (esK L t v fun e' => k ((a, u) :: e')) (k ((t, v) :: L)) (Nat.beq a t) = k (if a = t then (t, v) :: L else (a, u) :: eset L t v)
    cases e : Nat.beq a t
    · rw [if_neg (beq_f e)]; exact esK_eq t v L _
    · rw [if_pos (beq_t e)]
def gK {R:Type} (x:MA) (L T:En) (k:AV->R):R:=MA.rec (motive:=fun _=>R) (fun n=>egK T n k) (fun n=>egK L n k) (fun v=>k v) x
theorem gK_eq {R:Type} (x:MA) (L T:En) (H:List AO) (k:AV->R):gK x L T k=k (St.get ⟨L,T,H⟩ x):=by
 cases x with
 | t n=>exact egK_eq n k T
 | l n=>exact egK_eq n k L
 | c v=>rfl
def gsK {R:Type} (xs:List MA) (L T:En) (k:List AV->R):R:=List.rec (motive:=fun _=>(List AV->R)->R) (fun k=>k []) (fun x _ ih k=>gK x L T fun a=>ih fun as=>k (a :: as)) xs k
theorem gsK_eq {R : Type} (L T : En) (H : List AO) : ∀ (xs : List MA) (k : List AV → R), gsK xs L T k = k (gets ⟨L, T, H⟩ xs)
  | [], k => rfl
  | x :: xs, k => by
    show gK x L T (fun a => gsK xs L T fun as => k (a :: as)) = _
    rw [gK_eq x L T H, gsK_eq L T H xs]; rfl
def pK (d:MD) (v:AV) (k:ZO):ZO:=fun cl L T h=>MD.rec (motive:=fun _=>Option (En × Hp)) (k cl L T h) (fun n=>k cl L ((n,v) :: T) h) (fun n=>esK L n v fun L'=>k cl L' T h) d
def goK (k:ZO) (cl:Cl):Option Sx->Option (En × Hp)
 | some s=>k cl s.L s.T s.h
 | none=>none
theorem pK_eq (d:MD) (v:AV) (k:ZO) (cl:Cl) (L T:En) (h:Hp):pK d v k cl L T h=goK k cl (some (Sx.put ⟨L,T,h⟩ d v)):=by
 cases d with
 | no=>rfl
 | t n=>rfl
 | l n=>exact esK_eq n v L _
def wrF (k:IntKind) (n:Int):Int:=Int.rec (motive:=fun _=>Int) (fun m=>Bool.rec (wr k (.ofNat m)) (.ofNat m) (Nat.blt m 128)) (fun m=>wr k (.negSucc m)) n
theorem wrF_eq (k : IntKind) (n : Int) : wrF k n = wr k n := by
  cases n with
  | negSucc m => rfl
  | ofNat m =>
    show Bool.rec (wr k (.ofNat m)) (.ofNat m) (Nat.blt m 128) = wr k (.ofNat m)
    cases e : Nat.blt m 128
    · rfl
    · have hm : m + 1 ≤ 128 := Nat.le_of_ble_eq_true e
      show Int.ofNat m = wr k (Int.ofNat m)
      have : ∀ c : Int, 128 ≤ c → Int.ofNat m % c = Int.ofNat m := fun c hc => Int.emod_eq_of_lt (by simp) (by have : (Int.ofNat m) = (m : Int) := rfl; omega)
      cases k <;> simp [wr, IntKind.wrap, IntKind.bits, IntKind.signed, this] <;> omega
def ltF (a b:Int):Bool:=Int.rec (motive:=fun _=>Bool) (fun m=>Int.rec (motive:=fun _=>Bool) (fun n=>Nat.blt m n) (fun _=>false) b) (fun m=>Int.rec (motive:=fun _=>Bool) (fun _=>true) (fun n=>Nat.blt n m) b) a
theorem blt_iff {m n:Nat}:Nat.blt m n=decide (m<n):=by
 by_cases h:m<n
 ·rw [decide_eq_true h]; exact Nat.ble_eq_true_of_le h
 ·rw [decide_eq_false h]; exact ble_f h
theorem ltF_eq (a b : Int) : ltF a b = decide (a < b) := by
  cases a with
  | ofNat m =>
    cases b with
    | ofNat n =>
      show Nat.blt m n = _
      rw [blt_iff]; exact decide_eq_decide.2 (by simp only [Int.ofNat_eq_natCast]; omega)
    | negSucc n => exact (decide_eq_false (by simp only [Int.ofNat_eq_natCast]; omega)).symm
  | negSucc m =>
    cases b with
    | ofNat n => exact (decide_eq_true (by simp only [Int.ofNat_eq_natCast]; omega)).symm
    | negSucc n =>
      show Nat.blt n m = _
      rw [blt_iff]; exact decide_eq_decide.2 (by omega)
def eqF (a b:Int):Bool:=Int.rec (motive:=fun _=>Bool) (fun m=>Int.rec (motive:=fun _=>Bool) (fun n=>Nat.beq m n) (fun _=>false) b) (fun m=>Int.rec (motive:=fun _=>Bool) (fun _=>false) (fun n=>Nat.beq m n) b) a
theorem nbeq_iff {m n:Nat}:Nat.beq m n=decide (m=n):=by
 by_cases h:m=n
 ·rw [decide_eq_true h,beq_is h]
 ·rw [decide_eq_false h,beq_no h]
theorem eqF_eq (a b : Int) : eqF a b = decide (a = b) := by
  cases a with
  | ofNat m =>
    cases b with
    | ofNat n =>
      show Nat.beq m n = _
      rw [nbeq_iff]; exact decide_eq_decide.2 (by simp only [Int.ofNat_eq_natCast]; omega)
    | negSucc n => exact (decide_eq_false (by simp only [Int.ofNat_eq_natCast]; omega)).symm
  | negSucc m =>
    cases b with
    | ofNat n => exact (decide_eq_false (by simp only [Int.ofNat_eq_natCast]; omega)).symm
    | negSucc n =>
      show Nat.beq m n = _
      rw [nbeq_iff]; exact decide_eq_decide.2 (by omega)
def kNum (k:IntKind):Nat:=IntKind.rec (motive:=fun _=>Nat) 0 1 2 3 4 5 6 7 k
def kEq (k k':IntKind):Bool:=Nat.beq (kNum k) (kNum k')
theorem kEq_eq (k k':IntKind):kEq k k'=decide (k=k'):=by cases k <;> cases k' <;> rfl
def numF (op:BinOp) (f:IntKind->Int->Int->AV) (x y:AV):Option AV :=
 match x,y with
 | .p (.i k a),.p (.i k' b)=>Bool.rec (motive:=fun _=>Option AV) (binF op x y) (some (f k a b)) (kEq k k')
 | _,_=>binF op x y
def addZ:=numF .add fun k a b=>.p (.i k (wrF k (a+b)))
def subZ:=numF .sub fun k a b=>.p (.i k (wrF k (a - b)))
def eqlZ:=numF .eql fun _ a b=>.p (.b (eqF a b))
def neqZ:=numF .neq fun _ a b=>.p (.b (Bool.rec true false (eqF a b)))
def lssZ:=numF .lss fun _ a b=>.p (.b (ltF a b))
def leqZ:=numF .leq fun _ a b=>.p (.b (Bool.rec true false (ltF b a)))
def gtrZ:=numF .gtr fun _ a b=>.p (.b (ltF b a))
def geqZ:=numF .geq fun _ a b=>.p (.b (Bool.rec true false (ltF a b)))
def binS:BinOp->AV->AV->Option AV
 | .add=>addZ
 | .sub=>subZ
 | .eql=>eqlZ
 | .neq=>neqZ
 | .lss=>lssZ
 | .leq=>leqZ
 | .gtr=>gtrZ
 | .geq=>geqZ
 | op=>binF op
theorem numF_eq {op:BinOp} {f:IntKind->Int->Int->AV} (h:∀ k a b,(iarith op k a b).map .p=some (f k a b)) (x y:AV):numF op f x y=binF op x y:=by
 unfold numF
 split
 ·rename_i k a k' b
  cases e:kEq k k'
  ·rfl
  ·rw [kEq_eq] at e
   have e:=of_decide_eq_true e
   subst e
   have h2:ebin op (.p (.i k a)) (.p (.i k b))=(iarith op k a b).map .p:=by show (if k=k then _ else _)=_; rw [if_pos rfl]
   unfold binF
   rw [h2,h]
 ·rfl
theorem binS_eq (op:BinOp) (x y:AV):binS op x y=binF op x y:=by
 have ex:∀ x:Bool,Bool.rec (motive:=fun _=>Bool) true false x=!x:=fun x=>by cases x <;> rfl
 have ng:∀ {a b:Int},(!decide (a<b))=decide (b<=a):=fun {a b}=>by
  by_cases h:a<b
  ·rw [decide_eq_true h,decide_eq_false (by omega)]; rfl
  ·rw [decide_eq_false h,decide_eq_true (by omega)]; rfl
 cases op <;> first | rfl | (refine numF_eq (fun k a b=>?_) x y; simp only [wrF_eq,eqF_eq,ltF_eq,ex,ng]; rfl)
def obZ (M:Nat) (h:Hp) (i:Nat):Option AO :=
 Hp.rec (motive:=fun _=>Option AO) (fun g l n _ _=>Bool.rec (motive:=fun _=>Option AO) (Bool.rec (motive:=fun _=>Option AO) (some (oO (g.get i))) (some (oO (l.get (i - M)))) (Nat.ble M i)) none (Nat.ble n i)) h
theorem obZ_eq (M:Nat) (h:Hp) (i:Nat):obZ M h i=h.obj M i:=by
 obtain ⟨g,l,n,nx,ck⟩:=h
 unfold obZ Hp.obj Hp.raw
 simp only
 cases Nat.ble n i <;> cases Nat.ble M i <;> rfl
def putZ (M:Nat) (h:Hp) (i:Nat) (o:AO):Option Hp :=
 Hp.rec (motive:=fun _=>Option Hp) (fun g l n nx ck=>Bool.rec (motive:=fun _=>Option Hp) (Bool.rec (motive:=fun _=>Option Hp) (Bool.rec (motive:=fun _=>Option Hp) (Bool.rec (motive:=fun _=>Option Hp) (some ⟨Tr.set 64 g i (some (o,Nat.succ ck)),l,n,nx,Nat.succ ck⟩) none (Nat.beq (Nat.succ ck) 0)) none (Nat.ble nx i))
  (Bool.rec (motive:=fun _=>Option Hp) (some ⟨g,Tr.set 64 l (i - M) (some (o,Nat.succ ck)),n,nx,Nat.succ ck⟩) none (Nat.beq (Nat.succ ck) 0)) (Nat.ble M i)) none (Nat.ble n i)) h
theorem putZ_eq (M:Nat) (h:Hp) (i:Nat) (o:AO):putZ M h i o=h.put M i o:=by
 obtain ⟨g,l,n,nx,ck⟩:=h
 unfold putZ Hp.put
 have e:Nat.beq (Nat.succ ck) 0=false:=rfl
 simp only [e]
 cases Nat.ble n i <;> cases Nat.ble M i <;> cases Nat.ble nx i <;> rfl
variable (M:Nat)
def zGen (o:MO) (d:MD) (k:ZO):ZO:=fun cl L T h=>goK k cl (opX M cl ⟨L,T,h⟩ d o)
def zMv (x:MA) (d:MD) (k:ZO):ZO:=fun cl L T h=>gK x L T fun v=>pK d v k cl L T h
def oK (o:Option AV) (d:MD) (k:ZO):ZO:=fun cl L T h=>Option.rec (motive:=fun _=>Option (En × Hp)) none (fun v=>pK d v k cl L T h) o
def z1 (f:AV->Option AV) (x:MA) (d:MD) (k:ZO):ZO:=fun cl L T h=>gK x L T fun a=>oK (f a) d k cl L T h
def z2 (f:AV->AV->Option AV) (x y:MA) (d:MD) (k:ZO):ZO:=fun cl L T h=>gK x L T fun a=>gK y L T fun b=>oK (f a b) d k cl L T h
def z3 (f:AV->AV->AV->Option AV) (x y z:MA) (d:MD) (k:ZO):ZO:=fun cl L T h=>gK x L T fun a=>gK y L T fun b=>gK z L T fun c=>oK (f a b c) d k cl L T h
def zH1 (f:Option AO->AV->Option AV) (x:MA) (d:MD) (k:ZO):ZO:=fun cl L T h=>gK x L T fun a=>oK (f ((idX a).bind (obZ M h)) a) d k cl L T h
def zH2 (f:Option AO->AV->AV->Option AV) (x y:MA) (d:MD) (k:ZO):ZO:=fun cl L T h=>gK x L T fun a=>gK y L T fun b=>oK (f ((idX a).bind (obZ M h)) a b) d k cl L T h
def zNew (o:AO) (mk:Nat->AV) (d:MD) (k:ZO):ZO:=fun cl L T h=>Bool.rec (pK d (mk h.n) k cl L T (h.push M o)) none (Nat.ble big (h.n+1))
def zBox (n:Nat) (x:MA) (d:MD) (k:ZO):ZO:=fun cl L T h=>gK x L T fun a=>Bool.rec none (zNew M (.var a.cells) (fun id=>.ptr id 0) d k cl L T h) (a.allOne && a.cells.length == n)
def zSto (n:Nat) (x v:MA) (d:MD) (k:ZO):ZO:=fun cl L T h=>gK x L T fun a=>gK v L T fun b=>match stoF (obZ M h) n a b with
 | some (.upd id o v)=>Option.rec (motive:=fun _=>Option (En × Hp)) none (fun h'=>pK d v k cl L T h') (putZ M h id o)
 | _=>none
def zRun (f:Nat) (args:List AV) (d:MD) (k:ZO):ZO:=fun cl L T h=>Option.rec (motive:=fun _=>Option (En × Hp)) none (fun rh=>Prod.rec (fun r h'=>pK d r k cl L T h') rh) (cl f args h)
def zCall (f:Nat) (args:List MA) (d:MD) (k:ZO):ZO:=fun cl L T h=>gsK args L T fun as=>zRun f as d k cl L T h
def zCalv (x:MA) (args:List MA) (d:MD) (k:ZO):ZO:=fun cl L T h=>gK x L T fun a=>gsK args L T fun as=>match a with
 | .clo f caps=>zRun f (as++caps) d k cl L T h
 | _=>none
def zOp:MO->MD->ZO->ZO
 | .mv x=>zMv x
 | .pick c x y=>z3 pickV c x y
 | .bin op x y=>z2 (binS op) x y
 | .un op x=>z1 (eun op) x
 | .ld agg n x=>zH1 M (fun ob a=>ldV agg n (ldO ob a)) x
 | .nilc x=>z1 nilcV x
 | .fad off x=>z1 (fadV off) x
 | .ext x n=>z1 (extV n) x
 | .len s x=>z1 (lenF s) x
 | .mnx mx x y=>z2 (mnxV mx) x y
 | .beq ne x y=>z2 (beqV ne) x y
 | .ixs sz x i=>zH2 M (fun ob a b=>ixsF ob sz a b) x i
 | .ixt x i=>z2 ixtF x i
 | .nilq sl ne x=>zH1 M (fun ob a=>nilqF ob sl ne a) x
 | .alloc z=>zNew M (.var z) fun id=>.ptr id 0
 | .box n x=>zBox M n x
 | .sto n x v=>zSto M n x v
 | .call f args=>zCall f args
 | .calv x args=>zCalv x args
 | o=>zGen M o
theorem obf (h:Hp):obZ M h=h.obj M:=funext fun i=>obZ_eq M h i
theorem oK_eq {s:Sx} {d:MD} {k:ZO} {cl:Cl} {L T:En} {h:Hp} (o:Option AV):oK o d k cl L T h=goK k cl (match o.map Ac.val with | some a=>acS M ⟨L,T,h⟩ d a | none=>none):=by
 cases o with
 | none=>rfl
 | some v=>exact pK_eq d v k cl L T h
theorem zNew_eq {d:MD} {k:ZO} {cl:Cl} {L T:En} {h:Hp} (o:AO) (mk:Nat->AV):zNew M o mk d k cl L T h=goK k cl (acS M ⟨L,T,h⟩ d (.new o mk)):=by
 unfold zNew
 rw [bif_rec]
 show _=goK k cl (bif Nat.ble big (h.n+1) then none else some (Sx.put ⟨L,T,h.push M o⟩ d (mk h.n)))
 cases Nat.ble big (h.n+1)
 ·exact pK_eq d _ k cl L T _
 ·rfl
theorem zRun_eq {d:MD} {k:ZO} {cl:Cl} {L T:En} {h:Hp} (f:Nat) (args:List AV):zRun f args d k cl L T h=goK k cl (calX cl ⟨L,T,h⟩ d f args):=by
 unfold zRun calX
 cases cl f args h with
 | none=>rfl
 | some rh=>exact pK_eq d rh.1 k cl L T rh.2
theorem zOp_eq (o : MO) (d : MD) (k : ZO) (cl : Cl) (L T : En) (h : Hp) : zOp M o d k cl L T h = goK k cl (opX M cl ⟨L, T, h⟩ d o) := by
  have g : ∀ {R : Type} (x : MA) (k : AV → R), gK x L T k = k (St.get ⟨L, T, []⟩ x) := fun x k => gK_eq x L T [] k
  have gs : ∀ {R : Type} (xs : List MA) (k : List AV → R), gsK xs L T k = k (gets ⟨L, T, []⟩ xs) := fun xs k => gsK_eq L T [] xs k
  have ok := fun o => oK_eq M (s := ⟨L, T, h⟩) (d := d) (k := k) (cl := cl) (L := L) (T := T) (h := h) o
  cases o with
  | mv x => show gK x L T _ = _; rw [g]; exact pK_eq d _ k cl L T h
  | pick c x y => show gK c L T _ = _; rw [g, g, g]; exact ok _
  | bin op x y => show gK x L T _ = _; rw [g, g, binS_eq]; exact ok _
  | un op x => show gK x L T _ = _; rw [g]; exact ok _
  | ld agg n x => show gK x L T _ = _; rw [g, obf]; exact ok _
  | nilc x => show gK x L T _ = _; rw [g]; exact ok _
  | fad off x => show gK x L T _ = _; rw [g]; exact ok _
  | ext x n => show gK x L T _ = _; rw [g]; exact ok _
  | len s x => show gK x L T _ = _; rw [g]; exact ok _
  | mnx mx x y => show gK x L T _ = _; rw [g, g]; exact ok _
  | beq ne x y => show gK x L T _ = _; rw [g, g]; exact ok _
  | ixs sz x i => show gK x L T _ = _; rw [g, g, obf]; exact ok _
  | ixt x i => show gK x L T _ = _; rw [g, g]; exact ok _
  | nilq sl ne x => show gK x L T _ = _; rw [g, obf]; exact ok _
  | alloc z => exact zNew_eq M (.var z) (fun id => .ptr id 0)
  | box n x =>
    show gK x L T _ = _
    rw [g, bif_rec, zNew_eq]
    show _ = goK k cl (match (if (St.get ⟨L, T, []⟩ x).allOne && (St.get ⟨L, T, []⟩ x).cells.length == n then some (Ac.new (.var (St.get ⟨L, T, []⟩ x).cells) fun id => .ptr id 0) else none) with | some a => acS M ⟨L, T, h⟩ d a | none => none)
    cases (St.get ⟨L, T, []⟩ x).allOne && (St.get ⟨L, T, []⟩ x).cells.length == n <;> rfl
  | sto n x v =>
    show gK x L T _ = _
    rw [g, g, obf]
    show _ = goK k cl (match stoF (h.obj M) n (St.get ⟨L, T, []⟩ x) (St.get ⟨L, T, []⟩ v) with | some a => acS M ⟨L, T, h⟩ d a | none => none)
    have up : ∀ {x y : AV} {a : Ac}, stoF (h.obj M) n x y = some a → ∃ id o v, a = .upd id o v := fun {x y a} e => by
      unfold stoF at e
      split at e
      · split at e
        · split at e
          · obtain ⟨_, _, rfl⟩ := Option.map_eq_some_iff.1 e; exact ⟨_, _, _, rfl⟩
          · cases e
        · split at e
          · split at e
            · split at e
              · obtain ⟨_, _, rfl⟩ := Option.map_eq_some_iff.1 e; exact ⟨_, _, _, rfl⟩
              · cases e
            · cases e
          · cases e
        · cases e
      · cases e
    cases e : stoF (h.obj M) n (St.get ⟨L, T, []⟩ x) (St.get ⟨L, T, []⟩ v) with
    | none => rfl
    | some a =>
      obtain ⟨id, o, v', rfl⟩ := up e
      simp only
      rw [putZ_eq]
      show _ = goK k cl (match h.put M id o with | some h => some (Sx.put ⟨L, T, h⟩ d v') | none => none)
      cases h.put M id o with
      | none => rfl
      | some h' => exact pK_eq d v' k cl L T h'
  | call f args => show gsK args L T _ = _; rw [gs, zRun_eq]; rfl
  | calv x args =>
    show gK x L T _ = _
    rw [g, gs]
    show _ = goK k cl (match St.get ⟨L, T, []⟩ x with | .clo f caps => calX cl ⟨L, T, h⟩ d f (gets ⟨L, T, []⟩ args ++ caps) | _ => none)
    cases St.get ⟨L, T, []⟩ x with
    | clo f caps => exact zRun_eq f _
    | _ => rfl
  | _ => rfl
def zG (t:MA) (w:Bool) (d:MD) (a:ZO->ZO) (k:ZO):ZO:=fun cl L T h=>gK t L T fun v=>match v with
 | .tup []=>pK d (.tup []) k cl L T h
 | .p (.b b)=>Bool.rec (Bool.rec (a k cl L T h) (pK d (.tup []) k cl L T h) w) (Bool.rec (pK d (.tup []) k cl L T h) (a k cl L T h) w) b
 | _=>none
def zMI (o:MI) (k:ZO):ZO :=
 match o with
 | ⟨d,op,none⟩=>zOp M op d k
 | ⟨d,op,some (t,w)⟩=>zG t w d (zOp M op d) k
theorem zMI_eq (o : MI) (k : ZO) (cl : Cl) (L T : En) (h : Hp) : zMI M o k cl L T h = goK k cl (miX M cl ⟨L, T, h⟩ o) := by
  obtain ⟨d, op, g⟩ := o
  cases g with
  | none => exact zOp_eq M op d k cl L T h
  | some tw =>
    obtain ⟨t, w⟩ := tw
    show gK t L T _ = goK k cl (match St.get ⟨L, T, []⟩ t with
      | .tup [] => some (Sx.put ⟨L, T, h⟩ d (.tup []))
      | .p (.b b) => if b = w then opX M cl ⟨L, T, h⟩ d op else some (Sx.put ⟨L, T, h⟩ d (.tup []))
      | _ => none)
    rw [gK_eq t L T []]
    generalize St.get ⟨L, T, []⟩ t = v
    have e1 := pK_eq d (.tup []) k cl L T h
    have e2 := zOp_eq M op d k cl L T h
    split
    · exact e1
    · rename_i b
      cases b <;> cases w <;> first | exact e1 | exact e2
    · rfl
end
end Go.AM
set_option linter.all false
namespace Go.AM
noncomputable section
variable (M:Nat)
def MO.mapA (f:MA->MA):MO->MO
 | .mv x=>.mv (f x)
 | .pick c x y=>.pick (f c) (f x) (f y)
 | .alloc z=>.alloc z
 | .box n x=>.box n (f x)
 | .build z ps=>.build z (ps.map fun p=>(p.1,p.2.1,f p.2.2))
 | .bsl sz z n ps=>.bsl sz z n (ps.map fun p=>(p.1,f p.2))
 | .ld agg n x=>.ld agg n (f x)
 | .sto n x v=>.sto n (f x) (f v)
 | .nilc x=>.nilc (f x)
 | .bin op x y=>.bin op (f x) (f y)
 | .un op x=>.un op (f x)
 | .conv k x=>.conv k (f x)
 | .b2s x=>.b2s (f x)
 | .b2sn x=>.b2sn (f x)
 | .mkf g caps=>.mkf g (caps.map f)
 | .mks sz bytes z l c=>.mks sz bytes z (f l) (f c)
 | .slc k x lo hi=>.slc k (f x) (lo.map f) (hi.map f)
 | .fad off x=>.fad off (f x)
 | .fld agg off n x=>.fld agg off n (f x)
 | .ixs sz x i=>.ixs sz (f x) (f i)
 | .ixa ln sz x i=>.ixa ln sz (f x) (f i)
 | .ixt x i=>.ixt (f x) (f i)
 | .ext x n=>.ext (f x) n
 | .call g args=>.call g (args.map f)
 | .calv x args=>.calv (f x) (args.map f)
 | .app sz bytes x y=>.app sz bytes (f x) (f y)
 | .appn sz bytes x y=>.appn sz bytes (f x) (f y)
 | .ston n x v=>.ston n (f x) (f v)
 | .cap x=>.cap (f x)
 | .appz sz bytes x n=>.appz sz bytes (f x) (f n)
 | .len s x=>.len s (f x)
 | .lenq s x=>.lenq s (f x)
 | .mnx mx x y=>.mnx mx (f x) (f y)
 | .beq ne x y=>.beq ne (f x) (f y)
 | .nilq sl ne x=>.nilq sl ne (f x)
 | .sq ne n x y=>.sq ne n (f x) (f y)
 | .nii ne x=>.nii ne (f x)
 | .mkm=>.mkm
 | .mget kd z ok m k=>.mget kd z ok (f m) (f k)
 | .mset kd m k v=>.mset kd (f m) (f k) (f v)
 | .peq ne x y=>.peq ne (f x) (f y)
 | .lde agg n x=>.lde agg n (f x)
 | .s2b x=>.s2b (f x)
 | .bslk sz z n ps=>.bslk sz z n (ps.map fun p=>(p.1,f p.2))
 | .ixse sz x i=>.ixse sz (f x) (f i)
 | .stop=>.stop
section
variable {L T L' T':En} {f:MA->MA} (hf:∀ x,St.get ⟨L',T',[]⟩ (f x)=St.get ⟨L,T,[]⟩ x)
include hf
theorem gets_map:∀ xs:List MA,gets ⟨L',T',[]⟩ (xs.map f)=gets ⟨L,T,[]⟩ xs
 | []=>rfl
 | x :: xs=>by rw [List.map_cons,gets,gets,hf,gets_map xs]
theorem partsV_map : ∀ (ps : List (Nat × Nat × MA)) z, partsV ⟨L', T', []⟩ (ps.map fun p => (p.1, p.2.1, f p.2.2)) z = partsV ⟨L, T, []⟩ ps z
  | [], z => rfl
  | (off, n, x) :: ps, z => by
    simp only [List.map_cons, partsV, hf]
    congr 1
    congr 1
    exact funext fun z => partsV_map ps z
theorem rowsV_map (sz : Nat) : ∀ (ps : List (Nat × MA)) rs, rowsV ⟨L', T', []⟩ sz (ps.map fun p => (p.1, f p.2)) rs = rowsV ⟨L, T, []⟩ sz ps rs
  | [], rs => rfl
  | (i, x) :: ps, rs => by
    simp only [List.map_cons, rowsV, hf]
    congr 1
    exact rowsV_map sz ps _
theorem omap_map (o:Option MA):(o.map f).map (St.get ⟨L',T',[]⟩)=o.map (St.get ⟨L,T,[]⟩):=by cases o <;> simp [hf]
theorem qv_map (ob:Option AO) (o:MO):qv ⟨L',T',[]⟩ ob (o.mapA f)=qv ⟨L,T,[]⟩ ob o:=by
 cases o <;> simp only [MO.mapA,qv,buildV,bslkV,hf,gets_map hf,partsV_map hf,rowsV_map hf,omap_map hf]
theorem obX_map (g:Nat->Option AO) (o:MO):obX g ⟨L',T',[]⟩ (o.mapA f)=obX g ⟨L,T,[]⟩ o:=by
 cases o <;> simp only [obX,MO.mapA,lookX,hf]
theorem acF_map (g:Nat->Option AO) (o:MO):acF g ⟨L',T',[]⟩ (o.mapA f)=acF g ⟨L,T,[]⟩ o:=by
 cases o <;> first | (simp only [MO.mapA,acF,hf,rowsV_map hf]; done) | (simp only [acF,MO.mapA]; rw [<- qv_map hf,<- obX_map hf]; rfl)
end
def opR (cl : Cl) (L T : En) (h : Hp) (o : MO) : Option (AV × Hp) :=
  match o with
  | .call f args => cl f (gets ⟨L, T, []⟩ args) h
  | .calv x args => match St.get ⟨L, T, []⟩ x with
    | .clo f caps => cl f (gets ⟨L, T, []⟩ args ++ caps) h
    | _ => none
  | o => match acF (h.obj M) ⟨L, T, []⟩ o with
    | some (.val v) => some (v, h)
    | some (.new o mk) => bif Nat.ble big (h.n + 1) then none else some (mk h.n, h.push M o)
    | some (.upd id o v) => match h.put M id o with
      | some h => some (v, h)
      | none => none
    | none => none
def putR (L T:En) (d:MD) (r:AV × Hp):Sx:=Sx.put ⟨L,T,r.2⟩ d r.1
theorem opX_R (cl : Cl) (L T : En) (h : Hp) (d : MD) (o : MO) : opX M cl ⟨L, T, h⟩ d o = (opR M cl L T h o).map (putR L T d) := by
  have gen : ∀ o : MO, (match acF (h.obj M) ⟨L, T, []⟩ o with | some a => acS M ⟨L, T, h⟩ d a | none => none) = ((match acF (h.obj M) ⟨L, T, []⟩ o with
    | some (.val v) => some (v, h)
    | some (.new o mk) => bif Nat.ble big (h.n + 1) then none else some (mk h.n, h.push M o)
    | some (.upd id o v) => match h.put M id o with
      | some h => some (v, h)
      | none => none
    | none => none : Option (AV × Hp))).map (putR L T d) := fun o => by
    cases acF (h.obj M) ⟨L, T, []⟩ o with
    | none => rfl
    | some a =>
      cases a with
      | val v => rfl
      | new o mk => show (bif Nat.ble big (h.n + 1) then none else _) = _; cases Nat.ble big (h.n + 1) <;> rfl
      | upd id o v => show (match h.put M id o with | some h => _ | none => none) = _; simp only; cases h.put M id o <;> rfl
  have gg := gen o
  cases o with
  | call f args => show calX cl ⟨L, T, h⟩ d f (gets ⟨L, T, []⟩ args) = _; unfold calX; simp only [opR]; cases cl f (gets ⟨L, T, []⟩ args) h <;> rfl
  | calv x args =>
    show (match St.get ⟨L, T, []⟩ x with | .clo f caps => calX cl ⟨L, T, h⟩ d f (gets ⟨L, T, []⟩ args ++ caps) | _ => none) = _
    simp only [opR]
    cases St.get ⟨L, T, []⟩ x with
    | clo f caps => unfold calX; simp only; cases cl f (gets ⟨L, T, []⟩ args ++ caps) h <;> rfl
    | _ => rfl
  | _ => exact gg
theorem opR_map {cl:Cl} {L T L' T':En} {f:MA->MA} (hf:∀ x,St.get ⟨L',T',[]⟩ (f x)=St.get ⟨L,T,[]⟩ x) (h:Hp) (o:MO):opR M cl L' T' h (o.mapA f)=opR M cl L T h o:=by
 have gen:=acF_map hf (h.obj M)
 cases o with
 | call g args=>simp only [opR,MO.mapA,gets_map hf]
 | calv x args=>simp only [opR,MO.mapA,gets_map hf,hf]
 | _=>simp only [opR,<- gen]; rfl
abbrev Sg:=List (Nat × MA)
def sgm:Sg->Nat->MA
 | [],n=>.t n
 | (k,m) :: s,n=>bif Nat.beq k n then m else sgm s n
def sgA (s:Sg):MA->MA
 | .t n=>sgm s n
 | x=>x
def noW (m : MA) : List MI → Bool
  | [] => true
  | o :: os => (match m, o.dst with
    | .t n, .t k => !Nat.beq n k
    | .l n, .l k => !Nat.beq n k
    | _, _ => true) && noW m os
def nxt (s:Sg):MD->Sg
 | .t d=>(d,.t d) :: s
 | _=>s
def eqT:MA->Nat->Bool
 | .t k,d=>Nat.beq k d
 | _,_=>false
def optO:Sg->List MI->List MI
 | _,[]=>[]
 | s,⟨.t d,.mv x,none⟩ :: os=>match noW (sgA s x) os && !eqT (sgA s x) d with | true=>optO ((d,sgA s x) :: s) os | false=>⟨.t d,.mv (sgA s x),none⟩ :: optO ((d,.t d) :: s) os
 | s,o :: os=>⟨o.dst,o.op.mapA (sgA s),o.guard.map fun g=>(sgA s g.1,g.2)⟩ :: optO (nxt s o.dst) os
def optR (os:List MI):List MI:=bif Nat.ble os.length 24 then optO [] os else os
def optC:MC->MC
 | .reg os=>.reg (optR os)
 | .seq a b=>.seq (optC a) (optC b)
 | .cond c a b=>.cond c (optC a) (optC b)
 | .blk id b=>.blk id (optC b)
 | .loop b=>.loop (optC b)
 | m=>m
def zEnd:ZO:=fun _ L _ h=>some (L,h)
def toO:List MI->ZO
 | []=>zEnd
 | o :: os=>zMI M o (toO os)
def lhX (s:Sx):En × Hp:=(s.L,s.h)
def SgOk (s:Sg) (os:List MI) (L T T0:En):Prop:=∀ n,St.get ⟨L,T,[]⟩ (sgm s n)=eget T0 n/\(sgm s n=.t n\/noW (sgm s n) os=true)
theorem SgOk.get {s:Sg} {os:List MI} {L T T0:En} (h:SgOk s os L T T0):∀ x,St.get ⟨L,T,[]⟩ (sgA s x)=St.get ⟨L,T0,[]⟩ x
 | .t n=>(h n).1
 | .l n=>rfl
 | .c v=>rfl
theorem noW_cons {m:MA} {o:MI} {os:List MI} (h:noW m (o :: os)=true):noW m os=true:=by unfold noW at h; rw [Bool.and_eq_true] at h; exact h.2
theorem get_putA {m : MA} {o : MI} {os : List MI} (h : noW m (o :: os) = true) (L T : En) (v : AV) (H : Hp) : St.get ⟨(Sx.put ⟨L, T, H⟩ o.dst v).L, (Sx.put ⟨L, T, H⟩ o.dst v).T, []⟩ m = St.get ⟨L, T, []⟩ m := by
  unfold noW at h
  rw [Bool.and_eq_true] at h
  have h := h.1
  cases hd : o.dst with
  | no => rfl
  | t k =>
    rw [hd] at h
    cases m with
    | t n =>
      simp only [Bool.not_eq_true'] at h
      show (if k = n then v else eget T n) = eget T n
      rw [if_neg (fun e => (beq_f h) e.symm)]
    | _ => rfl
  | l k =>
    rw [hd] at h
    cases m with
    | l n =>
      simp only [Bool.not_eq_true'] at h
      show eget (eset L k v) n = eget L n
      rw [eget_eset, if_neg (fun e => (beq_f h) e.symm)]
    | _ => rfl
theorem SgOk.put {s : Sg} {o : MI} {os : List MI} {L T T0 : En} (h : SgOk s (o :: os) L T T0) (v : AV) (H H' : Hp) :
    SgOk (nxt s o.dst) os (Sx.put ⟨L, T, H⟩ o.dst v).L (Sx.put ⟨L, T, H⟩ o.dst v).T (Sx.put ⟨L, T0, H'⟩ o.dst v).T := by
  intro n
  have keep : sgm (nxt s o.dst) n = sgm s n → (∀ d, o.dst = .t d → d ≠ n) → St.get ⟨(Sx.put ⟨L, T, H⟩ o.dst v).L, (Sx.put ⟨L, T, H⟩ o.dst v).T, []⟩ (sgm s n) = eget (Sx.put ⟨L, T0, H'⟩ o.dst v).T n ∧ (sgm s n = .t n ∨ noW (sgm s n) os = true) := fun _ hd => by
    have e0 : eget (Sx.put ⟨L, T0, H'⟩ o.dst v).T n = eget T0 n := by
      cases hd2 : o.dst with
      | t d => show (if d = n then v else eget T0 n) = _; rw [if_neg (hd d hd2)]
      | _ => rfl
    obtain ⟨h1, h2⟩ := h n
    rcases h2 with h2 | h2
    · refine ⟨?_, .inl h2⟩
      rw [e0, ← h1, h2]
      cases hd2 : o.dst with
      | t d => show (if d = n then v else eget T n) = eget T n; rw [if_neg (hd d hd2)]
      | _ => rfl
    · exact ⟨by rw [get_putA h2, h1, e0], .inr (noW_cons h2)⟩
  cases hd : o.dst with
  | t d =>
    rw [hd] at keep
    by_cases e : d = n
    · subst e
      have e1 : sgm (nxt s (.t d)) d = .t d := by show (bif Nat.beq d d then _ else _) = _; rw [beq_is rfl]; rfl
      rw [e1]
      refine ⟨?_, .inl rfl⟩
      show (if d = d then v else _) = (if d = d then v else _)
      rw [if_pos rfl, if_pos rfl]
    · have e1 : sgm (nxt s (.t d)) n = sgm s n := by show (bif Nat.beq d n then _ else _) = _; rw [beq_no e]; rfl
      rw [e1]
      exact keep e1 fun d' h => by cases h; exact e
  | no => rw [hd] at keep; exact keep rfl fun d h => by cases h
  | l k => rw [hd] at keep; exact keep rfl fun d h => by cases h
theorem optO_eq : ∀ (os : List MI) (s : Sg) (cl : Cl) (L T T0 : En) (h : Hp), SgOk s os L T T0 → (opsX M cl (optO s os) ⟨L, T, h⟩).map lhX = (opsX M cl os ⟨L, T0, h⟩).map lhX
  | [], s, cl, L, T, T0, h, _ => by rw [optO, opsX]; rfl
  | o :: os, s, cl, L, T, T0, h, hs => by
    have step : ∀ (v : AV) (h' : Hp), (opsX M cl (optO (nxt s o.dst) os) (Sx.put ⟨L, T, h'⟩ o.dst v)).map lhX = (opsX M cl os (Sx.put ⟨L, T0, h'⟩ o.dst v)).map lhX := fun v h' => by
      have e := optO_eq os (nxt s o.dst) cl _ _ (Sx.put ⟨L, T0, h'⟩ o.dst v).T h' (hs.put v h' h')
      have e1 : ∀ T : En, (⟨(Sx.put ⟨L, T, h'⟩ o.dst v).L, (Sx.put ⟨L, T, h'⟩ o.dst v).T, h'⟩ : Sx) = Sx.put ⟨L, T, h'⟩ o.dst v := fun T => by cases o.dst <;> rfl
      have e2 : (⟨(Sx.put ⟨L, T, h'⟩ o.dst v).L, (Sx.put ⟨L, T0, h'⟩ o.dst v).T, h'⟩ : Sx) = Sx.put ⟨L, T0, h'⟩ o.dst v := by cases o.dst <;> rfl
      rw [e1, e2] at e
      exact e
    have gen : (opsX M cl (⟨o.dst, o.op.mapA (sgA s), o.guard.map fun g => (sgA s g.1, g.2)⟩ :: optO (nxt s o.dst) os) ⟨L, T, h⟩).map lhX = (opsX M cl (o :: os) ⟨L, T0, h⟩).map lhX := by
      have go : ∀ {r : Option (AV × Hp)}, (match r.map (putR L T o.dst) with | some s' => opsX M cl (optO (nxt s o.dst) os) s' | none => none).map lhX = (match r.map (putR L T0 o.dst) with | some s' => opsX M cl os s' | none => none).map lhX := fun {r} => by
        cases r with
        | none => rfl
        | some r => exact step r.1 r.2
      rw [opsX, opsX]
      obtain ⟨d, op, g⟩ := o
      cases g with
      | none =>
        show (match opX M cl ⟨L, T, h⟩ d (op.mapA (sgA s)) with | some s' => opsX M cl (optO (nxt s d) os) s' | none => none).map lhX = (match opX M cl ⟨L, T0, h⟩ d op with | some s' => opsX M cl os s' | none => none).map lhX
        rw [opX_R, opX_R, opR_map M hs.get]
        exact go
      | some tw =>
        obtain ⟨t, w⟩ := tw
        show (match (match St.get ⟨L, T, []⟩ (sgA s t) with
          | .tup [] => some (Sx.put ⟨L, T, h⟩ d (.tup []))
          | .p (.b b) => if b = w then opX M cl ⟨L, T, h⟩ d (op.mapA (sgA s)) else some (Sx.put ⟨L, T, h⟩ d (.tup []))
          | _ => none) with | some s' => opsX M cl (optO (nxt s d) os) s' | none => none).map lhX = (match (match St.get ⟨L, T0, []⟩ t with
          | .tup [] => some (Sx.put ⟨L, T0, h⟩ d (.tup []))
          | .p (.b b) => if b = w then opX M cl ⟨L, T0, h⟩ d op else some (Sx.put ⟨L, T0, h⟩ d (.tup []))
          | _ => none) with | some s' => opsX M cl os s' | none => none).map lhX
        rw [hs.get]
        generalize St.get ⟨L, T0, []⟩ t = v
        have sk : (match some (Sx.put ⟨L, T, h⟩ d (.tup [])) with | some s' => opsX M cl (optO (nxt s d) os) s' | none => none).map lhX = (match some (Sx.put ⟨L, T0, h⟩ d (.tup [])) with | some s' => opsX M cl os s' | none => none).map lhX := go (r := some (.tup [], h))
        have dn : (match opX M cl ⟨L, T, h⟩ d (op.mapA (sgA s)) with | some s' => opsX M cl (optO (nxt s d) os) s' | none => none).map lhX = (match opX M cl ⟨L, T0, h⟩ d op with | some s' => opsX M cl os s' | none => none).map lhX := by
          rw [opX_R, opX_R, opR_map M hs.get]; exact go
        cases v with
        | tup vs => cases vs with
          | nil => exact sk
          | cons _ _ => rfl
        | p x => cases x with
          | b b =>
            by_cases e : b = w
            · simp only [if_pos e]; exact dn
            · simp only [if_neg e]; exact sk
          | _ => rfl
        | _ => rfl
    by_cases sp : ∃ d' x', o = ⟨.t d', .mv x', none⟩
    · obtain ⟨d', x', rfl⟩ := sp
      show (opsX M cl (match noW (sgA s x') os && !eqT (sgA s x') d' with | true => optO ((d', sgA s x') :: s) os | false => ⟨.t d', .mv (sgA s x'), none⟩ :: optO ((d', .t d') :: s) os) ⟨L, T, h⟩).map lhX = _
      cases hc : (noW (sgA s x') os && !eqT (sgA s x') d')
      · exact gen
      · show (opsX M cl (optO ((d', sgA s x') :: s) os) ⟨L, T, h⟩).map lhX = _
        rw [opsX]
        rw [Bool.and_eq_true, Bool.not_eq_true'] at hc
        show (opsX M cl (optO ((d', sgA s x') :: s) os) ⟨L, T, h⟩).map lhX = (opsX M cl os ⟨L, (d', St.get ⟨L, T0, []⟩ x') :: T0, h⟩).map lhX
        refine optO_eq os _ cl L T _ h fun n => ?_
        by_cases e : d' = n
        · subst e
          have e1 : sgm ((d', sgA s x') :: s) d' = sgA s x' := by show (bif Nat.beq d' d' then _ else _) = _; rw [beq_is rfl]; rfl
          rw [e1]
          refine ⟨?_, .inr hc.1⟩
          rw [hs.get]
          show _ = (if d' = d' then _ else _)
          rw [if_pos rfl]
        · have e1 : sgm ((d', sgA s x') :: s) n = sgm s n := by show (bif Nat.beq d' n then _ else _) = _; rw [beq_no e]; rfl
          rw [e1]
          obtain ⟨h1, h2⟩ := hs n
          refine ⟨?_, h2.imp id fun h => noW_cons h⟩
          rw [h1]
          show _ = (if d' = n then _ else _)
          rw [if_neg e]
    · rw [optO]
      · exact gen
      · exact fun d x e => sp ⟨d, x, e⟩
theorem toO_eq : ∀ (os : List MI) (cl : Cl) (L T : En) (h : Hp), toO M os cl L T h = (opsX M cl os ⟨L, T, h⟩).map lhX
  | [], cl, L, T, h => rfl
  | o :: os, cl, L, T, h => by
    show zMI M o (toO M os) cl L T h = _
    rw [zMI_eq, opsX]
    cases miX M cl ⟨L, T, h⟩ o with
    | none => rfl
    | some s => exact toO_eq os cl s.L s.T s.h
theorem optR_eq (os:List MI) (cl:Cl) (L:En) (h:Hp):(opsX M cl (optR os) ⟨L,[],h⟩).map lhX=(opsX M cl os ⟨L,[],h⟩).map lhX:=by
 unfold optR
 cases Nat.ble os.length 24
 ·rfl
 ·exact optO_eq M os [] cl L [] [] h fun n=>⟨rfl,.inl rfl⟩
abbrev ZR:=Option (Ex × En × Hp)
def rnZ (h0:Hp) (s:En × Hp):ZR:=Prod.rec (motive:=fun _=>ZR) (fun L h=>Bool.rec (motive:=fun _=>ZR) (match renX M h0 h L with | some Lh=>some (.nm,Lh.1,Lh.2) | none=>none) (some (.nm,L,h)) (Nat.beq h.n h0.n)) s
theorem rnZ_eq (h0 h:Hp) (L:En):rnZ M h0 (L,h)=match renX M h0 h L with | some Lh=>some (.nm,Lh.1,Lh.2) | none=>none:=by
 show Bool.rec (motive:=fun _=>ZR) _ _ (Nat.beq h.n h0.n)=_
 cases e:Nat.beq h.n h0.n
 ·rfl
 ·unfold renX; rw [e]; rfl
def zReg (o:ZO):ZB:=fun cl L h=>Option.rec (motive:=fun _=>ZR) none (fun s=>rnZ M h s) (o cl L [] h)
def zSeq (a b:ZB):ZB:=fun cl L h=>Option.rec (motive:=fun _=>ZR) none (fun r=>Prod.rec (fun e s=>Ex.rec (motive:=fun _=>ZR) (Prod.rec (fun L' h'=>b cl L' h') s) (fun i=>some (.ex i,s)) (some (.rt,s)) e) r) (a cl L h)
def zCond (c:MA) (a b:ZB):ZB:=fun cl L h=>gK c L [] fun v=>match v with
 | .p (.b t)=>Bool.rec (motive:=fun _=>ZR) (b cl L h) (a cl L h) t
 | _=>none
def zBlk (id:Nat) (b:ZB):ZB:=fun cl L h=>Option.rec (motive:=fun _=>ZR) none (fun r=>Prod.rec (fun e s=>Ex.rec (motive:=fun _=>ZR) (some (.nm,s)) (fun i=>Bool.rec (some (.ex i,s)) (some (.nm,s)) (Nat.beq i id)) (some (.rt,s)) e) r) (b cl L h)
def lpZ (b:ZB) (lv:List Nat) (cl:Cl) (k:Nat):En->Hp->ZR :=
 Nat.rec (motive:=fun _=>En->Hp->ZR) (fun _ _=>none) (fun _ ih L h=>Option.rec (motive:=fun _=>ZR) none (fun r=>Prod.rec (fun e s=>Ex.rec (motive:=fun _=>ZR) (Prod.rec (fun L' h'=>ih L' h') s) (fun i=>some (.ex i,s)) (some (.rt,s)) e) r) (b cl (ekeep lv L) h)) k
def zLoop (b:ZB):ZB:=fun cl L h=>lpZ b (keysE L) cl 1000000 L h
def zDrw (pre tail:List MI):ZB:=fun cl L h=>match rgX M cl pre tail ⟨L,[],h⟩ with
 | some s=>rnZ M h (s.L,s.h)
 | none=>none
def toS:MC->ZB
 | .skip=>fun _ L h=>some (.nm,L,h)
 | .reg os=>zReg M (toO M os)
 | .seq a b=>zSeq (toS a) (toS b)
 | .cond c a b=>zCond c (toS a) (toS b)
 | .blk id b=>zBlk id (toS b)
 | .loop b=>zLoop (toS b)
 | .exit id=>fun _ L h=>some (.ex id,L,h)
 | .ret=>fun _ L h=>some (.rt,L,h)
 | .drw pre tail=>zDrw M pre tail
 | .stop=>fun _ _ _=>none
def elh (r:Ex × Sx):Ex × En × Hp:=(r.1,r.2.L,r.2.h)
theorem mcX_T {cl : Cl} : ∀ (m : MC) (s : Sx) (r : Ex × Sx), s.T = [] → mcX M cl m s = some r → r.2.T = []
  | .skip, s, r, hs, h => by cases h; exact hs
  | .reg os, s, r, hs, h => by
    rw [mcX] at h
    split at h
    · split at h
      · cases h; rfl
      · cases h
    · cases h
  | .seq a b, s, r, hs, h => by
    rw [mcX] at h
    split at h
    · rename_i s' e; exact mcX_T b s' r (mcX_T a s _ hs e) h
    · exact mcX_T a s r hs h
  | .cond c a b, s, r, hs, h => by
    rw [mcX] at h
    split at h
    · exact mcX_T a s r hs h
    · exact mcX_T b s r hs h
    · cases h
  | .blk id b, s, r, hs, h => by
    rw [mcX] at h
    split at h
    · rename_i i s' e
      have := mcX_T b s _ hs e
      split at h <;> (cases h; exact this)
    · exact mcX_T b s r hs h
  | .loop b, s, r, hs, h => by
    rw [mcX] at h
    have : ∀ k (s : Sx), loopF (mcX M cl b) (keysE s.L) k s = some r → True := fun _ _ _ => trivial
    clear this
    generalize keysE s.L = lv at h
    generalize 1000000 = k at h
    clear hs
    induction k generalizing s with
    | zero => cases h
    | succ k ih =>
      rw [loopF] at h
      split at h
      · rename_i s' e; exact ih s' h
      · exact mcX_T b _ r rfl h
  | .exit id, s, r, hs, h => by cases h; exact hs
  | .ret, s, r, hs, h => by cases h; exact hs
  | .drw pre tail, s, r, hs, h => by
    rw [mcX] at h
    split at h
    · split at h
      · cases h; rfl
      · cases h
    · cases h
  | .stop, s, r, hs, h => by cases h
theorem toS_eq (cl : Cl) : ∀ (m : MC) (L : En) (h : Hp), toS M (optC m) cl L h = (mcX M cl m ⟨L, [], h⟩).map elh
  | .skip, L, h => rfl
  | .reg os, L, h => by
    show zReg M (toO M (optR os)) cl L h = _
    unfold zReg
    rw [toO_eq, optR_eq, mcX]
    cases opsX M cl os ⟨L, [], h⟩ with
    | none => rfl
    | some s =>
      show rnZ M h (s.L, s.h) = _
      rw [rnZ_eq]
      simp only
      cases renX M h s.h s.L <;> rfl
  | .seq a b, L, h => by
    show zSeq (toS M (optC a)) (toS M (optC b)) cl L h = _
    unfold zSeq
    rw [toS_eq cl a, mcX]
    cases e : mcX M cl a ⟨L, [], h⟩ with
    | none => rfl
    | some r =>
      have ht := mcX_T M a _ _ rfl e
      obtain ⟨x, L', T', h'⟩ := r
      cases ht
      cases x with
      | nm => exact toS_eq cl b L' h'
      | ex i => rfl
      | rt => rfl
  | .cond c a b, L, h => by
    show gK c L [] _ = _
    rw [gK_eq c L [] [], mcX]
    show _ = (match St.get ⟨L, [], []⟩ c with
      | .p (.b true) => mcX M cl a ⟨L, [], h⟩
      | .p (.b false) => mcX M cl b ⟨L, [], h⟩
      | _ => none).map elh
    generalize St.get ⟨L, [], []⟩ c = v
    split
    · rename_i t
      cases t
      · exact toS_eq cl b L h
      · exact toS_eq cl a L h
    · rename_i hne
      split
      · exact (hne _ rfl).elim
      · exact (hne _ rfl).elim
      · rfl
  | .blk id b, L, h => by
    show zBlk id (toS M (optC b)) cl L h = _
    unfold zBlk
    rw [toS_eq cl b, mcX]
    cases e : mcX M cl b ⟨L, [], h⟩ with
    | none => rfl
    | some r =>
      obtain ⟨x, L', T', h'⟩ := r
      cases x with
      | nm => rfl
      | ex i =>
        show Bool.rec (some (Ex.ex i, L', h')) (some (Ex.nm, L', h')) (Nat.beq i id) = Option.map elh (if i = id then some (Ex.nm, ⟨L', T', h'⟩) else some (Ex.ex i, ⟨L', T', h'⟩))
        cases e2 : Nat.beq i id
        · rw [if_neg (beq_f e2)]; rfl
        · rw [if_pos (beq_t e2)]; rfl
      | rt => rfl
  | .loop b, L, h => by
    show lpZ (toS M (optC b)) (keysE L) cl 1000000 L h = _
    rw [mcX]
    show _ = (loopF (mcX M cl b) (keysE L) 1000000 ⟨L, [], h⟩).map elh
    generalize keysE L = lv
    generalize 1000000 = k
    have key : ∀ (k : Nat) (L T : En) (h : Hp), lpZ (toS M (optC b)) lv cl k L h = (loopF (mcX M cl b) lv k ⟨L, T, h⟩).map elh := by
      intro k
      induction k with
      | zero => intro L T h; rfl
      | succ k ih =>
        intro L T h
        show Option.rec (motive := fun _ => ZR) none (fun r => Prod.rec (fun e s => Ex.rec (motive := fun _ => ZR) (Prod.rec (fun L' h' => lpZ (toS M (optC b)) lv cl k L' h') s) (fun i => some (.ex i, s)) (some (.rt, s)) e) r) (toS M (optC b) cl (ekeep lv L) h) = _
        rw [toS_eq cl b, loopF]
        cases e : mcX M cl b ⟨ekeep lv L, [], h⟩ with
        | none => rfl
        | some r =>
          obtain ⟨x, L', T', h'⟩ := r
          cases x with
          | nm => exact ih L' T' h'
          | ex i => rfl
          | rt => rfl
    exact key k L [] h
  | .exit id, L, h => rfl
  | .ret, L, h => rfl
  | .drw pre tail, L, h => by
    show zDrw M pre tail cl L h = _
    unfold zDrw
    rw [mcX]
    cases rgX M cl pre tail ⟨L, [], h⟩ with
    | none => rfl
    | some s =>
      show rnZ M h (s.L, s.h) = _
      rw [rnZ_eq]
      simp only
      cases renX M h s.h s.L <;> rfl
  | .stop, L, h => rfl
structure FnZ where
 N:Nat
 b:ZB
 rs:List MR
def retZ (L:En) (h:Hp) (rs:List MR):Option AV:=retX M ⟨L,[],h⟩ rs
def endZ (rs:List MR) (s:En × Hp):Option (AV × Hp):=Prod.rec (fun L' h'=>match retZ M L' h' rs with | some r=>some (r,h') | none=>none) s
def stepZ (tab : Nat → Option FnZ) (ext : Nat → List AV → (Nat → Option AO) → Option AV) (cl : Cl) : Cl := fun f args h =>
  match ext f args (obZ M h) with
  | some r => some (r, h)
  | none => match tab f with
    | none => none
    | some F => Bool.rec none (Option.rec (motive := fun _ => Option (AV × Hp)) none (fun r => Prod.rec (fun e s => Ex.rec (motive := fun _ => Option (AV × Hp)) (endZ M F.rs s) (fun _ => none) (endZ M F.rs s) e) r)
        (F.b cl (argEnv 0 args) h)) (Nat.ble args.length F.N)
def callZ (tab:Nat->Option FnZ) (ext:Nat->List AV->(Nat->Option AO)->Option AV) (k:Nat):Cl:=Nat.rec (motive:=fun _=>Cl) (fun _ _ _=>none) (fun _ ih=>stepZ M tab ext ih) k
theorem retX_T (L T:En) (h:Hp) (rs:List MR):retX M ⟨L,T,h⟩ rs=retX M ⟨L,[],h⟩ rs:=by
 have e1:∀ r,resX M ⟨L,T,h⟩ r=resX M ⟨L,[],h⟩ r:=fun r=>by cases r <;> rfl
 have e2:∀ rs,resXs M ⟨L,T,h⟩ rs=resXs M ⟨L,[],h⟩ rs:=fun rs=>by
  induction rs with
  | nil=>rfl
  | cons r rs ih=>rw [resXs,resXs,e1,ih]
 match rs with
 | []=>rfl
 | [r]=>exact e1 r
 | a :: b :: l=>exact congrArg (Option.map AV.tup) (e2 (a :: b :: l))
end
end Go.AM
set_option linter.all false
namespace Go.AM
noncomputable section
variable {P:Program}
structure GotO (m:MC) where
 m':MC
 h:optC m=m'
structure GotS (m:MC) where
 b:ZB
 h:toS low m=b
structure Ent (P:Program) where
 f:Nat
 N:Nat
 m:MC
 rs:List MR
 b:ZB
 ok:CallT2 P f N m rs
 eq:∀ cl L h,b cl L h=(mcX low cl m ⟨L,[],h⟩).map elh
def Got.ent {f N:Nat} {x:Option MC} {rs:List MR} (g:Got x) (o:GotO g.m) (s:GotS o.m') (ok:CallT2 P f N g.m rs):Ent P:=⟨f,N,g.m,rs,s.b,ok,fun cl L h=>by rw [<- s.h,<- o.h]; exact toS_eq low cl g.m L h⟩
inductive TT (P:Program) where
 | leaf (e:Ent P)
 | node (k:Nat) (l r:TT P)
def TT.get (t:TT P) (f:Nat):Option (Ent P) :=
 TT.rec (motive:=fun _=>Option (Ent P)) (fun e=>Bool.rec (motive:=fun _=>Option (Ent P)) none (some e) (Nat.beq e.f f)) (fun k _ _ gl gr=>Bool.rec (motive:=fun _=>Option (Ent P)) gr gl (Nat.blt f k)) t
theorem TT.get_f : ∀ {t : TT P} {f : Nat} {e : Ent P}, t.get f = some e → e.f = f
  | .leaf e0, f, e, h => by
    change Bool.rec (motive := fun _ => Option (Ent P)) none (some e0) (Nat.beq e0.f f) = some e at h
    cases hb : Nat.beq e0.f f
    · rw [hb] at h; cases h
    · rw [hb] at h; cases h; exact beq_t hb
  | .node k l r, f, e, h => by
    change Bool.rec (motive := fun _ => Option (Ent P)) (r.get f) (l.get f) (Nat.blt f k) = some e at h
    cases hb : Nat.blt f k
    · rw [hb] at h; exact TT.get_f h
    · rw [hb] at h; exact TT.get_f h
def TT.tab (t:TT P) (f:Nat):Option Fn:=(t.get f).map fun e=>⟨e.N,e.m,e.rs⟩
def TT.tabZ (t:TT P) (f:Nat):Option FnZ:=Option.rec (motive:=fun _=>Option FnZ) none (fun e=>some ⟨e.N,e.b,e.rs⟩) (t.get f)
abbrev Ext:=Nat->List AV->(Nat->Option AO)->Option AV
def ExtOk (P:Program) (ext:Ext):Prop:=∀ f args r (H:List AO),ext f args (H[·]?)=some r->ACall P f args H (pureQ r H)
theorem callZ_eq2 {t : TT P} (ext : Ext) : ∀ k, callZ low t.tabZ ext k = callX low t.tab ext k
  | 0 => rfl
  | k + 1 => by
    funext f args h
    show stepZ low t.tabZ ext (callZ low t.tabZ ext k) f args h = _
    rw [callX, callZ_eq2 ext k]
    unfold stepZ TT.tabZ TT.tab
    rw [obf]
    cases ext f args (h.obj low) with
    | some r => rfl
    | none =>
      cases t.get f with
      | none => rfl
      | some e =>
        simp only [Option.map_some]
        cases Nat.ble args.length e.N with
        | false => rfl
        | true =>
          rw [cond_true]
          show Option.rec (motive := fun _ => Option (AV × Hp)) none _ (e.b (callX low (fun f => (t.get f).map fun e => ⟨e.N, e.m, e.rs⟩) ext k) (argEnv 0 args) h) = _
          rw [e.eq]
          cases mcX low (callX low (fun f => (t.get f).map fun e => ⟨e.N, e.m, e.rs⟩) ext k) e.m ⟨argEnv 0 args, [], h⟩ with
          | none => rfl
          | some r =>
            obtain ⟨x, L', T', h'⟩ := r
            cases x with
            | ex i => rfl
            | nm => show _ = (match retX low ⟨L', T', h'⟩ e.rs with | some r => some (r, h') | none => none); rw [retX_T]; rfl
            | rt => show _ = (match retX low ⟨L', T', h'⟩ e.rs with | some r => some (r, h') | none => none); rw [retX_T]; rfl
mutual
def dta (g : Nat → Option AO) : Nat → AV → Option AV
  | 0, _ => none
  | k + 1, .p x => some (.p x)
  | k + 1, .gs id ver off n => match g id with
    | some (.rows sz ver' rs) => bif Nat.beq ver ver' && Nat.ble (off + n) rs.length then (dtaR g k sz ((rs.drop off).take n)).map fun ys => .p (.l ys) else none
    | _ => none
  | k + 1, .st cs => (dtaL g k cs).map .st
  | k + 1, .tup cs => (dtaL g k cs).map .tup
  | k + 1, _ => none
def dtaL (g : Nat → Option AO) : Nat → List AV → Option (List AV)
  | 0, _ => none
  | k + 1, [] => some []
  | k + 1, c :: cs => match dta g k c, dtaL g k cs with
    | some a, some l => some (a :: l)
    | _, _ => none
def dtaR (g : Nat → Option AO) : Nat → Nat → List (List AV) → Option (List (List PV))
  | 0, _, _ => none
  | k + 1, sz, [] => some []
  | k + 1, sz, r :: rs => match dtaC g k r, dtaR g k sz rs with
    | some y, some ys => bif Nat.beq y.length sz then some (y :: ys) else none
    | _, _ => none
def dtaC (g : Nat → Option AO) : Nat → List AV → Option (List PV)
  | 0, _ => none
  | k + 1, [] => some []
  | k + 1, c :: cs => match dta g k c, dtaC g k cs with
    | some (.p q), some l => some (q :: l)
    | _, _ => none
end
mutual
theorem dta_ok {H : List AO} : ∀ {k : Nat} {a x : AV}, dta (H[·]?) k a = some x → LentN 0 H a x
  | 0, a, x, h => by cases h
  | k + 1, .p q, x, h => by cases h; exact .p q
  | k + 1, .gs id ver off n, x, h => by
    rw [dta] at h
    split at h
    · rename_i sz ver' rs e
      cases hc : (Nat.beq ver ver' && Nat.ble (off + n) rs.length)
      · rw [hc] at h; cases h
      rw [hc, cond_true] at h
      rw [Bool.and_eq_true] at hc
      have h1 := beq_t hc.1
      have h2 := Nat.le_of_ble_eq_true hc.2
      subst h1
      obtain ⟨ys, h3, rfl⟩ := Option.map_eq_some_iff.1 h
      obtain ⟨k1, k2, k3⟩ := dtaR_ok h3
      refine .gs id ver off n sz rs ys (Nat.zero_le _) e h2 (by rw [k1]; simp; omega) k2 fun i r y j c q q1 q2 q3 q4 => ?_
      have hi : i < n := by
        have := (List.getElem?_eq_some_iff.1 q2).1
        rw [k1] at this; simp at this; omega
      refine k3 i r y j c q ?_ q2 q3 q4
      rw [List.getElem?_take, if_pos hi, List.getElem?_drop]; exact q1
    · cases h
  | k + 1, .st cs, x, h => by
    rw [dta] at h
    obtain ⟨l, h1, rfl⟩ := Option.map_eq_some_iff.1 h
    obtain ⟨a1, a2⟩ := dtaL_ok h1
    exact .st cs l a1 a2
  | k + 1, .tup cs, x, h => by
    rw [dta] at h
    obtain ⟨l, h1, rfl⟩ := Option.map_eq_some_iff.1 h
    obtain ⟨a1, a2⟩ := dtaL_ok h1
    exact .tup cs l a1 a2
  | k + 1, .any, x, h => by cases h
  | k + 1, .ptr _ _, x, h => by cases h
  | k + 1, .ep _ _ _ _, x, h => by cases h
  | k + 1, .ip _, x, h => by cases h
  | k + 1, .clo _ _, x, h => by cases h
  | k + 1, .mp _, x, h => by cases h
theorem dtaL_ok {H : List AO} : ∀ {k : Nat} {as bs : List AV}, dtaL (H[·]?) k as = some bs → as.length = bs.length ∧ ∀ (j : Nat) a b, as[j]? = some a → bs[j]? = some b → LentN 0 H a b
  | 0, as, bs, h => by cases h
  | k + 1, [], bs, h => by cases h; exact ⟨rfl, fun j a b h => by simp at h⟩
  | k + 1, c :: cs, bs, h => by
    rw [dtaL] at h
    split at h
    · rename_i a l h1 h2
      cases h
      obtain ⟨a1, a2⟩ := dtaL_ok h2
      refine ⟨by simp [a1], fun j x y hx hy => ?_⟩
      cases j with
      | zero => simp at hx hy; subst hx; subst hy; exact dta_ok h1
      | succ j => simp at hx hy; exact a2 j x y hx hy
    · cases h
theorem dtaR_ok {H : List AO} : ∀ {k sz : Nat} {rs : List (List AV)} {ys : List (List PV)}, dtaR (H[·]?) k sz rs = some ys → ys.length = rs.length ∧ (∀ y ∈ ys, y.length = sz) ∧
    ∀ (i : Nat) r y (j : Nat) c q, rs[i]? = some r → ys[i]? = some y → r[j]? = some c → y[j]? = some q → LentN 0 H c (.p q)
  | 0, sz, rs, ys, h => by cases h
  | k + 1, sz, [], ys, h => by cases h; exact ⟨rfl, (fun y h => by cases h), fun i r y j c q h => by simp at h⟩
  | k + 1, sz, r :: rs, ys, h => by
    rw [dtaR] at h
    split at h
    · rename_i y l h1 h2
      cases hb : Nat.beq y.length sz
      · rw [hb] at h; cases h
      rw [hb] at h
      cases h
      obtain ⟨a1, a2, a3⟩ := dtaR_ok h2
      refine ⟨by simp [a1], fun z hz => ?_, fun i r' y' j c q q1 q2 q3 q4 => ?_⟩
      · rcases List.mem_cons.1 hz with rfl | hz
        · exact beq_t hb
        · exact a2 z hz
      · cases i with
        | zero => simp at q1 q2; subst q1; subst q2; exact dtaC_ok h1 j c q q3 q4
        | succ i => simp at q1 q2; exact a3 i r' y' j c q q1 q2 q3 q4
    · cases h
theorem dtaC_ok {H : List AO} : ∀ {k : Nat} {r : List AV} {y : List PV}, dtaC (H[·]?) k r = some y → ∀ (j : Nat) c q, r[j]? = some c → y[j]? = some q → LentN 0 H c (.p q)
  | 0, r, y, h => by cases h
  | k + 1, [], y, h => by cases h; exact fun j c q h => by simp at h
  | k + 1, c :: cs, y, h => by
    rw [dtaC] at h
    split at h
    · rename_i q0 l h1 h2
      cases h
      intro j c' q' q1 q2
      cases j with
      | zero => simp at q1 q2; subst q1; subst q2; exact dta_ok h1
      | succ j => simp at q1 q2; exact dtaC_ok h2 j c' q' q1 q2
    · cases h
end
def evD (t:TT P) (ext:Ext) (k:Nat) (f:Nat) (args:List AV):Option AV :=
 Option.rec (motive:=fun _=>Option AV) none (fun rh=>dta (obZ low rh.2) 1000 rh.1) (callZ low t.tabZ ext k f args (hp0 low))
def pureA:AV->Bool
 | .p _=>true
 | .st cs=>cs.all fun c=>match c with | .p _=>true | _=>false
 | _=>false
theorem pureA_ok {a : AV} (h : pureA a = true) : a.okI (fun _ => false) = true := by
  cases a with
  | p x => rfl
  | st cs =>
    show AV.okL _ cs = true
    have : ∀ cs : List AV, (cs.all fun c => match c with | .p _ => true | _ => false) = true → AV.okL (fun _ => false) cs = true := fun cs => by
      induction cs with
      | nil => intro _; rfl
      | cons c cs ih =>
        intro h
        rw [List.all_cons, Bool.and_eq_true] at h
        rw [AV.okL, ih h.2]
        cases c with
        | p x => rfl
        | _ => cases h.1
    exact this cs h
  | _ => cases h
theorem hp0_toL (M:Nat):(hp0 M).toL M=List.replicate M .rsv:=by
 apply List.ext_getElem?
 intro i
 rcases Nat.lt_or_ge i M with hi | hi
 ·rw [toL_lt (show i<(hp0 M).n from hi),List.getElem?_replicate,if_pos hi,raw_g hi]; rfl
 ·rw [List.getElem?_eq_none (by rw [toL_len]; exact hi),List.getElem?_eq_none (by simp; exact hi)]
theorem evD_ok {t : TT P} {ext : Ext} (hx : ExtOk P ext) {k f : Nat} {args : List AV} {x : AV} (ha : args.all pureA = true) (h : evD t ext k f args = some x) (H : List AO) : ACall P f args H (pureQ x H) := by
  have hc := callX_ok (M := low) (tab := t.tab) (ext := ext) (fun f F hF => by
    unfold TT.tab at hF
    obtain ⟨e, h1, rfl⟩ := Option.map_eq_some_iff.1 hF
    have h2 := TT.get_f h1
    subst h2
    exact @e.ok) hx k
  unfold evD at h
  rw [callZ_eq2] at h
  cases e : callX low t.tab ext k f args (hp0 low) with
  | none => rw [e] at h; cases h
  | some rh =>
    obtain ⟨r, h'⟩ := rh
    rw [e] at h
    change dta (obZ low h') 1000 r = some x at h
    obtain ⟨a1, a2, a3, a4⟩ := hc f args (hp0 low) r h' (hp0_ok (Nat.le_refl _) (by unfold low big; decide)) e
    rw [hp0_toL] at a4
    have h1 : ACall P f args [] (pureQ r (h'.toL low)) := acall_ghost low a4
    have h2 : ACall P f args [] (pureQ x []) := acall_frz1 (h1.mono (by
      rintro r' H' ⟨rfl, rfl⟩
      refine ⟨_, rfl, dta_ok (k := 1000) ?_⟩
      rw [show ((h'.toL low)[·]?) = obZ low h' from funext fun i => by rw [obZ_eq]; exact toL_obj h' i]
      exact h))
    exact acall_frame (fun _ => false) h2 rfl (fun i h => by cases h) (fun i h => by cases h) (fun i o _ h => by simp at h) (fun i o _ h => by simp at h) (fun i o h => by cases h) (fun a hm => pureA_ok (List.all_eq_true.1 ha a hm)) (fun i h => by cases h) (fun i _ => rfl)
end
end Go.AM
set_option linter.all false
namespace Go.AM
def qd:TypeInfo:=⟨.bool,"",1,1,false,1,1,none,true,#[]⟩
def slim (x:TypeInfo):TypeInfo :=
 ⟨match x.desc with
  | .struct fs=>.struct (fs.map fun f=>{ f with name:= "f",tag:= "",pkgPath:= "" })
  | .named _ u=>.named "" u
  | d=>d,"",x.size,x.bytes,true,1,1,none,true,#[]⟩
structure GotT (x:TypeInfo) where
 m:TypeInfo
 h:x=m
def zeroT (x:TypeInfo):Option (List AV) :=
 match x.zero with
 | some z=>ofVals1 z.cells.toList
 | none=>none
structure GotZ (x:Option (List AV)) where
 m:Option (List AV)
 h:x=m
structure PQ where
 info:TypeId->Option TypeInfo
 bd:Nat->Bool
 sqs:TypeId->Bool
 zero:TypeId->Option (List AV)
namespace PQ
def underlying (p:PQ) (t:TypeId):Option TypeDesc :=
 match p.info t with
 | some { desc:=.named _ u,.. }=>(p.info u).map (·.desc)
 | some i=>some i.desc
 | none=>none
def zeroOf (P:PQ) (t:TypeId):Option (List AV):=P.zero t
def sizeT (P:PQ) (t:TypeId):Option Nat:=(P.info t).map (·.size)
def aggT (P:PQ) (t:TypeId):Option Bool :=
 match P.underlying t with
 | some (.struct _)=>some true
 | some (.array _ _)=>some true
 | some _=>some false
 | none=>none
def fieldOf (P : PQ) (s : TypeId) (f : Nat) : Option (Nat × TypeId × Nat) :=
  match P.underlying s with
  | some (.struct fs) => match fs[f]? with
    | some fd => (sizeT P fd.type).map fun n => (fd.offset, fd.type, n)
    | none => none
  | _ => none
def cParts (lv : List Nat) (P : PQ) (t : TypeId) : List (Nat × Operand) → Option (List (Nat × Nat × MA))
  | [] => some []
  | (f, x) :: ps => match fieldOf P t f, cArg lv x, cParts lv P t ps with
    | some (off, _, n), some a, some l => some ((off, n, a) :: l)
    | _, _, _ => none
def elemT (P:PQ) (t:TypeId):Option TypeId :=
 match P.underlying t with
 | some (.slice e)=>some e
 | _=>none
def cCall (lv : List Nat) (P : PQ) (c : Call) : Option MO :=
  match c.callee, cArgs lv c.args.toList with
  | .value (.func f), some as => if P.bd f = true then some (.call f as) else none
  | .value (.tmp t), some as => some (.calv (cTmp lv t) as)
  | .builtin .len, some [x] => match (c.argTypes[0]?).bind P.underlying with
    | some (.slice _) => some (.len false x)
    | some .string => some (.len true x)
    | _ => none
  | .builtin .cap, some [x] => match (c.argTypes[0]?).bind P.underlying with
    | some (.slice _) => some (.cap x)
    | _ => none
  | .builtin .append, some [x, y] => match c.argTypes.toList with
    | [t, u0] => match P.underlying u0 with
     | none => none
     | some u => match elemT P t with
      | some e => match P.info e with
        | some i => match zeroOf P e, u with
          | some z, .slice _ => if z.length == i.size && decide (0 < i.size) then some (.app i.size i.bytes x y) else none
          | some z, .string => if z.length == i.size && decide (0 < i.size) then some (.app i.size i.bytes x y) else none
          | some z, .int .i64 => if z.length == i.size && decide (0 < i.size) then some (.appz i.size i.bytes x y) else none
          | _, _ => none
        | none => none
      | none => none
    | _ => none
  | .builtin .min, some [x, y] => some (.mnx false x y)
  | .builtin .max, some [x, y] => some (.mnx true x y)
  | _, _ => none
def cPeq (P:PQ) (e:TypeId) (op:BinOp) (x y:MA):Option MO :=
 match sizeT P e with
 | some n=>if decide (0<n) then match op with
   | .eql=>some (.peq false x y)
   | .neq=>some (.peq true x y)
   | _=>none
  else none
 | none=>none
def cKey (P : PQ) (t : TypeId) : Option (Option IntKind) :=
  match P.underlying t with
  | some (.int k) => some (some k)
  | some (.pointer e) => match sizeT P e with
    | some n => if decide (0 < n) then some none else none
    | none => none
  | _ => none
def zero1 (P:PQ) (t:TypeId):Option AV :=
 match P.zero t with
 | some [c]=>some c
 | _=>none
def cMap (P : PQ) (t : TypeId) : Option (Option IntKind × AV) :=
  match P.underlying t with
  | some (.map kt et) => match cKey P kt, zero1 P et with
    | some kd, some z => some (kd, z)
    | _, _ => none
  | _ => none
def cSq (P:PQ) (t:TypeId) (fs:List Field) (op:BinOp) (x y:MA):Option MO :=
 if P.sqs t=true then
  match op with
  | .eql=>some (.sq false fs.length x y)
  | .neq=>some (.sq true fs.length x y)
  | _=>none
 else none
def cOp (lv : List Nat) (P : PQ) (o : Op) : Option MO :=
  match o with
  | .move x => (cArg lv x).map .mv
  | .assign x => (cArg lv x).map .mv
  | .pick c a b => match cArg lv c, cArg lv a, cArg lv b with
    | some c, some a, some b => some (.pick c a b)
    | _, _, _ => none
  | .alloc t => (zeroOf P t).map .alloc
  | .box t x => match cArg lv x, sizeT P t with
    | some x, some n => some (.box n x)
    | _, _ => none
  | .build t ps => match P.underlying t with
    | some (.struct fs) => match zeroOf P t, cParts lv P t ps.toList with
      | some z, some ps => if fs.toList.all (fun f => (sizeT P f.type).isSome) && ps.all (fun m => decide (0 < m.2.1)) then some (.build z ps) else none
      | _, _ => none
    | _ => none
  | .buildSlice t n ps => match elemT P t with
    | some e => match sizeT P e, zeroOf P e, cElems lv ps.toList with
      | some sz, some z, some ps => if z.length == sz && decide (0 < sz) && decide (n * sz ≤ 16777216) then some (.bsl sz z n ps) else none
      | _, _, _ => none
    | none => none
  | .load t x => match cArg lv x, aggT P t, sizeT P t with
    | some x, some g, some n => some (.ld g n x)
    | _, _, _ => none
  | .store t x v => match cArg lv x, cArg lv v, sizeT P t with
    | some x, some v, some n => if decide (0 < n) then some (.sto n x v) else none
    | _, _, _ => none
  | .nilCheck x => (cArg lv x).map .nilc
  | .binOp op t x y _ => match cArg lv x, cArg lv y, P.underlying t with
    | some x, some y, some (.int _) => some (.bin op x y)
    | some x, some y, some .string => some (.bin op x y)
    | some x, some y, some .bool => match op with
      | .eql => some (.beq false x y)
      | .neq => some (.beq true x y)
      | _ => none
    | some x, some y, some (.struct fs) => cSq P t fs.toList op x y
    | some x, some (.c (.p .ni)), some (.interface _) => cNii op x
    | some x, some (.c (.p .nl)), some (.slice _) => cNilq true op x
    | some x, some (.c (.p .np)), some (.pointer _) => cNilq false op x
    | some x, some y, some (.pointer e) => cPeq P e op x y
    | _, _, _ => none
  | .unOp op _ x => (cArg lv x).map (.un op)
  | .convert s t x => match cArg lv x, P.underlying s, P.underlying t with
    | some x, some _, some (.int k) => some (.conv k x)
    | some x, some (.slice e), some .string => match P.underlying e with
      | some (.int .u8) => some (.b2s x)
      | _ => none
    | some x, some .string, some (.slice e) => match P.underlying e with
      | some (.int .u8) => some (.s2b x)
      | _ => none
    | _, _, _ => none
  | .makeFunc (.func f) first caps => if first.isEmpty then (cArgs lv caps.toList).map (.mkf f) else none
  | .makeSlice t l c => match elemT P t, cArg lv l, cArg lv c with
    | some e, some l, some c => match P.info e, zeroOf P e with
      | some i, some z => if z.length == i.size && decide (0 < i.size) then some (.mks i.size i.bytes z l c) else none
      | _, _ => none
    | _, _, _ => none
  | .slice t x lo hi none => match P.underlying t, cArg lv x, cOpt lv lo, cOpt lv hi with
    | some .string, some x, some lo, some hi => some (.slc none x lo hi)
    | some (.slice e), some x, some lo, some hi => (sizeT P e).map fun n => .slc (some n) x lo hi
    | _, _, _, _ => none
  | .fieldAddr s x f => match fieldOf P s f, cArg lv x with
    | some (off, _, n), some x => if decide (0 < n) then some (.fad off x) else none
    | _, _ => none
  | .field s x f => match fieldOf P s f, cArg lv x with
    | some (off, t, n), some x => (aggT P t).map fun g => .fld g off n x
    | _, _ => none
  | .indexAddr t x i => match P.underlying t, cArg lv x, cArg lv i with
    | some (.slice e), some x, some i => (sizeT P e).bind fun n => if decide (0 < n) then some (.ixs n x i) else none
    | some (.array len e), some x, some i => (sizeT P e).map fun n => .ixa len n x i
    | _, _, _ => none
  | .index t x i => match P.underlying t, cArg lv x, cArg lv i with
    | some .string, some x, some i => some (.ixt x i)
    | _, _, _ => none
  | .extract x n => (cArg lv x).map fun x => .ext x n
  | .makeMap _ none => some .mkm
  | .lookup t m k ok => match cMap P t, cArg lv m, cArg lv k with
    | some (kd, z), some m, some k => some (.mget kd z ok m k)
    | _, _, _ => none
  | .mapUpdate t m k v => match cMap P t, cArg lv m, cArg lv k, cArg lv v with
    | some (kd, _), some m, some k, some v => some (.mset kd m k v)
    | _, _, _, _ => none
  | .call c => cCall lv P c
  | _ => none
def cOper (lv:List Nat) (P:PQ) (N:Nat) (ops:Array Oper) (o:Oper):MI :=
 match cOp lv P o.op,cGuard lv ops o.guard with
 | some m,some g=>if o.dst.all (decide <| ·<N) then ⟨cDst lv o.dst,m,g⟩ else ⟨.no,.stop,none⟩
 | _,_=>⟨.no,.stop,none⟩
def unl (sw:Bool) (ops:Array Oper):MO->MO
 | .len s x=>.lenq s x
 | .app sz b x y=>if (freshY ops x || freshY ops y) && !x.isC && !y.isC then .appn sz b x y else .app sz b x y
 | .sto n x v=>if freshV ops x then .ston n x v else .sto n x v
 | .b2s x=>if freshY ops x && noUpd ops then .b2sn x else .b2s x
 | .ld g n x=>if sw=true then .lde g n x else .ld g n x
 | .ixs sz x i=>if sw=true then .ixse sz x i else .ixs sz x i
 | .bsl sz z n ps=>if ixB ops then .bslk sz z n ps else .bsl sz z n ps
 | m=>m
def unlen (sw:Bool) (ops:Array Oper) (m:MI):MI:=⟨m.dst,unl sw ops m.op,m.guard⟩
def compile (lv : List Nat) (P : PQ) (N : Nat) : List (Nat × Bool) → Code → MC × List (Nat × Bool)
  | ts, .skip => (.skip, ts)
  | ts, .region _ ops false => (.reg (ops.toList.map (cOper lv P N ops)), ts)
  | (t, sw) :: ts, .region _ ops true => (.drw ((ops.toList.take t).map fun o => unlen sw ops (cOper lv P N ops o)) ((ops.toList.drop t).map (cOper lv P N ops)), ts)
  | [], .region _ _ true => (.stop, [])
  | ts, .seq a b => match compile lv P N ts a with
    | (x, ts) => match compile lv P N ts b with
      | (y, ts) => (.seq x y, ts)
  | ts, .cond c a b => match cArg lv c with
    | some c => match compile lv P N ts a with
      | (x, ts) => match compile lv P N ts b with
        | (y, ts) => (.cond c x y, ts)
    | none => (.stop, ts)
  | ts, .block id b => match compile lv P N ts b with
    | (x, ts) => (.blk id x, ts)
  | ts, .loop b => match compile lv P N ts b with
    | (x, ts) => (.loop x, ts)
  | ts, .exit id => (.exit id, ts)
  | ts, .ret => (.ret, ts)
  | ts, _ => (.stop, ts)
def sub:List Nat->Code->Code
 | 0 :: p,.seq a _=>sub p a
 | _ :: p,.seq _ b=>sub p b
 | 0 :: p,.cond _ a _=>sub p a
 | _ :: p,.cond _ _ b=>sub p b
 | _ :: p,.block _ b=>sub p b
 | _ :: p,.loop b=>sub p b
 | _,c=>c
def made (lv:List Nat) (P:PQ) (N:Nat) (ts:List (Nat × Bool)) (p:List Nat) (c:Option Code):Option MC:=c.map fun c=>(compile lv P N ts (sub p c)).1
end PQ
end Go.AM