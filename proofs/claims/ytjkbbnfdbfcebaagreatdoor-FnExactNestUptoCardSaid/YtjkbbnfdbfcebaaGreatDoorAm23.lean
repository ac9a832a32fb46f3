/- The whole: what the evaluation of a body's small code says, the model's run of the body does; a call of a function from its small code. -/
import Derived.Test.YtjkbbnfdbfcebaaGreatDoorAm22
import Derived.Laws.Sem
set_option linter.all false
namespace Go.AM
variable {lv:List Nat} {P:Program} {N:Nat} {θ:Th} {W:Im}
theorem Qb (hm:P.follows .mixedOrders=true):∀(c:Code) (Qs:Ex→St→Prop) (st:St) (a:Act) (w:World) (θ:Th) (W:Im),lJ (aA P) (compile lv P N c) Qs st→Rl lv N st a w θ W→c.wp P (Cq lv N Qs θ W w) a w:=by
  intro c
  induction c with
  |skip =>intro Qs st a w θ W h hR;exact wp_skip ⟨st,θ,W,hR,eU.refl _ _ _,h⟩
  |region id ops draw=>
   intro Qs st a w θ W h hR
   have fin:∀dG a' w' bd W',DQ (Qs .nm) dG→Rl lv N dG a' w' bd W'→eU θ W w bd W' w'→Cq lv N Qs θ W w .normal a' w':=
     fun dG a' w' bd W' h1 h2 h3=>⟨_,bd,W',h2.clear,h3,h1⟩
   cases draw with
   |false =>exact wp_region_list (W7 ops.toList st a w θ W h hR fin)
   |true =>
    have h':lJ (aA P) (if Bx (hQ ops) ops (oA (hQ ops) ops.size) (A3 lv P ops (oA (hQ ops) ops.size))then MC.O0 ((ops.toList.take (oA (hQ ops) ops.size)).map fun o=>qy ops (iB lv P N ops o)) ((ops.toList.drop (oA (hQ ops) ops.size)).map (iB lv P N ops))else .stop) Qs st:=h;split at h'
    · rename_i hd;exact Xe hm id hd h' hR fin
    · exact h'.elim
  |seq x y ihx ihy=>
   intro Qs st a w θ W h hR;refine wp_seq (wp_mono (ihx _ st a w θ W h hR) fun e a' w' he=> ?_)
   cases e with
   |normal=>
    obtain⟨dG,bd,W',h1,h2,h3⟩:=he
    exact wp_mono (ihy Qs dG a' w' bd W' h3 h1) fun e a2 w2 h4=>h4.trans h2
   |exit id=>exact he
   |ret=>exact he
   |goto l=>exact he
   |panic c=>exact he
   |outgrown=>exact he
  |cond c x y ihx ihy=>
   intro Qs st a w θ W h hR;unfold compile at h;split at h
   · rename_i m hx
     have h1:=hR.arg hx;obtain⟨b,hb,h2,h3⟩:=I2 h;rw[hb]at h1;exact wp_cond_split h1.tD (fun e=>ihx Qs st a w θ W (h2 e) hR) (fun e=>ihy Qs st a w θ W (h3 e) hR)
   · exact h.elim
  |block id x ih=>
   intro Qs st a w θ W h hR;refine wp_block (wp_mono (ih _ st a w θ W h hR) fun e a' w' he=> ?_)
   cases e with
   |normal=>exact he
   |exit i=>
    obtain⟨dG,bd,W',h1,h2,h3⟩:=he;have Xf:if i=id then Qs .nm dG else Qs (.ex i) dG:=h3
    show if i=id then _ else _
    split
    · rename_i e;rw[if_pos e]at Xf;exact⟨dG,bd,W',h1,h2,Xf⟩
    · rename_i e;rw[if_neg e]at Xf;exact⟨dG,bd,W',h1,h2,Xf⟩
   |ret=>exact he
   |goto l=>exact he
   |panic c=>exact he
   |outgrown=>exact he
  |loop x ih=>
   intro Qs st a w θ W h hR;obtain⟨α,kl,I,μ,⟨x0,h0⟩,Xg⟩:=h;refine BR (fun z a' w'=>∃dG bd W',I z dG∧Rl lv N dG a' w' bd W'∧eU θ W w bd W' w') μ x0 ⟨_,θ,W,h0,hR.gf kl,eU.refl _ _ _⟩ ?_;rintro z a1 w1 ⟨st1,θ1,W1,hI,hR1,bG⟩;refine wp_mono (ih _ st1 a1 w1 θ1 W1 (Xg z st1 hI) hR1) fun e a' w' he=> ?_
   cases e with
   |normal=>
    obtain⟨dG,bd,W',h1,h2,y,h3,h4⟩:=he
    exact⟨y,⟨_,bd,W',h3,h1.gf kl,bG.trans h2⟩,h4⟩
   |exit id=>exact Cq.trans (e:= .exit id) bG he
   |ret=>exact Cq.trans (e:= .ret) bG he
   |goto l=>exact he
   |panic c=>exact he
   |outgrown=>exact he
  |exit id=>intro Qs st a w θ W h hR;exact wp_exit ⟨st,θ,W,hR,eU.refl _ _ _,h⟩
  |ret=>intro Qs st a w θ W h hR;exact wp_ret ⟨st,θ,W,hR,eU.refl _ _ _,h⟩
  |rangeFunc f ps x y _ _ =>intro Qs st a w θ W h hR;exact h.elim
  |scope x _ =>intro Qs st a w θ W h hR;exact h.elim
  |label l=>intro Qs st a w θ W h hR;exact h.elim
  |goto l=>intro Qs st a w θ W h hR;exact h.elim
  |refuse s=>intro Qs st a w θ W h hR;exact h.elim
def Mu (tmps:Array Value):ResultVar->Sem Value
 | .tmp t=>pure (tmps.getD t undef)
 | .cell a t=>do loadVar t (<-asAddr (tmps.getD a undef))
theorem Xh {st:St} {a:Act} {w:World} (hR:Rl lv N st a w θ W) {r:ResultVar} {m:MR} (hr:L8 lv P r=some m) {x:AV} (hx:vK st m=some x):
    ∃v,(Mu a.tmps r).run P w= .ok v w∧bc θ W x v:=by
  cases r with
  |tmp t=>
   simp only[L8]at hr;split at hr
   · rename_i hl;cases hr;cases hx
     exact⟨_,rfl,hR.loc t hl⟩
   · cases hr
  |cell ad t=>
   simp only[L8]at hr;split at hr
   · rename_i hl
     split at hr
     · rename_i g n hg hn
       cases hr;simp only[vK]at hx;split at hx
       · rename_i id off e
         cases hc:ly st.H (.ptr id off)with
         |none =>rw[hc]at hx;cases hx
         |some cs=>
          rw[hc]at hx;have hv:=hR.loc ad hl;rw[e]at hv;obtain⟨q,hq,hrd⟩:=Al hR.mem hv hc;obtain⟨v,h1,h2,_⟩:=hrd.load hg hn hx;refine⟨v, ?_,h2⟩;simp only[Mu,hq,asAddr,pure_bind];exact h1
       · cases hx
     · cases hr
   · cases hr
theorem G9 {st:St} {a:Act} {w:World} (hR:Rl lv N st a w θ W):∀{rs:List ResultVar} {ms:List MR} (hr:wa lv P rs=some ms) {xs:List AV} (hx:mC st ms=some xs),
    ∃vs:List Value,(rs.mapM (Mu a.tmps)).run P w= .ok vs w∧tq θ W xs vs.toArray∧vs.length=xs.length∧ms.length=xs.length
  |[],ms,hr,xs,hx=>by
   cases hr;cases hx
   exact⟨[],rfl,⟨rfl,fun j a v hj=>by simp at hj⟩,rfl,rfl⟩
  |r::rs,ms,hr,xs,hx=>by
   simp only[wa]at hr;split at hr
   · rename_i m l h1 h2
     cases hr;simp only[mC]at hx;split at hx
     · rename_i v vs h3 h4
       cases hx;obtain⟨u,q1,q2⟩:=Xh hR h1 h3;obtain⟨us,q3,q4,q5,q6⟩:=G9 hR h2 h4;refine⟨u::us, ?_,⟨by simp[q5], ?_⟩,by simp[q5],by simp[q6]⟩
       · simp only[List.mapM_cons,Sem.run_bind,q1,Result.andThen_ok,q3]
         rfl
       · intro j a v hj hu
         cases j with
         |zero=>simp at hj hu;subst hj;subst hu;exact q2
         |succ j=>simp at hj hu;exact q4.2 j a v hj (by simpa using hu)
     · cases hx
   · cases hr
theorem Ha {st:St} {a:Act} {w:World} (hR:Rl lv N st a w θ W) {fn:Func} {ms:List MR} (hr:wa lv P fn.results.toList=some ms) {x:AV} (hx:Ag st ms=some x):
  ∃v,(results fn a.tmps).run P w=.ok v w/\bc θ W x v:=by
 have adh:(results fn a.tmps)=(do
   let vs<-Functor.map List.toArray (fn.results.toList.mapM (Mu a.tmps))
   pure (if h:vs.size=1 then vs[0]else .tuple vs)):=by
  unfold results;rw[<-Array.mapM_eq_mapM_toList]
  rfl
 have key:∀xs,mC st ms=some xs->∃vs:List Value,(results fn a.tmps).run P w=.ok (if h:vs.toArray.size=1 then vs.toArray[0]else .tuple vs.toArray) w/\tq θ W xs vs.toArray/\vs.length=xs.length/\ms.length=xs.length:=by
  intro xs Qc;obtain⟨vs,h1,h2,h3,h4⟩:=G9 hR hr Qc;refine⟨vs,?_,h2,h3,h4⟩;rw[adh];simp only[map_eq_pure_bind,Sem.run_bind,h1,Result.andThen_ok,Sem.run_pure]
 unfold Ag at hx;split at hx
 ·rename_i r
  have Qc:mC st [r]=some [x]:=by simp[mC,hx]
  obtain⟨vs,h1,h2,h3,h4⟩:=key _ Qc
  match vs,h3,h1,h2 with
  |[v],_,h1,h2=>exact⟨v,h1,h2.2 0 x v rfl rfl⟩
 ·rename_i cX
  obtain⟨xs,Qc,rfl⟩:=bf hx;obtain⟨vs,h1,h2,h3,h4⟩:=key _ Qc
  have ar:¬vs.toArray.size=1:=by
   intro e;have:ms.length=1:=by simp at e;omega
   obtain⟨r,e⟩:=List.length_eq_one_iff.1 this;exact cX r e
  rw[dif_neg ar]at h1;exact⟨_,h1,.dX _ _ (by simp[h3]) h2.2⟩
theorem xM:∀(args :List AV) (i t:Nat),dZ (ky i args) t=if i≤t then(args[t-i]?).getD .any else .any
  |[],i,t=>by simp[ky,dZ]
  |a::as,i,t=>by
   rw[ky,dZ,xM as (i+1) t];by_cases h:i=t
   · subst h;simp
   · by_cases h1:i≤t
     · rw[if_neg h,if_pos h1,if_pos (by omega)]
       rw[show t-i=(t-(i+1))+1 by omega,List.getElem?_cons_succ]
     · rw[if_neg h,if_neg h1,if_neg (by omega)]
theorem Nz (hm:P.follows .mixedOrders=true) {f:Nat} {fn:Func} {c:Code} (hf:P.funcs[f]?=some fn) (hb:fn.body=some c) (hng:(fn.name== "runtime.NumGoroutine")=false)
    {ms:List MR} (hr:wa lv P fn.results.toList=some ms) {args :List AV} {H:List AO} {Q:AV→List AO→Prop} (hla:args.length≤fn.ntmps)
    (h:lJ (aA P) (compile lv P fn.ntmps c) (tz ms Q) ⟨ky 0 args,[],H⟩):aA P f args H Q:=by
  refine⟨⟨fn,hf,by simp[hb],hng⟩,fun w θ W vs gm cR=> ?_⟩;refine calls_of_wp hf hb ?_;have cL:vs.size=args.length:=cR.1
  have Am:∀t,bc θ W (dZ (ky 0 args) t) ((vs++Array.replicate (fn.ntmps-vs.size) undef).getD t undef):=by
    intro t;rw[xM];simp only[Nat.zero_le,if_true,Nat.sub_zero]
    cases ht:args[t]?with
    |none =>exact .any _
    |some x=>
     have aj:t<vs.size:=by rw[cL];exact(List.getElem?_eq_some_iff.1 ht).1
     have hv:vs[t]?=some vs[t]:=by simp[aj]
     have :=cR.2 t x _ ht hv;simp only[Option.getD_some,Array.getD_eq_getD_getElem?,Array.getElem?_append_left aj,hv];exact this
  have hR:Rl lv fn.ntmps ⟨ky 0 args,[],H⟩ {tmps:=vs++Array.replicate (fn.ntmps-vs.size) undef,defers:=[]} w θ W:=
    ⟨rfl,by simp;omega,fun t _ =>Am t,fun t _ => .any _,gm⟩
  refine wp_mono (Qb hm c (tz ms Q) _ _ w θ W h hR) fun e a' w' he=> ?_
  have fin:∀dG bd W',Rl lv fn.ntmps dG a' w' bd W'→eU θ W w bd W' w'→Bw ms Q dG→
      a'.defers=[]∧∃v,(results fn a'.tmps).run P w'= .ok v w'∧∃v1 r H' bd W',Ending.returned v= .returned v1∧Q r H'∧SR bd W' H' w'∧bc bd W' r v1∧eU θ W w bd W' w':=by
    intro dG bd W' h1 h2 h3;unfold Bw at h3;split at h3
    · rename_i x hx
      obtain⟨v,q1,q2⟩:=Ha h1 hr hx;exact⟨h1.defers,v,q1,v,x,_,bd,W',rfl,h3,h1.mem,q2,h2⟩
    · exact h3.elim
  cases e with
  |normal=>obtain⟨dG,bd,W',h1,h2,h3⟩:=he;exact fin dG bd W' h1 h2 h3
  |ret=>obtain⟨dG,bd,W',h1,h2,h3⟩:=he;exact fin dG bd W' h1 h2 h3
  |exit id=>obtain⟨dG,bd,W',h1,h2,h3⟩:=he;exact h3.elim
  |goto l=>exact he.elim
  |panic c=>exact he.elim
  |outgrown=>exact he.elim
theorem NA (hm:P.follows .mixedOrders=true) {f:Nat} {fn:Func} {lv:List Nat} {N:Nat} {mc:MC} {ms:List MR} (hf:P.funcs[f]?=some fn) (Xi:fn.body.map (compile lv P N)=some mc) (hN:fn.ntmps=N)
    (hng:(fn.name== "runtime.NumGoroutine")=false) (hr:wa lv P fn.results.toList=some ms) {args :List AV} {H:List AO} {Q:AV→List AO→Prop} (hla:args.length≤N)
    (h:lJ (aA P) mc (tz ms Q) ⟨ky 0 args,[],H⟩):aA P f args H Q:=by
  subst hN
  cases hb:fn.body with
  |none =>rw[hb]at Xi;cases Xi
  |some c=>
   rw[hb]at Xi;cases Xi;exact Nz hm hf hb hng hr hla h
end Go.AM
