/- Texts QcL QeA QeB QeC QeD QeE QeF QeG QeH QdA QeI QdB QeJ QdC QeK QdD QeL QdE QeM QdF QeN QfA QgA QgB QfB, merged. -/
import Derived.Test.YtghcmccjchdgeaaGreatDoorKCC
import Derived.Test.YtghcmccjchdgeaaGreatDoorChecked
import Derived.KernelRfl
set_option linter.all false
namespace Go.Proofs.YtghcmccjchdgeaaGreatDoor.Qp
open Go.AM Mc Pg
theorem tokD_ne {s:List UInt8} {i:Nat} {c:UInt8} {k:Int} (ht:tokD s i c=.inr k):k≠0:=by
 unfold tokD at ht
 split at ht
 ·simp only [numD] at ht
  split at ht
  ·cases ht; decide
  ·cases ht
 split at ht
 ·unfold wordD wordF at ht
  generalize (if (c.toNat:Int)=39 then i+1 else i)=f at ht
  by_cases h12:12<runAt isNm s f - f
  ·rw [if_pos h12] at ht; cases ht; decide
  ·rw [if_neg h12] at ht; cases ht
 split at ht
 ·simp only [strD] at ht
  split at ht
  ·cases ht
  ·cases ht; decide
 ·simp only [signD] at ht
  split at ht
  ·cases ht; decide
  ·cases ht
theorem lexGo_ne {s : List UInt8} {most : Nat} {c : Int} {q : Nat} : ∀ (n i : Nat) (out : List Tok), s.length - i ≤ n → lexGo s most i out = .inr (c, q) → c ≠ 0 := by
  intro n
  induction n with
  | zero =>
    intro i out hn h
    rw [lexGo_end (by omega)] at h; cases h
  | succ n ih =>
    intro i out hn h
    by_cases hi : i < s.length
    · cases hb : Pg.blank s[i] with
      | true =>
        rw [lexGo_blank hi hb] at h
        exact ih _ _ (by omega) h
      | false =>
        by_cases hc : (s[i].toNat : Int) = 35
        · rw [lexGo_hash hi hb hc] at h
          have hg := nl_hash hi hc
          exact ih _ _ (by omega) h
        · rcases ht : tokD s i s[i] with ⟨t, e⟩ | c'
          · by_cases hm : out.length = most
            · rw [lexGo_most hi hb hc ht hm] at h; cases h; decide
            · rw [lexGo_tok hi hb hc ht hm] at h
              have hg := tokD_gt hi ht
              exact ih _ _ (by omega) h
          · rw [lexGo_err hi hb hc ht] at h; cases h; exact tokD_ne ht
    · rw [lexGo_end hi] at h; cases h
theorem lexD_ne {s:List UInt8} {c:Int} {q:Nat} (h:lexD s=.inr (c,q)):c≠0:=by
 unfold lexD at h
 split at h
 ·cases h; decide
 ·exact lexGo_ne _ _ _ (Nat.le_refl _) h
theorem told_e {α:Type} (m:PM α):told m=if (m ⟨0,0,0,0,0⟩).2.c=0 then .inl (m ⟨0,0,0,0,0⟩).1 else .inr ((m ⟨0,0,0,0,0⟩).2.c,(m ⟨0,0,0,0,0⟩).2.ps):=rfl
theorem set_self {X:List AO} {p:Nat} {o:AO} (h:X[p]?=some o):X.set p o=X:=list_set_same h
theorem PF.at {pv:PS->AO} {T:List Tok} {lim:Nat} {f:Nat} {xs:List AV} {α:Type} {m:PM α} {V:α->AV} (h:PF pv T lim f xs m V) {X:List AO} {p:Nat} {s:PS} (hp:X[p]?=some (pv s)) (hs:Ok T lim s) :
  ACall Tryz.prog f (.ptr p 0 :: xs) X (pureQ (V (m s).1) (X.set p (pv (m s).2))):=by
 have:=h.nil (get_lt hp) hs
 rwa [set_self hp] at this
theorem PX.top {pv:PS->AO} {T:List Tok} {e f:Nat} {args:List AV} {p:Nat} {α:Type} {m:PM α} {tv:α->List TV} (h:PX pv T e f args (fun _=>True) p m tv) (wf:∀ x,WfC (tv x)) {X:List AO} {s s1:PS} {x:α} (hm:m s=(x,s1)) (hp:X[p]?=some (pv s)) (hs:Ok T e s) :
  ACall Tryz.prog f args X (fun r X'=>∃ cs R,r=.st cs/\X'=X.set p (pv s1)++R/\Env X.length X'.length X' (tv x) cs):=by
 refine acall_ghost (nC (tv x)) ?_
 have hpl:=get_lt hp
 have hK:(X++List.replicate (nC (tv x)) AO.rsv)[p]?=some (pv s):=get_ext hp _
 have hF:Fr X.length (X++List.replicate (nC (tv x)) AO.rsv) (nC (tv x)):=⟨List.range' X.length (nC (tv x)),List.nodup_range',by simp,fun i hi=>by
  simp only [List.mem_range'] at hi
  obtain ⟨j,hj,rfl⟩:=hi
  refine ⟨by omega,?_⟩
  rw [List.getElem?_append_right (by omega)]
  simp [hj]⟩
 obtain ⟨H1,cs,hn1,kp1,_,_,_,env1,call1⟩:=h.use wf hm (Eq.refl (X++List.replicate (nC (tv x)) AO.rsv).length) hpl (by simp) hs hF (Nat.le_refl _)
 have hc:=call1 [] trivial
 rw [List.append_nil,List.append_nil,set_self hK] at hc
 refine hc.mono ?_
 rintro r X' ⟨rfl,rfl⟩
 refine ⟨cs,H1.drop X.length,rfl,?_,?_⟩
 ·have ht:H1.take X.length=X:=by
   apply List.ext_getElem?
   intro i
   rcases Nat.lt_or_ge i X.length with hi | hi
   ·rw [List.getElem?_take_of_lt hi,kp1.2.1 i hi,List.getElem?_append_left hi]
   ·rw [List.getElem?_eq_none (by simp; omega),List.getElem?_eq_none hi]
  have e3:H1=X++H1.drop X.length:=(List.take_append_drop X.length H1).symm.trans (congrArg (·++H1.drop X.length) ht)
  conv=>lhs; rw [e3]
  rw [List.set_append_left _ _ hpl]
 ·have:=env1 [] [] [] [] (Env.nil _ _ _)
  rw [List.append_nil] at this
  simpa [hn1] using this
theorem hx1 (H L:List AO) (x:AO):Hext (H++(.dead :: L)) (H++(x :: L)):=fun id o h hd=>by
 rcases Nat.lt_or_ge id H.length with hi | hi
 ·rw [List.getElem?_append_left hi] at h ⊢; exact h
 ·rw [List.getElem?_append_right hi] at h ⊢
  match id - H.length,h with
  | 0,h=>simp at h; exact (hd h.symm).elim
  | k+1,h=>exact h
theorem env4 {H R S:List AO} {a b c d a' b' c' d' e:AO} {v:Nat} {ts:List TV} {cs:List AV} (hv:H.length+4+R.length<=v) (h:Env (H++[a,b,c,d]).length (H++[a,b,c,d].set 3 e++R).length (H++[a,b,c,d].set 3 e++R) ts cs):Env H.length v (H++(a' :: b' :: c' :: d' :: (R++S))) ts cs:=by
 obtain ⟨ids,h1,h2,h3,h4⟩:=h
 have hb:(H++[a,b,c,d]).length=H.length+4:=by simp
 have hu:(H++[a,b,c,d].set 3 e++R).length=H.length+4+R.length:=by simp; omega
 rw [hb,hu] at h4
 refine ⟨ids,h1.keep fun i hi o ho=>?_,h2,h3,fun i hi=>by have:=h4 i hi; exact ⟨by omega,by omega⟩⟩
 obtain ⟨k,rfl⟩:=Nat.le.dest (h4 i hi).1
 rw [List.append_assoc,show H.length+4+k=H.length+(4+k) by omega,gxk] at ho
 rw [show H.length+4+k=H.length+(4+k) by omega,gxk]
 have e1:(([a,b,c,d].set 3 e)++R)[4+k]?=R[k]?:=by rw [List.getElem?_append_right (by simp)]; simp
 have e2:(a' :: b' :: c' :: d' :: (R++S))[4+k]?=(R++S)[k]?:=by rw [show 4+k=k+4 by omega]; rfl
 rw [e1] at ho
 rw [e2]; exact get_ext ho S
theorem Ok0 {T:List Tok} (hT:ToksOk T):Ok T 0 ⟨0,0,0,0,0⟩:=⟨hT.pos,rfl⟩
theorem lex_l {T:List Tok}:lexAV (.inl T)=.tup [ptV T,ftC 0 0]:=rfl
theorem lex_r {c:Int} {i:Nat}:lexAV (.inr (c,i))=.tup [.p (.l []),ftC c i]:=rfl
theorem ty_leaf (b u:Nat) (X:List AO) (k:Int) (nm:List UInt8) (q:Int):Env b u X (TyE.tv (.mk k nm q [])) [iV k,sV nm,iV q,.p .nl]:=by
 rw [TyE.tv,TyE.tvL]
 exact ((Env.nl1.pc _).pc _).pc _
theorem ty_node {b u:Nat} {X:List AO} {k:Int} {nm:List UInt8} {q:Int} {l:List TyE} {a:AV} (h:Env b u X [.s 4 (l.map TyE.tv)] [a]):Env b u X (TyE.tv (.mk k nm q l)) [iV k,sV nm,iV q,a]:=by
 rw [TyE.tv,TyE.tvL_eq]
 exact ((h.pc _).pc _).pc _
theorem own_tyC {X:List AO} {cs:List AV} {ids:List Nat} {k:Int} {nm:List UInt8} {q:Int} {l:List TyE} (h4:OwnCs X (TyE.tv (.mk k nm q l)) cs ids):∃ c,cs=[iV k,sV nm,iV q,c]:=by
 rw [TyE.tv] at h4
 simp only [OwnCs,Own] at h4
 obtain ⟨_,_,_,_,rfl,_,⟨rfl,_⟩,_,_,_,_,rfl,_,⟨rfl,_⟩,_,_,_,_,rfl,_,⟨rfl,_⟩,c,_,_,_,rfl,_,_,rfl,_⟩:=h4
 exact ⟨c,rfl⟩
theorem Env.tyC {b u:Nat} {X:List AO} {ts:List TV} {ds cs:List AV} {k:Int} {nm:List UInt8} {q:Int} {l:List TyE} (h:Env b u X (ts++TyE.tv (.mk k nm q l)) (ds++cs)) (hl:ds.length=ts.length):∃ c,cs=[iV k,sV nm,iV q,c]:=by
 obtain ⟨ids,h1,_⟩:=h
 obtain ⟨c1,c2,i,j,e1,_,h3,h4⟩:=ownC_split h1
 obtain ⟨rfl,rfl⟩:=List.append_inj e1 (by rw [h3.len]; exact hl)
 exact own_tyC h4
theorem ty_nC (k:Int) (nm:List UInt8) (q:Int) (l:List TyE):nC (TyE.tv (.mk k nm q l))=nK (l.map TyE.tv):=by
 rw [TyE.tv,TyE.tvL_eq]; simp [nC,nT]
theorem LO.head {α:Type} {pv:PS->AO} {T:List Tok} {e b n p sz:Nat} {K:List AO} {N:List Nat} {tv:α->List TV} {g:PS->Bool} {m:PM α} {Rl:List α} {Rs:PS} {x:LG α} (h:LO pv T e b n p K N sz tv g m Rl Rs x) (htv:∀ a,(tv a).length=sz) {y:α} {l:List α} (h0:x.acc=y :: l):∃ r0 rr q ver ids,x.rs=r0 :: rr/\rr.length=l.length/\x.a=.gs (n+q) ver 0 (rr.length+1)/\q ∉ N/\x.A[q]?=some (.rows sz ver (r0 :: rr))/\OwnCs (x.H.set p (pv x.s)++x.A) (tv y) r0 ids:=by
 have hl:=h.len
 rw [h0] at hl
 rcases hrs:x.rs with _ | ⟨r0,rr⟩
 ·rw [hrs] at hl; simp at hl
 rw [hrs] at hl
 have hr0:r0.length=sz:=h.sz1 r0 (by rw [hrs]; simp)
 rcases h.own with ⟨h1,h2⟩ | ⟨id,ver,e1,h1⟩
 ·rw [h2] at hrs; cases hrs
 ·obtain ⟨q1,q2⟩:=h.ids _ _ _ _ e1
  obtain ⟨q,rfl⟩:=Nat.le.dest q1
  rw [Nat.add_sub_cancel_left] at q2
  rw [qyk h.hn,hrs] at h1
  have hE:=h.env
  rw [h0,hrs,List.map_cons,List.flatten_cons,List.flatten_cons] at hE
  obtain ⟨ids,k1,_⟩:=hE
  obtain ⟨c1,c2,i,j,e2,_,h3,h4⟩:=ownC_split k1
  obtain ⟨rfl,rfl⟩:=List.append_inj e2 (by rw [h3.len,htv,hr0])
  exact ⟨r0,rr,q,ver,i,rfl,by simpa using hl,by rw [e1,hrs]; rfl,q2,h1,h3⟩
section
variable {T:List Tok} {most e:Nat} (hT:ToksOk T) (hTl:T.length<=1073741825)
include hT hTl
theorem iTyAtC {d:Nat} (hd:d<=1099511627776) {ty:PM TyE} (hP:PFo T most e 115 [iV (d+1:Nat)] ty TyE.tv) (sP:StayM T ty):PFo T most e 218 [iV d] (tyAt T ty) TyE.tv:=by
 refine pfo_of fun p K b n s hn hp hb hs hF=>?_
 have hpK:p<K.length:=by omega
 have hd1:wr .i64 ((d:Int)+1)=((d+1:Nat):Int):=wrN _ (by omega)
 have hws:=ws hTl hs
 refine call218 (by simp) ?_
 simp only [go_sem,simprocAttr,qyk hn,qy0 hn,ryk hn,ry0 hn,hn,hn,mc218,mr218]
 refine acall_pure (iNow K _ p s hpK hs) ?_
 simp only [go_sem,simprocAttr,qyk hn,qy0 hn,ryk hn,ry0 hn,hn,hn,Tok.cells]
 unfold tyAt at hF ⊢
 rw [nowP_e] at hF ⊢
 generalize hte:tokA T s=t at *
 obtain ⟨tk,tt,tn,tp⟩:=t
 simp only at hF ⊢
 refine acall_pure (iIsK 5 K _ p s hpK hs) ?_
 cases c0:isK T 5 s
 rotate_left
 ·rw [iteG_t c0]
  simp only [go_sem,simprocAttr,qyk hn,qy0 hn,ryk hn,ry0 hn,hn,hn,c0,qpI hpK,qq hpK,hws,pvI_adv]
  exact ⟨_,K,_,0,rfl,rfl,Kp.rfl,ty_leaf _ _ _ _ _ _⟩
 rw [iteG_f c0] at hF ⊢
 simp only [go_sem,simprocAttr,qyk hn,qy0 hn,ryk hn,ry0 hn,hn,hn,c0]
 refine acall_pure (iIsK 3 K _ p s hpK hs) ?_
 cases c1:isK T 3 s
 rotate_left
 ·rw [iteG_t c1]
  simp only [go_sem,simprocAttr,qyk hn,qy0 hn,ryk hn,ry0 hn,hn,hn,c1,qpI hpK,qq hpK,hws,pvI_adv]
  exact ⟨_,K,_,0,rfl,rfl,Kp.rfl,ty_leaf _ _ _ _ _ _⟩
 rw [iteG_f c1,stepP_e] at hF ⊢
 simp only [go_sem,simprocAttr,qyk hn,qy0 hn,ryk hn,ry0 hn,hn,hn,c1]
 refine acall_pure (iWant hT hTl [[40]] (by decide) hpK hs (by omega) (fun c=>by rw [qyk hn]; rfl)) ?_
 simp only [go_sem,simprocAttr,qyk hn,qy0 hn,ryk hn,ry0 hn,hn,hn,wants1,hd1]
 have hs1:=hs.step (stay_want hT [40])
 generalize wantP T [40] s=s1 at *
 rcases hq:ty s1 with ⟨⟨k1,n1,q1,l1⟩,s2⟩
 have hs2:=hs1.run sP
 rw [hq] at hs2
 simp only at hs2
 simp only [bindP_e,hq,stepP_e,retP_e] at hF ⊢
 obtain ⟨H1,cs1,hn1,kp1,fr1,cl1,_,env1,call1⟩:=(hP p).use TyE.wf hq hn hp hb hs1 hF (Nat.le_refl _)
 refine acall_pure (call1 _ trivial) ?_
 have hE1:=fun A A'=>env1 [] [] A A' (Env.nil _ _ _)
 obtain ⟨v1,rfl⟩:=(hE1 [] []).tyC rfl
 simp only [go_sem,simprocAttr,qyk hn1,qy0 hn1,ryk hn1,ry0 hn1,hn1,hn1]
 refine acall_pure (iWant hT hTl [[41]] (by decide) (by omega) hs2 (by omega) (fun c=>by rw [qyk hn1]; rfl)) ?_
 simp only [go_sem,simprocAttr,qyk hn1,qy0 hn1,ryk hn1,ry0 hn1,hn1,hn1,wants1]
 exact ⟨_,H1,_,n,rfl,rfl,kp1,(hE1 [] []).base hn1 hp⟩
theorem tyAt_gtI {ty:PM TyE} (sty:StayM T ty) {s:PS} (hi:s.i<T.length) (hg:tySt T s=true):s.i<(tyAt T ty s).2.i:=tyAt_gt hT hTl sty hi hg
theorem iPostC {d:Nat} (hd:d<=1099511627776) {ty:PM TyE} (hP:PFo T most e 115 [iV (d+1:Nat)] ty TyE.tv) (sP:StayM T ty):PFo T most e 173 [iV d] (tyPost T T.length ty) TyE.tv:=by
 have hA:=iTyAtC hT hTl hd hP sP
 have sA:=Pg.stay_tyAt hT sP
 refine pfo_of fun p K b n s hn hp hb hs hF=>?_
 have hpK:p<K.length:=by omega
 have hws:=ws hTl hs
 refine call173 (by simp) ?_
 simp only [go_sem,simprocAttr,qyk hn,qy0 hn,ryk hn,ry0 hn,hn,hn,mc173,mr173]
 refine acall_pure (iNow K _ p s hpK hs) ?_
 simp only [go_sem,simprocAttr,qyk hn,qy0 hn,ryk hn,ry0 hn,hn,hn,Tok.cells]
 unfold tyPost at hF ⊢
 rw [nowP_e] at hF ⊢
 generalize hte:tokA T s=t at *
 obtain ⟨tk,tt,tn,tp⟩:=t
 simp only at hF ⊢
 refine acall_pure (iTake hTl [114,101,102] K _ p s hpK hs) ?_
 unfold takeM
 cases c0:isT T [114,101,102] s
 rotate_left
 ·rw [iteG_t c0] at hF ⊢
  have hs1:=hs.adv hT (isT_k c0).2
  rcases hq:tyAt T ty (adv s) with ⟨⟨k1,n1,q1,l1⟩,s2⟩
  simp only [bindP_e,hq,retP_e] at hF ⊢
  simp only [go_sem,simprocAttr,qyk hn,qy0 hn,ryk hn,ry0 hn,hn,hn,c0]
  obtain ⟨H1,cs1,hn1,kp1,fr1,cl1,_,env1,call1⟩:=(hA p).use TyE.wf hq hn hp hb hs1 hF (by rw [ty_nC 5,List.map_cons,nK]; omega)
  have hE1:=fun A A'=>env1 [] [] A A' (Env.nil _ _ _)
  obtain ⟨v1,rfl⟩:=(hE1 [] []).tyC rfl
  refine ⟨_,hxd hn _ _ _,?_⟩
  simp only [go_sem,simprocAttr,qyk hn,qy0 hn,ryk hn,ry0 hn,hn,hn]
  refine pcall_chain _ _ (chl hn1 hn _ _ _) (hxd hn1 _ _ _) (chn call1 _ fun _=>trivial) ?_
  simp only [go_sem,simprocAttr,qyk hn1,qy0 hn1,ryk hn1,ry0 hn1,hn1,hn1,Nat.add_zero,Nat.add_assoc]
  exact ⟨_,H1,_,_,rfl,rfl,kp1,ty_node ((hE1 [] _).node1 (by rw [qyk hn1]; rfl) (by omega) (by omega) (TyE.tv_len _))⟩
 rw [iteG_f c0] at hF ⊢
 simp only [go_sem,simprocAttr,qyk hn,qy0 hn,ryk hn,ry0 hn,hn,hn,c0]
 refine acall_pure (iIsK 3 K _ p s hpK hs) ?_
 cases c1:isK T 3 s
 ·rw [iteG_f c1] at hF ⊢
  simp only [go_sem,simprocAttr,qyk hn,qy0 hn,ryk hn,ry0 hn,hn,hn,c1]
  rcases hq:tyAt T ty s with ⟨⟨k1,n1,q1,l1⟩,s2⟩
  rw [hq] at hF
  obtain ⟨H1,cs1,hn1,kp1,fr1,cl1,_,env1,call1⟩:=(hA p).use TyE.wf hq hn hp hb hs hF (Nat.le_refl _)
  refine acall_pure (call1 _ trivial) ?_
  have hE1:=fun A A'=>env1 [] [] A A' (Env.nil _ _ _)
  obtain ⟨v1,rfl⟩:=(hE1 [] []).tyC rfl
  simp only [go_sem,simprocAttr,qyk hn1,qy0 hn1,ryk hn1,ry0 hn1,hn1,hn1]
  exact ⟨_,H1,_,n,rfl,rfl,kp1,hE1 [] _⟩
 rw [iteG_t c1] at hF ⊢
 have hs1:=hs.adv hT (show (tokA T s).k≠8 by have:=(isK_k c1).2; rw [hte] at this ⊢; omega)
 simp only [go_sem,simprocAttr,qyk hn,qy0 hn,ryk hn,ry0 hn,hn,hn,c1,qpI hpK,qq hpK,hws,pvI_adv]
 rcases hR:many (tySt T) (tyAt T ty) T.length (adv s) with ⟨Rl,Rs⟩
 simp only [bindP_e,hR,retP_e] at hF ⊢
 have hNN:nR (Rl.map TyE.tv)<=nC (TyE.tv (.mk 1 tt tp Rl)):=by rw [ty_nC 1]; exact nK_le _
 generalize hNe:nC (TyE.tv (.mk 1 tt tp Rl))=NN at hF hNN
 refine ⟨LG TyE,[0,1,4,6],fun x st=>(LO (pvI T most) T e b n p K [0,2] 4 TyE.tv (tySt T) (tyAt T ty) Rl Rs x/\x.A[0]?=some (.var [iV 0,sV [],iV 0,.p .nl])/\x.A[2]?=some (.var [iV 1,sV tt,iV tp,x.a])/\(x.acc=[]->x.a=.p .nl)) /\
   st=⟨[(0,.ptr p 0),(1,iV d),(4,.ptr n 0),(6,.ptr (n+2) 0)],[],x.H.set p (pvI T most x.s)++x.A⟩,fun x=>T.length - x.s.i,
  ⟨⟨T.length,adv s,[],[],.p .nl,K,[.var [iV 0,sV [],iV 0,.p .nl],.var [iV tk,sV tt,iV tn,iV tp],.var [iV 1,sV tt,iV tp,.p .nl]]⟩,?_⟩,?_⟩
 ·refine ⟨⟨LO.start hs1 hR hn Kp.rfl hF hNN (by simp),rfl,rfl,fun _=>rfl⟩,?_⟩
  simp only [go_sem,simprocAttr,qyk hn,qy0 hn,ryk hn,ry0 hn,hn,hn]
 ·rintro x _ ⟨⟨hL,i0,i2,hNil⟩,rfl⟩
  have hpx:p<x.H.length:=by rw [hL.hn]; omega
  have hg0:tySt T x.s=(isK T 5 x.s || isK T 3 x.s || isT T [40] x.s):=rfl
  simp only [go_sem,simprocAttr,qyk hL.hn,qy0 hL.hn,ryk hL.hn,ry0 hL.hn,hL.hn,hL.hn]
  refine acall_pure (iIsK 5 x.H _ p x.s hpx hL.ok) ?_
  cases t0:isK T 5 x.s
  rotate_left
  ·have hg:tySt T x.s=true:=by rw [hg0]; simp [t0]
   have hgt:=tyAt_gtI hT hTl sP hL.ok.1 hg
   have hs3:=hL.ok.run sA
   rcases hq3:tyAt T ty x.s with ⟨⟨k3,n3,q3,l3⟩,s3⟩
   rw [hq3] at hs3 hgt
   simp only at hs3
   obtain ⟨M,frM,hM⟩:=hL.room only_tySt hg (y:=.mk k3 n3 q3 l3) (s2:=s3) hq3
   obtain ⟨H2,cs2,hn2,kp2,fr2,cl2,_,env2,call2⟩:=(hA p).use TyE.wf hq3 hL.hn hp hb hL.ok frM (by omega)
   have hE2:=fun A'=>env2 _ _ x.A A' hL.env
   obtain ⟨v2,rfl⟩:=(hE2 []).tyC hL.env.len
   simp only [go_sem,simprocAttr,qyk hL.hn,qy0 hL.hn,ryk hL.hn,ry0 hL.hn,hL.hn,hL.hn,t0]
   refine ⟨_,hxd hL.hn _ _ _,?_⟩
   simp only [go_sem,simprocAttr,qyk hL.hn,qy0 hL.hn,ryk hL.hn,ry0 hL.hn,hL.hn,hL.hn,i2]
   refine pcall_chain _ _ (chl hn2 hL.hn _ _ _) (hxd hn2 _ _ _) (chn call2 _ fun _=>trivial) ?_
   simp only [go_sem,simprocAttr,qyk hn2,qy0 hn2,ryk hn2,ry0 hn2,hn2,hn2,gx0,gxk,sx0,sxk,Nat.add_zero]
   refine ⟨by intro r hr; simp at hr; subst hr; rfl,?_⟩
   refine hL.app hn2 (fun k o h=>get_ext h _) hTl (by decide) ?_
   intro id ver A' m1 m2 m3
   have j0:=(m3 0 (by decide)).trans i0
   have j2:=(m3 2 (by decide)).trans i2
   simp only [go_sem,simprocAttr,qyk hn2,qy0 hn2,ryk hn2,ry0 hn2,hn2,hn2,j2]
   exact ⟨⟨x.j - 1,s3,x.acc++[.mk k3 n3 q3 l3],x.rs++[[iV k3,sV n3,iV q3,v2]],.gs id ver 0 (x.rs.length+1),H2,A'.set 2 (.var [iV 1,sV tt,iV tp,.gs id ver 0 (x.rs.length+1)])⟩,⟨⟨hL.next only_tySt hg hq3 hs3 hgt hn2 kp2 fr2 (by omega) (hE2 _) rfl m1 m2 (set_keep (by decide)) (by intro k hk; rw [List.length_set]; simp at hk; rcases hk with rfl | rfl; exact get_lt j0; exact get_lt j2),get_set j0 (by decide),set_get j2,fun h=>by simp at h⟩,rfl⟩,by have h1:x.s.i<s3.i:=hgt; have:=hL.ok.1; simp only; omega⟩
  simp only [go_sem,simprocAttr,qyk hL.hn,qy0 hL.hn,ryk hL.hn,ry0 hL.hn,hL.hn,hL.hn,t0]
  refine acall_pure (iIsK 3 x.H _ p x.s hpx hL.ok) ?_
  cases t1:isK T 3 x.s
  rotate_left
  ·have hg:tySt T x.s=true:=by rw [hg0]; simp [t1]
   have hgt:=tyAt_gtI hT hTl sP hL.ok.1 hg
   have hs3:=hL.ok.run sA
   rcases hq3:tyAt T ty x.s with ⟨⟨k3,n3,q3,l3⟩,s3⟩
   rw [hq3] at hs3 hgt
   simp only at hs3
   obtain ⟨M,frM,hM⟩:=hL.room only_tySt hg (y:=.mk k3 n3 q3 l3) (s2:=s3) hq3
   obtain ⟨H2,cs2,hn2,kp2,fr2,cl2,_,env2,call2⟩:=(hA p).use TyE.wf hq3 hL.hn hp hb hL.ok frM (by omega)
   have hE2:=fun A'=>env2 _ _ x.A A' hL.env
   obtain ⟨v2,rfl⟩:=(hE2 []).tyC hL.env.len
   simp only [go_sem,simprocAttr,qyk hL.hn,qy0 hL.hn,ryk hL.hn,ry0 hL.hn,hL.hn,hL.hn,t1]
   refine ⟨_,hxd hL.hn _ _ _,?_⟩
   simp only [go_sem,simprocAttr,qyk hL.hn,qy0 hL.hn,ryk hL.hn,ry0 hL.hn,hL.hn,hL.hn,i2]
   refine pcall_chain _ _ (chl hn2 hL.hn _ _ _) (hxd hn2 _ _ _) (chn call2 _ fun _=>trivial) ?_
   simp only [go_sem,simprocAttr,qyk hn2,qy0 hn2,ryk hn2,ry0 hn2,hn2,hn2,gx0,gxk,sx0,sxk,Nat.add_zero]
   refine ⟨by intro r hr; simp at hr; subst hr; rfl,?_⟩
   refine hL.app hn2 (fun k o h=>get_ext h _) hTl (by decide) ?_
   intro id ver A' m1 m2 m3
   have j0:=(m3 0 (by decide)).trans i0
   have j2:=(m3 2 (by decide)).trans i2
   simp only [go_sem,simprocAttr,qyk hn2,qy0 hn2,ryk hn2,ry0 hn2,hn2,hn2,j2]
   exact ⟨⟨x.j - 1,s3,x.acc++[.mk k3 n3 q3 l3],x.rs++[[iV k3,sV n3,iV q3,v2]],.gs id ver 0 (x.rs.length+1),H2,A'.set 2 (.var [iV 1,sV tt,iV tp,.gs id ver 0 (x.rs.length+1)])⟩,⟨⟨hL.next only_tySt hg hq3 hs3 hgt hn2 kp2 fr2 (by omega) (hE2 _) rfl m1 m2 (set_keep (by decide)) (by intro k hk; rw [List.length_set]; simp at hk; rcases hk with rfl | rfl; exact get_lt j0; exact get_lt j2),get_set j0 (by decide),set_get j2,fun h=>by simp at h⟩,rfl⟩,by have h1:x.s.i<s3.i:=hgt; have:=hL.ok.1; simp only; omega⟩
  simp only [go_sem,simprocAttr,qyk hL.hn,qy0 hL.hn,ryk hL.hn,ry0 hL.hn,hL.hn,hL.hn,t1]
  refine acall_pure (iIs [40] x.H _ p x.s hpx hL.ok) ?_
  cases t2:isT T [40] x.s
  rotate_left
  ·have hg:tySt T x.s=true:=by rw [hg0]; simp [t2]
   have hgt:=tyAt_gtI hT hTl sP hL.ok.1 hg
   have hs3:=hL.ok.run sA
   rcases hq3:tyAt T ty x.s with ⟨⟨k3,n3,q3,l3⟩,s3⟩
   rw [hq3] at hs3 hgt
   simp only at hs3
   obtain ⟨M,frM,hM⟩:=hL.room only_tySt hg (y:=.mk k3 n3 q3 l3) (s2:=s3) hq3
   obtain ⟨H2,cs2,hn2,kp2,fr2,cl2,_,env2,call2⟩:=(hA p).use TyE.wf hq3 hL.hn hp hb hL.ok frM (by omega)
   have hE2:=fun A'=>env2 _ _ x.A A' hL.env
   obtain ⟨v2,rfl⟩:=(hE2 []).tyC hL.env.len
   simp only [go_sem,simprocAttr,qyk hL.hn,qy0 hL.hn,ryk hL.hn,ry0 hL.hn,hL.hn,hL.hn,t2]
   refine ⟨_,hxd hL.hn _ _ _,?_⟩
   simp only [go_sem,simprocAttr,qyk hL.hn,qy0 hL.hn,ryk hL.hn,ry0 hL.hn,hL.hn,hL.hn,i2]
   refine pcall_chain _ _ (chl hn2 hL.hn _ _ _) (hxd hn2 _ _ _) (chn call2 _ fun _=>trivial) ?_
   simp only [go_sem,simprocAttr,qyk hn2,qy0 hn2,ryk hn2,ry0 hn2,hn2,hn2,gx0,gxk,sx0,sxk,Nat.add_zero]
   refine ⟨by intro r hr; simp at hr; subst hr; rfl,?_⟩
   refine hL.app hn2 (fun k o h=>get_ext h _) hTl (by decide) ?_
   intro id ver A' m1 m2 m3
   have j0:=(m3 0 (by decide)).trans i0
   have j2:=(m3 2 (by decide)).trans i2
   simp only [go_sem,simprocAttr,qyk hn2,qy0 hn2,ryk hn2,ry0 hn2,hn2,hn2,j2]
   exact ⟨⟨x.j - 1,s3,x.acc++[.mk k3 n3 q3 l3],x.rs++[[iV k3,sV n3,iV q3,v2]],.gs id ver 0 (x.rs.length+1),H2,A'.set 2 (.var [iV 1,sV tt,iV tp,.gs id ver 0 (x.rs.length+1)])⟩,⟨⟨hL.next only_tySt hg hq3 hs3 hgt hn2 kp2 fr2 (by omega) (hE2 _) rfl m1 m2 (set_keep (by decide)) (by intro k hk; rw [List.length_set]; simp at hk; rcases hk with rfl | rfl; exact get_lt j0; exact get_lt j2),get_set j0 (by decide),set_get j2,fun h=>by simp at h⟩,rfl⟩,by have h1:x.s.i<s3.i:=hgt; have:=hL.ok.1; simp only; omega⟩
  have hg:tySt T x.s=false:=by rw [hg0]; simp [t0,t1,t2]
  obtain ⟨ha,hx⟩:=hL.stop hg
  subst hx
  have hz:∀ o,(x.A.set 0 o)[0]?=some o:=fun o=>set_get i0
  simp only [go_sem,simprocAttr,qyk hL.hn,qy0 hL.hn,ryk hL.hn,ry0 hL.hn,hL.hn,hL.hn,t2,i2,i0,hz]
  by_cases hR0:Rl=[]
  ·subst hR0
   have hxa:x.a=.p .nl:=hNil ha
   rw [hxa]
   exact ⟨_,x.H,_,0,rfl,rfl,hL.kp,ty_leaf _ _ _ _ _ _⟩
  ·obtain ⟨u,hE⟩:=hL.fin hp hb (by rw [ha]; exact hR0) TyE.tv_len (c:=pvI T most x.s) (set_keep (i:=0) (by decide) (o:=.var [iV 1,sV tt,iV tp,x.a]))
   rw [ha] at hE
   exact ⟨_,x.H,_,u,rfl,rfl,hL.kp,ty_node hE⟩
end
theorem ty_node2 {b u n q:Nat} {X:List AO} {x y:TyE} {c1 c2:List AV} {ver:Nat} (h:Env b u X (x.tv++y.tv) (c1++c2)) (l1:c1.length=4) (l2:c2.length=4) (hi:X[n+q]?=some (.rows 4 ver [c1,c2])) (hu:u<=n+q) (hb:b<=n):Env b (n+q+1) X [.s 4 ([x,y].map TyE.tv)] [.gs (n+q) ver 0 2] :=
 Env.node (rows:=[x.tv,y.tv]) (rs:=[c1,c2]) (by simpa using h) hi (by omega) (by omega) rfl (by intro r hr; simp at hr; rcases hr with rfl | rfl <;> exact TyE.tv_len _) (by intro r hr; simp at hr; rcases hr with rfl | rfl <;> assumption) (by simp)
theorem LO.finU {α:Type} {pv:PS->AO} {T:List Tok} {e b n p sz:Nat} {K:List AO} {N:List Nat} {tv:α->List TV} {g:PS->Bool} {m:PM α} {Rl:List α} {Rs:PS} {x:LG α} (h:LO pv T e b n p K N sz tv g m Rl Rs x) (hp:p<b) (hb:b<=n) (h0:x.acc≠[]) (htv:∀ a,(tv a).length=sz) {c:AO} {B:List AO} (hk:∀ (k:Nat) (o:AO),k ∉ N->x.A[k]?=some o->B[k]?=some o):Env b (n+x.A.length) (x.H.set p c++B) [.s sz (x.acc.map tv)] [x.a]:=by
 rcases h.own with ⟨h1,h2⟩ | ⟨id,ver,e1,h1⟩
 ·have:=h.len; rw [h2] at this; exact (h0 (List.length_eq_zero_iff.1 this.symm)).elim
 ·obtain ⟨q1,q2⟩:=h.ids _ _ _ _ e1
  obtain ⟨q,rfl⟩:=Nat.le.dest q1
  rw [Nat.add_sub_cancel_left] at q2
  rw [qyk h.hn] at h1
  have hq:=get_lt h1
  rw [e1]
  exact ((h.env.base h.hn hp).node (by rw [qyk h.hn]; exact hk _ _ q2 h1) (by omega) (by omega) (by rw [h.len]; simp) (by intro r hr; obtain ⟨a,_,rfl⟩:=List.mem_map.1 hr; exact htv a) h.sz1 (by simpa using h0)).up (by omega)
theorem tup4_nC (a:TyE) (l:List TyE):nC a.tv+nR (l.map TyE.tv)<=nC (tup4 a l).tv:=by
 unfold tup4
 split
 ·rename_i h; subst h; simp [nR]
 ·rw [ty_nC,List.map_cons,nK]; omega
section
variable {T:List Tok} {most e:Nat} (hT:ToksOk T) (hTl:T.length<=1073741825)
include hT hTl
theorem iTyC {d:Nat} (hd:d<=1099511627776) {ty:PM TyE} (hP:d<=most->PFo T most e 115 [iV (d+1:Nat)] ty TyE.tv) (sP:StayM T ty):PFo T most e 115 [iV d] (iTyB T T.length most ty d) TyE.tv:=by
 refine pfo_of fun p K b n s hn hp hb hs hF=>?_
 have hpK:p<K.length:=by omega
 have hd1:wr .i64 ((d:Int)+1)=((d+1:Nat):Int):=wrN _ (by omega)
 refine call115 (by simp) ?_
 simp only [go_sem,simprocAttr,qyk hn,qy0 hn,ryk hn,ry0 hn,hn,hn,mc115,mr115]
 refine acall_pure (iDeeper d K _ p s hpK hs) ?_
 have hs1:=deep_ok (most:=most) (d:=d) hT hTl hs
 unfold iTyB deepP at hF ⊢
 cases hc:decide ((deeperP T most d s).c=0)
 ·rw [if_neg (of_decide_eq_false hc)]
  simp only [go_sem,simprocAttr,qyk hn,qy0 hn,ryk hn,ry0 hn,hn,hn,hc,Bool.not_false,Bool.not_true]
  exact ⟨_,K,_,0,rfl,rfl,Kp.rfl,ty_leaf _ _ _ _ _ _⟩
 have hc0:=of_decide_eq_true hc
 have hP:=hP (deep_le hT hTl hc0)
 have hA:=iPostC hT hTl hd hP sP
 have sA:=Pg.stay_tyPost (N:=T.length) hT sP
 rw [if_pos hc0] at hF ⊢
 simp only [go_sem,simprocAttr,qyk hn,qy0 hn,ryk hn,ry0 hn,hn,hn,hc,Bool.not_false,Bool.not_true]
 generalize deeperP T most d s=s1 at *
 rcases hq:tyPost T T.length ty s1 with ⟨⟨k1,n1,q1,l1⟩,s2⟩
 have hs2:=hs1.run sA
 rw [hq] at hs2
 simp only at hs2
 rcases hR:many (isT T [42]) (advP (tyPost T T.length ty)) T.length s2 with ⟨Rl,Rs⟩
 simp only [bindP_e,hq,hR] at hF ⊢
 have hle:nC (tup4 (.mk k1 n1 q1 l1) Rl).tv<=nC (iteG (isT T [45,62]) (fun s=>retP (.mk 3 [] (tup4 (.mk k1 n1 q1 l1) Rl).pos [tup4 (.mk k1 n1 q1 l1) Rl,(ty s).1]) (ty s).2) (retP (tup4 (.mk k1 n1 q1 l1) Rl)) Rs).1.tv:=by
  unfold iteG
  split
  ·show _<=nC (TyE.tv (.mk 3 _ _ _))
   rw [ty_nC,List.map_cons,nK]; omega
  ·exact Nat.le_refl _
 have hNN:=tup4_nC (.mk k1 n1 q1 l1) Rl
 have hFe:(iteG (isT T [45,62]) (bindP ty fun b=>retP (.mk 3 [] (tup4 (.mk k1 n1 q1 l1) Rl).pos [tup4 (.mk k1 n1 q1 l1) Rl,b])) (retP (tup4 (.mk k1 n1 q1 l1) Rl)) Rs)=(iteG (isT T [45,62]) (fun s=>retP (.mk 3 [] (tup4 (.mk k1 n1 q1 l1) Rl).pos [tup4 (.mk k1 n1 q1 l1) Rl,(ty s).1]) (ty s).2) (retP (tup4 (.mk k1 n1 q1 l1) Rl)) Rs):=rfl
 rw [hFe] at hF ⊢
 generalize hFF:iteG (isT T [45,62]) (fun s=>retP (.mk 3 [] (tup4 (.mk k1 n1 q1 l1) Rl).pos [tup4 (.mk k1 n1 q1 l1) Rl,(ty s).1]) (ty s).2) (retP (tup4 (.mk k1 n1 q1 l1) Rl)) Rs=FF at hF hle ⊢
 obtain ⟨H1,cs1,hn1,kp1,fr1,cl1,_,env1,call1⟩:=(hA p).use TyE.wf hq hn hp hb hs1 hF (by omega)
 refine acall_pure (call1 _ trivial) ?_
 have hE1:=fun A A'=>env1 [] [] A A' (Env.nil _ _ _)
 obtain ⟨c1,rfl⟩:=(hE1 [] []).tyC rfl
 simp only [go_sem,simprocAttr,qyk hn1,qy0 hn1,ryk hn1,ry0 hn1,hn1,hn1,Nat.add_zero]
 have hT4:tup4 (.mk k1 n1 q1 l1) Rl=(if Rl=[] then .mk k1 n1 q1 l1 else .mk 4 [] q1 (.mk k1 n1 q1 l1 :: Rl)):=rfl
 refine ⟨LG TyE × Nat,[0,1,4,5],fun x st=>(LO (pvI T most) T e b n p K [0] 4 TyE.tv (isT T [42]) (advP (tyPost T T.length ty)) (.mk k1 n1 q1 l1 :: Rl) Rs x.1/\x.1.A[0]?=some (.var [iV 0,sV [],iV 0,.p .nl])/\Fr b x.1.H x.2/\nR ((many (isT T [42]) (advP (tyPost T T.length ty)) x.1.j x.1.s).1.map TyE.tv)+(nC FF.1.tv - nC (tup4 (.mk k1 n1 q1 l1) Rl).tv)<=x.2) /\
   st=⟨[(0,.ptr p 0),(1,iV d),(4,.ptr n 0),(5,x.1.a)],[],x.1.H.set p (pvI T most x.1.s)++x.1.A⟩,fun x=>T.length - x.1.s.i,
  ⟨(⟨T.length,s2,[.mk k1 n1 q1 l1],[[iV k1,sV n1,iV q1,c1]],.gs (n+1) 0 0 1,H1,[.var [iV 0,sV [],iV 0,.p .nl],.rows 4 0 [[iV k1,sV n1,iV q1,c1]]]⟩,nC FF.1.tv - nC (TyE.tv (.mk k1 n1 q1 l1))),?_⟩,?_⟩
 ·refine ⟨⟨LO.start1 hs2 hR hn1 kp1 fr1 (by omega) (hE1 [] _) rfl rfl (by decide) (by simp),rfl,fr1,by simp only [hR]; omega⟩,?_⟩
  simp only [go_sem,simprocAttr,qyk hn1,qy0 hn1,ryk hn1,ry0 hn1,hn1,hn1]
 ·rintro ⟨x,M⟩ _ ⟨⟨hL,i0,frM,hM⟩,rfl⟩
  simp only at hL i0 frM hM ⊢
  have hpx:p<x.H.length:=by rw [hL.hn]; omega
  simp only [go_sem,simprocAttr,qyk hL.hn,qy0 hL.hn,ryk hL.hn,ry0 hL.hn,hL.hn,hL.hn]
  refine acall_pure (iTake hTl [42] x.H _ p x.s hpx hL.ok) ?_
  unfold takeM
  cases hg:isT T [42] x.s
  ·obtain ⟨ha,hx⟩:=hL.stop hg
   subst hx
   rw [many_c hg] at hM
   simp only [List.map_nil,nR,Nat.zero_add] at hM
   obtain ⟨r0,rr,q,ver,ids0,r1,r2,r3,r4,r5,r6⟩:=hL.head TyE.tv_len ha
   obtain ⟨v0,rfl⟩:=own_tyC r6
   have r5':∀ B,(x.A++B)[q]?=some (.rows 4 ver ([iV k1,sV n1,iV q1,v0] :: rr)):=fun B=>get_ext r5 B
   have i0':∀ B,(x.A++B)[0]?=some (.var [iV 0,sV [],iV 0,.p .nl]):=fun B=>get_ext i0 B
   have hz:∀ B o,((x.A++B).set 0 o)[0]?=some o:=fun B o=>set_get (i0' B)
   have h0A:=get_lt i0
   have d0:decide ((0:Int)<((rr.length+1:Nat):Int))=true:=by simp <;> omega
   simp only [go_sem,simprocAttr,qyk hL.hn,qy0 hL.hn,ryk hL.hn,ry0 hL.hn,hL.hn,hL.hn,hg]
   rw [r3]
   simp only [go_sem,simprocAttr,qyk hL.hn,qy0 hL.hn,ryk hL.hn,ry0 hL.hn,hL.hn,hL.hn,r5,r5',gx0,gxk,sx0,sxk,Nat.add_zero,d0]
   refine ⟨by omega,fun _=>?_⟩
   by_cases hR0:Rl=[]
   ·have hrr:rr=[]:=List.length_eq_zero_iff.1 (by rw [r2,hR0]; rfl)
    have d1:decide ((1:Int)<((rr.length+1:Nat):Int))=false:=by rw [hrr]; rfl
    have hEL:∀ c B,Env b (n+x.A.length) (x.H.set p c++(x.A++B)) (tup4 (.mk k1 n1 q1 l1) Rl).tv [iV k1,sV n1,iV q1,v0]:=fun c B=>by
     have hE:=hL.env
     rw [ha,r1,hrr,hR0] at hE
     rw [hT4,if_pos hR0]
     exact (Env.base (by simpa using hE) hL.hn hp).up (by omega)
    have hpos:(tup4 (.mk k1 n1 q1 l1) Rl).pos=q1:=by rw [hT4,if_pos hR0]; rfl
    simp only [go_sem,simprocAttr,qyk hL.hn,qy0 hL.hn,ryk hL.hn,ry0 hL.hn,hL.hn,hL.hn,d1]
    refine acall_pure (iTake hTl [45,62] x.H _ p x.s hpx hL.ok) ?_
    unfold takeM
    cases hg2:isT T [45,62] x.s
    ·have hFv:FF=(tup4 (.mk k1 n1 q1 l1) Rl,x.s):=by rw [<- hFF,iteG_f hg2]; rfl
     rw [hFv]
     simp only [go_sem,simprocAttr,qyk hL.hn,qy0 hL.hn,ryk hL.hn,ry0 hL.hn,hL.hn,hL.hn,hg2,gx0,gxk,sx0,sxk,i0',hz,Bool.not_true,Bool.not_false]
     exact ⟨_,x.H,_,_,rfl,rfl,hL.kp,(hEL (pvI T most x.s) _).q hL.hn hp fun i sz ver rs hi=>get_set hi (by rintro rfl; rw [i0'] at hi; cases hi)⟩
    ·have hsa:=hL.ok.adv hT (isT_k hg2).2
     rcases hq5:ty (adv x.s) with ⟨⟨k5,n5,q5,l5⟩,s5⟩
     have hFv:FF=(.mk 3 [] (tup4 (.mk k1 n1 q1 l1) Rl).pos [tup4 (.mk k1 n1 q1 l1) Rl,.mk k5 n5 q5 l5],s5):=by rw [<- hFF,iteG_t hg2]; simp only [hq5]; rfl
     rw [hFv] at hM ⊢
     rw [hpos] at hM ⊢
     simp only [ty_nC 3,List.map_cons,List.map_nil,nK,nR] at hM
     obtain ⟨H5,cs5,hn5,kp5,fr5,cl5,env5,_,call5⟩:=(hP p).use TyE.wf hq5 hL.hn hp hb hsa frM (by omega)
     have hE5:=fun B=>env5 (n+x.A.length) _ _ (x.A++B) (by omega) (hEL (pvI T most (adv x.s)) B)
     obtain ⟨c5,rfl⟩:=(hE5 []).tyC (by rw [TyE.tv_len]; rfl)
     simp only [go_sem,simprocAttr,qyk hL.hn,qy0 hL.hn,ryk hL.hn,ry0 hL.hn,hL.hn,hL.hn,hg2,hd1,Bool.not_true,Bool.not_false]
     refine ⟨_,hxd hL.hn _ _ _,?_⟩
     simp only [go_sem,simprocAttr,qyk hL.hn,qy0 hL.hn,ryk hL.hn,ry0 hL.hn,hL.hn,hL.hn,gx0,gxk,sx0,sxk,hd1]
     refine pcall_chain _ _ (chl hn5 hL.hn _ _ _) (hxd hn5 _ _ _) (chn call5 _ fun _=>trivial) ?_
     simp only [go_sem,simprocAttr,qyk hn5,qy0 hn5,ryk hn5,ry0 hn5,hn5,hn5,gx0,gxk,sx0,sxk,i0',hz,Nat.add_zero]
     refine ⟨_,H5,_,_,rfl,rfl,hL.kp.trans kp5,ty_node (ty_node2 (n:=n) (q:=x.A.length+1) (c1:=[iV k1,sV n1,iV q1,v0]) (c2:=[iV k5,sV n5,iV q5,c5]) (u:=n+x.A.length) ((hE5 [.var [iV k1,sV n1,iV q1,v0],.rows 4 0 [[iV k1,sV n1,iV q1,v0],[iV k5,sV n5,iV q5,c5]]]).q hn5 hp fun i sz ver rs hi=>get_set hi (by rintro rfl; rw [i0'] at hi; cases hi)) rfl rfl ?_ (by omega) hb)⟩
     rw [qyk hn5,List.getElem?_set_ne (by omega),gxk]; rfl
   ·have d1:decide ((1:Int)<((rr.length+1:Nat):Int))=true:=by
     have:Rl.length≠0:=fun h=>hR0 (List.length_eq_zero_iff.1 h)
     simp; omega
    have hEL:∀ c B,Env b (n+x.A.length) (x.H.set p c++(x.A++B)) (tup4 (.mk k1 n1 q1 l1) Rl).tv [iV 4,sV [],iV q1,.gs (n+q) ver 0 (rr.length+1)]:=fun c B=>by
     have hE:=hL.finU hp hb (by rw [ha]; simp) TyE.tv_len (c:=c) (B:=x.A++B) (fun k o _ ho=>get_ext ho B)
     rw [ha,r3] at hE
     rw [hT4,if_neg hR0]
     exact ty_node hE
    have hpos:(tup4 (.mk k1 n1 q1 l1) Rl).pos=q1:=by rw [hT4,if_neg hR0]; rfl
    simp only [go_sem,simprocAttr,qyk hL.hn,qy0 hL.hn,ryk hL.hn,ry0 hL.hn,hL.hn,hL.hn,d1,r5,r5',gx0,gxk,sx0,sxk,Nat.add_zero,d0]
    refine ⟨by omega,?_⟩
    refine acall_pure (iTake hTl [45,62] x.H _ p x.s hpx hL.ok) ?_
    unfold takeM
    cases hg2:isT T [45,62] x.s
    ·have hFv:FF=(tup4 (.mk k1 n1 q1 l1) Rl,x.s):=by rw [<- hFF,iteG_f hg2]; rfl
     rw [hFv]
     simp only [go_sem,simprocAttr,qyk hL.hn,qy0 hL.hn,ryk hL.hn,ry0 hL.hn,hL.hn,hL.hn,hg2,gx0,gxk,sx0,sxk,i0',hz,Bool.not_true,Bool.not_false]
     exact ⟨_,x.H,_,_,rfl,rfl,hL.kp,(hEL (pvI T most x.s) _).q hL.hn hp fun i sz ver rs hi=>get_set hi (by rintro rfl; rw [i0'] at hi; cases hi)⟩
    ·have hsa:=hL.ok.adv hT (isT_k hg2).2
     rcases hq5:ty (adv x.s) with ⟨⟨k5,n5,q5,l5⟩,s5⟩
     have hFv:FF=(.mk 3 [] (tup4 (.mk k1 n1 q1 l1) Rl).pos [tup4 (.mk k1 n1 q1 l1) Rl,.mk k5 n5 q5 l5],s5):=by rw [<- hFF,iteG_t hg2]; simp only [hq5]; rfl
     rw [hFv] at hM ⊢
     rw [hpos] at hM ⊢
     simp only [ty_nC 3,List.map_cons,List.map_nil,nK,nR] at hM
     obtain ⟨H5,cs5,hn5,kp5,fr5,cl5,env5,_,call5⟩:=(hP p).use TyE.wf hq5 hL.hn hp hb hsa frM (by omega)
     have hE5:=fun B=>env5 (n+x.A.length) _ _ (x.A++B) (by omega) (hEL (pvI T most (adv x.s)) B)
     obtain ⟨c5,rfl⟩:=(hE5 []).tyC (by rw [TyE.tv_len]; rfl)
     simp only [go_sem,simprocAttr,qyk hL.hn,qy0 hL.hn,ryk hL.hn,ry0 hL.hn,hL.hn,hL.hn,hg2,hd1,Bool.not_true,Bool.not_false]
     refine ⟨_,hxd hL.hn _ _ _,?_⟩
     simp only [go_sem,simprocAttr,qyk hL.hn,qy0 hL.hn,ryk hL.hn,ry0 hL.hn,hL.hn,hL.hn,gx0,gxk,sx0,sxk,hd1]
     refine pcall_chain _ _ (chl hn5 hL.hn _ _ _) (hxd hn5 _ _ _) (chn call5 _ fun _=>trivial) ?_
     simp only [go_sem,simprocAttr,qyk hn5,qy0 hn5,ryk hn5,ry0 hn5,hn5,hn5,gx0,gxk,sx0,sxk,i0',hz,Nat.add_zero]
     refine ⟨_,H5,_,_,rfl,rfl,hL.kp.trans kp5,ty_node (ty_node2 (n:=n) (q:=x.A.length+1) (c1:=[iV 4,sV [],iV q1,.gs (n+q) ver 0 (rr.length+1)]) (c2:=[iV k5,sV n5,iV q5,c5]) (u:=n+x.A.length) ((hE5 [.var [iV 4,sV [],iV q1,.gs (n+q) ver 0 (rr.length+1)],.rows 4 0 [[iV 4,sV [],iV q1,.gs (n+q) ver 0 (rr.length+1)],[iV k5,sV n5,iV q5,c5]]]).q hn5 hp fun i sz ver rs hi=>get_set hi (by rintro rfl; rw [i0'] at hi; cases hi)) rfl rfl ?_ (by omega) hb)⟩
     rw [qyk hn5,List.getElem?_set_ne (by omega),gxk]; rfl
  ·obtain ⟨j,hj⟩:=hL.succ (only_isT T _) hg
   have hsa:=hL.ok.adv hT (isT_k hg).2
   have hs3:=hsa.run sA
   have hgt:=(Stay.adv hT sA hL.ok.1 (isT_k hg).2).1
   rcases hq3:tyPost T T.length ty (adv x.s) with ⟨⟨k3,n3,q3,l3⟩,s3⟩
   rw [hq3] at hs3 hgt
   simp only at hs3
   have hmm:advP (tyPost T T.length ty) x.s=(.mk k3 n3 q3 l3,s3):=hq3
   rw [hj,many,if_pos hg,hmm] at hM
   simp only [List.map_cons,nR] at hM
   obtain ⟨H2,cs2,hn2,kp2,fr2,cl2,_,env2,call2⟩:=(hA p).use TyE.wf hq3 hL.hn hp hb hsa frM (by omega)
   have hE2:=fun A'=>env2 _ _ x.A A' (hL.env.base hL.hn hp)
   obtain ⟨c2,rfl⟩:=(hE2 []).tyC (hL.env.len)
   simp only [go_sem,simprocAttr,qyk hL.hn,qy0 hL.hn,ryk hL.hn,ry0 hL.hn,hL.hn,hL.hn,hg]
   refine acall_pure (call2 _ trivial) ?_
   simp only [go_sem,simprocAttr,qyk hn2,qy0 hn2,ryk hn2,ry0 hn2,hn2,hn2,qya hn2,qya0 hn2,Nat.add_zero]
   refine ⟨by intro r hr; simp at hr; subst hr; rfl,?_⟩
   refine hL.app hn2 (fun k o h=>get_ext h _) hTl (by decide) ?_
   intro id ver A' m1 m2 m3
   have j0:=(m3 0 (by decide)).trans i0
   simp only [go_sem,simprocAttr,qyk hn2,qy0 hn2,ryk hn2,ry0 hn2,hn2,hn2]
   have hj1:x.j - 1=j:=by omega
   exact ⟨(⟨x.j - 1,s3,x.acc++[.mk k3 n3 q3 l3],x.rs++[[iV k3,sV n3,iV q3,c2]],.gs id ver 0 (x.rs.length+1),H2,A'⟩,_),⟨⟨hL.next (only_isT T _) hg hq3 hs3 hgt hn2 kp2 fr2 (by rw [hj1]; omega) (hE2 A') rfl m1 m2 (fun k o _ h=>h) (by intro k hk; simp at hk; subst hk; exact get_lt j0),j0,fr2,by simp only [hj1]; omega⟩,rfl⟩,by have h1:x.s.i<s3.i:=hgt; have:=hL.ok.1; simp only; omega⟩
theorem iTyK:∀ k d,d+k=most+2->most<=1099511627774->0<k->PFo T most e 115 [iV d] (iTy T T.length most k d) TyE.tv
 | 0,d,_,_,h=>absurd h (by omega)
 | k+1,d,h,hm,_=>iTyC hT hTl (by omega) (fun hle=>iTyK k (d+1) (by omega) hm (by omega)) (stay_iTy hT most k (d+1))
end
end Go.Proofs.YtghcmccjchdgeaaGreatDoor.Qp
namespace Go.Proofs.YtghcmccjchdgeaaGreatDoor.Pg
open Go.AM
def CtorD.tv (c:CtorD):List TV:=[.p (.s c.name),.p (.b c.has)]++c.arg.tv++[.p (.i .i64 c.pos)]
def namesTV (l:List (List UInt8)):List (List TV):=l.map fun s=>[.p (.s s)]
def DataD.tv (d:DataD):List TV:=[.p (.s d.name),.s 1 (namesTV d.vars),.s 7 (d.ctors.map CtorD.tv),.p (.i .i64 d.pos)]
def ProgD.tv (p:ProgD):List TV:=.s 4 (p.types.map DataD.tv) :: p.body.tv
theorem CtorD.tv_len (t:CtorD):t.tv.length=7:=by simp [CtorD.tv,TyE.tv_len]
theorem DataD.tv_len (t:DataD):t.tv.length=4:=rfl
theorem ProgD.tv_len (t:ProgD):t.tv.length=8:=by simp [ProgD.tv,ExpD.tv_len]
theorem CtorD.wf (t:CtorD):WfC t.tv:=by
 unfold CtorD.tv
 exact wfC_app (wfC_app (wf_p (wf_p wf_n)) t.arg.wf) (wf_p wf_n)
theorem wfR_map {α:Type} {sz:Nat} {f:α->List TV} (h1:∀ a,(f a).length=sz) (h2:∀ a,WfC (f a)):∀ l:List α,WfR sz (l.map f)
 | []=>by rw [List.map_nil,WfR]; trivial
 | a :: l=>by rw [List.map_cons,WfR]; exact ⟨h1 a,h2 a,wfR_map h1 h2 l⟩
theorem DataD.wf (t:DataD):WfC t.tv:=by
 unfold DataD.tv
 exact wf_p (wf_s (wfR_map (f:=fun s:List UInt8=>[TV.p (.s s)]) (fun _=>rfl) (fun _=>wf_p wf_n) t.vars) (wf_s (wfR_map CtorD.tv_len CtorD.wf t.ctors) (wf_p wf_n)))
theorem ProgD.wf (t:ProgD):WfC t.tv:=by
 unfold ProgD.tv
 exact wf_s (wfR_map DataD.tv_len DataD.wf t.types) t.body.wf
end Go.Proofs.YtghcmccjchdgeaaGreatDoor.Pg
namespace Go.Proofs.YtghcmccjchdgeaaGreatDoor.Qp
open Go.AM Mc Pg
theorem Env.snocP {b u:Nat} {X:List AO} {ts:List TV} {cs:List AV} (h:Env b u X ts cs) (x:PV):Env b u X (ts++[.p x]) (cs++[.p x]):=by
 obtain ⟨ids,k1,k2,k3,k4⟩:=h
 refine ⟨ids,?_,k2,by rw [k3,nC_app,nC,nC,nT]; rfl,k4⟩
 have:=ownC_app k1 (OwnCs.one (Own.pv X x))
 rwa [List.append_nil] at this
theorem Env.nlF {b u sz:Nat} {X:List AO} {ts:List TV} {cs:List AV} (h:Env b u X ts cs):Env b u X (.s sz [] :: ts) (.p .nl :: cs):=by
 obtain ⟨ids,k1,k2,k3,k4⟩:=h
 exact ⟨ids,OwnCs.cons (Own.nl X sz) k1,k2,by rw [k3,nC,nT,nK,Nat.zero_add],k4⟩
theorem Env.nodeF {b u id sz ver:Nat} {X:List AO} {rows:List (List TV)} {rs:List (List AV)} {ts:List TV} {cs:List AV} (h:Env b u X (rows.flatten++ts) (rs.flatten++cs)) (hi:X[id]?=some (.rows sz ver rs)) (hu:u<=id) (hb:b<=id) (hl:rs.length=rows.length) (h1:∀ r∈rows,r.length=sz) (h2:∀ r∈rs,r.length=sz) (h0:rows≠[]) :
  Env b (id+1) X (.s sz rows :: ts) (.gs id ver 0 rs.length :: cs):=by
 obtain ⟨ids,k1,k2,k3,k4⟩:=h
 obtain ⟨c1,c2,i,j,e,rfl,h3,h4⟩:=ownC_split k1
 obtain ⟨rfl,rfl⟩:=List.append_inj e (by rw [h3.len]; exact flat_len hl h1 h2)
 refine ⟨(id :: i)++j,OwnCs.cons ?_ h4,?_,?_,?_⟩
 ·rw [Own]; exact .inr ⟨id,ver,rs,i,rfl,rfl,hi,rows_flat h3 hl h1 h2⟩
 ·rw [List.cons_append]; exact List.nodup_cons.2 ⟨fun hm=>by have:=(k4 id hm).2; omega,k2⟩
 ·rw [nC_app,nR_flat] at k3
  simp only [List.length_append,List.length_cons] at k3 ⊢
  rw [nC,nT]
  cases rows with
  | nil=>exact (h0 rfl).elim
  | cons r l=>rw [nK]; rw [nR] at k3; omega
 ·intro x hx
  rw [List.cons_append] at hx
  rcases List.mem_cons.1 hx with rfl | h
  ·exact ⟨hb,by omega⟩
  ·have:=k4 x h; exact ⟨this.1,by omega⟩
theorem names_flat {b u:Nat} {X:List AO} {ts:List TV} {cs:List AV} (h:Env b u X ts cs):∀ l:List (List UInt8),Env b u X ((namesTV l).flatten++ts) ((l.map fun s=>[sV s]).flatten++cs)
 | []=>h
 | s :: l=>(names_flat h l).pc (.s s)
theorem data_node {b n idn idc vn vc:Nat} {X:List AO} {vars:List (List UInt8)} {l:List CtorD} {rs:List (List AV)} {a:AV} {nm:List UInt8} {q:Int} (h:Env b n X (l.map CtorD.tv).flatten rs.flatten) (hc:X[idc]?=some (.rows 7 vc rs)) (hic:n<=idc) (hb:b<=n) (hl:rs.length=l.length) (hz:∀ r∈rs,r.length=7) (h0:l≠[])
  (hv:(vars=[]/\a=.p .nl)\/(vars≠[]/\a=.gs idn vn 0 vars.length/\X[idn]?=some (.rows 1 vn (vars.map fun s=>[sV s]))/\n<=idn/\idn≠idc)) :
  ∃ u,Env b u X (DataD.tv ⟨nm,vars,l,q⟩) [sV nm,a,.gs idc vc 0 rs.length,iV q]:=by
 have hrow:∀ r∈l.map CtorD.tv,r.length=7:=by intro r hr; obtain ⟨c,_,rfl⟩:=List.mem_map.1 hr; exact CtorD.tv_len c
 rcases hv with ⟨rfl,rfl⟩ | ⟨hne,rfl,h1,h2,h3⟩
 ·have h2:=(h.node hc hic (by omega) (by simpa using hl) hrow hz (by simpa using h0)).nlF (sz:=1)
  exact ⟨_,(h2.pc (.s nm)).snocP (.i .i64 q)⟩
 ·have e0:(vars.map fun s=>[sV s]).length=vars.length:=by simp
  have h4:=Env.node2 (rows1:=namesTV vars) (rows2:=l.map CtorD.tv) (names_flat h vars) h1 hc h2 hic hb h3 (by simp [namesTV]) (by intro r hr; unfold namesTV at hr; obtain ⟨s,_,rfl⟩:=List.mem_map.1 hr; rfl) (by intro r hr; obtain ⟨s,_,rfl⟩:=List.mem_map.1 hr; rfl) (by simpa [namesTV] using hne) (by simpa using hl) hrow hz (by simpa using h0)
  rw [e0] at h4
  exact ⟨_,(h4.pc (.s nm)).snocP (.i .i64 q)⟩
theorem data_nC (nm vars l q):nC (DataD.tv ⟨nm,vars,l,q⟩)=nK (namesTV vars)+nK (l.map CtorD.tv):=by simp [DataD.tv,nC,nT]
theorem ctor_nC (nm h a q):nC (CtorD.tv ⟨nm,h,a,q⟩)=nC a.tv:=by
 unfold CtorD.tv
 rw [nC_app,nC_app]; simp [nC,nT]
structure LB {α:Type} (pv:PS->AO) (T:List Tok) (e b n p:Nat) (K:List AO) (N:List Nat) (sz:Nat) (tv:α->List TV) (x':List UInt8) (item:PM α) (Rl:List α) (Rs:PS) (x:LG α):Prop where
 ok:Ok T e x.s
 ln:x.acc.length<=x.s.i
 fu:T.length - x.s.i<=x.j
 rl:x.acc++((item x.s).1 :: (many (isT T x') (advP item) x.j (item x.s).2).1)=Rl
 re:(many (isT T x') (advP item) x.j (item x.s).2).2=Rs
 hn:x.H.length=n
 kp:Kp b K x.H
 fr:∃ M,Fr b x.H M/\nC (tv (item x.s).1)+nR ((many (isT T x') (advP item) x.j (item x.s).2).1.map tv)<=M
 env:Env b n (x.H.set p (pv x.s)++x.A) (x.acc.map tv).flatten x.rs.flatten
 len:x.rs.length=x.acc.length
 sz1:∀ r∈x.rs,r.length=sz
 own:OwnR (x.H.set p (pv x.s)++x.A) x.a sz x.rs
 ids:∀ id v o m,x.a=.gs id v o m->n<=id/\id - n ∉ N
 nm:∀ k∈N,k<x.A.length
section
variable {α:Type} {pv:PS->AO} {T:List Tok} {e b n p sz:Nat} {K:List AO} {N:List Nat} {tv:α->List TV} {x':List UInt8} {item:PM α} {Rl:List α} {Rs:PS}
theorem LB.start {H A:List AO} {s:PS} {M:Nat} (hs:Ok T e s) (h:((item s).1 :: (many (isT T x') (advP item) T.length (item s).2).1,(many (isT T x') (advP item) T.length (item s).2).2)=(Rl,Rs)) (hn:H.length=n) (hk:Kp b K H) (hF:Fr b H M) (hM:nR (Rl.map tv)<=M) (hb:∀ k∈N,k<A.length):LB pv T e b n p K N sz tv x' item Rl Rs ⟨T.length,s,[],[],.p .nl,H,A⟩:=by
 have h1:=congrArg Prod.fst h
 have h2:=congrArg Prod.snd h
 simp only at h1 h2
 refine ⟨hs,Nat.zero_le _,by simp only; omega,h1,h2,hn,hk,⟨M,hF,?_⟩,Env.nil _ _ _,rfl,by simp,.inl ⟨rfl,rfl⟩,(fun _ _ _ _ e=>by cases e),hb⟩
 rw [<- h1] at hM
 simpa [nR] using hM
theorem LB.stop {x:LG α} (h:LB pv T e b n p K N sz tv x' item Rl Rs x) {y:α} {s2:PS} (hm:item x.s=(y,s2)) (hg:isT T x' s2=false):x.acc++[y]=Rl/\s2=Rs:=by
 have h1:=h.rl; have h2:=h.re
 rw [hm] at h1 h2
 rw [many_c hg] at h1 h2
 exact ⟨h1,h2⟩
theorem LB.room {x:LG α} (h:LB pv T e b n p K N sz tv x' item Rl Rs x) {y:α} {s2:PS} (hm:item x.s=(y,s2)):∃ M,Fr b x.H M/\nC (tv y)+nR ((many (isT T x') (advP item) x.j s2).1.map tv)<=M:=by
 obtain ⟨M,h1,h2⟩:=h.fr
 rw [hm] at h2
 exact ⟨M,h1,h2⟩
theorem LB.own1 {x:LG α} {s2:PS} {H1 A' A'':List AO} {id ver:Nat} {rs:List (List AV)} (hn1:H1.length=n) (k1:(H1.set p (pv s2)++A')[id]?=some (.rows sz ver rs)) (k2:n<=id/\id - n ∉ N) (k3:∀ (k:Nat) (o:AO),k ∉ N->A'[k]?=some o->A''[k]?=some o) (c:AO):(H1.set p c++A'')[id]?=some (.rows sz ver rs):=by
 obtain ⟨q,hq⟩:=Nat.le.dest k2.1
 subst hq
 rw [qyk hn1] at k1 ⊢
 exact k3 _ _ (by have:=k2.2; rwa [Nat.add_sub_cancel_left] at this) k1
theorem LB.next (hT:ToksOk T) {x:LG α} (h:LB pv T e b n p K N sz tv x' item Rl Rs x) {y:α} {s2:PS} (hm:item x.s=(y,s2)) (hs2:Ok T e s2) (hge:x.s.i<=s2.i) (hg:isT T x' s2=true) {H1 A' A'':List AO} {M id ver:Nat} {cs:List AV} (hn1:H1.length=n) (kp1:Kp b x.H H1) (fr1:Fr b H1 M) (hM:nR ((many (isT T x') (advP item) x.j s2).1.map tv)<=M)
  (env1:Env b n (H1.set p (pv (adv s2))++A'') ((x.acc.map tv).flatten++tv y) (x.rs.flatten++cs)) (hcs:cs.length=sz)
  (k1:(H1.set p (pv s2)++A')[id]?=some (.rows sz ver (x.rs++[cs]))) (k2:n<=id/\id - n ∉ N) (k3:∀ (k:Nat) (o:AO),k ∉ N->A'[k]?=some o->A''[k]?=some o) (k4:∀ k∈N,k<A''.length) :
  LB pv T e b n p K N sz tv x' item Rl Rs ⟨x.j - 1,adv s2,x.acc++[y],x.rs++[cs],.gs id ver 0 (x.rs.length+1),H1,A''⟩:=by
 have hk:=isT_k hg
 have hfu:=h.fu
 have hix:=h.ok.1
 obtain ⟨j',hj⟩:∃ j',x.j=j'+1:=⟨x.j - 1,by omega⟩
 have h1:=h.rl; have h2:=h.re
 rw [hm] at h1 h2
 simp only [hj,many,if_pos hg] at h1 h2 hM
 have e1:∀ s,advP item s=item (adv s):=fun _=>rfl
 simp only [e1] at h1 h2 hM
 have hln:=h.ln
 refine ⟨hs2.adv hT hk.2,by simp [adv]; omega,by simp [adv]; omega,by simp only [hj,Nat.add_sub_cancel]; simpa using h1,by simp only [hj,Nat.add_sub_cancel]; exact h2,hn1,h.kp.trans kp1,⟨M,fr1,by simp only [hj,Nat.add_sub_cancel]; simpa [nR] using hM⟩,by simpa using env1,by simp [h.len],?_,.inr ⟨id,ver,by simp,LB.own1 (x:=x) hn1 k1 k2 k3 _⟩,(fun id' v o m' e=>by cases e; exact k2),k4⟩
 intro r hr
 rcases List.mem_append.1 hr with hr | hr
 ·exact h.sz1 r hr
 ·simp at hr; rw [hr]; exact hcs
end
end Go.Proofs.YtghcmccjchdgeaaGreatDoor.Qp
namespace Go.Proofs.YtghcmccjchdgeaaGreatDoor.Qp
open Go.AM Mc Pg
def nmTV (s:List UInt8):List TV:=[.p (.s s)]
theorem nm_nR:∀ l:List (List UInt8),nR (l.map nmTV)=0
 | []=>by simp [nR]
 | a :: l=>by rw [List.map_cons,nR,nm_nR l]; simp [nmTV,nC,nT]
section
variable {T:List Tok} {most e:Nat} (hT:ToksOk T) (hTl:T.length<=1073741825)
include hT hTl
theorem iDataC {ty:PM TyE} (hP:PFo T most e 115 [iV 1] ty TyE.tv) (sP:StayM T ty):PFo T most e 73 [] (dataP T T.length ty) DataD.tv:=by
 have sC:=Pg.stay_ctorP hT sP
 have h5:(5:Int)≠8:=by decide
 have o5:Only T (isK T 5):=only_isK T h5
 refine pfo_of fun p K b n s hn hp hb hs hF=>?_
 have hpK:p<K.length:=by omega
 refine call73 (by simp) ?_
 simp only [go_sem,simprocAttr,qyk hn,qy0 hn,ryk hn,ry0 hn,hn,hn,mc73,mr73]
 refine acall_pure (iNow K _ p s hpK hs) ?_
 simp only [go_sem,simprocAttr,qyk hn,qy0 hn,ryk hn,ry0 hn,hn,hn,Tok.cells]
 unfold dataP at hF ⊢
 rw [nowP_e,stepP_e] at hF ⊢
 generalize (tokA T s).p=tp at *
 refine acall_pure (iWant hT hTl [[116,121,112,101]] (by decide) hpK hs (by omega) (fun c=>by rw [qyk hn]; rfl)) ?_
 simp only [go_sem,simprocAttr,qyk hn,qy0 hn,ryk hn,ry0 hn,hn,hn,wants1]
 have hs1:=hs.step (stay_want hT [116,121,112,101])
 generalize wantP T [116,121,112,101] s=s1 at *
 rcases hV:many (isK T 5) (wordP T 5) T.length s1 with ⟨vs,s2⟩
 have hs2:=hs1.run (StayM.many o5 (StayM.word hT h5) T.length)
 rw [hV] at hs2
 simp only at hs2
 rcases hq3:wordP T 3 s2 with ⟨nm,s3⟩
 have hs3:=hs2.run (StayM.word hT (k:=3) (by decide))
 rw [hq3] at hs3
 simp only at hs3
 have hs4:=hs3.step (stay_want hT [61])
 rcases hq5:ctorP T ty (wantP T [61] s3) with ⟨c0,s5⟩
 rcases hR:many (isT T [124]) (advP (ctorP T ty)) T.length s5 with ⟨Rl,Rs⟩
 simp only [bindP_e,stepP_e,retP_e,hV,hq3,hq5,hR] at hF ⊢
 have hNN:nR ((c0 :: Rl).map CtorD.tv)<=nC (DataD.tv ⟨nm,vs,c0 :: Rl,tp⟩):=by rw [data_nC]; have:=nK_le ((c0 :: Rl).map CtorD.tv); omega
 generalize hNe:nC (DataD.tv ⟨nm,vs,c0 :: Rl,tp⟩)=NN at hF hNN
 -- the variables
 refine ⟨LG (List UInt8),[0,2,3],fun x st=>(LO (pvI T most) T e b n p K [0,1] 1 nmTV (isK T 5) (wordP T 5) vs s2 x/\x.H=K/\x.rs=(x.acc.map fun s=>[sV s])/\x.A[0]?=some (.var [sV [],.p .nl,.p .nl,iV 0])/\x.A[1]?=some (.var [sV [],x.a,.p .nl,iV tp])/\(x.acc=[]->x.a=.p .nl)) /\
   st=⟨[(0,.ptr p 0),(2,.ptr n 0),(3,.ptr (n+1) 0)],[],x.H.set p (pvI T most x.s)++x.A⟩,fun x=>T.length - x.s.i,
  ⟨⟨T.length,s1,[],[],.p .nl,K,[.var [sV [],.p .nl,.p .nl,iV 0],.var [sV [],.p .nl,.p .nl,iV tp],.rows 1 0 [[sV [116,121,112,101]]]]⟩,?_⟩,?_⟩
 ·refine ⟨⟨LO.start hs1 hV hn Kp.rfl hF (by rw [nm_nR]; exact Nat.zero_le _) (by simp),rfl,rfl,rfl,rfl,fun _=>rfl⟩,?_⟩
  simp only [go_sem,simprocAttr,qyk hn,qy0 hn,ryk hn,ry0 hn,hn,hn]
 ·rintro ⟨j,s',acc,rs,a,HH,A⟩ _ ⟨⟨hL,hHK,hrs,i0,i1,hNil⟩,rfl⟩
  simp only at hHK hrs i0 i1 hNil
  subst hHK
  have hok:=hL.ok
  simp only at hok ⊢
  simp only [go_sem,simprocAttr,qyk hn,qy0 hn,ryk hn,ry0 hn,hn,hn]
  refine acall_pure (iIsK 5 HH _ p s' hpK hok) ?_
  cases hg:isK T 5 s'
  rotate_left
  ·have hsw:=hok.adv hT (show (tokA T s').k≠8 by have:=(isK_k hg).2; omega)
   have hw:wordP T 5 s'=((tokA T s').t,adv s'):=by unfold wordP; rw [if_pos hg]
   obtain ⟨M,frM,hM⟩:=hL.room o5 hg hw
   simp only [go_sem,simprocAttr,qyk hn,qy0 hn,ryk hn,ry0 hn,hn,hn,hg]
   refine ⟨_,hxd hn _ _ _,?_⟩
   simp only [go_sem,simprocAttr,qyk hn,qy0 hn,ryk hn,ry0 hn,hn,hn,i1]
   refine pcall_chain _ _ (by simp) (hxd hn _ _ _) ((iWord hTl 5).chain hpK hok) ?_
   rw [hw]
   simp only [go_sem,simprocAttr,qyk hn,qy0 hn,ryk hn,ry0 hn,hn,hn,gx0,gxk,sx0,sxk,Nat.add_zero]
   refine ⟨by intro r hr; simp at hr; subst hr; rfl,?_⟩
   refine hL.app hn (fun k o h=>get_ext h _) hTl (by decide) ?_
   intro id ver A' m1 m2 m3
   have j0:=(m3 0 (by decide)).trans i0
   have j1:=(m3 1 (by decide)).trans i1
   simp only [go_sem,simprocAttr,qyk hn,qy0 hn,ryk hn,ry0 hn,hn,hn,j1]
   exact ⟨⟨j - 1,adv s',acc++[(tokA T s').t],rs++[[sV (tokA T s').t]],.gs id ver 0 (rs.length+1),HH,A'.set 1 (.var [sV [],.gs id ver 0 (rs.length+1),.p .nl,iV tp])⟩,⟨⟨hL.next o5 hg hw hsw (by show s'.i<s'.i+1; omega) hn Kp.rfl frM (by have:=hM; omega) ((hL.env.base hn hp).snocP _) rfl m1 m2 (set_keep (by decide)) (by intro k hk; rw [List.length_set]; simp at hk; rcases hk with rfl | rfl; exact get_lt j0; exact get_lt j1),rfl,by rw [hrs]; simp,get_set j0 (by decide),set_get j1,fun h=>by simp at h⟩,rfl⟩,by have:=hok.1; show T.length - (s'.i+1)<T.length - s'.i; omega⟩
  ·obtain ⟨ha,hx⟩:=hL.stop hg
   simp only at ha hx
   subst hx
   simp only [go_sem,simprocAttr,qyk hn,qy0 hn,ryk hn,ry0 hn,hn,hn,hg]
   refine acall_pure (iWord hTl 3 HH _ p s' hpK hok) ?_
   rw [hq3]
   simp only [go_sem,simprocAttr,qyk hn,qy0 hn,ryk hn,ry0 hn,hn,hn,i1]
   refine acall_pure (iWant hT hTl [[61]] (by decide) hpK hs3 (by omega) (fun c=>by rw [qyk hn,gxs0]; rfl)) ?_
   simp only [go_sem,simprocAttr,qyk hn,qy0 hn,ryk hn,ry0 hn,hn,hn,wants1]
   have hvn0:∃ qn vn,qn<A.length/\(vs≠[]->qn ∉ [0,1]/\A[qn]?=some (.rows 1 vn (vs.map fun s=>[sV s])))/\((vs=[]/\a=.p .nl)\/(vs≠[]/\a=.gs (n+qn) vn 0 vs.length)):=by
    rcases Decidable.em (vs=[]) with h0 | h0
    ·exact ⟨0,0,get_lt i0,fun h=>(h h0).elim,.inl ⟨h0,hNil (by rw [ha]; exact h0)⟩⟩
    ·rcases hL.own with ⟨h1,h2⟩ | ⟨id,ver,e1,h1⟩
     ·simp only at h2
      rw [hrs,ha] at h2
      exact (h0 (by simpa using h2)).elim
     ·simp only at e1 h1
      obtain ⟨g1,g2⟩:=hL.ids _ _ _ _ e1
      obtain ⟨q,rfl⟩:=Nat.le.dest g1
      rw [Nat.add_sub_cancel_left] at g2
      rw [qyk hn,hrs,ha] at h1
      rw [hrs,ha,List.length_map] at e1
      exact ⟨q,ver,get_lt h1,fun _=>⟨g2,h1⟩,.inr ⟨h0,e1⟩⟩
   obtain ⟨qn,vn,hql,hqa,hvn⟩:=hvn0
   have hq1:vs≠[]->qn ∉ [0,1]:=fun h=>(hqa h).1
   have i0':∀ o B,((A.set 1 o)++B)[0]?=some (.var [sV [],.p .nl,.p .nl,iV 0]):=fun o B=>get_ext (get_set i0 (by decide)) B
   have i1':∀ o B,((A.set 1 o)++B)[1]?=some o:=fun o B=>get_ext (set_get i1) B
   have iq':∀ o B,vs≠[]->((A.set 1 o)++B)[qn]?=some (.rows 1 vn (vs.map fun s=>[sV s])):=fun o B h=>get_ext (get_set (hqa h).2 (by rintro rfl; exact hq1 h (by simp))) B
   refine ⟨LG CtorD,[0,2,3],fun x st=>(LB (pvI T most) T e b n p HH [0,1,qn] 7 CtorD.tv [124] (ctorP T ty) (c0 :: Rl) Rs x/\x.A[0]?=some (.var [sV [],.p .nl,.p .nl,iV 0])/\x.A[1]?=some (.var [sV nm,a,x.a,iV tp])/\(vs≠[]->x.A[qn]?=some (.rows 1 vn (vs.map fun s=>[sV s])))) /\
     st=⟨[(0,.ptr p 0),(2,.ptr n 0),(3,.ptr (n+1) 0)],[],x.H.set p (pvI T most x.s)++x.A⟩,fun x=>T.length - x.s.i,
    ⟨⟨T.length,wantP T [61] s3,[],[],.p .nl,HH,(A.set 1 (.var [sV nm,a,.p .nl,iV tp]))++[.rows 1 0 [[sV [61]]]]⟩,?_⟩,?_⟩
   ·exact ⟨⟨LB.start hs4 (by rw [hq5,hR]) hn Kp.rfl hF hNN (by intro k hk; simp at hk ⊢; have:=get_lt i1; rcases hk with rfl | rfl | rfl <;> omega),i0' _ _,i1' _ _,iq' _ _⟩,rfl⟩
   ·rintro x _ ⟨⟨hL,k0,k1,kq⟩,rfl⟩
    have hpx:p<x.H.length:=by rw [hL.hn]; omega
    simp only [go_sem,simprocAttr,qyk hL.hn,qy0 hL.hn,ryk hL.hn,ry0 hL.hn,hL.hn,hL.hn]
    refine acall_pure (iNow x.H _ p x.s hpx hL.ok) ?_
    simp only [go_sem,simprocAttr,qyk hL.hn,qy0 hL.hn,ryk hL.hn,ry0 hL.hn,hL.hn,hL.hn,Tok.cells]
    refine acall_pure (iWord hTl 4 x.H _ p x.s hpx hL.ok) ?_
    rcases hw:wordP T 4 x.s with ⟨cn,s6⟩
    have hs6:=hL.ok.run (StayM.word hT (k:=4) (by decide))
    rw [hw] at hs6
    simp only at hs6
    simp only [go_sem,simprocAttr,qyk hL.hn,qy0 hL.hn,ryk hL.hn,ry0 hL.hn,hL.hn,hL.hn]
    generalize hcp:(tokA T x.s).p=cp
    refine acall_pure (iTake hTl [111,102] x.H _ p s6 hpx hs6) ?_
    unfold takeM
    cases hof:isT T [111,102] s6
    ·have hm:ctorP T ty x.s=(⟨cn,false,ty0,cp⟩,s6):=by unfold ctorP; rw [nowP_e,bindP_e,hw,iteG_f hof,hcp]; rfl
     obtain ⟨M,fr8,hM⟩:=hL.room hm
     obtain ⟨H8,hH8⟩:∃ H8,H8=x.H:=⟨_,rfl⟩
     have hn8:H8.length=n:=by rw [hH8]; exact hL.hn
     have kp8:Kp b x.H H8:=by rw [hH8]; exact Kp.rfl
     have hs8:=hs6
     have hE8:∀ A',Env b n (x.H.set p (pvI T most s6)++A') ((x.acc.map CtorD.tv).flatten++CtorD.tv ⟨cn,false,ty0,cp⟩) (x.rs.flatten++[sV cn,.p (.b false),iV 0,sV [],iV 0,.p .nl,iV cp]):=fun A'=>by
      have h1:=(((((((hL.env.base (c':=pvI T most s6) (A':=A') hL.hn hp).snocP (.s cn)).snocP (.b false)).snocP (.i .i64 0)).snocP (.s [])).snocP (.i .i64 0)).nl (sz:=4)).snocP (.i .i64 cp)
      simpa [CtorD.tv,ty0,TyE.tv,TyE.tvL,List.append_assoc] using h1
     simp only [go_sem,simprocAttr,qyk hL.hn,qy0 hL.hn,ryk hL.hn,ry0 hL.hn,hL.hn,hL.hn,hof]
     rw [<- hH8] at hE8 fr8 ⊢
     generalize hss:s6=s8 at *
     have hge8:x.s.i<=s8.i:=by have:=(sC x.s hL.ok.1).1; rw [hm] at this; exact this
     have hp8:p<H8.length:=by omega
     simp only [go_sem,simprocAttr,qyk hn8,qy0 hn8,ryk hn8,ry0 hn8,hn8,hn8,gx0,gxk,sx0,sxk,Nat.add_zero,get_ext k1 _]
     refine ⟨by intro r hr; simp at hr; subst hr; rfl,?_⟩
     refine app_o hL.hn hn8 hL.own hL.ids hL.nm (by rw [hL.len]; have:=hL.ln; have:=hL.ok.1; omega) (fun k o h=>get_ext h _) (by decide) ?_
     intro id ver A' w1 w2 w3
     have j0:=(w3 0 (by simp)).trans k0
     have j1:=(w3 1 (by simp)).trans k1
     have hz:∀ o,(A'.set 1 o)[1]?=some o:=fun o=>set_get j1
     have hz0:∀ o,(A'.set 1 o)[0]?=some (.var [sV [],.p .nl,.p .nl,iV 0]):=fun o=>get_set j0 (by decide)
     have jq:vs≠[]->∀ o,(A'.set 1 o)[qn]?=some (.rows 1 vn (vs.map fun s=>[sV s])):=fun h o=>get_set ((w3 qn (by simp)).trans (kq h)) (by rintro rfl; exact hq1 h (by simp))
     simp only [go_sem,simprocAttr,qyk hn8,qy0 hn8,ryk hn8,ry0 hn8,hn8,hn8,j1]
     refine acall_pure (iTake hTl [124] H8 _ p s8 hp8 hs8) ?_
     unfold takeM
     cases hg:isT T [124] s8
     ·obtain ⟨ha2,hx2⟩:=hL.stop hm hg
      subst hx2
      simp only [go_sem,simprocAttr,qyk hn8,qy0 hn8,ryk hn8,ry0 hn8,hn8,hn8,hg,Bool.not_true,Bool.not_false]
      refine acall_pure (iWant hT hTl [[59]] (by decide) hp8 hs8 (by omega) (fun c=>by rw [qyk hn8,gxs0]; rfl)) ?_
      have hg1:∀ o B,((A'.set 1 o)++B)[1]?=some o:=fun o B=>get_ext (hz o) B
      have hg0:∀ o B,((A'.set 1 o)++B)[0]?=some (.var [sV [],.p .nl,.p .nl,iV 0]):=fun o B=>get_ext (hz0 o) B
      have hgs:∀ o B o',(((A'.set 1 o)++B).set 0 o')[0]?=some o':=fun o B o'=>set_get (hg0 o B)
      simp only [go_sem,simprocAttr,qyk hn8,qy0 hn8,ryk hn8,ry0 hn8,hn8,hn8,wants1,hg1,hg0,hgs]
      have hrows:=fun c=>LB.own1 (x:=x) (A'':=((A'.set 1 (.var [sV nm,a,.gs id ver 0 (x.rs.length+1),iV tp]))++[AO.rows 1 0 [[sV [59]]]]).set 0 (.var [sV nm,a,.gs id ver 0 (x.rs.length+1),iV tp])) hn8 w1 w2 (fun k o hk ho=>by
       simp at hk
       rw [List.getElem?_set_ne (by omega)]
       exact get_ext (get_set ho (by omega)) _) c
      have e9:(x.rs++[[sV cn,.p (.b false),iV 0,sV [],iV 0,.p .nl,iV cp]]).length=x.rs.length+1:=by simp
      obtain ⟨u,hfin⟩:=data_node (nm:=nm) (q:=tp) (idn:=n+qn) (vn:=vn) (a:=a) (vars:=vs) (l:=c0 :: Rl) (rs:=x.rs++[[sV cn,.p (.b false),iV 0,sV [],iV 0,.p .nl,iV cp]]) (by
       have:=Env.base (A':=((A'.set 1 (.var [sV nm,a,.gs id ver 0 (x.rs.length+1),iV tp]))++[AO.rows 1 0 [[sV [59]]]]).set 0 (.var [sV nm,a,.gs id ver 0 (x.rs.length+1),iV tp])) (c':=pvI T most (wantP T [59] s8)) (hE8 []) hn8 hp
       rw [<- ha2]
       simpa [List.append_assoc] using this) (hrows _) w2.1 hb (by rw [<- ha2]; simp [hL.len]) (by intro r hr; rcases List.mem_append.1 hr with hr | hr; exact hL.sz1 r hr; simp at hr; subst hr; rfl) (by simp) (by
       rcases hvn with ⟨h1,h2⟩ | ⟨h1,h2⟩
       ·exact .inl ⟨h1,h2⟩
       ·refine .inr ⟨h1,h2,?_,Nat.le_add_right _ _,?_⟩
        ·rw [qyk hn8,List.getElem?_set_ne (by rintro h; exact hq1 h1 (by simp [<- h]))]; exact get_ext (jq h1 _) _
        ·rintro rfl
         have:=w2.2
         rw [Nat.add_sub_cancel_left] at this
         exact this (by simp))
      rw [e9] at hfin
      exact ⟨_,H8,_,_,rfl,rfl,hL.kp.trans kp8,hfin⟩
     ·simp only [go_sem,simprocAttr,qyk hn8,qy0 hn8,ryk hn8,ry0 hn8,hn8,hn8,hg,Bool.not_true,Bool.not_false]
      exact ⟨⟨x.j - 1,adv s8,x.acc++[⟨cn,false,ty0,cp⟩],x.rs++[[sV cn,.p (.b false),iV 0,sV [],iV 0,.p .nl,iV cp]],.gs id ver 0 (x.rs.length+1),H8,A'.set 1 (.var [sV nm,a,.gs id ver 0 (x.rs.length+1),iV tp])⟩,
       ⟨⟨hL.next hT hm hs8 hge8 hg hn8 kp8 fr8 (by omega) (by
        have:=Env.base (A':=A'.set 1 (.var [sV nm,a,.gs id ver 0 (x.rs.length+1),iV tp])) (c':=pvI T most (adv s8)) (hE8 []) hn8 hp
        exact this) rfl w1 w2 (set_keep (by simp)) (fun k hk=>by
         have h1:=hL.nm k hk
         rw [List.length_set]
         exact get_lt ((w3 k hk).trans (List.getElem?_eq_getElem h1))),hz0 _,hz _,fun h=>jq h _⟩,rfl⟩,by have h1:=isT_k hg; have h2:=hs8.1; have h3:=hL.ok.1; show T.length - (s8.i+1)<T.length - x.s.i; omega⟩
    ·have hsa:=hs6.adv hT (isT_k hof).2
     rcases hq8:ty (adv s6) with ⟨⟨k7,n7,q7,l7⟩,s8⟩
     have hs8:=hsa.run sP
     rw [hq8] at hs8
     simp only at hs8
     have hm:ctorP T ty x.s=(⟨cn,true,.mk k7 n7 q7 l7,cp⟩,s8):=by unfold ctorP; rw [nowP_e,bindP_e,hw,iteG_t hof,bindP_e,hq8,hcp]; rfl
     obtain ⟨M,frM,hM⟩:=hL.room hm
     rw [ctor_nC] at hM
     obtain ⟨H8,cs8,hn8,kp8,fr8,cl8,_,env8,call8⟩:=(hP p).use TyE.wf hq8 hL.hn hp hb hsa frM (by omega)
     have hE7:=fun A'=>env8 _ _ [] A' (((hL.env.base (c':=pvI T most (adv s6)) (A':=[]) hL.hn hp).snocP (.s cn)).snocP (.b true))
     obtain ⟨c8,rfl⟩:=(hE7 []).tyC (by rw [((hL.env.snocP (.s cn)).snocP (.b true)).len])
     have hE8:∀ A',Env b n (H8.set p (pvI T most s8)++A') ((x.acc.map CtorD.tv).flatten++CtorD.tv ⟨cn,true,.mk k7 n7 q7 l7,cp⟩) (x.rs.flatten++[sV cn,.p (.b true),iV k7,sV n7,iV q7,c8,iV cp]):=fun A'=>by
      have h1:=(hE7 A').snocP (.i .i64 cp)
      simpa [CtorD.tv,List.append_assoc] using h1
     simp only [go_sem,simprocAttr,qyk hL.hn,qy0 hL.hn,ryk hL.hn,ry0 hL.hn,hL.hn,hL.hn,hof]
     refine acall_pure (call8 _ trivial) ?_
     have hge8:x.s.i<=s8.i:=by have:=(sC x.s hL.ok.1).1; rw [hm] at this; exact this
     have hp8:p<H8.length:=by omega
     simp only [go_sem,simprocAttr,qyk hn8,qy0 hn8,ryk hn8,ry0 hn8,hn8,hn8,gx0,gxk,sx0,sxk,Nat.add_zero,get_ext k1 _]
     refine ⟨by intro r hr; simp at hr; subst hr; rfl,?_⟩
     refine app_o hL.hn hn8 hL.own hL.ids hL.nm (by rw [hL.len]; have:=hL.ln; have:=hL.ok.1; omega) (fun k o h=>get_ext h _) (by decide) ?_
     intro id ver A' w1 w2 w3
     have j0:=(w3 0 (by simp)).trans k0
     have j1:=(w3 1 (by simp)).trans k1
     have hz:∀ o,(A'.set 1 o)[1]?=some o:=fun o=>set_get j1
     have hz0:∀ o,(A'.set 1 o)[0]?=some (.var [sV [],.p .nl,.p .nl,iV 0]):=fun o=>get_set j0 (by decide)
     have jq:vs≠[]->∀ o,(A'.set 1 o)[qn]?=some (.rows 1 vn (vs.map fun s=>[sV s])):=fun h o=>get_set ((w3 qn (by simp)).trans (kq h)) (by rintro rfl; exact hq1 h (by simp))
     simp only [go_sem,simprocAttr,qyk hn8,qy0 hn8,ryk hn8,ry0 hn8,hn8,hn8,j1]
     refine acall_pure (iTake hTl [124] H8 _ p s8 hp8 hs8) ?_
     unfold takeM
     cases hg:isT T [124] s8
     ·obtain ⟨ha2,hx2⟩:=hL.stop hm hg
      subst hx2
      simp only [go_sem,simprocAttr,qyk hn8,qy0 hn8,ryk hn8,ry0 hn8,hn8,hn8,hg,Bool.not_true,Bool.not_false]
      refine acall_pure (iWant hT hTl [[59]] (by decide) hp8 hs8 (by omega) (fun c=>by rw [qyk hn8,gxs0]; rfl)) ?_
      have hg1:∀ o B,((A'.set 1 o)++B)[1]?=some o:=fun o B=>get_ext (hz o) B
      have hg0:∀ o B,((A'.set 1 o)++B)[0]?=some (.var [sV [],.p .nl,.p .nl,iV 0]):=fun o B=>get_ext (hz0 o) B
      have hgs:∀ o B o',(((A'.set 1 o)++B).set 0 o')[0]?=some o':=fun o B o'=>set_get (hg0 o B)
      simp only [go_sem,simprocAttr,qyk hn8,qy0 hn8,ryk hn8,ry0 hn8,hn8,hn8,wants1,hg1,hg0,hgs]
      have hrows:=fun c=>LB.own1 (x:=x) (A'':=((A'.set 1 (.var [sV nm,a,.gs id ver 0 (x.rs.length+1),iV tp]))++[AO.rows 1 0 [[sV [59]]]]).set 0 (.var [sV nm,a,.gs id ver 0 (x.rs.length+1),iV tp])) hn8 w1 w2 (fun k o hk ho=>by
       simp at hk
       rw [List.getElem?_set_ne (by omega)]
       exact get_ext (get_set ho (by omega)) _) c
      have e9:(x.rs++[[sV cn,.p (.b true),iV k7,sV n7,iV q7,c8,iV cp]]).length=x.rs.length+1:=by simp
      obtain ⟨u,hfin⟩:=data_node (nm:=nm) (q:=tp) (idn:=n+qn) (vn:=vn) (a:=a) (vars:=vs) (l:=c0 :: Rl) (rs:=x.rs++[[sV cn,.p (.b true),iV k7,sV n7,iV q7,c8,iV cp]]) (by
       have:=Env.base (A':=((A'.set 1 (.var [sV nm,a,.gs id ver 0 (x.rs.length+1),iV tp]))++[AO.rows 1 0 [[sV [59]]]]).set 0 (.var [sV nm,a,.gs id ver 0 (x.rs.length+1),iV tp])) (c':=pvI T most (wantP T [59] s8)) (hE8 []) hn8 hp
       rw [<- ha2]
       simpa [List.append_assoc] using this) (hrows _) w2.1 hb (by rw [<- ha2]; simp [hL.len]) (by intro r hr; rcases List.mem_append.1 hr with hr | hr; exact hL.sz1 r hr; simp at hr; subst hr; rfl) (by simp) (by
       rcases hvn with ⟨h1,h2⟩ | ⟨h1,h2⟩
       ·exact .inl ⟨h1,h2⟩
       ·refine .inr ⟨h1,h2,?_,Nat.le_add_right _ _,?_⟩
        ·rw [qyk hn8,List.getElem?_set_ne (by rintro h; exact hq1 h1 (by simp [<- h]))]; exact get_ext (jq h1 _) _
        ·rintro rfl
         have:=w2.2
         rw [Nat.add_sub_cancel_left] at this
         exact this (by simp))
      rw [e9] at hfin
      exact ⟨_,H8,_,_,rfl,rfl,hL.kp.trans kp8,hfin⟩
     ·simp only [go_sem,simprocAttr,qyk hn8,qy0 hn8,ryk hn8,ry0 hn8,hn8,hn8,hg,Bool.not_true,Bool.not_false]
      exact ⟨⟨x.j - 1,adv s8,x.acc++[⟨cn,true,.mk k7 n7 q7 l7,cp⟩],x.rs++[[sV cn,.p (.b true),iV k7,sV n7,iV q7,c8,iV cp]],.gs id ver 0 (x.rs.length+1),H8,A'.set 1 (.var [sV nm,a,.gs id ver 0 (x.rs.length+1),iV tp])⟩,
       ⟨⟨hL.next hT hm hs8 hge8 hg hn8 kp8 fr8 (by omega) (by
        have:=Env.base (A':=A'.set 1 (.var [sV nm,a,.gs id ver 0 (x.rs.length+1),iV tp])) (c':=pvI T most (adv s8)) (hE8 []) hn8 hp
        exact this) rfl w1 w2 (set_keep (by simp)) (fun k hk=>by
         have h1:=hL.nm k hk
         rw [List.length_set]
         exact get_lt ((w3 k hk).trans (List.getElem?_eq_getElem h1))),hz0 _,hz _,fun h=>jq h _⟩,rfl⟩,by have h1:=isT_k hg; have h2:=hs8.1; have h3:=hL.ok.1; show T.length - (s8.i+1)<T.length - x.s.i; omega⟩
end
theorem prog_nC (ds:List DataD) (ex:ExpD):nC (ProgD.tv ⟨ds,ex⟩)=nK (ds.map DataD.tv)+nC ex.tv:=by simp [ProgD.tv,nC,nT]
section
variable {T:List Tok} {most e:Nat} (hT:ToksOk T) (hTl:T.length<=1073741825)
include hT hTl
theorem data_gt {ty:PM TyE} (sty:StayM T ty) {s:PS} (hi:s.i<T.length) (hg:isT T [116,121,112,101] s=true):s.i<(dataP T T.length ty s).2.i:=by
 unfold dataP
 rw [nowP_e,stepP_e]
 have ew:wantP T [116,121,112,101] s=adv s:=by unfold wantP; rw [if_pos hg]
 rw [ew]
 generalize (tokA T s).p=tp
 refine (Stay.adv hT (f:=fun s'=>((bindP (many (isK T 5) (wordP T 5) T.length) fun vs=>bindP (wordP T 3) fun n=>stepP (wantP T [61]) <|
 bindP (ctorP T ty) fun c=>bindP (many (isT T [124]) (advP (ctorP T ty)) T.length) fun cs=>stepP (wantP T [59]) <| retP (DataD.mk n vs (c :: cs) tp)) s').2) ?_ hi (isT_k hg).2).1
 exact StayM.bind (StayM.many (only_isK T (by decide)) (StayM.word hT (by decide)) _) fun _=>StayM.bind (StayM.word hT (by decide)) fun _=>StayM.step (stay_want hT _) <| StayM.bind (stay_ctorP hT sty) fun _=>StayM.bind (StayM.manyA hT (only_isT T _) (stay_ctorP hT sty) _) fun _=>StayM.step (stay_want hT _) (StayM.ret _)
theorem iProgC {ty:PM TyE} {ex:PM ExpD} (hP:PFo T most e 115 [iV 1] ty TyE.tv) (sP:StayM T ty) (hX:PFo T most e 29 [iV 1] ex ExpD.tv) (sX:StayM T ex):PFo T most e 39 [] (progP T T.length ty ex) ProgD.tv:=by
 have hD:=iDataC hT hTl hP sP
 have sD:=Pg.stay_dataP (N:=T.length) hT sP
 have oT:Only T (isT T [116,121,112,101]):=only_isT T _
 refine pfo_of fun p K b n s hn hp hb hs hF=>?_
 have hpK:p<K.length:=by omega
 refine call39 (by simp) ?_
 simp only [go_sem,simprocAttr,qyk hn,qy0 hn,ryk hn,ry0 hn,hn,hn,mc39,mr39]
 unfold progP at hF ⊢
 rcases hV:many (isT T [116,121,112,101]) (dataP T T.length ty) T.length s with ⟨ds,s2⟩
 rcases hq5:ex s2 with ⟨⟨k5,n5,u5,t5,q5,l5,m5⟩,s5⟩
 simp only [bindP_e,stepP_e,retP_e,hV,hq5] at hF ⊢
 have hNN:nR (ds.map DataD.tv)+nC (ExpD.tv (.mk k5 n5 u5 t5 q5 l5 m5))<=nC (ProgD.tv ⟨ds,.mk k5 n5 u5 t5 q5 l5 m5⟩):=by rw [prog_nC]; have:=nK_le (ds.map DataD.tv); omega
 generalize hNe:nC (ProgD.tv ⟨ds,.mk k5 n5 u5 t5 q5 l5 m5⟩)=NN at hF hNN
 refine ⟨LG DataD × Nat,[0,2,3],fun x st=>(LO (pvI T most) T e b n p K [0,1] 4 DataD.tv (isT T [116,121,112,101]) (dataP T T.length ty) ds s2 x.1/\x.1.A[0]?=some (.var [.p .nl,iV 0,sV [],iV 0,sV [],iV 0,.p .nl,.p .nl])/\x.1.A[1]?=some (.var [x.1.a,iV 0,sV [],iV 0,sV [],iV 0,.p .nl,.p .nl])/\(x.1.acc=[]->x.1.a=.p .nl)/\Fr b x.1.H x.2/\nR ((many (isT T [116,121,112,101]) (dataP T T.length ty) x.1.j x.1.s).1.map DataD.tv)+nC (ExpD.tv (.mk k5 n5 u5 t5 q5 l5 m5))<=x.2) /\
   st=⟨[(0,.ptr p 0),(2,.ptr n 0),(3,.ptr (n+1) 0)],[],x.1.H.set p (pvI T most x.1.s)++x.1.A⟩,fun x=>T.length - x.1.s.i,
  ⟨(⟨T.length,s,[],[],.p .nl,K,[.var [.p .nl,iV 0,sV [],iV 0,sV [],iV 0,.p .nl,.p .nl],.var [.p .nl,iV 0,sV [],iV 0,sV [],iV 0,.p .nl,.p .nl]]⟩,NN),?_⟩,?_⟩
 ·refine ⟨⟨LO.start hs hV hn Kp.rfl hF (by omega) (by simp),rfl,rfl,fun _=>rfl,hF,by simp only [hV]; omega⟩,?_⟩
  simp only [go_sem,simprocAttr,qyk hn,qy0 hn,ryk hn,ry0 hn,hn,hn]
 ·rintro ⟨x,M⟩ _ ⟨⟨hL,i0,i1,hNil,frM,hM⟩,rfl⟩
  simp only at hL i0 i1 hNil frM hM ⊢
  have hpx:p<x.H.length:=by rw [hL.hn]; omega
  simp only [go_sem,simprocAttr,qyk hL.hn,qy0 hL.hn,ryk hL.hn,ry0 hL.hn,hL.hn,hL.hn]
  refine acall_pure (iIs [116,121,112,101] x.H _ p x.s hpx hL.ok) ?_
  cases hg:isT T [116,121,112,101] x.s
  ·obtain ⟨ha,hx⟩:=hL.stop hg
   subst hx
   rw [many_c hg] at hM
   simp only [List.map_nil,nR,Nat.zero_add] at hM
   simp only [go_sem,simprocAttr,qyk hL.hn,qy0 hL.hn,ryk hL.hn,ry0 hL.hn,hL.hn,hL.hn,hg]
   obtain ⟨H5,cs5,hn5,kp5,fr5,cl5,_,env5,call5⟩:=(hX p).use ExpD.wf hq5 hL.hn hp hb hL.ok frM hM
   have hE5:=fun A'=>env5 _ _ x.A A' hL.env
   obtain ⟨c5,b5,rfl⟩:=(hE5 []).expC hL.env.len
   refine acall_pure (call5 _ trivial) ?_
   have hp5:p<H5.length:=by omega
   have hs5:=hL.ok.run sX
   rw [hq5] at hs5
   simp only at hs5
   simp only [go_sem,simprocAttr,qyk hn5,qy0 hn5,ryk hn5,ry0 hn5,hn5,hn5,i1]
   refine acall_pure (iEnd H5 _ p s5 hp5 hs5) ?_
   have hz:∀ o,(x.A.set 1 o)[1]?=some o:=fun o=>set_get i1
   have hz0:∀ o,(x.A.set 1 o)[0]?=some (.var [.p .nl,iV 0,sV [],iV 0,sV [],iV 0,.p .nl,.p .nl]):=fun o=>get_set i0 (by decide)
   have hz2:∀ o o',((x.A.set 1 o).set 0 o')[0]?=some o':=fun o o'=>set_get (hz0 o)
   simp only [go_sem,simprocAttr,qyk hn5,qy0 hn5,ryk hn5,ry0 hn5,hn5,hn5,hz,hz0,hz2]
   have hfin:∃ u,Env b u (H5.set p (pvI T most (endP T s5))++(x.A.set 1 (.var [x.a,iV k5,sV n5,iV u5,sV t5,iV q5,c5,b5])).set 0 (.var [x.a,iV k5,sV n5,iV u5,sV t5,iV q5,c5,b5])) (ProgD.tv ⟨ds,.mk k5 n5 u5 t5 q5 l5 m5⟩) [x.a,iV k5,sV n5,iV u5,sV t5,iV q5,c5,b5]:=by
    by_cases h0:ds=[]
    ·have hE:=(hE5 []).base (c':=pvI T most (endP T s5)) (A':=(x.A.set 1 (.var [x.a,iV k5,sV n5,iV u5,sV t5,iV q5,c5,b5])).set 0 (.var [x.a,iV k5,sV n5,iV u5,sV t5,iV q5,c5,b5])) hn5 hp
     have hl:=hL.len
     rw [ha,h0] at hl
     rw [ha,h0,List.length_eq_zero_iff.1 hl] at hE
     subst h0
     rw [hNil ha] at hE ⊢
     exact ⟨_,Env.nlF (by simpa using hE)⟩
    ·rcases hL.own with ⟨h1,h2⟩ | ⟨id,ver,e1,h1⟩
     ·have hl:=hL.len; rw [h2,ha] at hl; exact (h0 (List.length_eq_zero_iff.1 hl.symm)).elim
     ·obtain ⟨g1,g2⟩:=hL.ids _ _ _ _ e1
      obtain ⟨q,rfl⟩:=Nat.le.dest g1
      rw [Nat.add_sub_cancel_left] at g2
      rw [qyk hL.hn] at h1
      have hE:=(hE5 []).base (c':=pvI T most (endP T s5)) (A':=(x.A.set 1 (.var [x.a,iV k5,sV n5,iV u5,sV t5,iV q5,c5,b5])).set 0 (.var [x.a,iV k5,sV n5,iV u5,sV t5,iV q5,c5,b5])) hn5 hp
      rw [ha] at hE
      have hfl:=hL.len
      rw [ha] at hfl
      simp at g2
      rw [e1] at hE ⊢
      exact ⟨_,Env.nodeF hE (by rw [qyk hn5,List.getElem?_set_ne (by omega),List.getElem?_set_ne (by omega)]; exact h1) (by omega) (by omega) (by simpa using hfl) (by intro r hr; obtain ⟨d,_,rfl⟩:=List.mem_map.1 hr; exact DataD.tv_len d) hL.sz1 (by simpa using h0)⟩
   obtain ⟨u,hfin⟩:=hfin
   exact ⟨_,H5,_,u,rfl,rfl,hL.kp.trans kp5,hfin⟩
  ·obtain ⟨j,hj⟩:=hL.succ oT hg
   have hs3:=hL.ok.run sD
   have hgt:=data_gt hT hTl sP hL.ok.1 hg
   rcases hq3:dataP T T.length ty x.s with ⟨⟨dn,dv,dc,dq⟩,s3⟩
   rw [hq3] at hs3 hgt
   simp only at hs3
   rw [hj,many,if_pos hg,hq3] at hM
   simp only [List.map_cons,nR] at hM
   obtain ⟨H2,cs2,hn2,kp2,fr2,cl2,_,env2,call2⟩:=(hD p).use DataD.wf hq3 hL.hn hp hb hL.ok frM (by omega)
   have hE2:=fun A'=>env2 _ _ x.A A' hL.env
   have hcl:cs2.length=4:=cl2
   obtain ⟨e0,e1,e2,e3,rfl⟩:=len4 hcl
   simp only [go_sem,simprocAttr,qyk hL.hn,qy0 hL.hn,ryk hL.hn,ry0 hL.hn,hL.hn,hL.hn,hg]
   refine ⟨_,hxd hL.hn _ _ _,?_⟩
   simp only [go_sem,simprocAttr,qyk hL.hn,qy0 hL.hn,ryk hL.hn,ry0 hL.hn,hL.hn,hL.hn,i1]
   refine pcall_chain _ _ (chl hn2 hL.hn _ _ _) (hxd hn2 _ _ _) (chn call2 _ fun _=>trivial) ?_
   simp only [go_sem,simprocAttr,qyk hn2,qy0 hn2,ryk hn2,ry0 hn2,hn2,hn2,gx0,gxk,sx0,sxk,Nat.add_zero]
   refine ⟨by intro r hr; simp at hr; subst hr; rfl,?_⟩
   refine hL.app hn2 (fun k o h=>get_ext h _) hTl (by decide) ?_
   intro id ver A' m1 m2 m3
   have j0:=(m3 0 (by decide)).trans i0
   have j1:=(m3 1 (by decide)).trans i1
   simp only [go_sem,simprocAttr,qyk hn2,qy0 hn2,ryk hn2,ry0 hn2,hn2,hn2,j1]
   have hj1:x.j - 1=j:=by omega
   exact ⟨(⟨x.j - 1,s3,x.acc++[⟨dn,dv,dc,dq⟩],x.rs++[[e0,e1,e2,e3]],.gs id ver 0 (x.rs.length+1),H2,A'.set 1 (.var [.gs id ver 0 (x.rs.length+1),iV 0,sV [],iV 0,sV [],iV 0,.p .nl,.p .nl])⟩,_),⟨⟨hL.next oT hg hq3 hs3 hgt hn2 kp2 fr2 (by rw [hj1]; omega) (hE2 _) rfl m1 m2 (set_keep (by decide)) (by intro k hk; rw [List.length_set]; simp at hk; rcases hk with rfl | rfl; exact get_lt j0; exact get_lt j1),get_set j0 (by decide),set_get j1,fun h=>by simp at h,fr2,by simp only [hj1]; omega⟩,rfl⟩,by have h1:x.s.i<s3.i:=hgt; have:=hL.ok.1; simp only; omega⟩
end
theorem qpS {T:List Tok} {lim p:Nat} {H:List AO} (hp:p<H.length) (A:List AO) (s:PS):(H.set p (pvS T lim s)++A)[p]?=some (.var [ptV T,iV s.i,iV s.nest,iV s.d,iV lim,iV s.c,iV s.ps]):=qp hp A _
abbrev ctorV (c:CtorD):AV:=.st (c.cells.map .p)
abbrev dataV (d:DataD):AV:=.st (d.cells.map .p)
abbrev progV (p:ProgD):AV:=.st (p.cells.map .p)
theorem ctorE (c:CtorD):c.cells.length=7:=by obtain ⟨n,h,⟨k,m,q,l⟩,p⟩:=c; rfl
theorem dataE (d:DataD):d.cells.length=4:=rfl
section
variable {T:List Tok} {lim e:Nat} (hT:ToksOk T) (hTl:T.length<=1073741825)
include hT hTl
theorem sCtorC {ty:PM TyE} (hty:PF (pvS T lim) T e 172 [] ty tyV) (sty:StayM T ty):PF (pvS T lim) T e 114 [] (ctorP T ty) ctorV:=by
 refine pf_of (pvS_tf T lim) fun H p s hp hs=>?_
 refine call114 (by simp) ?_
 simp only [go_sem,simprocAttr,mc114,mr114]
 refine acall_pure (sNow H _ p s hp hs) ?_
 simp only [go_sem,simprocAttr,Tok.cells]
 unfold ctorP
 rw [nowP_e,bindP_e]
 generalize (tokA T s).p=tp
 refine acall_pure (sWord hTl 4 H _ p s hp hs) ?_
 rcases hw:wordP T 4 s with ⟨cn,s6⟩
 have hs6:=hs.run (StayM.word hT (k:=4) (by decide))
 rw [hw] at hs6
 simp only at hs6
 simp only [go_sem,simprocAttr]
 refine acall_pure (sHas hTl [111,102] H _ p s6 hp hs6) ?_
 unfold takeM
 cases hof:isT T [111,102] s6
 ·rw [iteG_f hof]
  simp only [go_sem,simprocAttr,hof]
  exact ⟨_,rfl,LentC.st (.pc (.pc (.pc (.pc (.pc (.cons .nl (.pc .nil)))))))⟩
 ·rw [iteG_t hof]
  have hsa:=hs6.adv hT (isT_k hof).2
  simp only [go_sem,simprocAttr,hof]
  refine acall_pure (hty H _ p _ hp hsa) ?_
  rcases hq8:ty (adv s6) with ⟨⟨k7,n7,q7,l7⟩,s8⟩
  rw [bindP_e,hq8]
  simp only [go_sem,simprocAttr,TyE.cells]
  exact ⟨_,rfl,lentP (tf_av (CtorD.cells ⟨cn,true,.mk k7 n7 q7 l7,tp⟩))⟩
theorem sDataC {ty:PM TyE} (hty:PF (pvS T lim) T e 172 [] ty tyV) (sty:StayM T ty):PF (pvS T lim) T e 71 [] (dataP T T.length ty) dataV:=by
 have hC:=sCtorC hT hTl hty sty
 have sC:=Pg.stay_ctorP hT sty
 have h5:(5:Int)≠8:=by decide
 have o5:Only T (isK T 5):=only_isK T h5
 refine pf_of (pvS_tf T lim) fun H p s hp hs=>?_
 refine call71 (by simp) ?_
 simp only [go_sem,simprocAttr,mc71,mr71]
 refine acall_pure (sNow H _ p s hp hs) ?_
 simp only [go_sem,simprocAttr,Tok.cells]
 unfold dataP
 rw [nowP_e,stepP_e]
 generalize (tokA T s).p=tp
 refine acall_pure (sWant hTl [116,121,112,101] H _ p s hp hs) ?_
 simp only [go_sem,simprocAttr]
 have hs1:=hs.step (stay_want hT [116,121,112,101])
 generalize wantP T [116,121,112,101] s=s1 at *
 rcases hV:many (isK T 5) (wordP T 5) T.length s1 with ⟨vs,s2⟩
 have hs2:=hs1.run (StayM.many o5 (StayM.word hT h5) T.length)
 rw [hV] at hs2
 simp only at hs2
 rcases hq3:wordP T 3 s2 with ⟨nm,s3⟩
 have hs3:=hs2.run (StayM.word hT (k:=3) (by decide))
 rw [hq3] at hs3
 simp only at hs3
 have hs4:=hs3.step (stay_want hT [61])
 rcases hq5:ctorP T ty (wantP T [61] s3) with ⟨c0,s5⟩
 have hs5:=hs4.run sC
 rw [hq5] at hs5
 simp only at hs5
 rcases hR:many (isT T [124]) (advP (ctorP T ty)) T.length s5 with ⟨Rl,Rs⟩
 simp only [bindP_e,stepP_e,retP_e,hV,hq3,hq5,hR]
 refine ⟨Nat × PS × List (List UInt8) × AV × List AO,[0,2,3],fun x st=>(Lp (pvS T lim) T e H p [0,1] 1 (fun s=>[PV.s s]) (isK T 5) (wordP T 5) vs s2 x.1 x.2.1 x.2.2.1 x.2.2.2.1 x.2.2.2.2/\x.2.2.2.2[0]?=some (.var [sV [],.p .nl,.p .nl,iV 0])/\x.2.2.2.2[1]?=some (.var [sV [],x.2.2.2.1,.p .nl,iV tp])) /\
   st=⟨[(0,.ptr p 0),(2,.ptr H.length 0),(3,.ptr (H.length+1) 0)],[],H.set p (pvS T lim x.2.1)++x.2.2.2.2⟩,fun x=>T.length - x.2.1.i,⟨(T.length,s1,[],.p .nl,[.var [sV [],.p .nl,.p .nl,iV 0],.var [sV [],.p .nl,.p .nl,iV tp]]),?_⟩,?_⟩
 ·refine ⟨⟨Lp.start hs1 hV (by simp),rfl,rfl⟩,?_⟩
  simp only [go_sem,simprocAttr]
 ·rintro ⟨j,s',acc,a,A⟩ _ ⟨⟨hL,i0,i1⟩,rfl⟩
  simp only at hL i0 i1 ⊢
  have hk5:isK T 5 s'=(decide (s'.c=0) && decide ((tokA T s').k=5)):=rfl
  simp only [go_sem,simprocAttr,qpS hp]
  cases hc:decide (s'.c=0)
  ·have hg:isK T 5 s'=false:=by rw [hk5,hc]; rfl
   simp only [go_sem,simprocAttr,hc]
   obtain ⟨rfl,rfl⟩:=hL.stop hg
   refine acall_pure (sWord hTl 3 H _ p s' hp hL.ok) ?_
   rw [hq3]
   have hvn0:∃ qn vn,qn<A.length/\(a≠.p .nl->qn ∉ [0,1]/\A[qn]?=some (.rows 1 vn (acc.map fun s=>[sV s])))/\((acc=[]/\a=.p .nl)\/(a≠.p .nl/\a=.gs (H.length+qn) vn 0 acc.length)):=by
    rcases hL.own with ⟨h1,h2⟩ | ⟨id,ver,e1,h1⟩
    ·exact ⟨0,0,get_lt i0,fun h=>(h h1).elim,.inl ⟨by simpa using h2,h1⟩⟩
    ·obtain ⟨g1,g2⟩:=hL.ids _ _ _ _ e1
     obtain ⟨q,rfl⟩:=Nat.le.dest g1
     rw [Nat.add_sub_cancel_left] at g2
     rw [qxk] at h1
     have e2:a=.gs (H.length+q) ver 0 acc.length:=by rw [e1]; simp
     exact ⟨q,ver,get_lt h1,fun _=>⟨g2,by simpa using h1⟩,.inr ⟨(by rw [e2]; intro h; cases h),e2⟩⟩
   obtain ⟨qn,vn,hql,hqa,hvn⟩:=hvn0
   have hq1:a≠.p .nl->qn ∉ [0,1]:=fun h=>(hqa h).1
   have i0':∀ o,(A.set 1 o)[0]?=some (.var [sV [],.p .nl,.p .nl,iV 0]):=fun o=>get_set i0 (by decide)
   have i1':∀ o,(A.set 1 o)[1]?=some o:=fun o=>set_get i1
   have iq':∀ o,a≠.p .nl->(A.set 1 o)[qn]?=some (.rows 1 vn (acc.map fun s=>[sV s])):=fun o h=>get_set (hqa h).2 (by rintro rfl; exact hq1 h (by simp))
   simp only [go_sem,simprocAttr,hc,i1,i1']
   refine acall_pure (sWant hTl [61] H _ p s3 hp hs3) ?_
   simp only [go_sem,simprocAttr]
   refine ⟨_,Qp.hx hp _ _,?_⟩
   simp only [go_sem,simprocAttr,i1']
   refine pcall_chain _ _ (by simp) (Qp.hx hp _ _) (hC.chain hp hs4) ?_
   obtain ⟨cn,ch,⟨k7,n7,q7,l7⟩,cp⟩:=c0
   rw [hq5]
   simp only [go_sem,simprocAttr,CtorD.cells,TyE.cells,gx0,gxk,Nat.add_zero]
   refine ⟨by intro r hr; simp at hr; subst hr; rfl,?_⟩
   have j0':∀ o B,((A.set 1 o)++B)[0]?=some (.var [sV [],.p .nl,.p .nl,iV 0]):=fun o B=>get_ext (i0' o) B
   have j1':∀ o B,((A.set 1 o)++B)[1]?=some o:=fun o B=>get_ext (i1' o) B
   have jq':∀ o B,a≠.p .nl->((A.set 1 o)++B)[qn]?=some (.rows 1 vn (acc.map fun s=>[sV s])):=fun o B h=>get_ext (iq' o h) B
   simp only [go_sem,simprocAttr,j1']
   have hA2:2<=A.length:=get_lt i1
   refine ⟨Nat × PS × List CtorD × AV × List AO,[0,2,3],fun x st=>(Lp (pvS T lim) T e H p [0,1,qn] 7 CtorD.cells (isT T [124]) (advP (ctorP T ty)) (⟨cn,ch,.mk k7 n7 q7 l7,cp⟩ :: Rl) Rs x.1 x.2.1 x.2.2.1 x.2.2.2.1 x.2.2.2.2/\x.2.2.2.2[0]?=some (.var [sV [],.p .nl,.p .nl,iV 0])/\x.2.2.2.2[1]?=some (.var [sV nm,a,x.2.2.2.1,iV tp])/\(a≠.p .nl->x.2.2.2.2[qn]?=some (.rows 1 vn (acc.map fun s=>[sV s])))) /\
     st=⟨[(0,.ptr p 0),(2,.ptr H.length 0),(3,.ptr (H.length+1) 0)],[],H.set p (pvS T lim x.2.1)++x.2.2.2.2⟩,fun x=>T.length - x.2.1.i,⟨(T.length,s5,([⟨cn,ch,.mk k7 n7 q7 l7,cp⟩]:List CtorD),AV.gs (H.length+(A.length+1)) 0 0 1,(((A.set 1 (.var [sV nm,a,.p .nl,iV tp]))++[AO.rows 7 0 [[sV cn,.p (.b ch),iV k7,sV n7,iV q7,.p (.l (TyE.cellsL l7)),iV cp]],AO.rows 7 0 [[sV cn,.p (.b ch),iV k7,sV n7,iV q7,.p (.l (TyE.cellsL l7)),iV cp]]]).set 1 (.var [sV nm,a,.gs (H.length+(A.length+1)) 0 0 1,iV tp]):List AO)),⟨⟨Lp.start1 hs5 hR (by intro k hk; simp at hk ⊢; rcases hk with rfl | rfl | rfl <;> omega) (by rw [List.getElem?_set_ne (by omega)]; have hl1:(A.set 1 (.var [sV nm,a,.p .nl,iV tp])).length=A.length:=List.length_set; rw [List.getElem?_append_right (by omega),hl1,Nat.add_sub_cancel_left]; rfl) (by intro h; rcases List.mem_cons.1 h with h | h; omega; rcases List.mem_cons.1 h with h | h; omega; rcases List.mem_cons.1 h with h | h; omega; cases h),get_set (j0' _ _) (by decide),set_get (j1' _ _),fun h=>get_set (jq' _ _ h) (by rintro rfl; exact hq1 h (by simp))⟩,?_⟩⟩,?_⟩
   ·simp only [List.set_append_left]
    rfl
   rintro ⟨j,s',acc2,a2,A2⟩ _ ⟨⟨hL2,k0,k1,kq⟩,rfl⟩
   simp only at hL2 k0 k1 kq ⊢
   simp only [go_sem,simprocAttr]
   refine acall_pure (sHas hTl [124] H _ p s' hp hL2.ok) ?_
   unfold takeM
   cases hg2:isT T [124] s'
   ·obtain ⟨rfl,rfl⟩:=hL2.stop hg2
    have hz:∀ o,(A2.set 0 o)[0]?=some o:=fun o=>set_get k0
    simp only [go_sem,simprocAttr,hg2]
    refine acall_pure (sWant hTl [59] H _ p s' hp hL2.ok) ?_
    simp only [go_sem,simprocAttr,k1,k0,hz]
    refine ⟨_,rfl,LentC.st (.pc (.cons ?_ (.cons (hL2.lent (set_keep (by simp)) ctorE) (.pc .nil))))⟩
    rcases hvn with ⟨rfl,rfl⟩ | ⟨h1,rfl⟩
    ·exact .nl
    ·have h2:=lent_rows (n:=H.length) (H:=H.set p (pvS T lim (wantP T [59] s'))++A2.set 0 (.var [sV nm,.gs (H.length+qn) vn 0 acc.length,a2,iV tp])) (ys:=namesC acc) (id:=H.length+qn) (ver:=vn) (sz:=1) (by omega) (by rw [qxk,List.getElem?_set_ne (by rintro rfl; exact hq1 h1 (by simp)),kq h1]; simp [namesC]) (by intro y hy; unfold namesC at hy; obtain ⟨t,_,rfl⟩:=List.mem_map.1 hy; rfl)
     have h3:(namesC acc).length=acc.length:=by simp [namesC]
     rw [h3] at h2
     exact h2
   ·obtain ⟨j,rfl⟩:=hL2.succ (only_isT T _) hg2
    have hsa:=hL2.ok.adv hT (isT_k hg2).2
    have hs9:=hsa.run sC
    have hgt:=(Stay.adv hT sC hL2.ok.1 (isT_k hg2).2).1
    simp only [go_sem,simprocAttr,hg2]
    refine ⟨_,Qp.hx hp _ _,?_⟩
    simp only [go_sem,simprocAttr,k1]
    refine pcall_chain _ _ (by simp) (Qp.hx hp _ _) (hC.chain hp hsa) ?_
    rcases hq9:ctorP T ty (adv s') with ⟨⟨en,eh,⟨k8,n8,q8,l8⟩,ep⟩,s9⟩
    rw [hq9] at hs9 hgt
    simp only [go_sem,simprocAttr,CtorD.cells,TyE.cells,qxa]
    refine ⟨by intro r hr; simp at hr; subst hr; rfl,?_⟩
    refine hL2.app (fun k o h=>get_ext h _) hTl (by decide) ?_
    intro id ver A' m1 m2 m3
    have g0:=(m3 0 (by simp)).trans k0
    have g1:=(m3 1 (by simp)).trans k1
    simp only [go_sem,simprocAttr,g1]
    exact ⟨(j,s9,acc2++[⟨en,eh,.mk k8 n8 q8 l8,ep⟩],.gs id ver 0 (acc2.length+1),A'.set 1 (.var [sV nm,a,.gs id ver 0 (acc2.length+1),iV tp])),⟨⟨hL2.next (only_isT T _) hg2 hq9 hs9 hgt m1 m2 (set_keep (by simp)) (by intro k hk; rw [List.length_set]; have h1:=hL2.len k hk; exact get_lt ((m3 k hk).trans (List.getElem?_eq_getElem h1))),get_set g0 (by decide),set_get g1,fun h=>get_set ((m3 qn (by simp)).trans (kq h)) (by rintro rfl; exact hq1 h (by simp))⟩,rfl⟩,by have h1:s'.i<s9.i:=hgt; have:=hL2.ok.1; simp only; omega⟩
  ·simp only [go_sem,simprocAttr,hc]
   refine acall_pure (sNow H _ p s' hp hL.ok) ?_
   cases hk:decide ((tokA T s').k=5)
   ·have hg:isK T 5 s'=false:=by rw [hk5,hc,hk]; rfl
    simp only [go_sem,simprocAttr,Tok.cells,hk]
    obtain ⟨rfl,rfl⟩:=hL.stop hg
    refine acall_pure (sWord hTl 3 H _ p s' hp hL.ok) ?_
    rw [hq3]
    have hvn0:∃ qn vn,qn<A.length/\(a≠.p .nl->qn ∉ [0,1]/\A[qn]?=some (.rows 1 vn (acc.map fun s=>[sV s])))/\((acc=[]/\a=.p .nl)\/(a≠.p .nl/\a=.gs (H.length+qn) vn 0 acc.length)):=by
     rcases hL.own with ⟨h1,h2⟩ | ⟨id,ver,e1,h1⟩
     ·exact ⟨0,0,get_lt i0,fun h=>(h h1).elim,.inl ⟨by simpa using h2,h1⟩⟩
     ·obtain ⟨g1,g2⟩:=hL.ids _ _ _ _ e1
      obtain ⟨q,rfl⟩:=Nat.le.dest g1
      rw [Nat.add_sub_cancel_left] at g2
      rw [qxk] at h1
      have e2:a=.gs (H.length+q) ver 0 acc.length:=by rw [e1]; simp
      exact ⟨q,ver,get_lt h1,fun _=>⟨g2,by simpa using h1⟩,.inr ⟨(by rw [e2]; intro h; cases h),e2⟩⟩
    obtain ⟨qn,vn,hql,hqa,hvn⟩:=hvn0
    have hq1:a≠.p .nl->qn ∉ [0,1]:=fun h=>(hqa h).1
    have i0':∀ o,(A.set 1 o)[0]?=some (.var [sV [],.p .nl,.p .nl,iV 0]):=fun o=>get_set i0 (by decide)
    have i1':∀ o,(A.set 1 o)[1]?=some o:=fun o=>set_get i1
    have iq':∀ o,a≠.p .nl->(A.set 1 o)[qn]?=some (.rows 1 vn (acc.map fun s=>[sV s])):=fun o h=>get_set (hqa h).2 (by rintro rfl; exact hq1 h (by simp))
    simp only [go_sem,simprocAttr,hk,i1,i1']
    refine acall_pure (sWant hTl [61] H _ p s3 hp hs3) ?_
    simp only [go_sem,simprocAttr]
    refine ⟨_,Qp.hx hp _ _,?_⟩
    simp only [go_sem,simprocAttr,i1']
    refine pcall_chain _ _ (by simp) (Qp.hx hp _ _) (hC.chain hp hs4) ?_
    obtain ⟨cn,ch,⟨k7,n7,q7,l7⟩,cp⟩:=c0
    rw [hq5]
    simp only [go_sem,simprocAttr,CtorD.cells,TyE.cells,gx0,gxk,Nat.add_zero]
    refine ⟨by intro r hr; simp at hr; subst hr; rfl,?_⟩
    have j0':∀ o B,((A.set 1 o)++B)[0]?=some (.var [sV [],.p .nl,.p .nl,iV 0]):=fun o B=>get_ext (i0' o) B
    have j1':∀ o B,((A.set 1 o)++B)[1]?=some o:=fun o B=>get_ext (i1' o) B
    have jq':∀ o B,a≠.p .nl->((A.set 1 o)++B)[qn]?=some (.rows 1 vn (acc.map fun s=>[sV s])):=fun o B h=>get_ext (iq' o h) B
    simp only [go_sem,simprocAttr,j1']
    have hA2:2<=A.length:=get_lt i1
    refine ⟨Nat × PS × List CtorD × AV × List AO,[0,2,3],fun x st=>(Lp (pvS T lim) T e H p [0,1,qn] 7 CtorD.cells (isT T [124]) (advP (ctorP T ty)) (⟨cn,ch,.mk k7 n7 q7 l7,cp⟩ :: Rl) Rs x.1 x.2.1 x.2.2.1 x.2.2.2.1 x.2.2.2.2/\x.2.2.2.2[0]?=some (.var [sV [],.p .nl,.p .nl,iV 0])/\x.2.2.2.2[1]?=some (.var [sV nm,a,x.2.2.2.1,iV tp])/\(a≠.p .nl->x.2.2.2.2[qn]?=some (.rows 1 vn (acc.map fun s=>[sV s])))) /\
      st=⟨[(0,.ptr p 0),(2,.ptr H.length 0),(3,.ptr (H.length+1) 0)],[],H.set p (pvS T lim x.2.1)++x.2.2.2.2⟩,fun x=>T.length - x.2.1.i,⟨(T.length,s5,([⟨cn,ch,.mk k7 n7 q7 l7,cp⟩]:List CtorD),AV.gs (H.length+(A.length+1)) 0 0 1,(((A.set 1 (.var [sV nm,a,.p .nl,iV tp]))++[AO.rows 7 0 [[sV cn,.p (.b ch),iV k7,sV n7,iV q7,.p (.l (TyE.cellsL l7)),iV cp]],AO.rows 7 0 [[sV cn,.p (.b ch),iV k7,sV n7,iV q7,.p (.l (TyE.cellsL l7)),iV cp]]]).set 1 (.var [sV nm,a,.gs (H.length+(A.length+1)) 0 0 1,iV tp]):List AO)),⟨⟨Lp.start1 hs5 hR (by intro k hk; simp at hk ⊢; rcases hk with rfl | rfl | rfl <;> omega) (by rw [List.getElem?_set_ne (by omega)]; have hl1:(A.set 1 (.var [sV nm,a,.p .nl,iV tp])).length=A.length:=List.length_set; rw [List.getElem?_append_right (by omega),hl1,Nat.add_sub_cancel_left]; rfl) (by intro h; rcases List.mem_cons.1 h with h | h; omega; rcases List.mem_cons.1 h with h | h; omega; rcases List.mem_cons.1 h with h | h; omega; cases h),get_set (j0' _ _) (by decide),set_get (j1' _ _),fun h=>get_set (jq' _ _ h) (by rintro rfl; exact hq1 h (by simp))⟩,?_⟩⟩,?_⟩
    ·simp only [List.set_append_left]
     rfl
    rintro ⟨j,s',acc2,a2,A2⟩ _ ⟨⟨hL2,k0,k1,kq⟩,rfl⟩
    simp only at hL2 k0 k1 kq ⊢
    simp only [go_sem,simprocAttr]
    refine acall_pure (sHas hTl [124] H _ p s' hp hL2.ok) ?_
    unfold takeM
    cases hg2:isT T [124] s'
    ·obtain ⟨rfl,rfl⟩:=hL2.stop hg2
     have hz:∀ o,(A2.set 0 o)[0]?=some o:=fun o=>set_get k0
     simp only [go_sem,simprocAttr,hg2]
     refine acall_pure (sWant hTl [59] H _ p s' hp hL2.ok) ?_
     simp only [go_sem,simprocAttr,k1,k0,hz]
     refine ⟨_,rfl,LentC.st (.pc (.cons ?_ (.cons (hL2.lent (set_keep (by simp)) ctorE) (.pc .nil))))⟩
     rcases hvn with ⟨rfl,rfl⟩ | ⟨h1,rfl⟩
     ·exact .nl
     ·have h2:=lent_rows (n:=H.length) (H:=H.set p (pvS T lim (wantP T [59] s'))++A2.set 0 (.var [sV nm,.gs (H.length+qn) vn 0 acc.length,a2,iV tp])) (ys:=namesC acc) (id:=H.length+qn) (ver:=vn) (sz:=1) (by omega) (by rw [qxk,List.getElem?_set_ne (by rintro rfl; exact hq1 h1 (by simp)),kq h1]; simp [namesC]) (by intro y hy; unfold namesC at hy; obtain ⟨t,_,rfl⟩:=List.mem_map.1 hy; rfl)
      have h3:(namesC acc).length=acc.length:=by simp [namesC]
      rw [h3] at h2
      exact h2
    ·obtain ⟨j,rfl⟩:=hL2.succ (only_isT T _) hg2
     have hsa:=hL2.ok.adv hT (isT_k hg2).2
     have hs9:=hsa.run sC
     have hgt:=(Stay.adv hT sC hL2.ok.1 (isT_k hg2).2).1
     simp only [go_sem,simprocAttr,hg2]
     refine ⟨_,Qp.hx hp _ _,?_⟩
     simp only [go_sem,simprocAttr,k1]
     refine pcall_chain _ _ (by simp) (Qp.hx hp _ _) (hC.chain hp hsa) ?_
     rcases hq9:ctorP T ty (adv s') with ⟨⟨en,eh,⟨k8,n8,q8,l8⟩,ep⟩,s9⟩
     rw [hq9] at hs9 hgt
     simp only [go_sem,simprocAttr,CtorD.cells,TyE.cells,qxa]
     refine ⟨by intro r hr; simp at hr; subst hr; rfl,?_⟩
     refine hL2.app (fun k o h=>get_ext h _) hTl (by decide) ?_
     intro id ver A' m1 m2 m3
     have g0:=(m3 0 (by simp)).trans k0
     have g1:=(m3 1 (by simp)).trans k1
     simp only [go_sem,simprocAttr,g1]
     exact ⟨(j,s9,acc2++[⟨en,eh,.mk k8 n8 q8 l8,ep⟩],.gs id ver 0 (acc2.length+1),A'.set 1 (.var [sV nm,a,.gs id ver 0 (acc2.length+1),iV tp])),⟨⟨hL2.next (only_isT T _) hg2 hq9 hs9 hgt m1 m2 (set_keep (by simp)) (by intro k hk; rw [List.length_set]; have h1:=hL2.len k hk; exact get_lt ((m3 k hk).trans (List.getElem?_eq_getElem h1))),get_set g0 (by decide),set_get g1,fun h=>get_set ((m3 qn (by simp)).trans (kq h)) (by rintro rfl; exact hq1 h (by simp))⟩,rfl⟩,by have h1:s'.i<s9.i:=hgt; have:=hL2.ok.1; simp only; omega⟩
   ·have hg:isK T 5 s'=true:=by rw [hk5,hc,hk]; rfl
    simp only [go_sem,simprocAttr,Tok.cells,hk]
    obtain ⟨j,rfl⟩:=hL.succ o5 hg
    have hsw:=hL.ok.adv hT (show (tokA T s').k≠8 by have:=of_decide_eq_true hk; omega)
    have hw:wordP T 5 s'=((tokA T s').t,adv s'):=by unfold wordP; rw [if_pos hg]
    refine ⟨_,Qp.hx hp _ _,?_⟩
    simp only [go_sem,simprocAttr,i1]
    refine pcall_chain _ _ (by simp) (Qp.hx hp _ _) ((sWord hTl 5).chain hp hL.ok) ?_
    rw [hw]
    simp only [go_sem,simprocAttr,qxa]
    refine ⟨by intro r hr; simp at hr; subst hr; rfl,?_⟩
    refine hL.app (fun k o h=>get_ext h _) hTl (by decide) ?_
    intro id ver A' k1 k2 k3
    have j0:=(k3 0 (by decide)).trans i0
    have j1:=(k3 1 (by decide)).trans i1
    simp only [go_sem,simprocAttr,j1]
    exact ⟨(j,adv s',acc++[(tokA T s').t],.gs id ver 0 (acc.length+1),A'.set 1 (.var [sV [],.gs id ver 0 (acc.length+1),.p .nl,iV tp])),⟨⟨hL.next o5 hg hw hsw (by show s'.i<s'.i+1; omega) k1 k2 (set_keep (by decide)) (by intro k hk; rw [List.length_set]; simp at hk; rcases hk with rfl | rfl; exact get_lt j0; exact get_lt j1),get_set j0 (by decide),set_get j1⟩,rfl⟩,by have:=hL.ok.1; show T.length - (s'.i+1)<T.length - s'.i; omega⟩
end
section
variable {T:List Tok} {lim e:Nat} (hT:ToksOk T) (hTl:T.length<=1073741825)
include hT hTl
theorem sProgC {ty:PM TyE} {ex:PM ExpD} (hty:PF (pvS T lim) T e 172 [] ty tyV) (sty:StayM T ty) (hex:PF (pvS T lim) T e 25 [] ex expV) (sex:StayM T ex):PF (pvS T lim) T e 38 [] (progP T T.length ty ex) progV:=by
 have hD:=sDataC hT hTl hty sty
 have sD:=Pg.stay_dataP (N:=T.length) hT sty
 have oT:Only T (isT T [116,121,112,101]):=only_isT T _
 refine pf_of (pvS_tf T lim) fun H p s hp hs=>?_
 refine call38 (by simp) ?_
 simp only [go_sem,simprocAttr,mc38,mr38]
 unfold progP
 rcases hV:many (isT T [116,121,112,101]) (dataP T T.length ty) T.length s with ⟨ds,s2⟩
 rcases hq5:ex s2 with ⟨⟨k5,n5,u5,t5,q5,l5,m5⟩,s5⟩
 simp only [bindP_e,stepP_e,retP_e,hV,hq5]
 refine ⟨Nat × PS × List DataD × AV × List AO,[0,2,3],fun x st=>(Lp (pvS T lim) T e H p [0,1] 4 DataD.cells (isT T [116,121,112,101]) (dataP T T.length ty) ds s2 x.1 x.2.1 x.2.2.1 x.2.2.2.1 x.2.2.2.2/\x.2.2.2.2[0]?=some (.var [.p .nl,iV 0,sV [],iV 0,sV [],iV 0,.p .nl,.p .nl])/\x.2.2.2.2[1]?=some (.var [x.2.2.2.1,iV 0,sV [],iV 0,sV [],iV 0,.p .nl,.p .nl])) /\
   st=⟨[(0,.ptr p 0),(2,.ptr H.length 0),(3,.ptr (H.length+1) 0)],[],H.set p (pvS T lim x.2.1)++x.2.2.2.2⟩,fun x=>T.length - x.2.1.i,⟨(T.length,s,[],.p .nl,[.var [.p .nl,iV 0,sV [],iV 0,sV [],iV 0,.p .nl,.p .nl],.var [.p .nl,iV 0,sV [],iV 0,sV [],iV 0,.p .nl,.p .nl]]),?_⟩,?_⟩
 ·refine ⟨⟨Lp.start hs hV (by simp),rfl,rfl⟩,?_⟩
  simp only [go_sem,simprocAttr]
 ·rintro ⟨j,s',acc,a,A⟩ _ ⟨⟨hL,i0,i1⟩,rfl⟩
  simp only at hL i0 i1 ⊢
  simp only [go_sem,simprocAttr]
  refine acall_pure (sIs [116,121,112,101] H _ p s' hp hL.ok) ?_
  cases hg:isT T [116,121,112,101] s'
  ·obtain ⟨rfl,rfl⟩:=hL.stop hg
   simp only [go_sem,simprocAttr,hg]
   have hs5:=hL.ok.run sex
   have hc5:=hex H A p s' hp hL.ok
   rw [hq5] at hs5 hc5
   simp only at hs5
   refine acall_pure hc5 ?_
   have hz:∀ o,(A.set 1 o)[1]?=some o:=fun o=>set_get i1
   have hz0:∀ o,(A.set 1 o)[0]?=some (.var [.p .nl,iV 0,sV [],iV 0,sV [],iV 0,.p .nl,.p .nl]):=fun o=>get_set i0 (by decide)
   have hz2:∀ o o',((A.set 1 o).set 0 o')[0]?=some o':=fun o o'=>set_get (hz0 o)
   simp only [go_sem,simprocAttr,ExpD.cells,i1,hz,hz0,qpS hp]
   have hfin:∀ s9,LentN H.length (H.set p (pvS T lim s9)++(A.set 1 (.var [a,iV k5,sV n5,iV u5,sV t5,iV q5,.p (.l (ExpD.cellsL l5)),.p (.l (ExpD.cellsA m5))])).set 0 (.var [a,iV k5,sV n5,iV u5,sV t5,iV q5,.p (.l (ExpD.cellsL l5)),.p (.l (ExpD.cellsA m5))])) (.st [a,iV k5,sV n5,iV u5,sV t5,iV q5,.p (.l (ExpD.cellsL l5)),.p (.l (ExpD.cellsA m5))]) (progV ⟨acc,.mk k5 n5 u5 t5 q5 l5 m5⟩):=fun s9=>by
    refine LentC.st (.cons (hL.lent (fun k o hk h=>?_) dataE) (LentC.pure (ExpD.cells (.mk k5 n5 u5 t5 q5 l5 m5))))
    rw [List.getElem?_set_ne (by rintro rfl; exact hk (by simp)),List.getElem?_set_ne (by rintro rfl; exact hk (by simp))]; exact h
   by_cases hc:s5.c=0
   ·simp only [go_sem,simprocAttr,dT hc]
    refine acall_pure (sNow H _ p s5 hp hs5) ?_
    by_cases hk:(tokA T s5).k=8
    ·have hE:endP T s5=s5:=by unfold endP isK; simp [hc,hk]
     rw [hE]
     simp only [go_sem,simprocAttr,Tok.cells,dT hk,decide_not,Bool.not_true,Bool.not_false,hz,hz0,hz2]
     exact ⟨_,rfl,hfin _⟩
    ·have hE:endP T s5=failP T 11 s5:=by unfold endP isK; simp [hc,hk]
     rw [hE]
     simp only [go_sem,simprocAttr,Tok.cells,dF hk,decide_not,Bool.not_true,Bool.not_false]
     refine acall_pure (sFails 11 H _ p s5 hp hs5) ?_
     simp only [go_sem,simprocAttr,hz,hz0,hz2]
     exact ⟨_,rfl,hfin _⟩
   ·have hE:endP T s5=s5:=by unfold endP; rw [isK_c hc]; simp [failP_c hc]
    rw [hE]
    simp only [go_sem,simprocAttr,dF hc,hz,hz0,hz2]
    exact ⟨_,rfl,hfin _⟩
  ·obtain ⟨j,rfl⟩:=hL.succ oT hg
   have hs9:=hL.ok.run sD
   have hgt:=data_gt hT hTl sty hL.ok.1 hg
   simp only [go_sem,simprocAttr,hg]
   refine ⟨_,Qp.hx hp _ _,?_⟩
   simp only [go_sem,simprocAttr,i1]
   refine pcall_chain _ _ (by simp) (Qp.hx hp _ _) (hD.chain hp hL.ok) ?_
   rcases hq9:dataP T T.length ty s' with ⟨⟨dn,dv,dc,dq⟩,s9⟩
   rw [hq9] at hs9 hgt
   simp only [go_sem,simprocAttr,DataD.cells,qxa]
   refine ⟨by intro r hr; simp at hr; subst hr; rfl,?_⟩
   refine hL.app (fun k o h=>get_ext h _) hTl (by decide) ?_
   intro id ver A' m1 m2 m3
   have j0:=(m3 0 (by decide)).trans i0
   have j1:=(m3 1 (by decide)).trans i1
   simp only [go_sem,simprocAttr,j1]
   exact ⟨(j,s9,acc++[⟨dn,dv,dc,dq⟩],.gs id ver 0 (acc.length+1),A'.set 1 (.var [.gs id ver 0 (acc.length+1),iV 0,sV [],iV 0,sV [],iV 0,.p .nl,.p .nl])),⟨⟨hL.next oT hg hq9 hs9 hgt m1 m2 (set_keep (by decide)) (by intro k hk; rw [List.length_set]; simp at hk; rcases hk with rfl | rfl; exact get_lt j0; exact get_lt j1),get_set j0 (by decide),set_get j1⟩,rfl⟩,by have h1:s'.i<s9.i:=hgt; have:=hL.ok.1; simp only; omega⟩
end
def prog0:ProgD:=⟨[],exp0⟩
def parsedP (s : List UInt8) : ProgD × Int × Int :=
  match lexD s with
  | .inr (c, i) => (prog0, c, i)
  | .inl T => match told (progP T T.length (iTy T T.length 40 41 1) (iExp T T.length 40 41 1)) with
    | .inl e => (e, 0, 0)
    | .inr (c, q) => (prog0, c, q)
theorem parsedP_s {s:List UInt8} {T:List Tok} (h:lexD s=.inl T):told (progP T T.length (iTy T T.length 40 41 1) (iExp T T.length 40 41 1))=told (progP T T.length (sTy T T.length 40 41) (sExp T T.length 40 41)) :=
 told_eq (lexD_ok h).1 (s3_prog (lexD_ok h).1 (s3_tyK (lexD_ok h).1 (lexD_ok h).1.pos 41 0 fun e' h1 h2=>by omega) (s3_expK (lexD_ok h).1 41 0 fun e' h1 h2=>by omega))
theorem parsedP_T {s:List UInt8} {T:List Tok} (h:lexD s=.inl T):parsedP s=(match told (progP T T.length (iTy T T.length 40 41 1) (iExp T T.length 40 41 1)) with | .inl e=>(e,0,0) | .inr (c,q)=>(prog0,c,q)):=by
 unfold parsedP; rw [h]
theorem prog_leaf (b u:Nat) (X:List AO):Env b u X (ProgD.tv prog0) [.p .nl,iV 0,sV [],iV 0,sV [],iV 0,.p .nl,.p .nl]:=Env.nlF (exp_leaf b u X 0 [] 0 [] 0)
theorem Env.progC {b u:Nat} {X:List AO} {cs:List AV} {l:List DataD} {k:Int} {nm:List UInt8} {un:Int} {t:List UInt8} {q:Int} {ks:List ExpD} {as':List ArmD} (h:Env b u X (ProgD.tv ⟨l,.mk k nm un t q ks as'⟩) cs):∃ a c d,cs=[a,iV k,sV nm,iV un,sV t,iV q,c,d]:=by
 have hl:=h.len
 rw [ProgD.tv_len] at hl
 obtain ⟨a,cs,rfl⟩:∃ a cs',cs=a :: cs':=by
  match cs,hl with
  | a :: cs',_=>exact ⟨a,cs',rfl⟩
 obtain ⟨c,d,rfl⟩:=Env.expC (ts:=[.s 4 (l.map DataD.tv)]) (ds:=[a]) (cs:=cs) h rfl
 exact ⟨a,c,d,rfl⟩
theorem implParse {s:List UInt8} {H:List AO} (hs:s.length<=1099511627776) (hg:Rg H) :
  ACall Tryz.prog 14 [.p (.s s)] H (fun r H'=>∃ cs G,r=.tup [.st cs,ftC (parsedP s).2.1 (parsedP s).2.2]/\H'=H++G/\Env H.length H'.length H' (parsedP s).1.tv cs):=by
 refine call14 (by simp) ?_
 simp only [go_sem,simprocAttr,mc14,mr14]
 refine acall_pure (lexC (by omega) (hg.ext _)) ?_
 rcases hl:lexD s with T | ⟨c,i⟩
 rotate_left
 ·have hp:parsedP s=(prog0,c,(i:Int)):=by unfold parsedP; rw [hl]
  rw [lex_r,hp]
  simp only [go_sem,simprocAttr,dF (lexD_ne hl),dT (lexD_ne hl),decide_not,Bool.not_true,Bool.not_false]
  refine ⟨H++[.dead,_,_],hx1 _ _ _,?_⟩
  simp only [go_sem,simprocAttr]
  refine ⟨hx1 _ _ _,?_⟩
  refine ⟨_,_,rfl,rfl,?_⟩
  exact prog_leaf _ _ _
 ·obtain ⟨hT,hTl⟩:=lexD_ok hl
  have hTl:T.length<=1073741825:=by omega
  rw [lex_l,parsedP_T hl,told_e]
  simp only [go_sem,simprocAttr,List.length_append]
  rcases hq:progP T T.length (iTy T T.length 40 41 1) (iExp T T.length 40 41 1) ⟨0,0,0,0,0⟩ with ⟨⟨ds,k1,n1,u1,t1,q1,l1,m1⟩,s1⟩
  have hs1:=(Ok0 hT).run (stay_progP (N:=T.length) hT (stay_iTy (N:=T.length) hT 40 41 1) (stay_iExp (N:=T.length) hT 40 41 1))
  rw [hq] at hs1
  simp only at hs1
  refine (PX.top (iProgC hT hTl (iTyK hT hTl 41 1 (by omega) (by omega) (by omega)) (stay_iTy hT 40 41 1) (iExpK hT hTl 41 1 (by omega) (by omega) (by omega)) (stay_iExp hT 40 41 1) (H.length+3)) ProgD.wf hq (by rw [gxk]; rfl) (Ok0 hT)).mono ?_
  rintro r X' ⟨cs,R,rfl,rfl,hE⟩
  obtain ⟨a1,c1,b1,rfl⟩:=Env.progC hE
  rw [sxk] at hE ⊢
  have hE4:=fun (a' b' c' d':AO) (S:List AO) (v:Nat) (hv:H.length+4+R.length<=v)=>env4 (a':=a') (b':=b') (c':=c') (d':=d') (S:=S) (v:=v) hv hE
  simp only [go_sem,simprocAttr]
  refine acall_pure (iFailed.at (by rw [gxk]; rfl) hs1) ?_
  by_cases hc:s1.c=0
  ·rw [if_pos hc]
   simp only [go_sem,simprocAttr,dT hc,Bool.not_true,Bool.not_false]
   exact ⟨_,_,rfl,rfl,hE4 _ _ _ _ _ _ (by omega)⟩
  ·rw [if_neg hc]
   simp only [go_sem,simprocAttr,dF hc,Bool.not_true,Bool.not_false]
   refine ⟨H++(.dead :: _),hx1 _ _ _,?_⟩
   simp only [go_sem,simprocAttr,pvI]
   refine ⟨hx1 _ _ _,?_⟩
   refine ⟨_,_,rfl,rfl,?_⟩
   exact prog_leaf _ _ _
theorem specParse {s:List UInt8} {H:List AO} (hs:s.length<=1099511627776) :
  ACall Tryz.prog 13 [.p (.s s)] H (pureQ (.tup [progV (parsedP s).1,ftC (parsedP s).2.1 (parsedP s).2.2]) H):=by
 refine acall_frz1 ?_
 refine call13 (by simp) ?_
 simp only [go_sem,simprocAttr,mc13,mr13]
 refine acall_pure (lexIC (by omega)) ?_
 have lz:∀ (X:List AO) (c q:Int),LentN H.length X (.tup [.st [.p .nl,iV 0,sV [],iV 0,sV [],iV 0,.p .nl,.p .nl],ftC c q]) (.tup [progV prog0,ftC c q]):=fun X c q=>by
  refine lent_two ?_ (tf_ft c q)
  exact LentC.st (.cons .nl (.pc (.pc (.pc (.pc (.pc (.cons (by rw [ExpD.cellsL]; exact .nl) (.cons (by rw [ExpD.cellsA]; exact .nl) .nil))))))))
 rcases hl:lexD s with T | ⟨c,i⟩
 rotate_left
 ·have hp:parsedP s=(prog0,c,(i:Int)):=by unfold parsedP; rw [hl]
  rw [lex_r,hp]
  simp only [go_sem,simprocAttr,dF (lexD_ne hl),dT (lexD_ne hl),decide_not,Bool.not_true,Bool.not_false]
  refine ⟨H++[.dead,_,_],hx1 _ _ _,?_⟩
  simp only [go_sem,simprocAttr]
  refine ⟨hx1 _ _ _,?_⟩
  exact ⟨_,rfl,lz _ _ _⟩
 ·obtain ⟨hT,hTl⟩:=lexD_ok hl
  have hTl:T.length<=1073741825:=by omega
  rw [lex_l,parsedP_T hl,parsedP_s hl,told_e]
  simp only [go_sem,simprocAttr,List.length_append]
  rcases hq:progP T T.length (sTy T T.length 40 41) (sExp T T.length 40 41) ⟨0,0,0,0,0⟩ with ⟨⟨ds,k1,n1,u1,t1,q1,l1,m1⟩,s1⟩
  have hs1:=(Ok0 hT).run (stay_progP (N:=T.length) hT (stay_sTy (N:=T.length) hT 40 41) (stay_sExp (N:=T.length) hT 40 41))
  rw [hq] at hs1
  simp only at hs1
  have hcall:=(sProgC hT hTl (sTyK hT hTl (lim:=40) (by omega) 41 0 rfl (by omega)) (stay_sTy hT 40 41) (sExpK hT hTl (lim:=40) (by omega) 41 0 rfl (by omega)) (stay_sExp hT 40 41)).at (X:=H++[.var [.p .nl,iV 0,sV [],iV 0,sV [],iV 0,.p .nl,.p .nl],.var [iV 0,iV 0],.var [iV 0,iV 0],pvS T 40 ⟨0,0,0,0,0⟩]) (p:=H.length+3) (by rw [gxk]; rfl) (Ok0 hT)
  rw [hq] at hcall
  refine acall_pure hcall ?_
  by_cases hc:s1.c=0
  ·rw [if_pos hc]
   simp only [go_sem,simprocAttr,ProgD.cells,ExpD.cells,pvS,dT hc,decide_not,Bool.not_true,Bool.not_false]
   exact ⟨_,rfl,lent_two (lentP (tf_av (ProgD.cells ⟨ds,.mk k1 n1 u1 t1 q1 l1 m1⟩))) (tf_ft 0 0)⟩
  ·rw [if_neg hc]
   simp only [go_sem,simprocAttr,ProgD.cells,ExpD.cells,pvS,dF hc,decide_not,Bool.not_true,Bool.not_false]
   refine ⟨H++(.dead :: _),hx1 _ _ _,?_⟩
   simp only [go_sem,simprocAttr]
   refine ⟨hx1 _ _ _,?_⟩
   exact ⟨_,rfl,lz _ _ _⟩
end Go.Proofs.YtghcmccjchdgeaaGreatDoor.Qp
namespace Go.Proofs.YtghcmccjchdgeaaGreatDoor.Pg
open Go.AM
theorem mcC_app (a b:List TV):mcC (a++b)=mcC a+mcC b:=by
 induction a with
 | nil=>simp [mcC]
 | cons t a ih=>rw [List.cons_append,mcC,mcC,ih]; omega
structure Bx (T:List Tok) {α:Type} (m:PM α) (φ:α->Int):Prop where
 st:StayM T m
 le:∀ s,s.i<T.length->(m s).2.c=0->φ (m s).1+10 * (s.i:Int)<=10 * ((m s).2.i:Int)
section
variable {T:List Tok}
theorem stay_c {α:Type} {m:PM α} (h:StayM T m) {s:PS} (hi:s.i<T.length) (hc:(m s).2.c=0):s.c=0:=by
 rcases Decidable.em (s.c=0) with h0 | h0
 ·exact h0
 ·have:=(h s hi).2.2.1 h0; rw [this] at hc; exact hc
theorem bx_ret {α:Type} {a:α} {φ:α->Int} (h:φ a<=0):Bx T (retP a) φ:=⟨StayM.ret a,fun s hi hc=>by show φ a+_<=_; have:(retP a s).2=s:=rfl; rw [this]; omega⟩
theorem bx_mono {α:Type} {m:PM α} {φ ψ:α->Int} (h:Bx T m ψ) (k:∀ a,φ a<=ψ a):Bx T m φ:=⟨h.st,fun s hi hc=>by have:=h.le s hi hc; have:=k (m s).1; omega⟩
theorem bx_bind {α β:Type} {m:PM α} {k:α->PM β} {ψ:α->Int} {φ:β->Int} (h:Bx T m ψ) (hk:∀ a,Bx T (k a) (fun b=>φ b - ψ a)):Bx T (bindP m k) φ :=
 ⟨StayM.bind h.st fun a=>(hk a).st,fun s hi hc=>by
  have h1:=(h.st s hi).2.1
  have hc1:=stay_c (hk (m s).1).st h1 hc
  have e1:=h.le s hi hc1
  have e2:=(hk (m s).1).le _ h1 hc
  simp only [bindP_e] at *
  omega⟩
theorem bx_want (hT : ToksOk T) {α : Type} {x : List UInt8} {m : PM α} {φ : α → Int} (h : Bx T m (fun b => φ b - 10)) : Bx T (stepP (wantP T x) m) φ :=
  ⟨StayM.step (stay_want hT x) h.st, fun s hi hc => by
    have h1 := (stay_want hT x s hi).2.1
    have hc1 := stay_c h.st h1 hc
    have e2 := h.le _ h1 hc
    have hx : isT T x s = true := by
      cases hb : isT T x s with
      | true => rfl
      | false =>
        exfalso
        have : wantP T x s = failP T 11 s := by unfold wantP; rw [hb]; rfl
        rw [this] at hc1
        by_cases h0 : s.c = 0
        · rw [failP_0 h0] at hc1; exact absurd hc1 (show ¬ ((11 : Int) = 0) by decide)
        · rw [failP_c h0] at hc1; exact h0 hc1
    have ew : wantP T x s = adv s := by unfold wantP; rw [if_pos hx]
    simp only [stepP_e] at *
    rw [ew] at e2 ⊢
    simp only [adv] at *
    omega⟩
theorem bx_end {α:Type} {m:PM α} {φ:α->Int} (h:Bx T m φ):Bx T (stepP (endP T) m) φ :=
 ⟨StayM.step (stay_end T) h.st,fun s hi hc=>by
  have h1:=stay_end T s hi
  have e2:=h.le _ h1.2.1 hc
  have:=h1.1
  simp only [stepP_e] at *
  omega⟩
theorem bx_now {α:Type} {k:Tok->PM α} {φ:α->Int} (h:∀ t,Bx T (k t) φ):Bx T (nowP T k) φ:=⟨StayM.now fun t=>(h t).st,fun s hi hc=>(h (tokA T s)).le s hi hc⟩
theorem bx_iteG (hT : ToksOk T) {α : Type} {g : PS → Bool} {m1 m2 : PM α} {φ : α → Int} (hg : Only T g) (h1 : Bx T m1 (fun b => φ b - 10)) (h2 : Bx T m2 φ) : Bx T (iteG g m1 m2) φ :=
  ⟨StayM.iteG hT hg h1.st h2.st, fun s hi hc => by
    cases hb : g s with
    | true =>
      rw [iteG_t hb] at hc ⊢
      have := h1.le (adv s) (by simpa [adv] using adv_at hT hi (hg s hb).2) hc
      simp only [adv] at *
      omega
    | false =>
      rw [iteG_f hb] at hc ⊢
      exact h2.le s hi hc⟩
theorem bx_iteB {α:Type} {g:PS->Bool} {m1 m2:PM α} {φ:α->Int} (h1:Bx T m1 φ) (h2:Bx T m2 φ):Bx T (iteB g m1 m2) φ :=
 ⟨StayM.iteB h1.st h2.st,fun s hi hc=>by
  cases hb:g s with
  | true=>rw [iteB_t hb] at hc ⊢; exact h1.le s hi hc
  | false=>rw [iteB_f hb] at hc ⊢; exact h2.le s hi hc⟩
theorem bx_bad {α:Type} {m1 m2:PM α} {φ:α->Int} (h1:StayM T m1) (h1':∀ s,(m1 s).2=s) (h2:Bx T m2 φ):Bx T (iteB (fun s=>!decide (s.c=0)) m1 m2) φ :=
 ⟨StayM.iteB h1 h2.st,fun s hi hc=>by
  by_cases h0:s.c=0
  ·have hb:(fun s:PS=>!decide (s.c=0)) s=false:=by simp [h0]
   rw [iteB_f hb] at hc ⊢; exact h2.le s hi hc
  ·have hb:(fun s:PS=>!decide (s.c=0)) s=true:=by simp [h0]
   rw [iteB_t hb,h1'] at hc; exact absurd hc h0⟩
theorem bx_word (hT : ToksOk T) {k : Int} (hk : k ≠ 8) : Bx T (wordP T k) (fun _ => 10) :=
  ⟨StayM.word hT hk, fun s hi hc => by
    cases hb : isK T k s with
    | true =>
      have e : wordP T k s = ((tokA T s).t, adv s) := by unfold wordP; rw [if_pos hb]
      rw [e]; simp only [adv]; omega
    | false =>
      exfalso
      have e : (wordP T k s).2 = failP T 11 s := by unfold wordP; rw [hb]; rfl
      rw [e] at hc
      by_cases h0 : s.c = 0
      · rw [failP_0 h0] at hc; exact absurd hc (show ¬ ((11 : Int) = 0) by decide)
      · rw [failP_c h0] at hc; exact h0 hc⟩
theorem bx_deep {α:Type} {most d:Nat} {z:α} {m:PM α} {φ:α->Int} (h:Bx T m φ):Bx T (deepP T most d z m) φ :=
 ⟨StayM.deep h.st,fun s hi hc=>by
  have h1:=stay_deeper T most d s hi
  unfold deepP at *
  by_cases h0:(deeperP T most d s).c=0
  ·rw [if_pos h0] at hc ⊢
   have:=h.le _ h1.2.1 hc
   have:=h1.1
   omega
  ·rw [if_neg h0] at hc
   exact absurd hc h0⟩
def sumI {α:Type} (ψ:α->Int):List α->Int
 | []=>0
 | a :: l=>ψ a+sumI ψ l
theorem bx_many {α : Type} {g : PS → Bool} {m : PM α} {ψ : α → Int} (hg : Only T g) (hm : Bx T m ψ) (n : Nat) : Bx T (many g m n) (fun l => sumI ψ l) :=
  ⟨StayM.many hg hm.st n, by
    induction n with
    | zero => intro s hi hc; show sumI ψ [] + _ ≤ _; rw [sumI]; show 0 + 10 * (s.i : Int) ≤ 10 * (s.i : Int); omega
    | succ n ih =>
      intro s hi hc
      cases hb : g s with
      | false => rw [many_c hb]; show sumI ψ [] + _ ≤ _; rw [sumI]; show 0 + 10 * (s.i : Int) ≤ 10 * (s.i : Int); omega
      | true =>
        have h1 := (hm.st s hi).2.1
        have e : many g m (n + 1) s = ((m s).1 :: (many g m n (m s).2).1, (many g m n (m s).2).2) := by rw [many, if_pos hb]
        rw [e] at hc ⊢
        have hc1 := stay_c (StayM.many hg hm.st n) h1 hc
        have e1 := hm.le s hi hc1
        have e2 := ih _ h1 hc
        simp only [sumI] at *
        omega⟩
theorem bx_manyA (hT : ToksOk T) {α : Type} {g : PS → Bool} {m : PM α} {ψ : α → Int} (hg : Only T g) (hm : Bx T m ψ) (n : Nat) : Bx T (many g (advP m) n) (fun l => sumI (fun a => ψ a + 10) l) :=
  ⟨StayM.manyA hT hg hm.st n, by
    induction n with
    | zero => intro s hi hc; show sumI _ [] + _ ≤ _; rw [sumI]; show 0 + 10 * (s.i : Int) ≤ 10 * (s.i : Int); omega
    | succ n ih =>
      intro s hi hc
      cases hb : g s with
      | false => rw [many_c hb]; show sumI _ [] + _ ≤ _; rw [sumI]; show 0 + 10 * (s.i : Int) ≤ 10 * (s.i : Int); omega
      | true =>
        have h0 : (adv s).i < T.length := by simpa [adv] using adv_at hT hi (hg s hb).2
        have h1 := (hm.st _ h0).2.1
        have e : many g (advP m) (n + 1) s = ((m (adv s)).1 :: (many g (advP m) n (m (adv s)).2).1, (many g (advP m) n (m (adv s)).2).2) := by rw [many, if_pos hb]; rfl
        rw [e] at hc ⊢
        have hc1 := stay_c (StayM.manyA hT hg hm.st n) h1 hc
        have e1 := hm.le _ h0 hc1
        have e2 := ih _ h1 hc
        simp only [sumI, adv] at *
        omega⟩
theorem bx_carry {α : Type} {g : PS → Bool} {m : α → PM α} {φ : α → Int} (hg : Only T g) (hm : ∀ a, Bx T (m a) (fun b => φ b - φ a)) (n : Nat) (a : α) : Bx T (carry g m n a) (fun b => φ b - φ a) :=
  ⟨StayM.carry hg (fun a => (hm a).st) n a, by
    induction n generalizing a with
    | zero => intro s hi hc; show φ a - φ a + 10 * (s.i : Int) ≤ 10 * (s.i : Int); omega
    | succ n ih =>
      intro s hi hc
      cases hb : g s with
      | false => rw [carry_c hb]; show φ a - φ a + 10 * (s.i : Int) ≤ 10 * (s.i : Int); omega
      | true =>
        have h1 := ((hm a).st s hi).2.1
        have e : carry g m (n + 1) a s = carry g m n (m a s).1 (m a s).2 := by rw [carry, if_pos hb]
        rw [e] at hc ⊢
        have hc1 := stay_c (StayM.carry hg (fun a => (hm a).st) n (m a s).1) h1 hc
        have e1 := (hm a).le s hi hc1
        have e2 := ih _ _ h1 hc
        omega⟩
end
def phP (p:PatD):Int:=(mcC p.tv:Int)+5
def phE (e:ExpD):Int:=(mcC e.tv:Int)+5
def phA (a:ArmD):Int:=(mcC a.tv:Int)+20
theorem sum_P (c:Int):∀ l:List PatD,sumI (fun a=>phP a+c) l=(mcR (l.map PatD.tv):Int)+(5+c) * l.length
 | []=>by simp [sumI,mcR]
 | a :: l=>by rw [sumI,sum_P c l]; simp only [phP,List.map_cons,mcR,List.length_cons]; push_cast; rw [Int.mul_add]; omega
theorem sum_E (c:Int):∀ l:List ExpD,sumI (fun a=>phE a+c) l=(mcR (l.map ExpD.tv):Int)+(5+c) * l.length
 | []=>by simp [sumI,mcR]
 | a :: l=>by rw [sumI,sum_E c l]; simp only [phE,List.map_cons,mcR,List.length_cons]; push_cast; rw [Int.mul_add]; omega
theorem sum_A (c:Int):∀ l:List ArmD,sumI (fun a=>phA a+c) l=(mcR (l.map ArmD.tv):Int)+(20+c) * l.length
 | []=>by simp [sumI,mcR]
 | a :: l=>by rw [sumI,sum_A c l]; simp only [phA,List.map_cons,mcR,List.length_cons]; push_cast; rw [Int.mul_add]; omega
theorem mc_pat (k n u p ks):mcC (PatD.tv (.mk k n u p ks))=4+mcR (ks.map PatD.tv):=by rw [PatD.tv,PatD.tvL_eq]; simp only [mcC,mcT]; omega
theorem mc_exp (k n u t p ks as'):mcC (ExpD.tv (.mk k n u t p ks as'))=5+(mcR (ks.map ExpD.tv)+mcR (as'.map ArmD.tv)):=by rw [ExpD.tv,ExpD.tvL_eq,ExpD.tvA_eq]; simp only [mcC,mcT]; omega
theorem mc_leaf (k n u t p):mcC (ExpD.tv (leaf k n u t p))=5:=by rw [leaf,mc_exp]; simp [mcR]
section
variable {T:List Tok} {N:Nat} (hT:ToksOk T)
include hT
theorem leP {k n u p}:phP (.mk k n u p [])<=10:=by simp only [phP,mc_pat]; simp [mcR]
theorem leE {k n u t p}:phE (leaf k n u t p)<=10:=by simp only [phE,mc_leaf]; omega
theorem bx_patBr {pat:PM PatD} (h:Bx T pat phP):Bx T (iPatBr T N pat) phP :=
 bx_now fun t=>bx_want hT <| bx_iteG hT (only_isT T _) (bx_ret (by have:=leP hT (k:=5) (n:=[]) (u:=0) (p:=t.p); omega)) <|
  bx_bad (StayM.ret _) (fun _=>rfl) <| bx_bind h fun a=>bx_bind (bx_manyA hT (only_isT T _) h N) fun l=>bx_want hT <| bx_ret (by
   rw [sum_P]
   split
   ·rename_i h0; subst h0; simp only [List.map_nil,mcR,List.length_nil]; omega
   ·simp only [phP,mc_pat,List.map_cons,mcR]; push_cast; omega)
theorem bx_patA {pat:PM PatD} (h:Bx T pat phP):Bx T (iPatA T N pat) phP :=
 bx_now fun t=>bx_iteG hT (only_isT T _) (bx_ret (by have:=leP hT (k:=1) (n:=[]) (u:=0) (p:=t.p); omega)) <|
  bx_iteG hT (only_isK T (by decide)) (bx_ret (by have:=leP hT (k:=2) (n:=t.t) (u:=0) (p:=t.p); omega)) <|
  bx_iteG hT (only_isK T (by decide)) (bx_ret (by have:=leP hT (k:=3) (n:=[]) (u:=t.n) (p:=t.p); omega)) <|
  bx_iteG hT (only_isT T _) (bx_ret (by have:=leP hT (k:=4) (n:=[]) (u:=1) (p:=t.p); omega)) <|
  bx_iteG hT (only_isT T _) (bx_ret (by have:=leP hT (k:=4) (n:=[]) (u:=0) (p:=t.p); omega)) <|
  bx_iteG hT (only_isK T (by decide)) (bx_ret (by have:=leP hT (k:=7) (n:=t.t) (u:=0) (p:=t.p); omega)) (bx_patBr hT h)
theorem bx_pat1 {most d:Nat} {pat:PM PatD} (h:Bx T pat phP):Bx T (iPatB T N most pat d) phP :=
 bx_deep <| bx_now fun t=>bx_iteG hT (only_isK T (by decide)) (bx_iteB (bx_bind (bx_patA hT h) fun a=>bx_ret (by simp only [phP,mc_pat,List.map_cons,List.map_nil,mcR]; push_cast; omega)) (bx_ret (by have:=leP hT (k:=7) (n:=t.t) (u:=0) (p:=t.p); omega))) (bx_patA hT h)
theorem bx_pat {most : Nat} : ∀ k d, 0 < k → most + 2 ≤ d + k → Bx T (iPat T N most k d) phP
  | 0, d, h, _ => absurd h (by omega)
  | k + 1, d, _, hk => by
    rcases Nat.lt_or_ge most d with hd | hd
    · exact ⟨stay_iPat hT most (k + 1) d, fun s hi hc => by
        exfalso
        rw [iPat] at hc
        unfold iPatB deepP at hc
        have hne : (deeperP T most d s).c ≠ 0 := by
          unfold deeperP
          simp only [if_pos hd]
          by_cases h0 : s.c = 0
          · rw [failP_0 h0, if_neg (show ¬ ((12 : Int) = 0) by decide)]; exact (by decide : (12 : Int) ≠ 0)
          · rw [failP_c h0, if_neg h0]; exact h0
        rw [if_neg hne] at hc
        exact hne hc⟩
    · rw [iPat]; exact bx_pat1 hT (bx_pat k (d + 1) (by omega) (by omega))
theorem bx_br {ex:PM ExpD} (h:Bx T ex phE):Bx T (iBr T N ex) phE :=
 bx_now fun t=>bx_want hT <| bx_iteG hT (only_isT T _) (bx_ret (by have:=leE hT (k:=4) (n:=[]) (u:=0) (t:=[]) (p:=t.p); omega)) <|
  bx_bad (StayM.ret _) (fun _=>rfl) <| bx_bind h fun a=>bx_bind (bx_manyA hT (only_isT T _) h N) fun l=>bx_want hT <| bx_ret (by
   rw [sum_E]
   split
   ·rename_i h0; subst h0; simp only [List.map_nil,mcR,List.length_nil]; omega
   ·simp only [phE,mc_exp,List.map_cons,List.map_nil,mcR]; push_cast; omega)
theorem bx_atom {ex:PM ExpD} (h:Bx T ex phE):Bx T (iAtom T N ex) phE :=
 bx_now fun t=>bx_iteG hT (only_isK T (by decide)) (bx_ret (by have:=leE hT (k:=1) (n:=[]) (u:=t.n) (t:=[]) (p:=t.p); omega)) <|
  bx_iteG hT (only_isK T (by decide)) (bx_ret (by have:=leE hT (k:=2) (n:=[]) (u:=0) (t:=t.t) (p:=t.p); omega)) <|
  bx_iteG hT (only_isT T _) (bx_ret (by have:=leE hT (k:=3) (n:=[]) (u:=1) (t:=[]) (p:=t.p); omega)) <|
  bx_iteG hT (only_isT T _) (bx_ret (by have:=leE hT (k:=3) (n:=[]) (u:=0) (t:=[]) (p:=t.p); omega)) <|
  bx_iteG hT (only_isK T (by decide)) (bx_ret (by have:=leE hT (k:=5) (n:=t.t) (u:=0) (t:=[]) (p:=t.p); omega)) <|
  bx_iteG hT (only_isK T (by decide)) (bx_ret (by have:=leE hT (k:=6) (n:=t.t) (u:=0) (t:=[]) (p:=t.p); omega)) <|
  bx_iteG hT (only_isT T _) (bx_ret (by have:=leE hT (k:=15) (n:=t.t) (u:=0) (t:=[]) (p:=t.p); omega)) (bx_br hT h)
theorem nd1 (k n p a):phE (node1 k n p a)=phE a+5:=by simp only [phE,node1,mc_exp,List.map_cons,List.map_nil,mcR]; push_cast; omega
theorem nd2 (k n p a b):phE (node2 k n p a b)=phE a+phE b:=by simp only [phE,node2,mc_exp,List.map_cons,List.map_nil,mcR]; push_cast; omega
theorem bx_pre {ex:PM ExpD} (h:Bx T ex phE):Bx T (iPre T N ex) phE :=
 bx_now fun t=>bx_iteG hT only_primT (bx_bind (bx_atom hT h) fun a=>bx_ret (by rw [nd1 hT]; omega)) <|
  bx_iteG hT (only_isK T (by decide)) (bx_iteB (bx_bind (bx_atom hT h) fun a=>bx_ret (by rw [nd1 hT]; omega)) (bx_ret (by have:=leE hT (k:=6) (n:=t.t) (u:=0) (t:=[]) (p:=t.p); omega))) (bx_atom hT h)
theorem bx_app {ex:PM ExpD} (h:Bx T ex phE):Bx T (iApp T N ex) phE :=
 bx_bind (bx_pre hT h) fun a=>bx_carry only_atNx (fun a=>bx_bind (bx_atom hT h) fun b=>bx_ret (by rw [nd2 hT]; omega)) N a
theorem bx_rowG {L : List (List UInt8)} {side : PM ExpD} (h : Bx T side phE) (a : ExpD) : Bx T (rowG T N L side a) (fun b => phE b - phE a) := by
  refine ⟨stay_rowG hT h.st, ?_⟩
  unfold rowG
  induction N generalizing a with
  | zero => intro s hi hc; show phE a - phE a + 10 * (s.i : Int) ≤ 10 * (s.i : Int); omega
  | succ n ih =>
    intro s hi hc
    cases hb : opT T L s with
    | false => rw [carry_c hb]; show phE a - phE a + 10 * (s.i : Int) ≤ 10 * (s.i : Int); omega
    | true =>
      have h0 : (adv s).i < T.length := by simpa [adv] using adv_at hT hi (only_opT L s hb).2
      have h1 := (h.st _ h0).2.1
      have e : carry (opT T L) (fun a => nowP T fun t => advP (bindP side fun b => retP (node2 14 t.t t.p a b))) (n + 1) a s = carry (opT T L) (fun a => nowP T fun t => advP (bindP side fun b => retP (node2 14 t.t t.p a b))) n (node2 14 (tokA T s).t (tokA T s).p a (side (adv s)).1) (side (adv s)).2 := by rw [carry, if_pos hb]; rfl
      rw [e] at hc ⊢
      have hc1 := stay_c (stay_rowG (N := n) (L := L) (a := node2 14 (tokA T s).t (tokA T s).p a (side (adv s)).1) hT h.st) h1 hc
      have e1 := h.le _ h0 hc1
      have e2 := ih _ _ h1 hc
      rw [nd2 hT] at e2
      simp only [adv] at *
      omega
theorem bx_row1 {ex:PM ExpD} (h:Bx T ex phE):Bx T (iRow1 T N ex) phE:=bx_bind (bx_app hT h) fun a=>bx_rowG hT (bx_app hT h) a
theorem bx_row0 {ex:PM ExpD} (h:Bx T ex phE):Bx T (iRow0 T N ex) phE:=bx_bind (bx_row1 hT h) fun a=>bx_rowG hT (bx_row1 hT h) a
theorem bx_onceG {g:PS->Bool} (hg:Only T g) {side:PM ExpD} (h:Bx T side phE) (a:ExpD):Bx T (onceG T g side a) (fun b=>phE b - phE a) :=
 bx_now fun t=>bx_iteG hT hg (bx_bind h fun b=>bx_ret (by rw [nd2 hT]; omega)) (bx_ret (by omega))
theorem bx_once1 {ex:PM ExpD} (h:Bx T ex phE):Bx T (iOnce1 T N ex) phE:=bx_bind (bx_row0 hT h) fun a=>bx_onceG hT ((only_isT T _).or (only_isT T _)) (bx_row0 hT h) a
theorem bx_once0 {ex:PM ExpD} (h:Bx T ex phE):Bx T (iOnce0 T N ex) phE:=bx_bind (bx_once1 hT h) fun a=>bx_onceG hT (only_isT T _) (bx_once1 hT h) a
theorem bx_let {ex:PM ExpD} (h:Bx T ex phE) (p:Int):Bx T (letP T ex p) phE :=
 bx_iteG hT (only_isT T _)
  (bx_bind (bx_word hT (by decide)) fun n=>bx_bind (bx_word hT (by decide)) fun f=>bx_want hT <| bx_bind h fun a=>bx_want hT <| bx_bind h fun b=>bx_ret (by simp only [phE,mc_exp,List.map_cons,List.map_nil,mcR]; push_cast; omega))
  (bx_bind (bx_word hT (by decide)) fun n=>bx_want hT <| bx_bind h fun a=>bx_want hT <| bx_bind h fun b=>bx_ret (by simp only [phE,mc_exp,List.map_cons,List.map_nil,mcR]; push_cast; omega))
theorem bx_fun {ex:PM ExpD} (h:Bx T ex phE) (p:Int):Bx T (funP T ex p) phE :=
 bx_bind (bx_word hT (by decide)) fun n=>bx_want hT <| bx_bind h fun a=>bx_ret (by rw [nd1 hT]; omega)
theorem bx_ifP {ex:PM ExpD} (h:Bx T ex phE) (p:Int):Bx T (ifP T ex p) phE :=
 bx_bind h fun a=>bx_want hT <| bx_bind h fun b=>bx_want hT <| bx_bind h fun c=>bx_ret (by simp only [phE,mc_exp,List.map_cons,List.map_nil,mcR]; push_cast; omega)
theorem bx_arm {pat:PM PatD} {ex:PM ExpD} (hp:Bx T pat phP) (h:Bx T ex phE):Bx T (armP T pat ex) phA :=
 bx_bind hp fun a=>bx_want hT <| bx_bind h fun b=>bx_ret (by simp only [phA,phP,phE,ArmD.tv,mcC_app]; push_cast; omega)
theorem bx_match {pat:PM PatD} {ex:PM ExpD} (hp:Bx T pat phP) (h:Bx T ex phE) (p:Int):Bx T (iMatch T N pat ex p) phE :=
 bx_bind h fun a=>bx_want hT <| bx_want hT <| bx_bind (ψ:=fun l=>sumI phA l) (m:=iteB (fun s=>decide (s.c=0)) (armsP T N (armP T pat ex)) (retP []))
  (bx_iteB (bx_bind (bx_arm hT hp h) fun a=>bx_bind (bx_manyA hT (only_isT T _) (bx_arm hT hp h) N) fun l=>bx_ret (by
   have e1:=sum_A 10 l
   have e2:=sum_A 0 l
   simp only [Int.add_zero] at e2
   simp only [sumI,e1,e2]
   omega)) (bx_ret (by simp [sumI])))
  fun l=>bx_want hT <| bx_ret (by
   have e2:=sum_A 0 l
   simp only [Int.add_zero] at e2
   rw [e2]
   simp only [phE,mc_exp,List.map_cons,List.map_nil,mcR]; push_cast; omega)
theorem bx_exp1 {most d:Nat} {pat:PM PatD} {ex:PM ExpD} (hp:Bx T pat phP) (h:Bx T ex phE):Bx T (iExpB T N most pat ex d) phE :=
 bx_deep <| bx_now fun t=>bx_iteG hT (only_isT T _) (bx_mono (bx_let hT h t.p) fun a=>by omega) <| bx_iteG hT (only_isT T _) (bx_mono (bx_fun hT h t.p) fun a=>by omega) <|
  bx_iteG hT (only_isT T _) (bx_mono (bx_ifP hT h t.p) fun a=>by omega) <| bx_iteG hT (only_isT T _) (bx_mono (bx_match hT hp h t.p) fun a=>by omega) (bx_once0 hT h)
theorem deep_bad {α:Type} {most d:Nat} {z:α} {m:PM α} {s:PS} (hd:most<d):¬ (deepP T most d z m s).2.c=0:=by
 have hne:(deeperP T most d s).c≠0:=by
  unfold deeperP
  simp only [if_pos hd]
  by_cases h0:s.c=0
  ·rw [failP_0 h0,if_neg (show ¬ ((12:Int)=0) by decide)]; exact (by decide:(12:Int)≠0)
  ·rw [failP_c h0,if_neg h0]; exact h0
 unfold deepP
 rw [if_neg hne]
 exact hne
theorem bx_exp {most : Nat} : ∀ k d, 0 < k → most + 2 ≤ d + k → Bx T (iExp T N most k d) phE
  | 0, d, h, _ => absurd h (by omega)
  | k + 1, d, _, hk => by
    rcases Nat.lt_or_ge most d with hd | hd
    · exact ⟨stay_iExp hT most (k + 1) d, fun s hi hc => (deep_bad hT hd hc).elim⟩
    · rw [iExp]; exact bx_exp1 hT (bx_pat hT k (d + 1) (by omega) (by omega)) (bx_exp k (d + 1) (by omega) (by omega))
end
def phT (t:TyE):Int:=(mcC t.tv:Int)+5
def phC (c:CtorD):Int:=(mcC c.tv:Int)+4
def phD (d:DataD):Int:=(mcC d.tv:Int)+10
theorem sum_T (c:Int):∀ l:List TyE,sumI (fun a=>phT a+c) l=(mcR (l.map TyE.tv):Int)+(5+c) * l.length
 | []=>by simp [sumI,mcR]
 | a :: l=>by rw [sumI,sum_T c l]; simp only [phT,List.map_cons,mcR,List.length_cons]; push_cast; rw [Int.mul_add]; omega
theorem sum_C (c:Int):∀ l:List CtorD,sumI (fun a=>phC a+c) l=(mcR (l.map CtorD.tv):Int)+(4+c) * l.length
 | []=>by simp [sumI,mcR]
 | a :: l=>by rw [sumI,sum_C c l]; simp only [phC,List.map_cons,mcR,List.length_cons]; push_cast; rw [Int.mul_add]; omega
theorem sum_D:∀ l:List DataD,sumI phD l=(mcR (l.map DataD.tv):Int)+10 * l.length
 | []=>by simp [sumI,mcR]
 | a :: l=>by rw [sumI,sum_D l]; simp only [phD,List.map_cons,mcR,List.length_cons]; push_cast; omega
theorem sum_10 {α:Type}:∀ l:List α,sumI (fun _=>(10:Int)) l=10 * l.length
 | []=>by simp [sumI]
 | a :: l=>by rw [sumI,sum_10 l]; simp only [List.length_cons]; push_cast; omega
theorem mc_ty (k n p ks):mcC (TyE.tv (.mk k n p ks))=3+mcR (ks.map TyE.tv):=by rw [TyE.tv,TyE.tvL_eq]; simp only [mcC,mcT]; omega
theorem mc_ctor (n h t p):mcC (CtorD.tv ⟨n,h,t,p⟩)=3+mcC t.tv:=by unfold CtorD.tv; rw [mcC_app,mcC_app]; simp only [mcC,mcT]; omega
theorem mc_names:∀ l,mcR (namesTV l)=l.length
 | []=>rfl
 | a :: l=>by have:=mc_names l; unfold namesTV at *; rw [List.map_cons,mcR,this]; simp only [mcC,mcT,List.length_cons]; omega
theorem mc_data (n vs cs p):mcC (DataD.tv ⟨n,vs,cs,p⟩)=2+vs.length+mcR (cs.map CtorD.tv):=by unfold DataD.tv; simp only [mcC,mcT,mc_names]; omega
theorem mc_prog (ds e):mcC (ProgD.tv ⟨ds,e⟩)=mcR (ds.map DataD.tv)+mcC e.tv:=by unfold ProgD.tv; simp only [mcC,mcT]
section
variable {T:List Tok} {N:Nat} (hT:ToksOk T)
include hT
theorem leT {k n p}:phT (.mk k n p [])<=10:=by simp only [phT,mc_ty]; simp [mcR]
theorem bx_tyAt {ty:PM TyE} (h:Bx T ty phT):Bx T (tyAt T ty) phT :=
 bx_now fun t=>bx_iteG hT (only_isK T (by decide)) (bx_ret (by have:=leT hT (k:=2) (n:=t.t) (p:=t.p); omega)) <|
  bx_iteG hT (only_isK T (by decide)) (bx_ret (by have:=leT hT (k:=1) (n:=t.t) (p:=t.p); omega)) <|
  bx_want hT <| bx_bind h fun o=>bx_want hT <| bx_ret (by omega)
theorem bx_tyPost {ty:PM TyE} (h:Bx T ty phT):Bx T (tyPost T N ty) phT :=
 bx_now fun t=>bx_iteG hT (only_isT T _) (bx_bind (bx_tyAt hT h) fun x=>bx_ret (by simp only [phT,mc_ty,List.map_cons,List.map_nil,mcR]; push_cast; omega)) <|
  bx_iteG hT (only_isK T (by decide)) (bx_bind (bx_many only_tySt (bx_tyAt hT h) N) fun l=>bx_ret (by
   have e1:=sum_T 0 l
   simp only [Int.add_zero] at e1
   rw [e1]; simp only [phT,mc_ty]; push_cast; omega)) (bx_tyAt hT h)
theorem tup_le (a:TyE) (l:List TyE):phT (tup4 a l)<=phT a+sumI (fun a=>phT a+10) l:=by
 rw [sum_T,tup4]
 split
 ·rename_i h0; subst h0; simp [mcR]
 ·rename_i h0
  have:1<=l.length:=by cases l; exact (h0 rfl).elim; simp
  simp only [phT,mc_ty,List.map_cons,mcR]; push_cast; omega
theorem bx_ty1 {most d:Nat} {ty:PM TyE} (h:Bx T ty phT):Bx T (iTyB T N most ty d) phT :=
 bx_deep <| bx_bind (bx_tyPost hT h) fun a=>bx_bind (bx_manyA hT (only_isT T _) (bx_tyPost hT h) N) fun l =>
  bx_iteG hT (only_isT T _) (bx_bind h fun b=>bx_ret (by
   have:=tup_le hT a l
   simp only [phT,mc_ty,List.map_cons,List.map_nil,mcR] at *
   push_cast; omega)) (bx_ret (by have:=tup_le hT a l; omega))
theorem bx_ty {most : Nat} : ∀ k d, 0 < k → most + 2 ≤ d + k → Bx T (iTy T N most k d) phT
  | 0, d, h, _ => absurd h (by omega)
  | k + 1, d, _, hk => by
    rcases Nat.lt_or_ge most d with hd | hd
    · exact ⟨stay_iTy hT most (k + 1) d, fun s hi hc => (deep_bad hT hd hc).elim⟩
    · rw [iTy]; exact bx_ty1 hT (bx_ty k (d + 1) (by omega) (by omega))
theorem bx_ctor {ty:PM TyE} (h:Bx T ty phT):Bx T (ctorP T ty) phC :=
 bx_now fun t=>bx_bind (bx_word hT (by decide)) fun n=>bx_iteG hT (only_isT T _) (bx_bind h fun a=>bx_ret (by simp only [phC,phT,mc_ctor]; push_cast; omega))
  (bx_ret (by simp only [phC,mc_ctor,ty0,mc_ty,List.map_nil,mcR]; omega))
theorem bx_data {ty:PM TyE} (h:Bx T ty phT):Bx T (dataP T N ty) phD :=
 bx_now fun t=>bx_want hT <| bx_bind (bx_many (only_isK T (by decide)) (bx_word hT (by decide)) N) fun vs=>bx_bind (bx_word hT (by decide)) fun n=>bx_want hT <|
  bx_bind (bx_ctor hT h) fun c=>bx_bind (bx_manyA hT (only_isT T _) (bx_ctor hT h) N) fun cs=>bx_want hT <| bx_ret (by
   rw [sum_C,sum_10]
   simp only [phD,phC,mc_data,List.map_cons,mcR]; push_cast; omega)
theorem bx_prog {ty:PM TyE} {ex:PM ExpD} (h:Bx T ty phT) (hx:Bx T ex phE):Bx T (progP T N ty ex) (fun p=>(mcC p.tv:Int)) :=
 bx_bind (bx_many (only_isT T _) (bx_data hT h) N) fun ds=>bx_bind hx fun e=>bx_end <| bx_ret (by
  rw [sum_D]
  simp only [phE,mc_prog]; push_cast; omega)
end
end Go.Proofs.YtghcmccjchdgeaaGreatDoor.Pg
set_option linter.all false
set_option maxRecDepth 100000
namespace Go.Proofs.YtghcmccjchdgeaaGreatDoor.Mc
open Go.AM
def mc10:Got (Tryz.f10.body.map (compile [0,1,2,3,4,9,14] Tryz.prog 15)):=⟨_,by conv=>lhs; cbv⟩
def mr10:List MR:=[.t 4]
theorem call10:CallT Tryz.prog 10 15 mc10.m mr10:=mc10.call Tryz.func10 (by kernel_rfl)
end Go.Proofs.YtghcmccjchdgeaaGreatDoor.Mc
set_option linter.all false
set_option maxRecDepth 100000
namespace Go.Proofs.YtghcmccjchdgeaaGreatDoor.Mc
open Go.AM
end Go.Proofs.YtghcmccjchdgeaaGreatDoor.Mc
namespace Go.Proofs.YtghcmccjchdgeaaGreatDoor.Pg
open Go.AM Mc Qp
abbrev av (cs:List PV):AV:=.st (cs.map .p)
theorem ExpD.cells_len (t:ExpD):t.cells.length=7:=by cases t; rfl


theorem len1 {r:List AV} (h:r.length=1):∃ a,r=[a]:=by match r,h with | [a],_=>exact ⟨_,rfl⟩
section
variable {ek u p:Int} {n x:List UInt8} {ks:List ExpD} {as':List ArmD} {v w:AV} {i j:List Nat} {H:List AO} {k:Int}
end
section
variable {ds:List DataD} {ek u p:Int} {n x:List UInt8} {ks:List ExpD} {as':List ArmD} {v0 v w:AV} {i0 i j:List Nat} {H:List AO} {k:Int}
end
mutual
theorem pvPat (t:PatD):TV.pvC t.tv=t.cells:=by
 match t with
 | .mk k n u p ks=>rw [PatD.tv,PatD.cells]; simp only [TV.pvC,TV.pv,pvPatL ks]
theorem pvPatL (l:List PatD):TV.pvR (PatD.tvL l)=PatD.cellsL l:=by
 match l with
 | []=>rw [PatD.tvL,TV.pvR,PatD.cellsL]
 | t :: l=>rw [PatD.tvL,TV.pvR,PatD.cellsL,pvPat t,pvPatL l]
end
theorem pvC_app (a b:List TV):TV.pvC (a++b)=TV.pvC a++TV.pvC b:=by
 induction a with
 | nil=>rw [TV.pvC]; rfl
 | cons t a ih=>rw [List.cons_append,TV.pvC,TV.pvC,ih]; rfl
mutual
theorem pvExp (t:ExpD):TV.pvC t.tv=t.cells:=by
 match t with
 | .mk k n u x p ks as'=>rw [ExpD.tv,ExpD.cells]; simp only [TV.pvC,TV.pv,pvExpL ks,pvExpA as']
theorem pvExpL (l:List ExpD):TV.pvR (ExpD.tvL l)=ExpD.cellsL l:=by
 match l with
 | []=>rw [ExpD.tvL,TV.pvR,ExpD.cellsL]
 | t :: l=>rw [ExpD.tvL,TV.pvR,ExpD.cellsL,pvExp t,pvExpL l]
theorem pvArm (t:ArmD):TV.pvC t.tv=t.cells:=by
 match t with
 | .mk p e=>rw [ArmD.tv,ArmD.cells,pvC_app,pvPat,pvExp e]
theorem pvExpA (l:List ArmD):TV.pvR (ExpD.tvA l)=ExpD.cellsA l:=by
 match l with
 | []=>rw [ExpD.tvA,TV.pvR,ExpD.cellsA]
 | t :: l=>rw [ExpD.tvA,TV.pvR,ExpD.cellsA,pvArm t,pvExpA l]
end
theorem eqFaultC (c q:Int) (H:List AO):ACall Tryz.prog 10 [ftC c q,ftC c q] H (pureQ (.p (.b true)) H):=by
 refine acall_drop1 ?_ (tf_p _)
 refine call10 (by simp) ?_
 simp only [go_sem,simprocAttr,mc10,mr10,decide_true,Bool.not_true,Bool.and_self]
 exact ⟨_,rfl⟩
mutual
theorem pvTyE (t:TyE):TV.pvC t.tv=t.cells:=by
 match t with
 | .mk k n p ks=>rw [TyE.tv,TyE.cells]; simp only [TV.pvC,TV.pv,pvTyL ks]
theorem pvTyL (l:List TyE):TV.pvR (TyE.tvL l)=TyE.cellsL l:=by
 match l with
 | []=>rw [TyE.tvL,TV.pvR,TyE.cellsL]
 | t :: l=>rw [TyE.tvL,TV.pvR,TyE.cellsL,pvTyE t,pvTyL l]
end
theorem pvNames (l:List (List UInt8)):TV.pvR (namesTV l)=namesC l:=by
 unfold namesTV namesC
 induction l with
 | nil=>rfl
 | cons s l ih=>rw [List.map_cons,TV.pvR,ih]; simp only [TV.pvC,TV.pv]; rfl
theorem pvCtors (l:List CtorD):TV.pvR (l.map CtorD.tv)=l.map CtorD.cells:=by
 induction l with
 | nil=>rfl
 | cons c l ih=>rw [List.map_cons,TV.pvR,ih,CtorD.tv,pvC_app,pvC_app,pvTyE]; simp only [TV.pvC,TV.pv]; rfl
theorem pvDataL (l:List DataD):TV.pvR (l.map DataD.tv)=l.map DataD.cells:=by
 induction l with
 | nil=>rfl
 | cons d l ih=>rw [List.map_cons,TV.pvR,ih]; simp only [DataD.tv,TV.pvC,TV.pv,pvNames,pvCtors]; rfl
theorem pvProg (g:ProgD):TV.pvC g.tv=g.cells:=by
 rw [ProgD.tv,TV.pvC,TV.pv,pvDataL,pvExp]; rfl
theorem ProgD.cells_len (g:ProgD):g.cells.length=8:=by unfold ProgD.cells; rw [List.length_cons,ExpD.cells_len]
theorem lentProg {e:ProgD} {H:List AO} {cs:List AV} {ids:List Nat} (h:OwnCs H e.tv cs ids):Lent H (.st cs) (av e.cells):=by
 have h1:=OwnCs.lentC h
 have hlen:=h.len
 rw [pvProg] at h1
 refine .st _ _ (by rw [hlen,ProgD.tv_len,List.length_map,ProgD.cells_len]) fun j c q hc hq=>?_
 rw [List.getElem?_map] at hq
 cases hx:e.cells[j]? with
 | none=>rw [hx] at hq; cases hq
 | some x=>rw [hx] at hq; cases hq; exact h1 j c x hc hx
theorem parsedP_mc (s:List UInt8):mcC (parsedP s).1.tv<=100000:=by
 have h0:mcC prog0.tv<=100000:=by rw [prog0,mc_prog,exp0,mc_exp]; simp [mcR]
 unfold parsedP
 rcases hl:lexD s with T | ⟨c,i⟩
 ·obtain ⟨hT,hTl⟩:=lexD_ok hl
  simp only
  rw [told_e]
  split
  ·rename_i h0
   split at h0
   ·rename_i hc
    have hb:=bx_prog (N:=T.length) hT (bx_ty (N:=T.length) (most:=40) hT 41 1 (by omega) (by omega)) (bx_exp (N:=T.length) (most:=40) hT 41 1 (by omega) (by omega))
    have h1:=hb.le ⟨0,0,0,0,0⟩ hT.pos hc
    have h2:=(hb.st ⟨0,0,0,0,0⟩ hT.pos).2.1
    cases h0
    simp only
    omega
   ·cases h0
  ·exact h0
 ·exact h0
end Go.Proofs.YtghcmccjchdgeaaGreatDoor.Pg
namespace Go.Proofs.YtghcmccjchdgeaaGreatDoor.Pg
open Go.AM
def nmB (q:UInt8->Bool) (s:List UInt8):Bool:=match s with
 | []=>false
 | c :: _=>decide (s.length<=12) && (q c && decide (runAt isNm s 0=s.length))
def lowB (s:List UInt8):Bool:=nmB isSm s && !isKey s
def upB (s:List UInt8):Bool:=nmB isGr s
def chB (c:UInt8):Bool:=isPl c || decide ((c.toNat:Int)=10)
def plainB (s:List UInt8):Bool:=s.all chB
def binB (s:List UInt8):Bool:=decide (s∈[[43],[45],[42],[94],[61],[60],[58,61]])
def primB (s:List UInt8):Bool:=decide (s∈[[112,114,105,110,116],[101,120,105,116],[115,105,122,101],[114,101,102],[33]])
def arity (s:List UInt8):Int:=if s=[114,101,97,100] then 0 else if primB s then 1 else -1
def patH (k : Int) (n : List UInt8) (u p m : Int) : Bool :=
  (if k = 1 ∨ k = 5 then decide (m = 0) && (decide (n = []) && decide (u = 0))
   else if k = 2 then decide (m = 0) && (lowB n && decide (u = 0))
   else if k = 3 then decide (m = 0) && (decide (n = []) && decide (0 ≤ u))
   else if k = 4 then decide (m = 0) && (decide (n = []) && (decide (0 ≤ u) && decide (u ≤ 1)))
   else if k = 6 then decide (2 ≤ m) && (decide (n = []) && decide (u = 0))
   else if k = 7 then decide (m ≤ 1) && (upB n && decide (u = 0))
   else false) && decide (0 ≤ p)
mutual
def PatD.okB:PatD->Bool
 | .mk k n u p ks=>patH k n u p ks.length && PatD.okL ks
def PatD.okL:List PatD->Bool
 | []=>true
 | t :: l=>t.okB && PatD.okL l
end
def typH (k : Int) (n : List UInt8) (p m : Int) : Bool :=
  (if k = 1 then lowB n
   else if k = 2 then decide (m = 0) && nmB isSm n
   else if k = 3 then decide (m = 2) && decide (n = [])
   else if k = 4 then decide (2 ≤ m) && decide (n = [])
   else if k = 5 then decide (m = 1) && decide (n = [])
   else false) && decide (0 ≤ p)
mutual
def TyE.okB:TyE->Bool
 | .mk k n p ks=>typH k n p ks.length && TyE.okL ks
def TyE.okL:List TyE->Bool
 | []=>true
 | t :: l=>t.okB && TyE.okL l
end
def expH (k : Int) (n : List UInt8) (u : Int) (t : List UInt8) (p m a : Int) : Bool :=
  (if k = 1 then decide (m = 0) && (decide (n = []) && (decide (0 ≤ u) && decide (t = [])))
   else if k = 2 then decide (m = 0) && (decide (n = []) && (decide (u = 0) && plainB t))
   else if k = 3 then decide (m = 0) && (decide (n = []) && ((decide (0 ≤ u) && decide (u ≤ 1)) && decide (t = [])))
   else if k = 4 then decide (m = 0) && (decide (n = []) && (decide (u = 0) && decide (t = [])))
   else if k = 5 then decide (m = 0) && (lowB n && (decide (u = 0) && decide (t = [])))
   else if k = 6 then decide (m ≤ 1) && (upB n && (decide (u = 0) && decide (t = [])))
   else if k = 7 then decide (2 ≤ m) && (decide (n = []) && (decide (u = 0) && decide (t = [])))
   else if k = 8 then decide (m = 1) && (lowB n && (decide (u = 0) && decide (t = [])))
   else if k = 9 then decide (m = 2) && (decide (n = []) && (decide (u = 0) && decide (t = [])))
   else if k = 10 then decide (m = 2) && (lowB n && (decide (u = 0) && decide (t = [])))
   else if k = 11 then decide (m = 2) && (lowB n && (decide (u = 0) && lowB t))
   else if k = 12 then decide (m = 3) && (decide (n = []) && (decide (u = 0) && decide (t = [])))
   else if k = 13 then decide (m = 1) && (decide (n = []) && (decide (u = 0) && decide (t = [])))
   else if k = 14 then decide (m = 2) && (binB n && (decide (u = 0) && decide (t = [])))
   else if k = 15 then decide (m = arity n) && (decide (u = 0) && decide (t = []))
   else false) && (decide (0 ≤ p) && (decide (k = 13) == decide (0 < a)))
mutual
def ExpD.okB:ExpD->Bool
 | .mk k n u t p ks as'=>expH k n u t p ks.length as'.length && (ExpD.okL ks && ExpD.okA as')
def ExpD.okL:List ExpD->Bool
 | []=>true
 | t :: l=>t.okB && ExpD.okL l
def ArmD.okB:ArmD->Bool
 | .mk p e=>p.okB && e.okB
def ExpD.okA:List ArmD->Bool
 | []=>true
 | t :: l=>t.okB && ExpD.okA l
end
def TyE.noB:TyE->Bool
 | .mk k n p ks=>decide (k=0) && (decide (n=[]) && (decide (p=0) && decide (ks.length=0)))
def CtorD.okB (c:CtorD):Bool:=upB c.name && (!decide (c.pos<0) && (if c.has then c.arg.okB else c.arg.noB))
def DataD.okB (d:DataD):Bool:=lowB d.name && (decide (0<=d.pos) && (decide (0<(d.ctors.length:Int)) && (d.vars.all (nmB isSm) && d.ctors.all CtorD.okB)))
def ProgD.okB (g:ProgD):Bool:=g.body.okB && g.types.all DataD.okB
theorem all_drop {α:Type} {q:α->Bool} {l:List α} {x:Nat} (h:x<l.length):(l.drop x).all q=(q l[x] && (l.drop (x+1)).all q):=by rw [List.drop_eq_getElem_cons h,List.all_cons]
theorem PatD.okL_eq (l:List PatD):PatD.okL l=l.all PatD.okB:=by
 induction l with
 | nil=>rfl
 | cons t l ih=>rw [PatD.okL,ih]; rfl
theorem TyE.okL_eq (l:List TyE):TyE.okL l=l.all TyE.okB:=by
 induction l with
 | nil=>rfl
 | cons t l ih=>rw [TyE.okL,ih]; rfl
theorem ExpD.okL_eq (l:List ExpD):ExpD.okL l=l.all ExpD.okB:=by
 induction l with
 | nil=>rfl
 | cons t l ih=>rw [ExpD.okL,ih]; rfl
theorem ExpD.okA_eq (l:List ArmD):ExpD.okA l=l.all ArmD.okB:=by
 induction l with
 | nil=>rfl
 | cons t l ih=>rw [ExpD.okA,ih]; rfl
def figs (n:Nat):List UInt8:=if h:n<10 then [UInt8.ofNat (48+n)] else figs (n / 10)++[UInt8.ofNat (48+n % 10)]
termination_by n
def decZ (u:Int):List UInt8:=figs u.toNat
def quoC (c:UInt8):List UInt8:=if (c.toNat:Int)=10 then [92,110] else if (c.toNat:Int)=34\/(c.toNat:Int)=92 then [92,c] else [c]
def quoD (s:List UInt8):List UInt8:=34 :: ((s.map quoC).flatten++[34])
def boolW (u:Int):List UInt8:=if u=1 then [116,114,117,101] else [102,97,108,115,101]
def rnd (s:List UInt8) (level least:Int):List UInt8:=if level<least then 40 :: (s++[41]) else s
def joinD (sep:List UInt8):List (List UInt8)->List UInt8
 | []=>[]
 | [a]=>a
 | a :: l=>a++(sep++joinD sep l)
structure KF where
 f:List UInt8
 l:Int
 b:Bool
def KF.at (x:KF) (a:Int):List UInt8:=rnd x.f x.l a
def KF.no:KF:=⟨[],0,false⟩
def tyG (k:Int) (n:List UInt8) (ks:List KF):KF :=
 if k=3 then ⟨(ks.getD 0 .no).at 1++([32,45,62,32]++(ks.getD 1 .no).at 0),0,false⟩
 else if k=4 then ⟨joinD [32,42,32] (ks.map (·.at 2)),1,false⟩
 else if k=5 then ⟨[114,101,102,32]++(ks.getD 0 .no).at 3,2,false⟩
 else if k=2 then ⟨39 :: n,3,false⟩
 else ⟨n++(ks.map fun x=>32 :: x.at 3).flatten,if ks.length=0 then 3 else 2,false⟩
mutual
def TyE.kf:TyE->KF
 | .mk k n p ks=>tyG k n (TyE.kfL ks)
def TyE.kfL:List TyE->List KF
 | []=>[]
 | t :: l=>t.kf :: TyE.kfL l
end
def patG (k:Int) (n:List UInt8) (u:Int) (ks:List KF):KF :=
 if k=2 then ⟨n,1,false⟩
 else if k=3 then ⟨decZ u,1,false⟩
 else if k=4 then ⟨boolW u,1,false⟩
 else if k=5 then ⟨[40,41],1,false⟩
 else if k=6 then ⟨40 :: (joinD [44,32] (ks.map (·.at 0))++[41]),1,false⟩
 else if k=7 then (if ks.length=0 then ⟨n,1,false⟩ else ⟨n++(32 :: (ks.getD 0 .no).at 1),0,false⟩)
 else ⟨[95],1,false⟩
mutual
def PatD.kf:PatD->KF
 | .mk k n u p ks=>patG k n u (PatD.kfL ks)
def PatD.kfL:List PatD->List KF
 | []=>[]
 | t :: l=>t.kf :: PatD.kfL l
end
def opL (s:List UInt8):Int × Int × Int:=if s=[58,61] then (1,2,2) else if s=[61]\/s=[60] then (2,3,3) else if s=[42] then (4,4,5) else (3,3,4)
def armF (a:List UInt8 × KF):List UInt8:=[32,124,32]++(a.1++([32,45,62,32]++a.2.at 0))
def expG (k:Int) (n:List UInt8) (u:Int) (t:List UInt8) (ks:List KF) (as':List (List UInt8 × KF)):KF :=
 if k=1 then ⟨decZ u,6,false⟩
 else if k=2 then ⟨quoD t,6,false⟩
 else if k=3 then ⟨boolW u,6,false⟩
 else if k=4 then ⟨[40,41],6,false⟩
 else if k=5 then ⟨n,6,false⟩
 else if k=7 then ⟨40 :: (joinD [44,32] (ks.map (·.at 0))++[41]),6,false⟩
 else if k=14 then ⟨(ks.getD 0 .no).at (opL n).2.1++(32 :: (n++(32 :: (ks.getD 1 .no).at (opL n).2.2))),(opL n).1,false⟩
 else if k=6\/k=15 then (if ks.length=0 then ⟨n,6,decide (k=6)⟩ else ⟨n++(32 :: (ks.getD 0 .no).at 6),5,false⟩)
 else if k=9 then ⟨(ks.getD 0 .no).at (if (ks.getD 0 .no).b then 7 else 5)++(32 :: (ks.getD 1 .no).at 6),5,false⟩
 else if k=10 then ⟨[108,101,116,32]++(n++([32,61,32]++((ks.getD 0 .no).at 0++([32,105,110,32]++(ks.getD 1 .no).at 0)))),0,false⟩
 else if k=11 then ⟨[108,101,116,32,114,101,99,32]++(n++(32 :: (t++([32,61,32]++((ks.getD 0 .no).at 0++([32,105,110,32]++(ks.getD 1 .no).at 0)))))),0,false⟩
 else if k=8 then ⟨[102,117,110,32]++(n++([32,45,62,32]++(ks.getD 0 .no).at 0)),0,false⟩
 else if k=12 then ⟨[105,102,32]++((ks.getD 0 .no).at 0++([32,116,104,101,110,32]++((ks.getD 1 .no).at 0++([32,101,108,115,101,32]++(ks.getD 2 .no).at 0)))),0,false⟩
 else ⟨[109,97,116,99,104,32]++((ks.getD 0 .no).at 0++([32,119,105,116,104]++((as'.map armF).flatten++[32,101,110,100]))),0,false⟩
mutual
def ExpD.kf:ExpD->KF
 | .mk k n u t p ks as'=>expG k n u t (ExpD.kfL ks) (ExpD.kfA as')
def ExpD.kfL:List ExpD->List KF
 | []=>[]
 | t :: l=>t.kf :: ExpD.kfL l
def ArmD.kf:ArmD->List UInt8 × KF
 | .mk p e=>(p.kf.at 0,e.kf)
def ExpD.kfA:List ArmD->List (List UInt8 × KF)
 | []=>[]
 | t :: l=>t.kf :: ExpD.kfA l
end
def CtorD.form (c:CtorD):List UInt8:=c.name++(if c.has then [32,111,102,32]++c.arg.kf.at 0 else [])
def DataD.form (d:DataD):List UInt8:=[116,121,112,101,32]++((d.vars.map fun v=>39 :: (v++[32])).flatten++(d.name++([32,61,32]++(joinD [32,124,32] (d.ctors.map CtorD.form)++[59,10]))))
def ProgD.form (g:ProgD):List UInt8:=(g.types.map DataD.form).flatten++(g.body.kf.at 0++[10])
def ProgD.print (g:ProgD):List UInt8:=if g.okB then g.form else []
theorem TyE.kfL_eq (l:List TyE):TyE.kfL l=l.map TyE.kf:=by
 induction l with
 | nil=>rfl
 | cons t l ih=>rw [TyE.kfL,ih]; rfl
theorem PatD.kfL_eq (l:List PatD):PatD.kfL l=l.map PatD.kf:=by
 induction l with
 | nil=>rfl
 | cons t l ih=>rw [PatD.kfL,ih]; rfl
theorem ExpD.kfL_eq (l:List ExpD):ExpD.kfL l=l.map ExpD.kf:=by
 induction l with
 | nil=>rfl
 | cons t l ih=>rw [ExpD.kfL,ih]; rfl
theorem ExpD.kfA_eq (l:List ArmD):ExpD.kfA l=l.map ArmD.kf:=by
 induction l with
 | nil=>rfl
 | cons t l ih=>rw [ExpD.kfA,ih]; rfl
theorem figs_len : ∀ (d n : Nat), n < 10 ^ (d + 1) → (figs n).length ≤ d + 1
  | 0, n, h => by rw [figs, dif_pos (by simpa using h)]; simp
  | d + 1, n, h => by
    rw [figs]
    split
    · simp
    · have := figs_len d (n / 10) (by rw [Nat.pow_succ] at h; omega)
      simp; omega
theorem quo_len (s : List UInt8) : (quoD s).length ≤ 2 * s.length + 2 := by
  have : ((s.map quoC).flatten).length ≤ 2 * s.length := by
    induction s with
    | nil => simp
    | cons c s ih =>
      rw [List.map_cons, List.flatten_cons, List.length_append, List.length_cons]
      have : (quoC c).length ≤ 2 := by unfold quoC; (repeat' split) <;> simp
      omega
  unfold quoD
  rw [List.length_cons, List.length_append, List.length_singleton]
  omega
theorem bool_len (u:Int):(boolW u).length<=5:=by unfold boolW; split <;> simp
theorem rnd_len (s:List UInt8) (l a:Int):(rnd s l a).length<=s.length+2/\s.length<=(rnd s l a).length:=by unfold rnd; split <;> simp <;> omega
theorem at_len (x:KF) (a:Int):(x.at a).length<=x.f.length+2/\x.f.length<=(x.at a).length:=rnd_len _ _ _
mutual
def PatD.fit:PatD->Prop
 | .mk k n u p ks=>u<=9223372036854775807/\PatD.fitL ks
def PatD.fitL:List PatD->Prop
 | []=>True
 | t :: l=>t.fit/\PatD.fitL l
end
mutual
def ExpD.fit:ExpD->Prop
 | .mk k n u t p ks as'=>u<=9223372036854775807/\ExpD.fitL ks/\ExpD.fitA as'
def ExpD.fitL:List ExpD->Prop
 | []=>True
 | t :: l=>t.fit/\ExpD.fitL l
def ArmD.fit:ArmD->Prop
 | .mk p e=>p.fit/\e.fit
def ExpD.fitA:List ArmD->Prop
 | []=>True
 | t :: l=>t.fit/\ExpD.fitA l
end
theorem PatD.fitL_mem {x : PatD} : ∀ {l : List PatD}, PatD.fitL l → x ∈ l → x.fit
  | [], _, h => by cases h
  | a :: l, hf, h => by
    rw [PatD.fitL] at hf
    rcases List.mem_cons.1 h with rfl | h
    · exact hf.1
    · exact PatD.fitL_mem hf.2 h
theorem ExpD.fitL_mem {x : ExpD} : ∀ {l : List ExpD}, ExpD.fitL l → x ∈ l → x.fit
  | [], _, h => by cases h
  | a :: l, hf, h => by
    rw [ExpD.fitL] at hf
    rcases List.mem_cons.1 h with rfl | h
    · exact hf.1
    · exact ExpD.fitL_mem hf.2 h
theorem ExpD.fitA_mem {x : ArmD} : ∀ {l : List ArmD}, ExpD.fitA l → x ∈ l → x.fit
  | [], _, h => by cases h
  | a :: l, hf, h => by
    rw [ExpD.fitA] at hf
    rcases List.mem_cons.1 h with rfl | h
    · exact hf.1
    · exact ExpD.fitA_mem hf.2 h
def wK:List KF->Nat
 | []=>0
 | a :: l=>a.f.length+20+wK l
theorem wK3 (l:List KF):(l.getD 0 .no).f.length+(l.getD 1 .no).f.length+(l.getD 2 .no).f.length<=wK l:=by
 rcases l with _ | ⟨a,_ | ⟨b,_ | ⟨c,l⟩⟩⟩ <;> simp [wK,KF.no] <;> omega
theorem wKm {x : KF} : ∀ {l : List KF}, x ∈ l → x.f.length ≤ wK l
  | [], h => by cases h
  | a :: l, h => by
    rw [wK]
    rcases List.mem_cons.1 h with rfl | h
    · omega
    · have := wKm h; omega
theorem joinK_len (sep : List UInt8) (hs : sep.length ≤ 10) (a : Int) : ∀ l : List KF, (joinD sep (l.map (·.at a))).length ≤ wK l
  | [] => by simp [joinD]
  | [x] => by have := (at_len x a).1; simp only [List.map_cons, List.map_nil, joinD, wK]; omega
  | x :: y :: l => by
    have h1 := (at_len x a).1
    have h2 := joinK_len sep hs a (y :: l)
    show (x.at a ++ (sep ++ joinD sep ((y :: l).map (·.at a)))).length ≤ _
    rw [wK]
    simp only [List.length_append]
    omega
theorem flatK_len (a : Int) : ∀ l : List KF, ((l.map fun x => 32 :: x.at a).flatten).length ≤ wK l
  | [] => by simp
  | x :: l => by
    have h1 := (at_len x a).1
    have h2 := flatK_len a l
    rw [List.map_cons, List.flatten_cons, wK, List.length_append, List.length_cons]
    omega
theorem dec_len {u:Int} (h:u<=9223372036854775807):(decZ u).length<=20:=figs_len 19 _ (by omega)
theorem tyG_len (k:Int) (n:List UInt8) (ks:List KF):(tyG k n ks).f.length<=n.length+wK ks+30:=by
 have h3:=wK3 ks
 have a0:=fun a=>(at_len (ks.getD 0 .no) a).1
 have a1:=fun a=>(at_len (ks.getD 1 .no) a).1
 have hj:=joinK_len [32,42,32] (by decide) 2 ks
 have hf:=flatK_len 3 ks
 have:=a0 1; have:=a0 3; have:=a1 0
 unfold tyG
 repeat' split
 all_goals (try simp only [List.length_append,List.length_cons,List.length_nil] at *)
 all_goals omega
mutual
theorem TyE.kf_len : ∀ t : TyE, t.kf.f.length ≤ 100 * t.sz + 30
  | .mk k n p ks => by
    have := TyE.kfL_len ks
    have := tyG_len k n (TyE.kfL ks)
    rw [TyE.kf, TyE.sz]; omega
theorem TyE.kfL_len : ∀ l : List TyE, wK (TyE.kfL l) ≤ 100 * TyE.szL l
  | [] => by simp [TyE.kfL, wK]
  | t :: l => by
    have := TyE.kf_len t
    have := TyE.kfL_len l
    rw [TyE.kfL, wK, TyE.szL]; omega
end
theorem patG_len (k:Int) (n:List UInt8) {u:Int} (hu:u<=9223372036854775807) (ks:List KF):(patG k n u ks).f.length<=n.length+wK ks+30:=by
 have h3:=wK3 ks
 have a0:=fun a=>(at_len (ks.getD 0 .no) a).1
 have hj:=joinK_len [44,32] (by decide) 0 ks
 have:=dec_len hu; have:=bool_len u; have:=a0 1
 unfold patG
 repeat' split
 all_goals (try simp only [List.length_append,List.length_cons,List.length_nil] at *)
 all_goals omega
mutual
theorem PatD.kf_len : ∀ t : PatD, t.fit → t.kf.f.length ≤ 100 * t.sz + 30
  | .mk k n u p ks, h => by
    rw [PatD.fit] at h
    have := PatD.kfL_len ks h.2
    have := patG_len k n h.1 (PatD.kfL ks)
    rw [PatD.kf, PatD.sz]; omega
theorem PatD.kfL_len : ∀ l : List PatD, PatD.fitL l → wK (PatD.kfL l) ≤ 100 * PatD.szL l
  | [], _ => by simp [PatD.kfL, wK]
  | t :: l, h => by
    rw [PatD.fitL] at h
    have := PatD.kf_len t h.1
    have := PatD.kfL_len l h.2
    rw [PatD.kfL, wK, PatD.szL]; omega
end
def wA:List (List UInt8 × KF)->Nat
 | []=>0
 | a :: l=>a.1.length+a.2.f.length+20+wA l
theorem armF_len : ∀ l : List (List UInt8 × KF), ((l.map armF).flatten).length ≤ wA l
  | [] => by simp
  | x :: l => by
    have h1 := (at_len x.2 0).1
    have h2 := armF_len l
    rw [List.map_cons, List.flatten_cons, wA, List.length_append, armF]
    simp only [List.length_append, List.length_cons, List.length_nil]
    omega
theorem ite_f {c:Prop} [Decidable c] {a b:KF} {B:Nat} (h1:a.f.length<=B) (h2:b.f.length<=B):(if c then a else b).f.length<=B:=by split <;> assumption
theorem expG_len (k:Int) (n:List UInt8) {u:Int} (hu:u<=9223372036854775807) (t:List UInt8) (ks:List KF) (as':List (List UInt8 × KF)):(expG k n u t ks as').f.length<=n.length+2 * t.length+wK ks+wA as'+30:=by
 have h3:=wK3 ks
 have a0:=fun a=>(at_len (ks.getD 0 .no) a).1
 have a1:=fun a=>(at_len (ks.getD 1 .no) a).1
 have a2:=fun a=>(at_len (ks.getD 2 .no) a).1
 have hj:=joinK_len [44,32] (by decide) 0 ks
 have hA:=armF_len as'
 have:=dec_len hu; have:=bool_len u; have:=quo_len t
 have:=a0 0; have:=a1 0; have:=a2 0; have:=a0 6; have:=a1 6; have:=a0 7; have:=a0 5
 have:=a0 (opL n).2.1; have:=a1 (opL n).2.2
 unfold expG
 repeat' refine ite_f ?_ ?_
 all_goals (try split)
 all_goals (try simp only [List.length_append,List.length_cons,List.length_nil] at *)
 all_goals omega
mutual
theorem ExpD.kf_len : ∀ t : ExpD, t.fit → t.kf.f.length ≤ 100 * t.sz + 30
  | .mk k n u t p ks as', h => by
    rw [ExpD.fit] at h
    have := ExpD.kfL_len ks h.2.1
    have := ExpD.kfA_len as' h.2.2
    have := expG_len k n h.1 t (ExpD.kfL ks) (ExpD.kfA as')
    rw [ExpD.kf, ExpD.sz]; omega
theorem ExpD.kfL_len : ∀ l : List ExpD, ExpD.fitL l → wK (ExpD.kfL l) ≤ 100 * ExpD.szL l
  | [], _ => by simp [ExpD.kfL, wK]
  | t :: l, h => by
    rw [ExpD.fitL] at h
    have := ExpD.kf_len t h.1
    have := ExpD.kfL_len l h.2
    rw [ExpD.kfL, wK, ExpD.szL]; omega
theorem ExpD.kfA_len : ∀ l : List ArmD, ExpD.fitA l → wA (ExpD.kfA l) ≤ 100 * ExpD.szA l
  | [], _ => by simp [ExpD.kfA, wA]
  | .mk p e :: l, h => by
    rw [ExpD.fitA, ArmD.fit] at h
    have := PatD.kf_len p h.1.1
    have := (at_len p.kf 0).1
    have := ExpD.kf_len e h.1.2
    have := ExpD.kfA_len l h.2
    rw [ExpD.kfA, wA, ExpD.szA, ArmD.kf, ArmD.sz]; simp only; omega
end
def GTok (x:Tok):Prop:=x.t.length<=4000/\x.n<=9223372036854775807
theorem lexGo_g {s : List UInt8} (hs : s.length ≤ 4000) {most : Nat} : ∀ (n i : Nat) (out l : List Tok), s.length - i ≤ n → (∀ x ∈ out, GTok x) → lexGo s most i out = .inl l → ∀ x ∈ l, GTok x := by
  have fin : ∀ (out : List Tok), (∀ x ∈ out, GTok x) → ∀ x ∈ out ++ [(⟨8, [], 0, s.length⟩ : Tok)], GTok x := by
    intro out ho x hx
    rcases List.mem_append.1 hx with hx | hx
    · exact ho x hx
    · simp at hx; subst hx; exact ⟨by simp, by simp⟩
  intro n
  induction n with
  | zero =>
    intro i out l hn ho h
    rw [lexGo_end (by omega)] at h
    cases h
    exact fin out ho
  | succ n ih =>
    intro i out l hn ho h
    by_cases hi : i < s.length
    · cases hb : blank s[i] with
      | true =>
        rw [lexGo_blank hi hb] at h
        exact ih _ _ _ (by omega) ho h
      | false =>
        by_cases hc : (s[i].toNat : Int) = 35
        · rw [lexGo_hash hi hb hc] at h
          have hg := nl_hash hi hc
          exact ih _ _ _ (by omega) ho h
        · rcases ht : tokD s i s[i] with ⟨t, e⟩ | c
          · by_cases hm : out.length = most
            · rw [lexGo_most hi hb hc ht hm] at h; cases h
            · rw [lexGo_tok hi hb hc ht hm] at h
              have hg := tokD_gt hi ht
              refine ih _ _ _ (by omega) (fun x hx => ?_) h
              rcases List.mem_append.1 hx with hx | hx
              · exact ho x hx
              · simp at hx; subst hx
                obtain ⟨_, _, _, _, _, h6, _, h8⟩ := hg
                exact ⟨by omega, by simpa [maxI] using h8⟩
          · rw [lexGo_err hi hb hc ht] at h; cases h
    · rw [lexGo_end hi] at h
      cases h
      exact fin out ho
theorem lexD_g {s:List UInt8} {l:List Tok} (h:lexD s=.inl l):∀ x∈l,GTok x:=by
 unfold lexD at h
 split at h
 ·cases h
 ·exact lexGo_g (by omega) _ _ _ _ (Nat.le_refl _) (by simp) h
def Px {α:Type} (m:PM α) (R:α->Prop):Prop:=∀ s,R (m s).1
section
variable {T:List Tok} (hG:∀ x∈T,GTok x)
theorem px_ret {α:Type} {a:α} {R:α->Prop} (h:R a):Px (retP a) R:=fun _=>h
theorem px_bind {α β:Type} {m:PM α} {k:α->PM β} {R:α->Prop} {S:β->Prop} (h:Px m R) (hk:∀ a,R a->Px (k a) S):Px (bindP m k) S:=fun s=>hk _ (h s) _
theorem px_step {α:Type} {f:PS->PS} {m:PM α} {R:α->Prop} (h:Px m R):Px (stepP f m) R:=fun s=>h _
theorem px_adv {α:Type} {m:PM α} {R:α->Prop} (h:Px m R):Px (advP m) R:=fun s=>h _
include hG in
theorem tokA_g (s:PS):GTok (tokA T s):=by
 unfold tokA
 rcases Nat.lt_or_ge s.i T.length with h | h
 ·rw [List.getD_eq_getElem?_getD,List.getElem?_eq_getElem h]; exact hG _ (List.getElem_mem h)
 ·rw [List.getD_eq_getElem?_getD,List.getElem?_eq_none h]; exact ⟨by simp [tok0],by simp [tok0]⟩
include hG in
theorem px_now {α:Type} {k:Tok->PM α} {R:α->Prop} (h:∀ t,GTok t->Px (k t) R):Px (nowP T k) R:=fun s=>h _ (tokA_g hG s) _
theorem px_iteG {α:Type} {g:PS->Bool} {m1 m2:PM α} {R:α->Prop} (h1:Px m1 R) (h2:Px m2 R):Px (iteG g m1 m2) R:=fun s=>by
 unfold iteG; split
 ·exact h1 _
 ·exact h2 _
theorem px_iteB {α:Type} {g:PS->Bool} {m1 m2:PM α} {R:α->Prop} (h1:Px m1 R) (h2:Px m2 R):Px (iteB g m1 m2) R:=fun s=>by
 unfold iteB; split
 ·exact h1 _
 ·exact h2 _
theorem px_deep {α:Type} {most d:Nat} {z:α} {m:PM α} {R:α->Prop} (hz:R z) (h:Px m R):Px (deepP T most d z m) R:=fun s=>by
 unfold deepP; split
 ·exact h _
 ·exact hz
theorem px_many {α : Type} {g : PS → Bool} {m : PM α} {R : α → Prop} (h : Px m R) : ∀ n, Px (many g m n) (fun l => ∀ x ∈ l, R x)
  | 0 => fun s x hx => by cases hx
  | n + 1 => fun s => by
    unfold many
    split
    · intro x hx
      rcases List.mem_cons.1 hx with rfl | hx
      · exact h s
      · exact px_many h n _ x hx
    · intro x hx; cases hx
theorem px_carry {α : Type} {g : PS → Bool} {m : α → PM α} {R : α → Prop} (h : ∀ a, R a → Px (m a) R) : ∀ n a, R a → Px (carry g m n a) R
  | 0, a, ha => fun s => ha
  | n + 1, a, ha => fun s => by
    unfold carry
    split
    · exact px_carry h n _ (h a ha s) _
    · exact ha
include hG in
theorem px_word {k:Int}:Px (wordP T k) (fun w=>w.length<=4000):=fun s=>by
 unfold wordP; split
 ·exact (tokA_g hG s).1
 ·simp
end
mutual
def TyE.lit:TyE->Prop
 | .mk k n p ks=>n.length<=4000/\TyE.litL ks
def TyE.litL:List TyE->Prop
 | []=>True
 | t :: l=>t.lit/\TyE.litL l
end
mutual
def PatD.lit:PatD->Prop
 | .mk k n u p ks=>n.length<=4000/\u<=9223372036854775807/\PatD.litL ks
def PatD.litL:List PatD->Prop
 | []=>True
 | t :: l=>t.lit/\PatD.litL l
end
mutual
def ExpD.lit:ExpD->Prop
 | .mk k n u t p ks as'=>n.length<=4000/\t.length<=4000/\u<=9223372036854775807/\ExpD.litL ks/\ExpD.litA as'
def ExpD.litL:List ExpD->Prop
 | []=>True
 | t :: l=>t.lit/\ExpD.litL l
def ArmD.lit:ArmD->Prop
 | .mk p e=>p.lit/\e.lit
def ExpD.litA:List ArmD->Prop
 | []=>True
 | t :: l=>t.lit/\ExpD.litA l
end
theorem TyE.litL_all {l:List TyE} (h:∀ x∈l,x.lit):TyE.litL l:=by
 induction l with
 | nil=>trivial
 | cons a l ih=>exact ⟨h a (by simp),ih fun x hx=>h x (by simp [hx])⟩
theorem PatD.litL_all {l:List PatD} (h:∀ x∈l,x.lit):PatD.litL l:=by
 induction l with
 | nil=>trivial
 | cons a l ih=>exact ⟨h a (by simp),ih fun x hx=>h x (by simp [hx])⟩
theorem ExpD.litL_all {l:List ExpD} (h:∀ x∈l,x.lit):ExpD.litL l:=by
 induction l with
 | nil=>trivial
 | cons a l ih=>exact ⟨h a (by simp),ih fun x hx=>h x (by simp [hx])⟩
theorem ExpD.litA_all {l:List ArmD} (h:∀ x∈l,x.lit):ExpD.litA l:=by
 induction l with
 | nil=>trivial
 | cons a l ih=>exact ⟨h a (by simp),ih fun x hx=>h x (by simp [hx])⟩
theorem litP {k:Int} {n:List UInt8} {u p:Int} {ks:List PatD} (h1:n.length<=4000) (h2:u<=9223372036854775807) (h3:∀ x∈ks,x.lit):(PatD.mk k n u p ks).lit:=by rw [PatD.lit]; exact ⟨h1,h2,PatD.litL_all h3⟩
theorem litT {k:Int} {n:List UInt8} {p:Int} {ks:List TyE} (h1:n.length<=4000) (h3:∀ x∈ks,x.lit):(TyE.mk k n p ks).lit:=by rw [TyE.lit]; exact ⟨h1,TyE.litL_all h3⟩
theorem litE {k:Int} {n:List UInt8} {u:Int} {t:List UInt8} {p:Int} {ks:List ExpD} {as':List ArmD} (h1:n.length<=4000) (h2:t.length<=4000) (h3:u<=9223372036854775807) (h4:∀ x∈ks,x.lit) (h5:∀ x∈as',x.lit):(ExpD.mk k n u t p ks as').lit:=by rw [ExpD.lit]; exact ⟨h1,h2,h3,ExpD.litL_all h4,ExpD.litA_all h5⟩
theorem litF {k:Int} {n:List UInt8} {u:Int} {t:List UInt8} {p:Int} (h1:n.length<=4000) (h2:t.length<=4000) (h3:u<=9223372036854775807):(leaf k n u t p).lit:=litE h1 h2 h3 (by simp) (by simp)
theorem lit1 {k:Int} {n:List UInt8} {p:Int} {a:ExpD} (h1:n.length<=4000) (h:a.lit):(node1 k n p a).lit:=litE h1 (by simp) (by decide) (by simpa using h) (by simp)
theorem lit2 {k:Int} {n:List UInt8} {p:Int} {a b:ExpD} (h1:n.length<=4000) (h:a.lit) (h':b.lit):(node2 k n p a b).lit:=litE h1 (by simp) (by decide) (by simpa using ⟨h,h'⟩) (by simp)
section
variable {T:List Tok} {N:Nat} (hG:∀ x∈T,GTok x)
include hG
theorem px_tyAt {ty:PM TyE} (h:Px ty TyE.lit):Px (tyAt T ty) TyE.lit :=
 px_now hG fun t ht=>px_iteG (px_ret (litT ht.1 (by simp))) <| px_iteG (px_ret (litT ht.1 (by simp))) <| px_step <| px_bind h fun o ho=>px_step (px_ret ho)
theorem px_tyPost {ty:PM TyE} (h:Px ty TyE.lit):Px (tyPost T N ty) TyE.lit :=
 px_now hG fun t ht=>px_iteG (px_bind (px_tyAt hG h) fun x hx=>px_ret (litT (by simp) (by simpa using hx))) <|
  px_iteG (px_bind (px_many (px_tyAt hG h) N) fun l hl=>px_ret (litT ht.1 hl)) (px_tyAt hG h)
theorem lit_tup4 {a:TyE} {l:List TyE} (ha:a.lit) (hl:∀ x∈l,x.lit):(tup4 a l).lit:=by
 unfold tup4
 split
 ·exact ha
 ·exact litT (by simp) fun x hx=>by rcases List.mem_cons.1 hx with rfl | hx; exact ha; exact hl x hx
theorem px_iTyB {most d:Nat} {ty:PM TyE} (h:Px ty TyE.lit):Px (iTyB T N most ty d) TyE.lit :=
 px_deep (litT (by simp) (by simp)) <| px_bind (px_tyPost hG h) fun a ha=>px_bind (px_many (px_adv (px_tyPost hG h)) N) fun l hl =>
  px_iteG (px_bind h fun b hb=>px_ret (litT (by simp) fun x hx=>by simp at hx; rcases hx with rfl | rfl; exact lit_tup4 hG ha hl; exact hb)) (px_ret (lit_tup4 hG ha hl))
theorem px_iTy {most:Nat}:∀ k d,Px (iTy T N most k d) TyE.lit
 | 0,d=>px_ret (litT (by simp) (by simp))
 | k+1,d=>px_iTyB hG (px_iTy k (d+1))
theorem px_patBr {pat:PM PatD} (h:Px pat PatD.lit):Px (iPatBr T N pat) PatD.lit :=
 px_now hG fun t ht=>px_step <| px_iteG (px_ret (litP (by simp) (by decide) (by simp))) <| px_iteB (px_ret (litP (by simp) (by decide) (by simp))) <|
  px_bind h fun a ha=>px_bind (px_many (px_adv h) N) fun l hl=>px_step <| px_ret (by
   split
   ·exact ha
   ·exact litP (by simp) (by decide) fun x hx=>by rcases List.mem_cons.1 hx with rfl | hx; exact ha; exact hl x hx)
theorem px_patA {pat:PM PatD} (h:Px pat PatD.lit):Px (iPatA T N pat) PatD.lit :=
 px_now hG fun t ht=>px_iteG (px_ret (litP (by simp) (by decide) (by simp))) <| px_iteG (px_ret (litP ht.1 (by decide) (by simp))) <|
  px_iteG (px_ret (litP (by simp) ht.2 (by simp))) <| px_iteG (px_ret (litP (by simp) (by decide) (by simp))) <| px_iteG (px_ret (litP (by simp) (by decide) (by simp))) <|
  px_iteG (px_ret (litP ht.1 (by decide) (by simp))) (px_patBr hG h)
theorem px_patB {most d:Nat} {pat:PM PatD} (h:Px pat PatD.lit):Px (iPatB T N most pat d) PatD.lit :=
 px_deep (litP (by simp) (by decide) (by simp)) <| px_now hG fun t ht =>
  px_iteG (px_iteB (px_bind (px_patA hG h) fun a ha=>px_ret (litP ht.1 (by decide) (by simpa using ha))) (px_ret (litP ht.1 (by decide) (by simp)))) (px_patA hG h)
theorem px_iPat {most:Nat}:∀ k d,Px (iPat T N most k d) PatD.lit
 | 0,d=>px_ret (litP (by simp) (by decide) (by simp))
 | k+1,d=>px_patB hG (px_iPat k (d+1))
theorem px_br {ex:PM ExpD} (h:Px ex ExpD.lit):Px (iBr T N ex) ExpD.lit :=
 px_now hG fun t ht=>px_step <| px_iteG (px_ret (litF (by simp) (by simp) (by decide))) <| px_iteB (px_ret (litF (by simp) (by simp) (by decide))) <|
  px_bind h fun a ha=>px_bind (px_many (px_adv h) N) fun l hl=>px_step <| px_ret (by
   split
   ·exact ha
   ·exact litE (by simp) (by simp) (by decide) (fun x hx=>by rcases List.mem_cons.1 hx with rfl | hx; exact ha; exact hl x hx) (by simp))
theorem px_atom {ex:PM ExpD} (h:Px ex ExpD.lit):Px (iAtom T N ex) ExpD.lit :=
 px_now hG fun t ht=>px_iteG (px_ret (litF (by simp) (by simp) ht.2)) <| px_iteG (px_ret (litF (by simp) ht.1 (by decide))) <|
  px_iteG (px_ret (litF (by simp) (by simp) (by decide))) <| px_iteG (px_ret (litF (by simp) (by simp) (by decide))) <|
  px_iteG (px_ret (litF ht.1 (by simp) (by decide))) <| px_iteG (px_ret (litF ht.1 (by simp) (by decide))) <| px_iteG (px_ret (litF ht.1 (by simp) (by decide))) (px_br hG h)
theorem px_pre {ex:PM ExpD} (h:Px ex ExpD.lit):Px (iPre T N ex) ExpD.lit :=
 px_now hG fun t ht=>px_iteG (px_bind (px_atom hG h) fun a ha=>px_ret (lit1 ht.1 ha)) <|
  px_iteG (px_iteB (px_bind (px_atom hG h) fun a ha=>px_ret (lit1 ht.1 ha)) (px_ret (litF ht.1 (by simp) (by decide)))) (px_atom hG h)
theorem px_app {ex:PM ExpD} (h:Px ex ExpD.lit):Px (iApp T N ex) ExpD.lit :=
 px_bind (px_pre hG h) fun a ha=>px_carry (fun a ha=>px_bind (px_atom hG h) fun b hb=>px_ret (lit2 (by simp) ha hb)) N a ha
theorem px_rowG {L:List (List UInt8)} {side:PM ExpD} (h:Px side ExpD.lit) {a:ExpD} (ha:a.lit):Px (rowG T N L side a) ExpD.lit :=
 px_carry (fun a ha=>px_now hG fun t ht=>px_adv <| px_bind h fun b hb=>px_ret (lit2 ht.1 ha hb)) N a ha
theorem px_onceG {g:PS->Bool} {side:PM ExpD} (h:Px side ExpD.lit) {a:ExpD} (ha:a.lit):Px (onceG T g side a) ExpD.lit :=
 px_now hG fun t ht=>px_iteG (px_bind h fun b hb=>px_ret (lit2 ht.1 ha hb)) (px_ret ha)
theorem px_row1 {ex:PM ExpD} (h:Px ex ExpD.lit):Px (iRow1 T N ex) ExpD.lit:=px_bind (px_app hG h) fun a ha=>px_rowG hG (px_app hG h) ha
theorem px_row0 {ex:PM ExpD} (h:Px ex ExpD.lit):Px (iRow0 T N ex) ExpD.lit:=px_bind (px_row1 hG h) fun a ha=>px_rowG hG (px_row1 hG h) ha
theorem px_once1 {ex:PM ExpD} (h:Px ex ExpD.lit):Px (iOnce1 T N ex) ExpD.lit:=px_bind (px_row0 hG h) fun a ha=>px_onceG hG (px_row0 hG h) ha
theorem px_once0 {ex:PM ExpD} (h:Px ex ExpD.lit):Px (iOnce0 T N ex) ExpD.lit:=px_bind (px_once1 hG h) fun a ha=>px_onceG hG (px_once1 hG h) ha
theorem px_let {ex:PM ExpD} (h:Px ex ExpD.lit) (p:Int):Px (letP T ex p) ExpD.lit :=
 px_iteG (px_bind (px_word hG) fun n hn=>px_bind (px_word hG) fun f hf=>px_step <| px_bind h fun a ha=>px_step <| px_bind h fun b hb=>px_ret (litE hn hf (by decide) (by simpa using ⟨ha,hb⟩) (by simp)))
  (px_bind (px_word hG) fun n hn=>px_step <| px_bind h fun a ha=>px_step <| px_bind h fun b hb=>px_ret (litE hn (by simp) (by decide) (by simpa using ⟨ha,hb⟩) (by simp)))
theorem px_fun {ex:PM ExpD} (h:Px ex ExpD.lit) (p:Int):Px (funP T ex p) ExpD.lit:=px_bind (px_word hG) fun n hn=>px_step <| px_bind h fun a ha=>px_ret (lit1 hn ha)
omit hG in
theorem px_ifP {ex:PM ExpD} (h:Px ex ExpD.lit) (p:Int):Px (ifP T ex p) ExpD.lit :=
 px_bind h fun a ha=>px_step <| px_bind h fun b hb=>px_step <| px_bind h fun c hc=>px_ret (litE (by simp) (by simp) (by decide) (by simpa using ⟨ha,hb,hc⟩) (by simp))
omit hG in
theorem px_arm {pat:PM PatD} {ex:PM ExpD} (hp:Px pat PatD.lit) (h:Px ex ExpD.lit):Px (armP T pat ex) ArmD.lit :=
 px_bind hp fun a ha=>px_step <| px_bind h fun e he=>px_ret (by rw [ArmD.lit]; exact ⟨ha,he⟩)
omit hG in
theorem px_arms {arm:PM ArmD} (h:Px arm ArmD.lit):Px (armsP T N arm) (fun l=>∀ x∈l,x.lit) :=
 px_bind h fun a ha=>px_bind (px_many (px_adv h) N) fun l hl=>px_ret fun x hx=>by rcases List.mem_cons.1 hx with rfl | hx; exact ha; exact hl x hx
omit hG in
theorem px_match {pat:PM PatD} {ex:PM ExpD} (hp:Px pat PatD.lit) (h:Px ex ExpD.lit) (p:Int):Px (iMatch T N pat ex p) ExpD.lit :=
 px_bind h fun a ha=>px_step <| px_step <| px_bind (px_iteB (px_arms (px_arm hp h)) (px_ret (by simp))) fun l hl=>px_step <| px_ret (litE (by simp) (by simp) (by decide) (by simpa using ha) hl)
theorem px_expB {most d:Nat} {pat:PM PatD} {ex:PM ExpD} (hp:Px pat PatD.lit) (h:Px ex ExpD.lit):Px (iExpB T N most pat ex d) ExpD.lit :=
 px_deep (litE (by simp) (by simp) (by decide) (by simp) (by simp)) <| px_now hG fun t ht=>px_iteG (px_let hG h t.p) <| px_iteG (px_fun hG h t.p) <| px_iteG (px_ifP h t.p) <| px_iteG (px_match hp h t.p) (px_once0 hG h)
theorem px_iExp {most:Nat}:∀ k d,Px (iExp T N most k d) ExpD.lit
 | 0,d=>px_ret (litE (by simp) (by simp) (by decide) (by simp) (by simp))
 | k+1,d=>px_expB hG (px_iPat hG k (d+1)) (px_iExp k (d+1))
def CtorD.lit (c:CtorD):Prop:=c.name.length<=4000/\c.arg.lit
def DataD.lit (d:DataD):Prop:=d.name.length<=4000/\(∀ v∈d.vars,v.length<=4000)/\∀ c∈d.ctors,c.lit
def ProgD.lit (g:ProgD):Prop:=(∀ d∈g.types,d.lit)/\g.body.lit
theorem px_ctor {ty:PM TyE} (h:Px ty TyE.lit):Px (ctorP T ty) CtorD.lit :=
 px_now hG fun t ht=>px_bind (px_word hG) fun n hn=>px_iteG (px_bind h fun a ha=>px_ret ⟨hn,ha⟩) (px_ret ⟨hn,litT (by simp) (by simp)⟩)
theorem px_data {ty:PM TyE} (h:Px ty TyE.lit):Px (dataP T N ty) DataD.lit :=
 px_now hG fun t ht=>px_step <| px_bind (px_many (px_word hG) N) fun vs hv=>px_bind (px_word hG) fun n hn=>px_step <| px_bind (px_ctor hG h) fun c hc=>px_bind (px_many (px_adv (px_ctor hG h)) N) fun cs hcs =>
  px_step <| px_ret ⟨hn,hv,fun x hx=>by rcases List.mem_cons.1 hx with rfl | hx; exact hc; exact hcs x hx⟩
theorem px_prog {ty:PM TyE} {ex:PM ExpD} (h:Px ty TyE.lit) (he:Px ex ExpD.lit):Px (progP T N ty ex) ProgD.lit :=
 px_bind (px_many (px_data hG h) N) fun ds hd=>px_bind he fun e hE=>px_step <| px_ret ⟨hd,hE⟩
end
open Qp in
theorem parsedP_lit (s:List UInt8):(parsedP s).1.lit:=by
 have h0:prog0.lit:=⟨by simp [prog0],litE (by simp) (by simp) (by decide) (by simp) (by simp)⟩
 unfold parsedP
 rcases hl:lexD s with T | ⟨c,i⟩
 ·have hG:=lexD_g hl
  have h:=px_prog (N:=T.length) hG (px_iTy (N:=T.length) (most:=40) hG 41 1) (px_iExp (N:=T.length) (most:=40) hG 41 1) ⟨0,0,0,0,0⟩
  simp only
  rw [told_e]
  split
  ·rename_i h1
   split at h1
   ·cases h1; exact h
   ·cases h1
  ·exact h0
 ·exact h0
end Go.Proofs.YtghcmccjchdgeaaGreatDoor.Pg
set_option linter.all false
set_option maxRecDepth 100000
namespace Go.Proofs.YtghcmccjchdgeaaGreatDoor.Mc
open Go.AM
def mc19:Got (Tryz.f19.body.map (compile [0,2,3,4,5,13] Tryz.prog 18)):=⟨_,by conv=>lhs; cbv⟩
def mr19:List MR:=[.t 2,.cell true 2 3]
theorem call19:CallT Tryz.prog 19 18 mc19.m mr19:=mc19.call Tryz.func19 (by kernel_rfl)
def mc44:Got (Tryz.f44.body.map (compile [0,1,2,5] Tryz.prog 14)):=⟨_,by conv=>lhs; cbv⟩
def mr44:List MR:=[.t 2]
theorem call44:CallT Tryz.prog 44 14 mc44.m mr44:=mc44.call Tryz.func44 (by kernel_rfl)
def mc51:Got (Tryz.f51.body.map (compile [0,1,2] Tryz.prog 12)):=⟨_,by conv=>lhs; cbv⟩
def mr51:List MR:=[.t 2]
theorem call51:CallT Tryz.prog 51 12 mc51.m mr51:=mc51.call Tryz.func51 (by kernel_rfl)
def mc82:Got (Tryz.f82.body.map (compile [0,2,3,5,7,8,10,11,12,13,14,15,21,22,23,24,34,35,36,37,43] Tryz.prog 67)):=⟨_,by conv=>lhs; cbv⟩
def mr82:List MR:=[.t 2]
theorem call82:CallT Tryz.prog 82 67 mc82.m mr82:=mc82.call Tryz.func82 (by kernel_rfl)
def mc83:Got (Tryz.f83.body.map (compile [0,1,2,4,5,6,7,8,10,11,16,21,26,28,32,39,69,75,89,110] Tryz.prog 128)):=⟨_,by conv=>lhs; cbv⟩
def mr83:List MR:=[.t 4]
theorem call83:CallT Tryz.prog 83 128 mc83.m mr83:=mc83.call Tryz.func83 (by kernel_rfl)
def mc97:Got (Tryz.f97.body.map (compile [0,1,2,4,6,9,11,12,13,14,19,22,23,24,25,37] Tryz.prog 39)):=⟨_,by conv=>lhs; cbv⟩
def mr97:List MR:=[.t 2]
theorem call97:CallT Tryz.prog 97 39 mc97.m mr97:=mc97.call Tryz.func97 (by kernel_rfl)
def mc98:Got (Tryz.f98.body.map (compile [0,1,4] Tryz.prog 9)):=⟨_,by conv=>lhs; cbv⟩
def mr98:List MR:=[.t 4]
theorem call98:CallT Tryz.prog 98 9 mc98.m mr98:=mc98.call Tryz.func98 (by kernel_rfl)
def mc99:Got (Tryz.f99.body.map (compile [0,1,2] Tryz.prog 6)):=⟨_,by conv=>lhs; cbv⟩
def mr99:List MR:=[.t 2]
theorem call99:CallT Tryz.prog 99 6 mc99.m mr99:=mc99.call Tryz.func99 (by kernel_rfl)
def mc100:Got (Tryz.f100.body.map (compile [0,1,2,4,6,7,8,9,41] Tryz.prog 63)):=⟨_,by conv=>lhs; cbv⟩
def mr100:List MR:=[.t 2]
theorem call100:CallT Tryz.prog 100 63 mc100.m mr100:=mc100.call Tryz.func100 (by kernel_rfl)
def mc128:Got (Tryz.f128.body.map (compile [0,1,2,4,6,7,23,30,40,48] Tryz.prog 60)):=⟨_,by conv=>lhs; cbv⟩
def mr128:List MR:=[.t 4]
theorem call128:CallT Tryz.prog 128 60 mc128.m mr128:=mc128.call Tryz.func128 (by kernel_rfl)
def mc131:Got (Tryz.f131.body.map (compile [0,2,3,4,9,14,21,26] Tryz.prog 39)):=⟨_,by conv=>lhs; cbv⟩
def mr131:List MR:=[.t 2]
theorem call131:CallT Tryz.prog 131 39 mc131.m mr131:=mc131.call Tryz.func131 (by kernel_rfl)
def mc132:Got (Tryz.f132.body.map (compile [0,2,4] Tryz.prog 5)):=⟨_,by conv=>lhs; cbv⟩
def mr132:List MR:=[.t 2]
theorem call132:CallT Tryz.prog 132 5 mc132.m mr132:=mc132.call Tryz.func132 (by kernel_rfl)
def mc133:Got (Tryz.f133.body.map (compile [0,1,2,3,8,9,11,12,13,14,15] Tryz.prog 29)):=⟨_,by conv=>lhs; cbv⟩
def mr133:List MR:=[.t 8]
theorem call133:CallT Tryz.prog 133 29 mc133.m mr133:=mc133.call Tryz.func133 (by kernel_rfl)
def mc134:Got (Tryz.f134.body.map (compile [0,2,3,4,5,6,8,11] Tryz.prog 13)):=⟨_,by conv=>lhs; cbv⟩
def mr134:List MR:=[.t 2,.t 3,.t 4]
theorem call134:CallT Tryz.prog 134 13 mc134.m mr134:=mc134.call Tryz.func134 (by kernel_rfl)
def mc135:Got (Tryz.f135.body.map (compile [0,1,2,6,9] Tryz.prog 14)):=⟨_,by conv=>lhs; cbv⟩
def mr135:List MR:=[.t 6]
theorem call135:CallT Tryz.prog 135 14 mc135.m mr135:=mc135.call Tryz.func135 (by kernel_rfl)
def mc136:Got (Tryz.f136.body.map (compile [0,1,2,3,4,6,9,10,23,40,49,67,68,69,70] Tryz.prog 87)):=⟨_,by conv=>lhs; cbv⟩
def mr136:List MR:=[.t 2]
theorem call136:CallT Tryz.prog 136 87 mc136.m mr136:=mc136.call Tryz.func136 (by kernel_rfl)
def mc146:Got (Tryz.f146.body.map (compile [0,1,2,3,4,5,6,21,22,27,32,37,39,44,53,59,68,74,83,95,101,107,116] Tryz.prog 150)):=⟨_,by conv=>lhs; cbv⟩
def mr146:List MR:=[.t 2]
theorem call146:CallT Tryz.prog 146 150 mc146.m mr146:=mc146.call Tryz.func146 (by kernel_rfl)
def mc147:Got (Tryz.f147.body.map (compile [0,1,2,3,4,5,17,18,21,26,31,36,42] Tryz.prog 69)):=⟨_,by conv=>lhs; cbv⟩
def mr147:List MR:=[.t 2]
theorem call147:CallT Tryz.prog 147 69 mc147.m mr147:=mc147.call Tryz.func147 (by kernel_rfl)
def mc148:Got (Tryz.f148.body.map (compile [0,1,4,5,7,8,9,16] Tryz.prog 19)):=⟨_,by conv=>lhs; cbv⟩
def mr148:List MR:=[.t 4]
theorem call148:CallT Tryz.prog 148 19 mc148.m mr148:=mc148.call Tryz.func148 (by kernel_rfl)
def mc149:Got (Tryz.f149.body.map (compile [0,2] Tryz.prog 5)):=⟨_,by conv=>lhs; cbv⟩
def mr149:List MR:=[.t 2]
theorem call149:CallT Tryz.prog 149 5 mc149.m mr149:=mc149.call Tryz.func149 (by kernel_rfl)
def mc150:Got (Tryz.f150.body.map (compile [0,1,2,3,4,9,10,15,24,30,36] Tryz.prog 57)):=⟨_,by conv=>lhs; cbv⟩
def mr150:List MR:=[.t 2]
theorem call150:CallT Tryz.prog 150 57 mc150.m mr150:=mc150.call Tryz.func150 (by kernel_rfl)
def mc151:Got (Tryz.f151.body.map (compile [0,1,2] Tryz.prog 22)):=⟨_,by conv=>lhs; cbv⟩
def mr151:List MR:=[.t 2]
theorem call151:CallT Tryz.prog 151 22 mc151.m mr151:=mc151.call Tryz.func151 (by kernel_rfl)
def mc152:Got (Tryz.f152.body.map (compile [0,2] Tryz.prog 10)):=⟨_,by conv=>lhs; cbv⟩
def mr152:List MR:=[.t 2]
theorem call152:CallT Tryz.prog 152 10 mc152.m mr152:=mc152.call Tryz.func152 (by kernel_rfl)
def mc153:Got (Tryz.f153.body.map (compile [0,1,4] Tryz.prog 9)):=⟨_,by conv=>lhs; cbv⟩
def mr153:List MR:=[.t 4]
theorem call153:CallT Tryz.prog 153 9 mc153.m mr153:=mc153.call Tryz.func153 (by kernel_rfl)
def mc154:Got (Tryz.f154.body.map (compile [0,2] Tryz.prog 6)):=⟨_,by conv=>lhs; cbv⟩
def mr154:List MR:=[.t 2]
theorem call154:CallT Tryz.prog 154 6 mc154.m mr154:=mc154.call Tryz.func154 (by kernel_rfl)
def mc155:Got (Tryz.f155.body.map (compile [0,1,4] Tryz.prog 21)):=⟨_,by conv=>lhs; cbv⟩
def mr155:List MR:=[.t 4]
theorem call155:CallT Tryz.prog 155 21 mc155.m mr155:=mc155.call Tryz.func155 (by kernel_rfl)
def mc182:Got (Tryz.f182.body.map (compile [0,1,2,3,8,9,11,12,13,14,15] Tryz.prog 29)):=⟨_,by conv=>lhs; cbv⟩
def mr182:List MR:=[.t 8]
theorem call182:CallT Tryz.prog 182 29 mc182.m mr182:=mc182.call Tryz.func182 (by kernel_rfl)
def mc187:Got (Tryz.f187.body.map (compile [0,1,3] Tryz.prog 10)):=⟨_,by conv=>lhs; cbv⟩
def mr187:List MR:=[.t 3]
theorem call187:CallT Tryz.prog 187 10 mc187.m mr187:=mc187.call Tryz.func187 (by kernel_rfl)
def mc188:Got (Tryz.f188.body.map (compile [0,1,2,4,6,7,11,16,21,23,30,35] Tryz.prog 49)):=⟨_,by conv=>lhs; cbv⟩
def mr188:List MR:=[.t 4]
theorem call188:CallT Tryz.prog 188 49 mc188.m mr188:=mc188.call Tryz.func188 (by kernel_rfl)
def mc193:Got (Tryz.f193.body.map (compile [0,2,3,7,21] Tryz.prog 22)):=⟨_,by conv=>lhs; cbv⟩
def mr193:List MR:=[.t 2]
theorem call193:CallT Tryz.prog 193 22 mc193.m mr193:=mc193.call Tryz.func193 (by kernel_rfl)
def mc195:Got (Tryz.f195.body.map (compile [0,2] Tryz.prog 6)):=⟨_,by conv=>lhs; cbv⟩
def mr195:List MR:=[.t 2]
theorem call195:CallT Tryz.prog 195 6 mc195.m mr195:=mc195.call Tryz.func195 (by kernel_rfl)
def mc196:Got (Tryz.f196.body.map (compile [0,2,3,4,6] Tryz.prog 12)):=⟨_,by conv=>lhs; cbv⟩
def mr196:List MR:=[.t 2]
theorem call196:CallT Tryz.prog 196 12 mc196.m mr196:=mc196.call Tryz.func196 (by kernel_rfl)
def mc197:Got (Tryz.f197.body.map (compile [0,1,4] Tryz.prog 9)):=⟨_,by conv=>lhs; cbv⟩
def mr197:List MR:=[.t 4]
theorem call197:CallT Tryz.prog 197 9 mc197.m mr197:=mc197.call Tryz.func197 (by kernel_rfl)
def mc198:Got (Tryz.f198.body.map (compile [0,1,2] Tryz.prog 6)):=⟨_,by conv=>lhs; cbv⟩
def mr198:List MR:=[.t 2]
theorem call198:CallT Tryz.prog 198 6 mc198.m mr198:=mc198.call Tryz.func198 (by kernel_rfl)
def mc199:Got (Tryz.f199.body.map (compile [0,1,4] Tryz.prog 9)):=⟨_,by conv=>lhs; cbv⟩
def mr199:List MR:=[.t 4]
theorem call199:CallT Tryz.prog 199 9 mc199.m mr199:=mc199.call Tryz.func199 (by kernel_rfl)
def mc200:Got (Tryz.f200.body.map (compile [0,1,2] Tryz.prog 6)):=⟨_,by conv=>lhs; cbv⟩
def mr200:List MR:=[.t 2]
theorem call200:CallT Tryz.prog 200 6 mc200.m mr200:=mc200.call Tryz.func200 (by kernel_rfl)
def mc202:Got (Tryz.f202.body.map (compile [0,1,4,5,7,8,9,16] Tryz.prog 19)):=⟨_,by conv=>lhs; cbv⟩
def mr202:List MR:=[.t 4]
theorem call202:CallT Tryz.prog 202 19 mc202.m mr202:=mc202.call Tryz.func202 (by kernel_rfl)
def mc228:Got (Tryz.f228.body.map (compile [0,1,2,3,8,9,11,12,13,14,15] Tryz.prog 29)):=⟨_,by conv=>lhs; cbv⟩
def mr228:List MR:=[.t 8]
theorem call228:CallT Tryz.prog 228 29 mc228.m mr228:=mc228.call Tryz.func228 (by kernel_rfl)
def mc233:Got (Tryz.f233.body.map (compile [0,1,4,5,7,8,9,16] Tryz.prog 19)):=⟨_,by conv=>lhs; cbv⟩
def mr233:List MR:=[.t 4]
theorem call233:CallT Tryz.prog 233 19 mc233.m mr233:=mc233.call Tryz.func233 (by kernel_rfl)
def mc234:Got (Tryz.f234.body.map (compile [0,1,4,5,7,8,9,16] Tryz.prog 19)):=⟨_,by conv=>lhs; cbv⟩
def mr234:List MR:=[.t 4]
theorem call234:CallT Tryz.prog 234 19 mc234.m mr234:=mc234.call Tryz.func234 (by kernel_rfl)
end Go.Proofs.YtghcmccjchdgeaaGreatDoor.Mc