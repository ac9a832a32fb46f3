/- Texts PjO PjP PjQ PjM PgW PgX PjN PjA PjB PjC PjD PjE, merged. -/
import Derived.Test.YtnelfbcgplooiaaGreatKBD
import Derived.Test.YtnelfbcgplooiaaGreatChecked
import Derived.KernelRfl
/- Programs that are owned: trees, and slices of them as the laws copy them (printed in part by wip/tools/genown.py). -/
set_option linter.all false
namespace Go.Proofs.YtnelfbcgplooiaaGreat.Pg
open Go.AM Mc
mutual
def TyE.tv:TyE→List TV
 | .mk k n p ks=>[.p (.i .i64 k),.p (.s n),.p (.i .i64 p),.s 4 (TyE.tvL ks)]
def TyE.tvL:List TyE→List (List TV)
 | []=>[]
 | t :: l=>t.tv :: TyE.tvL l
end
mutual
def PatD.tv:PatD→List TV
 | .mk k n u p ks=>[.p (.i .i64 k),.p (.s n),.p (.i .i64 u),.p (.i .i64 p),.s 5 (PatD.tvL ks)]
def PatD.tvL:List PatD→List (List TV)
 | []=>[]
 | t :: l=>t.tv :: PatD.tvL l
end
mutual
def ExpD.tv:ExpD→List TV
 | .mk k n u t p ks as'=>[.p (.i .i64 k),.p (.s n),.p (.i .i64 u),.p (.s t),.p (.i .i64 p),.s 7 (ExpD.tvL ks),.s 12 (ExpD.tvA as')]
def ExpD.tvL:List ExpD→List (List TV)
 | []=>[]
 | t :: l=>t.tv :: ExpD.tvL l
def ArmD.tv:ArmD→List TV
 | .mk p e=>p.tv++e.tv
def ExpD.tvA:List ArmD→List (List TV)
 | []=>[]
 | t :: l=>t.tv :: ExpD.tvA l
end
def CtorD.tv (c:CtorD):List TV:=[.p (.s c.name),.p (.b c.has)]++c.arg.tv++[.p (.i .i64 c.pos)]
def namesTV (l:List (List UInt8)):List (List TV):=l.map fun s=>[.p (.s s)]
def DataD.tv (d:DataD):List TV:=[.p (.s d.name),.s 1 (namesTV d.vars),.s 7 (d.ctors.map CtorD.tv),.p (.i .i64 d.pos)]
def ProgD.tv (p:ProgD):List TV:=.s 4 (p.types.map DataD.tv) :: p.body.tv
theorem TyE.tvL_eq (l:List TyE):TyE.tvL l=l.map TyE.tv:=by
 induction l with
 | nil=>rfl
 | cons t l ih=>rw [TyE.tvL,ih]; rfl
theorem PatD.tvL_eq (l:List PatD):PatD.tvL l=l.map PatD.tv:=by
 induction l with
 | nil=>rfl
 | cons t l ih=>rw [PatD.tvL,ih]; rfl
theorem ExpD.tvL_eq (l:List ExpD):ExpD.tvL l=l.map ExpD.tv:=by
 induction l with
 | nil=>rfl
 | cons t l ih=>rw [ExpD.tvL,ih]; rfl
theorem ExpD.tvA_eq (l:List ArmD):ExpD.tvA l=l.map ArmD.tv:=by
 induction l with
 | nil=>rfl
 | cons t l ih=>rw [ExpD.tvA,ih]; rfl
theorem TyE.tv_len (t:TyE):t.tv.length=4:=by cases t; rw [TyE.tv]; rfl
theorem PatD.tv_len (t:PatD):t.tv.length=5:=by cases t; rw [PatD.tv]; rfl
theorem ExpD.tv_len (t:ExpD):t.tv.length=7:=by cases t; rw [ExpD.tv]; rfl
theorem ArmD.tv_len (t:ArmD):t.tv.length=12:=by cases t; rw [ArmD.tv,List.length_append,PatD.tv_len,ExpD.tv_len]
theorem CtorD.tv_len (t:CtorD):t.tv.length=7:=by simp [CtorD.tv,TyE.tv_len]
theorem DataD.tv_len (t:DataD):t.tv.length=4:=rfl
def ToN (f:Nat) (x:AV) (t:List TV):Prop:=∀ H,ACall Tryz.prog f [x] H (fun r H'=>∃ cs js,r=.st cs∧OwnCs H' t cs js∧js.Nodup∧(∀ i∈js,H.length≤i)∧∃ G,H'=H++G)
def ToLN (f:Nat) (x:AV) (sz:Nat) (rows:List (List TV)):Prop:=∀ H,ACall Tryz.prog f [x] H (fun r H'=>∃ js,Own H' (.s sz rows) r js∧js.Nodup∧(∀ i∈js,H.length≤i)∧∃ G,H'=H++G)
theorem toLN_TypeExp {l:List TyE} (hl:l.length≤1048576) (he:∀ a∈l,ToN 142 (av (TyE.cells a)) a.tv):ToLN 151 (.p (.l (l.map TyE.cells))) 4 (l.map TyE.tv):=by
 intro H
 refine call151 (by simp) ?_
 have hm:l.length≤maxL:=by rw [maxLe]; omega
 simp only [go_sem,reduceIte,↓reduceIte,sevalprocAttr,Z0,Z1,bytesOf,mc151,mr151,List.length_map,zl3_0,zl3_1,zl3_2,zl3_3]
 intro _
 refine ⟨by omega,by omega,by omega,?_⟩
 refine ⟨Nat × List AO,[0,2,3,4],fun x st=>(x.1≤l.length∧(∃ G,x.2=H++G)∧∃ rs js,x.2[H.length]?=some (.rows 4 0 (rs++List.replicate (l.length - x.1) [.p (.i .i64 0),.p (.s []),.p (.i .i64 0),.p .nl]))∧OwnRs x.2 4 ((l.take x.1).map (TyE.tv)) rs js∧js.Nodup∧∀ i∈js,H.length<i)∧st=⟨[(0,.p (.l (l.map TyE.cells))),(2,.p .nl),(3,.gs H.length 0 0 l.length),(4,.p (.i .i64 x.1))],[],x.2⟩,fun x=>l.length - x.1,⟨(0,H++[.rows 4 0 (List.replicate l.length [.p (.i .i64 0),.p (.s []),.p (.i .i64 0),.p .nl])]),?_⟩,?_⟩
 ·simp only [go_sem,reduceIte,↓reduceIte,sevalprocAttr,bytesOf]
  refine ⟨Nat.zero_le _,⟨_,rfl⟩,[],[],?_,?_,List.nodup_nil,fun i hi=>(by cases hi)⟩
  ·simp
  ·rw [OwnRs]; exact ⟨rfl,rfl⟩
 ·rintro ⟨i,HG⟩ _ ⟨⟨hi,⟨G,hG⟩,rs,js,hr,hO,hn,hf⟩,rfl⟩
  simp only at hi hG hr hO hn hf
  have hrl:=hO.len
  rw [List.length_map,List.length_take] at hrl
  by_cases hlt:i<l.length
  ·have d1:decide ((i:Int)<(l.length:Int))=true:=by simp; omega
   have hlt':((i:Int)<(l.length:Int)):=by omega
   have ex:=wrN i (by omega)
   have hz:(rs++List.replicate (l.length - i) ([.p (.i .i64 0),.p (.s []),.p (.i .i64 0),.p .nl]:List AV))[i]?=some [.p (.i .i64 0),.p (.s []),.p (.i .i64 0),.p .nl]:=by
    rw [List.getElem?_append_right (by omega),List.getElem?_replicate,if_pos (by omega)]
   have hset:∀ y,(rs++List.replicate (l.length - i) ([.p (.i .i64 0),.p (.s []),.p (.i .i64 0),.p .nl]:List AV)).set i y=(rs++[y])++List.replicate (l.length - (i+1)) [.p (.i .i64 0),.p (.s []),.p (.i .i64 0),.p .nl]:=fun y=>by
    rw [List.set_append_right _ _ (by omega),show i - rs.length=0 by omega,show l.length - i=(l.length - (i+1))+1 by omega,List.replicate_succ,List.set_cons_zero]; simp
   have hg:(l.map TyE.cells)[i]?=some (TyE.cells l[i]):=by simp [hlt]
   have et:takeN 4 (List.map AV.p (TyE.cells l[i]))=some (List.map AV.p (TyE.cells l[i])):=takeN_all (by rw [List.length_map,TyE.cells_len])
   have htk:(l.take (i+1)).map (TyE.tv)=(l.take i).map (TyE.tv)++[l[i].tv]:=by rw [List.take_succ,List.getElem?_eq_getElem hlt,List.map_append]; rfl
   simp only [go_sem,reduceIte,↓reduceIte,sevalprocAttr,Z0,Z1,bytesOf,List.length_map,d1,hg,et,TyE.cells_len]
   intro _
   refine (he l[i] (List.getElem_mem hlt) _).mono ?_
   rintro _ _ ⟨cs,ks,rfl,hc,hkn,hkf,G',rfl⟩
   have hcl:cs.length=4:=by rw [hc.len]; exact TyE.tv_len _
   have hr2:=get_ext hr G'
   have hGl:HG.length=H.length+G.length:=by rw [hG,List.length_append]
   have hHl:H.length<HG.length:=get_lt hr
   have hO2:=hO.keep (H':=HG++G') (fun k _ o ho=>get_ext ho _)
   have hjl:∀ k∈js,k<HG.length:=fun k hk=>by obtain ⟨_,_,_,h'⟩:=hO.rows k hk; exact get_lt h'
   have hp2:∃ G2,HG++G'=H++G2:=⟨G++G',by rw [hG,List.append_assoc]⟩
   generalize HG++G'=H2 at hc hr2 hO2 hp2 ⊢
   simp only [go_sem,reduceIte,↓reduceIte,sevalprocAttr,Z0,Z1,bytesOf,hr2,hcl]
   refine ⟨hlt',?_⟩
   have hs:=splice_here [.p (.i .i64 0),.p (.s []),.p (.i .i64 0),.p .nl] cs [] (by rw [hcl]; rfl)
   simp only [List.append_nil] at hs
   rw [stoR_at hz hs]
   simp only [go_sem,reduceIte,↓reduceIte,sevalprocAttr,Z0,Z1,bytesOf,ex]
   refine ⟨(i+1,_),⟨⟨by simp only; omega,by obtain ⟨G2,rfl⟩:=hp2; exact set_far ⟨_,rfl⟩ (Nat.le_refl _) _,rs++[cs],js++ks,?_,?_,?_,?_⟩,rfl⟩,by simp only; omega⟩
   ·simp only
    rw [set_get hr2,hset]
   ·simp only
    rw [htk]
    exact OwnRs.snoc (hO2.keep fun k hk o ho=>get_set ho (by have:=hf k hk; omega)) hcl (hc.keep fun k hk o ho=>get_set ho (by have:=hkf k hk; omega))
   ·exact List.nodup_append.2 ⟨hn,hkn,fun a ha b hb e=>by have:=hjl a ha; have:=hkf b hb; omega⟩
   ·intro k hk
    rcases List.mem_append.1 hk with hk | hk
    ·exact hf k hk
    ·have:=hkf k hk; omega
  ·have:i=l.length:=by omega
   subst this
   have d1:decide ((l.length:Int)<(l.length:Int))=false:=by simp
   rw [List.take_length] at hO
   rw [Nat.sub_self,List.replicate_zero,List.append_nil] at hr
   simp only [go_sem,reduceIte,↓reduceIte,sevalprocAttr,Z0,Z1,bytesOf,List.length_map,d1]
   intro _
   refine ⟨H.length :: js,?_,List.nodup_cons.2 ⟨fun h=>by have:=hf _ h; omega,hn⟩,fun k hk=>?_,_,hG⟩
   ·rw [Own]
    exact .inr ⟨H.length,0,rs,js,by rw [hrl,Nat.min_self],rfl,hr,hO⟩
   ·rcases List.mem_cons.1 hk with rfl | hk
    ·exact Nat.le_refl _
    ·have:=hf k hk; omega
theorem toLN_Pat {l:List PatD} (hl:l.length≤1048576) (he:∀ a∈l,ToN 116 (av (PatD.cells a)) a.tv):ToLN 143 (.p (.l (l.map PatD.cells))) 5 (l.map PatD.tv):=by
 intro H
 refine call143 (by simp) ?_
 have hm:l.length≤maxL:=by rw [maxLe]; omega
 simp only [go_sem,reduceIte,↓reduceIte,sevalprocAttr,Z0,Z1,bytesOf,mc143,mr143,List.length_map,zl3_0,zl3_1,zl3_2,zl3_3]
 intro _
 refine ⟨by omega,by omega,by omega,?_⟩
 refine ⟨Nat × List AO,[0,2,3,4],fun x st=>(x.1≤l.length∧(∃ G,x.2=H++G)∧∃ rs js,x.2[H.length]?=some (.rows 5 0 (rs++List.replicate (l.length - x.1) [.p (.i .i64 0),.p (.s []),.p (.i .i64 0),.p (.i .i64 0),.p .nl]))∧OwnRs x.2 5 ((l.take x.1).map (PatD.tv)) rs js∧js.Nodup∧∀ i∈js,H.length<i)∧st=⟨[(0,.p (.l (l.map PatD.cells))),(2,.p .nl),(3,.gs H.length 0 0 l.length),(4,.p (.i .i64 x.1))],[],x.2⟩,fun x=>l.length - x.1,⟨(0,H++[.rows 5 0 (List.replicate l.length [.p (.i .i64 0),.p (.s []),.p (.i .i64 0),.p (.i .i64 0),.p .nl])]),?_⟩,?_⟩
 ·simp only [go_sem,reduceIte,↓reduceIte,sevalprocAttr,bytesOf]
  refine ⟨Nat.zero_le _,⟨_,rfl⟩,[],[],?_,?_,List.nodup_nil,fun i hi=>(by cases hi)⟩
  ·simp
  ·rw [OwnRs]; exact ⟨rfl,rfl⟩
 ·rintro ⟨i,HG⟩ _ ⟨⟨hi,⟨G,hG⟩,rs,js,hr,hO,hn,hf⟩,rfl⟩
  simp only at hi hG hr hO hn hf
  have hrl:=hO.len
  rw [List.length_map,List.length_take] at hrl
  by_cases hlt:i<l.length
  ·have d1:decide ((i:Int)<(l.length:Int))=true:=by simp; omega
   have hlt':((i:Int)<(l.length:Int)):=by omega
   have ex:=wrN i (by omega)
   have hz:(rs++List.replicate (l.length - i) ([.p (.i .i64 0),.p (.s []),.p (.i .i64 0),.p (.i .i64 0),.p .nl]:List AV))[i]?=some [.p (.i .i64 0),.p (.s []),.p (.i .i64 0),.p (.i .i64 0),.p .nl]:=by
    rw [List.getElem?_append_right (by omega),List.getElem?_replicate,if_pos (by omega)]
   have hset:∀ y,(rs++List.replicate (l.length - i) ([.p (.i .i64 0),.p (.s []),.p (.i .i64 0),.p (.i .i64 0),.p .nl]:List AV)).set i y=(rs++[y])++List.replicate (l.length - (i+1)) [.p (.i .i64 0),.p (.s []),.p (.i .i64 0),.p (.i .i64 0),.p .nl]:=fun y=>by
    rw [List.set_append_right _ _ (by omega),show i - rs.length=0 by omega,show l.length - i=(l.length - (i+1))+1 by omega,List.replicate_succ,List.set_cons_zero]; simp
   have hg:(l.map PatD.cells)[i]?=some (PatD.cells l[i]):=by simp [hlt]
   have et:takeN 5 (List.map AV.p (PatD.cells l[i]))=some (List.map AV.p (PatD.cells l[i])):=takeN_all (by rw [List.length_map,PatD.cells_len])
   have htk:(l.take (i+1)).map (PatD.tv)=(l.take i).map (PatD.tv)++[l[i].tv]:=by rw [List.take_succ,List.getElem?_eq_getElem hlt,List.map_append]; rfl
   simp only [go_sem,reduceIte,↓reduceIte,sevalprocAttr,Z0,Z1,bytesOf,List.length_map,d1,hg,et,PatD.cells_len]
   intro _
   refine (he l[i] (List.getElem_mem hlt) _).mono ?_
   rintro _ _ ⟨cs,ks,rfl,hc,hkn,hkf,G',rfl⟩
   have hcl:cs.length=5:=by rw [hc.len]; exact PatD.tv_len _
   have hr2:=get_ext hr G'
   have hGl:HG.length=H.length+G.length:=by rw [hG,List.length_append]
   have hHl:H.length<HG.length:=get_lt hr
   have hO2:=hO.keep (H':=HG++G') (fun k _ o ho=>get_ext ho _)
   have hjl:∀ k∈js,k<HG.length:=fun k hk=>by obtain ⟨_,_,_,h'⟩:=hO.rows k hk; exact get_lt h'
   have hp2:∃ G2,HG++G'=H++G2:=⟨G++G',by rw [hG,List.append_assoc]⟩
   generalize HG++G'=H2 at hc hr2 hO2 hp2 ⊢
   simp only [go_sem,reduceIte,↓reduceIte,sevalprocAttr,Z0,Z1,bytesOf,hr2,hcl]
   refine ⟨hlt',?_⟩
   have hs:=splice_here [.p (.i .i64 0),.p (.s []),.p (.i .i64 0),.p (.i .i64 0),.p .nl] cs [] (by rw [hcl]; rfl)
   simp only [List.append_nil] at hs
   rw [stoR_at hz hs]
   simp only [go_sem,reduceIte,↓reduceIte,sevalprocAttr,Z0,Z1,bytesOf,ex]
   refine ⟨(i+1,_),⟨⟨by simp only; omega,by obtain ⟨G2,rfl⟩:=hp2; exact set_far ⟨_,rfl⟩ (Nat.le_refl _) _,rs++[cs],js++ks,?_,?_,?_,?_⟩,rfl⟩,by simp only; omega⟩
   ·simp only
    rw [set_get hr2,hset]
   ·simp only
    rw [htk]
    exact OwnRs.snoc (hO2.keep fun k hk o ho=>get_set ho (by have:=hf k hk; omega)) hcl (hc.keep fun k hk o ho=>get_set ho (by have:=hkf k hk; omega))
   ·exact List.nodup_append.2 ⟨hn,hkn,fun a ha b hb e=>by have:=hjl a ha; have:=hkf b hb; omega⟩
   ·intro k hk
    rcases List.mem_append.1 hk with hk | hk
    ·exact hf k hk
    ·have:=hkf k hk; omega
  ·have:i=l.length:=by omega
   subst this
   have d1:decide ((l.length:Int)<(l.length:Int))=false:=by simp
   rw [List.take_length] at hO
   rw [Nat.sub_self,List.replicate_zero,List.append_nil] at hr
   simp only [go_sem,reduceIte,↓reduceIte,sevalprocAttr,Z0,Z1,bytesOf,List.length_map,d1]
   intro _
   refine ⟨H.length :: js,?_,List.nodup_cons.2 ⟨fun h=>by have:=hf _ h; omega,hn⟩,fun k hk=>?_,_,hG⟩
   ·rw [Own]
    exact .inr ⟨H.length,0,rs,js,by rw [hrl,Nat.min_self],rfl,hr,hO⟩
   ·rcases List.mem_cons.1 hk with rfl | hk
    ·exact Nat.le_refl _
    ·have:=hf k hk; omega
theorem toLN_Exp {l:List ExpD} (hl:l.length≤1048576) (he:∀ a∈l,ToN 21 (av (ExpD.cells a)) a.tv):ToLN 50 (.p (.l (l.map ExpD.cells))) 7 (l.map ExpD.tv):=by
 intro H
 refine call50 (by simp) ?_
 have hm:l.length≤maxL:=by rw [maxLe]; omega
 simp only [go_sem,reduceIte,↓reduceIte,sevalprocAttr,Z0,Z1,bytesOf,mc50,mr50,List.length_map,zl3_0,zl3_1,zl3_2,zl3_3]
 intro _
 refine ⟨by omega,by omega,by omega,?_⟩
 refine ⟨Nat × List AO,[0,2,3,4],fun x st=>(x.1≤l.length∧(∃ G,x.2=H++G)∧∃ rs js,x.2[H.length]?=some (.rows 7 0 (rs++List.replicate (l.length - x.1) [.p (.i .i64 0),.p (.s []),.p (.i .i64 0),.p (.s []),.p (.i .i64 0),.p .nl,.p .nl]))∧OwnRs x.2 7 ((l.take x.1).map (ExpD.tv)) rs js∧js.Nodup∧∀ i∈js,H.length<i)∧st=⟨[(0,.p (.l (l.map ExpD.cells))),(2,.p .nl),(3,.gs H.length 0 0 l.length),(4,.p (.i .i64 x.1))],[],x.2⟩,fun x=>l.length - x.1,⟨(0,H++[.rows 7 0 (List.replicate l.length [.p (.i .i64 0),.p (.s []),.p (.i .i64 0),.p (.s []),.p (.i .i64 0),.p .nl,.p .nl])]),?_⟩,?_⟩
 ·simp only [go_sem,reduceIte,↓reduceIte,sevalprocAttr,bytesOf]
  refine ⟨Nat.zero_le _,⟨_,rfl⟩,[],[],?_,?_,List.nodup_nil,fun i hi=>(by cases hi)⟩
  ·simp
  ·rw [OwnRs]; exact ⟨rfl,rfl⟩
 ·rintro ⟨i,HG⟩ _ ⟨⟨hi,⟨G,hG⟩,rs,js,hr,hO,hn,hf⟩,rfl⟩
  simp only at hi hG hr hO hn hf
  have hrl:=hO.len
  rw [List.length_map,List.length_take] at hrl
  by_cases hlt:i<l.length
  ·have d1:decide ((i:Int)<(l.length:Int))=true:=by simp; omega
   have hlt':((i:Int)<(l.length:Int)):=by omega
   have ex:=wrN i (by omega)
   have hz:(rs++List.replicate (l.length - i) ([.p (.i .i64 0),.p (.s []),.p (.i .i64 0),.p (.s []),.p (.i .i64 0),.p .nl,.p .nl]:List AV))[i]?=some [.p (.i .i64 0),.p (.s []),.p (.i .i64 0),.p (.s []),.p (.i .i64 0),.p .nl,.p .nl]:=by
    rw [List.getElem?_append_right (by omega),List.getElem?_replicate,if_pos (by omega)]
   have hset:∀ y,(rs++List.replicate (l.length - i) ([.p (.i .i64 0),.p (.s []),.p (.i .i64 0),.p (.s []),.p (.i .i64 0),.p .nl,.p .nl]:List AV)).set i y=(rs++[y])++List.replicate (l.length - (i+1)) [.p (.i .i64 0),.p (.s []),.p (.i .i64 0),.p (.s []),.p (.i .i64 0),.p .nl,.p .nl]:=fun y=>by
    rw [List.set_append_right _ _ (by omega),show i - rs.length=0 by omega,show l.length - i=(l.length - (i+1))+1 by omega,List.replicate_succ,List.set_cons_zero]; simp
   have hg:(l.map ExpD.cells)[i]?=some (ExpD.cells l[i]):=by simp [hlt]
   have et:takeN 7 (List.map AV.p (ExpD.cells l[i]))=some (List.map AV.p (ExpD.cells l[i])):=takeN_all (by rw [List.length_map,ExpD.cells_len])
   have htk:(l.take (i+1)).map (ExpD.tv)=(l.take i).map (ExpD.tv)++[l[i].tv]:=by rw [List.take_succ,List.getElem?_eq_getElem hlt,List.map_append]; rfl
   simp only [go_sem,reduceIte,↓reduceIte,sevalprocAttr,Z0,Z1,bytesOf,List.length_map,d1,hg,et,ExpD.cells_len]
   intro _
   refine (he l[i] (List.getElem_mem hlt) _).mono ?_
   rintro _ _ ⟨cs,ks,rfl,hc,hkn,hkf,G',rfl⟩
   have hcl:cs.length=7:=by rw [hc.len]; exact ExpD.tv_len _
   have hr2:=get_ext hr G'
   have hGl:HG.length=H.length+G.length:=by rw [hG,List.length_append]
   have hHl:H.length<HG.length:=get_lt hr
   have hO2:=hO.keep (H':=HG++G') (fun k _ o ho=>get_ext ho _)
   have hjl:∀ k∈js,k<HG.length:=fun k hk=>by obtain ⟨_,_,_,h'⟩:=hO.rows k hk; exact get_lt h'
   have hp2:∃ G2,HG++G'=H++G2:=⟨G++G',by rw [hG,List.append_assoc]⟩
   generalize HG++G'=H2 at hc hr2 hO2 hp2 ⊢
   simp only [go_sem,reduceIte,↓reduceIte,sevalprocAttr,Z0,Z1,bytesOf,hr2,hcl]
   refine ⟨hlt',?_⟩
   have hs:=splice_here [.p (.i .i64 0),.p (.s []),.p (.i .i64 0),.p (.s []),.p (.i .i64 0),.p .nl,.p .nl] cs [] (by rw [hcl]; rfl)
   simp only [List.append_nil] at hs
   rw [stoR_at hz hs]
   simp only [go_sem,reduceIte,↓reduceIte,sevalprocAttr,Z0,Z1,bytesOf,ex]
   refine ⟨(i+1,_),⟨⟨by simp only; omega,by obtain ⟨G2,rfl⟩:=hp2; exact set_far ⟨_,rfl⟩ (Nat.le_refl _) _,rs++[cs],js++ks,?_,?_,?_,?_⟩,rfl⟩,by simp only; omega⟩
   ·simp only
    rw [set_get hr2,hset]
   ·simp only
    rw [htk]
    exact OwnRs.snoc (hO2.keep fun k hk o ho=>get_set ho (by have:=hf k hk; omega)) hcl (hc.keep fun k hk o ho=>get_set ho (by have:=hkf k hk; omega))
   ·exact List.nodup_append.2 ⟨hn,hkn,fun a ha b hb e=>by have:=hjl a ha; have:=hkf b hb; omega⟩
   ·intro k hk
    rcases List.mem_append.1 hk with hk | hk
    ·exact hf k hk
    ·have:=hkf k hk; omega
  ·have:i=l.length:=by omega
   subst this
   have d1:decide ((l.length:Int)<(l.length:Int))=false:=by simp
   rw [List.take_length] at hO
   rw [Nat.sub_self,List.replicate_zero,List.append_nil] at hr
   simp only [go_sem,reduceIte,↓reduceIte,sevalprocAttr,Z0,Z1,bytesOf,List.length_map,d1]
   intro _
   refine ⟨H.length :: js,?_,List.nodup_cons.2 ⟨fun h=>by have:=hf _ h; omega,hn⟩,fun k hk=>?_,_,hG⟩
   ·rw [Own]
    exact .inr ⟨H.length,0,rs,js,by rw [hrl,Nat.min_self],rfl,hr,hO⟩
   ·rcases List.mem_cons.1 hk with rfl | hk
    ·exact Nat.le_refl _
    ·have:=hf k hk; omega
theorem toLN_Arm {l:List ArmD} (hl:l.length≤1048576) (he:∀ a∈l,ToN 86 (av (ArmD.cells a)) a.tv):ToLN 51 (.p (.l (l.map ArmD.cells))) 12 (l.map ArmD.tv):=by
 intro H
 refine call51 (by simp) ?_
 have hm:l.length≤maxL:=by rw [maxLe]; omega
 simp only [go_sem,reduceIte,↓reduceIte,sevalprocAttr,Z0,Z1,bytesOf,mc51,mr51,List.length_map,zl3_0,zl3_1,zl3_2,zl3_3]
 intro _
 refine ⟨by omega,by omega,by omega,?_⟩
 refine ⟨Nat × List AO,[0,2,3,4],fun x st=>(x.1≤l.length∧(∃ G,x.2=H++G)∧∃ rs js,x.2[H.length]?=some (.rows 12 0 (rs++List.replicate (l.length - x.1) [.p (.i .i64 0),.p (.s []),.p (.i .i64 0),.p (.i .i64 0),.p .nl,.p (.i .i64 0),.p (.s []),.p (.i .i64 0),.p (.s []),.p (.i .i64 0),.p .nl,.p .nl]))∧OwnRs x.2 12 ((l.take x.1).map (ArmD.tv)) rs js∧js.Nodup∧∀ i∈js,H.length<i)∧st=⟨[(0,.p (.l (l.map ArmD.cells))),(2,.p .nl),(3,.gs H.length 0 0 l.length),(4,.p (.i .i64 x.1))],[],x.2⟩,fun x=>l.length - x.1,⟨(0,H++[.rows 12 0 (List.replicate l.length [.p (.i .i64 0),.p (.s []),.p (.i .i64 0),.p (.i .i64 0),.p .nl,.p (.i .i64 0),.p (.s []),.p (.i .i64 0),.p (.s []),.p (.i .i64 0),.p .nl,.p .nl])]),?_⟩,?_⟩
 ·simp only [go_sem,reduceIte,↓reduceIte,sevalprocAttr,bytesOf]
  refine ⟨Nat.zero_le _,⟨_,rfl⟩,[],[],?_,?_,List.nodup_nil,fun i hi=>(by cases hi)⟩
  ·simp
  ·rw [OwnRs]; exact ⟨rfl,rfl⟩
 ·rintro ⟨i,HG⟩ _ ⟨⟨hi,⟨G,hG⟩,rs,js,hr,hO,hn,hf⟩,rfl⟩
  simp only at hi hG hr hO hn hf
  have hrl:=hO.len
  rw [List.length_map,List.length_take] at hrl
  by_cases hlt:i<l.length
  ·have d1:decide ((i:Int)<(l.length:Int))=true:=by simp; omega
   have hlt':((i:Int)<(l.length:Int)):=by omega
   have ex:=wrN i (by omega)
   have hz:(rs++List.replicate (l.length - i) ([.p (.i .i64 0),.p (.s []),.p (.i .i64 0),.p (.i .i64 0),.p .nl,.p (.i .i64 0),.p (.s []),.p (.i .i64 0),.p (.s []),.p (.i .i64 0),.p .nl,.p .nl]:List AV))[i]?=some [.p (.i .i64 0),.p (.s []),.p (.i .i64 0),.p (.i .i64 0),.p .nl,.p (.i .i64 0),.p (.s []),.p (.i .i64 0),.p (.s []),.p (.i .i64 0),.p .nl,.p .nl]:=by
    rw [List.getElem?_append_right (by omega),List.getElem?_replicate,if_pos (by omega)]
   have hset:∀ y,(rs++List.replicate (l.length - i) ([.p (.i .i64 0),.p (.s []),.p (.i .i64 0),.p (.i .i64 0),.p .nl,.p (.i .i64 0),.p (.s []),.p (.i .i64 0),.p (.s []),.p (.i .i64 0),.p .nl,.p .nl]:List AV)).set i y=(rs++[y])++List.replicate (l.length - (i+1)) [.p (.i .i64 0),.p (.s []),.p (.i .i64 0),.p (.i .i64 0),.p .nl,.p (.i .i64 0),.p (.s []),.p (.i .i64 0),.p (.s []),.p (.i .i64 0),.p .nl,.p .nl]:=fun y=>by
    rw [List.set_append_right _ _ (by omega),show i - rs.length=0 by omega,show l.length - i=(l.length - (i+1))+1 by omega,List.replicate_succ,List.set_cons_zero]; simp
   have hg:(l.map ArmD.cells)[i]?=some (ArmD.cells l[i]):=by simp [hlt]
   have et:takeN 12 (List.map AV.p (ArmD.cells l[i]))=some (List.map AV.p (ArmD.cells l[i])):=takeN_all (by rw [List.length_map,ArmD.cells_len])
   have htk:(l.take (i+1)).map (ArmD.tv)=(l.take i).map (ArmD.tv)++[l[i].tv]:=by rw [List.take_succ,List.getElem?_eq_getElem hlt,List.map_append]; rfl
   simp only [go_sem,reduceIte,↓reduceIte,sevalprocAttr,Z0,Z1,bytesOf,List.length_map,d1,hg,et,ArmD.cells_len]
   intro _
   refine (he l[i] (List.getElem_mem hlt) _).mono ?_
   rintro _ _ ⟨cs,ks,rfl,hc,hkn,hkf,G',rfl⟩
   have hcl:cs.length=12:=by rw [hc.len]; exact ArmD.tv_len _
   have hr2:=get_ext hr G'
   have hGl:HG.length=H.length+G.length:=by rw [hG,List.length_append]
   have hHl:H.length<HG.length:=get_lt hr
   have hO2:=hO.keep (H':=HG++G') (fun k _ o ho=>get_ext ho _)
   have hjl:∀ k∈js,k<HG.length:=fun k hk=>by obtain ⟨_,_,_,h'⟩:=hO.rows k hk; exact get_lt h'
   have hp2:∃ G2,HG++G'=H++G2:=⟨G++G',by rw [hG,List.append_assoc]⟩
   generalize HG++G'=H2 at hc hr2 hO2 hp2 ⊢
   simp only [go_sem,reduceIte,↓reduceIte,sevalprocAttr,Z0,Z1,bytesOf,hr2,hcl]
   refine ⟨hlt',?_⟩
   have hs:=splice_here [.p (.i .i64 0),.p (.s []),.p (.i .i64 0),.p (.i .i64 0),.p .nl,.p (.i .i64 0),.p (.s []),.p (.i .i64 0),.p (.s []),.p (.i .i64 0),.p .nl,.p .nl] cs [] (by rw [hcl]; rfl)
   simp only [List.append_nil] at hs
   rw [stoR_at hz hs]
   simp only [go_sem,reduceIte,↓reduceIte,sevalprocAttr,Z0,Z1,bytesOf,ex]
   refine ⟨(i+1,_),⟨⟨by simp only; omega,by obtain ⟨G2,rfl⟩:=hp2; exact set_far ⟨_,rfl⟩ (Nat.le_refl _) _,rs++[cs],js++ks,?_,?_,?_,?_⟩,rfl⟩,by simp only; omega⟩
   ·simp only
    rw [set_get hr2,hset]
   ·simp only
    rw [htk]
    exact OwnRs.snoc (hO2.keep fun k hk o ho=>get_set ho (by have:=hf k hk; omega)) hcl (hc.keep fun k hk o ho=>get_set ho (by have:=hkf k hk; omega))
   ·exact List.nodup_append.2 ⟨hn,hkn,fun a ha b hb e=>by have:=hjl a ha; have:=hkf b hb; omega⟩
   ·intro k hk
    rcases List.mem_append.1 hk with hk | hk
    ·exact hf k hk
    ·have:=hkf k hk; omega
  ·have:i=l.length:=by omega
   subst this
   have d1:decide ((l.length:Int)<(l.length:Int))=false:=by simp
   rw [List.take_length] at hO
   rw [Nat.sub_self,List.replicate_zero,List.append_nil] at hr
   simp only [go_sem,reduceIte,↓reduceIte,sevalprocAttr,Z0,Z1,bytesOf,List.length_map,d1]
   intro _
   refine ⟨H.length :: js,?_,List.nodup_cons.2 ⟨fun h=>by have:=hf _ h; omega,hn⟩,fun k hk=>?_,_,hG⟩
   ·rw [Own]
    exact .inr ⟨H.length,0,rs,js,by rw [hrl,Nat.min_self],rfl,hr,hO⟩
   ·rcases List.mem_cons.1 hk with rfl | hk
    ·exact Nat.le_refl _
    ·have:=hf k hk; omega
theorem toLN_Ctor {l:List CtorD} (hl:l.length≤1048576) (he:∀ a∈l,ToN 115 (av (CtorD.cells a)) a.tv):ToLN 85 (.p (.l (l.map CtorD.cells))) 7 (l.map CtorD.tv):=by
 intro H
 refine call85 (by simp) ?_
 have hm:l.length≤maxL:=by rw [maxLe]; omega
 simp only [go_sem,reduceIte,↓reduceIte,sevalprocAttr,Z0,Z1,bytesOf,mc85,mr85,List.length_map,zl3_0,zl3_1,zl3_2,zl3_3]
 intro _
 refine ⟨by omega,by omega,by omega,?_⟩
 refine ⟨Nat × List AO,[0,2,3,4],fun x st=>(x.1≤l.length∧(∃ G,x.2=H++G)∧∃ rs js,x.2[H.length]?=some (.rows 7 0 (rs++List.replicate (l.length - x.1) [.p (.s []),.p (.b false),.p (.i .i64 0),.p (.s []),.p (.i .i64 0),.p .nl,.p (.i .i64 0)]))∧OwnRs x.2 7 ((l.take x.1).map (CtorD.tv)) rs js∧js.Nodup∧∀ i∈js,H.length<i)∧st=⟨[(0,.p (.l (l.map CtorD.cells))),(2,.p .nl),(3,.gs H.length 0 0 l.length),(4,.p (.i .i64 x.1))],[],x.2⟩,fun x=>l.length - x.1,⟨(0,H++[.rows 7 0 (List.replicate l.length [.p (.s []),.p (.b false),.p (.i .i64 0),.p (.s []),.p (.i .i64 0),.p .nl,.p (.i .i64 0)])]),?_⟩,?_⟩
 ·simp only [go_sem,reduceIte,↓reduceIte,sevalprocAttr,bytesOf]
  refine ⟨Nat.zero_le _,⟨_,rfl⟩,[],[],?_,?_,List.nodup_nil,fun i hi=>(by cases hi)⟩
  ·simp
  ·rw [OwnRs]; exact ⟨rfl,rfl⟩
 ·rintro ⟨i,HG⟩ _ ⟨⟨hi,⟨G,hG⟩,rs,js,hr,hO,hn,hf⟩,rfl⟩
  simp only at hi hG hr hO hn hf
  have hrl:=hO.len
  rw [List.length_map,List.length_take] at hrl
  by_cases hlt:i<l.length
  ·have d1:decide ((i:Int)<(l.length:Int))=true:=by simp; omega
   have hlt':((i:Int)<(l.length:Int)):=by omega
   have ex:=wrN i (by omega)
   have hz:(rs++List.replicate (l.length - i) ([.p (.s []),.p (.b false),.p (.i .i64 0),.p (.s []),.p (.i .i64 0),.p .nl,.p (.i .i64 0)]:List AV))[i]?=some [.p (.s []),.p (.b false),.p (.i .i64 0),.p (.s []),.p (.i .i64 0),.p .nl,.p (.i .i64 0)]:=by
    rw [List.getElem?_append_right (by omega),List.getElem?_replicate,if_pos (by omega)]
   have hset:∀ y,(rs++List.replicate (l.length - i) ([.p (.s []),.p (.b false),.p (.i .i64 0),.p (.s []),.p (.i .i64 0),.p .nl,.p (.i .i64 0)]:List AV)).set i y=(rs++[y])++List.replicate (l.length - (i+1)) [.p (.s []),.p (.b false),.p (.i .i64 0),.p (.s []),.p (.i .i64 0),.p .nl,.p (.i .i64 0)]:=fun y=>by
    rw [List.set_append_right _ _ (by omega),show i - rs.length=0 by omega,show l.length - i=(l.length - (i+1))+1 by omega,List.replicate_succ,List.set_cons_zero]; simp
   have hg:(l.map CtorD.cells)[i]?=some (CtorD.cells l[i]):=by simp [hlt]
   have et:takeN 7 (List.map AV.p (CtorD.cells l[i]))=some (List.map AV.p (CtorD.cells l[i])):=takeN_all (by rw [List.length_map,CtorD.cells_len])
   have htk:(l.take (i+1)).map (CtorD.tv)=(l.take i).map (CtorD.tv)++[l[i].tv]:=by rw [List.take_succ,List.getElem?_eq_getElem hlt,List.map_append]; rfl
   simp only [go_sem,reduceIte,↓reduceIte,sevalprocAttr,Z0,Z1,bytesOf,List.length_map,d1,hg,et,CtorD.cells_len]
   intro _
   refine (he l[i] (List.getElem_mem hlt) _).mono ?_
   rintro _ _ ⟨cs,ks,rfl,hc,hkn,hkf,G',rfl⟩
   have hcl:cs.length=7:=by rw [hc.len]; exact CtorD.tv_len _
   have hr2:=get_ext hr G'
   have hGl:HG.length=H.length+G.length:=by rw [hG,List.length_append]
   have hHl:H.length<HG.length:=get_lt hr
   have hO2:=hO.keep (H':=HG++G') (fun k _ o ho=>get_ext ho _)
   have hjl:∀ k∈js,k<HG.length:=fun k hk=>by obtain ⟨_,_,_,h'⟩:=hO.rows k hk; exact get_lt h'
   have hp2:∃ G2,HG++G'=H++G2:=⟨G++G',by rw [hG,List.append_assoc]⟩
   generalize HG++G'=H2 at hc hr2 hO2 hp2 ⊢
   simp only [go_sem,reduceIte,↓reduceIte,sevalprocAttr,Z0,Z1,bytesOf,hr2,hcl]
   refine ⟨hlt',?_⟩
   have hs:=splice_here [.p (.s []),.p (.b false),.p (.i .i64 0),.p (.s []),.p (.i .i64 0),.p .nl,.p (.i .i64 0)] cs [] (by rw [hcl]; rfl)
   simp only [List.append_nil] at hs
   rw [stoR_at hz hs]
   simp only [go_sem,reduceIte,↓reduceIte,sevalprocAttr,Z0,Z1,bytesOf,ex]
   refine ⟨(i+1,_),⟨⟨by simp only; omega,by obtain ⟨G2,rfl⟩:=hp2; exact set_far ⟨_,rfl⟩ (Nat.le_refl _) _,rs++[cs],js++ks,?_,?_,?_,?_⟩,rfl⟩,by simp only; omega⟩
   ·simp only
    rw [set_get hr2,hset]
   ·simp only
    rw [htk]
    exact OwnRs.snoc (hO2.keep fun k hk o ho=>get_set ho (by have:=hf k hk; omega)) hcl (hc.keep fun k hk o ho=>get_set ho (by have:=hkf k hk; omega))
   ·exact List.nodup_append.2 ⟨hn,hkn,fun a ha b hb e=>by have:=hjl a ha; have:=hkf b hb; omega⟩
   ·intro k hk
    rcases List.mem_append.1 hk with hk | hk
    ·exact hf k hk
    ·have:=hkf k hk; omega
  ·have:i=l.length:=by omega
   subst this
   have d1:decide ((l.length:Int)<(l.length:Int))=false:=by simp
   rw [List.take_length] at hO
   rw [Nat.sub_self,List.replicate_zero,List.append_nil] at hr
   simp only [go_sem,reduceIte,↓reduceIte,sevalprocAttr,Z0,Z1,bytesOf,List.length_map,d1]
   intro _
   refine ⟨H.length :: js,?_,List.nodup_cons.2 ⟨fun h=>by have:=hf _ h; omega,hn⟩,fun k hk=>?_,_,hG⟩
   ·rw [Own]
    exact .inr ⟨H.length,0,rs,js,by rw [hrl,Nat.min_self],rfl,hr,hO⟩
   ·rcases List.mem_cons.1 hk with rfl | hk
    ·exact Nat.le_refl _
    ·have:=hf k hk; omega
theorem toLN_Data {l:List DataD} (hl:l.length≤1048576) (he:∀ a∈l,ToN 49 (av (DataD.cells a)) a.tv):ToLN 20 (.p (.l (l.map DataD.cells))) 4 (l.map DataD.tv):=by
 intro H
 refine call20 (by simp) ?_
 have hm:l.length≤maxL:=by rw [maxLe]; omega
 simp only [go_sem,reduceIte,↓reduceIte,sevalprocAttr,Z0,Z1,bytesOf,mc20,mr20,List.length_map,zl3_0,zl3_1,zl3_2,zl3_3]
 intro _
 refine ⟨by omega,by omega,by omega,?_⟩
 refine ⟨Nat × List AO,[0,2,3,4],fun x st=>(x.1≤l.length∧(∃ G,x.2=H++G)∧∃ rs js,x.2[H.length]?=some (.rows 4 0 (rs++List.replicate (l.length - x.1) [.p (.s []),.p .nl,.p .nl,.p (.i .i64 0)]))∧OwnRs x.2 4 ((l.take x.1).map (DataD.tv)) rs js∧js.Nodup∧∀ i∈js,H.length<i)∧st=⟨[(0,.p (.l (l.map DataD.cells))),(2,.p .nl),(3,.gs H.length 0 0 l.length),(4,.p (.i .i64 x.1))],[],x.2⟩,fun x=>l.length - x.1,⟨(0,H++[.rows 4 0 (List.replicate l.length [.p (.s []),.p .nl,.p .nl,.p (.i .i64 0)])]),?_⟩,?_⟩
 ·simp only [go_sem,reduceIte,↓reduceIte,sevalprocAttr,bytesOf]
  refine ⟨Nat.zero_le _,⟨_,rfl⟩,[],[],?_,?_,List.nodup_nil,fun i hi=>(by cases hi)⟩
  ·simp
  ·rw [OwnRs]; exact ⟨rfl,rfl⟩
 ·rintro ⟨i,HG⟩ _ ⟨⟨hi,⟨G,hG⟩,rs,js,hr,hO,hn,hf⟩,rfl⟩
  simp only at hi hG hr hO hn hf
  have hrl:=hO.len
  rw [List.length_map,List.length_take] at hrl
  by_cases hlt:i<l.length
  ·have d1:decide ((i:Int)<(l.length:Int))=true:=by simp; omega
   have hlt':((i:Int)<(l.length:Int)):=by omega
   have ex:=wrN i (by omega)
   have hz:(rs++List.replicate (l.length - i) ([.p (.s []),.p .nl,.p .nl,.p (.i .i64 0)]:List AV))[i]?=some [.p (.s []),.p .nl,.p .nl,.p (.i .i64 0)]:=by
    rw [List.getElem?_append_right (by omega),List.getElem?_replicate,if_pos (by omega)]
   have hset:∀ y,(rs++List.replicate (l.length - i) ([.p (.s []),.p .nl,.p .nl,.p (.i .i64 0)]:List AV)).set i y=(rs++[y])++List.replicate (l.length - (i+1)) [.p (.s []),.p .nl,.p .nl,.p (.i .i64 0)]:=fun y=>by
    rw [List.set_append_right _ _ (by omega),show i - rs.length=0 by omega,show l.length - i=(l.length - (i+1))+1 by omega,List.replicate_succ,List.set_cons_zero]; simp
   have hg:(l.map DataD.cells)[i]?=some (DataD.cells l[i]):=by simp [hlt]
   have et:takeN 4 (List.map AV.p (DataD.cells l[i]))=some (List.map AV.p (DataD.cells l[i])):=takeN_all (by rw [List.length_map,DataD.cells_len])
   have htk:(l.take (i+1)).map (DataD.tv)=(l.take i).map (DataD.tv)++[l[i].tv]:=by rw [List.take_succ,List.getElem?_eq_getElem hlt,List.map_append]; rfl
   simp only [go_sem,reduceIte,↓reduceIte,sevalprocAttr,Z0,Z1,bytesOf,List.length_map,d1,hg,et,DataD.cells_len]
   intro _
   refine (he l[i] (List.getElem_mem hlt) _).mono ?_
   rintro _ _ ⟨cs,ks,rfl,hc,hkn,hkf,G',rfl⟩
   have hcl:cs.length=4:=by rw [hc.len]; exact DataD.tv_len _
   have hr2:=get_ext hr G'
   have hGl:HG.length=H.length+G.length:=by rw [hG,List.length_append]
   have hHl:H.length<HG.length:=get_lt hr
   have hO2:=hO.keep (H':=HG++G') (fun k _ o ho=>get_ext ho _)
   have hjl:∀ k∈js,k<HG.length:=fun k hk=>by obtain ⟨_,_,_,h'⟩:=hO.rows k hk; exact get_lt h'
   have hp2:∃ G2,HG++G'=H++G2:=⟨G++G',by rw [hG,List.append_assoc]⟩
   generalize HG++G'=H2 at hc hr2 hO2 hp2 ⊢
   simp only [go_sem,reduceIte,↓reduceIte,sevalprocAttr,Z0,Z1,bytesOf,hr2,hcl]
   refine ⟨hlt',?_⟩
   have hs:=splice_here [.p (.s []),.p .nl,.p .nl,.p (.i .i64 0)] cs [] (by rw [hcl]; rfl)
   simp only [List.append_nil] at hs
   rw [stoR_at hz hs]
   simp only [go_sem,reduceIte,↓reduceIte,sevalprocAttr,Z0,Z1,bytesOf,ex]
   refine ⟨(i+1,_),⟨⟨by simp only; omega,by obtain ⟨G2,rfl⟩:=hp2; exact set_far ⟨_,rfl⟩ (Nat.le_refl _) _,rs++[cs],js++ks,?_,?_,?_,?_⟩,rfl⟩,by simp only; omega⟩
   ·simp only
    rw [set_get hr2,hset]
   ·simp only
    rw [htk]
    exact OwnRs.snoc (hO2.keep fun k hk o ho=>get_set ho (by have:=hf k hk; omega)) hcl (hc.keep fun k hk o ho=>get_set ho (by have:=hkf k hk; omega))
   ·exact List.nodup_append.2 ⟨hn,hkn,fun a ha b hb e=>by have:=hjl a ha; have:=hkf b hb; omega⟩
   ·intro k hk
    rcases List.mem_append.1 hk with hk | hk
    ·exact hf k hk
    ·have:=hkf k hk; omega
  ·have:i=l.length:=by omega
   subst this
   have d1:decide ((l.length:Int)<(l.length:Int))=false:=by simp
   rw [List.take_length] at hO
   rw [Nat.sub_self,List.replicate_zero,List.append_nil] at hr
   simp only [go_sem,reduceIte,↓reduceIte,sevalprocAttr,Z0,Z1,bytesOf,List.length_map,d1]
   intro _
   refine ⟨H.length :: js,?_,List.nodup_cons.2 ⟨fun h=>by have:=hf _ h; omega,hn⟩,fun k hk=>?_,_,hG⟩
   ·rw [Own]
    exact .inr ⟨H.length,0,rs,js,by rw [hrl,Nat.min_self],rfl,hr,hO⟩
   ·rcases List.mem_cons.1 hk with rfl | hk
    ·exact Nat.le_refl _
    ·have:=hf k hk; omega
theorem toLN_String {l:List (List UInt8)} (hl:l.length≤1048576):ToLN 84 (.p (.l (namesC l))) 1 (l.map fun s=>[TV.p (.s s)]):=by
 intro H
 refine call84 (by simp) ?_
 have hm:l.length≤maxL:=by rw [maxLe]; omega
 simp only [go_sem,reduceIte,↓reduceIte,sevalprocAttr,Z0,Z1,bytesOf,mc84,mr84,namesC,List.length_map,zl3_0,zl3_1,zl3_2,zl3_3]
 intro _
 refine ⟨by omega,by omega,by omega,?_⟩
 refine ⟨Nat × List AO,[0,2,3,4],fun x st=>(x.1≤l.length∧(∃ G,x.2=H++G)∧∃ rs js,x.2[H.length]?=some (.rows 1 0 (rs++List.replicate (l.length - x.1) [.p (.s [])]))∧OwnRs x.2 1 ((l.take x.1).map (fun s=>[TV.p (.s s)])) rs js∧js.Nodup∧∀ i∈js,H.length<i)∧st=⟨[(0,.p (.l (l.map fun s=>[PV.s s]))),(2,.p .nl),(3,.gs H.length 0 0 l.length),(4,.p (.i .i64 x.1))],[],x.2⟩,fun x=>l.length - x.1,⟨(0,H++[.rows 1 0 (List.replicate l.length [.p (.s [])])]),?_⟩,?_⟩
 ·simp only [go_sem,reduceIte,↓reduceIte,sevalprocAttr,bytesOf]
  refine ⟨Nat.zero_le _,⟨_,rfl⟩,[],[],?_,?_,List.nodup_nil,fun i hi=>(by cases hi)⟩
  ·simp
  ·rw [OwnRs]; exact ⟨rfl,rfl⟩
 ·rintro ⟨i,HG⟩ _ ⟨⟨hi,⟨G,hG⟩,rs,js,hr,hO,hn,hf⟩,rfl⟩
  simp only at hi hG hr hO hn hf
  have hrl:=hO.len
  rw [List.length_map,List.length_take] at hrl
  by_cases hlt:i<l.length
  ·have d1:decide ((i:Int)<(l.length:Int))=true:=by simp; omega
   have hlt':((i:Int)<(l.length:Int)):=by omega
   have ex:=wrN i (by omega)
   have hz:(rs++List.replicate (l.length - i) ([.p (.s [])]:List AV))[i]?=some [.p (.s [])]:=by
    rw [List.getElem?_append_right (by omega),List.getElem?_replicate,if_pos (by omega)]
   have hset:∀ y,(rs++List.replicate (l.length - i) ([.p (.s [])]:List AV)).set i y=(rs++[y])++List.replicate (l.length - (i+1)) [.p (.s [])]:=fun y=>by
    rw [List.set_append_right _ _ (by omega),show i - rs.length=0 by omega,show l.length - i=(l.length - (i+1))+1 by omega,List.replicate_succ,List.set_cons_zero]; simp
   have hg:(l.map fun s=>[PV.s s])[i]?=some [.s l[i]]:=by simp [hlt]
   have htk:(l.take (i+1)).map (fun s=>[TV.p (.s s)])=(l.take i).map (fun s=>[TV.p (.s s)])++[[TV.p (.s l[i])]]:=by rw [List.take_succ,List.getElem?_eq_getElem hlt,List.map_append]; rfl
   simp only [go_sem,reduceIte,↓reduceIte,sevalprocAttr,Z0,Z1,bytesOf,List.length_map,d1,hg]
   intro _
   simp only [go_sem,reduceIte,↓reduceIte,sevalprocAttr,Z0,Z1,bytesOf,hr]
   refine ⟨hlt',?_⟩
   rw [stoR_at hz rfl]
   simp only [go_sem,reduceIte,↓reduceIte,sevalprocAttr,Z0,Z1,bytesOf,ex]
   refine ⟨(i+1,_),⟨⟨by simp only; omega,by rw [hG]; exact set_far ⟨_,rfl⟩ (Nat.le_refl _) _,rs++[[.p (.s l[i])]],js++[],?_,?_,?_,?_⟩,rfl⟩,by simp only; omega⟩
   ·simp only
    rw [set_get hr,hset]
   ·simp only
    rw [htk]
    exact OwnRs.snoc (hO.keep fun k hk o ho=>get_set ho (by have:=hf k hk; omega)) rfl (.one (Own.pv _ _))
   ·simpa using hn
   ·simpa using hf
  ·have:i=l.length:=by omega
   subst this
   have d1:decide ((l.length:Int)<(l.length:Int))=false:=by simp
   rw [List.take_length] at hO
   rw [Nat.sub_self,List.replicate_zero,List.append_nil] at hr
   simp only [go_sem,reduceIte,↓reduceIte,sevalprocAttr,Z0,Z1,bytesOf,List.length_map,d1]
   intro _
   refine ⟨H.length :: js,?_,List.nodup_cons.2 ⟨fun h=>by have:=hf _ h; omega,hn⟩,fun k hk=>?_,_,hG⟩
   ·rw [Own]
    exact .inr ⟨H.length,0,rs,js,by rw [hrl,Nat.min_self],rfl,hr,hO⟩
   ·rcases List.mem_cons.1 hk with rfl | hk
    ·exact Nat.le_refl _
    ·have:=hf k hk; omega
end Go.Proofs.YtnelfbcgplooiaaGreat.Pg
/- Programs that are owned: structs (printed in part by wip/tools/genown.py). -/
set_option linter.all false
namespace Go.Proofs.YtnelfbcgplooiaaGreat.Pg
open Go.AM Mc
theorem own_one {H:List AO} {sz:Nat} {rows:List (List TV)} {a:AV} {ids:List Nat} (h:Own H (.s sz rows) a ids):a.allOne=true∧a.cells=[a]:=by
 rw [Own] at h
 rcases h with ⟨_,rfl,_⟩ | ⟨id,ver,rs,js,rfl,_⟩
 ·exact ⟨rfl,rfl⟩
 ·exact ⟨rfl,rfl⟩
theorem OwnCs.app {H : List AO} {ts' : List TV} {cs' : List AV} {js : List Nat} (k : OwnCs H ts' cs' js) : ∀ {ts : List TV} {cs : List AV} {ids : List Nat}, OwnCs H ts cs ids → OwnCs H (ts ++ ts') (cs ++ cs') (ids ++ js)
  | [], cs, ids, h => by rw [OwnCs] at h; obtain ⟨rfl, rfl⟩ := h; exact k
  | t :: ts, cs, ids, h => by
    rw [OwnCs] at h
    obtain ⟨a, cs'', i, ks, rfl, rfl, h1, h2⟩ := h
    rw [List.cons_append, List.cons_append, List.append_assoc]
    exact OwnCs.cons h1 (OwnCs.app k h2)
theorem toN_TypeExp (k:Int) (n:List UInt8) (p:Int) (ks:List TyE) (hk:ToLN 151 (.p (.l (TyE.cellsL ks))) 4 (TyE.tvL ks)):ToN 142 (av (TyE.cells (TyE.mk k n p ks))) (TyE.tv (TyE.mk k n p ks)):=by
 intro H
 refine call142 (by simp) ?_
 simp only [go_sem,reduceIte,↓reduceIte,sevalprocAttr,Z0,Z1,bytesOf,mc142,mr142,TyE.cells,zl3_0,zl3_1,zl3_2,zl3_3]
 refine (hk _).mono ?_
 rintro v1 _ ⟨js1,ho1,hn1,hf1,G1,rfl⟩
 have a1:(H++[AO.var [.p (.i .i64 k),.p (.s n),.p (.i .i64 p),.p (.l (TyE.cellsL ks))],AO.var [.p (.i .i64 0),.p (.s []),.p (.i .i64 0),.p .nl],AO.var [.p (.i .i64 k),.p (.s n),.p (.i .i64 p),.p .nl]]++G1)[H.length]?=some (AO.var [.p (.i .i64 k),.p (.s n),.p (.i .i64 p),.p (.l (TyE.cellsL ks))]):=get_ext (by rw [get_off0]; rfl) _
 have r1:(H++[AO.var [.p (.i .i64 k),.p (.s n),.p (.i .i64 p),.p (.l (TyE.cellsL ks))],AO.var [.p (.i .i64 0),.p (.s []),.p (.i .i64 0),.p .nl],AO.var [.p (.i .i64 k),.p (.s n),.p (.i .i64 p),.p .nl]]++G1)[H.length+1]?=some (AO.var [.p (.i .i64 0),.p (.s []),.p (.i .i64 0),.p .nl]):=get_ext (by rw [get_off]; rfl) _
 have o1:(H++[AO.var [.p (.i .i64 k),.p (.s n),.p (.i .i64 p),.p (.l (TyE.cellsL ks))],AO.var [.p (.i .i64 0),.p (.s []),.p (.i .i64 0),.p .nl],AO.var [.p (.i .i64 k),.p (.s n),.p (.i .i64 p),.p .nl]]++G1)[H.length+2]?=some (AO.var [.p (.i .i64 k),.p (.s n),.p (.i .i64 p),.p .nl]):=get_ext (by rw [get_off]; rfl) _
 have p1:∃ G,(H++[AO.var [.p (.i .i64 k),.p (.s n),.p (.i .i64 p),.p (.l (TyE.cellsL ks))],AO.var [.p (.i .i64 0),.p (.s []),.p (.i .i64 0),.p .nl],AO.var [.p (.i .i64 k),.p (.s n),.p (.i .i64 p),.p .nl]]++G1)=H++G:=⟨_,List.append_assoc _ _ _⟩
 have f1:∀ i∈js1,H.length+2<i:=fun i hi=>by have:=hf1 i hi; simp at this; omega
 generalize (H++[AO.var [.p (.i .i64 k),.p (.s n),.p (.i .i64 p),.p (.l (TyE.cellsL ks))],AO.var [.p (.i .i64 0),.p (.s []),.p (.i .i64 0),.p .nl],AO.var [.p (.i .i64 k),.p (.s n),.p (.i .i64 p),.p .nl]]++G1)=H1 at a1 r1 o1 p1 ho1 ⊢
 have oS1:∀ y,(H1.set (H.length+2) y)[H.length+2]?=some y:=fun y=>set_get o1
 have aS1:∀ y,(H1.set (H.length+2) y)[H.length]?=_:=fun y=>get_set a1 (by omega)
 have rS1:∀ y,(H1.set (H.length+2) y)[H.length+1]?=_:=fun y=>get_set r1 (by omega)
 have rF1:∀ y z,((H1.set (H.length+2) y).set (H.length+1) z)[H.length+1]?=some z:=fun y z=>set_get (rS1 y)
 simp only [go_sem,reduceIte,↓reduceIte,sevalprocAttr,Z0,Z1,bytesOf,a1,r1,o1,(own_one ho1).1,(own_one ho1).2,oS1,aS1,rS1,rF1,List.set_set]
 have q1:=ho1.keep (H':=((H1.set (H.length+2) (AO.var [.p (.i .i64 k),.p (.s n),.p (.i .i64 p),v1])).set (H.length+1) (AO.var [.p (.i .i64 k),.p (.s n),.p (.i .i64 p),v1]))) (fun i hi o h=>get_set (get_set h (by have:=f1 i hi; omega)) (by have:=f1 i hi; omega))
 rw [TyE.tv]
 exact ⟨_,_,rfl,(OwnCs.pc (OwnCs.pc (OwnCs.pc (OwnCs.one q1)))),(by simpa using hn1),(fun i hi=>by have:=f1 i (by simpa using hi); omega),by obtain ⟨Gp,rfl⟩:=p1; exact set_far (set_far ⟨_,rfl⟩ (by omega) _) (by omega) _⟩
theorem toN_Pat (k:Int) (n:List UInt8) (u p:Int) (ks:List PatD) (hk:ToLN 143 (.p (.l (PatD.cellsL ks))) 5 (PatD.tvL ks)):ToN 116 (av (PatD.cells (PatD.mk k n u p ks))) (PatD.tv (PatD.mk k n u p ks)):=by
 intro H
 refine call116 (by simp) ?_
 simp only [go_sem,reduceIte,↓reduceIte,sevalprocAttr,Z0,Z1,bytesOf,mc116,mr116,PatD.cells,zl3_0,zl3_1,zl3_2,zl3_3]
 refine (hk _).mono ?_
 rintro v1 _ ⟨js1,ho1,hn1,hf1,G1,rfl⟩
 have a1:(H++[AO.var [.p (.i .i64 k),.p (.s n),.p (.i .i64 u),.p (.i .i64 p),.p (.l (PatD.cellsL ks))],AO.var [.p (.i .i64 0),.p (.s []),.p (.i .i64 0),.p (.i .i64 0),.p .nl],AO.var [.p (.i .i64 k),.p (.s n),.p (.i .i64 u),.p (.i .i64 p),.p .nl]]++G1)[H.length]?=some (AO.var [.p (.i .i64 k),.p (.s n),.p (.i .i64 u),.p (.i .i64 p),.p (.l (PatD.cellsL ks))]):=get_ext (by rw [get_off0]; rfl) _
 have r1:(H++[AO.var [.p (.i .i64 k),.p (.s n),.p (.i .i64 u),.p (.i .i64 p),.p (.l (PatD.cellsL ks))],AO.var [.p (.i .i64 0),.p (.s []),.p (.i .i64 0),.p (.i .i64 0),.p .nl],AO.var [.p (.i .i64 k),.p (.s n),.p (.i .i64 u),.p (.i .i64 p),.p .nl]]++G1)[H.length+1]?=some (AO.var [.p (.i .i64 0),.p (.s []),.p (.i .i64 0),.p (.i .i64 0),.p .nl]):=get_ext (by rw [get_off]; rfl) _
 have o1:(H++[AO.var [.p (.i .i64 k),.p (.s n),.p (.i .i64 u),.p (.i .i64 p),.p (.l (PatD.cellsL ks))],AO.var [.p (.i .i64 0),.p (.s []),.p (.i .i64 0),.p (.i .i64 0),.p .nl],AO.var [.p (.i .i64 k),.p (.s n),.p (.i .i64 u),.p (.i .i64 p),.p .nl]]++G1)[H.length+2]?=some (AO.var [.p (.i .i64 k),.p (.s n),.p (.i .i64 u),.p (.i .i64 p),.p .nl]):=get_ext (by rw [get_off]; rfl) _
 have p1:∃ G,(H++[AO.var [.p (.i .i64 k),.p (.s n),.p (.i .i64 u),.p (.i .i64 p),.p (.l (PatD.cellsL ks))],AO.var [.p (.i .i64 0),.p (.s []),.p (.i .i64 0),.p (.i .i64 0),.p .nl],AO.var [.p (.i .i64 k),.p (.s n),.p (.i .i64 u),.p (.i .i64 p),.p .nl]]++G1)=H++G:=⟨_,List.append_assoc _ _ _⟩
 have f1:∀ i∈js1,H.length+2<i:=fun i hi=>by have:=hf1 i hi; simp at this; omega
 generalize (H++[AO.var [.p (.i .i64 k),.p (.s n),.p (.i .i64 u),.p (.i .i64 p),.p (.l (PatD.cellsL ks))],AO.var [.p (.i .i64 0),.p (.s []),.p (.i .i64 0),.p (.i .i64 0),.p .nl],AO.var [.p (.i .i64 k),.p (.s n),.p (.i .i64 u),.p (.i .i64 p),.p .nl]]++G1)=H1 at a1 r1 o1 p1 ho1 ⊢
 have oS1:∀ y,(H1.set (H.length+2) y)[H.length+2]?=some y:=fun y=>set_get o1
 have aS1:∀ y,(H1.set (H.length+2) y)[H.length]?=_:=fun y=>get_set a1 (by omega)
 have rS1:∀ y,(H1.set (H.length+2) y)[H.length+1]?=_:=fun y=>get_set r1 (by omega)
 have rF1:∀ y z,((H1.set (H.length+2) y).set (H.length+1) z)[H.length+1]?=some z:=fun y z=>set_get (rS1 y)
 simp only [go_sem,reduceIte,↓reduceIte,sevalprocAttr,Z0,Z1,bytesOf,a1,r1,o1,(own_one ho1).1,(own_one ho1).2,oS1,aS1,rS1,rF1,List.set_set]
 have q1:=ho1.keep (H':=((H1.set (H.length+2) (AO.var [.p (.i .i64 k),.p (.s n),.p (.i .i64 u),.p (.i .i64 p),v1])).set (H.length+1) (AO.var [.p (.i .i64 k),.p (.s n),.p (.i .i64 u),.p (.i .i64 p),v1]))) (fun i hi o h=>get_set (get_set h (by have:=f1 i hi; omega)) (by have:=f1 i hi; omega))
 rw [PatD.tv]
 exact ⟨_,_,rfl,(OwnCs.pc (OwnCs.pc (OwnCs.pc (OwnCs.pc (OwnCs.one q1))))),(by simpa using hn1),(fun i hi=>by have:=f1 i (by simpa using hi); omega),by obtain ⟨Gp,rfl⟩:=p1; exact set_far (set_far ⟨_,rfl⟩ (by omega) _) (by omega) _⟩
theorem toN_Exp (k:Int) (n:List UInt8) (u:Int) (t:List UInt8) (p:Int) (ks:List ExpD) (as':List ArmD) (hk:ToLN 50 (.p (.l (ExpD.cellsL ks))) 7 (ExpD.tvL ks)) (ha:ToLN 51 (.p (.l (ExpD.cellsA as'))) 12 (ExpD.tvA as')):ToN 21 (av (ExpD.cells (ExpD.mk k n u t p ks as'))) (ExpD.tv (ExpD.mk k n u t p ks as')):=by
 intro H
 refine call21 (by simp) ?_
 simp only [go_sem,reduceIte,↓reduceIte,sevalprocAttr,Z0,Z1,bytesOf,mc21,mr21,ExpD.cells,zl3_0,zl3_1,zl3_2,zl3_3]
 refine (hk _).mono ?_
 rintro v1 _ ⟨js1,ho1,hn1,hf1,G1,rfl⟩
 have a1:(H++[AO.var [.p (.i .i64 k),.p (.s n),.p (.i .i64 u),.p (.s t),.p (.i .i64 p),.p (.l (ExpD.cellsL ks)),.p (.l (ExpD.cellsA as'))],AO.var [.p (.i .i64 0),.p (.s []),.p (.i .i64 0),.p (.s []),.p (.i .i64 0),.p .nl,.p .nl],AO.var [.p (.i .i64 k),.p (.s n),.p (.i .i64 u),.p (.s t),.p (.i .i64 p),.p .nl,.p .nl]]++G1)[H.length]?=some (AO.var [.p (.i .i64 k),.p (.s n),.p (.i .i64 u),.p (.s t),.p (.i .i64 p),.p (.l (ExpD.cellsL ks)),.p (.l (ExpD.cellsA as'))]):=get_ext (by rw [get_off0]; rfl) _
 have r1:(H++[AO.var [.p (.i .i64 k),.p (.s n),.p (.i .i64 u),.p (.s t),.p (.i .i64 p),.p (.l (ExpD.cellsL ks)),.p (.l (ExpD.cellsA as'))],AO.var [.p (.i .i64 0),.p (.s []),.p (.i .i64 0),.p (.s []),.p (.i .i64 0),.p .nl,.p .nl],AO.var [.p (.i .i64 k),.p (.s n),.p (.i .i64 u),.p (.s t),.p (.i .i64 p),.p .nl,.p .nl]]++G1)[H.length+1]?=some (AO.var [.p (.i .i64 0),.p (.s []),.p (.i .i64 0),.p (.s []),.p (.i .i64 0),.p .nl,.p .nl]):=get_ext (by rw [get_off]; rfl) _
 have o1:(H++[AO.var [.p (.i .i64 k),.p (.s n),.p (.i .i64 u),.p (.s t),.p (.i .i64 p),.p (.l (ExpD.cellsL ks)),.p (.l (ExpD.cellsA as'))],AO.var [.p (.i .i64 0),.p (.s []),.p (.i .i64 0),.p (.s []),.p (.i .i64 0),.p .nl,.p .nl],AO.var [.p (.i .i64 k),.p (.s n),.p (.i .i64 u),.p (.s t),.p (.i .i64 p),.p .nl,.p .nl]]++G1)[H.length+2]?=some (AO.var [.p (.i .i64 k),.p (.s n),.p (.i .i64 u),.p (.s t),.p (.i .i64 p),.p .nl,.p .nl]):=get_ext (by rw [get_off]; rfl) _
 have p1:∃ G,(H++[AO.var [.p (.i .i64 k),.p (.s n),.p (.i .i64 u),.p (.s t),.p (.i .i64 p),.p (.l (ExpD.cellsL ks)),.p (.l (ExpD.cellsA as'))],AO.var [.p (.i .i64 0),.p (.s []),.p (.i .i64 0),.p (.s []),.p (.i .i64 0),.p .nl,.p .nl],AO.var [.p (.i .i64 k),.p (.s n),.p (.i .i64 u),.p (.s t),.p (.i .i64 p),.p .nl,.p .nl]]++G1)=H++G:=⟨_,List.append_assoc _ _ _⟩
 have f1:∀ i∈js1,H.length+2<i:=fun i hi=>by have:=hf1 i hi; simp at this; omega
 have l1:∀ i∈js1,i<(H++[AO.var [.p (.i .i64 k),.p (.s n),.p (.i .i64 u),.p (.s t),.p (.i .i64 p),.p (.l (ExpD.cellsL ks)),.p (.l (ExpD.cellsA as'))],AO.var [.p (.i .i64 0),.p (.s []),.p (.i .i64 0),.p (.s []),.p (.i .i64 0),.p .nl,.p .nl],AO.var [.p (.i .i64 k),.p (.s n),.p (.i .i64 u),.p (.s t),.p (.i .i64 p),.p .nl,.p .nl]]++G1).length:=fun i hi=>by obtain ⟨_,_,_,h⟩:=ho1.rows i hi; exact get_lt h
 generalize (H++[AO.var [.p (.i .i64 k),.p (.s n),.p (.i .i64 u),.p (.s t),.p (.i .i64 p),.p (.l (ExpD.cellsL ks)),.p (.l (ExpD.cellsA as'))],AO.var [.p (.i .i64 0),.p (.s []),.p (.i .i64 0),.p (.s []),.p (.i .i64 0),.p .nl,.p .nl],AO.var [.p (.i .i64 k),.p (.s n),.p (.i .i64 u),.p (.s t),.p (.i .i64 p),.p .nl,.p .nl]]++G1)=H1 at a1 r1 o1 p1 ho1 l1 ⊢
 have oS1:∀ y,(H1.set (H.length+2) y)[H.length+2]?=some y:=fun y=>set_get o1
 have aS1:∀ y,(H1.set (H.length+2) y)[H.length]?=_:=fun y=>get_set a1 (by omega)
 have rS1:∀ y,(H1.set (H.length+2) y)[H.length+1]?=_:=fun y=>get_set r1 (by omega)
 have rF1:∀ y z,((H1.set (H.length+2) y).set (H.length+1) z)[H.length+1]?=some z:=fun y z=>set_get (rS1 y)
 simp only [go_sem,reduceIte,↓reduceIte,sevalprocAttr,Z0,Z1,bytesOf,a1,r1,o1,(own_one ho1).1,(own_one ho1).2,oS1,aS1,rS1,rF1,List.set_set]
 refine (ha _).mono ?_
 rintro v2 _ ⟨js2,ho2,hn2,hf2,G2,rfl⟩
 have a2:(H1.set (H.length+2) (AO.var [.p (.i .i64 k),.p (.s n),.p (.i .i64 u),.p (.s t),.p (.i .i64 p),v1,.p .nl])++G2)[H.length]?=some (AO.var [.p (.i .i64 k),.p (.s n),.p (.i .i64 u),.p (.s t),.p (.i .i64 p),.p (.l (ExpD.cellsL ks)),.p (.l (ExpD.cellsA as'))]):=get_ext (get_set a1 (by omega)) _
 have r2:(H1.set (H.length+2) (AO.var [.p (.i .i64 k),.p (.s n),.p (.i .i64 u),.p (.s t),.p (.i .i64 p),v1,.p .nl])++G2)[H.length+1]?=some (AO.var [.p (.i .i64 0),.p (.s []),.p (.i .i64 0),.p (.s []),.p (.i .i64 0),.p .nl,.p .nl]):=get_ext (get_set r1 (by omega)) _
 have o2:(H1.set (H.length+2) (AO.var [.p (.i .i64 k),.p (.s n),.p (.i .i64 u),.p (.s t),.p (.i .i64 p),v1,.p .nl])++G2)[H.length+2]?=some (AO.var [.p (.i .i64 k),.p (.s n),.p (.i .i64 u),.p (.s t),.p (.i .i64 p),v1,.p .nl]):=get_ext (set_get o1) _
 have p2:∃ G,(H1.set (H.length+2) (AO.var [.p (.i .i64 k),.p (.s n),.p (.i .i64 u),.p (.s t),.p (.i .i64 p),v1,.p .nl])++G2)=H++G:=(by obtain ⟨Gp,rfl⟩:=p1; exact app_far (set_far ⟨_,rfl⟩ (by omega) _) _)
 have f2:∀ i∈js2,H1.length≤i:=fun i hi=>by have:=hf2 i hi; simpa using this
 replace ho1:=ho1.keep (H':=(H1.set (H.length+2) (AO.var [.p (.i .i64 k),.p (.s n),.p (.i .i64 u),.p (.s t),.p (.i .i64 p),v1,.p .nl])++G2)) (fun i hi o h=>get_ext (get_set h (by have:=f1 i hi; omega)) _)
 generalize (H1.set (H.length+2) (AO.var [.p (.i .i64 k),.p (.s n),.p (.i .i64 u),.p (.s t),.p (.i .i64 p),v1,.p .nl])++G2)=H2 at a2 r2 o2 p2 ho2 ho1 ⊢
 have oS2:∀ y,(H2.set (H.length+2) y)[H.length+2]?=some y:=fun y=>set_get o2
 have aS2:∀ y,(H2.set (H.length+2) y)[H.length]?=_:=fun y=>get_set a2 (by omega)
 have rS2:∀ y,(H2.set (H.length+2) y)[H.length+1]?=_:=fun y=>get_set r2 (by omega)
 have rF2:∀ y z,((H2.set (H.length+2) y).set (H.length+1) z)[H.length+1]?=some z:=fun y z=>set_get (rS2 y)
 simp only [go_sem,reduceIte,↓reduceIte,sevalprocAttr,Z0,Z1,bytesOf,a2,r2,o2,(own_one ho2).1,(own_one ho2).2,oS2,aS2,rS2,rF2,List.set_set]
 have q1:=ho1.keep (H':=((H2.set (H.length+2) (AO.var [.p (.i .i64 k),.p (.s n),.p (.i .i64 u),.p (.s t),.p (.i .i64 p),v1,v2])).set (H.length+1) (AO.var [.p (.i .i64 k),.p (.s n),.p (.i .i64 u),.p (.s t),.p (.i .i64 p),v1,v2]))) (fun i hi o h=>get_set (get_set h (by have:=f1 i hi; omega)) (by have:=f1 i hi; omega))
 have q2:=ho2.keep (H':=((H2.set (H.length+2) (AO.var [.p (.i .i64 k),.p (.s n),.p (.i .i64 u),.p (.s t),.p (.i .i64 p),v1,v2])).set (H.length+1) (AO.var [.p (.i .i64 k),.p (.s n),.p (.i .i64 u),.p (.s t),.p (.i .i64 p),v1,v2]))) (fun i hi o h=>get_set (get_set h (by have:=f2 i hi; have:=get_lt o1; omega)) (by have:=f2 i hi; have:=get_lt o1; omega))
 rw [ExpD.tv]
 exact ⟨_,_,rfl,(OwnCs.pc (OwnCs.pc (OwnCs.pc (OwnCs.pc (OwnCs.pc (OwnCs.cons q1 (OwnCs.one q2))))))),(by simpa using List.nodup_append.2 ⟨hn1,hn2,fun a ha b hb e=>by have:=l1 a ha; have:=f2 b hb; omega⟩),(fun i hi=>by
  rcases (show i∈js1∨i∈js2 by simpa using hi) with hi | hi
  ·have:=f1 i hi; omega
  ·have:=f2 i hi; have:=get_lt o1; omega),by obtain ⟨Gp,rfl⟩:=p2; exact set_far (set_far ⟨_,rfl⟩ (by omega) _) (by omega) _⟩
theorem toN_Arm {p:PatD} {e:ExpD} (hp:ToN 116 (av p.cells) p.tv) (he:ToN 21 (av e.cells) e.tv):ToN 86 (av (ArmD.cells (ArmD.mk p e))) (ArmD.tv (ArmD.mk p e)):=by
 intro H
 obtain ⟨pk,pn,pu,pp,pks⟩:=p
 obtain ⟨ek,en,eu,et,ep,eks,eas⟩:=e
 rw [av,PatD.cells] at hp
 rw [av,ExpD.cells] at he
 simp only [List.map_cons,List.map_nil] at hp he
 refine call86 (by simp) ?_
 simp only [go_sem,reduceIte,↓reduceIte,sevalprocAttr,Z0,Z1,bytesOf,mc86,mr86,ArmD.cells,PatD.cells,ExpD.cells,zl3_0,zl3_1,zl3_2,zl3_3]
 refine (hp _).mono ?_
 rintro _ _ ⟨cs1,js1,rfl,ho1,hn1,hf1,G1,rfl⟩
 obtain ⟨v1_0,v1_1,v1_2,v1_3,v1_4,rfl⟩:=len5 (show cs1.length=5 by rw [ho1.len]; exact PatD.tv_len _)
 have a1:(H++[AO.var [.p (.i .i64 pk),.p (.s pn),.p (.i .i64 pu),.p (.i .i64 pp),.p (.l (PatD.cellsL pks)),.p (.i .i64 ek),.p (.s en),.p (.i .i64 eu),.p (.s et),.p (.i .i64 ep),.p (.l (ExpD.cellsL eks)),.p (.l (ExpD.cellsA eas))],AO.var [.p (.i .i64 0),.p (.s []),.p (.i .i64 0),.p (.i .i64 0),.p .nl,.p (.i .i64 0),.p (.s []),.p (.i .i64 0),.p (.s []),.p (.i .i64 0),.p .nl,.p .nl],AO.var [.p (.i .i64 0),.p (.s []),.p (.i .i64 0),.p (.i .i64 0),.p .nl,.p (.i .i64 0),.p (.s []),.p (.i .i64 0),.p (.s []),.p (.i .i64 0),.p .nl,.p .nl]]++G1)[H.length]?=some (AO.var [.p (.i .i64 pk),.p (.s pn),.p (.i .i64 pu),.p (.i .i64 pp),.p (.l (PatD.cellsL pks)),.p (.i .i64 ek),.p (.s en),.p (.i .i64 eu),.p (.s et),.p (.i .i64 ep),.p (.l (ExpD.cellsL eks)),.p (.l (ExpD.cellsA eas))]):=get_ext (by rw [get_off0]; rfl) _
 have r1:(H++[AO.var [.p (.i .i64 pk),.p (.s pn),.p (.i .i64 pu),.p (.i .i64 pp),.p (.l (PatD.cellsL pks)),.p (.i .i64 ek),.p (.s en),.p (.i .i64 eu),.p (.s et),.p (.i .i64 ep),.p (.l (ExpD.cellsL eks)),.p (.l (ExpD.cellsA eas))],AO.var [.p (.i .i64 0),.p (.s []),.p (.i .i64 0),.p (.i .i64 0),.p .nl,.p (.i .i64 0),.p (.s []),.p (.i .i64 0),.p (.s []),.p (.i .i64 0),.p .nl,.p .nl],AO.var [.p (.i .i64 0),.p (.s []),.p (.i .i64 0),.p (.i .i64 0),.p .nl,.p (.i .i64 0),.p (.s []),.p (.i .i64 0),.p (.s []),.p (.i .i64 0),.p .nl,.p .nl]]++G1)[H.length+1]?=some (AO.var [.p (.i .i64 0),.p (.s []),.p (.i .i64 0),.p (.i .i64 0),.p .nl,.p (.i .i64 0),.p (.s []),.p (.i .i64 0),.p (.s []),.p (.i .i64 0),.p .nl,.p .nl]):=get_ext (by rw [get_off]; rfl) _
 have o1:(H++[AO.var [.p (.i .i64 pk),.p (.s pn),.p (.i .i64 pu),.p (.i .i64 pp),.p (.l (PatD.cellsL pks)),.p (.i .i64 ek),.p (.s en),.p (.i .i64 eu),.p (.s et),.p (.i .i64 ep),.p (.l (ExpD.cellsL eks)),.p (.l (ExpD.cellsA eas))],AO.var [.p (.i .i64 0),.p (.s []),.p (.i .i64 0),.p (.i .i64 0),.p .nl,.p (.i .i64 0),.p (.s []),.p (.i .i64 0),.p (.s []),.p (.i .i64 0),.p .nl,.p .nl],AO.var [.p (.i .i64 0),.p (.s []),.p (.i .i64 0),.p (.i .i64 0),.p .nl,.p (.i .i64 0),.p (.s []),.p (.i .i64 0),.p (.s []),.p (.i .i64 0),.p .nl,.p .nl]]++G1)[H.length+2]?=some (AO.var [.p (.i .i64 0),.p (.s []),.p (.i .i64 0),.p (.i .i64 0),.p .nl,.p (.i .i64 0),.p (.s []),.p (.i .i64 0),.p (.s []),.p (.i .i64 0),.p .nl,.p .nl]):=get_ext (by rw [get_off]; rfl) _
 have p1:∃ G,(H++[AO.var [.p (.i .i64 pk),.p (.s pn),.p (.i .i64 pu),.p (.i .i64 pp),.p (.l (PatD.cellsL pks)),.p (.i .i64 ek),.p (.s en),.p (.i .i64 eu),.p (.s et),.p (.i .i64 ep),.p (.l (ExpD.cellsL eks)),.p (.l (ExpD.cellsA eas))],AO.var [.p (.i .i64 0),.p (.s []),.p (.i .i64 0),.p (.i .i64 0),.p .nl,.p (.i .i64 0),.p (.s []),.p (.i .i64 0),.p (.s []),.p (.i .i64 0),.p .nl,.p .nl],AO.var [.p (.i .i64 0),.p (.s []),.p (.i .i64 0),.p (.i .i64 0),.p .nl,.p (.i .i64 0),.p (.s []),.p (.i .i64 0),.p (.s []),.p (.i .i64 0),.p .nl,.p .nl]]++G1)=H++G:=⟨_,List.append_assoc _ _ _⟩
 have f1:∀ i∈js1,H.length+2<i:=fun i hi=>by have:=hf1 i hi; simp at this; omega
 have l1:∀ i∈js1,i<(H++[AO.var [.p (.i .i64 pk),.p (.s pn),.p (.i .i64 pu),.p (.i .i64 pp),.p (.l (PatD.cellsL pks)),.p (.i .i64 ek),.p (.s en),.p (.i .i64 eu),.p (.s et),.p (.i .i64 ep),.p (.l (ExpD.cellsL eks)),.p (.l (ExpD.cellsA eas))],AO.var [.p (.i .i64 0),.p (.s []),.p (.i .i64 0),.p (.i .i64 0),.p .nl,.p (.i .i64 0),.p (.s []),.p (.i .i64 0),.p (.s []),.p (.i .i64 0),.p .nl,.p .nl],AO.var [.p (.i .i64 0),.p (.s []),.p (.i .i64 0),.p (.i .i64 0),.p .nl,.p (.i .i64 0),.p (.s []),.p (.i .i64 0),.p (.s []),.p (.i .i64 0),.p .nl,.p .nl]]++G1).length:=fun i hi=>by obtain ⟨_,_,_,h⟩:=ho1.rows i hi; exact get_lt h
 generalize (H++[AO.var [.p (.i .i64 pk),.p (.s pn),.p (.i .i64 pu),.p (.i .i64 pp),.p (.l (PatD.cellsL pks)),.p (.i .i64 ek),.p (.s en),.p (.i .i64 eu),.p (.s et),.p (.i .i64 ep),.p (.l (ExpD.cellsL eks)),.p (.l (ExpD.cellsA eas))],AO.var [.p (.i .i64 0),.p (.s []),.p (.i .i64 0),.p (.i .i64 0),.p .nl,.p (.i .i64 0),.p (.s []),.p (.i .i64 0),.p (.s []),.p (.i .i64 0),.p .nl,.p .nl],AO.var [.p (.i .i64 0),.p (.s []),.p (.i .i64 0),.p (.i .i64 0),.p .nl,.p (.i .i64 0),.p (.s []),.p (.i .i64 0),.p (.s []),.p (.i .i64 0),.p .nl,.p .nl]]++G1)=H1 at a1 r1 o1 p1 ho1 l1 ⊢
 have oS1:∀ y,(H1.set (H.length+2) y)[H.length+2]?=some y:=fun y=>set_get o1
 have aS1:∀ y,(H1.set (H.length+2) y)[H.length]?=_:=fun y=>get_set a1 (by omega)
 have rS1:∀ y,(H1.set (H.length+2) y)[H.length+1]?=_:=fun y=>get_set r1 (by omega)
 have rF1:∀ y z,((H1.set (H.length+2) y).set (H.length+1) z)[H.length+1]?=some z:=fun y z=>set_get (rS1 y)
 simp only [go_sem,reduceIte,↓reduceIte,sevalprocAttr,Z0,Z1,bytesOf,a1,r1,o1,oS1,aS1,rS1,rF1,List.set_set]
 refine (he _).mono ?_
 rintro _ _ ⟨cs2,js2,rfl,ho2,hn2,hf2,G2,rfl⟩
 obtain ⟨v2_0,v2_1,v2_2,v2_3,v2_4,v2_5,v2_6,rfl⟩:=len7 (show cs2.length=7 by rw [ho2.len]; exact ExpD.tv_len _)
 have a2:(H1.set (H.length+2) (AO.var [v1_0,v1_1,v1_2,v1_3,v1_4,.p (.i .i64 0),.p (.s []),.p (.i .i64 0),.p (.s []),.p (.i .i64 0),.p .nl,.p .nl])++G2)[H.length]?=some (AO.var [.p (.i .i64 pk),.p (.s pn),.p (.i .i64 pu),.p (.i .i64 pp),.p (.l (PatD.cellsL pks)),.p (.i .i64 ek),.p (.s en),.p (.i .i64 eu),.p (.s et),.p (.i .i64 ep),.p (.l (ExpD.cellsL eks)),.p (.l (ExpD.cellsA eas))]):=get_ext (get_set a1 (by omega)) _
 have r2:(H1.set (H.length+2) (AO.var [v1_0,v1_1,v1_2,v1_3,v1_4,.p (.i .i64 0),.p (.s []),.p (.i .i64 0),.p (.s []),.p (.i .i64 0),.p .nl,.p .nl])++G2)[H.length+1]?=some (AO.var [.p (.i .i64 0),.p (.s []),.p (.i .i64 0),.p (.i .i64 0),.p .nl,.p (.i .i64 0),.p (.s []),.p (.i .i64 0),.p (.s []),.p (.i .i64 0),.p .nl,.p .nl]):=get_ext (get_set r1 (by omega)) _
 have o2:(H1.set (H.length+2) (AO.var [v1_0,v1_1,v1_2,v1_3,v1_4,.p (.i .i64 0),.p (.s []),.p (.i .i64 0),.p (.s []),.p (.i .i64 0),.p .nl,.p .nl])++G2)[H.length+2]?=some (AO.var [v1_0,v1_1,v1_2,v1_3,v1_4,.p (.i .i64 0),.p (.s []),.p (.i .i64 0),.p (.s []),.p (.i .i64 0),.p .nl,.p .nl]):=get_ext (set_get o1) _
 have p2:∃ G,(H1.set (H.length+2) (AO.var [v1_0,v1_1,v1_2,v1_3,v1_4,.p (.i .i64 0),.p (.s []),.p (.i .i64 0),.p (.s []),.p (.i .i64 0),.p .nl,.p .nl])++G2)=H++G:=(by obtain ⟨Gp,rfl⟩:=p1; exact app_far (set_far ⟨_,rfl⟩ (by omega) _) _)
 have f2:∀ i∈js2,H1.length≤i:=fun i hi=>by have:=hf2 i hi; simpa using this
 replace ho1:=ho1.keep (H':=(H1.set (H.length+2) (AO.var [v1_0,v1_1,v1_2,v1_3,v1_4,.p (.i .i64 0),.p (.s []),.p (.i .i64 0),.p (.s []),.p (.i .i64 0),.p .nl,.p .nl])++G2)) (fun i hi o h=>get_ext (get_set h (by have:=f1 i hi; omega)) _)
 generalize (H1.set (H.length+2) (AO.var [v1_0,v1_1,v1_2,v1_3,v1_4,.p (.i .i64 0),.p (.s []),.p (.i .i64 0),.p (.s []),.p (.i .i64 0),.p .nl,.p .nl])++G2)=H2 at a2 r2 o2 p2 ho2 ho1 ⊢
 have oS2:∀ y,(H2.set (H.length+2) y)[H.length+2]?=some y:=fun y=>set_get o2
 have aS2:∀ y,(H2.set (H.length+2) y)[H.length]?=_:=fun y=>get_set a2 (by omega)
 have rS2:∀ y,(H2.set (H.length+2) y)[H.length+1]?=_:=fun y=>get_set r2 (by omega)
 have rF2:∀ y z,((H2.set (H.length+2) y).set (H.length+1) z)[H.length+1]?=some z:=fun y z=>set_get (rS2 y)
 simp only [go_sem,reduceIte,↓reduceIte,sevalprocAttr,Z0,Z1,bytesOf,a2,r2,o2,oS2,aS2,rS2,rF2,List.set_set]
 have q1:=ho1.keep (H':=((H2.set (H.length+2) (AO.var [v1_0,v1_1,v1_2,v1_3,v1_4,v2_0,v2_1,v2_2,v2_3,v2_4,v2_5,v2_6])).set (H.length+1) (AO.var [v1_0,v1_1,v1_2,v1_3,v1_4,v2_0,v2_1,v2_2,v2_3,v2_4,v2_5,v2_6]))) (fun i hi o h=>get_set (get_set h (by have:=f1 i hi; omega)) (by have:=f1 i hi; omega))
 have q2:=ho2.keep (H':=((H2.set (H.length+2) (AO.var [v1_0,v1_1,v1_2,v1_3,v1_4,v2_0,v2_1,v2_2,v2_3,v2_4,v2_5,v2_6])).set (H.length+1) (AO.var [v1_0,v1_1,v1_2,v1_3,v1_4,v2_0,v2_1,v2_2,v2_3,v2_4,v2_5,v2_6]))) (fun i hi o h=>get_set (get_set h (by have:=f2 i hi; have:=get_lt o1; omega)) (by have:=f2 i hi; have:=get_lt o1; omega))
 rw [ArmD.tv]
 exact ⟨_,_,rfl,(OwnCs.app q2 q1),(by simpa using List.nodup_append.2 ⟨hn1,hn2,fun a ha b hb e=>by have:=l1 a ha; have:=f2 b hb; omega⟩),(fun i hi=>by
  rcases (show i∈js1∨i∈js2 by simpa using hi) with hi | hi
  ·have:=f1 i hi; omega
  ·have:=f2 i hi; have:=get_lt o1; omega),by obtain ⟨Gp,rfl⟩:=p2; exact set_far (set_far ⟨_,rfl⟩ (by omega) _) (by omega) _⟩
theorem toN_Ctor {c:CtorD} (ht:ToN 142 (av c.arg.cells) c.arg.tv):ToN 115 (av (CtorD.cells (c))) (CtorD.tv (c)):=by
 intro H
 obtain ⟨cn,ch,⟨ak,an,ap,aks⟩,cp⟩:=c
 rw [av,TyE.cells] at ht
 simp only [List.map_cons,List.map_nil] at ht
 refine call115 (by simp) ?_
 simp only [go_sem,reduceIte,↓reduceIte,sevalprocAttr,Z0,Z1,bytesOf,mc115,mr115,CtorD.cells,TyE.cells,zl3_0,zl3_1,zl3_2,zl3_3]
 refine (ht _).mono ?_
 rintro _ _ ⟨cs1,js1,rfl,ho1,hn1,hf1,G1,rfl⟩
 obtain ⟨v1_0,v1_1,v1_2,v1_3,rfl⟩:=len4 (show cs1.length=4 by rw [ho1.len]; exact TyE.tv_len _)
 have a1:(H++[AO.var [.p (.s cn),.p (.b ch),.p (.i .i64 ak),.p (.s an),.p (.i .i64 ap),.p (.l (TyE.cellsL aks)),.p (.i .i64 cp)],AO.var [.p (.s []),.p (.b false),.p (.i .i64 0),.p (.s []),.p (.i .i64 0),.p .nl,.p (.i .i64 0)],AO.var [.p (.s cn),.p (.b ch),.p (.i .i64 0),.p (.s []),.p (.i .i64 0),.p .nl,.p (.i .i64 0)]]++G1)[H.length]?=some (AO.var [.p (.s cn),.p (.b ch),.p (.i .i64 ak),.p (.s an),.p (.i .i64 ap),.p (.l (TyE.cellsL aks)),.p (.i .i64 cp)]):=get_ext (by rw [get_off0]; rfl) _
 have r1:(H++[AO.var [.p (.s cn),.p (.b ch),.p (.i .i64 ak),.p (.s an),.p (.i .i64 ap),.p (.l (TyE.cellsL aks)),.p (.i .i64 cp)],AO.var [.p (.s []),.p (.b false),.p (.i .i64 0),.p (.s []),.p (.i .i64 0),.p .nl,.p (.i .i64 0)],AO.var [.p (.s cn),.p (.b ch),.p (.i .i64 0),.p (.s []),.p (.i .i64 0),.p .nl,.p (.i .i64 0)]]++G1)[H.length+1]?=some (AO.var [.p (.s []),.p (.b false),.p (.i .i64 0),.p (.s []),.p (.i .i64 0),.p .nl,.p (.i .i64 0)]):=get_ext (by rw [get_off]; rfl) _
 have o1:(H++[AO.var [.p (.s cn),.p (.b ch),.p (.i .i64 ak),.p (.s an),.p (.i .i64 ap),.p (.l (TyE.cellsL aks)),.p (.i .i64 cp)],AO.var [.p (.s []),.p (.b false),.p (.i .i64 0),.p (.s []),.p (.i .i64 0),.p .nl,.p (.i .i64 0)],AO.var [.p (.s cn),.p (.b ch),.p (.i .i64 0),.p (.s []),.p (.i .i64 0),.p .nl,.p (.i .i64 0)]]++G1)[H.length+2]?=some (AO.var [.p (.s cn),.p (.b ch),.p (.i .i64 0),.p (.s []),.p (.i .i64 0),.p .nl,.p (.i .i64 0)]):=get_ext (by rw [get_off]; rfl) _
 have p1:∃ G,(H++[AO.var [.p (.s cn),.p (.b ch),.p (.i .i64 ak),.p (.s an),.p (.i .i64 ap),.p (.l (TyE.cellsL aks)),.p (.i .i64 cp)],AO.var [.p (.s []),.p (.b false),.p (.i .i64 0),.p (.s []),.p (.i .i64 0),.p .nl,.p (.i .i64 0)],AO.var [.p (.s cn),.p (.b ch),.p (.i .i64 0),.p (.s []),.p (.i .i64 0),.p .nl,.p (.i .i64 0)]]++G1)=H++G:=⟨_,List.append_assoc _ _ _⟩
 have f1:∀ i∈js1,H.length+2<i:=fun i hi=>by have:=hf1 i hi; simp at this; omega
 generalize (H++[AO.var [.p (.s cn),.p (.b ch),.p (.i .i64 ak),.p (.s an),.p (.i .i64 ap),.p (.l (TyE.cellsL aks)),.p (.i .i64 cp)],AO.var [.p (.s []),.p (.b false),.p (.i .i64 0),.p (.s []),.p (.i .i64 0),.p .nl,.p (.i .i64 0)],AO.var [.p (.s cn),.p (.b ch),.p (.i .i64 0),.p (.s []),.p (.i .i64 0),.p .nl,.p (.i .i64 0)]]++G1)=H1 at a1 r1 o1 p1 ho1 ⊢
 have oS1:∀ y,(H1.set (H.length+2) y)[H.length+2]?=some y:=fun y=>set_get o1
 have aS1:∀ y,(H1.set (H.length+2) y)[H.length]?=_:=fun y=>get_set a1 (by omega)
 have rS1:∀ y,(H1.set (H.length+2) y)[H.length+1]?=_:=fun y=>get_set r1 (by omega)
 have rF1:∀ y z,((H1.set (H.length+2) y).set (H.length+1) z)[H.length+1]?=some z:=fun y z=>set_get (rS1 y)
 simp only [go_sem,reduceIte,↓reduceIte,sevalprocAttr,Z0,Z1,bytesOf,a1,r1,o1,oS1,aS1,rS1,rF1,List.set_set]
 have q1:=ho1.keep (H':=((H1.set (H.length+2) (AO.var [.p (.s cn),.p (.b ch),v1_0,v1_1,v1_2,v1_3,.p (.i .i64 cp)])).set (H.length+1) (AO.var [.p (.s cn),.p (.b ch),v1_0,v1_1,v1_2,v1_3,.p (.i .i64 cp)]))) (fun i hi o h=>get_set (get_set h (by have:=f1 i hi; omega)) (by have:=f1 i hi; omega))
 rw [CtorD.tv]
 exact ⟨_,_,rfl,(OwnCs.pc (OwnCs.pc (OwnCs.app (OwnCs.pc (OwnCs.nil _)) q1))),(by simpa using hn1),(fun i hi=>by have:=f1 i (by simpa using hi); omega),by obtain ⟨Gp,rfl⟩:=p1; exact set_far (set_far ⟨_,rfl⟩ (by omega) _) (by omega) _⟩
theorem toN_Data {d:DataD} (hv:ToLN 84 (.p (.l (namesC d.vars))) 1 (namesTV d.vars)) (hc:ToLN 85 (.p (.l (d.ctors.map CtorD.cells))) 7 (d.ctors.map CtorD.tv)):ToN 49 (av (DataD.cells (d))) (DataD.tv (d)):=by
 intro H
 obtain ⟨dn,dv,dc,dp⟩:=d
 simp only at hv hc
 refine call49 (by simp) ?_
 simp only [go_sem,reduceIte,↓reduceIte,sevalprocAttr,Z0,Z1,bytesOf,mc49,mr49,DataD.cells,zl3_0,zl3_1,zl3_2,zl3_3]
 refine (hv _).mono ?_
 rintro v1 _ ⟨js1,ho1,hn1,hf1,G1,rfl⟩
 have a1:(H++[AO.var [.p (.s dn),.p (.l (namesC dv)),.p (.l (dc.map CtorD.cells)),.p (.i .i64 dp)],AO.var [.p (.s []),.p .nl,.p .nl,.p (.i .i64 0)],AO.var [.p (.s dn),.p .nl,.p .nl,.p (.i .i64 0)]]++G1)[H.length]?=some (AO.var [.p (.s dn),.p (.l (namesC dv)),.p (.l (dc.map CtorD.cells)),.p (.i .i64 dp)]):=get_ext (by rw [get_off0]; rfl) _
 have r1:(H++[AO.var [.p (.s dn),.p (.l (namesC dv)),.p (.l (dc.map CtorD.cells)),.p (.i .i64 dp)],AO.var [.p (.s []),.p .nl,.p .nl,.p (.i .i64 0)],AO.var [.p (.s dn),.p .nl,.p .nl,.p (.i .i64 0)]]++G1)[H.length+1]?=some (AO.var [.p (.s []),.p .nl,.p .nl,.p (.i .i64 0)]):=get_ext (by rw [get_off]; rfl) _
 have o1:(H++[AO.var [.p (.s dn),.p (.l (namesC dv)),.p (.l (dc.map CtorD.cells)),.p (.i .i64 dp)],AO.var [.p (.s []),.p .nl,.p .nl,.p (.i .i64 0)],AO.var [.p (.s dn),.p .nl,.p .nl,.p (.i .i64 0)]]++G1)[H.length+2]?=some (AO.var [.p (.s dn),.p .nl,.p .nl,.p (.i .i64 0)]):=get_ext (by rw [get_off]; rfl) _
 have p1:∃ G,(H++[AO.var [.p (.s dn),.p (.l (namesC dv)),.p (.l (dc.map CtorD.cells)),.p (.i .i64 dp)],AO.var [.p (.s []),.p .nl,.p .nl,.p (.i .i64 0)],AO.var [.p (.s dn),.p .nl,.p .nl,.p (.i .i64 0)]]++G1)=H++G:=⟨_,List.append_assoc _ _ _⟩
 have f1:∀ i∈js1,H.length+2<i:=fun i hi=>by have:=hf1 i hi; simp at this; omega
 have l1:∀ i∈js1,i<(H++[AO.var [.p (.s dn),.p (.l (namesC dv)),.p (.l (dc.map CtorD.cells)),.p (.i .i64 dp)],AO.var [.p (.s []),.p .nl,.p .nl,.p (.i .i64 0)],AO.var [.p (.s dn),.p .nl,.p .nl,.p (.i .i64 0)]]++G1).length:=fun i hi=>by obtain ⟨_,_,_,h⟩:=ho1.rows i hi; exact get_lt h
 generalize (H++[AO.var [.p (.s dn),.p (.l (namesC dv)),.p (.l (dc.map CtorD.cells)),.p (.i .i64 dp)],AO.var [.p (.s []),.p .nl,.p .nl,.p (.i .i64 0)],AO.var [.p (.s dn),.p .nl,.p .nl,.p (.i .i64 0)]]++G1)=H1 at a1 r1 o1 p1 ho1 l1 ⊢
 have oS1:∀ y,(H1.set (H.length+2) y)[H.length+2]?=some y:=fun y=>set_get o1
 have aS1:∀ y,(H1.set (H.length+2) y)[H.length]?=_:=fun y=>get_set a1 (by omega)
 have rS1:∀ y,(H1.set (H.length+2) y)[H.length+1]?=_:=fun y=>get_set r1 (by omega)
 have rF1:∀ y z,((H1.set (H.length+2) y).set (H.length+1) z)[H.length+1]?=some z:=fun y z=>set_get (rS1 y)
 simp only [go_sem,reduceIte,↓reduceIte,sevalprocAttr,Z0,Z1,bytesOf,a1,r1,o1,(own_one ho1).1,(own_one ho1).2,oS1,aS1,rS1,rF1,List.set_set]
 refine (hc _).mono ?_
 rintro v2 _ ⟨js2,ho2,hn2,hf2,G2,rfl⟩
 have a2:(H1.set (H.length+2) (AO.var [.p (.s dn),v1,.p .nl,.p (.i .i64 0)])++G2)[H.length]?=some (AO.var [.p (.s dn),.p (.l (namesC dv)),.p (.l (dc.map CtorD.cells)),.p (.i .i64 dp)]):=get_ext (get_set a1 (by omega)) _
 have r2:(H1.set (H.length+2) (AO.var [.p (.s dn),v1,.p .nl,.p (.i .i64 0)])++G2)[H.length+1]?=some (AO.var [.p (.s []),.p .nl,.p .nl,.p (.i .i64 0)]):=get_ext (get_set r1 (by omega)) _
 have o2:(H1.set (H.length+2) (AO.var [.p (.s dn),v1,.p .nl,.p (.i .i64 0)])++G2)[H.length+2]?=some (AO.var [.p (.s dn),v1,.p .nl,.p (.i .i64 0)]):=get_ext (set_get o1) _
 have p2:∃ G,(H1.set (H.length+2) (AO.var [.p (.s dn),v1,.p .nl,.p (.i .i64 0)])++G2)=H++G:=(by obtain ⟨Gp,rfl⟩:=p1; exact app_far (set_far ⟨_,rfl⟩ (by omega) _) _)
 have f2:∀ i∈js2,H1.length≤i:=fun i hi=>by have:=hf2 i hi; simpa using this
 replace ho1:=ho1.keep (H':=(H1.set (H.length+2) (AO.var [.p (.s dn),v1,.p .nl,.p (.i .i64 0)])++G2)) (fun i hi o h=>get_ext (get_set h (by have:=f1 i hi; omega)) _)
 generalize (H1.set (H.length+2) (AO.var [.p (.s dn),v1,.p .nl,.p (.i .i64 0)])++G2)=H2 at a2 r2 o2 p2 ho2 ho1 ⊢
 have oS2:∀ y,(H2.set (H.length+2) y)[H.length+2]?=some y:=fun y=>set_get o2
 have aS2:∀ y,(H2.set (H.length+2) y)[H.length]?=_:=fun y=>get_set a2 (by omega)
 have rS2:∀ y,(H2.set (H.length+2) y)[H.length+1]?=_:=fun y=>get_set r2 (by omega)
 have rF2:∀ y z,((H2.set (H.length+2) y).set (H.length+1) z)[H.length+1]?=some z:=fun y z=>set_get (rS2 y)
 simp only [go_sem,reduceIte,↓reduceIte,sevalprocAttr,Z0,Z1,bytesOf,a2,r2,o2,(own_one ho2).1,(own_one ho2).2,oS2,aS2,rS2,rF2,List.set_set]
 have q1:=ho1.keep (H':=((H2.set (H.length+2) (AO.var [.p (.s dn),v1,v2,.p (.i .i64 dp)])).set (H.length+1) (AO.var [.p (.s dn),v1,v2,.p (.i .i64 dp)]))) (fun i hi o h=>get_set (get_set h (by have:=f1 i hi; omega)) (by have:=f1 i hi; omega))
 have q2:=ho2.keep (H':=((H2.set (H.length+2) (AO.var [.p (.s dn),v1,v2,.p (.i .i64 dp)])).set (H.length+1) (AO.var [.p (.s dn),v1,v2,.p (.i .i64 dp)]))) (fun i hi o h=>get_set (get_set h (by have:=f2 i hi; have:=get_lt o1; omega)) (by have:=f2 i hi; have:=get_lt o1; omega))
 rw [DataD.tv]
 exact ⟨_,_,rfl,(OwnCs.pc (OwnCs.cons q1 (OwnCs.cons q2 (OwnCs.pc (OwnCs.nil _))))),(by simpa using List.nodup_append.2 ⟨hn1,hn2,fun a ha b hb e=>by have:=l1 a ha; have:=f2 b hb; omega⟩),(fun i hi=>by
  rcases (show i∈js1∨i∈js2 by simpa using hi) with hi | hi
  ·have:=f1 i hi; omega
  ·have:=f2 i hi; have:=get_lt o1; omega),by obtain ⟨Gp,rfl⟩:=p2; exact set_far (set_far ⟨_,rfl⟩ (by omega) _) (by omega) _⟩
theorem toN_Prog {g:ProgD} (hd:ToLN 20 (.p (.l (g.types.map DataD.cells))) 4 (g.types.map DataD.tv)) (he:ToN 21 (av g.body.cells) g.body.tv):ToN 7 (av (ProgD.cells (g))) (ProgD.tv (g)):=by
 intro H
 obtain ⟨gt,⟨ek,en,eu,et,ep,eks,eas⟩⟩:=g
 rw [av,ExpD.cells] at he
 simp only [List.map_cons,List.map_nil] at hd he
 refine call7 (by simp) ?_
 simp only [go_sem,reduceIte,↓reduceIte,sevalprocAttr,Z0,Z1,bytesOf,mc7,mr7,ProgD.cells,ExpD.cells,zl3_0,zl3_1,zl3_2,zl3_3]
 refine (hd _).mono ?_
 rintro v1 _ ⟨js1,ho1,hn1,hf1,G1,rfl⟩
 have a1:(H++[AO.var [.p (.l (gt.map DataD.cells)),.p (.i .i64 ek),.p (.s en),.p (.i .i64 eu),.p (.s et),.p (.i .i64 ep),.p (.l (ExpD.cellsL eks)),.p (.l (ExpD.cellsA eas))],AO.var [.p .nl,.p (.i .i64 0),.p (.s []),.p (.i .i64 0),.p (.s []),.p (.i .i64 0),.p .nl,.p .nl],AO.var [.p .nl,.p (.i .i64 0),.p (.s []),.p (.i .i64 0),.p (.s []),.p (.i .i64 0),.p .nl,.p .nl]]++G1)[H.length]?=some (AO.var [.p (.l (gt.map DataD.cells)),.p (.i .i64 ek),.p (.s en),.p (.i .i64 eu),.p (.s et),.p (.i .i64 ep),.p (.l (ExpD.cellsL eks)),.p (.l (ExpD.cellsA eas))]):=get_ext (by rw [get_off0]; rfl) _
 have r1:(H++[AO.var [.p (.l (gt.map DataD.cells)),.p (.i .i64 ek),.p (.s en),.p (.i .i64 eu),.p (.s et),.p (.i .i64 ep),.p (.l (ExpD.cellsL eks)),.p (.l (ExpD.cellsA eas))],AO.var [.p .nl,.p (.i .i64 0),.p (.s []),.p (.i .i64 0),.p (.s []),.p (.i .i64 0),.p .nl,.p .nl],AO.var [.p .nl,.p (.i .i64 0),.p (.s []),.p (.i .i64 0),.p (.s []),.p (.i .i64 0),.p .nl,.p .nl]]++G1)[H.length+1]?=some (AO.var [.p .nl,.p (.i .i64 0),.p (.s []),.p (.i .i64 0),.p (.s []),.p (.i .i64 0),.p .nl,.p .nl]):=get_ext (by rw [get_off]; rfl) _
 have o1:(H++[AO.var [.p (.l (gt.map DataD.cells)),.p (.i .i64 ek),.p (.s en),.p (.i .i64 eu),.p (.s et),.p (.i .i64 ep),.p (.l (ExpD.cellsL eks)),.p (.l (ExpD.cellsA eas))],AO.var [.p .nl,.p (.i .i64 0),.p (.s []),.p (.i .i64 0),.p (.s []),.p (.i .i64 0),.p .nl,.p .nl],AO.var [.p .nl,.p (.i .i64 0),.p (.s []),.p (.i .i64 0),.p (.s []),.p (.i .i64 0),.p .nl,.p .nl]]++G1)[H.length+2]?=some (AO.var [.p .nl,.p (.i .i64 0),.p (.s []),.p (.i .i64 0),.p (.s []),.p (.i .i64 0),.p .nl,.p .nl]):=get_ext (by rw [get_off]; rfl) _
 have p1:∃ G,(H++[AO.var [.p (.l (gt.map DataD.cells)),.p (.i .i64 ek),.p (.s en),.p (.i .i64 eu),.p (.s et),.p (.i .i64 ep),.p (.l (ExpD.cellsL eks)),.p (.l (ExpD.cellsA eas))],AO.var [.p .nl,.p (.i .i64 0),.p (.s []),.p (.i .i64 0),.p (.s []),.p (.i .i64 0),.p .nl,.p .nl],AO.var [.p .nl,.p (.i .i64 0),.p (.s []),.p (.i .i64 0),.p (.s []),.p (.i .i64 0),.p .nl,.p .nl]]++G1)=H++G:=⟨_,List.append_assoc _ _ _⟩
 have f1:∀ i∈js1,H.length+2<i:=fun i hi=>by have:=hf1 i hi; simp at this; omega
 have l1:∀ i∈js1,i<(H++[AO.var [.p (.l (gt.map DataD.cells)),.p (.i .i64 ek),.p (.s en),.p (.i .i64 eu),.p (.s et),.p (.i .i64 ep),.p (.l (ExpD.cellsL eks)),.p (.l (ExpD.cellsA eas))],AO.var [.p .nl,.p (.i .i64 0),.p (.s []),.p (.i .i64 0),.p (.s []),.p (.i .i64 0),.p .nl,.p .nl],AO.var [.p .nl,.p (.i .i64 0),.p (.s []),.p (.i .i64 0),.p (.s []),.p (.i .i64 0),.p .nl,.p .nl]]++G1).length:=fun i hi=>by obtain ⟨_,_,_,h⟩:=ho1.rows i hi; exact get_lt h
 generalize (H++[AO.var [.p (.l (gt.map DataD.cells)),.p (.i .i64 ek),.p (.s en),.p (.i .i64 eu),.p (.s et),.p (.i .i64 ep),.p (.l (ExpD.cellsL eks)),.p (.l (ExpD.cellsA eas))],AO.var [.p .nl,.p (.i .i64 0),.p (.s []),.p (.i .i64 0),.p (.s []),.p (.i .i64 0),.p .nl,.p .nl],AO.var [.p .nl,.p (.i .i64 0),.p (.s []),.p (.i .i64 0),.p (.s []),.p (.i .i64 0),.p .nl,.p .nl]]++G1)=H1 at a1 r1 o1 p1 ho1 l1 ⊢
 have oS1:∀ y,(H1.set (H.length+2) y)[H.length+2]?=some y:=fun y=>set_get o1
 have aS1:∀ y,(H1.set (H.length+2) y)[H.length]?=_:=fun y=>get_set a1 (by omega)
 have rS1:∀ y,(H1.set (H.length+2) y)[H.length+1]?=_:=fun y=>get_set r1 (by omega)
 have rF1:∀ y z,((H1.set (H.length+2) y).set (H.length+1) z)[H.length+1]?=some z:=fun y z=>set_get (rS1 y)
 simp only [go_sem,reduceIte,↓reduceIte,sevalprocAttr,Z0,Z1,bytesOf,a1,r1,o1,(own_one ho1).1,(own_one ho1).2,oS1,aS1,rS1,rF1,List.set_set]
 refine (he _).mono ?_
 rintro _ _ ⟨cs2,js2,rfl,ho2,hn2,hf2,G2,rfl⟩
 obtain ⟨v2_0,v2_1,v2_2,v2_3,v2_4,v2_5,v2_6,rfl⟩:=len7 (show cs2.length=7 by rw [ho2.len]; exact ExpD.tv_len _)
 have a2:(H1.set (H.length+2) (AO.var [v1,.p (.i .i64 0),.p (.s []),.p (.i .i64 0),.p (.s []),.p (.i .i64 0),.p .nl,.p .nl])++G2)[H.length]?=some (AO.var [.p (.l (gt.map DataD.cells)),.p (.i .i64 ek),.p (.s en),.p (.i .i64 eu),.p (.s et),.p (.i .i64 ep),.p (.l (ExpD.cellsL eks)),.p (.l (ExpD.cellsA eas))]):=get_ext (get_set a1 (by omega)) _
 have r2:(H1.set (H.length+2) (AO.var [v1,.p (.i .i64 0),.p (.s []),.p (.i .i64 0),.p (.s []),.p (.i .i64 0),.p .nl,.p .nl])++G2)[H.length+1]?=some (AO.var [.p .nl,.p (.i .i64 0),.p (.s []),.p (.i .i64 0),.p (.s []),.p (.i .i64 0),.p .nl,.p .nl]):=get_ext (get_set r1 (by omega)) _
 have o2:(H1.set (H.length+2) (AO.var [v1,.p (.i .i64 0),.p (.s []),.p (.i .i64 0),.p (.s []),.p (.i .i64 0),.p .nl,.p .nl])++G2)[H.length+2]?=some (AO.var [v1,.p (.i .i64 0),.p (.s []),.p (.i .i64 0),.p (.s []),.p (.i .i64 0),.p .nl,.p .nl]):=get_ext (set_get o1) _
 have p2:∃ G,(H1.set (H.length+2) (AO.var [v1,.p (.i .i64 0),.p (.s []),.p (.i .i64 0),.p (.s []),.p (.i .i64 0),.p .nl,.p .nl])++G2)=H++G:=(by obtain ⟨Gp,rfl⟩:=p1; exact app_far (set_far ⟨_,rfl⟩ (by omega) _) _)
 have f2:∀ i∈js2,H1.length≤i:=fun i hi=>by have:=hf2 i hi; simpa using this
 replace ho1:=ho1.keep (H':=(H1.set (H.length+2) (AO.var [v1,.p (.i .i64 0),.p (.s []),.p (.i .i64 0),.p (.s []),.p (.i .i64 0),.p .nl,.p .nl])++G2)) (fun i hi o h=>get_ext (get_set h (by have:=f1 i hi; omega)) _)
 generalize (H1.set (H.length+2) (AO.var [v1,.p (.i .i64 0),.p (.s []),.p (.i .i64 0),.p (.s []),.p (.i .i64 0),.p .nl,.p .nl])++G2)=H2 at a2 r2 o2 p2 ho2 ho1 ⊢
 have oS2:∀ y,(H2.set (H.length+2) y)[H.length+2]?=some y:=fun y=>set_get o2
 have aS2:∀ y,(H2.set (H.length+2) y)[H.length]?=_:=fun y=>get_set a2 (by omega)
 have rS2:∀ y,(H2.set (H.length+2) y)[H.length+1]?=_:=fun y=>get_set r2 (by omega)
 have rF2:∀ y z,((H2.set (H.length+2) y).set (H.length+1) z)[H.length+1]?=some z:=fun y z=>set_get (rS2 y)
 simp only [go_sem,reduceIte,↓reduceIte,sevalprocAttr,Z0,Z1,bytesOf,a2,r2,o2,oS2,aS2,rS2,rF2,List.set_set]
 have q1:=ho1.keep (H':=((H2.set (H.length+2) (AO.var [v1,v2_0,v2_1,v2_2,v2_3,v2_4,v2_5,v2_6])).set (H.length+1) (AO.var [v1,v2_0,v2_1,v2_2,v2_3,v2_4,v2_5,v2_6]))) (fun i hi o h=>get_set (get_set h (by have:=f1 i hi; omega)) (by have:=f1 i hi; omega))
 have q2:=ho2.keep (H':=((H2.set (H.length+2) (AO.var [v1,v2_0,v2_1,v2_2,v2_3,v2_4,v2_5,v2_6])).set (H.length+1) (AO.var [v1,v2_0,v2_1,v2_2,v2_3,v2_4,v2_5,v2_6]))) (fun i hi o h=>get_set (get_set h (by have:=f2 i hi; have:=get_lt o1; omega)) (by have:=f2 i hi; have:=get_lt o1; omega))
 rw [ProgD.tv]
 exact ⟨_,_,rfl,(OwnCs.cons q1 q2),(by simpa using List.nodup_append.2 ⟨hn1,hn2,fun a ha b hb e=>by have:=l1 a ha; have:=f2 b hb; omega⟩),(fun i hi=>by
  rcases (show i∈js1∨i∈js2 by simpa using hi) with hi | hi
  ·have:=f1 i hi; omega
  ·have:=f2 i hi; have:=get_lt o1; omega),by obtain ⟨Gp,rfl⟩:=p2; exact set_far (set_far ⟨_,rfl⟩ (by omega) _) (by omega) _⟩
end Go.Proofs.YtnelfbcgplooiaaGreat.Pg
/- Programs that are owned: all of them; their marks. -/
set_option linter.all false
namespace Go.Proofs.YtnelfbcgplooiaaGreat.Pg
open Go.AM Mc
theorem toTyN : ∀ (m : Nat) (t : TyE), t.sz < m → t.sz ≤ 1048576 → ToN 142 (av t.cells) t.tv := by
  intro m
  induction m with
  | zero => intro t h; omega
  | succ m ih =>
    intro t h hb
    obtain ⟨k, n, p, ks⟩ := t
    rw [TyE.sz, TyE.szL_eq] at h hb
    have := toN_TypeExp k n p ks
    rw [TyE.cellsL_eq, TyE.tvL_eq] at this
    exact this (toLN_TypeExp (sumSz_bound (f := TyE.sz) (by omega)) fun a ha => ih a (by have := sumSz_mem TyE.sz ha; omega) (by have := sumSz_mem TyE.sz ha; omega))
theorem toPatN : ∀ (m : Nat) (t : PatD), t.sz < m → t.sz ≤ 1048576 → ToN 116 (av t.cells) t.tv := by
  intro m
  induction m with
  | zero => intro t h; omega
  | succ m ih =>
    intro t h hb
    obtain ⟨k, n, u, p, ks⟩ := t
    rw [PatD.sz, PatD.szL_eq] at h hb
    have := toN_Pat k n u p ks
    rw [PatD.cellsL_eq, PatD.tvL_eq] at this
    exact this (toLN_Pat (sumSz_bound (f := PatD.sz) (by omega)) fun a ha => ih a (by have := sumSz_mem PatD.sz ha; omega) (by have := sumSz_mem PatD.sz ha; omega))
theorem toExpN : ∀ (m : Nat) (t : ExpD), t.sz < m → t.sz ≤ 1048576 → ToN 21 (av t.cells) t.tv := by
  intro m
  induction m with
  | zero => intro t h; omega
  | succ m ih =>
    intro t h hb
    obtain ⟨k, n, u, x, p, ks, as'⟩ := t
    rw [ExpD.sz, ExpD.szL_eq, ExpD.szA_eq] at h hb
    have := toN_Exp k n u x p ks as'
    rw [ExpD.cellsL_eq, ExpD.cellsA_eq, ExpD.tvL_eq, ExpD.tvA_eq] at this
    refine this (toLN_Exp (sumSz_bound (f := ExpD.sz) (by omega)) fun a ha => ih a (by have := sumSz_mem ExpD.sz ha; omega) (by have := sumSz_mem ExpD.sz ha; omega)) (toLN_Arm (sumSz_bound (f := ArmD.sz) (by omega)) fun a ha => ?_)
    have hm := sumSz_mem ArmD.sz ha
    obtain ⟨q, e⟩ := a
    rw [ArmD.sz] at hm
    exact toN_Arm (toPatN _ q (Nat.lt_succ_self _) (by omega)) (ih e (by omega) (by omega))
theorem toProgN (g:ProgD) (hb:g.sz≤1048576):ToN 7 (av g.cells) g.tv:=by
 rw [ProgD.sz,datasSz_eq] at hb
 refine toN_Prog (toLN_Data (sumSz_bound (f:=DataD.sz) (by omega)) fun d hd=>?_) (toExpN _ _ (Nat.lt_succ_self _) (by omega))
 have hm:=sumSz_mem DataD.sz hd
 rw [DataD.sz,namesSz_eq,ctorsSz_eq] at hm
 refine toN_Data (toLN_String (sumSz_bound (f:=List.length) (by omega))) (toLN_Ctor (sumSz_bound (f:=CtorD.sz) (by omega)) fun c hc=>?_)
 have hm2:=sumSz_mem CtorD.sz hc
 rw [CtorD.sz] at hm2
 exact toN_Ctor (toTyN _ _ (Nat.lt_succ_self _) (by omega))
theorem ownCs_p {H:List AO} {x:PV} {ts:List TV} {cs:List AV} {ids:List Nat} (h:OwnCs H (.p x :: ts) cs ids):∃ cs',cs=.p x :: cs'∧OwnCs H ts cs' ids:=by
 rw [OwnCs] at h
 obtain ⟨a,cs',i,js,rfl,rfl,h1,h2⟩:=h
 rw [Own] at h1
 obtain ⟨rfl,rfl⟩:=h1
 exact ⟨cs',rfl,h2⟩
theorem ownCs_s {H:List AO} {sz:Nat} {rows:List (List TV)} {ts:List TV} {cs:List AV} {ids:List Nat} (h:OwnCs H (.s sz rows :: ts) cs ids):∃ a cs' i js,cs=a :: cs'∧ids=i++js∧Own H (.s sz rows) a i∧OwnCs H ts cs' js:=by
 rw [OwnCs] at h
 exact h
theorem ownCs_n {H:List AO} {cs:List AV} {ids:List Nat} (h:OwnCs H [] cs ids):cs=[]∧ids=[]:=by rw [OwnCs] at h; exact h
theorem mcC_app (a b:List TV):mcC (a++b)=mcC a+mcC b:=by
 induction a with
 | nil=>simp [mcC]
 | cons t a ih=>rw [List.cons_append,mcC,mcC,ih]; omega
mutual
theorem mcTy:∀ t:TyE,mcC t.tv≤3+3 * t.sz
 | .mk k n p ks=>by have:=mcTyL ks; rw [TyE.tv,TyE.sz]; simp only [mcC,mcT]; omega
theorem mcTyL:∀ l:List TyE,mcR (TyE.tvL l)≤3 * TyE.szL l
 | []=>by rw [TyE.tvL,mcR,TyE.szL]; omega
 | t :: l=>by have:=mcTy t; have:=mcTyL l; rw [TyE.tvL,mcR,TyE.szL]; omega
end
mutual
theorem mcPat:∀ t:PatD,mcC t.tv≤4+4 * t.sz
 | .mk k n u p ks=>by have:=mcPatL ks; rw [PatD.tv,PatD.sz]; simp only [mcC,mcT]; omega
theorem mcPatL:∀ l:List PatD,mcR (PatD.tvL l)≤4 * PatD.szL l
 | []=>by rw [PatD.tvL,mcR,PatD.szL]; omega
 | t :: l=>by have:=mcPat t; have:=mcPatL l; rw [PatD.tvL,mcR,PatD.szL]; omega
end
mutual
theorem mcExp:∀ t:ExpD,mcC t.tv≤5+9 * t.sz
 | .mk k n u x p ks as'=>by have:=mcExpL ks; have:=mcExpA as'; rw [ExpD.tv,ExpD.sz]; simp only [mcC,mcT]; omega
theorem mcExpL:∀ l:List ExpD,mcR (ExpD.tvL l)≤9 * ExpD.szL l
 | []=>by rw [ExpD.tvL,mcR,ExpD.szL]; omega
 | t :: l=>by have:=mcExp t; have:=mcExpL l; rw [ExpD.tvL,mcR,ExpD.szL]; omega
theorem mcArm:∀ t:ArmD,mcC t.tv≤9+9 * t.sz
 | .mk p e=>by have:=mcPat p; have:=mcExp e; rw [ArmD.tv,ArmD.sz,mcC_app]; omega
theorem mcExpA:∀ l:List ArmD,mcR (ExpD.tvA l)≤9 * ExpD.szA l
 | []=>by rw [ExpD.tvA,mcR,ExpD.szA]; omega
 | t :: l=>by have:=mcArm t; have:=mcExpA l; rw [ExpD.tvA,mcR,ExpD.szA]; omega
end
theorem mcNames (l:List (List UInt8)):mcR (namesTV l)≤namesSz l:=by
 induction l with
 | nil=>simp [namesTV,mcR]
 | cons s l ih=>unfold namesTV at *; simp only [List.map_cons,mcR,mcC,mcT,namesSz]; omega
theorem mcCtors (l : List CtorD) : mcR (l.map CtorD.tv) ≤ 6 * ctorsSz l := by
  induction l with
  | nil => simp [mcR]
  | cons c l ih =>
    have := mcTy c.arg
    simp only [List.map_cons, mcR, CtorD.tv, mcC_app, mcC, mcT, ctorsSz, CtorD.sz, List.cons_append, List.nil_append]
    omega
theorem mcDatas (l : List DataD) : mcR (l.map DataD.tv) ≤ 6 * datasSz l := by
  induction l with
  | nil => simp [mcR]
  | cons d l ih =>
    have := mcNames d.vars
    have := mcCtors d.ctors
    simp only [List.map_cons, mcR, DataD.tv, mcC, mcT, datasSz, DataD.sz]
    omega
/-! marks -/
theorem tvL_mem {l:List TyE} {r:List TV} (h:r∈TyE.tvL l):∃ t∈l,r=t.tv:=by rw [TyE.tvL_eq] at h; obtain ⟨t,h1,rfl⟩:=List.mem_map.1 h; exact ⟨t,h1,rfl⟩
theorem markTyA : ∀ (m : Nat) (l : List TyE), sumSz TyE.sz l < m → sumSz TyE.sz l ≤ 1048576 → MarkC Tryz.prog 111 4 (TyE.tvL l) := by
  intro m
  induction m with
  | zero => intro l h; omega
  | succ m ih =>
    intro l h hb
    refine mark_TypeExpS fun r hr => ?_
    obtain ⟨⟨k, n, p, ks⟩, ht, rfl⟩ := tvL_mem hr
    have hm := sumSz_mem TyE.sz ht
    rw [TyE.sz, TyE.szL_eq] at hm
    have hl := sumSz_len TyE.sz ks
    exact ⟨k, n, p, TyE.tvL ks, by rw [TyE.tv], ih ks (by omega) (by omega), by rw [TyE.tvL_eq, List.length_map]; omega⟩
theorem tvL_memP {l:List PatD} {r:List TV} (h:r∈PatD.tvL l):∃ t∈l,r=t.tv:=by rw [PatD.tvL_eq] at h; obtain ⟨t,h1,rfl⟩:=List.mem_map.1 h; exact ⟨t,h1,rfl⟩
theorem markPatA : ∀ (m : Nat) (l : List PatD), sumSz PatD.sz l < m → sumSz PatD.sz l ≤ 1048576 → MarkC Tryz.prog 112 5 (PatD.tvL l) := by
  intro m
  induction m with
  | zero => intro l h; omega
  | succ m ih =>
    intro l h hb
    refine mark_PatS fun r hr => ?_
    obtain ⟨⟨k, n, u, p, ks⟩, ht, rfl⟩ := tvL_memP hr
    have hm := sumSz_mem PatD.sz ht
    rw [PatD.sz, PatD.szL_eq] at hm
    have hl := sumSz_len PatD.sz ks
    exact ⟨k, n, u, p, PatD.tvL ks, by rw [PatD.tv], ih ks (by omega) (by omega), by rw [PatD.tvL_eq, List.length_map]; omega⟩
theorem tvL_memE {l:List ExpD} {r:List TV} (h:r∈ExpD.tvL l):∃ t∈l,r=t.tv:=by rw [ExpD.tvL_eq] at h; obtain ⟨t,h1,rfl⟩:=List.mem_map.1 h; exact ⟨t,h1,rfl⟩
theorem tvL_memA {l:List ArmD} {r:List TV} (h:r∈ExpD.tvA l):∃ t∈l,r=t.tv:=by rw [ExpD.tvA_eq] at h; obtain ⟨t,h1,rfl⟩:=List.mem_map.1 h; exact ⟨t,h1,rfl⟩
theorem markExpA : ∀ (m : Nat), (∀ l : List ExpD, sumSz ExpD.sz l < m → sumSz ExpD.sz l ≤ 1048576 → MarkC Tryz.prog 76 7 (ExpD.tvL l)) ∧ ∀ l : List ArmD, sumSz ArmD.sz l < m → sumSz ArmD.sz l ≤ 1048576 → MarkC Tryz.prog 77 12 (ExpD.tvA l) := by
  intro m
  induction m with
  | zero => exact ⟨fun l h => by omega, fun l h => by omega⟩
  | succ m ih =>
    refine ⟨fun l h hb => ?_, fun l h hb => ?_⟩
    · refine mark_ExpS fun r hr => ?_
      obtain ⟨⟨k, n, u, x, p, ks, as'⟩, ht, rfl⟩ := tvL_memE hr
      have hm := sumSz_mem ExpD.sz ht
      rw [ExpD.sz, ExpD.szL_eq, ExpD.szA_eq] at hm
      have hl := sumSz_len ExpD.sz ks
      have hl2 := sumSz_len ArmD.sz as'
      exact ⟨k, n, u, x, p, ExpD.tvL ks, ExpD.tvA as', by rw [ExpD.tv], ⟨ih.1 ks (by omega) (by omega), by rw [ExpD.tvL_eq, List.length_map]; omega⟩, ih.2 as' (by omega) (by omega), by rw [ExpD.tvA_eq, List.length_map]; omega⟩
    · refine mark_ArmS fun r hr => ?_
      obtain ⟨⟨⟨qk, qn, qu, qp, qks⟩, ⟨k, n, u, x, p, ks, as'⟩⟩, ht, rfl⟩ := tvL_memA hr
      have hm := sumSz_mem ArmD.sz ht
      rw [ArmD.sz, PatD.sz, PatD.szL_eq, ExpD.sz, ExpD.szL_eq, ExpD.szA_eq] at hm
      have hl := sumSz_len ExpD.sz ks
      have hl2 := sumSz_len ArmD.sz as'
      have hl3 := sumSz_len PatD.sz qks
      exact ⟨qk, qn, qu, qp, PatD.tvL qks, k, n, u, x, p, ExpD.tvL ks, ExpD.tvA as', by rw [ArmD.tv, PatD.tv, ExpD.tv]; rfl, ⟨markPatA _ qks (Nat.lt_succ_self _) (by omega), by rw [PatD.tvL_eq, List.length_map]; omega⟩, ⟨ih.1 ks (by omega) (by omega), by rw [ExpD.tvL_eq, List.length_map]; omega⟩, ih.2 as' (by omega) (by omega), by rw [ExpD.tvA_eq, List.length_map]; omega⟩
theorem markCtorsA (l:List CtorD) (hb:sumSz CtorD.sz l≤1048576):MarkC Tryz.prog 75 7 (l.map CtorD.tv):=by
 refine mark_CtorS fun r hr=>?_
 obtain ⟨⟨cn,ch,⟨k,n,p,ks⟩,cp⟩,ht,rfl⟩:=List.mem_map.1 hr
 have hm:=sumSz_mem CtorD.sz ht
 rw [CtorD.sz] at hm
 simp only [TyE.sz,TyE.szL_eq] at hm
 have hl:=sumSz_len TyE.sz ks
 exact ⟨cn,ch,k,n,p,TyE.tvL ks,cp,by rw [CtorD.tv,TyE.tv]; rfl,markTyA _ ks (Nat.lt_succ_self _) (by omega),by rw [TyE.tvL_eq,List.length_map]; omega⟩
theorem markDatasA (l:List DataD) (hb:sumSz DataD.sz l≤1048576):MarkC Tryz.prog 38 4 (l.map DataD.tv):=by
 refine mark_DataS fun r hr=>?_
 obtain ⟨⟨dn,dv,dc,dp⟩,ht,rfl⟩:=List.mem_map.1 hr
 have hm:=sumSz_mem DataD.sz ht
 rw [DataD.sz,namesSz_eq,ctorsSz_eq] at hm
 simp only at hm
 have hl:=sumSz_len CtorD.sz dc
 have hl2:=sumSz_len List.length dv
 exact ⟨dn,namesTV dv,dc.map CtorD.tv,dp,rfl,⟨markStringS dv,by unfold namesTV; rw [List.length_map]; omega⟩,markCtorsA dc (by omega),by rw [List.length_map]; omega⟩
end Go.Proofs.YtnelfbcgplooiaaGreat.Pg
/- THE SMALL CODES of functions 13 37 73 110 149 139 4, and their ties to the program (printed by wip/tools/mkties2.py). -/
set_option linter.all false
namespace Go.Proofs.YtnelfbcgplooiaaGreat.Mc
open Go.AM
def zl13_0:List AV:=[.p (.nl),.p (.i .i64 0),.p (.s []),.p (.i .i64 0),.p (.s []),.p (.i .i64 0),.p (.nl),.p (.nl)]
/- laws.eqDataInfoS -/
def lv13:List Nat:=[0,1,4,5,10,14,26]
def mc13:MC :=
.seq (.reg [
 iL 4 (.mv (.c (.p (.b false))))]) (
 .seq (.seq (.reg [
 iT 6 (.mv (.l 0)),iT 7 (.len false (.t 6)),iT 8 (.mv (.l 1)),iT 9 (.len false (.t 8)),iL 10 (.bin .neq (.t 7) (.t 9))]) (
 .cond (.l 10) (
 .seq (.reg [
 iL 4 (.mv (.c (.p (.b false))))]) (
 .ret)) (
 .skip))) (
 .seq (.seq (.reg [
 iL 5 (.mv (cI 0))]) (
 .blk 0 (
 .loop (
 .seq (.seq (.reg [
 iT 11 (.mv (.l 5)),iT 12 (.mv (.l 0)),iT 13 (.len false (.t 12)),iL 14 (.bin .lss (.t 11) (.t 13))]) (
 .cond (.l 14) (
 .skip) (
 .exit 0))) (
 .seq (.blk 1 (
 .seq (.drw [
 iT 17 (.mv (.l 0)),iT 18 (.mv (.l 5)),iT 19 (.ixs 3 (.t 17) (.t 18)),iT 20 (.ld true 3 (.t 19)),iT 21 (.mv (.l 1)),iT 22 (.mv (.l 5)),iT 23 (.ixs 3 (.t 21) (.t 22)),iT 24 (.ld true 3 (.t 23))] [
 iT 25 (.call 37 [.t 20,.t 24]),iL 26 (.un .not (.t 25))]) (
 .cond (.l 26) (
 .seq (.reg [
 iL 4 (.mv (.c (.p (.b false))))]) (
 .ret)) (
 .skip)))) (
 .reg [
 iT 15 (.mv (.l 5)),iT 16 (.bin .add (.t 15) (cI 1)),iL 5 (.mv (.t 16))])))))) (
 .seq (.reg [
 iL 4 (.mv (.c (.p (.b true))))]) (
 .ret))))
theorem mc13_eq:(Tryz.f13.body.map (compile lv13 Tryz.prog 27))=some mc13:=by kernel_rfl
def mr13:List MR:=[.t 4]
theorem mr13_eq:cRess lv13 Tryz.prog Tryz.f13.results.toList=some mr13:=by kernel_rfl
theorem call13:CallT Tryz.prog 13 27 mc13 mr13:=acall_mc (by kernel_rfl) Tryz.func13 mc13_eq Tryz.ntmps13 (by kernel_rfl) mr13_eq
/- laws.eqDataInfo -/
def lv37:List Nat:=[0,1,2,3,4,9,14,20]
def mc37:MC :=
.seq (.reg [
 iL 2 (.box 3 (.l 0)),iL 3 (.box 3 (.l 1)),iL 4 (.mv (.c (.p (.b false))))]) (
 .seq (.seq (.reg [
 iT 5 (.fad 0 (.l 2)),iT 6 (.ld false 1 (.t 5)),iT 7 (.fad 0 (.l 3)),iT 8 (.ld false 1 (.t 7)),iL 9 (.bin .neq (.t 6) (.t 8))]) (
 .cond (.l 9) (
 .seq (.reg [
 iL 4 (.mv (.c (.p (.b false))))]) (
 .ret)) (
 .skip))) (
 .seq (.seq (.reg [
 iT 10 (.fad 1 (.l 2)),iT 11 (.ld false 1 (.t 10)),iT 12 (.fad 1 (.l 3)),iT 13 (.ld false 1 (.t 12)),iL 14 (.bin .neq (.t 11) (.t 13))]) (
 .cond (.l 14) (
 .seq (.reg [
 iL 4 (.mv (.c (.p (.b false))))]) (
 .ret)) (
 .skip))) (
 .seq (.seq (.reg [
 iT 15 (.fad 2 (.l 2)),iT 16 (.ld false 1 (.t 15)),iT 17 (.fad 2 (.l 3)),iT 18 (.ld false 1 (.t 17)),iT 19 (.call 73 [.t 16,.t 18]),iL 20 (.un .not (.t 19))]) (
 .cond (.l 20) (
 .seq (.reg [
 iL 4 (.mv (.c (.p (.b false))))]) (
 .ret)) (
 .skip))) (
 .seq (.reg [
 iL 4 (.mv (.c (.p (.b true))))]) (
 .ret)))))
theorem mc37_eq:(Tryz.f37.body.map (compile lv37 Tryz.prog 21))=some mc37:=by kernel_rfl
def mr37:List MR:=[.t 4]
theorem mr37_eq:cRess lv37 Tryz.prog Tryz.f37.results.toList=some mr37:=by kernel_rfl
theorem call37:CallT Tryz.prog 37 21 mc37 mr37:=acall_mc (by kernel_rfl) Tryz.func37 mc37_eq Tryz.ntmps37 (by kernel_rfl) mr37_eq
/- laws.eqCtorInfoS -/
def lv73:List Nat:=[0,1,4,5,10,14,26]
def mc73:MC :=
.seq (.reg [
 iL 4 (.mv (.c (.p (.b false))))]) (
 .seq (.seq (.reg [
 iT 6 (.mv (.l 0)),iT 7 (.len false (.t 6)),iT 8 (.mv (.l 1)),iT 9 (.len false (.t 8)),iL 10 (.bin .neq (.t 7) (.t 9))]) (
 .cond (.l 10) (
 .seq (.reg [
 iL 4 (.mv (.c (.p (.b false))))]) (
 .ret)) (
 .skip))) (
 .seq (.seq (.reg [
 iL 5 (.mv (cI 0))]) (
 .blk 0 (
 .loop (
 .seq (.seq (.reg [
 iT 11 (.mv (.l 5)),iT 12 (.mv (.l 0)),iT 13 (.len false (.t 12)),iL 14 (.bin .lss (.t 11) (.t 13))]) (
 .cond (.l 14) (
 .skip) (
 .exit 0))) (
 .seq (.blk 1 (
 .seq (.drw [
 iT 17 (.mv (.l 0)),iT 18 (.mv (.l 5)),iT 19 (.ixs 6 (.t 17) (.t 18)),iT 20 (.ld true 6 (.t 19)),iT 21 (.mv (.l 1)),iT 22 (.mv (.l 5)),iT 23 (.ixs 6 (.t 21) (.t 22)),iT 24 (.ld true 6 (.t 23))] [
 iT 25 (.call 110 [.t 20,.t 24]),iL 26 (.un .not (.t 25))]) (
 .cond (.l 26) (
 .seq (.reg [
 iL 4 (.mv (.c (.p (.b false))))]) (
 .ret)) (
 .skip)))) (
 .reg [
 iT 15 (.mv (.l 5)),iT 16 (.bin .add (.t 15) (cI 1)),iL 5 (.mv (.t 16))])))))) (
 .seq (.reg [
 iL 4 (.mv (.c (.p (.b true))))]) (
 .ret))))
theorem mc73_eq:(Tryz.f73.body.map (compile lv73 Tryz.prog 27))=some mc73:=by kernel_rfl
def mr73:List MR:=[.t 4]
theorem mr73_eq:cRess lv73 Tryz.prog Tryz.f73.results.toList=some mr73:=by kernel_rfl
theorem call73:CallT Tryz.prog 73 27 mc73 mr73:=acall_mc (by kernel_rfl) Tryz.func73 mc73_eq Tryz.ntmps73 (by kernel_rfl) mr73_eq
/- laws.eqCtorInfo -/
def lv110:List Nat:=[0,1,2,3,4,9,14,20]
def mc110:MC :=
.seq (.reg [
 iL 2 (.box 6 (.l 0)),iL 3 (.box 6 (.l 1)),iL 4 (.mv (.c (.p (.b false))))]) (
 .seq (.seq (.reg [
 iT 5 (.fad 0 (.l 2)),iT 6 (.ld false 1 (.t 5)),iT 7 (.fad 0 (.l 3)),iT 8 (.ld false 1 (.t 7)),iL 9 (.bin .neq (.t 6) (.t 8))]) (
 .cond (.l 9) (
 .seq (.reg [
 iL 4 (.mv (.c (.p (.b false))))]) (
 .ret)) (
 .skip))) (
 .seq (.seq (.reg [
 iT 10 (.fad 1 (.l 2)),iT 11 (.ld false 1 (.t 10)),iT 12 (.fad 1 (.l 3)),iT 13 (.ld false 1 (.t 12)),iL 14 (.beq true (.t 11) (.t 13))]) (
 .cond (.l 14) (
 .seq (.reg [
 iL 4 (.mv (.c (.p (.b false))))]) (
 .ret)) (
 .skip))) (
 .seq (.seq (.reg [
 iT 15 (.fad 2 (.l 2)),iT 16 (.ld true 4 (.t 15)),iT 17 (.fad 2 (.l 3)),iT 18 (.ld true 4 (.t 17)),iT 19 (.call 139 [.t 16,.t 18]),iL 20 (.un .not (.t 19))]) (
 .cond (.l 20) (
 .seq (.reg [
 iL 4 (.mv (.c (.p (.b false))))]) (
 .ret)) (
 .skip))) (
 .seq (.reg [
 iL 4 (.mv (.c (.p (.b true))))]) (
 .ret)))))
theorem mc110_eq:(Tryz.f110.body.map (compile lv110 Tryz.prog 21))=some mc110:=by kernel_rfl
def mr110:List MR:=[.t 4]
theorem mr110_eq:cRess lv110 Tryz.prog Tryz.f110.results.toList=some mr110:=by kernel_rfl
theorem call110:CallT Tryz.prog 110 21 mc110 mr110:=acall_mc (by kernel_rfl) Tryz.func110 mc110_eq Tryz.ntmps110 (by kernel_rfl) mr110_eq
/- laws.eqTyS -/
def lv149:List Nat:=[0,1,4,5,10,14,26]
def mc149:MC :=
.seq (.reg [
 iL 4 (.mv (.c (.p (.b false))))]) (
 .seq (.seq (.reg [
 iT 6 (.mv (.l 0)),iT 7 (.len false (.t 6)),iT 8 (.mv (.l 1)),iT 9 (.len false (.t 8)),iL 10 (.bin .neq (.t 7) (.t 9))]) (
 .cond (.l 10) (
 .seq (.reg [
 iL 4 (.mv (.c (.p (.b false))))]) (
 .ret)) (
 .skip))) (
 .seq (.seq (.reg [
 iL 5 (.mv (cI 0))]) (
 .blk 0 (
 .loop (
 .seq (.seq (.reg [
 iT 11 (.mv (.l 5)),iT 12 (.mv (.l 0)),iT 13 (.len false (.t 12)),iL 14 (.bin .lss (.t 11) (.t 13))]) (
 .cond (.l 14) (
 .skip) (
 .exit 0))) (
 .seq (.blk 1 (
 .seq (.drw [
 iT 17 (.mv (.l 0)),iT 18 (.mv (.l 5)),iT 19 (.ixs 4 (.t 17) (.t 18)),iT 20 (.ld true 4 (.t 19)),iT 21 (.mv (.l 1)),iT 22 (.mv (.l 5)),iT 23 (.ixs 4 (.t 21) (.t 22)),iT 24 (.ld true 4 (.t 23))] [
 iT 25 (.call 139 [.t 20,.t 24]),iL 26 (.un .not (.t 25))]) (
 .cond (.l 26) (
 .seq (.reg [
 iL 4 (.mv (.c (.p (.b false))))]) (
 .ret)) (
 .skip)))) (
 .reg [
 iT 15 (.mv (.l 5)),iT 16 (.bin .add (.t 15) (cI 1)),iL 5 (.mv (.t 16))])))))) (
 .seq (.reg [
 iL 4 (.mv (.c (.p (.b true))))]) (
 .ret))))
theorem mc149_eq:(Tryz.f149.body.map (compile lv149 Tryz.prog 27))=some mc149:=by kernel_rfl
def mr149:List MR:=[.t 4]
theorem mr149_eq:cRess lv149 Tryz.prog Tryz.f149.results.toList=some mr149:=by kernel_rfl
theorem call149:CallT Tryz.prog 149 27 mc149 mr149:=acall_mc (by kernel_rfl) Tryz.func149 mc149_eq Tryz.ntmps149 (by kernel_rfl) mr149_eq
/- laws.eqTy -/
def lv139:List Nat:=[0,1,2,3,4,9,14,19,25]
def mc139:MC :=
.seq (.reg [
 iL 2 (.box 4 (.l 0)),iL 3 (.box 4 (.l 1)),iL 4 (.mv (.c (.p (.b false))))]) (
 .seq (.seq (.reg [
 iT 5 (.fad 0 (.l 2)),iT 6 (.ld false 1 (.t 5)),iT 7 (.fad 0 (.l 3)),iT 8 (.ld false 1 (.t 7)),iL 9 (.bin .neq (.t 6) (.t 8))]) (
 .cond (.l 9) (
 .seq (.reg [
 iL 4 (.mv (.c (.p (.b false))))]) (
 .ret)) (
 .skip))) (
 .seq (.seq (.reg [
 iT 10 (.fad 1 (.l 2)),iT 11 (.ld false 1 (.t 10)),iT 12 (.fad 1 (.l 3)),iT 13 (.ld false 1 (.t 12)),iL 14 (.bin .neq (.t 11) (.t 13))]) (
 .cond (.l 14) (
 .seq (.reg [
 iL 4 (.mv (.c (.p (.b false))))]) (
 .ret)) (
 .skip))) (
 .seq (.seq (.reg [
 iT 15 (.fad 2 (.l 2)),iT 16 (.ld false 1 (.t 15)),iT 17 (.fad 2 (.l 3)),iT 18 (.ld false 1 (.t 17)),iL 19 (.bin .neq (.t 16) (.t 18))]) (
 .cond (.l 19) (
 .seq (.reg [
 iL 4 (.mv (.c (.p (.b false))))]) (
 .ret)) (
 .skip))) (
 .seq (.seq (.reg [
 iT 20 (.fad 3 (.l 2)),iT 21 (.ld false 1 (.t 20)),iT 22 (.fad 3 (.l 3)),iT 23 (.ld false 1 (.t 22)),iT 24 (.call 149 [.t 21,.t 23]),iL 25 (.un .not (.t 24))]) (
 .cond (.l 25) (
 .seq (.reg [
 iL 4 (.mv (.c (.p (.b false))))]) (
 .ret)) (
 .skip))) (
 .seq (.reg [
 iL 4 (.mv (.c (.p (.b true))))]) (
 .ret))))))
theorem mc139_eq:(Tryz.f139.body.map (compile lv139 Tryz.prog 26))=some mc139:=by kernel_rfl
def mr139:List MR:=[.t 4]
theorem mr139_eq:cRess lv139 Tryz.prog Tryz.f139.results.toList=some mr139:=by kernel_rfl
theorem call139:CallT Tryz.prog 139 26 mc139 mr139:=acall_mc (by kernel_rfl) Tryz.func139 mc139_eq Tryz.ntmps139 (by kernel_rfl) mr139_eq
/- laws.FnExactTable -/
def lv4:List Nat:=[0,1,2,3,4,5,6,7,8,9,10,11,12,13,18,41,46,63,71,74,90,95,98]
def mc4:MC :=
.seq (.reg [
 iL 1 (.box 8 (.l 0)),iL 2 (.mv (.c (.p (.b false))))]) (
 .seq (.reg [
 iL 3 (.mv (cI 1048576))]) (
 .seq (.reg [
 iT 14 (.ld true 8 (.l 1)),iT 15 (.mv (.l 3)),iT 16 (.call 5 [.t 14,.t 15]),iL 3 (.mv (.t 16))]) (
 .seq (.seq (.reg [
 iT 17 (.mv (.l 3)),iL 18 (.bin .lss (.t 17) (cI 0))]) (
 .cond (.l 18) (
 .seq (.reg [
 iL 2 (.mv (.c (.p (.b true))))]) (
 .ret)) (
 .skip))) (
 .seq (.reg [
 iT 20 (.ld true 8 (.l 1)),iT 21 (.call 7 [.t 20]),iT 22 (.call 11 [.t 21]),iT 19 (.mv (.t 22)),iT 23 (.ext (.t 19) 0),iT 24 (.ext (.t 19) 1),iL 5 (.alloc [.p (.i .i64 0),.p (.i .i64 0)]),iL 4 (.mv (.t 23)),iN (.sto 2 (.l 5) (.t 24))]) (
 .seq (.reg [
 iT 25 (.ld true 8 (.l 1)),iT 26 (.call 7 [.t 25]),iL 6 (.alloc zl13_0),iN (.sto 8 (.l 6) (.t 26))]) (
 .seq (.reg [
 iT 28 (.ld true 8 (.l 6)),iT 29 (.call 12 [.t 28]),iT 27 (.mv (.t 29)),iT 30 (.ext (.t 27) 0),iT 31 (.ext (.t 27) 1),iL 8 (.alloc [.p (.i .i64 0),.p (.i .i64 0)]),iL 7 (.mv (.t 30)),iN (.sto 2 (.l 8) (.t 31))]) (
 .seq (.seq (.reg [
 iT 32 (.mv (.l 7)),iT 33 (.mv (.l 4)),iT 34 (.call 13 [.t 32,.t 33]),iT 35 (.un .not (.t 34)),iT 36 (.mv (.t 35)),⟨.t 37,.ld true 2 (.l 8),some ((.t 36),false)⟩,⟨.t 38,.ld true 2 (.l 5),some ((.t 36),false)⟩,⟨.t 39,.call 9 [.t 37,.t 38],some ((.t 36),false)⟩,⟨.t 40,.un .not (.t 39),some ((.t 36),false)⟩,iL 41 (.pick (.t 36) (.c (.p (.b true))) (.t 40))]) (
 .cond (.l 41) (
 .seq (.reg [
 iL 2 (.mv (.c (.p (.b false))))]) (
 .ret)) (
 .skip))) (
 .seq (.seq (.drw [
 iT 42 (.ld true 8 (.l 6)),iT 43 (.ld true 8 (.l 1)),iT 44 (.call 7 [.t 43])] [
 iT 45 (.call 10 [.t 42,.t 44]),iL 46 (.un .not (.t 45))]) (
 .cond (.l 46) (
 .seq (.reg [
 iL 2 (.mv (.c (.p (.b false))))]) (
 .ret)) (
 .skip))) (
 .seq (.reg [
 iL 9 (.mv (cI 1))]) (
 .seq (.reg [
 iT 47 (.ld true 8 (.l 6)),iT 48 (.mv (.l 9)),iT 49 (.call 14 [.t 47,.t 48]),iL 9 (.mv (.t 49))]) (
 .seq (.seq (.reg [
 iT 50 (.mv (.l 9)),iT 51 (.bin .lss (.t 50) (cI 0)),iT 52 (.mv (.t 51)),⟨.t 53,.mv (.l 7),some ((.t 52),false)⟩,⟨.t 54,.mv (.l 4),some ((.t 52),false)⟩,⟨.t 55,.call 13 [.t 53,.t 54],some ((.t 52),false)⟩,⟨.t 56,.un .not (.t 55),some ((.t 52),false)⟩,iT 57 (.pick (.t 52) (.c (.p (.b true))) (.t 56)),iT 58 (.mv (.t 57)),⟨.t 59,.ld true 2 (.l 8),some ((.t 58),false)⟩,⟨.t 60,.ld true 2 (.l 5),some ((.t 58),false)⟩,⟨.t 61,.call 9 [.t 59,.t 60],some ((.t 58),false)⟩,⟨.t 62,.un .not (.t 61),some ((.t 58),false)⟩,iL 63 (.pick (.t 58) (.c (.p (.b true))) (.t 62))]) (
 .cond (.l 63) (
 .seq (.reg [
 iL 2 (.mv (.c (.p (.b false))))]) (
 .ret)) (
 .skip))) (
 .seq (.reg [
 iL 10 (.mv (cI 1))]) (
 .seq (.reg [
 iT 64 (.mv (.l 7)),iT 65 (.mv (.l 10)),iT 66 (.call 15 [.t 64,.t 65]),iL 10 (.mv (.t 66))]) (
 .seq (.reg [
 iL 11 (.mv (cI 1))]) (
 .seq (.reg [
 iT 67 (.mv (.l 7)),iT 68 (.mv (.l 11)),iT 69 (.call 16 [.t 67,.t 68]),iL 11 (.mv (.t 69))]) (
 .seq (.seq (.reg [
 iT 70 (.mv (.l 11)),iL 71 (.bin .lss (.t 70) (cI 0))]) (
 .cond (.l 71) (
 .seq (.reg [
 iL 2 (.mv (.c (.p (.b false))))]) (
 .ret)) (
 .skip))) (
 .seq (.seq (.reg [
 iT 72 (.mv (.l 11)),iT 73 (.mv (.l 10)),iL 74 (.bin .neq (.t 72) (.t 73))]) (
 .cond (.l 74) (
 .seq (.reg [
 iL 2 (.mv (.c (.p (.b false))))]) (
 .ret)) (
 .skip))) (
 .seq (.reg [
 iT 76 (.ld true 8 (.l 1)),iT 77 (.call 7 [.t 76]),iT 78 (.call 12 [.t 77]),iT 75 (.mv (.t 78)),iT 79 (.ext (.t 75) 0),iT 80 (.ext (.t 75) 1),iL 13 (.alloc [.p (.i .i64 0),.p (.i .i64 0)]),iL 12 (.mv (.t 79)),iN (.sto 2 (.l 13) (.t 80))]) (
 .seq (.seq (.reg [
 iT 81 (.mv (.l 12)),iT 82 (.mv (.l 4)),iT 83 (.call 13 [.t 81,.t 82]),iT 84 (.un .not (.t 83)),iT 85 (.mv (.t 84)),⟨.t 86,.ld true 2 (.l 13),some ((.t 85),false)⟩,⟨.t 87,.ld true 2 (.l 5),some ((.t 85),false)⟩,⟨.t 88,.call 9 [.t 86,.t 87],some ((.t 85),false)⟩,⟨.t 89,.un .not (.t 88),some ((.t 85),false)⟩,iL 90 (.pick (.t 85) (.c (.p (.b true))) (.t 89))]) (
 .cond (.l 90) (
 .seq (.reg [
 iL 2 (.mv (.c (.p (.b false))))]) (
 .ret)) (
 .skip))) (
 .seq (.reg [
 iL 11 (.mv (cI 1))]) (
 .seq (.reg [
 iT 91 (.mv (.l 7)),iT 92 (.mv (.l 11)),iT 93 (.call 16 [.t 91,.t 92]),iL 11 (.mv (.t 93))]) (
 .seq (.seq (.reg [
 iT 94 (.mv (.l 11)),iL 95 (.bin .lss (.t 94) (cI 0))]) (
 .cond (.l 95) (
 .seq (.reg [
 iL 2 (.mv (.c (.p (.b false))))]) (
 .ret)) (
 .skip))) (
 .seq (.seq (.reg [
 iT 96 (.mv (.l 11)),iT 97 (.mv (.l 10)),iL 98 (.bin .neq (.t 96) (.t 97))]) (
 .cond (.l 98) (
 .seq (.reg [
 iL 2 (.mv (.c (.p (.b false))))]) (
 .ret)) (
 .skip))) (
 .seq (.reg [
 iL 2 (.mv (.c (.p (.b true))))]) (
 .ret)))))))))))))))))))))))))
theorem mc4_eq:(Tryz.f4.body.map (compile lv4 Tryz.prog 99))=some mc4:=by kernel_rfl
def mr4:List MR:=[.t 2]
theorem mr4_eq:cRess lv4 Tryz.prog Tryz.f4.results.toList=some mr4:=by kernel_rfl
theorem call4:CallT Tryz.prog 4 99 mc4 mr4:=acall_mc (by kernel_rfl) Tryz.func4 mc4_eq Tryz.ntmps4 (by kernel_rfl) mr4_eq
end Go.Proofs.YtnelfbcgplooiaaGreat.Mc
/- The program's maker of tables: a datatype's constructors, a datatype. -/
set_option linter.all false
namespace Go.Proofs.YtnelfbcgplooiaaGreat.Pg
open Go.AM Mc
variable {g:ProgD} {H0 H H':List AO} {j:Nat} {a0 a:AV} {seen:List (List UInt8)} {f f':Ft}
theorem ctorsF_step {types : List DataD} {vs : List (List UInt8)} : ∀ {seen : List (List UInt8)} {l : List CtorD} {x : Nat} (h : x < l.length), ctorsF types vs seen (l.take (x + 1)) = firstF (ctorsF types vs seen (l.take x)) (firstF (if l[x].name ∈ seen ++ (l.take x).map CtorD.name then (23, l[x].pos) else (0, 0)) (if l[x].has then l[x].arg.ft types vs else (0, 0)))
  | seen, [], x, h => by simp at h
  | seen, c :: l, 0, h => by
    simp only [List.take_succ_cons, List.take_zero, ctorsF, List.getElem_cons_zero, firstF_z, List.map_nil, List.append_nil]
    congr 1
    refine firstF_r ?_
    split
    · exact TyE.ft_z _ _ _
    · intro _; rfl
  | seen, c :: l, x + 1, h => by
    simp only [List.take_succ_cons, ctorsF, List.getElem_cons_succ]
    rw [ctorsF_step (seen := seen ++ [c.name]) (l := l) (by simpa using h), firstF_assoc, firstF_assoc]
    simp only [List.map_cons, List.append_assoc, List.singleton_append]
theorem ctorsF_z (types : List DataD) (vs : List (List UInt8)) : ∀ (seen : List (List UInt8)) (l : List CtorD), Fz (ctorsF types vs seen l)
  | seen, [] => fun _ => rfl
  | seen, c :: l => by
    rw [ctorsF]
    refine firstF_zz (a := ite _ _ _) ?_ (firstF_zz (a := ite _ _ _) ?_ (ctorsF_z types vs _ l))
    · split
      · simp
      · intro _; rfl
    · split
      · exact TyE.ft_z _ _ _
      · intro _; rfl
theorem varsF_step {p : Int} : ∀ {ah l : List (List UInt8)} {x : Nat} (h : x < l.length), varsF p ah (l.take (x + 1)) = firstF (varsF p ah (l.take x)) (if l[x] ∈ ah ++ l.take x then (22, p) else (0, 0))
  | ah, [], x, h => by simp at h
  | ah, c :: l, 0, h => by simp [varsF, firstF_z]
  | ah, c :: l, x + 1, h => by
    simp only [List.take_succ_cons, varsF, List.getElem_cons_succ]
    split
    · rw [firstF_ne (by simp)]
    · rw [varsF_step (ah := ah ++ [c]) (l := l) (by simpa using h), List.append_assoc]; rfl
theorem varsF_z (p : Int) : ∀ (ah l : List (List UInt8)), Fz (varsF p ah l)
  | ah, [] => fun _ => rfl
  | ah, c :: l => by
    rw [varsF]
    split
    · intro h; simp at h
    · exact varsF_z p _ l
theorem lent_rawC (H:List AO) (vs:List (List UInt8)) (c:CtorD):∀ (i:Nat) x q,((rawC vs c).map AV.p)[i]?=some x→((c.info vs).cells)[i]?=some q→Lent H x (.p q):=by
 obtain ⟨cn,ch,t,cp⟩:=c
 intro i x q hx hq
 cases ch
 ·simp only [rawC,CtorD.info,InfoC.cells,tyZ,TyD.cells,TyD.cellsL,Bool.false_eq_true,if_false,List.cons_append,List.nil_append,List.map_cons,List.map_nil] at hx hq
  match i,hx,hq with
  | 0,hx,hq=>cases hx; cases hq; exact .pure _
  | 1,hx,hq=>cases hx; cases hq; exact .pure _
  | 2,hx,hq=>cases hx; cases hq; exact .pure _
  | 3,hx,hq=>cases hx; cases hq; exact .pure _
  | 4,hx,hq=>cases hx; cases hq; exact .pure _
  | 5,hx,hq=>cases hx; cases hq; exact .nl
  | i+6,hx,hq=>simp at hx
 ·have e:rawC vs ⟨cn,true,t,cp⟩=(CtorD.info vs ⟨cn,true,t,cp⟩).cells:=by
   simp [rawC,CtorD.info,InfoC.cells]
  rw [e,List.getElem?_map,hq] at hx
  cases hx
  exact .pure _
end Go.Proofs.YtnelfbcgplooiaaGreat.Pg
/- The program's table. -/
set_option linter.all false
namespace Go.Proofs.YtnelfbcgplooiaaGreat.Pg
open Go.AM Mc
def tableR (g:ProgD):List InfoD × Ft:=if g.ok then (if (tableF g.types).1=0 then (tableV g.types,(0,0)) else ([],tableF g.types)) else ([],(20,0))
def tabAV (x:List InfoD × Ft):AV:=.tup [.p (.l (x.1.map InfoD.cells)),av (Ft.cells x.2)]
theorem typesF_step : ∀ {ah l : List DataD} {x : Nat} (h : x < l.length), typesF ah (l.take (x + 1)) = firstF (typesF ah (l.take x)) (if ((ah ++ l.take x).any fun y => decide (y.name = l[x].name)) = true ∨ l[x].name ∈ fourL then (21, l[x].pos) else (0, 0))
  | ah, [], x, h => by simp at h
  | ah, c :: l, 0, h => by simp [typesF, firstF_z]
  | ah, c :: l, x + 1, h => by
    simp only [List.take_succ_cons, typesF, List.getElem_cons_succ]
    split
    · rw [firstF_ne (by simp)]
    · rw [typesF_step (ah := ah ++ [c]) (l := l) (by simpa using h)]
      simp only [List.append_assoc, List.singleton_append]
      rfl
theorem typesF_z : ∀ (ah l : List DataD), Fz (typesF ah l)
  | ah, [] => fun _ => rfl
  | ah, c :: l => by
    rw [typesF]
    split
    · intro h; simp at h
    · exact typesF_z _ l
theorem datasF_step {types : List DataD} : ∀ {seen : List (List UInt8)} {l : List DataD} {x : Nat} (h : x < l.length), datasF types seen (l.take (x + 1)) = firstF (datasF types seen (l.take x)) (dataF types (seen ++ (l.take x).flatMap fun d => d.ctors.map CtorD.name) l[x])
  | seen, [], x, h => by simp at h
  | seen, c :: l, 0, h => by
    simp only [List.take_succ_cons, List.take_zero, datasF, List.getElem_cons_zero, firstF_z, List.flatMap_nil, List.append_nil]
    refine firstF_r ?_
    rw [dataF]
    exact firstF_zz (varsF_z _ _ _) (ctorsF_z _ _ _ _)
  | seen, c :: l, x + 1, h => by
    simp only [List.take_succ_cons, datasF, List.getElem_cons_succ]
    rw [datasF_step (seen := seen ++ c.ctors.map CtorD.name) (l := l) (by simpa using h), firstF_assoc]
    simp only [List.flatMap_cons, List.append_assoc]
theorem manyF_z : ∀ (i : Nat) (l : List DataD), Fz (manyF i l)
  | i, [] => fun _ => rfl
  | i, c :: l => by
    rw [manyF]
    split
    · intro h; simp at h
    · split
      · intro h; simp at h
      · exact manyF_z _ l
theorem datasF_z (types : List DataD) : ∀ (seen : List (List UInt8)) (l : List DataD), Fz (datasF types seen l)
  | seen, [] => fun _ => rfl
  | seen, c :: l => by
    rw [datasF]
    refine firstF_zz ?_ (datasF_z types _ l)
    rw [dataF]
    exact firstF_zz (varsF_z _ _ _) (ctorsF_z _ _ _ _)
theorem tableF_z (types:List DataD):Fz (tableF types):=by
 rw [tableF]
 exact firstF_zz (manyF_z _ _) (firstF_zz (typesF_z _ _) (datasF_z _ _ _))
theorem namesLen {l : List DataD} : (l.flatMap fun d => d.ctors.map CtorD.name).length ≤ sumSz DataD.sz l := by
  induction l with
  | nil => simp [sumSz]
  | cons d l ih =>
    have := sumSz_len CtorD.sz d.ctors
    rw [List.flatMap_cons, List.length_append, List.length_map, sumSz, DataD.sz, ctorsSz_eq]
    omega
theorem sumSz_take {α : Type} (f : α → Nat) (l : List α) (x : Nat) : sumSz f (l.take x) ≤ sumSz f l := by
  induction l generalizing x with
  | nil => simp
  | cons a l ih =>
    cases x with
    | zero => simp [sumSz]
    | succ x => simp only [List.take_succ_cons, sumSz]; have := ih x; omega
theorem InfoD.cells_len (d:InfoD):d.cells.length=3:=rfl
theorem dataL4 (l:List DataD):∀ r∈l.map DataD.cells,r.length=4:=by intro r hr; obtain ⟨s,_,rfl⟩:=List.mem_map.1 hr; rfl
end Go.Proofs.YtnelfbcgplooiaaGreat.Pg
/- Tables: what tells two of them the same. -/
set_option linter.all false
namespace Go.Proofs.YtnelfbcgplooiaaGreat.Pg
open Go.AM Mc
theorem eqL_Ty {l:List TyD} (he:∀ a∈l,EqC 139 (av (TyD.cells a))):EqC 149 (.p (.l (l.map TyD.cells))):=by
 intro H
 refine call149 (by simp) ?_
 have d0:decide ((l.length:Int)=(l.length:Int))=true:=by simp
 simp only [go_sem,reduceIte,↓reduceIte,sevalprocAttr,Z0,Z1,bytesOf,mc149,mr149,List.length_map,d0]
 intro hm hm2
 rw [maxLe] at hm
 refine ⟨Nat,[0,1,4,5],fun i st=>i≤l.length∧st=⟨[(0,.p (.l (l.map TyD.cells))),(1,.p (.l (l.map TyD.cells))),(4,.p (.b false)),(5,.p (.i .i64 i))],[],H⟩,fun i=>l.length - i,⟨0,?_⟩,?_⟩
 ·simp only [go_sem,reduceIte,↓reduceIte,sevalprocAttr,Z0,Z1,bytesOf]
  omega
 ·rintro i st ⟨hi,rfl⟩
  by_cases hlt:i<l.length
  ·have d1:decide ((i:Int)<(l.length:Int))=true:=by simp; omega
   have hg:(l.map TyD.cells)[i]?=some (TyD.cells l[i]):=by simp [hlt]
   have et:takeN 4 (List.map AV.p (TyD.cells l[i]))=some (List.map AV.p (TyD.cells l[i])):=takeN_all (by rw [List.length_map,TyD.cells_len])
   have ex:=wrN i (by omega)
   simp only [go_sem,reduceIte,↓reduceIte,sevalprocAttr,Z0,Z1,bytesOf,List.length_map,d1]
   intro _
   refine drw_same ?_
   simp only [go_sem,reduceIte,↓reduceIte,sevalprocAttr,Z0,Z1,bytesOf,hg,et,TyD.cells_len]
   refine acall_pure (he l[i] (List.getElem_mem hlt) _) ?_
   simp only [go_sem,reduceIte,↓reduceIte,sevalprocAttr,Z0,Z1,bytesOf,ex]
   exact ⟨i+1,⟨by omega,rfl⟩,by omega⟩
  ·have:i=l.length:=by omega
   subst this
   have d1:decide ((l.length:Int)<(l.length:Int))=false:=by simp
   simp only [go_sem,reduceIte,↓reduceIte,sevalprocAttr,Z0,Z1,bytesOf,List.length_map,d1]
   intro _
   exact ⟨rfl,rfl⟩
theorem eqL_CtorInfo {l:List InfoC} (he:∀ a∈l,EqC 110 (av (InfoC.cells a))):EqC 73 (.p (.l (l.map InfoC.cells))):=by
 intro H
 refine call73 (by simp) ?_
 have d0:decide ((l.length:Int)=(l.length:Int))=true:=by simp
 simp only [go_sem,reduceIte,↓reduceIte,sevalprocAttr,Z0,Z1,bytesOf,mc73,mr73,List.length_map,d0]
 intro hm hm2
 rw [maxLe] at hm
 refine ⟨Nat,[0,1,4,5],fun i st=>i≤l.length∧st=⟨[(0,.p (.l (l.map InfoC.cells))),(1,.p (.l (l.map InfoC.cells))),(4,.p (.b false)),(5,.p (.i .i64 i))],[],H⟩,fun i=>l.length - i,⟨0,?_⟩,?_⟩
 ·simp only [go_sem,reduceIte,↓reduceIte,sevalprocAttr,Z0,Z1,bytesOf]
  omega
 ·rintro i st ⟨hi,rfl⟩
  by_cases hlt:i<l.length
  ·have d1:decide ((i:Int)<(l.length:Int))=true:=by simp; omega
   have hg:(l.map InfoC.cells)[i]?=some (InfoC.cells l[i]):=by simp [hlt]
   have et:takeN 6 (List.map AV.p (InfoC.cells l[i]))=some (List.map AV.p (InfoC.cells l[i])):=takeN_all (by rw [List.length_map,InfoC.cells_len])
   have ex:=wrN i (by omega)
   simp only [go_sem,reduceIte,↓reduceIte,sevalprocAttr,Z0,Z1,bytesOf,List.length_map,d1]
   intro _
   refine drw_same ?_
   simp only [go_sem,reduceIte,↓reduceIte,sevalprocAttr,Z0,Z1,bytesOf,hg,et,InfoC.cells_len]
   refine acall_pure (he l[i] (List.getElem_mem hlt) _) ?_
   simp only [go_sem,reduceIte,↓reduceIte,sevalprocAttr,Z0,Z1,bytesOf,ex]
   exact ⟨i+1,⟨by omega,rfl⟩,by omega⟩
  ·have:i=l.length:=by omega
   subst this
   have d1:decide ((l.length:Int)<(l.length:Int))=false:=by simp
   simp only [go_sem,reduceIte,↓reduceIte,sevalprocAttr,Z0,Z1,bytesOf,List.length_map,d1]
   intro _
   exact ⟨rfl,rfl⟩
theorem eqL_DataInfo {l:List InfoD} (he:∀ a∈l,EqC 37 (av (InfoD.cells a))):EqC 13 (.p (.l (l.map InfoD.cells))):=by
 intro H
 refine call13 (by simp) ?_
 have d0:decide ((l.length:Int)=(l.length:Int))=true:=by simp
 simp only [go_sem,reduceIte,↓reduceIte,sevalprocAttr,Z0,Z1,bytesOf,mc13,mr13,List.length_map,d0]
 intro hm hm2
 rw [maxLe] at hm
 refine ⟨Nat,[0,1,4,5],fun i st=>i≤l.length∧st=⟨[(0,.p (.l (l.map InfoD.cells))),(1,.p (.l (l.map InfoD.cells))),(4,.p (.b false)),(5,.p (.i .i64 i))],[],H⟩,fun i=>l.length - i,⟨0,?_⟩,?_⟩
 ·simp only [go_sem,reduceIte,↓reduceIte,sevalprocAttr,Z0,Z1,bytesOf]
  omega
 ·rintro i st ⟨hi,rfl⟩
  by_cases hlt:i<l.length
  ·have d1:decide ((i:Int)<(l.length:Int))=true:=by simp; omega
   have hg:(l.map InfoD.cells)[i]?=some (InfoD.cells l[i]):=by simp [hlt]
   have et:takeN 3 (List.map AV.p (InfoD.cells l[i]))=some (List.map AV.p (InfoD.cells l[i])):=takeN_all (by rw [List.length_map,InfoD.cells_len])
   have ex:=wrN i (by omega)
   simp only [go_sem,reduceIte,↓reduceIte,sevalprocAttr,Z0,Z1,bytesOf,List.length_map,d1]
   intro _
   refine drw_same ?_
   simp only [go_sem,reduceIte,↓reduceIte,sevalprocAttr,Z0,Z1,bytesOf,hg,et,InfoD.cells_len]
   refine acall_pure (he l[i] (List.getElem_mem hlt) _) ?_
   simp only [go_sem,reduceIte,↓reduceIte,sevalprocAttr,Z0,Z1,bytesOf,ex]
   exact ⟨i+1,⟨by omega,rfl⟩,by omega⟩
  ·have:i=l.length:=by omega
   subst this
   have d1:decide ((l.length:Int)<(l.length:Int))=false:=by simp
   simp only [go_sem,reduceIte,↓reduceIte,sevalprocAttr,Z0,Z1,bytesOf,List.length_map,d1]
   intro _
   exact ⟨rfl,rfl⟩
theorem eq_Ty (k n:Int) (s:List UInt8) (ks:List TyD) (hk:EqC 149 (.p (.l (TyD.cellsL ks)))):EqC 139 (av (TyD.cells (TyD.mk k n s ks))):=by
 intro H
 refine acall_drop1 ?_ (tf_p _)
 refine call139 (by simp) ?_
 simp only [go_sem,reduceIte,↓reduceIte,sevalprocAttr,Z0,Z1,bytesOf,mc139,mr139,TyD.cells]
 refine acall_pure (hk _) ?_
 simp only [go_sem,reduceIte,↓reduceIte,sevalprocAttr,Z0,Z1,bytesOf]
 exact ⟨_,rfl⟩
theorem eq_CtorInfo {c:InfoC} (ht:EqC 139 (av c.arg.cells)):EqC 110 (av (InfoC.cells (c))):=by
 intro H
 obtain ⟨cn,ch,⟨ak,an,as',aks⟩⟩:=c
 rw [av,TyD.cells] at ht
 simp only [List.map_cons,List.map_nil] at ht
 refine acall_drop1 ?_ (tf_p _)
 refine call110 (by simp) ?_
 simp only [go_sem,reduceIte,↓reduceIte,sevalprocAttr,Z0,Z1,bytesOf,mc110,mr110,InfoC.cells,TyD.cells]
 refine acall_pure (ht _) ?_
 simp only [go_sem,reduceIte,↓reduceIte,sevalprocAttr,Z0,Z1,bytesOf]
 exact ⟨_,rfl⟩
theorem eq_DataInfo {d:InfoD} (hc:EqC 73 (.p (.l (d.ctors.map InfoC.cells)))):EqC 37 (av (InfoD.cells (d))):=by
 intro H
 refine acall_drop1 ?_ (tf_p _)
 refine call37 (by simp) ?_
 simp only [go_sem,reduceIte,↓reduceIte,sevalprocAttr,Z0,Z1,bytesOf,mc37,mr37,InfoD.cells]
 refine acall_pure (hc _) ?_
 simp only [go_sem,reduceIte,↓reduceIte,sevalprocAttr,Z0,Z1,bytesOf]
 exact ⟨_,rfl⟩
mutual
theorem eqTyA:∀ t:TyD,EqC 139 (av t.cells)
 | .mk k n s ks=>eq_Ty k n s ks (by rw [TyD.cellsL_eq]; exact eqL_Ty (eqTyL ks))
theorem eqTyL : ∀ (l : List TyD), ∀ a ∈ l, EqC 139 (av a.cells)
  | [], a, h => by cases h
  | t :: l, a, h => by
    rcases List.mem_cons.1 h with h | h
    · rw [h]; exact eqTyA t
    · exact eqTyL l a h
end
theorem eqInfos (l:List InfoD):EqC 13 (.p (.l (l.map InfoD.cells))):=eqL_DataInfo fun d _=>eq_DataInfo (eqL_CtorInfo fun c _=>eq_CtorInfo (eqTyA c.arg))
end Go.Proofs.YtnelfbcgplooiaaGreat.Pg
/- Types, laid at places: objects, and that they are trees that are owned. -/
set_option linter.all false
namespace Go.Proofs.YtnelfbcgplooiaaGreat.Pg
open Go.AM Mc
mutual
def nP:TyD→Nat
 | .mk _ _ _ ks=>nK ks
def nK:List TyD→Nat
 | []=>0
 | t :: l=>1+(nP t+nR l)
def nR:List TyD→Nat
 | []=>0
 | t :: l=>nP t+nR l
end
mutual
def layT:TyD→List Nat→List AV × List AO
 | .mk K N S ks,ps=>([.p (.i .i64 K),.p (.i .i64 N),.p (.s S),(layK ks ps).1],(layK ks ps).2)
def layK:List TyD→List Nat→AV × List AO
 | [],_=>(.p .nl,[])
 | t :: l,[]=>(.p .nl,[])
 | t :: l,p :: ps=>(.gs p 0 0 (l.length+1),.rows 4 0 ((layT t (ps.take (nP t))).1 :: (layR l (ps.drop (nP t))).1) :: ((layT t (ps.take (nP t))).2++(layR l (ps.drop (nP t))).2))
def layR:List TyD→List Nat→List (List AV) × List AO
 | [],_=>([],[])
 | t :: l,ps=>((layT t (ps.take (nP t))).1 :: (layR l (ps.drop (nP t))).1,(layT t (ps.take (nP t))).2++(layR l (ps.drop (nP t))).2)
end
mutual
def tvT:TyD→List TV
 | .mk K N S ks=>[.p (.i .i64 K),.p (.i .i64 N),.p (.s S),.s 4 (tvR ks)]
def tvR:List TyD→List (List TV)
 | []=>[]
 | t :: l=>tvT t :: tvR l
end
theorem nK_cons (t l):nK (t :: l)=1+nR (t :: l):=by rw [nK,nR]
theorem nK_ne {l:List TyD} (h:l≠[]):nK l=1+nR l:=by cases l with | nil=>exact (h rfl).elim | cons t l=>exact nK_cons t l
theorem layK_ne {l:List TyD} (h:l≠[]) (p:Nat) (ps:List Nat):layK l (p :: ps)=(.gs p 0 0 l.length,.rows 4 0 (layR l ps).1 :: (layR l ps).2):=by
 cases l with
 | nil=>exact (h rfl).elim
 | cons t l=>rw [layK,layR,List.length_cons]
theorem layR_len (l:List TyD):∀ ps,(layR l ps).1.length=l.length:=by
 induction l with
 | nil=>intro ps; rw [layR]; rfl
 | cons t l ih=>intro ps; rw [layR]; simp [ih]
theorem layT_len (t:TyD) (ps):(layT t ps).1.length=4:=by obtain ⟨k,n,s,ks⟩:=t; rw [layT]; rfl
mutual
theorem layT_os:∀ (t:TyD) (ps:List Nat),ps.length=nP t→(layT t ps).2.length=nP t
 | .mk K N S ks,ps,h=>by rw [layT,nP] at *; exact layK_os ks ps h
theorem layK_os : ∀ (l : List TyD) (ps : List Nat), ps.length = nK l → (layK l ps).2.length = nK l
  | [], ps, h => by rw [layK, nK]; rfl
  | t :: l, [], h => by rw [nK] at h; simp at h; omega
  | t :: l, p :: ps, h => by
    rw [nK] at h ⊢
    have h1 := layT_os t (ps.take (nP t)) (by simp at h ⊢; omega)
    have h2 := layR_os l (ps.drop (nP t)) (by simp at h ⊢; omega)
    rw [layK]
    simp only [List.length_cons, List.length_append, h1, h2]
    omega
theorem layR_os : ∀ (l : List TyD) (ps : List Nat), nR l ≤ ps.length → (layR l ps).2.length = nR l
  | [], ps, h => by rw [layR, nR]; rfl
  | t :: l, ps, h => by
    rw [nR] at h ⊢
    have h1 := layT_os t (ps.take (nP t)) (by simp; omega)
    have h2 := layR_os l (ps.drop (nP t)) (by simp; omega)
    rw [layR]
    simp only [List.length_append, h1, h2]
end
theorem nR_app (l:List TyD) (t:TyD):nR (l++[t])=nR l+nP t:=by
 induction l with
 | nil=>simp [nR]
 | cons a l ih=>rw [List.cons_append,nR,ih,nR]; omega
theorem layR_app (t : TyD) : ∀ (l : List TyD) (ps : List Nat), nR l ≤ ps.length → layR (l ++ [t]) ps = ((layR l ps).1 ++ [(layT t ((ps.drop (nR l)).take (nP t))).1], (layR l ps).2 ++ (layT t ((ps.drop (nR l)).take (nP t))).2)
  | [], ps, h => by rw [List.nil_append, layR, layR, layR, nR]; simp
  | a :: l, ps, h => by
    rw [nR] at h
    have ih := layR_app t l (ps.drop (nP a)) (by simp; omega)
    rw [List.cons_append, layR, ih, layR, nR, List.drop_drop]
    simp only [List.cons_append, List.append_assoc]
mutual
theorem layT_own : ∀ (t : TyD) (ps : List Nat) (H : List AO), ps.length = nP t → (∀ (k p : Nat) o, ps[k]? = some p → (layT t ps).2[k]? = some o → H[p]? = some o) → OwnCs H (tvT t) (layT t ps).1 ps
  | .mk K N S ks, ps, H, h, hg => by
    rw [nP] at h
    rw [tvT, layT] at *
    exact OwnCs.pc (OwnCs.pc (OwnCs.pc (OwnCs.one (layK_own ks ps H h hg))))
theorem layK_own : ∀ (l : List TyD) (ps : List Nat) (H : List AO), ps.length = nK l → (∀ (k p : Nat) o, ps[k]? = some p → (layK l ps).2[k]? = some o → H[p]? = some o) → Own H (.s 4 (tvR l)) (layK l ps).1 ps
  | [], ps, H, h, hg => by
    rw [nK] at h
    rw [List.length_eq_zero_iff.1 h, tvR, layK]
    exact Own.nl _ _
  | t :: l, [], H, h, hg => by rw [nK] at h; simp at h; omega
  | t :: l, p :: ps, H, h, hg => by
    have hne : t :: l ≠ [] := by simp
    rw [nK_cons] at h
    rw [layK_ne hne] at *
    have h1 := hg 0 p _ rfl rfl
    have := layR_own (t :: l) ps H (by simp at h; omega) fun k q o hk ho => hg (k + 1) q o (by simpa using hk) (by simpa using ho)
    rw [Own]
    exact .inr ⟨p, 0, (layR (t :: l) ps).1, ps, by rw [layR_len], rfl, h1, this⟩
theorem layR_own : ∀ (l : List TyD) (ps : List Nat) (H : List AO), ps.length = nR l → (∀ (k p : Nat) o, ps[k]? = some p → (layR l ps).2[k]? = some o → H[p]? = some o) → OwnRs H 4 (tvR l) (layR l ps).1 ps
  | [], ps, H, h, hg => by
    rw [nR] at h
    rw [List.length_eq_zero_iff.1 h, tvR, layR, OwnRs]
    exact ⟨rfl, rfl⟩
  | t :: l, ps, H, h, hg => by
    rw [nR] at h
    have hl := layT_os t (ps.take (nP t)) (by simp; omega)
    have h1 := layT_own t (ps.take (nP t)) H (by simp; omega) fun k p o hk ho => by
      have hkl := (List.getElem?_eq_some_iff.1 ho).1
      rw [hl] at hkl
      rw [List.getElem?_take, if_pos hkl] at hk
      exact hg k p o hk (by rw [layR]; exact get_ext ho _)
    have h2 := layR_own l (ps.drop (nP t)) H (by simp; omega) fun k p o hk ho => by
      rw [List.getElem?_drop] at hk
      refine hg _ p o hk ?_
      rw [layR]
      simp only
      rw [List.getElem?_append_right (by omega), hl, Nat.add_sub_cancel_left]
      exact ho
    rw [tvR, layR, OwnRs]
    exact ⟨_, _, _, _, rfl, (List.take_append_drop _ _).symm, layT_len _ _, h1, h2⟩
end
def LowO (n:Nat) (o:AO):Prop:=∀ c,InO c o→Lw n c
mutual
theorem layT_low (n : Nat) : ∀ (t : TyD) (ps : List Nat), (∀ p ∈ ps, p < n) → (∀ c ∈ (layT t ps).1, Lw n c) ∧ ∀ o ∈ (layT t ps).2, LowO n o
  | .mk K N S ks, ps, h => by
    rw [layT]
    obtain ⟨h1, h2⟩ := layK_low n ks ps h
    refine ⟨fun c hc => ?_, h2⟩
    simp only [List.mem_cons, List.not_mem_nil, or_false] at hc
    rcases hc with rfl | rfl | rfl | rfl
    · exact lw_tf (tf_p _)
    · exact lw_tf (tf_p _)
    · exact lw_tf (tf_p _)
    · exact h1
theorem layK_low (n : Nat) : ∀ (l : List TyD) (ps : List Nat), (∀ p ∈ ps, p < n) → Lw n (layK l ps).1 ∧ ∀ o ∈ (layK l ps).2, LowO n o
  | [], ps, h => by rw [layK]; exact ⟨lw_tf (tf_p _), fun o ho => by cases ho⟩
  | t :: l, [], h => by rw [layK]; exact ⟨lw_tf (tf_p _), fun o ho => by cases ho⟩
  | t :: l, p :: ps, h => by
    obtain ⟨h1, h2⟩ := layT_low n t (ps.take (nP t)) fun q hq => h q (by simp [List.mem_of_mem_take hq])
    obtain ⟨h3, h4⟩ := layR_low n l (ps.drop (nP t)) fun q hq => h q (by simp [List.mem_of_mem_drop hq])
    rw [layK]
    refine ⟨lw_gs (h p (by simp)), fun o ho => ?_⟩
    rcases List.mem_cons.1 ho with rfl | ho
    · rintro c ⟨r, hr, hc⟩
      rcases List.mem_cons.1 hr with rfl | hr
      · exact h1 c hc
      · exact h3 r hr c hc
    · rcases List.mem_append.1 ho with ho | ho
      · exact h2 o ho
      · exact h4 o ho
theorem layR_low (n : Nat) : ∀ (l : List TyD) (ps : List Nat), (∀ p ∈ ps, p < n) → (∀ r ∈ (layR l ps).1, ∀ c ∈ r, Lw n c) ∧ ∀ o ∈ (layR l ps).2, LowO n o
  | [], ps, h => by rw [layR]; exact ⟨fun r hr => by (cases hr), fun o ho => by (cases ho)⟩
  | t :: l, ps, h => by
    obtain ⟨h1, h2⟩ := layT_low n t (ps.take (nP t)) fun q hq => h q (List.mem_of_mem_take hq)
    obtain ⟨h3, h4⟩ := layR_low n l (ps.drop (nP t)) fun q hq => h q (List.mem_of_mem_drop hq)
    rw [layR]
    refine ⟨fun r hr => ?_, fun o ho => ?_⟩
    · rcases List.mem_cons.1 hr with rfl | hr
      · exact h1
      · exact h3 r hr
    · rcases List.mem_append.1 ho with ho | ho
      · exact h2 o ho
      · exact h4 o ho
end
theorem setL_inv : ∀ (ps : List Nat) (os : List AO) (H : List AO) (i : Nat) (o : AO), (setL H ps os)[i]? = some o → o ∈ os ∨ H[i]? = some o
  | [], os, H, i, o, h => by rw [setL_e] at h; exact .inr h
  | p :: ps, [], H, i, o, h => .inr h
  | p :: ps, o' :: os, H, i, o, h => by
    rw [setL] at h
    rcases setL_inv ps os _ i o h with h | h
    · exact .inl (by simp [h])
    · by_cases e : p = i
      · subst e
        have hl := get_lt h
        rw [List.getElem?_set_self (by simpa using hl)] at h
        cases h
        exact .inl (by simp)
      · rw [List.getElem?_set_ne e] at h
        exact .inr h
theorem drop_notin {ps:List Nat} {n p:Nat} (hn:ps.Nodup) (h:p∈ps.drop n):p ∉ ps.take n:=by
 intro h2
 rw [← List.take_append_drop n ps] at hn
 exact (List.nodup_append.1 hn).2.2 p h2 p h rfl
theorem setL_rest {ps:List Nat} {os:List AO} {H:List AO} {n p:Nat} (hn:ps.Nodup) (hl:os.length≤n) (h:p∈ps.drop n):(setL H ps os)[p]?=H[p]?:=by
 rw [← setL_take ps os H n hl]
 exact setL_ne _ _ _ _ (drop_notin hn h)
theorem setL_dead (ps:List Nat) (H:List AO) (i:Nat) (o:AO) (hi:i∈ps) (h:(setL H ps (ps.map fun _=>.dead))[i]?=some o) (hn:ps.Nodup) (hl:∀ p∈ps,p<H.length):o=.dead:=by
 obtain ⟨k,hk⟩:=List.mem_iff_getElem?.1 hi
 have:=setL_get ps (ps.map fun _=>AO.dead) H k i .dead hn hl hk (by simp [hk])
 rw [this] at h; cases h; rfl
theorem hext_dl {H:List AO} {j:Nat} {o:AO} {ps:List Nat} {os:List AO} (hn:ps.Nodup) (hl:∀ p∈ps,p<H.length):Hext (setL (H.set j .dead) ps (ps.map fun _=>.dead)) (setL (H.set j o) ps os):=by
 intro i o' hi hnd
 by_cases h:i∈ps
 ·exact (hnd (setL_dead ps _ i o' h hi hn (fun p hp=>by simpa using hl p hp))).elim
 ·rw [setL_ne _ _ _ _ h] at hi ⊢
  exact hext_dead _ _ _ _ _ hi hnd
theorem hext_dl0 {H:List AO} {j:Nat} {ps:List Nat} (hn:ps.Nodup) (hl:∀ p∈ps,p<H.length):Hext (setL (H.set j .dead) ps (ps.map fun _=>.dead)) H:=by
 intro i o' hi hnd
 by_cases h:i∈ps
 ·exact (hnd (setL_dead ps _ i o' h hi hn (fun p hp=>by simpa using hl p hp))).elim
 ·rw [setL_ne _ _ _ _ h] at hi
  exact hext_dead0 _ _ _ _ hi hnd
end Go.Proofs.YtnelfbcgplooiaaGreat.Pg
/- The program's maker of tables: types, at places. -/
set_option linter.all false
namespace Go.Proofs.YtnelfbcgplooiaaGreat.Pg
open Go.AM Mc
def TyP (d:DataD) (x:TyE):Prop:=∀ (g:ProgD) (a:AV) (f:Ft) (H:List AO) (j:Nat) (ps:List Nat),Fz f→H[j]?=some (tmO g a f)→ps.Nodup→ps.length=nP (x.ty d.vars)→(∀ p∈ps,H[p]?=some .rsv) →
 ACall Tryz.prog 72 [.ptr j 0,av d.cells,av x.cells] H (pureQ (.st (layT (x.ty d.vars) ps).1) (setL (H.set j (tmO g a (firstF f (x.ft g.types d.vars)))) ps (layT (x.ty d.vars) ps).2))
def RawP (lo:Nat) (K N:Int) (S:List UInt8) (kids:List TyD) (ps:List Nat) (r:AV) (H':List AO):Prop :=
 ∃ kv,r=.st [.p (.i .i64 K),.p (.i .i64 N),.p (.s S),kv]∧OwnAt H' kv 4 (layR kids ps).1 lo H'.length∧(kids=[]→kv=.p .nl)
theorem nR_le (l : List TyD) : ∀ x, nR (l.take x) ≤ nR l := by
  induction l with
  | nil => intro x; simp
  | cons t l ih =>
    intro x
    cases x with
    | zero => rw [List.take_zero, nR]; omega
    | succ x => rw [List.take_succ_cons, nR, nR]; have := ih x; omega
theorem tyTailP {d:DataD} {n:List UInt8} {k p:Int} {ks:List TyE} (hs:ks.length≤1048576) (hk:∀ x∈ks,TyP d x) {ps:List Nat} (hps:ps.Nodup) (hpl:ps.length=nR (TyE.tyL d.vars ks)) {g:ProgD} {a:AV} {H0:List AO} {j b:Nat} {L:En} {HX:List AO} {K:Int} {S:List UInt8} {f1:Ft}
  (h0:eget L 0=.ptr j 0) (h4:eget L 4=.ptr b 0) (h5:eget L 5=.ptr (b+1) 0) (h6:eget L 6=.ptr (b+2) 0) (h7:eget L 7=.ptr (b+3) 0) (hb:H0.length≤b) (hj:j<H0.length) (hf:Fz f1) (hpr:∀ p∈ps,H0[p]?=some .rsv) (hpj:j ∉ ps)
  (hX:∃ G,HX=H0.set j (tmO g a f1)++G) (e4:HX[b]?=some (.var (d.cells.map .p))) (e5:HX[b+1]?=some (.var ((TyE.cells (.mk k n p ks)).map .p)))
  (e6:HX[b+2]?=some (.var [.p (.i .i64 0),.p (.i .i64 0),.p (.s []),.p .nl])) (e7:HX[b+3]?=some (.var [.p (.i .i64 K),.p (.i .i64 0),.p (.s S),.p .nl])) :
  wpm (ACall Tryz.prog) mc72t (finK mr72 fun r H'=>RawP H0.length K 0 S (TyE.tyL d.vars ks) ps r H'∧∃ G,H'=setL (H0.set j (tmO g a (firstF f1 (TyE.ftL g.types d.vars ks)))) ps (layR (TyE.tyL d.vars ks) ps).2++G) ⟨L,[],HX⟩:=by
 obtain ⟨dn,vs,cs,dp⟩:=d
 have e5':HX[b+1]?=some (.var [.p (.i .i64 k),.p (.s n),.p (.i .i64 p),.p (.l (TyE.cellsL ks))]):=e5
 rw [TyE.cellsL_eq] at e5'
 simp only [go_sem,reduceIte,↓reduceIte,sevalprocAttr,Z0,Z1,bytesOf,mc72t,mr72,h5,e5',eget_same,eget_ne,List.length_map]
 intro hl
 refine ⟨Nat × AV × List AO,[0,4,5,6,7,69,70,71],fun x st=>st.T=[]∧st.H=x.2.2∧eget st.L 0=.ptr j 0∧eget st.L 4=.ptr b 0∧eget st.L 5=.ptr (b+1) 0∧eget st.L 6=.ptr (b+2) 0∧eget st.L 7=.ptr (b+3) 0∧eget st.L 69=.p (.l (ks.map TyE.cells))∧eget st.L 70=.p (.i .i64 ks.length)∧eget st.L 71=.p (.i .i64 x.1) ∧
  x.1≤ks.length∧(∃ G,x.2.2=setL (H0.set j (tmO g a (firstF f1 (TyE.ftL g.types vs (ks.take x.1))))) ps (layR ((ks.take x.1).map (TyE.ty vs)) ps).2++G)∧x.2.2[b]?=some (.var (DataD.cells ⟨dn,vs,cs,dp⟩ |>.map .p))∧x.2.2[b+2]?=some (.var [.p (.i .i64 0),.p (.i .i64 0),.p (.s []),.p .nl])∧x.2.2[b+3]?=some (.var [.p (.i .i64 K),.p (.i .i64 0),.p (.s S),x.2.1]) ∧
  OwnAt x.2.2 x.2.1 4 (layR ((ks.take x.1).map (TyE.ty vs)) ps).1 H0.length x.2.2.length∧(x.1=0→x.2.1=.p .nl),fun x=>ks.length - x.1,⟨(0,.p .nl,HX),?_⟩,?_⟩
 ·simp only [go_sem,reduceIte,↓reduceIte,sevalprocAttr,Z0,Z1,bytesOf,eget_keep,eget_same,eget_ne,h0,h4,h5,h6,h7,e4,e6,e7]
  exact ⟨Nat.zero_le _,by rw [layR,setL_nil,TyE.ftL,firstF_r hf]; exact hX,.inl ⟨rfl,by rw [layR]⟩,fun _=>trivial⟩
 ·rintro ⟨x,kv,HG⟩ st ⟨hT,hH,q0,q4,q5,q6,q7,q69,q70,q71,hx,⟨G,hG⟩,g4,g6,g7,hown,hnl⟩
  obtain ⟨SL,ST,SH⟩:=st
  simp only at hT hH q0 q4 q5 q6 q7 q69 q70 q71 hx hG g4 g6 g7 hown hnl
  subst hT hH
  by_cases hlt:x<ks.length
  ·have d1:decide ((x:Int)<(ks.length:Int))=true:=by simp; omega
   have hlt':((x:Int)<(ks.length:Int)):=by omega
   have ex:=wrN x (by omega)
   have hg:(ks.map TyE.cells)[x]?=some (TyE.cells ks[x]):=by simp [hlt]
   have hcall:=hk ks[x] (List.getElem_mem hlt)
   have hft:=ftL_step (types:=g.types) (vs:=vs) hlt
   have hty:(ks.take (x+1)).map (TyE.ty vs)=(ks.take x).map (TyE.ty vs)++[ks[x].ty vs]:=by
    rw [List.take_succ,List.getElem?_eq_getElem hlt,List.map_append]; rfl
   have hn1:nR ((ks.take x).map (TyE.ty vs))+nP (ks[x].ty vs)≤ps.length:=by
    rw [← nR_app,← hty,List.map_take,hpl,TyE.tyL_eq]
    exact nR_le _ _
   generalize ks[x]=c at hg hcall hft hty hn1
   obtain ⟨ck,cn,cp,cks⟩:=c
   simp only [go_sem,reduceIte,↓reduceIte,sevalprocAttr,Z0,Z1,bytesOf,q71,q70,q69,d1,hlt',hg,eget_same,eget_ne,TyE.cells,List.length_map]
   have hjb:j≠b:=by omega
   have hjb3:j≠b+3:=by omega
   have hos:=layR_os ((ks.take x).map (TyE.ty vs)) ps (by omega)
   have hSl:SH.length=H0.length+G.length:=by rw [hG,List.length_append,setL_len,List.length_set]
   have hjS:SH[j]?=some (tmO g a (firstF f1 (TyE.ftL g.types vs (ks.take x)))):=by rw [hG,List.getElem?_append_left (by rw [setL_len]; simpa using hj),setL_ne _ _ _ _ hpj,List.getElem?_set_self hj]
   have hCj:∀ A,(SH++A)[j]?=_:=fun A=>get_ext hjS A
   have g4':SH[b]?=some (.var [.p (.s dn),.p (.l (namesC vs)),.p (.l (cs.map CtorD.cells)),.p (.i .i64 dp)]):=g4
   have hcl:=fun A qs h1 h2 h3=>hcall g a _ ((SH++[AO.var [.p (.i .i64 ck),.p (.s cn),.p (.i .i64 cp),.p (.l (TyE.cellsL cks))]])++A) j qs (firstF_zz hf (TyE.ftL_z _ _ _)) (get_ext (hCj _) A) h1 h2 h3
   dsimp only at hcl
   rw [firstF_assoc,← hft] at hcl
   generalize TyE.ty vs (.mk ck cn cp cks)=tc at hcl hty hn1
   have hqs:((ps.drop (nR ((ks.take x).map (TyE.ty vs)))).take (nP tc)).Nodup:=((List.take_sublist _ _).trans (List.drop_sublist _ _)).nodup hps
   have hql:((ps.drop (nR ((ks.take x).map (TyE.ty vs)))).take (nP tc)).length=nP tc:=by rw [List.length_take,List.length_drop]; omega
   have hqd:∀ q∈(ps.drop (nR ((ks.take x).map (TyE.ty vs)))).take (nP tc),q∈ps.drop (nR ((ks.take x).map (TyE.ty vs))):=fun q hq=>List.mem_of_mem_take hq
   have hqp:∀ q∈(ps.drop (nR ((ks.take x).map (TyE.ty vs)))).take (nP tc),q∈ps:=fun q hq=>List.mem_of_mem_drop (hqd q hq)
   have hlr:layR ((ks.take (x+1)).map (TyE.ty vs)) ps=((layR ((ks.take x).map (TyE.ty vs)) ps).1++[(layT tc ((ps.drop (nR ((ks.take x).map (TyE.ty vs)))).take (nP tc))).1],(layR ((ks.take x).map (TyE.ty vs)) ps).2++(layT tc ((ps.drop (nR ((ks.take x).map (TyE.ty vs)))).take (nP tc))).2):=by
    rw [hty,layR_app _ _ _ (by omega)]
   have hot:=layT_os tc _ hql
   have hcat:∀ X,setL X ps ((layR ((ks.take x).map (TyE.ty vs)) ps).2++(layT tc ((ps.drop (nR ((ks.take x).map (TyE.ty vs)))).take (nP tc))).2)=setL (setL X ps (layR ((ks.take x).map (TyE.ty vs)) ps).2) ((ps.drop (nR ((ks.take x).map (TyE.ty vs)))).take (nP tc)) (layT tc ((ps.drop (nR ((ks.take x).map (TyE.ty vs)))).take (nP tc))).2:=fun X=>by
    rw [setL_cat,hos,setL_take _ (layT tc _).2 _ (nP tc) (by omega)]
   generalize (ps.drop (nR ((ks.take x).map (TyE.ty vs)))).take (nP tc)=qs at hqs hql hqd hqp hlr hot hcat
   have hqH:∀ q∈qs,q<H0.length:=fun q hq=>get_lt (hpr q (hqp q hq))
   have hqr:∀ q∈qs,SH[q]?=some .rsv:=fun q hq=>by
    have hjq:j≠q:=fun e=>hpj (e ▸ hqp q hq)
    rw [hG,List.getElem?_append_left (by rw [setL_len,List.length_set]; exact hqH q hq),setL_rest hps (by omega) (hqd q hq),List.getElem?_set_ne hjq]
    exact hpr q (hqp q hq)
   have hqb:∀ i,H0.length≤i→i ∉ qs:=fun i hi hm=>by have:=hqH i hm; omega
   obtain ⟨tk,tn,tS,tks⟩:=tc
   have hlt4:layT (.mk tk tn tS tks) qs=([.p (.i .i64 tk),.p (.i .i64 tn),.p (.s tS),(layK tks qs).1],(layK tks qs).2):=by rw [layT]
   rw [hlt4] at hlr hot hcat
   replace hcl:=fun A h3=>hcl A qs hqs hql h3
   rw [hlt4] at hcl
   simp only at hlr hot hcat hcl
   generalize (layK tks qs).1=kc at hlr hcl
   generalize (layK tks qs).2=oc at hlr hot hcat hcl
   have hqS:∀ q∈qs,q<(SH++[AO.var [.p (.i .i64 ck),.p (.s cn),.p (.i .i64 cp),.p (.l (TyE.cellsL cks))]]).length:=fun q hq=>by have:=hqH q hq; simp; omega
   have hne:∀ (o:AO) os i,H0.length≤i→(setL ((SH++[AO.var [.p (.i .i64 ck),.p (.s cn),.p (.i .i64 cp),.p (.l (TyE.cellsL cks))]]).set j o) qs os)[i]?=(SH++[AO.var [.p (.i .i64 ck),.p (.s cn),.p (.i .i64 cp),.p (.l (TyE.cellsL cks))]])[i]?:=fun o os i hi=>by
    rw [setL_ne _ _ _ _ (hqb i hi),List.getElem?_set_ne (by omega)]
   have x4:=(hne .dead (qs.map fun _=>.dead) b hb).trans (get_ext g4' _)
   have x7:=(hne .dead (qs.map fun _=>.dead) (b+3) (by omega)).trans (get_ext g7 _)
   have xc:=(hne .dead (qs.map fun _=>.dead) SH.length (by omega)).trans (show (SH++[AO.var [.p (.i .i64 ck),.p (.s cn),.p (.i .i64 cp),.p (.l (TyE.cellsL cks))]])[SH.length]?=some (AO.var [.p (.i .i64 ck),.p (.s cn),.p (.i .i64 cp),.p (.l (TyE.cellsL cks))]) from get_off0 _ _)
   refine ⟨setL ((SH++[AO.var [.p (.i .i64 ck),.p (.s cn),.p (.i .i64 cp),.p (.l (TyE.cellsL cks))]]).set j .dead) qs (qs.map fun _=>.dead),hext_dl0 hqs hqS,?_⟩
   simp only [go_sem,reduceIte,↓reduceIte,sevalprocAttr,Z0,Z1,bytesOf,q7,q0,q4,x7,x4,xc,eget_same,eget_ne]
   refine pcall_chain _ (setL ((SH++[AO.var [.p (.i .i64 ck),.p (.s cn),.p (.i .i64 cp),.p (.l (TyE.cellsL cks))]]).set j (tmO g a (firstF f1 (TyE.ftL g.types vs (ks.take (x+1)))))) qs oc) (by rw [setL_len]; simp) (hext_dl hqs hqS) (fun A=>by
    have:=hcl A fun q hq=>get_ext (get_ext (hqr q hq) _) A
    rw [set_app (by simp; omega),setL_app _ _ _ _ (fun q hq=>by simpa using hqS q hq)] at this
    exact this) ?_
   have hSn:∃ G,setL ((SH++[AO.var [.p (.i .i64 ck),.p (.s cn),.p (.i .i64 cp),.p (.l (TyE.cellsL cks))]]).set j (tmO g a (firstF f1 (TyE.ftL g.types vs (ks.take (x+1)))))) qs oc=setL (H0.set j (tmO g a (firstF f1 (TyE.ftL g.types vs (ks.take (x+1)))))) ps ((layR ((ks.take x).map (TyE.ty vs)) ps).2++oc)++G:=by
    rw [hcat,hG,List.append_assoc,set_app (by rw [setL_len]; simpa using hj),setL_set _ _ _ _ _ hpj,List.set_set,setL_app _ _ _ _ (fun q hq=>by rw [setL_len,List.length_set]; exact hqH q hq)]
    exact ⟨_,rfl⟩
   have y4:=(hne (tmO g a (firstF f1 (TyE.ftL g.types vs (ks.take (x+1))))) oc b hb).trans (get_ext g4 _)
   have y6:=(hne (tmO g a (firstF f1 (TyE.ftL g.types vs (ks.take (x+1))))) oc (b+2) (by omega)).trans (get_ext g6 _)
   have y7:=(hne (tmO g a (firstF f1 (TyE.ftL g.types vs (ks.take (x+1))))) oc (b+3) (by omega)).trans (get_ext g7 _)
   have yo:OwnAt (setL ((SH++[AO.var [.p (.i .i64 ck),.p (.s cn),.p (.i .i64 cp),.p (.l (TyE.cellsL cks))]]).set j (tmO g a (firstF f1 (TyE.ftL g.types vs (ks.take (x+1)))))) qs oc) kv 4 (layR ((ks.take x).map (TyE.ty vs)) ps).1 H0.length SH.length :=
    ownAt_keep (hown.ext [AO.var [.p (.i .i64 ck),.p (.s cn),.p (.i .i64 cp),.p (.l (TyE.cellsL cks))]]) (fun id v q n e o ho=>by
     have:H0.length≤id:=Nat.le_of_not_lt fun hlt=>own_lo hown hlt _ _ _ e
     rw [hne _ _ _ this]; exact ho) (Nat.le_refl _)
   have yl:(setL ((SH++[AO.var [.p (.i .i64 ck),.p (.s cn),.p (.i .i64 cp),.p (.l (TyE.cellsL cks))]]).set j (tmO g a (firstF f1 (TyE.ftL g.types vs (ks.take (x+1)))))) qs oc).length=SH.length+1:=by rw [setL_len]; simp
   generalize setL ((SH++[AO.var [.p (.i .i64 ck),.p (.s cn),.p (.i .i64 cp),.p (.l (TyE.cellsL cks))]]).set j (tmO g a (firstF f1 (TyE.ftL g.types vs (ks.take (x+1)))))) qs oc=H1 at hSn y4 y6 y7 yo yl ⊢
   simp only [go_sem,reduceIte,↓reduceIte,sevalprocAttr,Z0,Z1,bytesOf,TyD.cells]
   refine ⟨by intro r hr; simp at hr; subst hr; rfl,?_⟩
   have yo2:=yo.ext [AO.rows 4 0 [[.p (.i .i64 tk),.p (.i .i64 tn),.p (.s tS),kc]]]
   have hrl:(layR ((ks.take x).map (TyE.ty vs)) ps).1.length=x:=by rw [layR_len]; simp; omega
   refine app_fr yo2.own (by rw [hrl]; simp; omega) (by rw [hrl]; simp; omega) ?_
   intro id ver H2 hid hside hkeep hlen
   have z4:=hkeep _ _ (get_ext y4 _) (own_ne yo2 (get_ext y4 _))
   have z6:=hkeep _ _ (get_ext y6 _) (own_ne yo2 (get_ext y6 _))
   have z7:=hkeep _ _ (get_ext y7 _) (own_ne yo2 (get_ext y7 _))
   have zp:∃ G,H2=setL (H0.set j (tmO g a (firstF f1 (TyE.ftL g.types vs (ks.take (x+1)))))) ps ((layR ((ks.take x).map (TyE.ty vs)) ps).2++oc)++G:=by
    obtain ⟨G2,hG2⟩:=hSn
    refine pre_of fun i o hi=>hkeep i o (by rw [hG2]; exact get_ext (get_ext hi _) _) (own_lo yo2 ?_)
    have:=get_lt hi
    rw [setL_len] at this
    simpa using this
   simp only [go_sem,reduceIte,↓reduceIte,sevalprocAttr,Z0,Z1,bytesOf,q7,z7,q71,ex,eget_keep,eget_same,eget_ne,q0,q4,q5,q6,q69,q70]
   have hyb:H0.length≤b+3:=by omega
   refine ⟨(x+1,_,_),⟨rfl,rfl,by simp only; omega,by simp only [hlr]; exact set_far2 zp (by rw [setL_len]; simpa using hyb) _,get_set z4 (by omega),get_set z6 (by omega),set_get z7,?_,fun h=>by simp at h⟩,by simp only; omega⟩
   rw [hlr]
   have hne':b+3≠id:=by rintro rfl; rw [hid] at z7; cases z7
   have hidl:=get_lt hid
   refine .inr ⟨id,ver,?_,by simpa using hidl,by simp,get_set hid hne'⟩
   rcases hside with ⟨v,o,n',hkv⟩ | h
   ·apply Classical.byContradiction
    intro hlt2
    exact own_lo yo2 (by omega) _ _ _ hkv
   ·simp [yl,hSl] at h; omega
  ·have:x=ks.length:=by omega
   subst this
   have d1:decide ((ks.length:Int)<(ks.length:Int))=false:=by simp
   rw [List.take_length] at hG hown
   simp only [go_sem,reduceIte,↓reduceIte,sevalprocAttr,Z0,Z1,bytesOf,q71,q70,d1,eget_same,eget_ne,q7,g7,q6,g6]
   rw [set_get g6]
   simp only [go_sem,reduceIte,↓reduceIte,sevalprocAttr,Z0,Z1,bytesOf]
   rw [TyE.tyL_eq]
   refine ⟨⟨kv,rfl,?_,fun h=>hnl (by simpa using h)⟩,set_far ⟨_,hG⟩ (by rw [setL_len]; simp; omega) _⟩
   rw [List.length_set]
   exact own_setVar hown g6
end Go.Proofs.YtnelfbcgplooiaaGreat.Pg
/- The program's maker of tables: types, at places (2). -/
set_option linter.all false
namespace Go.Proofs.YtnelfbcgplooiaaGreat.Pg
open Go.AM Mc
theorem rawP_pure {f : Nat} {args : List AV} {H : List AO} {j : Nat} {o o' : AO} {K N : Int} {S : List UInt8} {kids : List TyD} {ps : List Nat} (hj : H[j]? = some o) (hc : ∀ c, InO c o' → Tf c ∨ InO c o) (hjp : j ∉ ps) (hn : ps.Nodup) (hl : ps.length = nK kids) (hr : ∀ p ∈ ps, H[p]? = some .rsv)
    (h : ACall Tryz.prog f args H (fun r H' => RawP H.length K N S kids (ps.drop 1) r H' ∧ ∃ G, H' = setL (H.set j o') (ps.drop 1) (layR kids (ps.drop 1)).2 ++ G)) :
    ACall Tryz.prog f args H (pureQ (.st (layT (.mk K N S kids) ps).1) (setL (H.set j o') ps (layT (.mk K N S kids) ps).2)) := by
  have hpl : ∀ p ∈ ps, p < H.length := fun p hp => get_lt (hr p hp)
  by_cases hk : kids = []
  · subst hk
    rw [nK] at hl
    have : ps = [] := List.length_eq_zero_iff.1 hl
    subst this
    rw [layT, layK, setL_nil]
    refine acall_drop_set (h.mono ?_) hj hc (tf_st _ fun c hc => ?_)
    · rintro r H' ⟨⟨kv, rfl, _, hnl⟩, G, hG⟩
      rw [hnl rfl]
      exact ⟨rfl, G, by rw [hG, List.drop_nil, setL_e]⟩
    · simp only [List.mem_cons, List.not_mem_nil, or_false] at hc
      rcases hc with rfl | rfl | rfl | rfl <;> exact tf_p _
  · match ps, hl with
    | [], hl => rw [nK_ne hk] at hl; simp at hl; omega
    | p :: qs, hl =>
      rw [List.drop_succ_cons, List.drop_zero] at h
      have hnq := (List.nodup_cons.1 hn)
      have hjq : j ∉ qs := fun h => hjp (by simp [h])
      have hpj : j ≠ p := fun e => hjp (by simp [e])
      have hxl : ∀ os, (setL (H.set j o') qs os).length = H.length := fun os => by rw [setL_len]; simp
      rw [layT, layK_ne hk]
      simp only []
      refine acall_cut ?_ (by rw [setL_len]; simp) ?_ ?_
      · refine acall_move h (hr p (by simp)) ?_
        rintro r H' ⟨⟨kv, rfl, ho, _⟩, G, rfl⟩
        rcases ho with ⟨_, ho⟩ | ⟨id, ver, h0, h1, rfl, h2⟩
        · exfalso
          have := layR_len kids qs
          rw [ho] at this
          exact hk (List.length_eq_zero_iff.1 this.symm)
        · rw [layR_len] at *
          refine ⟨id, ver, 4, _, _, h0, ?_, h2, mv_st (l' := [.p (.i .i64 K), .p (.i .i64 N), .p (.s S), .gs p 0 0 kids.length]) rfl ?_, rfl, ?_⟩
          · rw [List.getElem?_append_left (by rw [hxl]; exact hpl p (by simp)), setL_ne _ _ _ _ hnq.1, List.getElem?_set_ne hpj]
            exact hr p (by simp)
          · intro i x y hx hy
            match i with
            | 0 => cases hx; cases hy; exact mv_noid (noid_p _)
            | 1 => cases hx; cases hy; exact mv_noid (noid_p _)
            | 2 => cases hx; cases hy; exact mv_noid (noid_p _)
            | 3 => cases hx; cases hy; exact mv_gs
            | i + 4 => simp at hx
          · rw [setL, set_app (by rw [hxl]; exact hpl p (by simp)), setL_set _ _ _ _ _ hnq.1]
            exact set_far ⟨_, rfl⟩ (by rw [setL_len]; simpa using h0) _
      · refine lw_st fun c hc => ?_
        simp only [List.mem_cons, List.not_mem_nil, or_false] at hc
        rcases hc with rfl | rfl | rfl | rfl
        · exact lw_tf (tf_p _)
        · exact lw_tf (tf_p _)
        · exact lw_tf (tf_p _)
        · exact lw_gs (hpl p (by simp))
      · intro i oi hi c hci
        obtain ⟨l1, l2⟩ := layR_low H.length kids qs fun q hq => hpl q (by simp [hq])
        rcases setL_inv _ _ _ _ _ hi with h3 | h3
        · rcases List.mem_cons.1 h3 with rfl | h3
          · obtain ⟨r, hr', hcr⟩ := hci
            exact .inl (l1 r hr' c hcr)
          · exact .inl (l2 _ h3 c hci)
        · by_cases e : j = i
          · subst e
            rw [set_get hj] at h3; cases h3
            rcases hc c hci with h4 | h4
            · exact .inl (lw_tf h4)
            · exact .inr ⟨_, _, hj, h4⟩
          · rw [List.getElem?_set_ne e] at h3
            exact .inr ⟨_, _, h3, hci⟩
abbrev RawTP (lo:Nat) (t:TyD) (ps:List Nat) (r:AV) (H' X:List AO):Prop :=
 match t with
 | .mk K N S kids=>RawP lo K N S kids (ps.drop 1) r H'∧∃ G,H'=setL X (ps.drop 1) (layR kids (ps.drop 1)).2++G
theorem leafP {lo:Nat} {K N:Int} {S:List UInt8} {ps:List Nat} {H' X:List AO} (h:∃ G,H'=X++G):RawTP lo (.mk K N S []) ps (.st [.p (.i .i64 K),.p (.i .i64 N),.p (.s S),.p .nl]) H' X :=
 ⟨⟨_,rfl,.inl ⟨rfl,by rw [layR]⟩,fun _=>rfl⟩,by rw [layR,setL_nil]; exact h⟩
theorem rawT_pure {f:Nat} {args:List AV} {H:List AO} {j:Nat} {o o':AO} {t:TyD} {ps:List Nat} (hj:H[j]?=some o) (hc:∀ c,InO c o'→Tf c∨InO c o) (hjp:j ∉ ps) (hn:ps.Nodup) (hl:ps.length=nP t) (hr:∀ p∈ps,H[p]?=some .rsv)
  (h:ACall Tryz.prog f args H (fun r H'=>RawTP H.length t ps r H' (H.set j o'))):ACall Tryz.prog f args H (pureQ (.st (layT t ps).1) (setL (H.set j o') ps (layT t ps).2)):=by
 obtain ⟨K,N,S,kids⟩:=t
 rw [nP] at hl
 exact rawP_pure hj hc hjp hn hl hr h
theorem nK_drop {l:List TyD} {ps:List Nat} (h:ps.length=nK l):(ps.drop 1).length=nR l:=by
 cases l with
 | nil=>rw [nK] at h; rw [List.length_eq_zero_iff.1 h,nR]; rfl
 | cons t l=>rw [nK_cons] at h; rw [List.length_drop]; omega
theorem ty_TP (d:DataD) (k:Int) (n:List UInt8) (p:Int) (ks:List TyE) (hs:ks.length≤1048576) (hk:∀ x∈ks,TyP d x):TyP d (.mk k n p ks):=by
 intro g a f H j ps hf hj hpn hpl hpr
 have hjp:j ∉ ps:=fun h=>by rw [hpr j h] at hj; cases hj
 refine rawT_pure hj tmO_in hjp hpn hpl hpr ?_
 have hdn:=(List.drop_sublist 1 ps).nodup hpn
 have hdr:∀ p∈ps.drop 1,H[p]?=some .rsv:=fun p hp=>hpr p (List.mem_of_mem_drop hp)
 have hdj:j ∉ ps.drop 1:=fun h=>hjp (List.mem_of_mem_drop h)
 obtain ⟨dn,vs,cs,dp⟩:=d
 have hjl:=get_lt hj
 refine call72 (by simp) ?_
 simp only [go_sem,reduceIte,↓reduceIte,sevalprocAttr,Z0,Z1,bytesOf,mc72,mr72,DataD.cells,TyE.cells]
 by_cases h2:k=2
 ·subst h2
  simp only [go_sem,reduceIte,↓reduceIte,sevalprocAttr,Z0,Z1,bytesOf]
  refine acall_pure (indexC vs n _) ?_
  have ev:TyE.ty vs (.mk 2 n p ks)=.mk 10 (idxI vs n) [] []:=by unfold TyE.ty; rw [if_pos rfl]
  have ef:TyE.ft g.types vs (.mk 2 n p ks)=if idx n vs=.none then (25,p) else (0,0):=by rw [TyE.ft,if_pos rfl]
  simp only [go_sem,reduceIte,↓reduceIte,sevalprocAttr,Z0,Z1,bytesOf,idxI_neg]
  by_cases hi:idx n vs=.none
  ·simp only [go_sem,reduceIte,↓reduceIte,sevalprocAttr,Z0,Z1,bytesOf,dT hi]
   refine acall_pure (failT (get_ext hj _) 25 p) ?_
   rw [set_app hjl,ev,ef,if_pos hi]
   have hl:H.length=(H.set j (tmO g a (firstF f (25,p)))).length:=by simp
   generalize H.set j (tmO g a (firstF f (25,p)))=Hs at hl ⊢
   rw [hl]
   simp only [go_sem,reduceIte,↓reduceIte,sevalprocAttr,Z0,Z1,bytesOf]
   exact leafP ⟨_,rfl⟩
  ·simp only [go_sem,reduceIte,↓reduceIte,sevalprocAttr,Z0,Z1,bytesOf,dF hi]
   rw [ev,ef,if_neg hi,firstF_r hf,set_id hj]
   exact leafP ⟨_,rfl⟩
 have d2:decide (k=2)=false:=decide_eq_false h2
 by_cases h3:k=3
 ·subst h3
  have ev:TyE.ty vs (.mk 3 n p ks)=.mk 5 0 [] (TyE.tyL vs ks):=by unfold TyE.ty; rw [if_neg h2,if_pos rfl]
  have ef:TyE.ft g.types vs (.mk 3 n p ks)=TyE.ftL g.types vs ks:=by rw [TyE.ft,if_neg h2,if_pos (by simp)]
  simp only [go_sem,reduceIte,↓reduceIte,sevalprocAttr,Z0,Z1,bytesOf]
  rw [ev,nP] at hpl
  rw [ev,ef]
  refine tyTailP (hpr:=hdr) (hpj:=hdj) (hps:=hdn) (hpl:=nK_drop hpl) (b:=H.length) (f1:=f) (d:=⟨dn,vs,cs,dp⟩) (k:=3) (n:=n) (p:=p) hs hk rfl rfl rfl rfl rfl (Nat.le_refl _) hjl hf ?_ ?_ ?_ ?_ ?_
  ·rw [set_id hj]; exact ⟨_,rfl⟩
  ·rw [get_off0]; rfl
  ·rw [get_off]; rfl
  ·rw [get_off]; rfl
  ·rw [get_off]; rfl
 have d3:decide (k=3)=false:=decide_eq_false h3
 by_cases h4:k=4
 ·subst h4
  have ev:TyE.ty vs (.mk 4 n p ks)=.mk 6 0 [] (TyE.tyL vs ks):=by unfold TyE.ty; rw [if_neg h2,if_neg h3,if_pos rfl]
  have ef:TyE.ft g.types vs (.mk 4 n p ks)=TyE.ftL g.types vs ks:=by rw [TyE.ft,if_neg h2,if_pos (by simp)]
  simp only [go_sem,reduceIte,↓reduceIte,sevalprocAttr,Z0,Z1,bytesOf]
  rw [ev,nP] at hpl
  rw [ev,ef]
  refine tyTailP (hpr:=hdr) (hpj:=hdj) (hps:=hdn) (hpl:=nK_drop hpl) (b:=H.length) (f1:=f) (d:=⟨dn,vs,cs,dp⟩) (k:=4) (n:=n) (p:=p) hs hk rfl rfl rfl rfl rfl (Nat.le_refl _) hjl hf ?_ ?_ ?_ ?_ ?_
  ·rw [set_id hj]; exact ⟨_,rfl⟩
  ·rw [get_off0]; rfl
  ·rw [get_off]; rfl
  ·rw [get_off]; rfl
  ·rw [get_off]; rfl
 have d4:decide (k=4)=false:=decide_eq_false h4
 by_cases h5:k=5
 ·subst h5
  have ev:TyE.ty vs (.mk 5 n p ks)=.mk 8 0 [] (TyE.tyL vs ks):=by unfold TyE.ty; rw [if_neg h2,if_neg h3,if_neg h4,if_pos rfl]
  have ef:TyE.ft g.types vs (.mk 5 n p ks)=TyE.ftL g.types vs ks:=by rw [TyE.ft,if_neg h2,if_pos (by simp)]
  simp only [go_sem,reduceIte,↓reduceIte,sevalprocAttr,Z0,Z1,bytesOf]
  rw [ev,nP] at hpl
  rw [ev,ef]
  refine tyTailP (hpr:=hdr) (hpj:=hdj) (hps:=hdn) (hpl:=nK_drop hpl) (b:=H.length) (f1:=f) (d:=⟨dn,vs,cs,dp⟩) (k:=5) (n:=n) (p:=p) hs hk rfl rfl rfl rfl rfl (Nat.le_refl _) hjl hf ?_ ?_ ?_ ?_ ?_
  ·rw [set_id hj]; exact ⟨_,rfl⟩
  ·rw [get_off0]; rfl
  ·rw [get_off]; rfl
  ·rw [get_off]; rfl
  ·rw [get_off]; rfl
 have d5:decide (k=5)=false:=decide_eq_false h5
 have hjX:∀ A,(H++A)[j]?=some (.var (.p (.l (g.types.map DataD.cells)) :: (g.body.cells.map .p++[a,.p (.i .i64 f.1),.p (.i .i64 f.2)]))):=fun A=>get_ext hj A
 have hn345:¬ (k=3∨k=4∨k=5):=by simp [h3,h4,h5]
 simp only [go_sem,reduceIte,↓reduceIte,sevalprocAttr,Z0,Z1,bytesOf,d2,d3,d4,d5]
 refine drw_same ?_
 simp only [go_sem,reduceIte,↓reduceIte,sevalprocAttr,Z0,Z1,bytesOf]
 refine pcall_pure (fun A=>fourC _) (Hext.refl _) ?_
 simp only [go_sem,reduceIte,↓reduceIte,sevalprocAttr,Z0,Z1,bytesOf]
 refine acall_pure (indexC fourL n _) ?_
 have idxs:n∈fourL→∃ m,idx n fourL=some m∧m<4:=fun hm=>by
  cases hi:idx n fourL with
  | none=>exact (idx_none.1 hi hm).elim
  | some m=>exact ⟨m,rfl,by have:=(List.getElem?_eq_some_iff.1 (idx_some hi).1).1; simpa [fourL] using this⟩
 by_cases hq:n∈fourL∧ks.length=0
 ·obtain ⟨m,hm,hm4⟩:=idxs hq.1
  have hks:ks=[]:=List.length_eq_zero_iff.1 hq.2
  have ev:TyE.ty vs (.mk k n p ks)=.mk (1+m) 0 [] []:=by subst hks; unfold TyE.ty; rw [if_neg h2,if_neg h3,if_neg h4,if_neg h5,hm]
  have ef:TyE.ft g.types vs (.mk k n p ks)=(0,0):=by rw [TyE.ft,if_neg h2,if_neg hn345,if_pos hq]
  have ei:idxI fourL n=m:=by unfold idxI; rw [hm]
  have e1:decide ((0:Int)≤(m:Int))=true:=decide_eq_true (by omega)
  have ew:wr .i64 (1+(m:Int))=1+(m:Int):=wr64 (by omega) (by omega)
  rw [ev,ef,firstF_r hf,set_id hj]
  simp only [go_sem,reduceIte,↓reduceIte,sevalprocAttr,Z0,Z1,bytesOf,ei,e1,TyE.cellsL_len,hq.2,ew]
  intro _
  exact leafP ⟨_,rfl⟩
 have ev:TyE.ty vs (.mk k n p ks)=.mk 7 0 n (TyE.tyL vs ks):=by
  unfold TyE.ty
  rw [if_neg h2,if_neg h3,if_neg h4,if_neg h5]
  split
  ·rename_i hi
   refine (hq ⟨?_,rfl⟩).elim
   apply Classical.byContradiction
   intro hn
   rw [idx_none.2 hn] at hi
   cases hi
  ·rfl
 have ef:TyE.ft g.types vs (.mk k n p ks)=if hasData g.types n ks.length then TyE.ftL g.types vs ks else (24,p):=by rw [TyE.ft,if_neg h2,if_neg hn345,if_neg hq]
 rw [ev,nP] at hpl
 rw [ev,ef]
 have hcf:=fun (HX:List AO) (i:Nat) (hi:HX[i]?=some (.var ((TyE.cells (.mk k n p ks)).map .p)))=>containsF_Data (H:=HX) (l:=g.types) (g:=fun y=>decide (y.name=n) && decide (y.vars.length=ks.length)) (f:=109) (caps:=[.ptr i 0]) fun y _=>tyFn1 hi y
 by_cases hm:n∈fourL
 case' pos =>
  have e0:decide ((ks.length:Int)=0)=false:=decide_eq_false (by have:ks.length≠0:=fun h=>hq ⟨hm,h⟩; omega)
  simp only [go_sem,reduceIte,↓reduceIte,sevalprocAttr,Z0,Z1,bytesOf,idxI_nonneg,dT hm,TyE.cellsL_len]
  intro _
  simp only [go_sem,reduceIte,↓reduceIte,sevalprocAttr,Z0,Z1,bytesOf,e0,hjX]
 case' neg=>simp only [go_sem,reduceIte,↓reduceIte,sevalprocAttr,Z0,Z1,bytesOf,idxI_nonneg,dF hm,hjX]
 all_goals
  refine acall_pure (hcf _ _ (by rw [get_off]; rfl)) ?_
  cases hd:hasData g.types n ks.length
  ·have hd':(g.types.any fun y=>decide (y.name=n) && decide (y.vars.length=ks.length))=false:=hd
   simp only [go_sem,reduceIte,↓reduceIte,sevalprocAttr,Z0,Z1,bytesOf,hd']
   refine acall_pure (failT (get_ext hj _) 24 p) ?_
   rw [set_app hjl]
   simp only [go_sem,reduceIte,↓reduceIte,sevalprocAttr,Z0,Z1,bytesOf]
   have hz:(firstF f (24,p)).1≠0:=by
    unfold firstF; split
    ·simp
    ·assumption
   have hgo:∀ (A:List AO) (i:Nat),(H.set j (tmO g a (firstF f (24,p)))++A)[H.length+i]?=A[i]?:=fun A i=>by
    rw [List.getElem?_append_right (by simp),List.length_set,Nat.add_sub_cancel_left]
   have ht:=fun (L:En)=>tyTailP (hpr:=hdr) (hpj:=hdj) (hps:=hdn) (hpl:=nK_drop hpl) (L:=L) (b:=H.length) (f1:=firstF f (24,p)) (d:=⟨dn,vs,cs,dp⟩) (g:=g) (a:=a) (K:=7) (S:=n) (k:=k) (n:=n) (p:=p) hs hk (H0:=H) (j:=j) (HX:=H.set j (tmO g a (firstF f (24,p)))++[.var ((DataD.cells ⟨dn,vs,cs,dp⟩).map .p),.var ((TyE.cells (.mk k n p ks)).map .p),.var [.p (.i .i64 0),.p (.i .i64 0),.p (.s []),.p .nl],.var [.p (.i .i64 7),.p (.i .i64 0),.p (.s n),.p .nl]])
   rw [firstF_ne hz] at ht
   exact ht _ rfl rfl rfl rfl rfl (Nat.le_refl _) hjl (fun h=>(hz h).elim) ⟨_,rfl⟩ (hgo _ 0) (hgo _ 1) (hgo _ 2) (hgo _ 3)
  ·have hd':(g.types.any fun y=>decide (y.name=n) && decide (y.vars.length=ks.length))=true:=hd
   simp only [go_sem,reduceIte,↓reduceIte,sevalprocAttr,Z0,Z1,bytesOf,hd']
   refine tyTailP (hpr:=hdr) (hpj:=hdj) (hps:=hdn) (hpl:=nK_drop hpl) (b:=H.length) (f1:=f) (d:=⟨dn,vs,cs,dp⟩) (k:=k) (n:=n) (p:=p) hs hk rfl rfl rfl rfl rfl (Nat.le_refl _) hjl hf ?_ ?_ ?_ ?_ ?_
   ·rw [set_id hj]; exact ⟨_,rfl⟩
   ·rw [get_off0]; rfl
   ·rw [get_off]; rfl
   ·rw [get_off]; rfl
   ·rw [get_off]; rfl
theorem tyP (d : DataD) : ∀ (m : Nat) (t : TyE), t.sz < m → t.sz ≤ 1048576 → TyP d t := by
  intro m
  induction m with
  | zero => intro t h; omega
  | succ m ih =>
    intro t h hb
    obtain ⟨k, n, p, ks⟩ := t
    rw [TyE.sz, TyE.szL_eq] at h hb
    have hl := sumSz_len TyE.sz ks
    exact ty_TP d k n p ks (by omega) fun a ha => ih a (by have := sumSz_mem TyE.sz ha; omega) (by have := sumSz_mem TyE.sz ha; omega)
end Go.Proofs.YtnelfbcgplooiaaGreat.Pg
/- The program's maker of tables: datatypes whose types are owned. -/
set_option linter.all false
namespace Go.Proofs.YtnelfbcgplooiaaGreat.Pg
open Go.AM Mc
variable {g:ProgD} {H0 H H':List AO} {j:Nat} {a0 a:AV} {seen:List (List UInt8)} {f f':Ft}
theorem setL_range : ∀ (os : List AO) (H : List AO), setL (H ++ List.replicate os.length .rsv) (List.range' H.length os.length) os = H ++ os
  | [], H => by simp [setL_nil]
  | o :: os, H => by
    rw [List.length_cons, List.range'_succ, setL, List.replicate_succ, List.set_append_right _ _ (Nat.le_refl _), Nat.sub_self, List.set_cons_zero]
    have := setL_range os (H ++ [o])
    rw [List.length_append, List.length_singleton] at this
    rw [show H ++ o :: List.replicate os.length .rsv = (H ++ [o]) ++ List.replicate os.length .rsv by simp, this]
    simp
theorem tyN {d:DataD} {x:TyE} (h:TyP d x) (hz:Fz f) (hj:H[j]?=some (tmO g a f)) :
  ACall Tryz.prog 72 [.ptr j 0,av d.cells,av x.cells] H (pureQ (.st (layT (x.ty d.vars) (List.range' H.length (nP (x.ty d.vars)))).1)
   (H.set j (tmO g a (firstF f (x.ft g.types d.vars)))++(layT (x.ty d.vars) (List.range' H.length (nP (x.ty d.vars)))).2)):=by
 refine acall_ghost (nP (x.ty d.vars)) ?_
 have hos:=layT_os (x.ty d.vars) (List.range' H.length (nP (x.ty d.vars))) (by simp)
 have:=h g a f (H++List.replicate (nP (x.ty d.vars)) .rsv) j (List.range' H.length (nP (x.ty d.vars))) hz (get_ext hj _) (List.nodup_range' ..) (by simp) (fun p hp=>by
  obtain ⟨h1,h2⟩:=List.mem_range'_1.1 hp
  rw [List.getElem?_append_right h1,List.getElem?_replicate,if_pos (by omega)])
 rw [set_app (get_lt hj)] at this
 have e:=setL_range (layT (x.ty d.vars) (List.range' H.length (nP (x.ty d.vars)))).2 (H.set j (tmO g a (firstF f (x.ft g.types d.vars))))
 rw [hos,List.length_set] at e
 rw [e] at this
 exact this
def rowTV (vs:List (List UInt8)) (c:CtorD):List TV:=[.p (.s c.name),.p (.b c.has)]++(if c.has then tvT (c.arg.ty vs) else [.p (.i .i64 0),.p (.i .i64 0),.p (.s []),.s 4 []])
structure RowK (sz:Nat) (H H':List AO) (j q:Nat) (a iv iv':AV) (t:List TV) (x:List AV) (js:List Nat):Prop where
 fr:∀ (i:Nat) o,H[i]?=some o→i≠j→i≠q→(∀ v q n,a≠.gs i v q n)→(∀ v q n,iv≠.gs i v q n)→H'[i]?=some o
 own:OwnCs H' t x js
 nd:js.Nodup
 fresh:∀ i∈js,H.length≤i∧∀ v q n,iv'≠.gs i v q n
 ivid:∀ id v q n,iv'=.gs id v q n→H.length≤id∨∃ v' q' n',iv=.gs id v' q' n'
 len:x.length=sz
theorem dDN {L:En} {H:List AO} {q z lo:Nat} {n:List UInt8} {V:Int} {iv:AV} {x1 x2 x3 x4 x5:PV} {x6:AV} {rs:List (List AV)} {Q:Ex→St→Prop}
  (h5:eget L 5=.ptr q 0) (h10:eget L 10=.ptr z 0) (hq:H[q]?=some (.var [.p (.s n),.p (.i .i64 V),iv])) (hz:H[z]?=some (.var [.p x1,.p x2,.p x3,.p x4,.p x5,x6])) (ho:OwnAt H iv 6 rs lo H.length) (hn:rs.length≤1048576) (hlo:lo≤H.length)
  (k:∀ L' H' iv',(∀ t,eget L' t=eget L t)→H'[q]?=some (.var [.p (.s n),.p (.i .i64 V),iv'])→OwnAt H' iv' 6 (rs++[[.p x1,.p x2,.p x3,.p x4,.p x5,x6]]) lo H'.length→(∀ (i:Nat) o,H[i]?=some o→i≠q→(∀ v o' n,iv≠.gs i v o' n)→H'[i]?=some o)→H.length≤H'.length →
   (∀ id v o n,iv'=.gs id v o n→H.length≤id∨∃ v' o' n',iv=.gs id v' o' n')→Q .nm ⟨L',[],H'⟩):wpm (ACall Tryz.prog) mc36d Q ⟨L,[],H⟩:=by
 simp only [go_sem,reduceIte,↓reduceIte,sevalprocAttr,Z0,Z1,bytesOf,mc36d,h5,h10,hq,hz]
 refine ⟨by intro r hr; simp at hr; subst hr; rfl,?_⟩
 have ho2:=ho.ext [AO.rows 6 0 [[.p x1,.p x2,.p x3,.p x4,.p x5,x6]]]
 refine app_fr ho2.own (by simp; omega) (by simp; omega) ?_
 intro id ver H2 hid hside hkeep hlen
 have zq:=hkeep _ _ (get_ext hq _) (own_ne ho2 (get_ext hq _))
 simp only [go_sem,reduceIte,↓reduceIte,sevalprocAttr,Z0,Z1,bytesOf,h5,zq]
 have hne:q≠id:=by rintro rfl; rw [hid] at zq; cases zq
 rw [List.length_append,List.length_singleton] at hlen
 refine k _ _ _ (fun t=>rfl) (set_get zq) (.inr ⟨id,ver,?_,by simpa using get_lt hid,by simp,get_set hid hne⟩) ?_ (by simp; omega) ?_
 ·rcases hside with ⟨v,o,n',hkv⟩ | h
  ·apply Classical.byContradiction
   intro hlt2
   exact own_lo ho2 (by omega) _ _ _ hkv
  ·simp at h; omega
 ·intro i o hi hiq hni
  exact get_set (hkeep _ _ (get_ext hi _) hni) (Ne.symm hiq)
 ·rintro id' v o n' e
  cases e
  rcases hside with h | h
  ·exact .inr h
  ·simp at h; exact .inl (by omega)
end Go.Proofs.YtnelfbcgplooiaaGreat.Pg
/- The program's maker of tables: a constructor whose type is owned. -/
set_option linter.all false
namespace Go.Proofs.YtnelfbcgplooiaaGreat.Pg
open Go.AM Mc
variable {g:ProgD} {H0 H H':List AO} {j:Nat} {a0 a:AV} {seen:List (List UInt8)} {f f':Ft}
theorem dCN {d:DataD} {c:CtorD} (hc:c.has=true→TyP d c.arg) {L:En} {b q y:Nat} {n:List UInt8} {V:Int} {iv:AV} {rs:List (List AV)} {Q:Ex→St→Prop}
  (h0:eget L 0=.ptr j 0) (h3:eget L 3=.ptr b 0) (h5:eget L 5=.ptr q 0) (h9:eget L 9=.ptr y 0) (hM:MkS g H0 H j a0 a seen f) (hb:H[b]?=some (.var (d.cells.map .p))) (hy:H[y]?=some (.var (c.cells.map .p)))
  (hq:H[q]?=some (.var [.p (.s n),.p (.i .i64 V),iv])) (ho:OwnAt H iv 6 rs H0.length H.length) (hn:rs.length≤1048576) (hsep:Sep a iv) (hbl:H0.length≤b) (hql:H0.length≤q) (hbq:b≠q)
  (k:∀ L' H' iv' x js,(∀ t,t≠10→t≠71→eget L' t=eget L t)→MkS g H0 H' j a0 a seen (firstF f (if c.has then c.arg.ft g.types d.vars else (0,0)))→H'[q]?=some (.var [.p (.s n),.p (.i .i64 V),iv']) →
   OwnAt H' iv' 6 (rs++[x]) H0.length H'.length→Sep a iv'→(∀ i∈js,∀ v q n,a≠.gs i v q n)→RowK 6 H H' j q a iv iv' (rowTV d.vars c) x js→Q .nm ⟨L',[],H'⟩):wpm (ACall Tryz.prog) mc36c Q ⟨L,[],H⟩:=by
 obtain ⟨dn,vs,cs,dp⟩:=d
 obtain ⟨cn,ch,⟨ak,an,ap,aks⟩,cp⟩:=c
 have hy':H[y]?=some (.var [.p (.s cn),.p (.b ch),.p (.i .i64 ak),.p (.s an),.p (.i .i64 ap),.p (.l (TyE.cellsL aks)),.p (.i .i64 cp)]):=hy
 have hyX:∀ A,(H++A)[y]?=_:=fun A=>get_ext hy' A
 have hb':H[b]?=some (.var [.p (.s dn),.p (.l (namesC vs)),.p (.l (cs.map CtorD.cells)),.p (.i .i64 dp)]):=hb
 have hbX:∀ A,(H++A)[b]?=_:=fun A=>get_ext hb' A
 have hnq:=own_ne ho hq
 have hnb:=own_ne ho hb
 have hnj:∀ v o n,iv≠.gs j v o n:=own_lo ho hM.hj
 have hna:∀ id v o n,a=.gs id v o n→id≠q:=by
  rintro id v o n rfl rfl
  rcases hM.own with ⟨h1,_⟩ | ⟨i',ver,h1,h2⟩
  ·cases h1
  ·cases h1; rw [h2] at hq; cases hq
 simp only [go_sem,reduceIte,↓reduceIte,sevalprocAttr,Z0,Z1,bytesOf,mc36c,h0,h3,h5,h9,hy',hyX,zl8_4,eget_ne,eget_same]
 have hql':=get_lt hq
 have fin:∀ (H1:List AO) (L1:En) (x1 x2 x3 x4 x5:PV) (x6:AV) (js:List Nat) (f1:Ft),(∀ t,t≠10→t≠71→eget L1 t=eget L t)→eget L1 10=.ptr H.length 0→MkS g H0 H1 j a0 a seen f1→(∀ (i:Nat) o,H[i]?=some o→i≠j→H1[i]?=some o)→H1[q]?=some (.var [.p (.s n),.p (.i .i64 V),iv])→H1[H.length]?=some (.var [.p x1,.p x2,.p x3,.p x4,.p x5,x6]) →
   OwnAt H1 iv 6 rs H0.length H1.length→OwnCs H1 (rowTV vs ⟨cn,ch,⟨ak,an,ap,aks⟩,cp⟩) [.p x1,.p x2,.p x3,.p x4,.p x5,x6] js→js.Nodup→(∀ i∈js,H.length≤i∧i<H1.length)→f1=(firstF f (if ch then TyE.ft g.types vs ⟨ak,an,ap,aks⟩ else (0,0)))→wpm (ACall Tryz.prog) mc36d Q ⟨L1,[],H1⟩:=by
  rintro H1 L1 x1 x2 x3 x4 x5 x6 js f1 hL h10 hM1 hb1 hq1 hz1 ho1 hcs hnd hjs rfl
  refine dDN (by rw [hL _ (by decide) (by decide)]; exact h5) h10 hq1 hz1 ho1 hn hM1.len ?_
  intro L' H' iv' hL' hq' ho' hk hl hid
  have hna':∀ id v o n,a=.gs id v o n→∀ v' o' n',iv≠.gs id v' o' n':=fun id v o n e v' o' n'=>hsep _ _ _ _ _ _ _ e
  have hil:=own_ltAt ho
  refine k L' H' iv' _ js (fun t h1 h2=>(hL' t).trans (hL t h1 h2)) ?_ hq' ho' ?_ ?_ ⟨fun i o hi hij hiq hna hni=>hk _ _ (hb1 _ _ hi hij) hiq hni,hcs.keep fun i hi o ho=>hk _ _ ho ?_ ?_,hnd,fun i hi=>⟨(hjs i hi).1,?_⟩,?_,rfl⟩
  ·exact hM1.step (fun i=>i≠q∧∀ v o n,iv≠.gs i v o n) (fun i o hi hp=>hk i o hi hp.1 hp.2) (fun i hi=>⟨by omega,own_lo ho hi⟩) (fun id v q n e=>⟨hna _ _ _ _ e,hna' _ _ _ _ e⟩) hl
  ·intro id v o n v' o' n' e e'
   rcases hid _ _ _ _ e' with h | ⟨_,_,_,h⟩
   ·have:=own_lt hM1.own _ _ _ _ e; omega
   ·exact hsep _ _ _ _ _ _ _ e h
  ·intro i hi v q' n' e
   have:=own_lt hM.own _ _ _ _ e
   have:=(hjs i hi).1
   omega
  ·have:=(hjs i hi).1; omega
  ·intro v o' n' e
   have:=hil _ _ _ _ e
   have:=(hjs i hi).1
   omega
  ·intro v q' n' e
   rcases hid _ _ _ _ e with h | ⟨_,_,_,h⟩
   ·have:=(hjs i hi).2; omega
   ·have:=hil _ _ _ _ h
    have:=(hjs i hi).1
    omega
  ·intro id v q' n' e
   rcases hid _ _ _ _ e with h | h
   ·have:=get_lt hz1; exact .inl (by omega)
   ·exact .inr h
 have hMX:=fun A=>hM.ext A
 cases ch
 ·simp only [go_sem,reduceIte,↓reduceIte,sevalprocAttr,Z0,Z1,bytesOf]
  refine fin _ _ (.s cn) (.b false) (.i .i64 0) (.i .i64 0) (.s []) (.p .nl) [] f (fun t h1 h2=>by rw [eget_ne (Ne.symm h2),eget_ne (Ne.symm h1)]) (by simp only [go_sem,reduceIte,↓reduceIte,sevalprocAttr,Z0,Z1,bytesOf,eget_ne,eget_same]) (hM.ext _) (fun i o hi _=>get_ext hi _) (get_ext hq _) (by rw [get_off0]; rfl) (by rw [List.length_append]; exact own_up ho _) ?_ List.nodup_nil (fun i hi=>by cases hi) (firstF_r hM.z).symm
  simp only [rowTV,Bool.false_eq_true,if_false,List.cons_append,List.nil_append]
  exact .pc (.pc (.pc (.pc (.pc (.one (Own.nl _ _))))))
 ·simp only [go_sem,reduceIte,↓reduceIte,sevalprocAttr,Z0,Z1,bytesOf,h0,h3,h9,hbX,hyX,eget_ne,eget_same]
  refine acall_pure (tyN (hc rfl) hM.z (hMX _).mkr) ?_
  replace fin:=fun H1 L1 x3 x4 x5 x6 js f1 hL h10 hM1 hb1 hq1 hz1 ho1 hcs hnd hjs hf1=>fin H1 L1 (.s cn) (.b true) x3 x4 x5 x6 js f1 hL h10 hM1 hb1 hq1 hz1 ho1 hcs hnd hjs hf1
  dsimp only
  have hz':=firstF_zz hM.z (TyE.ft_z g.types vs (.mk ak an ap aks))
  have erow:rowTV vs ⟨cn,true,⟨ak,an,ap,aks⟩,cp⟩=.p (.s cn) :: .p (.b true) :: tvT (TyE.ty vs (.mk ak an ap aks)):=rfl
  simp only [erow,if_true] at fin
  generalize TyE.ty vs (.mk ak an ap aks)=tc at fin ⊢
  generalize firstF f (TyE.ft g.types vs (.mk ak an ap aks))=fc at fin hz' ⊢
  have hps:(List.range' (H++[AO.var [.p (.s cn),.p (.b true),.p (.i .i64 0),.p (.i .i64 0),.p (.s []),.p .nl]]).length (nP tc)).length=nP tc:=by simp
  have hos:=layT_os tc _ hps
  have hpn:(List.range' (H++[AO.var [.p (.s cn),.p (.b true),.p (.i .i64 0),.p (.i .i64 0),.p (.s []),.p .nl]]).length (nP tc)).Nodup:=List.nodup_range' ..
  have hpr:∀ i∈List.range' (H++[AO.var [.p (.s cn),.p (.b true),.p (.i .i64 0),.p (.i .i64 0),.p (.s []),.p .nl]]).length (nP tc),H.length≤i∧i<((H++[AO.var [.p (.s cn),.p (.b true),.p (.i .i64 0),.p (.i .i64 0),.p (.s []),.p .nl]]).set j (tmO g a fc)++(layT tc (List.range' (H++[AO.var [.p (.s cn),.p (.b true),.p (.i .i64 0),.p (.i .i64 0),.p (.s []),.p .nl]]).length (nP tc))).2).length:=fun i hi=>by
   obtain ⟨q1,q2⟩:=List.mem_range'_1.1 hi
   rw [List.length_append,List.length_set,hos]
   simp only [List.length_append,List.length_singleton] at q1 q2 ⊢
   omega
  have hown:∀ X:List AO,X.length=(H++[AO.var [.p (.s cn),.p (.b true),.p (.i .i64 0),.p (.i .i64 0),.p (.s []),.p .nl]]).length→OwnCs (X++(layT tc (List.range' (H++[AO.var [.p (.s cn),.p (.b true),.p (.i .i64 0),.p (.i .i64 0),.p (.s []),.p .nl]]).length (nP tc))).2) (tvT tc) (layT tc (List.range' (H++[AO.var [.p (.s cn),.p (.b true),.p (.i .i64 0),.p (.i .i64 0),.p (.s []),.p .nl]]).length (nP tc))).1 (List.range' (H++[AO.var [.p (.s cn),.p (.b true),.p (.i .i64 0),.p (.i .i64 0),.p (.s []),.p .nl]]).length (nP tc)):=fun X hX =>
   layT_own tc _ _ hps fun k p o hk ho=>by
    obtain ⟨hkl,e⟩:=List.getElem?_eq_some_iff.1 hk
    rw [List.getElem_range'] at e
    rw [List.getElem?_append_right (by omega),← e,hX]
    rw [show (H++[AO.var [.p (.s cn),.p (.b true),.p (.i .i64 0),.p (.i .i64 0),.p (.s []),.p .nl]]).length+1 * k - (H++[AO.var [.p (.s cn),.p (.b true),.p (.i .i64 0),.p (.i .i64 0),.p (.s []),.p .nl]]).length=k by omega]
    exact ho
  generalize List.range' (H++[AO.var [.p (.s cn),.p (.b true),.p (.i .i64 0),.p (.i .i64 0),.p (.s []),.p .nl]]).length (nP tc)=ps at hps hos hpn hpr hown ⊢
  obtain ⟨tk,tn,tS,tks⟩:=tc
  have hlt4:layT (.mk tk tn tS tks) ps=([.p (.i .i64 tk),.p (.i .i64 tn),.p (.s tS),(layK tks ps).1],(layK tks ps).2):=by rw [layT]
  rw [hlt4] at hos hpr hown ⊢
  simp only at hos hpr hown ⊢
  generalize (layK tks ps).1=kc at hown ⊢
  generalize (layK tks ps).2=oc at hos hpr hown ⊢
  have hM1:=((hM.ext [AO.var [.p (.s cn),.p (.b true),.p (.i .i64 0),.p (.i .i64 0),.p (.s []),.p .nl]]).fail (f':=fc) hz').ext oc
  have hjl:=Nat.lt_of_lt_of_le hM.hj hM.len
  have hb1:∀ (i:Nat) o,H[i]?=some o→i≠j→((H++[AO.var [.p (.s cn),.p (.b true),.p (.i .i64 0),.p (.i .i64 0),.p (.s []),.p .nl]]).set j (tmO g a fc)++oc)[i]?=some o:=fun i o hi hij=>get_ext (get_set (get_ext hi _) (Ne.symm hij)) _
  have hz1:((H++[AO.var [.p (.s cn),.p (.b true),.p (.i .i64 0),.p (.i .i64 0),.p (.s []),.p .nl]]).set j (tmO g a fc)++oc)[H.length]?=some (AO.var [.p (.s cn),.p (.b true),.p (.i .i64 0),.p (.i .i64 0),.p (.s []),.p .nl]):=get_ext (get_set (get_off0 _ _) (by omega)) _
  have hq1:=hb1 q _ hq (by have:=hM.hj; omega)
  have ho1:OwnAt ((H++[AO.var [.p (.s cn),.p (.b true),.p (.i .i64 0),.p (.i .i64 0),.p (.s []),.p .nl]]).set j (tmO g a fc)++oc) iv 6 rs H0.length ((H++[AO.var [.p (.s cn),.p (.b true),.p (.i .i64 0),.p (.i .i64 0),.p (.s []),.p .nl]]).set j (tmO g a fc)++oc).length:=ownAt_keep ho (fun id v q n e o ho'=>hb1 _ _ ho' (fun e'=>own_lo ho hM.hj _ _ _ (e' ▸ e))) (by simp; omega)
  have hc1:=hown ((H++[AO.var [.p (.s cn),.p (.b true),.p (.i .i64 0),.p (.i .i64 0),.p (.s []),.p .nl]]).set j (tmO g a fc)) (by simp)
  have hl1:H.length+1≤((H++[AO.var [.p (.s cn),.p (.b true),.p (.i .i64 0),.p (.i .i64 0),.p (.s []),.p .nl]]).set j (tmO g a fc)++oc).length:=by simp
  generalize (H++[AO.var [.p (.s cn),.p (.b true),.p (.i .i64 0),.p (.i .i64 0),.p (.s []),.p .nl]]).set j (tmO g a fc)++oc=H1 at hM1 hb1 hq1 hz1 ho1 hc1 hl1 hpr ⊢
  simp only [go_sem,reduceIte,↓reduceIte,sevalprocAttr,Z0,Z1,bytesOf,hz1,eget_ne,eget_same]
  have hnz:∀ i∈ps,∀ o,H1[i]?=some o→(H1.set H.length (AO.var [.p (.s cn),.p (.b true),.p (.i .i64 tk),.p (.i .i64 tn),.p (.s tS),kc]))[i]?=some o:=fun i hi o ho'=>get_set ho' (fun e=>by
   obtain ⟨sz',ver',rs',hr⟩:=hc1.rows i hi
   rw [← e,hz1] at hr; cases hr)
  refine fin _ _ (.i .i64 tk) (.i .i64 tn) (.s tS) kc ps fc (fun t h1 h2=>by rw [eget_ne (Ne.symm h2),eget_ne (Ne.symm h1)]) (by simp only [go_sem,reduceIte,↓reduceIte,sevalprocAttr,Z0,Z1,bytesOf,eget_ne,eget_same]) (hM1.setV hM.len hz1 _) (fun i o hi hij=>get_set (hb1 i o hi hij) (by have:=get_lt hi; omega)) (get_set hq1 (by have:=get_lt hq; omega)) (set_get hz1) ?_ (OwnCs.pc (OwnCs.pc (hc1.keep hnz))) hpn (fun i hi=>⟨(hpr i hi).1,by rw [List.length_set]; exact (hpr i hi).2⟩) rfl
  rw [List.length_set]; exact own_setVar ho1 hz1
end Go.Proofs.YtnelfbcgplooiaaGreat.Pg