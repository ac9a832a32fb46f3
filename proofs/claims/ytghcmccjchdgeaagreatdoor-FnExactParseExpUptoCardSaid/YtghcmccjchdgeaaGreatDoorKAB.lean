/- Texts QbG QbH QbI QbJ QbK QbL QbC QbM QbO QbP, merged. -/
import Derived.Test.YtghcmccjchdgeaaGreatDoorKAA
import Derived.Test.YtghcmccjchdgeaaGreatDoorChecked
import Derived.KernelRfl
/- The program's lexer: one token, all tokens. -/
set_option linter.all false
namespace Go.Proofs.YtghcmccjchdgeaaGreatDoor.Qp
open Go.AM Mc Pg
theorem oneC {s:List UInt8} (hs:s.length≤1048576) {i:Nat} (hi:i<s.length) {H:List AO} (hg:Rg H) :
  ACall Tryz.prog 103 [.p (.s s),.p (.i .i64 i)] H (pureQ (tokAV (tokD s i s[i]) i) H):=by
 refine acall_drop1 ?_ (tf_tokAV _ _)
 have hgi:s[i]?=some s[i]:=by simp [hi]
 refine call103 (by simp) ?_
 simp only [go_sem,reduceIte,↓reduceIte,sevalprocAttr,Z0,Z1,bytesOf,gx0,gxk,sx0,sxk,mc103,mr103,hgi]
 refine acall_pure (digitC s[i] _) ?_
 unfold tokD
 cases hd:isDg s[i]
 ·rw [if_neg (by simp)]
  simp only [go_sem,reduceIte,↓reduceIte,sevalprocAttr,Z0,Z1,bytesOf,gx0,gxk,sx0,sxk,hd]
  refine acall_pure (smallC s[i] _) ?_
  cases hsm:isSm s[i]
  ·simp only [go_sem,reduceIte,↓reduceIte,sevalprocAttr,Z0,Z1,bytesOf,gx0,gxk,sx0,sxk,hsm]
   refine acall_pure (greatC s[i] _) ?_
   cases hgr:isGr s[i]
   ·simp only [go_sem,reduceIte,↓reduceIte,sevalprocAttr,Z0,Z1,bytesOf,gx0,gxk,sx0,sxk,hgr]
    cases h39:decide ((s[i].toNat:Int)=39)
    ·rw [if_neg (by simp [tick,h39])]
     cases h34:decide ((s[i].toNat:Int)=34)
     ·rw [if_neg (of_decide_eq_false h34)]
      simp only [go_sem,reduceIte,↓reduceIte,sevalprocAttr,Z0,Z1,bytesOf,gx0,gxk,sx0,sxk,h39,h34]
      refine acall_pure (signC hs (Nat.le_of_lt hi) _) ?_
      have hl:=signL_le (s.drop i) signs
      unfold signD
      generalize signL (s.drop i) signs=g at hl
      cases hgn:decide (g=[])
      ·have ew:wr .i64 ((i:Int)+(g.length:Int))=((i+g.length:Nat):Int):=by
        have:=hl.1
        simp at this
        rw [wr64 (by omega) (by omega)]; omega
       simp only [go_sem,reduceIte,↓reduceIte,sevalprocAttr,Z0,Z1,bytesOf,gx0,gxk,sx0,sxk,hgn,ew]
       intro _
       simp only [if_neg (of_decide_eq_false hgn)]
       first | exact ⟨rfl,_,rfl⟩ | exact ⟨_,rfl⟩
      ·simp only [go_sem,reduceIte,↓reduceIte,sevalprocAttr,Z0,Z1,bytesOf,gx0,gxk,sx0,sxk,hgn]
       simp only [if_pos (of_decide_eq_true hgn)]
       first | exact ⟨rfl,_,rfl⟩ | exact ⟨_,rfl⟩
     ·rw [if_pos (of_decide_eq_true h34)]
      simp only [go_sem,reduceIte,↓reduceIte,sevalprocAttr,Z0,Z1,bytesOf,gx0,gxk,sx0,sxk,h39,h34]
      refine acall_pure (strC hs hi _) ?_
      unfold strD
      rcases hq:strGo s (i+1) [] with _ | ⟨t,e⟩
      ·simp only [go_sem,reduceIte,↓reduceIte,sevalprocAttr,Z0,Z1,bytesOf,gx0,gxk,sx0,sxk]
       first | exact ⟨rfl,_,rfl⟩ | exact ⟨_,rfl⟩
      ·simp only [go_sem,reduceIte,↓reduceIte,sevalprocAttr,Z0,Z1,bytesOf,gx0,gxk,sx0,sxk]
       first | exact ⟨rfl,_,rfl⟩ | exact ⟨_,rfl⟩
    ·by_cases hi1:i+1<s.length
     ·have d1:decide (((i+1:Nat):Int)<(s.length:Int))=true:=by simp; omega
      have hg1:s[i+1]?=some s[i+1]:=by simp [hi1]
      have hgd:s.getD (i+1) 0=s[i+1]:=by simp [hi1]
      simp only [go_sem,reduceIte,↓reduceIte,sevalprocAttr,Z0,Z1,bytesOf,gx0,gxk,sx0,sxk,h39,wrN i (by omega),d1,hg1]
      intro _
      refine acall_pure (smallC s[i+1] _) ?_
      cases hs1:isSm s[i+1]
      ·rw [if_neg (by simp only [tick,hgd,hs1]; simp)]
       simp only [go_sem,reduceIte,↓reduceIte,sevalprocAttr,Z0,Z1,bytesOf,gx0,gxk,sx0,sxk,hs1]
       cases h34:decide ((s[i].toNat:Int)=34)
       ·rw [if_neg (of_decide_eq_false h34)]
        simp only [go_sem,reduceIte,↓reduceIte,sevalprocAttr,Z0,Z1,bytesOf,gx0,gxk,sx0,sxk,h34]
        refine acall_pure (signC hs (Nat.le_of_lt hi) _) ?_
        have hl:=signL_le (s.drop i) signs
        unfold signD
        generalize signL (s.drop i) signs=g at hl
        cases hgn:decide (g=[])
        ·have ew:wr .i64 ((i:Int)+(g.length:Int))=((i+g.length:Nat):Int):=by
          have:=hl.1
          simp at this
          rw [wr64 (by omega) (by omega)]; omega
         simp only [go_sem,reduceIte,↓reduceIte,sevalprocAttr,Z0,Z1,bytesOf,gx0,gxk,sx0,sxk,hgn,ew]
         intro _
         simp only [if_neg (of_decide_eq_false hgn)]
         first | exact ⟨rfl,_,rfl⟩ | exact ⟨_,rfl⟩
        ·simp only [go_sem,reduceIte,↓reduceIte,sevalprocAttr,Z0,Z1,bytesOf,gx0,gxk,sx0,sxk,hgn]
         simp only [if_pos (of_decide_eq_true hgn)]
         first | exact ⟨rfl,_,rfl⟩ | exact ⟨_,rfl⟩
       ·rw [if_pos (of_decide_eq_true h34)]
        simp only [go_sem,reduceIte,↓reduceIte,sevalprocAttr,Z0,Z1,bytesOf,gx0,gxk,sx0,sxk,h34]
        refine acall_pure (strC hs hi _) ?_
        unfold strD
        rcases hq:strGo s (i+1) [] with _ | ⟨t,e⟩
        ·simp only [go_sem,reduceIte,↓reduceIte,sevalprocAttr,Z0,Z1,bytesOf,gx0,gxk,sx0,sxk]
         first | exact ⟨rfl,_,rfl⟩ | exact ⟨_,rfl⟩
        ·simp only [go_sem,reduceIte,↓reduceIte,sevalprocAttr,Z0,Z1,bytesOf,gx0,gxk,sx0,sxk]
         first | exact ⟨rfl,_,rfl⟩ | exact ⟨_,rfl⟩
      ·rw [if_pos (by simp only [tick,hgd,hs1]; simp [h39,hi1])]
       simp only [go_sem,reduceIte,↓reduceIte,sevalprocAttr,Z0,Z1,bytesOf,gx0,gxk,sx0,sxk,hs1]
       refine acall_pure (wordC hs hi _) ?_
       rcases hw:wordD s i s[i] with ⟨t,e⟩ | c
       ·simp only [go_sem,reduceIte,↓reduceIte,sevalprocAttr,Z0,Z1,bytesOf,gx0,gxk,sx0,sxk,tokAV,Tok.cells]
        first | exact ⟨rfl,_,rfl⟩ | exact ⟨_,rfl⟩
       ·simp only [go_sem,reduceIte,↓reduceIte,sevalprocAttr,Z0,Z1,bytesOf,gx0,gxk,sx0,sxk,tokAV]
        first | exact ⟨rfl,_,rfl⟩ | exact ⟨_,rfl⟩
     ·have d1:decide (((i+1:Nat):Int)<(s.length:Int))=false:=by simp; omega
      rw [if_neg (by simp [tick,hi1])]
      simp only [go_sem,reduceIte,↓reduceIte,sevalprocAttr,Z0,Z1,bytesOf,gx0,gxk,sx0,sxk,h39,wrN i (by omega),d1]
      intro _
      cases h34:decide ((s[i].toNat:Int)=34)
      ·rw [if_neg (of_decide_eq_false h34)]
       simp only [go_sem,reduceIte,↓reduceIte,sevalprocAttr,Z0,Z1,bytesOf,gx0,gxk,sx0,sxk,h34]
       refine acall_pure (signC hs (Nat.le_of_lt hi) _) ?_
       have hl:=signL_le (s.drop i) signs
       unfold signD
       generalize signL (s.drop i) signs=g at hl
       cases hgn:decide (g=[])
       ·have ew:wr .i64 ((i:Int)+(g.length:Int))=((i+g.length:Nat):Int):=by
         have:=hl.1
         simp at this
         rw [wr64 (by omega) (by omega)]; omega
        simp only [go_sem,reduceIte,↓reduceIte,sevalprocAttr,Z0,Z1,bytesOf,gx0,gxk,sx0,sxk,hgn,ew]
        intro _
        simp only [if_neg (of_decide_eq_false hgn)]
        first | exact ⟨rfl,_,rfl⟩ | exact ⟨_,rfl⟩
       ·simp only [go_sem,reduceIte,↓reduceIte,sevalprocAttr,Z0,Z1,bytesOf,gx0,gxk,sx0,sxk,hgn]
        simp only [if_pos (of_decide_eq_true hgn)]
        first | exact ⟨rfl,_,rfl⟩ | exact ⟨_,rfl⟩
      ·rw [if_pos (of_decide_eq_true h34)]
       simp only [go_sem,reduceIte,↓reduceIte,sevalprocAttr,Z0,Z1,bytesOf,gx0,gxk,sx0,sxk,h34]
       refine acall_pure (strC hs hi _) ?_
       unfold strD
       rcases hq:strGo s (i+1) [] with _ | ⟨t,e⟩
       ·simp only [go_sem,reduceIte,↓reduceIte,sevalprocAttr,Z0,Z1,bytesOf,gx0,gxk,sx0,sxk]
        first | exact ⟨rfl,_,rfl⟩ | exact ⟨_,rfl⟩
       ·simp only [go_sem,reduceIte,↓reduceIte,sevalprocAttr,Z0,Z1,bytesOf,gx0,gxk,sx0,sxk]
        first | exact ⟨rfl,_,rfl⟩ | exact ⟨_,rfl⟩
   ·simp only [go_sem,reduceIte,↓reduceIte,sevalprocAttr,Z0,Z1,bytesOf,gx0,gxk,sx0,sxk,hgr]
    rw [if_pos (by simp)]
    refine acall_pure (wordC hs hi _) ?_
    rcases hw:wordD s i s[i] with ⟨t,e⟩ | c
    ·simp only [go_sem,reduceIte,↓reduceIte,sevalprocAttr,Z0,Z1,bytesOf,gx0,gxk,sx0,sxk,tokAV,Tok.cells]
     first | exact ⟨rfl,_,rfl⟩ | exact ⟨_,rfl⟩
    ·simp only [go_sem,reduceIte,↓reduceIte,sevalprocAttr,Z0,Z1,bytesOf,gx0,gxk,sx0,sxk,tokAV]
     first | exact ⟨rfl,_,rfl⟩ | exact ⟨_,rfl⟩
  ·simp only [go_sem,reduceIte,↓reduceIte,sevalprocAttr,Z0,Z1,bytesOf,gx0,gxk,sx0,sxk,hsm]
   rw [if_pos (by simp)]
   refine acall_pure (wordC hs hi _) ?_
   rcases hw:wordD s i s[i] with ⟨t,e⟩ | c
   ·simp only [go_sem,reduceIte,↓reduceIte,sevalprocAttr,Z0,Z1,bytesOf,gx0,gxk,sx0,sxk,tokAV,Tok.cells]
    first | exact ⟨rfl,_,rfl⟩ | exact ⟨_,rfl⟩
   ·simp only [go_sem,reduceIte,↓reduceIte,sevalprocAttr,Z0,Z1,bytesOf,gx0,gxk,sx0,sxk,tokAV]
    first | exact ⟨rfl,_,rfl⟩ | exact ⟨_,rfl⟩
 ·rw [if_pos rfl]
  simp only [go_sem,reduceIte,↓reduceIte,sevalprocAttr,Z0,Z1,bytesOf,gx0,gxk,sx0,sxk,hd]
  refine acall_pure (numC hs hi hd (hg.ext _)) ?_
  rcases hw:numD s i s[i] with ⟨t,e⟩ | c
  ·simp only [go_sem,reduceIte,↓reduceIte,sevalprocAttr,Z0,Z1,bytesOf,gx0,gxk,sx0,sxk,tokAV,Tok.cells]
   first | exact ⟨rfl,_,rfl⟩ | exact ⟨_,rfl⟩
  ·simp only [go_sem,reduceIte,↓reduceIte,sevalprocAttr,Z0,Z1,bytesOf,gx0,gxk,sx0,sxk,tokAV]
   first | exact ⟨rfl,_,rfl⟩ | exact ⟨_,rfl⟩
theorem tokD_code {s:List UInt8} {i:Nat} {c:UInt8} {e:Int} (h:tokD s i c=.inr e):decide (e=0)=false:=by
 refine decide_eq_false ?_
 rintro rfl
 unfold tokD at h
 split at h
 ·simp only [numD] at h; split at h <;> simp at h
 split at h
 ·unfold wordD at h
  generalize (if (c.toNat:Int)=39 then i+1 else i)=f at h
  unfold wordF at h
  split at h <;> simp at h
 split at h
 ·simp only [strD] at h; split at h <;> simp at h
 ·simp only [signD] at h; split at h <;> simp at h
def toksR (l:List Tok):List (List AV):=l.map fun t=>t.cells.map .p
theorem toksR_len (l):(toksR l).length=l.length:=by simp [toksR]
theorem toksR_app (l t):toksR (l++[t])=toksR l++[t.cells.map .p]:=by simp [toksR]
theorem lent_rows {n id ver sz:Nat} {H:List AO} {ys:List (List PV)} (hn:n≤id) (h:H[id]?=some (.rows sz ver (ys.map fun y=>y.map .p))) (hs:∀ y∈ys,y.length=sz):LentN n H (.gs id ver 0 ys.length) (.p (.l ys)):=by
 refine .gs id ver 0 ys.length sz _ ys hn h (by simp) rfl hs ?_
 intro i r y j c q hr hy hc hq
 rw [Nat.zero_add,List.getElem?_map,hy] at hr
 cases hr
 rw [List.getElem?_map,hq] at hc
 cases hc
 exact .p _
theorem lent_toks {n id ver:Nat} {H:List AO} {l:List Tok} (hn:n≤id) (h:H[id]?=some (.rows 4 ver (toksR l))):LentN n H (.gs id ver 0 l.length) (.p (.l (l.map Tok.cells))):=by
 have:=lent_rows (ys:=l.map Tok.cells) hn (by rw [List.map_map]; exact h) (by intro y hy; obtain ⟨t,_,rfl⟩:=List.mem_map.1 hy; rfl)
 rwa [List.length_map] at this
abbrev ftC (c p:Int):AV:=.st [.p (.i .i64 c),.p (.i .i64 p)]
def lexAV:List Tok ⊕ (Int × Nat)→AV
 | .inl l=>.tup [.p (.l (l.map Tok.cells)),ftC 0 0]
 | .inr (c,i)=>.tup [.p (.l []),ftC c i]
theorem tf_ft (c p):Tf (ftC c p):=tf_st _ (by intro q hq; simp at hq; rcases hq with rfl | rfl <;> exact tf_p _)
theorem lent_two {n:Nat} {H:List AO} {a b c:AV} (h:LentN n H a b) (hc:Tf c):LentN n H (.tup [a,c]) (.tup [b,c]):=by
 refine .tup _ _ rfl fun j x y hx hy=>?_
 match j with
 | 0=>cases hx; cases hy; exact h
 | 1=>cases hx; cases hy; exact .tf _ hc
 | j+2=>simp at hx
structure LxI (H0:List AO) (out:List Tok) (a:AV) (H:List AO):Prop where
 fr:∀ (j:Nat) o,H0[j]?=some o→H[j]?=some o
 z5:H[H0.length]?=some (.var [.p (.i .i64 0),.p (.i .i64 0)])
 out:OwnR H a 4 (toksR out)
 new:∀ id v o m,a=.gs id v o m→H0.length<id
theorem LxI.ext {H0 out a H} (h:LxI H0 out a H) (A:List AO):LxI H0 out a (H++A) :=
 ⟨fun j o hj=>get_ext (h.fr j o hj) A,get_ext h.z5 A,h.out.ext,h.new⟩
theorem len_ownR {K:St→Prop} {st:St} {d:MD} {H:List AO} {a:AV} {sz:Nat} {rs:List (List AV)} (h:OwnR H a sz rs) (k:K (st.put d (.p (.i .i64 rs.length)))):lenK false a d K st:=by
 rcases h with ⟨rfl,rfl⟩ | ⟨id,ver,rfl,_⟩
 ·exact k
 ·exact fun _=>k
theorem LxI.app {H0 out a H} (h:LxI H0 out a H) {t:Tok} {id ver:Nat} {H4:List AO} (k1:H4[id]?=some (.rows 4 ver (toksR out++[t.cells.map .p]))) (k2:(∃ v o n,a=.gs id v o n)∨H.length≤id) (k3:∀ (j:Nat) o,H[j]?=some o→(∀ v o' n,a≠.gs j v o' n)→H4[j]?=some o):LxI H0 (out++[t]) (.gs id ver 0 (out.length+1)) H4:=by
 refine ⟨?_,?_,?_,?_⟩
 ·intro j o hj
  refine k3 j o (h.fr j o hj) (fun v o' n' e=>?_)
  have:=h.new _ _ _ _ e
  have:=get_lt hj
  omega
 ·refine k3 _ _ h.z5 (fun v o' n' e=>?_)
  have:=h.new _ _ _ _ e
  omega
 ·exact .inr ⟨id,ver,by simp [toksR_len],by rw [toksR_app]; exact k1⟩
 ·intro id' v o m' e
  cases e
  rcases k2 with ⟨v,o,n',e⟩ | h2
  ·exact h.new _ _ _ _ e
  ·have:=get_lt h.z5; omega
theorem lexAllC {s:List UInt8} {most:Nat} {H0:List AO} (hs:s.length≤1048576) (hm:most≤1048576) (hg:Rg H0) :
  ACall Tryz.prog 52 [.p (.s s),.p (.i .i64 most)] H0 (pureQ (lexAV (lexGo s most 0 [])) H0):=by
 refine acall_frz1 ?_
 generalize hR:lexGo s most 0 []=R
 refine call52 (by simp) ?_
 simp only [go_sem,reduceIte,↓reduceIte,sevalprocAttr,Z0,Z1,bytesOf,gx0,gxk,sx0,sxk,mc52,mr52]
 refine ⟨Nat × List Tok × AV × List AO,[0,1,5,6,7],fun x st=>(x.1≤s.length∧x.2.1.length≤x.1∧lexGo s most x.1 x.2.1=R∧LxI H0 x.2.1 x.2.2.1 x.2.2.2)∧st=⟨[(0,.p (.s s)),(1,.p (.i .i64 most)),(5,.ptr H0.length 0),(6,x.2.2.1),(7,.p (.i .i64 x.1))],[],x.2.2.2⟩,fun x=>s.length - x.1,⟨(0,[],.p .nl,H0++[.var [.p (.i .i64 0),.p (.i .i64 0)]]),?_⟩,?_⟩
 ·simp only [go_sem,reduceIte,↓reduceIte,sevalprocAttr,Z0,Z1,bytesOf]
  exact ⟨Nat.zero_le _,hR,⟨fun j o hj=>get_ext hj _,by rw [gx0]; rfl,.inl ⟨rfl,rfl⟩,fun _ _ _ _ e=>by cases e⟩⟩
 ·rintro ⟨i,out,a,H⟩ _ ⟨⟨h1,h2,h3,hI⟩,rfl⟩
  simp only at h1 h2 h3 hI ⊢
  by_cases hlt:i<s.length
  ·have d1:decide ((i:Int)<(s.length:Int))=true:=by simp; omega
   have hg1:s[i]?=some s[i]:=by simp [hlt]
   have ew:=wrN i (by omega)
   cases b1:decide ((s[i].toNat:Int)=32)
   rotate_left
   ·have hb:Pg.blank s[i]=true:=by simp [Pg.blank,b1]
    rw [lexGo_blank hlt hb] at h3
    simp only [go_sem,reduceIte,↓reduceIte,sevalprocAttr,Z0,Z1,bytesOf,d1,hg1,b1,ew]
    intro _
    exact ⟨(i+1,out,a,H),⟨⟨by simp only; omega,by simp only; omega,h3,hI⟩,rfl⟩,by simp only; omega⟩
   cases b2:decide ((s[i].toNat:Int)=9)
   rotate_left
   ·have hb:Pg.blank s[i]=true:=by simp [Pg.blank,b2]
    rw [lexGo_blank hlt hb] at h3
    simp only [go_sem,reduceIte,↓reduceIte,sevalprocAttr,Z0,Z1,bytesOf,d1,hg1,b1,b2,ew]
    intro _
    exact ⟨(i+1,out,a,H),⟨⟨by simp only; omega,by simp only; omega,h3,hI⟩,rfl⟩,by simp only; omega⟩
   cases b3:decide ((s[i].toNat:Int)=10)
   rotate_left
   ·have hb:Pg.blank s[i]=true:=by simp [Pg.blank,b3]
    rw [lexGo_blank hlt hb] at h3
    simp only [go_sem,reduceIte,↓reduceIte,sevalprocAttr,Z0,Z1,bytesOf,d1,hg1,b1,b2,b3,ew]
    intro _
    exact ⟨(i+1,out,a,H),⟨⟨by simp only; omega,by simp only; omega,h3,hI⟩,rfl⟩,by simp only; omega⟩
   have hb:Pg.blank s[i]=false:=by simp [Pg.blank,b1,b2,b3]
   cases b4:decide ((s[i].toNat:Int)=35)
   rotate_left
   ·have hc:=of_decide_eq_true b4
    have hgt:=nl_hash hlt hc
    have hle:=runAt_le isNl (s:=s) (i:=i) (by omega)
    rw [lexGo_hash hlt hb hc] at h3
    simp only [go_sem,reduceIte,↓reduceIte,sevalprocAttr,Z0,Z1,bytesOf,d1,hg1,b1,b2,b3,b4]
    intro _
    refine acall_pure (runC nlC hs (by omega) _) ?_
    simp only [go_sem,reduceIte,↓reduceIte,sevalprocAttr,Z0,Z1,bytesOf]
    exact ⟨(runAt isNl s i,out,a,H),⟨⟨by simp only; omega,by simp only; omega,h3,hI⟩,rfl⟩,by simp only; omega⟩
   have hc:=of_decide_eq_false b4
   simp only [go_sem,reduceIte,↓reduceIte,sevalprocAttr,Z0,Z1,bytesOf,d1,hg1,b1,b2,b3,b4]
   intro _
   refine acall_pure (oneC hs hlt (hg.keep hI.fr)) ?_
   rcases ht:tokD s i s[i] with ⟨t,e⟩ | c
   ·obtain ⟨g1,g2,_⟩:=tokD_gt hlt ht
    simp only [go_sem,reduceIte,↓reduceIte,sevalprocAttr,Z0,Z1,bytesOf,gx0,gxk,sx0,sxk,tokAV,Tok.cells]
    have hI2:=hI.ext [.var [.p (.i .i64 t.k),.p (.s t.t),.p (.i .i64 t.n),.p (.i .i64 t.p)],.var [.p (.i .i64 0),.p (.i .i64 0)]]
    refine len_ownR hI2.out ?_
    rw [toksR_len]
    by_cases hmm:out.length=most
    ·have d2:decide ((out.length:Int)=(most:Int))=true:=by simp; omega
     rw [lexGo_most hlt hb hc ht hmm] at h3
     have z5:=hI2.z5
     have fr:=hI2.fr
     generalize H++[.var [.p (.i .i64 t.k),.p (.s t.t),.p (.i .i64 t.n),.p (.i .i64 t.p)],.var [.p (.i .i64 0),.p (.i .i64 0)]]=H2 at z5 fr ⊢
     have hz:∀ o,(H2.set H0.length o)[H0.length]?=some o:=fun o=>set_get z5
     simp only [go_sem,reduceIte,↓reduceIte,sevalprocAttr,Z0,Z1,bytesOf,d2,z5,hz]
     obtain ⟨G,hG⟩:=pre_ext (H:=H0) (H':=H2.set H0.length (.var [.p (.i .i64 5),.p (.i .i64 i)])) fun j o hj=>get_set (fr j o hj) (by have:=get_lt hj; omega)
     rw [← h3]
     exact ⟨G,hG,lent_two .nl (tf_ft _ _)⟩
    ·have d2:decide ((out.length:Int)=(most:Int))=false:=by simp; omega
     rw [lexGo_tok hlt hb hc ht hmm] at h3
     simp only [go_sem,reduceIte,↓reduceIte,sevalprocAttr,Z0,Z1,bytesOf,gx0,gxk,sx0,sxk,d2]
     refine ⟨by intro r hr; simp at hr; subst hr; rfl,?_⟩
     refine app_fr (rs:=toksR out) (ys:=[t.cells.map .p]) (hI.ext _).out (by rw [toksR_len]; simp; omega) (by rw [toksR_len]; simp; omega) ?_
     intro id ver H4 k1 k2 k3 k4
     rw [toksR_len]
     simp only [go_sem,reduceIte,↓reduceIte,sevalprocAttr,Z0,Z1,bytesOf]
     exact ⟨(e,out++[t],.gs id ver 0 (out.length+1),H4),⟨⟨by simp only; omega,by simp; omega,h3,(hI.ext _).app k1 k2 k3⟩,rfl⟩,by simp only; omega⟩
   ·have hc0:=tokD_code ht
    rw [lexGo_err hlt hb hc ht] at h3
    have hI2:=hI.ext [.var [.p (.i .i64 0),.p (.s []),.p (.i .i64 0),.p (.i .i64 0)],.var [.p (.i .i64 c),.p (.i .i64 i)]]
    simp only [go_sem,reduceIte,↓reduceIte,sevalprocAttr,Z0,Z1,bytesOf,gx0,gxk,sx0,sxk,tokAV,hc0]
    have z5:=hI2.z5
    have fr:=hI2.fr
    have zc:(H++[.var [.p (.i .i64 0),.p (.s []),.p (.i .i64 0),.p (.i .i64 0)],.var [.p (.i .i64 c),.p (.i .i64 i)]])[H.length+1]?=some (.var [.p (.i .i64 c),.p (.i .i64 i)]):=by rw [gxk]; rfl
    generalize H++[.var [.p (.i .i64 0),.p (.s []),.p (.i .i64 0),.p (.i .i64 0)],.var [.p (.i .i64 c),.p (.i .i64 i)]]=H2 at z5 fr zc ⊢
    generalize H.length+1=b at zc ⊢
    have hz:∀ o,(H2.set H0.length o)[H0.length]?=some o:=fun o=>set_get z5
    refine drw_same ?_
    simp only [go_sem,reduceIte,↓reduceIte,sevalprocAttr,Z0,Z1,bytesOf,zc,z5,hz]
    obtain ⟨G,hG⟩:=pre_ext (H:=H0) (H':=H2.set H0.length (.var [.p (.i .i64 c),.p (.i .i64 i)])) fun j o hj=>get_set (fr j o hj) (by have:=get_lt hj; omega)
    rw [← h3]
    exact ⟨G,hG,lent_two .nl (tf_ft _ _)⟩
  ·have d1:decide ((i:Int)<(s.length:Int))=false:=by simp; omega
   rw [lexGo_end hlt] at h3
   simp only [go_sem,reduceIte,↓reduceIte,sevalprocAttr,Z0,Z1,bytesOf,gx0,gxk,sx0,sxk,d1]
   intro _ _
   refine ⟨by intro r hr; simp at hr; subst hr; rfl,?_⟩
   refine app_fr (rs:=toksR out) (ys:=[Tok.cells ⟨8,[],0,s.length⟩ |>.map .p]) (hI.ext _).out (by rw [toksR_len]; simp; omega) (by rw [toksR_len]; simp; omega) ?_
   intro id ver H4 k1 k2 k3 k4
   rw [toksR_len]
   have hJ:=(hI.ext _).app k1 k2 k3
   have z5:=hJ.z5
   have hz:∀ o,(H4.set H0.length o)[H0.length]?=some o:=fun o=>set_get z5
   simp only [go_sem,reduceIte,↓reduceIte,sevalprocAttr,Z0,Z1,bytesOf,z5,hz]
   obtain ⟨G,hG⟩:=pre_ext (H:=H0) (H':=H4.set H0.length (.var [.p (.i .i64 0),.p (.i .i64 0)])) fun j o hj=>get_set (hJ.fr j o hj) (by have:=get_lt hj; omega)
   rw [← h3]
   refine ⟨G,hG,lent_two ?_ (tf_ft _ _)⟩
   have hn:=hJ.new _ _ _ _ rfl
   have:=lent_toks (n:=H0.length) (l:=out++[⟨8,[],0,s.length⟩]) (Nat.le_of_lt hn) (H:=H4.set H0.length (.var [.p (.i .i64 0),.p (.i .i64 0)])) (id:=id) (ver:=ver) (get_set (by rw [toksR_app]; exact k1) (by omega))
   simpa using this
theorem lexC {s:List UInt8} {H0:List AO} (hs:s.length≤1048576) (hg:Rg H0):ACall Tryz.prog 28 [.p (.s s)] H0 (pureQ (lexAV (lexD s)) H0):=by
 refine acall_frz1 ?_
 refine call28 (by simp) ?_
 unfold lexD
 by_cases hl:4000<s.length
 ·have d1:decide ((4000:Int)<(s.length:Int))=true:=by simp; omega
  simp only [go_sem,reduceIte,↓reduceIte,sevalprocAttr,Z0,Z1,bytesOf,gx0,gxk,sx0,sxk,mc28,mr28,d1]
  intro _
  rw [if_pos hl]
  exact ⟨_,rfl,lent_two .nl (tf_ft _ _)⟩
 ·have d1:decide ((4000:Int)<(s.length:Int))=false:=by simp; omega
  simp only [go_sem,reduceIte,↓reduceIte,sevalprocAttr,Z0,Z1,bytesOf,gx0,gxk,sx0,sxk,mc28,mr28,d1]
  intro _
  rw [if_neg hl]
  refine acall_pure (lexAllC (most:=1200) hs (by omega) (hg.ext _)) ?_
  rcases lexGo s 1200 0 [] with l | ⟨c,i⟩
  ·simp only [go_sem,reduceIte,↓reduceIte,sevalprocAttr,Z0,Z1,bytesOf,gx0,gxk,sx0,sxk,lexAV]
   exact ⟨_,rfl,lent_two (.p _) (tf_ft _ _)⟩
  ·simp only [go_sem,reduceIte,↓reduceIte,sevalprocAttr,Z0,Z1,bytesOf,gx0,gxk,sx0,sxk,lexAV]
   exact ⟨_,rfl,lent_two (.p _) (tf_ft _ _)⟩
end Go.Proofs.YtghcmccjchdgeaaGreatDoor.Qp
/- The reference's lexer. -/
set_option linter.all false
namespace Go.Proofs.YtghcmccjchdgeaaGreatDoor.Qp
open Go.AM Mc Pg
def TestI (f:Nat) (q:UInt8→Bool):Prop:=∀ (c:UInt8) (H:List AO),ACall Tryz.prog f [.p (.i .i64 (c.toNat:Int))] H (pureQ (.p (.b (q c))) H)
theorem inC (n lo hi:Int) (H:List AO):ACall Tryz.prog 140 [.p (.i .i64 n),.p (.i .i64 lo),.p (.i .i64 hi)] H (pureQ (.p (.b (decide (lo≤n) && decide (n≤hi)))) H):=by
 refine call140 (by simp) ?_
 simp only [go_sem,reduceIte,↓reduceIte,sevalprocAttr,Z0,Z1,bytesOf,mc140,mr140]
 cases h:decide (lo≤n)
 ·simp only [go_sem,reduceIte,↓reduceIte,sevalprocAttr,Z0,Z1,bytesOf,h]
  exact ⟨by simp,rfl⟩
 ·simp only [go_sem,reduceIte,↓reduceIte,sevalprocAttr,Z0,Z1,bytesOf,h]
  exact ⟨by simp,rfl⟩
theorem lowerC:TestI 89 isSm:=by
 intro c H
 refine call89 (by simp) ?_
 simp only [go_sem,reduceIte,↓reduceIte,sevalprocAttr,Z0,Z1,bytesOf,mc89,mr89]
 refine acall_pure (inC _ _ _ H) ?_
 simp only [go_sem,reduceIte,↓reduceIte,sevalprocAttr,Z0,Z1,bytesOf]
 exact ⟨rfl,rfl⟩
theorem upperC:TestI 90 isGr:=by
 intro c H
 refine call90 (by simp) ?_
 simp only [go_sem,reduceIte,↓reduceIte,sevalprocAttr,Z0,Z1,bytesOf,mc90,mr90]
 refine acall_pure (inC _ _ _ H) ?_
 simp only [go_sem,reduceIte,↓reduceIte,sevalprocAttr,Z0,Z1,bytesOf]
 exact ⟨rfl,rfl⟩
theorem numIC:TestI 87 isDg:=by
 intro c H
 refine call87 (by simp) ?_
 simp only [go_sem,reduceIte,↓reduceIte,sevalprocAttr,Z0,Z1,bytesOf,mc87,mr87]
 refine acall_pure (inC _ _ _ H) ?_
 simp only [go_sem,reduceIte,↓reduceIte,sevalprocAttr,Z0,Z1,bytesOf]
 exact ⟨rfl,rfl⟩
theorem nameIC:TestI 141 isNm:=by
 intro c H
 refine call141 (by simp) ?_
 simp only [go_sem,reduceIte,↓reduceIte,sevalprocAttr,Z0,Z1,bytesOf,mc141,mr141]
 refine acall_pure (lowerC c H) ?_
 cases h1:isSm c
 ·simp only [go_sem,reduceIte,↓reduceIte,sevalprocAttr,Z0,Z1,bytesOf,h1]
  refine acall_pure (upperC c H) ?_
  cases h2:isGr c
  ·simp only [go_sem,reduceIte,↓reduceIte,sevalprocAttr,Z0,Z1,bytesOf,h2]
   refine acall_pure (numIC c H) ?_
   cases h3:isDg c
   ·simp only [go_sem,reduceIte,↓reduceIte,sevalprocAttr,Z0,Z1,bytesOf,h3]
    exact ⟨by simp [isNm,h1,h2,h3],rfl⟩
   ·simp only [go_sem,reduceIte,↓reduceIte,sevalprocAttr,Z0,Z1,bytesOf,h3]
    exact ⟨by simp [isNm,h1,h2,h3],rfl⟩
  ·simp only [go_sem,reduceIte,↓reduceIte,sevalprocAttr,Z0,Z1,bytesOf,h2]
   exact ⟨by simp [isNm,h1,h2],rfl⟩
 ·simp only [go_sem,reduceIte,↓reduceIte,sevalprocAttr,Z0,Z1,bytesOf,h1]
  exact ⟨by simp [isNm,h1],rfl⟩
theorem keyIC (t:List UInt8) (H:List AO):ACall Tryz.prog 142 [.p (.s t)] H (pureQ (.p (.b (isKey t))) H):=by
 refine acall_drop1 ?_ (tf_p _)
 refine call142 (by simp) ?_
 simp only [go_sem,reduceIte,↓reduceIte,sevalprocAttr,Z0,Z1,bytesOf,mc142,mr142]
 refine ⟨Nat,[0,2,3,4],fun x st=>(x≤19∧t ∉ keys.take x)∧st=⟨[(0,.p (.s t)),(2,.p (.b false)),(3,.gs H.length 0 0 19),(4,.p (.i .i64 x))],[],H++[.rows 1 0 (rowS keys)]⟩,fun x=>19 - x,⟨0,?_⟩,?_⟩
 ·simp only [go_sem,reduceIte,↓reduceIte,sevalprocAttr,Z0,Z1,bytesOf]
  exact ⟨by simp,rfl⟩
 ·rintro x _ ⟨⟨hx,hn⟩,rfl⟩
  have hlen:keys.length=19:=rfl
  by_cases hlt:x<19
  ·have hlt':x<keys.length:=hlt
   have d1:decide ((x:Int)<19)=true:=by simp; omega
   simp only [go_sem,reduceIte,↓reduceIte,sevalprocAttr,Z0,Z1,bytesOf,gx0,gxk,sx0,sxk,d1,rowS_at hlt']
   intro _
   by_cases ht:keys[x]=t
   ·have d2:decide (keys[x]=t)=true:=by simp [ht]
    simp only [go_sem,reduceIte,↓reduceIte,sevalprocAttr,Z0,Z1,bytesOf,gx0,gxk,sx0,sxk,d2]
    refine ⟨by omega,?_,_,rfl⟩
    have:isKey t=true:=by unfold isKey; exact decide_eq_true (by rw [← ht]; exact List.getElem_mem hlt')
    rw [this]
   ·have d2:decide (keys[x]=t)=false:=by simp [ht]
    simp only [go_sem,reduceIte,↓reduceIte,sevalprocAttr,Z0,Z1,bytesOf,gx0,gxk,sx0,sxk,d2,wrN x (by omega)]
    refine ⟨by omega,x+1,⟨⟨by omega,?_⟩,rfl⟩,by omega⟩
    rw [List.take_succ_eq_append_getElem hlt']
    simp only [List.mem_append,List.mem_singleton,not_or]
    exact ⟨hn,fun h=>ht h.symm⟩
  ·have d1:decide ((x:Int)<19)=false:=by simp; omega
   simp only [go_sem,reduceIte,↓reduceIte,sevalprocAttr,Z0,Z1,bytesOf,gx0,gxk,sx0,sxk,d1]
   intro _
   refine ⟨?_,_,rfl⟩
   rw [List.take_of_length_le (by omega)] at hn
   have:isKey t=false:=by unfold isKey; exact decide_eq_false hn
   rw [this]
def skipD (s:List UInt8) (i:Nat):Nat :=
 if h:i<s.length then
  if Pg.blank s[i] then skipD s (i+1)
  else if (s[i].toNat:Int)=35 then (if i<runAt isNl s i then skipD s (runAt isNl s i) else i) else i
 else i
termination_by s.length - i
theorem skip_lex {s : List UInt8} {most : Nat} {out : List Tok} : ∀ (n i : Nat), s.length - i ≤ n → i ≤ s.length → lexGo s most i out = lexGo s most (skipD s i) out ∧ i ≤ skipD s i ∧ skipD s i ≤ s.length ∧ ∀ (h : skipD s i < s.length), Pg.blank s[skipD s i] = false ∧ ¬ (s[skipD s i].toNat : Int) = 35 := by
  intro n
  induction n with
  | zero =>
    intro i hn hi
    rw [skipD, dif_neg (by omega)]
    exact ⟨rfl, Nat.le_refl _, hi, fun h => by omega⟩
  | succ n ih =>
    intro i hn hi
    by_cases h : i < s.length
    · cases hb : Pg.blank s[i] with
      | true =>
        obtain ⟨h1, h2, h3, h4⟩ := ih (i + 1) (by omega) (by omega)
        have e : skipD s i = skipD s (i + 1) := by rw [skipD, dif_pos h, if_pos hb]
        rw [lexGo_blank h hb, e]
        exact ⟨h1, by omega, h3, h4⟩
      | false =>
        by_cases hc : (s[i].toNat : Int) = 35
        · have hg := nl_hash h hc
          have hle := runAt_le isNl (s := s) (i := i) (by omega)
          obtain ⟨h1, h2, h3, h4⟩ := ih (runAt isNl s i) (by omega) hle
          have e : skipD s i = skipD s (runAt isNl s i) := by rw [skipD, dif_pos h, if_neg (by simp [hb]), if_pos hc, if_pos hg]
          rw [lexGo_hash h hb hc, e]
          exact ⟨h1, by omega, h3, h4⟩
        · have e : skipD s i = i := by rw [skipD, dif_pos h, if_neg (by simp [hb]), if_neg hc]
          rw [e]
          exact ⟨rfl, Nat.le_refl _, hi, fun _ => ⟨hb, hc⟩⟩
    · rw [skipD, dif_neg h]
      exact ⟨rfl, Nat.le_refl _, hi, fun h' => (h h').elim⟩
theorem skipC {s:List UInt8} (hs:s.length≤1048576) {i:Nat} (hi:i≤s.length) (H:List AO):ACall Tryz.prog 47 [.p (.s s),.p (.i .i64 i)] H (pureQ (.p (.i .i64 (skipD s i:Nat))) H):=by
 refine call47 (by simp) ?_
 simp only [go_sem,reduceIte,↓reduceIte,sevalprocAttr,Z0,Z1,bytesOf,mc47,mr47]
 refine ⟨Nat,[0,1,4],fun x st=>(i≤x∧x≤s.length∧skipD s x=skipD s i)∧st=⟨[(0,.p (.s s)),(1,.p (.i .i64 x)),(4,.p (.i .i64 0))],[],H⟩,fun x=>s.length - x,⟨i,?_⟩,?_⟩
 ·simp only [go_sem,reduceIte,↓reduceIte,sevalprocAttr,Z0,Z1,bytesOf]
  exact ⟨Nat.le_refl _,hi⟩
 ·rintro x _ ⟨⟨h1,h2,h3⟩,rfl⟩
  by_cases hlt:x<s.length
  ·have d1:decide ((x:Int)<(s.length:Int))=true:=by simp; omega
   have hg:s[x]?=some s[x]:=by simp [hlt]
   have ew:=wrN x (by omega)
   have step:Pg.blank s[x]=true→skipD s (x+1)=skipD s i:=fun hb=>by rw [← h3]; conv=>rhs; rw [skipD,dif_pos hlt,if_pos hb]
   cases b1:decide ((s[x].toNat:Int)=32)
   rotate_left
   ·simp only [go_sem,reduceIte,↓reduceIte,sevalprocAttr,Z0,Z1,bytesOf,d1,hg,b1,ew]
    intro _
    exact ⟨x+1,⟨⟨by omega,by omega,step (by simp [Pg.blank,b1])⟩,rfl⟩,by omega⟩
   cases b2:decide ((s[x].toNat:Int)=9)
   rotate_left
   ·simp only [go_sem,reduceIte,↓reduceIte,sevalprocAttr,Z0,Z1,bytesOf,d1,hg,b1,b2,ew]
    intro _
    exact ⟨x+1,⟨⟨by omega,by omega,step (by simp [Pg.blank,b2])⟩,rfl⟩,by omega⟩
   cases b3:decide ((s[x].toNat:Int)=10)
   rotate_left
   ·simp only [go_sem,reduceIte,↓reduceIte,sevalprocAttr,Z0,Z1,bytesOf,d1,hg,b1,b2,b3,ew]
    intro _
    exact ⟨x+1,⟨⟨by omega,by omega,step (by simp [Pg.blank,b3])⟩,rfl⟩,by omega⟩
   have hb:Pg.blank s[x]=false:=by simp [Pg.blank,b1,b2,b3]
   cases b4:decide ((s[x].toNat:Int)=35)
   rotate_left
   ·have hc:=of_decide_eq_true b4
    have hgt:=nl_hash hlt hc
    have hle:=runAt_le isNl (s:=s) (i:=x) (by omega)
    have e:skipD s x=skipD s (runAt isNl s x):=by rw [skipD,dif_pos hlt,if_neg (by simp [hb]),if_pos hc,if_pos hgt]
    simp only [go_sem,reduceIte,↓reduceIte,sevalprocAttr,Z0,Z1,bytesOf,d1,hg,b1,b2,b3,b4]
    intro _
    refine ⟨Nat,[0,1,4],fun y st=>(x≤y∧y≤s.length∧runAt isNl s y=runAt isNl s x)∧st=⟨[(0,.p (.s s)),(1,.p (.i .i64 y)),(4,.p (.i .i64 0))],[],H⟩,fun y=>s.length - y,⟨x,?_⟩,?_⟩
    ·simp only [go_sem,reduceIte,↓reduceIte,sevalprocAttr,Z0,Z1,bytesOf]
     exact ⟨Nat.le_refl _,h2⟩
    ·rintro y _ ⟨⟨k1,k2,k3⟩,rfl⟩
     by_cases hy:y<s.length
     ·have d2:decide ((y:Int)<(s.length:Int))=true:=by simp; omega
      have hgy:s[y]?=some s[y]:=by simp [hy]
      cases b5:decide ((s[y].toNat:Int)=10)
      ·simp only [go_sem,reduceIte,↓reduceIte,sevalprocAttr,Z0,Z1,bytesOf,d2,hgy,b5,wrN y (by omega)]
       intro _
       exact ⟨y+1,⟨⟨by omega,by omega,by rw [← k3,runAt_t hy (by simp [isNl,b5])]⟩,rfl⟩,by omega⟩
      ·have ey:y=runAt isNl s x:=by rw [← k3,runAt_f hy (by simp [isNl,b5])]
       simp only [go_sem,reduceIte,↓reduceIte,sevalprocAttr,Z0,Z1,bytesOf,d2,hgy,b5]
       intro _
       exact ⟨y,⟨⟨by omega,by omega,by rw [ey,← e,h3]⟩,rfl⟩,by omega⟩
     ·have d2:decide ((y:Int)<(s.length:Int))=false:=by simp; omega
      have ey:y=runAt isNl s x:=by rw [← k3,runAt_e _ (by omega)]
      simp only [go_sem,reduceIte,↓reduceIte,sevalprocAttr,Z0,Z1,bytesOf,d2]
      intro _
      exact ⟨y,⟨⟨by omega,by omega,by rw [ey,← e,h3]⟩,rfl⟩,by omega⟩
   ·have hc:=of_decide_eq_false b4
    have e:skipD s x=x:=by rw [skipD,dif_pos hlt,if_neg (by simp [hb]),if_neg hc]
    simp only [go_sem,reduceIte,↓reduceIte,sevalprocAttr,Z0,Z1,bytesOf,d1,hg,b1,b2,b3,b4]
    intro _
    refine ⟨?_,rfl⟩
    rw [← h3,e]
  ·have d1:decide ((x:Int)<(s.length:Int))=false:=by simp; omega
   simp only [go_sem,reduceIte,↓reduceIte,sevalprocAttr,Z0,Z1,bytesOf,d1]
   intro _
   refine ⟨?_,rfl⟩
   rw [← h3,skipD,dif_neg hlt]
end Go.Proofs.YtghcmccjchdgeaaGreatDoor.Qp
/- The reference's lexer: one token. -/
set_option linter.all false
namespace Go.Proofs.YtghcmccjchdgeaaGreatDoor.Qp
open Go.AM Mc Pg
def stokAV (x:(Tok × Nat) ⊕ Int) (e':Int):AV :=
 match x with
 | .inl (t,e)=>.tup [tv t,.p (.i .i64 (e:Int)),.p (.i .i64 0)]
 | .inr c=>.tup [.st [.p (.i .i64 0),.p (.s []),.p (.i .i64 0),.p (.i .i64 0)],.p (.i .i64 e'),.p (.i .i64 c)]
def TokC (f:Nat) (s:List UInt8) (i:Nat) (x:(Tok × Nat) ⊕ Int):Prop:=∀ H,ACall Tryz.prog f [.p (.s s),.p (.i .i64 (i:Int))] H (fun r H'=>(∃ e',r=stokAV x e')∧∃ G,H'=H++G)
theorem numV_app:∀ (l:List UInt8) (c:UInt8) (n:Nat),numV (l++[c]) n=numV l n * 10+(c.toNat - 48)
 | [],c,n=>rfl
 | a :: l,c,n=>by rw [List.cons_append,numV,numV,numV_app l c]
theorem pre_succ {s:List UInt8} {i x:Nat} (h:i≤x) (hx:x<s.length):(s.drop i).take (x+1 - i)=(s.drop i).take (x - i)++[s[x]]:=by
 have hl:x - i<(s.drop i).length:=by simp; omega
 rw [show x+1 - i=(x - i)+1 by omega,List.take_succ_eq_append_getElem hl]
 congr 2
 rw [List.getElem_drop]
 congr 1; omega
theorem figW {c:UInt8} (hc:isDg c=true):wr .u8 ((c.toNat:Int) - 48)=((c.toNat - 48:Nat):Int):=by
 have:=isDg_iff.1 hc
 simp [wr,IntKind.wrap,IntKind.bits,IntKind.signed]
 omega
theorem quoW {d:Nat} (hd:d≤9):wr .i64 ((wr .i64 (9223372036854775807 - wr .i64 (d:Int))).tdiv 10)=(((9223372036854775807 - d) / 10:Nat):Int):=by
 rw [wr64 (n:=(d:Int)) (by omega) (by omega),show (9223372036854775807 - (d:Int))=((9223372036854775807 - d:Nat):Int) by omega,wr64 (n:=((9223372036854775807 - d:Nat):Int)) (by omega) (by omega),show (10:Int)=((10:Nat):Int) from rfl,← Int.ofNat_tdiv,wr64 (by omega) (by omega)]
theorem digitsC {s : List UInt8} (hs : s.length ≤ 1048576) {i : Nat} (hi : i < s.length) : TokC 88 s i (numD s i s[i]) := by
  intro H
  have hgi : s[i]? = some s[i] := by simp [hi]
  refine call88 (by simp) ?_
  simp only [go_sem, reduceIte, ↓reduceIte, sevalprocAttr, Z0, Z1, bytesOf, gx0, gxk, sx0, sxk, mc88, mr88]
  refine ⟨Nat × Nat × Bool, [0, 1, 4, 5, 6, 7, 8, 9], fun x st => (i ≤ x.1 ∧ x.1 ≤ s.length ∧ runAt isDg s x.1 = runAt isDg s i ∧ x.2.1 ≤ maxI ∧ (x.2.2 = false → x.2.1 = numV ((s.drop i).take (x.1 - i)) 0) ∧ (x.2.2 = true → maxI < numV ((s.drop i).take (x.1 - i)) 0)) ∧ st = ⟨[(0, .p (.s s)), (1, .p (.i .i64 i)), (4, .ptr H.length 0), (5, .p (.i .i64 0)), (6, .p (.i .i64 0)), (7, .p (.i .i64 x.1)), (8, .p (.i .i64 x.2.1)), (9, .p (.b x.2.2))], [], H ++ [.var [.p (.i .i64 0), .p (.s []), .p (.i .i64 0), .p (.i .i64 0)]]⟩, fun x => s.length - x.1, ⟨(i, 0, false), ?_⟩, ?_⟩
  · simp only [go_sem, reduceIte, ↓reduceIte, sevalprocAttr, Z0, Z1, bytesOf, gx0, gxk, sx0, sxk]
    exact ⟨Nat.le_refl _, Nat.le_of_lt hi, Nat.zero_le _, fun _ => by simp [numV], fun h => h.elim⟩
  · rintro ⟨x, n, bad⟩ _ ⟨⟨h1, h2, h3, h4, h5, h6⟩, rfl⟩
    simp only at h1 h2 h3 h4 h5 h6 ⊢
    unfold maxI at h4
    by_cases hlt : x < s.length
    · have d1 : decide ((x : Int) < (s.length : Int)) = true := by simp; omega
      have hg : s[x]? = some s[x] := by simp [hlt]
      simp only [go_sem, reduceIte, ↓reduceIte, sevalprocAttr, Z0, Z1, bytesOf, gx0, gxk, sx0, sxk, d1, hg, byW]
      intro _
      refine acall_pure (numIC s[x] _) ?_
      cases hd : isDg s[x]
      · have ex : x = runAt isDg s i := by rw [← h3, runAt_f hlt hd]
        simp only [go_sem, reduceIte, ↓reduceIte, sevalprocAttr, Z0, Z1, bytesOf, gx0, gxk, sx0, sxk, hd]
        unfold numD
        rw [← ex]
        cases bad with
        | true =>
          have hv := h6 rfl
          simp only [go_sem, reduceIte, ↓reduceIte, sevalprocAttr, Z0, Z1, bytesOf, gx0, gxk, sx0, sxk, ]
          simp only [if_pos (Or.inl hv : maxI < _ ∨ _)]
          exact ⟨⟨(x : Int), rfl⟩, _, rfl⟩
        | false =>
          have hv := h5 rfl
          cases h48 : decide ((s[i].toNat : Int) = 48)
          · simp only [go_sem, reduceIte, ↓reduceIte, sevalprocAttr, Z0, Z1, bytesOf, gx0, gxk, sx0, sxk, hgi, h48]
            have hnc : ¬ (maxI < numV ((s.drop i).take (x - i)) 0 ∨ (1 < x - i ∧ (s[i].toNat : Int) = 48)) := by
              rintro (h | ⟨_, h⟩)
              · unfold maxI at h; omega
              · exact of_decide_eq_false h48 h
            simp only [if_neg hnc]
            simp only [← hv]
            exact ⟨⟨0, rfl⟩, _, rfl⟩
          · by_cases h1x : i + 1 < x
            · have d5 : decide (((i + 1 : Nat) : Int) < (x : Int)) = true := by simp; omega
              simp only [go_sem, reduceIte, ↓reduceIte, sevalprocAttr, Z0, Z1, bytesOf, gx0, gxk, sx0, sxk, hgi, h48, wrN i (by omega), d5]
              simp only [if_pos (Or.inr ⟨by omega, of_decide_eq_true h48⟩ : maxI < _ ∨ (1 < x - i ∧ (s[i].toNat : Int) = 48))]
              exact ⟨⟨(x : Int), rfl⟩, _, rfl⟩
            · have d5 : decide (((i + 1 : Nat) : Int) < (x : Int)) = false := by simp; omega
              simp only [go_sem, reduceIte, ↓reduceIte, sevalprocAttr, Z0, Z1, bytesOf, gx0, gxk, sx0, sxk, hgi, h48, wrN i (by omega), d5]
              have hnc : ¬ (maxI < numV ((s.drop i).take (x - i)) 0 ∨ (1 < x - i ∧ (s[i].toNat : Int) = 48)) := by
                rintro (h | ⟨h, _⟩)
                · unfold maxI at h; omega
                · omega
              simp only [if_neg hnc]
              simp only [← hv]
              exact ⟨⟨0, rfl⟩, _, rfl⟩
      · have hf := isDg_iff.1 hd
        have hw := figW hd
        have hq := quoW (d := s[x].toNat - 48) (by omega)
        have hpre := pre_succ h1 hlt
        have hrun : runAt isDg s (x + 1) = runAt isDg s i := by rw [← h3, runAt_t hlt hd]
        have hge := numV_app ((s.drop i).take (x - i)) s[x] 0
        rw [← hpre] at hge
        by_cases hbig : (9223372036854775807 - (s[x].toNat - 48)) / 10 < n
        · have d2 : decide ((((9223372036854775807 - (s[x].toNat - 48)) / 10 : Nat) : Int) < (n : Int)) = true := by simp; omega
          simp only [go_sem, reduceIte, ↓reduceIte, sevalprocAttr, Z0, Z1, bytesOf, gx0, gxk, sx0, sxk, hd, hg, hw, hq, d2, wrN x (by omega)]
          refine ⟨(x + 1, n, true), ⟨⟨by simp only; omega, by simp only; omega, hrun, h4, (fun h => by cases h), fun _ => ?_⟩, rfl⟩, by simp only; omega⟩
          show maxI < numV ((s.drop i).take (x + 1 - i)) 0
          rw [hge]
          unfold maxI
          cases bad with
          | true => have := h6 rfl; unfold maxI at this; omega
          | false => have := h5 rfl; omega
        · have d2 : decide ((((9223372036854775807 - (s[x].toNat - 48)) / 10 : Nat) : Int) < (n : Int)) = false := by simp; omega
          have e1 : wr .i64 ((n : Int) * 10) = ((n * 10 : Nat) : Int) := by rw [wr64 (by omega) (by omega)]; omega
          have e2 : wr .i64 (((n * 10 : Nat) : Int) + wr .i64 ((s[x].toNat - 48 : Nat) : Int)) = ((n * 10 + (s[x].toNat - 48) : Nat) : Int) := by
            rw [wr64 (n := ((s[x].toNat - 48 : Nat) : Int)) (by omega) (by omega), wr64 (by omega) (by omega)]; omega
          simp only [go_sem, reduceIte, ↓reduceIte, sevalprocAttr, Z0, Z1, bytesOf, gx0, gxk, sx0, sxk, hd, hg, hw, hq, d2, e1, e2, wrN x (by omega)]
          refine ⟨(x + 1, n * 10 + (s[x].toNat - 48), bad), ⟨⟨by simp only; omega, by simp only; omega, hrun, by unfold maxI; simp only; omega, fun h => ?_, fun h => ?_⟩, rfl⟩, by simp only; omega⟩
          · show n * 10 + (s[x].toNat - 48) = numV ((s.drop i).take (x + 1 - i)) 0
            rw [hge, h5 h]
          · show maxI < numV ((s.drop i).take (x + 1 - i)) 0
            rw [hge]
            have := h6 h
            omega
    · have d1 : decide ((x : Int) < (s.length : Int)) = false := by simp; omega
      have ex : x = runAt isDg s i := by rw [← h3, runAt_e _ (by omega)]
      simp only [go_sem, reduceIte, ↓reduceIte, sevalprocAttr, Z0, Z1, bytesOf, gx0, gxk, sx0, sxk, d1]
      intro _
      unfold numD
      rw [← ex]
      cases bad with
      | true =>
        have hv := h6 rfl
        simp only [go_sem, reduceIte, ↓reduceIte, sevalprocAttr, Z0, Z1, bytesOf, gx0, gxk, sx0, sxk, ]
        simp only [if_pos (Or.inl hv : maxI < _ ∨ _)]
        exact ⟨⟨(x : Int), rfl⟩, _, rfl⟩
      | false =>
        have hv := h5 rfl
        cases h48 : decide ((s[i].toNat : Int) = 48)
        · simp only [go_sem, reduceIte, ↓reduceIte, sevalprocAttr, Z0, Z1, bytesOf, gx0, gxk, sx0, sxk, hgi, h48]
          have hnc : ¬ (maxI < numV ((s.drop i).take (x - i)) 0 ∨ (1 < x - i ∧ (s[i].toNat : Int) = 48)) := by
            rintro (h | ⟨_, h⟩)
            · unfold maxI at h; omega
            · exact of_decide_eq_false h48 h
          simp only [if_neg hnc]
          simp only [← hv]
          exact ⟨⟨0, rfl⟩, _, rfl⟩
        · by_cases h1x : i + 1 < x
          · have d5 : decide (((i + 1 : Nat) : Int) < (x : Int)) = true := by simp; omega
            simp only [go_sem, reduceIte, ↓reduceIte, sevalprocAttr, Z0, Z1, bytesOf, gx0, gxk, sx0, sxk, hgi, h48, wrN i (by omega), d5]
            simp only [if_pos (Or.inr ⟨by omega, of_decide_eq_true h48⟩ : maxI < _ ∨ (1 < x - i ∧ (s[i].toNat : Int) = 48))]
            exact ⟨⟨(x : Int), rfl⟩, _, rfl⟩
          · have d5 : decide (((i + 1 : Nat) : Int) < (x : Int)) = false := by simp; omega
            simp only [go_sem, reduceIte, ↓reduceIte, sevalprocAttr, Z0, Z1, bytesOf, gx0, gxk, sx0, sxk, hgi, h48, wrN i (by omega), d5]
            have hnc : ¬ (maxI < numV ((s.drop i).take (x - i)) 0 ∨ (1 < x - i ∧ (s[i].toNat : Int) = 48)) := by
              rintro (h | ⟨h, _⟩)
              · unfold maxI at h; omega
              · omega
            simp only [if_neg hnc]
            simp only [← hv]
            exact ⟨⟨0, rfl⟩, _, rfl⟩
end Go.Proofs.YtghcmccjchdgeaaGreatDoor.Qp
/- The reference's lexer: names, strings, one token, all. -/
set_option linter.all false
namespace Go.Proofs.YtghcmccjchdgeaaGreatDoor.Qp
open Go.AM Mc Pg
theorem wordIC {s:List UInt8} (hs:s.length≤1048576) {i:Nat} (hi:i<s.length):TokC 91 s i (wordD s i s[i]):=by
 intro H
 have hgi:s[i]?=some s[i]:=by simp [hi]
 obtain ⟨f,hf⟩:∃ f,f=(if (s[i].toNat:Int)=39 then i+1 else i):=⟨_,rfl⟩
 have hfl:i≤f∧f≤s.length:=by rw [hf]; split <;> omega
 have hwd:wordD s i s[i]=wordF s i s[i] f:=by rw [hf]; rfl
 rw [hwd]
 refine call91 (by simp) ?_
 cases h39:decide ((s[i].toNat:Int)=39)
 ·have ef:f=i:=by rw [hf,if_neg (of_decide_eq_false h39)]
  clear hf hwd
  simp only [go_sem,reduceIte,↓reduceIte,sevalprocAttr,Z0,Z1,bytesOf,gx0,gxk,sx0,sxk,mc91,mr91,hgi,h39]
  subst f
  refine ⟨Nat,[0,1,4,5,6,7,8],fun x st=>(i≤x∧x≤s.length∧runAt isNm s x=runAt isNm s i)∧st=⟨[(0,.p (.s s)),(1,.p (.i .i64 i)),(4,.ptr H.length 0),(5,.p (.i .i64 0)),(6,.p (.i .i64 0)),(7,.p (.i .i64 i)),(8,.p (.i .i64 x))],[],H++[.var [.p (.i .i64 0),.p (.s []),.p (.i .i64 0),.p (.i .i64 0)]]⟩,fun x=>s.length - x,⟨i,?_⟩,?_⟩
  ·simp only [go_sem,reduceIte,↓reduceIte,sevalprocAttr,Z0,Z1,bytesOf,gx0,gxk,sx0,sxk]
   exact ⟨Nat.le_refl _,hfl.2⟩
  ·rintro x _ ⟨⟨h1,h2,h3⟩,rfl⟩
   by_cases hlt:x<s.length
   ·have d1:decide ((x:Int)<(s.length:Int))=true:=by simp; omega
    have hg:s[x]?=some s[x]:=by simp [hlt]
    simp only [go_sem,reduceIte,↓reduceIte,sevalprocAttr,Z0,Z1,bytesOf,gx0,gxk,sx0,sxk,d1,hg,byW]
    intro _
    refine acall_pure (nameIC s[x] _) ?_
    cases hd:isNm s[x]
    ·have ex:x=runAt isNm s i:=by rw [← h3,runAt_f hlt hd]
     have ew:wr .i64 ((x:Int) - (i:Int))=((x - i:Nat):Int):=by rw [wr64 (by omega) (by omega)]; omega
     unfold wordF
     rw [← ex]
     by_cases h12:12<x - i
     ·have d2:decide ((12:Int)<((x - i:Nat):Int))=true:=by simp; omega
      simp only [go_sem,reduceIte,↓reduceIte,sevalprocAttr,Z0,Z1,bytesOf,gx0,gxk,sx0,sxk,hd,ew,d2]
      refine ⟨by omega,by omega,?_⟩
      rw [if_pos h12]
      exact ⟨⟨(x:Int),rfl⟩,_,rfl⟩
     ·have d2:decide ((12:Int)<((x - i:Nat):Int))=false:=by simp; omega
      rw [if_neg h12]
      have d3:decide ((i:Int)<(i:Int))=false:=by simp
      have hgf:s[i]?=some s[i]:=hgi
      simp only [go_sem,reduceIte,↓reduceIte,sevalprocAttr,Z0,Z1,bytesOf,gx0,gxk,sx0,sxk,hd,ew,d2,d3,hgf,byW]
      refine ⟨by omega,by omega,?_⟩
      refine acall_pure (upperC s[i] _) ?_
      rw [if_neg (of_decide_eq_false h39)]
      cases hgr:isGr s[i]
      ·simp only [go_sem,reduceIte,↓reduceIte,sevalprocAttr,Z0,Z1,bytesOf,gx0,gxk,sx0,sxk,hgr]
       refine acall_pure (keyIC _ _) ?_
       cases hk:isKey ((s.drop i).take (x - i))
       ·simp only [go_sem,reduceIte,↓reduceIte,sevalprocAttr,Z0,Z1,bytesOf,gx0,gxk,sx0,sxk,hk]
        exact ⟨⟨0,rfl⟩,_,rfl⟩
       ·simp only [go_sem,reduceIte,↓reduceIte,sevalprocAttr,Z0,Z1,bytesOf,gx0,gxk,sx0,sxk,hk]
        exact ⟨⟨0,rfl⟩,_,rfl⟩
      ·simp only [go_sem,reduceIte,↓reduceIte,sevalprocAttr,Z0,Z1,bytesOf,gx0,gxk,sx0,sxk,hgr]
       exact ⟨⟨0,rfl⟩,_,rfl⟩
    ·simp only [go_sem,reduceIte,↓reduceIte,sevalprocAttr,Z0,Z1,bytesOf,gx0,gxk,sx0,sxk,hd,wrN x (by omega)]
     exact ⟨x+1,⟨⟨by omega,by omega,by rw [← h3,runAt_t hlt hd]⟩,rfl⟩,by omega⟩
   ·have d1:decide ((x:Int)<(s.length:Int))=false:=by simp; omega
    have ex:x=runAt isNm s i:=by rw [← h3,runAt_e _ (by omega)]
    have ew:wr .i64 ((x:Int) - (i:Int))=((x - i:Nat):Int):=by rw [wr64 (by omega) (by omega)]; omega
    unfold wordF
    rw [← ex]
    by_cases h12:12<x - i
    ·have d2:decide ((12:Int)<((x - i:Nat):Int))=true:=by simp; omega
     simp only [go_sem,reduceIte,↓reduceIte,sevalprocAttr,Z0,Z1,bytesOf,gx0,gxk,sx0,sxk,d1,ew,d2]
     intro _; refine ⟨by omega,by omega,?_⟩
     rw [if_pos h12]
     exact ⟨⟨(x:Int),rfl⟩,_,rfl⟩
    ·have d2:decide ((12:Int)<((x - i:Nat):Int))=false:=by simp; omega
     rw [if_neg h12]
     have d3:decide ((i:Int)<(i:Int))=false:=by simp
     have hgf:s[i]?=some s[i]:=hgi
     simp only [go_sem,reduceIte,↓reduceIte,sevalprocAttr,Z0,Z1,bytesOf,gx0,gxk,sx0,sxk,d1,ew,d2,d3,hgf,byW]
     intro _; refine ⟨by omega,by omega,?_⟩
     refine acall_pure (upperC s[i] _) ?_
     rw [if_neg (of_decide_eq_false h39)]
     cases hgr:isGr s[i]
     ·simp only [go_sem,reduceIte,↓reduceIte,sevalprocAttr,Z0,Z1,bytesOf,gx0,gxk,sx0,sxk,hgr]
      refine acall_pure (keyIC _ _) ?_
      cases hk:isKey ((s.drop i).take (x - i))
      ·simp only [go_sem,reduceIte,↓reduceIte,sevalprocAttr,Z0,Z1,bytesOf,gx0,gxk,sx0,sxk,hk]
       exact ⟨⟨0,rfl⟩,_,rfl⟩
      ·simp only [go_sem,reduceIte,↓reduceIte,sevalprocAttr,Z0,Z1,bytesOf,gx0,gxk,sx0,sxk,hk]
       exact ⟨⟨0,rfl⟩,_,rfl⟩
     ·simp only [go_sem,reduceIte,↓reduceIte,sevalprocAttr,Z0,Z1,bytesOf,gx0,gxk,sx0,sxk,hgr]
      exact ⟨⟨0,rfl⟩,_,rfl⟩
 ·have ef:f=i+1:=by rw [hf,if_pos (of_decide_eq_true h39)]
  clear hf hwd
  simp only [go_sem,reduceIte,↓reduceIte,sevalprocAttr,Z0,Z1,bytesOf,gx0,gxk,sx0,sxk,mc91,mr91,hgi,h39,wrN i (by omega)]
  rw [← ef]
  refine ⟨Nat,[0,1,4,5,6,7,8],fun x st=>(f≤x∧x≤s.length∧runAt isNm s x=runAt isNm s f)∧st=⟨[(0,.p (.s s)),(1,.p (.i .i64 i)),(4,.ptr H.length 0),(5,.p (.i .i64 0)),(6,.p (.i .i64 0)),(7,.p (.i .i64 f)),(8,.p (.i .i64 x))],[],H++[.var [.p (.i .i64 0),.p (.s []),.p (.i .i64 0),.p (.i .i64 0)]]⟩,fun x=>s.length - x,⟨f,?_⟩,?_⟩
  ·simp only [go_sem,reduceIte,↓reduceIte,sevalprocAttr,Z0,Z1,bytesOf,gx0,gxk,sx0,sxk]
   exact ⟨Nat.le_refl _,hfl.2⟩
  ·rintro x _ ⟨⟨h1,h2,h3⟩,rfl⟩
   by_cases hlt:x<s.length
   ·have d1:decide ((x:Int)<(s.length:Int))=true:=by simp; omega
    have hg:s[x]?=some s[x]:=by simp [hlt]
    simp only [go_sem,reduceIte,↓reduceIte,sevalprocAttr,Z0,Z1,bytesOf,gx0,gxk,sx0,sxk,d1,hg,byW]
    intro _
    refine acall_pure (nameIC s[x] _) ?_
    cases hd:isNm s[x]
    ·have ex:x=runAt isNm s f:=by rw [← h3,runAt_f hlt hd]
     have ew:wr .i64 ((x:Int) - (f:Int))=((x - f:Nat):Int):=by rw [wr64 (by omega) (by omega)]; omega
     unfold wordF
     rw [← ex]
     by_cases h12:12<x - f
     ·have d2:decide ((12:Int)<((x - f:Nat):Int))=true:=by simp; omega
      simp only [go_sem,reduceIte,↓reduceIte,sevalprocAttr,Z0,Z1,bytesOf,gx0,gxk,sx0,sxk,hd,ew,d2]
      refine ⟨by omega,by omega,?_⟩
      rw [if_pos h12]
      exact ⟨⟨(x:Int),rfl⟩,_,rfl⟩
     ·have d2:decide ((12:Int)<((x - f:Nat):Int))=false:=by simp; omega
      rw [if_neg h12]
      have d3:decide ((i:Int)<(f:Int))=true:=by simp; omega
      simp only [go_sem,reduceIte,↓reduceIte,sevalprocAttr,Z0,Z1,bytesOf,gx0,gxk,sx0,sxk,hd,ew,d2,d3]
      refine ⟨by omega,by omega,?_⟩
      rw [if_pos (of_decide_eq_true h39)]
      exact ⟨⟨0,rfl⟩,_,rfl⟩
    ·simp only [go_sem,reduceIte,↓reduceIte,sevalprocAttr,Z0,Z1,bytesOf,gx0,gxk,sx0,sxk,hd,wrN x (by omega)]
     exact ⟨x+1,⟨⟨by omega,by omega,by rw [← h3,runAt_t hlt hd]⟩,rfl⟩,by omega⟩
   ·have d1:decide ((x:Int)<(s.length:Int))=false:=by simp; omega
    have ex:x=runAt isNm s f:=by rw [← h3,runAt_e _ (by omega)]
    have ew:wr .i64 ((x:Int) - (f:Int))=((x - f:Nat):Int):=by rw [wr64 (by omega) (by omega)]; omega
    unfold wordF
    rw [← ex]
    by_cases h12:12<x - f
    ·have d2:decide ((12:Int)<((x - f:Nat):Int))=true:=by simp; omega
     simp only [go_sem,reduceIte,↓reduceIte,sevalprocAttr,Z0,Z1,bytesOf,gx0,gxk,sx0,sxk,d1,ew,d2]
     intro _; refine ⟨by omega,by omega,?_⟩
     rw [if_pos h12]
     exact ⟨⟨(x:Int),rfl⟩,_,rfl⟩
    ·have d2:decide ((12:Int)<((x - f:Nat):Int))=false:=by simp; omega
     rw [if_neg h12]
     have d3:decide ((i:Int)<(f:Int))=true:=by simp; omega
     simp only [go_sem,reduceIte,↓reduceIte,sevalprocAttr,Z0,Z1,bytesOf,gx0,gxk,sx0,sxk,d1,ew,d2,d3]
     intro _; refine ⟨by omega,by omega,?_⟩
     rw [if_pos (of_decide_eq_true h39)]
     exact ⟨⟨0,rfl⟩,_,rfl⟩
theorem strIC {s:List UInt8} (hs:s.length≤1048576) {i:Nat} (hi:i<s.length):TokC 92 s i (strD s i):=by
 intro H
 unfold strD
 generalize hR:strGo s (i+1) []=R
 refine call92 (by simp) ?_
 simp only [go_sem,reduceIte,↓reduceIte,sevalprocAttr,Z0,Z1,bytesOf,gx0,gxk,sx0,sxk,mc92,mr92,wrN i (by omega)]
 refine ⟨Nat × List UInt8 × AV × List AO,[0,1,4,5,6,7,8],fun x st=>(x.1≤s.length∧x.2.1.length≤x.1∧strGo s x.1 x.2.1=R∧OwnR x.2.2.2 x.2.2.1 1 (byteR x.2.1)∧(∀ id v o m,x.2.2.1=.gs id v o m→H.length<id)∧x.2.2.2[H.length]?=some (.var [.p (.i .i64 0),.p (.s []),.p (.i .i64 0),.p (.i .i64 0)])∧∀ (j:Nat) o,H[j]?=some o→x.2.2.2[j]?=some o)∧st=⟨[(0,.p (.s s)),(1,.p (.i .i64 i)),(4,.ptr H.length 0),(5,.p (.i .i64 0)),(6,.p (.i .i64 0)),(7,x.2.2.1),(8,.p (.i .i64 x.1))],[],x.2.2.2⟩,fun x=>s.length - x.1,⟨(i+1,[],.gs (H.length+1) 0 0 0,H++[.var [.p (.i .i64 0),.p (.s []),.p (.i .i64 0),.p (.i .i64 0)],.rows 1 0 []]),?_⟩,?_⟩
 ·simp only [go_sem,reduceIte,↓reduceIte,sevalprocAttr,Z0,Z1,bytesOf]
  refine ⟨hi,hR,.inr ⟨_,0,rfl,by rw [gxk]; rfl⟩,?_,fun _ _ h=>get_ext h _⟩
  intro id v o m e; cases e; omega
 ·rintro ⟨x,out,a,H1⟩ _ ⟨⟨h1,h2,h3,h4,h5,h7,h6⟩,rfl⟩
  simp only at h1 h2 h3 h4 h5 h6 h7 ⊢
  by_cases hlt:x<s.length
  ·have d1:decide ((x:Int)<(s.length:Int))=true:=by simp; omega
   have hg:s[x]?=some s[x]:=by simp [hlt]
   rw [strGo,dif_pos hlt] at h3
   simp only [go_sem,reduceIte,↓reduceIte,sevalprocAttr,Z0,Z1,bytesOf,d1,hg]
   intro _
   cases h34:decide ((s[x].toNat:Int)=34)
   ·have n34:=of_decide_eq_false h34
    rw [if_neg n34] at h3
    cases h92:decide ((s[x].toNat:Int)=92)
    ·have n92:=of_decide_eq_false h92
     rw [if_neg n92] at h3
     simp only [go_sem,reduceIte,↓reduceIte,sevalprocAttr,Z0,Z1,bytesOf,h34,h92,byW]
     refine acall_pure (inC _ _ _ _) ?_
     cases hp:isPl s[x]
     ·have hp':=hp
      unfold isPl at hp'
      rw [hp] at h3
      have hz:∀ o,(H1.set H.length o)[H.length]?=some o:=fun o=>set_get h7
      simp only [go_sem,reduceIte,↓reduceIte,sevalprocAttr,Z0,Z1,bytesOf,hp',h7,hz]
      rw [← h3]
      exact ⟨⟨(x:Int),rfl⟩,pre_ext fun j o hj=>get_set (h6 j o hj) (by have:=get_lt hj; omega)⟩
     ·have hp':=hp
      unfold isPl at hp'
      rw [if_pos hp] at h3
      simp only [go_sem,reduceIte,↓reduceIte,sevalprocAttr,Z0,Z1,bytesOf,hp']
      refine ⟨by intro r hr; simp at hr; subst hr; rfl,?_⟩
      refine app_fr (rs:=byteR out) (ys:=[[by1 s[x]]]) h4.ext (by rw [byteR_len]; simp; omega) (by rw [byteR_len]; simp; omega) ?_
      intro id ver H4 k1 k2 k3 k4
      rw [byteR_len]
      simp only [go_sem,reduceIte,↓reduceIte,sevalprocAttr,Z0,Z1,bytesOf,wrN x (by omega)]
      refine ⟨(x+1,out++[s[x]],.gs id ver 0 (out.length+1),H4),⟨⟨by simp only; omega,by simp; omega,h3,.inr ⟨id,ver,by simp [byteR_len],by rw [byteR_app]; exact k1⟩,?_,?_,?_⟩,rfl⟩,by simp only; omega⟩
      ·intro id' v o m' e
       cases e
       rcases k2 with ⟨v,o,n',e⟩ | h
       ·exact h5 _ _ _ _ e
       ·have:=get_lt h7; simp at h; omega
      ·refine k3 _ _ (get_ext h7 _) (fun v o' n' e=>?_)
       have:=h5 _ _ _ _ e
       omega
      ·intro j o hj
       refine k3 j o (get_ext (h6 j o hj) _) (fun v o' n' e=>?_)
       have:=h5 _ _ _ _ e
       have:=get_lt hj
       omega
    ·have n92:=of_decide_eq_true h92
     rw [if_pos n92] at h3
     by_cases hx1:x+1<s.length
     ·have hg1:s[x+1]?=some s[x+1]:=by simp [hx1]
      have d2:decide (((x+1:Nat):Int)<(s.length:Int))=true:=by simp; omega
      rw [dif_pos hx1] at h3
      cases h110:decide ((s[x+1].toNat:Int)=110)
      ·rw [if_neg (of_decide_eq_false h110)] at h3
       cases hq:decide ((s[x+1].toNat:Int)=34)
       ·cases hw:decide ((s[x+1].toNat:Int)=92)
        ·rw [if_neg (by rw [not_or]; exact ⟨of_decide_eq_false hq,of_decide_eq_false hw⟩)] at h3
         have hz:∀ o,(H1.set H.length o)[H.length]?=some o:=fun o=>set_get h7
         simp only [go_sem,reduceIte,↓reduceIte,sevalprocAttr,Z0,Z1,bytesOf,h34,h92,wrN x (by omega),d2,hg1,h110,hq,hw,h7,hz]
         intro _; rw [← h3]
         exact ⟨⟨(x:Int),rfl⟩,pre_ext fun j o hj=>get_set (h6 j o hj) (by have:=get_lt hj; omega)⟩
        ·rw [if_pos (.inr (of_decide_eq_true hw))] at h3
         simp only [go_sem,reduceIte,↓reduceIte,sevalprocAttr,Z0,Z1,bytesOf,h34,h92,wrN x (by omega),d2,hg1,h110,hq,hw]
         intro _
         refine ⟨by intro r hr; simp at hr; subst hr; rfl,?_⟩
         refine app_fr (rs:=byteR out) (ys:=[[by1 s[x+1]]]) h4.ext (by rw [byteR_len]; simp; omega) (by rw [byteR_len]; simp; omega) ?_
         intro id ver H4 k1 k2 k3 k4
         rw [byteR_len]
         simp only [go_sem,reduceIte,↓reduceIte,sevalprocAttr,Z0,Z1,bytesOf,wrN (x+1) (by omega)]
         refine ⟨(x+2,out++[s[x+1]],.gs id ver 0 (out.length+1),H4),⟨⟨by simp only; omega,by simp; omega,h3,.inr ⟨id,ver,by simp [byteR_len],by rw [byteR_app]; exact k1⟩,?_,?_,?_⟩,rfl⟩,by simp only; omega⟩
         ·intro id' v o m' e
          cases e
          rcases k2 with ⟨v,o,n',e⟩ | h
          ·exact h5 _ _ _ _ e
          ·have:=get_lt h7; simp at h; omega
         ·refine k3 _ _ (get_ext h7 _) (fun v o' n' e=>?_)
          have:=h5 _ _ _ _ e
          omega
         ·intro j o hj
          refine k3 j o (get_ext (h6 j o hj) _) (fun v o' n' e=>?_)
          have:=h5 _ _ _ _ e
          have:=get_lt hj
          omega
       ·rw [if_pos (.inl (of_decide_eq_true hq))] at h3
        simp only [go_sem,reduceIte,↓reduceIte,sevalprocAttr,Z0,Z1,bytesOf,h34,h92,wrN x (by omega),d2,hg1,h110,hq]
        intro _
        refine ⟨by intro r hr; simp at hr; subst hr; rfl,?_⟩
        refine app_fr (rs:=byteR out) (ys:=[[by1 s[x+1]]]) h4.ext (by rw [byteR_len]; simp; omega) (by rw [byteR_len]; simp; omega) ?_
        intro id ver H4 k1 k2 k3 k4
        rw [byteR_len]
        simp only [go_sem,reduceIte,↓reduceIte,sevalprocAttr,Z0,Z1,bytesOf,wrN (x+1) (by omega)]
        refine ⟨(x+2,out++[s[x+1]],.gs id ver 0 (out.length+1),H4),⟨⟨by simp only; omega,by simp; omega,h3,.inr ⟨id,ver,by simp [byteR_len],by rw [byteR_app]; exact k1⟩,?_,?_,?_⟩,rfl⟩,by simp only; omega⟩
        ·intro id' v o m' e
         cases e
         rcases k2 with ⟨v,o,n',e⟩ | h
         ·exact h5 _ _ _ _ e
         ·have:=get_lt h7; simp at h; omega
        ·refine k3 _ _ (get_ext h7 _) (fun v o' n' e=>?_)
         have:=h5 _ _ _ _ e
         omega
        ·intro j o hj
         refine k3 j o (get_ext (h6 j o hj) _) (fun v o' n' e=>?_)
         have:=h5 _ _ _ _ e
         have:=get_lt hj
         omega
      ·rw [if_pos (of_decide_eq_true h110)] at h3
       simp only [go_sem,reduceIte,↓reduceIte,sevalprocAttr,Z0,Z1,bytesOf,h34,h92,wrN x (by omega),d2,hg1,h110]
       intro _
       refine ⟨by intro r hr; simp at hr; subst hr; rfl,?_⟩
       refine app_fr (rs:=byteR out) (ys:=[[by1 10]]) h4.ext (by rw [byteR_len]; simp; omega) (by rw [byteR_len]; simp; omega) ?_
       intro id ver H4 k1 k2 k3 k4
       rw [byteR_len]
       simp only [go_sem,reduceIte,↓reduceIte,sevalprocAttr,Z0,Z1,bytesOf,wrN (x+1) (by omega)]
       refine ⟨(x+2,out++[10],.gs id ver 0 (out.length+1),H4),⟨⟨by simp only; omega,by simp; omega,h3,.inr ⟨id,ver,by simp [byteR_len],by rw [byteR_app]; exact k1⟩,?_,?_,?_⟩,rfl⟩,by simp only; omega⟩
       ·intro id' v o m' e
        cases e
        rcases k2 with ⟨v,o,n',e⟩ | h
        ·exact h5 _ _ _ _ e
        ·have:=get_lt h7; simp at h; omega
       ·refine k3 _ _ (get_ext h7 _) (fun v o' n' e=>?_)
        have:=h5 _ _ _ _ e
        omega
       ·intro j o hj
        refine k3 j o (get_ext (h6 j o hj) _) (fun v o' n' e=>?_)
        have:=h5 _ _ _ _ e
        have:=get_lt hj
        omega
     ·have d2:decide (((x+1:Nat):Int)<(s.length:Int))=false:=by simp; omega
      rw [dif_neg hx1] at h3
      have hz:∀ o,(H1.set H.length o)[H.length]?=some o:=fun o=>set_get h7
      simp only [go_sem,reduceIte,↓reduceIte,sevalprocAttr,Z0,Z1,bytesOf,h34,h92,wrN x (by omega),d2,h7,hz]
      intro _; rw [← h3]
      exact ⟨⟨(x:Int),rfl⟩,pre_ext fun j o hj=>get_set (h6 j o hj) (by have:=get_lt hj; omega)⟩
   ·rw [if_pos (of_decide_eq_true h34)] at h3
    have hb:=own_b2s h4 (by omega)
    have hz:∀ o,(H1.set H.length o)[H.length]?=some o:=fun o=>set_get h7
    simp only [go_sem,reduceIte,↓reduceIte,sevalprocAttr,Z0,Z1,bytesOf,h34,hb,wrN x (by omega),h7,hz]
    rw [← h3]
    exact ⟨⟨0,rfl⟩,pre_ext fun j o hj=>get_set (h6 j o hj) (by have:=get_lt hj; omega)⟩
  ·have d1:decide ((x:Int)<(s.length:Int))=false:=by simp; omega
   rw [strGo,dif_neg hlt] at h3
   have hz:∀ o,(H1.set H.length o)[H.length]?=some o:=fun o=>set_get h7
   simp only [go_sem,reduceIte,↓reduceIte,sevalprocAttr,Z0,Z1,bytesOf,d1,h7,hz]
   intro _; rw [← h3]
   exact ⟨⟨(i:Int),rfl⟩,pre_ext fun j o hj=>get_set (h6 j o hj) (by have:=get_lt hj; omega)⟩
end Go.Proofs.YtghcmccjchdgeaaGreatDoor.Qp
/- The reference's lexer: one token, all tokens. -/
set_option linter.all false
namespace Go.Proofs.YtghcmccjchdgeaaGreatDoor.Qp
open Go.AM Mc Pg
theorem signsIC (H:List AO):ACall Tryz.prog 93 [] H (fun r H'=>r=.gs H.length 0 0 15∧H'=H++[.rows 1 0 (rowS signs)]):=by
 refine call93 (by simp) ?_
 simp only [go_sem,reduceIte,↓reduceIte,sevalprocAttr,Z0,Z1,bytesOf,mc93,mr93]
 rfl
theorem sign_ne {x:Nat} (h:x<signs.length):signs[x]≠[]:=by
 have:∀ g∈signs,g≠[]:=by decide
 exact this _ (List.getElem_mem h)
theorem tokIC {s:List UInt8} (hs:s.length≤1048576) {i:Nat} (hi:i<s.length):TokC 48 s i (tokD s i s[i]):=by
 intro H
 have hgi:s[i]?=some s[i]:=by simp [hi]
 refine call48 (by simp) ?_
 simp only [go_sem,reduceIte,↓reduceIte,sevalprocAttr,Z0,Z1,bytesOf,gx0,gxk,sx0,sxk,mc48,mr48,hgi,byW]
 refine acall_pure (numIC s[i] _) ?_
 unfold tokD
 cases hd:isDg s[i]
 ·rw [if_neg (by simp)]
  simp only [go_sem,reduceIte,↓reduceIte,sevalprocAttr,Z0,Z1,bytesOf,gx0,gxk,sx0,sxk,hd]
  refine acall_pure (lowerC s[i] _) ?_
  cases hsm:isSm s[i]
  ·simp only [go_sem,reduceIte,↓reduceIte,sevalprocAttr,Z0,Z1,bytesOf,gx0,gxk,sx0,sxk,hsm]
   refine acall_pure (upperC s[i] _) ?_
   cases hgr:isGr s[i]
   ·simp only [go_sem,reduceIte,↓reduceIte,sevalprocAttr,Z0,Z1,bytesOf,gx0,gxk,sx0,sxk,hgr]
    cases h39:decide ((s[i].toNat:Int)=39)
    ·rw [if_neg (by simp [tick,h39])]
     cases h34:decide ((s[i].toNat:Int)=34)
     ·rw [if_neg (of_decide_eq_false h34)]
      simp only [go_sem,reduceIte,↓reduceIte,sevalprocAttr,Z0,Z1,bytesOf,gx0,gxk,sx0,sxk,h39,h34]
      refine (signsIC _).mono ?_
      rintro r H2 ⟨rfl,rfl⟩
      simp only [go_sem,reduceIte,↓reduceIte,sevalprocAttr,Z0,Z1,bytesOf,gx0,gxk,sx0,sxk]
      refine ⟨Nat,[0,1,4,5,6,7,8,9],fun x st=>(x≤15∧signL (s.drop i) (signs.drop x)=signL (s.drop i) signs)∧st=⟨[(0,.p (.s s)),(1,.p (.i .i64 i)),(4,.ptr H.length 0),(5,.p (.i .i64 0)),(6,.p (.i .i64 0)),(7,.p (.i .i64 (s[i].toNat:Int))),(8,.gs (H.length+1) 0 0 15),(9,.p (.i .i64 x))],[],H++[.var [.p (.i .i64 0),.p (.s []),.p (.i .i64 0),.p (.i .i64 0)],.rows 1 0 (rowS signs)]⟩,fun x=>15 - x,⟨0,?_⟩,?_⟩
      ·simp only [go_sem,reduceIte,↓reduceIte,sevalprocAttr,Z0,Z1,bytesOf,gx0,gxk,sx0,sxk]
      ·rintro x _ ⟨⟨hx,hn⟩,rfl⟩
       unfold signD
       by_cases hlt:x<15
       ·have hlt':x<signs.length:=hlt
        have d1:decide ((x:Int)<15)=true:=by simp; omega
        have hsm:=sign_small hlt'
        rw [signL_drop hlt'] at hn
        have ew:wr .i64 ((i:Int)+(signs[x].length:Int))=((i+signs[x].length:Nat):Int):=by rw [wr64 (by omega) (by omega)]; omega
        simp only [go_sem,reduceIte,↓reduceIte,sevalprocAttr,Z0,Z1,bytesOf,gx0,gxk,sx0,sxk,d1,rowS_at hlt']
        intro _
        refine ⟨by omega,fun _=>?_⟩
        refine drw_same ?_
        by_cases hfit:i+signs[x].length≤s.length
        ·have d2:decide (((i+signs[x].length:Nat):Int)≤(s.length:Int))=true:=by simp; omega
         have et:(s.drop i).take (i+signs[x].length - i)=(s.drop i).take signs[x].length:=by congr 1; omega
         have ep:decide ((s.drop i).take signs[x].length=signs[x])=preB signs[x] (s.drop i):=rfl
         cases hp:preB signs[x] (s.drop i)
         ·rw [hp] at hn
          simp only [go_sem,reduceIte,↓reduceIte,sevalprocAttr,Z0,Z1,bytesOf,gx0,gxk,sx0,sxk,ew,d2,rowS_at hlt',et,ep,hp,wrN x (by omega)]
          refine ⟨by omega,by omega,by omega,x+1,⟨⟨by omega,by simpa using hn⟩,rfl⟩,by omega⟩
         ·rw [hp,if_pos rfl] at hn
          simp only [go_sem,reduceIte,↓reduceIte,sevalprocAttr,Z0,Z1,bytesOf,gx0,gxk,sx0,sxk,ew,d2,rowS_at hlt',et,ep,hp]
          rw [← hn,if_neg (sign_ne hlt')]
          exact ⟨by omega,by omega,by omega,by omega,⟨0,rfl⟩,_,rfl⟩
        ·have d2:decide (((i+signs[x].length:Nat):Int)≤(s.length:Int))=false:=by simp; omega
         have hp:preB signs[x] (s.drop i)=false:=by
          unfold preB
          refine decide_eq_false fun h=>?_
          have:=congrArg List.length h
          rw [List.length_take,List.length_drop] at this
          omega
         rw [hp] at hn
         simp only [go_sem,reduceIte,↓reduceIte,sevalprocAttr,Z0,Z1,bytesOf,gx0,gxk,sx0,sxk,ew,d2,wrN x (by omega)]
         exact ⟨x+1,⟨⟨by omega,by simpa using hn⟩,rfl⟩,by omega⟩
       ·have d1:decide ((x:Int)<15)=false:=by simp; omega
        have:signs.drop x=[]:=List.drop_of_length_le (by have:signs.length=15:=rfl; omega)
        rw [this,signL] at hn
        simp only [go_sem,reduceIte,↓reduceIte,sevalprocAttr,Z0,Z1,bytesOf,gx0,gxk,sx0,sxk,d1]
        intro _
        simp only [← hn,if_pos]
        exact ⟨⟨(i:Int),rfl⟩,_,rfl⟩
     ·rw [if_pos (of_decide_eq_true h34)]
      simp only [go_sem,reduceIte,↓reduceIte,sevalprocAttr,Z0,Z1,bytesOf,gx0,gxk,sx0,sxk,h39,h34]
      refine (strIC hs hi _).mono ?_
      rintro r H2 ⟨⟨e',rfl⟩,G,rfl⟩
      rcases strD s i with ⟨t,e⟩ | c
      ·simp only [go_sem,reduceIte,↓reduceIte,sevalprocAttr,Z0,Z1,bytesOf,gx0,gxk,sx0,sxk,stokAV,Tok.cells]
       exact ⟨⟨0,rfl⟩,_,rfl⟩
      ·simp only [go_sem,reduceIte,↓reduceIte,sevalprocAttr,Z0,Z1,bytesOf,gx0,gxk,sx0,sxk,stokAV]
       exact ⟨⟨e',rfl⟩,_,rfl⟩
    ·by_cases hi1:i+1<s.length
     ·have d1:decide (((i+1:Nat):Int)<(s.length:Int))=true:=by simp; omega
      have hg1:s[i+1]?=some s[i+1]:=by simp [hi1]
      have hgd:s.getD (i+1) 0=s[i+1]:=by simp [hi1]
      simp only [go_sem,reduceIte,↓reduceIte,sevalprocAttr,Z0,Z1,bytesOf,gx0,gxk,sx0,sxk,h39,wrN i (by omega),d1,hg1,byW]
      intro _
      refine acall_pure (lowerC s[i+1] _) ?_
      cases hs1:isSm s[i+1]
      ·rw [if_neg (by simp only [tick,hgd,hs1]; simp)]
       simp only [go_sem,reduceIte,↓reduceIte,sevalprocAttr,Z0,Z1,bytesOf,gx0,gxk,sx0,sxk,hs1]
       cases h34:decide ((s[i].toNat:Int)=34)
       ·rw [if_neg (of_decide_eq_false h34)]
        simp only [go_sem,reduceIte,↓reduceIte,sevalprocAttr,Z0,Z1,bytesOf,gx0,gxk,sx0,sxk,h34]
        refine (signsIC _).mono ?_
        rintro r H2 ⟨rfl,rfl⟩
        simp only [go_sem,reduceIte,↓reduceIte,sevalprocAttr,Z0,Z1,bytesOf,gx0,gxk,sx0,sxk]
        refine ⟨Nat,[0,1,4,5,6,7,8,9],fun x st=>(x≤15∧signL (s.drop i) (signs.drop x)=signL (s.drop i) signs)∧st=⟨[(0,.p (.s s)),(1,.p (.i .i64 i)),(4,.ptr H.length 0),(5,.p (.i .i64 0)),(6,.p (.i .i64 0)),(7,.p (.i .i64 (s[i].toNat:Int))),(8,.gs (H.length+1) 0 0 15),(9,.p (.i .i64 x))],[],H++[.var [.p (.i .i64 0),.p (.s []),.p (.i .i64 0),.p (.i .i64 0)],.rows 1 0 (rowS signs)]⟩,fun x=>15 - x,⟨0,?_⟩,?_⟩
        ·simp only [go_sem,reduceIte,↓reduceIte,sevalprocAttr,Z0,Z1,bytesOf,gx0,gxk,sx0,sxk]
        ·rintro x _ ⟨⟨hx,hn⟩,rfl⟩
         unfold signD
         by_cases hlt:x<15
         ·have hlt':x<signs.length:=hlt
          have d1:decide ((x:Int)<15)=true:=by simp; omega
          have hsm:=sign_small hlt'
          rw [signL_drop hlt'] at hn
          have ew:wr .i64 ((i:Int)+(signs[x].length:Int))=((i+signs[x].length:Nat):Int):=by rw [wr64 (by omega) (by omega)]; omega
          simp only [go_sem,reduceIte,↓reduceIte,sevalprocAttr,Z0,Z1,bytesOf,gx0,gxk,sx0,sxk,d1,rowS_at hlt']
          intro _
          refine ⟨by omega,fun _=>?_⟩
          refine drw_same ?_
          by_cases hfit:i+signs[x].length≤s.length
          ·have d2:decide (((i+signs[x].length:Nat):Int)≤(s.length:Int))=true:=by simp; omega
           have et:(s.drop i).take (i+signs[x].length - i)=(s.drop i).take signs[x].length:=by congr 1; omega
           have ep:decide ((s.drop i).take signs[x].length=signs[x])=preB signs[x] (s.drop i):=rfl
           cases hp:preB signs[x] (s.drop i)
           ·rw [hp] at hn
            simp only [go_sem,reduceIte,↓reduceIte,sevalprocAttr,Z0,Z1,bytesOf,gx0,gxk,sx0,sxk,ew,d2,rowS_at hlt',et,ep,hp,wrN x (by omega)]
            refine ⟨by omega,by omega,by omega,x+1,⟨⟨by omega,by simpa using hn⟩,rfl⟩,by omega⟩
           ·rw [hp,if_pos rfl] at hn
            simp only [go_sem,reduceIte,↓reduceIte,sevalprocAttr,Z0,Z1,bytesOf,gx0,gxk,sx0,sxk,ew,d2,rowS_at hlt',et,ep,hp]
            rw [← hn,if_neg (sign_ne hlt')]
            exact ⟨by omega,by omega,by omega,by omega,⟨0,rfl⟩,_,rfl⟩
          ·have d2:decide (((i+signs[x].length:Nat):Int)≤(s.length:Int))=false:=by simp; omega
           have hp:preB signs[x] (s.drop i)=false:=by
            unfold preB
            refine decide_eq_false fun h=>?_
            have:=congrArg List.length h
            rw [List.length_take,List.length_drop] at this
            omega
           rw [hp] at hn
           simp only [go_sem,reduceIte,↓reduceIte,sevalprocAttr,Z0,Z1,bytesOf,gx0,gxk,sx0,sxk,ew,d2,wrN x (by omega)]
           exact ⟨x+1,⟨⟨by omega,by simpa using hn⟩,rfl⟩,by omega⟩
         ·have d1:decide ((x:Int)<15)=false:=by simp; omega
          have:signs.drop x=[]:=List.drop_of_length_le (by have:signs.length=15:=rfl; omega)
          rw [this,signL] at hn
          simp only [go_sem,reduceIte,↓reduceIte,sevalprocAttr,Z0,Z1,bytesOf,gx0,gxk,sx0,sxk,d1]
          intro _
          simp only [← hn,if_pos]
          exact ⟨⟨(i:Int),rfl⟩,_,rfl⟩
       ·rw [if_pos (of_decide_eq_true h34)]
        simp only [go_sem,reduceIte,↓reduceIte,sevalprocAttr,Z0,Z1,bytesOf,gx0,gxk,sx0,sxk,h34]
        refine (strIC hs hi _).mono ?_
        rintro r H2 ⟨⟨e',rfl⟩,G,rfl⟩
        rcases strD s i with ⟨t,e⟩ | c
        ·simp only [go_sem,reduceIte,↓reduceIte,sevalprocAttr,Z0,Z1,bytesOf,gx0,gxk,sx0,sxk,stokAV,Tok.cells]
         exact ⟨⟨0,rfl⟩,_,rfl⟩
        ·simp only [go_sem,reduceIte,↓reduceIte,sevalprocAttr,Z0,Z1,bytesOf,gx0,gxk,sx0,sxk,stokAV]
         exact ⟨⟨e',rfl⟩,_,rfl⟩
      ·rw [if_pos (by simp only [tick,hgd,hs1]; simp [h39,hi1])]
       simp only [go_sem,reduceIte,↓reduceIte,sevalprocAttr,Z0,Z1,bytesOf,gx0,gxk,sx0,sxk,hs1]
       refine (wordIC hs hi _).mono ?_
       rintro r H2 ⟨⟨e',rfl⟩,G,rfl⟩
       rcases wordD s i s[i] with ⟨t,e⟩ | c
       ·simp only [go_sem,reduceIte,↓reduceIte,sevalprocAttr,Z0,Z1,bytesOf,gx0,gxk,sx0,sxk,stokAV,Tok.cells]
        exact ⟨⟨0,rfl⟩,_,rfl⟩
       ·simp only [go_sem,reduceIte,↓reduceIte,sevalprocAttr,Z0,Z1,bytesOf,gx0,gxk,sx0,sxk,stokAV]
        exact ⟨⟨e',rfl⟩,_,rfl⟩
     ·have d1:decide (((i+1:Nat):Int)<(s.length:Int))=false:=by simp; omega
      rw [if_neg (by simp [tick,hi1])]
      simp only [go_sem,reduceIte,↓reduceIte,sevalprocAttr,Z0,Z1,bytesOf,gx0,gxk,sx0,sxk,h39,wrN i (by omega),d1]
      intro _
      cases h34:decide ((s[i].toNat:Int)=34)
      ·rw [if_neg (of_decide_eq_false h34)]
       simp only [go_sem,reduceIte,↓reduceIte,sevalprocAttr,Z0,Z1,bytesOf,gx0,gxk,sx0,sxk,h34]
       refine (signsIC _).mono ?_
       rintro r H2 ⟨rfl,rfl⟩
       simp only [go_sem,reduceIte,↓reduceIte,sevalprocAttr,Z0,Z1,bytesOf,gx0,gxk,sx0,sxk]
       refine ⟨Nat,[0,1,4,5,6,7,8,9],fun x st=>(x≤15∧signL (s.drop i) (signs.drop x)=signL (s.drop i) signs)∧st=⟨[(0,.p (.s s)),(1,.p (.i .i64 i)),(4,.ptr H.length 0),(5,.p (.i .i64 0)),(6,.p (.i .i64 0)),(7,.p (.i .i64 (s[i].toNat:Int))),(8,.gs (H.length+1) 0 0 15),(9,.p (.i .i64 x))],[],H++[.var [.p (.i .i64 0),.p (.s []),.p (.i .i64 0),.p (.i .i64 0)],.rows 1 0 (rowS signs)]⟩,fun x=>15 - x,⟨0,?_⟩,?_⟩
       ·simp only [go_sem,reduceIte,↓reduceIte,sevalprocAttr,Z0,Z1,bytesOf,gx0,gxk,sx0,sxk]
       ·rintro x _ ⟨⟨hx,hn⟩,rfl⟩
        unfold signD
        by_cases hlt:x<15
        ·have hlt':x<signs.length:=hlt
         have d1:decide ((x:Int)<15)=true:=by simp; omega
         have hsm:=sign_small hlt'
         rw [signL_drop hlt'] at hn
         have ew:wr .i64 ((i:Int)+(signs[x].length:Int))=((i+signs[x].length:Nat):Int):=by rw [wr64 (by omega) (by omega)]; omega
         simp only [go_sem,reduceIte,↓reduceIte,sevalprocAttr,Z0,Z1,bytesOf,gx0,gxk,sx0,sxk,d1,rowS_at hlt']
         intro _
         refine ⟨by omega,fun _=>?_⟩
         refine drw_same ?_
         by_cases hfit:i+signs[x].length≤s.length
         ·have d2:decide (((i+signs[x].length:Nat):Int)≤(s.length:Int))=true:=by simp; omega
          have et:(s.drop i).take (i+signs[x].length - i)=(s.drop i).take signs[x].length:=by congr 1; omega
          have ep:decide ((s.drop i).take signs[x].length=signs[x])=preB signs[x] (s.drop i):=rfl
          cases hp:preB signs[x] (s.drop i)
          ·rw [hp] at hn
           simp only [go_sem,reduceIte,↓reduceIte,sevalprocAttr,Z0,Z1,bytesOf,gx0,gxk,sx0,sxk,ew,d2,rowS_at hlt',et,ep,hp,wrN x (by omega)]
           refine ⟨by omega,by omega,by omega,x+1,⟨⟨by omega,by simpa using hn⟩,rfl⟩,by omega⟩
          ·rw [hp,if_pos rfl] at hn
           simp only [go_sem,reduceIte,↓reduceIte,sevalprocAttr,Z0,Z1,bytesOf,gx0,gxk,sx0,sxk,ew,d2,rowS_at hlt',et,ep,hp]
           rw [← hn,if_neg (sign_ne hlt')]
           exact ⟨by omega,by omega,by omega,by omega,⟨0,rfl⟩,_,rfl⟩
         ·have d2:decide (((i+signs[x].length:Nat):Int)≤(s.length:Int))=false:=by simp; omega
          have hp:preB signs[x] (s.drop i)=false:=by
           unfold preB
           refine decide_eq_false fun h=>?_
           have:=congrArg List.length h
           rw [List.length_take,List.length_drop] at this
           omega
          rw [hp] at hn
          simp only [go_sem,reduceIte,↓reduceIte,sevalprocAttr,Z0,Z1,bytesOf,gx0,gxk,sx0,sxk,ew,d2,wrN x (by omega)]
          exact ⟨x+1,⟨⟨by omega,by simpa using hn⟩,rfl⟩,by omega⟩
        ·have d1:decide ((x:Int)<15)=false:=by simp; omega
         have:signs.drop x=[]:=List.drop_of_length_le (by have:signs.length=15:=rfl; omega)
         rw [this,signL] at hn
         simp only [go_sem,reduceIte,↓reduceIte,sevalprocAttr,Z0,Z1,bytesOf,gx0,gxk,sx0,sxk,d1]
         intro _
         simp only [← hn,if_pos]
         exact ⟨⟨(i:Int),rfl⟩,_,rfl⟩
      ·rw [if_pos (of_decide_eq_true h34)]
       simp only [go_sem,reduceIte,↓reduceIte,sevalprocAttr,Z0,Z1,bytesOf,gx0,gxk,sx0,sxk,h34]
       refine (strIC hs hi _).mono ?_
       rintro r H2 ⟨⟨e',rfl⟩,G,rfl⟩
       rcases strD s i with ⟨t,e⟩ | c
       ·simp only [go_sem,reduceIte,↓reduceIte,sevalprocAttr,Z0,Z1,bytesOf,gx0,gxk,sx0,sxk,stokAV,Tok.cells]
        exact ⟨⟨0,rfl⟩,_,rfl⟩
       ·simp only [go_sem,reduceIte,↓reduceIte,sevalprocAttr,Z0,Z1,bytesOf,gx0,gxk,sx0,sxk,stokAV]
        exact ⟨⟨e',rfl⟩,_,rfl⟩
   ·simp only [go_sem,reduceIte,↓reduceIte,sevalprocAttr,Z0,Z1,bytesOf,gx0,gxk,sx0,sxk,hgr]
    rw [if_pos (by simp)]
    refine (wordIC hs hi _).mono ?_
    rintro r H2 ⟨⟨e',rfl⟩,G,rfl⟩
    rcases wordD s i s[i] with ⟨t,e⟩ | c
    ·simp only [go_sem,reduceIte,↓reduceIte,sevalprocAttr,Z0,Z1,bytesOf,gx0,gxk,sx0,sxk,stokAV,Tok.cells]
     exact ⟨⟨0,rfl⟩,_,rfl⟩
    ·simp only [go_sem,reduceIte,↓reduceIte,sevalprocAttr,Z0,Z1,bytesOf,gx0,gxk,sx0,sxk,stokAV]
     exact ⟨⟨e',rfl⟩,_,rfl⟩
  ·simp only [go_sem,reduceIte,↓reduceIte,sevalprocAttr,Z0,Z1,bytesOf,gx0,gxk,sx0,sxk,hsm]
   rw [if_pos (by simp)]
   refine (wordIC hs hi _).mono ?_
   rintro r H2 ⟨⟨e',rfl⟩,G,rfl⟩
   rcases wordD s i s[i] with ⟨t,e⟩ | c
   ·simp only [go_sem,reduceIte,↓reduceIte,sevalprocAttr,Z0,Z1,bytesOf,gx0,gxk,sx0,sxk,stokAV,Tok.cells]
    exact ⟨⟨0,rfl⟩,_,rfl⟩
   ·simp only [go_sem,reduceIte,↓reduceIte,sevalprocAttr,Z0,Z1,bytesOf,gx0,gxk,sx0,sxk,stokAV]
    exact ⟨⟨e',rfl⟩,_,rfl⟩
 ·rw [if_pos rfl]
  simp only [go_sem,reduceIte,↓reduceIte,sevalprocAttr,Z0,Z1,bytesOf,gx0,gxk,sx0,sxk,hd]
  refine (digitsC hs hi _).mono ?_
  rintro r H2 ⟨⟨e',rfl⟩,G,rfl⟩
  rcases numD s i s[i] with ⟨t,e⟩ | c
  ·simp only [go_sem,reduceIte,↓reduceIte,sevalprocAttr,Z0,Z1,bytesOf,gx0,gxk,sx0,sxk,stokAV,Tok.cells]
   exact ⟨⟨0,rfl⟩,_,rfl⟩
  ·simp only [go_sem,reduceIte,↓reduceIte,sevalprocAttr,Z0,Z1,bytesOf,gx0,gxk,sx0,sxk,stokAV]
   exact ⟨⟨e',rfl⟩,_,rfl⟩
end Go.Proofs.YtghcmccjchdgeaaGreatDoor.Qp
/- The reference's lexer: all tokens. -/
set_option linter.all false
namespace Go.Proofs.YtghcmccjchdgeaaGreatDoor.Qp
open Go.AM Mc Pg
theorem lent_empty {n id ver sz:Nat} {H:List AO} (hn:n≤id) (h:H[id]?=some (.rows sz ver [])):LentN n H (.gs id ver 0 0) (.p (.l [])):=by
 have:=lent_rows (ys:=[]) hn h (by simp)
 exact this
theorem lexIC {s:List UInt8} {H0:List AO} (hs:s.length≤1048576):ACall Tryz.prog 24 [.p (.s s)] H0 (pureQ (lexAV (lexD s)) H0):=by
 refine acall_frz1 ?_
 refine call24 (by simp) ?_
 unfold lexD
 by_cases hl:4000<s.length
 ·have d1:decide ((4000:Int)<(s.length:Int))=true:=by simp; omega
  simp only [go_sem,reduceIte,↓reduceIte,sevalprocAttr,Z0,Z1,bytesOf,gx0,gxk,sx0,sxk,mc24,mr24,d1]
  intro _
  rw [if_pos hl]
  exact ⟨_,rfl,lent_two (lent_empty (by omega) (by rw [gxk]; rfl)) (tf_ft _ _)⟩
 ·have d1:decide ((4000:Int)<(s.length:Int))=false:=by simp; omega
  simp only [go_sem,reduceIte,↓reduceIte,sevalprocAttr,Z0,Z1,bytesOf,gx0,gxk,sx0,sxk,mc24,mr24,d1]
  intro _
  rw [if_neg hl]
  generalize hR:lexGo s 1200 0 []=R
  refine acall_pure (skipC hs (i:=0) (Nat.zero_le _) _) ?_
  obtain ⟨g1,g2,g3,g4⟩:=skip_lex (s:=s) (most:=1200) (out:=[]) s.length 0 (by omega) (Nat.zero_le _)
  rw [g1] at hR
  have rest:∀ j,j≤s.length→∀ out,lexGo s 1200 j out=lexGo s 1200 (skipD s j) out∧j≤skipD s j∧skipD s j≤s.length∧∀ (h:skipD s j<s.length),Pg.blank s[skipD s j]=false∧¬ (s[skipD s j].toNat:Int)=35:=fun j hj out=>skip_lex s.length j (by omega) hj
  generalize skipD s 0=i0 at hR g3 g4
  simp only [go_sem,reduceIte,↓reduceIte,sevalprocAttr,Z0,Z1,bytesOf,gx0,gxk,sx0,sxk]
  refine ⟨Nat × List Tok × AV × List AO,[0,2,3,4,5],fun x st=>((x.1≤s.length∧x.2.1.length≤x.1∧lexGo s 1200 x.1 x.2.1=R∧LxI H0 x.2.1 x.2.2.1 x.2.2.2)∧∀ (h:x.1<s.length),Pg.blank s[x.1]=false∧¬ (s[x.1].toNat:Int)=35)∧st=⟨[(0,.p (.s s)),(2,.p .nl),(3,.ptr H0.length 0),(4,x.2.2.1),(5,.p (.i .i64 x.1))],[],x.2.2.2⟩,fun x=>s.length - x.1,⟨(i0,[],.gs (H0.length+1) 0 0 0,H0++[.var [.p (.i .i64 0),.p (.i .i64 0)],.rows 4 0 []]),?_⟩,?_⟩
  ·simp only [go_sem,reduceIte,↓reduceIte,sevalprocAttr,Z0,Z1,bytesOf]
   refine ⟨⟨g3,Nat.zero_le _,hR,⟨fun j o hj=>get_ext hj _,by rw [gx0]; rfl,.inr ⟨_,0,rfl,by rw [gxk]; rfl⟩,?_⟩⟩,g4⟩
   intro id v o m e; cases e; omega
  ·rintro ⟨i,out,a,H⟩ _ ⟨⟨⟨h1,h2,h3,hI⟩,hbb⟩,rfl⟩
   simp only at h1 h2 h3 hI hbb ⊢
   by_cases hlt:i<s.length
   ·have d1:decide ((i:Int)<(s.length:Int))=true:=by simp; omega
    obtain ⟨hb,hc⟩:=hbb hlt
    simp only [go_sem,reduceIte,↓reduceIte,sevalprocAttr,Z0,Z1,bytesOf,d1]
    intro _
    refine (tokIC hs hlt H).mono ?_
    rintro r H2 ⟨⟨e',rfl⟩,G,rfl⟩
    rcases ht:tokD s i s[i] with ⟨t,e⟩ | c
    ·obtain ⟨k1,k2,_⟩:=tokD_gt hlt ht
     simp only [go_sem,reduceIte,↓reduceIte,sevalprocAttr,Z0,Z1,bytesOf,stokAV,Tok.cells]
     have hI2:=hI.ext (G++[.var [.p (.i .i64 t.k),.p (.s t.t),.p (.i .i64 t.n),.p (.i .i64 t.p)]])
     have zv:(H++(G++[.var [.p (.i .i64 t.k),.p (.s t.t),.p (.i .i64 t.n),.p (.i .i64 t.p)]]))[H.length+G.length]?=some (.var [.p (.i .i64 t.k),.p (.s t.t),.p (.i .i64 t.n),.p (.i .i64 t.p)]):=by rw [gxk]; exact gx0 G _
     generalize H++(G++[.var [.p (.i .i64 t.k),.p (.s t.t),.p (.i .i64 t.n),.p (.i .i64 t.p)]])=H3 at hI2 zv ⊢
     generalize H.length+G.length=b at zv ⊢
     refine len_ownR hI2.out ?_
     rw [toksR_len]
     have z5:=hI2.z5
     have fr:=hI2.fr
     by_cases hmm:out.length=1200
     ·have d2:decide ((out.length:Int)=1200)=true:=by simp; omega
      rw [lexGo_most hlt hb hc ht hmm] at h3
      have z5':=get_ext z5 [AO.rows 4 0 []]
      have hz:∀ o,((H3++[AO.rows 4 0 []]).set H0.length o)[H0.length]?=some o:=fun o=>set_get z5'
      simp only [go_sem,reduceIte,↓reduceIte,sevalprocAttr,Z0,Z1,bytesOf,d2,z5',hz]
      rw [← h3]
      obtain ⟨G2,hG2⟩:=pre_ext (H:=H0) (H':=(H3++[AO.rows 4 0 []]).set H0.length (.var [.p (.i .i64 5),.p (.i .i64 i)])) fun j o hj=>get_set (get_ext (fr j o hj) _) (by have:=get_lt hj; omega)
      refine ⟨G2,hG2,lent_two (lent_empty (ver:=0) (sz:=4) (by have:=get_lt z5; omega) (get_set (by rw [gx0]; rfl) (by have:=get_lt z5; omega))) (tf_ft _ _)⟩
     ·have d2:decide ((out.length:Int)=1200)=false:=by simp; omega
      rw [lexGo_tok hlt hb hc ht hmm] at h3
      simp only [go_sem,reduceIte,↓reduceIte,sevalprocAttr,Z0,Z1,bytesOf,d2,zv]
      refine ⟨by intro r hr; simp at hr; subst hr; rfl,?_⟩
      refine app_fr (rs:=toksR out) (ys:=[t.cells.map .p]) (hI2.ext _).out (by rw [toksR_len]; simp; omega) (by rw [toksR_len]; simp; omega) ?_
      intro id ver H4 k1 k2' k3 k4
      rw [toksR_len]
      have hJ:=(hI2.ext _).app k1 k2' k3
      simp only [go_sem,reduceIte,↓reduceIte,sevalprocAttr,Z0,Z1,bytesOf]
      refine acall_pure (skipC hs k2 _) ?_
      obtain ⟨q1,q2,q3,q4⟩:=rest e k2 (out++[t])
      simp only [go_sem,reduceIte,↓reduceIte,sevalprocAttr,Z0,Z1,bytesOf]
      exact ⟨(skipD s e,out++[t],.gs id ver 0 (out.length+1),H4),⟨⟨⟨q3,by simp; omega,by rw [← q1]; exact h3,hJ⟩,q4⟩,rfl⟩,by simp only; omega⟩
    ·have hc0:=tokD_code ht
     rw [lexGo_err hlt hb hc ht] at h3
     have hI2:=hI.ext (G++[.var [.p (.i .i64 0),.p (.s []),.p (.i .i64 0),.p (.i .i64 0)],.rows 4 0 []])
     simp only [go_sem,reduceIte,↓reduceIte,sevalprocAttr,Z0,Z1,bytesOf,stokAV,hc0]
     have z5:=hI2.z5
     have fr:=hI2.fr
     have zr:(H++(G++[.var [.p (.i .i64 0),.p (.s []),.p (.i .i64 0),.p (.i .i64 0)],.rows 4 0 []]))[H.length+(G.length+1)]?=some (.rows 4 0 []):=by rw [gxk,gxk]; rfl
     have hgt:H0.length<H.length:=get_lt hI.z5
     generalize H++(G++[.var [.p (.i .i64 0),.p (.s []),.p (.i .i64 0),.p (.i .i64 0)],.rows 4 0 []])=H3 at z5 fr zr ⊢
     have hz:∀ o,(H3.set H0.length o)[H0.length]?=some o:=fun o=>set_get z5
     simp only [go_sem,reduceIte,↓reduceIte,sevalprocAttr,Z0,Z1,bytesOf,z5,hz]
     rw [← h3]
     obtain ⟨G2,hG2⟩:=pre_ext (H:=H0) (H':=H3.set H0.length (.var [.p (.i .i64 c),.p (.i .i64 i)])) fun j o hj=>get_set (fr j o hj) (by have:=get_lt hj; omega)
     exact ⟨G2,hG2,lent_two (lent_empty (ver:=0) (sz:=4) (by omega) (get_set zr (by omega))) (tf_ft _ _)⟩
   ·have d1:decide ((i:Int)<(s.length:Int))=false:=by simp; omega
    rw [lexGo_end hlt] at h3
    simp only [go_sem,reduceIte,↓reduceIte,sevalprocAttr,Z0,Z1,bytesOf,d1]
    intro _ _
    refine ⟨by intro r hr; simp at hr; subst hr; rfl,?_⟩
    refine app_fr (rs:=toksR out) (ys:=[Tok.cells ⟨8,[],0,s.length⟩ |>.map .p]) (hI.ext _).out (by rw [toksR_len]; simp; omega) (by rw [toksR_len]; simp; omega) ?_
    intro id ver H4 k1 k2 k3 k4
    rw [toksR_len]
    have hJ:=(hI.ext _).app k1 k2 k3
    have z5:=hJ.z5
    have hz:∀ o,(H4.set H0.length o)[H0.length]?=some o:=fun o=>set_get z5
    simp only [go_sem,reduceIte,↓reduceIte,sevalprocAttr,Z0,Z1,bytesOf,z5,hz]
    obtain ⟨G,hG⟩:=pre_ext (H:=H0) (H':=H4.set H0.length (.var [.p (.i .i64 0),.p (.i .i64 0)])) fun j o hj=>get_set (hJ.fr j o hj) (by have:=get_lt hj; omega)
    rw [← h3]
    refine ⟨G,hG,lent_two ?_ (tf_ft _ _)⟩
    have hn:=hJ.new _ _ _ _ rfl
    have:=lent_toks (n:=H0.length) (l:=out++[⟨8,[],0,s.length⟩]) (Nat.le_of_lt hn) (H:=H4.set H0.length (.var [.p (.i .i64 0),.p (.i .i64 0)])) (id:=id) (ver:=ver) (get_set (by rw [toksR_app]; exact k1) (by omega))
    simpa using this
end Go.Proofs.YtghcmccjchdgeaaGreatDoor.Qp
/- THE SMALL CODES of functions 7 13 25 26 27 38 53 54 55 70 71 104 105 106 107 108 114 163 164 165 172 180 207 208 209 210 211 212 217 222 239 254 255, and their ties to the program (printed by wip/tools/mkties2.py). -/
set_option linter.all false
namespace Go.Proofs.YtghcmccjchdgeaaGreatDoor.Mc
open Go.AM
def zl7_0:List AV:=[.p (.i .i64 0),.p (.s []),.p (.i .i64 0),.p (.s []),.p (.i .i64 0),.p (.nl),.p (.nl)]
def zl7_1:List AV:=[.p (.nl),.p (.i .i64 0),.p (.i .i64 0),.p (.i .i64 0),.p (.i .i64 0),.p (.i .i64 0),.p (.i .i64 0)]
def zl7_3:List AV:=[.p (.i .i64 0),.p (.s []),.p (.i .i64 0),.p (.i .i64 0),.p (.nl),.p (.i .i64 0),.p (.s []),.p (.i .i64 0),.p (.s []),.p (.i .i64 0),.p (.nl),.p (.nl)]
/- spec.ParseExp -/
def lv7:List Nat:=[0,2,3,4,5,6,7,15,34,42]
def mc7:MC :=
.seq (.reg [
 iL 2 (.alloc zl7_0),iL 3 (.alloc [.p (.i .i64 0),.p (.i .i64 0)])]) (
 .seq (.reg [
 iT 9 (.mv (.l 0)),iT 10 (.call 24 [.t 9]),iT 8 (.mv (.t 10)),iT 11 (.ext (.t 8) 0),iT 12 (.ext (.t 8) 1),iL 5 (.alloc [.p (.i .i64 0),.p (.i .i64 0)]),iL 4 (.mv (.t 11)),iN (.sto 2 (.l 5) (.t 12))]) (
 .seq (.seq (.reg [
 iT 13 (.fad 0 (.l 5)),iT 14 (.ld false 1 (.t 13)),iL 15 (.bin .neq (.t 14) (cI 0))]) (
 .cond (.l 15) (
 .seq (.drw [
 iT 16 (.build zl7_0 []),iT 17 (.ld true 2 (.l 5)),iN (.sto 7 (.l 2) (.t 16))] [
 iN (.sto 2 (.l 3) (.t 17))]) (
 .ret)) (
 .skip))) (
 .seq (.reg [
 iT 18 (.mv (.l 4)),iT 19 (.build zl7_1 [(0,1,(.t 18)),(4,1,(cI 40))]),iT 20 (.box 7 (.t 19)),iL 6 (.mv (.t 20))]) (
 .seq (.reg [
 iT 21 (.mv (.l 6)),iT 22 (.call 25 [.t 21]),iL 7 (.alloc zl7_0),iN (.sto 7 (.l 7) (.t 22))]) (
 .seq (.seq (.reg [
 iT 23 (.mv (.l 6)),iT 24 (.nilc (.t 23)),iT 25 (.fad 5 (.t 24)),iT 26 (.fad 0 (.t 25)),iT 27 (.ld false 1 (.t 26)),iT 28 (.bin .eql (.t 27) (cI 0)),iT 29 (.mv (.t 28)),⟨.t 30,.mv (.l 6),some ((.t 29),true)⟩,⟨.t 31,.call 26 [.t 30],some ((.t 29),true)⟩,⟨.t 32,.fld false 0 1 (.t 31),some ((.t 29),true)⟩,⟨.t 33,.bin .neq (.t 32) (cI 8),some ((.t 29),true)⟩,iL 34 (.pick (.t 29) (.t 33) (.c (.p (.b false))))]) (
 .cond (.l 34) (
 .reg [
 iT 35 (.mv (.l 6)),iT 36 (.call 27 [.t 35,.c (.p (.i .i64 11))])]) (
 .skip))) (
 .seq (.seq (.reg [
 iT 37 (.mv (.l 6)),iT 38 (.nilc (.t 37)),iT 39 (.fad 5 (.t 38)),iT 40 (.fad 0 (.t 39)),iT 41 (.ld false 1 (.t 40)),iL 42 (.bin .neq (.t 41) (cI 0))]) (
 .cond (.l 42) (
 .seq (.drw [
 iT 43 (.build zl7_0 []),iT 44 (.mv (.l 6)),iT 45 (.nilc (.t 44)),iT 46 (.fad 5 (.t 45)),iT 47 (.ld true 2 (.t 46)),iN (.sto 7 (.l 2) (.t 43))] [
 iN (.sto 2 (.l 3) (.t 47))]) (
 .ret)) (
 .skip))) (
 .seq (.reg [
 iT 48 (.ld true 7 (.l 7)),iT 49 (.build [.p (.i .i64 0),.p (.i .i64 0)] []),iN (.sto 7 (.l 2) (.t 48)),iN (.sto 2 (.l 3) (.t 49))]) (
 .ret))))))))
theorem mc7_eq:(Tryz.f7.body.map (compile lv7 Tryz.prog 50))=some mc7:=by kernel_rfl
def mr7:List MR:=[.cell true 7 2,.cell true 2 3]
theorem mr7_eq:cRess lv7 Tryz.prog Tryz.f7.results.toList=some mr7:=by kernel_rfl
theorem call7:CallT Tryz.prog 7 50 mc7 mr7:=acall_mc (by kernel_rfl) Tryz.func7 mc7_eq Tryz.ntmps7 (by kernel_rfl) mr7_eq
/- spec.Parse -/
/- spec.l3Expr -/
def lv25:List Nat:=[0,2,3,6]
def mc25:MC :=
.seq (.reg [
 iL 2 (.alloc zl7_0)]) (
 .seq (.reg [
 iT 4 (.build zl7_0 []),iL 3 (.alloc zl7_0),iN (.sto 7 (.l 3) (.t 4))]) (
 .seq (.seq (.reg [
 iT 5 (.mv (.l 0)),iL 6 (.call 53 [.t 5])]) (
 .cond (.l 6) (
 .reg [
 iT 7 (.mv (.l 0)),iT 8 (.call 54 [.t 7]),iN (.sto 7 (.l 3) (.t 8))]) (
 .skip))) (
 .seq (.reg [
 iT 9 (.mv (.l 0)),iT 10 (.call 55 [.t 9])]) (
 .seq (.reg [
 iT 11 (.ld true 7 (.l 3)),iN (.sto 7 (.l 2) (.t 11))]) (
 .ret)))))
theorem mc25_eq:(Tryz.f25.body.map (compile lv25 Tryz.prog 12))=some mc25:=by kernel_rfl
def mr25:List MR:=[.cell true 7 2]
theorem mr25_eq:cRess lv25 Tryz.prog Tryz.f25.results.toList=some mr25:=by kernel_rfl
theorem call25:CallT Tryz.prog 25 12 mc25 mr25:=acall_mc (by kernel_rfl) Tryz.func25 mc25_eq Tryz.ntmps25 (by kernel_rfl) mr25_eq
/- spec.l3Now -/
def lv26:List Nat:=[0,2]
def mc26:MC :=
.seq (.reg [
 iL 2 (.alloc [.p (.i .i64 0),.p (.s []),.p (.i .i64 0),.p (.i .i64 0)])]) (
 .seq (.drw [
 iT 3 (.mv (.l 0)),iT 4 (.nilc (.t 3)),iT 5 (.fad 0 (.t 4)),iT 6 (.ld false 1 (.t 5)),iT 7 (.mv (.l 0)),iT 8 (.nilc (.t 7)),iT 9 (.fad 1 (.t 8)),iT 10 (.ld false 1 (.t 9))] [
 iT 11 (.ixs 4 (.t 6) (.t 10)),iT 12 (.ld true 4 (.t 11)),iN (.sto 4 (.l 2) (.t 12))]) (
 .ret))
theorem mc26_eq:(Tryz.f26.body.map (compile lv26 Tryz.prog 13))=some mc26:=by kernel_rfl
def mr26:List MR:=[.cell true 4 2]
theorem mr26_eq:cRess lv26 Tryz.prog Tryz.f26.results.toList=some mr26:=by kernel_rfl
theorem call26:CallT Tryz.prog 26 13 mc26 mr26:=acall_mc (by kernel_rfl) Tryz.func26 mc26_eq Tryz.ntmps26 (by kernel_rfl) mr26_eq
/- spec.l3Fails -/
def lv27:List Nat:=[0,1,9]
def mc27:MC :=
.seq (.reg [
 iT 4 (.mv (.l 0)),iT 5 (.nilc (.t 4)),iT 6 (.fad 5 (.t 5)),iT 7 (.fad 0 (.t 6)),iT 8 (.ld false 1 (.t 7)),iL 9 (.bin .eql (.t 8) (cI 0))]) (
 .cond (.l 9) (
 .reg [
 iT 10 (.mv (.l 0)),iT 11 (.mv (.l 1)),iT 12 (.mv (.l 0)),iT 13 (.call 26 [.t 12]),iT 14 (.fld false 3 1 (.t 13)),iT 15 (.build [.p (.i .i64 0),.p (.i .i64 0)] [(0,1,(.t 11)),(1,1,(.t 14))]),iT 16 (.nilc (.t 10)),iT 17 (.fad 5 (.t 16)),iN (.sto 2 (.t 17) (.t 15))]) (
 .skip))
theorem mc27_eq:(Tryz.f27.body.map (compile lv27 Tryz.prog 18))=some mc27:=by kernel_rfl
def mr27:List MR:=[]
theorem mr27_eq:cRess lv27 Tryz.prog Tryz.f27.results.toList=some mr27:=by kernel_rfl
theorem call27:CallT Tryz.prog 27 18 mc27 mr27:=acall_mc (by kernel_rfl) Tryz.func27 mc27_eq Tryz.ntmps27 (by kernel_rfl) mr27_eq
/- spec.l3Prog -/
/- spec.l3Opens -/
def lv53:List Nat:=[0,2,19,46]
def mc53:MC :=
.seq (.reg [
 iL 2 (.mv (.c (.p (.b false))))]) (
 .seq (.seq (.drw [
 iT 3 (.mv (.l 0)),iT 4 (.nilc (.t 3)),iT 5 (.fad 5 (.t 4)),iT 6 (.fad 0 (.t 5)),iT 7 (.ld false 1 (.t 6)),iT 8 (.bin .eql (.t 7) (cI 0)),iT 9 (.mv (.t 8)),⟨.t 10,.mv (.l 0),some ((.t 9),true)⟩,⟨.t 11,.nilc (.t 10),some ((.t 9),true)⟩,⟨.t 12,.fad 2 (.t 11),some ((.t 9),true)⟩,⟨.t 13,.ld false 1 (.t 12),some ((.t 9),true)⟩,⟨.t 14,.mv (.l 0),some ((.t 9),true)⟩,⟨.t 15,.nilc (.t 14),some ((.t 9),true)⟩,⟨.t 16,.fad 4 (.t 15),some ((.t 9),true)⟩,⟨.t 17,.ld false 1 (.t 16),some ((.t 9),true)⟩] [
 ⟨.t 18,.bin .eql (.t 13) (.t 17),some ((.t 9),true)⟩,iL 19 (.pick (.t 9) (.t 18) (.c (.p (.b false))))]) (
 .cond (.l 19) (
 .reg [
 iT 20 (.mv (.l 0)),iT 21 (.call 27 [.t 20,.c (.p (.i .i64 12))])]) (
 .skip))) (
 .seq (.reg [
 iT 22 (.mv (.l 0)),iT 23 (.mv (.l 0)),iT 24 (.nilc (.t 23)),iT 25 (.fad 2 (.t 24)),iT 26 (.ld false 1 (.t 25)),iT 27 (.bin .add (.t 26) (cI 1)),iT 28 (.nilc (.t 22)),iT 29 (.fad 2 (.t 28)),iN (.sto 1 (.t 29) (.t 27))]) (
 .seq (.seq (.drw [
 iT 30 (.mv (.l 0)),iT 31 (.nilc (.t 30)),iT 32 (.fad 5 (.t 31)),iT 33 (.fad 0 (.t 32)),iT 34 (.ld false 1 (.t 33)),iT 35 (.bin .eql (.t 34) (cI 0)),iT 36 (.mv (.t 35)),⟨.t 37,.mv (.l 0),some ((.t 36),true)⟩,⟨.t 38,.nilc (.t 37),some ((.t 36),true)⟩,⟨.t 39,.fad 2 (.t 38),some ((.t 36),true)⟩,⟨.t 40,.ld false 1 (.t 39),some ((.t 36),true)⟩,⟨.t 41,.mv (.l 0),some ((.t 36),true)⟩,⟨.t 42,.nilc (.t 41),some ((.t 36),true)⟩,⟨.t 43,.fad 3 (.t 42),some ((.t 36),true)⟩,⟨.t 44,.ld false 1 (.t 43),some ((.t 36),true)⟩] [
 ⟨.t 45,.bin .gtr (.t 40) (.t 44),some ((.t 36),true)⟩,iL 46 (.pick (.t 36) (.t 45) (.c (.p (.b false))))]) (
 .cond (.l 46) (
 .reg [
 iT 47 (.mv (.l 0)),iT 48 (.mv (.l 0)),iT 49 (.nilc (.t 48)),iT 50 (.fad 2 (.t 49)),iT 51 (.ld false 1 (.t 50)),iT 52 (.nilc (.t 47)),iT 53 (.fad 3 (.t 52)),iN (.sto 1 (.t 53) (.t 51))]) (
 .skip))) (
 .seq (.reg [
 iT 54 (.mv (.l 0)),iT 55 (.nilc (.t 54)),iT 56 (.fad 5 (.t 55)),iT 57 (.fad 0 (.t 56)),iT 58 (.ld false 1 (.t 57)),iT 59 (.bin .eql (.t 58) (cI 0)),iL 2 (.mv (.t 59))]) (
 .ret)))))
theorem mc53_eq:(Tryz.f53.body.map (compile lv53 Tryz.prog 60))=some mc53:=by kernel_rfl
def mr53:List MR:=[.t 2]
theorem mr53_eq:cRess lv53 Tryz.prog Tryz.f53.results.toList=some mr53:=by kernel_rfl
theorem call53:CallT Tryz.prog 53 60 mc53 mr53:=acall_mc (by kernel_rfl) Tryz.func53 mc53_eq Tryz.ntmps53 (by kernel_rfl) mr53_eq
/- spec.l3ExprIn -/
def lv54:List Nat:=[0,2,3,10,15,22,44,60,89,112]
def mc54:MC :=
.seq (.reg [
 iL 2 (.alloc zl7_0)]) (
 .seq (.reg [
 iT 4 (.mv (.l 0)),iT 5 (.call 26 [.t 4]),iT 6 (.fld false 3 1 (.t 5)),iT 7 (.build zl7_0 [(4,1,(.t 6))]),iL 3 (.alloc zl7_0),iN (.sto 7 (.l 3) (.t 7))]) (
 .seq (.blk 0 (
 .seq (.reg [
 iT 11 (.mv (.l 0)),iT 12 (.call 104 [.t 11,.c (.p (.s [108,101,116]))]),iL 10 (.mv (.t 12))]) (
 .cond (.l 10) (
 .seq (.reg [
 iT 13 (.fad 0 (.l 3)),iN (.sto 1 (.t 13) (cI 10))]) (
 .seq (.seq (.reg [
 iT 14 (.mv (.l 0)),iL 15 (.call 104 [.t 14,.c (.p (.s [114,101,99]))])]) (
 .cond (.l 15) (
 .reg [
 iT 16 (.fad 0 (.l 3)),iN (.sto 1 (.t 16) (cI 11))]) (
 .skip))) (
 .seq (.reg [
 iT 17 (.mv (.l 0)),iT 18 (.call 105 [.t 17,.c (.p (.i .i64 3))]),iT 19 (.fad 1 (.l 3)),iN (.sto 1 (.t 19) (.t 18))]) (
 .seq (.seq (.reg [
 iT 20 (.fad 0 (.l 3)),iT 21 (.ld false 1 (.t 20)),iL 22 (.bin .eql (.t 21) (cI 11))]) (
 .cond (.l 22) (
 .reg [
 iT 23 (.mv (.l 0)),iT 24 (.call 105 [.t 23,.c (.p (.i .i64 3))]),iT 25 (.fad 3 (.l 3)),iN (.sto 1 (.t 25) (.t 24))]) (
 .skip))) (
 .seq (.reg [
 iT 26 (.mv (.l 0)),iT 27 (.call 106 [.t 26,.c (.p (.s [61]))])]) (
 .seq (.drw [
 iT 28 (.fad 5 (.l 3)),iT 29 (.ld false 1 (.t 28)),iT 30 (.mv (.l 0)),iT 31 (.call 25 [.t 30]),iT 32 (.bsl 7 zl7_0 1 [(0,(.t 31))])] [
 iT 33 (.app 7 104 (.t 29) (.t 32)),iT 34 (.fad 5 (.l 3)),iN (.sto 1 (.t 34) (.t 33))]) (
 .seq (.reg [
 iT 35 (.mv (.l 0)),iT 36 (.call 106 [.t 35,.c (.p (.s [105,110]))])]) (
 .drw [
 iT 37 (.fad 5 (.l 3)),iT 38 (.ld false 1 (.t 37)),iT 39 (.mv (.l 0)),iT 40 (.call 25 [.t 39]),iT 41 (.bsl 7 zl7_0 1 [(0,(.t 40))])] [
 iT 42 (.app 7 104 (.t 38) (.t 41)),iT 43 (.fad 5 (.l 3)),iN (.sto 1 (.t 43) (.t 42))])))))))) (
 .seq (.reg [
 iT 45 (.mv (.l 0)),iT 46 (.call 104 [.t 45,.c (.p (.s [102,117,110]))]),iL 44 (.mv (.t 46))]) (
 .cond (.l 44) (
 .seq (.reg [
 iT 47 (.fad 0 (.l 3)),iN (.sto 1 (.t 47) (cI 8))]) (
 .seq (.reg [
 iT 48 (.mv (.l 0)),iT 49 (.call 105 [.t 48,.c (.p (.i .i64 3))]),iT 50 (.fad 1 (.l 3)),iN (.sto 1 (.t 50) (.t 49))]) (
 .seq (.reg [
 iT 51 (.mv (.l 0)),iT 52 (.call 106 [.t 51,.c (.p (.s [45,62]))])]) (
 .drw [
 iT 53 (.fad 5 (.l 3)),iT 54 (.ld false 1 (.t 53)),iT 55 (.mv (.l 0)),iT 56 (.call 25 [.t 55]),iT 57 (.bsl 7 zl7_0 1 [(0,(.t 56))])] [
 iT 58 (.app 7 104 (.t 54) (.t 57)),iT 59 (.fad 5 (.l 3)),iN (.sto 1 (.t 59) (.t 58))])))) (
 .seq (.reg [
 iT 61 (.mv (.l 0)),iT 62 (.call 104 [.t 61,.c (.p (.s [105,102]))]),iL 60 (.mv (.t 62))]) (
 .cond (.l 60) (
 .seq (.reg [
 iT 63 (.fad 0 (.l 3)),iN (.sto 1 (.t 63) (cI 12))]) (
 .seq (.drw [
 iT 64 (.fad 5 (.l 3)),iT 65 (.ld false 1 (.t 64)),iT 66 (.mv (.l 0)),iT 67 (.call 25 [.t 66]),iT 68 (.bsl 7 zl7_0 1 [(0,(.t 67))])] [
 iT 69 (.app 7 104 (.t 65) (.t 68)),iT 70 (.fad 5 (.l 3)),iN (.sto 1 (.t 70) (.t 69))]) (
 .seq (.reg [
 iT 71 (.mv (.l 0)),iT 72 (.call 106 [.t 71,.c (.p (.s [116,104,101,110]))])]) (
 .seq (.drw [
 iT 73 (.fad 5 (.l 3)),iT 74 (.ld false 1 (.t 73)),iT 75 (.mv (.l 0)),iT 76 (.call 25 [.t 75]),iT 77 (.bsl 7 zl7_0 1 [(0,(.t 76))])] [
 iT 78 (.app 7 104 (.t 74) (.t 77)),iT 79 (.fad 5 (.l 3)),iN (.sto 1 (.t 79) (.t 78))]) (
 .seq (.reg [
 iT 80 (.mv (.l 0)),iT 81 (.call 106 [.t 80,.c (.p (.s [101,108,115,101]))])]) (
 .drw [
 iT 82 (.fad 5 (.l 3)),iT 83 (.ld false 1 (.t 82)),iT 84 (.mv (.l 0)),iT 85 (.call 25 [.t 84]),iT 86 (.bsl 7 zl7_0 1 [(0,(.t 85))])] [
 iT 87 (.app 7 104 (.t 83) (.t 86)),iT 88 (.fad 5 (.l 3)),iN (.sto 1 (.t 88) (.t 87))])))))) (
 .seq (.reg [
 iT 90 (.mv (.l 0)),iT 91 (.call 104 [.t 90,.c (.p (.s [109,97,116,99,104]))]),iL 89 (.mv (.t 91))]) (
 .cond (.l 89) (
 .seq (.reg [
 iT 92 (.fad 0 (.l 3)),iN (.sto 1 (.t 92) (cI 13))]) (
 .seq (.drw [
 iT 93 (.fad 5 (.l 3)),iT 94 (.ld false 1 (.t 93)),iT 95 (.mv (.l 0)),iT 96 (.call 25 [.t 95]),iT 97 (.bsl 7 zl7_0 1 [(0,(.t 96))])] [
 iT 98 (.app 7 104 (.t 94) (.t 97)),iT 99 (.fad 5 (.l 3)),iN (.sto 1 (.t 99) (.t 98))]) (
 .seq (.reg [
 iT 100 (.mv (.l 0)),iT 101 (.call 106 [.t 100,.c (.p (.s [119,105,116,104]))])]) (
 .seq (.reg [
 iT 102 (.mv (.l 0)),iT 103 (.call 106 [.t 102,.c (.p (.s [124]))])]) (
 .seq (.drw [
 iT 104 (.fad 6 (.l 3)),iT 105 (.ld false 1 (.t 104)),iT 106 (.mv (.l 0)),iT 107 (.call 107 [.t 106]),iT 108 (.bsl 12 zl7_3 1 [(0,(.t 107))])] [
 iT 109 (.app 12 168 (.t 105) (.t 108)),iT 110 (.fad 6 (.l 3)),iN (.sto 1 (.t 110) (.t 109))]) (
 .seq (.blk 1 (
 .loop (
 .seq (.seq (.reg [
 iT 111 (.mv (.l 0)),iL 112 (.call 104 [.t 111,.c (.p (.s [124]))])]) (
 .cond (.l 112) (
 .skip) (
 .exit 1))) (
 .blk 2 (
 .drw [
 iT 113 (.fad 6 (.l 3)),iT 114 (.ld false 1 (.t 113)),iT 115 (.mv (.l 0)),iT 116 (.call 107 [.t 115]),iT 117 (.bsl 12 zl7_3 1 [(0,(.t 116))])] [
 iT 118 (.app 12 168 (.t 114) (.t 117)),iT 119 (.fad 6 (.l 3)),iN (.sto 1 (.t 119) (.t 118))]))))) (
 .reg [
 iT 120 (.mv (.l 0)),iT 121 (.call 106 [.t 120,.c (.p (.s [101,110,100]))])]))))))) (
 .seq (.reg [
 iT 8 (.mv (.l 0)),iT 9 (.call 108 [.t 8,.c (.p (.i .i64 1))]),iN (.sto 7 (.l 2) (.t 9))]) (
 .ret))))))))))) (
 .seq (.reg [
 iT 122 (.ld true 7 (.l 3)),iN (.sto 7 (.l 2) (.t 122))]) (
 .ret))))
theorem mc54_eq:(Tryz.f54.body.map (compile lv54 Tryz.prog 123))=some mc54:=by kernel_rfl
def mr54:List MR:=[.cell true 7 2]
theorem mr54_eq:cRess lv54 Tryz.prog Tryz.f54.results.toList=some mr54:=by kernel_rfl
theorem call54:CallT Tryz.prog 54 123 mc54 mr54:=acall_mc (by kernel_rfl) Tryz.func54 mc54_eq Tryz.ntmps54 (by kernel_rfl) mr54_eq
/- spec.l3Closes -/
def lv55:List Nat:=[0]
def mc55:MC :=
.reg [
 iT 2 (.mv (.l 0)),iT 3 (.mv (.l 0)),iT 4 (.nilc (.t 3)),iT 5 (.fad 2 (.t 4)),iT 6 (.ld false 1 (.t 5)),iT 7 (.bin .sub (.t 6) (cI 1)),iT 8 (.nilc (.t 2)),iT 9 (.fad 2 (.t 8)),iN (.sto 1 (.t 9) (.t 7))]
theorem mc55_eq:(Tryz.f55.body.map (compile lv55 Tryz.prog 10))=some mc55:=by kernel_rfl
def mr55:List MR:=[]
theorem mr55_eq:cRess lv55 Tryz.prog Tryz.f55.results.toList=some mr55:=by kernel_rfl
theorem call55:CallT Tryz.prog 55 10 mc55 mr55:=acall_mc (by kernel_rfl) Tryz.func55 mc55_eq Tryz.ntmps55 (by kernel_rfl) mr55_eq
/- spec.l3Is -/
def lv70:List Nat:=[0,1,4,5]
def mc70:MC :=
.seq (.reg [
 iL 4 (.mv (.c (.p (.b false))))]) (
 .seq (.reg [
 iT 6 (.mv (.l 0)),iT 7 (.call 26 [.t 6]),iL 5 (.alloc [.p (.i .i64 0),.p (.s []),.p (.i .i64 0),.p (.i .i64 0)]),iN (.sto 4 (.l 5) (.t 7))]) (
 .seq (.reg [
 iT 8 (.mv (.l 0)),iT 9 (.nilc (.t 8)),iT 10 (.fad 5 (.t 9)),iT 11 (.fad 0 (.t 10)),iT 12 (.ld false 1 (.t 11)),iT 13 (.bin .eql (.t 12) (cI 0)),iT 14 (.mv (.t 13)),⟨.t 15,.fad 0 (.l 5),some ((.t 14),true)⟩,⟨.t 16,.ld false 1 (.t 15),some ((.t 14),true)⟩,⟨.t 17,.bin .eql (.t 16) (cI 6),some ((.t 14),true)⟩,⟨.t 18,.mv (.t 17),some ((.t 14),true)⟩,⟨.t 19,.fad 0 (.l 5),some ((.t 18),false)⟩,⟨.t 20,.ld false 1 (.t 19),some ((.t 18),false)⟩,⟨.t 21,.bin .eql (.t 20) (cI 7),some ((.t 18),false)⟩,⟨.t 22,.pick (.t 18) (.c (.p (.b true))) (.t 21),some ((.t 14),true)⟩,iT 23 (.pick (.t 14) (.t 22) (.c (.p (.b false)))),iT 24 (.mv (.t 23)),⟨.t 25,.fad 1 (.l 5),some ((.t 24),true)⟩,⟨.t 26,.ld false 1 (.t 25),some ((.t 24),true)⟩,⟨.t 27,.mv (.l 1),some ((.t 24),true)⟩,⟨.t 28,.bin .eql (.t 26) (.t 27),some ((.t 24),true)⟩,iT 29 (.pick (.t 24) (.t 28) (.c (.p (.b false)))),iL 4 (.mv (.t 29))]) (
 .ret)))
theorem mc70_eq:(Tryz.f70.body.map (compile lv70 Tryz.prog 30))=some mc70:=by kernel_rfl
def mr70:List MR:=[.t 4]
theorem mr70_eq:cRess lv70 Tryz.prog Tryz.f70.results.toList=some mr70:=by kernel_rfl
theorem call70:CallT Tryz.prog 70 30 mc70 mr70:=acall_mc (by kernel_rfl) Tryz.func70 mc70_eq Tryz.ntmps70 (by kernel_rfl) mr70_eq
/- spec.l3Data -/
/- spec.l3Has -/
def lv104:List Nat:=[0,1,4,7]
def mc104:MC :=
.seq (.reg [
 iL 4 (.mv (.c (.p (.b false))))]) (
 .seq (.seq (.reg [
 iT 5 (.mv (.l 0)),iT 6 (.mv (.l 1)),iL 7 (.call 70 [.t 5,.t 6])]) (
 .cond (.l 7) (
 .seq (.reg [
 iT 8 (.mv (.l 0)),iT 9 (.mv (.l 0)),iT 10 (.nilc (.t 9)),iT 11 (.fad 1 (.t 10)),iT 12 (.ld false 1 (.t 11)),iT 13 (.bin .add (.t 12) (cI 1)),iT 14 (.nilc (.t 8)),iT 15 (.fad 1 (.t 14)),iN (.sto 1 (.t 15) (.t 13))]) (
 .seq (.reg [
 iL 4 (.mv (.c (.p (.b true))))]) (
 .ret))) (
 .skip))) (
 .seq (.reg [
 iL 4 (.mv (.c (.p (.b false))))]) (
 .ret)))
theorem mc104_eq:(Tryz.f104.body.map (compile lv104 Tryz.prog 16))=some mc104:=by kernel_rfl
def mr104:List MR:=[.t 4]
theorem mr104_eq:cRess lv104 Tryz.prog Tryz.f104.results.toList=some mr104:=by kernel_rfl
theorem call104:CallT Tryz.prog 104 16 mc104 mr104:=acall_mc (by kernel_rfl) Tryz.func104 mc104_eq Tryz.ntmps104 (by kernel_rfl) mr104_eq
/- spec.l3Kind -/
def lv105:List Nat:=[0,1,4,5,19]
def mc105:MC :=
.seq (.reg [
 iL 4 (.mv (.c (.p (.s []))))]) (
 .seq (.reg [
 iT 6 (.mv (.l 0)),iT 7 (.call 26 [.t 6]),iL 5 (.alloc [.p (.i .i64 0),.p (.s []),.p (.i .i64 0),.p (.i .i64 0)]),iN (.sto 4 (.l 5) (.t 7))]) (
 .seq (.seq (.reg [
 iT 8 (.mv (.l 0)),iT 9 (.nilc (.t 8)),iT 10 (.fad 5 (.t 9)),iT 11 (.fad 0 (.t 10)),iT 12 (.ld false 1 (.t 11)),iT 13 (.bin .neq (.t 12) (cI 0)),iT 14 (.mv (.t 13)),⟨.t 15,.fad 0 (.l 5),some ((.t 14),false)⟩,⟨.t 16,.ld false 1 (.t 15),some ((.t 14),false)⟩,⟨.t 17,.mv (.l 1),some ((.t 14),false)⟩,⟨.t 18,.bin .neq (.t 16) (.t 17),some ((.t 14),false)⟩,iL 19 (.pick (.t 14) (.c (.p (.b true))) (.t 18))]) (
 .cond (.l 19) (
 .seq (.reg [
 iT 20 (.mv (.l 0)),iT 21 (.call 27 [.t 20,.c (.p (.i .i64 11))])]) (
 .seq (.reg [
 iL 4 (.mv (.c (.p (.s []))))]) (
 .ret))) (
 .skip))) (
 .seq (.reg [
 iT 22 (.mv (.l 0)),iT 23 (.mv (.l 0)),iT 24 (.nilc (.t 23)),iT 25 (.fad 1 (.t 24)),iT 26 (.ld false 1 (.t 25)),iT 27 (.bin .add (.t 26) (cI 1)),iT 28 (.nilc (.t 22)),iT 29 (.fad 1 (.t 28)),iN (.sto 1 (.t 29) (.t 27))]) (
 .seq (.reg [
 iT 30 (.fad 1 (.l 5)),iT 31 (.ld false 1 (.t 30)),iL 4 (.mv (.t 31))]) (
 .ret)))))
theorem mc105_eq:(Tryz.f105.body.map (compile lv105 Tryz.prog 32))=some mc105:=by kernel_rfl
def mr105:List MR:=[.t 4]
theorem mr105_eq:cRess lv105 Tryz.prog Tryz.f105.results.toList=some mr105:=by kernel_rfl
theorem call105:CallT Tryz.prog 105 32 mc105 mr105:=acall_mc (by kernel_rfl) Tryz.func105 mc105_eq Tryz.ntmps105 (by kernel_rfl) mr105_eq
/- spec.l3Want -/
def lv106:List Nat:=[0,1,7]
def mc106:MC :=
.seq (.reg [
 iT 4 (.mv (.l 0)),iT 5 (.mv (.l 1)),iT 6 (.call 104 [.t 4,.t 5]),iL 7 (.un .not (.t 6))]) (
 .cond (.l 7) (
 .reg [
 iT 8 (.mv (.l 0)),iT 9 (.call 27 [.t 8,.c (.p (.i .i64 11))])]) (
 .skip))
theorem mc106_eq:(Tryz.f106.body.map (compile lv106 Tryz.prog 10))=some mc106:=by kernel_rfl
def mr106:List MR:=[]
theorem mr106_eq:cRess lv106 Tryz.prog Tryz.f106.results.toList=some mr106:=by kernel_rfl
theorem call106:CallT Tryz.prog 106 10 mc106 mr106:=acall_mc (by kernel_rfl) Tryz.func106 mc106_eq Tryz.ntmps106 (by kernel_rfl) mr106_eq
/- spec.l3Arm -/
def lv107:List Nat:=[0,2,3]
def mc107:MC :=
.seq (.reg [
 iL 2 (.alloc zl7_3)]) (
 .seq (.reg [
 iT 4 (.mv (.l 0)),iT 5 (.call 163 [.t 4]),iT 6 (.build zl7_3 [(0,5,(.t 5))]),iL 3 (.alloc zl7_3),iN (.sto 12 (.l 3) (.t 6))]) (
 .seq (.reg [
 iT 7 (.mv (.l 0)),iT 8 (.call 106 [.t 7,.c (.p (.s [45,62]))])]) (
 .seq (.reg [
 iT 9 (.mv (.l 0)),iT 10 (.call 25 [.t 9]),iT 11 (.fad 5 (.l 3)),iN (.sto 7 (.t 11) (.t 10))]) (
 .seq (.reg [
 iT 12 (.ld true 12 (.l 3)),iN (.sto 12 (.l 2) (.t 12))]) (
 .ret)))))
theorem mc107_eq:(Tryz.f107.body.map (compile lv107 Tryz.prog 13))=some mc107:=by kernel_rfl
def mr107:List MR:=[.cell true 12 2]
theorem mr107_eq:cRess lv107 Tryz.prog Tryz.f107.results.toList=some mr107:=by kernel_rfl
theorem call107:CallT Tryz.prog 107 13 mc107 mr107:=acall_mc (by kernel_rfl) Tryz.func107 mc107_eq Tryz.ntmps107 (by kernel_rfl) mr107_eq
/- spec.l3Ops -/
def lv108:List Nat:=[0,1,4,5,6,8,17,40]
def mc108:MC :=
.seq (.reg [
 iL 4 (.alloc zl7_0)]) (
 .seq (.seq (.reg [
 iT 7 (.mv (.l 1)),iL 8 (.bin .eql (.t 7) (cI 5))]) (
 .cond (.l 8) (
 .seq (.reg [
 iT 9 (.mv (.l 0)),iT 10 (.call 164 [.t 9]),iN (.sto 7 (.l 4) (.t 10))]) (
 .ret)) (
 .skip))) (
 .seq (.reg [
 iT 11 (.mv (.l 0)),iT 12 (.mv (.l 1)),iT 13 (.bin .add (.t 12) (cI 1)),iT 14 (.call 108 [.t 11,.t 13]),iL 5 (.alloc zl7_0),iN (.sto 7 (.l 5) (.t 14))]) (
 .seq (.blk 0 (
 .loop (
 .seq (.seq (.reg [
 iT 15 (.mv (.l 0)),iT 16 (.mv (.l 1)),iL 17 (.call 165 [.t 15,.t 16])]) (
 .cond (.l 17) (
 .skip) (
 .exit 0))) (
 .blk 1 (
 .seq (.reg [
 iT 18 (.mv (.l 0)),iT 19 (.call 26 [.t 18]),iL 6 (.alloc [.p (.i .i64 0),.p (.s []),.p (.i .i64 0),.p (.i .i64 0)]),iN (.sto 4 (.l 6) (.t 19))]) (
 .seq (.reg [
 iT 20 (.mv (.l 0)),iT 21 (.mv (.l 0)),iT 22 (.nilc (.t 21)),iT 23 (.fad 1 (.t 22)),iT 24 (.ld false 1 (.t 23)),iT 25 (.bin .add (.t 24) (cI 1)),iT 26 (.nilc (.t 20)),iT 27 (.fad 1 (.t 26)),iN (.sto 1 (.t 27) (.t 25))]) (
 .seq (.drw [
 iT 28 (.fad 1 (.l 6)),iT 29 (.ld false 1 (.t 28)),iT 30 (.fad 3 (.l 6)),iT 31 (.ld false 1 (.t 30)),iT 32 (.ld true 7 (.l 5)),iT 33 (.mv (.l 0)),iT 34 (.mv (.l 1)),iT 35 (.bin .add (.t 34) (cI 1)),iT 36 (.call 108 [.t 33,.t 35]),iT 37 (.bsl 7 zl7_0 2 [(0,(.t 32)),(1,(.t 36))])] [
 iT 38 (.build zl7_0 [(0,1,(cI 14)),(1,1,(.t 29)),(4,1,(.t 31)),(5,1,(.t 37))]),iN (.sto 7 (.l 5) (.t 38))]) (
 .seq (.reg [
 iT 39 (.mv (.l 1)),iL 40 (.bin .leq (.t 39) (cI 2))]) (
 .cond (.l 40) (
 .exit 0) (
 .skip)))))))))) (
 .seq (.reg [
 iT 41 (.ld true 7 (.l 5)),iN (.sto 7 (.l 4) (.t 41))]) (
 .ret)))))
theorem mc108_eq:(Tryz.f108.body.map (compile lv108 Tryz.prog 42))=some mc108:=by kernel_rfl
def mr108:List MR:=[.cell true 7 4]
theorem mr108_eq:cRess lv108 Tryz.prog Tryz.f108.results.toList=some mr108:=by kernel_rfl
theorem call108:CallT Tryz.prog 108 42 mc108 mr108:=acall_mc (by kernel_rfl) Tryz.func108 mc108_eq Tryz.ntmps108 (by kernel_rfl) mr108_eq
/- spec.l3Ctor -/
/- spec.l3Pat -/
def lv163:List Nat:=[0,2,3,4,7,18]
def mc163:MC :=
.seq (.reg [
 iL 2 (.alloc [.p (.i .i64 0),.p (.s []),.p (.i .i64 0),.p (.i .i64 0),.p (.nl)])]) (
 .seq (.reg [
 iT 5 (.build [.p (.i .i64 0),.p (.s []),.p (.i .i64 0),.p (.i .i64 0),.p (.nl)] []),iL 3 (.alloc [.p (.i .i64 0),.p (.s []),.p (.i .i64 0),.p (.i .i64 0),.p (.nl)]),iN (.sto 5 (.l 3) (.t 5))]) (
 .seq (.seq (.reg [
 iT 6 (.mv (.l 0)),iL 7 (.call 53 [.t 6])]) (
 .cond (.l 7) (
 .seq (.reg [
 iT 8 (.mv (.l 0)),iT 9 (.call 26 [.t 8]),iL 4 (.alloc [.p (.i .i64 0),.p (.s []),.p (.i .i64 0),.p (.i .i64 0)]),iN (.sto 4 (.l 4) (.t 9))]) (
 .seq (.reg [
 iT 10 (.mv (.l 0)),iT 11 (.call 207 [.t 10]),iN (.sto 5 (.l 3) (.t 11))]) (
 .seq (.reg [
 iT 12 (.fad 0 (.l 4)),iT 13 (.ld false 1 (.t 12)),iT 14 (.bin .eql (.t 13) (cI 4)),iT 15 (.mv (.t 14)),⟨.t 16,.mv (.l 0),some ((.t 15),true)⟩,⟨.t 17,.call 208 [.t 16],some ((.t 15),true)⟩,iL 18 (.pick (.t 15) (.t 17) (.c (.p (.b false))))]) (
 .cond (.l 18) (
 .reg [
 iT 19 (.mv (.l 0)),iT 20 (.call 207 [.t 19]),iT 21 (.bsl 5 [.p (.i .i64 0),.p (.s []),.p (.i .i64 0),.p (.i .i64 0),.p (.nl)] 1 [(0,(.t 20))]),iT 22 (.fad 4 (.l 3)),iN (.sto 1 (.t 22) (.t 21))]) (
 .skip))))) (
 .skip))) (
 .seq (.reg [
 iT 23 (.mv (.l 0)),iT 24 (.call 55 [.t 23])]) (
 .seq (.reg [
 iT 25 (.ld true 5 (.l 3)),iN (.sto 5 (.l 2) (.t 25))]) (
 .ret)))))
theorem mc163_eq:(Tryz.f163.body.map (compile lv163 Tryz.prog 26))=some mc163:=by kernel_rfl
def mr163:List MR:=[.cell true 5 2]
theorem mr163_eq:cRess lv163 Tryz.prog Tryz.f163.results.toList=some mr163:=by kernel_rfl
theorem call163:CallT Tryz.prog 163 26 mc163 mr163:=acall_mc (by kernel_rfl) Tryz.func163 mc163_eq Tryz.ntmps163 (by kernel_rfl) mr163_eq
/- spec.l3App -/
def lv164:List Nat:=[0,2,3,7]
def mc164:MC :=
.seq (.reg [
 iL 2 (.alloc zl7_0)]) (
 .seq (.reg [
 iT 4 (.mv (.l 0)),iT 5 (.call 209 [.t 4]),iL 3 (.alloc zl7_0),iN (.sto 7 (.l 3) (.t 5))]) (
 .seq (.blk 0 (
 .loop (
 .seq (.seq (.reg [
 iT 6 (.mv (.l 0)),iL 7 (.call 210 [.t 6])]) (
 .cond (.l 7) (
 .skip) (
 .exit 0))) (
 .blk 1 (
 .drw [
 iT 8 (.fad 4 (.l 3)),iT 9 (.ld false 1 (.t 8)),iT 10 (.ld true 7 (.l 3)),iT 11 (.mv (.l 0)),iT 12 (.call 211 [.t 11]),iT 13 (.bsl 7 zl7_0 2 [(0,(.t 10)),(1,(.t 12))])] [
 iT 14 (.build zl7_0 [(0,1,(cI 9)),(4,1,(.t 9)),(5,1,(.t 13))]),iN (.sto 7 (.l 3) (.t 14))]))))) (
 .seq (.reg [
 iT 15 (.ld true 7 (.l 3)),iN (.sto 7 (.l 2) (.t 15))]) (
 .ret))))
theorem mc164_eq:(Tryz.f164.body.map (compile lv164 Tryz.prog 16))=some mc164:=by kernel_rfl
def mr164:List MR:=[.cell true 7 2]
theorem mr164_eq:cRess lv164 Tryz.prog Tryz.f164.results.toList=some mr164:=by kernel_rfl
theorem call164:CallT Tryz.prog 164 16 mc164 mr164:=acall_mc (by kernel_rfl) Tryz.func164 mc164_eq Tryz.ntmps164 (by kernel_rfl) mr164_eq
/- spec.l3Sign -/
def lv165:List Nat:=[0,1,4,5]
def mc165:MC :=
.seq (.reg [
 iL 4 (.mv (.c (.p (.b false))))]) (
 .seq (.reg [
 iT 6 (.mv (.l 0)),iT 7 (.call 26 [.t 6]),iL 5 (.alloc [.p (.i .i64 0),.p (.s []),.p (.i .i64 0),.p (.i .i64 0)]),iN (.sto 4 (.l 5) (.t 7))]) (
 .seq (.reg [
 iT 8 (.mv (.l 0)),iT 9 (.nilc (.t 8)),iT 10 (.fad 5 (.t 9)),iT 11 (.fad 0 (.t 10)),iT 12 (.ld false 1 (.t 11)),iT 13 (.bin .eql (.t 12) (cI 0)),iT 14 (.mv (.t 13)),⟨.t 15,.fad 0 (.l 5),some ((.t 14),true)⟩,⟨.t 16,.ld false 1 (.t 15),some ((.t 14),true)⟩,⟨.t 17,.bin .eql (.t 16) (cI 7),some ((.t 14),true)⟩,iT 18 (.pick (.t 14) (.t 17) (.c (.p (.b false)))),iT 19 (.mv (.t 18)),⟨.t 20,.fad 1 (.l 5),some ((.t 19),true)⟩,⟨.t 21,.ld false 1 (.t 20),some ((.t 19),true)⟩,⟨.t 22,.call 212 [.t 21],some ((.t 19),true)⟩,iT 23 (.pick (.t 19) (.t 22) (.c (.p (.b false)))),iT 24 (.mv (.t 23)),⟨.t 25,.fad 1 (.l 5),some ((.t 24),true)⟩,⟨.t 26,.ld false 1 (.t 25),some ((.t 24),true)⟩,⟨.t 27,.call 180 [.t 26],some ((.t 24),true)⟩,⟨.t 28,.mv (.l 1),some ((.t 24),true)⟩,⟨.t 29,.bin .eql (.t 27) (.t 28),some ((.t 24),true)⟩,iT 30 (.pick (.t 24) (.t 29) (.c (.p (.b false)))),iL 4 (.mv (.t 30))]) (
 .ret)))
theorem mc165_eq:(Tryz.f165.body.map (compile lv165 Tryz.prog 31))=some mc165:=by kernel_rfl
def mr165:List MR:=[.t 4]
theorem mr165_eq:cRess lv165 Tryz.prog Tryz.f165.results.toList=some mr165:=by kernel_rfl
theorem call165:CallT Tryz.prog 165 31 mc165 mr165:=acall_mc (by kernel_rfl) Tryz.func165 mc165_eq Tryz.ntmps165 (by kernel_rfl) mr165_eq
/- spec.l3Ty -/
/- spec.l2OpLevel -/
def lv180:List Nat:=[0,2,3,4,6,9]
def mc180:MC :=
.seq (.reg [
 iL 2 (.mv (cI 0))]) (
 .seq (.seq (.reg [
 iL 3 (.mv (.l 0))]) (
 .blk 0 (
 .seq (.reg [
 iT 5 (.bin .eql (.l 3) (.c (.p (.s [58,61])))),iL 4 (.mv (.t 5))]) (
 .cond (.l 4) (
 .seq (.reg [
 iL 2 (.mv (cI 1))]) (
 .ret)) (
 .seq (.seq (.reg [
 iT 7 (.bin .eql (.l 3) (.c (.p (.s [61])))),iL 6 (.mv (.t 7))]) (
 .cond (.l 6) (
 .skip) (
 .reg [
 iT 8 (.bin .eql (.l 3) (.c (.p (.s [60])))),iL 6 (.mv (.t 8))]))) (
 .cond (.l 6) (
 .seq (.reg [
 iL 2 (.mv (cI 2))]) (
 .ret)) (
 .seq (.reg [
 iT 10 (.bin .eql (.l 3) (.c (.p (.s [42])))),iL 9 (.mv (.t 10))]) (
 .cond (.l 9) (
 .seq (.reg [
 iL 2 (.mv (cI 4))]) (
 .ret)) (
 .skip))))))))) (
 .seq (.reg [
 iL 2 (.mv (cI 3))]) (
 .ret)))
theorem mc180_eq:(Tryz.f180.body.map (compile lv180 Tryz.prog 11))=some mc180:=by kernel_rfl
def mr180:List MR:=[.t 2]
theorem mr180_eq:cRess lv180 Tryz.prog Tryz.f180.results.toList=some mr180:=by kernel_rfl
theorem call180:CallT Tryz.prog 180 11 mc180 mr180:=acall_mc (by kernel_rfl) Tryz.func180 mc180_eq Tryz.ntmps180 (by kernel_rfl) mr180_eq
/- spec.l3PatAt -/
def lv207:List Nat:=[0,2,3,4,5,10,29,39,46,54,62,70,75,87,89]
def mc207:MC :=
.seq (.reg [
 iL 2 (.alloc [.p (.i .i64 0),.p (.s []),.p (.i .i64 0),.p (.i .i64 0),.p (.nl)])]) (
 .seq (.reg [
 iT 6 (.mv (.l 0)),iT 7 (.call 26 [.t 6]),iL 3 (.alloc [.p (.i .i64 0),.p (.s []),.p (.i .i64 0),.p (.i .i64 0)]),iN (.sto 4 (.l 3) (.t 7))]) (
 .seq (.seq (.reg [
 iT 8 (.mv (.l 0)),iT 9 (.call 208 [.t 8]),iL 10 (.un .not (.t 9))]) (
 .cond (.l 10) (
 .seq (.reg [
 iT 11 (.mv (.l 0)),iT 12 (.call 27 [.t 11,.c (.p (.i .i64 11))])]) (
 .seq (.reg [
 iT 13 (.build [.p (.i .i64 0),.p (.s []),.p (.i .i64 0),.p (.i .i64 0),.p (.nl)] []),iN (.sto 5 (.l 2) (.t 13))]) (
 .ret))) (
 .skip))) (
 .seq (.reg [
 iT 14 (.mv (.l 0)),iT 15 (.mv (.l 0)),iT 16 (.nilc (.t 15)),iT 17 (.fad 1 (.t 16)),iT 18 (.ld false 1 (.t 17)),iT 19 (.bin .add (.t 18) (cI 1)),iT 20 (.nilc (.t 14)),iT 21 (.fad 1 (.t 20)),iN (.sto 1 (.t 21) (.t 19))]) (
 .seq (.reg [
 iT 22 (.fad 3 (.l 3)),iT 23 (.ld false 1 (.t 22)),iT 24 (.build [.p (.i .i64 0),.p (.s []),.p (.i .i64 0),.p (.i .i64 0),.p (.nl)] [(3,1,(.t 23))]),iL 4 (.alloc [.p (.i .i64 0),.p (.s []),.p (.i .i64 0),.p (.i .i64 0),.p (.nl)]),iN (.sto 5 (.l 4) (.t 24))]) (
 .seq (.blk 0 (
 .seq (.reg [
 iT 47 (.fad 0 (.l 3)),iT 48 (.ld false 1 (.t 47)),iT 49 (.bin .eql (.t 48) (cI 3)),iL 46 (.mv (.t 49))]) (
 .cond (.l 46) (
 .seq (.reg [
 iT 50 (.fad 0 (.l 4)),iN (.sto 1 (.t 50) (cI 2))]) (
 .reg [
 iT 51 (.fad 1 (.l 3)),iT 52 (.ld false 1 (.t 51)),iT 53 (.fad 1 (.l 4)),iN (.sto 1 (.t 53) (.t 52))])) (
 .seq (.reg [
 iT 55 (.fad 0 (.l 3)),iT 56 (.ld false 1 (.t 55)),iT 57 (.bin .eql (.t 56) (cI 4)),iL 54 (.mv (.t 57))]) (
 .cond (.l 54) (
 .seq (.reg [
 iT 58 (.fad 0 (.l 4)),iN (.sto 1 (.t 58) (cI 7))]) (
 .reg [
 iT 59 (.fad 1 (.l 3)),iT 60 (.ld false 1 (.t 59)),iT 61 (.fad 1 (.l 4)),iN (.sto 1 (.t 61) (.t 60))])) (
 .seq (.reg [
 iT 63 (.fad 0 (.l 3)),iT 64 (.ld false 1 (.t 63)),iT 65 (.bin .eql (.t 64) (cI 1)),iL 62 (.mv (.t 65))]) (
 .cond (.l 62) (
 .seq (.reg [
 iT 66 (.fad 0 (.l 4)),iN (.sto 1 (.t 66) (cI 3))]) (
 .reg [
 iT 67 (.fad 2 (.l 3)),iT 68 (.ld false 1 (.t 67)),iT 69 (.fad 2 (.l 4)),iN (.sto 1 (.t 69) (.t 68))])) (
 .seq (.reg [
 iT 71 (.fad 1 (.l 3)),iT 72 (.ld false 1 (.t 71)),iT 73 (.bin .eql (.t 72) (.c (.p (.s [95])))),iL 70 (.mv (.t 73))]) (
 .cond (.l 70) (
 .reg [
 iT 74 (.fad 0 (.l 4)),iN (.sto 1 (.t 74) (cI 1))]) (
 .seq (.reg [
 iT 76 (.fad 1 (.l 3)),iT 77 (.ld false 1 (.t 76)),iT 78 (.bin .eql (.t 77) (.c (.p (.s [116,114,117,101])))),iT 79 (.mv (.t 78)),⟨.t 80,.fad 1 (.l 3),some ((.t 79),false)⟩,⟨.t 81,.ld false 1 (.t 80),some ((.t 79),false)⟩,⟨.t 82,.bin .eql (.t 81) (.c (.p (.s [102,97,108,115,101]))),some ((.t 79),false)⟩,iT 83 (.pick (.t 79) (.c (.p (.b true))) (.t 82)),iL 75 (.mv (.t 83))]) (
 .cond (.l 75) (
 .seq (.reg [
 iT 84 (.fad 0 (.l 4)),iN (.sto 1 (.t 84) (cI 4))]) (
 .seq (.reg [
 iT 85 (.fad 1 (.l 3)),iT 86 (.ld false 1 (.t 85)),iL 87 (.bin .eql (.t 86) (.c (.p (.s [116,114,117,101]))))]) (
 .cond (.l 87) (
 .reg [
 iT 88 (.fad 2 (.l 4)),iN (.sto 1 (.t 88) (cI 1))]) (
 .skip)))) (
 .seq (.reg [
 iT 90 (.mv (.l 0)),iT 91 (.call 104 [.t 90,.c (.p (.s [41]))]),iL 89 (.mv (.t 91))]) (
 .cond (.l 89) (
 .reg [
 iT 92 (.fad 0 (.l 4)),iN (.sto 1 (.t 92) (cI 5))]) (
 .seq (.reg [
 iT 25 (.mv (.l 0)),iT 26 (.call 163 [.t 25]),iT 27 (.bsl 5 [.p (.i .i64 0),.p (.s []),.p (.i .i64 0),.p (.i .i64 0),.p (.nl)] 1 [(0,(.t 26))]),iL 5 (.mv (.t 27))]) (
 .seq (.blk 1 (
 .loop (
 .seq (.seq (.reg [
 iT 28 (.mv (.l 0)),iL 29 (.call 104 [.t 28,.c (.p (.s [44]))])]) (
 .cond (.l 29) (
 .skip) (
 .exit 1))) (
 .blk 2 (
 .reg [
 iT 30 (.mv (.l 5)),iT 31 (.mv (.l 0)),iT 32 (.call 163 [.t 31]),iT 33 (.bsl 5 [.p (.i .i64 0),.p (.s []),.p (.i .i64 0),.p (.i .i64 0),.p (.nl)] 1 [(0,(.t 32))]),iT 34 (.app 5 64 (.t 30) (.t 33)),iL 5 (.mv (.t 34))]))))) (
 .seq (.reg [
 iT 35 (.mv (.l 0)),iT 36 (.call 106 [.t 35,.c (.p (.s [41]))])]) (
 .seq (.seq (.reg [
 iT 37 (.mv (.l 5)),iT 38 (.len false (.t 37)),iL 39 (.bin .eql (.t 38) (cI 1))]) (
 .cond (.l 39) (
 .seq (.reg [
 iT 40 (.mv (.l 5)),iT 41 (.ixs 5 (.t 40) (cI 0)),iT 42 (.ld true 5 (.t 41)),iN (.sto 5 (.l 2) (.t 42))]) (
 .ret)) (
 .skip))) (
 .seq (.reg [
 iT 43 (.fad 0 (.l 4)),iN (.sto 1 (.t 43) (cI 6))]) (
 .reg [
 iT 44 (.mv (.l 5)),iT 45 (.fad 4 (.l 4)),iN (.sto 1 (.t 45) (.t 44))]))))))))))))))))))) (
 .seq (.reg [
 iT 93 (.ld true 5 (.l 4)),iN (.sto 5 (.l 2) (.t 93))]) (
 .ret)))))))
theorem mc207_eq:(Tryz.f207.body.map (compile lv207 Tryz.prog 94))=some mc207:=by kernel_rfl
def mr207:List MR:=[.cell true 5 2]
theorem mr207_eq:cRess lv207 Tryz.prog Tryz.f207.results.toList=some mr207:=by kernel_rfl
theorem call207:CallT Tryz.prog 207 94 mc207 mr207:=acall_mc (by kernel_rfl) Tryz.func207 mc207_eq Tryz.ntmps207 (by kernel_rfl) mr207_eq
/- spec.l3PatStarts -/
def lv208:List Nat:=[0,2,3]
def mc208:MC :=
.seq (.reg [
 iL 2 (.mv (.c (.p (.b false))))]) (
 .seq (.reg [
 iT 4 (.mv (.l 0)),iT 5 (.call 26 [.t 4]),iT 6 (.fld false 0 1 (.t 5)),iL 3 (.mv (.t 6))]) (
 .seq (.reg [
 iT 7 (.mv (.l 0)),iT 8 (.nilc (.t 7)),iT 9 (.fad 5 (.t 8)),iT 10 (.fad 0 (.t 9)),iT 11 (.ld false 1 (.t 10)),iT 12 (.bin .eql (.t 11) (cI 0)),iT 13 (.mv (.t 12)),⟨.t 14,.mv (.l 3),some ((.t 13),true)⟩,⟨.t 15,.bin .eql (.t 14) (cI 3),some ((.t 13),true)⟩,⟨.t 16,.mv (.t 15),some ((.t 13),true)⟩,⟨.t 17,.mv (.l 3),some ((.t 16),false)⟩,⟨.t 18,.bin .eql (.t 17) (cI 1),some ((.t 16),false)⟩,⟨.t 19,.pick (.t 16) (.c (.p (.b true))) (.t 18),some ((.t 13),true)⟩,⟨.t 20,.mv (.t 19),some ((.t 13),true)⟩,⟨.t 21,.mv (.l 3),some ((.t 20),false)⟩,⟨.t 22,.bin .eql (.t 21) (cI 4),some ((.t 20),false)⟩,⟨.t 23,.pick (.t 20) (.c (.p (.b true))) (.t 22),some ((.t 13),true)⟩,⟨.t 24,.mv (.t 23),some ((.t 13),true)⟩,⟨.t 25,.mv (.l 0),some ((.t 24),false)⟩,⟨.t 26,.call 70 [.t 25,.c (.p (.s [95]))],some ((.t 24),false)⟩,⟨.t 27,.pick (.t 24) (.c (.p (.b true))) (.t 26),some ((.t 13),true)⟩,⟨.t 28,.mv (.t 27),some ((.t 13),true)⟩,⟨.t 29,.mv (.l 0),some ((.t 28),false)⟩,⟨.t 30,.call 70 [.t 29,.c (.p (.s [116,114,117,101]))],some ((.t 28),false)⟩,⟨.t 31,.pick (.t 28) (.c (.p (.b true))) (.t 30),some ((.t 13),true)⟩,⟨.t 32,.mv (.t 31),some ((.t 13),true)⟩,⟨.t 33,.mv (.l 0),some ((.t 32),false)⟩,⟨.t 34,.call 70 [.t 33,.c (.p (.s [102,97,108,115,101]))],some ((.t 32),false)⟩,⟨.t 35,.pick (.t 32) (.c (.p (.b true))) (.t 34),some ((.t 13),true)⟩,⟨.t 36,.mv (.t 35),some ((.t 13),true)⟩,⟨.t 37,.mv (.l 0),some ((.t 36),false)⟩,⟨.t 38,.call 70 [.t 37,.c (.p (.s [40]))],some ((.t 36),false)⟩,⟨.t 39,.pick (.t 36) (.c (.p (.b true))) (.t 38),some ((.t 13),true)⟩,iT 40 (.pick (.t 13) (.t 39) (.c (.p (.b false)))),iL 2 (.mv (.t 40))]) (
 .ret)))
theorem mc208_eq:(Tryz.f208.body.map (compile lv208 Tryz.prog 41))=some mc208:=by kernel_rfl
def mr208:List MR:=[.t 2]
theorem mr208_eq:cRess lv208 Tryz.prog Tryz.f208.results.toList=some mr208:=by kernel_rfl
theorem call208:CallT Tryz.prog 208 41 mc208 mr208:=acall_mc (by kernel_rfl) Tryz.func208 mc208_eq Tryz.ntmps208 (by kernel_rfl) mr208_eq
/- spec.l3Pre -/
def lv209:List Nat:=[0,2,3,4,27,52]
def mc209:MC :=
.seq (.reg [
 iL 2 (.alloc zl7_0)]) (
 .seq (.reg [
 iT 5 (.mv (.l 0)),iT 6 (.call 26 [.t 5]),iL 3 (.alloc [.p (.i .i64 0),.p (.s []),.p (.i .i64 0),.p (.i .i64 0)]),iN (.sto 4 (.l 3) (.t 6))]) (
 .seq (.seq (.reg [
 iT 7 (.mv (.l 0)),iT 8 (.nilc (.t 7)),iT 9 (.fad 5 (.t 8)),iT 10 (.fad 0 (.t 9)),iT 11 (.ld false 1 (.t 10)),iT 12 (.bin .eql (.t 11) (cI 0)),iT 13 (.mv (.t 12)),⟨.t 14,.fad 0 (.l 3),some ((.t 13),true)⟩,⟨.t 15,.ld false 1 (.t 14),some ((.t 13),true)⟩,⟨.t 16,.bin .eql (.t 15) (cI 6),some ((.t 13),true)⟩,⟨.t 17,.mv (.t 16),some ((.t 13),true)⟩,⟨.t 18,.fad 0 (.l 3),some ((.t 17),false)⟩,⟨.t 19,.ld false 1 (.t 18),some ((.t 17),false)⟩,⟨.t 20,.bin .eql (.t 19) (cI 7),some ((.t 17),false)⟩,⟨.t 21,.pick (.t 17) (.c (.p (.b true))) (.t 20),some ((.t 13),true)⟩,iT 22 (.pick (.t 13) (.t 21) (.c (.p (.b false)))),iT 23 (.mv (.t 22)),⟨.t 24,.fad 1 (.l 3),some ((.t 23),true)⟩,⟨.t 25,.ld false 1 (.t 24),some ((.t 23),true)⟩,⟨.t 26,.call 222 [.t 25],some ((.t 23),true)⟩,iL 27 (.pick (.t 23) (.t 26) (.c (.p (.b false))))]) (
 .cond (.l 27) (
 .seq (.reg [
 iT 28 (.mv (.l 0)),iT 29 (.mv (.l 0)),iT 30 (.nilc (.t 29)),iT 31 (.fad 1 (.t 30)),iT 32 (.ld false 1 (.t 31)),iT 33 (.bin .add (.t 32) (cI 1)),iT 34 (.nilc (.t 28)),iT 35 (.fad 1 (.t 34)),iN (.sto 1 (.t 35) (.t 33))]) (
 .seq (.drw [
 iT 36 (.fad 1 (.l 3)),iT 37 (.ld false 1 (.t 36)),iT 38 (.fad 3 (.l 3)),iT 39 (.ld false 1 (.t 38)),iT 40 (.mv (.l 0)),iT 41 (.call 211 [.t 40]),iT 42 (.bsl 7 zl7_0 1 [(0,(.t 41))])] [
 iT 43 (.build zl7_0 [(0,1,(cI 15)),(1,1,(.t 37)),(4,1,(.t 39)),(5,1,(.t 42))]),iN (.sto 7 (.l 2) (.t 43))]) (
 .ret))) (
 .skip))) (
 .seq (.reg [
 iT 44 (.mv (.l 0)),iT 45 (.call 211 [.t 44]),iL 4 (.alloc zl7_0),iN (.sto 7 (.l 4) (.t 45))]) (
 .seq (.seq (.reg [
 iT 46 (.fad 0 (.l 3)),iT 47 (.ld false 1 (.t 46)),iT 48 (.bin .eql (.t 47) (cI 4)),iT 49 (.mv (.t 48)),⟨.t 50,.mv (.l 0),some ((.t 49),true)⟩,⟨.t 51,.call 210 [.t 50],some ((.t 49),true)⟩,iL 52 (.pick (.t 49) (.t 51) (.c (.p (.b false))))]) (
 .cond (.l 52) (
 .reg [
 iT 53 (.mv (.l 0)),iT 54 (.call 211 [.t 53]),iT 55 (.bsl 7 zl7_0 1 [(0,(.t 54))]),iT 56 (.fad 5 (.l 4)),iN (.sto 1 (.t 56) (.t 55))]) (
 .skip))) (
 .seq (.reg [
 iT 57 (.ld true 7 (.l 4)),iN (.sto 7 (.l 2) (.t 57))]) (
 .ret))))))
theorem mc209_eq:(Tryz.f209.body.map (compile lv209 Tryz.prog 58))=some mc209:=by kernel_rfl
def mr209:List MR:=[.cell true 7 2]
theorem mr209_eq:cRess lv209 Tryz.prog Tryz.f209.results.toList=some mr209:=by kernel_rfl
theorem call209:CallT Tryz.prog 209 58 mc209 mr209:=acall_mc (by kernel_rfl) Tryz.func209 mc209_eq Tryz.ntmps209 (by kernel_rfl) mr209_eq
/- spec.l3AtomStarts -/
def lv210:List Nat:=[0,2,3]
def mc210:MC :=
.seq (.reg [
 iL 2 (.mv (.c (.p (.b false))))]) (
 .seq (.reg [
 iT 4 (.mv (.l 0)),iT 5 (.call 26 [.t 4]),iT 6 (.fld false 0 1 (.t 5)),iL 3 (.mv (.t 6))]) (
 .seq (.reg [
 iT 7 (.mv (.l 0)),iT 8 (.nilc (.t 7)),iT 9 (.fad 5 (.t 8)),iT 10 (.fad 0 (.t 9)),iT 11 (.ld false 1 (.t 10)),iT 12 (.bin .eql (.t 11) (cI 0)),iT 13 (.mv (.t 12)),⟨.t 14,.mv (.l 3),some ((.t 13),true)⟩,⟨.t 15,.bin .eql (.t 14) (cI 1),some ((.t 13),true)⟩,⟨.t 16,.mv (.t 15),some ((.t 13),true)⟩,⟨.t 17,.mv (.l 3),some ((.t 16),false)⟩,⟨.t 18,.bin .eql (.t 17) (cI 2),some ((.t 16),false)⟩,⟨.t 19,.pick (.t 16) (.c (.p (.b true))) (.t 18),some ((.t 13),true)⟩,⟨.t 20,.mv (.t 19),some ((.t 13),true)⟩,⟨.t 21,.mv (.l 3),some ((.t 20),false)⟩,⟨.t 22,.bin .eql (.t 21) (cI 3),some ((.t 20),false)⟩,⟨.t 23,.pick (.t 20) (.c (.p (.b true))) (.t 22),some ((.t 13),true)⟩,⟨.t 24,.mv (.t 23),some ((.t 13),true)⟩,⟨.t 25,.mv (.l 3),some ((.t 24),false)⟩,⟨.t 26,.bin .eql (.t 25) (cI 4),some ((.t 24),false)⟩,⟨.t 27,.pick (.t 24) (.c (.p (.b true))) (.t 26),some ((.t 13),true)⟩,⟨.t 28,.mv (.t 27),some ((.t 13),true)⟩,⟨.t 29,.mv (.l 0),some ((.t 28),false)⟩,⟨.t 30,.call 70 [.t 29,.c (.p (.s [116,114,117,101]))],some ((.t 28),false)⟩,⟨.t 31,.pick (.t 28) (.c (.p (.b true))) (.t 30),some ((.t 13),true)⟩,⟨.t 32,.mv (.t 31),some ((.t 13),true)⟩,⟨.t 33,.mv (.l 0),some ((.t 32),false)⟩,⟨.t 34,.call 70 [.t 33,.c (.p (.s [102,97,108,115,101]))],some ((.t 32),false)⟩,⟨.t 35,.pick (.t 32) (.c (.p (.b true))) (.t 34),some ((.t 13),true)⟩,⟨.t 36,.mv (.t 35),some ((.t 13),true)⟩,⟨.t 37,.mv (.l 0),some ((.t 36),false)⟩,⟨.t 38,.call 70 [.t 37,.c (.p (.s [114,101,97,100]))],some ((.t 36),false)⟩,⟨.t 39,.pick (.t 36) (.c (.p (.b true))) (.t 38),some ((.t 13),true)⟩,⟨.t 40,.mv (.t 39),some ((.t 13),true)⟩,⟨.t 41,.mv (.l 0),some ((.t 40),false)⟩,⟨.t 42,.call 70 [.t 41,.c (.p (.s [40]))],some ((.t 40),false)⟩,⟨.t 43,.pick (.t 40) (.c (.p (.b true))) (.t 42),some ((.t 13),true)⟩,iT 44 (.pick (.t 13) (.t 43) (.c (.p (.b false)))),iL 2 (.mv (.t 44))]) (
 .ret)))
theorem mc210_eq:(Tryz.f210.body.map (compile lv210 Tryz.prog 45))=some mc210:=by kernel_rfl
def mr210:List MR:=[.t 2]
theorem mr210_eq:cRess lv210 Tryz.prog Tryz.f210.results.toList=some mr210:=by kernel_rfl
theorem call210:CallT Tryz.prog 210 45 mc210 mr210:=acall_mc (by kernel_rfl) Tryz.func210 mc210_eq Tryz.ntmps210 (by kernel_rfl) mr210_eq
/- spec.l3Atom -/
def lv211:List Nat:=[0,2,3,4,5,10,29,39,46,54,62,70,78,86,98,100]
def mc211:MC :=
.seq (.reg [
 iL 2 (.alloc zl7_0)]) (
 .seq (.reg [
 iT 6 (.mv (.l 0)),iT 7 (.call 26 [.t 6]),iL 3 (.alloc [.p (.i .i64 0),.p (.s []),.p (.i .i64 0),.p (.i .i64 0)]),iN (.sto 4 (.l 3) (.t 7))]) (
 .seq (.seq (.reg [
 iT 8 (.mv (.l 0)),iT 9 (.call 210 [.t 8]),iL 10 (.un .not (.t 9))]) (
 .cond (.l 10) (
 .seq (.reg [
 iT 11 (.mv (.l 0)),iT 12 (.call 27 [.t 11,.c (.p (.i .i64 11))])]) (
 .seq (.reg [
 iT 13 (.build zl7_0 []),iN (.sto 7 (.l 2) (.t 13))]) (
 .ret))) (
 .skip))) (
 .seq (.reg [
 iT 14 (.mv (.l 0)),iT 15 (.mv (.l 0)),iT 16 (.nilc (.t 15)),iT 17 (.fad 1 (.t 16)),iT 18 (.ld false 1 (.t 17)),iT 19 (.bin .add (.t 18) (cI 1)),iT 20 (.nilc (.t 14)),iT 21 (.fad 1 (.t 20)),iN (.sto 1 (.t 21) (.t 19))]) (
 .seq (.reg [
 iT 22 (.fad 3 (.l 3)),iT 23 (.ld false 1 (.t 22)),iT 24 (.build zl7_0 [(4,1,(.t 23))]),iL 4 (.alloc zl7_0),iN (.sto 7 (.l 4) (.t 24))]) (
 .seq (.blk 0 (
 .seq (.reg [
 iT 47 (.fad 0 (.l 3)),iT 48 (.ld false 1 (.t 47)),iT 49 (.bin .eql (.t 48) (cI 1)),iL 46 (.mv (.t 49))]) (
 .cond (.l 46) (
 .seq (.reg [
 iT 50 (.fad 0 (.l 4)),iN (.sto 1 (.t 50) (cI 1))]) (
 .reg [
 iT 51 (.fad 2 (.l 3)),iT 52 (.ld false 1 (.t 51)),iT 53 (.fad 2 (.l 4)),iN (.sto 1 (.t 53) (.t 52))])) (
 .seq (.reg [
 iT 55 (.fad 0 (.l 3)),iT 56 (.ld false 1 (.t 55)),iT 57 (.bin .eql (.t 56) (cI 2)),iL 54 (.mv (.t 57))]) (
 .cond (.l 54) (
 .seq (.reg [
 iT 58 (.fad 0 (.l 4)),iN (.sto 1 (.t 58) (cI 2))]) (
 .reg [
 iT 59 (.fad 1 (.l 3)),iT 60 (.ld false 1 (.t 59)),iT 61 (.fad 3 (.l 4)),iN (.sto 1 (.t 61) (.t 60))])) (
 .seq (.reg [
 iT 63 (.fad 0 (.l 3)),iT 64 (.ld false 1 (.t 63)),iT 65 (.bin .eql (.t 64) (cI 3)),iL 62 (.mv (.t 65))]) (
 .cond (.l 62) (
 .seq (.reg [
 iT 66 (.fad 0 (.l 4)),iN (.sto 1 (.t 66) (cI 5))]) (
 .reg [
 iT 67 (.fad 1 (.l 3)),iT 68 (.ld false 1 (.t 67)),iT 69 (.fad 1 (.l 4)),iN (.sto 1 (.t 69) (.t 68))])) (
 .seq (.reg [
 iT 71 (.fad 0 (.l 3)),iT 72 (.ld false 1 (.t 71)),iT 73 (.bin .eql (.t 72) (cI 4)),iL 70 (.mv (.t 73))]) (
 .cond (.l 70) (
 .seq (.reg [
 iT 74 (.fad 0 (.l 4)),iN (.sto 1 (.t 74) (cI 6))]) (
 .reg [
 iT 75 (.fad 1 (.l 3)),iT 76 (.ld false 1 (.t 75)),iT 77 (.fad 1 (.l 4)),iN (.sto 1 (.t 77) (.t 76))])) (
 .seq (.reg [
 iT 79 (.fad 1 (.l 3)),iT 80 (.ld false 1 (.t 79)),iT 81 (.bin .eql (.t 80) (.c (.p (.s [114,101,97,100])))),iL 78 (.mv (.t 81))]) (
 .cond (.l 78) (
 .seq (.reg [
 iT 82 (.fad 0 (.l 4)),iN (.sto 1 (.t 82) (cI 15))]) (
 .reg [
 iT 83 (.fad 1 (.l 3)),iT 84 (.ld false 1 (.t 83)),iT 85 (.fad 1 (.l 4)),iN (.sto 1 (.t 85) (.t 84))])) (
 .seq (.reg [
 iT 87 (.fad 1 (.l 3)),iT 88 (.ld false 1 (.t 87)),iT 89 (.bin .eql (.t 88) (.c (.p (.s [116,114,117,101])))),iT 90 (.mv (.t 89)),⟨.t 91,.fad 1 (.l 3),some ((.t 90),false)⟩,⟨.t 92,.ld false 1 (.t 91),some ((.t 90),false)⟩,⟨.t 93,.bin .eql (.t 92) (.c (.p (.s [102,97,108,115,101]))),some ((.t 90),false)⟩,iT 94 (.pick (.t 90) (.c (.p (.b true))) (.t 93)),iL 86 (.mv (.t 94))]) (
 .cond (.l 86) (
 .seq (.reg [
 iT 95 (.fad 0 (.l 4)),iN (.sto 1 (.t 95) (cI 3))]) (
 .seq (.reg [
 iT 96 (.fad 1 (.l 3)),iT 97 (.ld false 1 (.t 96)),iL 98 (.bin .eql (.t 97) (.c (.p (.s [116,114,117,101]))))]) (
 .cond (.l 98) (
 .reg [
 iT 99 (.fad 2 (.l 4)),iN (.sto 1 (.t 99) (cI 1))]) (
 .skip)))) (
 .seq (.reg [
 iT 101 (.mv (.l 0)),iT 102 (.call 104 [.t 101,.c (.p (.s [41]))]),iL 100 (.mv (.t 102))]) (
 .cond (.l 100) (
 .reg [
 iT 103 (.fad 0 (.l 4)),iN (.sto 1 (.t 103) (cI 4))]) (
 .seq (.reg [
 iT 25 (.mv (.l 0)),iT 26 (.call 25 [.t 25]),iT 27 (.bsl 7 zl7_0 1 [(0,(.t 26))]),iL 5 (.mv (.t 27))]) (
 .seq (.blk 1 (
 .loop (
 .seq (.seq (.reg [
 iT 28 (.mv (.l 0)),iL 29 (.call 104 [.t 28,.c (.p (.s [44]))])]) (
 .cond (.l 29) (
 .skip) (
 .exit 1))) (
 .blk 2 (
 .reg [
 iT 30 (.mv (.l 5)),iT 31 (.mv (.l 0)),iT 32 (.call 25 [.t 31]),iT 33 (.bsl 7 zl7_0 1 [(0,(.t 32))]),iT 34 (.app 7 104 (.t 30) (.t 33)),iL 5 (.mv (.t 34))]))))) (
 .seq (.reg [
 iT 35 (.mv (.l 0)),iT 36 (.call 106 [.t 35,.c (.p (.s [41]))])]) (
 .seq (.seq (.reg [
 iT 37 (.mv (.l 5)),iT 38 (.len false (.t 37)),iL 39 (.bin .eql (.t 38) (cI 1))]) (
 .cond (.l 39) (
 .seq (.reg [
 iT 40 (.mv (.l 5)),iT 41 (.ixs 7 (.t 40) (cI 0)),iT 42 (.ld true 7 (.t 41)),iN (.sto 7 (.l 2) (.t 42))]) (
 .ret)) (
 .skip))) (
 .seq (.reg [
 iT 43 (.fad 0 (.l 4)),iN (.sto 1 (.t 43) (cI 7))]) (
 .reg [
 iT 44 (.mv (.l 5)),iT 45 (.fad 5 (.l 4)),iN (.sto 1 (.t 45) (.t 44))]))))))))))))))))))))) (
 .seq (.reg [
 iT 104 (.ld true 7 (.l 4)),iN (.sto 7 (.l 2) (.t 104))]) (
 .ret)))))))
theorem mc211_eq:(Tryz.f211.body.map (compile lv211 Tryz.prog 105))=some mc211:=by kernel_rfl
def mr211:List MR:=[.cell true 7 2]
theorem mr211_eq:cRess lv211 Tryz.prog Tryz.f211.results.toList=some mr211:=by kernel_rfl
theorem call211:CallT Tryz.prog 211 105 mc211 mr211:=acall_mc (by kernel_rfl) Tryz.func211 mc211_eq Tryz.ntmps211 (by kernel_rfl) mr211_eq
/- spec.l2Op -/
def lv212:List Nat:=[0,2]
def mc212:MC :=
.seq (.reg [
 iL 2 (.mv (.c (.p (.b false))))]) (
 .seq (.reg [
 iT 3 (.mv (.l 0)),iT 4 (.bin .eql (.t 3) (.c (.p (.s [43])))),iT 5 (.mv (.t 4)),⟨.t 6,.mv (.l 0),some ((.t 5),false)⟩,⟨.t 7,.bin .eql (.t 6) (.c (.p (.s [45]))),some ((.t 5),false)⟩,iT 8 (.pick (.t 5) (.c (.p (.b true))) (.t 7)),iT 9 (.mv (.t 8)),⟨.t 10,.mv (.l 0),some ((.t 9),false)⟩,⟨.t 11,.bin .eql (.t 10) (.c (.p (.s [42]))),some ((.t 9),false)⟩,iT 12 (.pick (.t 9) (.c (.p (.b true))) (.t 11)),iT 13 (.mv (.t 12)),⟨.t 14,.mv (.l 0),some ((.t 13),false)⟩,⟨.t 15,.bin .eql (.t 14) (.c (.p (.s [94]))),some ((.t 13),false)⟩,iT 16 (.pick (.t 13) (.c (.p (.b true))) (.t 15)),iT 17 (.mv (.t 16)),⟨.t 18,.mv (.l 0),some ((.t 17),false)⟩,⟨.t 19,.bin .eql (.t 18) (.c (.p (.s [61]))),some ((.t 17),false)⟩,iT 20 (.pick (.t 17) (.c (.p (.b true))) (.t 19)),iT 21 (.mv (.t 20)),⟨.t 22,.mv (.l 0),some ((.t 21),false)⟩,⟨.t 23,.bin .eql (.t 22) (.c (.p (.s [60]))),some ((.t 21),false)⟩,iT 24 (.pick (.t 21) (.c (.p (.b true))) (.t 23)),iT 25 (.mv (.t 24)),⟨.t 26,.mv (.l 0),some ((.t 25),false)⟩,⟨.t 27,.bin .eql (.t 26) (.c (.p (.s [58,61]))),some ((.t 25),false)⟩,iT 28 (.pick (.t 25) (.c (.p (.b true))) (.t 27)),iL 2 (.mv (.t 28))]) (
 .ret))
theorem mc212_eq:(Tryz.f212.body.map (compile lv212 Tryz.prog 29))=some mc212:=by kernel_rfl
def mr212:List MR:=[.t 2]
theorem mr212_eq:cRess lv212 Tryz.prog Tryz.f212.results.toList=some mr212:=by kernel_rfl
theorem call212:CallT Tryz.prog 212 29 mc212 mr212:=acall_mc (by kernel_rfl) Tryz.func212 mc212_eq Tryz.ntmps212 (by kernel_rfl) mr212_eq
/- spec.l3TyTuple -/
/- spec.l2Prim -/
def lv222:List Nat:=[0,2]
def mc222:MC :=
.seq (.reg [
 iL 2 (.mv (.c (.p (.b false))))]) (
 .seq (.reg [
 iT 3 (.mv (.l 0)),iT 4 (.bin .eql (.t 3) (.c (.p (.s [112,114,105,110,116])))),iT 5 (.mv (.t 4)),⟨.t 6,.mv (.l 0),some ((.t 5),false)⟩,⟨.t 7,.bin .eql (.t 6) (.c (.p (.s [101,120,105,116]))),some ((.t 5),false)⟩,iT 8 (.pick (.t 5) (.c (.p (.b true))) (.t 7)),iT 9 (.mv (.t 8)),⟨.t 10,.mv (.l 0),some ((.t 9),false)⟩,⟨.t 11,.bin .eql (.t 10) (.c (.p (.s [115,105,122,101]))),some ((.t 9),false)⟩,iT 12 (.pick (.t 9) (.c (.p (.b true))) (.t 11)),iT 13 (.mv (.t 12)),⟨.t 14,.mv (.l 0),some ((.t 13),false)⟩,⟨.t 15,.bin .eql (.t 14) (.c (.p (.s [114,101,102]))),some ((.t 13),false)⟩,iT 16 (.pick (.t 13) (.c (.p (.b true))) (.t 15)),iT 17 (.mv (.t 16)),⟨.t 18,.mv (.l 0),some ((.t 17),false)⟩,⟨.t 19,.bin .eql (.t 18) (.c (.p (.s [33]))),some ((.t 17),false)⟩,iT 20 (.pick (.t 17) (.c (.p (.b true))) (.t 19)),iL 2 (.mv (.t 20))]) (
 .ret))
theorem mc222_eq:(Tryz.f222.body.map (compile lv222 Tryz.prog 21))=some mc222:=by kernel_rfl
def mr222:List MR:=[.t 2]
theorem mr222_eq:cRess lv222 Tryz.prog Tryz.f222.results.toList=some mr222:=by kernel_rfl
theorem call222:CallT Tryz.prog 222 21 mc222 mr222:=acall_mc (by kernel_rfl) Tryz.func222 mc222_eq Tryz.ntmps222 (by kernel_rfl) mr222_eq
/- spec.l3TyPost -/
/- spec.l3TyAt -/
/- spec.l3TyStarts -/
end Go.Proofs.YtghcmccjchdgeaaGreatDoor.Mc
/- A parser in memory; the reference's smaller steps. -/
set_option linter.all false
namespace Go.Proofs.YtghcmccjchdgeaaGreatDoor.Qp
open Go.AM Mc Pg
/-! a heap with one object that is written, and new ones behind -/
theorem qxk (H A:List AO) (p:Nat) (c:AO) (k:Nat):(H.set p c++A)[H.length+k]?=A[k]?:=by
 have:=gxk (H.set p c) A k
 rwa [List.length_set] at this
theorem qx0 (H A:List AO) (p:Nat) (c:AO):(H.set p c++A)[H.length]?=A[0]?:=qxk H A p c 0
theorem qsk (H A:List AO) (p:Nat) (c:AO) (k:Nat) (o:AO):(H.set p c++A).set (H.length+k) o=H.set p c++A.set k o:=by
 have:=sxk (H.set p c) A k o
 rwa [List.length_set] at this
theorem qs0 (H A:List AO) (p:Nat) (c:AO) (o:AO):(H.set p c++A).set H.length o=H.set p c++A.set 0 o:=qsk H A p c 0 o
theorem qp {H:List AO} {p:Nat} (hp:p<H.length) (A:List AO) (c:AO):(H.set p c++A)[p]?=some c:=by
 rw [List.getElem?_append_left (by simpa using hp)]; simp [hp]
theorem qp0 {H:List AO} {p:Nat} (hp:p<H.length) (c:AO):(H.set p c)[p]?=some c:=by simp [hp]
theorem qq {H:List AO} {p:Nat} (hp:p<H.length) (A:List AO) (c d:AO):(H.set p c++A).set p d=H.set p d++A:=by
 rw [List.set_append_left _ _ (by simpa using hp),List.set_set]
theorem qq0 (H:List AO) (p:Nat) (c d:AO):(H.set p c).set p d=H.set p d:=by simp
def Ok (T:List Tok) (e:Nat) (s:PS):Prop:=s.i<T.length∧s.nest=e
theorem Ok.of {T:List Tok} {lim:Nat} {s t:PS} (h:Ok T lim s) (k:Ok1 T s t):Ok T lim t:=⟨k.2.1,by rw [k.2.2.2]; exact h.2⟩
theorem Ok.step {T:List Tok} {lim:Nat} {s:PS} {f:PS→PS} (h:Ok T lim s) (k:Stay T f):Ok T lim (f s):=h.of (k s h.1)
theorem Ok.run {T:List Tok} {lim:Nat} {s:PS} {α:Type} {m:PM α} (h:Ok T lim s) (k:StayM T m):Ok T lim (m s).2:=h.of (k s h.1)
theorem Ok.adv {T:List Tok} {lim:Nat} {s:PS} (hT:ToksOk T) (h:Ok T lim s) (hk:(tokA T s).k≠8):Ok T lim (Pg.adv s):=⟨adv_at hT h.1 hk,h.2⟩
def PF (pv:PS→AO) (T:List Tok) (lim:Nat) (f:Nat) (xs:List AV) {α:Type} (m:PM α) (V:α→AV):Prop :=
 ∀ (H A:List AO) (p:Nat) (s:PS),p<H.length→Ok T lim s→ACall Tryz.prog f (.ptr p 0 :: xs) (H.set p (pv s)++A) (pureQ (V (m s).1) (H.set p (pv (m s).2)++A))
theorem PF.nil {pv:PS→AO} {T:List Tok} {lim:Nat} {f:Nat} {xs:List AV} {α:Type} {m:PM α} {V:α→AV} (h:PF pv T lim f xs m V) {H:List AO} {p:Nat} {s:PS} (hp:p<H.length) (hs:Ok T lim s) :
  ACall Tryz.prog f (.ptr p 0 :: xs) (H.set p (pv s)) (pureQ (V (m s).1) (H.set p (pv (m s).2))):=by
 have:=h H [] p s hp hs
 rwa [List.append_nil,List.append_nil] at this
theorem pf_at {f:Nat} {xs:List AV} {c c':AO} {x:AV} (hc:∀ q,InO q c'→Tf q)
  (h:∀ (H:List AO) (p:Nat),p<H.length→ACall Tryz.prog f (.ptr p 0 :: xs) (H.set p c) (fun r H'=>∃ G,H'=H.set p c'++G∧LentN H.length H' r x)) :
  ∀ (H A:List AO) (p:Nat),p<H.length→ACall Tryz.prog f (.ptr p 0 :: xs) (H.set p c++A) (pureQ x (H.set p c'++A)):=by
 intro H A p hp
 have e:∀ c,H.set p c++A=(H++A).set p c:=fun c=>by rw [List.set_append_left _ _ hp]
 rw [e,e]
 have h1:=h (H++A) p (by simp; omega)
 have h2:=acall_frz_set (i:=p) (o:=c) (o':=c') (x:=x) (H:=(H++A).set p c) (f:=f) (args:=.ptr p 0 :: xs) (P:=Tryz.prog)
  (h1.mono (by rintro r H' ⟨G,rfl,hl⟩; exact ⟨G,by rw [qq0],by rw [List.length_set]; exact hl⟩)) (qp0 (by rw [List.length_append]; omega) _) (fun q hq=>.inl (hc q hq))
 rwa [qq0] at h2
theorem pf_of {pv:PS→AO} (hpv:∀ s c,InO c (pv s)→Tf c) {T:List Tok} {lim:Nat} {f:Nat} {xs:List AV} {α:Type} {m:PM α} {V:α→AV}
  (h:∀ (H:List AO) (p:Nat) (s:PS),p<H.length→Ok T lim s→ACall Tryz.prog f (.ptr p 0 :: xs) (H.set p (pv s)) (fun r H'=>∃ G,H'=H.set p (pv (m s).2)++G∧LentN H.length H' r (V (m s).1))):PF pv T lim f xs m V :=
 fun H A p s hp hs=>pf_at (hpv _) (fun H p hp=>h H p s hp hs) H A p hp
abbrev ptV (T:List Tok):AV:=.p (.l (T.map Tok.cells))
abbrev iV (n:Int):AV:=.p (.i .i64 n)
def pvS (T:List Tok) (lim:Nat) (s:PS):AO:=.var [ptV T,iV s.i,iV s.nest,iV s.d,iV lim,iV s.c,iV s.ps]
theorem pvS_tf (T lim s c) (h:InO c (pvS T lim s)):Tf c:=by
 simp only [pvS,InO,List.mem_cons,List.not_mem_nil,or_false] at h
 rcases h with rfl | rfl | rfl | rfl | rfl | rfl | rfl <;> exact tf_p _
abbrev bV (b:Bool):AV:=.p (.b b)
abbrev uV (_:Unit):AV:=.tup []
abbrev sV (s:List UInt8):AV:=.p (.s s)
abbrev testM (g:PS→Bool):PM Bool:=fun s=>(g s,s)
abbrev stepM (f:PS→PS):PM Unit:=fun s=>((),f s)
abbrev nowM (T:List Tok):PM Tok:=fun s=>(tokA T s,s)
abbrev takeM (T:List Tok) (x:List UInt8):PM Bool:=fun s=>if isT T x s then (true,adv s) else (false,s)
section
variable {T:List Tok} {lim e:Nat}
theorem tok_get {s:PS} (h:s.i<T.length):(T.map Tok.cells)[s.i]?=some (tokA T s).cells:=by
 simp [tokA,h]
theorem lentP {n:Nat} {H:List AO} {x:AV} (h:Tf x):LentN n H x x:=.tf _ h
theorem sNow:PF (pvS T lim) T e 26 [] (nowM T) tv:=by
 refine pf_of (pvS_tf T lim) fun H p s hp hs=>?_
 have hlt:decide ((s.i:Int)<(T.length:Int))=true:=by simp; exact hs.1
 have hg:=tok_get hs.1
 refine call26 (by simp) ?_
 simp only [go_sem,reduceIte,↓reduceIte,sevalprocAttr,Z0,Z1,bytesOf,qx0,qxk,qs0,qsk,List.length_set,mc26,mr26]
 refine drw_same ?_
 simp only [go_sem,reduceIte,↓reduceIte,sevalprocAttr,Z0,Z1,bytesOf,qx0,qxk,qs0,qsk,List.length_set,qp hp,pvS,List.length_map,hlt,hg,Tok.cells]
 exact ⟨_,rfl,lentP (tf_av (tokA T s).cells)⟩
theorem ws {s:PS} (hT:T.length≤1048577) (hs:Ok T e s):wr .i64 ((s.i:Int)+1)=((s.i+1:Nat):Int):=wrN _ (by have:=hs.1; omega)
theorem sIs (x:List UInt8):PF (pvS T lim) T e 70 [sV x] (testM (isT T x)) bV:=by
 refine pf_of (pvS_tf T lim) fun H p s hp hs=>?_
 refine call70 (by simp) ?_
 simp only [go_sem,reduceIte,↓reduceIte,sevalprocAttr,Z0,Z1,bytesOf,qx0,qxk,qs0,qsk,List.length_set,mc70,mr70]
 refine acall_pure (sNow.nil hp hs) ?_
 have eT:isT T x s=(decide (s.c=0) && (decide ((tokA T s).k=6) || decide ((tokA T s).k=7)) && decide ((tokA T s).t=x)):=rfl
 rw [eT]
 simp only [go_sem,reduceIte,↓reduceIte,sevalprocAttr,Z0,Z1,bytesOf,qx0,qxk,qs0,qsk,List.length_set,qp hp,pvS,Tok.cells]
 cases h0:decide (s.c=0)
 ·simp only [go_sem,reduceIte,↓reduceIte,sevalprocAttr,Z0,Z1,bytesOf,qx0,qxk,qs0,qsk,List.length_set,h0,Bool.false_and]
  exact ⟨_,rfl,lentP (tf_p _)⟩
 cases h6:decide ((tokA T s).k=6)
 ·cases h7:decide ((tokA T s).k=7)
  ·simp only [go_sem,reduceIte,↓reduceIte,sevalprocAttr,Z0,Z1,bytesOf,qx0,qxk,qs0,qsk,List.length_set,h0,h6,h7,Bool.or_self,Bool.and_false,Bool.false_and]
   exact ⟨_,rfl,lentP (tf_p _)⟩
  ·simp only [go_sem,reduceIte,↓reduceIte,sevalprocAttr,Z0,Z1,bytesOf,qx0,qxk,qs0,qsk,List.length_set,h0,h6,h7,Bool.false_or,Bool.and_true,Bool.true_and]
   exact ⟨_,rfl,lentP (tf_p _)⟩
 ·simp only [go_sem,reduceIte,↓reduceIte,sevalprocAttr,Z0,Z1,bytesOf,qx0,qxk,qs0,qsk,List.length_set,h0,h6,Bool.true_or,Bool.and_true,Bool.true_and]
  exact ⟨_,rfl,lentP (tf_p _)⟩
theorem sFails (c:Int):PF (pvS T lim) T e 27 [iV c] (stepM (failP T c)) uV:=by
 refine pf_of (pvS_tf T lim) fun H p s hp hs=>?_
 refine call27 (by simp) ?_
 cases h0:decide (s.c=0)
 ·simp only [go_sem,reduceIte,↓reduceIte,sevalprocAttr,Z0,Z1,bytesOf,qx0,qxk,qs0,qsk,List.length_set,mc27,mr27,qp0 hp,pvS,h0]
  rw [failP_c (of_decide_eq_false h0)]
  exact ⟨[],by simp,lentP (tf_tup _ (by simp))⟩
 ·simp only [go_sem,reduceIte,↓reduceIte,sevalprocAttr,Z0,Z1,bytesOf,qx0,qxk,qs0,qsk,List.length_set,mc27,mr27,qp0 hp,pvS,h0]
  refine acall_pure (sNow.nil hp hs) ?_
  rw [failP_0 (of_decide_eq_true h0)]
  simp only [go_sem,reduceIte,↓reduceIte,sevalprocAttr,Z0,Z1,bytesOf,qx0,qxk,qs0,qsk,List.length_set,qp0 hp,pvS,Tok.cells,qq0]
  exact ⟨[],by simp,lentP (tf_tup _ (by simp))⟩
theorem sHas (hTl:T.length≤1048577) (x:List UInt8):PF (pvS T lim) T e 104 [sV x] (takeM T x) bV:=by
 refine pf_of (pvS_tf T lim) fun H p s hp hs=>?_
 refine call104 (by simp) ?_
 simp only [go_sem,reduceIte,↓reduceIte,sevalprocAttr,Z0,Z1,bytesOf,qx0,qxk,qs0,qsk,List.length_set,mc104,mr104]
 refine acall_pure ((sIs x).nil hp hs) ?_
 unfold takeM
 cases h:isT T x s
 ·simp only [go_sem,reduceIte,↓reduceIte,sevalprocAttr,Z0,Z1,bytesOf,qx0,qxk,qs0,qsk,List.length_set,h]
  exact ⟨[],by simp,lentP (tf_p _)⟩
 ·simp only [go_sem,reduceIte,↓reduceIte,sevalprocAttr,Z0,Z1,bytesOf,qx0,qxk,qs0,qsk,List.length_set,h,qp0 hp,pvS,qq0,ws hTl hs]
  exact ⟨[],by simp [adv],lentP (tf_p _)⟩
theorem sWant (hTl:T.length≤1048577) (x:List UInt8):PF (pvS T lim) T e 106 [sV x] (stepM (wantP T x)) uV:=by
 refine pf_of (pvS_tf T lim) fun H p s hp hs=>?_
 refine call106 (by simp) ?_
 simp only [go_sem,reduceIte,↓reduceIte,sevalprocAttr,Z0,Z1,bytesOf,qx0,qxk,qs0,qsk,List.length_set,mc106,mr106]
 refine acall_pure ((sHas hTl x).nil hp hs) ?_
 unfold takeM wantP
 cases h:isT T x s
 ·simp only [go_sem,reduceIte,↓reduceIte,sevalprocAttr,Z0,Z1,bytesOf,qx0,qxk,qs0,qsk,List.length_set,h]
  refine acall_pure ((sFails 11).nil hp hs) ?_
  simp only [go_sem,reduceIte,↓reduceIte,sevalprocAttr,Z0,Z1,bytesOf,qx0,qxk,qs0,qsk,List.length_set]
  exact ⟨[],by simp,lentP (tf_tup _ (by simp))⟩
 ·simp only [go_sem,reduceIte,↓reduceIte,sevalprocAttr,Z0,Z1,bytesOf,qx0,qxk,qs0,qsk,List.length_set,h]
  exact ⟨[],by simp,lentP (tf_tup _ (by simp))⟩
theorem sWord (hTl:T.length≤1048577) (k:Int):PF (pvS T lim) T e 105 [iV k] (wordP T k) sV:=by
 refine pf_of (pvS_tf T lim) fun H p s hp hs=>?_
 refine call105 (by simp) ?_
 simp only [go_sem,reduceIte,↓reduceIte,sevalprocAttr,Z0,Z1,bytesOf,qx0,qxk,qs0,qsk,List.length_set,mc105,mr105]
 refine acall_pure (sNow.nil hp hs) ?_
 unfold wordP isK
 simp only [go_sem,reduceIte,↓reduceIte,sevalprocAttr,Z0,Z1,bytesOf,qx0,qxk,qs0,qsk,List.length_set,qp hp,pvS,Tok.cells]
 cases h0:decide (s.c=0)
 ·simp only [go_sem,reduceIte,↓reduceIte,sevalprocAttr,Z0,Z1,bytesOf,qx0,qxk,qs0,qsk,List.length_set,h0,Bool.false_and]
  refine acall_pure (sFails 11 H _ p s hp hs) ?_
  simp only [go_sem,reduceIte,↓reduceIte,sevalprocAttr,Z0,Z1,bytesOf,qx0,qxk,qs0,qsk,List.length_set]
  exact ⟨_,rfl,lentP (tf_p _)⟩
 cases h6:decide ((tokA T s).k=k)
 ·simp only [go_sem,reduceIte,↓reduceIte,sevalprocAttr,Z0,Z1,bytesOf,qx0,qxk,qs0,qsk,List.length_set,h0,h6,Bool.and_false]
  refine acall_pure (sFails 11 H _ p s hp hs) ?_
  simp only [go_sem,reduceIte,↓reduceIte,sevalprocAttr,Z0,Z1,bytesOf,qx0,qxk,qs0,qsk,List.length_set]
  exact ⟨_,rfl,lentP (tf_p _)⟩
 ·simp only [go_sem,reduceIte,↓reduceIte,sevalprocAttr,Z0,Z1,bytesOf,qx0,qxk,qs0,qsk,List.length_set,h0,h6,Bool.and_true,qp hp,qq hp,pvS,ws hTl hs]
  exact ⟨_,rfl,lentP (tf_p _)⟩
theorem opens_of {s s1:PS} (h:(if s.c=0∧s.nest=lim then failP T 12 s else s)=s1):opensP T lim s=if s1.c=0∧s1.d<s1.nest+1 then { s1 with nest:=s1.nest+1,d:=s1.nest+1 } else { s1 with nest:=s1.nest+1 }:=by subst h; rfl
theorem sOpens (hl:lim≤1099511627776) (he:e≤lim):∀ (H A:List AO) (p:Nat) (s:PS),p<H.length→Ok T e s→ACall Tryz.prog 53 [.ptr p 0] (H.set p (pvS T lim s)++A) (pureQ (.p (.b (decide ((opensP T lim s).c=0)))) (H.set p (pvS T lim (opensP T lim s))++A)):=by
 have key:PF (pvS T lim) T e 53 [] (fun s=>(decide ((opensP T lim s).c=0),opensP T lim s)) bV:=by
  refine pf_of (pvS_tf T lim) fun H p s hp hs=>?_
  have hn:=hs.2
  have en:wr .i64 ((s.nest:Int)+1)=((s.nest+1:Nat):Int):=wrN _ (by omega)
  refine call53 (by simp) ?_
  simp only [go_sem,reduceIte,↓reduceIte,sevalprocAttr,Z0,Z1,bytesOf,qx0,qxk,qs0,qsk,List.length_set,mc53,mr53]
  refine drw_same ?_
  simp only [go_sem,reduceIte,↓reduceIte,sevalprocAttr,Z0,Z1,bytesOf,qx0,qxk,qs0,qsk,List.length_set,qp0 hp,pvS]
  cases h0:decide (s.c=0)
  ·have h0':=of_decide_eq_false h0
   rw [opens_c h0']
   simp only [go_sem,reduceIte,↓reduceIte,sevalprocAttr,Z0,Z1,bytesOf,qx0,qxk,qs0,qsk,List.length_set,h0,qp0 hp,qq0,en]
   refine drw_same ?_
   simp only [go_sem,reduceIte,↓reduceIte,sevalprocAttr,Z0,Z1,bytesOf,qx0,qxk,qs0,qsk,List.length_set,h0,qp0 hp,qq0]
   exact ⟨[],by simp,lentP (tf_p _)⟩
  ·have h0':=of_decide_eq_true h0
   by_cases hd:s.nest=lim
   ·have d1:decide ((s.nest:Int)=(lim:Int))=true:=by simp; omega
    simp only [go_sem,reduceIte,↓reduceIte,sevalprocAttr,Z0,Z1,bytesOf,qx0,qxk,qs0,qsk,List.length_set,h0,d1,qp0 hp]
    refine acall_pure ((sFails 12).nil hp hs) ?_
    have e1:opensP T lim s={ failP T 12 s with nest:=s.nest+1 }:=by
     rw [opens_of (if_pos ⟨h0',hd⟩),failP_0 h0',if_neg (fun h=>absurd h.1 (show ¬ ((12:Int)=0) by decide))]
    have hf:=failP_0 (T:=T) (c:=12) h0'
    have e2:opensP T lim s={ s with c:=12,ps:=(tokA T s).p,nest:=s.nest+1 }:=by rw [e1,hf]
    rw [e2]
    simp only [stepM,hf]
    simp only [go_sem,reduceIte,↓reduceIte,sevalprocAttr,Z0,Z1,bytesOf,qx0,qxk,qs0,qsk,List.length_set,qp0 hp,pvS,qq0,en]
    refine drw_same ?_
    simp only [go_sem,reduceIte,↓reduceIte,sevalprocAttr,Z0,Z1,bytesOf,qx0,qxk,qs0,qsk,List.length_set,qp0 hp,qq0]
    exact ⟨[],by simp,lentP (tf_p _)⟩
   ·have d1:decide ((s.nest:Int)=(lim:Int))=false:=by simp; omega
    have e1:opensP T lim s=if s.d<s.nest+1 then { s with nest:=s.nest+1,d:=s.nest+1 } else { s with nest:=s.nest+1 }:=by
     rw [opens_of (if_neg fun h=>hd h.2)]
     simp only [h0',true_and]
    rw [e1]
    simp only [go_sem,reduceIte,↓reduceIte,sevalprocAttr,Z0,Z1,bytesOf,qx0,qxk,qs0,qsk,List.length_set,h0,d1,qp0 hp,qq0,en]
    refine drw_same ?_
    by_cases hdd:s.d<s.nest+1
    ·have d2:decide ((s.d:Int)<((s.nest+1:Nat):Int))=true:=by simp; omega
     rw [if_pos hdd]
     simp only [go_sem,reduceIte,↓reduceIte,sevalprocAttr,Z0,Z1,bytesOf,qx0,qxk,qs0,qsk,List.length_set,h0,d2,qp0 hp,qq0]
     exact ⟨[],by simp,lentP (tf_p _)⟩
    ·have d2:decide ((s.d:Int)<((s.nest+1:Nat):Int))=false:=by simp; omega
     rw [if_neg hdd]
     simp only [go_sem,reduceIte,↓reduceIte,sevalprocAttr,Z0,Z1,bytesOf,qx0,qxk,qs0,qsk,List.length_set,h0,d2,qp0 hp,qq0]
     exact ⟨[],by simp,lentP (tf_p _)⟩
 exact key
theorem sShut (hl:lim≤1099511627776):∀ (H A:List AO) (p:Nat) (s:PS),p<H.length→s.i<T.length→0<s.nest→s.nest≤lim+1→ACall Tryz.prog 55 [.ptr p 0] (H.set p (pvS T lim s)++A) (pureQ (.tup []) (H.set p (pvS T lim (shut s))++A)):=by
 intro H A p s hp hi h1 h2
 have en:wr .i64 ((s.nest:Int) - 1)=((s.nest - 1:Nat):Int):=by rw [wr64 (by omega) (by omega)]; omega
 refine call55 (by simp) ?_
 simp only [go_sem,reduceIte,↓reduceIte,sevalprocAttr,Z0,Z1,bytesOf,qx0,qxk,qs0,qsk,List.length_set,mc55,mr55,qp hp,qq hp,pvS,en]
 exact ⟨rfl,rfl⟩
end
end Go.Proofs.YtghcmccjchdgeaaGreatDoor.Qp
/- The reference's parser: types. -/
set_option linter.all false
namespace Go.Proofs.YtghcmccjchdgeaaGreatDoor.Qp
open Go.AM Mc Pg
/-! regions in which a parser's function is called -/
theorem hx {H:List AO} {p:Nat} (hp:p<H.length) (A:List AO) (c:AO):Hext (H.set p .dead++A) (H.set p c++A):=fun id o h hd=>by
 rcases Nat.lt_or_ge id H.length with hi | hi
 ·rw [List.getElem?_append_left (by simpa using hi)] at h ⊢
  by_cases e:p=id
  ·subst e
   simp [hp] at h
   exact (hd h.symm).elim
  ·rw [List.getElem?_set_ne e] at h ⊢; exact h
 ·rw [List.getElem?_append_right (by simpa using hi)] at h ⊢
  simpa using h
theorem PF.chain {pv:PS→AO} {T:List Tok} {lim:Nat} {f:Nat} {xs:List AV} {α:Type} {m:PM α} {V:α→AV} (h:PF pv T lim f xs m V) {H A:List AO} {p:Nat} {s:PS} (hp:p<H.length) (hs:Ok T lim s) :
  ∀ A',ACall Tryz.prog f (.ptr p 0 :: xs) ((H.set p (pv s)++A)++A') (pureQ (V (m s).1) ((H.set p (pv (m s).2)++A)++A')):=fun A'=>by
 have:=h H (A++A') p s hp hs
 rwa [← List.append_assoc,← List.append_assoc] at this
theorem q_ge {H A:List AO} {p:Nat} {c:AO} {id:Nat} (h:H.length≤id):(H.set p c++A)[id]?=A[id - H.length]?:=by
 have:=qxk H A p c (id - H.length)
 rwa [show H.length+(id - H.length)=id by omega] at this
theorem own_q {H A B:List AO} {p:Nat} {N:List Nat} {c d:AO} {a:AV} {sz:Nat} {rs:List (List AV)} (h:OwnR (H.set p c++A) a sz rs) (ha:∀ id v o m,a=.gs id v o m→H.length≤id∧id - H.length ∉ N) (hk:∀ (k:Nat) (o:AO),k ∉ N→A[k]?=some o→B[k]?=some o):OwnR (H.set p d++B) a sz rs:=by
 rcases h with h | ⟨id,ver,rfl,h⟩
 ·exact .inl h
 ·obtain ⟨h1,h2⟩:=ha _ _ _ _ rfl
  rw [q_ge h1] at h
  exact .inr ⟨id,ver,rfl,by rw [q_ge h1]; exact hk _ _ h2 h⟩
theorem app_q {K:St→Prop} {L T':En} {H A:List AO} {p:Nat} {c:AO} {d:MD} {sz bytes:Nat} {N:List Nat} {a:AV} {rs ys:List (List AV)} (h:OwnR (H.set p c++A) a sz rs) (hN:∀ k∈N,k<A.length) (ha:∀ id v o m,a=.gs id v o m→H.length≤id∧id - H.length ∉ N)
  (h1:(rs.length+ys.length) * bytes≤140737488355328) (h2:rs.length+ys.length≤140737488355328)
  (k:∀ id ver A',(H.set p c++A')[id]?=some (.rows sz ver (rs++ys))→(H.length≤id∧id - H.length ∉ N)→(∀ (k:Nat),k∈N→A'[k]?=A[k]?)→K (St.put ⟨L,T',H.set p c++A'⟩ d (.gs id ver 0 (rs.length+ys.length)))) :
  appX sz bytes a ys d K ⟨L,T',H.set p c++A⟩:=by
 refine app_fr h h1 h2 ?_
 intro id ver H4 k1 k2 k3 k4
 have hid:H.length≤id∧id - H.length ∉ N:=by
  rcases k2 with ⟨v,o,n,e⟩ | h
  ·exact ha _ _ _ _ e
  ·simp at h
   exact ⟨by omega,fun hm=>by have:=hN _ hm; omega⟩
 obtain ⟨A',rfl⟩:=pre_ext (H:=H.set p c) (H':=H4) fun j o hj=>k3 j o (get_ext hj A) fun v o' n e=>by
  have:=(ha _ _ _ _ e).1
  have:=get_lt hj
  simp at this; omega
 refine k id ver A' k1 hid (fun j hj=>?_)
 have hjA:=hN j hj
 have:=k3 (H.length+j) A[j] (by rw [qxk]; simp [hjA]) fun v o' n e=>by
  have:=(ha _ _ _ _ e).2
  rw [Nat.add_sub_cancel_left] at this
  exact this hj
 rw [qxk] at this
 rw [this]; simp [hjA]
/-! data of cells -/
inductive LentC (n:Nat) (H:List AO):List AV→List AV→Prop
 | nil:LentC n H [] []
 | cons {a b:AV} {l m:List AV} (h:LentN n H a b) (k:LentC n H l m):LentC n H (a :: l) (b :: m)
theorem LentC.pc {n:Nat} {H:List AO} {x:PV} {l m:List AV} (k:LentC n H l m):LentC n H (.p x :: l) (.p x :: m):=.cons (.p x) k
theorem LentC.pure {n:Nat} {H:List AO}:∀ l:List PV,LentC n H (l.map .p) (l.map .p)
 | []=>.nil
 | x :: l=>.pc (LentC.pure l)
theorem LentC.app {n:Nat} {H:List AO} {l m cs ds:List AV} (h:LentC n H l m) (k:LentC n H cs ds):LentC n H (l++cs) (m++ds):=by
 induction h with
 | nil=>exact k
 | cons h _ ih=>exact .cons h ih
theorem LentC.st {n : Nat} {H : List AO} {l m : List AV} (h : LentC n H l m) : LentN n H (.st l) (.st m) := by
  have hl : l.length = m.length ∧ ∀ (j : Nat) a b, l[j]? = some a → m[j]? = some b → LentN n H a b := by
    induction h with
    | nil => exact ⟨rfl, fun j a b h => by simp at h⟩
    | cons h _ ih =>
      refine ⟨by simp [ih.1], fun j a b ha hb => ?_⟩
      cases j with
      | zero => simp at ha hb; subst ha; subst hb; exact h
      | succ j => exact ih.2 j a b (by simpa using ha) (by simpa using hb)
  exact .st _ _ hl.1 hl.2
theorem OwnR.lent {n sz:Nat} {H:List AO} {a:AV} {ys:List (List PV)} (h:OwnR H a sz (ys.map fun y=>y.map .p)) (hn:∀ id v o m,a=.gs id v o m→n≤id) (hs:∀ y∈ys,y.length=sz):LentN n H a (.p (.l ys)):=by
 rcases h with ⟨rfl,h⟩ | ⟨id,ver,rfl,h⟩
 ·have:ys=[]:=by simpa using h
  rw [this]; exact .nl
 ·have:=lent_rows (hn _ _ _ _ rfl) h hs
  simpa using this
structure Lp {α:Type} (pv:PS→AO) (T:List Tok) (lim:Nat) (H:List AO) (p:Nat) (N:List Nat) (sz:Nat) (cell:α→List PV) (g:PS→Bool) (m:PM α) (Rl:List α) (Rs:PS) (j:Nat) (s:PS) (acc:List α) (a:AV) (A:List AO):Prop where
 ok:Ok T lim s
 ln:acc.length≤s.i+1
 fu:s.c=0→T.length - s.i≤j
 rl:acc++(many g m j s).1=Rl
 rs:(many g m j s).2=Rs
 own:OwnR (H.set p (pv s)++A) a sz (acc.map fun t=>(cell t).map .p)
 ids:∀ id v o m,a=.gs id v o m→H.length≤id∧id - H.length ∉ N
 len:∀ k∈N,k<A.length
section
variable {α:Type} {pv:PS→AO} {T:List Tok} {lim:Nat} {H:List AO} {p sz:Nat} {N:List Nat} {cell:α→List PV} {g:PS→Bool} {m:PM α} {Rl:List α} {Rs:PS} {j:Nat} {s:PS} {acc:List α} {a:AV} {A:List AO}
theorem Lp.start (hs:Ok T lim s) (h:many g m T.length s=(Rl,Rs)) (hb:∀ k∈N,k<A.length):Lp pv T lim H p N sz cell g m Rl Rs T.length s [] (.p .nl) A :=
 ⟨hs,Nat.zero_le _,fun _=>by omega,by rw [h]; rfl,by rw [h],.inl ⟨rfl,rfl⟩,(fun _ _ _ _ e=>by cases e),hb⟩
theorem Lp.start1 {x:α} {i ver:Nat} (hs:Ok T lim s) (h:many g m T.length s=(Rl,Rs)) (hb:∀ k∈N,k<A.length) (hi:A[i]?=some (.rows sz ver [(cell x).map .p])) (hN:i ∉ N):Lp pv T lim H p N sz cell g m (x :: Rl) Rs T.length s [x] (.gs (H.length+i) ver 0 1) A :=
 ⟨hs,by simp,fun _=>by omega,by rw [h]; rfl,by rw [h],.inr ⟨_,_,rfl,by rw [qxk]; exact hi⟩,(fun _ _ _ _ e=>by cases e; exact ⟨by omega,by rwa [Nat.add_sub_cancel_left]⟩),hb⟩
theorem Lp.stop (h:Lp pv T lim H p N sz cell g m Rl Rs j s acc a A) (hg:g s=false):acc=Rl∧s=Rs:=by
 have h1:=h.rl; have h2:=h.rs
 rw [many_c hg] at h1 h2
 exact ⟨by simpa using h1,h2⟩
theorem Lp.succ (h:Lp pv T lim H p N sz cell g m Rl Rs j s acc a A) (ho:Only T g) (hg:g s=true):∃ j',j=j'+1:=⟨j - 1,by have:=h.fu (ho s hg).1; have:=h.ok.1; omega⟩
theorem Lp.next (h:Lp pv T lim H p N sz cell g m Rl Rs (j+1) s acc a A) (ho:Only T g) (hg:g s=true) {x:α} {s2:PS} (hm:m s=(x,s2)) (hs2:Ok T lim s2) (hgt:s.i<s2.i) {id ver:Nat} {A' A'':List AO}
  (k1:(H.set p (pv s2)++A')[id]?=some (.rows sz ver (acc.map (fun t=>(cell t).map .p)++[(cell x).map .p]))) (k2:H.length≤id∧id - H.length ∉ N) (k3:∀ (k:Nat) (o:AO),k ∉ N→A'[k]?=some o→A''[k]?=some o) (k4:∀ k∈N,k<A''.length) :
  Lp pv T lim H p N sz cell g m Rl Rs j s2 (acc++[x]) (.gs id ver 0 (acc.length+1)) A'':=by
 have h1:=h.rl; have h2:=h.rs
 rw [many,if_pos hg,hm] at h1 h2
 have hln:=h.ln
 have hi:=h.ok.1
 refine ⟨hs2,by simp; omega,fun hc=>?_,by simpa using h1,h2,.inr ⟨id,ver,by simp,?_⟩,(fun id' v o m' e=>by cases e; exact k2),k4⟩
 ·have:=h.fu (ho s hg).1; omega
 ·rw [q_ge k2.1] at k1 ⊢
  rw [List.map_append]
  exact k3 _ _ k2.2 k1
theorem Lp.lent (h:Lp pv T lim H p N sz cell g m Rl Rs j s acc a A) {c:AO} {B:List AO} (hk:∀ (k:Nat) (o:AO),k ∉ N→A[k]?=some o→B[k]?=some o) (hs:∀ t,(cell t).length=sz):LentN H.length (H.set p c++B) a (.p (.l (acc.map cell))):=by
 refine OwnR.lent (ys:=acc.map cell) (sz:=sz) ?_ (fun id v o m e=>(h.ids _ _ _ _ e).1) (by intro y hy; obtain ⟨t,_,rfl⟩:=List.mem_map.1 hy; exact hs t)
 rw [List.map_map]
 exact own_q h.own h.ids hk
theorem Lp.app {K:St→Prop} {L T':En} {d:MD} {bytes:Nat} {c:AO} {B:List AO} {y:List AV} (h:Lp pv T lim H p N sz cell g m Rl Rs j s acc a A) (hB:∀ (k:Nat) (o:AO),A[k]?=some o→B[k]?=some o) (hTl:T.length≤1048577) (hby:bytes≤1000)
  (k:∀ id ver A',(H.set p c++A')[id]?=some (.rows sz ver (acc.map (fun t=>(cell t).map .p)++[y]))→(H.length≤id∧id - H.length ∉ N)→(∀ k:Nat,k∈N→A'[k]?=A[k]?)→K (St.put ⟨L,T',H.set p c++A'⟩ d (.gs id ver 0 (acc.length+1)))) :
  appX sz bytes a [y] d K ⟨L,T',H.set p c++B⟩:=by
 have hln:=h.ln
 have hi:=h.ok.1
 have hlB:∀ k∈N,k<B.length:=fun k hk=>by
  have hk2:=h.len k hk
  exact get_lt (hB k A[k] (by simp [hk2]))
 have hl:(acc.map fun t=>(cell t).map AV.p).length=acc.length:=by simp
 refine app_q (rs:=acc.map fun t=>(cell t).map .p) (ys:=[y]) (own_q h.own h.ids fun k o _ hk=>hB k o hk) hlB h.ids (by rw [hl]; simp; exact Nat.le_trans (Nat.mul_le_mul (show acc.length+1≤1048579 by omega) hby) (by decide)) (by rw [hl]; simp; omega) ?_
 intro id ver A' k1 k2 k3
 rw [hl]
 refine k id ver A' k1 k2 (fun j hj=>?_)
 rw [k3 j hj]
 have hjl:=h.len j hj
 rw [hB j A[j] (by simp [hjl])]; simp [hjl]
end
theorem qxa (H A B:List AO) (p:Nat) (c:AO) (k:Nat):(H.set p c++(A++B))[H.length+A.length+k]?=B[k]?:=by
 rw [show H.length+A.length+k=H.length+(A.length+k) by omega,qxk,gxk]
theorem set_keep {A:List AO} {N:List Nat} {i:Nat} (hi:i∈N) {o:AO}:∀ (k:Nat) (o':AO),k ∉ N→A[k]?=some o'→(A.set i o)[k]?=some o':=fun k o' hk h=>by rw [List.getElem?_set_ne (by rintro rfl; exact hk hi)]; exact h
section
variable {T:List Tok} {lim e:Nat} (hT:ToksOk T) (hTl:T.length≤1048577)
include hT hTl
theorem opens_ok {s:PS} (hs:Ok T e s):(opensP T lim s).i=s.i∧(opensP T lim s).nest=s.nest+1∧((opensP T lim s).c=0→Ok T (e+1) (opensP T lim s)∧e≠lim):=by
 have h1:=hs.1
 have h2:=hs.2
 by_cases h0:s.c=0
 ·by_cases hn:s.nest=lim
  ·have eq0:opensP T lim s={ failP T 12 s with nest:=s.nest+1 }:=by
    rw [opens_of (if_pos ⟨h0,hn⟩),failP_0 h0,if_neg (fun h=>absurd h.1 (show ¬ ((12:Int)=0) by decide))]
   rw [eq0,failP_0 h0]
   exact ⟨rfl,rfl,fun h=>absurd h (show ¬ ((12:Int)=0) by decide)⟩
  ·rw [opens_of (if_neg fun h=>hn h.2)]
   split
   ·exact ⟨rfl,rfl,fun _=>⟨⟨h1,by simp only; omega⟩,by omega⟩⟩
   ·exact ⟨rfl,rfl,fun _=>⟨⟨h1,by simp only; omega⟩,by omega⟩⟩
 ·rw [opens_c h0]
  exact ⟨rfl,rfl,fun h=>absurd h h0⟩
end
end Go.Proofs.YtghcmccjchdgeaaGreatDoor.Qp
/- The reference's parser: patterns. -/
set_option linter.all false
namespace Go.Proofs.YtghcmccjchdgeaaGreatDoor.Qp
open Go.AM Mc Pg
abbrev patV (t:PatD):AV:=.st (t.cells.map .p)
abbrev expV (t:ExpD):AV:=.st (t.cells.map .p)
theorem patE5 (t:PatD):t.cells.length=5:=by cases t; rfl
theorem expE7 (t:ExpD):t.cells.length=7:=by cases t; rfl
theorem lent_pat {n:Nat} {H:List AO} {k u q:Int} {nm:List UInt8} {a:AV} {l:List PatD} (h:LentN n H a (.p (.l (PatD.cellsL l)))):LentN n H (.st [iV k,sV nm,iV u,iV q,a]) (patV (.mk k nm u q l)) :=
 LentC.st (.pc (.pc (.pc (.pc (.cons h .nil)))))
theorem lent_exp {n:Nat} {H:List AO} {k u q:Int} {nm tx:List UInt8} {a b:AV} {l:List ExpD} {m:List ArmD} (h:LentN n H a (.p (.l (ExpD.cellsL l)))) (h2:LentN n H b (.p (.l (ExpD.cellsA m)))):LentN n H (.st [iV k,sV nm,iV u,sV tx,iV q,a,b]) (expV (.mk k nm u tx q l m)) :=
 LentC.st (.pc (.pc (.pc (.pc (.pc (.cons h (.cons h2 .nil)))))))
section
variable {T:List Tok} {lim e:Nat} (hT:ToksOk T) (hTl:T.length≤1048577)
include hT hTl
theorem sPatSt:PF (pvS T lim) T e 208 [] (testM (patSt T)) bV:=by
 refine pf_of (pvS_tf T lim) fun H p s hp hs=>?_
 refine call208 (by simp) ?_
 simp only [go_sem,reduceIte,↓reduceIte,sevalprocAttr,Z0,Z1,bytesOf,qx0,qxk,qs0,qsk,List.length_set,mc208,mr208]
 refine acall_pure (sNow.nil hp hs) ?_
 unfold patSt
 simp only [go_sem,reduceIte,↓reduceIte,sevalprocAttr,Z0,Z1,bytesOf,qx0,qxk,qs0,qsk,List.length_set,qp0 hp,pvS,Tok.cells]
 cases h0:decide (s.c=0)
 ·have hc:=of_decide_eq_false h0
  simp only [isK_c hc,isT_c hc,Bool.or_self]
  simp only [go_sem,reduceIte,↓reduceIte,sevalprocAttr,Z0,Z1,bytesOf,qx0,qxk,qs0,qsk,List.length_set,h0]
  exact ⟨[],by simp [pvS],lentP (tf_p _)⟩
 have hc:=of_decide_eq_true h0
 cases k3:decide ((tokA T s).k=3)
 rotate_left
 ·have e3:isK T 3 s=true:=by unfold isK; rw [h0,k3]; rfl
  simp only [e3,Bool.or_true,Bool.true_or,Bool.false_or]
  simp only [go_sem,reduceIte,↓reduceIte,sevalprocAttr,Z0,Z1,bytesOf,qx0,qxk,qs0,qsk,List.length_set,h0,k3]
  exact ⟨[],by simp [pvS],lentP (tf_p _)⟩
 have e3:isK T 3 s=false:=by unfold isK; rw [h0,k3]; rfl
 cases k1:decide ((tokA T s).k=1)
 rotate_left
 ·have e1:isK T 1 s=true:=by unfold isK; rw [h0,k1]; rfl
  simp only [e1,e3,Bool.or_true,Bool.true_or,Bool.false_or]
  simp only [go_sem,reduceIte,↓reduceIte,sevalprocAttr,Z0,Z1,bytesOf,qx0,qxk,qs0,qsk,List.length_set,h0,k3,k1]
  exact ⟨[],by simp [pvS],lentP (tf_p _)⟩
 have e1:isK T 1 s=false:=by unfold isK; rw [h0,k1]; rfl
 cases k4:decide ((tokA T s).k=4)
 rotate_left
 ·have e4:isK T 4 s=true:=by unfold isK; rw [h0,k4]; rfl
  simp only [e4,e3,e1,Bool.or_true,Bool.true_or,Bool.false_or]
  simp only [go_sem,reduceIte,↓reduceIte,sevalprocAttr,Z0,Z1,bytesOf,qx0,qxk,qs0,qsk,List.length_set,h0,k3,k1,k4]
  exact ⟨[],by simp [pvS],lentP (tf_p _)⟩
 have e4:isK T 4 s=false:=by unfold isK; rw [h0,k4]; rfl
 simp only [e3,e1,e4,Bool.false_or]
 simp only [go_sem,reduceIte,↓reduceIte,sevalprocAttr,Z0,Z1,bytesOf,qx0,qxk,qs0,qsk,List.length_set,h0,k3,k1,k4]
 refine acall_pure ((sIs [95]).nil hp hs) ?_
 cases w0:isT T [95] s
 rotate_left
 ·simp only [go_sem,reduceIte,↓reduceIte,sevalprocAttr,Z0,Z1,bytesOf,qx0,qxk,qs0,qsk,List.length_set,w0,Bool.true_or,Bool.or_true,Bool.false_or]
  exact ⟨[],by simp [pvS],lentP (tf_p _)⟩
 simp only [go_sem,reduceIte,↓reduceIte,sevalprocAttr,Z0,Z1,bytesOf,qx0,qxk,qs0,qsk,List.length_set,w0,Bool.false_or]
 refine acall_pure ((sIs [116,114,117,101]).nil hp hs) ?_
 cases w1:isT T [116,114,117,101] s
 rotate_left
 ·simp only [go_sem,reduceIte,↓reduceIte,sevalprocAttr,Z0,Z1,bytesOf,qx0,qxk,qs0,qsk,List.length_set,w1,Bool.true_or,Bool.or_true,Bool.false_or]
  exact ⟨[],by simp [pvS],lentP (tf_p _)⟩
 simp only [go_sem,reduceIte,↓reduceIte,sevalprocAttr,Z0,Z1,bytesOf,qx0,qxk,qs0,qsk,List.length_set,w1,Bool.false_or]
 refine acall_pure ((sIs [102,97,108,115,101]).nil hp hs) ?_
 cases w2:isT T [102,97,108,115,101] s
 rotate_left
 ·simp only [go_sem,reduceIte,↓reduceIte,sevalprocAttr,Z0,Z1,bytesOf,qx0,qxk,qs0,qsk,List.length_set,w2,Bool.true_or,Bool.or_true,Bool.false_or]
  exact ⟨[],by simp [pvS],lentP (tf_p _)⟩
 simp only [go_sem,reduceIte,↓reduceIte,sevalprocAttr,Z0,Z1,bytesOf,qx0,qxk,qs0,qsk,List.length_set,w2,Bool.false_or]
 refine acall_pure ((sIs [40]).nil hp hs) ?_
 simp only [go_sem,reduceIte,↓reduceIte,sevalprocAttr,Z0,Z1,bytesOf,qx0,qxk,qs0,qsk,List.length_set,Bool.false_or]
 exact ⟨[],by simp [pvS],lentP (tf_p _)⟩
theorem sPatAC {pat:PM PatD} (hr:PF (pvS T lim) T e 163 [] pat patV) (sr:StayM T pat):PF (pvS T lim) T e 207 [] (sPatA T T.length pat) patV:=by
 refine pf_of (pvS_tf T lim) fun H p s hp hs=>?_
 refine call207 (by simp) ?_
 simp only [go_sem,reduceIte,↓reduceIte,sevalprocAttr,Z0,Z1,bytesOf,qx0,qxk,qs0,qsk,List.length_set,mc207,mr207,zl7_0]
 refine acall_pure (sNow H _ p s hp hs) ?_
 simp only [go_sem,reduceIte,↓reduceIte,sevalprocAttr,Z0,Z1,bytesOf,qx0,qxk,qs0,qsk,List.length_set,Tok.cells]
 refine acall_pure (sPatSt hT hTl H _ p s hp hs) ?_
 cases hg:patSt T s
 ·have eq0:sPatA T T.length pat s=(pat0,failP T 11 s):=by unfold sPatA; rw [nowP_e,iteG_f hg]; rfl
  rw [eq0]
  simp only [go_sem,reduceIte,↓reduceIte,sevalprocAttr,Z0,Z1,bytesOf,qx0,qxk,qs0,qsk,List.length_set,hg]
  refine acall_pure (sFails 11 H _ p s hp hs) ?_
  simp only [go_sem,reduceIte,↓reduceIte,sevalprocAttr,Z0,Z1,bytesOf,qx0,qxk,qs0,qsk,List.length_set]
  exact ⟨_,rfl,lent_pat (by rw [PatD.cellsL]; exact .nl)⟩
 have eq0:sPatA T T.length pat s=sPatIn T T.length (tokA T s) pat (adv s):=by unfold sPatA; rw [nowP_e,iteG_t hg]
 have hs1:=hs.adv hT (only_patSt s hg).2
 rw [eq0]
 generalize hx:tokA T s=x
 obtain ⟨tk,tt,tn,tp⟩:=x
 simp only [go_sem,reduceIte,↓reduceIte,sevalprocAttr,Z0,Z1,bytesOf,qx0,qxk,qs0,qsk,List.length_set,hg,qp hp,qq hp,pvS,ws hTl hs]
 have fold:AO.var [ptV T,iV (s.i+1:Nat),iV s.nest,iV s.d,iV lim,iV s.c,iV s.ps]=pvS T lim (adv s):=rfl
 rw [fold]
 by_cases h0:tk=3
 ·have eq1:sPatIn T T.length ⟨tk,tt,tn,tp⟩ pat (adv s)=((PatD.mk 2 tt 0 tp []),adv s):=by unfold sPatIn; rw [if_pos h0]; rfl
  rw [eq1]
  simp only [go_sem,reduceIte,↓reduceIte,sevalprocAttr,Z0,Z1,bytesOf,qx0,qxk,qs0,qsk,List.length_set,dT h0]
  exact ⟨_,rfl,lent_pat (by rw [PatD.cellsL]; exact .nl)⟩
 by_cases h1:tk=4
 ·have eq1:sPatIn T T.length ⟨tk,tt,tn,tp⟩ pat (adv s)=((PatD.mk 7 tt 0 tp []),adv s):=by unfold sPatIn; rw [if_neg h0,if_pos h1]; rfl
  rw [eq1]
  simp only [go_sem,reduceIte,↓reduceIte,sevalprocAttr,Z0,Z1,bytesOf,qx0,qxk,qs0,qsk,List.length_set,dF h0,dT h1]
  exact ⟨_,rfl,lent_pat (by rw [PatD.cellsL]; exact .nl)⟩
 by_cases h2:tk=1
 ·have eq1:sPatIn T T.length ⟨tk,tt,tn,tp⟩ pat (adv s)=((PatD.mk 3 [] tn tp []),adv s):=by unfold sPatIn; rw [if_neg h0,if_neg h1,if_pos h2]; rfl
  rw [eq1]
  simp only [go_sem,reduceIte,↓reduceIte,sevalprocAttr,Z0,Z1,bytesOf,qx0,qxk,qs0,qsk,List.length_set,dF h0,dF h1,dT h2]
  exact ⟨_,rfl,lent_pat (by rw [PatD.cellsL]; exact .nl)⟩
 by_cases h3:tt=[95]
 ·have eq1:sPatIn T T.length ⟨tk,tt,tn,tp⟩ pat (adv s)=((PatD.mk 1 [] 0 tp []),adv s):=by unfold sPatIn; rw [if_neg h0,if_neg h1,if_neg h2,if_pos h3]; rfl
  rw [eq1]
  simp only [go_sem,reduceIte,↓reduceIte,sevalprocAttr,Z0,Z1,bytesOf,qx0,qxk,qs0,qsk,List.length_set,dF h0,dF h1,dF h2,dT h3]
  exact ⟨_,rfl,lent_pat (by rw [PatD.cellsL]; exact .nl)⟩
 by_cases h4:tt=[116,114,117,101]
 ·have eq1:sPatIn T T.length ⟨tk,tt,tn,tp⟩ pat (adv s)=((PatD.mk 4 [] 1 tp []),adv s):=by unfold sPatIn; rw [if_neg h0,if_neg h1,if_neg h2,if_neg h3,if_pos h4]; rfl
  rw [eq1]
  simp only [go_sem,reduceIte,↓reduceIte,sevalprocAttr,Z0,Z1,bytesOf,qx0,qxk,qs0,qsk,List.length_set,dF h0,dF h1,dF h2,dF h3,dT h4]
  exact ⟨_,rfl,lent_pat (by rw [PatD.cellsL]; exact .nl)⟩
 by_cases h5:tt=[102,97,108,115,101]
 ·have eq1:sPatIn T T.length ⟨tk,tt,tn,tp⟩ pat (adv s)=((PatD.mk 4 [] 0 tp []),adv s):=by unfold sPatIn; rw [if_neg h0,if_neg h1,if_neg h2,if_neg h3,if_neg h4,if_pos h5]; rfl
  rw [eq1]
  simp only [go_sem,reduceIte,↓reduceIte,sevalprocAttr,Z0,Z1,bytesOf,qx0,qxk,qs0,qsk,List.length_set,dF h0,dF h1,dF h2,dF h3,dF h4,dT h5]
  exact ⟨_,rfl,lent_pat (by rw [PatD.cellsL]; exact .nl)⟩
 simp only [go_sem,reduceIte,↓reduceIte,sevalprocAttr,Z0,Z1,bytesOf,qx0,qxk,qs0,qsk,List.length_set,dF h0,dF h1,dF h2,dF h3,dF h4,dF h5]
 refine acall_pure (sHas hTl [41] H _ p (adv s) hp hs1) ?_
 unfold takeM
 cases hc:isT T [41] (adv s)
 rotate_left
 ·have eq1:sPatIn T T.length ⟨tk,tt,tn,tp⟩ pat (adv s)=((PatD.mk 5 [] 0 tp []),adv (adv s)):=by unfold sPatIn; rw [if_neg h0,if_neg h1,if_neg h2,if_neg h3,if_neg h4,if_neg h5,iteG_t hc]; rfl
  rw [eq1]
  simp only [go_sem,reduceIte,↓reduceIte,sevalprocAttr,Z0,Z1,bytesOf,qx0,qxk,qs0,qsk,List.length_set,hc]
  exact ⟨_,rfl,lent_pat (by rw [PatD.cellsL]; exact .nl)⟩
 simp only [go_sem,reduceIte,↓reduceIte,sevalprocAttr,Z0,Z1,bytesOf,qx0,qxk,qs0,qsk,List.length_set,hc]
 refine acall_pure (hr H _ p (adv s) hp hs1) ?_
 have hs2:=hs1.run sr
 rcases hq:pat (adv s) with ⟨⟨k,n,u,q,ks⟩,s2⟩
 rw [hq] at hs2
 rcases hR:many (isT T [44]) (advP pat) T.length s2 with ⟨Rl,Rs⟩
 have eq1:sPatIn T T.length ⟨tk,tt,tn,tp⟩ pat (adv s)=(if Rl=[] then .mk k n u q ks else (PatD.mk 6 [] 0 tp ((.mk k n u q ks) :: Rl)),wantP T [41] Rs):=by unfold sPatIn; rw [if_neg h0,if_neg h1,if_neg h2,if_neg h3,if_neg h4,if_neg h5,iteG_f hc,bindP_e,hq,bindP_e,hR]; rfl
 rw [eq1]
 clear eq1 eq0
 simp only [go_sem,reduceIte,↓reduceIte,sevalprocAttr,Z0,Z1,bytesOf,qx0,qxk,qs0,qsk,List.length_set,PatD.cells,Nat.add_zero]
 refine ⟨Nat × PS × List PatD × AV × List AO,[0,2,4,5],fun x st=>(Lp (pvS T lim) T e H p [0,2] 5 PatD.cells (isT T [44]) (advP pat) ((.mk k n u q ks) :: Rl) Rs x.1 x.2.1 x.2.2.1 x.2.2.2.1 x.2.2.2.2∧x.2.2.2.2[0]?=some (.var [iV 0,sV [],iV 0,iV 0,.p .nl])∧x.2.2.2.2[2]?=some (.var [iV 0,sV [],iV 0,iV tp,.p .nl])) ∧
   st=⟨[(0,.ptr p 0),(2,.ptr H.length 0),(4,.ptr (H.length+2) 0),(5,x.2.2.2.1)],[],H.set p (pvS T lim x.2.1)++x.2.2.2.2⟩,fun x=>T.length - x.2.1.i,⟨(T.length,s2,[.mk k n u q ks],.gs (H.length+3) 0 0 1,[.var [iV 0,sV [],iV 0,iV 0,.p .nl],.var [iV tk,sV tt,iV tn,iV tp],.var [iV 0,sV [],iV 0,iV tp,.p .nl],.rows 5 0 [[iV k,sV n,iV u,iV q,.p (.l (PatD.cellsL ks))]]]),?_⟩,?_⟩
 ·simp only [go_sem,reduceIte,↓reduceIte,sevalprocAttr,Z0,Z1,bytesOf,qx0,qxk,qs0,qsk,List.length_set]
  exact Lp.start1 hs2 hR (by simp) rfl (by decide)
 ·rintro ⟨j,s',acc,a,A⟩ _ ⟨⟨hL,i8,i9⟩,rfl⟩
  simp only at hL i8 i9 ⊢
  simp only [go_sem,reduceIte,↓reduceIte,sevalprocAttr,Z0,Z1,bytesOf,qx0,qxk,qs0,qsk,List.length_set]
  refine acall_pure (sHas hTl [44] H _ p s' hp hL.ok) ?_
  unfold takeM
  cases hg:isT T [44] s'
  ·obtain ⟨rfl,rfl⟩:=hL.stop hg
   have hz:∀ o,(A.set 0 o)[0]?=some o:=fun o=>set_get i8
   have hz2:∀ o,(A.set 2 o)[2]?=some o:=fun o=>set_get i9
   simp only [go_sem,reduceIte,↓reduceIte,sevalprocAttr,Z0,Z1,bytesOf,qx0,qxk,qs0,qsk,List.length_set,hg]
   refine acall_pure (sWant hTl [41] H _ p s' hp hL.ok) ?_
   simp only [go_sem,reduceIte,↓reduceIte,sevalprocAttr,Z0,Z1,bytesOf,qx0,qxk,qs0,qsk,List.length_set]
   obtain ⟨id,ver,rfl,hid⟩:∃ id ver,a=.gs id ver 0 (Rl.length+1)∧(H.set p (pvS T lim (wantP T [41] s'))++A)[id]?=some (.rows 5 ver ((((.mk k n u q ks) :: Rl:List PatD)).map fun t=>(PatD.cells t).map .p)):=by
    rcases hL.own with ⟨_,h⟩ | ⟨id,ver,rfl,h⟩
    ·simp at h
    ·exact ⟨id,ver,by simp,by rw [q_ge (hL.ids _ _ _ _ rfl).1] at h ⊢; exact h⟩
   by_cases hRl:Rl=[]
   ·subst hRl
    rw [if_pos rfl]
    simp only [go_sem,reduceIte,↓reduceIte,sevalprocAttr,Z0,Z1,bytesOf,qx0,qxk,qs0,qsk,List.length_set,hid,i8,hz,PatD.cells]
    intro _
    exact ⟨_,rfl,lentP (tf_av (PatD.cells (.mk k n u q ks)))⟩
   ·have d1:decide (((Rl.length+1:Nat):Int)=1)=false:=by
     have:=List.length_pos_iff.2 hRl
     simp; omega
    rw [if_neg hRl]
    have h02:∀ o,(A.set 2 o)[0]?=some _:=fun o=>get_set i8 (by decide)
    have hz02:∀ o o',((A.set 2 o).set 0 o')[0]?=some o':=fun o o'=>set_get (h02 o)
    simp only [go_sem,reduceIte,↓reduceIte,sevalprocAttr,Z0,Z1,bytesOf,qx0,qxk,qs0,qsk,List.length_set,d1,i9,i8,hz2,h02,hz02,List.set_set]
    intro _
    exact ⟨_,rfl,lent_pat (by rw [PatD.cellsL_eq]; exact hL.lent (fun k o hk h=>get_set (get_set h (by rintro rfl; exact hk (by decide))) (by rintro rfl; exact hk (by decide))) patE5)⟩
  ·obtain ⟨j,rfl⟩:=hL.succ (only_isT T _) hg
   have hsa:=hL.ok.adv hT (isT_k hg).2
   have hs3:=hsa.run sr
   have hgt:=(Stay.adv hT sr hL.ok.1 (isT_k hg).2).1
   simp only [go_sem,reduceIte,↓reduceIte,sevalprocAttr,Z0,Z1,bytesOf,qx0,qxk,qs0,qsk,List.length_set,hg]
   refine acall_pure (hr H _ p (adv s') hp hsa) ?_
   rcases hq3:pat (adv s') with ⟨⟨k,n,u,q,ks⟩,s3⟩
   rw [hq3] at hs3 hgt
   simp only [go_sem,reduceIte,↓reduceIte,sevalprocAttr,Z0,Z1,bytesOf,qx0,qxk,qs0,qsk,List.length_set,PatD.cells,qxa]
   refine ⟨by intro r hr; simp at hr; subst hr; rfl,?_⟩
   refine hL.app (fun k o h=>get_ext h _) hTl (by decide) ?_
   intro id ver A' k1 k2 k3
   have j0:=(k3 0 (by decide)).trans i8
   have j2:=(k3 2 (by decide)).trans i9
   have hlt2:=get_lt j2
   simp only [go_sem,reduceIte,↓reduceIte,sevalprocAttr,Z0,Z1,bytesOf,qx0,qxk,qs0,qsk,List.length_set]
   exact ⟨(j,s3,acc++[.mk k n u q ks],.gs id ver 0 (acc.length+1),A'),⟨⟨hL.next (only_isT T _) hg hq3 hs3 hgt k1 k2 (fun _ _ _ h=>h) (by simp; omega),j0,j2⟩,rfl⟩,by have h1:s'.i<s3.i:=hgt; have:=hL.ok.1; simp only; omega⟩
end
end Go.Proofs.YtghcmccjchdgeaaGreatDoor.Qp