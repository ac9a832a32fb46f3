/- Trees that are owned: slices of rows whose cells may be owned slices themselves. -/
import Derived.Test.YtjkbbnfdbfcebaaGreatDoorAm33
set_option linter.all false
namespace Go.AM
inductive TV where
 |p (x:PV)
 |s (sz:Nat) (rows:List (List TV))
mutual
def ib (H:List AO):TV->AV->List Nat->Prop
 | .p x,a,ids=>a=.p x/\ids=[]
 | .s sz rows,a,ids=>(rows=[]/\a=.p .nl/\ids=[])\/∃id ver rs js,a=.gs id ver 0 rs.length/\ids=id::js/\H[id]?=some (.rows sz ver rs)/\dk H sz rows rs js
def bI (H:List AO):List TV->List AV->List Nat->Prop
 |[],cs,ids=>cs=[]/\ids=[]
 |t::ts,cs,ids=>∃a gG i js,cs=a::gG/\ids=i++js/\ib H t a i/\bI H ts gG js
def dk (H:List AO) (sz:Nat):List (List TV)->List (List AV)->List Nat->Prop
 |[],rs,ids=>rs=[]/\ids=[]
 |row::rows,rs,ids=>∃r rM i js,rs=r::rM/\ids=i++js/\r.length=sz/\bI H row r i/\dk H sz rows rM js
end
mutual
theorem ib.gf {H H':List AO}:∀{t:TV} {a:AV} {ids:List Nat},ib H t a ids→(∀i∈ids,∀o,H[i]?=some o→H'[i]?=some o)→ib H' t a ids
  | .p x,a,ids,h,_ =>by rw[ib]at h⊢;exact h
  | .s sz rows,a,ids,h,hk=>by
    rw[ib]at h⊢;rcases h with h|⟨id,ver,rs,js,rfl,rfl,h1,h2⟩
    · exact .inl h
    · exact .inr ⟨id,ver,rs,js,rfl,rfl,hk id (by simp) _ h1,dk.gf h2 fun i hi=>hk i (by simp[hi])⟩
theorem bI.gf {H H':List AO}:∀{ts:List TV} {cs:List AV} {ids:List Nat},bI H ts cs ids→(∀i∈ids,∀o,H[i]?=some o→H'[i]?=some o)→bI H' ts cs ids
  |[],cs,ids,h,_ =>by rw[bI]at h⊢;exact h
  |t::ts,cs,ids,h,hk=>by
   rw[bI]at h⊢;obtain⟨a,gG,i,js,rfl,rfl,h1,h2⟩:=h;exact⟨a,gG,i,js,rfl,rfl,h1.gf fun x hx=>hk x (by simp[hx]),h2.gf fun x hx=>hk x (by simp[hx])⟩
theorem dk.gf {H H':List AO} {sz:Nat}:∀{rows:List (List TV)} {rs:List (List AV)} {ids:List Nat},dk H sz rows rs ids→(∀i∈ids,∀o,H[i]?=some o→H'[i]?=some o)→dk H' sz rows rs ids
  |[],rs,ids,h,_ =>by rw[dk]at h⊢;exact h
  |row::rows,rs,ids,h,hk=>by
   rw[dk]at h⊢;obtain⟨r,rM,i,js,rfl,rfl,h0,h1,h2⟩:=h;exact⟨r,rM,i,js,rfl,rfl,h0,h1.gf fun x hx=>hk x (by simp[hx]),h2.gf fun x hx=>hk x (by simp[hx])⟩
end
mutual
theorem ib.rows {H:List AO}:∀{t:TV} {a:AV} {ids:List Nat},ib H t a ids→∀i∈ids,∃sz ver rs,H[i]?=some (.rows sz ver rs)
  | .p x,a,ids,h,i,hi=>by rw[ib]at h;rw[h.2]at hi;cases hi
  | .s sz rows,a,ids,h,i,hi=>by
    rw[ib]at h;rcases h with⟨_,_,rfl⟩|⟨id,ver,rs,js,rfl,rfl,h1,h2⟩
    · cases hi
    · rcases List.mem_cons.1 hi with rfl|hi
      · exact⟨_,_,_,h1⟩
      · exact dk.rows h2 i hi
theorem bI.rows {H:List AO}:∀{ts:List TV} {cs:List AV} {ids:List Nat},bI H ts cs ids→∀i∈ids,∃sz ver rs,H[i]?=some (.rows sz ver rs)
  |[],cs,ids,h,i,hi=>by rw[bI]at h;rw[h.2]at hi;cases hi
  |t::ts,cs,ids,h,i,hi=>by
   rw[bI]at h;obtain⟨a,gG,i',js,rfl,rfl,h1,h2⟩:=h;rcases List.mem_append.1 hi with hi|hi
   · exact h1.rows i hi
   · exact bI.rows h2 i hi
theorem dk.rows {H:List AO} {sz:Nat}:∀{rows:List (List TV)} {rs:List (List AV)} {ids:List Nat},dk H sz rows rs ids→∀i∈ids,∃sz ver rs,H[i]?=some (.rows sz ver rs)
  |[],rs,ids,h,i,hi=>by rw[dk]at h;rw[h.2]at hi;cases hi
  |row::rows,rs,ids,h,i,hi=>by
   rw[dk]at h;obtain⟨r,rM,i',js,rfl,rfl,h0,h1,h2⟩:=h;rcases List.mem_append.1 hi with hi|hi
   · exact h1.rows i hi
   · exact dk.rows h2 i hi
end
theorem bI.nil (H:List AO):bI H [] [] []:=by rw[bI];exact⟨rfl,rfl⟩
theorem bI.cons {H:List AO} {t:TV} {a:AV} {i:List Nat} {ts:List TV} {cs:List AV} {js:List Nat} (h:ib H t a i) (k:bI H ts cs js):bI H (t::ts) (a::cs) (i++js):=by
 rw[bI];exact⟨a,cs,i,js,rfl,rfl,h,k⟩
theorem ib.pv (H:List AO) (x:PV):ib H (.p x) (.p x) []:=by rw[ib];exact⟨rfl,rfl⟩
theorem bI.pc {H:List AO} {x:PV} {ts:List TV} {cs:List AV} {js:List Nat} (k:bI H ts cs js):bI H (.p x::ts) (.p x::cs) js:=bI.cons (ib.pv H x) k
theorem bI.one {H:List AO} {t:TV} {a:AV} {i:List Nat} (h:ib H t a i):bI H [t] [a] i:=by
 have:=bI.cons h (bI.nil H);rwa[List.append_nil]at this
theorem ib.nl (H:List AO) (sz:Nat):ib H (.s sz []) (.p .nl) []:=by rw[ib];exact .inl ⟨rfl,rfl,rfl⟩
theorem bI.len {H:List AO}:∀{ts:List TV} {cs:List AV} {ids:List Nat},bI H ts cs ids→cs.length=ts.length
  |[],cs,ids,h=>by rw[bI]at h;rw[h.1];rfl
  |t::ts,cs,ids,h=>by
   rw[bI]at h;obtain⟨a,gG,i,js,rfl,rfl,h1,h2⟩:=h;simp[bI.len h2]
theorem dk.len {H:List AO} {sz:Nat}:∀{rows:List (List TV)} {rs:List (List AV)} {ids:List Nat},dk H sz rows rs ids→rs.length=rows.length
  |[],rs,ids,h=>by rw[dk]at h;rw[h.1];rfl
  |row::rows,rs,ids,h=>by
   rw[dk]at h;obtain⟨r,rM,i,js,rfl,rfl,h0,h1,h2⟩:=h;simp[dk.len h2]
theorem bI.at {H:List AO}:∀{ts:List TV} {cs:List AV} {ids:List Nat} {k:Nat} {t:TV},bI H ts cs ids→ts[k]?=some t→
    ∃c j1 j2 j3,cs[k]?=some c∧ids=j1++(j2++j3)∧ib H t c j2∧∀{H':List AO} {t':TV} {c':AV},ib H' t' c' j2→(∀i,i∈j1∨i∈j3→∀o,H[i]?=some o→H'[i]?=some o)→bI H' (ts.set k t') (cs.set k c') ids
  |[],cs,ids,k,t,_,hk=>by simp at hk
  |u::ts,cs,ids,0,t,h,hk=>by
   rw[bI]at h;obtain⟨a,gG,i,js,rfl,rfl,h1,h2⟩:=h;simp at hk;subst hk;refine⟨a,[],i,js,rfl,rfl,h1,fun{H' t' c'} h3 Fp=> ?_⟩;simp only[List.set_cons_zero]
   exact bI.cons h3 (h2.gf fun x hx=>Fp x (.inr hx))
  |u::ts,cs,ids,k+1,t,h,hk=>by
   rw[bI]at h;obtain⟨a,gG,i,js,rfl,rfl,h1,h2⟩:=h;obtain⟨c,j1,j2,j3,e1,rfl,e3,e4⟩:=bI.at h2 (by simpa using hk);refine⟨c,i++j1,j2,j3,by simpa using e1,by simp,e3,fun{H' t' c'} h3 Fp=> ?_⟩;simp only[List.set_cons_succ];exact bI.cons (h1.gf fun x hx=>Fp x (.inl (by simp[hx]))) (e4 h3 fun x hx=>Fp x (by rcases hx with hx|hx;exact .inl (by simp[hx]);exact .inr hx))
theorem dk.at {H:List AO} {sz:Nat}:∀{rows:List (List TV)} {rs:List (List AV)} {ids:List Nat} {k:Nat} {t:List TV},dk H sz rows rs ids→rows[k]?=some t→
    ∃c j1 j2 j3,rs[k]?=some c∧ids=j1++(j2++j3)∧c.length=sz∧bI H t c j2∧∀{H':List AO} {t':List TV} {c':List AV},c'.length=sz→bI H' t' c' j2→(∀i,i∈j1∨i∈j3→∀o,H[i]?=some o→H'[i]?=some o)→dk H' sz (rows.set k t') (rs.set k c') ids
  |[],cs,ids,k,t,_,hk=>by simp at hk
  |u::ts,cs,ids,0,t,h,hk=>by
   rw[dk]at h;obtain⟨a,gG,i,js,rfl,rfl,h0,h1,h2⟩:=h;simp at hk;subst hk;refine⟨a,[],i,js,rfl,rfl,h0,h1,fun{H' t' c'} hl h3 Fp=> ?_⟩;simp only[List.set_cons_zero];rw[dk]
   exact⟨_,_,_,_,rfl,rfl,hl,h3,h2.gf fun x hx=>Fp x (.inr hx)⟩
  |u::ts,cs,ids,k+1,t,h,hk=>by
   rw[dk]at h;obtain⟨a,gG,i,js,rfl,rfl,h0,h1,h2⟩:=h;obtain⟨c,j1,j2,j3,e1,rfl,e2,e3,e4⟩:=dk.at h2 (by simpa using hk);refine⟨c,i++j1,j2,j3,by simpa using e1,by simp,e2,e3,fun{H' t' c'} hl h3 Fp=> ?_⟩;simp only[List.set_cons_succ];rw[dk];exact⟨_,_,i,j1++(j2++j3),rfl,by simp,h0,h1.gf fun x hx=>Fp x (.inl (by simp[hx])),e4 hl h3 fun x hx=>Fp x (by rcases hx with hx|hx;exact .inl (by simp[hx]);exact .inr hx)⟩
theorem B4 {α:Type} {l:List α} {k:Nat} {a:α} (h:l[k]?=some a):l.set k a=l:=by
 obtain⟨aj,he⟩:=List.getElem?_eq_some_iff.1 h;rw[<-he];exact List.set_getElem_self aj
end Go.AM
