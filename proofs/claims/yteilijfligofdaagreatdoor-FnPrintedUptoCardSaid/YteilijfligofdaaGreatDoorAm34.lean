/- Trees that are owned: slices of rows whose cells may be owned slices themselves. -/
import Derived.Test.YteilijfligofdaaGreatDoorAm33
set_option linter.all false
namespace Go.AM
inductive TV where
 |p (x:PV)
 |s (sz:Nat) (rows:List (List TV))
mutual
def fq (H:List AO):TV->AV->List Nat->Prop
 | .p x,a,ids=>a=.p x/\ids=[]
 | .s sz rows,a,ids=>(rows=[]/\a=.p .nl/\ids=[])\/∃id ver rs js,a=.gs id ver 0 rs.length/\ids=id::js/\H[id]?=some (.rows sz ver rs)/\bY H sz rows rs js
def bj (H:List AO):List TV->List AV->List Nat->Prop
 |[],cs,ids=>cs=[]/\ids=[]
 |t::ts,cs,ids=>∃a fP i js,cs=a::fP/\ids=i++js/\fq H t a i/\bj H ts fP js
def bY (H:List AO) (sz:Nat):List (List TV)->List (List AV)->List Nat->Prop
 |[],rs,ids=>rs=[]/\ids=[]
 |row::rows,rs,ids=>∃r pW i js,rs=r::pW/\ids=i++js/\r.length=sz/\bj H row r i/\bY H sz rows pW js
end
mutual
theorem fq.eF {H H':List AO}:∀{t:TV} {a:AV} {ids:List Nat},fq H t a ids→(∀i∈ids,∀o,H[i]?=some o→H'[i]?=some o)→fq H' t a ids
  | .p x,a,ids,h,_ =>by rw[fq]at h⊢;exact h
  | .s sz rows,a,ids,h,hk=>by
    rw[fq]at h⊢;rcases h with h|⟨id,ver,rs,js,rfl,rfl,h1,h2⟩
    · exact .inl h
    · exact .inr ⟨id,ver,rs,js,rfl,rfl,hk id (by simp) _ h1,bY.eF h2 fun i hi=>hk i (by simp[hi])⟩
theorem bj.eF {H H':List AO}:∀{ts:List TV} {cs:List AV} {ids:List Nat},bj H ts cs ids→(∀i∈ids,∀o,H[i]?=some o→H'[i]?=some o)→bj H' ts cs ids
  |[],cs,ids,h,_ =>by rw[bj]at h⊢;exact h
  |t::ts,cs,ids,h,hk=>by
   rw[bj]at h⊢;obtain⟨a,fP,i,js,rfl,rfl,h1,h2⟩:=h;exact⟨a,fP,i,js,rfl,rfl,h1.eF fun x hx=>hk x (by simp[hx]),h2.eF fun x hx=>hk x (by simp[hx])⟩
theorem bY.eF {H H':List AO} {sz:Nat}:∀{rows:List (List TV)} {rs:List (List AV)} {ids:List Nat},bY H sz rows rs ids→(∀i∈ids,∀o,H[i]?=some o→H'[i]?=some o)→bY H' sz rows rs ids
  |[],rs,ids,h,_ =>by rw[bY]at h⊢;exact h
  |row::rows,rs,ids,h,hk=>by
   rw[bY]at h⊢;obtain⟨r,pW,i,js,rfl,rfl,h0,h1,h2⟩:=h;exact⟨r,pW,i,js,rfl,rfl,h0,h1.eF fun x hx=>hk x (by simp[hx]),h2.eF fun x hx=>hk x (by simp[hx])⟩
end
mutual
theorem fq.rows {H:List AO}:∀{t:TV} {a:AV} {ids:List Nat},fq H t a ids→∀i∈ids,∃sz ver rs,H[i]?=some (.rows sz ver rs)
  | .p x,a,ids,h,i,hi=>by rw[fq]at h;rw[h.2]at hi;cases hi
  | .s sz rows,a,ids,h,i,hi=>by
    rw[fq]at h;rcases h with⟨_,_,rfl⟩|⟨id,ver,rs,js,rfl,rfl,h1,h2⟩
    · cases hi
    · rcases List.mem_cons.1 hi with rfl|hi
      · exact⟨_,_,_,h1⟩
      · exact bY.rows h2 i hi
theorem bj.rows {H:List AO}:∀{ts:List TV} {cs:List AV} {ids:List Nat},bj H ts cs ids→∀i∈ids,∃sz ver rs,H[i]?=some (.rows sz ver rs)
  |[],cs,ids,h,i,hi=>by rw[bj]at h;rw[h.2]at hi;cases hi
  |t::ts,cs,ids,h,i,hi=>by
   rw[bj]at h;obtain⟨a,fP,i',js,rfl,rfl,h1,h2⟩:=h;rcases List.mem_append.1 hi with hi|hi
   · exact h1.rows i hi
   · exact bj.rows h2 i hi
theorem bY.rows {H:List AO} {sz:Nat}:∀{rows:List (List TV)} {rs:List (List AV)} {ids:List Nat},bY H sz rows rs ids→∀i∈ids,∃sz ver rs,H[i]?=some (.rows sz ver rs)
  |[],rs,ids,h,i,hi=>by rw[bY]at h;rw[h.2]at hi;cases hi
  |row::rows,rs,ids,h,i,hi=>by
   rw[bY]at h;obtain⟨r,pW,i',js,rfl,rfl,h0,h1,h2⟩:=h;rcases List.mem_append.1 hi with hi|hi
   · exact h1.rows i hi
   · exact bY.rows h2 i hi
end
theorem bj.nil (H:List AO):bj H [] [] []:=by rw[bj];exact⟨rfl,rfl⟩
theorem bj.cons {H:List AO} {t:TV} {a:AV} {i:List Nat} {ts:List TV} {cs:List AV} {js:List Nat} (h:fq H t a i) (k:bj H ts cs js):bj H (t::ts) (a::cs) (i++js):=by
 rw[bj];exact⟨a,cs,i,js,rfl,rfl,h,k⟩
theorem fq.pv (H:List AO) (x:PV):fq H (.p x) (.p x) []:=by rw[fq];exact⟨rfl,rfl⟩
theorem bj.pc {H:List AO} {x:PV} {ts:List TV} {cs:List AV} {js:List Nat} (k:bj H ts cs js):bj H (.p x::ts) (.p x::cs) js:=bj.cons (fq.pv H x) k
theorem bj.one {H:List AO} {t:TV} {a:AV} {i:List Nat} (h:fq H t a i):bj H [t] [a] i:=by
 have:=bj.cons h (bj.nil H);rwa[List.append_nil]at this
theorem fq.nl (H:List AO) (sz:Nat):fq H (.s sz []) (.p .nl) []:=by rw[fq];exact .inl ⟨rfl,rfl,rfl⟩
theorem bj.len {H:List AO}:∀{ts:List TV} {cs:List AV} {ids:List Nat},bj H ts cs ids→cs.length=ts.length
  |[],cs,ids,h=>by rw[bj]at h;rw[h.1];rfl
  |t::ts,cs,ids,h=>by
   rw[bj]at h;obtain⟨a,fP,i,js,rfl,rfl,h1,h2⟩:=h;simp[bj.len h2]
theorem bY.len {H:List AO} {sz:Nat}:∀{rows:List (List TV)} {rs:List (List AV)} {ids:List Nat},bY H sz rows rs ids→rs.length=rows.length
  |[],rs,ids,h=>by rw[bY]at h;rw[h.1];rfl
  |row::rows,rs,ids,h=>by
   rw[bY]at h;obtain⟨r,pW,i,js,rfl,rfl,h0,h1,h2⟩:=h;simp[bY.len h2]
theorem bj.at {H:List AO}:∀{ts:List TV} {cs:List AV} {ids:List Nat} {k:Nat} {t:TV},bj H ts cs ids→ts[k]?=some t→
    ∃c j1 j2 j3,cs[k]?=some c∧ids=j1++(j2++j3)∧fq H t c j2∧∀{H':List AO} {t':TV} {c':AV},fq H' t' c' j2→(∀i,i∈j1∨i∈j3→∀o,H[i]?=some o→H'[i]?=some o)→bj H' (ts.set k t') (cs.set k c') ids
  |[],cs,ids,k,t,_,hk=>by simp at hk
  |u::ts,cs,ids,0,t,h,hk=>by
   rw[bj]at h;obtain⟨a,fP,i,js,rfl,rfl,h1,h2⟩:=h;simp at hk;subst hk;refine⟨a,[],i,js,rfl,rfl,h1,fun{H' t' c'} h3 FP=> ?_⟩;simp only[List.set_cons_zero]
   exact bj.cons h3 (h2.eF fun x hx=>FP x (.inr hx))
  |u::ts,cs,ids,k+1,t,h,hk=>by
   rw[bj]at h;obtain⟨a,fP,i,js,rfl,rfl,h1,h2⟩:=h;obtain⟨c,j1,j2,j3,e1,rfl,e3,e4⟩:=bj.at h2 (by simpa using hk);refine⟨c,i++j1,j2,j3,by simpa using e1,by simp,e3,fun{H' t' c'} h3 FP=> ?_⟩;simp only[List.set_cons_succ];exact bj.cons (h1.eF fun x hx=>FP x (.inl (by simp[hx]))) (e4 h3 fun x hx=>FP x (by rcases hx with hx|hx;exact .inl (by simp[hx]);exact .inr hx))
theorem bY.at {H:List AO} {sz:Nat}:∀{rows:List (List TV)} {rs:List (List AV)} {ids:List Nat} {k:Nat} {t:List TV},bY H sz rows rs ids→rows[k]?=some t→
    ∃c j1 j2 j3,rs[k]?=some c∧ids=j1++(j2++j3)∧c.length=sz∧bj H t c j2∧∀{H':List AO} {t':List TV} {c':List AV},c'.length=sz→bj H' t' c' j2→(∀i,i∈j1∨i∈j3→∀o,H[i]?=some o→H'[i]?=some o)→bY H' sz (rows.set k t') (rs.set k c') ids
  |[],cs,ids,k,t,_,hk=>by simp at hk
  |u::ts,cs,ids,0,t,h,hk=>by
   rw[bY]at h;obtain⟨a,fP,i,js,rfl,rfl,h0,h1,h2⟩:=h;simp at hk;subst hk;refine⟨a,[],i,js,rfl,rfl,h0,h1,fun{H' t' c'} hl h3 FP=> ?_⟩;simp only[List.set_cons_zero];rw[bY]
   exact⟨_,_,_,_,rfl,rfl,hl,h3,h2.eF fun x hx=>FP x (.inr hx)⟩
  |u::ts,cs,ids,k+1,t,h,hk=>by
   rw[bY]at h;obtain⟨a,fP,i,js,rfl,rfl,h0,h1,h2⟩:=h;obtain⟨c,j1,j2,j3,e1,rfl,e2,e3,e4⟩:=bY.at h2 (by simpa using hk);refine⟨c,i++j1,j2,j3,by simpa using e1,by simp,e2,e3,fun{H' t' c'} hl h3 FP=> ?_⟩;simp only[List.set_cons_succ];rw[bY];exact⟨_,_,i,j1++(j2++j3),rfl,by simp,h0,h1.eF fun x hx=>FP x (.inl (by simp[hx])),e4 hl h3 fun x hx=>FP x (by rcases hx with hx|hx;exact .inl (by simp[hx]);exact .inr hx)⟩
theorem bY.snoc {H:List AO} {sz:Nat}:∀{rows:List (List TV)} {rs:List (List AV)} {ids:List Nat} {t:List TV} {c:List AV} {js:List Nat},bY H sz rows rs ids→c.length=sz→bj H t c js→bY H sz (rows++[t]) (rs++[c]) (ids++js)
  |[],rs,ids,t,c,js,h,hl,hc=>by
   rw[bY]at h;obtain⟨rfl,rfl⟩:=h;show bY H sz [t] [c] js;rw[bY]
   exact⟨c,[],js,[],rfl,by simp,hl,hc,by rw[bY];exact⟨rfl,rfl⟩⟩
  |row::rows,rs,ids,t,c,js,h,hl,hc=>by
   rw[bY]at h;obtain⟨r,pW,i,ks,rfl,rfl,h0,h1,h2⟩:=h;rw[List.cons_append,bY];exact⟨r,pW++[c],i,ks++js,rfl,by simp,h0,h1,bY.snoc h2 hl hc⟩
theorem Cj {α:Type} {l:List α} {k:Nat} {a:α} (h:l[k]?=some a):l.set k a=l:=by
 obtain⟨aF,he⟩:=List.getElem?_eq_some_iff.1 h;rw[<-he];exact List.set_getElem_self aF
end Go.AM
