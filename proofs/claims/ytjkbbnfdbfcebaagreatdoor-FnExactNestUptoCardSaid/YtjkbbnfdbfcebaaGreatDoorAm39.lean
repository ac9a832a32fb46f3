/- Owned trees that a call makes, laid at places that are kept for them. -/
import Derived.Test.YtjkbbnfdbfcebaaGreatDoorAm38
set_option linter.all false
namespace Go.AM
variable {P:Program}
mutual
def nT:TV->Nat
 | .p _=>0
 | .s _ rows=>nK rows
def nK:List (List TV)->Nat
 |[]=>0
 |r::l=>1+(nC r+nR l)
def nC:List TV->Nat
 |[]=>0
 |t::l=>nT t+nC l
def nR:List (List TV)->Nat
 |[]=>0
 |r::l=>nC r+nR l
end
mutual
def ov:TV->List Nat->AV×List AO
 | .p x,_=>(.p x,[])
 | .s sz rows,ps=>tQ sz rows ps
def tQ (sz:Nat):List (List TV)->List Nat->AV×List AO
 |[],_=>(.p .nl,[])
 |r::l,[]=>(.p .nl,[])
 |r::l,p::ps=>(.gs p 0 0 (l.length+1),.rows sz 0 ((ed r (ps.take (nC r))).1::(iE l (ps.drop (nC r))).1)::((ed r (ps.take (nC r))).2++(iE l (ps.drop (nC r))).2))
def ed:List TV->List Nat->List AV×List AO
 |[],_=>([],[])
 |t::l,ps=>((ov t (ps.take (nT t))).1::(ed l (ps.drop (nT t))).1,(ov t (ps.take (nT t))).2++(ed l (ps.drop (nT t))).2)
def iE:List (List TV)->List Nat->List (List AV)×List AO
 |[],_=>([],[])
 |r::l,ps=>((ed r (ps.take (nC r))).1::(iE l (ps.drop (nC r))).1,(ed r (ps.take (nC r))).2++(iE l (ps.drop (nC r))).2)
end
theorem Eg:∀(l:List (List TV)) (ps:List Nat),(iE l ps).1.length=l.length
 |[],ps=>by rw[iE];rfl
 |r::l,ps=>by rw[iE];simp[Eg l]
theorem uX:∀(l:List TV) (ps:List Nat),(ed l ps).1.length=l.length
 |[],ps=>by rw[ed];rfl
 |r::l,ps=>by rw[ed];simp[uX l]
mutual
theorem B7:∀(t:TV) (ps:List Nat),ps.length=nT t->(ov t ps).2.length=nT t
 | .p x,ps,h=>by rw[ov,nT];rfl
 | .s sz rows,ps,h=>by rw[ov,nT]at *;exact Qj sz rows ps h
theorem Qj (sz:Nat):∀(l:List (List TV)) (ps:List Nat),ps.length=nK l→(tQ sz l ps).2.length=nK l
  |[],ps,h=>by rw[tQ,nK];rfl
  |r::l,[],h=>by rw[nK]at h;simp at h;omega
  |r::l,p::ps,h=>by
   rw[nK]at h⊢;have h1:=nA r (ps.take (nC r)) (by simp at h⊢;omega);have h2:=Hj l (ps.drop (nC r)) (by simp at h⊢;omega);rw[tQ];simp only[List.length_cons,List.length_append,h1,h2];omega
theorem nA:∀(l:List TV) (ps:List Nat),ps.length=nC l→(ed l ps).2.length=nC l
  |[],ps,h=>by rw[ed,nC];rfl
  |t::l,ps,h=>by
   rw[nC]at h⊢;have h1:=B7 t (ps.take (nT t)) (by simp;omega);have h2:=nA l (ps.drop (nT t)) (by simp;omega);rw[ed];simp only[List.length_append,h1,h2]
theorem Hj:∀(l:List (List TV)) (ps:List Nat),ps.length=nR l→(iE l ps).2.length=nR l
  |[],ps,h=>by rw[iE,nR];rfl
  |r::l,ps,h=>by
   rw[nR]at h⊢;have h1:=nA r (ps.take (nC r)) (by simp;omega);have h2:=Hj l (ps.drop (nC r)) (by simp;omega);rw[iE];simp only[List.length_append,h1,h2]
end
def At (X:List AO) (ps:List Nat) (os:List AO):Prop:=∀(k p:Nat) (o:AO),ps[k]?=some p->os[k]?=some o->X[p]?=some o
theorem At.left {X:List AO} {ps:List Nat} {a b:List AO} {n:Nat} (h:At X ps (a++b)) (ha:a.length=n):At X (ps.take n) a:=fun k p o hk ho=>by
 have hl:=(List.getElem?_eq_some_iff.1 ho).1;rw[List.getElem?_take_of_lt (by omega)]at hk;exact h k p o hk (by rw[List.getElem?_append_left hl];exact ho)
theorem At.right {X:List AO} {ps:List Nat} {a b:List AO} {n:Nat} (h:At X ps (a++b)) (ha:a.length=n):At X (ps.drop n) b:=fun k p o hk ho=>by
 rw[List.getElem?_drop]at hk;exact h (n+k) p o hk (by rw[List.getElem?_append_right (by omega)];rw[<-ho];congr 1;omega)
mutual
def Qk:TV->Prop
 | .p _=>True
 | .s sz rows=>pS sz rows
def mM:List TV->Prop
 |[]=>True
 |t::l=>Qk t/\mM l
def pS (sz:Nat):List (List TV)->Prop
 |[]=>True
 |r::l=>r.length=sz/\mM r/\pS sz l
end
mutual
theorem NF:∀(t:TV) (ps:List Nat) (X:List AO),Qk t->ps.length=nT t->At X ps (ov t ps).2->ib X t (ov t ps).1 ps
 | .p x,ps,X,hw,h,hg=>by rw[nT]at h;rw[ov,ib];exact⟨rfl,List.length_eq_zero_iff.1 h⟩
 | .s sz rows,ps,X,hw,h,hg=>by rw[nT]at h;rw[Qk]at hw;rw[ov]at *;exact NG sz rows ps X hw h hg
theorem NG (sz:Nat):∀(l:List (List TV)) (ps:List Nat) (X:List AO),pS sz l→ps.length=nK l→At X ps (tQ sz l ps).2→ib X (.s sz l) (tQ sz l ps).1 ps
  |[],ps,X,hw,h,hg=>by rw[nK]at h;rw[tQ,ib];exact .inl ⟨rfl,rfl,List.length_eq_zero_iff.1 h⟩
  |r::l,[],X,hw,h,hg=>by rw[nK]at h;simp at h;omega
  |r::l,p::ps,X,hw,h,hg=>by
   rw[nK]at h;rw[pS]at hw;rw[tQ]at *;have h1:(ed r (ps.take (nC r))).2.length=nC r:=nA r (ps.take (nC r)) (by simp at h⊢;omega);have hp:=hg 0 p _ rfl rfl;have hr:At X ps ((ed r (ps.take (nC r))).2++(iE l (ps.drop (nC r))).2):=fun k q o hk ho=>hg (k+1) q o (by simpa using hk) (by simpa using ho)
   have k1:=uY r (ps.take (nC r)) X hw.2.1 (by simp at h⊢;omega) (hr.left h1);have k2:=Eh sz l (ps.drop (nC r)) X hw.2.2 (by simp at h⊢;omega) (hr.right h1);rw[ib];refine .inr ⟨p,0,(ed r (ps.take (nC r))).1::(iE l (ps.drop (nC r))).1,ps,by simp[Eg],rfl,hp, ?_⟩;rw[dk];exact⟨_,_,_,_,rfl,(List.take_append_drop _ _).symm,by rw[uX];exact hw.1,k1,k2⟩
theorem uY:∀(l:List TV) (ps:List Nat) (X:List AO),mM l→ps.length=nC l→At X ps (ed l ps).2→bI X l (ed l ps).1 ps
  |[],ps,X,hw,h,hg=>by rw[nC]at h;rw[ed,bI];exact⟨rfl,List.length_eq_zero_iff.1 h⟩
  |t::l,ps,X,hw,h,hg=>by
   rw[nC]at h;rw[mM]at hw;rw[ed]at *;have h1:(ov t (ps.take (nT t))).2.length=nT t:=B7 t _ (by simp;omega);have k1:=NF t (ps.take (nT t)) X hw.1 (by simp;omega) (At.left hg h1);have k2:=uY l (ps.drop (nT t)) X hw.2 (by simp;omega) (At.right hg h1);rw[bI];exact⟨_,_,_,_,rfl,(List.take_append_drop _ _).symm,k1,k2⟩
theorem Eh (sz:Nat):∀(l:List (List TV)) (ps:List Nat) (X:List AO),pS sz l→ps.length=nR l→At X ps (iE l ps).2→dk X sz l (iE l ps).1 ps
  |[],ps,X,hw,h,hg=>by rw[nR]at h;rw[iE,dk];exact⟨rfl,List.length_eq_zero_iff.1 h⟩
  |r::l,ps,X,hw,h,hg=>by
   rw[nR]at h;rw[pS]at hw;rw[iE]at *;have h1:(ed r (ps.take (nC r))).2.length=nC r:=nA r _ (by simp;omega);have k1:=uY r (ps.take (nC r)) X hw.2.1 (by simp;omega) (At.left hg h1);have k2:=Eh sz l (ps.drop (nC r)) X hw.2.2 (by simp;omega) (At.right hg h1);rw[dk];exact⟨_,_,_,_,rfl,(List.take_append_drop _ _).symm,by rw[uX];exact hw.1,k1,k2⟩
end
mutual
theorem ib.nle {H:List AO}:∀{t:TV} {a:AV} {ids:List Nat},ib H t a ids→nT t≤ids.length
  | .p x,a,ids,h=>by rw[nT];omega
  | .s sz rows,a,ids,h=>by
    rw[ib]at h;rw[nT];rcases h with⟨rfl,_,_⟩|⟨id,ver,rs,js,rfl,rfl,h1,h2⟩
    · rw[nK];omega
    · have :=h2.Mz
      cases rows with
      |nil=>rw[nK];omega
      |cons r l=>rw[nK];rw[nR]at this;simp;omega
theorem bI.Ei {H:List AO}:∀{ts:List TV} {cs:List AV} {ids:List Nat},bI H ts cs ids→nC ts≤ids.length
  |[],cs,ids,h=>by rw[nC];omega
  |t::ts,cs,ids,h=>by
   rw[bI]at h;obtain⟨a,gG,i,js,rfl,rfl,h1,h2⟩:=h;have :=h1.nle;have :=h2.Ei;rw[nC];simp;omega
theorem dk.Mz {H:List AO} {sz:Nat}:∀{rows:List (List TV)} {rs:List (List AV)} {ids:List Nat},dk H sz rows rs ids→nR rows≤ids.length
  |[],rs,ids,h=>by rw[nR];omega
  |row::rows,rs,ids,h=>by
   rw[dk]at h;obtain⟨r,rM,i,js,rfl,rfl,h0,h1,h2⟩:=h;have :=h1.Ei;have :=h2.Mz;rw[nR];simp;omega
end
def AS (θ:Th) (n:Nat) (vr:Nat->Nat) (z:List (Nat×Nat)):Th:=fun i v=>match z.find? (fun q=>q.1==i)with
 |some q=>if v=0 then θ q.2 (vr q.2)else .no
 |none=>if i<n then θ i v else .no
theorem Ej:∀{ps ids:List Nat} {p id:Nat},ps.Nodup→(p,id)∈ps.zip ids→(ps.zip ids).find? (fun q=>q.1==p)=some (p,id)
  |[],ids,p,id,_,h=>by simp at h
  |q::ps,[],p,id,_,h=>by simp at h
  |q::ps,j::ids,p,id,hn,h=>by
   rw[List.zip_cons_cons]at h⊢;rcases List.mem_cons.1 h with e|h
   · cases e;simp
   · have cX:q≠p:=by rintro rfl;exact(List.nodup_cons.1 hn).1 (List.of_mem_zip h).1
     rw[List.find?_cons_of_neg (by simpa using cX)];exact Ej (List.nodup_cons.1 hn).2 h
theorem Ek {ps ids:List Nat} {i:Nat} (h:i∉ps):(ps.zip ids).find? (fun q=>q.1==i)=none:=by
 rw[List.find?_eq_none];rintro⟨a,b⟩ hm;have:=(List.of_mem_zip hm).1;simp;rintro rfl;exact h this
theorem rT {α:Type} {ps:List Nat} {i js:List α} {n:Nat} (h:i.length=n) (hl:n<=ps.length):ps.zip (i++js)=(ps.take n).zip i++(ps.drop n).zip js:=by
 conv=>lhs;rw[<-List.take_append_drop n ps]
 exact List.zip_append (by simp;omega)
theorem Hk {α:Type} {i js:List Nat} {a b:List α} (h:i.length=a.length):(i++js).zip (a++b)=i.zip a++js.zip b:=List.zip_append h
section
variable {θ:Th} {W:Im} {X:List AO} {n:Nat} {vr:Nat->Nat} {z:List (Nat×Nat)}
theorem NH (pT:∀(id sz ver:Nat) rs,X[id]?=some (.rows sz ver rs)→vr id=ver) {t:TV} {a:AV} {ids ps:List Nat} (h:ib X t a ids) (hl:ids.length=nT t) (hp:ps.length=nT t) (hz:∀q∈ps.zip ids,z.find? (fun x=>x.1==q.1)=some q):
    ∀v,bc θ W a v→bc (AS θ n vr z) W (ov t ps).1 v:=by
  intro v hv
  cases t with
  |p x=>rw[ib]at h;rw[h.1]at hv;rw[ov];exact .p _ _ hv.fC
  |s sz rows=>
   rw[ib]at h;rw[nT]at hl hp;rw[ov];rcases h with⟨rfl,rfl,rfl⟩|⟨id,ver,rs,js,rfl,rfl,h1,h2⟩
   · rw[tQ];exact .p _ _ hv.fC
   · cases rows with
     |nil=>rw[nK]at hl;simp at hl
     |cons r l=>
      cases ps with
      |nil=>rw[nK]at hp;simp at hp;omega
      |cons p ps=>
       have hf:=hz (p,id) (by simp)
       have e0:AS θ n vr z p 0=θ id ver:=by
         unfold AS;rw[hf];simp only[if_true,pT _ _ _ _ h1]
       have hlen:=h2.len;rw[tQ];simp only[List.length_cons]at hlen;rw[hlen]at hv
       cases hv with
       |ea _ _ _ _ a cap hd hn hm=>exact .ea _ _ _ _ a cap (e0.trans hd) hn hm
       |gs _ _ _ _ b cP tot o cap hd hn hm hc ho h0=>exact .gs _ _ _ _ b cP tot o cap (e0.trans hd) hn hm hc ho h0
theorem zh (pT:∀(id sz ver:Nat) rs,X[id]?=some (.rows sz ver rs)→vr id=ver):∀{l:List TV} {cs:List AV} {ids ps:List Nat},bI X l cs ids→ids.length=nC l→ps.length=nC l→(∀q∈ps.zip ids,z.find? (fun x=>x.1==q.1)=some q)→
    (ed l ps).1.length=cs.length∧∀(j:Nat) c c',cs[j]?=some c→(ed l ps).1[j]?=some c'→∀v,bc θ W c v→bc (AS θ n vr z) W c' v
  |[],cs,ids,ps,h,_,_,_ =>by
   rw[bI]at h;rw[ed,h.1]
   exact⟨rfl,fun j c c' hc=>by simp at hc⟩
  |t::l,cs,ids,ps,h,hl,hp,hz=>by
   rw[bI]at h;obtain⟨a,gG,i,js,rfl,rfl,h1,h2⟩:=h;have g1:=h1.nle;have g2:=h2.Ei;rw[nC]at hl hp;simp at hl;rw[rT (n:=nT t) (by omega) (by omega)]at hz;have r1:=NH (θ:=θ) (W:=W) (n:=n) pT h1 (by omega) (ps:=ps.take (nT t)) (by simp;omega) (fun q hq=>hz q (by simp[hq]));obtain⟨k1,k2⟩:=zh pT h2 (by omega) (ps:=ps.drop (nT t)) (by simp;omega) (fun q hq=>hz q (by simp[hq]));rw[ed];refine⟨by simp[k1],fun j c c' hc kM=> ?_⟩
   cases j with
   |zero=>simp at hc kM;subst hc kM;exact r1
   |succ j=>exact k2 j c c' (by simpa using hc) (by simpa using kM)
theorem El (pT:∀(id sz ver:Nat) rs,X[id]?=some (.rows sz ver rs)→vr id=ver) {sz:Nat}:∀{l:List (List TV)} {rs:List (List AV)} {ids ps:List Nat},dk X sz l rs ids→ids.length=nR l→ps.length=nR l→(∀q∈ps.zip ids,z.find? (fun x=>x.1==q.1)=some q)→
    (iE l ps).1.length=rs.length∧∀(i:Nat) r r',rs[i]?=some r→(iE l ps).1[i]?=some r'→r'.length=r.length∧∀(j:Nat) c c',r[j]?=some c→r'[j]?=some c'→∀v,bc θ W c v→bc (AS θ n vr z) W c' v
  |[],rs,ids,ps,h,_,_,_ =>by
   rw[dk]at h;rw[iE,h.1]
   exact⟨rfl,fun j c c' hc=>by simp at hc⟩
  |t::l,rs,ids,ps,h,hl,hp,hz=>by
   rw[dk]at h;obtain⟨a,gG,i,js,rfl,rfl,h0,h1,h2⟩:=h;have g1:=h1.Ei;have g2:=h2.Mz;rw[nR]at hl hp;simp at hl;rw[rT (n:=nC t) (by omega) (by omega)]at hz;obtain⟨r0,r1⟩:=zh (θ:=θ) (W:=W) (n:=n) pT h1 (by omega) (ps:=ps.take (nC t)) (by simp;omega) (fun q hq=>hz q (by simp[hq]));obtain⟨k1,k2⟩:=El pT h2 (by omega) (ps:=ps.drop (nC t)) (by simp;omega) (fun q hq=>hz q (by simp[hq]));rw[iE];refine⟨by simp[k1],fun j c c' hc kM=> ?_⟩
   cases j with
   |zero=>simp at hc kM;subst hc kM;exact⟨r0,r1⟩
   |succ j=>exact k2 j c c' (by simpa using hc) (by simpa using kM)
def Jl (θ:Th) (W:Im) (X:List AO) (n:Nat) (vr:Nat->Nat) (z:List (Nat×Nat)) (id:Nat) (o:AO):Prop:=∃(sz ver:Nat) (rs rM:List (List AV)),X[id]?=some (.rows sz ver rs)/\o=.rows sz 0 rM/\rM.length=rs.length/\
 ∀(i:Nat) r r',rs[i]?=some r->rM[i]?=some r'->r'.length=r.length/\∀(j:Nat) c c',r[j]?=some c->r'[j]?=some c'->∀v,bc θ W c v->bc (AS θ n vr z) W c' v
mutual
theorem NI (pT:∀(id sz ver:Nat) rs,X[id]?=some (.rows sz ver rs)→vr id=ver):∀{t:TV} {a:AV} {ids ps:List Nat},ib X t a ids→ids.length=nT t→ps.length=nT t→(∀q∈ps.zip ids,z.find? (fun x=>x.1==q.1)=some q)→∀q∈ids.zip (ov t ps).2,Jl θ W X n vr z q.1 q.2
  | .p x,a,ids,ps,h,hl,hp,hz=>by rw[ov];simp
  | .s sz rows,a,ids,ps,h,hl,hp,hz=>by
    rw[ib]at h;rw[nT]at hl hp;rw[ov];rcases h with⟨rfl,rfl,rfl⟩|⟨id,ver,rs,js,rfl,rfl,h1,h2⟩
    · simp
    · cases rows with
      |nil=>rw[nK]at hl;simp at hl
      |cons r l=>
       cases ps with
       |nil=>rw[nK]at hp;simp at hp;omega
       |cons p ps=>
        rw[nK]at hl hp;rw[tQ];simp at hl hp;have hz':∀q∈ps.zip js,z.find? (fun x=>x.1==q.1)=some q:=fun q hq=>hz q (by simp[hq])
        have e:(iE (r::l) ps)=((ed r (ps.take (nC r))).1::(iE l (ps.drop (nC r))).1,(ed r (ps.take (nC r))).2++(iE l (ps.drop (nC r))).2):=by rw[iE]
        obtain⟨k1,k2⟩:=El (θ:=θ) (W:=W) (n:=n) pT h2 (by rw[nR];omega) (ps:=ps) (by rw[nR];omega) hz';have k3:=Em pT h2 (by rw[nR];omega) (ps:=ps) (by rw[nR];omega) hz';rw[e]at k1 k2 k3;rintro q hq;rw[List.zip_cons_cons]at hq;rcases List.mem_cons.1 hq with rfl|hq
        · exact⟨sz,ver,rs,_,h1,rfl,k1,k2⟩
        · exact k3 q hq
theorem zi (pT:∀(id sz ver:Nat) rs,X[id]?=some (.rows sz ver rs)→vr id=ver):∀{l:List TV} {cs:List AV} {ids ps:List Nat},bI X l cs ids→ids.length=nC l→ps.length=nC l→(∀q∈ps.zip ids,z.find? (fun x=>x.1==q.1)=some q)→∀q∈ids.zip (ed l ps).2,Jl θ W X n vr z q.1 q.2
  |[],cs,ids,ps,h,hl,hp,hz=>by rw[ed];simp
  |t::l,cs,ids,ps,h,hl,hp,hz=>by
   rw[bI]at h;obtain⟨a,gG,i,js,rfl,rfl,h1,h2⟩:=h;have g1:=h1.nle;have g2:=h2.Ei;rw[nC]at hl hp;simp at hl;rw[rT (n:=nT t) (by omega) (by omega)]at hz;have r1:=NI pT h1 (by omega) (ps:=ps.take (nT t)) (by simp;omega) (fun q hq=>hz q (by simp[hq]));have k1:=zi pT h2 (by omega) (ps:=ps.drop (nT t)) (by simp;omega) (fun q hq=>hz q (by simp[hq]));have we:=B7 t (ps.take (nT t)) (by simp;omega);rw[ed,Hk (by omega)];intro q hq;rcases List.mem_append.1 hq with hq|hq
   · exact r1 q hq
   · exact k1 q hq
theorem Em (pT:∀(id sz ver:Nat) rs,X[id]?=some (.rows sz ver rs)→vr id=ver) {sz:Nat}:∀{l:List (List TV)} {rs:List (List AV)} {ids ps:List Nat},dk X sz l rs ids→ids.length=nR l→ps.length=nR l→(∀q∈ps.zip ids,z.find? (fun x=>x.1==q.1)=some q)→∀q∈ids.zip (iE l ps).2,Jl θ W X n vr z q.1 q.2
  |[],rs,ids,ps,h,hl,hp,hz=>by rw[iE];simp
  |t::l,rs,ids,ps,h,hl,hp,hz=>by
   rw[dk]at h;obtain⟨a,gG,i,js,rfl,rfl,h0,h1,h2⟩:=h;have g1:=h1.Ei;have g2:=h2.Mz;rw[nR]at hl hp;simp at hl;rw[rT (n:=nC t) (by omega) (by omega)]at hz;have r1:=zi pT h1 (by omega) (ps:=ps.take (nC t)) (by simp;omega) (fun q hq=>hz q (by simp[hq]));have k1:=Em pT h2 (by omega) (ps:=ps.drop (nC t)) (by simp;omega) (fun q hq=>hz q (by simp[hq]));have we:=nA t (ps.take (nC t)) (by simp;omega);rw[iE,Hk (by omega)];intro q hq;rcases List.mem_append.1 hq with hq|hq
   · exact r1 q hq
   · exact k1 q hq
end
end
theorem NJ {z:List (Nat×Nat)} {i:Nat} {q:Nat×Nat} (h:z.find? (fun x=>x.1==i)=some q):q∈z/\q.1=i:=
 ⟨List.mem_of_find?_eq_some h,by have:=List.find?_some h;simpa using this⟩
theorem Hl {α β:Type} {l:List α} {m:List β} {q:α×β} (h:q∈l.zip m):∃k:Nat,l[k]?=some q.1/\m[k]?=some q.2:=by
 obtain⟨k,hk⟩:=List.getElem?_of_mem h;rw[List.getElem?_zip_eq_some]at hk;exact⟨k,hk⟩
theorem Jm {l:List Nat} (h:l.Nodup) {j k:Nat} {a:Nat} (hj:l[j]?=some a) (hk:l[k]?=some a):j=k:=by
 have h1:=(List.getElem?_eq_some_iff.1 hj);have h2:=(List.getElem?_eq_some_iff.1 hk);obtain⟨l1,e1⟩:=h1;obtain⟨l2,e2⟩:=h2;exact(List.getElem_inj h).1 (e1.trans e2.symm)
theorem Jn {f:Nat} {args :List AV} {H Hc:List AO} {ts:List TV} {ps:List Nat}
    (h:aA P f args H (fun r H'=>∃cs ids G,r= .st cs∧H'=Hc++G∧bI H' ts cs ids∧ids.Nodup∧ids.length=nC ts∧∀i∈ids,H.length≤i)) (hlen:Hc.length=H.length)
    (Hh:∀(id:Nat) o,Hc[id]?=some o→∀c,sT c o→Tf c∨∃(jm:Nat) (o':AO),H[jm]?=some o'∧sT c o') (AP:ps.Nodup) (qz:ps.length=nC ts) (hp:∀i∈ps,H[i]?=some .iP∧Hc[i]?=some .iP):
    aA P f args H (aW (.st (ed ts ps).1) (ju Hc ps (ed ts ps).2)):=by
  refine⟨h.1,fun w θ W vs gm cR=> ?_⟩;refine(h.2 w θ W vs gm cR).mono ?_;rintro e w' ⟨v,r,H',bd,W',rfl,⟨cs,ids,G,rfl,rfl,ho,E2,Nh,hib⟩,oD,hv,ba⟩
  obtain⟨vr,pT⟩:∃vr:Nat→Nat,∀(id sz ver:Nat) rs,(Hc++G)[id]?=some (.rows sz ver rs)→vr id=ver:=
    ⟨fun id=>match(Hc++G)[id]?with|some (.rows _ ver _)=>ver|_ =>0,fun id sz ver rs h=>by simp only[h]⟩
  have hz:∀q∈ps.zip ids,(ps.zip ids).find? (fun x=>x.1==q.1)=some q:=fun q hq=>Ej AP hq
  obtain⟨c1,c2⟩:=zh (θ:=bd) (W:=W') (n:=H.length) pT ho Nh qz hz;have o1:=zi (θ:=bd) (W:=W') (n:=H.length) pT ho Nh qz hz;have we:=nA ts ps qz;have aax:∀i∈ps,i<Hc.length:=fun i hi=>bj (hp i hi).2
  generalize NK:ps.zip ids=z at hz c2 o1;generalize Eo:AS bd H.length vr z=xC at c2;have dh:∀{i v},i∉ps→i<H.length→xC i v=bd i v:=fun{i v} h1 h2=>by rw[←Eo,←NK];unfold AS;rw[Ek h1];simp[h2]
  have gH:∀{i v},i∉ps→¬i<H.length→xC i v= .no:=fun{i v} h1 h2=>by rw[←Eo,←NK];unfold AS;rw[Ek h1];simp[h2]
  have aay:∀{i v},i∈ps→bd i v= .no:=fun{i v} h1=>oD.obj i _ (ay (hp i h1).2 G) v
  have nx:∀{i v b s t},xC i v= .at b s t→(∃id,(i,id)∈z∧v=0∧bd id (vr id)= .at b s t)∨(i∉ps∧i<H.length∧bd i v= .at b s t):=by
    intro i v b s t hi;by_cases hm:i∈ps
    · rw[←Eo]at hi
      unfold AS at hi;split at hi
      · rename_i q hq
        obtain⟨q1,q2⟩:=NJ hq;split at hi
        · exact .inl ⟨q.2,by rw[←q2];exact q1,by assumption,hi⟩
        · cases hi
      · split at hi
        · rw[aay hm]at hi;cases hi
        · cases hi
    · by_cases hl:i<H.length
      · rw[dh hm hl]at hi;exact .inr ⟨hm,hl,hi⟩
      · rw[gH hm hl]at hi;cases hi
  have kU:∀b,gl xC b→gl bd b:=by
    rintro b ⟨i,v,s,t,hb⟩;rcases nx hb with⟨id,_,_,hb⟩|⟨_,_,hb⟩
    · exact⟨_,_,_,_,hb⟩
    · exact⟨_,_,_,_,hb⟩
  have aaz:∀{c:AV} {v:Value},bc (gY bd H.length) W' c v→bc xC W' c v:=fun hc=>hc.mono (fun _ _ _ h=>h) (fun i v hn=>by
    left;by_cases hl:i<H.length
    · rw[oP hl]at hn⊢
      exact dh (fun hm=>hn (aay hm)) hl
    · exact(hn (by simp[gY,hl])).elim)
  refine⟨v,_,ju Hc ps (ed ts ps).2,xC,W',rfl,⟨rfl,rfl⟩,⟨oD.kK, ?_, ?_,fun b hb=>oD.own b (kU b hb), ?_⟩, ?_,⟨ba.os,ba.tape,ba.output,ba.size,ba.gf,ba.kK,ba.old, ?_,fun b hb=>ba.fresh b (kU b hb)⟩⟩
  · intro i o hi
    by_cases hm:i∈ps
    · obtain⟨k,hk⟩:=List.getElem?_of_mem hm
      have Hn:=(List.getElem?_eq_some_iff.1 hk).1;have hko:(ed ts ps).2[k]?=some (ed ts ps).2[k]:=by simp
      have hg:=zg ps (ed ts ps).2 Hc k i _ AP aax hk hko;rw[hg]at hi;cases hi;have Nk:ids[k]?=some ids[k]:=by simp
      have BM:(ids[k],(ed ts ps).2[k])∈ids.zip (ed ts ps).2:=List.mem_of_getElem? (i:=k) (List.getElem?_zip_eq_some.2 ⟨Nk,hko⟩);have Ql:(i,ids[k])∈z:=by rw[←NK];exact List.mem_of_getElem? (i:=k) (List.getElem?_zip_eq_some.2 ⟨hk,Nk⟩)
      obtain⟨sz,ver,rs,rM,h1,h2,h3,h4⟩:=o1 _ BM;simp only at h1 h2;rw[h2]
      have e0:xC i 0=bd ids[k] ver:=by
        rw[←Eo];unfold AS;have :=hz _ Ql;simp only at this;rw[this];simp only[if_true,pT _ _ _ _ h1]
      rw[Eo]at h4;obtain⟨g1,g2,g3⟩:=oD.obj _ _ h1;refine⟨?_,fun v' yV=> ?_,fun v' yV=>by omega⟩
      · rcases g1 with⟨g1,g4⟩|⟨b,tot,ty,qC,g1,g4,g5,g6,g7,g8,g9⟩
        · left
          exact⟨e0.trans g1,by rw[g4]at h3;simpa using h3⟩
        · right
          refine⟨b,tot,ty,qC,e0.trans g1,g4,g5,by omega,fun r' hr'=> ?_,fun i' r' j c' v' a1 a2 a3=> ?_,g9⟩
          · obtain⟨i',iQ⟩:=List.getElem?_of_mem hr'
            have iy:i'<rs.length:=by rw[←h3];exact(List.getElem?_eq_some_iff.1 iQ).1
            rw[(h4 i' rs[i'] r' (by simp[iy]) iQ).1];exact g7 _ (List.getElem_mem iy)
          · have iy:i'<rs.length:=by rw[←h3];exact(List.getElem?_eq_some_iff.1 a1).1
            have hri:rs[i']?=some rs[i']:=by simp[iy]
            obtain⟨q1,q2⟩:=h4 i' _ r' hri a1;have hj:j<rs[i'].length:=by rw[←q1];exact(List.getElem?_eq_some_iff.1 a2).1
            exact q2 j rs[i'][j] c' (by simp[hj]) a2 v' (g8 i' _ j _ v' hri (by simp[hj]) a3)
      · rw[←Eo]
        unfold AS;have :=hz _ Ql;simp only at this;rw[this];simp only[show ¬v'=0 by omega,if_false]
    · rw[o8 ps _ _ _ hm]at hi
      have aj:=(List.getElem?_eq_some_iff.1 hi).1;have hO:=oD.obj i o (ay hi G)
      have key:∀c,sT c o→∀v,bc bd W' c v→bc xC W' c v:=by
        intro c hc v hv;rcases Hh i o hi c hc with hk|⟨jm,o',I0,qY⟩
        · exact hk _ _ _ _ hv
        · obtain⟨v1,v2⟩:=(gm.obj jm o' I0).val
          cases o' with
          |var cs=>obtain⟨v0,h0⟩:=v1 cs rfl c qY;exact aaz (qW gm.out h0 hv)
          |rows sz ver rs=>obtain⟨r,hr,Qi⟩:=qY;obtain⟨v0,h0⟩:=v2 sz ver rs rfl r hr c Qi;exact aaz (qW gm.out h0 hv)
          |dead=>exact qY.elim
          |iP=>exact qY.elim
          |td b v=>exact qY.elim
          |ES b v o=>exact qY.elim
      exact hO.cells (fun ver=>dh hm (by omega)) (fun cs ec c hc v hv=>key c (by subst ec;exact hc) v hv) (fun sz ver rs ec r hr c hc v hv=>key c (by subst ec;exact⟨r,hr,hc⟩) v hv)
  · intro i v hi
    rw[kB]at hi;exact gH (fun hm=>by have :=aax i hm;omega) (by omega)
  · intro b i v s t i' v' s' t' h1 h2
    rcases nx h1 with⟨id,a1,a2,g1⟩|⟨a1,a2,g1⟩<;>rcases nx h2 with⟨jm,a3,a4,g2⟩|⟨a3,a4,g2⟩
    · have e:=(oD.inj b _ _ _ _ _ _ _ _ g1 g2).1
      subst e;rw[←NK]at a1 a3;obtain⟨k,k1,k2⟩:=Hl a1;obtain⟨k',k3,k4⟩:=Hl a3;have :=Jm E2 k2 k4;subst this;simp only at k1 k3;rw[k1]at k3;cases k3;exact⟨rfl,a2.trans a4.symm⟩
    · have e:=(oD.inj b _ _ _ _ _ _ _ _ g1 g2).1
      rw[←NK]at a1;have :=hib _ (List.of_mem_zip a1).2;omega
    · have e:=(oD.inj b _ _ _ _ _ _ _ _ g1 g2).1
      rw[←NK]at a3;have :=hib _ (List.of_mem_zip a3).2;omega
    · exact oD.inj b _ _ _ _ _ _ _ _ g1 g2
  · cases hv with
    |st _ us hs hc h1=>
     refine .st _ us (by omega) (fun j c u hj hu=> ?_) h1;have me:j<cs.length:=by rw[←c1];exact(List.getElem?_eq_some_iff.1 hj).1
     exact c2 j cs[j] c (by simp[me]) hj u (hc j cs[j] u (by simp[me]) hu)
  · intro i v hn
    have hi:i<H.length:=by
      rcases Nat.lt_or_ge i H.length with h|h
      · exact h
      · exact(hn (gm.out i v h)).elim
    have hip:i∉ps:=fun hm=>hn (gm.obj i _ (hp i hm).1 v)
    rw[dh hip hi];exact ba.th i v hn
end Go.AM
