/- Owned trees that a call makes, laid at places that are kept for them. -/
import Derived.Test.YteilijfligofdaaGreatDoorAm38
set_option linter.all false
namespace Go.AM
variable {P:Program}
mutual
def nT:TV->Nat
 | .p _=>0
 | .s _ rows=>nK rows
def nK:List (List TV)->Nat
 |[]=>0
 |r::l=>1+(nC r+nR l)
def nC:List TV->Nat
 |[]=>0
 |t::l=>nT t+nC l
def nR:List (List TV)->Nat
 |[]=>0
 |r::l=>nC r+nR l
end
mutual
def oI:TV->List Nat->AV×List AO
 | .p x,_=>(.p x,[])
 | .s sz rows,ps=>ua sz rows ps
def ua (sz:Nat):List (List TV)->List Nat->AV×List AO
 |[],_=>(.p .nl,[])
 |r::l,[]=>(.p .nl,[])
 |r::l,p::ps=>(.gs p 0 0 (l.length+1),.rows sz 0 ((dS r (ps.take (nC r))).1::(iH l (ps.drop (nC r))).1)::((dS r (ps.take (nC r))).2++(iH l (ps.drop (nC r))).2))
def dS:List TV->List Nat->List AV×List AO
 |[],_=>([],[])
 |t::l,ps=>((oI t (ps.take (nT t))).1::(dS l (ps.drop (nT t))).1,(oI t (ps.take (nT t))).2++(dS l (ps.drop (nT t))).2)
def iH:List (List TV)->List Nat->List (List AV)×List AO
 |[],_=>([],[])
 |r::l,ps=>((dS r (ps.take (nC r))).1::(iH l (ps.drop (nC r))).1,(dS r (ps.take (nC r))).2++(iH l (ps.drop (nC r))).2)
end
theorem EA:∀(l:List (List TV)) (ps:List Nat),(iH l ps).1.length=l.length
 |[],ps=>by rw[iH];rfl
 |r::l,ps=>by rw[iH];simp[EA l]
theorem vu:∀(l:List TV) (ps:List Nat),(dS l ps).1.length=l.length
 |[],ps=>by rw[dS];rfl
 |r::l,ps=>by rw[dS];simp[vu l]
mutual
theorem Cm:∀(t:TV) (ps:List Nat),ps.length=nT t->(oI t ps).2.length=nT t
 | .p x,ps,h=>by rw[oI,nT];rfl
 | .s sz rows,ps,h=>by rw[oI,nT]at *;exact Rf sz rows ps h
theorem Rf (sz:Nat):∀(l:List (List TV)) (ps:List Nat),ps.length=nK l→(ua sz l ps).2.length=nK l
  |[],ps,h=>by rw[ua,nK];rfl
  |r::l,[],h=>by rw[nK]at h;simp at h;omega
  |r::l,p::ps,h=>by
   rw[nK]at h⊢;have h1:=nO r (ps.take (nC r)) (by simp at h⊢;omega);have h2:=HB l (ps.drop (nC r)) (by simp at h⊢;omega);rw[ua];simp only[List.length_cons,List.length_append,h1,h2];omega
theorem nO:∀(l:List TV) (ps:List Nat),ps.length=nC l→(dS l ps).2.length=nC l
  |[],ps,h=>by rw[dS,nC];rfl
  |t::l,ps,h=>by
   rw[nC]at h⊢;have h1:=Cm t (ps.take (nT t)) (by simp;omega);have h2:=nO l (ps.drop (nT t)) (by simp;omega);rw[dS];simp only[List.length_append,h1,h2]
theorem HB:∀(l:List (List TV)) (ps:List Nat),ps.length=nR l→(iH l ps).2.length=nR l
  |[],ps,h=>by rw[iH,nR];rfl
  |r::l,ps,h=>by
   rw[nR]at h⊢;have h1:=nO r (ps.take (nC r)) (by simp;omega);have h2:=HB l (ps.drop (nC r)) (by simp;omega);rw[iH];simp only[List.length_append,h1,h2]
end
def At (X:List AO) (ps:List Nat) (os:List AO):Prop:=∀(k p:Nat) (o:AO),ps[k]?=some p->os[k]?=some o->X[p]?=some o
theorem At.left {X:List AO} {ps:List Nat} {a b:List AO} {n:Nat} (h:At X ps (a++b)) (ha:a.length=n):At X (ps.take n) a:=fun k p o hk ho=>by
 have hl:=(List.getElem?_eq_some_iff.1 ho).1;rw[List.getElem?_take_of_lt (by omega)]at hk;exact h k p o hk (by rw[List.getElem?_append_left hl];exact ho)
theorem At.right {X:List AO} {ps:List Nat} {a b:List AO} {n:Nat} (h:At X ps (a++b)) (ha:a.length=n):At X (ps.drop n) b:=fun k p o hk ho=>by
 rw[List.getElem?_drop]at hk;exact h (n+k) p o hk (by rw[List.getElem?_append_right (by omega)];rw[<-ho];congr 1;omega)
mutual
def Rh:TV->Prop
 | .p _=>True
 | .s sz rows=>pZ sz rows
def mT:List TV->Prop
 |[]=>True
 |t::l=>Rh t/\mT l
def pZ (sz:Nat):List (List TV)->Prop
 |[]=>True
 |r::l=>r.length=sz/\mT r/\pZ sz l
end
mutual
theorem OC:∀(t:TV) (ps:List Nat) (X:List AO),Rh t->ps.length=nT t->At X ps (oI t ps).2->fq X t (oI t ps).1 ps
 | .p x,ps,X,hw,h,hg=>by rw[nT]at h;rw[oI,fq];exact⟨rfl,List.length_eq_zero_iff.1 h⟩
 | .s sz rows,ps,X,hw,h,hg=>by rw[nT]at h;rw[Rh]at hw;rw[oI]at *;exact OD sz rows ps X hw h hg
theorem OD (sz:Nat):∀(l:List (List TV)) (ps:List Nat) (X:List AO),pZ sz l→ps.length=nK l→At X ps (ua sz l ps).2→fq X (.s sz l) (ua sz l ps).1 ps
  |[],ps,X,hw,h,hg=>by rw[nK]at h;rw[ua,fq];exact .inl ⟨rfl,rfl,List.length_eq_zero_iff.1 h⟩
  |r::l,[],X,hw,h,hg=>by rw[nK]at h;simp at h;omega
  |r::l,p::ps,X,hw,h,hg=>by
   rw[nK]at h;rw[pZ]at hw;rw[ua]at *;have h1:(dS r (ps.take (nC r))).2.length=nC r:=nO r (ps.take (nC r)) (by simp at h⊢;omega);have hp:=hg 0 p _ rfl rfl;have hr:At X ps ((dS r (ps.take (nC r))).2++(iH l (ps.drop (nC r))).2):=fun k q o hk ho=>hg (k+1) q o (by simpa using hk) (by simpa using ho)
   have k1:=vw r (ps.take (nC r)) X hw.2.1 (by simp at h⊢;omega) (hr.left h1);have k2:=EB sz l (ps.drop (nC r)) X hw.2.2 (by simp at h⊢;omega) (hr.right h1);rw[fq];refine .inr ⟨p,0,(dS r (ps.take (nC r))).1::(iH l (ps.drop (nC r))).1,ps,by simp[EA],rfl,hp, ?_⟩;rw[bY];exact⟨_,_,_,_,rfl,(List.take_append_drop _ _).symm,by rw[vu];exact hw.1,k1,k2⟩
theorem vw:∀(l:List TV) (ps:List Nat) (X:List AO),mT l→ps.length=nC l→At X ps (dS l ps).2→bj X l (dS l ps).1 ps
  |[],ps,X,hw,h,hg=>by rw[nC]at h;rw[dS,bj];exact⟨rfl,List.length_eq_zero_iff.1 h⟩
  |t::l,ps,X,hw,h,hg=>by
   rw[nC]at h;rw[mT]at hw;rw[dS]at *;have h1:(oI t (ps.take (nT t))).2.length=nT t:=Cm t _ (by simp;omega);have k1:=OC t (ps.take (nT t)) X hw.1 (by simp;omega) (At.left hg h1);have k2:=vw l (ps.drop (nT t)) X hw.2 (by simp;omega) (At.right hg h1);rw[bj];exact⟨_,_,_,_,rfl,(List.take_append_drop _ _).symm,k1,k2⟩
theorem EB (sz:Nat):∀(l:List (List TV)) (ps:List Nat) (X:List AO),pZ sz l→ps.length=nR l→At X ps (iH l ps).2→bY X sz l (iH l ps).1 ps
  |[],ps,X,hw,h,hg=>by rw[nR]at h;rw[iH,bY];exact⟨rfl,List.length_eq_zero_iff.1 h⟩
  |r::l,ps,X,hw,h,hg=>by
   rw[nR]at h;rw[pZ]at hw;rw[iH]at *;have h1:(dS r (ps.take (nC r))).2.length=nC r:=nO r _ (by simp;omega);have k1:=vw r (ps.take (nC r)) X hw.2.1 (by simp;omega) (At.left hg h1);have k2:=EB sz l (ps.drop (nC r)) X hw.2.2 (by simp;omega) (At.right hg h1);rw[bY];exact⟨_,_,_,_,rfl,(List.take_append_drop _ _).symm,by rw[vu];exact hw.1,k1,k2⟩
end
mutual
theorem fq.nle {H:List AO}:∀{t:TV} {a:AV} {ids:List Nat},fq H t a ids→nT t≤ids.length
  | .p x,a,ids,h=>by rw[nT];omega
  | .s sz rows,a,ids,h=>by
    rw[fq]at h;rw[nT];rcases h with⟨rfl,_,_⟩|⟨id,ver,rs,js,rfl,rfl,h1,h2⟩
    · rw[nK];omega
    · have :=h2.M7
      cases rows with
      |nil=>rw[nK];omega
      |cons r l=>rw[nK];rw[nR]at this;simp;omega
theorem bj.EC {H:List AO}:∀{ts:List TV} {cs:List AV} {ids:List Nat},bj H ts cs ids→nC ts≤ids.length
  |[],cs,ids,h=>by rw[nC];omega
  |t::ts,cs,ids,h=>by
   rw[bj]at h;obtain⟨a,fP,i,js,rfl,rfl,h1,h2⟩:=h;have :=h1.nle;have :=h2.EC;rw[nC];simp;omega
theorem bY.M7 {H:List AO} {sz:Nat}:∀{rows:List (List TV)} {rs:List (List AV)} {ids:List Nat},bY H sz rows rs ids→nR rows≤ids.length
  |[],rs,ids,h=>by rw[nR];omega
  |row::rows,rs,ids,h=>by
   rw[bY]at h;obtain⟨r,pW,i,js,rfl,rfl,h0,h1,h2⟩:=h;have :=h1.EC;have :=h2.M7;rw[nR];simp;omega
end
def Ba (θ:Th) (n:Nat) (vr:Nat->Nat) (z:List (Nat×Nat)):Th:=fun i v=>match z.find? (fun q=>q.1==i)with
 |some q=>if v=0 then θ q.2 (vr q.2)else .no
 |none=>if i<n then θ i v else .no
theorem ED:∀{ps ids:List Nat} {p id:Nat},ps.Nodup→(p,id)∈ps.zip ids→(ps.zip ids).find? (fun q=>q.1==p)=some (p,id)
  |[],ids,p,id,_,h=>by simp at h
  |q::ps,[],p,id,_,h=>by simp at h
  |q::ps,j::ids,p,id,hn,h=>by
   rw[List.zip_cons_cons]at h⊢;rcases List.mem_cons.1 h with e|h
   · cases e;simp
   · have cK:q≠p:=by rintro rfl;exact(List.nodup_cons.1 hn).1 (List.of_mem_zip h).1
     rw[List.find?_cons_of_neg (by simpa using cK)];exact ED (List.nodup_cons.1 hn).2 h
theorem EE {ps ids:List Nat} {i:Nat} (h:i∉ps):(ps.zip ids).find? (fun q=>q.1==i)=none:=by
 rw[List.find?_eq_none];rintro⟨a,b⟩ hm;have:=(List.of_mem_zip hm).1;simp;rintro rfl;exact h this
theorem sg {α:Type} {ps:List Nat} {i js:List α} {n:Nat} (h:i.length=n) (hl:n<=ps.length):ps.zip (i++js)=(ps.take n).zip i++(ps.drop n).zip js:=by
 conv=>lhs;rw[<-List.take_append_drop n ps]
 exact List.zip_append (by simp;omega)
theorem HC {α:Type} {i js:List Nat} {a b:List α} (h:i.length=a.length):(i++js).zip (a++b)=i.zip a++js.zip b:=List.zip_append h
section
variable {θ:Th} {W:Im} {X:List AO} {n:Nat} {vr:Nat->Nat} {z:List (Nat×Nat)}
theorem OE (rk:∀(id sz ver:Nat) rs,X[id]?=some (.rows sz ver rs)→vr id=ver) {t:TV} {a:AV} {ids ps:List Nat} (h:fq X t a ids) (hl:ids.length=nT t) (hp:ps.length=nT t) (hz:∀q∈ps.zip ids,z.find? (fun x=>x.1==q.1)=some q):
    ∀v,bb θ W a v→bb (Ba θ n vr z) W (oI t ps).1 v:=by
  intro v hv
  cases t with
  |p x=>rw[fq]at h;rw[h.1]at hv;rw[oI];exact .p _ _ hv.gE
  |s sz rows=>
   rw[fq]at h;rw[nT]at hl hp;rw[oI];rcases h with⟨rfl,rfl,rfl⟩|⟨id,ver,rs,js,rfl,rfl,h1,h2⟩
   · rw[ua];exact .p _ _ hv.gE
   · cases rows with
     |nil=>rw[nK]at hl;simp at hl
     |cons r l=>
      cases ps with
      |nil=>rw[nK]at hp;simp at hp;omega
      |cons p ps=>
       have hf:=hz (p,id) (by simp)
       have e0:Ba θ n vr z p 0=θ id ver:=by
         unfold Ba;rw[hf];simp only[if_true,rk _ _ _ _ h1]
       have hlen:=h2.len;rw[ua];simp only[List.length_cons]at hlen;rw[hlen]at hv
       cases hv with
       |eS _ _ _ _ a cap hd hn hm=>exact .eS _ _ _ _ a cap (e0.trans hd) hn hm
       |gs _ _ _ _ b cX br o cap hd hn hm hc ho h0=>exact .gs _ _ _ _ b cX br o cap (e0.trans hd) hn hm hc ho h0
theorem zI (rk:∀(id sz ver:Nat) rs,X[id]?=some (.rows sz ver rs)→vr id=ver):∀{l:List TV} {cs:List AV} {ids ps:List Nat},bj X l cs ids→ids.length=nC l→ps.length=nC l→(∀q∈ps.zip ids,z.find? (fun x=>x.1==q.1)=some q)→
    (dS l ps).1.length=cs.length∧∀(j:Nat) c c',cs[j]?=some c→(dS l ps).1[j]?=some c'→∀v,bb θ W c v→bb (Ba θ n vr z) W c' v
  |[],cs,ids,ps,h,_,_,_ =>by
   rw[bj]at h;rw[dS,h.1]
   exact⟨rfl,fun j c c' hc=>by simp at hc⟩
  |t::l,cs,ids,ps,h,hl,hp,hz=>by
   rw[bj]at h;obtain⟨a,fP,i,js,rfl,rfl,h1,h2⟩:=h;have g1:=h1.nle;have g2:=h2.EC;rw[nC]at hl hp;simp at hl;rw[sg (n:=nT t) (by omega) (by omega)]at hz;have r1:=OE (θ:=θ) (W:=W) (n:=n) rk h1 (by omega) (ps:=ps.take (nT t)) (by simp;omega) (fun q hq=>hz q (by simp[hq]));obtain⟨k1,k2⟩:=zI rk h2 (by omega) (ps:=ps.drop (nT t)) (by simp;omega) (fun q hq=>hz q (by simp[hq]));rw[dS];refine⟨by simp[k1],fun j c c' hc lT=> ?_⟩
   cases j with
   |zero=>simp at hc lT;subst hc lT;exact r1
   |succ j=>exact k2 j c c' (by simpa using hc) (by simpa using lT)
theorem EF (rk:∀(id sz ver:Nat) rs,X[id]?=some (.rows sz ver rs)→vr id=ver) {sz:Nat}:∀{l:List (List TV)} {rs:List (List AV)} {ids ps:List Nat},bY X sz l rs ids→ids.length=nR l→ps.length=nR l→(∀q∈ps.zip ids,z.find? (fun x=>x.1==q.1)=some q)→
    (iH l ps).1.length=rs.length∧∀(i:Nat) r r',rs[i]?=some r→(iH l ps).1[i]?=some r'→r'.length=r.length∧∀(j:Nat) c c',r[j]?=some c→r'[j]?=some c'→∀v,bb θ W c v→bb (Ba θ n vr z) W c' v
  |[],rs,ids,ps,h,_,_,_ =>by
   rw[bY]at h;rw[iH,h.1]
   exact⟨rfl,fun j c c' hc=>by simp at hc⟩
  |t::l,rs,ids,ps,h,hl,hp,hz=>by
   rw[bY]at h;obtain⟨a,fP,i,js,rfl,rfl,h0,h1,h2⟩:=h;have g1:=h1.EC;have g2:=h2.M7;rw[nR]at hl hp;simp at hl;rw[sg (n:=nC t) (by omega) (by omega)]at hz;obtain⟨r0,r1⟩:=zI (θ:=θ) (W:=W) (n:=n) rk h1 (by omega) (ps:=ps.take (nC t)) (by simp;omega) (fun q hq=>hz q (by simp[hq]));obtain⟨k1,k2⟩:=EF rk h2 (by omega) (ps:=ps.drop (nC t)) (by simp;omega) (fun q hq=>hz q (by simp[hq]));rw[iH];refine⟨by simp[k1],fun j c c' hc lT=> ?_⟩
   cases j with
   |zero=>simp at hc lT;subst hc lT;exact⟨r0,r1⟩
   |succ j=>exact k2 j c c' (by simpa using hc) (by simpa using lT)
def JS (θ:Th) (W:Im) (X:List AO) (n:Nat) (vr:Nat->Nat) (z:List (Nat×Nat)) (id:Nat) (o:AO):Prop:=∃(sz ver:Nat) (rs pW:List (List AV)),X[id]?=some (.rows sz ver rs)/\o=.rows sz 0 pW/\pW.length=rs.length/\
 ∀(i:Nat) r r',rs[i]?=some r->pW[i]?=some r'->r'.length=r.length/\∀(j:Nat) c c',r[j]?=some c->r'[j]?=some c'->∀v,bb θ W c v->bb (Ba θ n vr z) W c' v
mutual
theorem OF (rk:∀(id sz ver:Nat) rs,X[id]?=some (.rows sz ver rs)→vr id=ver):∀{t:TV} {a:AV} {ids ps:List Nat},fq X t a ids→ids.length=nT t→ps.length=nT t→(∀q∈ps.zip ids,z.find? (fun x=>x.1==q.1)=some q)→∀q∈ids.zip (oI t ps).2,JS θ W X n vr z q.1 q.2
  | .p x,a,ids,ps,h,hl,hp,hz=>by rw[oI];simp
  | .s sz rows,a,ids,ps,h,hl,hp,hz=>by
    rw[fq]at h;rw[nT]at hl hp;rw[oI];rcases h with⟨rfl,rfl,rfl⟩|⟨id,ver,rs,js,rfl,rfl,h1,h2⟩
    · simp
    · cases rows with
      |nil=>rw[nK]at hl;simp at hl
      |cons r l=>
       cases ps with
       |nil=>rw[nK]at hp;simp at hp;omega
       |cons p ps=>
        rw[nK]at hl hp;rw[ua];simp at hl hp;have hz':∀q∈ps.zip js,z.find? (fun x=>x.1==q.1)=some q:=fun q hq=>hz q (by simp[hq])
        have e:(iH (r::l) ps)=((dS r (ps.take (nC r))).1::(iH l (ps.drop (nC r))).1,(dS r (ps.take (nC r))).2++(iH l (ps.drop (nC r))).2):=by rw[iH]
        obtain⟨k1,k2⟩:=EF (θ:=θ) (W:=W) (n:=n) rk h2 (by rw[nR];omega) (ps:=ps) (by rw[nR];omega) hz';have k3:=EG rk h2 (by rw[nR];omega) (ps:=ps) (by rw[nR];omega) hz';rw[e]at k1 k2 k3;rintro q hq;rw[List.zip_cons_cons]at hq;rcases List.mem_cons.1 hq with rfl|hq
        · exact⟨sz,ver,rs,_,h1,rfl,k1,k2⟩
        · exact k3 q hq
theorem zJ (rk:∀(id sz ver:Nat) rs,X[id]?=some (.rows sz ver rs)→vr id=ver):∀{l:List TV} {cs:List AV} {ids ps:List Nat},bj X l cs ids→ids.length=nC l→ps.length=nC l→(∀q∈ps.zip ids,z.find? (fun x=>x.1==q.1)=some q)→∀q∈ids.zip (dS l ps).2,JS θ W X n vr z q.1 q.2
  |[],cs,ids,ps,h,hl,hp,hz=>by rw[dS];simp
  |t::l,cs,ids,ps,h,hl,hp,hz=>by
   rw[bj]at h;obtain⟨a,fP,i,js,rfl,rfl,h1,h2⟩:=h;have g1:=h1.nle;have g2:=h2.EC;rw[nC]at hl hp;simp at hl;rw[sg (n:=nT t) (by omega) (by omega)]at hz;have r1:=OF rk h1 (by omega) (ps:=ps.take (nT t)) (by simp;omega) (fun q hq=>hz q (by simp[hq]));have k1:=zJ rk h2 (by omega) (ps:=ps.drop (nT t)) (by simp;omega) (fun q hq=>hz q (by simp[hq]));have wJ:=Cm t (ps.take (nT t)) (by simp;omega);rw[dS,HC (by omega)];intro q hq;rcases List.mem_append.1 hq with hq|hq
   · exact r1 q hq
   · exact k1 q hq
theorem EG (rk:∀(id sz ver:Nat) rs,X[id]?=some (.rows sz ver rs)→vr id=ver) {sz:Nat}:∀{l:List (List TV)} {rs:List (List AV)} {ids ps:List Nat},bY X sz l rs ids→ids.length=nR l→ps.length=nR l→(∀q∈ps.zip ids,z.find? (fun x=>x.1==q.1)=some q)→∀q∈ids.zip (iH l ps).2,JS θ W X n vr z q.1 q.2
  |[],rs,ids,ps,h,hl,hp,hz=>by rw[iH];simp
  |t::l,rs,ids,ps,h,hl,hp,hz=>by
   rw[bY]at h;obtain⟨a,fP,i,js,rfl,rfl,h0,h1,h2⟩:=h;have g1:=h1.EC;have g2:=h2.M7;rw[nR]at hl hp;simp at hl;rw[sg (n:=nC t) (by omega) (by omega)]at hz;have r1:=zJ rk h1 (by omega) (ps:=ps.take (nC t)) (by simp;omega) (fun q hq=>hz q (by simp[hq]));have k1:=EG rk h2 (by omega) (ps:=ps.drop (nC t)) (by simp;omega) (fun q hq=>hz q (by simp[hq]));have wJ:=nO t (ps.take (nC t)) (by simp;omega);rw[iH,HC (by omega)];intro q hq;rcases List.mem_append.1 hq with hq|hq
   · exact r1 q hq
   · exact k1 q hq
end
end
theorem OG {z:List (Nat×Nat)} {i:Nat} {q:Nat×Nat} (h:z.find? (fun x=>x.1==i)=some q):q∈z/\q.1=i:=
 ⟨List.mem_of_find?_eq_some h,by have:=List.find?_some h;simpa using this⟩
theorem HD {α β:Type} {l:List α} {m:List β} {q:α×β} (h:q∈l.zip m):∃k:Nat,l[k]?=some q.1/\m[k]?=some q.2:=by
 obtain⟨k,hk⟩:=List.getElem?_of_mem h;rw[List.getElem?_zip_eq_some]at hk;exact⟨k,hk⟩
theorem JT {l:List Nat} (h:l.Nodup) {j k:Nat} {a:Nat} (hj:l[j]?=some a) (hk:l[k]?=some a):j=k:=by
 have h1:=(List.getElem?_eq_some_iff.1 hj);have h2:=(List.getElem?_eq_some_iff.1 hk);obtain⟨l1,e1⟩:=h1;obtain⟨l2,e2⟩:=h2;exact(List.getElem_inj h).1 (e1.trans e2.symm)
theorem JU {f:Nat} {args :List AV} {H Hc:List AO} {ts:List TV} {ps:List Nat}
    (h:al P f args H (fun r H'=>∃cs ids G,r= .st cs∧H'=Hc++G∧bj H' ts cs ids∧ids.Nodup∧ids.length=nC ts∧∀i∈ids,H.length≤i)) (hlen:Hc.length=H.length)
    (HA:∀(id:Nat) o,Hc[id]?=some o→∀c,rj c o→Tf c∨∃(jC:Nat) (o':AO),H[jC]?=some o'∧rj c o') (A7:ps.Nodup) (qK:ps.length=nC ts) (hp:∀i∈ps,H[i]?=some .iQ∧Hc[i]?=some .iQ):
    al P f args H (aP (.st (dS ts ps).1) (jr Hc ps (dS ts ps).2)):=by
  refine⟨h.1,fun w θ W vs jI cY=> ?_⟩;refine(h.2 w θ W vs jI cY).mono ?_;rintro e w' ⟨v,r,H',aX,W',rfl,⟨cs,ids,G,rfl,rfl,ho,Fw,Oe,hib⟩,pY,hv,bc⟩
  obtain⟨vr,rk⟩:∃vr:Nat→Nat,∀(id sz ver:Nat) rs,(Hc++G)[id]?=some (.rows sz ver rs)→vr id=ver:=
    ⟨fun id=>match(Hc++G)[id]?with|some (.rows _ ver _)=>ver|_ =>0,fun id sz ver rs h=>by simp only[h]⟩
  have hz:∀q∈ps.zip ids,(ps.zip ids).find? (fun x=>x.1==q.1)=some q:=fun q hq=>ED A7 hq
  obtain⟨c1,c2⟩:=zI (θ:=aX) (W:=W') (n:=H.length) rk ho Oe qK hz;have o1:=zJ (θ:=aX) (W:=W') (n:=H.length) rk ho Oe qK hz;have wJ:=nO ts ps qK;have aaA:∀i∈ps,i<Hc.length:=fun i hi=>aT (hp i hi).2
  generalize OH:ps.zip ids=z at hz c2 o1;generalize EH:Ba aX H.length vr z=xV at c2;have de:∀{i v},i∉ps→i<H.length→xV i v=aX i v:=fun{i v} h1 h2=>by rw[←EH,←OH];unfold Ba;rw[EE h1];simp[h2]
  have ir:∀{i v},i∉ps→¬i<H.length→xV i v= .no:=fun{i v} h1 h2=>by rw[←EH,←OH];unfold Ba;rw[EE h1];simp[h2]
  have aaB:∀{i v},i∈ps→aX i v= .no:=fun{i v} h1=>pY.obj i _ (ag (hp i h1).2 G) v
  have nJ:∀{i v b s t},xV i v= .at b s t→(∃id,(i,id)∈z∧v=0∧aX id (vr id)= .at b s t)∨(i∉ps∧i<H.length∧aX i v= .at b s t):=by
    intro i v b s t hi;by_cases hm:i∈ps
    · rw[←EH]at hi
      unfold Ba at hi;split at hi
      · rename_i q hq
        obtain⟨q1,q2⟩:=OG hq;split at hi
        · exact .inl ⟨q.2,by rw[←q2];exact q1,by assumption,hi⟩
        · cases hi
      · split at hi
        · rw[aaB hm]at hi;cases hi
        · cases hi
    · by_cases hl:i<H.length
      · rw[de hm hl]at hi;exact .inr ⟨hm,hl,hi⟩
      · rw[ir hm hl]at hi;cases hi
  have lS:∀b,lg xV b→lg aX b:=by
    rintro b ⟨i,v,s,t,hb⟩;rcases nJ hb with⟨id,_,_,hb⟩|⟨_,_,hb⟩
    · exact⟨_,_,_,_,hb⟩
    · exact⟨_,_,_,_,hb⟩
  have aaC:∀{c:AV} {v:Value},bb (gX aX H.length) W' c v→bb xV W' c v:=fun hc=>hc.mono (fun _ _ _ h=>h) (fun i v hn=>by
    left;by_cases hl:i<H.length
    · rw[oZ hl]at hn⊢
      exact de (fun hm=>hn (aaB hm)) hl
    · exact(hn (by simp[gX,hl])).elim)
  refine⟨v,_,jr Hc ps (dS ts ps).2,xV,W',rfl,⟨rfl,rfl⟩,⟨pY.nF, ?_, ?_,fun b hb=>pY.own b (lS b hb), ?_⟩, ?_,⟨bc.os,bc.tape,bc.output,bc.size,bc.eF,bc.nF,bc.old, ?_,fun b hb=>bc.fresh b (lS b hb)⟩⟩
  · intro i o hi
    by_cases hm:i∈ps
    · obtain⟨k,hk⟩:=List.getElem?_of_mem hm
      have HE:=(List.getElem?_eq_some_iff.1 hk).1;have hko:(dS ts ps).2[k]?=some (dS ts ps).2[k]:=by simp
      have hg:=zH ps (dS ts ps).2 Hc k i _ A7 aaA hk hko;rw[hg]at hi;cases hi;have Oh:ids[k]?=some ids[k]:=by simp
      have B0:(ids[k],(dS ts ps).2[k])∈ids.zip (dS ts ps).2:=List.mem_of_getElem? (i:=k) (List.getElem?_zip_eq_some.2 ⟨Oh,hko⟩);have Ri:(i,ids[k])∈z:=by rw[←OH];exact List.mem_of_getElem? (i:=k) (List.getElem?_zip_eq_some.2 ⟨hk,Oh⟩)
      obtain⟨sz,ver,rs,pW,h1,h2,h3,h4⟩:=o1 _ B0;simp only at h1 h2;rw[h2]
      have e0:xV i 0=aX ids[k] ver:=by
        rw[←EH];unfold Ba;have :=hz _ Ri;simp only at this;rw[this];simp only[if_true,rk _ _ _ _ h1]
      rw[EH]at h4;obtain⟨g1,g2,g3⟩:=pY.obj _ _ h1;refine⟨?_,fun v' zw=> ?_,fun v' zw=>by omega⟩
      · rcases g1 with⟨g1,g4⟩|⟨b,br,ty,qO,g1,g4,g5,g6,g7,g8,g9⟩
        · left
          exact⟨e0.trans g1,by rw[g4]at h3;simpa using h3⟩
        · right
          refine⟨b,br,ty,qO,e0.trans g1,g4,g5,by omega,fun r' hr'=> ?_,fun i' r' j c' v' a1 a2 a3=> ?_,g9⟩
          · obtain⟨i',iR⟩:=List.getElem?_of_mem hr'
            have iC:i'<rs.length:=by rw[←h3];exact(List.getElem?_eq_some_iff.1 iR).1
            rw[(h4 i' rs[i'] r' (by simp[iC]) iR).1];exact g7 _ (List.getElem_mem iC)
          · have iC:i'<rs.length:=by rw[←h3];exact(List.getElem?_eq_some_iff.1 a1).1
            have hri:rs[i']?=some rs[i']:=by simp[iC]
            obtain⟨q1,q2⟩:=h4 i' _ r' hri a1;have hj:j<rs[i'].length:=by rw[←q1];exact(List.getElem?_eq_some_iff.1 a2).1
            exact q2 j rs[i'][j] c' (by simp[hj]) a2 v' (g8 i' _ j _ v' hri (by simp[hj]) a3)
      · rw[←EH]
        unfold Ba;have :=hz _ Ri;simp only at this;rw[this];simp only[show ¬v'=0 by omega,if_false]
    · rw[po ps _ _ _ hm]at hi
      have aF:=(List.getElem?_eq_some_iff.1 hi).1;have hO:=pY.obj i o (ag hi G)
      have key:∀c,rj c o→∀v,bb aX W' c v→bb xV W' c v:=by
        intro c hc v hv;rcases HA i o hi c hc with hk|⟨jC,o',Jy,ou⟩
        · exact hk _ _ _ _ hv
        · obtain⟨v1,v2⟩:=(jI.obj jC o' Jy).val
          cases o' with
          |var cs=>obtain⟨v0,h0⟩:=v1 cs rfl c ou;exact aaC (rh jI.out h0 hv)
          |rows sz ver rs=>obtain⟨r,hr,Rb⟩:=ou;obtain⟨v0,h0⟩:=v2 sz ver rs rfl r hr c Rb;exact aaC (rh jI.out h0 hv)
          |dead=>exact ou.elim
          |iQ=>exact ou.elim
          |tE b v=>exact ou.elim
          |Fj b v o=>exact ou.elim
      exact hO.cells (fun ver=>de hm (by omega)) (fun cs ec c hc v hv=>key c (by subst ec;exact hc) v hv) (fun sz ver rs ec r hr c hc v hv=>key c (by subst ec;exact⟨r,hr,hc⟩) v hv)
  · intro i v hi
    rw[kB]at hi;exact ir (fun hm=>by have :=aaA i hm;omega) (by omega)
  · intro b i v s t i' v' s' t' h1 h2
    rcases nJ h1 with⟨id,a1,a2,g1⟩|⟨a1,a2,g1⟩<;>rcases nJ h2 with⟨jC,a3,a4,g2⟩|⟨a3,a4,g2⟩
    · have e:=(pY.inj b _ _ _ _ _ _ _ _ g1 g2).1
      subst e;rw[←OH]at a1 a3;obtain⟨k,k1,k2⟩:=HD a1;obtain⟨k',k3,k4⟩:=HD a3;have :=JT Fw k2 k4;subst this;simp only at k1 k3;rw[k1]at k3;cases k3;exact⟨rfl,a2.trans a4.symm⟩
    · have e:=(pY.inj b _ _ _ _ _ _ _ _ g1 g2).1
      rw[←OH]at a1;have :=hib _ (List.of_mem_zip a1).2;omega
    · have e:=(pY.inj b _ _ _ _ _ _ _ _ g1 g2).1
      rw[←OH]at a3;have :=hib _ (List.of_mem_zip a3).2;omega
    · exact pY.inj b _ _ _ _ _ _ _ _ g1 g2
  · cases hv with
    |st _ us hs hc h1=>
     refine .st _ us (by omega) (fun j c u hj hu=> ?_) h1;have jE:j<cs.length:=by rw[←c1];exact(List.getElem?_eq_some_iff.1 hj).1
     exact c2 j cs[j] c (by simp[jE]) hj u (hc j cs[j] u (by simp[jE]) hu)
  · intro i v hn
    have hi:i<H.length:=by
      rcases Nat.lt_or_ge i H.length with h|h
      · exact h
      · exact(hn (jI.out i v h)).elim
    have hip:i∉ps:=fun hm=>hn (jI.obj i _ (hp i hm).1 v)
    rw[de hip hi];exact bc.th i v hn
end Go.AM
