/- Texts QhE QhF QhG QhH QhI QiC QkB QfB QfD QfE QfF QfC QfQ QfR QfS QfT QgH QfU QeH QiJ QjE QiA QiB QiP QjF QdB QeJ QdC QeK, merged. -/
import Derived.Test.YtjkbbnfdbfcebaaGreatDoorKAD
import Derived.Test.YtjkbbnfdbfcebaaGreatDoorChecked
import Derived.KernelRfl
set_option linter.all false
namespace Go.Proofs.YtjkbbnfdbfcebaaGreatDoor.Pg
open Go.AM
theorem pH {γ:Type} {f:γ→List TK} {l:List γ} (h:∀x∈l,∃h r,f x=h::r):l.length≤((l.map f).flatten).length:=by
  induction l with
  |nil=>simp
  |cons a l ih=>
   obtain⟨g,r,e⟩:=h a (by simp);have :=ih fun x hx=>h x (by simp[hx])
   simp only[List.map_cons,List.flatten_cons,List.length_append,List.length_cons,e];omega
section
variable {T:List Tok} {N most lo:Nat} (hT:bL T) (hN:T.length<=N)
include hT hN
theorem EJ {α β γ:Type} {er:α->β} {m:PM α} (hm:ab T m) {f0:List TK} {z0 z:β} {D0:Nat} {sp ok:TK->Bool} (h0:Rd T most lo er m f0 z0 D0 sp) {D:γ->Nat} {f:γ->List TK} {e:γ->β} {l:List γ}
  (hl:∀a∈l,Rd T most lo er m (f a) (e a) (D a) sp) (mk:α->List α->α) (hz:∀a l',er a=z0->l'.map er=l.map e->er (mk a l')=z) (s1:sp (cf [44])=true) (s2:sp (cf [41])=true):
  Rd T most lo er (aH m fun a=>aH (many (aL T [44]) (bT m) N) fun l=>cz (aX T [41]) (aT (mk a l))) (f0++((l.map fun a=>cf [44]::f a).flatten++[cf [41]])) z (max D0 (uD lo D l)) ok:=fun s g r hc dN hd hr hk=>by
 have hlen:l.length<=N:=by
  have:=lG hr;have h3:=pH (f:=fun x=>cf [44]::f x) (l:=l) fun x hx=>⟨_,_,rfl⟩
  simp only[List.length_append]at this;omega
 have ba:∀n,ab T (many (aL T [44]) (bT m) n):=fun n=>ab.gp hT (aB T [44]) hm n
 have wW:=nU (ok:=fun h=>decide (h=cf [41])) (bX [44]) ba (fun h hh=>by rw[decide_eq_true_eq]at hh;subst hh;rfl) (fun h hh=>by rw[decide_eq_true_eq]at hh;subst hh;exact s2) l N (qj (f:=fun x=>cf [44]::f x) (D:=D) (e:=e) fun a ha=>sk (hl a ha)) hlen (fun a ha=>⟨_,_,rfl,rfl,s1⟩)
 have agO:lo<=uD lo D l:=by
  clear wW hl hz hlen hr
  induction l with
  |nil=>exact Nat.le_refl _
  |cons b l ih=>exact Nat.le_trans ih (Nat.le_max_right _ _)
 refine gj (ok:=ok) h0 (fun _=>ab.bind (ba N) fun _=>ab.step (aK hT _) (ab.ret _)) (fun a ha=>gj wW (fun _=>ab.step (aK hT _) (ab.ret _)) (fun l' iy=>eR (g:=cf [41]) rfl (dB (hz a l' ha iy))) (dE rfl) rfl (Nat.max_eq_left agO)) ?_ rfl rfl s g r hc dN hd hr hk
 cases l with
 |nil=>exact dE s2
 |cons b l=>exact dE s1
end
def spP (h:TK):Bool:=!Ik h
section
variable (T:List Tok) (N most:Nat)
def PE (f:List TK) (z:ae) (q:Nat):Prop:=∀K d,most+2<=K+d->d<=most+1->Rd T most 0 ae.er (p7 T N most K d) f z (d+q) spP
def PA (f:List TK) (z:ae) (q:Nat):Prop:=∀K d,most+2<=K+(d+1)->d<=most->Rd T most d ae.er (fD T N (p7 T N most K (d+1))) f z (d+q) (fun _=>true)
structure tc (y:TF) (z:ae):Prop where
 e:PE T N most (y.at 0) z (y.qa 0)
 a:PA T N most (y.at 1) z (y.qa 1)
 h0:∃h r,y.at 0=h::r/\tT [41] h=false
 h1:∃h r,y.at 1=h::r/\Ik h=true
end
section
variable {T:List Tok} {N most:Nat} (hT:bL T) (hN:T.length<=N)
include hT hN
theorem Yp {f z q} (h:PA T N most f z q) {g r} (hf:f=g::r) (h4:tK 4 g=false):PE T N most f z q:=fun K d hK hd=>by
  subst hf
  cases K with
  |zero=>omega
  |succ K=>
   exact km (Nat.le_add_right _ _) fun nW=>cj fun w hw=>b7 (cI _) h4 ((h K d (by omega) nW).Yn fun _ _ =>rfl)
theorem CS {f0:List TK} {z0 z:ae} {q0:Nat} (h0:PE T N most f0 z0 q0) {l:List ae} (hl:∀a∈l,PE T N most (a.tf.at 0) a.er (a.tf.qa 0)) (hd0:∃h r,f0=h::r/\tT [41] h=false)
  (hz:∀(p:Int) (a:ae) (l':List ae),a.er=z0->l'.map ae.er=l.map ae.er->(if l'=[]then a else ae.mk 6 [] 0 p (a::l')).er=z) {q:Nat} (hq:max (q0+1) (fV (fun a=>a.tf.qa 0+1) l)=q):
  PA T N most (cf [40]::(f0++((l.map fun a=>cf [44]::a.tf.at 0).flatten++[cf [41]]))) z q:=fun K d hK hd=>by
 obtain⟨g,r,hf,hg⟩:=hd0;have hs:=mP (N:=N) hT most K (d+1)
 have:=EJ (lo:=d) (ok:=fun _=>true) hT hN hs ((h0 K (d+1) hK (by omega)).low (Nat.zero_le d)) (l:=l) (D:=fun a=>d+(a.tf.qa 0+1)) (f:=fun a=>a.tf.at 0) (e:=ae.er) (z:=z)
  (fun a ha=>((hl a ha K (d+1) hK (by omega)).low (Nat.zero_le d)).cast rfl (by omega))
 rw[sn]at this;unfold fD;refine cj fun w hw=>b7 (bX _) rfl<|b7 (cI _) rfl<|b7 (cI _) rfl<|b7 (bX _) rfl<|b7 (bX _) rfl<|b7 (cI _) rfl ?_
 unfold p6;refine cj fun w hw=>eR rfl ?_
 rw[hf]at this⊢;refine b7 (bX _) hg (F9 abC (dE rfl) ?_);exact(this (fun a l'=>if l'=[]then a else ae.mk 6 [] 0 w.p (a::l')) (fun a l' ha iy=>hz _ a l' ha iy) rfl rfl).cast rfl (by omega)
theorem Gc {y:TF} {z:ae} (lv:Int) (hl:y.l=lv) (hE:PE T N most y.f z y.q) (h0:0<=lv) (hd:∃h r,y.f=h::r/\tT [41] h=false) (h1:1<=lv->PA T N most y.f z y.q/\∃h r,y.f=h::r/\Ik h=true):tc T N most y z:=by
 subst hl
 have hb:PA T N most (cf [40]::(y.f++[cf [41]])) z (y.q+1):=by
  have:=CS hT hN hE (l:=[]) (by simp) hd (z:=z) (fun p a l' ha iy=>by
   have:l'=[]:=by simpa using iy
   rw[if_pos this];exact ha) (q:=y.q+1) (by simp[fV])
  simpa using this
 refine⟨?_,?_,?_,?_⟩<;>unfold TF.at<;>try unfold TF.qa
 ·rw[if_neg (by omega),if_neg (by omega)];exact hE
 ·by_cases h:y.l<1
  ·rw[if_pos h,if_pos h];exact hb
  ·rw[if_neg h,if_neg h];exact(h1 (by omega)).1
 ·rw[if_neg (by omega)];exact hd
 ·by_cases h:y.l<1
  ·rw[if_pos h];exact⟨_,_,rfl,rfl⟩
  ·rw[if_neg h];exact(h1 (by omega)).2
theorem so {g:TK} {r:List TK} {b:Bool} {q:Nat} {z:ae} (h:PA T N most (g::r) z q) (h4:tK 4 g=false) (hb:tT [41] g=false) (hs:Ik g=true):tc T N most ⟨g::r,1,b,q⟩ z:=
 Gc hT hN 1 rfl (Yp hT hN h rfl h4) (by decide) ⟨_,_,rfl,hb⟩ fun _=>⟨h,_,_,rfl,hs⟩
theorem TY:tc T N most (nP 1 [] 0 []) (.mk 1 [] 0 0 []):=so hT hN (fun K d hK hd=>cj fun w hw=>gk (bX _) rfl (dB rfl)) rfl rfl rfl
theorem TZ {n:List UInt8}:tc T N most (nP 2 n 0 []) (.mk 2 n 0 0 []):=so hT hN (fun K d hK hd=>cj fun w hw=>b7 (bX _) rfl<|gk (cI _) rfl (dB (by
 have xd:w.t=n:=congrArg (fun g:TK=>g.2.1) hw;rw[ae.er,xd];rfl))) rfl rfl rfl
theorem T4 {u:Int}:tc T N most (nP 3 [] u []) (.mk 3 [] u 0 []):=so hT hN (fun K d hK hd=>cj fun w hw=>b7 (bX _) rfl<|b7 (cI _) rfl<|gk (cI _) rfl (dB (by
 have xd:w.n=u:=congrArg (fun g:TK=>g.2.2) hw;rw[ae.er,xd];rfl))) rfl rfl rfl
theorem Oq {u:Int} (h0:0<=u) (h1:u<=1):tc T N most (nP 4 [] u []) (.mk 4 [] u 0 []):=by
 have:u=0\/u=1:=by omega
 rcases this with rfl|rfl
 ·exact so hT hN (g:=fK [102,97,108,115,101]) (fun K d hK hd=>cj fun w hw=>b7 (bX _) rfl<|b7 (cI _) rfl<|b7 (cI _) rfl<|b7 (bX _) rfl<|gk (bX _) rfl (dB rfl)) rfl rfl rfl
 ·exact so hT hN (g:=fK [116,114,117,101]) (fun K d hK hd=>cj fun w hw=>b7 (bX _) rfl<|b7 (cI _) rfl<|b7 (cI _) rfl<|gk (bX _) rfl (dB rfl)) rfl rfl rfl
theorem Ot:tc T N most (nP 5 [] 0 []) (.mk 5 [] 0 0 []):=so hT hN (fun K d hK hd=>by
 unfold fD;refine cj fun w hw=>b7 (bX _) rfl<|b7 (cI _) rfl<|b7 (cI _) rfl<|b7 (bX _) rfl<|b7 (bX _) rfl<|b7 (cI _) rfl ?_
 unfold p6;exact cj fun w hw=>eR rfl<|gk (bX _) rfl (dB rfl)) rfl rfl rfl
theorem T5 {a:ae} {l:List ae} (Dr:l≠[]) (ha:tc T N most a.tf a.er) (hk:∀x∈l,tc T N most x.tf x.er):tc T N most (nP 6 [] 0 (ae.lp (a::l))) (.mk 6 [] 0 0 (ae.fW (a::l))):=by
 have h:=CS hT hN ha.e (fun x hx=>(hk x hx).e) ha.h0 (z:=.mk 6 [] 0 0 (ae.fW (a::l))) (fun p b l' hb iy=>by
  have:l'≠[]:=by rintro rfl;simp at iy;exact Dr iy
  rw[if_neg this,ae.er,ae.fW,ae.fW,ae.nn,ae.nn,iy,hb]) (q:=fV (fun a=>a.tf.qa 0+1) (a::l)) rfl
 have et:nP 6 [] 0 (ae.lp (a::l))=⟨cf [40]::(a.tf.at 0++((l.map fun a=>cf [44]::a.tf.at 0).flatten++[cf [41]])),1,false,fV (fun a=>a.tf.qa 0+1) (a::l)⟩:=by
  unfold nP;rw[if_neg (by decide),if_neg (by decide),if_neg (by decide),if_neg (by decide),if_pos rfl,ae.qi,List.map_map,List.map_cons,ry,List.map_map,uE,List.append_assoc];rfl
 rw[et];exact so hT hN h rfl rfl rfl
theorem Ld {n:List UInt8}:tc T N most (nP 7 n 0 []) (.mk 7 n 0 0 []):=by
  have hE:PE T N most [zL n] (.mk 7 n 0 0 []) 0:=fun K d hK hd=>by
    cases K with
    |zero=>omega
    |succ K=>
     refine km (Nat.le_add_right _ _) fun nW=>cj fun w hw=>gk (cI _) rfl (F9 MW (fun h hh=>hh) (dB ?_))
     have xd:w.t=n:=congrArg (fun g:TK=>g.2.1) hw;rw[ae.er,xd];rfl
  refine Gc (y:=nP 7 n 0 []) hT hN 1 rfl hE (by decide) ⟨_,_,rfl,rfl⟩ fun _ =>⟨fun K d hK hd=> ?_,_,_,rfl,rfl⟩
  refine cj fun w hw=>b7 (bX _) rfl<|b7 (cI _) rfl<|b7 (cI _) rfl<|b7 (bX _) rfl<|b7 (bX _) rfl<|gk (cI _) rfl (dB ?_)
  have xd:w.t=n:=congrArg (fun g:TK=>g.2.1) hw;rw[ae.er,xd];rfl
theorem Le {n:List UInt8} {y:TF} {z:ae} (h:tc T N most y z):tc T N most (nP 7 n 0 [y]) (.mk 7 n 0 0 [z]):=by
  have hE:PE T N most (zL n::y.at 1) (.mk 7 n 0 0 [z]) (y.qa 1):=fun K d hK hd=>by
    cases K with
    |zero=>omega
    |succ K=>
     obtain⟨g,r,h1,h2⟩:=h.h1;refine km (Nat.le_add_right _ _) fun nW=>cj fun w hw=>gk (cI _) rfl (Lb MW (by rw[h1];exact dE h2) ?_)
     have xd:w.t=n:=congrArg (fun g:TK=>g.2.1) hw;exact gB (h.a K d (by omega) nW) (fun x hx=>by rw[ae.er,xd,ae.fW,ae.fW,hx]) (fun _ _ =>rfl) (by omega)
  exact Gc (y:=nP 7 n 0 [y]) hT hN 0 rfl hE (by decide) ⟨_,_,rfl,rfl⟩ fun h=>absurd h (by decide)
mutual
theorem ae.rt:∀t:ae,t.okB=true →tc T N most t.tf t.er
  | .mk k n u p ks,h=>by
    rw[ae.okB,Bool.and_eq_true]at h;have ih:=ae.Io ks h.2;have hk:=h.1;unfold AA at hk;rw[ae.tf,ae.er];by_cases h1:k=1
    · subst h1;simp at hk
      obtain⟨⟨rfl,rfl,rfl⟩,-⟩:=hk;exact TY hT hN
    by_cases h2:k=2
    · subst h2;simp at hk
      obtain⟨⟨rfl,-,rfl⟩,-⟩:=hk;exact TZ hT hN
    by_cases h3:k=3
    · subst h3;simp at hk
      obtain⟨⟨rfl,rfl,-⟩,-⟩:=hk;exact T4 hT hN
    by_cases h4:k=4
    · subst h4;simp at hk
      obtain⟨⟨rfl,rfl,h5,h6⟩,-⟩:=hk;exact Oq hT hN h5 h6
    by_cases h5:k=5
    · subst h5;simp at hk
      obtain⟨⟨rfl,rfl,rfl⟩,-⟩:=hk;exact Ot hT hN
    by_cases h6:k=6
    · subst h6;simp at hk
      obtain⟨a,b,l,rfl⟩:=CQ (l:=ks) (by have :=hk.1.1;omega);obtain⟨⟨-,rfl,rfl⟩,-⟩:=hk;exact T5 hT hN (by simp) (ih a (by simp)) (fun x hx=>ih x (by simp[hx]))
    by_cases h7:k=7
    · subst h7;simp at hk
      obtain⟨⟨hm,-,rfl⟩,-⟩:=hk;rcases ks with _|⟨a,_|⟨b,l⟩⟩
      · exact Ld hT hN
      · exact Le hT hN (ih a (by simp))
      · simp at hm;omega
    simp[h1,h2,h3,h4,h5,h6,h7]at hk
theorem ae.Io:∀l:List ae,ae.nO l=true →∀x∈l,tc T N most x.tf x.er
  |[],_ =>fun x hx=>by cases hx
  |t::l,h=>fun x hx=>by
   rw[ae.nO,Bool.and_eq_true]at h;rcases List.mem_cons.1 hx with e|hx
   · exact e▸ae.rt t h.1
   · exact ae.Io l h.2 x hx
end
end
def Ou (h:TK):Bool:=!xc h
def DB (h:TK):Bool:=!xc h&& !La [[42]] h
def Ip (h:TK):Bool:=DB h&& !La [[43],[45],[94]] h
def Ge (h:TK):Bool:=Ip h&& !(tT [61] h||tT [60] h)
def xe (h:TK):Bool:=Ge h&& !tT [58,61] h
def xf (h:TK):Bool:=xc h||K9 h
theorem abE {h} (k:xe h=true):Ge h=true:=by simp only[xe,Bool.and_eq_true]at k;exact k.1
theorem abF {h} (k:Ge h=true):Ip h=true:=by simp only[Ge,Bool.and_eq_true]at k;exact k.1
theorem agP {h} (k:Ip h=true):DB h=true:=by simp only[Ip,Bool.and_eq_true]at k;exact k.1
theorem agQ {h} (k:DB h=true):Ou h=true:=by simp only[DB,Bool.and_eq_true]at k;exact k.1
theorem agR {h} (k:xe h=true):tT [58,61] h=false:=by simp only[xe,Bool.and_eq_true,Bool.not_eq_true']at k;exact k.2
theorem agS {h} (k:Ge h=true):(tT [61] h||tT [60] h)=false:=by simp only[Ge,Bool.and_eq_true,Bool.not_eq_true']at k;exact k.2
theorem agT {h} (k:Ip h=true):La [[43],[45],[94]] h=false:=by simp only[Ip,Bool.and_eq_true,Bool.not_eq_true']at k;exact k.2
theorem agU {h} (k:DB h=true):La [[42]] h=false:=by simp only[DB,Bool.and_eq_true,Bool.not_eq_true']at k;exact k.2
theorem abG {h} (k:Ou h=true):xc h=false:=by simpa[Ou]using k
def apS (T:List Tok) (N:Nat) (ex:PM aa):aa->PM aa:=fun a=>aH (fE T N ex) fun b=>aT (node2 9 [] a.pos a b)
def rwS (T:List Tok) (side:PM aa):aa->PM aa:=fun a=>eI T fun t=>bT (aH side fun b=>aT (node2 14 t.t t.p a b))
section
variable (T:List Tok) (N most:Nat)
def XE (f:List TK) (z:aa) (q:Nat):Prop:=∀K d,most+2<=K+d->d<=most+1->Rd T most 0 aa.er (gE T N most K d) f z (d+q) xe
def X1 (f:List TK) (z:aa) (q:Nat):Prop:=∀K d,most+2<=K+(d+1)->d<=most->Rd T most d aa.er (uZ T N (gE T N most K (d+1))) f z (d+q) xe
def X2 (f:List TK) (z:aa) (q:Nat):Prop:=∀K d,most+2<=K+(d+1)->d<=most->Rd T most d aa.er (xU T N (gE T N most K (d+1))) f z (d+q) Ge
def X3 (f:List TK) (z:aa) (q:Nat):Prop:=∀K d,most+2<=K+(d+1)->d<=most->Qd T N most d (zm T N (gE T N most K (d+1))) (im T [[43],[45],[94]]) (rwS T (wE T N (gE T N most K (d+1)))) f z (d+q) DB
def X4 (f:List TK) (z:aa) (q:Nat):Prop:=∀K d,most+2<=K+(d+1)->d<=most->Qd T N most d (wE T N (gE T N most K (d+1))) (im T [[42]]) (rwS T (vS T N (gE T N most K (d+1)))) f z (d+q) Ou
def X5 (b:Bool) (f:List TK) (z:aa) (q:Nat):Prop:=∀K d,most+2<=K+(d+1)->d<=most->Qd T N most d (vS T N (gE T N most K (d+1))) (ei T) (apS T N (gE T N most K (d+1))) f z (d+q) (fun h=>!(b&&xc h))
def X6 (f:List TK) (z:aa) (q:Nat):Prop:=∀K d,most+2<=K+(d+1)->d<=most->Rd T most d aa.er (fE T N (gE T N most K (d+1))) f z (d+q) (fun _=>true)
structure RX (y:TF) (z:aa):Prop where
 e:XE T N most (y.at 0) z (y.qa 0)
 x1:X1 T N most (y.at 1) z (y.qa 1)
 x2:X2 T N most (y.at 2) z (y.qa 2)
 x3:X3 T N most (y.at 3) z (y.qa 3)
 x4:X4 T N most (y.at 4) z (y.qa 4)
 x5:X5 T N most y.b (y.at 5) z (y.qa 5)
 x6:X6 T N most (y.at 6) z (y.qa 6)
 x57:X5 T N most false (y.at 7) z (y.qa 7)
 h0:∃h r,y.at 0=h::r/\tT [41] h=false
 h1:∀a,1<=a->∃h r,y.at a=h::r/\xf h=true
 h6:∃h r,y.at 6=h::r/\xc h=true
end
theorem xg {g:TK} (h:xf g=true):tT [41] g=false/\tT [108,101,116] g=false/\tT [102,117,110] g=false/\tT [105,102] g=false/\tT [109,97,116,99,104] g=false:=by
 obtain⟨k,t,n⟩:=g
 refine⟨?_,?_,?_,?_,?_⟩<;>
 ·rw[Bool.eq_false_iff]
  intro ht;simp only[tT,Bool.and_eq_true,Bool.or_eq_true,decide_eq_true_eq]at ht;obtain⟨hk,rfl⟩:=ht;rcases hk with rfl|rfl<;>simp[xf,xc,K9,tT,tK]at h
section
variable {T:List Tok} {N most:Nat} (hT:bL T) (hN:T.length<=N)
include hT hN
theorem uG (n:Nat) (a:aa) {ex:PM aa} (h:ab T ex):ab T (carry (ei T) (apS T N ex) n a):=ab.carry only_atNx (fun a=>ab.bind (j6 hT h) fun _=>ab.ret _) n a
theorem yy {L} (n:Nat) (a:aa) {side:PM aa} (h:ab T side):ab T (carry (im T L) (rwS T side) n a):=ab.A8 hT (eE _) (fun t a=>ab.bind h fun _=>ab.ret _) n a
theorem Yq {f z q} (b:Bool) (h:X6 T N most f z q) {g r} (hf:f=g::r) (hp:K9 g=false) (h4:tK 4 g=false):X5 T N most b f z q:=fun K d hK hd=>by
 subst hf;have hs:=cU (N:=N) hT most K (d+1);exact(EH (m:=tY T N (gE T N most K (d+1))) (cj fun w hw=>b7 yp hp<|b7 (cI _) h4 (h K d hK hd)) (fun a=>uG hT hN N a hs)).Yn fun _ _=>rfl
theorem r5 {b f z q} (h:X5 T N most b f z q) (K d) (hK:most+2<=K+(d+1)) (hd:d<=most):Rd T most d aa.er (vS T N (gE T N most K (d+1))) f z (d+q) Ou:=
 Ga (h K d hK hd) F6 fun g hg=>⟨by rw[abG hg];simp,abG hg⟩
theorem l54 {b f z q} (h:X5 T N most b f z q):X4 T N most f z q:=fun K d hK hd=>
 EH (r5 hT hN h K d hK hd) fun a=>yy hT hN N a (po hT (cU hT most K (d+1)))
theorem r4 {f z q} (h:X4 T N most f z q) (K d) (hK:most+2<=K+(d+1)) (hd:d<=most):Rd T most d aa.er (wE T N (gE T N most K (d+1))) f z (d+q) DB:=
 Ga (h K d hK hd) (F7 _) fun g hg=>⟨agQ hg,agU hg⟩
theorem Yr {f z q} (h:X4 T N most f z q):X3 T N most f z q:=fun K d hK hd=>
 EH (r4 hT hN h K d hK hd) fun a=>yy hT hN N a (nE hT (cU hT most K (d+1)))
theorem r3 {f z q} (h:X3 T N most f z q) (K d) (hK:most+2<=K+(d+1)) (hd:d<=most):Rd T most d aa.er (zm T N (gE T N most K (d+1))) f z (d+q) Ip:=
 Ga (h K d hK hd) (F7 _) fun g hg=>⟨agP hg,agT hg⟩
theorem T6 {f z q} (h:X3 T N most f z q):X2 T N most f z q:=fun K d hK hd=>
 ru (ok:=Ge) (r3 hT hN h K d hK hd) (fun _=>iW hT ((aB T _).or (aB T _)) (nF hT (cU hT most K (d+1))))
  (fun y hy=>Il fun w=>F8 ((bX _).or (bX _)) (fun g hg=>agS hg) (dB hy)) (fun _ hg=>abF hg) (by omega)
theorem Ov {f z q} (h:X2 T N most f z q):X1 T N most f z q:=fun K d hK hd=>
 ru (ok:=xe) (h K d hK hd) (fun _=>iW hT (aB T _) (lQ hT (cU hT most K (d+1))))
  (fun y hy=>Il fun w=>F8 (bX _) (fun g hg=>agR hg) (dB hy)) (fun _ hg=>abE hg) (by omega)
theorem l10 {f z q} (h:X1 T N most f z q) {g r} (hf:f=g::r) (hg:xf g=true):XE T N most f z q:=fun K d hK hd=>by
  subst hf;obtain⟨-,h1,h2,h3,h4⟩:=xg hg
  cases K with
  |zero=>omega
  |succ K=>
   exact km (Nat.le_add_right _ _) fun nW=>cj fun w hw=>b7 (bX _) h1<|b7 (bX _) h2<|b7 (bX _) h3<|b7 (bX _) h4 (h K d (by omega) nW)
theorem CT {f0:List TK} {z0 z:aa} {q0:Nat} (h0:XE T N most f0 z0 q0) {l:List aa} (hl:∀a∈l,XE T N most (a.tf.at 0) a.er (a.tf.qa 0)) (hd0:∃h r,f0=h::r/\tT [41] h=false)
  (hz:∀(p:Int) (a:aa) (l':List aa),a.er=z0->l'.map aa.er=l.map aa.er->(if l'=[]then a else aa.mk 7 [] 0 [] p (a::l') []).er=z) {q:Nat} (hq:max (q0+1) (fV (fun a=>a.tf.qa 0+1) l)=q):
  X6 T N most (cf [40]::(f0++((l.map fun a=>cf [44]::a.tf.at 0).flatten++[cf [41]]))) z q:=fun K d hK hd=>by
 obtain⟨g,r,hf,hg⟩:=hd0;have hs:=cU (N:=N) hT most K (d+1)
 have:=EJ (lo:=d) (ok:=fun _=>true) hT hN hs ((h0 K (d+1) hK (by omega)).low (Nat.zero_le d)) (l:=l) (D:=fun a=>d+(a.tf.qa 0+1)) (f:=fun a=>a.tf.at 0) (e:=aa.er) (z:=z)
  (fun a ha=>((hl a ha K (d+1) hK (by omega)).low (Nat.zero_le d)).cast rfl (by omega))
 rw[sn]at this;unfold fE;refine cj fun w hw=>b7 (cI _) rfl<|b7 (cI _) rfl<|b7 (bX _) rfl<|b7 (bX _) rfl<|b7 (cI _) rfl<|b7 (cI _) rfl<|b7 (bX _) rfl ?_
 unfold Fq;refine cj fun w hw=>eR rfl ?_
 rw[hf]at this⊢;refine b7 (bX _) hg (F9 abC (dE rfl) ?_);exact(this (fun a l'=>if l'=[]then a else aa.mk 7 [] 0 [] w.p (a::l') []) (fun a l' ha iy=>hz _ a l' ha iy) rfl rfl).cast rfl (by omega)
theorem xh {y:TF} {z:aa} (lv:Int) (hl:y.l=lv) (hE:XE T N most y.f z y.q) (h0:0<=lv) (hh:∃h r,y.f=h::r/\tT [41] h=false/\(1<=lv->xf h=true)/\(6<=lv->xc h=true)) (zQ:lv<=6)
  (o1:1<=lv->X1 T N most y.f z y.q) (o2:2<=lv->X2 T N most y.f z y.q) (o3:3<=lv->X3 T N most y.f z y.q) (o4:4<=lv->X4 T N most y.f z y.q) (o5:5<=lv->X5 T N most y.b y.f z y.q) (o6:6<=lv->X6 T N most y.f z y.q):RX T N most y z:=by
 subst hl;obtain⟨g,r,hf,hh1,hh2,hh3⟩:=hh
 have b6:X6 T N most (cf [40]::(y.f++[cf [41]])) z (y.q+1):=by
  have:=CT hT hN hE (l:=[]) (by simp) ⟨g,r,hf,hh1⟩ (z:=z) (fun p a l' ha iy=>by
   have:l'=[]:=by simpa using iy
   rw[if_pos this];exact ha) (q:=y.q+1) (by simp[fV])
  simpa using this
 have b5:=fun b=>Yq hT hN b b6 rfl rfl rfl
 have b4:=l54 hT hN (b5 false);have b3:=Yr hT hN b4;have b2:=T6 hT hN b3;have b1:=Ov hT hN b2;refine⟨?_,?_,?_,?_,?_,?_,?_,?_,?_,?_,?_⟩<;>unfold TF.at<;>try unfold TF.qa
 ·rw[if_neg (by omega),if_neg (by omega)];exact hE
 ·by_cases h:y.l<1
  ·rw[if_pos h,if_pos h];exact b1
  ·rw[if_neg h,if_neg h];exact o1 (by omega)
 ·by_cases h:y.l<2
  ·rw[if_pos h,if_pos h];exact b2
  ·rw[if_neg h,if_neg h];exact o2 (by omega)
 ·by_cases h:y.l<3
  ·rw[if_pos h,if_pos h];exact b3
  ·rw[if_neg h,if_neg h];exact o3 (by omega)
 ·by_cases h:y.l<4
  ·rw[if_pos h,if_pos h];exact b4
  ·rw[if_neg h,if_neg h];exact o4 (by omega)
 ·by_cases h:y.l<5
  ·rw[if_pos h,if_pos h];exact b5 _
  ·rw[if_neg h,if_neg h];exact o5 (by omega)
 ·by_cases h:y.l<6
  ·rw[if_pos h,if_pos h];exact b6
  ·rw[if_neg h,if_neg h];exact o6 (by omega)
 ·rw[if_pos (by omega),if_pos (by omega)];exact b5 _
 ·rw[if_neg (by omega)];exact⟨g,r,hf,hh1⟩
 ·intro a ha
  by_cases h:y.l<a
  ·rw[if_pos h];exact⟨_,_,rfl,rfl⟩
  ·rw[if_neg h];exact⟨g,r,hf,hh2 (by omega)⟩
 ·by_cases h:y.l<6
  ·rw[if_pos h];exact⟨_,_,rfl,rfl⟩
  ·rw[if_neg h];exact⟨g,r,hf,hh3 (by omega)⟩
theorem Ys {g:TK} {r:List TK} {b:Bool} {q:Nat} {z:aa} (h:X6 T N most (g::r) z q) (h5:X5 T N most b (g::r) z q) (hs:xc g=true):RX T N most ⟨g::r,6,b,q⟩ z:=by
 have h1:xf g=true:=by simp[xf,hs]
 have x4:=l54 hT hN h5;have x3:=Yr hT hN x4;have x2:=T6 hT hN x3;have x1:=Ov hT hN x2;exact xh hT hN 6 rfl (l10 hT hN x1 rfl h1) (by decide) ⟨g,r,rfl,(xg h1).1,fun _=>h1,fun _=>hs⟩ (by decide) (fun _=>x1) (fun _=>x2) (fun _=>x3) (fun _=>x4) (fun _=>h5) (fun _=>h)
theorem rx5 {g:TK} {r:List TK} {q:Nat} {z:aa} (h5:X5 T N most false (g::r) z q) (h1:xf g=true):RX T N most ⟨g::r,5,false,q⟩ z:=by
 have x4:=l54 hT hN h5;have x3:=Yr hT hN x4;have x2:=T6 hT hN x3;have x1:=Ov hT hN x2;exact xh hT hN 5 rfl (l10 hT hN x1 rfl h1) (by decide) ⟨g,r,rfl,(xg h1).1,fun _=>h1,fun h=>absurd h (by decide)⟩ (by decide) (fun _=>x1) (fun _=>x2) (fun _=>x3) (fun _=>x4) (fun _=>h5) (fun h=>absurd h (by decide))
theorem rx4 {f:List TK} {q:Nat} {z:aa} (x4:X4 T N most f z q) (hh:∃h r,f=h::r/\xf h=true):RX T N most ⟨f,4,false,q⟩ z:=by
 obtain⟨g,r,rfl,h1⟩:=hh;have x3:=Yr hT hN x4;have x2:=T6 hT hN x3;have x1:=Ov hT hN x2;exact xh hT hN 4 rfl (l10 hT hN x1 rfl h1) (by decide) ⟨g,r,rfl,(xg h1).1,fun _=>h1,fun h=>absurd h (by decide)⟩ (by decide) (fun _=>x1) (fun _=>x2) (fun _=>x3) (fun _=>x4) (fun h=>absurd h (by decide)) (fun h=>absurd h (by decide))
theorem rx3 {f:List TK} {q:Nat} {z:aa} (x3:X3 T N most f z q) (hh:∃h r,f=h::r/\xf h=true):RX T N most ⟨f,3,false,q⟩ z:=by
 obtain⟨g,r,rfl,h1⟩:=hh;have x2:=T6 hT hN x3;have x1:=Ov hT hN x2;exact xh hT hN 3 rfl (l10 hT hN x1 rfl h1) (by decide) ⟨g,r,rfl,(xg h1).1,fun _=>h1,fun h=>absurd h (by decide)⟩ (by decide) (fun _=>x1) (fun _=>x2) (fun _=>x3) (fun h=>absurd h (by decide)) (fun h=>absurd h (by decide)) (fun h=>absurd h (by decide))
theorem rx2 {f:List TK} {q:Nat} {z:aa} (x2:X2 T N most f z q) (hh:∃h r,f=h::r/\xf h=true):RX T N most ⟨f,2,false,q⟩ z:=by
 obtain⟨g,r,rfl,h1⟩:=hh;have x1:=Ov hT hN x2;exact xh hT hN 2 rfl (l10 hT hN x1 rfl h1) (by decide) ⟨g,r,rfl,(xg h1).1,fun _=>h1,fun h=>absurd h (by decide)⟩ (by decide) (fun _=>x1) (fun _=>x2) (fun h=>absurd h (by decide)) (fun h=>absurd h (by decide)) (fun h=>absurd h (by decide)) (fun h=>absurd h (by decide))
theorem rx1 {f:List TK} {q:Nat} {z:aa} (x1:X1 T N most f z q) (hh:∃h r,f=h::r/\xf h=true):RX T N most ⟨f,1,false,q⟩ z:=by
 obtain⟨g,r,rfl,h1⟩:=hh;exact xh hT hN 1 rfl (l10 hT hN x1 rfl h1) (by decide) ⟨g,r,rfl,(xg h1).1,fun _=>h1,fun h=>absurd h (by decide)⟩ (by decide) (fun _=>x1) (fun h=>absurd h (by decide)) (fun h=>absurd h (by decide)) (fun h=>absurd h (by decide)) (fun h=>absurd h (by decide)) (fun h=>absurd h (by decide))
theorem T7 {g:TK} {r:List TK} {q:Nat} {z:aa} (h:XE T N most (g::r) z q) (hg:tT [41] g=false):RX T N most ⟨g::r,0,false,q⟩ z:=
 xh hT hN 0 rfl h (by decide) ⟨g,r,rfl,hg,fun h=>absurd h (by decide),fun h=>absurd h (by decide)⟩ (by decide) (fun h=>absurd h (by decide)) (fun h=>absurd h (by decide)) (fun h=>absurd h (by decide)) (fun h=>absurd h (by decide)) (fun h=>absurd h (by decide)) (fun h=>absurd h (by decide))
end
theorem uH {w:Tok} {g:TK} (h:w.b=g):w.t=g.2.1:=congrArg (fun g:TK=>g.2.1) h
theorem agV {w:Tok} {g:TK} (h:w.b=g):w.n=g.2.2:=congrArg (fun g:TK=>g.2.2) h
theorem er1 {k n p z} {a:aa} (h:a.er=z):(node1 k n p a).er=.mk k n 0 [] 0 [z] []:=by rw[node1,aa.er,aa.fW,aa.fW,aa.CO,h]
theorem er2 {k n p z1 z2} {a b:aa} (h:a.er=z1) (h2:b.er=z2):(node2 k n p a b).er=.mk k n 0 [] 0 [z1,z2] []:=by rw[node2,aa.er,aa.fW,aa.fW,aa.fW,aa.CO,h,h2]
def rz (a:TF×TF):List TK:=a.1.at 0++(cf [45,62]::a.2.at 0)
def uI (a:TF×TF):Nat:=max (a.1.qa 0+1) (a.2.qa 0+1)
section
variable {T:List Tok} {N most:Nat} (hT:bL T) (hN:T.length<=N)
include hT hN
theorem rA {g:TK} {z:aa} (h:X6 T N most [g] z 0) (hp:K9 g=false) (h4:tK 4 g=false) (hs:xc g=true):RX T N most ⟨[g],6,false,0⟩ z:=Ys hT hN h (Yq hT hN false h rfl hp h4) hs
theorem Yt {u:Int}:RX T N most (gi 1 [] u [] [] []) (.mk 1 [] u [] 0 [] []):=rA hT hN (fun K d hK hd=>cj fun w hw=>gk (cI _) rfl (dB (by rw[leaf,aa.er,agV hw];rfl))) rfl rfl rfl
theorem Yu {t:List UInt8}:RX T N most (gi 2 [] 0 t [] []) (.mk 2 [] 0 t 0 [] []):=rA hT hN (fun K d hK hd=>cj fun w hw=>b7 (cI _) rfl<|gk (cI _) rfl (dB (by rw[leaf,aa.er,uH hw];rfl))) rfl rfl rfl
theorem T8 {u:Int} (h0:0<=u) (h1:u<=1):RX T N most (gi 3 [] u [] [] []) (.mk 3 [] u [] 0 [] []):=by
 have:u=0\/u=1:=by omega
 rcases this with rfl|rfl
 ·exact rA hT hN (g:=fK [102,97,108,115,101]) (fun K d hK hd=>cj fun w hw=>b7 (cI _) rfl<|b7 (cI _) rfl<|b7 (bX _) rfl<|gk (bX _) rfl (dB rfl)) rfl rfl rfl
 ·exact rA hT hN (g:=fK [116,114,117,101]) (fun K d hK hd=>cj fun w hw=>b7 (cI _) rfl<|b7 (cI _) rfl<|gk (bX _) rfl (dB rfl)) rfl rfl rfl
theorem T9:RX T N most (gi 4 [] 0 [] [] []) (.mk 4 [] 0 [] 0 [] []):=by
 have h:X6 T N most [cf [40],cf [41]] (.mk 4 [] 0 [] 0 [] []) 0:=fun K d hK hd=>by
  unfold fE;refine cj fun w hw=>b7 (cI _) rfl<|b7 (cI _) rfl<|b7 (bX _) rfl<|b7 (bX _) rfl<|b7 (cI _) rfl<|b7 (cI _) rfl<|b7 (bX _) rfl ?_
  unfold Fq;exact cj fun w hw=>eR rfl<|gk (bX _) rfl (dB rfl)
 exact Ys hT hN h (Yq hT hN false h rfl rfl rfl) rfl
theorem Yv {n:List UInt8}:RX T N most (gi 5 n 0 [] [] []) (.mk 5 n 0 [] 0 [] []):=rA hT hN (fun K d hK hd=>cj fun w hw=>b7 (cI _) rfl<|b7 (cI _) rfl<|b7 (bX _) rfl<|b7 (bX _) rfl<|gk (cI _) rfl (dB (by rw[leaf,aa.er,uH hw];rfl))) rfl rfl rfl
theorem Ua:RX T N most (gi 15 [114,101,97,100] 0 [] [] []) (.mk 15 [114,101,97,100] 0 [] 0 [] []):=rA hT hN (g:=fK [114,101,97,100]) (fun K d hK hd=>cj fun w hw=>b7 (cI _) rfl<|b7 (cI _) rfl<|b7 (bX _) rfl<|b7 (bX _) rfl<|b7 (cI _) rfl<|b7 (cI _) rfl<|gk (bX _) rfl (dB (by rw[leaf,aa.er,uH hw];rfl))) rfl rfl rfl
theorem Ow {n:List UInt8}:RX T N most (gi 6 n 0 [] [] []) (.mk 6 n 0 [] 0 [] []):=by
 refine Ys (g:=zL n) (r:=[]) (b:=true) (q:=0) hT hN (fun K d hK hd=>?_) (fun K d hK hd=>?_) rfl
 ·exact cj fun w hw=>b7 (cI _) rfl<|b7 (cI _) rfl<|b7 (bX _) rfl<|b7 (bX _) rfl<|b7 (cI _) rfl<|gk (cI _) rfl (dB (by rw[leaf,aa.er,uH hw];rfl))
 ·have hs:=cU (N:=N) hT most K (d+1)
  refine EH (m:=tY T N (gE T N most K (d+1))) (cj fun w hw=>b7 yp rfl<|gk (cI _) rfl<|F9 F6 (fun h hh=>?_) (dB (by rw[leaf,aa.er,uH hw];rfl))) (fun a=>uG hT hN N a hs);simpa using hh
theorem Yw {a:aa} {l:List aa} (Dr:l≠[]) (ha:RX T N most a.tf a.er) (hk:∀x∈l,RX T N most x.tf x.er):RX T N most (gi 7 [] 0 [] (aa.lp (a::l)) []) (.mk 7 [] 0 [] 0 (aa.fW (a::l)) []):=by
 have h:=CT hT hN ha.e (fun x hx=>(hk x hx).e) ha.h0 (z:=.mk 7 [] 0 [] 0 (aa.fW (a::l)) []) (fun p b l' hb iy=>by
  have:l'≠[]:=by rintro rfl;simp at iy;exact Dr iy
  rw[if_neg this,aa.er,aa.fW,aa.fW,aa.nn,aa.nn,iy,hb,aa.CO]) (q:=fV (fun a=>a.tf.qa 0+1) (a::l)) rfl
 have et:gi 7 [] 0 [] (aa.lp (a::l)) []=⟨cf [40]::(a.tf.at 0++((l.map fun a=>cf [44]::a.tf.at 0).flatten++[cf [41]])),6,false,fV (fun a=>a.tf.qa 0+1) (a::l)⟩:=by
  unfold gi;rw[if_neg (by decide),if_neg (by decide),if_neg (by decide),if_neg (by decide),if_neg (by decide),if_pos rfl,aa.qi,List.map_map,List.map_cons,ry,List.map_map,uE,List.append_assoc];rfl
 rw[et];exact Ys hT hN h (Yq hT hN false h rfl rfl rfl) rfl
theorem Ox {n:List UInt8} {y:TF} {z:aa} (h:RX T N most y z):RX T N most (gi 6 n 0 [] [y] []) (.mk 6 n 0 [] 0 [z] []):=by
 obtain⟨g,r,e,hg⟩:=h.h6;refine rx5 (g:=zL n) (r:=y.at 6) (q:=y.qa 6) hT hN (fun K d hK hd=>?_) rfl;have hs:=cU (N:=N) hT most K (d+1);exact(EH (ok:=fun h=>!(false &&xc h)) (ts:=zL n::y.at 6) (x:=.mk 6 n 0 [] 0 [z] []) (D:=d+y.qa 6) (m:=tY T N (gE T N most K (d+1))) (cj fun w hw=>b7 yp rfl<|gk (cI _) rfl<|Lb F6 (by rw[e];exact dE hg) (gB (h.x6 K d hK hd) (fun x hx=>by rw[er1 hx,uH hw];rfl) (fun _ _=>rfl) (by omega))) (fun a=>uG hT hN N a hs):)
theorem Yx {n:List UInt8} (h:pA n=true):K9 (F4 n)=true/\(F4 n).2.1=n:=by
 simp only[pA,decide_eq_true_eq,List.mem_cons,List.not_mem_nil,or_false]at h;rcases h with rfl|rfl|rfl|rfl|rfl<;>exact⟨rfl,rfl⟩
theorem Ub {n:List UInt8} (hn:pA n=true) {y:TF} {z:aa} (h:RX T N most y z):RX T N most (gi 15 n 0 [] [y] []) (.mk 15 n 0 [] 0 [z] []):=by
 obtain⟨hp,bh⟩:=Yx hT hN hn;refine rx5 (g:=F4 n) (r:=y.at 6) (q:=y.qa 6) hT hN (fun K d hK hd=>?_) (by simp[xf,hp]);have hs:=cU (N:=N) hT most K (d+1);exact(EH (ok:=fun h=>!(false &&xc h)) (ts:=F4 n::y.at 6) (x:=.mk 15 n 0 [] 0 [z] []) (D:=d+y.qa 6) (m:=tY T N (gE T N most K (d+1))) (cj fun w hw=>gk yp hp<|gB (h.x6 K d hK hd) (fun x hx=>by rw[er1 hx,uH hw,bh]) (fun _ _=>rfl) (by omega)) (fun a=>uG hT hN N a hs):)
theorem Yy {y1 y2:TF} {z1 z2:aa} (h1:RX T N most y1 z1) (h2:RX T N most y2 z2):RX T N most (gi 9 [] 0 [] [y1,y2] []) (.mk 9 [] 0 [] 0 [z1,z2] []):=by
 obtain⟨g2,r2,e2,kA⟩:=h2.h6;obtain⟨g1,r1,e1,jQ⟩:=h1.h1 (if y1.b then 7 else 5) (by split <;>decide)
 have hx:X5 T N most false (y1.at (if y1.b then 7 else 5)) z1 (y1.qa (if y1.b then 7 else 5)):=by
  cases hb:y1.b with
  |true=>exact h1.x57
  |false=>have:=h1.x5;rw[hb]at this;exact this
 have et:gi 9 [] 0 [] [y1,y2] []=⟨g1::(r1++(g2::r2)),5,false,max (y1.qa (if y1.b then 7 else 5)) (y2.qa 6)⟩:=by
  show(⟨y1.at (if y1.b then 7 else 5)++y2.at 6,5,false,_⟩:TF)=_;rw[e1,e2];rfl
 rw[et];refine rx5 hT hN (fun K d hK hd=>?_) jQ;have hs:=cU (N:=N) hT most K (d+1);rw[e1]at hx;have hy:=h2.x6 K d hK hd;rw[e2]at hy;exact(Gb (ok:=fun h=>!(false &&xc h)) hN F6 (hx K d hK hd) (fun n a=>uG hT hN n a hs) (fun y hy'=>gB hy (fun x hx=>er2 hy' hx) (fun _ _=>rfl) (by omega)) kA rfl).cast (by rw[List.cons_append]) (by omega)
theorem adP {n:List UInt8} (hn:Az n=true) {y1 y2:TF} {z1 z2:aa} (h1:RX T N most y1 z1) (h2:RX T N most y2 z2):RX T N most (gi 14 n 0 [] [y1,y2] []) (.mk 14 n 0 [] 0 [z1,z2] []):=by
 simp only[Az,decide_eq_true_eq,List.mem_cons,List.not_mem_nil,or_false]at hn
 have hd:∀a (r:List TK),1<=a->∃h r',y1.at a++r=h::r'/\xf h=true:=fun a r ha=>by
  obtain⟨g,r',e,hg⟩:=h1.h1 a ha;exact⟨g,r'++r,by rw[e];rfl,hg⟩
 have sum:∀n:List UInt8,La [[43],[45],[94]] (cf n)=true->DB (cf n)=true->gi 14 n 0 [] [y1,y2] []=⟨y1.at 3++(cf n::y2.at 4),3,false,max (y1.qa 3) (y2.qa 4)⟩->RX T N most (gi 14 n 0 [] [y1,y2] []) (.mk 14 n 0 [] 0 [z1,z2] []):=fun n ho nJ et=>by
  rw[et];refine rx3 hT hN (fun K d hK kz=>?_) (hd 3 _ (by decide));have hs:=cU (N:=N) hT most K (d+1);exact(Gb (ok:=DB) hN (F7 _) (h1.x3 K d hK kz) (fun n a=>yy hT hN n a (nE hT hs)) (fun y hy=>cj fun w hw=>sk (gB (r4 hT hN h2.x4 K d hK kz) (fun x hx=>by rw[er2 hy hx,uH hw];rfl) (fun _ h=>h) (by omega))) ho nJ).cast rfl (by omega)
 have cmp:∀n:List UInt8,(tT [61] (cf n)||tT [60] (cf n))=true->Ip (cf n)=true->gi 14 n 0 [] [y1,y2] []=⟨y1.at 3++(cf n::y2.at 3),2,false,max (y1.qa 3) (y2.qa 3)⟩->RX T N most (gi 14 n 0 [] [y1,y2] []) (.mk 14 n 0 [] 0 [z1,z2] []):=fun n ho eL et=>by
  rw[et];refine rx2 hT hN (fun K d hK kz=>?_) (hd 3 _ (by decide));have hs:=cU (N:=N) hT most K (d+1);exact gj (ok:=Ge) (r3 hT hN h1.x3 K d hK kz) (fun _=>iW hT ((aB T _).or (aB T _)) (nF hT hs)) (fun y hy=>cj fun w hw=>gk ((bX _).or (bX _)) ho (gB (r3 hT hN h2.x3 K d hK kz) (fun x hx=>by rw[er2 hy hx,uH hw];rfl) (fun _ h=>abF h) (by omega))) (dE eL) rfl (by omega)
 rcases hn with rfl|rfl|rfl|rfl|rfl|rfl|rfl
 ·exact sum _ rfl rfl rfl
 ·exact sum _ rfl rfl rfl
 ·refine rx4 (f:=y1.at 4++(cf [42]::y2.at 5)) (q:=max (y1.qa 4) (y2.qa 5)) hT hN (fun K d hK kz=>?_) (hd 4 _ (by decide))
  have hs:=cU (N:=N) hT most K (d+1);exact(Gb (ok:=Ou) hN (F7 _) (h1.x4 K d hK kz) (fun n a=>yy hT hN n a (po hT hs)) (fun y hy=>cj fun w hw=>sk (gB (r5 hT hN h2.x5 K d hK kz) (fun x hx=>by rw[er2 hy hx,uH hw];rfl) (fun _ h=>h) (by omega))) rfl rfl).cast rfl (by omega)
 ·exact sum _ rfl rfl rfl
 ·exact cmp _ rfl rfl rfl
 ·exact cmp _ rfl rfl rfl
 ·refine rx1 (f:=y1.at 2++(cf [58,61]::y2.at 2)) (q:=max (y1.qa 2) (y2.qa 2)) hT hN (fun K d hK kz=>?_) (hd 2 _ (by decide))
  have hs:=cU (N:=N) hT most K (d+1);exact gj (ok:=xe) (h1.x2 K d hK kz) (fun _=>iW hT (aB T _) (lQ hT hs)) (fun y hy=>cj fun w hw=>gk (bX _) rfl (gB (h2.x2 K d hK kz) (fun x hx=>by rw[er2 hy hx,uH hw];rfl) (fun _ h=>abE h) (by omega))) (dE rfl) rfl (by omega)
theorem nq {y:TF} {z:aa} (h:RX T N most y z) {K d:Nat} (hK:most+2<=K+(d+1)) (hd:d<=most):Rd T most d aa.er (gE T N most K (d+1)) (y.at 0) z (d+(y.qa 0+1)) xe:=
 ((h.e K (d+1) hK (by omega)).low (Nat.zero_le d)).cast rfl (by omega)
theorem Yz {n:List UInt8} {y1 y2:TF} {z1 z2:aa} (h1:RX T N most y1 z1) (h2:RX T N most y2 z2):RX T N most (gi 10 n 0 [] [y1,y2] []) (.mk 10 n 0 [] 0 [z1,z2] []):=by
  refine T7 (g:=fK [108,101,116]) hT hN (fun K d hK hd=> ?_) rfl
  cases K with
  |zero=>omega
  |succ K=>
   have hs:=cU (N:=N) hT most K (d+1);refine km (Nat.le_add_right _ _) fun nW=>cj fun w hw=>gk (bX _) rfl ?_
   unfold vT;refine b7 (bX _) rfl (nS (eR rfl ?_));exact gj (nq hT hN h1 (by omega) nW) (fun _ =>ab.step (aK hT _) (ab.bind hs fun _ =>ab.ret _)) (fun a ha=>eR (g:=fK [105,110]) rfl (gB (nq hT hN h2 (by omega) nW) (fun b hb=>by rw[aa.er,aa.fW,aa.fW,aa.fW,aa.CO,ha,hb]) (fun _ h=>h) (by omega))) (dE rfl) rfl (by simp only[List.getD_cons_zero,List.getD_cons_succ];omega)
theorem YA {n t:List UInt8} {y1 y2:TF} {z1 z2:aa} (h1:RX T N most y1 z1) (h2:RX T N most y2 z2):RX T N most (gi 11 n 0 t [y1,y2] []) (.mk 11 n 0 t 0 [z1,z2] []):=by
  refine T7 (g:=fK [108,101,116]) hT hN (fun K d hK hd=> ?_) rfl
  cases K with
  |zero=>omega
  |succ K=>
   have hs:=cU (N:=N) hT most K (d+1);refine km (Nat.le_add_right _ _) fun nW=>cj fun w hw=>gk (bX _) rfl ?_
   unfold vT;refine gk (bX _) rfl (nS (nS (eR rfl ?_)));exact gj (nq hT hN h1 (by omega) nW) (fun _ =>ab.step (aK hT _) (ab.bind hs fun _ =>ab.ret _)) (fun a ha=>eR (g:=fK [105,110]) rfl (gB (nq hT hN h2 (by omega) nW) (fun b hb=>by rw[aa.er,aa.fW,aa.fW,aa.fW,aa.CO,ha,hb]) (fun _ h=>h) (by omega))) (dE rfl) rfl (by simp only[List.getD_cons_zero,List.getD_cons_succ];omega)
theorem YB {n:List UInt8} {y1:TF} {z1:aa} (h1:RX T N most y1 z1):RX T N most (gi 8 n 0 [] [y1] []) (.mk 8 n 0 [] 0 [z1] []):=by
  refine T7 (g:=fK [102,117,110]) (r:=w9 n::cf [45,62]::y1.at 0) (q:=y1.qa 0+1) hT hN (fun K d hK hd=> ?_) rfl
  cases K with
  |zero=>omega
  |succ K=>
   refine km (Nat.le_add_right _ _) fun nW=>cj fun w hw=>b7 (bX _) rfl<|gk (bX _) rfl ?_
   unfold xV;exact nS (eR rfl (gB (nq hT hN h1 (by omega) nW) (fun b hb=>er1 hb) (fun _ h=>h) (by omega)))
theorem adQ {y1 y2 y3:TF} {z1 z2 z3:aa} (h1:RX T N most y1 z1) (h2:RX T N most y2 z2) (h3:RX T N most y3 z3):RX T N most (gi 12 [] 0 [] [y1,y2,y3] []) (.mk 12 [] 0 [] 0 [z1,z2,z3] []):=by
  refine T7 (g:=fK [105,102]) (r:=y1.at 0++(fK [116,104,101,110]::(y2.at 0++(fK [101,108,115,101]::y3.at 0)))) (q:=max (y1.qa 0+1) (max (y2.qa 0+1) (y3.qa 0+1))) hT hN (fun K d hK hd=> ?_) rfl
  cases K with
  |zero=>omega
  |succ K=>
   have hs:=cU (N:=N) hT most K (d+1);refine km (Nat.le_add_right _ _) fun nW=>cj fun w hw=>b7 (bX _) rfl<|b7 (bX _) rfl<|gk (bX _) rfl ?_
   unfold Fs
   exact gj (nq hT hN h1 (by omega) nW) (fun _ =>ab.step (aK hT _) (ab.bind hs fun _ =>ab.step (aK hT _) (ab.bind hs fun _ =>ab.ret _)))
     (fun a ha=>eR (g:=fK [116,104,101,110]) rfl (gj (nq hT hN h2 (by omega) nW) (fun _ =>ab.step (aK hT _) (ab.bind hs fun _ =>ab.ret _)) (fun b hb=>eR (g:=fK [101,108,115,101]) rfl (gB (nq hT hN h3 (by omega) nW) (fun c hc=>by rw[aa.er,aa.fW,aa.fW,aa.fW,aa.fW,aa.CO,ha,hb,hc]) (fun _ h=>h) (by omega))) (dE rfl) rfl rfl)) (dE rfl) rfl (by omega)
theorem YC {y1 y2:TF} {z1:ae} {z2:aa} (h1:tc T N most y1 z1) (h2:RX T N most y2 z2) {K d:Nat} (hK:most+2<=K+(d+1)) (hd:d<=most):Rd T most d al.er (iH T (p7 T N most K (d+1)) (gE T N most K (d+1))) (rz (y1,y2)) (.mk z1 z2) (d+uI (y1,y2)) xe:=by
 have hs:=cU (N:=N) hT most K (d+1);exact gj (((h1.e K (d+1) hK (by omega)).low (Nat.zero_le d)).cast rfl (D':=d+(y1.qa 0+1)) (by omega)) (fun _=>ab.step (aK hT _) (ab.bind hs fun _=>ab.ret _)) (fun a ha=>eR (g:=cf [45,62]) rfl (gB (nq hT hN h2 hK hd) (fun b hb=>by rw[al.er,ha,hb]) (fun _ h=>h) (by omega))) (dE rfl) rfl (by simp only[uI];omega)
theorem Oy {y1:TF} {z1:aa} (h1:RX T N most y1 z1) {a:al} {l:List al} (ha:∀K d,most+2≤K+(d+1)→d≤most→Rd T most d al.er (iH T (p7 T N most K (d+1)) (gE T N most K (d+1))) (rz a.tf) a.er (d+uI a.tf) xe)
    (hl:∀x∈l,∀K d,most+2≤K+(d+1)→d≤most→Rd T most d al.er (iH T (p7 T N most K (d+1)) (gE T N most K (d+1))) (rz x.tf) x.er (d+uI x.tf) xe):
    RX T N most (gi 13 [] 0 [] [y1] (aa.yl (a::l))) (.mk 13 [] 0 [] 0 [z1] (aa.CO (a::l))):=by
  have et:gi 13 [] 0 [] [y1] (aa.yl (a::l))=⟨fK [109,97,116,99,104]::(y1.at 0++(fK [119,105,116,104]::cf [124]::((rz a.tf++(l.map fun x=>cf [124]::rz x.tf).flatten)++[fK [101,110,100]]))),0,false,max (y1.qa 0+1) (fV (fun x=>uI x.tf) (a::l))⟩:=by
    have e1:((aa.yl (a::l)).map AD).flatten++[fK [101,110,100]]=cf [124]::((rz a.tf++(l.map fun x=>cf [124]::rz x.tf).flatten)++[fK [101,110,100]]):=by
      rw[aa.MX,List.map_map,List.map_cons,List.flatten_cons];simp only[AD,rz,List.cons_append,List.append_assoc,Function.comp_apply]
      rfl
    have e2:fV (fun a:TF×TF=>max (a.1.qa 0+1) (a.2.qa 0+1)) (aa.yl (a::l))=fV (fun x=>uI x.tf) (a::l):=by
      rw[aa.MX,uE];rfl
    have e0:gi 13 [] 0 [] [y1] (aa.yl (a::l))=⟨fK [109,97,116,99,104]::(y1.at 0++(fK [119,105,116,104]::(((aa.yl (a::l)).map AD).flatten++[fK [101,110,100]]))),0,false,max (y1.qa 0+1) (fV (fun a:TF×TF=>max (a.1.qa 0+1) (a.2.qa 0+1)) (aa.yl (a::l)))⟩:=rfl;rw[e0,e1,e2]
  rw[et];refine T7 hT hN (fun K d hK hd=> ?_) rfl
  cases K with
  |zero=>omega
  |succ K=>
   have hs:=cU (N:=N) hT most K (d+1);have hp:=mP (N:=N) hT most K (d+1);have dJ:=pr hT hp hs;refine km (Nat.le_add_right _ _) fun nW=>cj fun w hw=>b7 (bX _) rfl<|b7 (bX _) rfl<|b7 (bX _) rfl<|gk (bX _) rfl ?_
   have hK2:most+2≤K+(d+1):=by omega
   refine fun s g r hc dN kz hr ia=> ?_
   have hlen:l.length≤N:=by
     have :=lG hr;have h3:=pH (f:=fun x=>cf [124]::rz (al.tf x)) (l:=l) fun x hx=>⟨_,_,rfl⟩
     simp only[List.length_append,List.length_cons]at this;omega
   have ba:∀n,ab T (many (aL T [124]) (bT (iH T (p7 T N most K (d+1)) (gE T N most K (d+1)))) n):=fun n=>ab.gp hT (aB T [124]) dJ n
   have jF:DA T most d al.er (bT (iH T (p7 T N most K (d+1)) (gE T N most K (d+1)))) xe (fun x=>d+uI (al.tf x)) (fun x=>cf [124]::rz (al.tf x)) al.er l:=qj fun x hx=>sk (hl x hx K d hK2 nW)
   have hm:=nU (ok:=fun h=>decide (h=fK [101,110,100])) (bX [124]) ba (fun h hh=>by rw[decide_eq_true_eq]at hh;subst hh;rfl) (fun h hh=>by rw[decide_eq_true_eq]at hh;subst hh;rfl) l N jF hlen (fun a ha=>⟨_,_,rfl,rfl,rfl⟩);have e0:uD d (fun x:al=>d+uI x.tf) l=d+fV (fun x=>uI x.tf) l:=sn _ _ _;rw[e0]at hm
   have hA:Rd T most d (fun l:List al=>l.map al.er) (pf T N (iH T (p7 T N most K (d+1)) (gE T N most K (d+1)))) (rz a.tf++(l.map fun x=>cf [124]::rz x.tf).flatten) ((a::l).map al.er) (d+fV (fun x=>uI x.tf) (a::l)) (fun h=>decide (h=fK [101,110,100])):=
     gj (ha K d hK2 nW) (fun _ =>ab.bind (ba N) fun _ =>ab.ret _) (fun a' ha'=>gB hm (fun l' iy=>by rw[List.map_cons,List.map_cons,ha',iy]) (fun _ h=>h) (by omega)) (by
       cases l with
       |nil=>exact yq fun h hh=>by rw[decide_eq_true_eq]at hh;subst hh;rfl
       |cons b l=>exact dE rfl) rfl (by rw[fV];omega)
   refine gj (ok:=xe) (nq hT hN h1 hK2 nW) (fun _ =>ab.step (aK hT _) (ab.step (aK hT _) (ab.bind (ab.eJ (ub hT dJ) (ab.ret _)) fun _ =>ab.step (aK hT _) (ab.ret _)))) (fun x hx=>eR (g:=fK [119,105,116,104]) rfl<|eR (g:=cf [124]) rfl<|
     gj (Lb adN (fun _ _ =>rfl) hA) (fun _ =>ab.step (aK hT _) (ab.ret _)) (fun l' iy=>eR (g:=fK [101,110,100]) rfl (dB ?_)) (dE rfl) rfl (Nat.max_eq_left (by omega))) (dE rfl) rfl ?_ s g r hc dN kz hr ia
   · rw[aa.er,aa.fW,aa.fW,aa.MV,aa.MV,hx,iy]
   · omega
theorem RX.adR:∀l:List al,(∀x∈l,tc T N most x.tf.1 (match x with| .mk p e=>p.er)/\RX T N most x.tf.2 (match x with| .mk p e=>e.er))->∀x∈l,∀K d,most+2<=K+(d+1)->d<=most->Rd T most d al.er (iH T (p7 T N most K (d+1)) (gE T N most K (d+1))) (rz x.tf) x.er (d+uI x.tf) xe:=by
 intro l h x hx K d hK hd;obtain⟨h1,h2⟩:=h x hx
 cases x with
 |mk p e=>exact YC hT hN h1 h2 hK hd
mutual
theorem aa.rt:∀t:aa,t.okB=true →RX T N most t.tf t.er
  | .mk k n u t p ks aM,h=>by
    rw[aa.okB,Bool.and_eq_true,Bool.and_eq_true]at h;have ih:=aa.Io ks h.2.1;have ihA:=RX.adR hT hN aM (aa.rtA aM h.2.2);have hk:=h.1;unfold pB at hk;rw[aa.tf,aa.er];by_cases Gf:k=13
    · subst Gf;simp at hk
      obtain⟨⟨hm,rfl,rfl,rfl⟩,-,ha⟩:=hk;obtain⟨a,rfl⟩:=nV (by simpa using hm);rcases aM with _|⟨b,l⟩
      · simp at ha
      · exact Oy hT hN (ih a (by simp)) (ihA b (by simp)) (fun x hx=>ihA x (by simp[hx]))
    have hA:aM=[]:=by
      simp only[Bool.and_eq_true]at hk;have :=hk.2.2;simp[Gf]at this;exact this
    subst hA
    replace hk:=(Bool.and_eq_true _ _ ▸hk).1
    by_cases h1:k=1
    · subst h1;simp at hk
      obtain⟨rfl,rfl,-,rfl⟩:=hk;exact Yt hT hN
    by_cases h2:k=2
    · subst h2;simp at hk
      obtain⟨rfl,rfl,rfl,-⟩:=hk;exact Yu hT hN
    by_cases h3:k=3
    · subst h3;simp at hk
      obtain⟨rfl,rfl,⟨h4,h5⟩,rfl⟩:=hk;exact T8 hT hN h4 h5
    by_cases h4:k=4
    · subst h4;simp at hk
      obtain⟨rfl,rfl,rfl,rfl⟩:=hk;exact T9 hT hN
    by_cases h5:k=5
    · subst h5;simp at hk
      obtain⟨rfl,-,rfl,rfl⟩:=hk;exact Yv hT hN
    by_cases h6:k=6
    · subst h6;simp at hk
      obtain⟨hm,-,rfl,rfl⟩:=hk;rcases ks with _|⟨a,_|⟨b,l⟩⟩
      · exact Ow hT hN
      · exact Ox hT hN (ih a (by simp))
      · simp at hm;omega
    by_cases h7:k=7
    · subst h7;simp at hk
      obtain⟨a,b,l,rfl⟩:=CQ (l:=ks) (by have :=hk.1;omega);obtain⟨-,rfl,rfl,rfl⟩:=hk;exact Yw hT hN (by simp) (ih a (by simp)) (fun x hx=>ih x (by simp[hx]))
    by_cases h8:k=8
    · subst h8;simp at hk
      obtain⟨hm,-,rfl,rfl⟩:=hk;obtain⟨a,rfl⟩:=nV (by simpa using hm);exact YB hT hN (ih a (by simp))
    by_cases h9:k=9
    · subst h9;simp at hk
      obtain⟨hm,rfl,rfl,rfl⟩:=hk;obtain⟨a,b,rfl⟩:=l9 hm;exact Yy hT hN (ih a (by simp)) (ih b (by simp))
    by_cases jt:k=10
    · subst jt;simp at hk
      obtain⟨hm,-,rfl,rfl⟩:=hk;obtain⟨a,b,rfl⟩:=l9 hm;exact Yz hT hN (ih a (by simp)) (ih b (by simp))
    by_cases sf:k=11
    · subst sf;simp at hk
      obtain⟨hm,-,rfl,-⟩:=hk;obtain⟨a,b,rfl⟩:=l9 hm;exact YA hT hN (ih a (by simp)) (ih b (by simp))
    by_cases gv:k=12
    · subst gv;simp at hk
      obtain⟨hm,rfl,rfl,rfl⟩:=hk
      obtain⟨a,b,c,rfl⟩:∃a b c,ks=[a,b,c]:=by
        rcases ks with _|⟨a,_|⟨b,_|⟨c,_|⟨e,l⟩⟩⟩⟩
        · simp at hm
        · simp at hm
        · simp at hm
        · exact⟨a,b,c,rfl⟩
        · simp at hm;omega
      exact adQ hT hN (ih a (by simp)) (ih b (by simp)) (ih c (by simp))
    by_cases si:k=14
    · subst si;simp at hk
      obtain⟨hm,hn,rfl,rfl⟩:=hk;obtain⟨a,b,rfl⟩:=l9 hm;exact adP hT hN hn (ih a (by simp)) (ih b (by simp))
    by_cases DC:k=15
    · subst DC;simp at hk
      obtain⟨hm,rfl,rfl⟩:=hk;rcases kG hm (by omega)with⟨rfl,h0⟩|⟨hp,h0⟩
      · have :=uF (l:=ks) (by simpa using h0)
        subst this;exact Ua hT hN
      · obtain⟨a,rfl⟩:=nV (by simpa using h0)
        exact Ub hT hN hp (ih a (by simp))
    simp[h1,h2,h3,h4,h5,h6,h7,h8,h9,jt,sf,gv,Gf,si,DC]at hk
theorem aa.Io:∀l:List aa,aa.nO l=true →∀x∈l,RX T N most x.tf x.er
  |[],_ =>fun x hx=>by cases hx
  |t::l,h=>fun x hx=>by
   rw[aa.nO,Bool.and_eq_true]at h;rcases List.mem_cons.1 hx with e|hx
   · exact e▸aa.rt t h.1
   · exact aa.Io l h.2 x hx
theorem aa.rtA:∀l:List al,aa.Ie l=true →∀x∈l,tc T N most x.tf.1 (match x with| .mk p e=>p.er)∧RX T N most x.tf.2 (match x with| .mk p e=>e.er)
  |[],_ =>fun x hx=>by cases hx
  | .mk p e::l,h=>fun x hx=>by
    rw[aa.Ie,al.okB,Bool.and_eq_true,Bool.and_eq_true]at h;rcases List.mem_cons.1 hx with e2|hx
    · exact e2▸⟨ae.rt hT hN p h.1.1,aa.rt e h.1.2⟩
    · exact aa.rtA l h.2 x hx
end
end
def ah.q (c:ah):Nat:=if c.has then c.arg.tf.qa 0+1 else 0
def ai.q (d:ai):Nat:=fV ah.q d.ctors
def bb.q (g:bb):Nat:=max (fV ai.q g.types) (g.body.tf.qa 0+1)
def Gg:TK:=(8,[],0)
def Uc (h:TK):Bool:=decide (h=cf [124])||decide (h=cf [59])
theorem CU {h:TK} (k:Uc h=true):h=cf [124]\/h=cf [59]:=by simpa[Uc]using k
theorem Ud {k:Int} {n:List UInt8} {u:Int} {t:List UInt8} {ks:List TF} {aM:List (TF×TF)} (h:(gi k n u t ks aM).l<1):∃g r,(gi k n u t ks aM).f=g::r/\tT [116,121,112,101] g=false:=by
 have ho:1<=(iR n).1:=by unfold iR;(repeat' split)<;>decide
 unfold gi at h⊢;by_cases h1:k=1
 ·rw[if_pos h1]at h;simp at h
 rw[if_neg h1]at h⊢;by_cases h2:k=2
 ·rw[if_pos h2]at h;simp at h
 rw[if_neg h2]at h⊢;by_cases h3:k=3
 ·rw[if_pos h3]at h;simp at h
 rw[if_neg h3]at h⊢;by_cases h4:k=4
 ·rw[if_pos h4]at h;simp at h
 rw[if_neg h4]at h⊢;by_cases h5:k=5
 ·rw[if_pos h5]at h;simp at h
 rw[if_neg h5]at h⊢;by_cases h7:k=7
 ·rw[if_pos h7]at h;simp at h
 rw[if_neg h7]at h⊢;by_cases si:k=14
 ·rw[if_pos si]at h;simp only[]at h;omega
 rw[if_neg si]at h⊢;by_cases h6:k=6\/k=15
 ·rw[if_pos h6]at h;split at h<;>simp at h
 rw[if_neg h6]at h⊢;by_cases h9:k=9
 ·rw[if_pos h9]at h;simp at h
 rw[if_neg h9]
 repeat' split
 all_goals exact⟨_,_,rfl,rfl⟩
theorem Ue {T:List Tok} {N:Nat} (hT:bL T) (hN:T.length<=N) (x:aa) (h:x.okB=true):∃g r,x.tf.at 0=g::r/\tT [116,121,112,101] g=false:=by
 obtain⟨g,r,e,hg⟩:=(aa.rt (most:=0) hT hN x h).h1 1 (by decide);unfold TF.at at e⊢;by_cases h0:x.tf.l<0
 ·rw[if_pos h0];exact⟨_,_,rfl,rfl⟩
 rw[if_neg h0];by_cases h1:x.tf.l<1
 ·revert h1
  rcases x with⟨k,n,u,t,p,ks,aM⟩
  rw[aa.tf];exact Ud
 ·rw[if_neg h1]at e
  refine⟨g,r,e,?_⟩;obtain⟨k,t,n⟩:=g;rw[Bool.eq_false_iff];intro ht;simp only[tT,Bool.and_eq_true,Bool.or_eq_true,decide_eq_true_eq]at ht;obtain⟨hk,rfl⟩:=ht;rcases hk with rfl|rfl<;>simp[xf,xc,K9,tT,tK]at hg
section
variable {T:List Tok} {N most K:Nat} (hT:bL T) (hN:T.length<=N) (hK:most+2<=K+1)
include hT hN hK
theorem Iq {c:ah} (h:c.okB=true):Rd T most 0 ah.er (fS T (pU T N most K 1)) c.eY c.er c.q Uc:=by
 simp only[ah.okB,Bool.and_eq_true]at h;obtain⟨h1,h2,h3⟩:=h;unfold ah.eY ah.q;have hs:=iJ (N:=N) hT most K 1;by_cases hh:c.has=true
 ·rw[if_pos hh]at h3⊢
  rw[if_pos hh];have ht:=(af.rt (most:=most) hT hN c.arg h3).e K 1 hK (by omega);refine cj fun w hw=>nS (gk (bX [111,102]) (g:=fK [111,102]) rfl ((gB (ok:=Uc) (er:=ah.er) (x:=c.er) ht (fun x hx=>?_) (fun h hh=>?_) (Nat.zero_le _)).cast rfl (by omega)))
  ·simp only[ah.er,hx,hh]
  ·rcases CU hh with rfl|rfl<;>rfl
 ·rw[if_neg hh]at h3⊢
  rw[if_neg hh];refine cj fun w hw=>nS (F8 (bX _) (fun h hh=>?_) (dB ?_))
  ·rcases CU hh with rfl|rfl<;>rfl
  ·have:c.arg=Du:=by
    revert h3;rcases c.arg with⟨k,n,p,ks⟩
    intro h3;simp only[af.Ig,Bool.and_eq_true,decide_eq_true_eq]at h3;obtain⟨rfl,rfl,rfl,h4⟩:=h3;have:ks=[]:=List.length_eq_zero_iff.1 (by simpa using h4);rw[this];rfl
   simp only[ah.er,this,hh]
theorem Uf {d:ai} (h:d.okB=true) {ok:TK->Bool}:Rd T most 0 ai.er (jg T N (pU T N most K 1)) d.eY d.er d.q ok:=by
 simp only[ai.okB,Bool.and_eq_true]at h;obtain⟨h1,h2,h3,h4,h5⟩:=h;have hs:=iJ (N:=N) hT most K 1;have YD:=j8 hT hs
 obtain⟨a,l,Ug⟩:∃a l,d.ctors=a::l:=by
  rcases hd:d.ctors with _|⟨a,l⟩
  ·rw[hd]at h3;simp at h3
  ·exact⟨a,l,rfl⟩
 rw[Ug,List.all_cons,Bool.and_eq_true]at h5
 have et:d.eY=fK [116,121,112,101]::((d.vars.map fun v=>[Dz v]).flatten++(w9 d.name::cf [61]::(a.eY++((l.map fun x=>cf [124]::x.eY).flatten++[cf [59]])))):=by
  have e1:∀l:List (List UInt8),(l.map fun v=>[Dz v]).flatten=l.map Dz:=fun l=>by
   induction l with
   |nil=>rfl
   |cons a l ih=>rw[List.map_cons,List.flatten_cons,ih];rfl
  unfold ai.eY;rw[Ug,List.map_cons,ry,List.map_map,e1,List.append_assoc];rfl
 rw[et];refine cj fun w hw=>eR rfl fun s g r hc dN kz hr ia=>?_
 have zQ:d.vars.length<=N:=by
  have:=lG hr;have h3:=pH (f:=fun v:List UInt8=>[Dz v]) (l:=d.vars) fun x hx=>⟨_,_,rfl⟩
  simp only[List.length_append]at this;omega
 have hlc:l.length<=N:=by
  have:=lG hr;have h3:=pH (f:=fun x:ah=>cf [124]::x.eY) (l:=l) fun x hx=>⟨_,_,rfl⟩
  simp only[List.length_append,List.length_cons]at this;omega
 have hv:=nU (er:=fun v:List UInt8=>v) (lo:=0) (most:=most) (ok:=fun h=>!tK 5 h) (ok0:=fun _=>true) (cI (T:=T) 5) (fun n=>ab.many (cC T (by decide)) (ab.word hT (by decide)) n) (fun h hh=>by simpa using hh) (fun _ _=>rfl) d.vars N
  (qj (D:=fun _=>0) (f:=fun v:List UInt8=>[Dz v]) (e:=fun v=>v) fun v hv=>(nS (k:=5) (m:=fun n=>aT n) (dB rfl):)) zQ (fun v hv=>⟨_,_,rfl,rfl,rfl⟩)
 have e0:∀l:List (List UInt8),uD 0 (fun _=>0) l=0:=fun l=>by
  induction l with
  |nil=>rfl
  |cons a l ih=>rw[uD,ih];rfl
 rw[e0]at hv;have gQ:DA T most 0 ah.er (bT (fS T (pU T N most K 1))) Uc ah.q (fun x=>cf [124]::x.eY) ah.er l:=qj fun x hx=>sk (Iq hT hN hK (List.all_eq_true.1 h5.2 x hx))
 have hm:=nU (ok:=fun h=>decide (h=cf [59])) (bX [124]) (fun n=>ab.gp hT (aB T [124]) YD n) (fun h hh=>by rw[decide_eq_true_eq]at hh;subst hh;rfl) (fun h hh=>by rw[decide_eq_true_eq]at hh;subst hh;rfl) l N gQ hlc (fun a ha=>⟨_,_,rfl,rfl,rfl⟩);have e1:uD 0 ah.q l=fV ah.q l:=by have:=sn 0 ah.q l;simpa using this
 rw[e1]at hm
 have agW:∀vs n,ab T (cz (aX T [61])<|aH (fS T (pU T N most K 1)) fun c=>aH (many (aL T [124]) (bT (fS T (pU T N most K 1))) N) fun cs=>cz (aX T [59])<|aT (⟨n,vs,c::cs,w.p⟩:ai)):=fun vs n=>
  ab.step (aK hT _) (ab.bind YD fun _=>ab.bind (ab.gp hT (aB T _) YD N) fun _=>ab.step (aK hT _) (ab.ret _))
 refine gj (ok:=ok) (er:=ai.er) (x:=d.er) (D:=d.q) hv (fun vs=>ab.bind (ab.word hT (by decide)) fun n=>agW vs n) (fun vs WR=>nS (eR (g:=cf [61]) rfl ?_)) (dE rfl) rfl (D2:=d.q) (Nat.max_eq_right (Nat.zero_le _)) s g r hc dN kz hr ia;refine gj (Iq hT hN hK h5.1) (fun _=>ab.bind (ab.gp hT (aB T _) YD N) fun _=>ab.step (aK hT _) (ab.ret _)) (fun c hc=>gj hm (fun _=>ab.step (aK hT _) (ab.ret _)) (fun cs gQ=>eR (g:=cf [59]) rfl (dB ?_)) (dE rfl) rfl (Nat.max_eq_left (Nat.zero_le _))) ?_ rfl ?_
 ·simp only[ai.er,Ug,List.map_cons,hc,gQ]
  simp at WR;rw[WR]
 ·cases l with
  |nil=>exact dE rfl
  |cons b l=>exact dE rfl
 ·rw[ai.q,Ug,fV]
theorem Ir {g:bb} (h:g.okB=true):Rd T most 0 bb.er (pj T N (pU T N most K 1) (gE T N most K 1)) g.eY g.er g.q (fun h=>decide (h=Gg)):=by
 simp only[bb.okB,Bool.and_eq_true]at h;obtain⟨h1,h2⟩:=h;have hs:=cU (N:=N) hT most K 1;have hsd:=ug (N:=N) hT (iJ (N:=N) hT most K 1);have hb:=aa.rt (most:=most) hT hN g.body h1;refine fun s h r hc dN kz hr ia=>?_
 have aj:g.types.length<=N:=by
  have:=lG hr;have h3:=pH (f:=fun x:ai=>x.eY) (l:=g.types) fun x hx=>⟨_,_,rfl⟩
  rw[bb.eY]at this;simp only[List.length_append]at this;have e:(g.types.map ai.eY).flatten.length=(g.types.map fun x=>x.eY).flatten.length:=rfl;omega
 have Ck:DA T most 0 ai.er (jg T N (pU T N most K 1)) (fun _=>true) ai.q ai.eY ai.er g.types:=qj fun x hx=>Uf hT hN hK (List.all_eq_true.1 h2 x hx)
 have hm:=nU (ok:=fun h=>!tT [116,121,112,101] h) (bX [116,121,112,101]) (fun n=>ab.many (aB T _) hsd n) (fun h hh=>by simpa using hh) (fun _ _=>rfl) g.types N Ck aj (fun a ha=>⟨_,_,rfl,rfl,rfl⟩);have e1:uD 0 ai.q g.types=fV ai.q g.types:=by have:=sn 0 ai.q g.types;simpa using this
 rw[e1]at hm
 have agX:∀(ds:List ai) (e:aa),ds.map ai.er=g.types.map ai.er->e.er=g.body.er->Rd T most 0 bb.er (cz (iU T)<|aT (⟨ds,e⟩:bb)) [] g.er 0 (fun h=>decide (h=Gg)):=fun ds e Ck he s h r hc dN hd hr hk=>by
  have:iU T s=s:=by
   unfold iU;rw[if_pos];rw[cI 8 s h r hc hr];rw[decide_eq_true_eq]at hk;subst hk;rfl
  unfold cz;rw[this];exact dB (er:=bb.er) (ok:=fun h=>decide (h=Gg)) (by simp only[bb.er,Ck,he]) s h r hc dN hd hr hk
 obtain⟨h0,r0,e0,hh0⟩:∃h r,g.body.tf.at 0=h::r/\tT [116,121,112,101] h=false:=Ue hT hN g.body h1;refine gj (er:=bb.er) (x:=g.er) (ok:=fun h=>decide (h=Gg)) hm (fun _=>ab.bind hs fun _=>ab.step (u9 T) (ab.ret _)) (fun ds Ck=>gj (hb.e K 1 hK (by omega)) (fun _=>ab.step (u9 T) (ab.ret _)) (fun e he=>agX ds e Ck he) (yq fun h hh=>by rw[decide_eq_true_eq]at hh;subst hh;rfl) (List.append_nil _) (D:=g.body.tf.qa 0+1) (by omega)) (by rw[e0];exact dE (by rw[hh0];rfl)) rfl rfl s h r hc dN kz hr ia
end
theorem Is {α β:Type} {T:List Tok} {most:Nat} {er:α->β} {m:PM α} {ts:List TK} {x:β} {D:Nat} (h:Rd T most 0 er m ts x D (fun h=>decide (h=Gg))) (hT:T.map Tok.b=ts++[Gg]):
  (D<=most/\∃y,er y=x/\told m=.inl y/\(m ⟨0,0,0,0,0⟩).2.d=D/\(m ⟨0,0,0,0,0⟩).2.c=0)\/(most<D/\∃q,told m=.inr (12,q)):=by
 rcases h ⟨0,0,0,0,0⟩ Gg [] rfl (Nat.le_refl _) (Nat.zero_le _) hT (by decide)with⟨h1,y,h2,h3⟩|⟨h1,h2,h3⟩
 ·refine .inl ⟨h1,y,h2,?_,?_,?_⟩
  ·unfold told;rw[h3];rfl
  ·rw[h3];exact Nat.max_eq_right (Nat.zero_le _)
  ·rw[h3];rfl
 ·refine .inr ⟨h1,(m ⟨0,0,0,0,0⟩).2.ps,?_⟩
  unfold told;simp only[h2]
  rfl
def QL (y:TF):Prop:=y.q<=y.f.length
theorem QL.at {y:TF} (h:QL y) (a:Int):y.qa a<=(y.at a).length:=by
 unfold QL at h;unfold TF.qa TF.at;split
 ·simp;omega
 ·exact h
theorem adS:QL .no:=Nat.le_refl _
theorem CV {l:List TF} (h:∀x∈l,QL x) (i:Nat):QL (l.getD i .no):=by
 rw[List.getD_eq_getElem?_getD];rcases hi:l[i]?with _|x
 ·exact adS
 ·exact h x (List.mem_of_getElem? hi)
theorem yz {sep:TK} {a:Int}:∀{l:List TF},(∀x∈l,QL x)→fV (·.qa a) l≤(kT sep (l.map (·.at a))).length
  |[],_ =>Nat.zero_le _
  |[x],h=>by
   have :=(h x (by simp)).at a;show max _ 0≤_
   simp only[List.map_cons,List.map_nil,kT];omega
  |x::y::l,h=>by
   have h1:=(h x (by simp)).at a;have h2:=yz (sep:=sep) (a:=a) (l:=y::l) fun z hz=>h z (by simp at hz⊢;right;exact hz)
   rw[fV];simp only[List.map_cons,lZ]at h2⊢;rw[List.length_append,List.length_cons];omega
theorem It {a:Int}:∀{l:List TF},(∀x∈l,QL x)→fV (·.qa a) l≤((l.map (·.at a)).flatten).length
  |[],_ =>Nat.zero_le _
  |x::l,h=>by
   have h1:=(h x (by simp)).at a;have h2:=It (a:=a) (l:=l) fun z hz=>h z (by simp[hz])
   rw[fV,List.map_cons,List.flatten_cons,List.length_append];omega
theorem zR {α:Type} (f:α->Nat):∀l:List α,fV (fun x=>f x+1) l<=fV f l+1
 |[]=>Nat.zero_le _
 |a::l=>by have:=zR f l;simp only[fV];omega
theorem adT {k:Int} {n:List UInt8} {ks:List TF} (h:∀x∈ks,QL x):QL (uC k n ks):=by
 have g:=fun i a=>(CV h i).at a
 have hj:=yz (sep:=cf [42]) (a:=2) h;have hf:=It (a:=3) h;have:=g 0 1;have:=g 1 0;have:=g 0 3;unfold QL uC
 repeat' split
 all_goals simp only[List.length_append,List.length_cons,List.length_nil]
 all_goals omega
mutual
theorem af.ql:∀t:af,QL t.tf
 | .mk k n p ks=>by rw[af.tf];exact adT (af.Iu ks)
theorem af.Iu:∀l:List af,∀x∈af.lp l,QL x
  |[]=>fun x hx=>by cases hx
  |t::l=>fun x hx=>by
   rcases List.mem_cons.1 hx with e|hx
   · exact e▸af.ql t
   · exact af.Iu l x hx
end
theorem YE {k:Int} {n:List UInt8} {u:Int} {ks:List TF} (h:∀x∈ks,QL x):QL (nP k n u ks):=by
 have g:=fun i a=>(CV h i).at a
 have hj:=yz (sep:=cf [44]) (a:=0) h;have hs:=zR (·.qa 0) ks;have:=g 0 1;unfold QL nP
 repeat' split
 all_goals simp only[List.length_append,List.length_cons,List.length_nil]
 all_goals omega
mutual
theorem ae.ql:∀t:ae,QL t.tf
 | .mk k n u p ks=>by rw[ae.tf];exact YE (ae.Iu ks)
theorem ae.Iu:∀l:List ae,∀x∈ae.lp l,QL x
  |[]=>fun x hx=>by cases hx
  |t::l=>fun x hx=>by
   rcases List.mem_cons.1 hx with e|hx
   · exact e▸ae.ql t
   · exact ae.Iu l x hx
end
theorem Iv:∀{l:List (TF×TF)},(∀x∈l,QL x.1∧QL x.2)→fV (fun a=>max (a.1.qa 0+1) (a.2.qa 0+1)) l≤((l.map AD).flatten).length
  |[],_ =>Nat.zero_le _
  |x::l,h=>by
   have h1:=(h x (by simp)).1.at 0;have h3:=(h x (by simp)).2.at 0;have h2:=Iv (l:=l) fun z hz=>h z (by simp[hz])
   rw[fV,List.map_cons,List.flatten_cons,List.length_append,AD];simp only[List.length_cons,List.length_append];omega
theorem YF {c:Prop} [Decidable c] {a b:TF} (h1:QL a) (h2:QL b):QL (if c then a else b):=by split <;>assumption
theorem YG {k:Int} {n:List UInt8} {u:Int} {t:List UInt8} {ks:List TF} {aM:List (TF×TF)} (h:∀x∈ks,QL x) (hA:∀x∈aM,QL x.1/\QL x.2):QL (gi k n u t ks aM):=by
 have g:=fun i a=>(CV h i).at a
 have hj:=yz (sep:=cf [44]) (a:=0) h;have hs:=zR (·.qa 0) ks;have ha:=Iv hA;have:=g 0 0;have:=g 1 0;have:=g 2 0;have:=g 0 6;have:=g 1 6;have:=g 0 (if(ks.getD 0 .no).b then 7 else 5);have:=g 0 (iR n).2.1;have:=g 1 (iR n).2.2;unfold gi
 repeat' refine YF ?_ ?_
 all_goals (unfold QL;try simp only[List.length_append,List.length_cons,List.length_nil])
 all_goals omega
mutual
theorem aa.ql:∀t:aa,QL t.tf
 | .mk k n u t p ks aM=>by rw[aa.tf];exact YG (aa.Iu ks) (aa.qlA aM)
theorem aa.Iu:∀l:List aa,∀x∈aa.lp l,QL x
  |[]=>fun x hx=>by cases hx
  |t::l=>fun x hx=>by
   rcases List.mem_cons.1 hx with e|hx
   · exact e▸aa.ql t
   · exact aa.Iu l x hx
theorem aa.qlA:∀l:List al,∀x∈aa.yl l,QL x.1∧QL x.2
  |[]=>fun x hx=>by cases hx
  | .mk p e::l=>fun x hx=>by
    rcases List.mem_cons.1 hx with e2|hx
    · rw[e2,al.tf];exact⟨ae.ql p,aa.ql e⟩
    · exact aa.qlA l x hx
end
theorem ah.ql (c:ah):c.q<=c.eY.length:=by
 have:=(af.ql c.arg).at 0;unfold ah.q ah.eY;split
 ·simp only[List.length_cons];omega
 ·exact Nat.zero_le _
theorem EK:∀l:List ah,fV ah.q l≤(kT (cf [124]) (l.map ah.eY)).length
  |[]=>Nat.zero_le _
  |[x]=>by have :=ah.ql x;show max _ 0≤_;simp only[List.map_cons,List.map_nil,kT];omega
  |x::y::l=>by
   have h1:=ah.ql x;have h2:=EK (y::l);rw[fV];simp only[List.map_cons,lZ]at h2⊢;rw[List.length_append,List.length_cons];omega
theorem EL:∀l:List ai,fV ai.q l≤((l.map ai.eY).flatten).length
  |[]=>Nat.zero_le _
  |d::l=>by
   have h1:=EK d.ctors;have h2:=EL l;rw[fV,List.map_cons,List.flatten_cons,List.length_append,ai.q,ai.eY];simp only[List.length_cons,List.length_append];omega
theorem bb.ql (g:bb):g.q<=g.eY.length+1:=by
 have h1:=EL g.types;have h2:=(aa.ql g.body).at 0;unfold bb.q bb.eY;rw[List.length_append];omega
def bb.nest (g:bb):Nat:=if g.okB then g.q else 0
theorem Iw {g:bb} (h:g.okB=true) (hf:g.body.fit):∃T,eB g.form (g.form.length+1) 0 []=.inl T/\bL T/\T.length<=g.form.length+1/\
  (pj T T.length (pU T T.length (T.length+1) (T.length+2) 1) (gE T T.length (T.length+1) (T.length+2) 1) ⟨0,0,0,0,0⟩).2.d=g.q:=by
 have Oz:=bb.lx h hf
 have hl:g.eY.length<=g.form.length:=by
  rcases zO Oz rfl g.eY.length with⟨-,T,h1,h2⟩|⟨h1,-⟩
  ·have:=(zj _ _ _ _ (Nat.le_refl _) (by simp) h2).2
   have e:T.length=g.eY.length+1:=by have:=congrArg List.length h1;simpa using this
   simp at this;omega
  ·omega
 rcases zO Oz rfl (g.form.length+1)with⟨-,T,h1,h2⟩|⟨h1,-⟩
 ·obtain⟨hT,hlT⟩:=zj _ _ _ _ (Nat.le_refl _) (by simp) h2
  have e:T.length=g.eY.length+1:=by have:=congrArg List.length h1;simpa using this
  have hq:=bb.ql g;refine⟨T,h2,hT,by simpa using hlT,?_⟩;rcases Is (Ir (most:=T.length+1) (K:=T.length+2) hT (Nat.le_refl _) (by omega) h) h1 with⟨-,y,-,-,k,-⟩|⟨k,-⟩
  ·exact k
  ·omega
 ·omega
theorem Lf {out:List Tok} {n m:Int} (h:bL (out++[⟨8,[],0,n⟩])):bL (out++[⟨8,[],0,m⟩]):=by
 refine⟨by simp,fun i x hx=>?_,fun x hx hk=>?_⟩
 ·rcases Nat.lt_or_ge i out.length with hi|hi
  ·rw[List.getElem?_append_left hi]at hx
   have:=h.fin i x (by rw[List.getElem?_append_left hi];exact hx);simpa using this
  ·rw[List.getElem?_append_right hi]at hx
   have h0:i-out.length=0:=by
    rcases Nat.eq_zero_or_pos (i-out.length)with h|h
    ·exact h
    ·rw[List.getElem?_eq_none (by simp;omega)]at hx;cases hx
   rw[h0]at hx;cases hx;simp;omega
 ·rcases List.mem_append.1 hx with hx|hx
  ·exact h.key x (List.mem_append.2 (.inl hx)) hk
  ·simp at hx;subst hx;cases hk
theorem OA {g:bb} (h:g.okB=true) (hf:g.body.fit) {out:List Tok} {n:Int} (hl:eB g.form (g.form.length+1) 0 []=.inl (out++[⟨8,[],0,n⟩])) (hF:g.form.length<=1073741824) {T:List Tok} (hTe:T=out++[⟨8,[],0,0⟩]):
  bL T/\(pj T T.length (NO T T.length 1099511627776 1099511627777) (Es T T.length 1099511627776 1099511627777) ⟨0,0,0,0,0⟩).2.d=g.q:=by
 have Oz:=bb.lx h hf;rcases zO Oz rfl (g.form.length+1)with⟨-,T1,h1,h2⟩|⟨h1,_,h2⟩
 rotate_left
 ·rw[hl]at h2
  cases h2
 rw[hl]at h2;obtain rfl:=Sum.inl.inj h2;obtain⟨hT,hlT⟩:=zj _ _ _ _ (Nat.le_refl _) (by simp) hl;have Lg:bL T:=hTe▸Lf hT
 have hb:T.map Tok.b=g.eY++[Gg]:=by
  have h1':(out++[(⟨8,[],0,n⟩:Tok)]).map Tok.b=g.eY++[Gg]:=h1;rw[<-h1',hTe];simp[Tok.b]
 have e:T.length=g.eY.length+1:=by have:=congrArg List.length hb;simpa using this
 have hq:=bb.ql g;have hle:T.length<=g.form.length+1:=by rw[hTe];simp at hlT⊢;omega
 refine⟨Lg,?_⟩;have h0:lR T 0 ⟨0,0,0,0,0⟩ ⟨0,0,0,0,0⟩:=⟨rfl,rfl,rfl,rfl,rfl,Lg.pos⟩;have hS:=QE (N:=T.length) Lg (ME Lg Lg.pos (most:=1099511627776) (lim:=1099511627776) 1099511627777 0 fun e' h1 h2=>by omega) (HD (N:=T.length) Lg (most:=1099511627776) (lim:=1099511627776) 1099511627777 0 fun e' h1 h2=>by omega);rcases Is (Ir (most:=1099511627776) (K:=1099511627777) Lg (Nat.le_refl _) (by omega) h) hb with⟨-,y,-,-,k,kc⟩|⟨k,-⟩
 ·rcases hS.at h0 with⟨-,h3⟩|h3
  ·rw[<-h3.d];exact k
  ·exact absurd kc h3.ne
 ·omega
end Go.Proofs.YtjkbbnfdbfcebaaGreatDoor.Pg
set_option linter.all false
set_option maxRecDepth 100000
namespace Go.Proofs.YtjkbbnfdbfcebaaGreatDoor.Mc
open Go.AM
def M1:bl (Tryz.f18.body.map (compile [0,1,2,5] Tryz.prog 14)):=⟨_,by conv=>lhs;cbv⟩
def Uh:List MR:=[.t 2]
theorem call18:ax Tryz.prog 18 14 M1.m Uh:=M1.call Tryz.func18 (by kernel_rfl)
def Ui:bl (Tryz.f17.body.map (compile [0,1,2] Tryz.prog 12)):=⟨_,by conv=>lhs;cbv⟩
def abH:List MR:=[.t 2]
theorem call17:ax Tryz.prog 17 12 Ui.m abH:=Ui.call Tryz.func17 (by kernel_rfl)
def Uj:bl (Tryz.f48.body.map (compile [0,2,3,5,7,8,10,11,12,13,14,15,21,22,23,24,34,35,36,37,43] Tryz.prog 67)):=⟨_,by conv=>lhs;cbv⟩
def abI:List MR:=[.t 2]
theorem call48:ax Tryz.prog 48 67 Uj.m abI:=Uj.call Tryz.func48 (by kernel_rfl)
def pI:bl (Tryz.f49.body.map (compile [0,1,2,4,5,6,7,8,10,11,16,21,26,28,32,39,69,75,89,110] Tryz.prog 128)):=⟨_,by conv=>lhs;cbv⟩
def qm:List MR:=[.t 4]
theorem call49:ax Tryz.prog 49 128 pI.m qm:=pI.call Tryz.func49 (by kernel_rfl)
def Uk:bl (Tryz.f44.body.map (compile [0,1,2,4,6,9,11,12,13,14,19,22,23,24,25,37] Tryz.prog 39)):=⟨_,by conv=>lhs;cbv⟩
def abJ:List MR:=[.t 2]
theorem call44:ax Tryz.prog 44 39 Uk.m abJ:=Uk.call Tryz.func44 (by kernel_rfl)
def Ul:bl (Tryz.f45.body.map (compile [0,1,4] Tryz.prog 9)):=⟨_,by conv=>lhs;cbv⟩
def abK:List MR:=[.t 4]
theorem call45:ax Tryz.prog 45 9 Ul.m abK:=Ul.call Tryz.func45 (by kernel_rfl)
def Um:bl (Tryz.f46.body.map (compile [0,1,2] Tryz.prog 6)):=⟨_,by conv=>lhs;cbv⟩
def abL:List MR:=[.t 2]
theorem call46:ax Tryz.prog 46 6 Um.m abL:=Um.call Tryz.func46 (by kernel_rfl)
def Un:bl (Tryz.f47.body.map (compile [0,1,2,4,6,7,8,9,41] Tryz.prog 63)):=⟨_,by conv=>lhs;cbv⟩
def abM:List MR:=[.t 2]
theorem call47:ax Tryz.prog 47 63 Un.m abM:=Un.call Tryz.func47 (by kernel_rfl)
def AE:bl (Tryz.f95.body.map (compile [0,1,2,4,6,7,23,30,40,48] Tryz.prog 60)):=⟨_,by conv=>lhs;cbv⟩
def CW:List MR:=[.t 4]
theorem call95:ax Tryz.prog 95 60 AE.m CW:=AE.call Tryz.func95 (by kernel_rfl)
def Uo:bl (Tryz.f98.body.map (compile [0,2,3,4,9,14,21,26] Tryz.prog 39)):=⟨_,by conv=>lhs;cbv⟩
def abN:List MR:=[.t 2]
theorem call98:ax Tryz.prog 98 39 Uo.m abN:=Uo.call Tryz.func98 (by kernel_rfl)
def Up:bl (Tryz.f99.body.map (compile [0,2,4] Tryz.prog 5)):=⟨_,by conv=>lhs;cbv⟩
def abO:List MR:=[.t 2]
theorem call99:ax Tryz.prog 99 5 Up.m abO:=Up.call Tryz.func99 (by kernel_rfl)
def Lh:bl (Tryz.f100.body.map (compile [0,1,2,3,8,9,11,12,13,14,15] Tryz.prog 29)):=⟨_,by conv=>lhs;cbv⟩
def Uq:List MR:=[.t 8]
theorem call100:ax Tryz.prog 100 29 Lh.m Uq:=Lh.call Tryz.func100 (by kernel_rfl)
def Li:bl (Tryz.f101.body.map (compile [0,2,3,4,5,6,8,11] Tryz.prog 13)):=⟨_,by conv=>lhs;cbv⟩
def Ur:List MR:=[.t 2,.t 3,.t 4]
theorem call101:ax Tryz.prog 101 13 Li.m Ur:=Li.call Tryz.func101 (by kernel_rfl)
def Lj:bl (Tryz.f102.body.map (compile [0,1,2,6,9] Tryz.prog 14)):=⟨_,by conv=>lhs;cbv⟩
def Us:List MR:=[.t 6]
theorem call102:ax Tryz.prog 102 14 Lj.m Us:=Lj.call Tryz.func102 (by kernel_rfl)
def xi:bl (Tryz.f103.body.map (compile [0,1,2,3,4,6,9,10,23,40,49,67,68,69,70] Tryz.prog 87)):=⟨_,by conv=>lhs;cbv⟩
def zS:List MR:=[.t 2]
theorem call103:ax Tryz.prog 103 87 xi.m zS:=xi.call Tryz.func103 (by kernel_rfl)
def Ut:bl (Tryz.f84.body.map (compile [0,1,2,3,4,5,6,21,22,27,32,37,39,44,53,59,68,74,83,95,101,107,116] Tryz.prog 150)):=⟨_,by conv=>lhs;cbv⟩
def abP:List MR:=[.t 2]
theorem call84:ax Tryz.prog 84 150 Ut.m abP:=Ut.call Tryz.func84 (by kernel_rfl)
def Uu:bl (Tryz.f85.body.map (compile [0,1,2,3,4,5,17,18,21,26,31,36,42] Tryz.prog 69)):=⟨_,by conv=>lhs;cbv⟩
def abQ:List MR:=[.t 2]
theorem call85:ax Tryz.prog 85 69 Uu.m abQ:=Uu.call Tryz.func85 (by kernel_rfl)
def Uv:bl (Tryz.f86.body.map (compile [0,1,4,5,7,8,9,16] Tryz.prog 19)):=⟨_,by conv=>lhs;cbv⟩
def abR:List MR:=[.t 4]
theorem call86:ax Tryz.prog 86 19 Uv.m abR:=Uv.call Tryz.func86 (by kernel_rfl)
def Uw:bl (Tryz.f87.body.map (compile [0,2] Tryz.prog 5)):=⟨_,by conv=>lhs;cbv⟩
def abS:List MR:=[.t 2]
theorem call87:ax Tryz.prog 87 5 Uw.m abS:=Uw.call Tryz.func87 (by kernel_rfl)
def Ux:bl (Tryz.f88.body.map (compile [0,1,2,3,4,9,10,15,24,30,36] Tryz.prog 57)):=⟨_,by conv=>lhs;cbv⟩
def abT:List MR:=[.t 2]
theorem call88:ax Tryz.prog 88 57 Ux.m abT:=Ux.call Tryz.func88 (by kernel_rfl)
def Uy:bl (Tryz.f89.body.map (compile [0,1,2] Tryz.prog 22)):=⟨_,by conv=>lhs;cbv⟩
def abU:List MR:=[.t 2]
theorem call89:ax Tryz.prog 89 22 Uy.m abU:=Uy.call Tryz.func89 (by kernel_rfl)
def Uz:bl (Tryz.f90.body.map (compile [0,2] Tryz.prog 10)):=⟨_,by conv=>lhs;cbv⟩
def abV:List MR:=[.t 2]
theorem call90:ax Tryz.prog 90 10 Uz.m abV:=Uz.call Tryz.func90 (by kernel_rfl)
def UA:bl (Tryz.f91.body.map (compile [0,1,4] Tryz.prog 9)):=⟨_,by conv=>lhs;cbv⟩
def abW:List MR:=[.t 4]
theorem call91:ax Tryz.prog 91 9 UA.m abW:=UA.call Tryz.func91 (by kernel_rfl)
def UB:bl (Tryz.f92.body.map (compile [0,2] Tryz.prog 6)):=⟨_,by conv=>lhs;cbv⟩
def abX:List MR:=[.t 2]
theorem call92:ax Tryz.prog 92 6 UB.m abX:=UB.call Tryz.func92 (by kernel_rfl)
def UC:bl (Tryz.f93.body.map (compile [0,1,4] Tryz.prog 21)):=⟨_,by conv=>lhs;cbv⟩
def abY:List MR:=[.t 4]
theorem call93:ax Tryz.prog 93 21 UC.m abY:=UC.call Tryz.func93 (by kernel_rfl)
def Lk:bl (Tryz.f150.body.map (compile [0,1,2,3,8,9,11,12,13,14,15] Tryz.prog 29)):=⟨_,by conv=>lhs;cbv⟩
def UD:List MR:=[.t 8]
theorem call150:ax Tryz.prog 150 29 Lk.m UD:=Lk.call Tryz.func150 (by kernel_rfl)
def Ll:bl (Tryz.f155.body.map (compile [0,1,3] Tryz.prog 10)):=⟨_,by conv=>lhs;cbv⟩
def UE:List MR:=[.t 3]
theorem call155:ax Tryz.prog 155 10 Ll.m UE:=Ll.call Tryz.func155 (by kernel_rfl)
def qK:bl (Tryz.f156.body.map (compile [0,1,2,4,6,7,11,16,21,23,30,35] Tryz.prog 49)):=⟨_,by conv=>lhs;cbv⟩
def ss:List MR:=[.t 4]
theorem call156:ax Tryz.prog 156 49 qK.m ss:=qK.call Tryz.func156 (by kernel_rfl)
def Lm:bl (Tryz.f139.body.map (compile [0,2,3,7,21] Tryz.prog 22)):=⟨_,by conv=>lhs;cbv⟩
def UF:List MR:=[.t 2]
theorem call139:ax Tryz.prog 139 22 Lm.m UF:=Lm.call Tryz.func139 (by kernel_rfl)
def Ln:bl (Tryz.f141.body.map (compile [0,2] Tryz.prog 6)):=⟨_,by conv=>lhs;cbv⟩
def UG:List MR:=[.t 2]
theorem call141:ax Tryz.prog 141 6 Ln.m UG:=Ln.call Tryz.func141 (by kernel_rfl)
def Lo:bl (Tryz.f142.body.map (compile [0,2,3,4,6] Tryz.prog 12)):=⟨_,by conv=>lhs;cbv⟩
def UH:List MR:=[.t 2]
theorem call142:ax Tryz.prog 142 12 Lo.m UH:=Lo.call Tryz.func142 (by kernel_rfl)
def Lq:bl (Tryz.f143.body.map (compile [0,1,4] Tryz.prog 9)):=⟨_,by conv=>lhs;cbv⟩
def UI:List MR:=[.t 4]
theorem call143:ax Tryz.prog 143 9 Lq.m UI:=Lq.call Tryz.func143 (by kernel_rfl)
def Lr:bl (Tryz.f144.body.map (compile [0,1,2] Tryz.prog 6)):=⟨_,by conv=>lhs;cbv⟩
def UJ:List MR:=[.t 2]
theorem call144:ax Tryz.prog 144 6 Lr.m UJ:=Lr.call Tryz.func144 (by kernel_rfl)
def Ls:bl (Tryz.f145.body.map (compile [0,1,4] Tryz.prog 9)):=⟨_,by conv=>lhs;cbv⟩
def UK:List MR:=[.t 4]
theorem call145:ax Tryz.prog 145 9 Ls.m UK:=Ls.call Tryz.func145 (by kernel_rfl)
def Lt:bl (Tryz.f146.body.map (compile [0,1,2] Tryz.prog 6)):=⟨_,by conv=>lhs;cbv⟩
def UL:List MR:=[.t 2]
theorem call146:ax Tryz.prog 146 6 Lt.m UL:=Lt.call Tryz.func146 (by kernel_rfl)
def Lu:bl (Tryz.f148.body.map (compile [0,1,4,5,7,8,9,16] Tryz.prog 19)):=⟨_,by conv=>lhs;cbv⟩
def UM:List MR:=[.t 4]
theorem call148:ax Tryz.prog 148 19 Lu.m UM:=Lu.call Tryz.func148 (by kernel_rfl)
def Lv:bl (Tryz.f187.body.map (compile [0,1,2,3,8,9,11,12,13,14,15] Tryz.prog 29)):=⟨_,by conv=>lhs;cbv⟩
def UN:List MR:=[.t 8]
theorem call187:ax Tryz.prog 187 29 Lv.m UN:=Lv.call Tryz.func187 (by kernel_rfl)
def Lw:bl (Tryz.f182.body.map (compile [0,1,4,5,7,8,9,16] Tryz.prog 19)):=⟨_,by conv=>lhs;cbv⟩
def UO:List MR:=[.t 4]
theorem call182:ax Tryz.prog 182 19 Lw.m UO:=Lw.call Tryz.func182 (by kernel_rfl)
def Ly:bl (Tryz.f183.body.map (compile [0,1,4,5,7,8,9,16] Tryz.prog 19)):=⟨_,by conv=>lhs;cbv⟩
def UP:List MR:=[.t 4]
theorem call183:ax Tryz.prog 183 19 Ly.m UP:=Ly.call Tryz.func183 (by kernel_rfl)
end Go.Proofs.YtjkbbnfdbfcebaaGreatDoor.Mc
namespace Go.Proofs.YtjkbbnfdbfcebaaGreatDoor.Qp
open Go.AM Mc Pg
theorem LL.{u}:(∀(α:Type u) (a b:List α),(a++b).length=a.length+b.length)/\(∀(α:Type u) (a:α) (l:List α),(a::l).length=l.length+1)/\(∀α:Type u,([]:List α).length=0):=⟨fun _ _ _=>List.length_append,fun _ _ _=>rfl,fun _=>rfl⟩
attribute [go_sem] Bool.not_not
abbrev br (cs:List PV):AV:=.st (cs.map .p)
theorem Bf {f:Nat} {q:UInt8→Bool} (hf:wN f q) {s:List UInt8} (hs:s.length≤1073741824) (H:List AO):aA Tryz.prog 93 [.p (.s s), .fI f []] H (aW (.p (.b (nM q s))) H):=by
  refine call93 (by simp) ?_;simp only[go_sem,simprocAttr,UC,abY];intro _;refine U (uk _ _ _ _) ?_;generalize hb:(decide ((1:Int)≤_)&&decide (_ ≤(12:Int)))=b;cases b
  · simp only[go_sem,simprocAttr]
    refine⟨?_,rfl⟩
    cases s with
    |nil=>rfl
    |cons c l=>
     have gv:¬(c::l).length≤12:=by simp at hb⊢;omega
     simp only[nM,dF gv,Bool.false_and]
  · simp only[Bool.and_eq_true,decide_eq_true_eq]at hb
    have h0:0<s.length:=by omega
    have hg:s[0]?=some s[0]:=by simp[h0]
    have en:nM q s=(q s[0]&&decide (bz cx s 0=s.length)):=by
      cases s with
      |nil=>simp at h0
      |cons c l=>rw[nM,dT (show(c::l).length≤12 by omega)];rfl
    simp only[go_sem,simprocAttr,hg];refine U (hf s[0] H) ?_;cases hq:q s[0]
    · simp only[go_sem,simprocAttr,hq]
      exact⟨by rw[en,hq];rfl,rfl⟩
    · simp only[go_sem,simprocAttr,hq]
      refine U (Ew FB (by omega) (i:=0) (by omega) _) ?_;simp only[go_sem,simprocAttr];intro _;refine⟨?_,rfl⟩;rw[en,hq];simp;omega
theorem CX {s:List UInt8} (hs:s.length<=1073741824) (H:List AO):aA Tryz.prog 90 [.p (.s s)] H (aW (.p (.b (nN s))) H):=by
 refine call90 (by simp) ?_;simp only[go_sem,simprocAttr,Uz,abV];refine U (Bf ve hs _) ?_;cases h:nM eP s
 ·simp only[go_sem,simprocAttr,h]
  exact⟨by simp[nN,h],rfl⟩
 ·simp only[go_sem,simprocAttr,h]
  refine U (aaS _ _) ?_;simp only[go_sem,simprocAttr];exact⟨by simp[nN,h],rfl⟩
theorem upC {s:List UInt8} (hs:s.length<=1073741824) (H:List AO):aA Tryz.prog 87 [.p (.s s)] H (aW (.p (.b (F3 s))) H):=by
 refine call87 (by simp) ?_;simp only[go_sem,simprocAttr,Uw,abS];refine U (Bf Ba hs _) ?_;simp only[go_sem,simprocAttr];exact⟨rfl,rfl⟩
def oi {α:Type} (f:Nat) (c:α->AV) (q:α->Bool) (l:List α):Prop:=∀x∈l,∀H:List AO,aA Tryz.prog f [c x] H (aW (.p (.b (q x))) H)
theorem vo {α:Type} {q:α->Bool} {l:List α} {x:Nat} (h:x<l.length):(l.drop x).any q=(q l[x]||(l.drop (x+1)).any q):=by rw[List.drop_eq_getElem_cons h,List.any_cons]
theorem YH {f:Nat} {q:ae->Bool} {l:List ae} (hf:oi f (fun x=>br x.cells) q l) (H:List AO):
  aA Tryz.prog 182 [.p (.l (l.map ae.cells)),.fI f []] H (fun r H'=>H'=H/\∃z:Int,r=.p (.i .i64 z)/\decide (0<=z)=l.any q):=by
 refine call182 (by simp) ?_;simp only[go_sem,simprocAttr,Lw,UO,List.length_map];intro hl;rw[aC]at hl;refine⟨Nat,[0,1,4,7,8],fun x st=>(x<=l.length/\l.any q=(l.drop x).any q)/\st=⟨[(0,.p (.l (l.map ae.cells))),(1,.fI f []),(4,.p (.i .i64 0)),(7,.p (.i .i64 l.length)),(8,.p (.i .i64 x))],[],H⟩,fun x=>l.length-x,⟨0,?_⟩,?_⟩
 ·simp only[go_sem,simprocAttr]
  simp
 rintro x _ ⟨⟨hx,hn⟩,rfl⟩;by_cases aj:x<l.length
 ·have d1:decide ((x:Int)<(l.length:Int))=true:=by simp;omega
  have bC:(x:Int)<(l.length:Int):=by omega
  have hg:(l.map ae.cells)[x]?=some (ae.cells l[x]):=by simp[aj]
  have hc:=hf l[x] (List.getElem_mem aj) H;rw[vo aj]at hn;generalize l[x]=c at hg hc hn;obtain⟨ck,cn,cu,cp,oF⟩:=c;simp only[ae.cells,br,List.map_cons,List.map_nil]at hg hc;simp only[go_sem,simprocAttr,d1,bC,hg,List.length_map];refine U hc ?_;generalize q _=b at hn;cases b
  ·simp only[go_sem,simprocAttr,bp x (by omega)]
   exact⟨x+1,⟨⟨by omega,by simpa using hn⟩,rfl⟩,by omega⟩
  ·simp only[go_sem,simprocAttr]
   exact⟨(x:Int),rfl,by rw[hn,Bool.true_or];exact decide_eq_true (by omega)⟩
 ·have d1:decide ((x:Int)<(l.length:Int))=false:=by simp;omega
  simp only[go_sem,simprocAttr,d1];refine⟨-1,rfl,?_⟩;rw[hn,List.drop_of_length_le (by omega)]
  rfl
theorem UQ {f:Nat} {q:ae->Bool} {l:List ae} (hf:oi f (fun x=>br x.cells) q l) (H:List AO):
  aA Tryz.prog 143 [.p (.l (l.map ae.cells)),.fI f []] H (aW (.p (.b (l.any q))) H):=by
 refine call143 (by simp) ?_;simp only[go_sem,simprocAttr,Lq,UI];refine(YH hf H).mono ?_;rintro r H' ⟨rfl,z,rfl,hz⟩;simp only[go_sem,simprocAttr,hz];exact⟨rfl,rfl⟩
theorem adU {f:Nat} {q:af->Bool} {l:List af} (hf:oi f (fun x=>br x.cells) q l) (H:List AO):
  aA Tryz.prog 183 [.p (.l (l.map af.cells)),.fI f []] H (fun r H'=>H'=H/\∃z:Int,r=.p (.i .i64 z)/\decide (0<=z)=l.any q):=by
 refine call183 (by simp) ?_;simp only[go_sem,simprocAttr,Ly,UP,List.length_map];intro hl;rw[aC]at hl;refine⟨Nat,[0,1,4,7,8],fun x st=>(x<=l.length/\l.any q=(l.drop x).any q)/\st=⟨[(0,.p (.l (l.map af.cells))),(1,.fI f []),(4,.p (.i .i64 0)),(7,.p (.i .i64 l.length)),(8,.p (.i .i64 x))],[],H⟩,fun x=>l.length-x,⟨0,?_⟩,?_⟩
 ·simp only[go_sem,simprocAttr]
  simp
 rintro x _ ⟨⟨hx,hn⟩,rfl⟩;by_cases aj:x<l.length
 ·have d1:decide ((x:Int)<(l.length:Int))=true:=by simp;omega
  have bC:(x:Int)<(l.length:Int):=by omega
  have hg:(l.map af.cells)[x]?=some (af.cells l[x]):=by simp[aj]
  have hc:=hf l[x] (List.getElem_mem aj) H;rw[vo aj]at hn;generalize l[x]=c at hg hc hn;obtain⟨ck,cn,cp,oF⟩:=c;simp only[af.cells,br,List.map_cons,List.map_nil]at hg hc;simp only[go_sem,simprocAttr,d1,bC,hg,List.length_map];refine U hc ?_;generalize q _=b at hn;cases b
  ·simp only[go_sem,simprocAttr,bp x (by omega)]
   exact⟨x+1,⟨⟨by omega,by simpa using hn⟩,rfl⟩,by omega⟩
  ·simp only[go_sem,simprocAttr]
   exact⟨(x:Int),rfl,by rw[hn,Bool.true_or];exact decide_eq_true (by omega)⟩
 ·have d1:decide ((x:Int)<(l.length:Int))=false:=by simp;omega
  simp only[go_sem,simprocAttr,d1];refine⟨-1,rfl,?_⟩;rw[hn,List.drop_of_length_le (by omega)]
  rfl
theorem YI {f:Nat} {q:af->Bool} {l:List af} (hf:oi f (fun x=>br x.cells) q l) (H:List AO):
  aA Tryz.prog 145 [.p (.l (l.map af.cells)),.fI f []] H (aW (.p (.b (l.any q))) H):=by
 refine call145 (by simp) ?_;simp only[go_sem,simprocAttr,Ls,UK];refine(adU hf H).mono ?_;rintro r H' ⟨rfl,z,rfl,hz⟩;simp only[go_sem,simprocAttr,hz];exact⟨rfl,rfl⟩
theorem UR {f:Nat} {q:ai->Bool} {l:List ai} (hf:oi f (fun x=>br x.cells) q l) (H:List AO):
  aA Tryz.prog 86 [.p (.l (l.map ai.cells)),.fI f []] H (fun r H'=>H'=H/\∃z:Int,r=.p (.i .i64 z)/\decide (0<=z)=l.any q):=by
 refine call86 (by simp) ?_;simp only[go_sem,simprocAttr,Uv,abR,List.length_map];intro hl;rw[aC]at hl;refine⟨Nat,[0,1,4,7,8],fun x st=>(x<=l.length/\l.any q=(l.drop x).any q)/\st=⟨[(0,.p (.l (l.map ai.cells))),(1,.fI f []),(4,.p (.i .i64 0)),(7,.p (.i .i64 l.length)),(8,.p (.i .i64 x))],[],H⟩,fun x=>l.length-x,⟨0,?_⟩,?_⟩
 ·simp only[go_sem,simprocAttr]
  simp
 rintro x _ ⟨⟨hx,hn⟩,rfl⟩;by_cases aj:x<l.length
 ·have d1:decide ((x:Int)<(l.length:Int))=true:=by simp;omega
  have bC:(x:Int)<(l.length:Int):=by omega
  have hg:(l.map ai.cells)[x]?=some (ai.cells l[x]):=by simp[aj]
  have hc:=hf l[x] (List.getElem_mem aj) H;rw[vo aj]at hn;generalize l[x]=c at hg hc hn;obtain⟨cn,cv,cc,cp⟩:=c;simp only[ai.cells,br,List.map_cons,List.map_nil]at hg hc;simp only[go_sem,simprocAttr,d1,bC,hg,List.length_map];refine U hc ?_;generalize q _=b at hn;cases b
  ·simp only[go_sem,simprocAttr,bp x (by omega)]
   exact⟨x+1,⟨⟨by omega,by simpa using hn⟩,rfl⟩,by omega⟩
  ·simp only[go_sem,simprocAttr]
   exact⟨(x:Int),rfl,by rw[hn,Bool.true_or];exact decide_eq_true (by omega)⟩
 ·have d1:decide ((x:Int)<(l.length:Int))=false:=by simp;omega
  simp only[go_sem,simprocAttr,d1];refine⟨-1,rfl,?_⟩;rw[hn,List.drop_of_length_le (by omega)]
  rfl
theorem OB {f:Nat} {q:ai->Bool} {l:List ai} (hf:oi f (fun x=>br x.cells) q l) (H:List AO):
  aA Tryz.prog 45 [.p (.l (l.map ai.cells)),.fI f []] H (aW (.p (.b (l.any q))) H):=by
 refine call45 (by simp) ?_;simp only[go_sem,simprocAttr,Ul,abK];refine(UR hf H).mono ?_;rintro r H' ⟨rfl,z,rfl,hz⟩;simp only[go_sem,simprocAttr,hz];exact⟨rfl,rfl⟩
theorem YJ {f:Nat} {q:(List UInt8)->Bool} {l:List (List UInt8)} (hf:oi f (fun x=>.p (.s x)) q l) (H:List AO):
  aA Tryz.prog 148 [.p (.l (cg l)),.fI f []] H (fun r H'=>H'=H/\∃z:Int,r=.p (.i .i64 z)/\decide (0<=z)=l.any q):=by
 refine call148 (by simp) ?_;simp only[go_sem,simprocAttr,Lu,UM,cg,List.length_map];intro hl;rw[aC]at hl;refine⟨Nat,[0,1,4,7,8],fun x st=>(x<=l.length/\l.any q=(l.drop x).any q)/\st=⟨[(0,.p (.l (cg l))),(1,.fI f []),(4,.p (.i .i64 0)),(7,.p (.i .i64 l.length)),(8,.p (.i .i64 x))],[],H⟩,fun x=>l.length-x,⟨0,?_⟩,?_⟩
 ·simp only[go_sem,simprocAttr,cg]
  simp
 rintro x _ ⟨⟨hx,hn⟩,rfl⟩;by_cases aj:x<l.length
 ·have d1:decide ((x:Int)<(l.length:Int))=true:=by simp;omega
  have bC:(x:Int)<(l.length:Int):=by omega
  have hg:(l.map fun s=>[PV.s s])[x]?=some [.s l[x]]:=by simp[aj]
  have hc:=hf l[x] (List.getElem_mem aj) H;rw[vo aj]at hn;generalize l[x]=c at hg hc hn;simp only[go_sem,simprocAttr,d1,bC,hg,List.length_map,cg];refine U hc ?_;generalize q _=b at hn;cases b
  ·simp only[go_sem,simprocAttr,bp x (by omega)]
   exact⟨x+1,⟨⟨by omega,by simpa using hn⟩,rfl⟩,by omega⟩
  ·simp only[go_sem,simprocAttr]
   exact⟨(x:Int),rfl,by rw[hn,Bool.true_or];exact decide_eq_true (by omega)⟩
 ·have d1:decide ((x:Int)<(l.length:Int))=false:=by simp;omega
  simp only[go_sem,simprocAttr,d1];refine⟨-1,rfl,?_⟩;rw[hn,List.drop_of_length_le (by omega)]
  rfl
theorem US {f:Nat} {q:(List UInt8)->Bool} {l:List (List UInt8)} (hf:oi f (fun x=>.p (.s x)) q l) (H:List AO):
  aA Tryz.prog 91 [.p (.l (cg l)),.fI f []] H (aW (.p (.b (l.any q))) H):=by
 refine call91 (by simp) ?_;simp only[go_sem,simprocAttr,UA,abW];refine(YJ hf H).mono ?_;rintro r H' ⟨rfl,z,rfl,hz⟩;simp only[go_sem,simprocAttr,hz];exact⟨rfl,rfl⟩
theorem b2 {a b:Bool} (h:a=b):AV.p (.b a)=AV.p (.b b):=by rw[h]
theorem yA {α:Type} (q:α->Bool) (l:List α):(l.any fun x=>!q x)=!l.all q:=by
 induction l with
 |nil=>rfl
 |cons a l ih=>rw[List.any_cons,List.all_cons,ih,Bool.not_and]
def oJ (x:ae):Prop:=∀H:List AO,aA Tryz.prog 85 [br x.cells] H (aW (.p (.b x.okB)) H)
theorem UT {ks:List ae} (hk:∀x∈ks,oJ x):oi 144 (fun x:ae=>br x.cells) (fun x=>!x.okB) ks:=by
 intro x hx H;refine aD ?_ (bw _);refine call144 (by simp) ?_;have hc:=hk x hx;obtain⟨k,n,u,p,ks⟩:=x;simp only[ae.cells,br,List.map_cons,List.map_nil,oJ]at hc⊢;simp only[go_sem,simprocAttr,Lr,UJ];refine U (hc _) ?_;simp only[go_sem,simprocAttr];exact⟨_,rfl⟩
theorem UU (k:Int) (n:List UInt8) (u p:Int) (ks:List ae) (hn:n.length<=1073741824) (hk:∀x∈ks,oJ x):oJ (.mk k n u p ks):=by
 intro H;have hc:=UQ (UT hk);rw[yA,<-ae.jN]at hc;refine aD ?_ (bw _);refine call85 (by simp) ?_;simp only[go_sem,simprocAttr,Uu,abQ,ae.cells,ae.aw,br,List.length_map]
 repeat' first
  |(with_reducible refine ag _ (fun h=>?_) (fun h=>?_)<;>simp only[go_sem,simprocAttr,h,List.length_map])
  |(with_reducible refine U (CX hn _) ?_;simp only[go_sem,simprocAttr,List.length_map])
  |(with_reducible refine U (hc _) ?_;simp only[go_sem,simprocAttr,List.length_map])
  |(with_reducible refine U (uk _ _ _ _) ?_;simp only[go_sem,simprocAttr,List.length_map])
  |(with_reducible refine aQ (fun A=>upC hn _) (bP.refl _) ?_;simp only[go_sem,simprocAttr,List.length_map])
  |(refine ao ?_;simp only[go_sem,simprocAttr,List.length_map])
  |(refine And.intro (by(try simp only[aC,LL]);omega) ?_;try simp only[go_sem,simprocAttr,List.length_map])
  |(intro _)
 all_goals refine⟨b2 ?_,_,rfl⟩
 all_goals rw[ae.okB,AA]
 all_goals generalize (ks.length:Int)=m at *
 all_goals simp only[decide_eq_true_eq,decide_eq_false_iff_not,Bool.and_eq_true]at *
 all_goals (simp[*];done)
theorem YK (p:ae) (h:p.sz≤1073741824):oJ p:=by
  have :∀(m:Nat) (p:ae),p.sz<m→p.sz≤1073741824→oJ p:=by
    intro m
    induction m with
    |zero=>intro p h;omega
    |succ m ih=>
     intro p h h2;obtain⟨k,n,u,q,ks⟩:=p;rw[ae.sz,ae.dr]at h h2;exact UU _ _ _ _ _ (by omega) fun a ha=>ih a (by have :=bM ae.sz ha;omega) (by have :=bM ae.sz ha;omega)
  exact this _ p (Nat.lt_succ_self _) h
def xj (x:af):Prop:=∀H:List AO,aA Tryz.prog 88 [br x.cells] H (aW (.p (.b x.okB)) H)
theorem YL {ks:List af} (hk:∀x∈ks,xj x):oi 146 (fun x:af=>br x.cells) (fun x=>!x.okB) ks:=by
 intro x hx H;refine aD ?_ (bw _);refine call146 (by simp) ?_;have hc:=hk x hx;obtain⟨k,n,p,ks⟩:=x;simp only[af.cells,br,List.map_cons,List.map_nil,xj]at hc⊢;simp only[go_sem,simprocAttr,Lt,UL];refine U (hc _) ?_;simp only[go_sem,simprocAttr];exact⟨_,rfl⟩
theorem YM (k:Int) (n:List UInt8) (p:Int) (ks:List af) (hn:n.length<=1073741824) (hk:∀x∈ks,xj x):xj (.mk k n p ks):=by
 intro H;have hc:=YI (YL hk);rw[yA,<-af.jN]at hc;refine aD ?_ (bw _);refine call88 (by simp) ?_;simp only[go_sem,simprocAttr,Ux,abT,af.cells,af.aw,br,List.length_map]
 repeat' first
  |(with_reducible refine ag _ (fun h=>?_) (fun h=>?_)<;>simp only[go_sem,simprocAttr,h,List.length_map])
  |(with_reducible refine U (CX hn _) ?_;simp only[go_sem,simprocAttr,List.length_map])
  |(with_reducible refine U (hc _) ?_;simp only[go_sem,simprocAttr,List.length_map])
  |(with_reducible refine aQ (fun A=>Bf ve hn _) (bP.refl _) ?_;simp only[go_sem,simprocAttr,List.length_map])
  |(with_reducible refine aQ (fun A=>CX hn _) (bP.refl _) ?_;simp only[go_sem,simprocAttr,List.length_map])
  |(refine ao ?_;simp only[go_sem,simprocAttr,List.length_map])
  |(refine And.intro (by(try simp only[aC,LL]);omega) ?_;try simp only[go_sem,simprocAttr,List.length_map])
  |(intro _)
 all_goals refine⟨b2 ?_,_,rfl⟩
 all_goals rw[af.okB,AB]
 all_goals generalize (ks.length:Int)=m at *
 all_goals simp only[decide_eq_true_eq,decide_eq_false_iff_not,Bool.and_eq_true]at *
 all_goals (simp[*];done)
theorem adV (p:af) (h:p.sz≤1073741824):xj p:=by
  have :∀(m:Nat) (p:af),p.sz<m→p.sz≤1073741824→xj p:=by
    intro m
    induction m with
    |zero=>intro p h;omega
    |succ m ih=>
     intro p h h2;obtain⟨k,n,q,ks⟩:=p;rw[af.sz,af.dr]at h h2;exact YM _ _ _ _ (by omega) fun a ha=>ih a (by have :=bM af.sz ha;omega) (by have :=bM af.sz ha;omega)
  exact this _ p (Nat.lt_succ_self _) h
theorem adW (x:af) (H:List AO):aA Tryz.prog 89 [br x.cells] H (aW (.p (.b x.Ig)) H):=by
 obtain⟨k,n,p,ks⟩:=x;refine aD ?_ (bw _);refine call89 (by simp) ?_;simp only[go_sem,simprocAttr,Uy,abU,af.cells,af.aw,br,List.length_map]
 repeat' first
  |(with_reducible refine ag _ (fun h=>?_) (fun h=>?_)<;>simp only[go_sem,simprocAttr,h,List.length_map])
  |(refine ao ?_;simp only[go_sem,simprocAttr,List.length_map])
  |(refine And.intro (by(try simp only[aC,LL]);omega) ?_;try simp only[go_sem,simprocAttr,List.length_map])
  |(intro _)
 all_goals refine⟨b2 ?_,_,rfl⟩
 all_goals rw[af.Ig]
 all_goals simp only[decide_eq_true_eq,decide_eq_false_iff_not,Bool.and_eq_true]at *
 all_goals (simp[*];done)
theorem YN {s:List UInt8} (hs:s.length<=1073741824) (H:List AO):aA Tryz.prog 139 [.p (.s s)] H (aW (.p (.b (nj s))) H):=by
 refine call139 (by simp) ?_;simp only[go_sem,simprocAttr,Lm,UF];refine⟨Nat,[0,2,3],fun x st=>(x<=s.length/\s.all AY=(s.drop x).all AY)/\st=⟨[(0,.p (.s s)),(2,.p (.b false)),(3,.p (.i .i64 x))],[],H⟩,fun x=>s.length-x,⟨0,?_⟩,?_⟩
 ·simp only[go_sem,simprocAttr]
  simp
 rintro x _ ⟨⟨hx,hn⟩,rfl⟩;by_cases aj:x<s.length
 ·have d1:decide ((x:Int)<(s.length:Int))=true:=by simp;omega
  have hg:s[x]?=some s[x]:=by simp[aj]
  rw[gJ aj]at hn;generalize s[x]=c at hg hn;simp only[go_sem,simprocAttr,d1,hg];intro _;refine U (uk _ _ _ _) ?_;have ew:wr .i64 (c.toNat:Int)=c.toNat:=fk (by omega) (by have:=c.toNat_lt;omega);simp only[go_sem,simprocAttr,ew];have e1:qZ c=(decide ((32:Int)<=(c.toNat:Int))&&decide ((c.toNat:Int)<=126)):=rfl;rw[<-e1];cases h1:qZ c
  ·simp only[go_sem,simprocAttr,h1,hg]
   cases h2:decide ((c.toNat:Int)=10)
   ·simp only[go_sem,simprocAttr,h2]
    refine⟨b2 ?_,rfl⟩;rw[nj,hn,AY,h1,h2];rfl
   ·simp only[go_sem,simprocAttr,h2,bp x (by omega)]
    exact⟨x+1,⟨⟨by omega,by rw[hn,AY,h1,h2];rfl⟩,rfl⟩,by omega⟩
  ·simp only[go_sem,simprocAttr,h1,bp x (by omega)]
   exact⟨x+1,⟨⟨by omega,by rw[hn,AY,h1];rfl⟩,rfl⟩,by omega⟩
 ·have d1:decide ((x:Int)<(s.length:Int))=false:=by simp;omega
  simp only[go_sem,simprocAttr,d1];intro _;refine⟨b2 ?_,rfl⟩;rw[nj,hn,List.drop_of_length_le (by omega)];rfl
theorem adX (s:List UInt8) (H:List AO):aA Tryz.prog 141 [.p (.s s)] H (aW (.p (.b (Az s))) H):=by
 refine aD ?_ (bw _);refine call141 (by simp) ?_;simp only[go_sem,simprocAttr,Ln,UG];refine U (rZ (L:=[[43],[45],[42],[94],[61],[60],[58,61]]) (t:=s) (by rw[gq];rfl) (by decide)) ?_;simp only[go_sem,simprocAttr];exact⟨rfl,_,rfl⟩
theorem YO (s:List UInt8) (H:List AO):aA Tryz.prog 142 [.p (.s s)] H (aW (.p (.i .i64 (arity s))) H):=by
 refine call142 (by simp) ?_;simp only[go_sem,simprocAttr,Lo,UH]
 repeat' first
  |(with_reducible refine ag _ (fun h=>?_) (fun h=>?_)<;>simp only[go_sem,simprocAttr,h])
  |(refine ao ?_;simp only[go_sem,simprocAttr])
  |(refine And.intro (by(try simp only[aC,LL]);omega) ?_;try simp only[go_sem,simprocAttr])
  |(intro _)
 all_goals refine⟨?_,rfl⟩
 all_goals simp only[decide_eq_true_eq,decide_eq_false_iff_not]at *
 all_goals (simp[arity,pA, *];done)
theorem adY (k:Int) (n:List UInt8) (u:Int) (t:List UInt8) (p:Int) (ks:List aa) (aM:List al) (hn:n.length<=1073741824) (ht:t.length<=1073741824) (H:List AO):
  aA Tryz.prog 84 [br (aa.cells (.mk k n u t p ks aM))] H (aW (.p (.b (pB k n u t p ks.length aM.length))) H):=by
 refine aD ?_ (bw _);refine call84 (by simp) ?_;simp only[go_sem,simprocAttr,Ut,abP,aa.cells,aa.aw,aa.aN,br,List.length_map]
 repeat' first
  |(with_reducible refine ag _ (fun h=>?_) (fun h=>?_)<;>simp only[go_sem,simprocAttr,h,List.length_map])
  |(with_reducible refine U (CX hn _) ?_;simp only[go_sem,simprocAttr,List.length_map])
  |(with_reducible refine U (uk _ _ _ _) ?_;simp only[go_sem,simprocAttr,List.length_map])
  |(with_reducible refine U (YN ht _) ?_;simp only[go_sem,simprocAttr,List.length_map])
  |(with_reducible refine aQ (fun A=>upC hn _) (bP.refl _) ?_;simp only[go_sem,simprocAttr,List.length_map])
  |(with_reducible refine aQ (fun A=>CX hn _) (bP.refl _) ?_;simp only[go_sem,simprocAttr,List.length_map])
  |(with_reducible refine aQ (fun A=>CX ht _) (bP.refl _) ?_;simp only[go_sem,simprocAttr,List.length_map])
  |(with_reducible refine aQ (fun A=>adX n _) (bP.refl _) ?_;simp only[go_sem,simprocAttr,List.length_map])
  |(with_reducible refine aQ (fun A=>YO n _) (bP.refl _) ?_;simp only[go_sem,simprocAttr,List.length_map])
  |(refine ao ?_;simp only[go_sem,simprocAttr,List.length_map])
  |(refine And.intro (by(try simp only[aC,LL]);omega) ?_;try simp only[go_sem,simprocAttr,List.length_map])
  |(intro _)
 all_goals refine⟨b2 ?_,_,rfl⟩
 all_goals rw[pB]
 all_goals generalize (ks.length:Int)=m at *
 all_goals generalize (aM.length:Int)=a at *
 all_goals simp only[decide_eq_true_eq,decide_eq_false_iff_not,Bool.and_eq_true]at *
 all_goals (simp[*];done)
def oK (x:aa):Prop:=∀H:List AO,aA Tryz.prog 44 [br x.cells] H (aW (.p (.b x.okB)) H)
def Bh (H:List AO) (V:AO) (X:List AO):Prop:=∃G,X=H++V::G
theorem Bh.at {H X:List AO} {V:AO} (h:Bh H V X) (A:List AO):(X++A)[H.length]?=some V:=by obtain⟨G,rfl⟩:=h;simp
theorem Bh.UW {H X:List AO} {V:AO} (h:Bh H V X):X[H.length]?=some V:=by obtain⟨G,rfl⟩:=h;simp
theorem Bh.ext {H X:List AO} {V:AO} (h:Bh H V X) (A:List AO):Bh H V (X++A):=by obtain⟨G,rfl⟩:=h;exact⟨G++A,by simp⟩
theorem Bh.nil (H:List AO) (V:AO):Bh H V (H++[V]):=⟨[],rfl⟩
theorem Bh.ends {H X:List AO} {V:AO} (h:Bh H V X):∃G,X=H++G:=by obtain⟨G,rfl⟩:=h;exact⟨_,rfl⟩
theorem M3 (q:ae) (e:aa):al.cells (.mk q e)=q.cells++e.cells:=by rw[al.cells]
theorem UX (k:Int) (n:List UInt8) (u:Int) (t:List UInt8) (p:Int) (ks:List aa) (aM:List al) (hn:n.length<=1073741824) (ht:t.length<=1073741824) (hk:∀x∈ks,oK x) (ha:∀q e,al.mk q e∈aM->oJ q/\oK e):oK (.mk k n u t p ks aM):=by
 intro H;refine aD ?_ (bw _);refine call44 (by simp) ?_;have hh:=adY k n u t p ks aM hn ht;simp only[aa.cells,aa.aw,aa.aN,br,List.map_cons,List.map_nil]at hh;rw[aa.okB,aa.jN,aa.Bc];simp only[go_sem,simprocAttr,Uk,abJ,aa.cells,aa.aw,aa.aN,br,List.length_map];refine U (hh _) ?_;simp only[go_sem,simprocAttr];generalize pB k n u t p ks.length aM.length=b;cases b
 ·simp only[go_sem,simprocAttr]
  exact⟨b2 rfl,_,rfl⟩
 simp only[go_sem,simprocAttr,List.length_map,Bool.true_and];intro hl;rw[aC]at hl;have hB:=Bh.nil H (.var [.p (.i .i64 k),.p (.s n),.p (.i .i64 u),.p (.s t),.p (.i .i64 p),.p (.l (ks.map aa.cells)),.p (.l (aM.map al.cells))]);generalize hV:AO.var [.p (.i .i64 k),.p (.s n),.p (.i .i64 u),.p (.s t),.p (.i .i64 p),.p (.l (ks.map aa.cells)),.p (.l (aM.map al.cells))]=V at hB;generalize H++[V]=X at hB;refine⟨Nat×List AO,[1,2,11,12,13],fun x st=>(x.1<=ks.length/\ks.all aa.okB=(ks.drop x.1).all aa.okB/\Bh H V x.2)/\st=⟨[(1,.ptr H.length 0),(2,.p (.b false)),(11,.p (.l (ks.map aa.cells))),(12,.p (.i .i64 ks.length)),(13,.p (.i .i64 x.1))],[],x.2⟩,fun x=>ks.length-x.1,⟨(0,X),?_⟩,?_⟩
 ·simp only[go_sem,simprocAttr]
  exact⟨by simp,hB⟩
 rintro⟨x,Y⟩ _ ⟨⟨hx,hn,hY⟩,rfl⟩;simp only at hx hn hY;by_cases aj:x<ks.length
 ·have d1:decide ((x:Int)<(ks.length:Int))=true:=by simp;omega
  have bC:(x:Int)<(ks.length:Int):=by omega
  have hg:(ks.map aa.cells)[x]?=some (aa.cells ks[x]):=by simp[aj]
  have hc:=fun H=>hk ks[x] (List.getElem_mem aj) H
  rw[gJ aj]at hn;generalize ks[x]=c at hg hc hn;obtain⟨ck,cn,cu,ct,cp,oF,DD⟩:=c;simp only[aa.cells,br,List.map_cons,List.map_nil,oK]at hg hc;simp only[go_sem,simprocAttr,d1,bC,hg,List.length_map];refine U (hc _) ?_;generalize aa.okB _=b at hn;cases b
  ·simp only[go_sem,simprocAttr]
   exact⟨b2 (by rw[hn];rfl),(hY.ext _).ends⟩
  ·simp only[go_sem,simprocAttr,bp x (by omega)]
   exact⟨(x+1,_),⟨⟨by omega,by simpa using hn,hY.ext _⟩,rfl⟩,by simp only;omega⟩
 ·have d1:decide ((x:Int)<(ks.length:Int))=false:=by simp;omega
  rw[List.drop_of_length_le (by omega),List.all_nil]at hn;rw[hn,Bool.true_and];have hz:=hY.UW;rw[<-hV]at hz;simp only[go_sem,simprocAttr,d1,hz,List.length_map];intro jF;rw[aC]at jF;refine⟨Nat×List AO,[2,22,23,24],fun x st=>(x.1<=aM.length/\aM.all al.okB=(aM.drop x.1).all al.okB/\∃G,x.2=H++G)/\st=⟨[(2,.p (.b false)),(22,.p (.l (aM.map al.cells))),(23,.p (.i .i64 aM.length)),(24,.p (.i .i64 x.1))],[],x.2⟩,fun x=>aM.length-x.1,⟨(0,Y),?_⟩,?_⟩
  ·simp only[go_sem,simprocAttr]
   exact⟨by simp,hY.ends⟩
  rintro⟨y,Z⟩ _ ⟨⟨hy,hm,hZ⟩,rfl⟩;simp only at hy hm hZ;by_cases aj:y<aM.length
  ·have d2:decide ((y:Int)<(aM.length:Int))=true:=by simp;omega
   have bC:(y:Int)<(aM.length:Int):=by omega
   have hg:(aM.map al.cells)[y]?=some (al.cells aM[y]):=by simp[aj]
   have hc:∀q e,aM[y]=al.mk q e->oJ q/\oK e:=fun q e he=>ha q e (by rw[<-he];exact List.getElem_mem aj)
   rw[gJ aj]at hm;generalize aM[y]=c at hg hc hm;obtain⟨⟨qk,qn,qu,qp,OC⟩,⟨ck,cn,cu,ct,cp,oF,DD⟩⟩:=c;obtain⟨h1,h2⟩:=hc _ _ rfl;simp only[M3,ae.cells,aa.cells,br,List.map_cons,List.map_nil,oK,oJ,List.cons_append,List.nil_append]at hg h1 h2;have UY:∀A,∃G,Z++A=H++G:=fun A=>by obtain⟨G,rfl⟩:=hZ;exact⟨G++A,by simp⟩
   rw[al.okB]at hm;generalize ae.okB _=b1 at hm h1;generalize aa.okB _=b2' at hm h2;simp only[go_sem,simprocAttr,d2,bC,hg,List.length_map];refine U (h1 _) ?_;cases b1
   ·simp only[go_sem,simprocAttr]
    exact⟨b2 (by rw[hm];rfl),UY _⟩
   simp only[go_sem,simprocAttr];refine U (h2 _) ?_;cases b2'
   ·simp only[go_sem,simprocAttr]
    exact⟨b2 (by rw[hm];rfl),UY _⟩
   simp only[go_sem,simprocAttr,bp y (by omega)];exact⟨(y+1,_),⟨⟨by omega,by simpa using hm,UY _⟩,rfl⟩,by simp only;omega⟩
  ·have d2:decide ((y:Int)<(aM.length:Int))=false:=by simp;omega
   rw[List.drop_of_length_le (by omega),List.all_nil]at hm;simp only[go_sem,simprocAttr,d2];exact⟨b2 (by rw[hm]),hZ⟩
theorem YP (p:aa) (h:p.sz≤1073741824):oK p:=by
  have :∀(m:Nat) (p:aa),p.sz<m→p.sz≤1073741824→oK p:=by
    intro m
    induction m with
    |zero=>intro p h;omega
    |succ m ih=>
     intro p h h2;obtain⟨k,n,u,t,q,ks,aM⟩:=p;rw[aa.sz,aa.dr,aa.lN]at h h2;refine UX _ _ _ _ _ _ _ (by omega) (by omega) (fun a ha=>ih a (by have :=bM aa.sz ha;omega) (by have :=bM aa.sz ha;omega)) fun q e ha=> ?_
     have :=bM al.sz ha;rw[al.sz]at this;exact⟨YK q (by omega),ih e (by omega) (by omega)⟩
  exact this _ p (Nat.lt_succ_self _) h
theorem OD {l:List (List UInt8)} (hs:∀s∈l,s.length<=1073741824):oi 92 (fun s:List UInt8=>.p (.s s)) (fun s=>!nM eP s) l:=by
 intro s hx H;refine call92 (by simp) ?_;simp only[go_sem,simprocAttr,UB,abX];refine U (Bf ve (hs s hx) _) ?_;simp only[go_sem,simprocAttr];exact⟨rfl,rfl⟩
def CY (x:ai):Prop:=∀H:List AO,aA Tryz.prog 47 [br x.cells] H (aW (.p (.b x.okB)) H)
theorem UZ (d:ai) (hd:d.sz<=1073741824):CY d:=by
 obtain⟨n,vs,cs,p⟩:=d;intro H;simp only[ai.sz]at hd
 have xA:=US (OD (l:=vs) fun s hs=>by
  have:∀l:List (List UInt8),s∈l->s.length<=jv l:=by
   intro l
   induction l with
   |nil=>intro h;cases h
   |cons a l ih=>intro h;rw[jv];rcases List.mem_cons.1 h with rfl|h;omega;have:=ih h;omega
  have:=this vs hs;omega)
 rw[yA]at xA
 have gQ:∀c∈cs,c.sz<=1073741824:=fun c hc=>by
  have:∀l:List ah,c∈l->c.sz<=eG l:=by
   intro l
   induction l with
   |nil=>intro h;cases h
   |cons a l ih=>intro h;rw[eG];rcases List.mem_cons.1 h with rfl|h;omega;have:=ih h;omega
  have:=this cs hc;omega
 refine aD ?_ (bw _);simp only[ai.okB];generalize vs.all (nM eP)=vb at xA⊢;refine call47 (by simp) ?_;simp only[go_sem,simprocAttr,Un,abM,ai.cells,br,List.length_map];intro hl;rw[aC]at hl;have hB:=Bh.nil H (.var [.p (.s n),.p (.l (cg vs)),.p (.l (cs.map ah.cells)),.p (.i .i64 p)]);generalize hV:AO.var [.p (.s n),.p (.l (cg vs)),.p (.l (cs.map ah.cells)),.p (.i .i64 p)]=V at hB;generalize H++[V]=X at hB;refine⟨Nat×List AO,[1,2,6,7,8],fun x st=>(x.1<=cs.length/\cs.all ah.okB=(cs.drop x.1).all ah.okB/\Bh H V x.2)/\st=⟨[(1,.ptr H.length 0),(2,.p (.b false)),(6,.p (.l (cs.map ah.cells))),(7,.p (.i .i64 cs.length)),(8,.p (.i .i64 x.1))],[],x.2⟩,fun x=>cs.length-x.1,⟨(0,X),?_⟩,?_⟩
 ·simp only[go_sem,simprocAttr]
  exact⟨by simp,hB⟩
 rintro⟨x,Y⟩ _ ⟨⟨hx,hn,hY⟩,rfl⟩;simp only at hx hn hY;by_cases aj:x<cs.length
 ·have d1:decide ((x:Int)<(cs.length:Int))=true:=by simp;omega
  have bC:(x:Int)<(cs.length:Int):=by omega
  have hg:(cs.map ah.cells)[x]?=some (ah.cells cs[x]):=by simp[aj]
  have hc:=gQ cs[x] (List.getElem_mem aj);rw[gJ aj]at hn;generalize cs[x]=c at hg hc hn;obtain⟨cn,ch,ca,cp⟩:=c;simp only[ah.sz]at hc;have t1:=adV ca (by omega);have t2:=adW ca;obtain⟨ak,an,ap,wV⟩:=ca;simp only[ah.cells,af.cells,br,List.map_cons,List.map_nil,xj,List.cons_append,List.nil_append]at hg t1 t2;simp only[ah.okB]at hn;generalize af.okB _=o1 at hn t1;generalize af.Ig _=o2 at hn t2;generalize hr:(cs.drop (x+1)).all ah.okB=rest at hn;have hz:∀A,∃G,Y++A=H++G:=fun A=>(hY.ext A).ends
  have rQ:=fun A=>hY.ext A
  simp only[go_sem,simprocAttr,d1,bC,hg,List.length_map];cases ch
  all_goals
   repeat' first
    |(with_reducible refine ag _ (fun h=>?_) (fun h=>?_)<;>simp only[go_sem,simprocAttr,h,bp x (by omega)])
    |(with_reducible refine U (upC (by omega) _) ?_;simp only[go_sem,simprocAttr,bp x (by omega)])
    |(with_reducible refine U (t1 _) ?_;simp only[go_sem,simprocAttr,bp x (by omega)])
    |(with_reducible refine U (t2 _) ?_;simp only[go_sem,simprocAttr,bp x (by omega)])
    |(refine ao ?_;simp only[go_sem,simprocAttr,bp x (by omega)])
    |(refine And.intro (by(try simp only[aC,LL]);omega) ?_;try simp only[go_sem,simprocAttr,bp x (by omega)])
    |(intro _)
  all_goals first
   |(refine⟨b2 ?_,hz _⟩;rw[hn];clear hr hn hz rQ t1 t2 xA gQ hd hl hV hB hY hx aj d1 bC hg hc;simp_all;done)
   |(refine⟨(x+1,_),⟨⟨by omega,hn.trans (Eq.trans ?_ hr.symm),rQ _⟩,rfl⟩,by simp only;omega⟩;clear hr hn hz rQ t1 t2 xA gQ hd hl hV hB hY hx aj d1 bC hg hc;simp_all;done)
   |trace_state
 ·have d1:decide ((x:Int)<(cs.length:Int))=false:=by simp;omega
  rw[List.drop_of_length_le (by omega),List.all_nil]at hn;have hz:=hY.UW;rw[<-hV]at hz;simp only[go_sem,simprocAttr,d1,hz]
  repeat' first
   |(with_reducible refine ag _ (fun h=>?_) (fun h=>?_)<;>simp only[go_sem,simprocAttr,h,hz,List.length_map])
   |(with_reducible refine U (CX (by omega) _) ?_;simp only[go_sem,simprocAttr,hz,List.length_map])
   |(with_reducible refine U (xA _) ?_;simp only[go_sem,simprocAttr,hz,List.length_map])
   |(refine ao ?_;simp only[go_sem,simprocAttr,hz,List.length_map])
   |(refine And.intro (by(try simp only[aC,LL]);omega) ?_;try simp only[go_sem,simprocAttr,hz,List.length_map])
   |(intro _)
  all_goals refine⟨b2 ?_,hY.ends⟩
  all_goals generalize (cs.length:Int)=m at *
  all_goals simp only[decide_eq_true_eq,decide_eq_false_iff_not,Bool.and_eq_true]at *
  all_goals (simp[*];done)
theorem OE {l:List ai} (hk:∀x∈l,CY x):oi 46 (fun x:ai=>br x.cells) (fun x=>!x.okB) l:=by
 intro x hx H;refine aD ?_ (bw _);refine call46 (by simp) ?_;have hc:=hk x hx;obtain⟨n,vs,cs,p⟩:=x;simp only[ai.cells,br,List.map_cons,List.map_nil,CY]at hc⊢;simp only[go_sem,simprocAttr,Um,abL];refine U (hc _) ?_;simp only[go_sem,simprocAttr];exact⟨_,rfl⟩
theorem ma {x:ai}:∀{l:List ai},x∈l→x.sz≤iF l
  |[],h=>by cases h
  |a::l,h=>by
   rw[iF];rcases List.mem_cons.1 h with rfl|h
   · omega
   · have :=ma h;omega
theorem Ix (g:bb) (hg:g.sz<=1073741824) (H:List AO):aA Tryz.prog 17 [br g.cells] H (aW (.p (.b g.okB)) H):=by
 obtain⟨ds,b⟩:=g;simp only[bb.sz]at hg;have h1:=YP b (by omega);have h2:=OB (OE (l:=ds) fun x hx=>UZ x (by have:=ma hx;omega));rw[yA]at h2;simp only[bb.okB];generalize ds.all ai.okB=o2 at h2⊢;rw[oK]at h1;generalize b.okB=o1 at h1⊢;obtain⟨k,n,u,t,p,ks,aM⟩:=b;simp only[aa.cells,br,List.map_cons,List.map_nil]at h1;refine aD ?_ (bw _);refine call17 (by simp) ?_;simp only[go_sem,simprocAttr,Ui,abH,bb.cells,aa.cells,br]
 repeat' first
  |(with_reducible refine ag _ (fun h=>?_) (fun h=>?_)<;>simp only[go_sem,simprocAttr,h])
  |(with_reducible refine U (h1 _) ?_;simp only[go_sem,simprocAttr])
  |(with_reducible refine U (h2 _) ?_;simp only[go_sem,simprocAttr])
  |(refine ao ?_;simp only[go_sem,simprocAttr])
  |(refine And.intro (by(try simp only[aC,LL]);omega) ?_;try simp only[go_sem,simprocAttr])
  |(intro _)
 all_goals first
  |exact⟨_,rfl⟩
  |(refine⟨b2 ?_,_,rfl⟩;simp[*];done)
end Go.Proofs.YtjkbbnfdbfcebaaGreatDoor.Qp
set_option linter.all false
set_option maxRecDepth 100000
namespace Go.Proofs.YtjkbbnfdbfcebaaGreatDoor.Mc
open Go.AM
def M4:bl (Tryz.f11.body.map (compile [0,1,2,3,4,5,6,7,10,15,29,50,54,70] Tryz.prog 89)):=⟨_,by conv=>lhs;cbv⟩
def U0:List MR:=[.t 2]
theorem call11:ax Tryz.prog 11 89 M4.m U0:=M4.call Tryz.func11 (by kernel_rfl)
def U1:bl (Tryz.f26.body.map (compile [0,1,2,3,4,5,6,7,12,34,39,48,53,90] Tryz.prog 94)):=⟨_,by conv=>lhs;cbv⟩
def abZ:List MR:=[.t 2]
theorem call26:ax Tryz.prog 26 94 U1.m abZ:=U1.call Tryz.func26 (by kernel_rfl)
def CZ:bl (Tryz.f27.body.map (compile [0,1,2,4,5,6,7,8,10,15,20,32,46,52,56,67] Tryz.prog 76)):=⟨_,by conv=>lhs;cbv⟩
def EM:List MR:=[.t 4]
theorem call27:ax Tryz.prog 27 76 CZ.m EM:=CZ.call Tryz.func27 (by kernel_rfl)
def U2:bl (Tryz.f28.body.map (compile [0,1,2,4] Tryz.prog 11)):=⟨_,by conv=>lhs;cbv⟩
def ab0:List MR:=[.t 4]
theorem call28:ax Tryz.prog 28 11 U2.m ab0:=U2.call Tryz.func28 (by kernel_rfl)
def U3:bl (Tryz.f63.body.map (compile [0,2] Tryz.prog 10)):=⟨_,by conv=>lhs;cbv⟩
def ab1:List MR:=[.t 2]
theorem call63:ax Tryz.prog 63 10 U3.m ab1:=U3.call Tryz.func63 (by kernel_rfl)
def AF:bl (Tryz.f64.body.map (compile [0,1,4,5,28,32,40] Tryz.prog 41)):=⟨_,by conv=>lhs;cbv⟩
def EN:List MR:=[.t 4]
theorem call64:ax Tryz.prog 64 41 AF.m EN:=AF.call Tryz.func64 (by kernel_rfl)
def vX:bl (Tryz.f65.body.map (compile [0,1,2,3,4,5,13,14,22,34,46,58,75] Tryz.prog 85)):=⟨_,by conv=>lhs;cbv⟩
def Iy:List MR:=[.t 2]
theorem call65:ax Tryz.prog 65 85 vX.m Iy:=vX.call Tryz.func65 (by kernel_rfl)
def U4:bl (Tryz.f66.body.map (compile [0,1,2] Tryz.prog 22)):=⟨_,by conv=>lhs;cbv⟩
def ab2:List MR:=[.t 2]
theorem call66:ax Tryz.prog 66 22 U4.m ab2:=U4.call Tryz.func66 (by kernel_rfl)
def U5:bl (Tryz.f67.body.map (compile [0,1,2,3,4,7,12,21,26,46] Tryz.prog 47)):=⟨_,by conv=>lhs;cbv⟩
def ab3:List MR:=[.t 2]
theorem call67:ax Tryz.prog 67 47 U5.m ab3:=U5.call Tryz.func67 (by kernel_rfl)
def U6:bl (Tryz.f68.body.map (compile [0,1,2,6,9] Tryz.prog 14)):=⟨_,by conv=>lhs;cbv⟩
def ab4:List MR:=[.t 6]
theorem call68:ax Tryz.prog 68 14 U6.m ab4:=U6.call Tryz.func68 (by kernel_rfl)
def mb:bl (Tryz.f69.body.map (compile [0,1,2,3,4,5,6,8,9,14,19,24,26,30,36,48,54,58,71,83,99,113,119] Tryz.prog 161)):=.of (y:=Tryz.f69.body.map fun c=>(lz [0,1,2,3,4,5,6,8,9,14,19,24,26,30,36,48,54,58,71,83,99,113,119] Tryz.prog 161 [8,9,12,19,18] c).1) (by conv=>lhs;cbv) (by kernel_rfl)
def mA:List MR:=[.t 2]
theorem call69:ax Tryz.prog 69 161 mb.m mA:=mb.call Tryz.func69 (by kernel_rfl)
def U7:bl (Tryz.f70.body.map (compile [0,1,2,4,5,11,16,18,24] Tryz.prog 25)):=⟨_,by conv=>lhs;cbv⟩
def ab5:List MR:=[.t 2]
theorem call70:ax Tryz.prog 70 25 U7.m ab5:=U7.call Tryz.func70 (by kernel_rfl)
def Lz:bl (Tryz.f127.body.map (compile [0,1,2,3,8,9,22,35,48,56,69,82,90,103,111,124,142,150,164,177] Tryz.prog 199)):=⟨_,by conv=>lhs;cbv⟩
def U8:List MR:=[.t 2]
theorem call127:ax Tryz.prog 127 199 Lz.m U8:=Lz.call Tryz.func127 (by kernel_rfl)
def oj:bl (Tryz.f128.body.map (compile [0,1,2,3,4,5,6,7,21,22,36,51,66,81,94,114] Tryz.prog 124)):=⟨_,by conv=>lhs;cbv⟩
def C0:List MR:=[.t 2]
theorem call128:ax Tryz.prog 128 124 oj.m C0:=oj.call Tryz.func128 (by kernel_rfl)
def LC:bl (Tryz.f129.body.map (compile [0,2,4] Tryz.prog 15)):=⟨_,by conv=>lhs;cbv⟩
def U9:List MR:=[.t 2]
theorem call129:ax Tryz.prog 129 15 LC.m U9:=LC.call Tryz.func129 (by kernel_rfl)
def LD:bl (Tryz.f130.body.map (compile [0,2,3,4,9,14,21,26] Tryz.prog 39)):=⟨_,by conv=>lhs;cbv⟩
def Va:List MR:=[.t 2]
theorem call130:ax Tryz.prog 130 39 LD.m Va:=LD.call Tryz.func130 (by kernel_rfl)
def LF:bl (Tryz.f131.body.map (compile [0,2,4] Tryz.prog 5)):=⟨_,by conv=>lhs;cbv⟩
def Vb:List MR:=[.t 2]
theorem call131:ax Tryz.prog 131 5 LF.m Vb:=LF.call Tryz.func131 (by kernel_rfl)
def zT:bl (Tryz.f133.body.map (compile [0,1,2,3,4,6,7,26,49,82] Tryz.prog 106)):=.of (y:=Tryz.f133.body.map fun c=>(lz [0,1,2,3,4,6,7,26,49,82] Tryz.prog 106 [16,20,19,18] c).1) (by conv=>lhs;cbv) (by kernel_rfl)
def C1:List MR:=[.t 2]
theorem call133:ax Tryz.prog 133 106 zT.m C1:=zT.call Tryz.func133 (by kernel_rfl)
def LH:bl (Tryz.f169.body.map (compile [0,1,2,4,5,6,7,8,12] Tryz.prog 74)):=⟨_,by conv=>lhs;cbv⟩
def Vc:List MR:=[.t 4]
theorem call169:ax Tryz.prog 169 74 LH.m Vc:=LH.call Tryz.func169 (by kernel_rfl)
def LI:bl (Tryz.f170.body.map (compile [0,2,3,7,21] Tryz.prog 22)):=⟨_,by conv=>lhs;cbv⟩
def Vd:List MR:=[.t 2]
theorem call170:ax Tryz.prog 170 22 LI.m Vd:=LI.call Tryz.func170 (by kernel_rfl)
def LJ:bl (Tryz.f173.body.map (compile [0,2,4] Tryz.prog 20)):=⟨_,by conv=>lhs;cbv⟩
def Ve:List MR:=[.t 2]
theorem call173:ax Tryz.prog 173 20 LJ.m Ve:=LJ.call Tryz.func173 (by kernel_rfl)
def qL:bl (Tryz.f174.body.map (compile [0,1,2,4,5,6,7,11,12,14,19,24,26,32,36,49,54] Tryz.prog 67)):=⟨_,by conv=>lhs;cbv⟩
def su:List MR:=[.t 4]
theorem call174:ax Tryz.prog 174 67 qL.m su:=qL.call Tryz.func174 (by kernel_rfl)
end Go.Proofs.YtjkbbnfdbfcebaaGreatDoor.Mc
namespace Go.Proofs.YtjkbbnfdbfcebaaGreatDoor.Qp
open Go.AM Mc Pg
theorem EO (q:UInt8→Bool):∀l:List UInt8,decide (ow q l=l.length)=l.all q
  |[]=>rfl
  |c::l=>by
   have ih:=EO q l;rw[ow,List.all_cons];cases hq:q c
   · simp
   · rw[if_pos rfl,Bool.true_and,←ih];simp
theorem LK (q:UInt8->Bool) (s:List UInt8):decide (bz q s 0=s.length)=s.all q:=by
 unfold bz;rw[Nat.zero_add,List.drop_zero,EO]
theorem adZ {c:UInt8} (h:fG c=true):eP c=false:=by
 simp only[fG,eP,Bool.and_eq_true,decide_eq_true_eq,Bool.and_eq_false_iff,decide_eq_false_iff_not]at *;omega
theorem bq1:(false ==true)=false:=rfl
theorem bq2:(true ==false)=false:=rfl
theorem bq3:(true ==true)=true:=rfl
theorem bq4:(false ==false)=true:=rfl
attribute [go_sem] bq1 bq2 bq3 bq4 Bool.not_true Bool.not_false
theorem qo (g:Bool) {s:List UInt8} (hs:s.length≤1073741824) (H:List AO):aA Tryz.prog 64 [.p (.s s), .p (.b g)] H (aW (.p (.b (nM (if g then fG else eP) s))) H):=by
  refine call64 (by simp) ?_;obtain⟨T,hT,hm⟩:∃T,T=AF.m.b.b∧AF.m= .seq AF.m.a (.seq AF.m.b.a T):=⟨_,rfl,rfl⟩;rw[hm];clear hm;simp only[go_sem,simprocAttr,AF,EN];intro _;refine U (HK _ _ _ _) ?_;generalize hb:(decide ((1:Int)≤_)&&decide (_ ≤(12:Int)))=b;cases b
  · simp only[go_sem,simprocAttr]
    refine⟨?_,rfl⟩
    cases s with
    |nil=>rfl
    |cons c l=>
     have gv:¬(c::l).length≤12:=by simp at hb⊢;omega
     simp only[nM,dF gv,Bool.false_and]
  simp only[Bool.and_eq_true,decide_eq_true_eq]at hb;have h0:0<s.length:=by omega
  have hg:s[0]?=some s[0]:=by simp[h0]
  have en:nM (if g then fG else eP) s=((if g then fG else eP) s[0]&&s.all cx):=by
    rw[←LK]
    cases s with
    |nil=>simp at h0
    |cons c l=>rw[nM,dT (show(c::l).length≤12 by omega)];rfl
  rw[en];clear en;generalize s[0]=c at hg⊢
  have main:lJ (aA Tryz.prog) T (tz EN (aW (.p (.b (s.all cx))) H)) ⟨[(0, .p (.s s)),(1, .p (.b g)),(4, .p (.b false)),(28, .p (.b false))],[],H⟩:=by
    subst hT;clear hg;simp only[go_sem,simprocAttr,AF,EN,Bool.true_and];refine⟨Nat,[0,4,5],fun x st=>(x≤s.length∧s.all cx=(s.drop x).all cx)∧st=⟨[(0, .p (.s s)),(4, .p (.b false)),(5, .p (.i .i64 x))],[],H⟩,fun x=>s.length-x,⟨0, ?_⟩, ?_⟩
    · simp only[go_sem,simprocAttr]
      simp
    rintro x _ ⟨⟨hx,hn⟩,rfl⟩;by_cases aj:x<s.length
    · have d1:decide ((x:Int)<(s.length:Int))=true :=by simp;omega
      have hg:s[x]?=some s[x]:=by simp[aj]
      rw[gJ aj]at hn;generalize s[x]=c at hg hn;simp only[go_sem,simprocAttr,d1,hg,zu];intro _;refine U (FD c H) ?_;cases hc:cx c
      · simp only[go_sem,simprocAttr,hc]
        exact⟨b2 (by rw[hn,hc];rfl),rfl⟩
      · simp only[go_sem,simprocAttr,hc,bp x (by omega)]
        exact⟨x+1,⟨⟨by omega,by rw[hn,hc];rfl⟩,rfl⟩,by omega⟩
    · have d1:decide ((x:Int)<(s.length:Int))=false :=by simp;omega
      rw[List.drop_of_length_le (by omega),List.all_nil]at hn;simp only[go_sem,simprocAttr,d1];intro _;exact⟨b2 hn.symm,rfl⟩
  clear hT;simp only[go_sem,simprocAttr,hg,zu];refine U (x8 c H) ?_;cases g
  · cases h1:fG c
    · simp only[go_sem,simprocAttr,h1,hg,zu]
      refine U (Bb c H) ?_;cases h2:eP c
      · simp only[go_sem,simprocAttr,h2]
        exact⟨by simp[h2],rfl⟩
      · simp only[go_sem,simprocAttr,h2]
        simpa[h2,tz,EN]using main
    · simp only[go_sem,simprocAttr,h1]
      exact⟨by simp[adZ h1],rfl⟩
  · cases h1:fG c
    · simp only[go_sem,simprocAttr,h1]
      exact⟨by simp[h1],rfl⟩
    · simp only[go_sem,simprocAttr,h1]
      simpa[h1,tz,EN]using main
theorem C2 {s:List UInt8} (hs:s.length<=1073741824) (H:List AO):aA Tryz.prog 63 [.p (.s s)] H (aW (.p (.b (nN s))) H):=by
 refine call63 (by simp) ?_;simp only[go_sem,simprocAttr,U3,ab1];have h1:=qo false hs H;simp only[Bool.false_eq_true,if_false]at h1;refine U h1 ?_;cases h:nM eP s
 ·simp only[go_sem,simprocAttr,h]
  exact⟨by simp[nN,h],rfl⟩
 ·simp only[go_sem,simprocAttr,h]
  refine U (JU _ _) ?_;simp only[go_sem,simprocAttr];exact⟨by simp[nN,h],rfl⟩
theorem YQ {s:List UInt8} (hs:s.length<=1073741824) (H:List AO):aA Tryz.prog 170 [.p (.s s)] H (aW (.p (.b (nj s))) H):=by
 refine call170 (by simp) ?_;simp only[go_sem,simprocAttr,LI,Vd];refine⟨Nat,[0,2,3],fun x st=>(x<=s.length/\s.all AY=(s.drop x).all AY)/\st=⟨[(0,.p (.s s)),(2,.p (.b false)),(3,.p (.i .i64 x))],[],H⟩,fun x=>s.length-x,⟨0,?_⟩,?_⟩
 ·simp only[go_sem,simprocAttr]
  simp
 rintro x _ ⟨⟨hx,hn⟩,rfl⟩;by_cases aj:x<s.length
 ·have d1:decide ((x:Int)<(s.length:Int))=true:=by simp;omega
  have hg:s[x]?=some s[x]:=by simp[aj]
  rw[gJ aj]at hn;generalize s[x]=c at hg hn;have e1:qZ c=(decide ((32:Int)<=(c.toNat:Int))&&decide ((c.toNat:Int)<=126)):=rfl;simp only[go_sem,simprocAttr,d1,hg];intro _;cases h2:decide ((c.toNat:Int)=10)
  ·simp only[go_sem,simprocAttr,h2,hg,zu]
   refine U (HK _ _ _ _) ?_;rw[<-e1];cases h1:qZ c
   ·simp only[go_sem,simprocAttr,h1]
    exact⟨b2 (by rw[nj,hn,AY,h1,h2];rfl),rfl⟩
   ·simp only[go_sem,simprocAttr,h1,bp x (by omega)]
    exact⟨x+1,⟨⟨by omega,by rw[hn,AY,h1];rfl⟩,rfl⟩,by omega⟩
  ·simp only[go_sem,simprocAttr,h2,bp x (by omega)]
   exact⟨x+1,⟨⟨by omega,by rw[hn,AY,h2,Bool.or_true];rfl⟩,rfl⟩,by omega⟩
 ·have d1:decide ((x:Int)<(s.length:Int))=false:=by simp;omega
  simp only[go_sem,simprocAttr,d1];intro _;refine⟨b2 ?_,rfl⟩;rw[nj,hn,List.drop_of_length_le (by omega)];rfl
def hasB (z:Int) (w:List UInt8):Bool:=w.any fun c=>decide ((c.toNat:Int)=z)
theorem zU (z:Int) {w:List UInt8} {x:Nat} (h:x<w.length):hasB z (w.take (x+1))=(hasB z (w.take x)||decide ((w[x].toNat:Int)=z)):=by
 rw[hasB,List.take_succ_eq_append_getElem h,List.any_append];simp[hasB]
def Gh (k:Int) (n:List UInt8) (u:Int) (t:List UInt8) (p a:Int) (w:List UInt8):Bool:=
 decide (0<=p)&&((hasB 110 w||decide (n=[]))&&((hasB 117 w||decide (u=0))&&((hasB 116 w||decide (t=[]))&&(decide (k=13)||decide (a=0)))))
theorem Vf (w:List UInt8) (hw:w.length<=100) (k:Int) (n:List UInt8) (u:Int) (t:List UInt8) (p:Int) (ks:List aa) (aM:List al) (H:List AO):
  aA Tryz.prog 169 [br (aa.cells (.mk k n u t p ks aM)),.p (.s w)] H (aW (.p (.b (Gh k n u t p aM.length w))) H):=by
 refine aD ?_ (bw _);refine call169 (by simp) ?_;simp only[go_sem,simprocAttr,LH,Vc,aa.cells,aa.aw,aa.aN,br];have Gi:∀A,(H++AO.var [.p (.i .i64 k),.p (.s n),.p (.i .i64 u),.p (.s t),.p (.i .i64 p),.p (.l (ks.map aa.cells)),.p (.l (aM.map al.cells))]::A)[H.length]?=some (.var [.p (.i .i64 k),.p (.s n),.p (.i .i64 u),.p (.s t),.p (.i .i64 p),.p (.l (ks.map aa.cells)),.p (.l (aM.map al.cells))]):=by simp
 refine⟨Nat,[1,2,5,6,7,8],fun x st=>x<=w.length/\st=⟨[(1,.p (.s w)),(2,.ptr H.length 0),(5,.p (.b (hasB 110 (w.take x)))),(6,.p (.b (hasB 117 (w.take x)))),(7,.p (.b (hasB 116 (w.take x)))),(8,.p (.i .i64 x))],[],H++[AO.var [.p (.i .i64 k),.p (.s n),.p (.i .i64 u),.p (.s t),.p (.i .i64 p),.p (.l (ks.map aa.cells)),.p (.l (aM.map al.cells))]]⟩,fun x=>w.length-x,⟨0,?_⟩,?_⟩
 ·simp only[go_sem,simprocAttr]
  exact⟨Nat.zero_le _,by simp[hasB]⟩
 rintro x _ ⟨hx,rfl⟩;by_cases aj:x<w.length
 ·have d1:decide ((x:Int)<(w.length:Int))=true:=by simp;omega
  have hg:w[x]?=some w[x]:=by simp[aj]
  have t1:=zU 110 aj;have t2:=zU 117 aj;have t3:=zU 116 aj;generalize w[x]=c at hg t1 t2 t3;generalize hasB 110 (w.take x)=f1 at *;generalize hasB 117 (w.take x)=f2 at *;generalize hasB 116 (w.take x)=f3 at *;simp only[go_sem,simprocAttr,d1,hg];intro _;cases f1<;>cases f2<;>cases f3
  all_goals
   simp only[go_sem,simprocAttr,hg,bp x (by omega)];exact⟨x+1,⟨by omega,by rw[t1,t2,t3];rfl⟩,by omega⟩
 ·have d1:decide ((x:Int)<(w.length:Int))=false:=by simp;omega
  rw[List.take_of_length_le (by omega)];unfold Gh;generalize hasB 110 w=f1 at *;generalize hasB 117 w=f2 at *;generalize hasB 116 w=f3 at *;simp only[go_sem,simprocAttr,d1,List.length_map];intro _;cases f1<;>cases f2<;>cases f3
  all_goals
   (try simp only[go_sem,simprocAttr])
   repeat' first
    |(with_reducible refine ag _ (fun h=>?_) (fun h=>?_)<;>simp only[go_sem,simprocAttr,h,List.length_map])
    |(refine ao ?_;simp only[go_sem,simprocAttr,List.length_map])
    |(refine And.intro (by(try simp only[aC,LL]);omega) ?_;try simp only[go_sem,simprocAttr,List.length_map])
    |(intro _)
  all_goals refine⟨b2 ?_,_,rfl⟩
  all_goals simp
theorem YR (s:List UInt8):HP s=Az s:=by
 unfold HP Az;simp[List.mem_cons,Bool.or_assoc]
theorem OF (s:List UInt8):(decide (s=[112,114,105,110,116])||decide (s=[101,120,105,116])||decide (s=[115,105,122,101])||decide (s=[114,101,102])||decide (s=[33]))=pA s:=by
 unfold pA;simp[List.mem_cons,Bool.or_assoc]
theorem agY:bL [(⟨8,[],0,0⟩:Tok)]:=by
 refine⟨by simp,fun i x h=>?_,fun x h hk=>?_⟩
 ·cases i with
  |zero=>cases h;simp
  |succ i=>simp at h
 ·simp at h;subst h;simp at hk
theorem YS (k:Int) (n:List UInt8) (u:Int) (t:List UInt8) (p:Int) (ks:List aa) (aM:List al) (hn:n.length<=1073741824) (ht:t.length<=1073741824) (H:List AO):
  aA Tryz.prog 127 [br (aa.cells (.mk k n u t p ks aM))] H (aW (.p (.b (pB k n u t p ks.length aM.length))) H):=by
 refine aD ?_ (bw _);refine call127 (by simp) ?_;have hp:=fun w (hw:w.length<=100)=>Vf w hw k n u t p ks aM
 simp only[aa.cells,aa.aw,aa.aN,br,List.map_cons,List.map_nil]at hp;have C3:=fun H=>qo true hn H
 simp only[if_true]at C3;have rq:=aa9 n;rw[YR]at rq;have qH:=Kf agY (by simp) n;rw[OF]at qH;simp only[go_sem,simprocAttr,Lz,U8,aa.cells,aa.aw,aa.aN,br,List.length_map]
 repeat' first
  |(with_reducible refine ag _ (fun h=>?_) (fun h=>?_)<;>simp only[go_sem,simprocAttr,h,List.length_map])
  |(with_reducible refine U (hp _ (by decide) _) ?_;simp only[go_sem,simprocAttr,List.length_map])
  |(with_reducible refine U (C2 hn _) ?_;simp only[go_sem,simprocAttr,List.length_map])
  |(with_reducible refine U (C2 ht _) ?_;simp only[go_sem,simprocAttr,List.length_map])
  |(with_reducible refine U (HK _ _ _ _) ?_;simp only[go_sem,simprocAttr,List.length_map])
  |(with_reducible refine U (YQ ht _) ?_;simp only[go_sem,simprocAttr,List.length_map])
  |(with_reducible refine U (C3 _) ?_;simp only[go_sem,simprocAttr,List.length_map])
  |(with_reducible refine U (rq _) ?_;simp only[go_sem,simprocAttr,List.length_map])
  |(with_reducible refine U (qH _) ?_;simp only[go_sem,simprocAttr,List.length_map])
  |(refine ao ?_;simp only[go_sem,simprocAttr,List.length_map])
  |(refine And.intro (by(try simp only[aC,LL]);omega) ?_;try simp only[go_sem,simprocAttr,List.length_map])
  |(intro _)
 all_goals refine⟨b2 ?_,_,rfl⟩
 all_goals rw[pB]
 all_goals have ha:decide ((0:Int)<(aM.length:Int))=!decide ((aM.length:Int)=0):=by rw[<-decide_not];exact decide_eq_decide.2 ⟨by omega,by omega⟩
 all_goals have hm:((ks.length:Int)=-1)=False:=by simp
 all_goals rw[ha]
 all_goals generalize (ks.length:Int)=m at *
 all_goals generalize (aM.length:Int)=a at *
 all_goals clear ha C3 rq qH hp
 all_goals simp only[decide_eq_true_eq,decide_eq_false_iff_not,Bool.and_eq_true,Bool.or_eq_true]at *
 all_goals simp[Gh,hasB,F3,arity, *]at *
 all_goals first|done|(split <;>simp_all;done)|skip
 all_goals try (intros;simp_all;done)
 all_goals try grind
 all_goals exact absurd ‹pA [114,101,97,100]=true› (by decide)
theorem ab6 {u:Int} (H:List AO):aA Tryz.prog 71 [.p (.i .i64 u),.p (.i .i64 0),.p (.i .i64 1)] H (aW (.p (.b (decide (0<=u)&&decide (u<=1)))) H):=HK _ _ _ _
def qs (x:ae):Prop:=∀H:List AO,aA Tryz.prog 128 [br x.cells] H (aW (.p (.b x.okB)) H)
theorem Vg (k:Int) (n:List UInt8) (u p:Int) (ks:List ae) (hn:n.length<=1073741824) (hk:∀x∈ks,qs x):qs (.mk k n u p ks):=by
 intro H;refine aD ?_ (bw _);refine call128 (by simp) ?_;have C3:=fun H=>qo true hn H
 have dN:=fun H=>qo false hn H
 simp only[if_true,Bool.false_eq_true,if_false]at C3 dN;obtain⟨T,hT,hm⟩:∃T,T=oj.m.b.b.b.b.b.b/\oj.m=.seq oj.m.a (.seq oj.m.b.a (.seq oj.m.b.b.a (.seq oj.m.b.b.b.a (.seq oj.m.b.b.b.b.a (.seq oj.m.b.b.b.b.b.a  T))))):=⟨_,rfl,rfl⟩;rw[hm];clear hm
 have main:∀(b:Bool) (v5:AV) (v6:AV) (v21:AV) (W:List (Nat×AV)) (o:Bool),ks.length<=fb->o=(b&&ks.all ae.okB)->jS [1,2,3,4,7] (qO W 7 (.p (.i .i64 0)))=[(7,.p (.i .i64 0))]->lJ (aA Tryz.prog) T (tz C0 (fun r H'=>r=.p (.b o)/\∃G,H'=H++G)) ⟨(0,.st [.p (.i .i64 k),.p (.s n),.p (.i .i64 u),.p (.i .i64 p),.p (.l (ks.map ae.cells))])::(1,.ptr H.length 0)::(2,.p (.b false))::(3,.p (.i .i64 ks.length))::(4,.p (.b b))::(5,v5)::(6,v6)::(21,v21)::W,[],H++[.var [.p (.i .i64 k),.p (.s n),.p (.i .i64 u),.p (.i .i64 p),.p (.l (ks.map ae.cells))]]⟩:=by
  intro b  v5  v6  v21 W o hl ho hW;subst ho;rw[aC]at hl;subst hT;have Vh:∃G,H++[.var [.p (.i .i64 k),.p (.s n),.p (.i .i64 u),.p (.i .i64 p),.p (.l (ks.map ae.cells))]]=H++.var [.p (.i .i64 k),.p (.s n),.p (.i .i64 u),.p (.i .i64 p),.p (.l (ks.map ae.cells))]::G:=⟨[],rfl⟩;generalize H++[.var [.p (.i .i64 k),.p (.s n),.p (.i .i64 u),.p (.i .i64 p),.p (.l (ks.map ae.cells))]]=X at Vh;simp only[go_sem,simprocAttr,oj,C0,hW];refine⟨Nat×Bool×List AO,[1,2,3,4,7],fun x st=>(x.1<=ks.length/\(b&&ks.all ae.okB)=(x.2.1&&(ks.drop x.1).all ae.okB)/\∃G,x.2.2=H++.var [.p (.i .i64 k),.p (.s n),.p (.i .i64 u),.p (.i .i64 p),.p (.l (ks.map ae.cells))]::G)/\st=⟨[(1,.ptr H.length 0),(2,.p (.b false)),(3,.p (.i .i64 ks.length)),(4,.p (.b x.2.1)),(7,.p (.i .i64 x.1))],[],x.2.2⟩,fun x=>ks.length-x.1,⟨(0,b,X),?_⟩,?_⟩
  ·simp only[go_sem,simprocAttr,hW]
   exact⟨by simp,Vh⟩
  rintro⟨x,b,Y⟩ _ ⟨⟨hx,hn,hY⟩,rfl⟩;simp only at hx hn hY;by_cases aj:x<ks.length
  ·have d1:decide ((x:Int)<(ks.length:Int))=true:=by simp;omega
   have bC:(x:Int)<(ks.length:Int):=by omega
   have hg:(ks.map ae.cells)[x]?=some (ae.cells ks[x]):=by simp[aj]
   have hc:=fun H=>hk ks[x] (List.getElem_mem aj) H
   rw[gJ aj]at hn;generalize ks[x]=c at hg hc hn;obtain⟨ck,cn,cu,cp,oF⟩:=c;simp only[ae.cells,br,List.map_cons,List.map_nil,qs]at hg hc;obtain⟨G,rfl⟩:=hY;cases b
   ·simp only[go_sem,simprocAttr,d1]
    exact⟨b2 (by rw[hn];rfl),_,rfl⟩
   simp only[go_sem,simprocAttr,d1,bC,hg,List.length_map];refine U (hc _) ?_;generalize ae.okB _=b at hn⊢;simp only[go_sem,simprocAttr,bp x (by omega)];exact⟨(x+1,b,_),⟨⟨by omega,by simpa using hn,_,rfl⟩,rfl⟩,by simp only;omega⟩
  ·have d1:decide ((x:Int)<(ks.length:Int))=false:=by simp;omega
   rw[List.drop_of_length_le (by omega),List.all_nil,Bool.and_true]at hn;obtain⟨G,rfl⟩:=hY;simp only[go_sem,simprocAttr,d1];exact⟨b2 hn.symm,_,rfl⟩
 clear hT;simp only[go_sem,simprocAttr,oj,C0,ae.cells,ae.aw,br,List.length_map];intro hl;simp only[C0]at main
 replace main:=fun b v5 v6 v21 W o=>main b v5 v6 v21 W o hl
 clear hl
 repeat' first
  |(with_reducible refine ag _ (fun h=>?_) (fun h=>?_)<;>simp only[go_sem,simprocAttr,h,List.length_map])
  |(with_reducible refine U (C2 hn _) ?_;simp only[go_sem,simprocAttr,List.length_map])
  |(with_reducible refine U (ab6 _) ?_;simp only[go_sem,simprocAttr,List.length_map])
  |(with_reducible refine U (C3 _) ?_;simp only[go_sem,simprocAttr,List.length_map])
  |(with_reducible refine U (dN _) ?_;simp only[go_sem,simprocAttr,List.length_map])
  |(refine ao ?_;simp only[go_sem,simprocAttr,List.length_map])
  |(refine And.intro (by(try simp only[aC,LL]);omega) ?_;try simp only[go_sem,simprocAttr,List.length_map])
  |(intro _)
 all_goals clear C3 dN
 all_goals rw[ae.okB,ae.jN,AA]
 all_goals generalize ks.all ae.okB=ob at *
 all_goals generalize (ks.length:Int)=m at *
 all_goals simp only[decide_eq_true_eq,decide_eq_false_iff_not,Bool.and_eq_true,Bool.or_eq_true]at *
 all_goals first
  |(refine⟨b2 ?_,_,rfl⟩;simp[*];done)
  |(refine main _ _ _ _ _ _ ?_ ?_ <;>clear main<;>simp[F3,qO,jS,lu, *];done)
  |trace_state
theorem Vi (p:ae) (h:p.sz≤1073741824):qs p:=by
  have :∀(m:Nat) (p:ae),p.sz<m→p.sz≤1073741824→qs p:=by
    intro m
    induction m with
    |zero=>intro p h;omega
    |succ m ih=>
     intro p h h2;obtain⟨ck,cn,cu,cp,oF⟩:=p;rw[ae.sz,ae.dr]at h h2;exact Vg _ _ _ _ _ (by omega) fun a ha=>ih a (by have :=bM ae.sz ha;omega) (by have :=bM ae.sz ha;omega)
  exact this _ p (Nat.lt_succ_self _) h
def oL (x:aa):Prop:=∀H:List AO,aA Tryz.prog 67 [br x.cells] H (aW (.p (.b x.okB)) H)
theorem Vj (k:Int) (n:List UInt8) (u:Int) (t:List UInt8) (p:Int) (ks:List aa) (aM:List al) (hn:n.length<=1073741824) (ht:t.length<=1073741824) (hk:∀x∈ks,oL x) (ha:∀q e,al.mk q e∈aM->qs q/\oL e):oL (.mk k n u t p ks aM):=by
 intro H;refine aD ?_ (bw _);refine call67 (by simp) ?_;have hh:=YS k n u t p ks aM hn ht;simp only[aa.cells,aa.aw,aa.aN,br,List.map_cons,List.map_nil]at hh;rw[aa.okB,aa.jN,aa.Bc];simp only[go_sem,simprocAttr,U5,ab3,aa.cells,aa.aw,aa.aN,br,List.length_map];refine U (hh _) ?_;simp only[go_sem,simprocAttr];generalize pB k n u t p ks.length aM.length=b;cases b
 ·simp only[go_sem,simprocAttr]
  exact⟨b2 rfl,_,rfl⟩
 simp only[go_sem,simprocAttr,List.length_map,Bool.true_and];have hB:=Bh.nil H (.var [.p (.i .i64 k),.p (.s n),.p (.i .i64 u),.p (.s t),.p (.i .i64 p),.p (.l (ks.map aa.cells)),.p (.l (aM.map al.cells))]);generalize hV:AO.var [.p (.i .i64 k),.p (.s n),.p (.i .i64 u),.p (.s t),.p (.i .i64 p),.p (.l (ks.map aa.cells)),.p (.l (aM.map al.cells))]=V at hB;generalize H++[V]=X at hB;refine⟨Nat×List AO,[1,2,3],fun x st=>(x.1<=ks.length/\ks.all aa.okB=(ks.drop x.1).all aa.okB/\Bh H V x.2)/\st=⟨[(1,.ptr H.length 0),(2,.p (.b false)),(3,.p (.i .i64 x.1))],[],x.2⟩,fun x=>ks.length-x.1,⟨(0,X),?_⟩,?_⟩
 ·simp only[go_sem,simprocAttr]
  exact⟨by simp,hB⟩
 rintro⟨x,Y⟩ _ ⟨⟨hx,hn,hY⟩,rfl⟩;simp only at hx hn hY;have jH:=hY.UW;rw[<-hV]at jH;by_cases aj:x<ks.length
 ·have d1:decide ((x:Int)<(ks.length:Int))=true:=by simp;omega
  have bC:(x:Int)<(ks.length:Int):=by omega
  have hg:(ks.map aa.cells)[x]?=some (aa.cells ks[x]):=by simp[aj]
  have hc:=fun H=>hk ks[x] (List.getElem_mem aj) H
  rw[gJ aj]at hn;generalize ks[x]=c at hg hc hn;obtain⟨ck,cn,cu,ct,cp,oF,DD⟩:=c;simp only[aa.cells,br,List.map_cons,List.map_nil,oL]at hg hc;simp only[go_sem,simprocAttr,d1,bC,hg,jH,List.length_map];intro hl;rw[aC]at hl;refine U (hc _) ?_;generalize aa.okB _=b at hn;cases b
  ·simp only[go_sem,simprocAttr]
   exact⟨b2 (by rw[hn];rfl),hY.ends⟩
  ·simp only[go_sem,simprocAttr,bp x (by omega)]
   exact⟨(x+1,_),⟨⟨by omega,by simpa using hn,hY⟩,rfl⟩,by simp only;omega⟩
 ·have d1:decide ((x:Int)<(ks.length:Int))=false:=by simp;omega
  rw[List.drop_of_length_le (by omega),List.all_nil]at hn;rw[hn,Bool.true_and];simp only[go_sem,simprocAttr,d1,jH,List.length_map];intro hl;rw[aC]at hl;refine⟨Nat,[1,2,4],fun x st=>(x<=aM.length/\aM.all al.okB=(aM.drop x).all al.okB)/\st=⟨[(1,.ptr H.length 0),(2,.p (.b false)),(4,.p (.i .i64 x))],[],Y⟩,fun x=>aM.length-x,⟨0,?_⟩,?_⟩
  ·simp only[go_sem,simprocAttr]
   simp
  rintro y _ ⟨⟨hy,hm⟩,rfl⟩;by_cases aj:y<aM.length
  ·have d2:decide ((y:Int)<(aM.length:Int))=true:=by simp;omega
   have bC:(y:Int)<(aM.length:Int):=by omega
   have hg:(aM.map al.cells)[y]?=some (al.cells aM[y]):=by simp[aj]
   have hc:∀q e,aM[y]=al.mk q e->qs q/\oL e:=fun q e he=>ha q e (by rw[<-he];exact List.getElem_mem aj)
   rw[gJ aj]at hm;generalize aM[y]=c at hg hc hm;obtain⟨⟨qk,qn,qu,qp,OC⟩,⟨ck,cn,cu,ct,cp,oF,DD⟩⟩:=c;obtain⟨h1,h2⟩:=hc _ _ rfl;simp only[M3,ae.cells,aa.cells,br,List.map_cons,List.map_nil,oL,qs,List.cons_append,List.nil_append]at hg h1 h2;rw[al.okB]at hm;generalize ae.okB _=b1 at hm h1;generalize aa.okB _=b2' at hm h2;simp only[go_sem,simprocAttr,d2,bC,hg,jH,List.length_map];intro jF;rw[aC]at jF;refine U (h1 _) ?_;cases b1
   ·simp only[go_sem,simprocAttr,jH]
    exact⟨b2 (by rw[hm];rfl),hY.ends⟩
   simp only[go_sem,simprocAttr,bC,hg,jH,List.length_map];refine U (h2 _) ?_;cases b2'
   ·simp only[go_sem,simprocAttr]
    exact⟨b2 (by rw[hm];rfl),hY.ends⟩
   simp only[go_sem,simprocAttr,bp y (by omega)];exact⟨y+1,⟨⟨by omega,by simpa using hm⟩,rfl⟩,by omega⟩
  ·have d2:decide ((y:Int)<(aM.length:Int))=false:=by simp;omega
   rw[List.drop_of_length_le (by omega),List.all_nil]at hm;simp only[go_sem,simprocAttr,d2,jH,List.length_map];intro jF;exact⟨b2 hm.symm,hY.ends⟩
theorem Vk (p:aa) (h:p.sz≤1073741824):oL p:=by
  have :∀(m:Nat) (p:aa),p.sz<m→p.sz≤1073741824→oL p:=by
    intro m
    induction m with
    |zero=>intro p h;omega
    |succ m ih=>
     intro p h h2;obtain⟨k,n,u,t,q,ks,aM⟩:=p;rw[aa.sz,aa.dr,aa.lN]at h h2;refine Vj _ _ _ _ _ _ _ (by omega) (by omega) (fun a ha=>ih a (by have :=bM aa.sz ha;omega) (by have :=bM aa.sz ha;omega)) fun q e ha=> ?_
     have :=bM al.sz ha;rw[al.sz]at this;exact⟨Vi q (by omega),ih e (by omega) (by omega)⟩
  exact this _ p (Nat.lt_succ_self _) h
def zV (x:af):Prop:=∀H:List AO,aA Tryz.prog 65 [br x.cells] H (aW (.p (.b x.okB)) H)
theorem YT (k:Int) (n:List UInt8) (p:Int) (ks:List af) (hn:n.length<=1073741824) (hk:∀x∈ks,zV x):zV (.mk k n p ks):=by
 intro H;refine aD ?_ (bw _);refine call65 (by simp) ?_;have C3:=fun H=>qo true hn H
 have dN:=fun H=>qo false hn H
 simp only[if_true,Bool.false_eq_true,if_false]at C3 dN;obtain⟨T,hT,hm⟩:∃T,T=vX.m.b.b.b.b/\vX.m=.seq vX.m.a (.seq vX.m.b.a (.seq vX.m.b.b.a (.seq vX.m.b.b.b.a  T))):=⟨_,rfl,rfl⟩;rw[hm];clear hm
 have main:∀(b:Bool) (YU:AV) (W:List (Nat×AV)) (o:Bool),ks.length<=fb->o=(b&&ks.all af.okB)->jS [1,2,3,4,5] (qO W 5 (.p (.i .i64 0)))=[(5,.p (.i .i64 0))]->lJ (aA Tryz.prog) T (tz Iy (fun r H'=>r=.p (.b o)/\∃G,H'=H++G)) ⟨(0,.st [.p (.i .i64 k),.p (.s n),.p (.i .i64 p),.p (.l (ks.map af.cells))])::(1,.ptr H.length 0)::(2,.p (.b false))::(3,.p (.i .i64 ks.length))::(4,.p (.b b))::(13,YU)::W,[],H++[.var [.p (.i .i64 k),.p (.s n),.p (.i .i64 p),.p (.l (ks.map af.cells))]]⟩:=by
  intro b  YU W o hl ho hW;subst ho;rw[aC]at hl;subst hT;have Vh:∃G,H++[.var [.p (.i .i64 k),.p (.s n),.p (.i .i64 p),.p (.l (ks.map af.cells))]]=H++.var [.p (.i .i64 k),.p (.s n),.p (.i .i64 p),.p (.l (ks.map af.cells))]::G:=⟨[],rfl⟩;generalize H++[.var [.p (.i .i64 k),.p (.s n),.p (.i .i64 p),.p (.l (ks.map af.cells))]]=X at Vh;simp only[go_sem,simprocAttr,vX,Iy,hW];refine⟨Nat×Bool×List AO,[1,2,3,4,5],fun x st=>(x.1<=ks.length/\(b&&ks.all af.okB)=(x.2.1&&(ks.drop x.1).all af.okB)/\∃G,x.2.2=H++.var [.p (.i .i64 k),.p (.s n),.p (.i .i64 p),.p (.l (ks.map af.cells))]::G)/\st=⟨[(1,.ptr H.length 0),(2,.p (.b false)),(3,.p (.i .i64 ks.length)),(4,.p (.b x.2.1)),(5,.p (.i .i64 x.1))],[],x.2.2⟩,fun x=>ks.length-x.1,⟨(0,b,X),?_⟩,?_⟩
  ·simp only[go_sem,simprocAttr,hW]
   exact⟨by simp,Vh⟩
  rintro⟨x,b,Y⟩ _ ⟨⟨hx,hn,hY⟩,rfl⟩;simp only at hx hn hY;by_cases aj:x<ks.length
  ·have d1:decide ((x:Int)<(ks.length:Int))=true:=by simp;omega
   have bC:(x:Int)<(ks.length:Int):=by omega
   have hg:(ks.map af.cells)[x]?=some (af.cells ks[x]):=by simp[aj]
   have hc:=fun H=>hk ks[x] (List.getElem_mem aj) H
   rw[gJ aj]at hn;generalize ks[x]=c at hg hc hn;obtain⟨ck,cn,cp,oF⟩:=c;simp only[af.cells,br,List.map_cons,List.map_nil,zV]at hg hc;obtain⟨G,rfl⟩:=hY;cases b
   ·simp only[go_sem,simprocAttr,d1]
    exact⟨b2 (by rw[hn];rfl),_,rfl⟩
   simp only[go_sem,simprocAttr,d1,bC,hg,List.length_map];refine U (hc _) ?_;generalize af.okB _=b at hn⊢;simp only[go_sem,simprocAttr,bp x (by omega)];exact⟨(x+1,b,_),⟨⟨by omega,by simpa using hn,_,rfl⟩,rfl⟩,by simp only;omega⟩
  ·have d1:decide ((x:Int)<(ks.length:Int))=false:=by simp;omega
   rw[List.drop_of_length_le (by omega),List.all_nil,Bool.and_true]at hn;obtain⟨G,rfl⟩:=hY;simp only[go_sem,simprocAttr,d1];exact⟨b2 hn.symm,_,rfl⟩
 clear hT;simp only[go_sem,simprocAttr,vX,Iy,af.cells,af.aw,br,List.length_map];intro hl;simp only[Iy]at main
 replace main:=fun b YU W o=>main b YU W o hl
 clear hl
 repeat' first
  |(with_reducible refine ag _ (fun h=>?_) (fun h=>?_)<;>simp only[go_sem,simprocAttr,h,List.length_map])
  |(with_reducible refine U (C2 hn _) ?_;simp only[go_sem,simprocAttr,List.length_map])
  |(with_reducible refine U (ab6 _) ?_;simp only[go_sem,simprocAttr,List.length_map])
  |(with_reducible refine U (C3 _) ?_;simp only[go_sem,simprocAttr,List.length_map])
  |(with_reducible refine U (dN _) ?_;simp only[go_sem,simprocAttr,List.length_map])
  |(refine ao ?_;simp only[go_sem,simprocAttr,List.length_map])
  |(refine And.intro (by(try simp only[aC,LL]);omega) ?_;try simp only[go_sem,simprocAttr,List.length_map])
  |(intro _)
 all_goals clear C3 dN
 all_goals rw[af.okB,af.jN,AB]
 all_goals generalize ks.all af.okB=ob at *
 all_goals generalize (ks.length:Int)=m at *
 all_goals simp only[decide_eq_true_eq,decide_eq_false_iff_not,Bool.and_eq_true,Bool.or_eq_true]at *
 all_goals first
  |(refine⟨b2 ?_,_,rfl⟩;simp[*];done)
  |(refine main _ _ _ _ ?_ ?_ <;>clear main<;>simp[F3,qO,jS,lu, *];done)
  |trace_state
theorem YV (p:af) (h:p.sz≤1073741824):zV p:=by
  have :∀(m:Nat) (p:af),p.sz<m→p.sz≤1073741824→zV p:=by
    intro m
    induction m with
    |zero=>intro p h;omega
    |succ m ih=>
     intro p h h2;obtain⟨ck,cn,cp,oF⟩:=p;rw[af.sz,af.dr]at h h2;exact YT _ _ _ _ (by omega) fun a ha=>ih a (by have :=bM af.sz ha;omega) (by have :=bM af.sz ha;omega)
  exact this _ p (Nat.lt_succ_self _) h
theorem YW (x:af) (H:List AO):aA Tryz.prog 66 [br x.cells] H (aW (.p (.b x.Ig)) H):=by
 obtain⟨k,n,p,ks⟩:=x;refine aD ?_ (bw _);refine call66 (by simp) ?_;simp only[go_sem,simprocAttr,U4,ab2,af.cells,af.aw,br,List.length_map]
 repeat' first
  |(with_reducible refine ag _ (fun h=>?_) (fun h=>?_)<;>simp only[go_sem,simprocAttr,h,List.length_map])
  |(refine ao ?_;simp only[go_sem,simprocAttr,List.length_map])
  |(refine And.intro (by(try simp only[aC,LL]);omega) ?_;try simp only[go_sem,simprocAttr,List.length_map])
  |(intro _)
 all_goals refine⟨b2 ?_,_,rfl⟩
 all_goals rw[af.Ig]
 all_goals simp only[decide_eq_true_eq,decide_eq_false_iff_not,Bool.and_eq_true]at *
 all_goals (simp[*];done)
theorem sv {s:List UInt8}:∀{l:List (List UInt8)},s∈l→s.length≤jv l
  |[],h=>by cases h
  |a::l,h=>by
   rw[jv];rcases List.mem_cons.1 h with rfl|h
   · omega
   · have :=sv h;omega
theorem sw {x:ah}:∀{l:List ah},x∈l→x.sz≤eG l
  |[],h=>by cases h
  |a::l,h=>by
   rw[eG];rcases List.mem_cons.1 h with rfl|h
   · omega
   · have :=sw h;omega
theorem OG (g:bb) (hg:g.sz<=1073741824) (H:List AO):aA Tryz.prog 26 [br g.cells] H (aW (.p (.b g.okB)) H):=by
 obtain⟨ds,b⟩:=g;simp only[bb.sz]at hg;have h1:=Vk b (by omega);have Ck:∀d∈ds,d.sz<=1073741824:=fun d hd=>by have:=ma hd;omega
 simp only[bb.okB];rw[oL]at h1;generalize b.okB=o1 at h1⊢;clear hg;obtain⟨k,n,u,t,p,ks,aM⟩:=b;simp only[aa.cells,br,List.map_cons,List.map_nil]at h1;refine aD ?_ (bw _);refine call26 (by simp) ?_;simp only[go_sem,simprocAttr,U1,abZ,bb.cells,aa.cells,br];have hB:=Bh.nil H (.var [.p (.l (ds.map ai.cells)),.p (.i .i64 k),.p (.s n),.p (.i .i64 u),.p (.s t),.p (.i .i64 p),.p (.l (aa.aV ks)),.p (.l (aa.bR aM))]);generalize hV:AO.var [.p (.l (ds.map ai.cells)),.p (.i .i64 k),.p (.s n),.p (.i .i64 u),.p (.s t),.p (.i .i64 p),.p (.l (aa.aV ks)),.p (.l (aa.bR aM))]=V at hB;generalize H++[V]=X at hB;refine⟨Nat×List AO,[1,2,3],fun x st=>(x.1<=ds.length/\ds.all ai.okB=(ds.drop x.1).all ai.okB/\Bh H V x.2)/\st=⟨[(1,.ptr H.length 0),(2,.p (.b false)),(3,.p (.i .i64 x.1))],[],x.2⟩,fun x=>ds.length-x.1,⟨(0,X),?_⟩,?_⟩
 ·simp only[go_sem,simprocAttr]
  exact⟨by simp,hB⟩
 rintro⟨x,Y⟩ _ ⟨⟨hx,hn,hY⟩,rfl⟩;simp only at hx hn hY;have jH:=hY.UW;rw[<-hV]at jH;by_cases aj:x<ds.length
 ·have d1:decide ((x:Int)<(ds.length:Int))=true:=by simp;omega
  have bC:(x:Int)<(ds.length:Int):=by omega
  have hg:(ds.map ai.cells)[x]?=some (ai.cells ds[x]):=by simp[aj]
  have hc:=Ck ds[x] (List.getElem_mem aj);rw[gJ aj]at hn;generalize ds[x]=d at hg hc hn;obtain⟨dn,dv,dc,dp⟩:=d;simp only[ai.sz]at hc;simp only[ai.cells,ai.okB]at hg hn;simp only[go_sem,simprocAttr,d1,bC,hg,jH,List.length_map];intro hl;rw[aC]at hl;have DE:=hY.ext [.var [.p (.s dn),.p (.l (cg dv)),.p (.l (dc.map ah.cells)),.p (.i .i64 dp)]];refine U (C2 (by omega) _) ?_;generalize nN dn=c1 at hn;cases c1
  ·simp only[go_sem,simprocAttr]
   exact⟨b2 (by simp[hn]),DE.ends⟩
  simp only[go_sem,simprocAttr];cases c2:decide (dp<0);rotate_left
  ·simp only[go_sem,simprocAttr,c2]
   have e1:decide (0<=dp)=false:=by simp at c2⊢;omega
   exact⟨b2 (by simp[hn,e1]),DE.ends⟩
  simp only[go_sem,simprocAttr,c2,List.length_map];intro jF;rw[aC]at jF;cases c3:decide ((dc.length:Int)=0);rotate_left
  ·simp only[go_sem,simprocAttr,c3]
   have e1:decide ((0:Int)<(dc.length:Int))=false:=by simp at c3⊢;exact c3
   rw[e1]at hn;exact⟨b2 (by rw[hn];simp),DE.ends⟩
  simp only[go_sem,simprocAttr,c3]
  replace hn:ds.all ai.okB=((dv.all (nM eP)&&dc.all ah.okB)&&(ds.drop (x+1)).all ai.okB):=by
   rw[hn];have e1:decide (0<=dp)=true:=by simp at c2⊢;omega
   have e2:decide ((0:Int)<(dc.length:Int))=true:=by simp at c3⊢;exact List.length_pos_iff.2 c3
   rw[e1,e2];rfl
  have HZ:=(Bh.nil Y (.var [.p (.s dn),.p (.l (cg dv)),.p (.l (dc.map ah.cells)),.p (.i .i64 dp)])).at;have Vl:=fun A=>DE.ext A
  generalize hY2:Y++[AO.var [.p (.s dn),.p (.l (cg dv)),.p (.l (dc.map ah.cells)),.p (.i .i64 dp)]]=Y2 at DE HZ Vl;refine⟨Nat,[1,2,3,4,5],fun z st=>(z<=dv.length/\dv.all (nM eP)=(dv.drop z).all (nM eP))/\st=⟨[(1,.ptr H.length 0),(2,.p (.b false)),(3,.p (.i .i64 x)),(4,.ptr Y.length 0),(5,.p (.i .i64 z))],[],Y2⟩,fun z=>dv.length-z,⟨0,?_⟩,?_⟩
  ·simp only[go_sem,simprocAttr]
   simp
  rintro z _ ⟨⟨hx5,cM⟩,rfl⟩;have kH:=HZ [];rw[List.append_nil]at kH;by_cases C4:z<dv.length
  ·have d5:decide ((z:Int)<(dv.length:Int))=true:=by simp;omega
   have zW:(z:Int)<(dv.length:Int):=by omega
   have Dy:(cg dv)[z]?=some [.s dv[z]]:=by simp[cg,C4]
   have KV:dv[z].length<=1073741824:=by have:=sv (List.getElem_mem C4);omega
   have AZ:(cg dv).length=dv.length:=by simp[cg]
   rw[gJ C4]at cM;generalize dv[z]=w at Dy KV cM;simp only[go_sem,simprocAttr,d5,zW,Dy,kH,AZ];intro hl6;rw[aC]at hl6;have h5:=qo false KV;simp only[Bool.false_eq_true,if_false]at h5;refine U (h5 _) ?_;cases c5:nM eP w
   ·simp only[go_sem,simprocAttr]
    exact⟨b2 (by simp[hn,cM,c5]),DE.ends⟩
   simp only[go_sem,simprocAttr,bp z (by omega)];exact⟨z+1,⟨⟨by omega,by rw[cM,c5];rfl⟩,rfl⟩,by omega⟩
  have d5:decide ((z:Int)<(dv.length:Int))=false:=by simp;omega
  have AZ:(cg dv).length=dv.length:=by simp[cg]
  rw[List.drop_of_length_le (by omega),List.all_nil]at cM;rw[cM,Bool.true_and]at hn;simp only[go_sem,simprocAttr,d5,kH,AZ];intro hl6;refine⟨Nat×List AO,[1,2,3,4,6],fun z st=>(z.1<=dc.length/\dc.all ah.okB=(dc.drop z.1).all ah.okB/\∃G,z.2=Y2++G)/\st=⟨[(1,.ptr H.length 0),(2,.p (.b false)),(3,.p (.i .i64 x)),(4,.ptr Y.length 0),(6,.p (.i .i64 z.1))],[],z.2⟩,fun z=>dc.length-z.1,⟨(0,Y2),?_⟩,?_⟩
  ·simp only[go_sem,simprocAttr]
   exact⟨by simp,[],by simp⟩
  rintro⟨y,Z⟩ _ ⟨⟨hy,hm,G,rfl⟩,rfl⟩;simp only at hy hm;have hz7:=HZ G;by_cases AG:y<dc.length
  ·have d7:decide ((y:Int)<(dc.length:Int))=true:=by simp;omega
   have jI:(y:Int)<(dc.length:Int):=by omega
   have pX:(dc.map ah.cells)[y]?=some (ah.cells dc[y]):=by simp[AG]
   have Vm:dc[y].sz<=1073741824:=by have:=sw (List.getElem_mem AG);omega
   rw[gJ AG]at hm;generalize dc[y]=w at pX Vm hm;obtain⟨cn,ch,ca,cp⟩:=w;simp only[ah.sz]at Vm;have t1:=YV ca (by omega);have t2:=YW ca;have t3:=qo true (s:=cn) (by omega);simp only[if_true]at t3;obtain⟨ak,an,ap,wV⟩:=ca;simp only[ah.cells,af.cells,br,List.map_cons,List.map_nil,zV,List.cons_append,List.nil_append]at pX t1 t2;simp only[ah.okB,F3]at hm;generalize af.okB _=o1 at hm t1;generalize af.Ig _=o2 at hm t2;generalize hr:(dc.drop (y+1)).all ah.okB=rest at hm;have hz8:∀A,∃G',Y2++(G++A)=H++G':=fun A=>(Vl _).ends
   generalize hE:(ds.drop (x+1)).all ai.okB=aii at hn;simp only[go_sem,simprocAttr,d7,jI,pX,hz7,List.length_map];intro hl8;rw[aC]at hl8;cases ch
   all_goals
    repeat' first
     |(with_reducible refine ag _ (fun h=>?_) (fun h=>?_)<;>simp only[go_sem,simprocAttr,h,bp y (by omega)])
     |(with_reducible refine U (t3 _) ?_;simp only[go_sem,simprocAttr,bp y (by omega)])
     |(with_reducible refine U (t1 _) ?_;simp only[go_sem,simprocAttr,bp y (by omega)])
     |(with_reducible refine U (t2 _) ?_;simp only[go_sem,simprocAttr,bp y (by omega)])
     |(refine ao ?_;simp only[go_sem,simprocAttr,bp y (by omega)])
     |(refine And.intro (by(try simp only[aC,LL]);omega) ?_;try simp only[go_sem,simprocAttr,bp y (by omega)])
     |(intro _)
   all_goals try simp only[Bool.not_eq_false',Bool.not_eq_true']at *
   all_goals first
    |(refine⟨b2 ?_,hz8 _⟩;rw[hn,hm];clear hr hn hm hE;simp[*];done)
    |(refine⟨(y+1,_),⟨⟨by omega,hm.trans (Eq.trans ?_ hr.symm),_,rfl⟩,rfl⟩,by simp only;omega⟩;clear hr hn hm hE;simp[*];done)
  have d7:decide ((y:Int)<(dc.length:Int))=false:=by simp;omega
  rw[List.drop_of_length_le (by omega),List.all_nil]at hm;rw[hm,Bool.true_and]at hn;simp only[go_sem,simprocAttr,d7,hz7,List.length_map,bp x (by omega)];intro hl9;exact⟨(x+1,_),⟨⟨by omega,hn,Vl _⟩,rfl⟩,by simp only;omega⟩
 ·have d1:decide ((x:Int)<(ds.length:Int))=false:=by simp;omega
  rw[List.drop_of_length_le (by omega),List.all_nil]at hn;simp only[go_sem,simprocAttr,d1,jH,List.length_map];intro hl;refine U (h1 _) ?_;simp only[go_sem,simprocAttr];exact⟨b2 (by rw[hn,Bool.and_true]),hY.ends⟩
end Go.Proofs.YtjkbbnfdbfcebaaGreatDoor.Qp
namespace Go.Proofs.YtjkbbnfdbfcebaaGreatDoor.Pg
open Go.AM Mc Qp
end Go.Proofs.YtjkbbnfdbfcebaaGreatDoor.Pg
namespace Go.Proofs.YtjkbbnfdbfcebaaGreatDoor.Pg
open Go.AM
section
variable (b:List Int)
end
section
variable {b:List Int}
end
section
variable (b:List Int)
end
section
variable {b:List Int}
end
end Go.Proofs.YtjkbbnfdbfcebaaGreatDoor.Pg
set_option linter.all false
set_option maxRecDepth 100000
namespace Go.Proofs.YtjkbbnfdbfcebaaGreatDoor.Mc
open Go.AM
end Go.Proofs.YtjkbbnfdbfcebaaGreatDoor.Mc
set_option linter.all false
set_option maxRecDepth 100000
namespace Go.Proofs.YtjkbbnfdbfcebaaGreatDoor.Mc
open Go.AM
def mc7:bl (Tryz.f7.body.map (compile [0,1,2,3,4,6,9] Tryz.prog 32)):=⟨_,by conv=>lhs;cbv⟩
def mr7:List MR:=[.t 2]
theorem call7:ax Tryz.prog 7 32 mc7.m mr7:=mc7.call Tryz.func7 (by kernel_rfl)
end Go.Proofs.YtjkbbnfdbfcebaaGreatDoor.Mc
set_option linter.all false
set_option maxRecDepth 100000
namespace Go.Proofs.YtjkbbnfdbfcebaaGreatDoor.Mc
open Go.AM
def Vn:bl (Tryz.f22.body.map (compile [0,1,2,3,4,9,14,19,24,29,35,41] Tryz.prog 42)):=⟨_,by conv=>lhs;cbv⟩
def ab7:List MR:=[.t 4]
theorem call22:ax Tryz.prog 22 42 Vn.m ab7:=Vn.call Tryz.func22 (by kernel_rfl)
def Vo:bl (Tryz.f58.body.map (compile [0,1,4,5,10,14,26] Tryz.prog 27)):=⟨_,by conv=>lhs;cbv⟩
def ab8:List MR:=[.t 4]
theorem call58:ax Tryz.prog 58 27 Vo.m ab8:=Vo.call Tryz.func58 (by kernel_rfl)
def Vp:bl (Tryz.f59.body.map (compile [0,1,4,5,10,14,26] Tryz.prog 27)):=⟨_,by conv=>lhs;cbv⟩
def ab9:List MR:=[.t 4]
theorem call59:ax Tryz.prog 59 27 Vp.m ab9:=Vp.call Tryz.func59 (by kernel_rfl)
def LM:bl (Tryz.f124.body.map (compile [0,1,2,3,4,10,16] Tryz.prog 17)):=⟨_,by conv=>lhs;cbv⟩
def Vq:List MR:=[.t 4]
theorem call124:ax Tryz.prog 124 17 LM.m Vq:=LM.call Tryz.func124 (by kernel_rfl)
def LN:bl (Tryz.f166.body.map (compile [0,1,2,3,4,9,14,19,24,30] Tryz.prog 31)):=⟨_,by conv=>lhs;cbv⟩
def Vr:List MR:=[.t 4]
theorem call166:ax Tryz.prog 166 31 LN.m Vr:=LN.call Tryz.func166 (by kernel_rfl)
def LP:bl (Tryz.f197.body.map (compile [0,1,4,5,10,14,26] Tryz.prog 27)):=⟨_,by conv=>lhs;cbv⟩
def Vs:List MR:=[.t 4]
theorem call197:ax Tryz.prog 197 27 LP.m Vs:=LP.call Tryz.func197 (by kernel_rfl)
end Go.Proofs.YtjkbbnfdbfcebaaGreatDoor.Mc
set_option linter.all false
set_option maxRecDepth 100000
namespace Go.Proofs.YtjkbbnfdbfcebaaGreatDoor.Mc
open Go.AM
def mc8:bl (Tryz.f8.body.map (compile [0,1,2,3,4,10,16] Tryz.prog 17)):=⟨_,by conv=>lhs;cbv⟩
def mr8:List MR:=[.t 4]
theorem call8:ax Tryz.prog 8 17 mc8.m mr8:=mc8.call Tryz.func8 (by kernel_rfl)
def Vt:bl (Tryz.f21.body.map (compile [0,1,4,5,10,14,26] Tryz.prog 27)):=⟨_,by conv=>lhs;cbv⟩
def aca:List MR:=[.t 4]
theorem call21:ax Tryz.prog 21 27 Vt.m aca:=Vt.call Tryz.func21 (by kernel_rfl)
def Vu:bl (Tryz.f57.body.map (compile [0,1,2,3,4,9,15,21,26] Tryz.prog 27)):=⟨_,by conv=>lhs;cbv⟩
def acb:List MR:=[.t 4]
theorem call57:ax Tryz.prog 57 27 Vu.m acb:=Vu.call Tryz.func57 (by kernel_rfl)
def LQ:bl (Tryz.f122.body.map (compile [0,1,4,5,10,14,25] Tryz.prog 26)):=⟨_,by conv=>lhs;cbv⟩
def Vv:List MR:=[.t 4]
theorem call122:ax Tryz.prog 122 26 LQ.m Vv:=LQ.call Tryz.func122 (by kernel_rfl)
def LS:bl (Tryz.f123.body.map (compile [0,1,4,5,10,14,26] Tryz.prog 27)):=⟨_,by conv=>lhs;cbv⟩
def Vw:List MR:=[.t 4]
theorem call123:ax Tryz.prog 123 27 LS.m Vw:=LS.call Tryz.func123 (by kernel_rfl)
def LU:bl (Tryz.f165.body.map (compile [0,1,2,3,4,9,14,20,25] Tryz.prog 26)):=⟨_,by conv=>lhs;cbv⟩
def Vx:List MR:=[.t 4]
theorem call165:ax Tryz.prog 165 26 LU.m Vx:=LU.call Tryz.func165 (by kernel_rfl)
def LV:bl (Tryz.f196.body.map (compile [0,1,2,3,4,9,14,19,25] Tryz.prog 26)):=⟨_,by conv=>lhs;cbv⟩
def Vy:List MR:=[.t 4]
theorem call196:ax Tryz.prog 196 26 LV.m Vy:=LV.call Tryz.func196 (by kernel_rfl)
def LW:bl (Tryz.f221.body.map (compile [0,1,4,5,10,14,26] Tryz.prog 27)):=⟨_,by conv=>lhs;cbv⟩
def Vz:List MR:=[.t 4]
theorem call221:ax Tryz.prog 221 27 LW.m Vz:=LW.call Tryz.func221 (by kernel_rfl)
end Go.Proofs.YtjkbbnfdbfcebaaGreatDoor.Mc
namespace Go.Proofs.YtjkbbnfdbfcebaaGreatDoor.Pg
open Go.AM Mc Qp
abbrev av (cs:List PV):AV:=.st (cs.map .p)
theorem dR {cs:List AV} {n:Nat} (h:cs.length=n):takeN n cs=some cs:=by
 have:=Hg (a:=cs) (b:=[]) h;simpa using this
theorem ae.aY (t:ae):t.cells.length=5:=by cases t;rfl
theorem aa.aY (t:aa):t.cells.length=7:=by cases t;rfl
theorem al.aY (t:al):t.cells.length=12:=by
 cases t;rw[al.cells,List.length_append,ae.aY,aa.aY]
def kn (f:Nat) (x:AV):Prop:=∀H,aA Tryz.prog f [x,x] H (aW (.p (.b true)) H)
theorem VA {l:List ae} (he:∀a∈l,kn 166 (av (ae.cells a))):kn 197 (.p (.l (l.map ae.cells))):=by
 intro H;refine call197 (by simp) ?_;have d0:decide ((l.length:Int)=(l.length:Int))=true:=by simp
 simp only[go_sem,simprocAttr,LP,Vs,List.length_map,d0];intro hm wW;rw[aC]at hm;refine⟨Nat,[0,1,4,5],fun i st=>i<=l.length/\st=⟨[(0,.p (.l (l.map ae.cells))),(1,.p (.l (l.map ae.cells))),(4,.p (.b false)),(5,.p (.i .i64 i))],[],H⟩,fun i=>l.length-i,⟨0,?_⟩,?_⟩
 ·simp only[go_sem,simprocAttr]
  omega
 ·rintro i st ⟨hi,rfl⟩
  by_cases aj:i<l.length
  ·have d1:decide ((i:Int)<(l.length:Int))=true:=by simp;omega
   have hg:(l.map ae.cells)[i]?=some (ae.cells l[i]):=by simp[aj]
   have et:takeN 5 (List.map AV.p (ae.cells l[i]))=some (List.map AV.p (ae.cells l[i])):=dR (by rw[List.length_map,ae.aY]);have ex:=bp i (by omega);simp only[go_sem,simprocAttr,List.length_map,d1];intro _;refine ao ?_;simp only[go_sem,simprocAttr,hg,et,ae.aY];refine U (he l[i] (List.getElem_mem aj) _) ?_;simp only[go_sem,simprocAttr,ex];exact⟨i+1,⟨by omega,rfl⟩,by omega⟩
  ·have:i=l.length:=by omega
   subst this;have d1:decide ((l.length:Int)<(l.length:Int))=false:=by simp
   simp only[go_sem,simprocAttr,List.length_map,d1];intro _;exact⟨rfl,rfl⟩
theorem VB {l:List aa} (he:∀a∈l,kn 22 (av (aa.cells a))):kn 58 (.p (.l (l.map aa.cells))):=by
 intro H;refine call58 (by simp) ?_;have d0:decide ((l.length:Int)=(l.length:Int))=true:=by simp
 simp only[go_sem,simprocAttr,Vo,ab8,List.length_map,d0];intro hm wW;rw[aC]at hm;refine⟨Nat,[0,1,4,5],fun i st=>i<=l.length/\st=⟨[(0,.p (.l (l.map aa.cells))),(1,.p (.l (l.map aa.cells))),(4,.p (.b false)),(5,.p (.i .i64 i))],[],H⟩,fun i=>l.length-i,⟨0,?_⟩,?_⟩
 ·simp only[go_sem,simprocAttr]
  omega
 ·rintro i st ⟨hi,rfl⟩
  by_cases aj:i<l.length
  ·have d1:decide ((i:Int)<(l.length:Int))=true:=by simp;omega
   have hg:(l.map aa.cells)[i]?=some (aa.cells l[i]):=by simp[aj]
   have et:takeN 7 (List.map AV.p (aa.cells l[i]))=some (List.map AV.p (aa.cells l[i])):=dR (by rw[List.length_map,aa.aY]);have ex:=bp i (by omega);simp only[go_sem,simprocAttr,List.length_map,d1];intro _;refine ao ?_;simp only[go_sem,simprocAttr,hg,et,aa.aY];refine U (he l[i] (List.getElem_mem aj) _) ?_;simp only[go_sem,simprocAttr,ex];exact⟨i+1,⟨by omega,rfl⟩,by omega⟩
  ·have:i=l.length:=by omega
   subst this;have d1:decide ((l.length:Int)<(l.length:Int))=false:=by simp
   simp only[go_sem,simprocAttr,List.length_map,d1];intro _;exact⟨rfl,rfl⟩
theorem VC {l:List al} (he:∀a∈l,kn 124 (av (al.cells a))):kn 59 (.p (.l (l.map al.cells))):=by
 intro H;refine call59 (by simp) ?_;have d0:decide ((l.length:Int)=(l.length:Int))=true:=by simp
 simp only[go_sem,simprocAttr,Vp,ab9,List.length_map,d0];intro hm wW;rw[aC]at hm;refine⟨Nat,[0,1,4,5],fun i st=>i<=l.length/\st=⟨[(0,.p (.l (l.map al.cells))),(1,.p (.l (l.map al.cells))),(4,.p (.b false)),(5,.p (.i .i64 i))],[],H⟩,fun i=>l.length-i,⟨0,?_⟩,?_⟩
 ·simp only[go_sem,simprocAttr]
  omega
 ·rintro i st ⟨hi,rfl⟩
  by_cases aj:i<l.length
  ·have d1:decide ((i:Int)<(l.length:Int))=true:=by simp;omega
   have hg:(l.map al.cells)[i]?=some (al.cells l[i]):=by simp[aj]
   have et:takeN 12 (List.map AV.p (al.cells l[i]))=some (List.map AV.p (al.cells l[i])):=dR (by rw[List.length_map,al.aY]);have ex:=bp i (by omega);simp only[go_sem,simprocAttr,List.length_map,d1];intro _;refine ao ?_;simp only[go_sem,simprocAttr,hg,et,al.aY];refine U (he l[i] (List.getElem_mem aj) _) ?_;simp only[go_sem,simprocAttr,ex];exact⟨i+1,⟨by omega,rfl⟩,by omega⟩
  ·have:i=l.length:=by omega
   subst this;have d1:decide ((l.length:Int)<(l.length:Int))=false:=by simp
   simp only[go_sem,simprocAttr,List.length_map,d1];intro _;exact⟨rfl,rfl⟩
theorem YX (k:Int) (n:List UInt8) (u p:Int) (ks:List ae) (hk:kn 197 (.p (.l (ae.aV ks)))):kn 166 (av (ae.cells (ae.mk k n u p ks))):=by
 intro H;refine aD ?_ (bw _);refine call166 (by simp) ?_;simp only[go_sem,simprocAttr,LN,Vr,ae.cells];refine U (hk _) ?_;simp only[go_sem,simprocAttr];exact⟨_,rfl⟩
theorem YY (k:Int) (n:List UInt8) (u:Int) (t:List UInt8) (p:Int) (ks:List aa) (aM:List al) (hk:kn 58 (.p (.l (aa.aV ks)))) (ha:kn 59 (.p (.l (aa.bR aM)))):kn 22 (av (aa.cells (aa.mk k n u t p ks aM))):=by
 intro H;refine aD ?_ (bw _);refine call22 (by simp) ?_;simp only[go_sem,simprocAttr,Vn,ab7,aa.cells];refine U (hk _) ?_;simp only[go_sem,simprocAttr];refine U (ha _) ?_;simp only[go_sem,simprocAttr];exact⟨_,rfl⟩
theorem YZ {p:ae} {e:aa} (hp:kn 166 (av p.cells)) (he:kn 22 (av e.cells)):kn 124 (av (al.cells (al.mk p e))):=by
 intro H;obtain⟨pk,pn,pu,pp,Cs⟩:=p;obtain⟨ek,en,eu,et,ep,Gj,Gk⟩:=e;rw[av,ae.cells]at hp;rw[av,aa.cells]at he;simp only[List.map_cons,List.map_nil]at hp he;refine aD ?_ (bw _);refine call124 (by simp) ?_;simp only[go_sem,simprocAttr,LM,Vq,al.cells,ae.cells,aa.cells];refine U (hp _) ?_;simp only[go_sem,simprocAttr];refine U (he _) ?_;simp only[go_sem,simprocAttr];exact⟨_,rfl⟩
theorem Y0:∀(m:Nat) (t:ae),t.sz<m→kn 166 (av t.cells):=by
  intro m
  induction m with
  |zero=>intro t h;omega
  |succ m ih=>
   intro t h;obtain⟨k,n,u,p,ks⟩:=t;rw[ae.sz,ae.dr]at h;have :=YX k n u p ks;rw[ae.aw]at this;exact this (VA fun a ha=>ih a (by have :=bM ae.sz ha;omega))
theorem Y1:∀(m:Nat) (t:aa),t.sz<m→kn 22 (av t.cells):=by
  intro m
  induction m with
  |zero=>intro t h;omega
  |succ m ih=>
   intro t h;obtain⟨k,n,u,x,p,ks,aM⟩:=t;rw[aa.sz,aa.dr,aa.lN]at h;have :=YY k n u x p ks aM;rw[aa.aw,aa.aN]at this;refine this (VB fun a ha=>ih a (by have :=bM aa.sz ha;omega)) (VC fun a ha=> ?_);have hm:=bM al.sz ha;obtain⟨q,e⟩:=a;rw[al.sz]at hm;exact YZ (Y0 _ q (Nat.lt_succ_self _)) (ih e (by omega))
theorem af.aY (t:af):t.cells.length=4:=by cases t;rfl
theorem ah.aY (t:ah):t.cells.length=7:=by
 simp[ah.cells,af.aY]
theorem ai.aY (t:ai):t.cells.length=4:=rfl
theorem Gl {l:List af} (he:∀a∈l,kn 196 (av (af.cells a))):kn 221 (.p (.l (l.map af.cells))):=by
 intro H;refine call221 (by simp) ?_;have d0:decide ((l.length:Int)=(l.length:Int))=true:=by simp
 simp only[go_sem,simprocAttr,LW,Vz,List.length_map,d0];intro hm wW;rw[aC]at hm;refine⟨Nat,[0,1,4,5],fun i st=>i<=l.length/\st=⟨[(0,.p (.l (l.map af.cells))),(1,.p (.l (l.map af.cells))),(4,.p (.b false)),(5,.p (.i .i64 i))],[],H⟩,fun i=>l.length-i,⟨0,?_⟩,?_⟩
 ·simp only[go_sem,simprocAttr]
  omega
 ·rintro i st ⟨hi,rfl⟩
  by_cases aj:i<l.length
  ·have d1:decide ((i:Int)<(l.length:Int))=true:=by simp;omega
   have hg:(l.map af.cells)[i]?=some (af.cells l[i]):=by simp[aj]
   have et:takeN 4 (List.map AV.p (af.cells l[i]))=some (List.map AV.p (af.cells l[i])):=dR (by rw[List.length_map,af.aY]);have ex:=bp i (by omega);simp only[go_sem,simprocAttr,List.length_map,d1];intro _;refine ao ?_;simp only[go_sem,simprocAttr,hg,et,af.aY];refine U (he l[i] (List.getElem_mem aj) _) ?_;simp only[go_sem,simprocAttr,ex];exact⟨i+1,⟨by omega,rfl⟩,by omega⟩
  ·have:i=l.length:=by omega
   subst this;have d1:decide ((l.length:Int)<(l.length:Int))=false:=by simp
   simp only[go_sem,simprocAttr,List.length_map,d1];intro _;exact⟨rfl,rfl⟩
theorem OH {l:List ah} (he:∀a∈l,kn 165 (av (ah.cells a))):kn 123 (.p (.l (l.map ah.cells))):=by
 intro H;refine call123 (by simp) ?_;have d0:decide ((l.length:Int)=(l.length:Int))=true:=by simp
 simp only[go_sem,simprocAttr,LS,Vw,List.length_map,d0];intro hm wW;rw[aC]at hm;refine⟨Nat,[0,1,4,5],fun i st=>i<=l.length/\st=⟨[(0,.p (.l (l.map ah.cells))),(1,.p (.l (l.map ah.cells))),(4,.p (.b false)),(5,.p (.i .i64 i))],[],H⟩,fun i=>l.length-i,⟨0,?_⟩,?_⟩
 ·simp only[go_sem,simprocAttr]
  omega
 ·rintro i st ⟨hi,rfl⟩
  by_cases aj:i<l.length
  ·have d1:decide ((i:Int)<(l.length:Int))=true:=by simp;omega
   have hg:(l.map ah.cells)[i]?=some (ah.cells l[i]):=by simp[aj]
   have et:takeN 7 (List.map AV.p (ah.cells l[i]))=some (List.map AV.p (ah.cells l[i])):=dR (by rw[List.length_map,ah.aY]);have ex:=bp i (by omega);simp only[go_sem,simprocAttr,List.length_map,d1];intro _;refine ao ?_;simp only[go_sem,simprocAttr,hg,et,ah.aY];refine U (he l[i] (List.getElem_mem aj) _) ?_;simp only[go_sem,simprocAttr,ex];exact⟨i+1,⟨by omega,rfl⟩,by omega⟩
  ·have:i=l.length:=by omega
   subst this;have d1:decide ((l.length:Int)<(l.length:Int))=false:=by simp
   simp only[go_sem,simprocAttr,List.length_map,d1];intro _;exact⟨rfl,rfl⟩
theorem OI {l:List ai} (he:∀a∈l,kn 57 (av (ai.cells a))):kn 21 (.p (.l (l.map ai.cells))):=by
 intro H;refine call21 (by simp) ?_;have d0:decide ((l.length:Int)=(l.length:Int))=true:=by simp
 simp only[go_sem,simprocAttr,Vt,aca,List.length_map,d0];intro hm wW;rw[aC]at hm;refine⟨Nat,[0,1,4,5],fun i st=>i<=l.length/\st=⟨[(0,.p (.l (l.map ai.cells))),(1,.p (.l (l.map ai.cells))),(4,.p (.b false)),(5,.p (.i .i64 i))],[],H⟩,fun i=>l.length-i,⟨0,?_⟩,?_⟩
 ·simp only[go_sem,simprocAttr]
  omega
 ·rintro i st ⟨hi,rfl⟩
  by_cases aj:i<l.length
  ·have d1:decide ((i:Int)<(l.length:Int))=true:=by simp;omega
   have hg:(l.map ai.cells)[i]?=some (ai.cells l[i]):=by simp[aj]
   have et:takeN 4 (List.map AV.p (ai.cells l[i]))=some (List.map AV.p (ai.cells l[i])):=dR (by rw[List.length_map,ai.aY]);have ex:=bp i (by omega);simp only[go_sem,simprocAttr,List.length_map,d1];intro _;refine ao ?_;simp only[go_sem,simprocAttr,hg,et,ai.aY];refine U (he l[i] (List.getElem_mem aj) _) ?_;simp only[go_sem,simprocAttr,ex];exact⟨i+1,⟨by omega,rfl⟩,by omega⟩
  ·have:i=l.length:=by omega
   subst this;have d1:decide ((l.length:Int)<(l.length:Int))=false:=by simp
   simp only[go_sem,simprocAttr,List.length_map,d1];intro _;exact⟨rfl,rfl⟩
theorem Iz {l:List (List UInt8)}:kn 122 (.p (.l (cg l))):=by
 intro H;refine call122 (by simp) ?_;have d0:decide ((l.length:Int)=(l.length:Int))=true:=by simp
 simp only[go_sem,simprocAttr,LQ,Vv,cg,List.length_map,d0];intro hm wW;rw[aC]at hm;refine⟨Nat,[0,1,4,5],fun i st=>i<=l.length/\st=⟨[(0,.p (.l (l.map fun s=>[.s s]))),(1,.p (.l (l.map fun s=>[.s s]))),(4,.p (.b false)),(5,.p (.i .i64 i))],[],H⟩,fun i=>l.length-i,⟨0,?_⟩,?_⟩
 ·simp only[go_sem,simprocAttr]
  omega
 ·rintro i st ⟨hi,rfl⟩
  by_cases aj:i<l.length
  ·have d1:decide ((i:Int)<(l.length:Int))=true:=by simp;omega
   have hg:(l.map fun s=>[PV.s s])[i]?=some [.s l[i]]:=by simp[aj]
   have d3:decide (l[i]≠l[i])=false:=by simp
   have ex:=bp i (by omega);simp only[go_sem,simprocAttr,List.length_map,d1];intro _;refine ao ?_;simp only[go_sem,simprocAttr,hg];simp only[go_sem,simprocAttr,ex];exact⟨i+1,⟨by omega,rfl⟩,by omega⟩
  ·have:i=l.length:=by omega
   subst this;have d1:decide ((l.length:Int)<(l.length:Int))=false:=by simp
   simp only[go_sem,simprocAttr,List.length_map,d1];intro _;exact⟨rfl,rfl⟩
theorem IA (k:Int) (n:List UInt8) (p:Int) (ks:List af) (hk:kn 221 (.p (.l (af.aV ks)))):kn 196 (av (af.cells (af.mk k n p ks))):=by
 intro H;refine aD ?_ (bw _);refine call196 (by simp) ?_;simp only[go_sem,simprocAttr,LV,Vy,af.cells];refine U (hk _) ?_;simp only[go_sem,simprocAttr];exact⟨_,rfl⟩
theorem VD {c:ah} (ht:kn 196 (av c.arg.cells)):kn 165 (av (ah.cells (c))):=by
 intro H;obtain⟨cn,ch,⟨ak,an,ap,wV⟩,cp⟩:=c;rw[av,af.cells]at ht;simp only[List.map_cons,List.map_nil]at ht;refine aD ?_ (bw _);refine call165 (by simp) ?_;simp only[go_sem,simprocAttr,LU,Vx,ah.cells,af.cells];refine U (ht _) ?_;simp only[go_sem,simprocAttr];exact⟨_,rfl⟩
theorem VE {d:ai} (hv:kn 122 (.p (.l (cg d.vars)))) (hc:kn 123 (.p (.l (d.ctors.map ah.cells)))):kn 57 (av (ai.cells (d))):=by
 intro H;refine aD ?_ (bw _);refine call57 (by simp) ?_;simp only[go_sem,simprocAttr,Vu,acb,ai.cells];refine U (hv _) ?_;simp only[go_sem,simprocAttr];refine U (hc _) ?_;simp only[go_sem,simprocAttr];exact⟨_,rfl⟩
theorem VF {g:bb} (hd:kn 21 (.p (.l (g.types.map ai.cells)))) (he:kn 22 (av g.body.cells)):kn 8 (av (bb.cells (g))):=by
 intro H;obtain⟨gt,⟨ek,en,eu,et,ep,Gj,Gk⟩⟩:=g;rw[av,aa.cells]at he;simp only[List.map_cons,List.map_nil]at he;refine aD ?_ (bw _);refine call8 (by simp) ?_;simp only[go_sem,simprocAttr,mc8,mr8,bb.cells,aa.cells];refine U (hd _) ?_;simp only[go_sem,simprocAttr];refine U (he _) ?_;simp only[go_sem,simprocAttr];exact⟨_,rfl⟩
theorem agZ:∀(m:Nat) (t:af),t.sz<m→kn 196 (av t.cells):=by
  intro m
  induction m with
  |zero=>intro t h;omega
  |succ m ih=>
   intro t h;obtain⟨k,n,p,ks⟩:=t;rw[af.sz,af.dr]at h;have :=IA k n p ks;rw[af.aw]at this;exact this (Gl fun a ha=>ih a (by have :=bM af.sz ha;omega))
theorem VG (g:bb):kn 8 (av g.cells):=
 VF (OI fun d hd=>VE Iz (OH fun c hc=>VD (agZ _ _ (Nat.lt_succ_self _)))) (Y1 _ _ (Nat.lt_succ_self _))
end Go.Proofs.YtjkbbnfdbfcebaaGreatDoor.Pg