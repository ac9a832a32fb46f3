/- The evaluation of the small code as equations for simp: each by unfolding. -/
import Derived.Test.YteilijfligofdaaGreatDoorAm3
set_option linter.all false
namespace Go.AM
variable {C:iZ} {Q:Ex->St->Prop} {K A B:St->Prop} {st:St} {d:MD} {L T:En} {H:List AO}
@[go_sem] theorem ad1:mK C .skip Q st=Q .nm st:=rfl
@[go_sem] theorem aeN (os):mK C (.WJ os) Q st=k9 C os (Eb (Q .nm)) st:=rfl
@[go_sem] theorem aeO (a b):mK C (.seq a b) Q st=mK C a (zi (mK C b Q) Q) st:=rfl
@[go_sem] theorem ad2 (c a b):mK C (.cond c a b) Q st=lh (st.get c) (mK C a Q) (mK C b Q) st:=rfl
@[go_sem] theorem aeP (id b):mK C (.WK id b) Q st=mK C b (GZ id Q) st:=rfl
@[go_sem] theorem ad3 (b):mK C (.loop b) Q st=Qb (mK C b) Q st:=rfl
@[go_sem] theorem ad4 (id):mK C (.exit id) Q st=Q (.ex id) st:=rfl
@[go_sem] theorem aeQ:mK C .ret Q st=Q .rt st:=rfl
variable {J:PK} {Hm Hc:List AO}
@[go_sem] theorem aeR (pre tail):mK C (.P5 pre tail) Q st=ME C pre (k9 C tail (Eb (Q .nm))) st:=rfl
@[go_sem] theorem ad5:BI C Hm [] J Hc st=J Hc st:=rfl
@[go_sem] theorem Jo (o os):BI C Hm (o::os) J Hc st=GY C Hm Hc o (BI C Hm os J) st:=rfl
@[go_sem] theorem acb (o):GY C Hm Hc ⟨d,o,none⟩ J st=dY C Hm Hc o d J st:=rfl
@[go_sem] theorem Jp (o x w):GY C Hm Hc ⟨d,o,some (x,w)⟩ J st=nq (st.get x) w (dY C Hm Hc o d J) (zh d (J Hc)) st:=rfl
@[go_sem] theorem agU (N):nH Hc N J ⟨L,T,H⟩=J Hc ⟨L,T,N⟩:=rfl
@[go_sem] theorem aeS:MB K Hc ⟨L,T,H⟩=K ⟨L,T,Hc++H⟩:=rfl
@[go_sem] theorem aeT (N):D9 Hm Hc N J ⟨L,T,H⟩=(H.length=Hc.length/\cA Hm H/\J H ⟨L,T,N⟩):=rfl
@[go_sem] theorem ad6 (o mk):A3 Hc (some o) mk d J ⟨L,T,H⟩=J Hc (St.put ⟨L,T,H++[o]⟩ d (mk (Hc.length+H.length))):=rfl
@[go_sem] theorem aeU (f args):dY C Hm Hc (.call f args) d J st=oK C Hm Hc st.H f (fF st args) d J st:=rfl
@[go_sem] theorem aeV (x args):dY C Hm Hc (.sY x args) d J st=Ea C Hm Hc (.sY x args) d J st:=rfl
@[go_sem] theorem ad7 (z):dY C Hm Hc (.alloc z) d J st=A3 Hc (some (.var z)) (fun id=>.ptr id 0) d J st:=rfl
@[go_sem] theorem agV (n x):dY C Hm Hc (.box n x) d J st=A3 Hc (if(st.get x).e8&&(st.get x).cells.length==n then some (.var (st.get x).cells)else none) (fun id=>.ptr id 0) d J st:=rfl
@[go_sem] theorem agW (sz z n ps):dY C Hm Hc (.Dz sz z n ps) d J st=A3 Hc ((kJ st sz ps (List.replicate n z)).map fun rs=>.rows sz 0 rs) (fun id=>.gs id 0 0 n) d J st:=rfl
@[go_sem] theorem agX (sz b z l c):dY C Hm Hc (.DA sz b z l c) d J st=GX Hc sz b z (st.get l) (st.get c) d J st:=rfl
@[go_sem] theorem agY (sz b z) (l c:Int):GX Hc sz b z (.p (.i .i64 l)) (.p (.i .i64 c)) d J st=(0<=l/\l<=c/\c*b<=140737488355328/\c<=140737488355328/\A3 Hc (some (.rows sz 0 (List.replicate l.toNat z))) (fun id=>.gs id 0 0 l.toNat) d J st):=rfl
@[go_sem] theorem agZ (s b x y):dY C Hm Hc (.app s b x y) d J ⟨L,T,H⟩=bh C (.app s b x y) d (D9 Hm Hc H J) ⟨L,T,Hc⟩:=rfl
@[go_sem] theorem ZT (s b i j):dY C Hm Hc (.oF s b (.t i) (.t j)) d J ⟨L,T,H⟩=tJ Hm Hc s b (dQ T i) (p9 Hm Hc H s (dQ T j)) d J ⟨L,T,H⟩:=rfl
@[go_sem] theorem ZU (s b i j):dY C Hm Hc (.oF s b (.t i) (.l j)) d J ⟨L,T,H⟩=tJ Hm Hc s b (dQ T i) (p9 Hm Hc H s (dQ L j)) d J ⟨L,T,H⟩:=rfl
@[go_sem] theorem ZV (s b i j):dY C Hm Hc (.oF s b (.l i) (.t j)) d J ⟨L,T,H⟩=tJ Hm Hc s b (dQ L i) (p9 Hm Hc H s (dQ T j)) d J ⟨L,T,H⟩:=rfl
@[go_sem] theorem ZW (s b i j):dY C Hm Hc (.oF s b (.l i) (.l j)) d J ⟨L,T,H⟩=tJ Hm Hc s b (dQ L i) (p9 Hm Hc H s (dQ L j)) d J ⟨L,T,H⟩:=rfl
@[go_sem] theorem Qc (N s k v o n):p9 Hm Hc N s (.gs (Hc.length+k) v o n)=oG s v o n N[k]?:=by
 unfold p9;simp only[Nat.le_add_right,if_true,Nat.add_sub_cancel_left]
@[go_sem] theorem ad8 (N s v o n):p9 Hm Hc N s (.gs Hc.length v o n)=oG s v o n N[0]?:=Qc N s 0 v o n
@[go_sem] theorem ag0 (N s ys):p9 Hm Hc N s (.p (.l ys))=some (ys.map (·.map .p)):=rfl
@[go_sem] theorem aeW (N s):p9 Hm Hc N s (.p .nl)=some []:=rfl
@[go_sem] theorem ZX (s b x ys):tJ Hm Hc s b x (some ys) d J ⟨L,T,H⟩=P9 Hm Hc s b x ys d J ⟨L,T,H⟩:=rfl
@[go_sem] theorem acd (n i y):dY C Hm Hc (.qX n (.t i) y) d J ⟨L,T,H⟩=BH Hc n (dQ T i) (St.get ⟨L,T,H⟩ y) d J ⟨L,T,H⟩:=rfl
@[go_sem] theorem ace (n i y):dY C Hm Hc (.qX n (.l i) y) d J ⟨L,T,H⟩=BH Hc n (dQ L i) (St.get ⟨L,T,H⟩ y) d J ⟨L,T,H⟩:=rfl
@[go_sem] theorem ag1 (n x y):dY C Hm Hc (.pT n x y) d J ⟨L,T,H⟩=bh C (.pT n x y) d (D9 Hm Hc H J) ⟨L,T,Hc⟩:=rfl
@[go_sem] theorem ahN (x):dY C Hm Hc (.mv x) d J ⟨L,T,H⟩=bh C (.mv x) d (nH Hc H J) ⟨L,T,Hm⟩:=rfl
@[go_sem] theorem aeX (x y z):dY C Hm Hc (.pick x y z) d J ⟨L,T,H⟩=bh C (.pick x y z) d (nH Hc H J) ⟨L,T,Hm⟩:=rfl
@[go_sem] theorem ad9 (x y):dY C Hm Hc (.build x y) d J ⟨L,T,H⟩=bh C (.build x y) d (nH Hc H J) ⟨L,T,Hm⟩:=rfl
@[go_sem] theorem ahO (x y z):dY C Hm Hc (.ld x y z) d J ⟨L,T,H⟩=bh C (.ld x y z) d (nH Hc H J) ⟨L,T,Hm⟩:=rfl
@[go_sem] theorem aeY (x):dY C Hm Hc (.Ay x) d J ⟨L,T,H⟩=bh C (.Ay x) d (nH Hc H J) ⟨L,T,Hm⟩:=rfl
@[go_sem] theorem ag2 (x y z):dY C Hm Hc (.bin x y z) d J ⟨L,T,H⟩=bh C (.bin x y z) d (nH Hc H J) ⟨L,T,Hm⟩:=rfl
@[go_sem] theorem ahP (x y):dY C Hm Hc (.un x y) d J ⟨L,T,H⟩=bh C (.un x y) d (nH Hc H J) ⟨L,T,Hm⟩:=rfl
@[go_sem] theorem aeZ (x y):dY C Hm Hc (.conv x y) d J ⟨L,T,H⟩=bh C (.conv x y) d (nH Hc H J) ⟨L,T,Hm⟩:=rfl
@[go_sem] theorem acf (i):dY C Hm Hc (.qW (.t i)) d J ⟨L,T,H⟩=AE Hc (dQ T i) d J ⟨L,T,H⟩:=rfl
@[go_sem] theorem acg (i):dY C Hm Hc (.qW (.l i)) d J ⟨L,T,H⟩=AE Hc (dQ L i) d J ⟨L,T,H⟩:=rfl
@[go_sem] theorem Qe (k v o n):AE Hc (.gs (Hc.length+k) v o n) d J ⟨L,T,H⟩=bC (oH (oG 1 v o n H[k]?)) d (J Hc) ⟨L,T,H⟩:=by
 unfold AE;simp only[Nat.le_add_right,true_and,Nat.add_sub_cancel_left]
@[go_sem] theorem aea (v o n):AE Hc (.gs Hc.length v o n) d J ⟨L,T,H⟩=bC (oH (oG 1 v o n H[0]?)) d (J Hc) ⟨L,T,H⟩:=Qe 0 v o n
@[go_sem] theorem ag3 (x):dY C Hm Hc (.tg x) d J ⟨L,T,H⟩=bh C (.tg x) d (nH Hc H J) ⟨L,T,Hm⟩:=rfl
@[go_sem] theorem ag4 (x y):dY C Hm Hc (.GQ x y) d J ⟨L,T,H⟩=bh C (.GQ x y) d (nH Hc H J) ⟨L,T,Hm⟩:=rfl
@[go_sem] theorem ag5 (x y z u):dY C Hm Hc (.tF x y z u) d J ⟨L,T,H⟩=bh C (.tF x y z u) d (nH Hc H J) ⟨L,T,Hm⟩:=rfl
@[go_sem] theorem ag6 (x y):dY C Hm Hc (.GR x y) d J ⟨L,T,H⟩=bh C (.GR x y) d (nH Hc H J) ⟨L,T,Hm⟩:=rfl
@[go_sem] theorem ag7 (x y z u):dY C Hm Hc (.GS x y z u) d J ⟨L,T,H⟩=bh C (.GS x y z u) d (nH Hc H J) ⟨L,T,Hm⟩:=rfl
@[go_sem] theorem ag8 (x y z):dY C Hm Hc (.Bu x y z) d J ⟨L,T,H⟩=bh C (.Bu x y z) d (nH Hc H J) ⟨L,T,Hm⟩:=rfl
@[go_sem] theorem ag9 (x y z u):dY C Hm Hc (.Bv x y z u) d J ⟨L,T,H⟩=bh C (.Bv x y z u) d (nH Hc H J) ⟨L,T,Hm⟩:=rfl
@[go_sem] theorem aha (x y):dY C Hm Hc (.Bw x y) d J ⟨L,T,H⟩=bh C (.Bw x y) d (nH Hc H J) ⟨L,T,Hm⟩:=rfl
@[go_sem] theorem ahb (x y):dY C Hm Hc (.ext x y) d J ⟨L,T,H⟩=bh C (.ext x y) d (nH Hc H J) ⟨L,T,Hm⟩:=rfl
@[go_sem] theorem ae0 (x y):dY C Hm Hc (.Az x y) d J ⟨L,T,H⟩=bh C (.Az x y) d (nH Hc H J) ⟨L,T,Hm⟩:=rfl
@[go_sem] theorem ahc (x):dY C Hm Hc (.cap x) d J ⟨L,T,H⟩=bh C (.cap x) d (nH Hc H J) ⟨L,T,Hm⟩:=rfl
@[go_sem] theorem ahd (x y z):dY C Hm Hc (.Fk x y z) d J ⟨L,T,H⟩=bh C (.Fk x y z) d (nH Hc H J) ⟨L,T,Hm⟩:=rfl
@[go_sem] theorem ahe (x y):dY C Hm Hc (.Fm x y) d J ⟨L,T,H⟩=bh C (.Fm x y) d (nH Hc H J) ⟨L,T,Hm⟩:=rfl
@[go_sem] theorem ahQ (n x y z):dY C Hm Hc (.sq x n y z) d J ⟨L,T,H⟩=bh C (.sq x n y z) d (nH Hc H J) ⟨L,T,Hm⟩:=rfl
@[go_sem] theorem ae1 (x y z):dY C Hm Hc (.tG x y z) d J ⟨L,T,H⟩=bh C (.tG x y z) d (nH Hc H J) ⟨L,T,Hm⟩:=rfl
@[go_sem] theorem ahf (x y z):dY C Hm Hc (.beq x y z) d J ⟨L,T,H⟩=bh C (.beq x y z) d (nH Hc H J) ⟨L,T,Hm⟩:=rfl
theorem cA.refl (H:List AO):cA H H:=fun _ _ h _=>h
theorem ba {pre:List MI} (h:BI C H pre (MB K) H ⟨L,T,[]⟩):ME C pre K ⟨L,T,H⟩:=⟨H,cA.refl H,h⟩
theorem bQ {f:Nat} {xs:List AV} {r:AV} (h:∀A,C f xs (Hc++A) (aP r (Hc++A))) (hm:cA Hm Hc) (k:J Hc (st.put d r)) {N:List AO}:oK C Hm Hc N f xs d J st:=.inl ⟨r,Hc,rfl,hm,fun A _=>h A,k⟩
theorem aL {f:Nat} {xs:List AV} (r:AV) (xJ:List AO) (hl:xJ.length=Hc.length) (hm:cA Hm xJ) (h:∀A,C f xs (Hc++A) (aP r (xJ++A))) (k:J xJ (st.put d r)) {N:List AO}:oK C Hm Hc N f xs d J st:=.inl ⟨r,xJ,hl,hm,fun A _=>h A,k⟩
@[go_sem] theorem Qf (s x):bh C (.Az s x) d K st=bC (tH s (st.get x)) d K st:=rfl
@[go_sem] theorem ae2 (xs):tH false (.p (.l xs))=some (.p (.i .i64 xs.length)):=rfl
@[go_sem] theorem aeb:tH false (.p .nl)=some (.p (.i .i64 0)):=rfl
@[go_sem] theorem ae3 (x):tH true (.p (.s x))=some (.p (.i .i64 x.length)):=rfl
@[go_sem] theorem aec (i v o n):tH false (.gs i v o n)=some (.p (.i .i64 n)):=rfl
@[go_sem] theorem aed:zi K Q .nm st=K st:=rfl
@[go_sem] theorem aee (i):zi K Q (.ex i) st=Q (.ex i) st:=rfl
@[go_sem] theorem aef:zi K Q .rt st=Q .rt st:=rfl
@[go_sem] theorem ae4 (i):GZ i Q .nm st=Q .nm st:=rfl
@[go_sem] theorem ae5 (i):GZ i Q .rt st=Q .rt st:=rfl
@[go_sem] theorem ae6 (i j):GZ i Q (.ex j) st=if j=i then Q .nm st else Q (.ex j) st:=rfl
@[go_sem] theorem ae7:Eb K ⟨L,T,H⟩=K ⟨L,[],H⟩:=rfl
@[go_sem] theorem ZY:k9 C [] K st=K st:=rfl
@[go_sem] theorem WM (o os):k9 C (o::os) K st=BE C o (k9 C os K) st:=rfl
@[go_sem] theorem ZZ (o):BE C ⟨d,o,none⟩ K st=bh C o d K st:=rfl
@[go_sem] theorem aaa (o x w):BE C ⟨d,o,some (x,w)⟩ K st=nq (st.get x) w (bh C o d K) (zh d K) st:=rfl
@[go_sem] theorem aeg (c):nq (.p (.b c)) true A B st=lh (.p (.b c)) A B st:=rfl
@[go_sem] theorem aeh (c):nq (.p (.b c)) false A B st=lh (.p (.b c)) B A st:=rfl
@[go_sem] theorem aei (w):nq (.dK []) w A B st=B st:=by cases w<;>rfl
@[go_sem] theorem aej:zh d K st=K (st.put d (.dK [])):=rfl
theorem AH {v:AV} {w:Bool} (h:nq v w A B st):(v=.dK []/\B st)\/∃b,v=.p (.b b)/\(b=w->A st)/\(b≠w->B st):=by
 unfold nq at h;split at h
 ·exact .inl ⟨rfl,h⟩
 ·unfold lh at h
  split at h
  ·rename_i b _;exact .inr ⟨b,rfl,h.1,fun hb=>h.2 hb⟩
  ·exact h.elim
 ·unfold lh at h
  split at h
  ·rename_i b _;exact .inr ⟨b,rfl,fun hb=>h.2 (by simp[hb]),fun hb=>h.1 (by cases b with|true=>rfl|false=>exact(hb rfl).elim)⟩
  ·exact h.elim
@[go_sem] theorem ae8:lh (.p (.b true)) A B st=A st:=by simp[lh,Fo]
@[go_sem] theorem ae9:lh (.p (.b false)) A B st=B st:=by simp[lh,Fo]
@[go_sem] theorem ahR (n):St.get ⟨L,T,H⟩ (.t n)=dQ T n:=rfl
@[go_sem] theorem ahS (n):St.get ⟨L,T,H⟩ (.l n)=dQ L n:=rfl
@[go_sem] theorem ahT (v):St.get st (.c v)=v:=rfl
@[go_sem] theorem ahg (v):St.put st .no v=st:=rfl
@[go_sem] theorem ahU (n v):St.put ⟨L,T,H⟩ (.t n) v=⟨L,(n,v)::T,H⟩:=rfl
@[go_sem] theorem ahV (n v):St.put ⟨L,T,H⟩ (.l n) v=⟨v8 L n v,T,H⟩:=rfl
@[go_sem] theorem wH (k v t) (e:En):dQ ((k,v)::e) t=if k=t then v else dQ e t:=rfl
@[go_sem] theorem aek (t v):v8 [] t v=[(t,v)]:=rfl
@[go_sem] theorem ach (k u t v) (e:En):v8 ((k,u)::e) t v=if k=t then(t,v)::e else(k,u)::v8 e t v:=rfl
@[go_sem] theorem ael (k):mB [] k=false:=rfl
@[go_sem] theorem aci (x xs k):mB (x::xs) k=if x=k then true else mB xs k:=rfl
@[go_sem] theorem acj (lv):lQ lv []=[]:=rfl
@[go_sem] theorem aab (lv k v) (e:En):lQ lv ((k,v)::e)=if mB lv k=true then(k,v)::lQ lv e else lQ lv e:=rfl
@[go_sem] theorem aem:fF st []=[]:=rfl
@[go_sem] theorem BM (x xs):fF st (x::xs)=st.get x::fF st xs:=rfl
@[go_sem] theorem aac (i):ky i []=[]:=rfl
@[go_sem] theorem WN (i a as):ky i (a::as)=(i,a)::ky (i+1) as:=rfl
@[go_sem] theorem aad (v):bC (some v) d K st=K (st.put d v):=rfl
@[go_sem] theorem aae (h):tI (some h) d K ⟨L,T,H⟩=K (St.put ⟨L,T,h⟩ d .any):=rfl
@[go_sem] theorem ack (o mk):we (some o) mk d K ⟨L,T,H⟩=K (St.put ⟨L,T,H++[o]⟩ d (mk H.length)):=rfl
@[go_sem] theorem aen (r h):rR d K ⟨L,T,H⟩ r h=K (St.put ⟨L,T,h⟩ d r):=rfl
@[go_sem] theorem acm (x):bh C (.mv x) d K st=K (st.put d (st.get x)):=rfl
@[go_sem] theorem Qg (c x y):bh C (.pick c x y) d K st=bC (BB (st.get c) (st.get x) (st.get y)) d K st:=rfl
@[go_sem] theorem aeo (z):bh C (.alloc z) d K st=we (some (.var z)) (fun id=>.ptr id 0) d K st:=rfl
@[go_sem] theorem ahh (n x):bh C (.box n x) d K st=we (if(st.get x).e8&&(st.get x).cells.length==n then some (.var (st.get x).cells)else none) (fun id=>.ptr id 0) d K st:=rfl
@[go_sem] theorem N9 (z ps):bh C (.build z ps) d K st=bC (vh st z ps) d K st:=rfl
@[go_sem] theorem ahi (sz z n ps):bh C (.Dz sz z n ps) d K st=we ((kJ st sz ps (List.replicate n z)).map fun rs=>.rows sz 0 rs) (fun id=>.gs id 0 0 n) d K st:=rfl
@[go_sem] theorem ahW (g n x):bh C (.ld g n x) d K ⟨L,T,H⟩=bC (vO g n (ly H (St.get ⟨L,T,H⟩ x))) d K ⟨L,T,H⟩:=rfl
@[go_sem] theorem ahj (n x v):bh C (.pT n x v) d K ⟨L,T,H⟩=tI (nG H n (St.get ⟨L,T,H⟩ x) (St.get ⟨L,T,H⟩ v)) d K ⟨L,T,H⟩:=rfl
@[go_sem] theorem Qh (x):bh C (.Ay x) d K st=bC (wE (st.get x)) d K st:=rfl
@[go_sem] theorem rV (op x y):bh C (.bin op x y) d K st=cZ op (st.get x) (st.get y) d K st:=rfl
@[go_sem] theorem acn (op x):bh C (.un op x) d K st=bC (N8 op (st.get x)) d K st:=rfl
@[go_sem] theorem Qi (k x):bh C (.conv k x) d K st=bC (BC k (st.get x)) d K st:=rfl
@[go_sem] theorem ahk (x):bh C (.tg x) d K ⟨L,T,H⟩=bC (p8 H (St.get ⟨L,T,H⟩ x)) d K ⟨L,T,H⟩:=rfl
@[go_sem] theorem WO (f cs):bh C (.GQ f cs) d K st=K (st.put d (.eB f (fF st cs))):=rfl
@[go_sem] theorem ahl (sz b z l c):bh C (.DA sz b z l c) d K st=GW sz b z (st.get l) (st.get c) d K st:=rfl
@[go_sem] theorem aco (k x):bh C (.tF k x none none) d K st=mD k (st.get x) none none d K st:=rfl
@[go_sem] theorem acp (k x y):bh C (.tF k x none (some y)) d K st=mD k (st.get x) none (some (st.get y)) d K st:=rfl
@[go_sem] theorem acq (k x y):bh C (.tF k x (some y) none) d K st=mD k (st.get x) (some (st.get y)) none d K st:=rfl
@[go_sem] theorem acr (k x y z):bh C (.tF k x (some y) (some z)) d K st=mD k (st.get x) (some (st.get y)) (some (st.get z)) d K st:=rfl
@[go_sem] theorem WQ (o x):bh C (.GR o x) d K st=bC (Bx o (st.get x)) d K st:=rfl
def MG (g:Bool) (o n:Nat):AV->Option AV
 | .st cs=>vO g n (some (cs.drop o))
 |_=>none
@[go_sem] theorem afa (g o n cs):MG g o n (.st cs)=vO g n (some (cs.drop o)):=rfl
@[go_sem] theorem Fq (g o n x):bh C (.GS g o n x) d K st=bC (MG g o n (st.get x)) d K st:=by
 show bC _ d K st=bC _ d K st;congr 1
@[go_sem] theorem MH (sz x i):bh C (.Bu sz x i) d K st=xH sz (st.get x) (st.get i) d K st:=rfl
@[go_sem] theorem MJ (l sz x i):bh C (.Bv l sz x i) d K st=By l sz (st.get x) (st.get i) d K st:=rfl
@[go_sem] theorem MK (x i):bh C (.Bw x i) d K st=Bz (st.get x) (st.get i) d K st:=rfl
@[go_sem] theorem WR (x n):bh C (.ext x n) d K st=bC (GV n (st.get x)) d K st:=rfl
@[go_sem] theorem afb (f as):bh C (.call f as) d K ⟨L,T,H⟩=C f (fF ⟨L,T,H⟩ as) H (rR d K ⟨L,T,H⟩):=rfl
@[go_sem] theorem afc (x as):bh C (.sY x as) d K st=zg C (st.get x) (fF st as) d K st:=rfl
@[go_sem] theorem aep (f cs as):zg C (.eB f cs) as d K ⟨L,T,H⟩=C f (as++cs) H (rR d K ⟨L,T,H⟩):=rfl
@[go_sem] theorem ahm (sz b x y):bh C (.app sz b x y) d K st=D8 sz b (st.get x) (st.get y) d K st:=rfl
@[go_sem] theorem WS (s x):bh C (.len s x) d K st=wc s (st.get x) d K st:=rfl
@[go_sem] theorem afd (sz b x n):bh C (.Mz sz b x n) d K st=BA sz b (st.get x) (st.get n) d K st:=rfl
@[go_sem] theorem aeq (sz b) (k:Int):BA sz b (.p .nl) (.p (.i .i64 k)) d K st=(0<k/\k*b<=140737488355328/\k<=140737488355328/\K (St.put ⟨st.L,st.T,st.H++[.rows sz 0 []]⟩ d (.gs st.H.length 0 0 k.toNat))):=rfl
@[go_sem] theorem WT (x):bh C (.cap x) d K st=bC (GU (st.get x)) d K st:=rfl
@[go_sem] theorem afe:GU (.p .nl)=some (.p (.i .i64 0)):=rfl
@[go_sem] theorem WU (m x y):bh C (.Fk m x y) d K st=bC (AD m (st.get x) (st.get y)) d K st:=rfl
@[go_sem] theorem WV (m x):bh C (.Fm m x) d K st=bC (D6 m (st.get x)) d K st:=rfl
@[go_sem] theorem aff (ne):D6 ne (.p .ni)=some (.p (.b (!ne))):=rfl
@[go_sem] theorem afg (ne):D6 ne (.p .er)=some (.p (.b ne)):=rfl
@[go_sem] theorem acs (m n x y):bh C (.sq m n x y) d K st=bC (P6 m n (st.get x) (st.get y)) d K st:=rfl
@[go_sem] theorem Qj (s m x):bh C (.tG s m x) d K st=jU s m (st.get x) d K st:=rfl
@[go_sem] theorem WW (m x y):bh C (.beq m x y) d K st=bC (D5 m (st.get x) (st.get y)) d K st:=rfl
@[go_sem] theorem afh:bh C .stop d K st=False:=rfl
@[go_sem] theorem ahn (sz xs lo hi):mD (some sz) (.p (.l xs)) lo hi d K st=((∀r∈xs,r.length=sz)/\mC lo hi xs.length fun a b=>K (st.put d (.p (.l ((xs.drop a).take (b-a)))))):=rfl
@[go_sem] theorem WX (x lo hi):mD none (.p (.s x)) lo hi d K st=(mC lo hi x.length fun a b=>K (st.put d (.p (.s ((x.drop a).take (b-a)))))):=rfl
@[go_sem] theorem Qk (sz lo hi):mD (some sz) (.p .nl) lo hi d K st=(mC lo hi 0 fun _ _=>K (st.put d (.p .nl))):=rfl
@[go_sem] theorem afi (sz i v o n lo hi):mD (some sz) (.gs i v o n) lo hi d K ⟨L,T,H⟩=D7 sz i v o n lo hi d K ⟨L,T,H⟩ H[i]?:=rfl
@[go_sem] theorem acu (sz i v o n lo hi cX v' rs):D7 sz i v o n lo hi d K st (some (.rows cX v' rs))=(cX=sz/\v'=v/\mC lo hi n fun a b=>K (st.put d (.gs i v (o+a) (b-a)))):=rfl
@[go_sem] theorem afj (n) (R:Nat->Nat->Prop):mC none none n R=R 0 n:=rfl
@[go_sem] theorem afk (k a n) (R:Nat->Nat->Prop):mC (some (.p (.i k a))) none n R=(0<=a/\a<=(n:Int)/\R a.toNat n):=rfl
@[go_sem] theorem afl (k b n) (R:Nat->Nat->Prop):mC none (some (.p (.i k b))) n R=(0<=b/\b<=(n:Int)/\R 0 b.toNat):=rfl
@[go_sem] theorem afm (k a k' b n) (R:Nat->Nat->Prop):mC (some (.p (.i k a))) (some (.p (.i k' b))) n R=(0<=a/\a<=b/\b<=(n:Int)/\R a.toNat b.toNat):=rfl
@[go_sem] theorem afn (sz b x y):D8 sz b x y d K ⟨L,T,H⟩=AB sz b x (dj H sz y) d K ⟨L,T,H⟩:=rfl
@[go_sem] theorem acv (sz b x ys):AB sz b x (some ys) d K st=((∀r∈ys,r.length=sz)/\lR sz b x ys d K st):=rfl
@[go_sem] theorem afo (sz b ys):lR sz b (.p .nl) ys d K ⟨L,T,H⟩=(ys.length*b<=140737488355328/\ys.length<=140737488355328/\K (St.put ⟨L,T,H++[.rows sz 0 ys]⟩ d (.gs H.length 0 0 ys.length))):=rfl
@[go_sem] theorem afp (sz b i v o n ys):lR sz b (.gs i v o n) ys d K ⟨L,T,H⟩=AA sz b i v o n ys d K ⟨L,T,H⟩ H[i]?:=rfl
@[go_sem] theorem acw (sz b i v o n ys cX v' rs):AA sz b i v o n ys d K ⟨L,T,H⟩ (some (.rows cX v' rs))=(cX=sz/\v'=v/\o=0/\n<=rs.length/\(n+ys.length)*b<=140737488355328/\n+ys.length<=140737488355328/\
  K (St.put ⟨L,T,H.set i (.rows sz (v+1) (rs.take n++ys))⟩ d (.gs i (v+1) 0 (n+ys.length)))):=rfl
@[go_sem] theorem acx (sz ys):dj H sz (.p (.l ys))=some (ys.map (·.map .p)):=rfl
@[go_sem] theorem aaf (sz):dj H sz (.p .nl)=some []:=rfl
@[go_sem] theorem acy (x):dj H 1 (.p (.s x))=some (ja x):=rfl
@[go_sem] theorem aag (sz i v o n):dj H sz (.gs i v o n)=oG sz v o n H[i]?:=rfl
@[go_sem] theorem acz (sz v o n cX v' rs):oG sz v o n (some (.rows cX v' rs))=if cX=sz/\v'=v/\o+n<=rs.length then some ((rs.drop o).take n)else none:=rfl
@[go_sem] theorem aho (ys):p8 H (.p (.l ys))=oH (dj H 1 (.p (.l ys))):=rfl
@[go_sem] theorem afq:p8 H (.p .nl)=some (.p (.s [])):=rfl
@[go_sem] theorem afr (i v o n):p8 H (.gs i v o n)=oH (dj H 1 (.gs i v o n)):=rfl
@[go_sem] theorem Jq (ys):oH (some ys)=if ys.length<=140737488355328 then(bytesOf ys).map fun l=>.p (.s l)else none:=rfl
@[go_sem] theorem afs (sz b z l c):GW sz b z (.p (.i .i64 l)) (.p (.i .i64 c)) d K ⟨L,T,H⟩=(0<=l/\l<=c/\c*b<=140737488355328/\c<=140737488355328/\
   K (St.put ⟨L,T,H++[.rows sz 0 (List.replicate l.toNat z)]⟩ d (.gs H.length 0 0 l.toNat))):=rfl
@[go_sem] theorem ahp (sz xs k n):xH sz (.p (.l xs)) (.p (.i k n)) d K st=(0<=n/\∃r,xs[n.toNat]?=some r/\r.length=sz/\K (st.put d (.ip r))):=rfl
def aah (sz id ver off:Nat) (n:Int) (d:MD) (K:St->Prop) (st:St):Option AO->Prop
 |some (.rows cX cI rs)=>cX=sz/\cI=ver/\K (st.put d (.ep id ver (off+n.toNat) 0))
 |_=>False
@[go_sem] theorem acA (sz i v o n cX v' rs):aah sz i v o n d K st (some (.rows cX v' rs))=(cX=sz/\v'=v/\K (st.put d (.ep i v (o+n.toNat) 0))):=rfl
@[go_sem] theorem aft (sz i v o m k n):xH sz (.gs i v o m) (.p (.i k n)) d K ⟨L,T,H⟩=(0<=n/\n<(m:Int)/\aah sz i v o n d K ⟨L,T,H⟩ H[i]?):=by
 simp only[xH]
 cases H[i]?with
 |none=>rfl
 |some o=>cases o<;>rfl
@[go_sem] theorem aer (len sz i o k n):By len sz (.ptr i o) (.p (.i k n)) d K st=(0<=n/\n<(len:Int)/\K (st.put d (.ptr i (o+n.toNat*sz)))):=rfl
@[go_sem] theorem ahq (x k n):Bz (.p (.s x)) (.p (.i k n)) d K st=(0<=n/\∃c,x[n.toNat]?=some c/\K (st.put d (.p (.i .u8 c.toNat)))):=rfl
@[go_sem] theorem wI (z ps):vh st z ps=(nk st ps z).map .st:=rfl
@[go_sem] theorem aai (z):nk st [] z=some z:=rfl
@[go_sem] theorem rW (o n x ps z):nk st ((o,n,x)::ps) z=if(st.get x).e8&&(st.get x).cells.length==n then(eG z o (st.get x).cells).bind (nk st ps)else none:=rfl
@[go_sem] theorem acB (sz rs):kJ st sz [] rs=some rs:=rfl
@[go_sem] theorem tN (sz i x ps rs):kJ st sz ((i,x)::ps) rs=if(st.get x).e8&&(st.get x).cells.length==sz&&decide (i<rs.length)then kJ st sz ps (rs.set i (st.get x).cells)else none:=rfl
@[go_sem] theorem ahr (xs):wc false (.p (.l xs)) d K st=(xs.length<=ia->K (st.put d (.p (.i .i64 xs.length)))):=rfl
@[go_sem] theorem afu:wc false (.p .nl) d K st=K (st.put d (.p (.i .i64 0))):=rfl
@[go_sem] theorem ahs (x):wc true (.p (.s x)) d K st=(x.length<=ia->K (st.put d (.p (.i .i64 x.length)))):=rfl
@[go_sem] theorem afv (i v o n):wc false (.gs i v o n) d K st=(n<=ia->K (st.put d (.p (.i .i64 n)))):=rfl
@[go_sem] theorem aht (k a b):cZ .add (.p (.i k a)) (.p (.i k b)) d K st=K (st.put d (.p (.i k (wr k (a+b))))):=by simp[cZ,jo,fM,bC]
@[go_sem] theorem ahu (k a b):cZ .sub (.p (.i k a)) (.p (.i k b)) d K st=K (st.put d (.p (.i k (wr k (a-b))))):=by simp[cZ,jo,fM,bC]
@[go_sem] theorem ahv (k a b):cZ .mul (.p (.i k a)) (.p (.i k b)) d K st=K (st.put d (.p (.i k (wr k (a*b))))):=by simp[cZ,jo,fM,bC]
@[go_sem] theorem ahw (k a b):cZ .and (.p (.i k a)) (.p (.i k b)) d K st=K (st.put d (.p (.i k (jD .and k a b)))):=by simp[cZ,jo,fM,bC]
@[go_sem] theorem ahX (k a b):cZ .or (.p (.i k a)) (.p (.i k b)) d K st=K (st.put d (.p (.i k (jD .or k a b)))):=by simp[cZ,jo,fM,bC]
@[go_sem] theorem ahx (k a b):cZ .xor (.p (.i k a)) (.p (.i k b)) d K st=K (st.put d (.p (.i k (jD .xor k a b)))):=by simp[cZ,jo,fM,bC]
@[go_sem] theorem acC (k a b):cZ .andNot (.p (.i k a)) (.p (.i k b)) d K st=K (st.put d (.p (.i k (jD .andNot k a b)))):=by simp[cZ,jo,fM,bC]
@[go_sem] theorem ahy (k a b):cZ .eql (.p (.i k a)) (.p (.i k b)) d K st=K (st.put d (.p (.b (decide (a=b))))):=by simp[cZ,jo,fM,wa,bC]
@[go_sem] theorem ahz (k a b):cZ .neq (.p (.i k a)) (.p (.i k b)) d K st=K (st.put d (.p (.b (!decide (a=b))))):=by simp[cZ,jo,fM,wa,bC]
@[go_sem] theorem ahA (k a b):cZ .lss (.p (.i k a)) (.p (.i k b)) d K st=K (st.put d (.p (.b (decide (a<b))))):=by simp[cZ,jo,fM,wa,bC]
@[go_sem] theorem ahB (k a b):cZ .leq (.p (.i k a)) (.p (.i k b)) d K st=K (st.put d (.p (.b (decide (a<=b))))):=by simp[cZ,jo,fM,wa,bC]
@[go_sem] theorem ahC (k a b):cZ .gtr (.p (.i k a)) (.p (.i k b)) d K st=K (st.put d (.p (.b (decide (b<a))))):=by simp[cZ,jo,fM,wa,bC]
@[go_sem] theorem ahD (k a b):cZ .geq (.p (.i k a)) (.p (.i k b)) d K st=K (st.put d (.p (.b (decide (b<=a))))):=by simp[cZ,jo,fM,wa,bC]
@[go_sem] theorem ahE (k a b):cZ .quo (.p (.i k a)) (.p (.i k b)) d K st=(b≠0/\K (st.put d (.p (.i k (wr k (a.tdiv b)))))):=by simp[cZ,wD,jo,fM,wa]
@[go_sem] theorem ahF (k a b):cZ .rem (.p (.i k a)) (.p (.i k b)) d K st=(b≠0/\K (st.put d (.p (.i k (a.tmod b))))):=by simp[cZ,wD,jo,fM,wa]
@[go_sem] theorem ahG (k k' a b):cZ .shl (.p (.i k a)) (.p (.i k' b)) d K st=(0<=b/\K (st.put d (.p (.i k (wr k (a*2^min b.toNat k.bits)))))):=by
 by_cases h:k=k'<;>simp[cZ,wD,jo,fM,h]
@[go_sem] theorem ahH (k k' a b):cZ .shr (.p (.i k a)) (.p (.i k' b)) d K st=(0<=b/\K (st.put d (.p (.i k (a.fdiv (2^min b.toNat k.bits)))))):=by
 by_cases h:k=k'<;>simp[cZ,wD,jo,fM,h]
@[go_sem] theorem ahI (a b):cZ .add (.p (.s a)) (.p (.s b)) d K st=(a.length+b.length<=ia/\K (st.put d (.p (.s (a++b))))):=rfl
@[go_sem] theorem afw (a b):cZ .eql (.p (.s a)) (.p (.s b)) d K st=K (st.put d (.p (.b (decide (a=b))))):=by simp[cZ,jo,wb,bC]
@[go_sem] theorem afx (a b):cZ .neq (.p (.s a)) (.p (.s b)) d K st=K (st.put d (.p (.b (!decide (a=b))))):=by simp[cZ,jo,wb,bC]
@[go_sem] theorem afy (a b):cZ .lss (.p (.s a)) (.p (.s b)) d K st=K (st.put d (.p (.b (slt a b)))):=by simp[cZ,jo,wb,bC]
@[go_sem] theorem afz (a b):cZ .leq (.p (.s a)) (.p (.s b)) d K st=K (st.put d (.p (.b (slt a b||decide (a=b))))):=by simp[cZ,jo,wb,bC]
@[go_sem] theorem afA (a b):cZ .gtr (.p (.s a)) (.p (.s b)) d K st=K (st.put d (.p (.b (!(slt a b||decide (a=b)))))):=by simp[cZ,jo,wb,bC]
@[go_sem] theorem afB (a b):cZ .geq (.p (.s a)) (.p (.s b)) d K st=K (st.put d (.p (.b (!slt a b)))):=by simp[cZ,jo,wb,bC]
@[go_sem] theorem afC (a):N8 .not (.p (.b a))=some (.p (.b (!a))):=rfl
@[go_sem] theorem afD (k a):N8 .neg (.p (.i k a))=some (.p (.i k (wr k (0-a)))):=rfl
@[go_sem] theorem afE (c x y):BB (.p (.b c)) x y=some (if c then x else y):=rfl
@[go_sem] theorem ahJ (ne n xs ys):P6 ne n (.st xs) (.st ys)=if xs.length=n then(ze xs ys).map fun b=>.p (.b (if ne then !b else b))else none:=rfl
@[go_sem] theorem afF:ze [] []=some true:=rfl
@[go_sem] theorem aes (k a b xs ys):ze (.p (.i k a)::xs) (.p (.i k b)::ys)=(ze xs ys).map (decide (a=b)&& ·):=by simp[ze]
@[go_sem] theorem aet (ne):jU true ne (.p .nl) d K st=K (st.put d (.p (.b (!ne)))):=rfl
@[go_sem] theorem afG (ne xs):jU true ne (.p (.l xs)) d K st=(xs≠[]/\K (st.put d (.p (.b ne)))):=rfl
@[go_sem] theorem aeu (ne i v o n):jU true ne (.gs i v o n) d K ⟨L,T,H⟩=zf ne v d K ⟨L,T,H⟩ H[i]?:=rfl
@[go_sem] theorem aaj (ne v sz v' rs):zf ne v d K st (some (.rows sz v' rs))=(v'=v/\0<rs.length/\K (st.put d (.p (.b ne)))):=rfl
@[go_sem] theorem aev (ne):jU false ne (.p .np) d K st=K (st.put d (.p (.b (!ne)))):=rfl
@[go_sem] theorem acD (ne i o):jU false ne (.ptr i o) d K st=K (st.put d (.p (.b ne))):=rfl
@[go_sem] theorem aew (ne a b c e):jU false ne (.ep a b c e) d K st=K (st.put d (.p (.b ne))):=rfl
@[go_sem] theorem aex (ne r):jU false ne (.ip r) d K st=K (st.put d (.p (.b ne))):=rfl
@[go_sem] theorem ahK (a b):D5 false (.p (.b a)) (.p (.b b))=some (.p (.b (a==b))):=rfl
@[go_sem] theorem ahL (a b):D5 true (.p (.b a)) (.p (.b b))=some (.p (.b (!(a==b)))):=rfl
@[go_sem] theorem aey (k a b):AD true (.p (.i k a)) (.p (.i k b))=some (.p (.i k (if b>a then b else a))):=by simp[AD]
@[go_sem] theorem aez (k a b):AD false (.p (.i k a)) (.p (.i k b))=some (.p (.i k (if b<a then b else a))):=by simp[AD]
@[go_sem] theorem afH (k k' a):BC k (.p (.i k' a))=some (.p (.i k (wr k a))):=rfl
@[go_sem] theorem aeA (n vs):GV n (.dK vs)=vs[n]?:=rfl
@[go_sem] theorem acE (i o):wE (.ptr i o)=some (.ptr i o):=rfl
@[go_sem] theorem aeB (i v r c):wE (.ep i v r c)=some (.ep i v r c):=rfl
@[go_sem] theorem acF (f c):wE (.eB f c)=some (.eB f c):=rfl
@[go_sem] theorem aeC (n i o):Bx n (.ptr i o)=some (.ptr i (o+n)):=rfl
@[go_sem] theorem afI (n i v r c):Bx n (.ep i v r c)=some (.ep i v r (c+n)):=rfl
@[go_sem] theorem afJ (n r):Bx n (.ip r)=some (.ip (r.drop n)):=rfl
@[go_sem] theorem afK (n c cs):vO false n (some (c::cs))=some c:=rfl
@[go_sem] theorem afL (n cs):vO true n (some cs)=(takeN n cs).map .st:=rfl
@[go_sem] theorem aak (cs):takeN 0 cs=some []:=rfl
@[go_sem] theorem aal (n c cs):takeN (n+1) (c::cs)=(takeN n cs).map (c:: ·):=rfl
@[go_sem] theorem afM (row):ly H (.ip row)=some (row.map .p):=rfl
def G1 (off:Nat):Option AO->Option (List AV)
 |some (.var cs)=>some (cs.drop off)
 |_=>none
@[go_sem] theorem WH (off cs):G1 off (some (.var cs))=some (cs.drop off):=rfl
@[go_sem] theorem aeD (i o):ly H (.ptr i o)=G1 o H[i]?:=by
 simp only[ly];cases H[i]?with
 |none=>rfl
 |some o=>cases o<;>rfl
def G3 (ver row gl:Nat):Option AO->Option (List AV)
 |some (.rows _ cI rs)=>if ver=cI then(rs[row]?).map (·.drop gl)else none
 |_=>none
@[go_sem] theorem WI (ver row gl sz v rs):G3 ver row gl (some (.rows sz v rs))=if ver=v then(rs[row]?).map (·.drop gl)else none:=rfl
@[go_sem] theorem afN (i v r c):ly H (.ep i v r c)=G3 v r c H[i]?:=by
 simp only[ly];cases H[i]?with
 |none=>rfl
 |some o=>cases o<;>rfl
@[go_sem] theorem G4 (cs o):eG cs o []=some cs:=by cases o<;>cases cs<;>rfl
@[go_sem] theorem WY (c cs u us):eG (c::cs) 0 (u::us)=(eG cs 0 us).map (u:: ·):=rfl
@[go_sem] theorem WZ (c cs o u us):eG (c::cs) (o+1) (u::us)=(eG cs o (u::us)).map (c:: ·):=rfl
@[go_sem] theorem aeE (cs):AV.cells (.st cs)=cs:=rfl
@[go_sem] theorem afO (x):AV.cells (.p x)=[.p x]:=rfl
@[go_sem] theorem acG (i o):AV.cells (.ptr i o)=[.ptr i o]:=rfl
@[go_sem] theorem aeF (i v o n):AV.cells (.gs i v o n)=[.gs i v o n]:=rfl
@[go_sem] theorem acH (f c):AV.cells (.eB f c)=[.eB f c]:=rfl
@[go_sem] theorem acI (cs):AV.e8 (.st cs)=true:=rfl
@[go_sem] theorem aeG (x):AV.e8 (.p x)=true:=rfl
@[go_sem] theorem aam (i o):AV.e8 (.ptr i o)=true:=rfl
@[go_sem] theorem acJ (i v o n):AV.e8 (.gs i v o n)=true:=rfl
@[go_sem] theorem aan (f c):AV.e8 (.eB f c)=true:=rfl
def aao (H:List AO) (off id:Nat) (us:List AV):Option AO->Option (List AO)
 |some (.var cs)=>(eG cs off us).map fun fP=>H.set id (.var fP)
 |_=>none
@[go_sem] theorem acK (off id us cs):aao H off id us (some (.var cs))=(eG cs off us).map fun fP=>H.set id (.var fP):=rfl
@[go_sem] theorem aeH (n i o v):nG H n (.ptr i o) v=if v.e8&&v.cells.length==n then aao H o i v.cells H[i]?else none:=by
 simp only[nG];split
 ·cases H[i]?with
  |none=>rfl
  |some o=>cases o<;>rfl
 ·rfl
def afP (H:List AO) (id ver row gl:Nat) (us:List AV):Option AO->Option (List AO)
 |some (.rows sz cI rs)=>if ver=cI then
  match rs[row]?with
  |some r=>(eG r gl us).map fun r'=>H.set id (.rows sz cI (rs.set row r'))
  |none=>none
  else none
 |_=>none
@[go_sem] theorem afQ (n i ver r c v):nG H n (.ep i ver r c) v=if v.e8&&v.cells.length==n then afP H i ver r c v.cells H[i]?else none:=by
 simp only[nG];split
 ·cases H[i]?with
  |none=>rfl
  |some o=>cases o<;>rfl
 ·rfl
@[go_sem] theorem afR (rs) (R:AV->List AO->Prop):BK rs R .nm st=BJ rs R st:=rfl
@[go_sem] theorem afS (rs) (R:AV->List AO->Prop):BK rs R .rt st=BJ rs R st:=rfl
def aap (R:AV->List AO->Prop) (v:Option AV) (H:List AO):Prop :=
 match v with
 |some v=>R v H
 |none=>False
@[go_sem] theorem acL (R:AV->List AO->Prop) (v H):aap R (some v) H=R v H:=rfl
@[go_sem] theorem afT (rs) (R:AV->List AO->Prop):BJ rs R ⟨L,T,H⟩=aap R (AF ⟨L,T,H⟩ rs) H:=by
 simp only[BJ];cases AF ⟨L,T,H⟩ rs<;>rfl
@[go_sem] theorem aeI (r):AF st [r]=wg st r:=rfl
@[go_sem] theorem acM:AF st []=some (.dK []):=rfl
@[go_sem] theorem aeJ (r r' rs):AF st (r::r'::rs)=(mL st (r::r'::rs)).map .dK:=rfl
def Ql:Option AV->Option (List AV)->Option (List AV)
 |some v,some vs=>some (v::vs)
 |_,_=>none
@[go_sem] theorem aaq (v vs):Ql (some v) (some vs)=some (v::vs):=rfl
@[go_sem] theorem acN:mL st []=some []:=rfl
@[go_sem] theorem aar (r rs):mL st (r::rs)=Ql (wg st r) (mL st rs):=by
 simp only[mL];cases wg st r<;>cases mL st rs<;>rfl
@[go_sem] theorem ahM (n):wg ⟨L,T,H⟩ (.t n)=some (dQ L n):=rfl
def Jr (H:List AO) (agg:Bool) (n:Nat):AV->Option AV
 | .ptr id o=>vO agg n (ly H (.ptr id o))
 |_=>none
@[go_sem] theorem acO (g n i o):Jr H g n (.ptr i o)=vO g n (ly H (.ptr i o)):=rfl
@[go_sem] theorem acP (g n a):wg ⟨L,T,H⟩ (.cell g n a)=Jr H g n (dQ L a):=by
 simp only[wg,Jr];try (split <;>rename_i h<;>simp[h])
attribute [go_sem] Option.map_some List.drop_zero List.drop_succ_cons List.length_cons List.length_nil List.getElem?_cons_zero List.getElem?_cons_succ List.set_cons_zero List.set_cons_succ List.append_nil List.nil_append List.cons_append List.map_cons List.map_nil List.head?_cons
theorem aW (t:Bool) (h1:t=true->A st) (h2:t=false->B st):lh (.p (.b t)) A B st:=by
 cases t
 ·exact⟨(fun h=>by cases h),fun _=>h2 rfl⟩
 ·exact⟨fun _=>h1 rfl,fun h=>(h rfl).elim⟩
end Go.AM
