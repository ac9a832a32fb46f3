/- The evaluation of the small code as equations for simp: each by unfolding. -/
import Derived.Test.YtjkbbnfdbfcebaaGreatDoorAm3
set_option linter.all false
namespace Go.AM
variable {C:ja} {Q:Ex->St->Prop} {K A B:St->Prop} {st:St} {d:MD} {L T:En} {H:List AO}
@[go_sem] theorem aeg:lJ C .skip Q st=Q .nm st:=rfl
@[go_sem] theorem ae2 (os):lJ C (.Ww os) Q st=k9 C os (DQ (Q .nm)) st:=rfl
@[go_sem] theorem ae3 (a b):lJ C (.seq a b) Q st=lJ C a (yM (lJ C b Q) Q) st:=rfl
@[go_sem] theorem aeh (c a b):lJ C (.cond c a b) Q st=la (st.get c) (lJ C a Q) (lJ C b Q) st:=rfl
@[go_sem] theorem ae4 (id b):lJ C (.Wx id b) Q st=lJ C b (GJ id Q) st:=rfl
@[go_sem] theorem aei (b):lJ C (.loop b) Q st=O6 (lJ C b) Q st:=rfl
@[go_sem] theorem aej (id):lJ C (.exit id) Q st=Q (.ex id) st:=rfl
@[go_sem] theorem ae5:lJ C .ret Q st=Q .rt st:=rfl
variable {J:PK} {Hm Hc:List AO}
@[go_sem] theorem ae6 (pre tail):lJ C (.O0 pre tail) Q st=L7 C pre (k9 C tail (DQ (Q .nm))) st:=rfl
@[go_sem] theorem aek:Bv C Hm [] J Hc st=J Hc st:=rfl
@[go_sem] theorem IP (o os):Bv C Hm (o::os) J Hc st=GI C Hm Hc o (Bv C Hm os J) st:=rfl
@[go_sem] theorem acs (o):GI C Hm Hc ⟨d,o,none⟩ J st=eA C Hm Hc o d J st:=rfl
@[go_sem] theorem IQ (o x w):GI C Hm Hc ⟨d,o,some (x,w)⟩ J st=mZ (st.get x) w (eA C Hm Hc o d J) (yL d (J Hc)) st:=rfl
@[go_sem] theorem ahb (N):nv Hc N J ⟨L,T,H⟩=J Hc ⟨L,T,N⟩:=rfl
@[go_sem] theorem ae7:L6 K Hc ⟨L,T,H⟩=K ⟨L,T,Hc++H⟩:=rfl
@[go_sem] theorem ae8 (N):DO Hm Hc N J ⟨L,T,H⟩=(H.length=Hc.length/\bP Hm H/\J H ⟨L,T,N⟩):=rfl
@[go_sem] theorem ael (o mk):AL Hc (some o) mk d J ⟨L,T,H⟩=J Hc (St.put ⟨L,T,H++[o]⟩ d (mk (Hc.length+H.length))):=rfl
@[go_sem] theorem ae9 (f args):eA C Hm Hc (.call f args) d J st=oy C Hm Hc st.H f (fw st args) d J st:=rfl
@[go_sem] theorem afa (x args):eA C Hm Hc (.sH x args) d J st=DP C Hm Hc (.sH x args) d J st:=rfl
@[go_sem] theorem aem (z):eA C Hm Hc (.alloc z) d J st=AL Hc (some (.var z)) (fun id=>.ptr id 0) d J st:=rfl
@[go_sem] theorem ahc (n x):eA C Hm Hc (.box n x) d J st=AL Hc (if(st.get x).eZ&&(st.get x).cells.length==n then some (.var (st.get x).cells)else none) (fun id=>.ptr id 0) d J st:=rfl
@[go_sem] theorem ahd (sz z n ps):eA C Hm Hc (.C9 sz z n ps) d J st=AL Hc ((kL st sz ps (List.replicate n z)).map fun rs=>.rows sz 0 rs) (fun id=>.gs id 0 0 n) d J st:=rfl
@[go_sem] theorem ahe (sz b z l c):eA C Hm Hc (.Da sz b z l c) d J st=GH Hc sz b z (st.get l) (st.get c) d J st:=rfl
@[go_sem] theorem ahf (sz b z) (l c:Int):GH Hc sz b z (.p (.i .i64 l)) (.p (.i .i64 c)) d J st=(0<=l/\l<=c/\c*b<=140737488355328/\c<=140737488355328/\AL Hc (some (.rows sz 0 (List.replicate l.toNat z))) (fun id=>.gs id 0 0 l.toNat) d J st):=rfl
@[go_sem] theorem ahg (s b x y):eA C Hm Hc (.app s b x y) d J ⟨L,T,H⟩=bo C (.app s b x y) d (DO Hm Hc H J) ⟨L,T,Hc⟩:=rfl
@[go_sem] theorem ZQ (s b i j):eA C Hm Hc (.oo s b (.t i) (.t j)) d J ⟨L,T,H⟩=tu Hm Hc s b (dZ T i) (pZ Hm Hc H s (dZ T j)) d J ⟨L,T,H⟩:=rfl
@[go_sem] theorem ZR (s b i j):eA C Hm Hc (.oo s b (.t i) (.l j)) d J ⟨L,T,H⟩=tu Hm Hc s b (dZ T i) (pZ Hm Hc H s (dZ L j)) d J ⟨L,T,H⟩:=rfl
@[go_sem] theorem ZS (s b i j):eA C Hm Hc (.oo s b (.l i) (.t j)) d J ⟨L,T,H⟩=tu Hm Hc s b (dZ L i) (pZ Hm Hc H s (dZ T j)) d J ⟨L,T,H⟩:=rfl
@[go_sem] theorem ZT (s b i j):eA C Hm Hc (.oo s b (.l i) (.l j)) d J ⟨L,T,H⟩=tu Hm Hc s b (dZ L i) (pZ Hm Hc H s (dZ L j)) d J ⟨L,T,H⟩:=rfl
@[go_sem] theorem O7 (N s k v o n):pZ Hm Hc N s (.gs (Hc.length+k) v o n)=oq s v o n N[k]?:=by
 unfold pZ;simp only[Nat.le_add_right,if_true,Nat.add_sub_cancel_left]
@[go_sem] theorem aen (N s v o n):pZ Hm Hc N s (.gs Hc.length v o n)=oq s v o n N[0]?:=O7 N s 0 v o n
@[go_sem] theorem ahh (N s ys):pZ Hm Hc N s (.p (.l ys))=some (ys.map (·.map .p)):=rfl
@[go_sem] theorem afb (N s):pZ Hm Hc N s (.p .nl)=some []:=rfl
@[go_sem] theorem ZU (s b x ys):tu Hm Hc s b x (some ys) d J ⟨L,T,H⟩=O4 Hm Hc s b x ys d J ⟨L,T,H⟩:=rfl
@[go_sem] theorem acu (n i y):eA C Hm Hc (.qN n (.t i) y) d J ⟨L,T,H⟩=Bu Hc n (dZ T i) (St.get ⟨L,T,H⟩ y) d J ⟨L,T,H⟩:=rfl
@[go_sem] theorem acv (n i y):eA C Hm Hc (.qN n (.l i) y) d J ⟨L,T,H⟩=Bu Hc n (dZ L i) (St.get ⟨L,T,H⟩ y) d J ⟨L,T,H⟩:=rfl
@[go_sem] theorem ahi (n x y):eA C Hm Hc (.pQ n x y) d J ⟨L,T,H⟩=bo C (.pQ n x y) d (DO Hm Hc H J) ⟨L,T,Hc⟩:=rfl
@[go_sem] theorem ah4 (x):eA C Hm Hc (.mv x) d J ⟨L,T,H⟩=bo C (.mv x) d (nv Hc H J) ⟨L,T,Hm⟩:=rfl
@[go_sem] theorem afc (x y z):eA C Hm Hc (.pick x y z) d J ⟨L,T,H⟩=bo C (.pick x y z) d (nv Hc H J) ⟨L,T,Hm⟩:=rfl
@[go_sem] theorem aeo (x y):eA C Hm Hc (.build x y) d J ⟨L,T,H⟩=bo C (.build x y) d (nv Hc H J) ⟨L,T,Hm⟩:=rfl
@[go_sem] theorem ah5 (x y z):eA C Hm Hc (.ld x y z) d J ⟨L,T,H⟩=bo C (.ld x y z) d (nv Hc H J) ⟨L,T,Hm⟩:=rfl
@[go_sem] theorem afd (x):eA C Hm Hc (.Aa x) d J ⟨L,T,H⟩=bo C (.Aa x) d (nv Hc H J) ⟨L,T,Hm⟩:=rfl
@[go_sem] theorem ahj (x y z):eA C Hm Hc (.bin x y z) d J ⟨L,T,H⟩=bo C (.bin x y z) d (nv Hc H J) ⟨L,T,Hm⟩:=rfl
@[go_sem] theorem ah6 (x y):eA C Hm Hc (.un x y) d J ⟨L,T,H⟩=bo C (.un x y) d (nv Hc H J) ⟨L,T,Hm⟩:=rfl
@[go_sem] theorem afe (x y):eA C Hm Hc (.conv x y) d J ⟨L,T,H⟩=bo C (.conv x y) d (nv Hc H J) ⟨L,T,Hm⟩:=rfl
@[go_sem] theorem acw (i):eA C Hm Hc (.qM (.t i)) d J ⟨L,T,H⟩=Af Hc (dZ T i) d J ⟨L,T,H⟩:=rfl
@[go_sem] theorem acx (i):eA C Hm Hc (.qM (.l i)) d J ⟨L,T,H⟩=Af Hc (dZ L i) d J ⟨L,T,H⟩:=rfl
@[go_sem] theorem O8 (k v o n):Af Hc (.gs (Hc.length+k) v o n) d J ⟨L,T,H⟩=bK (ot (oq 1 v o n H[k]?)) d (J Hc) ⟨L,T,H⟩:=by
 unfold Af;simp only[Nat.le_add_right,true_and,Nat.add_sub_cancel_left]
@[go_sem] theorem aep (v o n):Af Hc (.gs Hc.length v o n) d J ⟨L,T,H⟩=bK (ot (oq 1 v o n H[0]?)) d (J Hc) ⟨L,T,H⟩:=O8 0 v o n
@[go_sem] theorem ahk (x):eA C Hm Hc (.sN x) d J ⟨L,T,H⟩=bo C (.sN x) d (nv Hc H J) ⟨L,T,Hm⟩:=rfl
@[go_sem] theorem ahl (x y):eA C Hm Hc (.GA x y) d J ⟨L,T,H⟩=bo C (.GA x y) d (nv Hc H J) ⟨L,T,Hm⟩:=rfl
@[go_sem] theorem ahm (x y z u):eA C Hm Hc (.tg x y z u) d J ⟨L,T,H⟩=bo C (.tg x y z u) d (nv Hc H J) ⟨L,T,Hm⟩:=rfl
@[go_sem] theorem ahn (x y):eA C Hm Hc (.GB x y) d J ⟨L,T,H⟩=bo C (.GB x y) d (nv Hc H J) ⟨L,T,Hm⟩:=rfl
@[go_sem] theorem aho (x y z u):eA C Hm Hc (.GC x y z u) d J ⟨L,T,H⟩=bo C (.GC x y z u) d (nv Hc H J) ⟨L,T,Hm⟩:=rfl
@[go_sem] theorem ahp (x y z):eA C Hm Hc (.Bg x y z) d J ⟨L,T,H⟩=bo C (.Bg x y z) d (nv Hc H J) ⟨L,T,Hm⟩:=rfl
@[go_sem] theorem ahq (x y z u):eA C Hm Hc (.Bi x y z u) d J ⟨L,T,H⟩=bo C (.Bi x y z u) d (nv Hc H J) ⟨L,T,Hm⟩:=rfl
@[go_sem] theorem ahr (x y):eA C Hm Hc (.Bj x y) d J ⟨L,T,H⟩=bo C (.Bj x y) d (nv Hc H J) ⟨L,T,Hm⟩:=rfl
@[go_sem] theorem ahs (x y):eA C Hm Hc (.ext x y) d J ⟨L,T,H⟩=bo C (.ext x y) d (nv Hc H J) ⟨L,T,Hm⟩:=rfl
@[go_sem] theorem aff (x y):eA C Hm Hc (.Ab x y) d J ⟨L,T,H⟩=bo C (.Ab x y) d (nv Hc H J) ⟨L,T,Hm⟩:=rfl
@[go_sem] theorem aht (x):eA C Hm Hc (.cap x) d J ⟨L,T,H⟩=bo C (.cap x) d (nv Hc H J) ⟨L,T,Hm⟩:=rfl
@[go_sem] theorem ahu (x y z):eA C Hm Hc (.ET x y z) d J ⟨L,T,H⟩=bo C (.ET x y z) d (nv Hc H J) ⟨L,T,Hm⟩:=rfl
@[go_sem] theorem ahv (x y):eA C Hm Hc (.EU x y) d J ⟨L,T,H⟩=bo C (.EU x y) d (nv Hc H J) ⟨L,T,Hm⟩:=rfl
@[go_sem] theorem ah7 (n x y z):eA C Hm Hc (.sq x n y z) d J ⟨L,T,H⟩=bo C (.sq x n y z) d (nv Hc H J) ⟨L,T,Hm⟩:=rfl
@[go_sem] theorem afg (x y z):eA C Hm Hc (.tj x y z) d J ⟨L,T,H⟩=bo C (.tj x y z) d (nv Hc H J) ⟨L,T,Hm⟩:=rfl
@[go_sem] theorem ahw (x y z):eA C Hm Hc (.beq x y z) d J ⟨L,T,H⟩=bo C (.beq x y z) d (nv Hc H J) ⟨L,T,Hm⟩:=rfl
theorem bP.refl (H:List AO):bP H H:=fun _ _ h _=>h
theorem ao {pre:List MI} (h:Bv C H pre (L6 K) H ⟨L,T,[]⟩):L7 C pre K ⟨L,T,H⟩:=⟨H,bP.refl H,h⟩
theorem aQ {f:Nat} {xs:List AV} {r:AV} (h:∀A,C f xs (Hc++A) (aW r (Hc++A))) (hm:bP Hm Hc) (k:J Hc (st.put d r)) {N:List AO}:oy C Hm Hc N f xs d J st:=.inl ⟨r,Hc,rfl,hm,fun A _=>h A,k⟩
theorem aR {f:Nat} {xs:List AV} (r:AV) (xq:List AO) (hl:xq.length=Hc.length) (hm:bP Hm xq) (h:∀A,C f xs (Hc++A) (aW r (xq++A))) (k:J xq (st.put d r)) {N:List AO}:oy C Hm Hc N f xs d J st:=.inl ⟨r,xq,hl,hm,fun A _=>h A,k⟩
@[go_sem] theorem O9 (s x):bo C (.Ab s x) d K st=bK (tl s (st.get x)) d K st:=rfl
@[go_sem] theorem afh (xs):tl false (.p (.l xs))=some (.p (.i .i64 xs.length)):=rfl
@[go_sem] theorem aeq:tl false (.p .nl)=some (.p (.i .i64 0)):=rfl
@[go_sem] theorem afi (x):tl true (.p (.s x))=some (.p (.i .i64 x.length)):=rfl
@[go_sem] theorem aer (i v o n):tl false (.gs i v o n)=some (.p (.i .i64 n)):=rfl
@[go_sem] theorem aes:yM K Q .nm st=K st:=rfl
@[go_sem] theorem aet (i):yM K Q (.ex i) st=Q (.ex i) st:=rfl
@[go_sem] theorem aeu:yM K Q .rt st=Q .rt st:=rfl
@[go_sem] theorem afj (i):GJ i Q .nm st=Q .nm st:=rfl
@[go_sem] theorem afk (i):GJ i Q .rt st=Q .rt st:=rfl
@[go_sem] theorem afl (i j):GJ i Q (.ex j) st=if j=i then Q .nm st else Q (.ex j) st:=rfl
@[go_sem] theorem afm:DQ K ⟨L,T,H⟩=K ⟨L,[],H⟩:=rfl
@[go_sem] theorem ZV:k9 C [] K st=K st:=rfl
@[go_sem] theorem Wz (o os):k9 C (o::os) K st=Br C o (k9 C os K) st:=rfl
@[go_sem] theorem ZW (o):Br C ⟨d,o,none⟩ K st=bo C o d K st:=rfl
@[go_sem] theorem ZX (o x w):Br C ⟨d,o,some (x,w)⟩ K st=mZ (st.get x) w (bo C o d K) (yL d K) st:=rfl
@[go_sem] theorem aev (c):mZ (.p (.b c)) true A B st=la (.p (.b c)) A B st:=rfl
@[go_sem] theorem aew (c):mZ (.p (.b c)) false A B st=la (.p (.b c)) B A st:=rfl
@[go_sem] theorem aex (w):mZ (.dX []) w A B st=B st:=by cases w<;>rfl
@[go_sem] theorem aey:yL d K st=K (st.put d (.dX [])):=rfl
theorem Ai {v:AV} {w:Bool} (h:mZ v w A B st):(v=.dX []/\B st)\/∃b,v=.p (.b b)/\(b=w->A st)/\(b≠w->B st):=by
 unfold mZ at h;split at h
 ·exact .inl ⟨rfl,h⟩
 ·unfold la at h
  split at h
  ·rename_i b _;exact .inr ⟨b,rfl,h.1,fun hb=>h.2 hb⟩
  ·exact h.elim
 ·unfold la at h
  split at h
  ·rename_i b _;exact .inr ⟨b,rfl,fun hb=>h.2 (by simp[hb]),fun hb=>h.1 (by cases b with|true=>rfl|false=>exact(hb rfl).elim)⟩
  ·exact h.elim
@[go_sem] theorem afn:la (.p (.b true)) A B st=A st:=by simp[la,EV]
@[go_sem] theorem afo:la (.p (.b false)) A B st=B st:=by simp[la,EV]
@[go_sem] theorem ah8 (n):St.get ⟨L,T,H⟩ (.t n)=dZ T n:=rfl
@[go_sem] theorem ah9 (n):St.get ⟨L,T,H⟩ (.l n)=dZ L n:=rfl
@[go_sem] theorem aia (v):St.get st (.c v)=v:=rfl
@[go_sem] theorem ahx (v):St.put st .no v=st:=rfl
@[go_sem] theorem aib (n v):St.put ⟨L,T,H⟩ (.t n) v=⟨L,(n,v)::T,H⟩:=rfl
@[go_sem] theorem aic (n v):St.put ⟨L,T,H⟩ (.l n) v=⟨qO L n v,T,H⟩:=rfl
@[go_sem] theorem wb (k v t) (e:En):dZ ((k,v)::e) t=if k=t then v else dZ e t:=rfl
@[go_sem] theorem aez (t v):qO [] t v=[(t,v)]:=rfl
@[go_sem] theorem acy (k u t v) (e:En):qO ((k,u)::e) t v=if k=t then(t,v)::e else(k,u)::qO e t v:=rfl
@[go_sem] theorem aeA (k):lu [] k=false:=rfl
@[go_sem] theorem acz (x xs k):lu (x::xs) k=if x=k then true else lu xs k:=rfl
@[go_sem] theorem acA (lv):jS lv []=[]:=rfl
@[go_sem] theorem ZY (lv k v) (e:En):jS lv ((k,v)::e)=if lu lv k=true then(k,v)::jS lv e else jS lv e:=rfl
@[go_sem] theorem aeB:fw st []=[]:=rfl
@[go_sem] theorem By (x xs):fw st (x::xs)=st.get x::fw st xs:=rfl
@[go_sem] theorem ZZ (i):ky i []=[]:=rfl
@[go_sem] theorem WA (i a as):ky i (a::as)=(i,a)::ky (i+1) as:=rfl
@[go_sem] theorem aaa (v):bK (some v) d K st=K (st.put d v):=rfl
@[go_sem] theorem aab (h):tm (some h) d K ⟨L,T,H⟩=K (St.put ⟨L,T,h⟩ d .any):=rfl
@[go_sem] theorem acB (o mk):vJ (some o) mk d K ⟨L,T,H⟩=K (St.put ⟨L,T,H++[o]⟩ d (mk H.length)):=rfl
@[go_sem] theorem aeC (r h):rC d K ⟨L,T,H⟩ r h=K (St.put ⟨L,T,h⟩ d r):=rfl
@[go_sem] theorem acC (x):bo C (.mv x) d K st=K (st.put d (st.get x)):=rfl
@[go_sem] theorem Pa (c x y):bo C (.pick c x y) d K st=bK (Bo (st.get c) (st.get x) (st.get y)) d K st:=rfl
@[go_sem] theorem aeD (z):bo C (.alloc z) d K st=vJ (some (.var z)) (fun id=>.ptr id 0) d K st:=rfl
@[go_sem] theorem ahy (n x):bo C (.box n x) d K st=vJ (if(st.get x).eZ&&(st.get x).cells.length==n then some (.var (st.get x).cells)else none) (fun id=>.ptr id 0) d K st:=rfl
@[go_sem] theorem Nb (z ps):bo C (.build z ps) d K st=bK (uM st z ps) d K st:=rfl
@[go_sem] theorem ahz (sz z n ps):bo C (.C9 sz z n ps) d K st=vJ ((kL st sz ps (List.replicate n z)).map fun rs=>.rows sz 0 rs) (fun id=>.gs id 0 0 n) d K st:=rfl
@[go_sem] theorem aid (g n x):bo C (.ld g n x) d K ⟨L,T,H⟩=bK (vw g n (ly H (St.get ⟨L,T,H⟩ x))) d K ⟨L,T,H⟩:=rfl
@[go_sem] theorem ahA (n x v):bo C (.pQ n x v) d K ⟨L,T,H⟩=tm (nu H n (St.get ⟨L,T,H⟩ x) (St.get ⟨L,T,H⟩ v)) d K ⟨L,T,H⟩:=rfl
@[go_sem] theorem Pb (x):bo C (.Aa x) d K st=bK (v7 (st.get x)) d K st:=rfl
@[go_sem] theorem rG (op x y):bo C (.bin op x y) d K st=de op (st.get x) (st.get y) d K st:=rfl
@[go_sem] theorem acD (op x):bo C (.un op x) d K st=bK (Na op (st.get x)) d K st:=rfl
@[go_sem] theorem Pc (k x):bo C (.conv k x) d K st=bK (Bp k (st.get x)) d K st:=rfl
@[go_sem] theorem ahB (x):bo C (.sN x) d K ⟨L,T,H⟩=bK (pY H (St.get ⟨L,T,H⟩ x)) d K ⟨L,T,H⟩:=rfl
@[go_sem] theorem WB (f cs):bo C (.GA f cs) d K st=K (st.put d (.fI f (fw st cs))):=rfl
@[go_sem] theorem ahC (sz b z l c):bo C (.Da sz b z l c) d K st=GG sz b z (st.get l) (st.get c) d K st:=rfl
@[go_sem] theorem acE (k x):bo C (.tg k x none none) d K st=mq k (st.get x) none none d K st:=rfl
@[go_sem] theorem acF (k x y):bo C (.tg k x none (some y)) d K st=mq k (st.get x) none (some (st.get y)) d K st:=rfl
@[go_sem] theorem acG (k x y):bo C (.tg k x (some y) none) d K st=mq k (st.get x) (some (st.get y)) none d K st:=rfl
@[go_sem] theorem acH (k x y z):bo C (.tg k x (some y) (some z)) d K st=mq k (st.get x) (some (st.get y)) (some (st.get z)) d K st:=rfl
@[go_sem] theorem WC (o x):bo C (.GB o x) d K st=bK (Bk o (st.get x)) d K st:=rfl
def L9 (g:Bool) (o n:Nat):AV->Option AV
 | .st cs=>vw g n (some (cs.drop o))
 |_=>none
@[go_sem] theorem afp (g o n cs):L9 g o n (.st cs)=vw g n (some (cs.drop o)):=rfl
@[go_sem] theorem EX (g o n x):bo C (.GC g o n x) d K st=bK (L9 g o n (st.get x)) d K st:=by
 show bK _ d K st=bK _ d K st;congr 1
@[go_sem] theorem Ma (sz x i):bo C (.Bg sz x i) d K st=xp sz (st.get x) (st.get i) d K st:=rfl
@[go_sem] theorem Mb (l sz x i):bo C (.Bi l sz x i) d K st=Bl l sz (st.get x) (st.get i) d K st:=rfl
@[go_sem] theorem Md (x i):bo C (.Bj x i) d K st=Bm (st.get x) (st.get i) d K st:=rfl
@[go_sem] theorem WD (x n):bo C (.ext x n) d K st=bK (GF n (st.get x)) d K st:=rfl
@[go_sem] theorem afq (f as):bo C (.call f as) d K ⟨L,T,H⟩=C f (fw ⟨L,T,H⟩ as) H (rC d K ⟨L,T,H⟩):=rfl
@[go_sem] theorem afr (x as):bo C (.sH x as) d K st=yK C (st.get x) (fw st as) d K st:=rfl
@[go_sem] theorem aeE (f cs as):yK C (.fI f cs) as d K ⟨L,T,H⟩=C f (as++cs) H (rC d K ⟨L,T,H⟩):=rfl
@[go_sem] theorem ahD (sz b x y):bo C (.app sz b x y) d K st=DN sz b (st.get x) (st.get y) d K st:=rfl
@[go_sem] theorem WE (s x):bo C (.len s x) d K st=vI s (st.get x) d K st:=rfl
@[go_sem] theorem afs (sz b x n):bo C (.L5 sz b x n) d K st=Bn sz b (st.get x) (st.get n) d K st:=rfl
@[go_sem] theorem aeF (sz b) (k:Int):Bn sz b (.p .nl) (.p (.i .i64 k)) d K st=(0<k/\k*b<=140737488355328/\k<=140737488355328/\K (St.put ⟨st.L,st.T,st.H++[.rows sz 0 []]⟩ d (.gs st.H.length 0 0 k.toNat))):=rfl
@[go_sem] theorem WG (x):bo C (.cap x) d K st=bK (GD (st.get x)) d K st:=rfl
@[go_sem] theorem aft:GD (.p .nl)=some (.p (.i .i64 0)):=rfl
@[go_sem] theorem WH (m x y):bo C (.ET m x y) d K st=bK (Ae m (st.get x) (st.get y)) d K st:=rfl
@[go_sem] theorem WI (m x):bo C (.EU m x) d K st=bK (DL m (st.get x)) d K st:=rfl
@[go_sem] theorem afu (ne):DL ne (.p .ni)=some (.p (.b (!ne))):=rfl
@[go_sem] theorem afv (ne):DL ne (.p .er)=some (.p (.b ne)):=rfl
@[go_sem] theorem acI (m n x y):bo C (.sq m n x y) d K st=bK (O1 m n (st.get x) (st.get y)) d K st:=rfl
@[go_sem] theorem Pd (s m x):bo C (.tj s m x) d K st=jT s m (st.get x) d K st:=rfl
@[go_sem] theorem WJ (m x y):bo C (.beq m x y) d K st=bK (DK m (st.get x) (st.get y)) d K st:=rfl
@[go_sem] theorem afw:bo C .stop d K st=False:=rfl
@[go_sem] theorem ahE (sz xs lo hi):mq (some sz) (.p (.l xs)) lo hi d K st=((∀r∈xs,r.length=sz)/\mo lo hi xs.length fun a b=>K (st.put d (.p (.l ((xs.drop a).take (b-a)))))):=rfl
@[go_sem] theorem WK (x lo hi):mq none (.p (.s x)) lo hi d K st=(mo lo hi x.length fun a b=>K (st.put d (.p (.s ((x.drop a).take (b-a)))))):=rfl
@[go_sem] theorem Pe (sz lo hi):mq (some sz) (.p .nl) lo hi d K st=(mo lo hi 0 fun _ _=>K (st.put d (.p .nl))):=rfl
@[go_sem] theorem afx (sz i v o n lo hi):mq (some sz) (.gs i v o n) lo hi d K ⟨L,T,H⟩=DM sz i v o n lo hi d K ⟨L,T,H⟩ H[i]?:=rfl
@[go_sem] theorem acJ (sz i v o n lo hi cP v' rs):DM sz i v o n lo hi d K st (some (.rows cP v' rs))=(cP=sz/\v'=v/\mo lo hi n fun a b=>K (st.put d (.gs i v (o+a) (b-a)))):=rfl
@[go_sem] theorem afy (n) (R:Nat->Nat->Prop):mo none none n R=R 0 n:=rfl
@[go_sem] theorem afz (k a n) (R:Nat->Nat->Prop):mo (some (.p (.i k a))) none n R=(0<=a/\a<=(n:Int)/\R a.toNat n):=rfl
@[go_sem] theorem afA (k b n) (R:Nat->Nat->Prop):mo none (some (.p (.i k b))) n R=(0<=b/\b<=(n:Int)/\R 0 b.toNat):=rfl
@[go_sem] theorem afB (k a k' b n) (R:Nat->Nat->Prop):mo (some (.p (.i k a))) (some (.p (.i k' b))) n R=(0<=a/\a<=b/\b<=(n:Int)/\R a.toNat b.toNat):=rfl
@[go_sem] theorem afC (sz b x y):DN sz b x y d K ⟨L,T,H⟩=Ad sz b x (dt H sz y) d K ⟨L,T,H⟩:=rfl
@[go_sem] theorem acK (sz b x ys):Ad sz b x (some ys) d K st=((∀r∈ys,r.length=sz)/\mu sz b x ys d K st):=rfl
@[go_sem] theorem afD (sz b ys):mu sz b (.p .nl) ys d K ⟨L,T,H⟩=(ys.length*b<=140737488355328/\ys.length<=140737488355328/\K (St.put ⟨L,T,H++[.rows sz 0 ys]⟩ d (.gs H.length 0 0 ys.length))):=rfl
@[go_sem] theorem afE (sz b i v o n ys):mu sz b (.gs i v o n) ys d K ⟨L,T,H⟩=Ac sz b i v o n ys d K ⟨L,T,H⟩ H[i]?:=rfl
@[go_sem] theorem acL (sz b i v o n ys cP v' rs):Ac sz b i v o n ys d K ⟨L,T,H⟩ (some (.rows cP v' rs))=(cP=sz/\v'=v/\o=0/\n<=rs.length/\(n+ys.length)*b<=140737488355328/\n+ys.length<=140737488355328/\
  K (St.put ⟨L,T,H.set i (.rows sz (v+1) (rs.take n++ys))⟩ d (.gs i (v+1) 0 (n+ys.length)))):=rfl
@[go_sem] theorem acM (sz ys):dt H sz (.p (.l ys))=some (ys.map (·.map .p)):=rfl
@[go_sem] theorem aac (sz):dt H sz (.p .nl)=some []:=rfl
@[go_sem] theorem acN (x):dt H 1 (.p (.s x))=some (jb x):=rfl
@[go_sem] theorem aad (sz i v o n):dt H sz (.gs i v o n)=oq sz v o n H[i]?:=rfl
@[go_sem] theorem acO (sz v o n cP v' rs):oq sz v o n (some (.rows cP v' rs))=if cP=sz/\v'=v/\o+n<=rs.length then some ((rs.drop o).take n)else none:=rfl
@[go_sem] theorem ahF (ys):pY H (.p (.l ys))=ot (dt H 1 (.p (.l ys))):=rfl
@[go_sem] theorem afF:pY H (.p .nl)=some (.p (.s [])):=rfl
@[go_sem] theorem afG (i v o n):pY H (.gs i v o n)=ot (dt H 1 (.gs i v o n)):=rfl
@[go_sem] theorem IS (ys):ot (some ys)=if ys.length<=140737488355328 then(bytesOf ys).map fun l=>.p (.s l)else none:=rfl
@[go_sem] theorem afH (sz b z l c):GG sz b z (.p (.i .i64 l)) (.p (.i .i64 c)) d K ⟨L,T,H⟩=(0<=l/\l<=c/\c*b<=140737488355328/\c<=140737488355328/\
   K (St.put ⟨L,T,H++[.rows sz 0 (List.replicate l.toNat z)]⟩ d (.gs H.length 0 0 l.toNat))):=rfl
@[go_sem] theorem ahG (sz xs k n):xp sz (.p (.l xs)) (.p (.i k n)) d K st=(0<=n/\∃r,xs[n.toNat]?=some r/\r.length=sz/\K (st.put d (.ip r))):=rfl
def aae (sz id ver off:Nat) (n:Int) (d:MD) (K:St->Prop) (st:St):Option AO->Prop
 |some (.rows cP cA rs)=>cP=sz/\cA=ver/\K (st.put d (.ep id ver (off+n.toNat) 0))
 |_=>False
@[go_sem] theorem acP (sz i v o n cP v' rs):aae sz i v o n d K st (some (.rows cP v' rs))=(cP=sz/\v'=v/\K (st.put d (.ep i v (o+n.toNat) 0))):=rfl
@[go_sem] theorem afI (sz i v o m k n):xp sz (.gs i v o m) (.p (.i k n)) d K ⟨L,T,H⟩=(0<=n/\n<(m:Int)/\aae sz i v o n d K ⟨L,T,H⟩ H[i]?):=by
 simp only[xp]
 cases H[i]?with
 |none=>rfl
 |some o=>cases o<;>rfl
@[go_sem] theorem aeG (len sz i o k n):Bl len sz (.ptr i o) (.p (.i k n)) d K st=(0<=n/\n<(len:Int)/\K (st.put d (.ptr i (o+n.toNat*sz)))):=rfl
@[go_sem] theorem ahH (x k n):Bm (.p (.s x)) (.p (.i k n)) d K st=(0<=n/\∃c,x[n.toNat]?=some c/\K (st.put d (.p (.i .u8 c.toNat)))):=rfl
@[go_sem] theorem wc (z ps):uM st z ps=(mY st ps z).map .st:=rfl
@[go_sem] theorem aaf (z):mY st [] z=some z:=rfl
@[go_sem] theorem rH (o n x ps z):mY st ((o,n,x)::ps) z=if(st.get x).eZ&&(st.get x).cells.length==n then(dU z o (st.get x).cells).bind (mY st ps)else none:=rfl
@[go_sem] theorem acQ (sz rs):kL st sz [] rs=some rs:=rfl
@[go_sem] theorem tC (sz i x ps rs):kL st sz ((i,x)::ps) rs=if(st.get x).eZ&&(st.get x).cells.length==sz&&decide (i<rs.length)then kL st sz ps (rs.set i (st.get x).cells)else none:=rfl
@[go_sem] theorem ahI (xs):vI false (.p (.l xs)) d K st=(xs.length<=fb->K (st.put d (.p (.i .i64 xs.length)))):=rfl
@[go_sem] theorem afJ:vI false (.p .nl) d K st=K (st.put d (.p (.i .i64 0))):=rfl
@[go_sem] theorem ahJ (x):vI true (.p (.s x)) d K st=(x.length<=fb->K (st.put d (.p (.i .i64 x.length)))):=rfl
@[go_sem] theorem afK (i v o n):vI false (.gs i v o n) d K st=(n<=fb->K (st.put d (.p (.i .i64 n)))):=rfl
@[go_sem] theorem ahK (k a b):de .add (.p (.i k a)) (.p (.i k b)) d K st=K (st.put d (.p (.i k (wr k (a+b))))):=by simp[de,jn,fJ,bK]
@[go_sem] theorem ahL (k a b):de .sub (.p (.i k a)) (.p (.i k b)) d K st=K (st.put d (.p (.i k (wr k (a-b))))):=by simp[de,jn,fJ,bK]
@[go_sem] theorem ahM (k a b):de .mul (.p (.i k a)) (.p (.i k b)) d K st=K (st.put d (.p (.i k (wr k (a*b))))):=by simp[de,jn,fJ,bK]
@[go_sem] theorem ahN (k a b):de .and (.p (.i k a)) (.p (.i k b)) d K st=K (st.put d (.p (.i k (rB .and k a b)))):=by simp[de,jn,fJ,bK]
@[go_sem] theorem aie (k a b):de .or (.p (.i k a)) (.p (.i k b)) d K st=K (st.put d (.p (.i k (rB .or k a b)))):=by simp[de,jn,fJ,bK]
@[go_sem] theorem ahO (k a b):de .xor (.p (.i k a)) (.p (.i k b)) d K st=K (st.put d (.p (.i k (rB .xor k a b)))):=by simp[de,jn,fJ,bK]
@[go_sem] theorem acR (k a b):de .andNot (.p (.i k a)) (.p (.i k b)) d K st=K (st.put d (.p (.i k (rB .andNot k a b)))):=by simp[de,jn,fJ,bK]
@[go_sem] theorem ahP (k a b):de .eql (.p (.i k a)) (.p (.i k b)) d K st=K (st.put d (.p (.b (decide (a=b))))):=by simp[de,jn,fJ,vG,bK]
@[go_sem] theorem ahQ (k a b):de .neq (.p (.i k a)) (.p (.i k b)) d K st=K (st.put d (.p (.b (!decide (a=b))))):=by simp[de,jn,fJ,vG,bK]
@[go_sem] theorem ahR (k a b):de .lss (.p (.i k a)) (.p (.i k b)) d K st=K (st.put d (.p (.b (decide (a<b))))):=by simp[de,jn,fJ,vG,bK]
@[go_sem] theorem ahS (k a b):de .leq (.p (.i k a)) (.p (.i k b)) d K st=K (st.put d (.p (.b (decide (a<=b))))):=by simp[de,jn,fJ,vG,bK]
@[go_sem] theorem ahT (k a b):de .gtr (.p (.i k a)) (.p (.i k b)) d K st=K (st.put d (.p (.b (decide (b<a))))):=by simp[de,jn,fJ,vG,bK]
@[go_sem] theorem ahU (k a b):de .geq (.p (.i k a)) (.p (.i k b)) d K st=K (st.put d (.p (.b (decide (b<=a))))):=by simp[de,jn,fJ,vG,bK]
@[go_sem] theorem ahV (k a b):de .quo (.p (.i k a)) (.p (.i k b)) d K st=(b≠0/\K (st.put d (.p (.i k (wr k (a.tdiv b)))))):=by simp[de,vZ,jn,fJ,vG]
@[go_sem] theorem ahW (k a b):de .rem (.p (.i k a)) (.p (.i k b)) d K st=(b≠0/\K (st.put d (.p (.i k (a.tmod b))))):=by simp[de,vZ,jn,fJ,vG]
@[go_sem] theorem ahX (k k' a b):de .shl (.p (.i k a)) (.p (.i k' b)) d K st=(0<=b/\K (st.put d (.p (.i k (wr k (a*2^min b.toNat k.bits)))))):=by
 by_cases h:k=k'<;>simp[de,vZ,jn,fJ,h]
@[go_sem] theorem ahY (k k' a b):de .shr (.p (.i k a)) (.p (.i k' b)) d K st=(0<=b/\K (st.put d (.p (.i k (a.fdiv (2^min b.toNat k.bits)))))):=by
 by_cases h:k=k'<;>simp[de,vZ,jn,fJ,h]
@[go_sem] theorem ahZ (a b):de .add (.p (.s a)) (.p (.s b)) d K st=(a.length+b.length<=fb/\K (st.put d (.p (.s (a++b))))):=rfl
@[go_sem] theorem afL (a b):de .eql (.p (.s a)) (.p (.s b)) d K st=K (st.put d (.p (.b (decide (a=b))))):=by simp[de,jn,vH,bK]
@[go_sem] theorem afM (a b):de .neq (.p (.s a)) (.p (.s b)) d K st=K (st.put d (.p (.b (!decide (a=b))))):=by simp[de,jn,vH,bK]
@[go_sem] theorem afN (a b):de .lss (.p (.s a)) (.p (.s b)) d K st=K (st.put d (.p (.b (slt a b)))):=by simp[de,jn,vH,bK]
@[go_sem] theorem afO (a b):de .leq (.p (.s a)) (.p (.s b)) d K st=K (st.put d (.p (.b (slt a b||decide (a=b))))):=by simp[de,jn,vH,bK]
@[go_sem] theorem afP (a b):de .gtr (.p (.s a)) (.p (.s b)) d K st=K (st.put d (.p (.b (!(slt a b||decide (a=b)))))):=by simp[de,jn,vH,bK]
@[go_sem] theorem afQ (a b):de .geq (.p (.s a)) (.p (.s b)) d K st=K (st.put d (.p (.b (!slt a b)))):=by simp[de,jn,vH,bK]
@[go_sem] theorem afR (a):Na .not (.p (.b a))=some (.p (.b (!a))):=rfl
@[go_sem] theorem afS (k a):Na .neg (.p (.i k a))=some (.p (.i k (wr k (0-a)))):=rfl
@[go_sem] theorem afT (c x y):Bo (.p (.b c)) x y=some (if c then x else y):=rfl
@[go_sem] theorem ah0 (ne n xs ys):O1 ne n (.st xs) (.st ys)=if xs.length=n then(yI xs ys).map fun b=>.p (.b (if ne then !b else b))else none:=rfl
@[go_sem] theorem afU:yI [] []=some true:=rfl
@[go_sem] theorem aeH (k a b xs ys):yI (.p (.i k a)::xs) (.p (.i k b)::ys)=(yI xs ys).map (decide (a=b)&& ·):=by simp[yI]
@[go_sem] theorem aeI (ne):jT true ne (.p .nl) d K st=K (st.put d (.p (.b (!ne)))):=rfl
@[go_sem] theorem afV (ne xs):jT true ne (.p (.l xs)) d K st=(xs≠[]/\K (st.put d (.p (.b ne)))):=rfl
@[go_sem] theorem aeJ (ne i v o n):jT true ne (.gs i v o n) d K ⟨L,T,H⟩=yJ ne v d K ⟨L,T,H⟩ H[i]?:=rfl
@[go_sem] theorem aag (ne v sz v' rs):yJ ne v d K st (some (.rows sz v' rs))=(v'=v/\0<rs.length/\K (st.put d (.p (.b ne)))):=rfl
@[go_sem] theorem aeK (ne):jT false ne (.p .np) d K st=K (st.put d (.p (.b (!ne)))):=rfl
@[go_sem] theorem acS (ne i o):jT false ne (.ptr i o) d K st=K (st.put d (.p (.b ne))):=rfl
@[go_sem] theorem aeL (ne a b c e):jT false ne (.ep a b c e) d K st=K (st.put d (.p (.b ne))):=rfl
@[go_sem] theorem aeM (ne r):jT false ne (.ip r) d K st=K (st.put d (.p (.b ne))):=rfl
@[go_sem] theorem ah1 (a b):DK false (.p (.b a)) (.p (.b b))=some (.p (.b (a==b))):=rfl
@[go_sem] theorem ah2 (a b):DK true (.p (.b a)) (.p (.b b))=some (.p (.b (!(a==b)))):=rfl
@[go_sem] theorem aeN (k a b):Ae true (.p (.i k a)) (.p (.i k b))=some (.p (.i k (if b>a then b else a))):=by simp[Ae]
@[go_sem] theorem aeO (k a b):Ae false (.p (.i k a)) (.p (.i k b))=some (.p (.i k (if b<a then b else a))):=by simp[Ae]
@[go_sem] theorem afW (k k' a):Bp k (.p (.i k' a))=some (.p (.i k (wr k a))):=rfl
@[go_sem] theorem aeP (n vs):GF n (.dX vs)=vs[n]?:=rfl
@[go_sem] theorem acT (i o):v7 (.ptr i o)=some (.ptr i o):=rfl
@[go_sem] theorem aeQ (i v r c):v7 (.ep i v r c)=some (.ep i v r c):=rfl
@[go_sem] theorem acU (f c):v7 (.fI f c)=some (.fI f c):=rfl
@[go_sem] theorem aeR (n i o):Bk n (.ptr i o)=some (.ptr i (o+n)):=rfl
@[go_sem] theorem afX (n i v r c):Bk n (.ep i v r c)=some (.ep i v r (c+n)):=rfl
@[go_sem] theorem afY (n r):Bk n (.ip r)=some (.ip (r.drop n)):=rfl
@[go_sem] theorem afZ (n c cs):vw false n (some (c::cs))=some c:=rfl
@[go_sem] theorem af0 (n cs):vw true n (some cs)=(takeN n cs).map .st:=rfl
@[go_sem] theorem aah (cs):takeN 0 cs=some []:=rfl
@[go_sem] theorem aai (n c cs):takeN (n+1) (c::cs)=(takeN n cs).map (c:: ·):=rfl
@[go_sem] theorem af1 (row):ly H (.ip row)=some (row.map .p):=rfl
def GK (off:Nat):Option AO->Option (List AV)
 |some (.var cs)=>some (cs.drop off)
 |_=>none
@[go_sem] theorem Wu (off cs):GK off (some (.var cs))=some (cs.drop off):=rfl
@[go_sem] theorem aeS (i o):ly H (.ptr i o)=GK o H[i]?:=by
 simp only[ly];cases H[i]?with
 |none=>rfl
 |some o=>cases o<;>rfl
def GL (ver row fL:Nat):Option AO->Option (List AV)
 |some (.rows _ cA rs)=>if ver=cA then(rs[row]?).map (·.drop fL)else none
 |_=>none
@[go_sem] theorem Wv (ver row fL sz v rs):GL ver row fL (some (.rows sz v rs))=if ver=v then(rs[row]?).map (·.drop fL)else none:=rfl
@[go_sem] theorem af2 (i v r c):ly H (.ep i v r c)=GL v r c H[i]?:=by
 simp only[ly];cases H[i]?with
 |none=>rfl
 |some o=>cases o<;>rfl
@[go_sem] theorem Aj (cs o):dU cs o []=some cs:=by cases o<;>cases cs<;>rfl
@[go_sem] theorem WL (c cs u us):dU (c::cs) 0 (u::us)=(dU cs 0 us).map (u:: ·):=rfl
@[go_sem] theorem WM (c cs o u us):dU (c::cs) (o+1) (u::us)=(dU cs o (u::us)).map (c:: ·):=rfl
@[go_sem] theorem aeT (cs):AV.cells (.st cs)=cs:=rfl
@[go_sem] theorem af3 (x):AV.cells (.p x)=[.p x]:=rfl
@[go_sem] theorem acV (i o):AV.cells (.ptr i o)=[.ptr i o]:=rfl
@[go_sem] theorem aeU (i v o n):AV.cells (.gs i v o n)=[.gs i v o n]:=rfl
@[go_sem] theorem acW (f c):AV.cells (.fI f c)=[.fI f c]:=rfl
@[go_sem] theorem acX (cs):AV.eZ (.st cs)=true:=rfl
@[go_sem] theorem aeV (x):AV.eZ (.p x)=true:=rfl
@[go_sem] theorem aaj (i o):AV.eZ (.ptr i o)=true:=rfl
@[go_sem] theorem acY (i v o n):AV.eZ (.gs i v o n)=true:=rfl
@[go_sem] theorem aak (f c):AV.eZ (.fI f c)=true:=rfl
def aal (H:List AO) (off id:Nat) (us:List AV):Option AO->Option (List AO)
 |some (.var cs)=>(dU cs off us).map fun gG=>H.set id (.var gG)
 |_=>none
@[go_sem] theorem acZ (off id us cs):aal H off id us (some (.var cs))=(dU cs off us).map fun gG=>H.set id (.var gG):=rfl
@[go_sem] theorem aeW (n i o v):nu H n (.ptr i o) v=if v.eZ&&v.cells.length==n then aal H o i v.cells H[i]?else none:=by
 simp only[nu];split
 ·cases H[i]?with
  |none=>rfl
  |some o=>cases o<;>rfl
 ·rfl
def Pf (H:List AO) (id ver row fL:Nat) (us:List AV):Option AO->Option (List AO)
 |some (.rows sz cA rs)=>if ver=cA then
  match rs[row]?with
  |some r=>(dU r fL us).map fun r'=>H.set id (.rows sz cA (rs.set row r'))
  |none=>none
  else none
 |_=>none
@[go_sem] theorem af4 (n i ver r c v):nu H n (.ep i ver r c) v=if v.eZ&&v.cells.length==n then Pf H i ver r c v.cells H[i]?else none:=by
 simp only[nu];split
 ·cases H[i]?with
  |none=>rfl
  |some o=>cases o<;>rfl
 ·rfl
@[go_sem] theorem af5 (rs) (R:AV->List AO->Prop):tz rs R .nm st=Bw rs R st:=rfl
@[go_sem] theorem af6 (rs) (R:AV->List AO->Prop):tz rs R .rt st=Bw rs R st:=rfl
def aam (R:AV->List AO->Prop) (v:Option AV) (H:List AO):Prop :=
 match v with
 |some v=>R v H
 |none=>False
@[go_sem] theorem ac0 (R:AV->List AO->Prop) (v H):aam R (some v) H=R v H:=rfl
@[go_sem] theorem af7 (rs) (R:AV->List AO->Prop):Bw rs R ⟨L,T,H⟩=aam R (Ag ⟨L,T,H⟩ rs) H:=by
 simp only[Bw];cases Ag ⟨L,T,H⟩ rs<;>rfl
@[go_sem] theorem aeX (r):Ag st [r]=vK st r:=rfl
@[go_sem] theorem ac1:Ag st []=some (.dX []):=rfl
@[go_sem] theorem aeY (r r' rs):Ag st (r::r'::rs)=(mC st (r::r'::rs)).map .dX:=rfl
def Ph:Option AV->Option (List AV)->Option (List AV)
 |some v,some vs=>some (v::vs)
 |_,_=>none
@[go_sem] theorem aan (v vs):Ph (some v) (some vs)=some (v::vs):=rfl
@[go_sem] theorem ac2:mC st []=some []:=rfl
@[go_sem] theorem aao (r rs):mC st (r::rs)=Ph (vK st r) (mC st rs):=by
 simp only[mC];cases vK st r<;>cases mC st rs<;>rfl
@[go_sem] theorem ah3 (n):vK ⟨L,T,H⟩ (.t n)=some (dZ L n):=rfl
def IT (H:List AO) (agg:Bool) (n:Nat):AV->Option AV
 | .ptr id o=>vw agg n (ly H (.ptr id o))
 |_=>none
@[go_sem] theorem ac3 (g n i o):IT H g n (.ptr i o)=vw g n (ly H (.ptr i o)):=rfl
@[go_sem] theorem ac4 (g n a):vK ⟨L,T,H⟩ (.cell g n a)=IT H g n (dZ L a):=by
 simp only[vK,IT];try (split <;>rename_i h<;>simp[h])
attribute [go_sem] Option.map_some List.drop_zero List.drop_succ_cons List.length_cons List.length_nil List.getElem?_cons_zero List.getElem?_cons_succ List.set_cons_zero List.set_cons_succ List.append_nil List.nil_append List.cons_append List.map_cons List.map_nil List.head?_cons
theorem ag (t:Bool) (h1:t=true->A st) (h2:t=false->B st):la (.p (.b t)) A B st:=by
 cases t
 ·exact⟨(fun h=>by cases h),fun _=>h2 rfl⟩
 ·exact⟨fun _=>h1 rfl,fun h=>(h rfl).elim⟩
end Go.AM
