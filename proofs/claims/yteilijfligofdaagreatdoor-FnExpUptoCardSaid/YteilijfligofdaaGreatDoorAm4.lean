/- The evaluation of the small code as equations for simp: each by unfolding. -/
import Derived.Test.YteilijfligofdaaGreatDoorAm3
set_option linter.all false
namespace Go.AM
variable {C:CallP} {Q:Ex->St->Prop} {K A B:St->Prop} {st:St} {d:MD} {L T:En} {H:List AO}
@[go_sem] theorem wpm_skip:wpm C .skip Q st=Q .nm st:=rfl
@[go_sem] theorem wpm_reg (os):wpm C (.reg os) Q st=runOps C os (regK (Q .nm)) st:=rfl
@[go_sem] theorem wpm_seq (a b):wpm C (.seq a b) Q st=wpm C a (thenK (wpm C b Q) Q) st:=rfl
@[go_sem] theorem wpm_cond (c a b):wpm C (.cond c a b) Q st=condK (st.get c) (wpm C a Q) (wpm C b Q) st:=rfl
@[go_sem] theorem wpm_blk (id b):wpm C (.blk id b) Q st=wpm C b (blkK id Q) st:=rfl
@[go_sem] theorem wpm_loop (b):wpm C (.loop b) Q st=loopK (wpm C b) Q st:=rfl
@[go_sem] theorem wpm_exit (id):wpm C (.exit id) Q st=Q (.ex id) st:=rfl
@[go_sem] theorem wpm_ret:wpm C .ret Q st=Q .rt st:=rfl
variable {J:PK} {Hm Hc:List AO}
@[go_sem] theorem wpm_drw (pre tail):wpm C (.drw pre tail) Q st=drwK C pre (runOps C tail (regK (Q .nm))) st:=rfl
@[go_sem] theorem preK_nil:preK C Hm [] J Hc st=J Hc st:=rfl
@[go_sem] theorem preK_cons (o os):preK C Hm (o :: os) J Hc st=preI C Hm Hc o (preK C Hm os J) st:=rfl
@[go_sem] theorem preI_none (o):preI C Hm Hc ⟨d,o,none⟩ J st=preU C Hm Hc o d J st:=rfl
@[go_sem] theorem preI_some (o x w):preI C Hm Hc ⟨d,o,some (x,w)⟩ J st=guardK (st.get x) w (preU C Hm Hc o d J) (skipK d (J Hc)) st:=rfl
@[go_sem] theorem reK_eq (N):reK Hc N J ⟨L,T,H⟩=J Hc ⟨L,T,N⟩:=rfl
@[go_sem] theorem endK_eq:endK K Hc ⟨L,T,H⟩=K ⟨L,T,Hc++H⟩:=rfl
@[go_sem] theorem effK_eq (N):effK Hm Hc N J ⟨L,T,H⟩=(H.length=Hc.length/\Hext Hm H/\J H ⟨L,T,N⟩):=rfl
@[go_sem] theorem nwK_some (o mk):nwK Hc (some o) mk d J ⟨L,T,H⟩=J Hc (St.put ⟨L,T,H++[o]⟩ d (mk (Hc.length+H.length))):=rfl
@[go_sem] theorem pu_call (f args):preU C Hm Hc (.call f args) d J st=pcallK C Hm Hc st.H f (gets st args) d J st:=rfl
@[go_sem] theorem pu_calv (x args):preU C Hm Hc (.calv x args) d J st=preC C Hm Hc (.calv x args) d J st:=rfl
@[go_sem] theorem pu_alloc (z):preU C Hm Hc (.alloc z) d J st=nwK Hc (some (.var z)) (fun id=>.ptr id 0) d J st:=rfl
@[go_sem] theorem pu_box (n x):preU C Hm Hc (.box n x) d J st=nwK Hc (if (st.get x).allOne && (st.get x).cells.length == n then some (.var (st.get x).cells) else none) (fun id=>.ptr id 0) d J st:=rfl
@[go_sem] theorem pu_bsl (sz z n ps):preU C Hm Hc (.bsl sz z n ps) d J st=nwK Hc ((rowsV st sz ps (List.replicate n z)).map fun rs=>.rows sz 0 rs) (fun id=>.gs id 0 0 n) d J st:=rfl
@[go_sem] theorem pu_mks (sz b z l c):preU C Hm Hc (.mks sz b z l c) d J st=mksN Hc sz b z (st.get l) (st.get c) d J st:=rfl
@[go_sem] theorem mksN_i (sz b z) (l c:Int):mksN Hc sz b z (.p (.i .i64 l)) (.p (.i .i64 c)) d J st=(0<=l/\l<=c/\c * b<=140737488355328/\c<=140737488355328/\nwK Hc (some (.rows sz 0 (List.replicate l.toNat z))) (fun id=>.gs id 0 0 l.toNat) d J st):=rfl
@[go_sem] theorem pu_app (s b x y):preU C Hm Hc (.app s b x y) d J ⟨L,T,H⟩=stepU C (.app s b x y) d (effK Hm Hc H J) ⟨L,T,Hc⟩:=rfl
@[go_sem] theorem pu_appn_tt (s b i j):preU C Hm Hc (.appn s b (.t i) (.t j)) d J ⟨L,T,H⟩=appnY Hm Hc s b (eget T i) (srcN Hm Hc H s (eget T j)) d J ⟨L,T,H⟩:=rfl
@[go_sem] theorem pu_appn_tl (s b i j):preU C Hm Hc (.appn s b (.t i) (.l j)) d J ⟨L,T,H⟩=appnY Hm Hc s b (eget T i) (srcN Hm Hc H s (eget L j)) d J ⟨L,T,H⟩:=rfl
@[go_sem] theorem pu_appn_lt (s b i j):preU C Hm Hc (.appn s b (.l i) (.t j)) d J ⟨L,T,H⟩=appnY Hm Hc s b (eget L i) (srcN Hm Hc H s (eget T j)) d J ⟨L,T,H⟩:=rfl
@[go_sem] theorem pu_appn_ll (s b i j):preU C Hm Hc (.appn s b (.l i) (.l j)) d J ⟨L,T,H⟩=appnY Hm Hc s b (eget L i) (srcN Hm Hc H s (eget L j)) d J ⟨L,T,H⟩:=rfl
@[go_sem] theorem srcN_at (N s k v o n):srcN Hm Hc N s (.gs (Hc.length+k) v o n)=srcR s v o n N[k]?:=by
 unfold srcN
 simp only [Nat.le_add_right,if_true,Nat.add_sub_cancel_left]
@[go_sem] theorem srcN_at0 (N s v o n):srcN Hm Hc N s (.gs Hc.length v o n)=srcR s v o n N[0]?:=srcN_at N s 0 v o n
@[go_sem] theorem srcN_l (N s ys):srcN Hm Hc N s (.p (.l ys))=some (ys.map (·.map .p)):=rfl
@[go_sem] theorem srcN_nl (N s):srcN Hm Hc N s (.p .nl)=some []:=rfl
@[go_sem] theorem appnY_some (s b x ys):appnY Hm Hc s b x (some ys) d J ⟨L,T,H⟩=appnR Hm Hc s b x ys d J ⟨L,T,H⟩:=rfl
@[go_sem] theorem pu_ston_t (n i y):preU C Hm Hc (.ston n (.t i) y) d J ⟨L,T,H⟩=stonK Hc n (eget T i) (St.get ⟨L,T,H⟩ y) d J ⟨L,T,H⟩:=rfl
@[go_sem] theorem pu_ston_l (n i y):preU C Hm Hc (.ston n (.l i) y) d J ⟨L,T,H⟩=stonK Hc n (eget L i) (St.get ⟨L,T,H⟩ y) d J ⟨L,T,H⟩:=rfl
@[go_sem] theorem pu_sto (n x y):preU C Hm Hc (.sto n x y) d J ⟨L,T,H⟩=stepU C (.sto n x y) d (effK Hm Hc H J) ⟨L,T,Hc⟩:=rfl
@[go_sem] theorem pu_mv (x):preU C Hm Hc (.mv x) d J ⟨L,T,H⟩=stepU C (.mv x) d (reK Hc H J) ⟨L,T,Hm⟩:=rfl
@[go_sem] theorem pu_pick (x y z):preU C Hm Hc (.pick x y z) d J ⟨L,T,H⟩=stepU C (.pick x y z) d (reK Hc H J) ⟨L,T,Hm⟩:=rfl
@[go_sem] theorem pu_build (x y):preU C Hm Hc (.build x y) d J ⟨L,T,H⟩=stepU C (.build x y) d (reK Hc H J) ⟨L,T,Hm⟩:=rfl
@[go_sem] theorem pu_ld (x y z):preU C Hm Hc (.ld x y z) d J ⟨L,T,H⟩=stepU C (.ld x y z) d (reK Hc H J) ⟨L,T,Hm⟩:=rfl
@[go_sem] theorem pu_nilc (x):preU C Hm Hc (.nilc x) d J ⟨L,T,H⟩=stepU C (.nilc x) d (reK Hc H J) ⟨L,T,Hm⟩:=rfl
@[go_sem] theorem pu_bin (x y z):preU C Hm Hc (.bin x y z) d J ⟨L,T,H⟩=stepU C (.bin x y z) d (reK Hc H J) ⟨L,T,Hm⟩:=rfl
@[go_sem] theorem pu_un (x y):preU C Hm Hc (.un x y) d J ⟨L,T,H⟩=stepU C (.un x y) d (reK Hc H J) ⟨L,T,Hm⟩:=rfl
@[go_sem] theorem pu_conv (x y):preU C Hm Hc (.conv x y) d J ⟨L,T,H⟩=stepU C (.conv x y) d (reK Hc H J) ⟨L,T,Hm⟩:=rfl
@[go_sem] theorem pu_b2sn_t (i):preU C Hm Hc (.b2sn (.t i)) d J ⟨L,T,H⟩=rdnX Hc (eget T i) d J ⟨L,T,H⟩:=rfl
@[go_sem] theorem pu_b2sn_l (i):preU C Hm Hc (.b2sn (.l i)) d J ⟨L,T,H⟩=rdnX Hc (eget L i) d J ⟨L,T,H⟩:=rfl
@[go_sem] theorem rdnX_at (k v o n):rdnX Hc (.gs (Hc.length+k) v o n) d J ⟨L,T,H⟩=withV (b2sR (srcR 1 v o n H[k]?)) d (J Hc) ⟨L,T,H⟩:=by
 unfold rdnX
 simp only [Nat.le_add_right,true_and,Nat.add_sub_cancel_left]
@[go_sem] theorem rdnX_at0 (v o n):rdnX Hc (.gs Hc.length v o n) d J ⟨L,T,H⟩=withV (b2sR (srcR 1 v o n H[0]?)) d (J Hc) ⟨L,T,H⟩:=rdnX_at 0 v o n
@[go_sem] theorem pu_b2s (x):preU C Hm Hc (.b2s x) d J ⟨L,T,H⟩=stepU C (.b2s x) d (reK Hc H J) ⟨L,T,Hm⟩:=rfl
@[go_sem] theorem pu_mkf (x y):preU C Hm Hc (.mkf x y) d J ⟨L,T,H⟩=stepU C (.mkf x y) d (reK Hc H J) ⟨L,T,Hm⟩:=rfl
@[go_sem] theorem pu_slc (x y z u):preU C Hm Hc (.slc x y z u) d J ⟨L,T,H⟩=stepU C (.slc x y z u) d (reK Hc H J) ⟨L,T,Hm⟩:=rfl
@[go_sem] theorem pu_fad (x y):preU C Hm Hc (.fad x y) d J ⟨L,T,H⟩=stepU C (.fad x y) d (reK Hc H J) ⟨L,T,Hm⟩:=rfl
@[go_sem] theorem pu_fld (x y z u):preU C Hm Hc (.fld x y z u) d J ⟨L,T,H⟩=stepU C (.fld x y z u) d (reK Hc H J) ⟨L,T,Hm⟩:=rfl
@[go_sem] theorem pu_ixs (x y z):preU C Hm Hc (.ixs x y z) d J ⟨L,T,H⟩=stepU C (.ixs x y z) d (reK Hc H J) ⟨L,T,Hm⟩:=rfl
@[go_sem] theorem pu_ixa (x y z u):preU C Hm Hc (.ixa x y z u) d J ⟨L,T,H⟩=stepU C (.ixa x y z u) d (reK Hc H J) ⟨L,T,Hm⟩:=rfl
@[go_sem] theorem pu_ixt (x y):preU C Hm Hc (.ixt x y) d J ⟨L,T,H⟩=stepU C (.ixt x y) d (reK Hc H J) ⟨L,T,Hm⟩:=rfl
@[go_sem] theorem pu_ext (x y):preU C Hm Hc (.ext x y) d J ⟨L,T,H⟩=stepU C (.ext x y) d (reK Hc H J) ⟨L,T,Hm⟩:=rfl
@[go_sem] theorem pu_lenq (x y):preU C Hm Hc (.lenq x y) d J ⟨L,T,H⟩=stepU C (.lenq x y) d (reK Hc H J) ⟨L,T,Hm⟩:=rfl
@[go_sem] theorem pu_cap (x):preU C Hm Hc (.cap x) d J ⟨L,T,H⟩=stepU C (.cap x) d (reK Hc H J) ⟨L,T,Hm⟩:=rfl
@[go_sem] theorem pu_mnx (x y z):preU C Hm Hc (.mnx x y z) d J ⟨L,T,H⟩=stepU C (.mnx x y z) d (reK Hc H J) ⟨L,T,Hm⟩:=rfl
@[go_sem] theorem pu_nii (x y):preU C Hm Hc (.nii x y) d J ⟨L,T,H⟩=stepU C (.nii x y) d (reK Hc H J) ⟨L,T,Hm⟩:=rfl
@[go_sem] theorem pu_sq (n x y z):preU C Hm Hc (.sq x n y z) d J ⟨L,T,H⟩=stepU C (.sq x n y z) d (reK Hc H J) ⟨L,T,Hm⟩:=rfl
@[go_sem] theorem pu_nilq (x y z):preU C Hm Hc (.nilq x y z) d J ⟨L,T,H⟩=stepU C (.nilq x y z) d (reK Hc H J) ⟨L,T,Hm⟩:=rfl
@[go_sem] theorem pu_beq (x y z):preU C Hm Hc (.beq x y z) d J ⟨L,T,H⟩=stepU C (.beq x y z) d (reK Hc H J) ⟨L,T,Hm⟩:=rfl
theorem Hext.refl (H:List AO):Hext H H:=fun _ _ h _=>h
theorem drw_same {pre:List MI} (h:preK C H pre (endK K) H ⟨L,T,[]⟩):drwK C pre K ⟨L,T,H⟩:=⟨H,Hext.refl H,h⟩
theorem pcall_pure {f:Nat} {xs:List AV} {r:AV} (h:∀ A,C f xs (Hc++A) (pureQ r (Hc++A))) (hm:Hext Hm Hc) (k:J Hc (st.put d r)) {N:List AO}:pcallK C Hm Hc N f xs d J st:=.inl ⟨r,Hc,rfl,hm,fun A _=>h A,k⟩
theorem pcall_chain {f:Nat} {xs:List AV} (r:AV) (Hc':List AO) (hl:Hc'.length=Hc.length) (hm:Hext Hm Hc') (h:∀ A,C f xs (Hc++A) (pureQ r (Hc'++A))) (k:J Hc' (st.put d r)) {N:List AO}:pcallK C Hm Hc N f xs d J st:=.inl ⟨r,Hc',hl,hm,fun A _=>h A,k⟩
@[go_sem] theorem su_lenq (s x):stepU C (.lenq s x) d K st=withV (lenqV s (st.get x)) d K st:=rfl
@[go_sem] theorem lenqV_l (xs):lenqV false (.p (.l xs))=some (.p (.i .i64 xs.length)):=rfl
@[go_sem] theorem lenqV_nl:lenqV false (.p .nl)=some (.p (.i .i64 0)):=rfl
@[go_sem] theorem lenqV_s (x):lenqV true (.p (.s x))=some (.p (.i .i64 x.length)):=rfl
@[go_sem] theorem lenqV_gs (i v o n):lenqV false (.gs i v o n)=some (.p (.i .i64 n)):=rfl
@[go_sem] theorem thenK_nm:thenK K Q .nm st=K st:=rfl
@[go_sem] theorem thenK_ex (i):thenK K Q (.ex i) st=Q (.ex i) st:=rfl
@[go_sem] theorem thenK_rt:thenK K Q .rt st=Q .rt st:=rfl
@[go_sem] theorem blkK_nm (i):blkK i Q .nm st=Q .nm st:=rfl
@[go_sem] theorem blkK_rt (i):blkK i Q .rt st=Q .rt st:=rfl
@[go_sem] theorem blkK_ex (i j):blkK i Q (.ex j) st=if j=i then Q .nm st else Q (.ex j) st:=rfl
@[go_sem] theorem regK_eq:regK K ⟨L,T,H⟩=K ⟨L,[],H⟩:=rfl
@[go_sem] theorem runOps_nil:runOps C [] K st=K st:=rfl
@[go_sem] theorem runOps_cons (o os):runOps C (o :: os) K st=stepI C o (runOps C os K) st:=rfl
@[go_sem] theorem stepI_none (o):stepI C ⟨d,o,none⟩ K st=stepU C o d K st:=rfl
@[go_sem] theorem stepI_some (o x w):stepI C ⟨d,o,some (x,w)⟩ K st=guardK (st.get x) w (stepU C o d K) (skipK d K) st:=rfl
@[go_sem] theorem guardK_t (c):guardK (.p (.b c)) true A B st=condK (.p (.b c)) A B st:=rfl
@[go_sem] theorem guardK_f (c):guardK (.p (.b c)) false A B st=condK (.p (.b c)) B A st:=rfl
@[go_sem] theorem guardK_u (w):guardK (.tup []) w A B st=B st:=by cases w <;> rfl
@[go_sem] theorem skipK_eq:skipK d K st=K (st.put d (.tup [])):=rfl
theorem guardK_inv {v:AV} {w:Bool} (h:guardK v w A B st):(v=.tup []/\B st)\/∃ b,v=.p (.b b)/\(b=w->A st)/\(b≠w->B st):=by
 unfold guardK at h
 split at h
 ·exact .inl ⟨rfl,h⟩
 ·unfold condK at h
  split at h
  ·rename_i b _; exact .inr ⟨b,rfl,h.1,fun hb=>h.2 hb⟩
  ·exact h.elim
 ·unfold condK at h
  split at h
  ·rename_i b _; exact .inr ⟨b,rfl,fun hb=>h.2 (by simp [hb]),fun hb=>h.1 (by cases b with | true=>rfl | false=>exact (hb rfl).elim)⟩
  ·exact h.elim
@[go_sem] theorem condK_t:condK (.p (.b true)) A B st=A st:=by simp [condK,splitK]
@[go_sem] theorem condK_f:condK (.p (.b false)) A B st=B st:=by simp [condK,splitK]
@[go_sem] theorem get_t (n):St.get ⟨L,T,H⟩ (.t n)=eget T n:=rfl
@[go_sem] theorem get_l (n):St.get ⟨L,T,H⟩ (.l n)=eget L n:=rfl
@[go_sem] theorem get_c (v):St.get st (.c v)=v:=rfl
@[go_sem] theorem put_no (v):St.put st .no v=st:=rfl
@[go_sem] theorem put_t (n v):St.put ⟨L,T,H⟩ (.t n) v=⟨L,(n,v) :: T,H⟩:=rfl
@[go_sem] theorem put_l (n v):St.put ⟨L,T,H⟩ (.l n) v=⟨eset L n v,T,H⟩:=rfl
@[go_sem] theorem eget_cons (k v t) (e:En):eget ((k,v) :: e) t=if k=t then v else eget e t:=rfl
@[go_sem] theorem eset_nil (t v):eset [] t v=[(t,v)]:=rfl
@[go_sem] theorem eset_cons (k u t v) (e:En):eset ((k,u) :: e) t v=if k=t then (t,v) :: e else (k,u) :: eset e t v:=rfl
@[go_sem] theorem lmem_nil (k):lmem [] k=false:=rfl
@[go_sem] theorem lmem_cons (x xs k):lmem (x :: xs) k=if x=k then true else lmem xs k:=rfl
@[go_sem] theorem ekeep_nil (lv):ekeep lv []=[]:=rfl
@[go_sem] theorem ekeep_cons (lv k v) (e:En):ekeep lv ((k,v) :: e)=if lmem lv k=true then (k,v) :: ekeep lv e else ekeep lv e:=rfl
@[go_sem] theorem gets_nil:gets st []=[]:=rfl
@[go_sem] theorem gets_cons (x xs):gets st (x :: xs)=st.get x :: gets st xs:=rfl
@[go_sem] theorem argEnv_nil (i):argEnv i []=[]:=rfl
@[go_sem] theorem argEnv_cons (i a as):argEnv i (a :: as)=(i,a) :: argEnv (i+1) as:=rfl
@[go_sem] theorem withV_some (v):withV (some v) d K st=K (st.put d v):=rfl
@[go_sem] theorem withH_some (h):withH (some h) d K ⟨L,T,H⟩=K (St.put ⟨L,T,h⟩ d .any):=rfl
@[go_sem] theorem newK_some (o mk):newK (some o) mk d K ⟨L,T,H⟩=K (St.put ⟨L,T,H++[o]⟩ d (mk H.length)):=rfl
@[go_sem] theorem callK_eq (r h):callK d K ⟨L,T,H⟩ r h=K (St.put ⟨L,T,h⟩ d r):=rfl
@[go_sem] theorem su_mv (x):stepU C (.mv x) d K st=K (st.put d (st.get x)):=rfl
@[go_sem] theorem su_pick (c x y):stepU C (.pick c x y) d K st=withV (pickV (st.get c) (st.get x) (st.get y)) d K st:=rfl
@[go_sem] theorem su_alloc (z):stepU C (.alloc z) d K st=newK (some (.var z)) (fun id=>.ptr id 0) d K st:=rfl
@[go_sem] theorem su_box (n x):stepU C (.box n x) d K st=newK (if (st.get x).allOne && (st.get x).cells.length == n then some (.var (st.get x).cells) else none) (fun id=>.ptr id 0) d K st:=rfl
@[go_sem] theorem su_build (z ps):stepU C (.build z ps) d K st=withV (buildV st z ps) d K st:=rfl
@[go_sem] theorem su_bsl (sz z n ps):stepU C (.bsl sz z n ps) d K st=newK ((rowsV st sz ps (List.replicate n z)).map fun rs=>.rows sz 0 rs) (fun id=>.gs id 0 0 n) d K st:=rfl
@[go_sem] theorem su_ld (g n x):stepU C (.ld g n x) d K ⟨L,T,H⟩=withV (ldV g n (ldAt H (St.get ⟨L,T,H⟩ x))) d K ⟨L,T,H⟩:=rfl
@[go_sem] theorem su_sto (n x v):stepU C (.sto n x v) d K ⟨L,T,H⟩=withH (stoH H n (St.get ⟨L,T,H⟩ x) (St.get ⟨L,T,H⟩ v)) d K ⟨L,T,H⟩:=rfl
@[go_sem] theorem su_nilc (x):stepU C (.nilc x) d K st=withV (nilcV (st.get x)) d K st:=rfl
@[go_sem] theorem su_bin (op x y):stepU C (.bin op x y) d K st=binK op (st.get x) (st.get y) d K st:=rfl
@[go_sem] theorem su_un (op x):stepU C (.un op x) d K st=withV (eun op (st.get x)) d K st:=rfl
@[go_sem] theorem su_conv (k x):stepU C (.conv k x) d K st=withV (convV k (st.get x)) d K st:=rfl
@[go_sem] theorem su_b2s (x):stepU C (.b2s x) d K ⟨L,T,H⟩=withV (b2sV H (St.get ⟨L,T,H⟩ x)) d K ⟨L,T,H⟩:=rfl
@[go_sem] theorem su_mkf (f cs):stepU C (.mkf f cs) d K st=K (st.put d (.clo f (gets st cs))):=rfl
@[go_sem] theorem su_mks (sz b z l c):stepU C (.mks sz b z l c) d K st=mksK sz b z (st.get l) (st.get c) d K st:=rfl
@[go_sem] theorem su_slc_nn (k x):stepU C (.slc k x none none) d K st=slcK k (st.get x) none none d K st:=rfl
@[go_sem] theorem su_slc_ns (k x y):stepU C (.slc k x none (some y)) d K st=slcK k (st.get x) none (some (st.get y)) d K st:=rfl
@[go_sem] theorem su_slc_sn (k x y):stepU C (.slc k x (some y) none) d K st=slcK k (st.get x) (some (st.get y)) none d K st:=rfl
@[go_sem] theorem su_slc_ss (k x y z):stepU C (.slc k x (some y) (some z)) d K st=slcK k (st.get x) (some (st.get y)) (some (st.get z)) d K st:=rfl
@[go_sem] theorem su_fad (o x):stepU C (.fad o x) d K st=withV (fadV o (st.get x)) d K st:=rfl
def fldV (g:Bool) (o n:Nat):AV->Option AV
 | .st cs=>ldV g n (some (cs.drop o))
 | _=>none
@[go_sem] theorem fldV_st (g o n cs):fldV g o n (.st cs)=ldV g n (some (cs.drop o)):=rfl
@[go_sem] theorem su_fld (g o n x):stepU C (.fld g o n x) d K st=withV (fldV g o n (st.get x)) d K st:=by
 show withV _ d K st=withV _ d K st
 congr 1
@[go_sem] theorem su_ixs (sz x i):stepU C (.ixs sz x i) d K st=ixsK sz (st.get x) (st.get i) d K st:=rfl
@[go_sem] theorem su_ixa (l sz x i):stepU C (.ixa l sz x i) d K st=ixaK l sz (st.get x) (st.get i) d K st:=rfl
@[go_sem] theorem su_ixt (x i):stepU C (.ixt x i) d K st=ixtK (st.get x) (st.get i) d K st:=rfl
@[go_sem] theorem su_ext (x n):stepU C (.ext x n) d K st=withV (extV n (st.get x)) d K st:=rfl
@[go_sem] theorem su_call (f as):stepU C (.call f as) d K ⟨L,T,H⟩=C f (gets ⟨L,T,H⟩ as) H (callK d K ⟨L,T,H⟩):=rfl
@[go_sem] theorem su_calv (x as):stepU C (.calv x as) d K st=calvK C (st.get x) (gets st as) d K st:=rfl
@[go_sem] theorem calvK_eq (f cs as):calvK C (.clo f cs) as d K ⟨L,T,H⟩=C f (as++cs) H (callK d K ⟨L,T,H⟩):=rfl
@[go_sem] theorem su_app (sz b x y):stepU C (.app sz b x y) d K st=appK sz b (st.get x) (st.get y) d K st:=rfl
@[go_sem] theorem su_len (s x):stepU C (.len s x) d K st=lenK s (st.get x) d K st:=rfl
@[go_sem] theorem su_appz (sz b x n):stepU C (.appz sz b x n) d K st=appzK sz b (st.get x) (st.get n) d K st:=rfl
@[go_sem] theorem appzK_nl (sz b) (k:Int):appzK sz b (.p .nl) (.p (.i .i64 k)) d K st=(0<k/\k * b<=140737488355328/\k<=140737488355328/\K (St.put ⟨st.L,st.T,st.H++[.rows sz 0 []]⟩ d (.gs st.H.length 0 0 k.toNat))):=rfl
@[go_sem] theorem su_cap (x):stepU C (.cap x) d K st=withV (capV (st.get x)) d K st:=rfl
@[go_sem] theorem capV_nl:capV (.p .nl)=some (.p (.i .i64 0)):=rfl
@[go_sem] theorem su_mnx (m x y):stepU C (.mnx m x y) d K st=withV (mnxV m (st.get x) (st.get y)) d K st:=rfl
@[go_sem] theorem su_nii (m x):stepU C (.nii m x) d K st=withV (niiV m (st.get x)) d K st:=rfl
@[go_sem] theorem niiV_ni (ne):niiV ne (.p .ni)=some (.p (.b (!ne))):=rfl
@[go_sem] theorem niiV_er (ne):niiV ne (.p .er)=some (.p (.b ne)):=rfl
@[go_sem] theorem su_sq (m n x y):stepU C (.sq m n x y) d K st=withV (sqV m n (st.get x) (st.get y)) d K st:=rfl
@[go_sem] theorem su_nilq (s m x):stepU C (.nilq s m x) d K st=nilqK s m (st.get x) d K st:=rfl
@[go_sem] theorem su_beq (m x y):stepU C (.beq m x y) d K st=withV (beqV m (st.get x) (st.get y)) d K st:=rfl
@[go_sem] theorem su_stop:stepU C .stop d K st=False:=rfl
@[go_sem] theorem slcK_l (sz xs lo hi):slcK (some sz) (.p (.l xs)) lo hi d K st=((∀ r∈xs,r.length=sz)/\bndK lo hi xs.length fun a b=>K (st.put d (.p (.l ((xs.drop a).take (b - a)))))):=rfl
@[go_sem] theorem slcK_s (x lo hi):slcK none (.p (.s x)) lo hi d K st=(bndK lo hi x.length fun a b=>K (st.put d (.p (.s ((x.drop a).take (b - a)))))):=rfl
@[go_sem] theorem slcK_nl (sz lo hi):slcK (some sz) (.p .nl) lo hi d K st=(bndK lo hi 0 fun _ _=>K (st.put d (.p .nl))):=rfl
@[go_sem] theorem slcK_gs (sz i v o n lo hi):slcK (some sz) (.gs i v o n) lo hi d K ⟨L,T,H⟩=slcR sz i v o n lo hi d K ⟨L,T,H⟩ H[i]?:=rfl
@[go_sem] theorem slcR_some (sz i v o n lo hi sz' v' rs):slcR sz i v o n lo hi d K st (some (.rows sz' v' rs))=(sz'=sz/\v'=v/\bndK lo hi n fun a b=>K (st.put d (.gs i v (o+a) (b - a)))):=rfl
@[go_sem] theorem bndK_nn (n) (R:Nat->Nat->Prop):bndK none none n R=R 0 n:=rfl
@[go_sem] theorem bndK_sn (k a n) (R:Nat->Nat->Prop):bndK (some (.p (.i k a))) none n R=(0<=a/\a<=(n:Int)/\R a.toNat n):=rfl
@[go_sem] theorem bndK_ns (k b n) (R:Nat->Nat->Prop):bndK none (some (.p (.i k b))) n R=(0<=b/\b<=(n:Int)/\R 0 b.toNat):=rfl
@[go_sem] theorem bndK_ss (k a k' b n) (R:Nat->Nat->Prop):bndK (some (.p (.i k a))) (some (.p (.i k' b))) n R=(0<=a/\a<=b/\b<=(n:Int)/\R a.toNat b.toNat):=rfl
@[go_sem] theorem appK_eq (sz b x y):appK sz b x y d K ⟨L,T,H⟩=appY sz b x (srcRows H sz y) d K ⟨L,T,H⟩:=rfl
@[go_sem] theorem appY_some (sz b x ys):appY sz b x (some ys) d K st=((∀ r∈ys,r.length=sz)/\appX sz b x ys d K st):=rfl
@[go_sem] theorem appX_nl (sz b ys):appX sz b (.p .nl) ys d K ⟨L,T,H⟩=(ys.length * b<=140737488355328/\ys.length<=140737488355328/\K (St.put ⟨L,T,H++[.rows sz 0 ys]⟩ d (.gs H.length 0 0 ys.length))):=rfl
@[go_sem] theorem appX_gs (sz b i v o n ys):appX sz b (.gs i v o n) ys d K ⟨L,T,H⟩=appR sz b i v o n ys d K ⟨L,T,H⟩ H[i]?:=rfl
@[go_sem] theorem appR_some (sz b i v o n ys sz' v' rs):appR sz b i v o n ys d K ⟨L,T,H⟩ (some (.rows sz' v' rs))=(sz'=sz/\v'=v/\o=0/\n<=rs.length/\(n+ys.length) * b<=140737488355328/\n+ys.length<=140737488355328 /\
  K (St.put ⟨L,T,H.set i (.rows sz (v+1) (rs.take n++ys))⟩ d (.gs i (v+1) 0 (n+ys.length)))):=rfl
@[go_sem] theorem srcRows_l (sz ys):srcRows H sz (.p (.l ys))=some (ys.map (·.map .p)):=rfl
@[go_sem] theorem srcRows_nl (sz):srcRows H sz (.p .nl)=some []:=rfl
@[go_sem] theorem srcRows_s (x):srcRows H 1 (.p (.s x))=some (bytesRows x):=rfl
@[go_sem] theorem srcRows_gs (sz i v o n):srcRows H sz (.gs i v o n)=srcR sz v o n H[i]?:=rfl
@[go_sem] theorem srcR_some (sz v o n sz' v' rs):srcR sz v o n (some (.rows sz' v' rs))=if sz'=sz/\v'=v/\o+n<=rs.length then some ((rs.drop o).take n) else none:=rfl
@[go_sem] theorem b2sV_l (ys):b2sV H (.p (.l ys))=b2sR (srcRows H 1 (.p (.l ys))):=rfl
@[go_sem] theorem b2sV_nl:b2sV H (.p .nl)=some (.p (.s [])):=rfl
@[go_sem] theorem b2sV_gs (i v o n):b2sV H (.gs i v o n)=b2sR (srcRows H 1 (.gs i v o n)):=rfl
@[go_sem] theorem b2sR_some (ys):b2sR (some ys)=if ys.length<=140737488355328 then (bytesOf ys).map fun l=>.p (.s l) else none:=rfl
@[go_sem] theorem mksK_eq (sz b z l c):mksK sz b z (.p (.i .i64 l)) (.p (.i .i64 c)) d K ⟨L,T,H⟩=(0<=l/\l<=c/\c * b<=140737488355328/\c<=140737488355328 /\
   K (St.put ⟨L,T,H++[.rows sz 0 (List.replicate l.toNat z)]⟩ d (.gs H.length 0 0 l.toNat))):=rfl
@[go_sem] theorem ixsK_l (sz xs k n):ixsK sz (.p (.l xs)) (.p (.i k n)) d K st=(0<=n/\∃ r,xs[n.toNat]?=some r/\r.length=sz/\K (st.put d (.ip r))):=rfl
def ixsR (sz id ver off:Nat) (n:Int) (d:MD) (K:St->Prop) (st:St):Option AO->Prop
 | some (.rows sz' ver' rs)=>sz'=sz/\ver'=ver/\K (st.put d (.ep id ver (off+n.toNat) 0))
 | _=>False
@[go_sem] theorem ixsR_some (sz i v o n sz' v' rs):ixsR sz i v o n d K st (some (.rows sz' v' rs))=(sz'=sz/\v'=v/\K (st.put d (.ep i v (o+n.toNat) 0))):=rfl
@[go_sem] theorem ixsK_gs (sz i v o m k n):ixsK sz (.gs i v o m) (.p (.i k n)) d K ⟨L,T,H⟩=(0<=n/\n<(m:Int)/\ixsR sz i v o n d K ⟨L,T,H⟩ H[i]?):=by
 simp only [ixsK]
 cases H[i]? with
 | none=>rfl
 | some o=>cases o <;> rfl
@[go_sem] theorem ixaK_ptr (len sz i o k n):ixaK len sz (.ptr i o) (.p (.i k n)) d K st=(0<=n/\n<(len:Int)/\K (st.put d (.ptr i (o+n.toNat * sz)))):=rfl
@[go_sem] theorem ixtK_s (x k n):ixtK (.p (.s x)) (.p (.i k n)) d K st=(0<=n/\∃ c,x[n.toNat]?=some c/\K (st.put d (.p (.i .u8 c.toNat)))):=rfl
@[go_sem] theorem buildV_eq (z ps):buildV st z ps=(partsV st ps z).map .st:=rfl
@[go_sem] theorem partsV_nil (z):partsV st [] z=some z:=rfl
@[go_sem] theorem partsV_cons (o n x ps z):partsV st ((o,n,x) :: ps) z=if (st.get x).allOne && (st.get x).cells.length == n then (splice z o (st.get x).cells).bind (partsV st ps) else none:=rfl
@[go_sem] theorem rowsV_nil (sz rs):rowsV st sz [] rs=some rs:=rfl
@[go_sem] theorem rowsV_cons (sz i x ps rs):rowsV st sz ((i,x) :: ps) rs=if (st.get x).allOne && (st.get x).cells.length == sz && decide (i<rs.length) then rowsV st sz ps (rs.set i (st.get x).cells) else none:=rfl
@[go_sem] theorem lenK_l (xs):lenK false (.p (.l xs)) d K st=(xs.length<=maxL->K (st.put d (.p (.i .i64 xs.length)))):=rfl
@[go_sem] theorem lenK_nl:lenK false (.p .nl) d K st=K (st.put d (.p (.i .i64 0))):=rfl
@[go_sem] theorem lenK_s (x):lenK true (.p (.s x)) d K st=(x.length<=maxL->K (st.put d (.p (.i .i64 x.length)))):=rfl
@[go_sem] theorem lenK_gs (i v o n):lenK false (.gs i v o n) d K st=(n<=maxL->K (st.put d (.p (.i .i64 n)))):=rfl
@[go_sem] theorem bk_add (k a b):binK .add (.p (.i k a)) (.p (.i k b)) d K st=K (st.put d (.p (.i k (wr k (a+b))))):=by simp [binK,ebin,iarith,withV]
@[go_sem] theorem bk_sub (k a b):binK .sub (.p (.i k a)) (.p (.i k b)) d K st=K (st.put d (.p (.i k (wr k (a - b))))):=by simp [binK,ebin,iarith,withV]
@[go_sem] theorem bk_mul (k a b):binK .mul (.p (.i k a)) (.p (.i k b)) d K st=K (st.put d (.p (.i k (wr k (a * b))))):=by simp [binK,ebin,iarith,withV]
@[go_sem] theorem bk_and (k a b):binK .and (.p (.i k a)) (.p (.i k b)) d K st=K (st.put d (.p (.i k (ibits .and k a b)))):=by simp [binK,ebin,iarith,withV]
@[go_sem] theorem bk_or (k a b):binK .or (.p (.i k a)) (.p (.i k b)) d K st=K (st.put d (.p (.i k (ibits .or k a b)))):=by simp [binK,ebin,iarith,withV]
@[go_sem] theorem bk_xor (k a b):binK .xor (.p (.i k a)) (.p (.i k b)) d K st=K (st.put d (.p (.i k (ibits .xor k a b)))):=by simp [binK,ebin,iarith,withV]
@[go_sem] theorem bk_andNot (k a b):binK .andNot (.p (.i k a)) (.p (.i k b)) d K st=K (st.put d (.p (.i k (ibits .andNot k a b)))):=by simp [binK,ebin,iarith,withV]
@[go_sem] theorem bk_eql (k a b):binK .eql (.p (.i k a)) (.p (.i k b)) d K st=K (st.put d (.p (.b (decide (a=b))))):=by simp [binK,ebin,iarith,bcmp,withV]
@[go_sem] theorem bk_neq (k a b):binK .neq (.p (.i k a)) (.p (.i k b)) d K st=K (st.put d (.p (.b (!decide (a=b))))):=by simp [binK,ebin,iarith,bcmp,withV]
@[go_sem] theorem bk_lss (k a b):binK .lss (.p (.i k a)) (.p (.i k b)) d K st=K (st.put d (.p (.b (decide (a<b))))):=by simp [binK,ebin,iarith,bcmp,withV]
@[go_sem] theorem bk_leq (k a b):binK .leq (.p (.i k a)) (.p (.i k b)) d K st=K (st.put d (.p (.b (decide (a<=b))))):=by simp [binK,ebin,iarith,bcmp,withV]
@[go_sem] theorem bk_gtr (k a b):binK .gtr (.p (.i k a)) (.p (.i k b)) d K st=K (st.put d (.p (.b (decide (b<a))))):=by simp [binK,ebin,iarith,bcmp,withV]
@[go_sem] theorem bk_geq (k a b):binK .geq (.p (.i k a)) (.p (.i k b)) d K st=K (st.put d (.p (.b (decide (b<=a))))):=by simp [binK,ebin,iarith,bcmp,withV]
@[go_sem] theorem bk_quo (k a b):binK .quo (.p (.i k a)) (.p (.i k b)) d K st=(b≠0/\K (st.put d (.p (.i k (wr k (a.tdiv b)))))):=by simp [binK,bin2K,ebin,iarith,bcmp]
@[go_sem] theorem bk_rem (k a b):binK .rem (.p (.i k a)) (.p (.i k b)) d K st=(b≠0/\K (st.put d (.p (.i k (a.tmod b))))):=by simp [binK,bin2K,ebin,iarith,bcmp]
@[go_sem] theorem bk_shl (k k' a b):binK .shl (.p (.i k a)) (.p (.i k' b)) d K st=(0<=b/\K (st.put d (.p (.i k (wr k (a * 2 ^ min b.toNat k.bits)))))):=by
 by_cases h:k=k' <;> simp [binK,bin2K,ebin,iarith,h]
@[go_sem] theorem bk_shr (k k' a b):binK .shr (.p (.i k a)) (.p (.i k' b)) d K st=(0<=b/\K (st.put d (.p (.i k (a.fdiv (2 ^ min b.toNat k.bits)))))):=by
 by_cases h:k=k' <;> simp [binK,bin2K,ebin,iarith,h]
@[go_sem] theorem bk_cat (a b):binK .add (.p (.s a)) (.p (.s b)) d K st=(a.length+b.length<=maxL/\K (st.put d (.p (.s (a++b))))):=rfl
@[go_sem] theorem bk_seql (a b):binK .eql (.p (.s a)) (.p (.s b)) d K st=K (st.put d (.p (.b (decide (a=b))))):=by simp [binK,ebin,seqs,withV]
@[go_sem] theorem bk_sneq (a b):binK .neq (.p (.s a)) (.p (.s b)) d K st=K (st.put d (.p (.b (!decide (a=b))))):=by simp [binK,ebin,seqs,withV]
@[go_sem] theorem bk_slss (a b):binK .lss (.p (.s a)) (.p (.s b)) d K st=K (st.put d (.p (.b (slt a b)))):=by simp [binK,ebin,seqs,withV]
@[go_sem] theorem bk_sleq (a b):binK .leq (.p (.s a)) (.p (.s b)) d K st=K (st.put d (.p (.b (slt a b || decide (a=b))))):=by simp [binK,ebin,seqs,withV]
@[go_sem] theorem bk_sgtr (a b):binK .gtr (.p (.s a)) (.p (.s b)) d K st=K (st.put d (.p (.b (!(slt a b || decide (a=b)))))):=by simp [binK,ebin,seqs,withV]
@[go_sem] theorem bk_sgeq (a b):binK .geq (.p (.s a)) (.p (.s b)) d K st=K (st.put d (.p (.b (!slt a b)))):=by simp [binK,ebin,seqs,withV]
@[go_sem] theorem eun_not (a):eun .not (.p (.b a))=some (.p (.b (!a))):=rfl
@[go_sem] theorem eun_neg (k a):eun .neg (.p (.i k a))=some (.p (.i k (wr k (0 - a)))):=rfl
@[go_sem] theorem pickV_b (c x y):pickV (.p (.b c)) x y=some (if c then x else y):=rfl
@[go_sem] theorem sqV_st (ne n xs ys):sqV ne n (.st xs) (.st ys)=if xs.length=n then (sqC xs ys).map fun b=>.p (.b (if ne then !b else b)) else none:=rfl
@[go_sem] theorem sqC_nil:sqC [] []=some true:=rfl
@[go_sem] theorem sqC_cons (k a b xs ys):sqC (.p (.i k a) :: xs) (.p (.i k b) :: ys)=(sqC xs ys).map (decide (a=b) && ·):=by simp [sqC]
@[go_sem] theorem nilqK_nl (ne):nilqK true ne (.p .nl) d K st=K (st.put d (.p (.b (!ne)))):=rfl
@[go_sem] theorem nilqK_l (ne xs):nilqK true ne (.p (.l xs)) d K st=(xs≠[]/\K (st.put d (.p (.b ne)))):=rfl
@[go_sem] theorem nilqK_gs (ne i v o n):nilqK true ne (.gs i v o n) d K ⟨L,T,H⟩=nilqR ne v d K ⟨L,T,H⟩ H[i]?:=rfl
@[go_sem] theorem nilqR_some (ne v sz v' rs):nilqR ne v d K st (some (.rows sz v' rs))=(v'=v/\0<rs.length/\K (st.put d (.p (.b ne)))):=rfl
@[go_sem] theorem nilqK_np (ne):nilqK false ne (.p .np) d K st=K (st.put d (.p (.b (!ne)))):=rfl
@[go_sem] theorem nilqK_ptr (ne i o):nilqK false ne (.ptr i o) d K st=K (st.put d (.p (.b ne))):=rfl
@[go_sem] theorem nilqK_ep (ne a b c e):nilqK false ne (.ep a b c e) d K st=K (st.put d (.p (.b ne))):=rfl
@[go_sem] theorem nilqK_ip (ne r):nilqK false ne (.ip r) d K st=K (st.put d (.p (.b ne))):=rfl
@[go_sem] theorem beqV_f (a b):beqV false (.p (.b a)) (.p (.b b))=some (.p (.b (a == b))):=rfl
@[go_sem] theorem beqV_t (a b):beqV true (.p (.b a)) (.p (.b b))=some (.p (.b (!(a == b)))):=rfl
@[go_sem] theorem mnxV_max (k a b):mnxV true (.p (.i k a)) (.p (.i k b))=some (.p (.i k (if b > a then b else a))):=by simp [mnxV]
@[go_sem] theorem mnxV_min (k a b):mnxV false (.p (.i k a)) (.p (.i k b))=some (.p (.i k (if b<a then b else a))):=by simp [mnxV]
@[go_sem] theorem convV_i (k k' a):convV k (.p (.i k' a))=some (.p (.i k (wr k a))):=rfl
@[go_sem] theorem extV_tup (n vs):extV n (.tup vs)=vs[n]?:=rfl
@[go_sem] theorem nilcV_ptr (i o):nilcV (.ptr i o)=some (.ptr i o):=rfl
@[go_sem] theorem nilcV_ep (i v r c):nilcV (.ep i v r c)=some (.ep i v r c):=rfl
@[go_sem] theorem nilcV_clo (f c):nilcV (.clo f c)=some (.clo f c):=rfl
@[go_sem] theorem fadV_ptr (n i o):fadV n (.ptr i o)=some (.ptr i (o+n)):=rfl
@[go_sem] theorem fadV_ep (n i v r c):fadV n (.ep i v r c)=some (.ep i v r (c+n)):=rfl
@[go_sem] theorem fadV_ip (n r):fadV n (.ip r)=some (.ip (r.drop n)):=rfl
@[go_sem] theorem ldV_one (n c cs):ldV false n (some (c :: cs))=some c:=rfl
@[go_sem] theorem ldV_agg (n cs):ldV true n (some cs)=(takeN n cs).map .st:=rfl
@[go_sem] theorem takeN_zero (cs):takeN 0 cs=some []:=rfl
@[go_sem] theorem takeN_succ (n c cs):takeN (n+1) (c :: cs)=(takeN n cs).map (c :: ·):=rfl
@[go_sem] theorem ldAt_ip (row):ldAt H (.ip row)=some (row.map .p):=rfl
def varDrop (off:Nat):Option AO->Option (List AV)
 | some (.var cs)=>some (cs.drop off)
 | _=>none
@[go_sem] theorem varDrop_some (off cs):varDrop off (some (.var cs))=some (cs.drop off):=rfl
@[go_sem] theorem ldAt_ptr (i o):ldAt H (.ptr i o)=varDrop o H[i]?:=by
 simp only [ldAt]; cases H[i]? with
 | none=>rfl
 | some o=>cases o <;> rfl
def rowDrop (ver row col:Nat):Option AO->Option (List AV)
 | some (.rows _ ver' rs)=>if ver=ver' then (rs[row]?).map (·.drop col) else none
 | _=>none
@[go_sem] theorem rowDrop_some (ver row col sz v rs):rowDrop ver row col (some (.rows sz v rs))=if ver=v then (rs[row]?).map (·.drop col) else none:=rfl
@[go_sem] theorem ldAt_ep (i v r c):ldAt H (.ep i v r c)=rowDrop v r c H[i]?:=by
 simp only [ldAt]; cases H[i]? with
 | none=>rfl
 | some o=>cases o <;> rfl
@[go_sem] theorem splice_nil (cs o):splice cs o []=some cs:=by cases o <;> cases cs <;> rfl
@[go_sem] theorem splice_zero (c cs u us):splice (c :: cs) 0 (u :: us)=(splice cs 0 us).map (u :: ·):=rfl
@[go_sem] theorem splice_succ (c cs o u us):splice (c :: cs) (o+1) (u :: us)=(splice cs o (u :: us)).map (c :: ·):=rfl
@[go_sem] theorem cells_st (cs):AV.cells (.st cs)=cs:=rfl
@[go_sem] theorem cells_p (x):AV.cells (.p x)=[.p x]:=rfl
@[go_sem] theorem cells_ptr (i o):AV.cells (.ptr i o)=[.ptr i o]:=rfl
@[go_sem] theorem cells_gs (i v o n):AV.cells (.gs i v o n)=[.gs i v o n]:=rfl
@[go_sem] theorem cells_clo (f c):AV.cells (.clo f c)=[.clo f c]:=rfl
@[go_sem] theorem allOne_st (cs):AV.allOne (.st cs)=true:=rfl
@[go_sem] theorem allOne_p (x):AV.allOne (.p x)=true:=rfl
@[go_sem] theorem allOne_ptr (i o):AV.allOne (.ptr i o)=true:=rfl
@[go_sem] theorem allOne_gs (i v o n):AV.allOne (.gs i v o n)=true:=rfl
@[go_sem] theorem allOne_clo (f c):AV.allOne (.clo f c)=true:=rfl
def stoV (H:List AO) (off id:Nat) (us:List AV):Option AO->Option (List AO)
 | some (.var cs)=>(splice cs off us).map fun cs'=>H.set id (.var cs')
 | _=>none
@[go_sem] theorem stoV_some (off id us cs):stoV H off id us (some (.var cs))=(splice cs off us).map fun cs'=>H.set id (.var cs'):=rfl
@[go_sem] theorem stoH_ptr (n i o v):stoH H n (.ptr i o) v=if v.allOne && v.cells.length == n then stoV H o i v.cells H[i]? else none:=by
 simp only [stoH]
 split
 ·cases H[i]? with
  | none=>rfl
  | some o=>cases o <;> rfl
 ·rfl
def stoR (H:List AO) (id ver row col:Nat) (us:List AV):Option AO->Option (List AO)
 | some (.rows sz ver' rs)=>if ver=ver' then
   match rs[row]? with
   | some r=>(splice r col us).map fun r'=>H.set id (.rows sz ver' (rs.set row r'))
   | none=>none
  else none
 | _=>none
@[go_sem] theorem stoH_ep (n i ver r c v):stoH H n (.ep i ver r c) v=if v.allOne && v.cells.length == n then stoR H i ver r c v.cells H[i]? else none:=by
 simp only [stoH]
 split
 ·cases H[i]? with
  | none=>rfl
  | some o=>cases o <;> rfl
 ·rfl
@[go_sem] theorem finK_nm (rs) (R:AV->List AO->Prop):finK rs R .nm st=retK rs R st:=rfl
@[go_sem] theorem finK_rt (rs) (R:AV->List AO->Prop):finK rs R .rt st=retK rs R st:=rfl
def outK (R:AV->List AO->Prop) (v:Option AV) (H:List AO):Prop :=
 match v with
 | some v=>R v H
 | none=>False
@[go_sem] theorem outK_some (R:AV->List AO->Prop) (v H):outK R (some v) H=R v H:=rfl
@[go_sem] theorem retK_eq (rs) (R:AV->List AO->Prop):retK rs R ⟨L,T,H⟩=outK R (retV ⟨L,T,H⟩ rs) H:=by
 simp only [retK]; cases retV ⟨L,T,H⟩ rs <;> rfl
@[go_sem] theorem retV_one (r):retV st [r]=resV st r:=rfl
@[go_sem] theorem retV_zero:retV st []=some (.tup []):=rfl
@[go_sem] theorem retV_two (r r' rs):retV st (r :: r' :: rs)=(resVs st (r :: r' :: rs)).map .tup:=rfl
def consO:Option AV->Option (List AV)->Option (List AV)
 | some v,some vs=>some (v :: vs)
 | _,_=>none
@[go_sem] theorem consO_some (v vs):consO (some v) (some vs)=some (v :: vs):=rfl
@[go_sem] theorem resVs_nil:resVs st []=some []:=rfl
@[go_sem] theorem resVs_cons (r rs):resVs st (r :: rs)=consO (resV st r) (resVs st rs):=by
 simp only [resVs]; cases resV st r <;> cases resVs st rs <;> rfl
@[go_sem] theorem resV_t (n):resV ⟨L,T,H⟩ (.t n)=some (eget L n):=rfl
def cellV (H:List AO) (agg:Bool) (n:Nat):AV->Option AV
 | .ptr id o=>ldV agg n (ldAt H (.ptr id o))
 | _=>none
@[go_sem] theorem cellV_ptr (g n i o):cellV H g n (.ptr i o)=ldV g n (ldAt H (.ptr i o)):=rfl
@[go_sem] theorem resV_cell (g n a):resV ⟨L,T,H⟩ (.cell g n a)=cellV H g n (eget L a):=by
 simp only [resV,cellV]
 try (split <;> rename_i h <;> simp [h])
attribute [go_sem] Option.map_some List.drop_zero List.drop_succ_cons List.length_cons List.length_nil List.getElem?_cons_zero List.getElem?_cons_succ List.set_cons_zero List.set_cons_succ List.append_nil List.nil_append List.cons_append List.map_cons List.map_nil List.head?_cons
theorem condK_split (t:Bool) (h1:t=true->A st) (h2:t=false->B st):condK (.p (.b t)) A B st:=by
 cases t
 ·exact ⟨(fun h=>by cases h),fun _=>h2 rfl⟩
 ·exact ⟨fun _=>h1 rfl,fun h=>(h rfl).elim⟩
end Go.AM
